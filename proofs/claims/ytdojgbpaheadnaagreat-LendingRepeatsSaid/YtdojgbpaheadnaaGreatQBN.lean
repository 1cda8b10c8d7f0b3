/- A broker in memory. -/
import Derived.Test.YtdojgbpaheadnaaGreatQBL
import Derived.Test.YtdojgbpaheadnaaGreatQA
set_option linter.unusedVariables false
set_option linter.unusedSimpArgs false

namespace Go.Proofs.YtdojgbpaheadnaaGreat
open Go.RowKit Go.Shelf Go.Maps Go.ChangeMaps

structure CsG where
 c : Cs
 k : Nat
 la : Option Addr
 lc : Nat
def RPt (v : Value) : Option (DataW Unit × List MemPlace) :=
 match v with
 | .pointer none => some (.lit (.int .i64 0), [])
 | .pointer (some ⟨g, 0, none⟩) => some (.lit (.int .i64 ((g : Int) + 1)), [])
 | _ => none
def ptV (k : Option Nat) : Value := match k with | none => .pointer none | some g => .pointer (some ⟨g, 0, none⟩)
def ptD (k : Option Nat) : DataW Unit := match k with | none => .lit (.int .i64 0) | some g => .lit (.int .i64 ((g : Int) + 1))
theorem RPt_mk (k : Option Nat) : RPt (ptV k) = some (ptD k, []) := by cases k <;> rfl
theorem RPt_inv {v : Value} {k : Option Nat} {ps : List MemPlace} (h : RPt v = some (ptD k, ps)) : v = ptV k := by
 unfold RPt at h
 split at h
 ·cases k with
  | none => rfl
  | some g =>
   simp only [Option.some.injEq, Prod.mk.injEq, ptD, DataW.lit.injEq, Lit.int.injEq, true_and] at h
   omega
 ·rename_i g
  cases k with
  | none =>
   simp only [Option.some.injEq, Prod.mk.injEq, ptD, DataW.lit.injEq, Lit.int.injEq, true_and] at h
   omega
  | some g' =>
   simp only [Option.some.injEq, Prod.mk.injEq, ptD, DataW.lit.injEq, Lit.int.injEq, true_and] at h
   obtain rfl : g = g' := by omega
   rfl
 ·cases h
def gcs (G : List CsG) (a r : Int) : Option CsG := G.find? fun x => csHit a r x.c
def FitB (f : Lit → Option (DataW Unit)) (G : List CsG) : Prop := ∀ a r, I64 a → I64 r → f (klD a r) = (gcs G a r).map fun x => ptD (some x.k)
theorem gcs_cs {G : List CsG} {L : List Cs} (h : L = G.map (·.c)) (a r : Int) : cs L a r = (gcs G a r).map (·.c) := by
 rw [h]
 unfold cs gcs
 rw [List.find?_map]; rfl
structure BMem (w : World) (B b : Nat) (s : Brk) (rv mv : Value) (G : List CsG) (o : Nat → Nat) (N : Nat) : Prop where
 blk : Blk w b #[i64 s.id, i64 s.sent, rv, mv] 58
 row : w.ownsRow B 3 1 rv s.rota.length (s.rota.map (Value.int .i64))
 gs : s.L = G.map (·.c)
 map : (mv = .map none ∧ G = []) ∨ ∃ mb n f, mv = .map (some mb) ∧ MapF w Tryz.prog 106 RPt mb n f ∧ FitB f G ∧ n ≤ N ∧ o mb = 2
 cases_ : ∀ g ∈ G, Blk w g.k #[i64 g.c.t, .slice g.la g.c.left.length g.lc, .bool g.c.g] 113 ∧ o g.k = 3 ∧ LeftAt w (fun h => o h = 4) g.la g.lc g.c.left
 apart : G.Pairwise fun x y => x.k ≠ y.k
 ob : o b = 1
 orow : ∀ k, rv.ownBlock = some k → o k = 5
 olt : ∀ k, o k ≠ 0 → B ≤ k ∧ k < w.heap.size
 inOrder : SortedC s.L
 sent : 0 ≤ s.sent ∧ s.sent ≤ 1000 * N
 ids : I64 s.id ∧ s.rota.length ≤ 1000 ∧ (∀ x ∈ s.rota, I64 x) ∧ ∀ c ∈ s.L, I64 c.a ∧ I64 c.r ∧ I64 c.t ∧ (∀ x ∈ c.left, I64 x) ∧ c.left.length ≤ 1000
 len : G.length ≤ N ∧ N ≤ 100000
theorem zeroP (w : World) : (zeroValue 111).run Tryz.prog w = .ok (.pointer none) w := by kernel_rfl
theorem LeftAt.keep {w w' : World} {F P Q : Nat → Prop} {la : Option Addr} {lc : Nat} {L : List Int} (h : LeftAt w P la lc L) (t : Tn F w w') (hF : ∀ k, P k → ¬ F k) (hQ : ∀ k, P k → k < w.heap.size → Q k) : LeftAt w' Q la lc L := by
 obtain ⟨h1, h2⟩ := h
 refine ⟨h1, ?_⟩
 rcases h2 with h2 | ⟨g, o, e, hP, hc⟩
 ·exact .inl h2
 ·rcases L with _ | ⟨x, L⟩
  ·exact .inl rfl
  ·exact .inr ⟨g, o, e, hQ g hP (cell_lt (hc 0 x rfl)), fun j u hu => t.cell (hc j u hu) (hF g hP)⟩
section
variable {w : World} {B b N : Nat} {s : Brk} {rv mv : Value} {G : List CsG} {o : Nat → Nat}
theorem BMem.keep {w' : World} {F : Nat → Prop} (h : BMem w B b s rv mv G o N) (t : Tn F w w') (hF : ∀ k, F k → o k = 0) : BMem w' B b s rv mv G o N where
 blk := t.blk h.blk fun hb => (by have := hF b hb; rw [h.ob] at this; cases this)
 row := t.row h.row fun k hk hb => (by have := hF k hb; rw [h.orow k hk] at this; cases this)
 gs := h.gs
 map := h.map.imp id fun ⟨mb, n, f, e, hm, h2, h3, h4⟩ => ⟨mb, n, f, e, hm.keep t (fun hb => (by have := hF mb hb; rw [h4] at this; cases this)), h2, h3, h4⟩
 cases_ := fun g hg => by
  obtain ⟨h1, h2, h3⟩ := h.cases_ g hg
  exact ⟨t.blk h1 (fun hb => (by have := hF _ hb; rw [h2] at this; cases this)), h2, h3.keep t (fun k hk hb => (by have := hF k hb; rw [hk] at this; cases this)) fun k hk _ => hk⟩
 apart := h.apart
 ob := h.ob
 orow := h.orow
 olt := fun k hk => ⟨(h.olt k hk).1, Nat.lt_of_lt_of_le (h.olt k hk).2 t.size⟩
 inOrder := h.inOrder
 sent := h.sent
 ids := h.ids
 len := h.len
theorem BMem.up {w' : World} (h : BMem w B b s rv mv G o N) (hb : Below w.heap.size w w') : BMem w' B b s rv mv G o N := h.keep (F := fun _ => False) (Tn.of_below hb) fun _ h => h.elim
theorem BMem.mono {N' : Nat} (h : BMem w B b s rv mv G o N) (hN : N ≤ N') (hN' : N' ≤ 100000) : BMem w B b s rv mv G o N' :=
 ⟨h.blk, h.row, h.gs, h.map.imp id fun ⟨mb, n, f, h1, h2, h3, h4, h5⟩ => ⟨mb, n, f, h1, h2, h3, by omega, h5⟩, h.cases_, h.apart, h.ob, h.orow, h.olt, h.inOrder, ⟨h.sent.1, by have := h.sent.2; omega⟩, h.ids, ⟨by have := h.len.1; omega, hN'⟩⟩
theorem BMem.look (h : BMem w B b s rv mv G o N) {a r : Int} (ha : I64 a) (hr : I64 r) :
  (Instr.lookup 56 mv (.agg #[i64 a, i64 r]) false).run Tryz.prog w = .ok (ptV ((gcs G a r).map (·.k))) w := by
 have e1 : ∀ q : Option CsG, (q.map fun x => ptD (some x.k)).getD (ptD none) = ptD (q.map (·.k)) := fun q => by cases q <;> rfl
 rcases h.map with ⟨rfl, rfl⟩ | ⟨mb, n, f, rfl, hm, hf, _⟩
 ·exact Maps.look_nil (w := w) false keyD Tryz.underlying56 (zeroP w) (keyOfD ha hr)
 ·obtain ⟨v, ps, hr1, hv1⟩ := hm.look keyD Tryz.underlying56 (zeroP w) (RPt_mk none) (keyOfD ha hr)
  rw [hf a r ha hr, e1] at hv1
  rw [RPt_inv hv1] at hr1
  exact hr1
theorem gcs_some {G : List CsG} {a r : Int} {x : CsG} (h : gcs G a r = some x) : x ∈ G ∧ x.c.a = a ∧ x.c.r = r := ⟨List.mem_of_find?_eq_some h, csHit_iff.1 (by simpa using List.find?_some h)⟩
end
end Go.Proofs.YtdojgbpaheadnaaGreat

/- How a broker's memory changes. -/
namespace Go.Proofs.YtdojgbpaheadnaaGreat
open Go.RowKit Go.Shelf Go.Maps Go.ChangeMaps

def insG (x : CsG) (G : List CsG) : List CsG := (G.takeWhile fun y => csLt x.c.a x.c.r y.c) ++ x :: G.dropWhile fun y => csLt x.c.a x.c.r y.c
def setG (x : CsG) (G : List CsG) : List CsG := G.map fun y => if csHit x.c.a x.c.r y.c then x else y
theorem insG_map (x : CsG) (G : List CsG) : (insG x G).map (·.c) = insC x.c (G.map (·.c)) := by
 unfold insG insC
 rw [List.map_append, List.map_cons, List.takeWhile_map, List.dropWhile_map]; rfl
theorem setG_map (x : CsG) (G : List CsG) : (setG x G).map (·.c) = setC x.c (G.map (·.c)) := by
 unfold setG setC
 rw [List.map_map, List.map_map]
 refine List.map_congr_left fun y _ => ?_
 show (if csHit x.c.a x.c.r y.c then x else y).c = if csHit x.c.a x.c.r y.c then x.c else y.c
 split <;> rfl
theorem insG_perm (x : CsG) (G : List CsG) : (insG x G).Perm (x :: G) := by
 have e : G = (G.takeWhile fun y => csLt x.c.a x.c.r y.c) ++ G.dropWhile fun y => csLt x.c.a x.c.r y.c := (List.takeWhile_append_dropWhile ..).symm
 unfold insG
 refine List.perm_middle.trans ?_
 rw [← e]
theorem insG_mem {x y : CsG} {G : List CsG} : y ∈ insG x G ↔ y = x ∨ y ∈ G := by rw [(insG_perm x G).mem_iff, List.mem_cons]
theorem gcs_app (L M : List CsG) (a r : Int) : gcs (L ++ M) a r = (gcs L a r).or (gcs M a r) := by unfold gcs; rw [List.find?_append]
theorem gcs_none {G : List CsG} {a r : Int} : gcs G a r = none ↔ ∀ x ∈ G, ¬ (x.c.a = a ∧ x.c.r = r) := by
 unfold gcs
 rw [List.find?_eq_none]
 constructor
 ·intro h c hc e; exact h c hc (csHit_iff.2 e)
 ·intro h c hc e; exact h c hc (csHit_iff.1 e)
theorem gcs_ins {G : List CsG} {x : CsG} (hn : gcs G x.c.a x.c.r = none) (a r : Int) : gcs (insG x G) a r = if a = x.c.a ∧ r = x.c.r then some x else gcs G a r := by
 have hx := gcs_none.1 hn
 have e : G = (G.takeWhile fun y => csLt x.c.a x.c.r y.c) ++ G.dropWhile fun y => csLt x.c.a x.c.r y.c := (List.takeWhile_append_dropWhile ..).symm
 unfold insG
 rw [gcs_app]
 by_cases hk : a = x.c.a ∧ r = x.c.r
 ·obtain ⟨rfl, rfl⟩ := hk
  rw [if_pos ⟨rfl, rfl⟩]
  have h1 : gcs (G.takeWhile fun y => csLt x.c.a x.c.r y.c) x.c.a x.c.r = none := gcs_none.2 fun y hy => hx y ((List.takeWhile_sublist _).subset hy)
  rw [h1]
  simp [gcs, csHit]
 ·rw [if_neg hk]
  conv => rhs; rw [e, gcs_app]
  congr 1
  unfold gcs
  rw [List.find?_cons, show csHit a r x.c = false by rw [Bool.eq_false_iff]; intro h; rw [csHit_iff] at h; omega]
theorem gcs_set (x : CsG) (a r : Int) : ∀ G : List CsG, gcs (setG x G) a r = (gcs G a r).map fun y => if csHit x.c.a x.c.r y.c then x else y
 | [] => rfl
 | y :: G => by
  have ih := gcs_set x a r G
  unfold gcs setG at ih ⊢
  rw [List.map_cons, List.find?_cons, List.find?_cons]
  have e : csHit a r (if csHit x.c.a x.c.r y.c then x else y).c = csHit a r y.c := by
   by_cases h : csHit x.c.a x.c.r y.c = true
   ·rw [if_pos h]; rw [csHit_iff] at h; unfold csHit; rw [h.1, h.2]
   ·rw [if_neg h]
  rw [e]
  cases csHit a r y.c with
  | true => rfl
  | false => exact ih
section
variable {w : World} {B b N : Nat} {s : Brk} {rv mv : Value} {G : List CsG} {o : Nat → Nat}
theorem BMem.gcs_eq (h : BMem w B b s rv mv G o N) (a r : Int) : cs s.L a r = (gcs G a r).map (·.c) := gcs_cs h.gs a r
set_option maxRecDepth 100000 in
theorem BMem.put {mb k lc B0 : Nat} {la : Option Addr} {c : Cs} (h : BMem w B b s rv (.map (some mb)) G o N) (hn : cs s.L c.a c.r = none) (hk : Blk w k #[i64 c.t, .slice la c.left.length lc, .bool false] 113) (hg : c.g = false)
  (hL : LeftAt w (fun x => o x = 0 ∧ x ≠ k ∧ B ≤ x ∧ B0 ≤ x) la lc c.left) (hok : o k = 0) (hBk : B ≤ k ∧ B0 ≤ k) (hc : I64 c.a ∧ I64 c.r ∧ I64 c.t ∧ (∀ x ∈ c.left, I64 x) ∧ c.left.length ≤ 1000) (hN : N < 100000) :
  ∃ w' o', (Instr.mapUpdate 56 (.map (some mb)) (.agg #[i64 c.a, i64 c.r]) (.pointer (some ⟨k, 0, none⟩))).run Tryz.prog w = .ok () w' ∧ BMem w' B b { s with L := insC c s.L } rv (.map (some mb)) (insG ⟨c, k, la, lc⟩ G) o' (N + 1) ∧ Tn (fun x => x = mb) w w' ∧ ∀ x, o' x ≠ 0 → o x ≠ 0 ∨ B0 ≤ x := by
 rcases h.map with ⟨e0, _⟩ | ⟨mb', n, f, e0, hm, hf, hn1, hne⟩
 ·cases e0
 ·injection e0 with e0; injection e0 with e0; subst e0
  have hgn : gcs G c.a c.r = none := by
   have := h.gcs_eq c.a c.r
   rw [hn] at this
   cases hq : gcs G c.a c.r with
   | none => rfl
   | some x => rw [hq] at this; cases this
  have hn2 : n < maxLen := Nat.lt_trans (show n < 100001 by omega) (by decide)
  obtain ⟨w', hr1, hm', hgr⟩ := hm.put keyD Tryz.underlying56 hn2 (keyOfD hc.1 hc.2.1) (RPt_mk (some k))
  have tt : Tn (fun x => x = mb) w w' := (Tn.of_grown hgr).mono fun b hb => by injection hb with hb; exact hb.symm
  -- the block of the lenders
  obtain ⟨lb, hlb⟩ : ∃ lb : Option Nat, ∀ x, lb = some x ↔ c.left ≠ [] ∧ ∃ o', la = some ⟨x, o', none⟩ := by
   rcases hL.2 with h0 | ⟨g, o', e, _⟩
   ·exact ⟨none, fun x => ⟨fun e => (by cases e), fun e => absurd h0 e.1⟩⟩
   ·by_cases h0 : c.left = []
    ·exact ⟨none, fun x => ⟨fun e => (by cases e), fun e => absurd h0 e.1⟩⟩
    ·refine ⟨some g, fun x => ⟨fun e' => ?_, fun ⟨_, o'', e'⟩ => ?_⟩⟩
     ·injection e' with e'; subst e'; exact ⟨h0, o', e⟩
     ·rw [e] at e'; injection e' with e'; injection e' with e'; rw [e']
  have hlz : ∀ x, lb = some x → (o x = 0 ∧ x ≠ k ∧ B ≤ x ∧ B0 ≤ x) ∧ x < w.heap.size := fun x hx => by
   obtain ⟨h0, o1, e1⟩ := (hlb x).1 hx
   rcases hL.2 with h2 | ⟨g, o', e, hP, hcl⟩
   ·exact absurd h2 h0
   ·rw [e] at e1; injection e1 with e1; injection e1 with e1; subst e1
    obtain ⟨y, l, hy⟩ := List.exists_cons_of_ne_nil h0
    exact ⟨hP, cell_lt (hcl 0 y (by rw [hy]; rfl))⟩
  have hkl := hk.lt
  refine ⟨w', fun x => if x = k then 3 else if lb = some x then 4 else o x, hr1, ?_, tt, fun x hx => ?_⟩
  ·have old : ∀ x, o x ≠ 0 → (if x = k then 3 else if lb = some x then 4 else o x) = o x := fun x hx => by
    rw [if_neg fun e => hx (by rw [e]; exact hok), if_neg fun e => hx (hlz x e).1.1]
   have hmb0 : o mb ≠ 0 := by rw [hne]; decide
   have hkm : k ≠ mb := fun e => hmb0 (by rw [← e]; exact hok)
   refine ⟨tt.blk h.blk fun e => ?_, tt.row h.row fun j hj e => ?_, ?_, .inr ⟨mb, n + 1, _, rfl, hm', ?_, by omega, by rw [old mb hmb0]; exact hne⟩, fun x hx => ?_, ?_, ?_, fun j hj => ?_, fun x hx => ?_, ins_sortedC h.inOrder hn, ⟨h.sent.1, ?_⟩, ⟨h.ids.1, h.ids.2.1, h.ids.2.2.1, fun y hy => ?_⟩, ⟨?_, by omega⟩⟩
   ·have h1 := h.ob; rw [e, hne] at h1; cases h1
   ·have h1 := h.orow j hj; rw [e, hne] at h1; cases h1
   ·show insC c s.L = (insG ⟨c, k, la, lc⟩ G).map (·.c)
    rw [insG_map, ← h.gs]
   ·intro a r ha hr
    rw [gcs_ins (x := ⟨c, k, la, lc⟩) hgn]
    unfold updL
    by_cases e : a = c.a ∧ r = c.r
    ·rw [if_pos e, e.1, e.2, if_pos rfl]; rfl
    ·rw [if_neg e, if_neg fun e' => e (klD_inj ha hr hc.1 hc.2.1 e'), hf a r ha hr]
   ·rcases insG_mem.1 hx with rfl | hx
    ·refine ⟨tt.blk (hk.cast (by dsimp only; rw [hg])) hkm, by dsimp only; rw [if_pos rfl], ?_⟩
     refine ⟨hL.1, ?_⟩
     by_cases h0 : c.left = []
     ·exact .inl h0
     rcases hL.2 with h2 | ⟨g, o', e, hP, hcl⟩
     ·exact absurd h2 h0
     ·refine .inr ⟨g, o', e, ?_, fun j u hu => tt.cell (hcl j u hu) fun e1 => hmb0 (by have := hP.1; rw [show mb = g from e1.symm]; exact this)⟩
      dsimp only
      rw [if_neg hP.2.1, if_pos ((hlb g).2 ⟨h0, o', e⟩)]
    ·obtain ⟨h1, h2, h3⟩ := h.cases_ x hx
     refine ⟨tt.blk h1 fun e => (by rw [e, hne] at h2; cases h2), by rw [old _ (by rw [h2]; decide)]; exact h2, h3.keep tt (fun y hy e => by rw [e, hne] at hy; cases hy) fun y hy _ => by rw [old y (by rw [hy]; decide)]; exact hy⟩
   ·refine (insG_perm _ G).symm.pairwise ?_ fun {x y} hxy => Ne.symm hxy
    rw [List.pairwise_cons]
    refine ⟨fun y hy e => ?_, h.apart⟩
    have := (h.cases_ y hy).2.1
    dsimp only at e
    rw [← e, hok] at this; cases this
   ·rw [old b (by rw [h.ob]; decide)]; exact h.ob
   ·rw [old j (by rw [h.orow j hj]; decide)]; exact h.orow j hj
   ·by_cases e1 : x = k
    ·subst e1; exact ⟨hBk.1, Nat.lt_of_lt_of_le hkl tt.size⟩
    ·by_cases e2 : lb = some x
     ·exact ⟨(hlz x e2).1.2.2.1, Nat.lt_of_lt_of_le (hlz x e2).2 tt.size⟩
     ·rw [if_neg e1, if_neg e2] at hx
      exact ⟨(h.olt x hx).1, Nat.lt_of_lt_of_le (h.olt x hx).2 tt.size⟩
   ·have := h.sent.2; show s.sent ≤ 1000 * ((N + 1 : Nat) : Int); omega
   ·rcases ins_memC.1 hy with rfl | hy
    ·exact hc
    ·exact h.ids.2.2.2 y hy
   ·have := (insG_perm ⟨c, k, la, lc⟩ G).length_eq; rw [this, List.length_cons]; have := h.len.1; omega
  ·by_cases e1 : x = k
   ·subst e1; exact .inr hBk.2
   ·by_cases e2 : lb = some x
    ·exact .inr (hlz x e2).1.2.2.2
    ·dsimp only at hx
     rw [if_neg e1, if_neg e2] at hx
     exact .inl hx
end
end Go.Proofs.YtdojgbpaheadnaaGreat

/- How a broker's cases change in memory. -/
namespace Go.Proofs.YtdojgbpaheadnaaGreat
open Go.RowKit Go.Shelf Go.Maps Go.ChangeMaps

theorem pw_inj {α β : Type} {f : α → β} : ∀ {G : List α} {x y : α}, G.Pairwise (fun x y => f x ≠ f y) → x ∈ G → y ∈ G → f x = f y → x = y
 | [], _, _, _, hx, _, _ => by cases hx
 | z :: G, x, y, h, hx, hy, e => by
  rw [List.pairwise_cons] at h
  rcases List.mem_cons.1 hx with hxz | hx'
  ·rcases List.mem_cons.1 hy with hyz | hy'
   ·rw [hxz, hyz]
   ·exact absurd (by rw [← hxz]; exact e) (h.1 y hy')
  ·rcases List.mem_cons.1 hy with hyz | hy'
   ·exact absurd (by rw [← hyz]; exact e.symm) (h.1 x hx')
   ·exact pw_inj h.2 hx' hy' e
section
variable {w : World} {B b N : Nat} {s : Brk} {rv mv : Value} {G : List CsG} {o : Nat → Nat}
theorem BMem.uniq (h : BMem w B b s rv mv G o N) {x y : CsG} (hx : x ∈ G) (hy : y ∈ G) (e : x.c.a = y.c.a ∧ x.c.r = y.c.r) : x = y := by
 refine pw_inj (f := fun z : CsG => (z.c.a, z.c.r)) ?_ hx hy (by show (x.c.a, x.c.r) = (y.c.a, y.c.r); rw [e.1, e.2])
 have := h.inOrder
 rw [h.gs] at this
 unfold SortedC at this
 rw [List.pairwise_map] at this
 refine this.imp fun {x y} hxy e => ?_
 unfold csBefore at hxy
 simp only [Prod.mk.injEq] at e
 omega
theorem BMem.change {x x' : CsG} {a r : Int} {i : Nat} {v : Value} (h : BMem w B b s rv mv G o N) (hx : gcs G a r = some x) (ha : x'.c.a = a ∧ x'.c.r = r) (hk : x'.k = x.k)
  (hb : #[i64 x.c.t, .slice x.la x.c.left.length x.lc, .bool x.c.g].setIfInBounds i v = #[i64 x'.c.t, .slice x'.la x'.c.left.length x'.lc, .bool x'.c.g]) (hL : LeftAt w (fun k => o k = 4) x'.la x'.lc x'.c.left)
  (hid : I64 x'.c.t ∧ (∀ y ∈ x'.c.left, I64 y) ∧ x'.c.left.length ≤ 1000) :
  BMem (w.setCell ⟨x.k, i, none⟩ v) B b { s with L := setC x'.c s.L } rv mv (setG x' G) o N ∧ Tn (fun k => k = x.k) w (w.setCell ⟨x.k, i, none⟩ v) := by
 obtain ⟨hxG, hxa, hxr⟩ := gcs_some hx
 obtain ⟨c1, c2, c3⟩ := h.cases_ x hxG
 have t : Tn (fun k => k = x.k) w (w.setCell ⟨x.k, i, none⟩ v) := (Tn.refl (fun k => k = x.k) w).setCell (p := ⟨x.k, i, none⟩) (.inl rfl) _
 have old : ∀ k, o k ≠ 3 → ¬ k = x.k := fun k hk e => hk (by rw [e]; exact c2)
 have hitx : ∀ y ∈ G, csHit x'.c.a x'.c.r y.c = true → y = x := fun y hy e => by
  rw [csHit_iff] at e
  exact h.uniq hy hxG ⟨by rw [e.1, ha.1, hxa], by rw [e.2, ha.2, hxr]⟩
 have mem : ∀ y ∈ setG x' G, y = x' ∨ (y ∈ G ∧ y ≠ x) := fun y hy => by
  unfold setG at hy
  obtain ⟨z, hz, rfl⟩ := List.mem_map.1 hy
  by_cases e : csHit x'.c.a x'.c.r z.c = true
  ·rw [if_pos e]; exact .inl rfl
  ·rw [if_neg e]
   refine .inr ⟨hz, fun e' => e ?_⟩
   rw [e', csHit_iff]
   exact ⟨by rw [hxa, ha.1], by rw [hxr, ha.2]⟩
 refine ⟨⟨t.blk h.blk (old b (by rw [h.ob]; decide)), t.row h.row fun k hk => old k (by rw [h.orow k hk]; decide), ?_, ?_, fun y hy => ?_, ?_, h.ob, h.orow, fun k hk => ⟨(h.olt k hk).1, Nat.lt_of_lt_of_le (h.olt k hk).2 t.size⟩, set_sortedC h.inOrder, h.sent, ⟨h.ids.1, h.ids.2.1, h.ids.2.2.1, fun c hc => ?_⟩, ⟨by unfold setG; rw [List.length_map]; exact h.len.1, h.len.2⟩⟩, t⟩
 ·show setC x'.c s.L = (setG x' G).map (·.c)
  rw [setG_map, ← h.gs]
 ·rcases h.map with ⟨e, hG⟩ | ⟨mb, n, f, e, hm, hf, hn, ho⟩
  ·exact .inl ⟨e, by rw [hG]; rfl⟩
  ·refine .inr ⟨mb, n, f, e, hm.keep t (old mb (by rw [ho]; decide)), fun a' r' ha' hr' => ?_, hn, ho⟩
   rw [hf a' r' ha' hr', gcs_set, Option.map_map]
   cases hq : gcs G a' r' with
   | none => rfl
   | some y =>
    simp only [Option.map_some, Function.comp, Option.some.injEq]
    by_cases e : csHit x'.c.a x'.c.r y.c = true
    ·rw [if_pos e, hitx y (gcs_some hq).1 e, hk]
    ·rw [if_neg e]
 ·rcases mem y hy with rfl | ⟨hyG, hne⟩
  ·refine ⟨by rw [hk]; exact ((c1.set i v).cast hb), by rw [hk]; exact c2, hL.keep t (fun k hk => old k (by rw [hk]; decide)) fun k hk _ => hk⟩
  ·obtain ⟨d1, d2, d3⟩ := h.cases_ y hyG
   exact ⟨t.blk d1 fun e => hne (pw_inj (f := CsG.k) h.apart hyG hxG e), d2, d3.keep t (fun k hk => old k (by rw [hk]; decide)) fun k hk _ => hk⟩
 ·unfold setG
  rw [List.pairwise_map]
  refine List.Pairwise.imp_of_mem (fun {y z} hy hz hyz => ?_) h.apart
  have e : ∀ y ∈ G, (if csHit x'.c.a x'.c.r y.c then x' else y).k = y.k := fun y hy => by
   by_cases e : csHit x'.c.a x'.c.r y.c = true
   ·rw [if_pos e, hitx y hy e, hk]
   ·rw [if_neg e]
  rw [e y hy, e z hz]; exact hyz
 ·rcases set_memC hc with rfl | hc
  ·have hc0 : x.c ∈ s.L := by rw [h.gs]; exact List.mem_map.2 ⟨x, hxG, rfl⟩
   have := h.ids.2.2.2 x.c hc0
   rw [ha.1, ha.2, ← hxa, ← hxr]
   exact ⟨this.1, this.2.1, hid.1, hid.2.1, hid.2.2⟩
  ·exact h.ids.2.2.2 c hc
theorem BMem.sent1 {w' : World} (h : BMem w B b s rv mv G o N) (hs : s.sent < 1000 * N) (hb : Below w.heap.size (w.setCell ⟨b, 1, none⟩ (i64 (s.sent + 1))) w') : BMem w' B b { s with sent := s.sent + 1 } rv mv G o N ∧ Tn (fun k => k = b) w w' := by
 have t1 : Tn (fun k => k = b) w (w.setCell ⟨b, 1, none⟩ (i64 (s.sent + 1))) := (Tn.refl (fun k => k = b) w).setCell (p := ⟨b, 1, none⟩) (.inl rfl) _
 have hz : (w.setCell ⟨b, 1, none⟩ (i64 (s.sent + 1))).heap.size = w.heap.size := by simp
 have t : Tn (fun k => k = b) w w' := t1.trans (Tn.of_below (by rw [hz]; exact hb))
 have old : ∀ k, o k ≠ 1 → ¬ k = b := fun k hk e => hk (by rw [e]; exact h.ob)
 exact ⟨⟨(((h.blk.set 1 (i64 (s.sent + 1))).below hb h.blk.lt).cast rfl), t.row h.row fun k hk => old k (by rw [h.orow k hk]; decide), h.gs, h.map.imp id fun ⟨mb, n, f, e, hm, hf, hn, ho⟩ => ⟨mb, n, f, e, hm.keep t (old mb (by rw [ho]; decide)), hf, hn, ho⟩,
  fun y hy => let ⟨d1, d2, d3⟩ := h.cases_ y hy; ⟨t.blk d1 (old _ (by rw [d2]; decide)), d2, d3.keep t (fun k hk => old k (by rw [hk]; decide)) fun k hk _ => hk⟩, h.apart, h.ob, h.orow, fun k hk => ⟨(h.olt k hk).1, Nat.lt_of_lt_of_le (h.olt k hk).2 t.size⟩, h.inOrder, ⟨by have := h.sent.1; show 0 ≤ s.sent + 1; omega, by show s.sent + 1 ≤ _; omega⟩, h.ids, h.len⟩, t⟩
theorem BMem.made {mb : Nat} (h : BMem w B b s rv (.map none) G o N) (hmb : mb = w.heap.size) (hB : B ≤ w.heap.size) :
  BMem ((w.alloc (.map #[] 0)).setCell ⟨b, 3, none⟩ (.map (some mb))) B b s rv (.map (some mb)) G (fun x => if x = mb then 2 else o x) N ∧ Tn (fun k => k = b) w ((w.alloc (.map #[] 0)).setCell ⟨b, 3, none⟩ (.map (some mb))) := by
 have hG : G = [] := by
  rcases h.map with ⟨_, e⟩ | ⟨mb', n, f, e, _⟩
  ·exact e
  ·cases e
 have u := h.up ((Below.refl w.heap.size w).alloc (Nat.le_refl _) (.map #[] 0))
 have t : Tn (fun k => k = b) (w.alloc (.map #[] 0)) ((w.alloc (.map #[] 0)).setCell ⟨b, 3, none⟩ (.map (some mb))) := (Tn.refl (fun k => k = b) _).setCell (p := ⟨b, 3, none⟩) (.inl rfl) _
 have hm := (MapF.new w Tryz.prog 106 RPt).keep t (fun e => by have := h.blk.lt; omega)
 rw [← hmb] at hm
 have old : ∀ k, k < w.heap.size → (if k = mb then 2 else o k) = o k := fun k hk => if_neg (by omega)
 refine ⟨⟨(u.blk.set 3 (.map (some mb))).cast rfl, t.row u.row fun k hk e => ?_, h.gs, .inr ⟨mb, 0, _, rfl, hm, fun a r _ _ => by rw [hG]; rfl, Nat.zero_le _, if_pos rfl⟩, fun y hy => (by rw [hG] at hy; cases hy), h.apart, (by show (if b = mb then 2 else o b) = 1; rw [old b h.blk.lt]; exact h.ob), fun k hk => (by show (if k = mb then 2 else o k) = 5; rw [old k (row_lt h.row k hk).2]; exact h.orow k hk), fun k hk => ?_, h.inOrder, h.sent, h.ids, h.len⟩, (Tn.of_below ((Below.refl w.heap.size w).alloc (Nat.le_refl _) _)).trans t⟩
 ·have h1 := h.orow k hk
  rw [show k = b from e, h.ob] at h1; cases h1
 ·have hz := t.size
  rw [size_alloc] at hz
  by_cases e : k = mb
  ·subst e; exact ⟨by omega, by omega⟩
  ·rw [if_neg e] at hk
   exact ⟨(h.olt k hk).1, by have := (h.olt k hk).2; omega⟩
end
end Go.Proofs.YtdojgbpaheadnaaGreat

/- What a broker says about a case. -/
namespace Go.Proofs.YtdojgbpaheadnaaGreat
open Go.RowKit Go.Shelf Go.Maps Go.ChangeMaps

def BTellE (B b N : Nat) (s : Brk) (rv mv : Value) (G : List CsG) (o : Nat → Nat) (c : Cs) (w : World) (e : Ending) (w' : World) : Prop :=
 ∃ v, e = .returned v ∧ MsgsAt w' w.heap.size v (s.tell c).2 ∧ BMem w' B b (s.tell c).1 rv mv G o N ∧ Tn (fun k => k = b) w w'
theorem btell_send {B b N : Nat} {s : Brk} {rv mv : Value} {G : List CsG} {o : Nat → Nat} {c : Cs} {to k v : Int} {w w7 w' : World} {e : Ending} (hT : s.tell c = ({ s with sent := s.sent + 1 }, [mesg s.id s.sent to k c.a c.r v])) (M : BMem w7 B b s rv mv G o N) (hs : s.sent < 1000 * N) (T : Below w.heap.size w w7)
  (hS : SendE b s.id s.sent to k c.a c.r v w7 e w') : BTellE B b N s rv mv G o c w e w' := by
 obtain ⟨g, rfl, hg, hM, hb⟩ := hS
 obtain ⟨M8, T8⟩ := M.sent1 hs hb
 exact ⟨_, rfl, by rw [hT]; exact ⟨g, Nat.le_trans T.size hg, rfl, hM⟩, by rw [hT]; exact M8, (Tn.of_below T).trans T8⟩
set_option maxRecDepth 100000 in
set_option maxHeartbeats 4000000 in
theorem bTell_any (B b N : Nat) (s : Brk) (rv mv : Value) (G : List CsG) (o : Nat → Nat) (x : CsG) (a r : Int) (w : World) (h : BMem w B b s rv mv G o N) (hx : gcs G a r = some x) (hs : s.sent < 1000 * N) :
  Calls Tryz.prog 54 #[.pointer (some ⟨b, 0, none⟩), .agg #[i64 a, i64 r]] w (BTellE B b N s rv mv G o x.c w) := by
 obtain ⟨hxG, hxa, hxr⟩ := gcs_some hx
 obtain ⟨⟨ca, cr, ct, left, gr⟩, xk, la, lc⟩ := x
 dsimp only at hxa hxr
 subst hxa hxr
 have hcL : (⟨ca, cr, ct, left, gr⟩ : Cs) ∈ s.L := by rw [h.gs]; exact List.mem_map.2 ⟨_, hxG, rfl⟩
 have HI := Lib.hid (h.ids.2.2.2 _ hcL)
 have H := Lib.hid h
 have HS := Lib.hid hs
 have HSN : Hid (0 ≤ s.sent ∧ s.sent < 1000000000) := Lib.hid ⟨h.sent.1, by have := h.len.2; omega⟩
 have HX := Lib.hid hx
 have hbl := h.blk.lt
 obtain ⟨mvo, hmv⟩ : ∃ mvo, mv = .map mvo := by
  rcases h.map with ⟨e, _⟩ | ⟨mb, _, _, e, _⟩
  ·exact ⟨_, e⟩
  ·exact ⟨_, e⟩
 subst hmv
 have CG := Lib.hid (h.cases_ _ hxG)
 clear h hx hs hxG hcL
 go_enter Tryz.func54, Tryz.ntmps54
 go_wp2_with fail
 obtain ⟨db, hdb⟩ : ∃ db, db = w.heap.size := ⟨_, rfl⟩
 obtain ⟨w1, hw1⟩ : ∃ w1, w1 = w.alloc (.cells #[i64 ca, i64 cr] 106) := ⟨_, rfl⟩
 have D1 : Hid (Blk w1 db #[i64 ca, i64 cr] 106) := Lib.hid (by rw [hw1, hdb]; exact Blk.new _ _ _)
 have B1 : Hid (Below w.heap.size w w1) := Lib.hid (by rw [hw1]; exact (Below.refl _ _).alloc (Nat.le_refl _) _)
 have M1 := Lib.hid (H.out.up B1.out)
 rw [← hw1, ← hdb]
 clear hw1 hdb
 obtain ⟨S, hS⟩ : ∃ S : World → Prop, S = fun W => ∃ n, W = w1.drewN n := ⟨_, rfl⟩
 have LD : Hid (∀ W, S W → W.cell? ⟨b, 3, none⟩ = some (.map mvo) ∧ (Instr.lookup 56 (.map mvo) (.agg #[i64 ca, i64 cr]) false).run Tryz.prog W = .ok (.pointer (some ⟨xk, 0, none⟩)) W) := Lib.hid (by
  rw [hS]; rintro W ⟨n, rfl⟩
  have hl := (M1.out.up (bdrewN (Below.refl _ _) n)).look HI.out.1 HI.out.2.1
  rw [HX.out] at hl
  exact ⟨M1.out.blk.cell 3, hl⟩)
 have LB : Hid (∀ W, S W → Blk W db #[i64 ca, i64 cr] 106) := Lib.hid (by rw [hS]; rintro W ⟨n, rfl⟩; exact D1.out.drewN n)
 have SS : Hid (∀ W, S W → ∃ n, W = w1.drewN n) := Lib.hid (by rw [hS]; exact fun W h => h)
 have hHeld : S w1.drew := by rw [hS]; exact ⟨1, rfl⟩
 clear hS
 refine wp_region_held_drew (S := S) (by kernel_rfl) hHeld (fun _ => ?_)
 apply wpAnyH_apart S
 case take =>
  intro R hR
  refine tk 0 (v := ?_) rfl hHeld ?_ ?_; rotate_left
  ·(intro w hSw; have l0 := (LD.out w hSw).1; go_simp; try (with_reducible rfl))
  try simp only [gZ]
  refine tk 1 (v := ?_) rfl hHeld ?_ ?_; rotate_left
  ·(intro w hSw; have l0 := (LD.out w hSw).1; go_simp; try (with_reducible rfl))
  try simp only [gZ]
  refine tk 2 (v := ?_) rfl hHeld ?_ ?_; rotate_left
  ·(intro w hSw; have l0 := (LD.out w hSw).1; go_simp; try (with_reducible rfl))
  try simp only [gZ]
  refine tk 3 (v := ?_) rfl hHeld ?_ ?_; rotate_left
  ·(intro w hSw; have l0 := (LD.out w hSw).1; go_simp; try (with_reducible rfl))
  try simp only [gZ]
  refine wpAnyH_take (i := 4) (v := .agg #[i64 ca, i64 cr]) rfl (by kernel_rfl) (by kernel_rfl) (by kernel_rfl) (fun _ _ _ h => only_panic h) ?_ hHeld ?_
  ·exact yields_row (.tmp 3) (by rfl) rfl rfl LB.out Tryz.underlying106 rfl (by kernel_rfl)
  try simp only [gZ]
  refine tk 5 (v := ?_) rfl hHeld ?_ ?_; rotate_left
  ·(intro w hSw; have l0 := (LD.out w hSw).2; go_simp; try (with_reducible rfl))
  try simp only [gZ]
  refine tk 6 (v := ?_) rfl hHeld ?_ ?_; rotate_left
  ·(intro w hSw; clear hSw; go_simp; try (with_reducible rfl))
  try simp only [gZ]
  exact wpAnyH_done (by kernel_rfl) ⟨rfl, hR _ hHeld⟩ _
 intro w2 hW
 obtain ⟨n2, hn2⟩ := SS.out w2 hW
 have M2 : Hid (BMem w2 B b s rv (.map mvo) G o N) := Lib.hid (hn2 ▸ M1.out.up (bdrewN (Below.refl _ _) n2))
 have B2 : Hid (Below w.heap.size w w2) := Lib.hid (hn2 ▸ bdrewN B1.out n2)
 have D2 : Hid (Blk w2 db #[i64 ca, i64 cr] 106) := Lib.hid (hn2 ▸ D1.out.drewN n2)
 clear hn2 hW SS LD LB hHeld M1 B1 D1
 obtain ⟨d1, d2, d3⟩ := M2.out.cases_ _ (gcs_some HX.out).1
 dsimp only at d1 d2 d3
 have x0 : w2.cell? ⟨xk, 0, none⟩ = some (i64 ct) := d1.cell 0
 have x1 : w2.cell? ⟨xk, 1, none⟩ = some (.slice la left.length lc) := d1.cell 1
 have x2 : w2.cell? ⟨xk, 2, none⟩ = some (.bool gr) := d1.cell 2
 obtain ⟨⟨l1, l2⟩, l3⟩ := d3
 have X3 := Lib.hid l3
 clear l3 d1 d2
 obtain ⟨S, hS⟩ : ∃ S : World → Prop, S = fun W => ∃ n, W = w2.drewN n := ⟨_, rfl⟩
 have SS : Hid (∀ W, S W → ∃ n, W = w2.drewN n) := Lib.hid (by rw [hS]; exact fun W h => h)
 have LB : Hid (∀ W, S W → Blk W db #[i64 ca, i64 cr] 106) := Lib.hid (by rw [hS]; rintro W ⟨n, rfl⟩; exact D2.out.drewN n)
 have hHeld : S w2.drew := by rw [hS]; exact ⟨1, rfl⟩
 rcases left with _ | ⟨y, rest⟩
 ·have HT : Hid (s.tell ⟨ca, cr, ct, [], gr⟩ = ({ s with sent := s.sent + 1 }, [mesg s.id s.sent ca 6 ca cr 0])) := Lib.hid rfl
  have LD : Hid (∀ W, S W → W.cell? ⟨db, 0, none⟩ = some (i64 ca)) := Lib.hid (by rw [hS]; rintro W ⟨n, rfl⟩; exact D2.out.cell 0)
  clear hS
  go_wp2_with fail
  refine wp_region_sp 6 S (by kernel_rfl) (by kernel_rfl) ?_
  simp only [List.take_succ_cons, List.take_zero]
  apply wpAnyH_apart S
  case take =>
   intro R hR
   refine tk 0 (v := ?_) rfl hHeld ?_ ?_; rotate_left
   ·(intro w hSw; have l0 := LD.out w hSw; go_simp; try (with_reducible rfl))
   try simp only [gZ]
   refine tk 1 (v := ?_) rfl hHeld ?_ ?_; rotate_left
   ·(intro w hSw; have l0 := LD.out w hSw; go_simp; try (with_reducible rfl))
   try simp only [gZ]
   refine tk 2 (v := ?_) rfl hHeld ?_ ?_; rotate_left
   ·(intro w hSw; have l0 := LD.out w hSw; go_simp; try (with_reducible rfl))
   try simp only [gZ]
   refine tk 3 (v := ?_) rfl hHeld ?_ ?_; rotate_left
   ·(intro w hSw; have l0 := LD.out w hSw; go_simp; try (with_reducible rfl))
   try simp only [gZ]
   refine tk 4 (v := ?_) rfl hHeld ?_ ?_; rotate_left
   ·(intro w hSw; have l0 := LD.out w hSw; go_simp; try (with_reducible rfl))
   try simp only [gZ]
   refine wpAnyH_take (i := 5) (v := .agg #[i64 ca, i64 cr]) rfl (by kernel_rfl) (by kernel_rfl) (by kernel_rfl) (fun _ _ _ h => only_panic h) ?_ hHeld ?_
   ·exact yields_row (.tmp 3) (by rfl) rfl rfl LB.out Tryz.underlying106 rfl (by kernel_rfl)
   try simp only [gZ]
   exact wpAnyH_done (by kernel_rfl) ⟨rfl, hR _ hHeld⟩ _
  intro W hW
  obtain ⟨n8, rfl⟩ := SS.out W hW
  simp only [endN, List.drop_succ_cons, List.drop_zero, Act.put, List.setIfInBounds_toArray, List.set_cons_zero, List.set_cons_succ]
  have M8 := Lib.hid (M2.out.up (bdrewN (Below.refl _ _) n8))
  have B8 : Hid (Below w.heap.size w (w2.drewN n8)) := Lib.hid (bdrewN B2.out n8)
  have RS := Lib.hid (send_any b s.id s.sent ca 6 ca cr 0 (w2.drewN n8) (M8.out.blk.cell 0) (M8.out.blk.cell 1) (M8.out.blk.frozen 1) HSN.out ⟨by omega, by omega⟩ HI.out.1 HI.out.2.1 ⟨by omega, by omega⟩)
  clear hHeld hW SS LD LB S
  go_wp2_with fail
  refine RS.out.mono ?_
  rintro e w9 hS9
  have F : Hid (BTellE B b N s rv (.map mvo) G o ⟨ca, cr, ct, [], gr⟩ w e w9) := Lib.hid (btell_send HT.out M8.out HS.out B8.out hS9)
  obtain ⟨g9, rfl, -⟩ := hS9
  go_wp2_with fail
  go_ret
  exact F.out
 ·obtain ⟨h, o1, rfl, hP, hcl⟩ := X3.out.resolve_left (by simp)
  have hy0 : w2.cell? ⟨h, o1, none⟩ = some (i64 y) := hcl 0 y rfl
  have HY0 := Lib.hid hy0
  have HY : Hid (I64 y) := Lib.hid (HI.out.2.2.2.1 y (by simp))
  have hln : (y :: rest).length = rest.length + 1 := rfl
  rw [hln] at x1 l1
  clear hcl hy0 hP
  cases gr with
  | true =>
   have HT : Hid (s.tell ⟨ca, cr, ct, y :: rest, true⟩ = ({ s with sent := s.sent + 1 }, [mesg s.id s.sent ca 5 ca cr y])) := Lib.hid rfl
   have LD : Hid (∀ W, S W → W.cell? ⟨db, 0, none⟩ = some (i64 ca) ∧ W.cell? ⟨xk, 1, none⟩ = some (.slice (some ⟨h, o1, none⟩) (rest.length + 1) lc) ∧ W.cell? ⟨h, o1, none⟩ = some (i64 y)) := Lib.hid (by rw [hS]; rintro W ⟨n, rfl⟩; exact ⟨D2.out.cell 0, x1, HY0.out⟩)
   clear hS
   go_wp2_with fail
   refine wp_region_sp 12 S (by kernel_rfl) (by kernel_rfl) ?_
   simp only [List.take_succ_cons, List.take_zero]
   apply wpAnyH_apart S
   case take =>
    intro R hR
    refine tk 0 (v := ?_) rfl hHeld ?_ ?_; rotate_left
    ·(intro w hSw; obtain ⟨l0, -, -⟩ := LD.out w hSw; go_simp; try (with_reducible rfl))
    try simp only [gZ]
    refine tk 1 (v := ?_) rfl hHeld ?_ ?_; rotate_left
    ·(intro w hSw; obtain ⟨l0, -, -⟩ := LD.out w hSw; go_simp; try (with_reducible rfl))
    try simp only [gZ]
    refine tk 2 (v := ?_) rfl hHeld ?_ ?_; rotate_left
    ·(intro w hSw; obtain ⟨l0, -, -⟩ := LD.out w hSw; go_simp; try (with_reducible rfl))
    try simp only [gZ]
    refine tk 3 (v := ?_) rfl hHeld ?_ ?_; rotate_left
    ·(intro w hSw; obtain ⟨l0, -, -⟩ := LD.out w hSw; go_simp; try (with_reducible rfl))
    try simp only [gZ]
    refine tk 4 (v := ?_) rfl hHeld ?_ ?_; rotate_left
    ·(intro w hSw; obtain ⟨l0, -, -⟩ := LD.out w hSw; go_simp; try (with_reducible rfl))
    try simp only [gZ]
    refine wpAnyH_take (i := 5) (v := .agg #[i64 ca, i64 cr]) rfl (by kernel_rfl) (by kernel_rfl) (by kernel_rfl) (fun _ _ _ h => only_panic h) ?_ hHeld ?_
    ·exact yields_row (.tmp 3) (by rfl) rfl rfl LB.out Tryz.underlying106 rfl (by kernel_rfl)
    try simp only [gZ]
    refine tk 6 (v := ?_) rfl hHeld ?_ ?_; rotate_left
    ·(intro w hSw; obtain ⟨l0, l1, l2⟩ := LD.out w hSw; go_simp; try (with_reducible rfl))
    try simp only [gZ]
    refine tk 7 (v := ?_) rfl hHeld ?_ ?_; rotate_left
    ·(intro w hSw; obtain ⟨l0, l1, l2⟩ := LD.out w hSw; go_simp; try (with_reducible rfl))
    try simp only [gZ]
    refine tk 8 (v := ?_) rfl hHeld ?_ ?_; rotate_left
    ·(intro w hSw; obtain ⟨l0, l1, l2⟩ := LD.out w hSw; go_simp; try (with_reducible rfl))
    try simp only [gZ]
    refine tk 9 (v := ?_) rfl hHeld ?_ ?_; rotate_left
    ·(intro w hSw; obtain ⟨l0, l1, l2⟩ := LD.out w hSw; go_simp; try (with_reducible rfl))
    try simp only [gZ]
    refine tk 10 (v := ?_) rfl hHeld ?_ ?_; rotate_left
    ·(intro w hSw; obtain ⟨l0, l1, l2⟩ := LD.out w hSw; go_simp; try (with_reducible rfl))
    try simp only [gZ]
    refine tk 11 (v := ?_) rfl hHeld ?_ ?_; rotate_left
    ·(intro w hSw; obtain ⟨l0, l1, l2⟩ := LD.out w hSw; go_simp; try (with_reducible rfl))
    try simp only [gZ]
    exact wpAnyH_done (by kernel_rfl) ⟨rfl, hR _ hHeld⟩ _
   intro W hW
   obtain ⟨n8, rfl⟩ := SS.out W hW
   simp only [endN, List.drop_succ_cons, List.drop_zero, Act.put, List.setIfInBounds_toArray, List.set_cons_zero, List.set_cons_succ]
   have M8 := Lib.hid (M2.out.up (bdrewN (Below.refl _ _) n8))
   have B8 : Hid (Below w.heap.size w (w2.drewN n8)) := Lib.hid (bdrewN B2.out n8)
   have RS := Lib.hid (send_any b s.id s.sent ca 5 ca cr y (w2.drewN n8) (M8.out.blk.cell 0) (M8.out.blk.cell 1) (M8.out.blk.frozen 1) HSN.out ⟨by omega, by omega⟩ HI.out.1 HI.out.2.1 HY.out)
   clear hHeld hW SS LD LB S
   go_wp2_with fail
   refine RS.out.mono ?_
   rintro e w9 hS9
   have F : Hid (BTellE B b N s rv (.map mvo) G o ⟨ca, cr, ct, (List.cons y rest), true⟩ w e w9) := Lib.hid (btell_send HT.out M8.out HS.out B8.out hS9)
   obtain ⟨g9, rfl, -⟩ := hS9
   go_wp2_with fail
   go_ret
   exact F.out
  | false =>
   have HT : Hid (s.tell ⟨ca, cr, ct, y :: rest, false⟩ = ({ s with sent := s.sent + 1 }, [mesg s.id s.sent y 2 ca cr ct])) := Lib.hid rfl
   have LD : Hid (∀ W, S W → W.cell? ⟨xk, 0, none⟩ = some (i64 ct) ∧ W.cell? ⟨xk, 1, none⟩ = some (.slice (some ⟨h, o1, none⟩) (rest.length + 1) lc) ∧ W.cell? ⟨h, o1, none⟩ = some (i64 y)) := Lib.hid (by rw [hS]; rintro W ⟨n, rfl⟩; exact ⟨x0, x1, HY0.out⟩)
   clear hS
   go_wp2_with fail
   refine wp_region_sp 14 S (by kernel_rfl) (by kernel_rfl) ?_
   simp only [List.take_succ_cons, List.take_zero]
   apply wpAnyH_apart S
   case take =>
    intro R hR
    refine tk 0 (v := ?_) rfl hHeld ?_ ?_; rotate_left
    ·(intro w hSw; obtain ⟨l0, l1, l2⟩ := LD.out w hSw; go_simp; try (with_reducible rfl))
    try simp only [gZ]
    refine tk 1 (v := ?_) rfl hHeld ?_ ?_; rotate_left
    ·(intro w hSw; obtain ⟨l0, l1, l2⟩ := LD.out w hSw; go_simp; try (with_reducible rfl))
    try simp only [gZ]
    refine tk 2 (v := ?_) rfl hHeld ?_ ?_; rotate_left
    ·(intro w hSw; obtain ⟨l0, l1, l2⟩ := LD.out w hSw; go_simp; try (with_reducible rfl))
    try simp only [gZ]
    refine tk 3 (v := ?_) rfl hHeld ?_ ?_; rotate_left
    ·(intro w hSw; obtain ⟨l0, l1, l2⟩ := LD.out w hSw; go_simp; try (with_reducible rfl))
    try simp only [gZ]
    refine tk 4 (v := ?_) rfl hHeld ?_ ?_; rotate_left
    ·(intro w hSw; obtain ⟨l0, l1, l2⟩ := LD.out w hSw; go_simp; try (with_reducible rfl))
    try simp only [gZ]
    refine tk 5 (v := ?_) rfl hHeld ?_ ?_; rotate_left
    ·(intro w hSw; obtain ⟨l0, l1, l2⟩ := LD.out w hSw; go_simp; try (with_reducible rfl))
    try simp only [gZ]
    refine tk 6 (v := ?_) rfl hHeld ?_ ?_; rotate_left
    ·(intro w hSw; obtain ⟨l0, l1, l2⟩ := LD.out w hSw; go_simp; try (with_reducible rfl))
    try simp only [gZ]
    refine tk 7 (v := ?_) rfl hHeld ?_ ?_; rotate_left
    ·(intro w hSw; obtain ⟨l0, l1, l2⟩ := LD.out w hSw; go_simp; try (with_reducible rfl))
    try simp only [gZ]
    refine tk 8 (v := ?_) rfl hHeld ?_ ?_; rotate_left
    ·(intro w hSw; obtain ⟨l0, l1, l2⟩ := LD.out w hSw; go_simp; try (with_reducible rfl))
    try simp only [gZ]
    refine wpAnyH_take (i := 9) (v := .agg #[i64 ca, i64 cr]) rfl (by kernel_rfl) (by kernel_rfl) (by kernel_rfl) (fun _ _ _ h => only_panic h) ?_ hHeld ?_
    ·exact yields_row (.tmp 3) (by rfl) rfl rfl LB.out Tryz.underlying106 rfl (by kernel_rfl)
    try simp only [gZ]
    refine tk 10 (v := ?_) rfl hHeld ?_ ?_; rotate_left
    ·(intro w hSw; obtain ⟨l0, l1, l2⟩ := LD.out w hSw; go_simp; try (with_reducible rfl))
    try simp only [gZ]
    refine tk 11 (v := ?_) rfl hHeld ?_ ?_; rotate_left
    ·(intro w hSw; obtain ⟨l0, l1, l2⟩ := LD.out w hSw; go_simp; try (with_reducible rfl))
    try simp only [gZ]
    refine tk 12 (v := ?_) rfl hHeld ?_ ?_; rotate_left
    ·(intro w hSw; obtain ⟨l0, l1, l2⟩ := LD.out w hSw; go_simp; try (with_reducible rfl))
    try simp only [gZ]
    refine tk 13 (v := ?_) rfl hHeld ?_ ?_; rotate_left
    ·(intro w hSw; obtain ⟨l0, l1, l2⟩ := LD.out w hSw; go_simp; try (with_reducible rfl))
    try simp only [gZ]
    exact wpAnyH_done (by kernel_rfl) ⟨rfl, hR _ hHeld⟩ _
   intro W hW
   obtain ⟨n8, rfl⟩ := SS.out W hW
   simp only [endN, List.drop_succ_cons, List.drop_zero, Act.put, List.setIfInBounds_toArray, List.set_cons_zero, List.set_cons_succ]
   have M8 := Lib.hid (M2.out.up (bdrewN (Below.refl _ _) n8))
   have B8 : Hid (Below w.heap.size w (w2.drewN n8)) := Lib.hid (bdrewN B2.out n8)
   have RS := Lib.hid (send_any b s.id s.sent y 2 ca cr ct (w2.drewN n8) (M8.out.blk.cell 0) (M8.out.blk.cell 1) (M8.out.blk.frozen 1) HSN.out ⟨by omega, by omega⟩ HI.out.1 HI.out.2.1 HI.out.2.2.1)
   clear hHeld hW SS LD LB S
   go_wp2_with fail
   refine RS.out.mono ?_
   rintro e w9 hS9
   have F : Hid (BTellE B b N s rv (.map mvo) G o ⟨ca, cr, ct, (List.cons y rest), false⟩ w e w9) := Lib.hid (btell_send HT.out M8.out HS.out B8.out hS9)
   obtain ⟨g9, rfl, -⟩ := hS9
   go_wp2_with fail
   go_ret
   exact F.out
end Go.Proofs.YtdojgbpaheadnaaGreat
