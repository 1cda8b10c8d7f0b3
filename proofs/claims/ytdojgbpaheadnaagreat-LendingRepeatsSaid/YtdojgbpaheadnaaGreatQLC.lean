/- A lender in memory. -/
import Derived.Test.YtdojgbpaheadnaaGreatQTN
import Derived.Test.YtdojgbpaheadnaaGreatQS
import Derived.Test.YtdojgbpaheadnaaGreatQLB
set_option linter.unusedVariables false
set_option linter.unusedSimpArgs false

namespace Go.Proofs.YtdojgbpaheadnaaGreat
open Go.RowKit Go.Shelf Go.Maps Go.ChangeMaps

def loanD (t k : Int) : DataW Unit := .agg [.lit (.int .i64 t), .lit (.int .i64 k)]
def loanV (t k : Int) : Value := .agg #[i64 t, i64 k]
def RL (v : Value) : Option (DataW Unit × List MemPlace) :=
 match v with
 | .agg ⟨[.int .i64 t, .int .i64 k]⟩ => some (loanD t k, [])
 | _ => none
theorem RL_mk (t k : Int) : RL (loanV t k) = some (loanD t k, []) := rfl
theorem RL_inv {v : Value} {t k : Int} {ps : List MemPlace} (h : RL v = some (loanD t k, ps)) : v = loanV t k := by
 unfold RL at h
 split at h
 ·rename_i t' k'
  simp only [Option.some.injEq, Prod.mk.injEq, loanD] at h
  obtain ⟨h, _⟩ := h
  injection h with h
  injection h with h1 h2
  injection h1 with h1
  injection h1 with _ h1
  injection h2 with h2 _
  injection h2 with h2
  injection h2 with _ h2
  subst h1 h2; rfl
 ·cases h
def FitL (f : Lit → Option (DataW Unit)) (L : List Deal) : Prop := ∀ a r, I64 a → I64 r → f (klD a r) = (at_ L a r).map fun d => loanD d.t (kd d.st)
structure LMem (w : World) (B b : Nat) (s : Len) (hv mv : Value) (e : Nat) : Prop where
 blk : Blk w b #[i64 s.id, i64 s.sent, hv, mv] 61
 row : w.ownsRow B 3 1 hv s.here.length (s.here.map (Value.int .i64))
 inOrder : s.here.Pairwise (· ≤ ·)
 map : (mv = .map none ∧ s.L = []) ∨ ∃ mb n f, mv = .map (some mb) ∧ MapF w Tryz.prog 106 RL mb n f ∧ FitL f s.L ∧ (n : Int) ≤ 2 * s.sent + e ∧ mb ≠ b ∧ B ≤ mb ∧ hv.ownBlock ≠ some mb
 ne : hv.ownBlock ≠ some b
 lo : B ≤ b
 sent : 0 ≤ s.sent
 len : (s.here.length : Int) ≤ 1000 + 2 * s.sent + e
 ids : I64 s.id ∧ ∀ d ∈ s.L, I64 d.a ∧ I64 d.r ∧ I64 d.t ∧ 1 ≤ d.st ∧ d.st ≤ 5
def OwnL (b : Nat) (hv mv : Value) (k : Nat) : Prop := k = b ∨ hv.ownBlock = some k ∨ mv = .map (some k)
theorem zeroL (w : World) : (zeroValue 145).run Tryz.prog w = .ok (loanV 0 0) w := by kernel_rfl
def atV (L : List Deal) (a r : Int) : Value := match at_ L a r with | some d => loanV d.t (kd d.st) | none => loanV 0 0
theorem atD (L : List Deal) (a r : Int) : ∃ t k, ((at_ L a r).map fun d => loanD d.t (kd d.st)).getD (loanD 0 0) = loanD t k ∧ atV L a r = loanV t k := by
 unfold atV
 cases at_ L a r with
 | none => exact ⟨0, 0, rfl, rfl⟩
 | some d => exact ⟨d.t, kd d.st, rfl, rfl⟩
section
variable {w : World} {B b e : Nat} {s : Len} {hv mv : Value}
theorem LMem.look (h : LMem w B b s hv mv e) {a r : Int} (ha : I64 a) (hr : I64 r) :
  (Instr.lookup 59 mv (.agg #[i64 a, i64 r]) true).run Tryz.prog w = .ok (.tuple #[atV s.L a r, .bool (at_ s.L a r).isSome]) w ∧
  (Instr.lookup 59 mv (.agg #[i64 a, i64 r]) false).run Tryz.prog w = .ok (atV s.L a r) w := by
 rcases h.map with ⟨rfl, hL⟩ | ⟨mb, n, f, rfl, hm, hf, _⟩
 ·have e0 : at_ s.L a r = none := by rw [hL]; rfl
  have h1 := Maps.look_nil (w := w) true keyD Tryz.underlying59 (zeroL w) (keyOfD ha hr)
  have h2 := Maps.look_nil (w := w) false keyD Tryz.underlying59 (zeroL w) (keyOfD ha hr)
  unfold atV
  rw [e0]
  exact ⟨h1, h2⟩
 ·obtain ⟨t, k, e1, e2⟩ := atD s.L a r
  obtain ⟨v, ps, hr1, hv1⟩ := hm.look_ok keyD Tryz.underlying59 (zeroL w) (RL_mk 0 0) (keyOfD ha hr)
  obtain ⟨v2, ps2, hr2, hv2⟩ := hm.look keyD Tryz.underlying59 (zeroL w) (RL_mk 0 0) (keyOfD ha hr)
  rw [hf a r ha hr, e1] at hv1 hv2
  rw [RL_inv hv1, hf a r ha hr, Option.isSome_map] at hr1
  rw [RL_inv hv2] at hr2
  rw [e2]
  exact ⟨hr1, hr2⟩
theorem LMem.keep {w' : World} {F : Nat → Prop} (h : LMem w B b s hv mv e) (t : Tn F w w') (hF : ∀ k, F k → OwnL b hv mv k → False) : LMem w' B b s hv mv e where
 blk := t.blk h.blk fun hb => hF b hb (.inl rfl)
 row := t.row h.row fun k hk hb => hF k hb (.inr (.inl hk))
 inOrder := h.inOrder
 map := h.map.imp id fun ⟨mb, n, f, e, hm, h2, h3, h4, h5, h6⟩ => ⟨mb, n, f, e, hm.keep t fun hb => hF mb hb (.inr (.inr e)), h2, h3, h4, h5, h6⟩
 ne := h.ne
 lo := h.lo
 sent := h.sent
 len := h.len
 ids := h.ids
theorem LMem.up {w' : World} (h : LMem w B b s hv mv e) (hb : Below w.heap.size w w') : LMem w' B b s hv mv e := h.keep (F := fun _ => False) (Tn.of_below hb) fun _ h => h.elim
theorem LMem.drew (h : LMem w B b s hv mv e) : LMem w.drew B b s hv mv e := h.up (Below.refl _ _).drew
theorem LMem.drewN (h : LMem w B b s hv mv e) (n : Nat) : LMem (w.drewN n) B b s hv mv e := h.up (bdrewN (Below.refl _ _) n)
theorem LMem.own_lt (h : LMem w B b s hv mv e) {k : Nat} (hk : OwnL b hv mv k) : B ≤ k ∧ k < w.heap.size := by
 rcases hk with rfl | hk | rfl
 ·exact ⟨h.lo, h.blk.lt⟩
 ·exact row_lt h.row k hk
 ·rcases h.map with ⟨e, _⟩ | ⟨mb, n, f, e, hm, _, _, _, h5, _⟩
  ·cases e
  ·injection e with e; injection e with e; subst e; exact ⟨h5, hm.lt⟩
end
end Go.Proofs.YtdojgbpaheadnaaGreat

/- How a lender's deals change in memory. -/
namespace Go.Proofs.YtdojgbpaheadnaaGreat
open Go.RowKit Go.Shelf Go.Maps Go.ChangeMaps

theorem hit_iff {a r : Int} {d : Deal} : hit a r d = true ↔ d.a = a ∧ d.r = r := by simp [hit]
theorem at_snoc (L : List Deal) (d : Deal) (a r : Int) : at_ (L ++ [d]) a r = (at_ L a r).or (if hit a r d then some d else none) := by
 unfold at_
 rw [List.find?_append]
 congr 1
 by_cases h : hit a r d = true
 ·simp [h]
 ·simp [h]
theorem at_hit {L : List Deal} {a r : Int} {d : Deal} (h : at_ L a r = some d) : d.a = a ∧ d.r = r ∧ d ∈ L := by
 have h1 := List.find?_some h
 exact ⟨(hit_iff.1 h1).1, (hit_iff.1 h1).2, List.mem_of_find?_eq_some h⟩
theorem at_setSt (a r : Int) (st : Nat) (a' r' : Int) : ∀ L : List Deal, at_ (setSt L a r st) a' r' = (at_ L a' r').map fun d => if hit a r d then { d with st := st } else d
 | [] => rfl
 | d :: L => by
  have ih := at_setSt a r st a' r' L
  unfold at_ setSt at ih ⊢
  rw [List.map_cons, List.find?_cons, List.find?_cons]
  have e : hit a' r' (if hit a r d then { d with st := st } else d) = hit a' r' d := by split <;> rfl
  rw [e]
  cases hit a' r' d with
  | true => rfl
  | false => exact ih
theorem fit_new {f : Lit → Option (DataW Unit)} {L : List Deal} {a r t : Int} {st : Nat} (h : FitL f L) (ha : I64 a) (hr : I64 r) (hn : at_ L a r = none) : FitL (updL f (klD a r) (loanD t (kd st))) (L ++ [⟨a, r, t, st⟩]) := fun a' r' ha' hr' => by
 unfold updL
 rw [at_snoc]
 by_cases e : klD a' r' = klD a r
 ·obtain ⟨rfl, rfl⟩ := klD_inj ha' hr' ha hr e
  rw [if_pos rfl, hn]
  simp [hit]
 ·rw [if_neg e, h a' r' ha' hr']
  have hh : hit a' r' ⟨a, r, t, st⟩ = false := by
   cases hc : hit a' r' ⟨a, r, t, st⟩ with
   | false => rfl
   | true => obtain ⟨rfl, rfl⟩ := hit_iff.1 hc; exact absurd rfl e
  rw [hh]
  simp
theorem fit_again {f : Lit → Option (DataW Unit)} {L : List Deal} {a r t : Int} {st st' : Nat} (h : FitL f (L ++ [⟨a, r, t, st⟩])) (ha : I64 a) (hr : I64 r) (hn : at_ L a r = none) : FitL (updL f (klD a r) (loanD t (kd st'))) (L ++ [⟨a, r, t, st'⟩]) := fun a' r' ha' hr' => by
 unfold updL
 rw [at_snoc]
 by_cases e : klD a' r' = klD a r
 ·obtain ⟨rfl, rfl⟩ := klD_inj ha' hr' ha hr e
  rw [if_pos rfl, hn]
  simp [hit]
 ·rw [if_neg e, h a' r' ha' hr', at_snoc]
  have hh : ∀ st, hit a' r' ⟨a, r, t, st⟩ = false := fun st => by
   cases hc : hit a' r' ⟨a, r, t, st⟩ with
   | false => rfl
   | true => obtain ⟨rfl, rfl⟩ := hit_iff.1 hc; exact absurd rfl e
  rw [hh, hh]
  simp
theorem fit_set {f : Lit → Option (DataW Unit)} {L : List Deal} {a r : Int} {d : Deal} {st : Nat} (h : FitL f L) (ha : I64 a) (hr : I64 r) (hd : at_ L a r = some d) : FitL (updL f (klD a r) (loanD d.t (kd st))) (setSt L a r st) := fun a' r' ha' hr' => by
 unfold updL
 rw [at_setSt]
 by_cases e : klD a' r' = klD a r
 ·obtain ⟨rfl, rfl⟩ := klD_inj ha' hr' ha hr e
  obtain ⟨h1, h2, _⟩ := at_hit hd
  rw [if_pos rfl, hd]
  simp [hit, h1, h2]
 ·rw [if_neg e, h a' r' ha' hr']
  cases hc : at_ L a' r' with
  | none => rfl
  | some d' =>
   obtain ⟨h1, h2, _⟩ := at_hit hc
   have hh : hit a r d' = false := by
    cases hb : hit a r d' with
    | false => rfl
    | true => obtain ⟨h3, h4⟩ := hit_iff.1 hb; exact absurd (by rw [← h1, ← h2, h3, h4]) e
   simp [hh]
theorem upd_upd (f : Lit → Option (DataW Unit)) (l : Lit) (d d' : DataW Unit) : updL (updL f l d) l d' = updL f l d' := by
 funext x
 unfold updL
 split <;> rfl
set_option maxRecDepth 100000 in
theorem LMem.put {w : World} {B b e mb : Nat} {s : Len} {hv : Value} (h : LMem w B b s hv (.map (some mb)) e) (hs : s.sent < 1000000000) (he : e < 10) {a r t k : Int} (ha : I64 a) (hr : I64 r) {L' : List Deal}
  (hfit : ∀ f, FitL f s.L → FitL (updL f (klD a r) (loanD t k)) L') (hid : ∀ d ∈ L', I64 d.a ∧ I64 d.r ∧ I64 d.t ∧ 1 ≤ d.st ∧ d.st ≤ 5) :
  ∃ w', (Instr.mapUpdate 59 (.map (some mb)) (.agg #[i64 a, i64 r]) (loanV t k)).run Tryz.prog w = .ok () w' ∧ LMem w' B b { s with L := L' } hv (.map (some mb)) (e + 1) ∧ Tn (fun k => k = mb) w w' := by
 rcases h.map with ⟨e0, _⟩ | ⟨mb', n, f, e0, hm, hf, hn, hne, hB, hh⟩
 ·cases e0
 ·injection e0 with e0; injection e0 with e0; subst e0
  have hsn := h.sent
  have hn1 : n < 2000000100 := by omega
  have hn2 : n < maxLen := Nat.lt_trans hn1 (by decide)
  obtain ⟨w', hr1, hm', hg⟩ := hm.put keyD Tryz.underlying59 hn2 (keyOfD ha hr) (RL_mk t k)
  have tt : Tn (fun k => k = mb) w w' := (Tn.of_grown hg).mono fun b hb => by injection hb with hb; exact hb.symm
  refine ⟨w', hr1, ⟨tt.blk h.blk (Ne.symm hne), tt.row h.row fun k hk e => hh (by rw [hk, e]), h.inOrder, .inr ⟨mb, n + 1, _, rfl, hm', hfit f hf, by show ((n + 1 : Nat) : Int) ≤ 2 * s.sent + ((e + 1 : Nat) : Int); omega, hne, hB, hh⟩, h.ne, h.lo, h.sent, by have := h.len; show (s.here.length : Int) ≤ 1000 + 2 * s.sent + ((e + 1 : Nat) : Int); omega, ⟨h.ids.1, hid⟩⟩, tt⟩
theorem LMem.mono {w : World} {B b e e' : Nat} {s : Len} {hv mv : Value} (h : LMem w B b s hv mv e) (he : e ≤ e') : LMem w B b s hv mv e' :=
 ⟨h.blk, h.row, h.inOrder, h.map.imp id fun ⟨mb, n, f, h1, h2, h3, h4, h5⟩ => ⟨mb, n, f, h1, h2, h3, by omega, h5⟩, h.ne, h.lo, h.sent, by have := h.len; omega, h.ids⟩
theorem LMem.setHere {w w4 : World} {B b e e' : Nat} {s : Len} {hv mv hv' : Value} {H' : List Int} (h : LMem w B b s hv mv e) (t : Tn (fun k => hv.ownBlock = some k) w w4) (hr : w4.ownsRow B 3 1 hv' H'.length (H'.map (Value.int .i64)))
  (ho : ∀ k, hv'.ownBlock = some k → hv.ownBlock = some k ∨ w.heap.size ≤ k) (hs : H'.Pairwise (· ≤ ·)) (hl : (H'.length : Int) ≤ 1000 + 2 * s.sent + e') (he : e ≤ e') : LMem (w4.setCell ⟨b, 2, none⟩ hv') B b { s with here := H' } hv' mv e' := by
 have hbl := h.blk.lt
 have hnb : hv'.ownBlock ≠ some b := fun e => (ho b e).elim h.ne (by omega)
 have t2 : Tn (fun k => k = b) w4 (w4.setCell ⟨b, 2, none⟩ hv') := (Tn.refl (fun k => k = b) w4).setCell (p := ⟨b, 2, none⟩) (.inl rfl) _
 refine ⟨((t.blk h.blk h.ne).set 2 hv').cast rfl, t2.row hr fun k hk e => hnb (by rw [hk, e]), hs, ?_, hnb, h.lo, h.sent, hl, h.ids⟩
 rcases h.map with hm | ⟨mb, n, f, rfl, hm, hf, hn, hne, hB, hh⟩
 ·exact .inl hm
 ·refine .inr ⟨mb, n, f, rfl, (hm.keep t hh).keep t2 hne, hf, by show (n : Int) ≤ 2 * s.sent + e'; omega, hne, hB, fun e => (ho mb e).elim hh (by have := hm.lt; omega)⟩
theorem LMem.sent1 {w w' : World} {B b e : Nat} {s : Len} {hv mv : Value} (h : LMem w B b s hv mv e) (he : e ≤ 2) (hb : Below w.heap.size (w.setCell ⟨b, 1, none⟩ (i64 (s.sent + 1))) w') : LMem w' B b { s with sent := s.sent + 1 } hv mv 0 ∧ Tn (fun k => k = b) w w' := by
 have t1 : Tn (fun k => k = b) w (w.setCell ⟨b, 1, none⟩ (i64 (s.sent + 1))) := (Tn.refl (fun k => k = b) w).setCell (p := ⟨b, 1, none⟩) (.inl rfl) _
 have hz : (w.setCell ⟨b, 1, none⟩ (i64 (s.sent + 1))).heap.size = w.heap.size := by simp
 have t : Tn (fun k => k = b) w w' := t1.trans (Tn.of_below (by rw [hz]; exact hb))
 have hs := h.sent
 have hl := h.len
 refine ⟨⟨(((h.blk.set 1 (i64 (s.sent + 1))).below hb h.blk.lt).cast rfl), t.row h.row fun k hk e => h.ne (by rw [hk, e]), h.inOrder, h.map.imp id fun ⟨mb, n, f, h1, h2, h3, h4, h5, h6, h7⟩ => ⟨mb, n, f, h1, h2.keep t h5, h3, by show (n : Int) ≤ 2 * (s.sent + 1) + ((0 : Nat) : Int); omega, h5, h6, h7⟩, h.ne, h.lo, by show 0 ≤ s.sent + 1; omega, by show (s.here.length : Int) ≤ 1000 + 2 * (s.sent + 1) + ((0 : Nat) : Int); omega, h.ids⟩, t⟩
end Go.Proofs.YtdojgbpaheadnaaGreat
