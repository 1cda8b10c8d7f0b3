/- The reference's broker: a new case, and a case that changes, in memory. -/
import Derived.Test.YtdojgbpaheadnaaGreatQHB
import Derived.Test.YtdojgbpaheadnaaGreatQRL
import Derived.Deep.CutRange
import Derived.Test.YtdojgbpaheadnaaGreatQAL
set_option linter.unusedVariables false
set_option linter.unusedSimpArgs false

namespace Go.Proofs.YtdojgbpaheadnaaGreat
open Go.RowKit Go.Shelf Go.Maps

section
variable {w : World} {B rb N : Nat} {s : Brk} {rv lv : Value} {G : List CsN}
/-- The cases are another row. -/
theorem RBM.newL {w' : World} {lv' : Value} {G' : List CsN} {cells : List Value} (h : RBM w B rb s rv lv G N) (ht : Below w.heap.size w w') (hr : w'.ownsRow w.heap.size 119 5 lv' G'.length cells) {L' : List Cs} (hL : L' = G'.map (·.1))
    (hf : ∀ p ∈ G', FitN s.rota p) (hid : ∀ c ∈ L', I64 c.a ∧ I64 c.r ∧ I64 c.t) (hs : SortedC L') (hl : G'.length ≤ N + 1) (hN : N < 10000) :
    RBX (w'.setCell ⟨rb, 3, none⟩ lv') B rb { s with L := L' } rv lv' G' cells (N + 1) ∧ Tn (fun k => k = rb) w (w'.setCell ⟨rb, 3, none⟩ lv') := by
  have u := h.up ht
  have hz := h.blk.lt
  have t : Tn (fun k => k = rb) w' (w'.setCell ⟨rb, 3, none⟩ lv') := (Tn.refl (fun k => k = rb) w').setCell (p := ⟨rb, 3, none⟩) (.inl rfl) _
  have hB : B ≤ w.heap.size := Nat.le_trans h.lo (Nat.le_of_lt hz)
  refine ⟨⟨(u.blk.set 3 lv').cast rfl, t.row u.rota fun k hk e => u.ne1 (by rw [hk, show k = rb from e]), t.row (row_mono hr hB) fun k hk e => ?_, hL, hf, u.ne1, fun e => ?_, fun k hk e => ?_, u.lo, ⟨u.sent.1, by have := u.sent.2; show s.sent ≤ 1000 * ((N + 1 : Nat) : Int); omega⟩, ⟨u.ids.1, u.ids.2.1, u.ids.2.2.1, hid⟩, hs, ⟨hl, by omega⟩⟩, (Tn.of_below ht).trans t⟩
  · have := (row_lt hr k hk).1
    have e : k = rb := e
    omega
  · have := (row_lt hr rb e).1; omega
  · have h1 := (row_lt hr k e).1
    have h2 := (row_lt h.rota k hk).2
    omega
/-- A case that is put in between, but its last cell. -/
theorem ccells_ins (G : List CsN) (p : Nat) (c : Cs) (hp : p ≤ G.length) : (ccells G).take (p * 5) ++ ([i64 c.a, i64 c.r, i64 c.t, i64 0, i64 0] ++ (ccells G).drop (p * 5)) = (ccells (G.take p ++ (c, 0) :: G.drop p)).set (5 * p + 4) (i64 0) := by
  rw [ccells_take, ccells_drop, ccells_app, show ((c, 0) :: G.drop p : List CsN) = [(c, 0)] ++ G.drop p from rfl, ccells_app]
  have hl : (ccells (G.take p)).length = 5 * p := by rw [ccells_len, List.length_take, Nat.min_eq_left hp]; omega
  rw [List.set_append_right _ _ (by omega), hl, show 5 * p + 4 - 5 * p = 4 by omega]
  rfl
theorem insN_map (G : List CsN) (p : Nat) (c : Cs) : (G.take p ++ (c, 0) :: G.drop p).map (·.1) = (G.map (·.1)).take p ++ c :: (G.map (·.1)).drop p := by
  rw [List.map_append, List.map_cons, List.map_take, List.map_drop]
theorem insN_get (G : List CsN) (p : Nat) (c : Cs) (hp : p ≤ G.length) : (G.take p ++ (c, 0) :: G.drop p)[p]? = some (c, 0) := by
  have hl : (G.take p).length = p := by rw [List.length_take, Nat.min_eq_left hp]
  rw [List.getElem?_append_right (by omega), hl, Nat.sub_self]; rfl
theorem insN_len (G : List CsN) (p : Nat) (c : Cs) (hp : p ≤ G.length) : (G.take p ++ (c, 0) :: G.drop p).length = G.length + 1 := by
  rw [List.length_append, List.length_cons, List.length_take, List.length_drop]; omega
/-- A case changes, and one of its cells. -/
theorem RBM.setG (h : RBM w B rb s rv lv G N) {g n0 cap : Nat} (hlv : lv = .slice (some ⟨g, 0, none⟩) n0 cap) {j : Nat} {x : Cs} {n : Nat} (hj : G[j]? = some (x, n)) {x' : Cs} {n' : Nat}
    (he : x'.a = x.a ∧ x'.r = x.r ∧ x'.t = x.t) (hf : FitN s.rota (x', n')) {m : Nat} {v : Value} {cells' : List Value} (hc : cells' = (ccells G).set m v) :
    RBX (w.setCell ⟨g, m, none⟩ v) B rb { s with L := setC x' s.L } rv lv (G.set j (x', n')) cells' N ∧ Tn (fun k => lv.ownBlock = some k) w (w.setCell ⟨g, m, none⟩ v) := by
  obtain ⟨u, t⟩ := h.x.store hlv (v := v) (m := m) rfl
  have hxL : s.L[j]? = some x := by rw [h.gs, List.getElem?_map, hj]; rfl
  refine ⟨⟨u.blk, u.rota, by rw [List.length_set, hc]; exact u.row, ?_, fun p hp => ?_, u.ne1, u.ne2, u.ne3, u.lo, u.sent, ⟨u.ids.1, u.ids.2.1, u.ids.2.2.1, fun c hc => ?_⟩, set_sortedC h.inOrder, ⟨by rw [List.length_set]; exact u.len.1, u.len.2⟩⟩, t⟩
  · show setC x' s.L = _
    rw [setC_at h.inOrder hxL ⟨he.1, he.2.1⟩, List.map_set, ← h.gs]
  · rcases List.mem_or_eq_of_mem_set hp with hp | rfl
    · exact h.fit p hp
    · exact hf
  · rcases set_memC hc with rfl | hc
    · have := h.ids.2.2.2 x (List.mem_of_getElem? hxL)
      rw [he.1, he.2.1, he.2.2]; exact this
    · exact h.ids.2.2.2 c hc
theorem set_get {j : Nat} {q p : CsN} (hj : G[j]? = some p) : (G.set j q)[j]? = some q := by
  rw [List.getElem?_set_self (List.getElem?_eq_some_iff.1 hj).1]
/-- The case is granted: its last cell is 1. -/
theorem ccells_grant {j : Nat} {x : Cs} {n : Nat} (hj : G[j]? = some (x, n)) : ccells (G.set j ({ x with g := true }, n)) = (ccells G).set (5 * j + 4) (i64 1) :=
  ccells_set (p := (x, n)) (by omega) (by unfold ccell dn; simp) G j hj
/-- The next lender of the case: its turn's cell. -/
theorem ccells_next {j : Nat} {x : Cs} {n : Nat} (hj : G[j]? = some (x, n)) (hd : dn x = 0) : (ccells (G.set j ({ x with left := x.left.tail }, n + 1))).set (5 * j + 4) (i64 0) = (ccells G).set (5 * j + 3) (i64 ((n : Int) + 1)) := by
  have h1 : ccells (G.set j (x, n + 1)) = (ccells G).set (5 * j + 3) (i64 ((n : Int) + 1)) := ccells_set (p := (x, n)) (by omega) (by simp [ccell]) G j hj
  have hj1 : (G.set j (x, n + 1))[j]? = some (x, n + 1) := set_get hj
  have h2 := ccells_set (p := (x, n + 1)) (p' := ({ x with left := x.left.tail }, n + 1)) (i := 4) (v := i64 (dn { x with left := x.left.tail })) (by omega) (by simp [ccell]) _ j hj1
  rw [List.set_set] at h2
  rw [h2, List.set_set]
  rw [← h1]
  refine List.ext_getElem? fun i => ?_
  by_cases e : 5 * j + 4 = i
  · subst e
    have h3 := ccells_get _ j 4 _ hj1 (by omega)
    rw [h3, List.getElem?_set_self]
    · simp [ccell, hd]
    · rw [ccells_len, List.length_set]
      have := (List.getElem?_eq_some_iff.1 hj).1
      omega
  · rw [List.getElem?_set_ne e]
end
theorem opn_iff {c : Cs} : c.opn = true ↔ c.g = false ∧ c.left ≠ [] := by
  unfold Cs.opn
  cases c.g <;> cases c.left <;> simp
theorem dn_opn {c : Cs} (h : c.opn = true) : dn c = 0 := by
  obtain ⟨h1, h2⟩ := opn_iff.1 h
  rw [dn_open h1, if_neg h2]
theorem dn_not {c : Cs} (h : c.opn = false) : 0 < dn c ∧ dn c ≤ 2 := by
  unfold dn
  cases hg : c.g with
  | true => simp
  | false =>
    have : c.left = [] := by
      rcases c with ⟨a, r, t, l, g⟩
      cases l with
      | nil => rfl
      | cons y l => simp [Cs.opn] at h; rw [h] at hg; cases hg
    rw [this]; simp
/-- The lender whose turn it is. -/
theorem turn_at {rota : List Int} {x : Cs} {n : Nat} (hf : FitN rota (x, n)) (ho : x.opn = true) : ∃ y, (rotOf rota x.a x.r)[n]? = some y ∧ x.left.head? = some y ∧ n < (rotOf rota x.a x.r).length := by
  obtain ⟨h1, h2⟩ := opn_iff.1 ho
  have hl := hf.1
  dsimp only at hl
  cases he : x.left with
  | nil => exact absurd he h2
  | cons y l =>
    have h3 : (rotOf rota x.a x.r)[n]? = some y := by
      rw [he] at hl
      have := congrArg (·[0]?) hl
      simpa using this.symm
    exact ⟨y, h3, rfl, (List.getElem?_eq_some_iff.1 h3).1⟩
theorem fit_grant {rota : List Int} {x : Cs} {n : Nat} (hf : FitN rota (x, n)) (ho : x.opn = true) : FitN rota ({ x with g := true }, n) := ⟨hf.1, hf.2.1, fun _ => (opn_iff.1 ho).2⟩
theorem fit_next {rota : List Int} {x : Cs} {n : Nat} (hf : FitN rota (x, n)) (ho : x.opn = true) : FitN rota ({ x with left := x.left.tail }, n + 1) := by
  obtain ⟨y, _, _, hn⟩ := turn_at hf ho
  refine ⟨?_, hn, fun e => by have h1 := (opn_iff.1 ho).1; rw [show x.g = true from e] at h1; cases h1⟩
  show x.left.tail = _
  rw [show x.left = _ from hf.1, List.tail_drop]
end Go.Proofs.YtdojgbpaheadnaaGreat

/- What the reference's broker's Take yields. -/
namespace Go.Proofs.YtdojgbpaheadnaaGreat
open Go.RowKit Go.Shelf Go.Maps

def RBTakeE (B rb N : Nat) (s : Brk) (rv lv : Value) (m : Msg) (w : World) (e : Ending) (w' : World) : Prop :=
  ∃ v lv' G', e = .returned v ∧ MsgsAt w' w.heap.size v (s.take m).2 ∧ RBM w' B rb (s.take m).1 rv lv' G' (N + 1) ∧ Tn (OwnRB rb rv lv) w w' ∧ ∀ k, OwnRB rb rv lv' k → OwnRB rb rv lv k ∨ w.heap.size ≤ k
/-- .. two numbers. -/
theorem wpAnyH_apartNN {P : Program} {md : Region.Mode} {ops : Array Oper} {Q : Exit → Act → World → Prop} {S : World → Prop} {fuel : Nat} {L : Array Bool} {a : Act} {w : World} {a1 : Nat → Nat → Act} (F : World → Prop)
    (take : ∀ R : Act → World → Prop, (∀ x y w', F w' → R (a1 x y) w') → wpAnyH P md ops (only R) S fuel L a w) (rest : ∀ x y w', F w' → Q .normal (a1 x y) w') : wpAnyH P md ops Q S fuel L a w :=
  wpAnyH_mono (fun _ _ _ h => nomatch h.1) (fun ⟨_, _, h⟩ => nomatch h.1) (fun _ _ h => h.2) fuel L a w (take (Q .normal) rest)
end Go.Proofs.YtdojgbpaheadnaaGreat

/- The reference's broker, new. -/
namespace Go.Proofs.YtdojgbpaheadnaaGreat
open Go.RowKit Go.Shelf Go.Maps

set_option maxRecDepth 100000 in
set_option maxHeartbeats 1000000 in
theorem rbnew_any (id : Int) (hid : I64 id) (D : List Int) (hl : D.length ≤ 1000) (hD : ∀ x ∈ D, I64 x) (v : Value) (B : Nat) (w : World) (h : w.ownsRow B 3 1 v D.length (D.map (Value.int .i64))) :
    Calls Tryz.prog 11 #[i64 id, v] w fun e w' => ∃ rb rv, e = .returned (.pointer (some ⟨rb, 0, none⟩)) ∧ RBM w' w.heap.size rb ⟨id, 0, D, []⟩ rv (.slice none 0 0) [] 0 ∧ Below w.heap.size w w' := by
  obtain ⟨i0, hi, hz1, hz2, hz3⟩ := info_parts info3
  have H := Lib.hid h
  have HI := Lib.hid hid
  have HD := Lib.hid hD
  obtain ⟨a, c, rfl, -⟩ := row_cellz h
  clear h hid hD
  go_enter Tryz.func11, Tryz.ntmps11
  go_wp2_with (first
  | (refine wpList_append_all rfl (.tmp 6) (.tmp 7) 25 rfl w.heap.size 3 i0 (.int .i64 0) 1 8 Tryz.underlying25 hi hz1 hz2 hz3 rfl (by omega) _ 0 [] rfl (row_fresh w _ #[] 3 1 0 rfl (by omega) (Nat.le_refl _)) D.length (D.map (Value.int .i64)) _ rfl ((src_row H.out).below ((Below.refl w.heap.size w).alloc (Nat.le_refl _) _)) (ints1 _) (by unfold maxLen; omega) (by omega) (by simp) ?_
     intro v6 w6 hown6 hg6 hat6
     have B6 : RowKit.Hid (Below w.heap.size w w6) := Lib.hid (((Below.refl w.heap.size w).alloc (Nat.le_refl _) _).grown hg6 (by simp) (fun j e => by have := own_ge e; omega))
     have R6 : RowKit.Hid (w6.ownsRow w.heap.size 3 1 v6 D.length (D.map (Value.int .i64))) := Lib.hid (by simpa using hown6)
     obtain ⟨a6, c6, hv6, -⟩ := row_cellz R6.out
     subst hv6
     clear hown6 hg6 hat6))
  obtain ⟨bb, hbb⟩ : ∃ bb, bb = w6.heap.size := ⟨_, rfl⟩
  obtain ⟨w2, hw2⟩ : ∃ w2, w2 = w6.alloc (.cells #[i64 id, i64 0, .slice a6 D.length c6, .slice none 0 0] 102) := ⟨_, rfl⟩
  have L2 : RowKit.Hid (Blk w2 bb #[i64 id, i64 0, .slice a6 D.length c6, .slice none 0 0] 102) := Lib.hid (by rw [hw2, hbb]; exact Blk.new _ _ _)
  have R2 : RowKit.Hid (w2.ownsRow w.heap.size 3 1 (.slice a6 D.length c6) D.length (D.map (Value.int .i64))) := Lib.hid (by rw [hw2]; exact R6.out.alloc _)
  have B2 : RowKit.Hid (Below w.heap.size w w2) := Lib.hid (by rw [hw2]; exact B6.out.alloc B6.out.size _)
  have HB : RowKit.Hid (bb = w6.heap.size) := Lib.hid hbb
  have NE : RowKit.Hid ((Value.slice a6 D.length c6).ownBlock ≠ some bb) := Lib.hid fun e => by have := (row_lt R6.out bb e).2; have := HB.out; omega
  rw [← hw2, ← hbb]
  clear hw2 hbb
  go_ret
  refine ⟨bb, _, rfl, ⟨L2.out, R2.out, World.ownsRow_nil _ _ _ _, rfl, fun p hp => (by cases hp), NE.out, by simp [Value.ownBlock], fun k _ => by simp [Value.ownBlock], by rw [HB.out]; exact B6.out.size, ⟨by dsimp only; omega, by dsimp only; omega⟩, ⟨HI.out, hl, HD.out, fun c hc => (by cases hc)⟩, List.Pairwise.nil, ⟨Nat.le_refl _, by omega⟩⟩, B2.out⟩
end Go.Proofs.YtdojgbpaheadnaaGreat

/- The reference's broker ticks. -/
namespace Go.Proofs.YtdojgbpaheadnaaGreat
open Go.RowKit Go.Shelf Go.Maps

theorem tellB (s : Brk) (c : Cs) : ∃ m, s.tell c = ({ s with sent := s.sent + 1 }, [m]) := ⟨_, rfl⟩
theorem tickB_snoc (c : Cs) : ∀ (A : List Cs) (s : Brk), tickB s (A ++ [c]) = if c.opn then (((tickB s A).1.tell c).1, (tickB s A).2 ++ ((tickB s A).1.tell c).2) else tickB s A
  | [], s => by
    by_cases h : c.opn = true <;> simp [tickB, h]
  | x :: A, s => by
    have i1 := tickB_snoc c A s
    have i2 := tickB_snoc c A (s.tell x).1
    by_cases h : c.opn = true
    · rw [if_pos h] at i1 i2 ⊢
      by_cases hx : x.opn = true
      · simp only [List.cons_append, tickB, if_pos hx, i2, List.append_assoc]
      · simp only [List.cons_append, tickB, if_neg hx, i1]
    · rw [if_neg h] at i1 i2 ⊢
      by_cases hx : x.opn = true
      · simp only [List.cons_append, tickB, if_pos hx, i2]
      · simp only [List.cons_append, tickB, if_neg hx, i1]
theorem tickB_same : ∀ (A : List Cs) (s : Brk), ∃ j : Int, (tickB s A).1 = { s with sent := s.sent + j } ∧ 0 ≤ j ∧ j ≤ A.length ∧ (tickB s A).2.length ≤ A.length
  | [], s => ⟨0, by simp [tickB], by omega, by simp, by simp [tickB]⟩
  | x :: A, s => by
    by_cases hx : x.opn = true
    · obtain ⟨m, hm⟩ := tellB s x
      obtain ⟨j, h1, h2, h3, h4⟩ := tickB_same A (s.tell x).1
      refine ⟨j + 1, ?_, by omega, by rw [List.length_cons]; omega, ?_⟩
      · simp only [tickB, if_pos hx]
        rw [h1, hm]
        exact congrArg (fun z => ({ s with sent := z } : Brk)) (show s.sent + 1 + j = s.sent + (j + 1) by omega)
      · simp only [tickB, if_pos hx, List.length_append, List.length_cons]
        rw [hm] at h4 ⊢
        simp at h4 ⊢; omega
    · obtain ⟨j, h1, h2, h3, h4⟩ := tickB_same A s
      refine ⟨j, ?_, h2, by rw [List.length_cons]; omega, ?_⟩
      · simp only [tickB, if_neg hx, h1]
      · simp only [tickB, if_neg hx, List.length_cons]; omega
theorem takeC {s : Brk} {G : List CsN} (h : s.L = G.map (·.1)) {k : Nat} {p : CsN} (hk : G[k]? = some p) : s.L.take (k + 1) = s.L.take k ++ [p.1] := by
  have : s.L[k]? = some p.1 := by rw [h, List.getElem?_map, hk]; rfl
  rw [List.take_add_one, this]; rfl
set_option maxRecDepth 100000 in
set_option maxHeartbeats 8000000 in
theorem rbtick_any (B rb N : Nat) (s : Brk) (rv lv : Value) (G : List CsN) (w : World) (h : RBM w B rb s rv lv G N) (hN : N < 900) :
    Calls Tryz.prog 19 #[.pointer (some ⟨rb, 0, none⟩)] w fun e w' => ∃ v, e = .returned v ∧ MRow w' w.heap.size v s.tick.2 ∧ RBM w' B rb s.tick.1 rv lv G (N + 1) ∧ Tn (fun k => k = rb) w w' := by
  obtain ⟨i0, hi, hz1, hz2, hz3⟩ := info_partsM
  obtain ⟨la, lcap, hlv, ld1, ld2, lxl, hlc⟩ := row_cellz h.row
  have hlcap : lcap ≤ 9223372036854775807 := by unfold maxLen at ld2; omega
  have H := Lib.hid h
  have HLV := Lib.hid hlv
  have HLC := Lib.hid hlc
  have hbl := h.blk.lt
  have hs0 := h.sent.1
  have hs1 := h.sent.2
  have hgl := h.len.1
  clear h ld2 lxl hlc hlv
  go_enter Tryz.func19, Tryz.ntmps19
  go_wp2_with fail
  go_loopw [3, 4] (fun o i wr => ∃ (k : Nat) (lo : Value), k ≤ G.length ∧ i = .int .i64 k ∧ lo = o ∧ MRow wr w.heap.size lo (tickB s (s.L.take k)).2 ∧ RBM wr B rb (tickB s (s.L.take k)).1 rv lv G (N + 1) ∧ Tn (fun k => k = rb) w wr) (fun _ i _ => G.length - (intOf i).toNat)
  case atStart => exact ⟨0, _, Nat.zero_le _, rfl, rfl, MRow.nil _ _, H.out.mono (Nat.le_succ _) (by omega), Tn.refl _ _⟩
  case round =>
    obtain ⟨k, o, hk, rfl, rfl, hrow, hM, hT⟩ := hrel
    have RW := Lib.hid hrow
    have M3 := Lib.hid hM
    have T3 := Lib.hid hT
    clear hrow hM hT
    obtain ⟨j, hsame, hj0, hj1, hmany⟩ := tickB_same (s.L.take k) s
    have c3 : wr.cell? ⟨rb, 3, none⟩ = some (.slice la G.length lcap) := (M3.out.blk.cell 3).trans (congrArg some HLV.out)
    have hlen : (s.L.take k).length ≤ k := by rw [List.length_take]; omega
    by_cases hlt : k < G.length
    · obtain ⟨g, rfl, -⟩ := HLC.out.resolve_left (fun h => by omega)
      obtain ⟨p, hp⟩ : ∃ p, G[k]? = some p := ⟨_, List.getElem?_eq_getElem hlt⟩
      obtain ⟨d0, d1, d2, d3, d4⟩ := M3.out.case_ hp HLV.out
      have HP := Lib.hid hp
      have hsnoc := tickB_snoc p.1 (s.L.take k) s
      rw [← takeC H.out.gs hp] at hsnoc
      obtain ⟨sk, hsk⟩ : ∃ sk, sk = tickB s (s.L.take k) := ⟨_, rfl⟩
      rw [← hsk] at RW M3 hsnoc hsame hmany
      have hsl : sk.1.sent < 1000 * ((N + 1 : Nat) : Int) := by rw [hsame]; dsimp only; omega
      have hml : sk.2.length ≤ 1000 := by omega
      obtain ⟨va, vc, rfl, -⟩ := row_cellz RW.out
      clear hsk hsame hp hj0 hj1 hmany hlen
      by_cases ho : p.1.opn = true
      · rw [if_pos ho] at hsnoc
        obtain ⟨⟨mf, mt, mn, mx⟩, hm⟩ := tellB sk.1 p.1
        have SN : RowKit.Hid (tickB s (s.L.take (k + 1)) = ((sk.1.tell p.1).1, sk.2 ++ [⟨mf, mt, mn, mx⟩])) := Lib.hid (by rw [hsnoc, hm])
        have HM := Lib.hid hm
        rw [dn_opn ho] at d4
        clear ho hsnoc hm
        go_wp2_with fail
        refine (rnow_any B rb (N + 1) sk.1 rv lv G k p wr M3.out HP.out hsl).mono ?_
        rintro e w5 ⟨v5, rfl, hm5, hM5, hT5⟩
        rw [HM.out] at hm5
        obtain ⟨g5, hg5, rfl, hb5⟩ := hm5
        have M5 := Lib.hid hM5
        have N5 := Lib.hid hb5
        have T5 : RowKit.Hid (Tn (fun k => k = rb) w w5) := Lib.hid (T3.out.trans hT5)
        have RW5 : RowKit.Hid (w5.ownsRow w.heap.size 31 4 (.slice va sk.2.length vc) sk.2.length (mcells sk.2)) := Lib.hid (hT5.row RW.out fun r hr e => by have := (row_lt RW.out r hr).1; have := hbl; omega)
        have hz5 := T5.out.size
        clear hM5 hT5 hb5 d0 d1 d2 d3 d4 c3
        go_wp2_with (refine wpList_append_all rfl (.tmp 23) (.tmp 26) 38 rfl w.heap.size 31 i0 _ 4 40 Tryz.underlying38 hi hz1 hz2 hz3 rfl (by omega) _ sk.2.length (mcells sk.2) rfl RW5.out 1 (encM ⟨mf, mt, mn, mx⟩).toList _ rfl (.inr ⟨_, _, rfl, rfl, blk_news N5.out⟩) (enc_one _) (by unfold maxLen; omega) (by omega) hz5 ?_; intro v6 w6 hown6 hg6 hat6; have R6 : RowKit.Hid (MRow w6 w.heap.size v6 (sk.2 ++ [⟨mf, mt, mn, mx⟩])) := Lib.hid (by
          unfold MRow
          rw [mcells_app, List.length_append]
          have e : mcells [⟨mf, mt, mn, mx⟩] = (encM ⟨mf, mt, mn, mx⟩).toList := by simp [mcells]
          rw [e]; exact hown6); have TG : RowKit.Hid (Tn (fun j => (Value.slice va sk.2.length vc).ownBlock = some j) w5 w6) := Lib.hid ((Tn.of_grown hg6).mono fun k hk => hk); clear hown6 hg6 hat6)
        have M6 := Lib.hid (M5.out.keep TG.out fun j h1 h2 => by
          have h3 := (row_lt RW5.out j h1).1
          rcases h2 with rfl | h2 | h2
          · omega
          · have := (row_lt H.out.rota j h2).2; omega
          · have := (row_lt H.out.row j h2).2; omega)
        have T6 : RowKit.Hid (Tn (fun k => k = rb) w w6) := Lib.hid (T5.out.then_ TG.out fun j hj => .inr (row_lt RW5.out j hj).1)
        exact ⟨⟨k + 1, _, hlt, by go_num, rfl, by rw [SN.out]; exact R6.out, by rw [SN.out]; exact M6.out, T6.out⟩, by simp [intOf]; omega⟩
      · rw [if_neg ho] at hsnoc
        have hd0 := (dn_not (by simpa using ho)).1
        obtain ⟨D, hD⟩ : ∃ D, D = dn p.1 := ⟨_, rfl⟩
        rw [← hD] at d4 hd0
        have e0 : (D == 0) = false := by simp; omega
        have SN := Lib.hid hsnoc
        clear hD ho hsnoc hd0
        go_wp2_with fail
        exact ⟨⟨k + 1, _, hlt, by go_num, rfl, by rw [SN.out]; exact RW.out, by rw [SN.out]; exact M3.out, T3.out⟩, by simp [intOf]; omega⟩
    · have hk2 : k = G.length := by omega
      have e1 : tickB s (s.L.take k) = s.tick := by rw [List.take_of_length_le (by rw [H.out.gs, List.length_map]; omega)]; rfl
      rw [e1] at RW M3
      subst hk2
      clear e1 hsame hj0 hj1 hmany
      go_wp2_with fail
      go_ret
      exact ⟨_, rfl, RW.out, M3.out, T3.out⟩
end Go.Proofs.YtdojgbpaheadnaaGreat
