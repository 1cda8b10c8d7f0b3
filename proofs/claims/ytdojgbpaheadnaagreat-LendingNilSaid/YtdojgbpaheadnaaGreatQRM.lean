/- The reference's lender in memory; a deal. -/
import Derived.Test.YtdojgbpaheadnaaGreatQRL
set_option linter.unusedVariables false
set_option linter.unusedSimpArgs false

namespace Go.Proofs.YtdojgbpaheadnaaGreat
open Go.RowKit Go.Shelf Go.Maps

def dcell (d : Deal) : List Value := [i64 d.a, i64 d.r, i64 d.t, i64 (d.st : Int)]
def dcells (L : List Deal) : List Value := L.flatMap dcell
theorem dcells_len (L : List Deal) : (dcells L).length = L.length * 4 := by
  unfold dcells
  induction L with
  | nil => rfl
  | cons d L ih => rw [List.flatMap_cons, List.length_append, ih]; simp [dcell]; omega
theorem dcells_app (L M : List Deal) : dcells (L ++ M) = dcells L ++ dcells M := by unfold dcells; rw [List.flatMap_append]
theorem dcells_get : ∀ (L : List Deal) (k j : Nat) (d : Deal), L[k]? = some d → j < 4 → (dcells L)[4 * k + j]? = (dcell d)[j]?
  | [], k, j, d, h, _ => by simp at h
  | x :: L, 0, j, d, h, hj => by
    obtain rfl : x = d := by simpa using h
    unfold dcells
    rw [List.flatMap_cons, List.getElem?_append_left (by simp [dcell]; omega)]
    simp
  | x :: L, k + 1, j, d, h, hj => by
    have ih := dcells_get L k j d (by simpa using h) hj
    unfold dcells at ih ⊢
    rw [List.flatMap_cons, List.getElem?_append_right (by simp [dcell]; omega), ← ih]
    congr 1
    simp [dcell]; omega
theorem dcells_one (L : List Deal) : ∀ u ∈ dcells L, u.oneCell' = true := by
  intro u hu
  unfold dcells at hu
  obtain ⟨d, _, hd⟩ := List.mem_flatMap.1 hu
  simp [dcell] at hd
  rcases hd with rfl | rfl | rfl | rfl <;> rfl
theorem infoD : (Tryz.prog.info? 168).map (fun i => (i.zero, i.size, i.bytes)) = some (some (.agg #[i64 0, i64 0, i64 0, i64 0]), 4, 32) := by kernel_rfl
theorem info_partsD : ∃ i, Tryz.prog.info? 168 = some i ∧ i.zero = some (.agg #[i64 0, i64 0, i64 0, i64 0]) ∧ i.size = 4 ∧ i.bytes = 32 := by
  obtain ⟨i, hi, h⟩ := Option.map_eq_some_iff.1 infoD
  injection h with h1 h2
  injection h2 with h2 h3
  exact ⟨i, hi, h1, h2, h3⟩
/-- The reference's lender in memory. -/
structure RLM (w : World) (B rb : Nat) (s : Len) (cv lv : Value) (N : Nat) : Prop where
  blk : Blk w rb #[i64 s.id, i64 s.sent, cv, lv] 165
  cop : w.ownsRow B 3 1 cv s.here.length (s.here.map (Value.int .i64))
  deals : w.ownsRow B 168 4 lv s.L.length (dcells s.L)
  ne1 : cv.ownBlock ≠ some rb
  ne2 : lv.ownBlock ≠ some rb
  ne3 : ∀ k, cv.ownBlock = some k → lv.ownBlock ≠ some k
  lo : B ≤ rb
  sent : 0 ≤ s.sent ∧ s.sent ≤ N
  len : s.L.length ≤ N ∧ s.here.length ≤ 1000 + N ∧ N ≤ 10000
  ids : I64 s.id ∧ ∀ d ∈ s.L, I64 d.a ∧ I64 d.r ∧ I64 d.t ∧ 1 ≤ d.st ∧ d.st ≤ 5
  keys : s.L.Pairwise fun x y => ¬ (x.a = y.a ∧ x.r = y.r)
def OwnR (rb : Nat) (cv lv : Value) (k : Nat) : Prop := k = rb ∨ cv.ownBlock = some k ∨ lv.ownBlock = some k
section
variable {w : World} {B rb N : Nat} {s : Len} {cv lv : Value}
theorem RLM.keep {w' : World} {F : Nat → Prop} (h : RLM w B rb s cv lv N) (t : Tn F w w') (hF : ∀ k, F k → OwnR rb cv lv k → False) : RLM w' B rb s cv lv N where
  blk := t.blk h.blk fun hb => hF rb hb (.inl rfl)
  cop := t.row h.cop fun k hk hb => hF k hb (.inr (.inl hk))
  deals := t.row h.deals fun k hk hb => hF k hb (.inr (.inr hk))
  ne1 := h.ne1
  ne2 := h.ne2
  ne3 := h.ne3
  lo := h.lo
  sent := h.sent
  len := h.len
  ids := h.ids
  keys := h.keys
theorem RLM.up {w' : World} (h : RLM w B rb s cv lv N) (hb : Below w.heap.size w w') : RLM w' B rb s cv lv N := h.keep (F := fun _ => False) (Tn.of_below hb) fun _ h => h.elim
theorem RLM.mono {N' : Nat} (h : RLM w B rb s cv lv N) (hN : N ≤ N') (hN' : N' ≤ 10000) : RLM w B rb s cv lv N' :=
  ⟨h.blk, h.cop, h.deals, h.ne1, h.ne2, h.ne3, h.lo, ⟨h.sent.1, by have := h.sent.2; omega⟩, ⟨by have := h.len.1; omega, by have := h.len.2.1; omega, hN'⟩, h.ids, h.keys⟩
theorem RLM.own_lt (h : RLM w B rb s cv lv N) {k : Nat} (hk : OwnR rb cv lv k) : B ≤ k ∧ k < w.heap.size := by
  rcases hk with rfl | hk | hk
  · exact ⟨h.lo, h.blk.lt⟩
  · exact row_lt h.cop k hk
  · exact row_lt h.deals k hk
/-- The copies are another row. -/
theorem RLM.copies {w' : World} {cv' : Value} {H : List Int} (h : RLM w B rb s cv lv N) (ht : Below w.heap.size w w') (hr : w'.ownsRow w.heap.size 3 1 cv' H.length (H.map (Value.int .i64))) (hl : H.length ≤ 1000 + N) :
    RLM (w'.setCell ⟨rb, 2, none⟩ cv') B rb { s with here := H } cv' lv N ∧ Tn (fun k => k = rb) w (w'.setCell ⟨rb, 2, none⟩ cv') := by
  have u := h.up ht
  have hz := h.blk.lt
  have t : Tn (fun k => k = rb) w' (w'.setCell ⟨rb, 2, none⟩ cv') := (Tn.refl (fun k => k = rb) w').setCell (p := ⟨rb, 2, none⟩) (.inl rfl) _
  have hB : B ≤ w.heap.size := Nat.le_trans h.lo (Nat.le_of_lt hz)
  refine ⟨⟨(u.blk.set 2 cv').cast rfl, t.row (row_mono hr hB) fun k hk e => ?_, t.row u.deals fun k hk e => u.ne2 (by rw [← e]; exact hk), fun e => ?_, u.ne2, fun k hk e => ?_, u.lo, u.sent, ⟨u.len.1, hl, u.len.2.2⟩, u.ids, u.keys⟩, (Tn.of_below ht).trans t⟩
  · have := (row_lt hr k hk).1; omega
  · have := (row_lt hr rb e).1; omega
  · have := (row_lt hr k hk).1; have := (row_lt h.deals k e).2; omega
/-- A deal more. -/
theorem RLM.more {w' : World} {lv' : Value} {d : Deal} (h : RLM w B rb s cv lv N) (t : Tn (fun k => lv.ownBlock = some k) w w') (hr : w'.ownsRow B 168 4 lv' (s.L.length + 1) (dcells s.L ++ dcell d)) (hat : lv'.ownBlock = lv.ownBlock ∨ ∀ k, lv'.ownBlock = some k → w.heap.size ≤ k)
    (hN : N < 10000) (hd : I64 d.a ∧ I64 d.r ∧ I64 d.t ∧ 1 ≤ d.st ∧ d.st ≤ 5) (hk : at_ s.L d.a d.r = none) :
    RLM (w'.setCell ⟨rb, 3, none⟩ lv') B rb { s with L := s.L ++ [d] } cv lv' (N + 1) ∧ Tn (OwnR rb cv lv) w (w'.setCell ⟨rb, 3, none⟩ lv') := by
  have hz := h.blk.lt
  have b' : Blk w' rb #[i64 s.id, i64 s.sent, cv, lv] 165 := t.blk h.blk h.ne2
  have c' := t.row h.cop fun k hk e => h.ne3 k hk e
  have t2 : Tn (fun k => k = rb) w' (w'.setCell ⟨rb, 3, none⟩ lv') := (Tn.refl (fun k => k = rb) w').setCell (p := ⟨rb, 3, none⟩) (.inl rfl) _
  have n2 : lv'.ownBlock ≠ some rb := fun e => by
    rcases hat with h1 | h1
    · exact h.ne2 (by rw [← h1]; exact e)
    · have := h1 _ e; omega
  refine ⟨⟨(b'.set 3 lv').cast rfl, t2.row c' fun k hk e => h.ne1 (by rw [← e]; exact hk), ?_, h.ne1, n2, fun k hk e => ?_, h.lo, ⟨h.sent.1, by have := h.sent.2; show s.sent ≤ ((N + 1 : Nat) : Int); omega⟩, ⟨?_, by have := h.len.2.1; show s.here.length ≤ 1000 + (N + 1); omega, by omega⟩, ⟨h.ids.1, fun x hx => ?_⟩, ?_⟩, (t.mono fun k hk => .inr (.inr hk)).trans (t2.mono fun k hk => .inl hk)⟩
  · have e1 : (s.L ++ [d]).length = s.L.length + 1 := by simp
    have e2 : dcells (s.L ++ [d]) = dcells s.L ++ dcell d := by rw [dcells_app]; simp [dcells]
    show (w'.setCell ⟨rb, 3, none⟩ lv').ownsRow B _ 4 lv' (s.L ++ [d]).length (dcells (s.L ++ [d]))
    rw [e1, e2]
    exact t2.row hr fun k hk e => n2 (by rw [← e]; exact hk)
  · rcases hat with h1 | h1
    · exact h.ne3 k hk (by rw [← h1]; exact e)
    · have := h1 k e; have := (row_lt h.cop k hk).2; omega
  · show (s.L ++ [d]).length ≤ N + 1
    rw [List.length_append]; have := h.len.1; simp; omega
  · rcases List.mem_append.1 hx with hx | hx
    · exact h.ids.2 x hx
    · obtain rfl : x = d := by simpa using hx
      exact hd
  · show (s.L ++ [d]).Pairwise _
    rw [List.pairwise_append]
    refine ⟨h.keys, by simp, fun x hx y hy e => ?_⟩
    obtain rfl : y = d := by simpa using hy
    have := List.find?_eq_none.1 hk x hx
    simp [hit, e.1, e.2] at this
end
end Go.Proofs.YtdojgbpaheadnaaGreat
