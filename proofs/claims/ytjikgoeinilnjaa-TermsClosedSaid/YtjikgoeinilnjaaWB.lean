/- The contract of table. -/
import Derived.Test.YtjikgoeinilnjaaWA
namespace Go.Proofs.Ytjikgoeinilnjaa
open Go.RowKit

def RuleSl (w : World) (a : Option Addr) (L : List Rule) : Prop := L = [] ∨ ∃ b o, a = some ⟨b, o, none⟩ ∧ b < w.heap.size ∧ RulesAt w b o L
def tabR (r : Rule) : Rule := if r.d.tmod 3 = 0 then r else { r with p := r.p % 4 - 1, i := r.i % 4 - 1, b := r.b % 4 - 1 }
theorem info28 : (Try.prog.info? 28).map (fun i => (i.zero, i.size, i.bytes)) = some (some (.agg #[.int .i64 0, .int .i64 0, .int .i64 0, .int .i64 0, .int .i64 0, .int .i64 0, .int .i64 0]), 7, 56) := by kernel_rfl
def cellsOf (L : List Rule) : List Value := L.flatMap fun r => (rvs r).toList
theorem cellsOf_len (L : List Rule) : (cellsOf L).length = L.length * 7 := by
  induction L with
  | nil => rfl
  | cons r L ih => rw [cellsOf, List.flatMap_cons, List.length_append, ← cellsOf, ih]; simp [rvs]; omega
theorem cellsOf_get (L : List Rule) : ∀ k, k < L.length → ∀ j, j < 7 → (cellsOf L)[k * 7 + j]? = (rvs (L.getD k zr))[j]? := by
  induction L with
  | nil => intro k hk; simp at hk
  | cons r L ih =>
    intro k hk j hj
    have e : cellsOf (r :: L) = (rvs r).toList ++ cellsOf L := by rw [cellsOf, List.flatMap_cons, ← cellsOf]
    rw [e]
    rcases k with _ | k
    · rw [List.getElem?_append_left (by simp [rvs]; omega)]; simp
    · rw [List.getElem?_append_right (by simp [rvs]; omega)]
      have e2 : (k + 1) * 7 + j - (rvs r).toList.length = k * 7 + j := by simp [rvs]; omega
      rw [e2, ih k (by simp at hk; omega) j hj]; simp
theorem ruleAt_iff {w : World} {b o : Nat} {r : Rule} : RuleAt w b o r ↔ ∀ j, j < 7 → w.cell? ⟨b, o + j, none⟩ = (rvs r)[j]? := by
  constructor
  · rintro ⟨c0, c1, c2, c3, c4, c5, c6⟩ j hj
    have h7 : j = 0 ∨ j = 1 ∨ j = 2 ∨ j = 3 ∨ j = 4 ∨ j = 5 ∨ j = 6 := by omega
    rcases h7 with rfl | rfl | rfl | rfl | rfl | rfl | rfl <;> assumption
  · intro h
    exact ⟨h 0 (by omega), h 1 (by omega), h 2 (by omega), h 3 (by omega), h 4 (by omega), h 5 (by omega), h 6 (by omega)⟩
theorem cells_rules {w : World} {b o : Nat} {L : List Rule} (h : RulesAt w b o L) (j : Nat) (u : Value) (hj : (cellsOf L)[j]? = some u) : w.cell? ⟨b, o + j, none⟩ = some u := by
  have hl : j < (cellsOf L).length := by
    rcases Nat.lt_or_ge j (cellsOf L).length with h | h
    · exact h
    · simp [List.getElem?_eq_none h] at hj
  rw [cellsOf_len] at hl
  have e : j / 7 * 7 + j % 7 = j := by omega
  have := ruleAt_iff.1 (h (j / 7) (by omega)) (j % 7) (by omega)
  rw [← cellsOf_get L (j / 7) (by omega) (j % 7) (by omega), e, hj] at this
  rw [← this]; congr 2; omega
theorem rules_owned {w : World} {g : Nat} {cur : Array Value} {L : List Rule} (h : w.heap[g]? = some (.cells cur 28 (0, 0))) (hx : cur.toList.take (L.length * 7) = cellsOf L) : RulesAt w g 0 L ∧ ∀ i, w.frozen? ⟨g, i, none⟩ = false := by
  refine ⟨fun k hk => ruleAt_iff.2 fun j hj => ?_, fun i => by simp [World.frozen?, h]⟩
  have h1 := cellsOf_get L k hk j hj
  rw [← hx, List.getElem?_take_of_lt (by omega)] at h1
  simp only [World.cell?, h]
  rw [← h1]; simp
theorem rules_take {w : World} {b o : Nat} {L : List Rule} (h : RulesAt w b o L) (n : Nat) : RulesAt w b o (L.take n) := by
  intro k hk
  have hk' : k < n ∧ k < L.length := by simp at hk; omega
  have e : (L.take n).getD k zr = L.getD k zr := by rw [getD_get _ _ hk, getD_get _ _ hk'.2]; simp
  rw [e]; exact h k hk'.2
theorem cellsOf_one (L : List Rule) : ∀ u ∈ cellsOf L, u.oneCell' = true := by
  intro u hu
  obtain ⟨r, _, hr⟩ := List.mem_flatMap.1 hu
  simp [rvs] at hr
  rcases hr with rfl | rfl | rfl | rfl | rfl | rfl | rfl <;> rfl

abbrev set3 (w : World) (g o : Nat) (x y z : Int) : World := ((w.setCell ⟨g, o, none⟩ (.int .i64 x)).setCell ⟨g, o + 1, none⟩ (.int .i64 y)).setCell ⟨g, o + 2, none⟩ (.int .i64 z)
theorem ne_off {g i j : Nat} (h : i ≠ j) : (⟨g, i, none⟩ : Addr) ≠ ⟨g, j, none⟩ := fun e => h (by injection e)
theorem set3_same {w : World} {g o : Nat} {r : Rule} (x y z : Int) (h : RuleAt w g o r) : RuleAt (set3 w g o x y z) g o { r with p := x, i := y, b := z } := by
  obtain ⟨c0, c1, c2, c3, c4, c5, c6⟩ := h
  refine ⟨?_, ?_, ?_, ?_, ?_, ?_, ?_⟩
  · rw [World.cell?_setCell_other _ _ _ _ (ne_off (by omega)), World.cell?_setCell_other _ _ _ _ (ne_off (by omega)), World.cell?_setCell_same _ _ _ c0]
  · rw [World.cell?_setCell_other _ _ _ _ (ne_off (by omega)), World.cell?_setCell_same _ _ _ ((World.cell?_setCell_other _ _ _ _ (ne_off (by omega))).trans c1)]
  · rw [World.cell?_setCell_same _ _ _ ((World.cell?_setCell_other _ _ _ _ (ne_off (by omega))).trans ((World.cell?_setCell_other _ _ _ _ (ne_off (by omega))).trans c2))]
  all_goals (rw [World.cell?_setCell_other _ _ _ _ (ne_off (by omega)), World.cell?_setCell_other _ _ _ _ (ne_off (by omega)), World.cell?_setCell_other _ _ _ _ (ne_off (by omega))]; assumption)
theorem set3_other {w : World} {g o o' : Nat} {r : Rule} (x y z : Int) (h : RuleAt w g o' r) (hne : o + 7 ≤ o' ∨ o' + 7 ≤ o) : RuleAt (set3 w g o x y z) g o' r := by
  obtain ⟨c0, c1, c2, c3, c4, c5, c6⟩ := h
  refine ⟨?_, ?_, ?_, ?_, ?_, ?_, ?_⟩ <;> (rw [World.cell?_setCell_other _ _ _ _ (ne_off (by omega)), World.cell?_setCell_other _ _ _ _ (ne_off (by omega)), World.cell?_setCell_other _ _ _ _ (ne_off (by omega))]; assumption)
def tabK (A : List Rule) (k j : Nat) : Rule := if j < k then tabR (A.getD j zr) else A.getD j zr
end Go.Proofs.Ytjikgoeinilnjaa
