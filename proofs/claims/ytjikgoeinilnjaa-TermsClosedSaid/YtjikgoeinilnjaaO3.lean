/- The last field of a rule that came in fits an int; pairs of integers by value. -/
import Derived.Test.YtjikgoeinilnjaaO2
namespace Go.Proofs.Ytjikgoeinilnjaa
open Go.ChangeShapes Go.WideShapes Go.ChangeAt Go.RowKit
section
variable {H : Type} {enc : TypeId × Value → H} {W : World} {base : Nat} {spare : Nat → Bool} {held : Bool}
theorem rule_c {fuel : Nat} {r : Rule} {x : DataW H × List MemPlace} (h : DataW.trod enc Try.prog W base spare held fuel 28 (rvs r).toList = some x) : r.c ≤ 9223372036854775807 := by
  obtain ⟨xs, n, rfl, rfl, hl, hx, hf⟩ := DataW.trod_struct Try.underlying28 h
  have c3 : Try.prog.cellsOf 3 = 1 := by kernel_rfl
  have hx' : xs.length = 7 := hx
  have g : DataW.trod enc Try.prog W base spare held n 3 (((rvs r).toList.drop 6).take (Try.prog.cellsOf 3)) = xs[6]? := hf 6 _ rfl
  rw [c3, List.getElem?_eq_getElem (by omega)] at g
  obtain ⟨k, e, _, hwf⟩ := DataW.trod_int Try.underlying3 g
  have e' : r.c = k := by
    simp [rvs] at e
    exact e
  rw [e']; exact (bounds_i64 hwf).2
theorem pair_of {fuel : Nat} {cs : List Value} {x : DataW H × List MemPlace} (h : DataW.trod enc Try.prog W base spare held fuel 50 cs = some x) : ∃ a b : Int, cs = [.int .i64 a, .int .i64 b] := by
  obtain ⟨xs, n, rfl, rfl, hl, hx, hf⟩ := DataW.trod_array Try.underlying50 h
  have c50 : Try.prog.cellsOf 50 = 2 := by kernel_rfl
  have c3 : Try.prog.cellsOf 3 = 1 := by kernel_rfl
  rw [c50] at hl
  rw [c3] at hf
  obtain ⟨v0, v1, rfl⟩ := len2 hl
  have g0 := hf 0 (by omega)
  have g1 := hf 1 (by omega)
  rw [List.getElem?_eq_getElem (by omega)] at g0 g1
  obtain ⟨a, e0, _⟩ := DataW.trod_int Try.underlying3 g0
  obtain ⟨b, e1, _⟩ := DataW.trod_int Try.underlying3 g1
  simp at e0 e1
  subst e0 e1
  exact ⟨a, b, rfl⟩
end
end Go.Proofs.Ytjikgoeinilnjaa
