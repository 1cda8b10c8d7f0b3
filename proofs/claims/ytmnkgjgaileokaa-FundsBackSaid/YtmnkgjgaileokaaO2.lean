/- How the arguments of FundsBack are opened: a pair of bytes. -/
import Derived.Test.YtmnkgjgaileokaaO
namespace Go.Proofs.Ytmnkgjgaileokaa
open Go.ChangeShapes Go.WideShapes Go.ChangeAt Go.RowKit
theorem len2 {α : Type} {l : List α} (h : l.length = 2) : ∃ a b, l = [a, b] := by
  match l, h with
  | [a, b], _ => exact ⟨a, b, rfl⟩
theorem okWide_array {P : Program} {w : World} {r : Reach} {base : Nat} {t e : TypeId} {n : Nat} {v : Value} (ht : P.underlying t = some (.array n e)) (h : Value.okWide P w r base t v) : ∃ cs, v = .agg cs ∧ cs.size = P.cellsOf t := by
  simp only [Value.okWide, ht] at h
  obtain ⟨cs, h1, h2, _⟩ := h
  exact ⟨cs, h1, h2⟩
section
variable {H : Type} {enc : TypeId × Value → H} {W : World} {base : Nat} {spare : Nat → Bool} {held : Bool}
theorem arr2_of {fuel : Nat} {cs : List Value} {x : DataW H × List MemPlace} (h : DataW.trod enc Try.prog W base spare held fuel 48 cs = some x) : ∃ a b : Int, cs = [.int .u8 a, .int .u8 b] ∧ (0 ≤ a ∧ a ≤ 255) ∧ (0 ≤ b ∧ b ≤ 255) := by
  obtain ⟨xs, n, rfl, rfl, hl, hx, hf⟩ := DataW.trod_array Try.underlying48 h
  have c48 : Try.prog.cellsOf 48 = 2 := by kernel_rfl
  have c5 : Try.prog.cellsOf 5 = 1 := by kernel_rfl
  rw [c48] at hl
  rw [c5] at hf
  have get : ∀ i, i < 2 → ∃ k : Int, (cs.drop (i * 1)).take 1 = [.int .u8 k] ∧ (0 ≤ k ∧ k ≤ 255) := by
    intro i hi
    have h1 := hf i hi
    rw [List.getElem?_eq_getElem (by omega)] at h1
    obtain ⟨k, hk, _, g⟩ := DataW.trod_int Try.underlying5 h1
    exact ⟨k, hk, wf_in8 g⟩
  obtain ⟨v0, v1, rfl⟩ := len2 hl
  clear hf h hl hx
  obtain ⟨k0, e0, g0⟩ := get 0 (by omega)
  obtain ⟨k1, e1, g1⟩ := get 1 (by omega)
  simp at e0 e1
  subst e0 e1
  exact ⟨_, _, rfl, g0, g1⟩
end
end Go.Proofs.Ytmnkgjgaileokaa
