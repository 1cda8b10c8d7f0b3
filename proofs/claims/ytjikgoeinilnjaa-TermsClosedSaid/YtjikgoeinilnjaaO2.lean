/- How a calendar of the laws is opened. -/
import Derived.Test.YtjikgoeinilnjaaO
import Derived.Test.YtjikgoeinilnjaaWG
namespace Go.Proofs.Ytjikgoeinilnjaa
open Go.ChangeShapes Go.WideShapes Go.ChangeAt Go.RowKit
section
variable {H : Type} {enc : TypeId × Value → H} {W : World} {base : Nat} {spare : Nat → Bool} {held : Bool}
theorem len2 {α : Type} {l : List α} (h : l.length = 2) : ∃ a b, l = [a, b] := by
  match l, h with
  | [a, b], _ => exact ⟨a, b, rfl⟩
theorem u8_of {fuel : Nat} {v : Value} {x : DataW H × List MemPlace} (h : DataW.trod enc Try.prog W base spare held fuel 36 [v] = some x) : ∃ (a : Option Addr) (D : List Int) (cap : Nat), v = .slice a D.length cap ∧ U8Sl W a D ∧ D.length ≤ 9223372036854775807 := by
  rcases Go.Deep.open_slice Try.underlying36 h with ⟨hcs, _⟩ | ⟨ad, l, c, m, n, D, Pl, hcs, hb, hl, hm, hmm, _, hx⟩
  · simp at hcs
    exact ⟨none, [], 0, hcs, ⟨by simp, .inl rfl⟩, by simp⟩
  · simp at hcs
    have hlm : l ≤ m := by rw [hmm]; split <;> omega
    have c5 : Try.prog.cellsOf 5 = 1 := by kernel_rfl
    rw [c5] at hx
    have each : ∀ i, i < l → ∃ k : Int, W.cells? base (ad.add (i * 1)) 1 = some [.int .u8 k] ∧ 0 ≤ k ∧ k ≤ 255 := by
      intro i hi
      obtain ⟨cs', h1, h2⟩ := hx i (by omega)
      obtain ⟨k, rfl, _, hwf⟩ := DataW.trod_int Try.underlying5 h2
      have := bounds_u8 hwf
      exact ⟨k, h1, by omega, by omega⟩
    by_cases h0 : l = 0
    · subst h0
      exact ⟨some ad, [], c, hcs, ⟨by simp, .inl rfl⟩, by simp⟩
    · obtain ⟨R, hR⟩ := Go.Deep.choose_lt each
      have hcell : ∀ i, i < l → W.cell? (ad.add i) = some (.int .u8 (R i)) := by
        intro i hi
        obtain ⟨_, _, hc⟩ := World.cells?_some (hR i hi).1
        have := hc 0 (by omega)
        rw [Nat.mul_one] at this
        rw [show ad.add i = (ad.add i).add 0 by simp [Addr.add], this]; rfl
      have hc0 := hcell 0 (by omega)
      obtain ⟨b, o, sp⟩ := ad
      have hs : sp = none := by simpa [Addr.add] using World.cell?_spot hc0
      subst hs
      have hbl : b < W.heap.size := by
        have := World.cells?_block (hR 0 (by omega)).1 (by omega)
        simpa [Addr.add] using this
      refine ⟨_, (List.range l).map R, c, by simpa using hcs, ⟨?_, .inr ⟨b, o, rfl, hbl, fun k hk => ?_⟩⟩, by unfold maxLen at hm; simp; omega⟩
      · intro x hx'
        obtain ⟨i, hi, rfl⟩ := List.mem_map.1 hx'
        exact (hR i (List.mem_range.1 hi)).2
      · have hk' : k < l := by simpa using hk
        have e : ((List.range l).map R).getD k 0 = R k := by rw [getD_get _ _ hk]; simp
        rw [e, ← hcell k hk', add_eq]
theorem cal_of {fuel : Nat} {cs : List Value} {x : DataW H × List MemPlace} (h : DataW.trod enc Try.prog W base spare held fuel 38 cs = some x) :
    ∃ (wk : Int) (a : Option Addr) (D : List Int) (cap : Nat), cs = [.int .u8 wk, .slice a D.length cap] ∧ 0 ≤ wk ∧ wk ≤ 255 ∧ U8Sl W a D ∧ D.length ≤ 9223372036854775807 := by
  obtain ⟨xs, n, rfl, rfl, hl, hx, hf⟩ := DataW.trod_struct Try.underlying38 h
  have c38 : Try.prog.cellsOf 38 = 2 := by kernel_rfl
  have c5 : Try.prog.cellsOf 5 = 1 := by kernel_rfl
  have c36 : Try.prog.cellsOf 36 = 1 := by kernel_rfl
  rw [c38] at hl
  obtain ⟨v0, v1, rfl⟩ := len2 hl
  have hx' : xs.length = 2 := hx
  have g0 : DataW.trod enc Try.prog W base spare held n 5 (([v0, v1].drop 0).take (Try.prog.cellsOf 5)) = xs[0]? := hf 0 _ rfl
  have g1 : DataW.trod enc Try.prog W base spare held n 36 (([v0, v1].drop 1).take (Try.prog.cellsOf 36)) = xs[1]? := hf 1 _ rfl
  rw [c5] at g0
  rw [c36] at g1
  rw [List.getElem?_eq_getElem (by omega)] at g0 g1
  obtain ⟨wk, e0, _, hwf⟩ := DataW.trod_int Try.underlying5 g0
  obtain ⟨a, D, cap, e1, hU, hDl⟩ := u8_of (v := v1) g1
  have := bounds_u8 hwf
  have e0' : v0 = .int .u8 wk := by simpa using e0
  subst e0' e1
  exact ⟨wk, a, D, cap, rfl, by omega, by omega, hU, hDl⟩
end
end Go.Proofs.Ytjikgoeinilnjaa
