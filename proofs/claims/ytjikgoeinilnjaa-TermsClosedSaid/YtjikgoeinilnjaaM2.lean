/- Plain laws on the first open day. -/
import Derived.Test.YtjikgoeinilnjaaWJ
namespace Go.Proofs.Ytjikgoeinilnjaa
open Go.RowKit

theorem nextF_true (c : Cal) (n : Nat) : ∀ (y p : Int), nextF c n y = (p, true) → y ≤ p ∧ p < y + n ∧ openB c p = true ∧ ∀ q, y ≤ q → q < p → openB c q = false := by
  induction n with
  | zero => intro y p h; simp [nextF] at h
  | succ n ih =>
    intro y p h
    rw [nextF] at h
    split at h
    · simp at h
    · split at h
      · rename_i ho
        simp only [Prod.mk.injEq, and_true] at h
        subst h
        exact ⟨Int.le_refl _, by omega, ho, fun q h1 h2 => by omega⟩
      · rename_i ho
        obtain ⟨h1, h2, h3, h4⟩ := ih _ _ h
        refine ⟨by omega, by omega, h3, fun q hq1 hq2 => ?_⟩
        by_cases e : q = y
        · subst e; simpa using ho
        · exact h4 q (by omega) hq2
theorem nextF_false (c : Cal) (n : Nat) : ∀ (y p : Int), nextF c n y = (p, false) → p = 0 ∧ (y + n ≤ 2932897 → ∀ q, y ≤ q → q < y + n → openB c q = false) := by
  induction n with
  | zero => intro y p h; simp [nextF] at h; exact ⟨h.symm, fun _ q h1 h2 => by omega⟩
  | succ n ih =>
    intro y p h
    rw [nextF] at h
    split at h
    · rename_i hy
      simp at h
      exact ⟨h.symm, fun h' => by omega⟩
    · split at h
      · simp at h
      · rename_i ho
        obtain ⟨h1, h2⟩ := ih _ _ h
        refine ⟨h1, fun h' q hq1 hq2 => ?_⟩
        by_cases e : q = y
        · subst e; simpa using ho
        · exact h2 (by omega) q (by omega) (by omega)
theorem and127 (wk : Int) (h0 : 0 ≤ wk) (h1 : wk ≤ 255) : bits .and .u8 wk 127 = wk % 128 := by
  rw [u8_and wk 127 h0 (by omega) (by omega) (by omega)]
  have e : (127 : Int).toNat = 2 ^ 7 - 1 := rfl
  rw [e, Nat.and_two_pow_sub_one_eq_mod]
  omega
theorem week_all (wk : Int) (fr : Int) (D : List Int) (h0 : 0 ≤ wk) (h1 : wk ≤ 255) (h : ∀ i, i < 7 → (calM wk fr D).wk i = true) : wk % 128 = 127 := by
  have b0 := h 0 (by omega)
  have b1 := h 1 (by omega)
  have b2 := h 2 (by omega)
  have b3 := h 3 (by omega)
  have b4 := h 4 (by omega)
  have b5 := h 5 (by omega)
  have b6 := h 6 (by omega)
  simp [Cal.wk, calM, bitB] at b0 b1 b2 b3 b4 b5 b6
  omega
theorem all_closed (c : Cal) (y : Int) (hd : c.days = []) (h0 : -700000 ≤ y) (h1 : y ≤ 2900000) (h : ∀ q, y ≤ q → q < y + 400 → openB c q = false) : ∀ i, i < 7 → c.wk i = true := by
  intro i hi
  obtain ⟨q, hq1, hq2, hq3⟩ : ∃ q, y ≤ q ∧ q < y + 7 ∧ wkd q = (i : Int) := by
    refine ⟨y + ((i : Int) - wkd y) % 7, ?_, ?_, ?_⟩ <;> unfold wkd <;> omega
  have := h q hq1 (by omega)
  have hx : exB q = true := by rw [exB_iff]; omega
  have e : (wkd q).toNat = i := by omega
  simp [openB, hx, hd, e] at this
  exact this
end Go.Proofs.Ytjikgoeinilnjaa
