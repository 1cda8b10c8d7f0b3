/- Plain laws on Find: rules behind the table. -/
import Derived.Test.YtjikgoeinilnjaaWF
namespace Go.Proofs.Ytjikgoeinilnjaa
open Go.RowKit

theorem findS_inv (L : List Rule) (a b c : Int) : findS L a b c = (zr, -1) ∨ (holdsB (findS L a b c).1 a b c = true ∧ (findS L a b c).2 = rw3 (findS L a b c).1) := by
  have key : ∀ (L : List Rule) (s : Rule × Int), (s = (zr, -1) ∨ (holdsB s.1 a b c = true ∧ s.2 = rw3 s.1)) → (L.foldl (stepF a b c) s = (zr, -1) ∨ (holdsB (L.foldl (stepF a b c) s).1 a b c = true ∧ (L.foldl (stepF a b c) s).2 = rw3 (L.foldl (stepF a b c) s).1)) := by
    intro L
    induction L with
    | nil => intro s h; exact h
    | cons r L ih =>
      intro s h
      rw [List.foldl_cons]
      apply ih
      by_cases hs : s.2 < weightI r a b c
      · rw [stepF_yes hs]
        by_cases hh : holdsB r a b c = true
        case neg =>
          rw [wI_not (by simpa using hh)] at hs
          rcases h with rfl | ⟨_, h2⟩
          · simp at hs
          · have := rw3_pos s.1; omega
        case pos => exact .inr ⟨hh, wI_hold hh⟩
      · rw [stepF_no hs]; exact h
  exact key L _ (.inl rfl)
theorem findS_app (L E : List Rule) (a b c : Int) (h : ∀ r ∈ E, weightI r a b c ≤ (findS L a b c).2) : findS (L ++ E) a b c = findS L a b c := by
  rw [findS, List.foldl_append]
  show E.foldl (stepF a b c) (findS L a b c) = _
  generalize findS L a b c = s at *
  induction E with
  | nil => rfl
  | cons r E ih =>
    rw [List.foldl_cons, stepF_no (by have := h r (by simp); omega)]
    exact ih fun r' hr' => h r' (by simp [hr'])
end Go.Proofs.Ytjikgoeinilnjaa
