/- A drawn region shown apart by two values; the ends of a row. -/
import Derived.Test.YtdojgbpaheadnaaGreatQRX
set_option linter.unusedVariables false
set_option linter.unusedSimpArgs false

namespace Go.Proofs.YtdojgbpaheadnaaGreat
open Go.RowKit Go.Shelf Go.Maps

theorem wpAnyH_apartVV {P : Program} {md : Region.Mode} {ops : Array Oper} {Q : Exit → Act → World → Prop} {S : World → Prop} {fuel : Nat} {L : Array Bool} {a : Act} {w : World} {a1 : Value → Value → Act} (F : Value → World → Prop)
  (take : ∀ R : Act → World → Prop, (∀ x g w', F g w' → R (a1 x g) w') → wpAnyH P md ops (only R) S fuel L a w) (rest : ∀ x g w', F g w' → Q .normal (a1 x g) w') : wpAnyH P md ops Q S fuel L a w :=
 wpAnyH_mono (fun _ _ _ h => nomatch h.1) (fun ⟨_, _, h⟩ => nomatch h.1) (fun _ _ h => h.2) fuel L a w (take (Q .normal) rest)
theorem src_drop' {W : World} {g n z k o : Nat} {xs : List Value} (ho : o = k * z) (hl : xs.length = n * z) (hk : k ≤ n) (h : ∀ j u, xs[j]? = some u → W.cell? ⟨g, j, none⟩ = some u) {m : Nat} (hm : m = n - k) {c : Nat} : Src W z m (xs.drop (k * z)) (.slice (some ⟨g, o, none⟩) m c) := by
 subst hm; exact src_drop ho hl hk h
theorem src_none' {W : World} {z n k : Nat} {xs : List Value} (hl : xs.length = n * z) (hk : n ≤ k) {m : Nat} (hm : m = 0) (a : Option Addr) (c : Nat) : Src W z m (xs.drop (k * z)) (.slice a 0 c) := by
 subst hm
 have e : xs.drop (k * z) = [] := List.drop_of_length_le (by rw [hl]; exact Nat.mul_le_mul_right z hk)
 rw [e]
 cases a with
 | none => exact .inl ⟨c, rfl, rfl, rfl⟩
 | some ad => exact .inr ⟨ad, c, rfl, by simp, fun j u hu => by simp at hu⟩
end Go.Proofs.YtdojgbpaheadnaaGreat
