/- Nil machines, and zero ones. -/
import Derived.Test.YtdojgbpaheadnaaGreatQKD
import Derived.Test.YtdojgbpaheadnaaGreatQHDa
import Derived.Test.YtdojgbpaheadnaaGreatQHE
import Derived.Test.YtdojgbpaheadnaaGreatQBT
import Derived.Test.YtdojgbpaheadnaaGreatQRS
import Derived.Test.YtdojgbpaheadnaaGreatQLG
import Derived.Test.YtdojgbpaheadnaaGreatQAD
import Derived.Test.YtdojgbpaheadnaaGreatQRV
set_option linter.unusedVariables false
set_option linter.unusedSimpArgs false

namespace Go.Proofs.YtdojgbpaheadnaaGreat
open Go.RowKit Go.Shelf Go.Maps

set_option maxRecDepth 100000 in
theorem nil_ask (n t : Int) (w : World) : Calls Tryz.prog 20 #[.pointer none, i64 n, i64 t] w fun e w' => e = .returned (.tuple #[.slice none 0 0, i64 1]) ∧ Below w.heap.size w w' := by
  go_enter Tryz.func20, Tryz.ntmps20
  go_wp2_with fail
  go_ret2
  exact ⟨rfl, Below.refl _ _⟩
set_option maxRecDepth 100000 in
theorem nil_ret (n : Int) (w : World) : Calls Tryz.prog 21 #[.pointer none, i64 n] w fun e w' => e = .returned (.tuple #[.slice none 0 0, i64 1]) ∧ Below w.heap.size w w' := by
  go_enter Tryz.func21, Tryz.ntmps21
  go_wp2_with fail
  go_ret2
  exact ⟨rfl, Below.refl _ _⟩
set_option maxRecDepth 100000 in
theorem nil_takeA (m : Msg) (w : World) : Calls Tryz.prog 22 #[.pointer none, .agg (encM m)] w fun e w' => e = .returned (.slice none 0 0) ∧ Below w.heap.size w w' := by
  obtain ⟨f, t, n, x⟩ := m
  unfold encM
  go_enter Tryz.func22, Tryz.ntmps22
  go_wp2_with fail
  go_ret
  exact ⟨rfl, by first | exact Below.refl _ _ | exact (Below.refl _ _).alloc (Nat.le_refl _) _⟩
set_option maxRecDepth 100000 in
theorem nil_tickA (w : World) : Calls Tryz.prog 23 #[.pointer none] w fun e w' => e = .returned (.slice none 0 0) ∧ Below w.heap.size w w' := by
  go_enter Tryz.func23, Tryz.ntmps23
  go_wp2_with fail
  go_ret
  exact ⟨rfl, by first | exact Below.refl _ _ | exact (Below.refl _ _).alloc (Nat.le_refl _) _⟩
set_option maxRecDepth 100000 in
theorem nil_state (n : Int) (w : World) : Calls Tryz.prog 24 #[.pointer none, i64 n] w fun e w' => e = .returned (i64 0) ∧ Below w.heap.size w w' := by
  go_enter Tryz.func24, Tryz.ntmps24
  go_wp2_with fail
  go_ret
  exact ⟨rfl, by first | exact Below.refl _ _ | exact (Below.refl _ _).alloc (Nat.le_refl _) _⟩
set_option maxRecDepth 100000 in
theorem nil_hereA (w : World) : Calls Tryz.prog 25 #[.pointer none] w fun e w' => e = .returned (.slice none 0 0) ∧ Below w.heap.size w w' := by
  go_enter Tryz.func25, Tryz.ntmps25
  go_wp2_with fail
  go_ret
  exact ⟨rfl, by first | exact Below.refl _ _ | exact (Below.refl _ _).alloc (Nat.le_refl _) _⟩
set_option maxRecDepth 100000 in
theorem nil_takeB (m : Msg) (w : World) : Calls Tryz.prog 16 #[.pointer none, .agg (encM m)] w fun e w' => e = .returned (.slice none 0 0) ∧ Below w.heap.size w w' := by
  obtain ⟨f, t, n, x⟩ := m
  unfold encM
  go_enter Tryz.func16, Tryz.ntmps16
  go_wp2_with fail
  go_ret
  exact ⟨rfl, by first | exact Below.refl _ _ | exact (Below.refl _ _).alloc (Nat.le_refl _) _⟩
set_option maxRecDepth 100000 in
theorem nil_tickB (w : World) : Calls Tryz.prog 18 #[.pointer none] w fun e w' => e = .returned (.slice none 0 0) ∧ Below w.heap.size w w' := by
  go_enter Tryz.func18, Tryz.ntmps18
  go_wp2_with fail
  go_ret
  exact ⟨rfl, by first | exact Below.refl _ _ | exact (Below.refl _ _).alloc (Nat.le_refl _) _⟩
set_option maxRecDepth 100000 in
theorem nil_takeL (m : Msg) (w : World) : Calls Tryz.prog 26 #[.pointer none, .agg (encM m)] w fun e w' => e = .returned (.slice none 0 0) ∧ Below w.heap.size w w' := by
  obtain ⟨f, t, n, x⟩ := m
  unfold encM
  go_enter Tryz.func26, Tryz.ntmps26
  go_wp2_with fail
  go_ret
  exact ⟨rfl, by first | exact Below.refl _ _ | exact (Below.refl _ _).alloc (Nat.le_refl _) _⟩
set_option maxRecDepth 100000 in
theorem nil_tickL (w : World) : Calls Tryz.prog 27 #[.pointer none] w fun e w' => e = .returned (.slice none 0 0) ∧ Below w.heap.size w w' := by
  go_enter Tryz.func27, Tryz.ntmps27
  go_wp2_with fail
  go_ret
  exact ⟨rfl, by first | exact Below.refl _ _ | exact (Below.refl _ _).alloc (Nat.le_refl _) _⟩
set_option maxRecDepth 100000 in
theorem nil_hereL (w : World) : Calls Tryz.prog 28 #[.pointer none] w fun e w' => e = .returned (.slice none 0 0) ∧ Below w.heap.size w w' := by
  go_enter Tryz.func28, Tryz.ntmps28
  go_wp2_with fail
  go_ret
  exact ⟨rfl, by first | exact Below.refl _ _ | exact (Below.refl _ _).alloc (Nat.le_refl _) _⟩
/-! Zero ones. -/
theorem zeroAsk {w : World} {b : Nat} (h : Blk w b #[i64 0, i64 0, i64 0, .map none] 55) : AMem w b b ⟨0, 0, 0, []⟩ (.map none) 0 :=
  ⟨h, .inl ⟨rfl, rfl⟩, List.Pairwise.nil, Nat.le_refl _, ⟨by dsimp only; omega, by dsimp only; omega⟩, ⟨⟨by dsimp only; omega, by dsimp only; omega⟩, ⟨by dsimp only; omega, by dsimp only; omega⟩, fun q hq => (by cases hq)⟩, ⟨Nat.le_refl _, by omega⟩⟩
theorem zeroBrk {w : World} {b : Nat} (h : Blk w b #[i64 0, i64 0, .slice none 0 0, .map none] 58) : BMem w b b ⟨0, 0, [], []⟩ (.slice none 0 0) (.map none) [] (fun k => if k = b then 1 else 0) 0 :=
  ⟨h, World.ownsRow_nil _ _ _ _, rfl, .inl ⟨rfl, rfl⟩, fun g hg => (by simp at hg), List.Pairwise.nil, by (try dsimp only); rw [if_pos rfl], fun k hk => (by simp [Value.ownBlock] at hk), fun k hk => (by
    (try dsimp only at hk)
    by_cases e : k = b
    · subst e; exact ⟨Nat.le_refl _, h.lt⟩
    · rw [if_neg e] at hk; exact absurd rfl hk), List.Pairwise.nil, ⟨by dsimp only; omega, by dsimp only; omega⟩, ⟨⟨by dsimp only; omega, by dsimp only; omega⟩, by simp, fun x hx => (by cases hx), fun c hc => (by cases hc)⟩, ⟨Nat.le_refl _, by omega⟩⟩
theorem zeroLen {w : World} {b : Nat} (h : Blk w b #[i64 0, i64 0, .slice none 0 0, .map none] 61) : LMem w b b ⟨0, 0, [], []⟩ (.slice none 0 0) (.map none) 0 :=
  ⟨h, World.ownsRow_nil _ _ _ _, List.Pairwise.nil, .inl ⟨rfl, rfl⟩, by simp [Value.ownBlock], Nat.le_refl _, by dsimp only; omega, by dsimp only; simp, ⟨⟨by dsimp only; omega, by dsimp only; omega⟩, fun d hd => (by cases hd)⟩⟩
end Go.Proofs.YtdojgbpaheadnaaGreat
