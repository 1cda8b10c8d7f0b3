/- The reference's character. -/
import Derived.Test.YtpdldbapagchfaaGreatDoorQ23
set_option linter.unusedVariables false
set_option linter.unusedSimpArgs false

namespace Go.Proofs.YtpdldbapagchfaaGreatDoor
open Go.RowKit Go.Shelf Go.Maps

theorem tabC_nz {c : Nat} {t : List UInt8} (h : tabC c = some t) : t ≠ [] := by
  rw [← tabR_same] at h
  have key : ∀ {rows : List (List UInt8 × List Nat)}, (∀ r ∈ rows, r.1 ≠ []) → tabFirst rows c = some t → t ≠ [] := by
    intro rows
    induction rows with
    | nil => intro _ h; cases h
    | cons r rows ih =>
      intro hr h
      obtain ⟨s, l⟩ := r
      unfold tabFirst at h
      split at h
      · injection h with h; subst h; exact hr _ (List.mem_cons_self ..)
      · exact ih (fun r hr' => hr r (List.mem_cons_of_mem _ hr')) h
  refine key (fun r hr => ?_) h
  obtain ⟨x, hx, rfl⟩ := List.mem_map.1 hr
  have : ∀ r ∈ rowsR, r.1 ≠ [] := by decide +kernel
  exact this x hx
set_option maxRecDepth 100000 in
set_option maxHeartbeats 2000000 in
theorem chA0 (c : Nat) (w : World) (h : 0 ≤ c ∧ c ≤ 47) : Calls Tryz.prog 87 #[.int .i32 c] w fun e w' => e = .returned (.string (ofL (charP tabC c))) ∧ Below w.heap.size w w' := by
  have HR : RowKit.Hid (ofL (charP tabC c) = ⟨#[32]⟩) := Lib.hid (by unfold charP; rw [if_neg (by omega), if_neg (by omega), if_pos (by omega)]; rfl)
  have g0 : decide ((97 : Nat) ≤ c) = false := by simp; omega
  have f0 : decide ((97 : Int) ≤ (c : Int)) = false := by simp; omega
  have g1 : decide (c ≤ 122) = true := by simp; omega
  have f1 : decide ((c : Int) ≤ 122) = true := by simp; omega
  have g2 : decide ((48 : Nat) ≤ c) = false := by simp; omega
  have f2 : decide ((48 : Int) ≤ (c : Int)) = false := by simp; omega
  have g3 : decide (c ≤ 57) = true := by simp; omega
  have f3 : decide ((c : Int) ≤ 57) = true := by simp; omega
  have g4 : decide ((65 : Nat) ≤ c) = false := by simp; omega
  have f4 : decide ((65 : Int) ≤ (c : Int)) = false := by simp; omega
  have g5 : decide (c ≤ 90) = true := by simp; omega
  have f5 : decide ((c : Int) ≤ 90) = true := by simp; omega
  have g6 : decide (c < 128) = true := by simp; omega
  have f6 : decide ((c : Int) < 128) = true := by simp; omega
  clear h
  go_enter Tryz.func87, Tryz.ntmps87
  go_wp2_with fail
  go_ret
  exact ⟨by rw [HR.out]; rfl, Below.refl _ _⟩
set_option maxRecDepth 100000 in
set_option maxHeartbeats 2000000 in
theorem chA1 (c : Nat) (w : World) (h : 48 ≤ c ∧ c ≤ 57) : Calls Tryz.prog 87 #[.int .i32 c] w fun e w' => e = .returned (.string (ofL (charP tabC c))) ∧ Below w.heap.size w w' := by
  have HR : RowKit.Hid (ofL (charP tabC c) = Utf8.encode (c : Int)) := Lib.hid (by unfold charP; rw [if_pos (by omega)]; exact (encode_enc8 (by omega)).symm)
  have g0 : decide ((97 : Nat) ≤ c) = false := by simp; omega
  have f0 : decide ((97 : Int) ≤ (c : Int)) = false := by simp; omega
  have g1 : decide (c ≤ 122) = true := by simp; omega
  have f1 : decide ((c : Int) ≤ 122) = true := by simp; omega
  have g2 : decide ((48 : Nat) ≤ c) = true := by simp; omega
  have f2 : decide ((48 : Int) ≤ (c : Int)) = true := by simp; omega
  have g3 : decide (c ≤ 57) = true := by simp; omega
  have f3 : decide ((c : Int) ≤ 57) = true := by simp; omega
  have g4 : decide ((65 : Nat) ≤ c) = false := by simp; omega
  have f4 : decide ((65 : Int) ≤ (c : Int)) = false := by simp; omega
  have g5 : decide (c ≤ 90) = true := by simp; omega
  have f5 : decide ((c : Int) ≤ 90) = true := by simp; omega
  have g6 : decide (c < 128) = true := by simp; omega
  have f6 : decide ((c : Int) < 128) = true := by simp; omega
  have ho := fun W : World => one_rune W (c : Int) 21
  clear h
  go_enter Tryz.func87, Tryz.ntmps87
  go_wp2_with fail
  go_ret
  exact ⟨by rw [HR.out]; rfl, (Below.refl _ _).alloc (Nat.le_refl _) _⟩
set_option maxRecDepth 100000 in
set_option maxHeartbeats 2000000 in
theorem chA2 (c : Nat) (w : World) (h : 58 ≤ c ∧ c ≤ 64) : Calls Tryz.prog 87 #[.int .i32 c] w fun e w' => e = .returned (.string (ofL (charP tabC c))) ∧ Below w.heap.size w w' := by
  have HR : RowKit.Hid (ofL (charP tabC c) = ⟨#[32]⟩) := Lib.hid (by unfold charP; rw [if_neg (by omega), if_neg (by omega), if_pos (by omega)]; rfl)
  have g0 : decide ((97 : Nat) ≤ c) = false := by simp; omega
  have f0 : decide ((97 : Int) ≤ (c : Int)) = false := by simp; omega
  have g1 : decide (c ≤ 122) = true := by simp; omega
  have f1 : decide ((c : Int) ≤ 122) = true := by simp; omega
  have g2 : decide ((48 : Nat) ≤ c) = true := by simp; omega
  have f2 : decide ((48 : Int) ≤ (c : Int)) = true := by simp; omega
  have g3 : decide (c ≤ 57) = false := by simp; omega
  have f3 : decide ((c : Int) ≤ 57) = false := by simp; omega
  have g4 : decide ((65 : Nat) ≤ c) = false := by simp; omega
  have f4 : decide ((65 : Int) ≤ (c : Int)) = false := by simp; omega
  have g5 : decide (c ≤ 90) = true := by simp; omega
  have f5 : decide ((c : Int) ≤ 90) = true := by simp; omega
  have g6 : decide (c < 128) = true := by simp; omega
  have f6 : decide ((c : Int) < 128) = true := by simp; omega
  clear h
  go_enter Tryz.func87, Tryz.ntmps87
  go_wp2_with fail
  go_ret
  exact ⟨by rw [HR.out]; rfl, Below.refl _ _⟩
set_option maxRecDepth 100000 in
set_option maxHeartbeats 2000000 in
theorem chA3 (c : Nat) (w : World) (h : 65 ≤ c ∧ c ≤ 90) : Calls Tryz.prog 87 #[.int .i32 c] w fun e w' => e = .returned (.string (ofL (charP tabC c))) ∧ Below w.heap.size w w' := by
  have HR : RowKit.Hid (ofL (charP tabC c) = Utf8.encode ((c : Int) + 32)) := Lib.hid (by unfold charP; rw [if_neg (by omega), if_pos (by omega)]; have h8 := encode_enc8 (c := c + 32) (by omega); rw [← h8]; congr 1)
  have g0 : decide ((97 : Nat) ≤ c) = false := by simp; omega
  have f0 : decide ((97 : Int) ≤ (c : Int)) = false := by simp; omega
  have g1 : decide (c ≤ 122) = true := by simp; omega
  have f1 : decide ((c : Int) ≤ 122) = true := by simp; omega
  have g2 : decide ((48 : Nat) ≤ c) = true := by simp; omega
  have f2 : decide ((48 : Int) ≤ (c : Int)) = true := by simp; omega
  have g3 : decide (c ≤ 57) = false := by simp; omega
  have f3 : decide ((c : Int) ≤ 57) = false := by simp; omega
  have g4 : decide ((65 : Nat) ≤ c) = true := by simp; omega
  have f4 : decide ((65 : Int) ≤ (c : Int)) = true := by simp; omega
  have g5 : decide (c ≤ 90) = true := by simp; omega
  have f5 : decide ((c : Int) ≤ 90) = true := by simp; omega
  have g6 : decide (c < 128) = true := by simp; omega
  have f6 : decide ((c : Int) < 128) = true := by simp; omega
  have hw : IntKind.i32.wrap ((c : Int) + 32) = (c : Int) + 32 := by simp [IntKind.wrap, IntKind.bits, IntKind.signed]; omega
  have ho := fun W : World => one_rune W ((c : Int) + 32) 21
  clear h
  go_enter Tryz.func87, Tryz.ntmps87
  go_wp2_with fail
  go_ret
  exact ⟨by rw [HR.out]; rfl, (Below.refl _ _).alloc (Nat.le_refl _) _⟩
set_option maxRecDepth 100000 in
set_option maxHeartbeats 2000000 in
theorem chA4 (c : Nat) (w : World) (h : 91 ≤ c ∧ c ≤ 96) : Calls Tryz.prog 87 #[.int .i32 c] w fun e w' => e = .returned (.string (ofL (charP tabC c))) ∧ Below w.heap.size w w' := by
  have HR : RowKit.Hid (ofL (charP tabC c) = ⟨#[32]⟩) := Lib.hid (by unfold charP; rw [if_neg (by omega), if_neg (by omega), if_pos (by omega)]; rfl)
  have g0 : decide ((97 : Nat) ≤ c) = false := by simp; omega
  have f0 : decide ((97 : Int) ≤ (c : Int)) = false := by simp; omega
  have g1 : decide (c ≤ 122) = true := by simp; omega
  have f1 : decide ((c : Int) ≤ 122) = true := by simp; omega
  have g2 : decide ((48 : Nat) ≤ c) = true := by simp; omega
  have f2 : decide ((48 : Int) ≤ (c : Int)) = true := by simp; omega
  have g3 : decide (c ≤ 57) = false := by simp; omega
  have f3 : decide ((c : Int) ≤ 57) = false := by simp; omega
  have g4 : decide ((65 : Nat) ≤ c) = true := by simp; omega
  have f4 : decide ((65 : Int) ≤ (c : Int)) = true := by simp; omega
  have g5 : decide (c ≤ 90) = false := by simp; omega
  have f5 : decide ((c : Int) ≤ 90) = false := by simp; omega
  have g6 : decide (c < 128) = true := by simp; omega
  have f6 : decide ((c : Int) < 128) = true := by simp; omega
  clear h
  go_enter Tryz.func87, Tryz.ntmps87
  go_wp2_with fail
  go_ret
  exact ⟨by rw [HR.out]; rfl, Below.refl _ _⟩
set_option maxRecDepth 100000 in
set_option maxHeartbeats 2000000 in
theorem chA5 (c : Nat) (w : World) (h : 97 ≤ c ∧ c ≤ 122) : Calls Tryz.prog 87 #[.int .i32 c] w fun e w' => e = .returned (.string (ofL (charP tabC c))) ∧ Below w.heap.size w w' := by
  have HR : RowKit.Hid (ofL (charP tabC c) = Utf8.encode (c : Int)) := Lib.hid (by unfold charP; rw [if_pos (by omega)]; exact (encode_enc8 (by omega)).symm)
  have g0 : decide ((97 : Nat) ≤ c) = true := by simp; omega
  have f0 : decide ((97 : Int) ≤ (c : Int)) = true := by simp; omega
  have g1 : decide (c ≤ 122) = true := by simp; omega
  have f1 : decide ((c : Int) ≤ 122) = true := by simp; omega
  have g2 : decide ((48 : Nat) ≤ c) = true := by simp; omega
  have f2 : decide ((48 : Int) ≤ (c : Int)) = true := by simp; omega
  have g3 : decide (c ≤ 57) = false := by simp; omega
  have f3 : decide ((c : Int) ≤ 57) = false := by simp; omega
  have g4 : decide ((65 : Nat) ≤ c) = true := by simp; omega
  have f4 : decide ((65 : Int) ≤ (c : Int)) = true := by simp; omega
  have g5 : decide (c ≤ 90) = false := by simp; omega
  have f5 : decide ((c : Int) ≤ 90) = false := by simp; omega
  have g6 : decide (c < 128) = true := by simp; omega
  have f6 : decide ((c : Int) < 128) = true := by simp; omega
  have ho := fun W : World => one_rune W (c : Int) 21
  clear h
  go_enter Tryz.func87, Tryz.ntmps87
  go_wp2_with fail
  go_ret
  exact ⟨by rw [HR.out]; rfl, (Below.refl _ _).alloc (Nat.le_refl _) _⟩
set_option maxRecDepth 100000 in
set_option maxHeartbeats 2000000 in
theorem chA6 (c : Nat) (w : World) (h : 123 ≤ c ∧ c ≤ 127) : Calls Tryz.prog 87 #[.int .i32 c] w fun e w' => e = .returned (.string (ofL (charP tabC c))) ∧ Below w.heap.size w w' := by
  have HR : RowKit.Hid (ofL (charP tabC c) = ⟨#[32]⟩) := Lib.hid (by unfold charP; rw [if_neg (by omega), if_neg (by omega), if_pos (by omega)]; rfl)
  have g0 : decide ((97 : Nat) ≤ c) = true := by simp; omega
  have f0 : decide ((97 : Int) ≤ (c : Int)) = true := by simp; omega
  have g1 : decide (c ≤ 122) = false := by simp; omega
  have f1 : decide ((c : Int) ≤ 122) = false := by simp; omega
  have g2 : decide ((48 : Nat) ≤ c) = true := by simp; omega
  have f2 : decide ((48 : Int) ≤ (c : Int)) = true := by simp; omega
  have g3 : decide (c ≤ 57) = false := by simp; omega
  have f3 : decide ((c : Int) ≤ 57) = false := by simp; omega
  have g4 : decide ((65 : Nat) ≤ c) = true := by simp; omega
  have f4 : decide ((65 : Int) ≤ (c : Int)) = true := by simp; omega
  have g5 : decide (c ≤ 90) = false := by simp; omega
  have f5 : decide ((c : Int) ≤ 90) = false := by simp; omega
  have g6 : decide (c < 128) = true := by simp; omega
  have f6 : decide ((c : Int) < 128) = true := by simp; omega
  clear h
  go_enter Tryz.func87, Tryz.ntmps87
  go_wp2_with fail
  go_ret
  exact ⟨by rw [HR.out]; rfl, Below.refl _ _⟩
set_option maxRecDepth 100000 in
set_option maxHeartbeats 2000000 in
theorem chA7 (c : Nat) (w : World) (h : 768 ≤ c ∧ c ≤ 879) : Calls Tryz.prog 87 #[.int .i32 c] w fun e w' => e = .returned (.string (ofL (charP tabC c))) ∧ Below w.heap.size w w' := by
  have HR : RowKit.Hid (ofL (charP tabC c) = ⟨#[]⟩) := Lib.hid (by unfold charP; rw [if_neg (by omega), if_neg (by omega), if_neg (by omega), if_pos (by omega)]; rfl)
  have g0 : decide ((97 : Nat) ≤ c) = true := by simp; omega
  have f0 : decide ((97 : Int) ≤ (c : Int)) = true := by simp; omega
  have g1 : decide (c ≤ 122) = false := by simp; omega
  have f1 : decide ((c : Int) ≤ 122) = false := by simp; omega
  have g2 : decide ((48 : Nat) ≤ c) = true := by simp; omega
  have f2 : decide ((48 : Int) ≤ (c : Int)) = true := by simp; omega
  have g3 : decide (c ≤ 57) = false := by simp; omega
  have f3 : decide ((c : Int) ≤ 57) = false := by simp; omega
  have g4 : decide ((65 : Nat) ≤ c) = true := by simp; omega
  have f4 : decide ((65 : Int) ≤ (c : Int)) = true := by simp; omega
  have g5 : decide (c ≤ 90) = false := by simp; omega
  have f5 : decide ((c : Int) ≤ 90) = false := by simp; omega
  have g6 : decide (c < 128) = false := by simp; omega
  have f6 : decide ((c : Int) < 128) = false := by simp; omega
  have g7 : decide ((768 : Nat) ≤ c) = true := by simp; omega
  have f7 : decide ((768 : Int) ≤ (c : Int)) = true := by simp; omega
  have g8 : decide (c ≤ 879) = true := by simp; omega
  have f8 : decide ((c : Int) ≤ 879) = true := by simp; omega
  have g9 : decide ((65056 : Nat) ≤ c) = false := by simp; omega
  have f9 : decide ((65056 : Int) ≤ (c : Int)) = false := by simp; omega
  have g10 : decide (c ≤ 65071) = true := by simp; omega
  have f10 : decide ((c : Int) ≤ 65071) = true := by simp; omega
  clear h
  go_enter Tryz.func87, Tryz.ntmps87
  go_wp2_with fail
  go_ret
  exact ⟨by rw [HR.out]; rfl, Below.refl _ _⟩
set_option maxRecDepth 100000 in
set_option maxHeartbeats 2000000 in
theorem chA8 (c : Nat) (w : World) (h : 65056 ≤ c ∧ c ≤ 65071) : Calls Tryz.prog 87 #[.int .i32 c] w fun e w' => e = .returned (.string (ofL (charP tabC c))) ∧ Below w.heap.size w w' := by
  have HR : RowKit.Hid (ofL (charP tabC c) = ⟨#[]⟩) := Lib.hid (by unfold charP; rw [if_neg (by omega), if_neg (by omega), if_neg (by omega), if_pos (by omega)]; rfl)
  have g0 : decide ((97 : Nat) ≤ c) = true := by simp; omega
  have f0 : decide ((97 : Int) ≤ (c : Int)) = true := by simp; omega
  have g1 : decide (c ≤ 122) = false := by simp; omega
  have f1 : decide ((c : Int) ≤ 122) = false := by simp; omega
  have g2 : decide ((48 : Nat) ≤ c) = true := by simp; omega
  have f2 : decide ((48 : Int) ≤ (c : Int)) = true := by simp; omega
  have g3 : decide (c ≤ 57) = false := by simp; omega
  have f3 : decide ((c : Int) ≤ 57) = false := by simp; omega
  have g4 : decide ((65 : Nat) ≤ c) = true := by simp; omega
  have f4 : decide ((65 : Int) ≤ (c : Int)) = true := by simp; omega
  have g5 : decide (c ≤ 90) = false := by simp; omega
  have f5 : decide ((c : Int) ≤ 90) = false := by simp; omega
  have g6 : decide (c < 128) = false := by simp; omega
  have f6 : decide ((c : Int) < 128) = false := by simp; omega
  have g7 : decide ((768 : Nat) ≤ c) = true := by simp; omega
  have f7 : decide ((768 : Int) ≤ (c : Int)) = true := by simp; omega
  have g8 : decide (c ≤ 879) = false := by simp; omega
  have f8 : decide ((c : Int) ≤ 879) = false := by simp; omega
  have g9 : decide ((65056 : Nat) ≤ c) = true := by simp; omega
  have f9 : decide ((65056 : Int) ≤ (c : Int)) = true := by simp; omega
  have g10 : decide (c ≤ 65071) = true := by simp; omega
  have f10 : decide ((c : Int) ≤ 65071) = true := by simp; omega
  clear h
  go_enter Tryz.func87, Tryz.ntmps87
  go_wp2_with fail
  go_ret
  exact ⟨by rw [HR.out]; rfl, Below.refl _ _⟩
set_option maxRecDepth 100000 in
set_option maxHeartbeats 2000000 in
theorem chB0 (c : Nat) (w : World) (h : 128 ≤ c ∧ c ≤ 767) {t : List UInt8} (ht : tabC c = some t) : Calls Tryz.prog 87 #[.int .i32 c] w fun e w' => e = .returned (.string (ofL (charP tabC c))) ∧ Below w.heap.size w w' := by
  have HR : RowKit.Hid (ofL (charP tabC c) = ofL t) := Lib.hid (by unfold charP; rw [if_neg (by omega), if_neg (by omega), if_neg (by omega), if_neg (by omega), ht])
  have g0 : decide ((97 : Nat) ≤ c) = true := by simp; omega
  have f0 : decide ((97 : Int) ≤ (c : Int)) = true := by simp; omega
  have g1 : decide (c ≤ 122) = false := by simp; omega
  have f1 : decide ((c : Int) ≤ 122) = false := by simp; omega
  have g2 : decide ((48 : Nat) ≤ c) = true := by simp; omega
  have f2 : decide ((48 : Int) ≤ (c : Int)) = true := by simp; omega
  have g3 : decide (c ≤ 57) = false := by simp; omega
  have f3 : decide ((c : Int) ≤ 57) = false := by simp; omega
  have g4 : decide ((65 : Nat) ≤ c) = true := by simp; omega
  have f4 : decide ((65 : Int) ≤ (c : Int)) = true := by simp; omega
  have g5 : decide (c ≤ 90) = false := by simp; omega
  have f5 : decide ((c : Int) ≤ 90) = false := by simp; omega
  have g6 : decide (c < 128) = false := by simp; omega
  have f6 : decide ((c : Int) < 128) = false := by simp; omega
  have g7 : decide ((768 : Nat) ≤ c) = false := by simp; omega
  have f7 : decide ((768 : Int) ≤ (c : Int)) = false := by simp; omega
  have g8 : decide (c ≤ 879) = true := by simp; omega
  have f8 : decide ((c : Int) ≤ 879) = true := by simp; omega
  have g9 : decide ((65056 : Nat) ≤ c) = false := by simp; omega
  have f9 : decide ((65056 : Int) ≤ (c : Int)) = false := by simp; omega
  have g10 : decide (c ≤ 65071) = true := by simp; omega
  have f10 : decide ((c : Int) ≤ 65071) = true := by simp; omega
  obtain ⟨s, hs⟩ : ∃ s, s = letS (tabC c) := ⟨_, rfl⟩
  have HL : RowKit.Hid (∀ W, Calls Tryz.prog 103 #[.int .i32 (c : Int)] W fun e w' => e = .returned (.string s) ∧ Below W.heap.size W w') := Lib.hid fun W => by rw [hs]; exact letterR_any c W
  rw [ht] at hs
  have hne := tabC_nz ht
  have hl : s.toList = t := by rw [hs]; exact ByteArray.toList_eq _
  have e1 : s.toList.isEmpty = false := by rw [hl]; cases t with
    | nil => exact absurd rfl hne
    | cons a b => rfl
  have e2 : (s.toList != []) = true := by rw [hl]; cases t with
    | nil => exact absurd rfl hne
    | cons a b => rfl
  have HS : RowKit.Hid (s = ofL t) := Lib.hid hs
  clear hs hne hl ht
  clear h
  go_enter Tryz.func87, Tryz.ntmps87
  go_wp2_with fail
  refine (HL.out _).mono ?_
  rintro e w1 ⟨rfl, hb⟩
  have HB := Lib.hid hb
  clear hb HL
  go_wp2_with fail
  go_ret
  exact ⟨by rw [HR.out, ← HS.out]; rfl, HB.out⟩
set_option maxRecDepth 100000 in
set_option maxHeartbeats 2000000 in
theorem chB1 (c : Nat) (w : World) (h : 880 ≤ c ∧ c ≤ 65055) {t : List UInt8} (ht : tabC c = some t) : Calls Tryz.prog 87 #[.int .i32 c] w fun e w' => e = .returned (.string (ofL (charP tabC c))) ∧ Below w.heap.size w w' := by
  have HR : RowKit.Hid (ofL (charP tabC c) = ofL t) := Lib.hid (by unfold charP; rw [if_neg (by omega), if_neg (by omega), if_neg (by omega), if_neg (by omega), ht])
  have g0 : decide ((97 : Nat) ≤ c) = true := by simp; omega
  have f0 : decide ((97 : Int) ≤ (c : Int)) = true := by simp; omega
  have g1 : decide (c ≤ 122) = false := by simp; omega
  have f1 : decide ((c : Int) ≤ 122) = false := by simp; omega
  have g2 : decide ((48 : Nat) ≤ c) = true := by simp; omega
  have f2 : decide ((48 : Int) ≤ (c : Int)) = true := by simp; omega
  have g3 : decide (c ≤ 57) = false := by simp; omega
  have f3 : decide ((c : Int) ≤ 57) = false := by simp; omega
  have g4 : decide ((65 : Nat) ≤ c) = true := by simp; omega
  have f4 : decide ((65 : Int) ≤ (c : Int)) = true := by simp; omega
  have g5 : decide (c ≤ 90) = false := by simp; omega
  have f5 : decide ((c : Int) ≤ 90) = false := by simp; omega
  have g6 : decide (c < 128) = false := by simp; omega
  have f6 : decide ((c : Int) < 128) = false := by simp; omega
  have g7 : decide ((768 : Nat) ≤ c) = true := by simp; omega
  have f7 : decide ((768 : Int) ≤ (c : Int)) = true := by simp; omega
  have g8 : decide (c ≤ 879) = false := by simp; omega
  have f8 : decide ((c : Int) ≤ 879) = false := by simp; omega
  have g9 : decide ((65056 : Nat) ≤ c) = false := by simp; omega
  have f9 : decide ((65056 : Int) ≤ (c : Int)) = false := by simp; omega
  have g10 : decide (c ≤ 65071) = true := by simp; omega
  have f10 : decide ((c : Int) ≤ 65071) = true := by simp; omega
  obtain ⟨s, hs⟩ : ∃ s, s = letS (tabC c) := ⟨_, rfl⟩
  have HL : RowKit.Hid (∀ W, Calls Tryz.prog 103 #[.int .i32 (c : Int)] W fun e w' => e = .returned (.string s) ∧ Below W.heap.size W w') := Lib.hid fun W => by rw [hs]; exact letterR_any c W
  rw [ht] at hs
  have hne := tabC_nz ht
  have hl : s.toList = t := by rw [hs]; exact ByteArray.toList_eq _
  have e1 : s.toList.isEmpty = false := by rw [hl]; cases t with
    | nil => exact absurd rfl hne
    | cons a b => rfl
  have e2 : (s.toList != []) = true := by rw [hl]; cases t with
    | nil => exact absurd rfl hne
    | cons a b => rfl
  have HS : RowKit.Hid (s = ofL t) := Lib.hid hs
  clear hs hne hl ht
  clear h
  go_enter Tryz.func87, Tryz.ntmps87
  go_wp2_with fail
  refine (HL.out _).mono ?_
  rintro e w1 ⟨rfl, hb⟩
  have HB := Lib.hid hb
  clear hb HL
  go_wp2_with fail
  go_ret
  exact ⟨by rw [HR.out, ← HS.out]; rfl, HB.out⟩
set_option maxRecDepth 100000 in
set_option maxHeartbeats 2000000 in
theorem chB2 (c : Nat) (w : World) (h : 65072 ≤ c ∧ c ≤ 2147483647) {t : List UInt8} (ht : tabC c = some t) : Calls Tryz.prog 87 #[.int .i32 c] w fun e w' => e = .returned (.string (ofL (charP tabC c))) ∧ Below w.heap.size w w' := by
  have HR : RowKit.Hid (ofL (charP tabC c) = ofL t) := Lib.hid (by unfold charP; rw [if_neg (by omega), if_neg (by omega), if_neg (by omega), if_neg (by omega), ht])
  have g0 : decide ((97 : Nat) ≤ c) = true := by simp; omega
  have f0 : decide ((97 : Int) ≤ (c : Int)) = true := by simp; omega
  have g1 : decide (c ≤ 122) = false := by simp; omega
  have f1 : decide ((c : Int) ≤ 122) = false := by simp; omega
  have g2 : decide ((48 : Nat) ≤ c) = true := by simp; omega
  have f2 : decide ((48 : Int) ≤ (c : Int)) = true := by simp; omega
  have g3 : decide (c ≤ 57) = false := by simp; omega
  have f3 : decide ((c : Int) ≤ 57) = false := by simp; omega
  have g4 : decide ((65 : Nat) ≤ c) = true := by simp; omega
  have f4 : decide ((65 : Int) ≤ (c : Int)) = true := by simp; omega
  have g5 : decide (c ≤ 90) = false := by simp; omega
  have f5 : decide ((c : Int) ≤ 90) = false := by simp; omega
  have g6 : decide (c < 128) = false := by simp; omega
  have f6 : decide ((c : Int) < 128) = false := by simp; omega
  have g7 : decide ((768 : Nat) ≤ c) = true := by simp; omega
  have f7 : decide ((768 : Int) ≤ (c : Int)) = true := by simp; omega
  have g8 : decide (c ≤ 879) = false := by simp; omega
  have f8 : decide ((c : Int) ≤ 879) = false := by simp; omega
  have g9 : decide ((65056 : Nat) ≤ c) = true := by simp; omega
  have f9 : decide ((65056 : Int) ≤ (c : Int)) = true := by simp; omega
  have g10 : decide (c ≤ 65071) = false := by simp; omega
  have f10 : decide ((c : Int) ≤ 65071) = false := by simp; omega
  obtain ⟨s, hs⟩ : ∃ s, s = letS (tabC c) := ⟨_, rfl⟩
  have HL : RowKit.Hid (∀ W, Calls Tryz.prog 103 #[.int .i32 (c : Int)] W fun e w' => e = .returned (.string s) ∧ Below W.heap.size W w') := Lib.hid fun W => by rw [hs]; exact letterR_any c W
  rw [ht] at hs
  have hne := tabC_nz ht
  have hl : s.toList = t := by rw [hs]; exact ByteArray.toList_eq _
  have e1 : s.toList.isEmpty = false := by rw [hl]; cases t with
    | nil => exact absurd rfl hne
    | cons a b => rfl
  have e2 : (s.toList != []) = true := by rw [hl]; cases t with
    | nil => exact absurd rfl hne
    | cons a b => rfl
  have HS : RowKit.Hid (s = ofL t) := Lib.hid hs
  clear hs hne hl ht
  clear h
  go_enter Tryz.func87, Tryz.ntmps87
  go_wp2_with fail
  refine (HL.out _).mono ?_
  rintro e w1 ⟨rfl, hb⟩
  have HB := Lib.hid hb
  clear hb HL
  go_wp2_with fail
  go_ret
  exact ⟨by rw [HR.out, ← HS.out]; rfl, HB.out⟩
set_option maxRecDepth 100000 in
set_option maxHeartbeats 2000000 in
theorem chC0 (c : Nat) (w : World) (h : 128 ≤ c ∧ c ≤ 767) (ht : tabC c = none) : Calls Tryz.prog 87 #[.int .i32 c] w fun e w' => e = .returned (.string (ofL (charP tabC c))) ∧ Below w.heap.size w w' := by
  have HR : RowKit.Hid (ofL (charP tabC c) = ⟨#[32]⟩) := Lib.hid (by unfold charP; rw [if_neg (by omega), if_neg (by omega), if_neg (by omega), if_neg (by omega), ht]; dsimp only; rw [if_neg (by omega), if_neg (by omega), if_neg (by omega)]; rfl)
  have g0 : decide ((97 : Nat) ≤ c) = true := by simp; omega
  have f0 : decide ((97 : Int) ≤ (c : Int)) = true := by simp; omega
  have g1 : decide (c ≤ 122) = false := by simp; omega
  have f1 : decide ((c : Int) ≤ 122) = false := by simp; omega
  have g2 : decide ((48 : Nat) ≤ c) = true := by simp; omega
  have f2 : decide ((48 : Int) ≤ (c : Int)) = true := by simp; omega
  have g3 : decide (c ≤ 57) = false := by simp; omega
  have f3 : decide ((c : Int) ≤ 57) = false := by simp; omega
  have g4 : decide ((65 : Nat) ≤ c) = true := by simp; omega
  have f4 : decide ((65 : Int) ≤ (c : Int)) = true := by simp; omega
  have g5 : decide (c ≤ 90) = false := by simp; omega
  have f5 : decide ((c : Int) ≤ 90) = false := by simp; omega
  have g6 : decide (c < 128) = false := by simp; omega
  have f6 : decide ((c : Int) < 128) = false := by simp; omega
  have g7 : decide ((768 : Nat) ≤ c) = false := by simp; omega
  have f7 : decide ((768 : Int) ≤ (c : Int)) = false := by simp; omega
  have g8 : decide (c ≤ 879) = true := by simp; omega
  have f8 : decide ((c : Int) ≤ 879) = true := by simp; omega
  have g9 : decide ((65056 : Nat) ≤ c) = false := by simp; omega
  have f9 : decide ((65056 : Int) ≤ (c : Int)) = false := by simp; omega
  have g10 : decide (c ≤ 65071) = true := by simp; omega
  have f10 : decide ((c : Int) ≤ 65071) = true := by simp; omega
  have g11 : decide ((945 : Nat) ≤ c) = false := by simp; omega
  have f11 : decide ((945 : Int) ≤ (c : Int)) = false := by simp; omega
  have g12 : decide (c ≤ 969) = true := by simp; omega
  have f12 : decide ((c : Int) ≤ 969) = true := by simp; omega
  have g13 : decide ((1072 : Nat) ≤ c) = false := by simp; omega
  have f13 : decide ((1072 : Int) ≤ (c : Int)) = false := by simp; omega
  have g14 : decide (c ≤ 1103) = true := by simp; omega
  have f14 : decide ((c : Int) ≤ 1103) = true := by simp; omega
  have g15 : decide ((913 : Nat) ≤ c) = false := by simp; omega
  have f15 : decide ((913 : Int) ≤ (c : Int)) = false := by simp; omega
  have g16 : decide (c ≤ 937) = true := by simp; omega
  have f16 : decide ((c : Int) ≤ 937) = true := by simp; omega
  have g17 : decide ((1040 : Nat) ≤ c) = false := by simp; omega
  have f17 : decide ((1040 : Int) ≤ (c : Int)) = false := by simp; omega
  have g18 : decide (c ≤ 1071) = true := by simp; omega
  have f18 : decide ((c : Int) ≤ 1071) = true := by simp; omega
  have p0 : (c == 962) = false := by simp; omega
  have q0 : ((c : Int) == 962) = false := by simp; omega
  have p1 : (c != 930) = true := by simp; omega
  have q1 : ((c : Int) != 930) = true := by simp; omega
  obtain ⟨s, hs⟩ : ∃ s, s = letS (tabC c) := ⟨_, rfl⟩
  have HL : RowKit.Hid (∀ W, Calls Tryz.prog 103 #[.int .i32 (c : Int)] W fun e w' => e = .returned (.string s) ∧ Below W.heap.size W w') := Lib.hid fun W => by rw [hs]; exact letterR_any c W
  rw [ht] at hs
  obtain rfl : s = ⟨#[]⟩ := hs
  clear ht
  clear h
  go_enter Tryz.func87, Tryz.ntmps87
  go_wp2_with fail
  refine (HL.out _).mono ?_
  rintro e w1 ⟨rfl, hb⟩
  have HB := Lib.hid hb
  clear hb HL
  go_wp2_with fail
  go_ret
  exact ⟨by rw [HR.out]; rfl, HB.out⟩
set_option maxRecDepth 100000 in
set_option maxHeartbeats 2000000 in
theorem chC1 (c : Nat) (w : World) (h : 880 ≤ c ∧ c ≤ 912) (ht : tabC c = none) : Calls Tryz.prog 87 #[.int .i32 c] w fun e w' => e = .returned (.string (ofL (charP tabC c))) ∧ Below w.heap.size w w' := by
  have HR : RowKit.Hid (ofL (charP tabC c) = ⟨#[32]⟩) := Lib.hid (by unfold charP; rw [if_neg (by omega), if_neg (by omega), if_neg (by omega), if_neg (by omega), ht]; dsimp only; rw [if_neg (by omega), if_neg (by omega), if_neg (by omega)]; rfl)
  have g0 : decide ((97 : Nat) ≤ c) = true := by simp; omega
  have f0 : decide ((97 : Int) ≤ (c : Int)) = true := by simp; omega
  have g1 : decide (c ≤ 122) = false := by simp; omega
  have f1 : decide ((c : Int) ≤ 122) = false := by simp; omega
  have g2 : decide ((48 : Nat) ≤ c) = true := by simp; omega
  have f2 : decide ((48 : Int) ≤ (c : Int)) = true := by simp; omega
  have g3 : decide (c ≤ 57) = false := by simp; omega
  have f3 : decide ((c : Int) ≤ 57) = false := by simp; omega
  have g4 : decide ((65 : Nat) ≤ c) = true := by simp; omega
  have f4 : decide ((65 : Int) ≤ (c : Int)) = true := by simp; omega
  have g5 : decide (c ≤ 90) = false := by simp; omega
  have f5 : decide ((c : Int) ≤ 90) = false := by simp; omega
  have g6 : decide (c < 128) = false := by simp; omega
  have f6 : decide ((c : Int) < 128) = false := by simp; omega
  have g7 : decide ((768 : Nat) ≤ c) = true := by simp; omega
  have f7 : decide ((768 : Int) ≤ (c : Int)) = true := by simp; omega
  have g8 : decide (c ≤ 879) = false := by simp; omega
  have f8 : decide ((c : Int) ≤ 879) = false := by simp; omega
  have g9 : decide ((65056 : Nat) ≤ c) = false := by simp; omega
  have f9 : decide ((65056 : Int) ≤ (c : Int)) = false := by simp; omega
  have g10 : decide (c ≤ 65071) = true := by simp; omega
  have f10 : decide ((c : Int) ≤ 65071) = true := by simp; omega
  have g11 : decide ((945 : Nat) ≤ c) = false := by simp; omega
  have f11 : decide ((945 : Int) ≤ (c : Int)) = false := by simp; omega
  have g12 : decide (c ≤ 969) = true := by simp; omega
  have f12 : decide ((c : Int) ≤ 969) = true := by simp; omega
  have g13 : decide ((1072 : Nat) ≤ c) = false := by simp; omega
  have f13 : decide ((1072 : Int) ≤ (c : Int)) = false := by simp; omega
  have g14 : decide (c ≤ 1103) = true := by simp; omega
  have f14 : decide ((c : Int) ≤ 1103) = true := by simp; omega
  have g15 : decide ((913 : Nat) ≤ c) = false := by simp; omega
  have f15 : decide ((913 : Int) ≤ (c : Int)) = false := by simp; omega
  have g16 : decide (c ≤ 937) = true := by simp; omega
  have f16 : decide ((c : Int) ≤ 937) = true := by simp; omega
  have g17 : decide ((1040 : Nat) ≤ c) = false := by simp; omega
  have f17 : decide ((1040 : Int) ≤ (c : Int)) = false := by simp; omega
  have g18 : decide (c ≤ 1071) = true := by simp; omega
  have f18 : decide ((c : Int) ≤ 1071) = true := by simp; omega
  have p0 : (c == 962) = false := by simp; omega
  have q0 : ((c : Int) == 962) = false := by simp; omega
  have p1 : (c != 930) = true := by simp; omega
  have q1 : ((c : Int) != 930) = true := by simp; omega
  obtain ⟨s, hs⟩ : ∃ s, s = letS (tabC c) := ⟨_, rfl⟩
  have HL : RowKit.Hid (∀ W, Calls Tryz.prog 103 #[.int .i32 (c : Int)] W fun e w' => e = .returned (.string s) ∧ Below W.heap.size W w') := Lib.hid fun W => by rw [hs]; exact letterR_any c W
  rw [ht] at hs
  obtain rfl : s = ⟨#[]⟩ := hs
  clear ht
  clear h
  go_enter Tryz.func87, Tryz.ntmps87
  go_wp2_with fail
  refine (HL.out _).mono ?_
  rintro e w1 ⟨rfl, hb⟩
  have HB := Lib.hid hb
  clear hb HL
  go_wp2_with fail
  go_ret
  exact ⟨by rw [HR.out]; rfl, HB.out⟩
set_option maxRecDepth 100000 in
set_option maxHeartbeats 2000000 in
theorem chC2 (c : Nat) (w : World) (h : 913 ≤ c ∧ c ≤ 929) (ht : tabC c = none) : Calls Tryz.prog 87 #[.int .i32 c] w fun e w' => e = .returned (.string (ofL (charP tabC c))) ∧ Below w.heap.size w w' := by
  have HR : RowKit.Hid (ofL (charP tabC c) = Utf8.encode ((c : Int) + 32)) := Lib.hid (by unfold charP; rw [if_neg (by omega), if_neg (by omega), if_neg (by omega), if_neg (by omega), ht]; dsimp only; rw [if_neg (by omega), if_neg (by omega), if_pos (by omega)]; have h8 := encode_enc8 (c := c + 32) (by omega); rw [← h8]; congr 1)
  have g0 : decide ((97 : Nat) ≤ c) = true := by simp; omega
  have f0 : decide ((97 : Int) ≤ (c : Int)) = true := by simp; omega
  have g1 : decide (c ≤ 122) = false := by simp; omega
  have f1 : decide ((c : Int) ≤ 122) = false := by simp; omega
  have g2 : decide ((48 : Nat) ≤ c) = true := by simp; omega
  have f2 : decide ((48 : Int) ≤ (c : Int)) = true := by simp; omega
  have g3 : decide (c ≤ 57) = false := by simp; omega
  have f3 : decide ((c : Int) ≤ 57) = false := by simp; omega
  have g4 : decide ((65 : Nat) ≤ c) = true := by simp; omega
  have f4 : decide ((65 : Int) ≤ (c : Int)) = true := by simp; omega
  have g5 : decide (c ≤ 90) = false := by simp; omega
  have f5 : decide ((c : Int) ≤ 90) = false := by simp; omega
  have g6 : decide (c < 128) = false := by simp; omega
  have f6 : decide ((c : Int) < 128) = false := by simp; omega
  have g7 : decide ((768 : Nat) ≤ c) = true := by simp; omega
  have f7 : decide ((768 : Int) ≤ (c : Int)) = true := by simp; omega
  have g8 : decide (c ≤ 879) = false := by simp; omega
  have f8 : decide ((c : Int) ≤ 879) = false := by simp; omega
  have g9 : decide ((65056 : Nat) ≤ c) = false := by simp; omega
  have f9 : decide ((65056 : Int) ≤ (c : Int)) = false := by simp; omega
  have g10 : decide (c ≤ 65071) = true := by simp; omega
  have f10 : decide ((c : Int) ≤ 65071) = true := by simp; omega
  have g11 : decide ((945 : Nat) ≤ c) = false := by simp; omega
  have f11 : decide ((945 : Int) ≤ (c : Int)) = false := by simp; omega
  have g12 : decide (c ≤ 969) = true := by simp; omega
  have f12 : decide ((c : Int) ≤ 969) = true := by simp; omega
  have g13 : decide ((1072 : Nat) ≤ c) = false := by simp; omega
  have f13 : decide ((1072 : Int) ≤ (c : Int)) = false := by simp; omega
  have g14 : decide (c ≤ 1103) = true := by simp; omega
  have f14 : decide ((c : Int) ≤ 1103) = true := by simp; omega
  have g15 : decide ((913 : Nat) ≤ c) = true := by simp; omega
  have f15 : decide ((913 : Int) ≤ (c : Int)) = true := by simp; omega
  have g16 : decide (c ≤ 937) = true := by simp; omega
  have f16 : decide ((c : Int) ≤ 937) = true := by simp; omega
  have g17 : decide ((1040 : Nat) ≤ c) = false := by simp; omega
  have f17 : decide ((1040 : Int) ≤ (c : Int)) = false := by simp; omega
  have g18 : decide (c ≤ 1071) = true := by simp; omega
  have f18 : decide ((c : Int) ≤ 1071) = true := by simp; omega
  have p0 : (c == 962) = false := by simp; omega
  have q0 : ((c : Int) == 962) = false := by simp; omega
  have p1 : (c != 930) = true := by simp; omega
  have q1 : ((c : Int) != 930) = true := by simp; omega
  have hw : IntKind.i32.wrap ((c : Int) + 32) = (c : Int) + 32 := by simp [IntKind.wrap, IntKind.bits, IntKind.signed]; omega
  have ho := fun W : World => one_rune W ((c : Int) + 32) 21
  obtain ⟨s, hs⟩ : ∃ s, s = letS (tabC c) := ⟨_, rfl⟩
  have HL : RowKit.Hid (∀ W, Calls Tryz.prog 103 #[.int .i32 (c : Int)] W fun e w' => e = .returned (.string s) ∧ Below W.heap.size W w') := Lib.hid fun W => by rw [hs]; exact letterR_any c W
  rw [ht] at hs
  obtain rfl : s = ⟨#[]⟩ := hs
  clear ht
  clear h
  go_enter Tryz.func87, Tryz.ntmps87
  go_wp2_with fail
  refine (HL.out _).mono ?_
  rintro e w1 ⟨rfl, hb⟩
  have HB := Lib.hid hb
  clear hb HL
  go_wp2_with fail
  go_ret
  exact ⟨by rw [HR.out]; rfl, (HB.out).alloc (HB.out.size) _⟩
set_option maxRecDepth 100000 in
set_option maxHeartbeats 2000000 in
theorem chC3 (c : Nat) (w : World) (h : 930 ≤ c ∧ c ≤ 930) (ht : tabC c = none) : Calls Tryz.prog 87 #[.int .i32 c] w fun e w' => e = .returned (.string (ofL (charP tabC c))) ∧ Below w.heap.size w w' := by
  have HR : RowKit.Hid (ofL (charP tabC c) = ⟨#[32]⟩) := Lib.hid (by unfold charP; rw [if_neg (by omega), if_neg (by omega), if_neg (by omega), if_neg (by omega), ht]; dsimp only; rw [if_neg (by omega), if_neg (by omega), if_neg (by omega)]; rfl)
  have g0 : decide ((97 : Nat) ≤ c) = true := by simp; omega
  have f0 : decide ((97 : Int) ≤ (c : Int)) = true := by simp; omega
  have g1 : decide (c ≤ 122) = false := by simp; omega
  have f1 : decide ((c : Int) ≤ 122) = false := by simp; omega
  have g2 : decide ((48 : Nat) ≤ c) = true := by simp; omega
  have f2 : decide ((48 : Int) ≤ (c : Int)) = true := by simp; omega
  have g3 : decide (c ≤ 57) = false := by simp; omega
  have f3 : decide ((c : Int) ≤ 57) = false := by simp; omega
  have g4 : decide ((65 : Nat) ≤ c) = true := by simp; omega
  have f4 : decide ((65 : Int) ≤ (c : Int)) = true := by simp; omega
  have g5 : decide (c ≤ 90) = false := by simp; omega
  have f5 : decide ((c : Int) ≤ 90) = false := by simp; omega
  have g6 : decide (c < 128) = false := by simp; omega
  have f6 : decide ((c : Int) < 128) = false := by simp; omega
  have g7 : decide ((768 : Nat) ≤ c) = true := by simp; omega
  have f7 : decide ((768 : Int) ≤ (c : Int)) = true := by simp; omega
  have g8 : decide (c ≤ 879) = false := by simp; omega
  have f8 : decide ((c : Int) ≤ 879) = false := by simp; omega
  have g9 : decide ((65056 : Nat) ≤ c) = false := by simp; omega
  have f9 : decide ((65056 : Int) ≤ (c : Int)) = false := by simp; omega
  have g10 : decide (c ≤ 65071) = true := by simp; omega
  have f10 : decide ((c : Int) ≤ 65071) = true := by simp; omega
  have g11 : decide ((945 : Nat) ≤ c) = false := by simp; omega
  have f11 : decide ((945 : Int) ≤ (c : Int)) = false := by simp; omega
  have g12 : decide (c ≤ 969) = true := by simp; omega
  have f12 : decide ((c : Int) ≤ 969) = true := by simp; omega
  have g13 : decide ((1072 : Nat) ≤ c) = false := by simp; omega
  have f13 : decide ((1072 : Int) ≤ (c : Int)) = false := by simp; omega
  have g14 : decide (c ≤ 1103) = true := by simp; omega
  have f14 : decide ((c : Int) ≤ 1103) = true := by simp; omega
  have g15 : decide ((913 : Nat) ≤ c) = true := by simp; omega
  have f15 : decide ((913 : Int) ≤ (c : Int)) = true := by simp; omega
  have g16 : decide (c ≤ 937) = true := by simp; omega
  have f16 : decide ((c : Int) ≤ 937) = true := by simp; omega
  have g17 : decide ((1040 : Nat) ≤ c) = false := by simp; omega
  have f17 : decide ((1040 : Int) ≤ (c : Int)) = false := by simp; omega
  have g18 : decide (c ≤ 1071) = true := by simp; omega
  have f18 : decide ((c : Int) ≤ 1071) = true := by simp; omega
  have p0 : (c == 962) = false := by simp; omega
  have q0 : ((c : Int) == 962) = false := by simp; omega
  have p1 : (c != 930) = false := by simp; omega
  have q1 : ((c : Int) != 930) = false := by simp; omega
  obtain ⟨s, hs⟩ : ∃ s, s = letS (tabC c) := ⟨_, rfl⟩
  have HL : RowKit.Hid (∀ W, Calls Tryz.prog 103 #[.int .i32 (c : Int)] W fun e w' => e = .returned (.string s) ∧ Below W.heap.size W w') := Lib.hid fun W => by rw [hs]; exact letterR_any c W
  rw [ht] at hs
  obtain rfl : s = ⟨#[]⟩ := hs
  clear ht
  clear h
  go_enter Tryz.func87, Tryz.ntmps87
  go_wp2_with fail
  refine (HL.out _).mono ?_
  rintro e w1 ⟨rfl, hb⟩
  have HB := Lib.hid hb
  clear hb HL
  go_wp2_with fail
  go_ret
  exact ⟨by rw [HR.out]; rfl, HB.out⟩
set_option maxRecDepth 100000 in
set_option maxHeartbeats 2000000 in
theorem chC4 (c : Nat) (w : World) (h : 931 ≤ c ∧ c ≤ 937) (ht : tabC c = none) : Calls Tryz.prog 87 #[.int .i32 c] w fun e w' => e = .returned (.string (ofL (charP tabC c))) ∧ Below w.heap.size w w' := by
  have HR : RowKit.Hid (ofL (charP tabC c) = Utf8.encode ((c : Int) + 32)) := Lib.hid (by unfold charP; rw [if_neg (by omega), if_neg (by omega), if_neg (by omega), if_neg (by omega), ht]; dsimp only; rw [if_neg (by omega), if_neg (by omega), if_pos (by omega)]; have h8 := encode_enc8 (c := c + 32) (by omega); rw [← h8]; congr 1)
  have g0 : decide ((97 : Nat) ≤ c) = true := by simp; omega
  have f0 : decide ((97 : Int) ≤ (c : Int)) = true := by simp; omega
  have g1 : decide (c ≤ 122) = false := by simp; omega
  have f1 : decide ((c : Int) ≤ 122) = false := by simp; omega
  have g2 : decide ((48 : Nat) ≤ c) = true := by simp; omega
  have f2 : decide ((48 : Int) ≤ (c : Int)) = true := by simp; omega
  have g3 : decide (c ≤ 57) = false := by simp; omega
  have f3 : decide ((c : Int) ≤ 57) = false := by simp; omega
  have g4 : decide ((65 : Nat) ≤ c) = true := by simp; omega
  have f4 : decide ((65 : Int) ≤ (c : Int)) = true := by simp; omega
  have g5 : decide (c ≤ 90) = false := by simp; omega
  have f5 : decide ((c : Int) ≤ 90) = false := by simp; omega
  have g6 : decide (c < 128) = false := by simp; omega
  have f6 : decide ((c : Int) < 128) = false := by simp; omega
  have g7 : decide ((768 : Nat) ≤ c) = true := by simp; omega
  have f7 : decide ((768 : Int) ≤ (c : Int)) = true := by simp; omega
  have g8 : decide (c ≤ 879) = false := by simp; omega
  have f8 : decide ((c : Int) ≤ 879) = false := by simp; omega
  have g9 : decide ((65056 : Nat) ≤ c) = false := by simp; omega
  have f9 : decide ((65056 : Int) ≤ (c : Int)) = false := by simp; omega
  have g10 : decide (c ≤ 65071) = true := by simp; omega
  have f10 : decide ((c : Int) ≤ 65071) = true := by simp; omega
  have g11 : decide ((945 : Nat) ≤ c) = false := by simp; omega
  have f11 : decide ((945 : Int) ≤ (c : Int)) = false := by simp; omega
  have g12 : decide (c ≤ 969) = true := by simp; omega
  have f12 : decide ((c : Int) ≤ 969) = true := by simp; omega
  have g13 : decide ((1072 : Nat) ≤ c) = false := by simp; omega
  have f13 : decide ((1072 : Int) ≤ (c : Int)) = false := by simp; omega
  have g14 : decide (c ≤ 1103) = true := by simp; omega
  have f14 : decide ((c : Int) ≤ 1103) = true := by simp; omega
  have g15 : decide ((913 : Nat) ≤ c) = true := by simp; omega
  have f15 : decide ((913 : Int) ≤ (c : Int)) = true := by simp; omega
  have g16 : decide (c ≤ 937) = true := by simp; omega
  have f16 : decide ((c : Int) ≤ 937) = true := by simp; omega
  have g17 : decide ((1040 : Nat) ≤ c) = false := by simp; omega
  have f17 : decide ((1040 : Int) ≤ (c : Int)) = false := by simp; omega
  have g18 : decide (c ≤ 1071) = true := by simp; omega
  have f18 : decide ((c : Int) ≤ 1071) = true := by simp; omega
  have p0 : (c == 962) = false := by simp; omega
  have q0 : ((c : Int) == 962) = false := by simp; omega
  have p1 : (c != 930) = true := by simp; omega
  have q1 : ((c : Int) != 930) = true := by simp; omega
  have hw : IntKind.i32.wrap ((c : Int) + 32) = (c : Int) + 32 := by simp [IntKind.wrap, IntKind.bits, IntKind.signed]; omega
  have ho := fun W : World => one_rune W ((c : Int) + 32) 21
  obtain ⟨s, hs⟩ : ∃ s, s = letS (tabC c) := ⟨_, rfl⟩
  have HL : RowKit.Hid (∀ W, Calls Tryz.prog 103 #[.int .i32 (c : Int)] W fun e w' => e = .returned (.string s) ∧ Below W.heap.size W w') := Lib.hid fun W => by rw [hs]; exact letterR_any c W
  rw [ht] at hs
  obtain rfl : s = ⟨#[]⟩ := hs
  clear ht
  clear h
  go_enter Tryz.func87, Tryz.ntmps87
  go_wp2_with fail
  refine (HL.out _).mono ?_
  rintro e w1 ⟨rfl, hb⟩
  have HB := Lib.hid hb
  clear hb HL
  go_wp2_with fail
  go_ret
  exact ⟨by rw [HR.out]; rfl, (HB.out).alloc (HB.out.size) _⟩
set_option maxRecDepth 100000 in
set_option maxHeartbeats 2000000 in
theorem chC5 (c : Nat) (w : World) (h : 938 ≤ c ∧ c ≤ 944) (ht : tabC c = none) : Calls Tryz.prog 87 #[.int .i32 c] w fun e w' => e = .returned (.string (ofL (charP tabC c))) ∧ Below w.heap.size w w' := by
  have HR : RowKit.Hid (ofL (charP tabC c) = ⟨#[32]⟩) := Lib.hid (by unfold charP; rw [if_neg (by omega), if_neg (by omega), if_neg (by omega), if_neg (by omega), ht]; dsimp only; rw [if_neg (by omega), if_neg (by omega), if_neg (by omega)]; rfl)
  have g0 : decide ((97 : Nat) ≤ c) = true := by simp; omega
  have f0 : decide ((97 : Int) ≤ (c : Int)) = true := by simp; omega
  have g1 : decide (c ≤ 122) = false := by simp; omega
  have f1 : decide ((c : Int) ≤ 122) = false := by simp; omega
  have g2 : decide ((48 : Nat) ≤ c) = true := by simp; omega
  have f2 : decide ((48 : Int) ≤ (c : Int)) = true := by simp; omega
  have g3 : decide (c ≤ 57) = false := by simp; omega
  have f3 : decide ((c : Int) ≤ 57) = false := by simp; omega
  have g4 : decide ((65 : Nat) ≤ c) = true := by simp; omega
  have f4 : decide ((65 : Int) ≤ (c : Int)) = true := by simp; omega
  have g5 : decide (c ≤ 90) = false := by simp; omega
  have f5 : decide ((c : Int) ≤ 90) = false := by simp; omega
  have g6 : decide (c < 128) = false := by simp; omega
  have f6 : decide ((c : Int) < 128) = false := by simp; omega
  have g7 : decide ((768 : Nat) ≤ c) = true := by simp; omega
  have f7 : decide ((768 : Int) ≤ (c : Int)) = true := by simp; omega
  have g8 : decide (c ≤ 879) = false := by simp; omega
  have f8 : decide ((c : Int) ≤ 879) = false := by simp; omega
  have g9 : decide ((65056 : Nat) ≤ c) = false := by simp; omega
  have f9 : decide ((65056 : Int) ≤ (c : Int)) = false := by simp; omega
  have g10 : decide (c ≤ 65071) = true := by simp; omega
  have f10 : decide ((c : Int) ≤ 65071) = true := by simp; omega
  have g11 : decide ((945 : Nat) ≤ c) = false := by simp; omega
  have f11 : decide ((945 : Int) ≤ (c : Int)) = false := by simp; omega
  have g12 : decide (c ≤ 969) = true := by simp; omega
  have f12 : decide ((c : Int) ≤ 969) = true := by simp; omega
  have g13 : decide ((1072 : Nat) ≤ c) = false := by simp; omega
  have f13 : decide ((1072 : Int) ≤ (c : Int)) = false := by simp; omega
  have g14 : decide (c ≤ 1103) = true := by simp; omega
  have f14 : decide ((c : Int) ≤ 1103) = true := by simp; omega
  have g15 : decide ((913 : Nat) ≤ c) = true := by simp; omega
  have f15 : decide ((913 : Int) ≤ (c : Int)) = true := by simp; omega
  have g16 : decide (c ≤ 937) = false := by simp; omega
  have f16 : decide ((c : Int) ≤ 937) = false := by simp; omega
  have g17 : decide ((1040 : Nat) ≤ c) = false := by simp; omega
  have f17 : decide ((1040 : Int) ≤ (c : Int)) = false := by simp; omega
  have g18 : decide (c ≤ 1071) = true := by simp; omega
  have f18 : decide ((c : Int) ≤ 1071) = true := by simp; omega
  have p0 : (c == 962) = false := by simp; omega
  have q0 : ((c : Int) == 962) = false := by simp; omega
  have p1 : (c != 930) = true := by simp; omega
  have q1 : ((c : Int) != 930) = true := by simp; omega
  obtain ⟨s, hs⟩ : ∃ s, s = letS (tabC c) := ⟨_, rfl⟩
  have HL : RowKit.Hid (∀ W, Calls Tryz.prog 103 #[.int .i32 (c : Int)] W fun e w' => e = .returned (.string s) ∧ Below W.heap.size W w') := Lib.hid fun W => by rw [hs]; exact letterR_any c W
  rw [ht] at hs
  obtain rfl : s = ⟨#[]⟩ := hs
  clear ht
  clear h
  go_enter Tryz.func87, Tryz.ntmps87
  go_wp2_with fail
  refine (HL.out _).mono ?_
  rintro e w1 ⟨rfl, hb⟩
  have HB := Lib.hid hb
  clear hb HL
  go_wp2_with fail
  go_ret
  exact ⟨by rw [HR.out]; rfl, HB.out⟩
set_option maxRecDepth 100000 in
set_option maxHeartbeats 2000000 in
theorem chC6 (c : Nat) (w : World) (h : 945 ≤ c ∧ c ≤ 961) (ht : tabC c = none) : Calls Tryz.prog 87 #[.int .i32 c] w fun e w' => e = .returned (.string (ofL (charP tabC c))) ∧ Below w.heap.size w w' := by
  have HR : RowKit.Hid (ofL (charP tabC c) = Utf8.encode (c : Int)) := Lib.hid (by unfold charP; rw [if_neg (by omega), if_neg (by omega), if_neg (by omega), if_neg (by omega), ht]; dsimp only; rw [if_neg (by omega), if_pos (by omega)]; exact (encode_enc8 (by omega)).symm)
  have g0 : decide ((97 : Nat) ≤ c) = true := by simp; omega
  have f0 : decide ((97 : Int) ≤ (c : Int)) = true := by simp; omega
  have g1 : decide (c ≤ 122) = false := by simp; omega
  have f1 : decide ((c : Int) ≤ 122) = false := by simp; omega
  have g2 : decide ((48 : Nat) ≤ c) = true := by simp; omega
  have f2 : decide ((48 : Int) ≤ (c : Int)) = true := by simp; omega
  have g3 : decide (c ≤ 57) = false := by simp; omega
  have f3 : decide ((c : Int) ≤ 57) = false := by simp; omega
  have g4 : decide ((65 : Nat) ≤ c) = true := by simp; omega
  have f4 : decide ((65 : Int) ≤ (c : Int)) = true := by simp; omega
  have g5 : decide (c ≤ 90) = false := by simp; omega
  have f5 : decide ((c : Int) ≤ 90) = false := by simp; omega
  have g6 : decide (c < 128) = false := by simp; omega
  have f6 : decide ((c : Int) < 128) = false := by simp; omega
  have g7 : decide ((768 : Nat) ≤ c) = true := by simp; omega
  have f7 : decide ((768 : Int) ≤ (c : Int)) = true := by simp; omega
  have g8 : decide (c ≤ 879) = false := by simp; omega
  have f8 : decide ((c : Int) ≤ 879) = false := by simp; omega
  have g9 : decide ((65056 : Nat) ≤ c) = false := by simp; omega
  have f9 : decide ((65056 : Int) ≤ (c : Int)) = false := by simp; omega
  have g10 : decide (c ≤ 65071) = true := by simp; omega
  have f10 : decide ((c : Int) ≤ 65071) = true := by simp; omega
  have g11 : decide ((945 : Nat) ≤ c) = true := by simp; omega
  have f11 : decide ((945 : Int) ≤ (c : Int)) = true := by simp; omega
  have g12 : decide (c ≤ 969) = true := by simp; omega
  have f12 : decide ((c : Int) ≤ 969) = true := by simp; omega
  have g13 : decide ((1072 : Nat) ≤ c) = false := by simp; omega
  have f13 : decide ((1072 : Int) ≤ (c : Int)) = false := by simp; omega
  have g14 : decide (c ≤ 1103) = true := by simp; omega
  have f14 : decide ((c : Int) ≤ 1103) = true := by simp; omega
  have g15 : decide ((913 : Nat) ≤ c) = true := by simp; omega
  have f15 : decide ((913 : Int) ≤ (c : Int)) = true := by simp; omega
  have g16 : decide (c ≤ 937) = false := by simp; omega
  have f16 : decide ((c : Int) ≤ 937) = false := by simp; omega
  have g17 : decide ((1040 : Nat) ≤ c) = false := by simp; omega
  have f17 : decide ((1040 : Int) ≤ (c : Int)) = false := by simp; omega
  have g18 : decide (c ≤ 1071) = true := by simp; omega
  have f18 : decide ((c : Int) ≤ 1071) = true := by simp; omega
  have p0 : (c == 962) = false := by simp; omega
  have q0 : ((c : Int) == 962) = false := by simp; omega
  have p1 : (c != 930) = true := by simp; omega
  have q1 : ((c : Int) != 930) = true := by simp; omega
  have ho := fun W : World => one_rune W (c : Int) 21
  obtain ⟨s, hs⟩ : ∃ s, s = letS (tabC c) := ⟨_, rfl⟩
  have HL : RowKit.Hid (∀ W, Calls Tryz.prog 103 #[.int .i32 (c : Int)] W fun e w' => e = .returned (.string s) ∧ Below W.heap.size W w') := Lib.hid fun W => by rw [hs]; exact letterR_any c W
  rw [ht] at hs
  obtain rfl : s = ⟨#[]⟩ := hs
  clear ht
  clear h
  go_enter Tryz.func87, Tryz.ntmps87
  go_wp2_with fail
  refine (HL.out _).mono ?_
  rintro e w1 ⟨rfl, hb⟩
  have HB := Lib.hid hb
  clear hb HL
  go_wp2_with fail
  go_ret
  exact ⟨by rw [HR.out]; rfl, (HB.out).alloc (HB.out.size) _⟩
set_option maxRecDepth 100000 in
set_option maxHeartbeats 2000000 in
theorem chC7 (c : Nat) (w : World) (h : 962 ≤ c ∧ c ≤ 962) (ht : tabC c = none) : Calls Tryz.prog 87 #[.int .i32 c] w fun e w' => e = .returned (.string (ofL (charP tabC c))) ∧ Below w.heap.size w w' := by
  have HR : RowKit.Hid (ofL (charP tabC c) = Utf8.encode (963 : Int)) := Lib.hid (by unfold charP; rw [if_neg (by omega), if_neg (by omega), if_neg (by omega), if_neg (by omega), ht]; dsimp only; rw [if_pos (by omega)]; exact (encode_enc8 (c := 963) (by omega)).symm)
  have g0 : decide ((97 : Nat) ≤ c) = true := by simp; omega
  have f0 : decide ((97 : Int) ≤ (c : Int)) = true := by simp; omega
  have g1 : decide (c ≤ 122) = false := by simp; omega
  have f1 : decide ((c : Int) ≤ 122) = false := by simp; omega
  have g2 : decide ((48 : Nat) ≤ c) = true := by simp; omega
  have f2 : decide ((48 : Int) ≤ (c : Int)) = true := by simp; omega
  have g3 : decide (c ≤ 57) = false := by simp; omega
  have f3 : decide ((c : Int) ≤ 57) = false := by simp; omega
  have g4 : decide ((65 : Nat) ≤ c) = true := by simp; omega
  have f4 : decide ((65 : Int) ≤ (c : Int)) = true := by simp; omega
  have g5 : decide (c ≤ 90) = false := by simp; omega
  have f5 : decide ((c : Int) ≤ 90) = false := by simp; omega
  have g6 : decide (c < 128) = false := by simp; omega
  have f6 : decide ((c : Int) < 128) = false := by simp; omega
  have g7 : decide ((768 : Nat) ≤ c) = true := by simp; omega
  have f7 : decide ((768 : Int) ≤ (c : Int)) = true := by simp; omega
  have g8 : decide (c ≤ 879) = false := by simp; omega
  have f8 : decide ((c : Int) ≤ 879) = false := by simp; omega
  have g9 : decide ((65056 : Nat) ≤ c) = false := by simp; omega
  have f9 : decide ((65056 : Int) ≤ (c : Int)) = false := by simp; omega
  have g10 : decide (c ≤ 65071) = true := by simp; omega
  have f10 : decide ((c : Int) ≤ 65071) = true := by simp; omega
  have g11 : decide ((945 : Nat) ≤ c) = true := by simp; omega
  have f11 : decide ((945 : Int) ≤ (c : Int)) = true := by simp; omega
  have g12 : decide (c ≤ 969) = true := by simp; omega
  have f12 : decide ((c : Int) ≤ 969) = true := by simp; omega
  have g13 : decide ((1072 : Nat) ≤ c) = false := by simp; omega
  have f13 : decide ((1072 : Int) ≤ (c : Int)) = false := by simp; omega
  have g14 : decide (c ≤ 1103) = true := by simp; omega
  have f14 : decide ((c : Int) ≤ 1103) = true := by simp; omega
  have g15 : decide ((913 : Nat) ≤ c) = true := by simp; omega
  have f15 : decide ((913 : Int) ≤ (c : Int)) = true := by simp; omega
  have g16 : decide (c ≤ 937) = false := by simp; omega
  have f16 : decide ((c : Int) ≤ 937) = false := by simp; omega
  have g17 : decide ((1040 : Nat) ≤ c) = false := by simp; omega
  have f17 : decide ((1040 : Int) ≤ (c : Int)) = false := by simp; omega
  have g18 : decide (c ≤ 1071) = true := by simp; omega
  have f18 : decide ((c : Int) ≤ 1071) = true := by simp; omega
  have p0 : (c == 962) = true := by simp; omega
  have q0 : ((c : Int) == 962) = true := by simp; omega
  have p1 : (c != 930) = true := by simp; omega
  have q1 : ((c : Int) != 930) = true := by simp; omega
  have ho := fun W : World => one_rune W (963 : Int) 21
  obtain ⟨s, hs⟩ : ∃ s, s = letS (tabC c) := ⟨_, rfl⟩
  have HL : RowKit.Hid (∀ W, Calls Tryz.prog 103 #[.int .i32 (c : Int)] W fun e w' => e = .returned (.string s) ∧ Below W.heap.size W w') := Lib.hid fun W => by rw [hs]; exact letterR_any c W
  rw [ht] at hs
  obtain rfl : s = ⟨#[]⟩ := hs
  clear ht
  clear h
  go_enter Tryz.func87, Tryz.ntmps87
  go_wp2_with fail
  refine (HL.out _).mono ?_
  rintro e w1 ⟨rfl, hb⟩
  have HB := Lib.hid hb
  clear hb HL
  go_wp2_with fail
  go_ret
  exact ⟨by rw [HR.out]; rfl, (HB.out).alloc (HB.out.size) _⟩
set_option maxRecDepth 100000 in
set_option maxHeartbeats 2000000 in
theorem chC8 (c : Nat) (w : World) (h : 963 ≤ c ∧ c ≤ 969) (ht : tabC c = none) : Calls Tryz.prog 87 #[.int .i32 c] w fun e w' => e = .returned (.string (ofL (charP tabC c))) ∧ Below w.heap.size w w' := by
  have HR : RowKit.Hid (ofL (charP tabC c) = Utf8.encode (c : Int)) := Lib.hid (by unfold charP; rw [if_neg (by omega), if_neg (by omega), if_neg (by omega), if_neg (by omega), ht]; dsimp only; rw [if_neg (by omega), if_pos (by omega)]; exact (encode_enc8 (by omega)).symm)
  have g0 : decide ((97 : Nat) ≤ c) = true := by simp; omega
  have f0 : decide ((97 : Int) ≤ (c : Int)) = true := by simp; omega
  have g1 : decide (c ≤ 122) = false := by simp; omega
  have f1 : decide ((c : Int) ≤ 122) = false := by simp; omega
  have g2 : decide ((48 : Nat) ≤ c) = true := by simp; omega
  have f2 : decide ((48 : Int) ≤ (c : Int)) = true := by simp; omega
  have g3 : decide (c ≤ 57) = false := by simp; omega
  have f3 : decide ((c : Int) ≤ 57) = false := by simp; omega
  have g4 : decide ((65 : Nat) ≤ c) = true := by simp; omega
  have f4 : decide ((65 : Int) ≤ (c : Int)) = true := by simp; omega
  have g5 : decide (c ≤ 90) = false := by simp; omega
  have f5 : decide ((c : Int) ≤ 90) = false := by simp; omega
  have g6 : decide (c < 128) = false := by simp; omega
  have f6 : decide ((c : Int) < 128) = false := by simp; omega
  have g7 : decide ((768 : Nat) ≤ c) = true := by simp; omega
  have f7 : decide ((768 : Int) ≤ (c : Int)) = true := by simp; omega
  have g8 : decide (c ≤ 879) = false := by simp; omega
  have f8 : decide ((c : Int) ≤ 879) = false := by simp; omega
  have g9 : decide ((65056 : Nat) ≤ c) = false := by simp; omega
  have f9 : decide ((65056 : Int) ≤ (c : Int)) = false := by simp; omega
  have g10 : decide (c ≤ 65071) = true := by simp; omega
  have f10 : decide ((c : Int) ≤ 65071) = true := by simp; omega
  have g11 : decide ((945 : Nat) ≤ c) = true := by simp; omega
  have f11 : decide ((945 : Int) ≤ (c : Int)) = true := by simp; omega
  have g12 : decide (c ≤ 969) = true := by simp; omega
  have f12 : decide ((c : Int) ≤ 969) = true := by simp; omega
  have g13 : decide ((1072 : Nat) ≤ c) = false := by simp; omega
  have f13 : decide ((1072 : Int) ≤ (c : Int)) = false := by simp; omega
  have g14 : decide (c ≤ 1103) = true := by simp; omega
  have f14 : decide ((c : Int) ≤ 1103) = true := by simp; omega
  have g15 : decide ((913 : Nat) ≤ c) = true := by simp; omega
  have f15 : decide ((913 : Int) ≤ (c : Int)) = true := by simp; omega
  have g16 : decide (c ≤ 937) = false := by simp; omega
  have f16 : decide ((c : Int) ≤ 937) = false := by simp; omega
  have g17 : decide ((1040 : Nat) ≤ c) = false := by simp; omega
  have f17 : decide ((1040 : Int) ≤ (c : Int)) = false := by simp; omega
  have g18 : decide (c ≤ 1071) = true := by simp; omega
  have f18 : decide ((c : Int) ≤ 1071) = true := by simp; omega
  have p0 : (c == 962) = false := by simp; omega
  have q0 : ((c : Int) == 962) = false := by simp; omega
  have p1 : (c != 930) = true := by simp; omega
  have q1 : ((c : Int) != 930) = true := by simp; omega
  have ho := fun W : World => one_rune W (c : Int) 21
  obtain ⟨s, hs⟩ : ∃ s, s = letS (tabC c) := ⟨_, rfl⟩
  have HL : RowKit.Hid (∀ W, Calls Tryz.prog 103 #[.int .i32 (c : Int)] W fun e w' => e = .returned (.string s) ∧ Below W.heap.size W w') := Lib.hid fun W => by rw [hs]; exact letterR_any c W
  rw [ht] at hs
  obtain rfl : s = ⟨#[]⟩ := hs
  clear ht
  clear h
  go_enter Tryz.func87, Tryz.ntmps87
  go_wp2_with fail
  refine (HL.out _).mono ?_
  rintro e w1 ⟨rfl, hb⟩
  have HB := Lib.hid hb
  clear hb HL
  go_wp2_with fail
  go_ret
  exact ⟨by rw [HR.out]; rfl, (HB.out).alloc (HB.out.size) _⟩
set_option maxRecDepth 100000 in
set_option maxHeartbeats 2000000 in
theorem chC9 (c : Nat) (w : World) (h : 970 ≤ c ∧ c ≤ 1039) (ht : tabC c = none) : Calls Tryz.prog 87 #[.int .i32 c] w fun e w' => e = .returned (.string (ofL (charP tabC c))) ∧ Below w.heap.size w w' := by
  have HR : RowKit.Hid (ofL (charP tabC c) = ⟨#[32]⟩) := Lib.hid (by unfold charP; rw [if_neg (by omega), if_neg (by omega), if_neg (by omega), if_neg (by omega), ht]; dsimp only; rw [if_neg (by omega), if_neg (by omega), if_neg (by omega)]; rfl)
  have g0 : decide ((97 : Nat) ≤ c) = true := by simp; omega
  have f0 : decide ((97 : Int) ≤ (c : Int)) = true := by simp; omega
  have g1 : decide (c ≤ 122) = false := by simp; omega
  have f1 : decide ((c : Int) ≤ 122) = false := by simp; omega
  have g2 : decide ((48 : Nat) ≤ c) = true := by simp; omega
  have f2 : decide ((48 : Int) ≤ (c : Int)) = true := by simp; omega
  have g3 : decide (c ≤ 57) = false := by simp; omega
  have f3 : decide ((c : Int) ≤ 57) = false := by simp; omega
  have g4 : decide ((65 : Nat) ≤ c) = true := by simp; omega
  have f4 : decide ((65 : Int) ≤ (c : Int)) = true := by simp; omega
  have g5 : decide (c ≤ 90) = false := by simp; omega
  have f5 : decide ((c : Int) ≤ 90) = false := by simp; omega
  have g6 : decide (c < 128) = false := by simp; omega
  have f6 : decide ((c : Int) < 128) = false := by simp; omega
  have g7 : decide ((768 : Nat) ≤ c) = true := by simp; omega
  have f7 : decide ((768 : Int) ≤ (c : Int)) = true := by simp; omega
  have g8 : decide (c ≤ 879) = false := by simp; omega
  have f8 : decide ((c : Int) ≤ 879) = false := by simp; omega
  have g9 : decide ((65056 : Nat) ≤ c) = false := by simp; omega
  have f9 : decide ((65056 : Int) ≤ (c : Int)) = false := by simp; omega
  have g10 : decide (c ≤ 65071) = true := by simp; omega
  have f10 : decide ((c : Int) ≤ 65071) = true := by simp; omega
  have g11 : decide ((945 : Nat) ≤ c) = true := by simp; omega
  have f11 : decide ((945 : Int) ≤ (c : Int)) = true := by simp; omega
  have g12 : decide (c ≤ 969) = false := by simp; omega
  have f12 : decide ((c : Int) ≤ 969) = false := by simp; omega
  have g13 : decide ((1072 : Nat) ≤ c) = false := by simp; omega
  have f13 : decide ((1072 : Int) ≤ (c : Int)) = false := by simp; omega
  have g14 : decide (c ≤ 1103) = true := by simp; omega
  have f14 : decide ((c : Int) ≤ 1103) = true := by simp; omega
  have g15 : decide ((913 : Nat) ≤ c) = true := by simp; omega
  have f15 : decide ((913 : Int) ≤ (c : Int)) = true := by simp; omega
  have g16 : decide (c ≤ 937) = false := by simp; omega
  have f16 : decide ((c : Int) ≤ 937) = false := by simp; omega
  have g17 : decide ((1040 : Nat) ≤ c) = false := by simp; omega
  have f17 : decide ((1040 : Int) ≤ (c : Int)) = false := by simp; omega
  have g18 : decide (c ≤ 1071) = true := by simp; omega
  have f18 : decide ((c : Int) ≤ 1071) = true := by simp; omega
  have p0 : (c == 962) = false := by simp; omega
  have q0 : ((c : Int) == 962) = false := by simp; omega
  have p1 : (c != 930) = true := by simp; omega
  have q1 : ((c : Int) != 930) = true := by simp; omega
  obtain ⟨s, hs⟩ : ∃ s, s = letS (tabC c) := ⟨_, rfl⟩
  have HL : RowKit.Hid (∀ W, Calls Tryz.prog 103 #[.int .i32 (c : Int)] W fun e w' => e = .returned (.string s) ∧ Below W.heap.size W w') := Lib.hid fun W => by rw [hs]; exact letterR_any c W
  rw [ht] at hs
  obtain rfl : s = ⟨#[]⟩ := hs
  clear ht
  clear h
  go_enter Tryz.func87, Tryz.ntmps87
  go_wp2_with fail
  refine (HL.out _).mono ?_
  rintro e w1 ⟨rfl, hb⟩
  have HB := Lib.hid hb
  clear hb HL
  go_wp2_with fail
  go_ret
  exact ⟨by rw [HR.out]; rfl, HB.out⟩
set_option maxRecDepth 100000 in
set_option maxHeartbeats 2000000 in
theorem chC10 (c : Nat) (w : World) (h : 1040 ≤ c ∧ c ≤ 1071) (ht : tabC c = none) : Calls Tryz.prog 87 #[.int .i32 c] w fun e w' => e = .returned (.string (ofL (charP tabC c))) ∧ Below w.heap.size w w' := by
  have HR : RowKit.Hid (ofL (charP tabC c) = Utf8.encode ((c : Int) + 32)) := Lib.hid (by unfold charP; rw [if_neg (by omega), if_neg (by omega), if_neg (by omega), if_neg (by omega), ht]; dsimp only; rw [if_neg (by omega), if_neg (by omega), if_pos (by omega)]; have h8 := encode_enc8 (c := c + 32) (by omega); rw [← h8]; congr 1)
  have g0 : decide ((97 : Nat) ≤ c) = true := by simp; omega
  have f0 : decide ((97 : Int) ≤ (c : Int)) = true := by simp; omega
  have g1 : decide (c ≤ 122) = false := by simp; omega
  have f1 : decide ((c : Int) ≤ 122) = false := by simp; omega
  have g2 : decide ((48 : Nat) ≤ c) = true := by simp; omega
  have f2 : decide ((48 : Int) ≤ (c : Int)) = true := by simp; omega
  have g3 : decide (c ≤ 57) = false := by simp; omega
  have f3 : decide ((c : Int) ≤ 57) = false := by simp; omega
  have g4 : decide ((65 : Nat) ≤ c) = true := by simp; omega
  have f4 : decide ((65 : Int) ≤ (c : Int)) = true := by simp; omega
  have g5 : decide (c ≤ 90) = false := by simp; omega
  have f5 : decide ((c : Int) ≤ 90) = false := by simp; omega
  have g6 : decide (c < 128) = false := by simp; omega
  have f6 : decide ((c : Int) < 128) = false := by simp; omega
  have g7 : decide ((768 : Nat) ≤ c) = true := by simp; omega
  have f7 : decide ((768 : Int) ≤ (c : Int)) = true := by simp; omega
  have g8 : decide (c ≤ 879) = false := by simp; omega
  have f8 : decide ((c : Int) ≤ 879) = false := by simp; omega
  have g9 : decide ((65056 : Nat) ≤ c) = false := by simp; omega
  have f9 : decide ((65056 : Int) ≤ (c : Int)) = false := by simp; omega
  have g10 : decide (c ≤ 65071) = true := by simp; omega
  have f10 : decide ((c : Int) ≤ 65071) = true := by simp; omega
  have g11 : decide ((945 : Nat) ≤ c) = true := by simp; omega
  have f11 : decide ((945 : Int) ≤ (c : Int)) = true := by simp; omega
  have g12 : decide (c ≤ 969) = false := by simp; omega
  have f12 : decide ((c : Int) ≤ 969) = false := by simp; omega
  have g13 : decide ((1072 : Nat) ≤ c) = false := by simp; omega
  have f13 : decide ((1072 : Int) ≤ (c : Int)) = false := by simp; omega
  have g14 : decide (c ≤ 1103) = true := by simp; omega
  have f14 : decide ((c : Int) ≤ 1103) = true := by simp; omega
  have g15 : decide ((913 : Nat) ≤ c) = true := by simp; omega
  have f15 : decide ((913 : Int) ≤ (c : Int)) = true := by simp; omega
  have g16 : decide (c ≤ 937) = false := by simp; omega
  have f16 : decide ((c : Int) ≤ 937) = false := by simp; omega
  have g17 : decide ((1040 : Nat) ≤ c) = true := by simp; omega
  have f17 : decide ((1040 : Int) ≤ (c : Int)) = true := by simp; omega
  have g18 : decide (c ≤ 1071) = true := by simp; omega
  have f18 : decide ((c : Int) ≤ 1071) = true := by simp; omega
  have p0 : (c == 962) = false := by simp; omega
  have q0 : ((c : Int) == 962) = false := by simp; omega
  have p1 : (c != 930) = true := by simp; omega
  have q1 : ((c : Int) != 930) = true := by simp; omega
  have hw : IntKind.i32.wrap ((c : Int) + 32) = (c : Int) + 32 := by simp [IntKind.wrap, IntKind.bits, IntKind.signed]; omega
  have ho := fun W : World => one_rune W ((c : Int) + 32) 21
  obtain ⟨s, hs⟩ : ∃ s, s = letS (tabC c) := ⟨_, rfl⟩
  have HL : RowKit.Hid (∀ W, Calls Tryz.prog 103 #[.int .i32 (c : Int)] W fun e w' => e = .returned (.string s) ∧ Below W.heap.size W w') := Lib.hid fun W => by rw [hs]; exact letterR_any c W
  rw [ht] at hs
  obtain rfl : s = ⟨#[]⟩ := hs
  clear ht
  clear h
  go_enter Tryz.func87, Tryz.ntmps87
  go_wp2_with fail
  refine (HL.out _).mono ?_
  rintro e w1 ⟨rfl, hb⟩
  have HB := Lib.hid hb
  clear hb HL
  go_wp2_with fail
  go_ret
  exact ⟨by rw [HR.out]; rfl, (HB.out).alloc (HB.out.size) _⟩
set_option maxRecDepth 100000 in
set_option maxHeartbeats 2000000 in
theorem chC11 (c : Nat) (w : World) (h : 1072 ≤ c ∧ c ≤ 1103) (ht : tabC c = none) : Calls Tryz.prog 87 #[.int .i32 c] w fun e w' => e = .returned (.string (ofL (charP tabC c))) ∧ Below w.heap.size w w' := by
  have HR : RowKit.Hid (ofL (charP tabC c) = Utf8.encode (c : Int)) := Lib.hid (by unfold charP; rw [if_neg (by omega), if_neg (by omega), if_neg (by omega), if_neg (by omega), ht]; dsimp only; rw [if_neg (by omega), if_pos (by omega)]; exact (encode_enc8 (by omega)).symm)
  have g0 : decide ((97 : Nat) ≤ c) = true := by simp; omega
  have f0 : decide ((97 : Int) ≤ (c : Int)) = true := by simp; omega
  have g1 : decide (c ≤ 122) = false := by simp; omega
  have f1 : decide ((c : Int) ≤ 122) = false := by simp; omega
  have g2 : decide ((48 : Nat) ≤ c) = true := by simp; omega
  have f2 : decide ((48 : Int) ≤ (c : Int)) = true := by simp; omega
  have g3 : decide (c ≤ 57) = false := by simp; omega
  have f3 : decide ((c : Int) ≤ 57) = false := by simp; omega
  have g4 : decide ((65 : Nat) ≤ c) = true := by simp; omega
  have f4 : decide ((65 : Int) ≤ (c : Int)) = true := by simp; omega
  have g5 : decide (c ≤ 90) = false := by simp; omega
  have f5 : decide ((c : Int) ≤ 90) = false := by simp; omega
  have g6 : decide (c < 128) = false := by simp; omega
  have f6 : decide ((c : Int) < 128) = false := by simp; omega
  have g7 : decide ((768 : Nat) ≤ c) = true := by simp; omega
  have f7 : decide ((768 : Int) ≤ (c : Int)) = true := by simp; omega
  have g8 : decide (c ≤ 879) = false := by simp; omega
  have f8 : decide ((c : Int) ≤ 879) = false := by simp; omega
  have g9 : decide ((65056 : Nat) ≤ c) = false := by simp; omega
  have f9 : decide ((65056 : Int) ≤ (c : Int)) = false := by simp; omega
  have g10 : decide (c ≤ 65071) = true := by simp; omega
  have f10 : decide ((c : Int) ≤ 65071) = true := by simp; omega
  have g11 : decide ((945 : Nat) ≤ c) = true := by simp; omega
  have f11 : decide ((945 : Int) ≤ (c : Int)) = true := by simp; omega
  have g12 : decide (c ≤ 969) = false := by simp; omega
  have f12 : decide ((c : Int) ≤ 969) = false := by simp; omega
  have g13 : decide ((1072 : Nat) ≤ c) = true := by simp; omega
  have f13 : decide ((1072 : Int) ≤ (c : Int)) = true := by simp; omega
  have g14 : decide (c ≤ 1103) = true := by simp; omega
  have f14 : decide ((c : Int) ≤ 1103) = true := by simp; omega
  have g15 : decide ((913 : Nat) ≤ c) = true := by simp; omega
  have f15 : decide ((913 : Int) ≤ (c : Int)) = true := by simp; omega
  have g16 : decide (c ≤ 937) = false := by simp; omega
  have f16 : decide ((c : Int) ≤ 937) = false := by simp; omega
  have g17 : decide ((1040 : Nat) ≤ c) = true := by simp; omega
  have f17 : decide ((1040 : Int) ≤ (c : Int)) = true := by simp; omega
  have g18 : decide (c ≤ 1071) = false := by simp; omega
  have f18 : decide ((c : Int) ≤ 1071) = false := by simp; omega
  have p0 : (c == 962) = false := by simp; omega
  have q0 : ((c : Int) == 962) = false := by simp; omega
  have p1 : (c != 930) = true := by simp; omega
  have q1 : ((c : Int) != 930) = true := by simp; omega
  have ho := fun W : World => one_rune W (c : Int) 21
  obtain ⟨s, hs⟩ : ∃ s, s = letS (tabC c) := ⟨_, rfl⟩
  have HL : RowKit.Hid (∀ W, Calls Tryz.prog 103 #[.int .i32 (c : Int)] W fun e w' => e = .returned (.string s) ∧ Below W.heap.size W w') := Lib.hid fun W => by rw [hs]; exact letterR_any c W
  rw [ht] at hs
  obtain rfl : s = ⟨#[]⟩ := hs
  clear ht
  clear h
  go_enter Tryz.func87, Tryz.ntmps87
  go_wp2_with fail
  refine (HL.out _).mono ?_
  rintro e w1 ⟨rfl, hb⟩
  have HB := Lib.hid hb
  clear hb HL
  go_wp2_with fail
  go_ret
  exact ⟨by rw [HR.out]; rfl, (HB.out).alloc (HB.out.size) _⟩
set_option maxRecDepth 100000 in
set_option maxHeartbeats 2000000 in
theorem chC12 (c : Nat) (w : World) (h : 1104 ≤ c ∧ c ≤ 65055) (ht : tabC c = none) : Calls Tryz.prog 87 #[.int .i32 c] w fun e w' => e = .returned (.string (ofL (charP tabC c))) ∧ Below w.heap.size w w' := by
  have HR : RowKit.Hid (ofL (charP tabC c) = ⟨#[32]⟩) := Lib.hid (by unfold charP; rw [if_neg (by omega), if_neg (by omega), if_neg (by omega), if_neg (by omega), ht]; dsimp only; rw [if_neg (by omega), if_neg (by omega), if_neg (by omega)]; rfl)
  have g0 : decide ((97 : Nat) ≤ c) = true := by simp; omega
  have f0 : decide ((97 : Int) ≤ (c : Int)) = true := by simp; omega
  have g1 : decide (c ≤ 122) = false := by simp; omega
  have f1 : decide ((c : Int) ≤ 122) = false := by simp; omega
  have g2 : decide ((48 : Nat) ≤ c) = true := by simp; omega
  have f2 : decide ((48 : Int) ≤ (c : Int)) = true := by simp; omega
  have g3 : decide (c ≤ 57) = false := by simp; omega
  have f3 : decide ((c : Int) ≤ 57) = false := by simp; omega
  have g4 : decide ((65 : Nat) ≤ c) = true := by simp; omega
  have f4 : decide ((65 : Int) ≤ (c : Int)) = true := by simp; omega
  have g5 : decide (c ≤ 90) = false := by simp; omega
  have f5 : decide ((c : Int) ≤ 90) = false := by simp; omega
  have g6 : decide (c < 128) = false := by simp; omega
  have f6 : decide ((c : Int) < 128) = false := by simp; omega
  have g7 : decide ((768 : Nat) ≤ c) = true := by simp; omega
  have f7 : decide ((768 : Int) ≤ (c : Int)) = true := by simp; omega
  have g8 : decide (c ≤ 879) = false := by simp; omega
  have f8 : decide ((c : Int) ≤ 879) = false := by simp; omega
  have g9 : decide ((65056 : Nat) ≤ c) = false := by simp; omega
  have f9 : decide ((65056 : Int) ≤ (c : Int)) = false := by simp; omega
  have g10 : decide (c ≤ 65071) = true := by simp; omega
  have f10 : decide ((c : Int) ≤ 65071) = true := by simp; omega
  have g11 : decide ((945 : Nat) ≤ c) = true := by simp; omega
  have f11 : decide ((945 : Int) ≤ (c : Int)) = true := by simp; omega
  have g12 : decide (c ≤ 969) = false := by simp; omega
  have f12 : decide ((c : Int) ≤ 969) = false := by simp; omega
  have g13 : decide ((1072 : Nat) ≤ c) = true := by simp; omega
  have f13 : decide ((1072 : Int) ≤ (c : Int)) = true := by simp; omega
  have g14 : decide (c ≤ 1103) = false := by simp; omega
  have f14 : decide ((c : Int) ≤ 1103) = false := by simp; omega
  have g15 : decide ((913 : Nat) ≤ c) = true := by simp; omega
  have f15 : decide ((913 : Int) ≤ (c : Int)) = true := by simp; omega
  have g16 : decide (c ≤ 937) = false := by simp; omega
  have f16 : decide ((c : Int) ≤ 937) = false := by simp; omega
  have g17 : decide ((1040 : Nat) ≤ c) = true := by simp; omega
  have f17 : decide ((1040 : Int) ≤ (c : Int)) = true := by simp; omega
  have g18 : decide (c ≤ 1071) = false := by simp; omega
  have f18 : decide ((c : Int) ≤ 1071) = false := by simp; omega
  have p0 : (c == 962) = false := by simp; omega
  have q0 : ((c : Int) == 962) = false := by simp; omega
  have p1 : (c != 930) = true := by simp; omega
  have q1 : ((c : Int) != 930) = true := by simp; omega
  obtain ⟨s, hs⟩ : ∃ s, s = letS (tabC c) := ⟨_, rfl⟩
  have HL : RowKit.Hid (∀ W, Calls Tryz.prog 103 #[.int .i32 (c : Int)] W fun e w' => e = .returned (.string s) ∧ Below W.heap.size W w') := Lib.hid fun W => by rw [hs]; exact letterR_any c W
  rw [ht] at hs
  obtain rfl : s = ⟨#[]⟩ := hs
  clear ht
  clear h
  go_enter Tryz.func87, Tryz.ntmps87
  go_wp2_with fail
  refine (HL.out _).mono ?_
  rintro e w1 ⟨rfl, hb⟩
  have HB := Lib.hid hb
  clear hb HL
  go_wp2_with fail
  go_ret
  exact ⟨by rw [HR.out]; rfl, HB.out⟩
set_option maxRecDepth 100000 in
set_option maxHeartbeats 2000000 in
theorem chC13 (c : Nat) (w : World) (h : 65072 ≤ c ∧ c ≤ 2147483647) (ht : tabC c = none) : Calls Tryz.prog 87 #[.int .i32 c] w fun e w' => e = .returned (.string (ofL (charP tabC c))) ∧ Below w.heap.size w w' := by
  have HR : RowKit.Hid (ofL (charP tabC c) = ⟨#[32]⟩) := Lib.hid (by unfold charP; rw [if_neg (by omega), if_neg (by omega), if_neg (by omega), if_neg (by omega), ht]; dsimp only; rw [if_neg (by omega), if_neg (by omega), if_neg (by omega)]; rfl)
  have g0 : decide ((97 : Nat) ≤ c) = true := by simp; omega
  have f0 : decide ((97 : Int) ≤ (c : Int)) = true := by simp; omega
  have g1 : decide (c ≤ 122) = false := by simp; omega
  have f1 : decide ((c : Int) ≤ 122) = false := by simp; omega
  have g2 : decide ((48 : Nat) ≤ c) = true := by simp; omega
  have f2 : decide ((48 : Int) ≤ (c : Int)) = true := by simp; omega
  have g3 : decide (c ≤ 57) = false := by simp; omega
  have f3 : decide ((c : Int) ≤ 57) = false := by simp; omega
  have g4 : decide ((65 : Nat) ≤ c) = true := by simp; omega
  have f4 : decide ((65 : Int) ≤ (c : Int)) = true := by simp; omega
  have g5 : decide (c ≤ 90) = false := by simp; omega
  have f5 : decide ((c : Int) ≤ 90) = false := by simp; omega
  have g6 : decide (c < 128) = false := by simp; omega
  have f6 : decide ((c : Int) < 128) = false := by simp; omega
  have g7 : decide ((768 : Nat) ≤ c) = true := by simp; omega
  have f7 : decide ((768 : Int) ≤ (c : Int)) = true := by simp; omega
  have g8 : decide (c ≤ 879) = false := by simp; omega
  have f8 : decide ((c : Int) ≤ 879) = false := by simp; omega
  have g9 : decide ((65056 : Nat) ≤ c) = true := by simp; omega
  have f9 : decide ((65056 : Int) ≤ (c : Int)) = true := by simp; omega
  have g10 : decide (c ≤ 65071) = false := by simp; omega
  have f10 : decide ((c : Int) ≤ 65071) = false := by simp; omega
  have g11 : decide ((945 : Nat) ≤ c) = true := by simp; omega
  have f11 : decide ((945 : Int) ≤ (c : Int)) = true := by simp; omega
  have g12 : decide (c ≤ 969) = false := by simp; omega
  have f12 : decide ((c : Int) ≤ 969) = false := by simp; omega
  have g13 : decide ((1072 : Nat) ≤ c) = true := by simp; omega
  have f13 : decide ((1072 : Int) ≤ (c : Int)) = true := by simp; omega
  have g14 : decide (c ≤ 1103) = false := by simp; omega
  have f14 : decide ((c : Int) ≤ 1103) = false := by simp; omega
  have g15 : decide ((913 : Nat) ≤ c) = true := by simp; omega
  have f15 : decide ((913 : Int) ≤ (c : Int)) = true := by simp; omega
  have g16 : decide (c ≤ 937) = false := by simp; omega
  have f16 : decide ((c : Int) ≤ 937) = false := by simp; omega
  have g17 : decide ((1040 : Nat) ≤ c) = true := by simp; omega
  have f17 : decide ((1040 : Int) ≤ (c : Int)) = true := by simp; omega
  have g18 : decide (c ≤ 1071) = false := by simp; omega
  have f18 : decide ((c : Int) ≤ 1071) = false := by simp; omega
  have p0 : (c == 962) = false := by simp; omega
  have q0 : ((c : Int) == 962) = false := by simp; omega
  have p1 : (c != 930) = true := by simp; omega
  have q1 : ((c : Int) != 930) = true := by simp; omega
  obtain ⟨s, hs⟩ : ∃ s, s = letS (tabC c) := ⟨_, rfl⟩
  have HL : RowKit.Hid (∀ W, Calls Tryz.prog 103 #[.int .i32 (c : Int)] W fun e w' => e = .returned (.string s) ∧ Below W.heap.size W w') := Lib.hid fun W => by rw [hs]; exact letterR_any c W
  rw [ht] at hs
  obtain rfl : s = ⟨#[]⟩ := hs
  clear ht
  clear h
  go_enter Tryz.func87, Tryz.ntmps87
  go_wp2_with fail
  refine (HL.out _).mono ?_
  rintro e w1 ⟨rfl, hb⟩
  have HB := Lib.hid hb
  clear hb HL
  go_wp2_with fail
  go_ret
  exact ⟨by rw [HR.out]; rfl, HB.out⟩
theorem charR_any (c : Nat) (w : World) (hc : c ≤ 2147483647) : Calls Tryz.prog 87 #[.int .i32 c] w fun e w' => e = .returned (.string (ofL (charP tabC c))) ∧ Below w.heap.size w w' := by
  by_cases hchA0 : 0 ≤ c ∧ c ≤ 47
  · exact chA0 c w hchA0
  by_cases hchA1 : 48 ≤ c ∧ c ≤ 57
  · exact chA1 c w hchA1
  by_cases hchA2 : 58 ≤ c ∧ c ≤ 64
  · exact chA2 c w hchA2
  by_cases hchA3 : 65 ≤ c ∧ c ≤ 90
  · exact chA3 c w hchA3
  by_cases hchA4 : 91 ≤ c ∧ c ≤ 96
  · exact chA4 c w hchA4
  by_cases hchA5 : 97 ≤ c ∧ c ≤ 122
  · exact chA5 c w hchA5
  by_cases hchA6 : 123 ≤ c ∧ c ≤ 127
  · exact chA6 c w hchA6
  by_cases hchA7 : 768 ≤ c ∧ c ≤ 879
  · exact chA7 c w hchA7
  by_cases hchA8 : 65056 ≤ c ∧ c ≤ 65071
  · exact chA8 c w hchA8
  cases ht : tabC c with
  | some t =>
    by_cases hchB0 : 128 ≤ c ∧ c ≤ 767
    · exact chB0 c w hchB0 ht
    by_cases hchB1 : 880 ≤ c ∧ c ≤ 65055
    · exact chB1 c w hchB1 ht
    exact chB2 c w (by omega) ht
  | none =>
    by_cases hchC0 : 128 ≤ c ∧ c ≤ 767
    · exact chC0 c w hchC0 ht
    by_cases hchC1 : 880 ≤ c ∧ c ≤ 912
    · exact chC1 c w hchC1 ht
    by_cases hchC2 : 913 ≤ c ∧ c ≤ 929
    · exact chC2 c w hchC2 ht
    by_cases hchC3 : 930 ≤ c ∧ c ≤ 930
    · exact chC3 c w hchC3 ht
    by_cases hchC4 : 931 ≤ c ∧ c ≤ 937
    · exact chC4 c w hchC4 ht
    by_cases hchC5 : 938 ≤ c ∧ c ≤ 944
    · exact chC5 c w hchC5 ht
    by_cases hchC6 : 945 ≤ c ∧ c ≤ 961
    · exact chC6 c w hchC6 ht
    by_cases hchC7 : 962 ≤ c ∧ c ≤ 962
    · exact chC7 c w hchC7 ht
    by_cases hchC8 : 963 ≤ c ∧ c ≤ 969
    · exact chC8 c w hchC8 ht
    by_cases hchC9 : 970 ≤ c ∧ c ≤ 1039
    · exact chC9 c w hchC9 ht
    by_cases hchC10 : 1040 ≤ c ∧ c ≤ 1071
    · exact chC10 c w hchC10 ht
    by_cases hchC11 : 1072 ≤ c ∧ c ≤ 1103
    · exact chC11 c w hchC11 ht
    by_cases hchC12 : 1104 ≤ c ∧ c ≤ 65055
    · exact chC12 c w hchC12 ht
    exact chC13 c w (by omega) ht
end Go.Proofs.YtpdldbapagchfaaGreatDoor
