/- FundsLimits: the walk. -/
import Derived.Test.YtmnkgjgaileokaaFN
namespace Go.Proofs.Ytmnkgjgaileokaa
open Go.RowKit

theorem and50 (a : Int) : 0 ≤ bits .and .i64 a 1125899906842623 ∧ bits .and .i64 a 1125899906842623 ≤ 1125899906842623 := by
  unfold bits
  dsimp only
  have h : (BitVec.ofInt IntKind.i64.bits a &&& BitVec.ofInt IntKind.i64.bits 1125899906842623).toNat ≤ 1125899906842623 := by
    rw [BitVec.toNat_and]
    exact Nat.le_trans Nat.and_le_right (by decide)
  rw [IntWalk.i64_in _ ⟨by omega, by omega⟩]
  omega
theorem add_root {v : PV} {x a : Int} (hx : x ∉ v.ids) (h1 : 1 ≤ x) (h0 : (0 : Int) ∉ v.ids) (ha : 0 ≤ a) (hl : v.ids.length < 10000) :
    v.add x 0 a = if 1000000000000000 - v.m < a then (2, v) else (0, v.put x 0 a 0 0) := by
  unfold PV.add
  rw [if_neg (by omega), if_neg hx, if_neg (fun h => h.1 rfl)]
  by_cases h : 1000000000000000 - v.m < a
  · rw [if_pos (.inr h), if_pos h]
  · rw [if_neg (by omega), if_neg h, if_neg h0]
theorem good_add' {v v' : PV} {x p a c : Int} (h : Good v) (hx : x ≤ 9223372036854775807) (e : v.add x p a = (c, v')) : Good v' := by
  have := (good_add (x := x) (p := p) (a := a) h hx).1
  rw [e] at this; exact this
/-- Four roots, one behind the other: what the sums are. -/
structure Root (v : PV) (ids : List Int) (m : Int) : Prop where
  good : Good v
  ids : v.ids = ids
  m : v.m = m
theorem root_add {v : PV} {ids : List Int} {m x a : Int} (h : Root v ids m) (hx : x ∉ ids) (h1 : 1 ≤ x) (h2 : x ≤ 100) (h0 : (0 : Int) ∉ ids) (ha : 0 ≤ a) (hl : ids.length < 100) :
    if 1000000000000000 - m < a then v.add x 0 a = (2, v) else ∃ v', v.add x 0 a = (0, v') ∧ Root v' (ids ++ [x]) (m + a) := by
  have e := add_root (v := v) (x := x) (a := a) (by rw [h.ids]; exact hx) h1 (by rw [h.ids]; exact h0) ha (by rw [h.ids]; omega)
  rw [h.m] at e
  split
  · rename_i h3; rw [if_pos h3] at e; exact e
  · rename_i h3
    rw [if_neg h3] at e
    refine ⟨_, e, good_add' h.good (by omega) e, ?_, ?_⟩
    · show v.ids ++ [x] = _; rw [h.ids]
    · show v.m + a = _; rw [h.m]
set_option maxRecDepth 100000 in
set_option maxHeartbeats 4000000 in
theorem limitsLaw (a b : Int) (w : World) : Calls Try.prog 5 #[.int .i64 a, .int .i64 b] w fun r w' => r = .returned (.bool true) ∧ Below w.heap.size w w' := by
  have bA := and50 a
  have bB := and50 b
  obtain ⟨A, hA⟩ : ∃ A, bits .and .i64 a 1125899906842623 = A := ⟨_, rfl⟩
  obtain ⟨B, hB⟩ : ∃ B, bits .and .i64 b 1125899906842623 = B := ⟨_, rfl⟩
  rw [hA] at bA
  rw [hB] at bB
  go_enter Try.func5, Try.ntmps5
  go_wp2_with fail
  refine (sanity_any w).mono ?_
  rintro e w1 ⟨rfl, hb0⟩
  go_wp2_with fail
  refine (new_any w1).mono ?_
  rintro e z0 ⟨rfl, hM, hw⟩
  have S0 := Lib.hid (show St w1 w1.heap.size z0 (FS.new w1.heap.size) q0 from ⟨hM, rfl, rfl, by rw [hw]; exact (Below.refl _ _).alloc (Nat.le_refl _) _, fun b hb => if_neg (by omega)⟩)
  have HB0 := Lib.hid hb0
  clear hM hw hA hB hb0
  generalize FS.new w1.heap.size = s0 at *
  have r0 : Root q0 [] 0 := ⟨g0, rfl, rfl⟩
  by_cases cA : 1000000000000000 < A
  · by_cases cB : 1000000000000000 < B
    · skip
      have r1 := root_add (x := 1) (a := A) r0 (by simp) (by omega) (by omega) (by simp) (by omega) (by simp)
      rw [if_pos (by omega)] at r1
      have R1 := r0
      have hd1 : decide (1000000000000000 < A) = true := by simpa using cA
      go_wp2_with fail
      have key := add_st (c := 2) S0.out.mem S0.out.pv r0.good r1 (by omega) (by omega) (by omega) (by omega) (by omega) (by omega)
      rw [S0.out.fb] at key
      refine key.mono ?_
      clear key
      rintro e z1 ⟨rfl, s1, hM, hT, hf, hp⟩
      have S1 := Lib.hid (S0.out.step hM hT hf hp)
      clear hM hT hf hp S0
      have r2 := root_add (x := 2) (a := B) R1 (by simp) (by omega) (by omega) (by simp) (by omega) (by simp)
      rw [if_pos (by omega)] at r2
      have R2 := R1
      have hd2 : decide (1000000000000000 < B) = true := by simpa using cB
      go_wp2_with fail
      have key := add_st (c := 2) S1.out.mem S1.out.pv R1.good r2 (by omega) (by omega) (by omega) (by omega) (by omega) (by omega)
      rw [S1.out.fb] at key
      refine key.mono ?_
      clear key
      rintro e z2 ⟨rfl, s2, hM, hT, hf, hp⟩
      have S2 := Lib.hid (S1.out.step hM hT hf hp)
      clear hM hT hf hp S1
      have r3 := root_add (x := 3) (a := 1000000000000000) R2 (by simp) (by omega) (by omega) (by simp) (by omega) (by simp)
      rw [if_neg (by omega)] at r3
      obtain ⟨v3, e3, R3⟩ := r3
      go_wp2_with fail
      have key := add_st (c := 0) S2.out.mem S2.out.pv R2.good e3 (by omega) (by omega) (by omega) (by omega) (by omega) (by omega)
      rw [S2.out.fb] at key
      refine key.mono ?_
      clear key
      rintro e z3 ⟨rfl, s3, hM, hT, hf, hp⟩
      have S3 := Lib.hid (S2.out.step hM hT hf hp)
      clear hM hT hf hp S2
      have r4 := root_add (x := 4) (a := 1) R3 (by simp) (by omega) (by omega) (by simp) (by omega) (by simp)
      rw [if_pos (by omega)] at r4
      go_wp2_with fail
      have key := add_st (c := 2) S3.out.mem S3.out.pv R3.good r4 (by omega) (by omega) (by omega) (by omega) (by omega) (by omega)
      rw [S3.out.fb] at key
      refine key.mono ?_
      clear key
      rintro e z4 ⟨rfl, s4, hM, hT, hf, hp⟩
      have S4 := Lib.hid (S3.out.step hM hT hf hp)
      clear hM hT hf hp S3
      have r5 := root_add (x := 4) (a := 0) R3 (by simp) (by omega) (by omega) (by simp) (by omega) (by simp)
      rw [if_neg (by omega)] at r5
      obtain ⟨v5, e5, R5⟩ := r5
      go_wp2_with fail
      have key := add_st (c := 0) S4.out.mem S4.out.pv R3.good e5 (by omega) (by omega) (by omega) (by omega) (by omega) (by omega)
      rw [S4.out.fb] at key
      refine key.mono ?_
      clear key
      rintro e z5 ⟨rfl, s5, hM, hT, hf, hp⟩
      have S5 := Lib.hid (S4.out.step hM hT hf hp)
      clear hM hT hf hp S4
      go_wp2_with fail
      go_ret
      exact ⟨rfl, HB0.out.trans (S5.out.below.mono HB0.out.size)⟩
    · skip
      have r1 := root_add (x := 1) (a := A) r0 (by simp) (by omega) (by omega) (by simp) (by omega) (by simp)
      rw [if_pos (by omega)] at r1
      have R1 := r0
      have hd1 : decide (1000000000000000 < A) = true := by simpa using cA
      go_wp2_with fail
      have key := add_st (c := 2) S0.out.mem S0.out.pv r0.good r1 (by omega) (by omega) (by omega) (by omega) (by omega) (by omega)
      rw [S0.out.fb] at key
      refine key.mono ?_
      clear key
      rintro e z1 ⟨rfl, s1, hM, hT, hf, hp⟩
      have S1 := Lib.hid (S0.out.step hM hT hf hp)
      clear hM hT hf hp S0
      have r2 := root_add (x := 2) (a := B) R1 (by simp) (by omega) (by omega) (by simp) (by omega) (by simp)
      rw [if_neg (by omega)] at r2
      obtain ⟨v2, e2, R2⟩ := r2
      have hd2 : decide (1000000000000000 < B) = false := by simpa using cB
      go_wp2_with fail
      have key := add_st (c := 0) S1.out.mem S1.out.pv R1.good e2 (by omega) (by omega) (by omega) (by omega) (by omega) (by omega)
      rw [S1.out.fb] at key
      refine key.mono ?_
      clear key
      rintro e z2 ⟨rfl, s2, hM, hT, hf, hp⟩
      have S2 := Lib.hid (S1.out.step hM hT hf hp)
      clear hM hT hf hp S1
      have r3 := root_add (x := 3) (a := 1000000000000000 - B) R2 (by simp) (by omega) (by omega) (by simp) (by omega) (by simp)
      rw [if_neg (by omega)] at r3
      obtain ⟨v3, e3, R3⟩ := r3
      go_wp2_with fail
      have key := add_st (c := 0) S2.out.mem S2.out.pv R2.good e3 (by omega) (by omega) (by omega) (by omega) (by omega) (by omega)
      rw [S2.out.fb] at key
      refine key.mono ?_
      clear key
      rintro e z3 ⟨rfl, s3, hM, hT, hf, hp⟩
      have S3 := Lib.hid (S2.out.step hM hT hf hp)
      clear hM hT hf hp S2
      have r4 := root_add (x := 4) (a := 1) R3 (by simp) (by omega) (by omega) (by simp) (by omega) (by simp)
      rw [if_pos (by omega)] at r4
      go_wp2_with fail
      have key := add_st (c := 2) S3.out.mem S3.out.pv R3.good r4 (by omega) (by omega) (by omega) (by omega) (by omega) (by omega)
      rw [S3.out.fb] at key
      refine key.mono ?_
      clear key
      rintro e z4 ⟨rfl, s4, hM, hT, hf, hp⟩
      have S4 := Lib.hid (S3.out.step hM hT hf hp)
      clear hM hT hf hp S3
      have r5 := root_add (x := 4) (a := 0) R3 (by simp) (by omega) (by omega) (by simp) (by omega) (by simp)
      rw [if_neg (by omega)] at r5
      obtain ⟨v5, e5, R5⟩ := r5
      go_wp2_with fail
      have key := add_st (c := 0) S4.out.mem S4.out.pv R3.good e5 (by omega) (by omega) (by omega) (by omega) (by omega) (by omega)
      rw [S4.out.fb] at key
      refine key.mono ?_
      clear key
      rintro e z5 ⟨rfl, s5, hM, hT, hf, hp⟩
      have S5 := Lib.hid (S4.out.step hM hT hf hp)
      clear hM hT hf hp S4
      go_wp2_with fail
      go_ret
      exact ⟨rfl, HB0.out.trans (S5.out.below.mono HB0.out.size)⟩
  · by_cases cB : 1000000000000000 - A < B
    · skip
      have r1 := root_add (x := 1) (a := A) r0 (by simp) (by omega) (by omega) (by simp) (by omega) (by simp)
      rw [if_neg (by omega)] at r1
      obtain ⟨v1, e1, R1⟩ := r1
      have hd1 : decide (1000000000000000 < A) = false := by simpa using cA
      go_wp2_with fail
      have key := add_st (c := 0) S0.out.mem S0.out.pv r0.good e1 (by omega) (by omega) (by omega) (by omega) (by omega) (by omega)
      rw [S0.out.fb] at key
      refine key.mono ?_
      clear key
      rintro e z1 ⟨rfl, s1, hM, hT, hf, hp⟩
      have S1 := Lib.hid (S0.out.step hM hT hf hp)
      clear hM hT hf hp S0
      have r2 := root_add (x := 2) (a := B) R1 (by simp) (by omega) (by omega) (by simp) (by omega) (by simp)
      rw [if_pos (by omega)] at r2
      have R2 := R1
      have hd2 : decide (1000000000000000 - A < B) = true := by simpa using cB
      go_wp2_with fail
      have key := add_st (c := 2) S1.out.mem S1.out.pv R1.good r2 (by omega) (by omega) (by omega) (by omega) (by omega) (by omega)
      rw [S1.out.fb] at key
      refine key.mono ?_
      clear key
      rintro e z2 ⟨rfl, s2, hM, hT, hf, hp⟩
      have S2 := Lib.hid (S1.out.step hM hT hf hp)
      clear hM hT hf hp S1
      have r3 := root_add (x := 3) (a := 1000000000000000 - A) R2 (by simp) (by omega) (by omega) (by simp) (by omega) (by simp)
      rw [if_neg (by omega)] at r3
      obtain ⟨v3, e3, R3⟩ := r3
      go_wp2_with fail
      have key := add_st (c := 0) S2.out.mem S2.out.pv R2.good e3 (by omega) (by omega) (by omega) (by omega) (by omega) (by omega)
      rw [S2.out.fb] at key
      refine key.mono ?_
      clear key
      rintro e z3 ⟨rfl, s3, hM, hT, hf, hp⟩
      have S3 := Lib.hid (S2.out.step hM hT hf hp)
      clear hM hT hf hp S2
      have r4 := root_add (x := 4) (a := 1) R3 (by simp) (by omega) (by omega) (by simp) (by omega) (by simp)
      rw [if_pos (by omega)] at r4
      go_wp2_with fail
      have key := add_st (c := 2) S3.out.mem S3.out.pv R3.good r4 (by omega) (by omega) (by omega) (by omega) (by omega) (by omega)
      rw [S3.out.fb] at key
      refine key.mono ?_
      clear key
      rintro e z4 ⟨rfl, s4, hM, hT, hf, hp⟩
      have S4 := Lib.hid (S3.out.step hM hT hf hp)
      clear hM hT hf hp S3
      have r5 := root_add (x := 4) (a := 0) R3 (by simp) (by omega) (by omega) (by simp) (by omega) (by simp)
      rw [if_neg (by omega)] at r5
      obtain ⟨v5, e5, R5⟩ := r5
      go_wp2_with fail
      have key := add_st (c := 0) S4.out.mem S4.out.pv R3.good e5 (by omega) (by omega) (by omega) (by omega) (by omega) (by omega)
      rw [S4.out.fb] at key
      refine key.mono ?_
      clear key
      rintro e z5 ⟨rfl, s5, hM, hT, hf, hp⟩
      have S5 := Lib.hid (S4.out.step hM hT hf hp)
      clear hM hT hf hp S4
      go_wp2_with fail
      go_ret
      exact ⟨rfl, HB0.out.trans (S5.out.below.mono HB0.out.size)⟩
    · skip
      have r1 := root_add (x := 1) (a := A) r0 (by simp) (by omega) (by omega) (by simp) (by omega) (by simp)
      rw [if_neg (by omega)] at r1
      obtain ⟨v1, e1, R1⟩ := r1
      have hd1 : decide (1000000000000000 < A) = false := by simpa using cA
      go_wp2_with fail
      have key := add_st (c := 0) S0.out.mem S0.out.pv r0.good e1 (by omega) (by omega) (by omega) (by omega) (by omega) (by omega)
      rw [S0.out.fb] at key
      refine key.mono ?_
      clear key
      rintro e z1 ⟨rfl, s1, hM, hT, hf, hp⟩
      have S1 := Lib.hid (S0.out.step hM hT hf hp)
      clear hM hT hf hp S0
      have r2 := root_add (x := 2) (a := B) R1 (by simp) (by omega) (by omega) (by simp) (by omega) (by simp)
      rw [if_neg (by omega)] at r2
      obtain ⟨v2, e2, R2⟩ := r2
      have hd2 : decide (1000000000000000 - A < B) = false := by simpa using cB
      go_wp2_with fail
      have key := add_st (c := 0) S1.out.mem S1.out.pv R1.good e2 (by omega) (by omega) (by omega) (by omega) (by omega) (by omega)
      rw [S1.out.fb] at key
      refine key.mono ?_
      clear key
      rintro e z2 ⟨rfl, s2, hM, hT, hf, hp⟩
      have S2 := Lib.hid (S1.out.step hM hT hf hp)
      clear hM hT hf hp S1
      have r3 := root_add (x := 3) (a := 1000000000000000 - A - B) R2 (by simp) (by omega) (by omega) (by simp) (by omega) (by simp)
      rw [if_neg (by omega)] at r3
      obtain ⟨v3, e3, R3⟩ := r3
      go_wp2_with fail
      have key := add_st (c := 0) S2.out.mem S2.out.pv R2.good e3 (by omega) (by omega) (by omega) (by omega) (by omega) (by omega)
      rw [S2.out.fb] at key
      refine key.mono ?_
      clear key
      rintro e z3 ⟨rfl, s3, hM, hT, hf, hp⟩
      have S3 := Lib.hid (S2.out.step hM hT hf hp)
      clear hM hT hf hp S2
      have r4 := root_add (x := 4) (a := 1) R3 (by simp) (by omega) (by omega) (by simp) (by omega) (by simp)
      rw [if_pos (by omega)] at r4
      go_wp2_with fail
      have key := add_st (c := 2) S3.out.mem S3.out.pv R3.good r4 (by omega) (by omega) (by omega) (by omega) (by omega) (by omega)
      rw [S3.out.fb] at key
      refine key.mono ?_
      clear key
      rintro e z4 ⟨rfl, s4, hM, hT, hf, hp⟩
      have S4 := Lib.hid (S3.out.step hM hT hf hp)
      clear hM hT hf hp S3
      have r5 := root_add (x := 4) (a := 0) R3 (by simp) (by omega) (by omega) (by simp) (by omega) (by simp)
      rw [if_neg (by omega)] at r5
      obtain ⟨v5, e5, R5⟩ := r5
      go_wp2_with fail
      have key := add_st (c := 0) S4.out.mem S4.out.pv R3.good e5 (by omega) (by omega) (by omega) (by omega) (by omega) (by omega)
      rw [S4.out.fb] at key
      refine key.mono ?_
      clear key
      rintro e z5 ⟨rfl, s5, hM, hT, hf, hp⟩
      have S5 := Lib.hid (S4.out.step hM hT hf hp)
      clear hM hT hf hp S4
      go_wp2_with fail
      go_ret
      exact ⟨rfl, HB0.out.trans (S5.out.below.mono HB0.out.size)⟩
end Go.Proofs.Ytmnkgjgaileokaa
