/- Contracts of fits, table and made. -/
import Derived.Test.YtjikgoeinilnjaaW3
namespace Go.Proofs.Ytjikgoeinilnjaa
open Go.RowKit

theorem ret_bi {p : Bool × Int} {b : Bool} {x : Int} (h : p = (b, x)) : Ending.returned (.tuple #[.bool b, .int .i64 x]) = .returned (.tuple #[.bool p.1, .int .i64 p.2]) := by rw [h]
def fitsS (r : Rule) (x y z : Int) : Bool × Int := if holdsB r x y z = true then (true, rw3 r) else (false, 0)
section
variable {f0 f1 f2 f3 f4 f5 f6 a b c : Int}
theorem fitsS_0 (h : fitsB f0 a = false) : fitsS ⟨f0, f1, f2, f3, f4, f5, f6⟩ a b c = (false, 0) := by simp [fitsS, holdsB, h]
theorem fitsS_1 (h : fitsB f1 b = false) : fitsS ⟨f0, f1, f2, f3, f4, f5, f6⟩ a b c = (false, 0) := by simp [fitsS, holdsB, h]
theorem fitsS_2 (h : fitsB f2 c = false) : fitsS ⟨f0, f1, f2, f3, f4, f5, f6⟩ a b c = (false, 0) := by simp [fitsS, holdsB, h]
theorem fitsS_3 (h : fitsB f0 a = true) (h1 : fitsB f1 b = true) (h2 : fitsB f2 c = true) : fitsS ⟨f0, f1, f2, f3, f4, f5, f6⟩ a b c = (true, wsum f0 f1 f2 3) := by simp [fitsS, holdsB, h, h1, h2, wsum, rw3]
end
theorem below3 (w : World) (o o' o'' : Obj) : Below w.heap.size w (((w.alloc o).alloc o').alloc o'') := (((Below.refl _ _).alloc (Nat.le_refl _) _).alloc (by rw [size_alloc]; omega) _).alloc (by rw [size_alloc, size_alloc]; omega) _
set_option maxHeartbeats 1000000 in
theorem fits_any (r : Rule) (a b c : Int) (w : World) :
    Calls Try.prog 16 #[.agg #[.int .i64 r.p, .int .i64 r.i, .int .i64 r.b, .int .i64 r.d, .int .i64 r.n, .int .i64 r.f, .int .i64 r.c], .agg #[.int .i64 a, .int .i64 b, .int .i64 c]] w fun e w' => e = .returned (.tuple #[.bool (fitsS r a b c).1, .int .i64 (fitsS r a b c).2]) ∧ Below w.heap.size w w' := by
  obtain ⟨f0, f1, f2, f3, f4, f5, f6⟩ := r
  have HB := Lib.hid (below3 w (.cells #[.int .i64 f0, .int .i64 f1, .int .i64 f2, .int .i64 f3, .int .i64 f4, .int .i64 f5, .int .i64 f6] 28) (.cells #[.int .i64 a, .int .i64 b, .int .i64 c] 23) (.cells #[.int .i64 f0, .int .i64 f1, .int .i64 f2] 23))
  go_enter Try.func16, Try.ntmps16
  go_wp2_with fail
  go_loopw [7, 8] (fun s i wr => ∃ k : Nat, k ≤ 3 ∧ i = .int .i64 k ∧ s = .int .i64 (wsum f0 f1 f2 k) ∧ Below w.heap.size w wr ∧ Blk wr (w.heap.size + 1) #[.int .i64 a, .int .i64 b, .int .i64 c] 23 ∧ Blk wr (w.heap.size + 1 + 1) #[.int .i64 f0, .int .i64 f1, .int .i64 f2] 23 ∧
      (0 < k → fitsB f0 a = true) ∧ (1 < k → fitsB f1 b = true) ∧ (2 < k → fitsB f2 c = true)) (fun _ i _ => 3 - (intOf i).toNat)
  case atStart => exact ⟨0, by omega, rfl, by simp [wsum], HB.out, ((Blk.at_new (by simp) _ _).alloc _), Blk.at_new (by simp) _ _, by omega, by omega, by omega⟩
  case round =>
    obtain ⟨k, hk, rfl, rfl, hbl, hz1, hz2, e0, e1, e2⟩ := hrel
    have HBL := Lib.hid hbl
    have HZ1 := Lib.hid hz1
    have HZ2 := Lib.hid hz2
    have c0 : wr.cell? ⟨w.heap.size + 1, 0, none⟩ = some (.int .i64 a) := hz1.cell 0
    have c1 : wr.cell? ⟨w.heap.size + 1, 1, none⟩ = some (.int .i64 b) := hz1.cell 1
    have c2 : wr.cell? ⟨w.heap.size + 1, 2, none⟩ = some (.int .i64 c) := hz1.cell 2
    have d0 : wr.cell? ⟨w.heap.size + 1 + 1, 0, none⟩ = some (.int .i64 f0) := hz2.cell 0
    have d1 : wr.cell? ⟨w.heap.size + 1 + 1, 1, none⟩ = some (.int .i64 f1) := hz2.cell 1
    have d2 : wr.cell? ⟨w.heap.size + 1 + 1, 2, none⟩ = some (.int .i64 f2) := hz2.cell 2
    clear hbl hz1 hz2
    have hk4 : k = 0 ∨ k = 1 ∨ k = 2 ∨ k = 3 := by omega
    have F0 := Lib.hid e0
    have F1 := Lib.hid e1
    have F2 := Lib.hid e2
    have hs : 0 ≤ wsum f0 f1 f2 k ∧ wsum f0 f1 f2 k ≤ 7 := wsum_bd ..
    clear e0 e1 e2
    rcases hk4 with rfl | rfl | rfl | rfl
    · cases hm : (f0 == -1)
      · have hm' : (f0 != -1) = true := by simp at hm; simp [hm]
        cases hv : (f0 == a)
        · have hv' : (f0 != a) = true := by simp at hv; simp [hv]
          go_wp2_with fail
          go_quiet (fail)
          go_wp2_with fail
          go_ret2
          exact ⟨ret_bi (fitsS_0 (fits_c hm hv)), bdrewN HBL.out _⟩
        · have hv' : (f0 != a) = false := by simp at hv; simp [hv]
          go_wp2_with fail
          go_quiet (fail)
          go_wp2_with fail
          exact ⟨⟨1, by omega, rfl, vint (wsum_0b f0 f1 f2 hm), bdrewN HBL.out _, HZ1.out.drewN _, HZ2.out.drewN _, fun _ => fits_b hv, by omega, by omega⟩, by simp [intOf]⟩
      · have hm' : (f0 != -1) = false := by simp at hm; simp [hm]
        go_wp2_with fail
        go_quiet (fail)
        go_wp2_with fail
        exact ⟨⟨1, by omega, rfl, vint (wsum_0a f0 f1 f2 hm), bdrewN HBL.out _, HZ1.out.drewN _, HZ2.out.drewN _, fun _ => fits_a hm, by omega, by omega⟩, by simp [intOf]⟩
    · cases hm : (f1 == -1)
      · have hm' : (f1 != -1) = true := by simp at hm; simp [hm]
        cases hv : (f1 == b)
        · have hv' : (f1 != b) = true := by simp at hv; simp [hv]
          go_wp2_with fail
          go_quiet (fail)
          go_wp2_with fail
          go_ret2
          exact ⟨ret_bi (fitsS_1 (fits_c hm hv)), bdrewN HBL.out _⟩
        · have hv' : (f1 != b) = false := by simp at hv; simp [hv]
          go_wp2_with fail
          go_quiet (fail)
          go_wp2_with fail
          exact ⟨⟨2, by omega, rfl, vint (wsum_1b f0 f1 f2 hm), bdrewN HBL.out _, HZ1.out.drewN _, HZ2.out.drewN _, fun _ => F0.out (by omega), fun _ => fits_b hv, by omega⟩, by simp [intOf]⟩
      · have hm' : (f1 != -1) = false := by simp at hm; simp [hm]
        go_wp2_with fail
        go_quiet (fail)
        go_wp2_with fail
        exact ⟨⟨2, by omega, rfl, vint (wsum_1a f0 f1 f2 hm), bdrewN HBL.out _, HZ1.out.drewN _, HZ2.out.drewN _, fun _ => F0.out (by omega), fun _ => fits_a hm, by omega⟩, by simp [intOf]⟩
    · cases hm : (f2 == -1)
      · have hm' : (f2 != -1) = true := by simp at hm; simp [hm]
        cases hv : (f2 == c)
        · have hv' : (f2 != c) = true := by simp at hv; simp [hv]
          go_wp2_with fail
          go_quiet (fail)
          go_wp2_with fail
          go_ret2
          exact ⟨ret_bi (fitsS_2 (fits_c hm hv)), bdrewN HBL.out _⟩
        · have hv' : (f2 != c) = false := by simp at hv; simp [hv]
          go_wp2_with fail
          go_quiet (fail)
          go_wp2_with fail
          exact ⟨⟨3, by omega, rfl, vint (wsum_2b f0 f1 f2 hm), bdrewN HBL.out _, HZ1.out.drewN _, HZ2.out.drewN _, fun _ => F0.out (by omega), fun _ => F1.out (by omega), fun _ => fits_b hv⟩, by simp [intOf]⟩
      · have hm' : (f2 != -1) = false := by simp at hm; simp [hm]
        go_wp2_with fail
        go_quiet (fail)
        go_wp2_with fail
        exact ⟨⟨3, by omega, rfl, vint (wsum_2a f0 f1 f2 hm), bdrewN HBL.out _, HZ1.out.drewN _, HZ2.out.drewN _, fun _ => F0.out (by omega), fun _ => F1.out (by omega), fun _ => fits_a hm⟩, by simp [intOf]⟩
    · go_wp2_with fail
      go_ret2
      exact ⟨ret_bi (fitsS_3 (F0.out (by omega)) (F1.out (by omega)) (F2.out (by omega))), HBL.out⟩
end Go.Proofs.Ytjikgoeinilnjaa
