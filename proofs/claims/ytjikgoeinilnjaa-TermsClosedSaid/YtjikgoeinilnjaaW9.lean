/- Contracts of Fine and of its reference: what the open days cost, at most Cap. -/
import Derived.Test.YtjikgoeinilnjaaW8
namespace Go.Proofs.Ytjikgoeinilnjaa
open Go.RowKit

def fineS (r : Rule) (c : Cal) (du d : Int) : Int := if d ≤ du ∨ r.f < 0 ∨ r.c < 0 then 0 else min (cntS c (du + 1) (d + 1) * r.f) r.c
theorem fineS_0 {r : Rule} {c : Cal} {du d : Int} (h : d ≤ du ∨ r.f < 0 ∨ r.c < 0) : fineS r c du d = 0 := if_pos h
theorem fineS_1 {r : Rule} {c : Cal} {du d : Int} (h : ¬ d ≤ du) (h1 : ¬ r.f < 0) (h2 : ¬ r.c < 0) : fineS r c du d = min (cntS c (du + 1) (d + 1) * r.f) r.c := if_neg (by omega)
theorem cntR_bd (c : Cal) (f : Int) (n : Nat) : 0 ≤ cntR c f n ∧ cntR c f n ≤ n := by
  induction n with
  | zero => simp [cntR]
  | succ n ih => rw [cntR]; split <;> omega
theorem cntS_bd (c : Cal) (f t : Int) : 0 ≤ cntS c f t ∧ cntS c f t ≤ 4000000 := by
  have := cntR_bd c (lo f) (hi t - lo f).toNat
  unfold cntS; unfold lo hi at *; omega
theorem cntS_hi {c : Cal} {f t t' : Int} (h : hi t = hi t') : cntS c f t = cntS c f t' := by rw [cntS, cntS, h]
theorem min_big {n f c : Int} (hf : 0 < f) (h : c / f < n) : min (n * f) c = c := by
  have := (Int.ediv_lt_iff_lt_mul hf).1 h
  omega
theorem mul_small {n f c : Int} (hf : 0 < f) (h : ¬ c / f < n) : n * f ≤ c := by
  have : ¬ c < n * f := fun e => h ((Int.ediv_lt_iff_lt_mul hf).2 e)
  omega

attribute [local go_sem] over_cell over_frozen
set_option maxRecDepth 100000 in
set_option maxHeartbeats 2000000 in
theorem fine_any (r : Rule) (c : Cal) (a : Option Addr) (cap : Nat) (du d : Int) (w : World) (hD : IntSl w a c.days) (hl : c.days.length ≤ 1000)
    (h0 : -100000000 ≤ du) (h1 : du ≤ 100000000) (hd : -100000000 ≤ d) (hd' : d ≤ 100000000) (hc : r.c ≤ 9223372036854775807) :
    Calls Try.prog 22 #[.agg #[.int .i64 r.p, .int .i64 r.i, .int .i64 r.b, .int .i64 r.d, .int .i64 r.n, .int .i64 r.f, .int .i64 r.c], .agg #[.bool c.b0, .bool c.b1, .bool c.b2, .bool c.b3, .bool c.b4, .bool c.b5, .bool c.b6, .slice a c.days.length cap], .int .i64 du, .int .i64 d] w fun e w' =>
      e = .returned (.int .i64 (fineS r c du d)) ∧ Below w.heap.size w w' := by
  have HB := Lib.hid (below2 w (.cells #[.int .i64 r.p, .int .i64 r.i, .int .i64 r.b, .int .i64 r.d, .int .i64 r.n, .int .i64 r.f, .int .i64 r.c] 28) (.cells (c.cells a cap) 43))
  by_cases g0 : d ≤ du
  · have HE := Lib.hid (fineS_0 (r := r) (c := c) (.inl g0))
    go_enter Try.func22, Try.ntmps22
    go_wp2_with fail
    go_ret
    exact ⟨ret_int HE.out.symm, HB.out⟩
  have g0' : decide (d ≤ du) = false := by simpa using g0
  by_cases g1 : r.f < 0
  · have HE := Lib.hid (fineS_0 (r := r) (c := c) (du := du) (d := d) (.inr (.inl g1)))
    have g1' : decide (r.f < 0) = true := by simpa using g1
    go_enter Try.func22, Try.ntmps22
    go_wp2_with fail
    go_ret
    exact ⟨ret_int HE.out.symm, HB.out⟩
  have g1' : decide (r.f < 0) = false := by simpa using g1
  by_cases g2 : r.c < 0
  · have HE := Lib.hid (fineS_0 (r := r) (c := c) (du := du) (d := d) (.inr (.inr g2)))
    have g2' : decide (r.c < 0) = true := by simpa using g2
    go_enter Try.func22, Try.ntmps22
    go_wp2_with fail
    go_ret
    exact ⟨ret_int HE.out.symm, HB.out⟩
  have g2' : decide (r.c < 0) = false := by simpa using g2
  obtain ⟨N, hN⟩ : ∃ N, N = cntS c (du + 1) (d + 1) := ⟨_, rfl⟩
  have HE := Lib.hid (fineS_1 (r := r) (c := c) (du := du) (d := d) g0 g1 g2)
  rw [← hN] at HE
  have HN := Lib.hid hN
  have nb := cntS_bd c (du + 1) (d + 1)
  rw [← hN] at nb
  obtain ⟨T, hT⟩ : ∃ T, min d 1099511627776 = T := ⟨_, rfl⟩
  have HT : RowKit.Hid (cntS c (du + 1) (T + 1) = N) := by
    show _ = N
    rw [hN]; apply cntS_hi; unfold hi; omega
  have bT : -100000000 ≤ T ∧ T ≤ 100000000 := by omega
  clear hN
  by_cases g3 : 0 < r.f
  · have g3' : decide (0 < r.f) = true := by simpa using g3
    by_cases g4 : r.c / r.f < N
    · have g4' : decide (r.c / r.f < N) = true := by simpa using g4
      go_enter Try.func22, Try.ntmps22
      go_wp2_with fail
      refine (count_any c a cap _ _ _ ((hD.alloc _).alloc _) hl (by omega) (by omega) (by omega) (by omega)).mono ?_
      rintro e w1 ⟨rfl, hb1⟩
      obtain ⟨x1, rfl⟩ := is_over hb1
      rw [HT.out]
      go_wp2_with fail
      go_ret
      exact ⟨ret_int (by rw [HE.out, min_big g3 g4]), HB.out.trans (hb1.mono (by simp; omega))⟩
    · have g4' : decide (r.c / r.f < N) = false := by simpa using g4
      have hm := mul_small (n := N) g3 g4
      have hm0 : 0 ≤ N * r.f := Int.mul_nonneg nb.1 (by omega)
      go_enter Try.func22, Try.ntmps22
      go_wp2_with fail
      refine (count_any c a cap _ _ _ ((hD.alloc _).alloc _) hl (by omega) (by omega) (by omega) (by omega)).mono ?_
      rintro e w1 ⟨rfl, hb1⟩
      obtain ⟨x1, rfl⟩ := is_over hb1
      rw [HT.out]
      go_wp2_with fail
      go_ret
      exact ⟨ret_int (by rw [HE.out]; omega), HB.out.trans (hb1.mono (by simp; omega))⟩
  · have g3' : decide (0 < r.f) = false := by simpa using g3
    have e : r.f = 0 := by omega
    have hm0 : 0 ≤ N * r.f := by rw [e]; simp
    have hm1 : N * r.f ≤ 0 := by rw [e]; simp
    clear e
    go_enter Try.func22, Try.ntmps22
    go_wp2_with fail
    refine (count_any c a cap _ _ _ ((hD.alloc _).alloc _) hl (by omega) (by omega) (by omega) (by omega)).mono ?_
    rintro e w1 ⟨rfl, hb1⟩
    obtain ⟨x1, rfl⟩ := is_over hb1
    rw [HT.out]
    go_wp2_with fail
    go_ret
    exact ⟨ret_int (by rw [HE.out]; omega), HB.out.trans (hb1.mono (by simp; omega))⟩

attribute [local go_sem] over_cell over_frozen
set_option maxRecDepth 100000 in
set_option maxHeartbeats 2000000 in
theorem refFine_any (r : Rule) (c : Cal) (a : Option Addr) (cap : Nat) (du d : Int) (w : World) (hD : IntSl w a c.days) (hl : c.days.length ≤ 1000)
    (h0 : -100000000 ≤ du) (h1 : du ≤ 100000000) (hd : -100000000 ≤ d) (hd' : d ≤ 100000000) (hc : r.c ≤ 9223372036854775807) :
    Calls Try.prog 23 #[.agg #[.int .i64 r.p, .int .i64 r.i, .int .i64 r.b, .int .i64 r.d, .int .i64 r.n, .int .i64 r.f, .int .i64 r.c], .agg #[.bool c.b0, .bool c.b1, .bool c.b2, .bool c.b3, .bool c.b4, .bool c.b5, .bool c.b6, .slice a c.days.length cap], .int .i64 du, .int .i64 d] w fun e w' =>
      e = .returned (.int .i64 (fineS r c du d)) ∧ Below w.heap.size w w' := by
  have HB := Lib.hid (below2 w (.cells #[.int .i64 r.p, .int .i64 r.i, .int .i64 r.b, .int .i64 r.d, .int .i64 r.n, .int .i64 r.f, .int .i64 r.c] 28) (.cells (c.cells a cap) 43))
  by_cases g0 : d ≤ du
  · have HE := Lib.hid (fineS_0 (r := r) (c := c) (.inl g0))
    go_enter Try.func23, Try.ntmps23
    go_wp2_with fail
    go_ret
    exact ⟨ret_int HE.out.symm, HB.out⟩
  have g0' : decide (d ≤ du) = false := by simpa using g0
  by_cases g1 : r.f < 0
  · have HE := Lib.hid (fineS_0 (r := r) (c := c) (du := du) (d := d) (.inr (.inl g1)))
    have g1' : decide (r.f < 0) = true := by simpa using g1
    go_enter Try.func23, Try.ntmps23
    go_wp2_with fail
    go_ret
    exact ⟨ret_int HE.out.symm, HB.out⟩
  have g1' : decide (r.f < 0) = false := by simpa using g1
  by_cases g2 : r.c < 0
  · have HE := Lib.hid (fineS_0 (r := r) (c := c) (du := du) (d := d) (.inr (.inr g2)))
    have g2' : decide (r.c < 0) = true := by simpa using g2
    go_enter Try.func23, Try.ntmps23
    go_wp2_with fail
    go_ret
    exact ⟨ret_int HE.out.symm, HB.out⟩
  have g2' : decide (r.c < 0) = false := by simpa using g2
  obtain ⟨N, hN⟩ : ∃ N, N = cntS c (du + 1) (d + 1) := ⟨_, rfl⟩
  have HE := Lib.hid (fineS_1 (r := r) (c := c) (du := du) (d := d) g0 g1 g2)
  rw [← hN] at HE
  have HN := Lib.hid hN
  have nb := cntS_bd c (du + 1) (d + 1)
  rw [← hN] at nb
  obtain ⟨T, hT⟩ : ∃ T, min d 2932896 = T := ⟨_, rfl⟩
  have HT : RowKit.Hid (cntS c (du + 1) (T + 1) = N) := by
    show _ = N
    rw [hN]; apply cntS_hi; unfold hi; omega
  have bT : -100000000 ≤ T ∧ T ≤ 100000000 := by omega
  clear hN
  by_cases g3 : 0 < r.f
  · have g3' : decide (0 < r.f) = true := by simpa using g3
    by_cases g4 : r.c / r.f < N
    · have g4' : decide (r.c / r.f < N) = true := by simpa using g4
      go_enter Try.func23, Try.ntmps23
      go_wp2_with fail
      refine (refCount_any c a cap _ _ _ ((hD.alloc _).alloc _) hl (by omega) (by omega) (by omega) (by omega)).mono ?_
      rintro e w1 ⟨rfl, hb1⟩
      obtain ⟨x1, rfl⟩ := is_over hb1
      rw [HT.out]
      go_wp2_with fail
      go_ret
      exact ⟨ret_int (by rw [HE.out, min_big g3 g4]), HB.out.trans (hb1.mono (by simp; omega))⟩
    · have g4' : decide (r.c / r.f < N) = false := by simpa using g4
      have hm := mul_small (n := N) g3 g4
      have hm0 : 0 ≤ N * r.f := Int.mul_nonneg nb.1 (by omega)
      go_enter Try.func23, Try.ntmps23
      go_wp2_with fail
      refine (refCount_any c a cap _ _ _ ((hD.alloc _).alloc _) hl (by omega) (by omega) (by omega) (by omega)).mono ?_
      rintro e w1 ⟨rfl, hb1⟩
      obtain ⟨x1, rfl⟩ := is_over hb1
      rw [HT.out]
      go_wp2_with fail
      go_ret
      exact ⟨ret_int (by rw [HE.out]; omega), HB.out.trans (hb1.mono (by simp; omega))⟩
  · have g3' : decide (0 < r.f) = false := by simpa using g3
    have e : r.f = 0 := by omega
    have hm0 : 0 ≤ N * r.f := by rw [e]; simp
    have hm1 : N * r.f ≤ 0 := by rw [e]; simp
    clear e
    go_enter Try.func23, Try.ntmps23
    go_wp2_with fail
    refine (refCount_any c a cap _ _ _ ((hD.alloc _).alloc _) hl (by omega) (by omega) (by omega) (by omega)).mono ?_
    rintro e w1 ⟨rfl, hb1⟩
    obtain ⟨x1, rfl⟩ := is_over hb1
    rw [HT.out]
    go_wp2_with fail
    go_ret
    exact ⟨ret_int (by rw [HE.out]; omega), HB.out.trans (hb1.mono (by simp; omega))⟩
end Go.Proofs.Ytjikgoeinilnjaa
