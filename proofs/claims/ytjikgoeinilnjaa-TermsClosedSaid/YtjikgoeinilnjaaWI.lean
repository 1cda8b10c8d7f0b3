/- TermsFine: the walk. -/
import Derived.Test.YtjikgoeinilnjaaWH
namespace Go.Proofs.Ytjikgoeinilnjaa
open Go.RowKit

attribute [local go_sem] over_cell over_frozen
set_option maxRecDepth 100000 in
set_option maxHeartbeats 8000000 in
theorem fineLaw (r : Rule) (wk : Int) (a : Option Addr) (D : List Int) (cap : Nat) (n0 n1 : Int) (w : World) (h0 : 0 ≤ wk) (h1 : wk ≤ 255) (hD : U8Sl w a D) (hDl : D.length ≤ 9223372036854775807) (hrc : r.c ≤ 9223372036854775807) :
    Calls Try.prog 8 #[.agg #[.int .i64 r.p, .int .i64 r.i, .int .i64 r.b, .int .i64 r.d, .int .i64 r.n, .int .i64 r.f, .int .i64 r.c], .agg #[.int .u8 wk, .slice a D.length cap], .agg #[.int .i64 n0, .int .i64 n1]] w fun e w' => e = .returned (.bool true) ∧ Below w.heap.size w w' := by
  have hb0 := below3 w (.cells #[.int .i64 r.p, .int .i64 r.i, .int .i64 r.b, .int .i64 r.d, .int .i64 r.n, .int .i64 r.f, .int .i64 r.c] 28) (.cells #[.int .u8 wk, .slice a D.length cap] 38) (.cells #[.int .i64 n0, .int .i64 n1] 50)
  have R := Lib.hid (((Blk.new w #[.int .i64 r.p, .int .i64 r.i, .int .i64 r.b, .int .i64 r.d, .int .i64 r.n, .int .i64 r.f, .int .i64 r.c] 28).alloc (.cells #[.int .u8 wk, .slice a D.length cap] 38)).alloc (.cells #[.int .i64 n0, .int .i64 n1] 50))
  have K := Lib.hid ((Blk.at_new (w := w.alloc (.cells #[.int .i64 r.p, .int .i64 r.i, .int .i64 r.b, .int .i64 r.d, .int .i64 r.n, .int .i64 r.f, .int .i64 r.c] 28)) (n := w.heap.size + 1) (by simp) #[.int .u8 wk, .slice a D.length cap] 38).alloc (.cells #[.int .i64 n0, .int .i64 n1] 50))
  have NN := Lib.hid (Blk.at_new (w := (w.alloc (.cells #[.int .i64 r.p, .int .i64 r.i, .int .i64 r.b, .int .i64 r.d, .int .i64 r.n, .int .i64 r.f, .int .i64 r.c] 28)).alloc (.cells #[.int .u8 wk, .slice a D.length cap] 38)) (n := w.heap.size + 1 + 1) (by simp) #[.int .i64 n0, .int .i64 n1] 50)
  have S := Lib.hid hb0
  have U := Lib.hid (hD.below hb0 (Nat.le_refl _))
  have HDl := Lib.hid hDl
  have HRC := Lib.hid hrc
  clear hb0 hD hDl hrc
  obtain ⟨x, hx⟩ : ∃ x, x = n0 % 150000 - 25000 := ⟨_, rfl⟩
  have bx : -25000 ≤ x ∧ x ≤ 125000 := by omega
  have bn : 0 ≤ n1 % 130 ∧ n1 % 130 < 130 := by omega
  go_enter Try.func8, Try.ntmps8
  go_wp2_with fail
  generalize ((w.alloc (.cells #[.int .i64 r.p, .int .i64 r.i, .int .i64 r.b, .int .i64 r.d, .int .i64 r.n, .int .i64 r.f, .int .i64 r.c] 28)).alloc (.cells #[.int .u8 wk, .slice a D.length cap] 38)).alloc (.cells #[.int .i64 n0, .int .i64 n1] 50) = w0 at *
  refine (sanity_any _).mono ?_
  rintro e w1 ⟨rfl, hb⟩
  replace S := Lib.hid (S.out.trans (hb.mono S.out.size))
  replace R := Lib.hid (R.out.below hb R.out.lt)
  replace K := Lib.hid (K.out.below hb K.out.lt)
  replace NN := Lib.hid (NN.out.below hb NN.out.lt)
  replace U := Lib.hid (U.out.below hb (Nat.le_refl _))
  clear hb
  have k0 : w1.cell? ⟨w.heap.size + 1, 0, none⟩ = some (.int .u8 wk) := K.out.cell 0
  have k1 : w1.cell? ⟨w.heap.size + 1, 1, none⟩ = some (.slice a D.length cap) := K.out.cell 1
  have n0' : w1.cell? ⟨w.heap.size + 1 + 1, 0, none⟩ = some (.int .i64 n0) := NN.out.cell 0
  have n1' : w1.cell? ⟨w.heap.size + 1 + 1, 1, none⟩ = some (.int .i64 n1) := NN.out.cell 1
  go_wp2_with fail
  refine (day_any n0 _).mono ?_
  rintro e w' ⟨rfl, rfl⟩
  rw [← hx]
  clear hx
  go_wp2_with (go_at_call 13; refine (mod_any _ _ _ (by omega) (by omega)).mono ?_; rintro e w' ⟨rfl, rfl⟩)
  refine (made_any wk a D cap (x - 10) _ h0 h1 U.out HDl.out (by omega) (by omega)).mono ?_
  rintro e w2 ⟨⟨av, cv, rfl, hI⟩, hb⟩
  have hcl := calM_len wk (x - 10) D
  generalize calM wk (x - 10) D = c at *
  replace S := Lib.hid (S.out.trans (hb.mono S.out.size))
  replace R := Lib.hid (R.out.below hb R.out.lt)
  have I := Lib.hid hI
  clear hb k0 k1 n0' n1' K U NN hI
  obtain ⟨q0, q1, q2, q3, q4, q5, q6⟩ := ruleCells R.out
  have hz := R.out.lt
  have m0 : 0 ≤ r.f % 60 ∧ r.f % 60 < 60 := by omega
  have m1 : 0 ≤ r.c % 3000 ∧ r.c % 3000 < 3000 := by omega
  go_wp2_with (go_at_call 13; refine (mod_any _ _ _ (by omega) (by omega)).mono ?_; rintro e w' ⟨rfl, rfl⟩)
  have CB := Lib.hid ((Blk.new w2 (c.cells av cv) 43).alloc (.cells #[.int .i64 r.p, .int .i64 r.i, .int .i64 r.b, .int .i64 r.d, .int .i64 r.n, .int .i64 (r.f % 60 - 5), .int .i64 (r.c % 3000 - 20)] 28))
  have Q := Lib.hid (Blk.at_new (w := w2.alloc (.cells (c.cells av cv) 43)) (n := w2.heap.size + 1) (by simp) #[.int .i64 r.p, .int .i64 r.i, .int .i64 r.b, .int .i64 r.d, .int .i64 r.n, .int .i64 (r.f % 60 - 5), .int .i64 (r.c % 3000 - 20)] 28)
  replace R := Lib.hid ((R.out.alloc (.cells (c.cells av cv) 43)).alloc (.cells #[.int .i64 r.p, .int .i64 r.i, .int .i64 r.b, .int .i64 r.d, .int .i64 r.n, .int .i64 (r.f % 60 - 5), .int .i64 (r.c % 3000 - 20)] 28))
  replace I := Lib.hid ((I.out.alloc (.cells (c.cells av cv) 43)).alloc (.cells #[.int .i64 r.p, .int .i64 r.i, .int .i64 r.b, .int .i64 r.d, .int .i64 r.n, .int .i64 (r.f % 60 - 5), .int .i64 (r.c % 3000 - 20)] 28))
  replace S := Lib.hid ((S.out.alloc S.out.size (.cells (c.cells av cv) 43)).alloc (alloc_ge _ (by have := S.out.size; omega)) (.cells #[.int .i64 r.p, .int .i64 r.i, .int .i64 r.b, .int .i64 r.d, .int .i64 r.n, .int .i64 (r.f % 60 - 5), .int .i64 (r.c % 3000 - 20)] 28))
  clear q0 q1 q2 q3 q4 q5 q6 hz
  obtain ⟨W, hW⟩ : ∃ W, W = (w2.alloc (.cells (c.cells av cv) 43)).alloc (.cells #[.int .i64 r.p, .int .i64 r.i, .int .i64 r.b, .int .i64 r.d, .int .i64 r.n, .int .i64 (r.f % 60 - 5), .int .i64 (r.c % 3000 - 20)] 28) := ⟨_, rfl⟩
  rw [← hW] at CB Q R I S
  change Code.wp _ _ _ _ ((w2.alloc (.cells (c.cells av cv) 43)).alloc (.cells #[.int .i64 r.p, .int .i64 r.i, .int .i64 r.b, .int .i64 r.d, .int .i64 r.n, .int .i64 (r.f % 60 - 5), .int .i64 (r.c % 3000 - 20)] 28))
  rw [← hW]
  clear hW
  obtain ⟨s, hs⟩ : ∃ s : Rule, s = ⟨r.p, r.i, r.b, r.d, r.n, r.f % 60 - 5, r.c % 3000 - 20⟩ := ⟨_, rfl⟩
  have hsc : s.c ≤ 9223372036854775807 := by rw [hs]; show r.c % 3000 - 20 ≤ _; omega
  have Q' : RowKit.Hid (Blk W (w2.heap.size + 1) (rvs s) 28) := by rw [hs]; exact Q.out
  have HSC := Lib.hid hsc
  clear hs Q m0 m1 hsc
  obtain ⟨z, hz⟩ : ∃ z, z = x + n1 % 130 - 20 := ⟨_, rfl⟩
  rw [← hz]
  have bz : -25020 ≤ z ∧ z ≤ 125130 := by omega
  clear hz bn
  obtain ⟨q0, q1, q2, q3, q4, q5, q6⟩ := ruleCells R.out
  obtain ⟨s0, s1, s2, s3, s4, s5, s6⟩ := ruleCells Q'.out
  obtain ⟨y0, y1, y2, y3, y4, y5, y6, y7⟩ := calCells CB.out
  have J : ∀ X, IntSl (over W X) av c.days := fun X => I.out.over X
  have HJ := Lib.hid J
  clear J
  refine wp_region_over (by kernel_rfl) (by kernel_rfl) ?_
  repeat (go_big_quiet_step (first | (go_at_call 22; first | with_reducible exact inOver (fine_any r c av cv x z _ (HJ.out _) (by omega) (by omega) (by omega) (by omega) (by omega) HRC.out) | with_reducible exact inOver (fine_any s c av cv x z _ (HJ.out _) (by omega) (by omega) (by omega) (by omega) (by omega) HSC.out) | with_reducible exact inOver (fine_any s c av cv z x _ (HJ.out _) (by omega) (by omega) (by omega) (by omega) (by omega) HSC.out)) | (go_at_call 23; first | with_reducible exact inOver (refFine_any r c av cv x z _ (HJ.out _) (by omega) (by omega) (by omega) (by omega) (by omega) HRC.out) | with_reducible exact inOver (refFine_any s c av cv x z _ (HJ.out _) (by omega) (by omega) (by omega) (by omega) (by omega) HSC.out) | with_reducible exact inOver (refFine_any s c av cv z x _ (HJ.out _) (by omega) (by omega) (by omega) (by omega) (by omega) HSC.out))))
  refine wpQuiet_nil ?_
  rintro _ ⟨nq, rfl⟩
  go_wp2_with fail
  go_ret
  exact ⟨rfl, S.out.trans (bover nq S.out.size)⟩
end Go.Proofs.Ytjikgoeinilnjaa
