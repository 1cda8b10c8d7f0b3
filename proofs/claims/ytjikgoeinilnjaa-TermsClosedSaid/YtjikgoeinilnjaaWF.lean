/- TermsBest: the walk. -/
import Derived.Test.YtjikgoeinilnjaaWE
namespace Go.Proofs.Ytjikgoeinilnjaa
open Go.RowKit

theorem fits_yes {r : Rule} {a b c : Int} (h : holdsB r a b c = true) (w : World) :
    Calls Try.prog 16 #[.agg #[.int .i64 r.p, .int .i64 r.i, .int .i64 r.b, .int .i64 r.d, .int .i64 r.n, .int .i64 r.f, .int .i64 r.c], .agg #[.int .i64 a, .int .i64 b, .int .i64 c]] w fun e w' => e = .returned (.tuple #[.bool true, .int .i64 (rw3 r)]) ∧ Below w.heap.size w w' := by
  have := fits_any r a b c w
  simpa [fitsS, h] using this
theorem fits_no {r : Rule} {a b c : Int} (h : holdsB r a b c = false) (w : World) :
    Calls Try.prog 16 #[.agg #[.int .i64 r.p, .int .i64 r.i, .int .i64 r.b, .int .i64 r.d, .int .i64 r.n, .int .i64 r.f, .int .i64 r.c], .agg #[.int .i64 a, .int .i64 b, .int .i64 c]] w fun e w' => e = .returned (.tuple #[.bool false, .int .i64 0]) ∧ Below w.heap.size w w' := by
  have := fits_any r a b c w
  simpa [fitsS, h] using this
theorem wI_hold {r : Rule} {x y z : Int} (h : holdsB r x y z = true) : weightI r x y z = rw3 r := by simp [weightI, h]
theorem wI_not {r : Rule} {x y z : Int} (h : holdsB r x y z = false) : weightI r x y z = -1 := by simp [weightI, h]
theorem blk3 {w : World} {b : Nat} {x y z : Value} {T : TypeId} (h : Blk w b #[x, y, z] T) : w.cell? ⟨b, 0, none⟩ = some x ∧ w.cell? ⟨b, 1, none⟩ = some y ∧ w.cell? ⟨b, 2, none⟩ = some z := ⟨h.cell 0, h.cell 1, h.cell 2⟩
attribute [local go_sem] over_cell over_frozen calm calmAt calmUpon
set_option maxRecDepth 100000 in
set_option maxHeartbeats 4000000 in
theorem bestLaw (L : List Rule) (a : Option Addr) (cap : Nat) (y0 y1 y2 : Int) (w : World) (h : InSl w a L cap) :
    Calls Try.prog 4 #[.slice a L.length cap, .agg #[.int .i64 y0, .int .i64 y1, .int .i64 y2]] w fun e w' => e = .returned (.bool true) ∧ Below w.heap.size w w' := by
  have hb0 : Below w.heap.size w (w.alloc (.cells #[.int .i64 y0, .int .i64 y1, .int .i64 y2] 23)) := (Below.refl _ _).alloc (Nat.le_refl _) _
  have P5 := Lib.hid (Blk.new w #[.int .i64 y0, .int .i64 y1, .int .i64 y2] 23)
  have S0 := Lib.hid hb0
  have HI := Lib.hid (h.below hb0 (Nat.le_refl _))
  clear hb0 h
  go_enter Try.func4, Try.ntmps4
  go_wp2_with fail
  generalize w.alloc (.cells #[.int .i64 y0, .int .i64 y1, .int .i64 y2] 23) = w0 at *
  refine (sanity_any _).mono ?_
  rintro e w1 ⟨rfl, hb1⟩
  have S1 := Lib.hid (S0.out.trans (hb1.mono S0.out.size))
  have P5_1 := Lib.hid (P5.out.below hb1 P5.out.lt)
  have HI1 := Lib.hid (HI.out.below hb1 (Nat.le_refl _))
  clear hb1 S0 P5 HI
  go_wp2_with fail
  refine (table_any L a cap _ HI1.out).mono ?_
  rintro e w2 ⟨⟨g, cap', rfl, hg1, hg2, hg3⟩, hb1⟩
  have S2 := Lib.hid (S1.out.trans (hb1.mono S1.out.size))
  have P5_2 := Lib.hid (P5_1.out.below hb1 P5_1.out.lt)
  have T2 : RowKit.Hid (RB w2 g ((L.take 20).map tabR)) := ⟨hg1, hg3⟩
  have hl : ((L.take 20).map tabR).length ≤ 20 := by simp; omega
  generalize (L.take 20).map tabR = T at *
  clear hb1 S1 P5_1 HI1 hg1 hg2 hg3
  go_wp2_with fail
  obtain ⟨d0, d1, d2⟩ := blk3 P5_2.out
  have m0 : 0 ≤ y0 % 3 ∧ y0 % 3 < 3 := by omega
  have m1 : 0 ≤ y1 % 3 ∧ y1 % 3 < 3 := by omega
  have m2 : 0 ≤ y2 % 3 ∧ y2 % 3 < 3 := by omega
  refine wp_region_mk 11 10 7 #[.int .i64 0, .int .i64 0, .int .i64 0] 23 (by kernel_rfl) (by kernel_rfl) ?_ ?_
  · intro o ho a w
    simp at ho
    subst ho
    kernel_rfl
  simp only [virt, vmove, vtail, Nat.reduceAdd, Nat.reduceLeDiff, Nat.reduceEqDiff, if_true, if_false]
  repeat (refine wpCalm_step (fun K hK => ?_); go_simp; first | (refine hK _ ?_; clear hK K) | (apply Exists.intro; refine ⟨fun _ => ?_, hK _ ?_⟩; (go_at_call 13; exact calmSame (mod_any _ _ _ (by omega) (by omega))); clear hK K))
  refine wpCalm_nil ?_
  intro x g2 hg2 hB2
  have S3 := Lib.hid (S2.out.trans (bover x S2.out.size))
  have P9 := Lib.hid hB2
  have T3 := Lib.hid (T2.out.over x)
  have hg0 : w.heap.size ≤ g2 := by have := S2.out.size; omega
  have hng : g ≠ g2 := by have := T2.out.1; omega
  clear d0 d1 d2 S2 P5_2 T2
  generalize over w2 x = w3 at *
  obtain ⟨k0, k1, k2⟩ := blk3 P9.out
  have kf := P9.out.frozen
  simp only [List.drop_succ_cons, List.drop_zero]
  go_wp2_with fail
  obtain ⟨W, hW⟩ : ∃ W, W = (((w3.setCell ⟨g2, 0, none⟩ (.int .i64 (y0 % 3))).setCell ⟨g2, 1, none⟩ (.int .i64 (y1 % 3))).setCell ⟨g2, 2, none⟩ (.int .i64 (y2 % 3))) := ⟨_, rfl⟩
  have S_0 : RowKit.Hid (Below w.heap.size w W) := by rw [hW]; exact ((S3.out.setCell (by exact hg0) _).setCell (by exact hg0) _).setCell (by exact hg0) _
  have C_0 : RowKit.Hid (Blk W g2 #[.int .i64 (y0 % 3), .int .i64 (y1 % 3), .int .i64 (y2 % 3)] 23) := by rw [hW]; exact arr3 P9.out
  have T_0 : RowKit.Hid (RB W g T) := by rw [hW]; exact ((T3.out.setNe _ _ hng).setNe _ _ hng).setNe _ _ hng
  rw [← hW]
  clear hW S3 P9 T3 k0 k1 k2 kf hB2
  generalize y0 % 3 = z0 at *
  generalize y1 % 3 = z1 at *
  generalize y2 % 3 = z2 at *
  clear m0 m1 m2
  obtain ⟨p, hp⟩ : ∃ p, findS T z0 z1 z2 = p := ⟨_, rfl⟩
  obtain ⟨⟨r0, r1, r2, r3, r4, r5, r6⟩, pm⟩ := p
  have HP := Lib.hid hp
  clear hp
  refine (find_val (L := T) (n := T.length) T_0.out rfl (by omega) HP.out (t := decide (0 ≤ pm)) rfl).mono ?_
  rintro e w5 ⟨rfl, hb⟩
  have T_1 := Lib.hid (T_0.out.below hb T_0.out.1)
  have C_1 := Lib.hid (C_0.out.below hb C_0.out.lt)
  have S_1 := Lib.hid (S_0.out.trans (hb.mono S_0.out.size))
  clear hb T_0 S_0 C_0
  go_wp2_with fail
  have T_2 := Lib.hid (T_1.out.alloc (.cells #[.int .i64 r0, .int .i64 r1, .int .i64 r2, .int .i64 r3, .int .i64 r4, .int .i64 r5, .int .i64 r6] 28))
  have C_2 := Lib.hid (C_1.out.alloc (.cells #[.int .i64 r0, .int .i64 r1, .int .i64 r2, .int .i64 r3, .int .i64 r4, .int .i64 r5, .int .i64 r6] 28))
  have D_2 := Lib.hid (Blk.new w5 #[.int .i64 r0, .int .i64 r1, .int .i64 r2, .int .i64 r3, .int .i64 r4, .int .i64 r5, .int .i64 r6] 28)
  have S_2 := Lib.hid (S_1.out.alloc S_1.out.size (.cells #[.int .i64 r0, .int .i64 r1, .int .i64 r2, .int .i64 r3, .int .i64 r4, .int .i64 r5, .int .i64 r6] 28))
  clear T_1 C_1 S_1
  generalize hw6 : w5.alloc (.cells #[.int .i64 r0, .int .i64 r1, .int .i64 r2, .int .i64 r3, .int .i64 r4, .int .i64 r5, .int .i64 r6] 28) = w6 at *
  clear hw6
  go_loopw [10, 11, 12] (fun b f i wr => ∃ (k : Nat) (n : Int), k ≤ T.length ∧ i = .int .i64 k ∧ f = .int .i64 n ∧ b = .int .i64 (findS (T.take k) z0 z1 z2).2 ∧ BestAt T (findS (T.take k) z0 z1 z2) k n ∧ Below w.heap.size w wr ∧ RB wr g T ∧ Blk wr g2 #[.int .i64 z0, .int .i64 z1, .int .i64 z2] 23 ∧ Blk wr w5.heap.size #[.int .i64 r0, .int .i64 r1, .int .i64 r2, .int .i64 r3, .int .i64 r4, .int .i64 r5, .int .i64 r6] 28) (fun _ _ i _ => T.length - (intOf i).toNat)
  case atStart => exact ⟨0, -1, by omega, rfl, rfl, rfl, .inl ⟨rfl, rfl⟩, S_2.out, T_2.out, C_2.out, D_2.out⟩
  case round =>
    obtain ⟨k, n, hk, rfl, rfl, rfl, hbest, hbl, hT, hC, hD⟩ := hrel
    have HT := Lib.hid hT
    have HC := Lib.hid hC
    have HD := Lib.hid hD
    have HB := Lib.hid hbest
    have HS := Lib.hid hbl
    clear hT hC hD hbest hbl T_2 C_2 D_2 S_2
    by_cases hlt : k < T.length
    · have hst := Lib.hid (findS_snoc T k z0 z1 z2 hlt)
      have hr := HT.out.2 k hlt
      have hs2 := bestAt_sec HB.out
      obtain ⟨s, hs⟩ : ∃ s, s = findS (T.take k) z0 z1 z2 := ⟨_, rfl⟩
      rw [← hs] at hst HB hs2 ⊢
      clear hs
      obtain ⟨r, hrk⟩ : ∃ r, r = T.getD k zr := ⟨_, rfl⟩
      rw [← hrk] at hst hr
      obtain ⟨c0, c1, c2, c3, c4, c5, c6⟩ := hr
      simp only [Nat.zero_add] at c0 c1 c2 c3 c4 c5 c6
      have HR := Lib.hid hrk.symm
      clear hrk
      obtain ⟨e0, e1, e2⟩ := blk3 HC.out
      have hp := rw3_pos r
      cases hh : holdsB r z0 z1 z2
      · have E := Lib.hid (wI_not hh)
        go_wp2_with fail
        refine wp_region_over (by kernel_rfl) (by kernel_rfl) ?_
        repeat (go_big_quiet_step ((go_at_call 16; exact inOver (fits_no hh _))))
        refine wpQuiet_nil ?_
        rintro _ ⟨nq, rfl⟩
        go_wp2_with fail
        exact ⟨⟨k + 1, n, by omega, by go_num, rfl, by rw [hst.out, stepF_no (by rw [E.out]; omega)], by rw [hst.out]; exact bestAt_stay HB.out (by rw [E.out]; omega), HS.out.trans (bover nq HS.out.size), HT.out.over nq, HC.out.over nq, HD.out.over nq⟩, by simp [intOf]; omega⟩
      · have E := Lib.hid (wI_hold hh)
        by_cases hw : s.2 < rw3 r
        · go_wp2_with fail
          refine wp_region_over (by kernel_rfl) (by kernel_rfl) ?_
          repeat (go_big_quiet_step ((go_at_call 16; exact inOver (fits_yes hh _))))
          refine wpQuiet_nil ?_
          rintro _ ⟨nq, rfl⟩
          go_wp2_with fail
          exact ⟨⟨k + 1, k, by omega, by go_num, rfl, by rw [hst.out, stepF_yes (by rw [E.out]; exact hw), E.out], by rw [hst.out]; exact bestAt_take (by rw [E.out]; exact hw) HR.out E.out, HS.out.trans (bover nq HS.out.size), HT.out.over nq, HC.out.over nq, HD.out.over nq⟩, by simp [intOf]; omega⟩
        · go_wp2_with fail
          refine wp_region_over (by kernel_rfl) (by kernel_rfl) ?_
          repeat (go_big_quiet_step ((go_at_call 16; exact inOver (fits_yes hh _))))
          refine wpQuiet_nil ?_
          rintro _ ⟨nq, rfl⟩
          go_wp2_with fail
          exact ⟨⟨k + 1, n, by omega, by go_num, rfl, by rw [hst.out, stepF_no (by rw [E.out]; omega)], by rw [hst.out]; exact bestAt_stay HB.out (by rw [E.out]; omega), HS.out.trans (bover nq HS.out.size), HT.out.over nq, HC.out.over nq, HD.out.over nq⟩, by simp [intOf]; omega⟩
    · obtain rfl : k = T.length := by omega
      have hB := HB.out
      rw [List.take_length, HP.out] at hB
      obtain ⟨q0, q1, q2, q3, q4, q5, q6⟩ := ruleCells HD.out
      rcases hB with ⟨rfl, he⟩ | ⟨j, hj, rfl, he⟩
      · simp only [zr, Prod.mk.injEq, Rule.mk.injEq] at he
        obtain ⟨⟨rfl, rfl, rfl, rfl, rfl, rfl, rfl⟩, rfl⟩ := he
        go_wp2_with fail
        go_ret
        exact ⟨rfl, HS.out⟩
      · have hrj := HT.out.2 j hj
        have hp := rw3_pos (T.getD j zr)
        simp only [Prod.mk.injEq] at he
        obtain ⟨he1, rfl⟩ := he
        rw [← he1] at hrj hp
        have hd : decide (0 ≤ rw3 ⟨r0, r1, r2, r3, r4, r5, r6⟩) = true := by simpa using hp.1
        rw [← he1]
        clear he1
        obtain ⟨c0, c1, c2, c3, c4, c5, c6⟩ := hrj
        simp only [Nat.zero_add] at c0 c1 c2 c3 c4 c5 c6
        go_wp2_with fail
        go_quiet (fail)
        go_wp2_with fail
        go_ret
        exact ⟨rfl, bdrewN HS.out _⟩
end Go.Proofs.Ytjikgoeinilnjaa
