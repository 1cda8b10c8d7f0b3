/- TermsGrows: the walk. -/
import Derived.Test.YtjikgoeinilnjaaWI
namespace Go.Proofs.Ytjikgoeinilnjaa
open Go.RowKit

theorem cntS_step {c : Cal} {x : Int} {k : Nat} (h0 : -700000 ≤ x) (h1 : x + k ≤ 2900000) : cntS c (x + 1) (x + ((k + 1 : Nat) : Int) + 1) = cntS c (x + 1) (x + (k : Int) + 1) + if openB c (x + ((k + 1 : Nat) : Int)) = true then 1 else 0 := by
  have e1 : (hi (x + ((k + 1 : Nat) : Int) + 1) - lo (x + 1)).toNat = k + 1 := by unfold hi lo; omega
  have e2 : (hi (x + (k : Int) + 1) - lo (x + 1)).toNat = k := by unfold hi lo; omega
  have e3 : lo (x + 1) + (k : Int) = x + ((k + 1 : Nat) : Int) := by unfold lo; omega
  rw [cntS, cntS, e1, e2, cntR, e3]
theorem fineS_min {r : Rule} {c : Cal} {x : Int} {k : Nat} (hf : 0 ≤ r.f) (hc : 0 ≤ r.c) : fineS r c x (x + k) = min (cntS c (x + 1) (x + (k : Int) + 1) * r.f) r.c := by
  rcases Nat.eq_zero_or_pos k with rfl | hk
  · rw [fineS_0 (.inl (by simp))]
    have : cntS c (x + 1) (x + ((0 : Nat) : Int) + 1) = 0 := cntS_none (by unfold hi lo; omega)
    rw [this]; simp; omega
  · rw [fineS_1 (by omega) (by omega) (by omega)]
theorem fineS_yes {r : Rule} {c : Cal} {x : Int} {k : Nat} (hf : 0 ≤ r.f) (hc : 0 ≤ r.c) (h0 : -700000 ≤ x) (h1 : x + k ≤ 2900000) (ho : openB c (x + ((k + 1 : Nat) : Int)) = true) :
    fineS r c x (x + ((k + 1 : Nat) : Int)) = min (fineS r c x (x + k) + r.f) r.c := by
  rw [fineS_min hf hc, fineS_min hf hc, cntS_step h0 h1, if_pos ho, Int.add_mul, Int.one_mul]
  omega
theorem fineS_nope {r : Rule} {c : Cal} {x : Int} {k : Nat} (hf : 0 ≤ r.f) (hc : 0 ≤ r.c) (h0 : -700000 ≤ x) (h1 : x + k ≤ 2900000) (ho : openB c (x + ((k + 1 : Nat) : Int)) = false) :
    fineS r c x (x + ((k + 1 : Nat) : Int)) = fineS r c x (x + k) := by
  rw [fineS_min hf hc, fineS_min hf hc, cntS_step h0 h1, if_neg (by rw [ho]; simp), Int.add_zero]
theorem fine_val {r : Rule} {c : Cal} {a : Option Addr} {cap : Nat} {du d F : Int} {w : World} (hD : IntSl w a c.days) (hl : c.days.length ≤ 1000)
    (h0 : -100000000 ≤ du) (h1 : du ≤ 100000000) (hd : -100000000 ≤ d) (hd' : d ≤ 100000000) (hc : r.c ≤ 9223372036854775807) (he : fineS r c du d = F) :
    Calls Try.prog 22 #[.agg #[.int .i64 r.p, .int .i64 r.i, .int .i64 r.b, .int .i64 r.d, .int .i64 r.n, .int .i64 r.f, .int .i64 r.c], .agg #[.bool c.b0, .bool c.b1, .bool c.b2, .bool c.b3, .bool c.b4, .bool c.b5, .bool c.b6, .slice a c.days.length cap], .int .i64 du, .int .i64 d] w fun e w' =>
      e = .returned (.int .i64 F) ∧ Below w.heap.size w w' := he ▸ fine_any r c a cap du d w hD hl h0 h1 hd hd' hc
theorem set56 {w : World} {b : Nat} {v0 v1 v2 v3 v4 v5 v6 x y : Value} {T : TypeId} (h : Blk w b #[v0, v1, v2, v3, v4, v5, v6] T) : Blk ((w.setCell ⟨b, 5, none⟩ x).setCell ⟨b, 6, none⟩ y) b #[v0, v1, v2, v3, v4, x, y] T :=
  ((h.set 5 x).set 6 y).cast (by simp)
set_option maxRecDepth 100000 in
set_option maxHeartbeats 8000000 in
theorem growsLaw (r : Rule) (wk : Int) (a : Option Addr) (D : List Int) (cap : Nat) (n : Int) (w : World) (h0 : 0 ≤ wk) (h1 : wk ≤ 255) (hD : U8Sl w a D) (hDl : D.length ≤ 9223372036854775807) :
    Calls Try.prog 9 #[.agg #[.int .i64 r.p, .int .i64 r.i, .int .i64 r.b, .int .i64 r.d, .int .i64 r.n, .int .i64 r.f, .int .i64 r.c], .agg #[.int .u8 wk, .slice a D.length cap], .int .i64 n] w fun e w' => e = .returned (.bool true) ∧ Below w.heap.size w w' := by
  have hb0 := below2 w (.cells #[.int .i64 r.p, .int .i64 r.i, .int .i64 r.b, .int .i64 r.d, .int .i64 r.n, .int .i64 r.f, .int .i64 r.c] 28) (.cells #[.int .u8 wk, .slice a D.length cap] 38)
  have R := Lib.hid ((Blk.new w #[.int .i64 r.p, .int .i64 r.i, .int .i64 r.b, .int .i64 r.d, .int .i64 r.n, .int .i64 r.f, .int .i64 r.c] 28).alloc (.cells #[.int .u8 wk, .slice a D.length cap] 38))
  have K := Lib.hid (Blk.at_new (w := w.alloc (.cells #[.int .i64 r.p, .int .i64 r.i, .int .i64 r.b, .int .i64 r.d, .int .i64 r.n, .int .i64 r.f, .int .i64 r.c] 28)) (n := w.heap.size + 1) (by simp) #[.int .u8 wk, .slice a D.length cap] 38)
  have S := Lib.hid hb0
  have U := Lib.hid (hD.below hb0 (Nat.le_refl _))
  have HDl := Lib.hid hDl
  clear hb0 hD hDl
  obtain ⟨x, hx⟩ : ∃ x, x = n % 150000 - 25000 := ⟨_, rfl⟩
  have bx : -25000 ≤ x ∧ x ≤ 125000 := by omega
  go_enter Try.func9, Try.ntmps9
  go_wp2_with fail
  generalize (w.alloc (.cells #[.int .i64 r.p, .int .i64 r.i, .int .i64 r.b, .int .i64 r.d, .int .i64 r.n, .int .i64 r.f, .int .i64 r.c] 28)).alloc (.cells #[.int .u8 wk, .slice a D.length cap] 38) = w0 at *
  refine (sanity_any _).mono ?_
  rintro e w1 ⟨rfl, hb⟩
  replace S := Lib.hid (S.out.trans (hb.mono S.out.size))
  replace R := Lib.hid (R.out.below hb R.out.lt)
  replace K := Lib.hid (K.out.below hb K.out.lt)
  replace U := Lib.hid (U.out.below hb (Nat.le_refl _))
  have S1lt := Lib.hid R.out.lt
  clear hb
  have k0 : w1.cell? ⟨w.heap.size + 1, 0, none⟩ = some (.int .u8 wk) := K.out.cell 0
  have k1 : w1.cell? ⟨w.heap.size + 1, 1, none⟩ = some (.slice a D.length cap) := K.out.cell 1
  go_wp2_with fail
  refine (day_any n _).mono ?_
  rintro e w' ⟨rfl, rfl⟩
  rw [← hx]
  clear hx
  go_wp2_with fail
  refine (made_fresh wk a D cap x _ h0 h1 U.out HDl.out (by omega) (by omega)).mono ?_
  rintro e w2 ⟨⟨av, cv, rfl, hI⟩, hb⟩
  have hcl := calM_len wk x D
  generalize calM wk x D = c at *
  replace S := Lib.hid (S.out.trans (hb.mono S.out.size))
  replace R := Lib.hid (R.out.below hb R.out.lt)
  have I := Lib.hid hI
  clear hb k0 k1 K U hI
  obtain ⟨q0, q1, q2, q3, q4, q5, q6⟩ := ruleCells R.out
  have qf := R.out.frozen
  have hz := R.out.lt
  have m0 : 0 ≤ r.f % 100 ∧ r.f % 100 < 100 := by omega
  have m1 : 0 ≤ r.c % 2000 ∧ r.c % 2000 < 2000 := by omega
  go_wp2_with (go_at_call 13; refine (mod_any _ _ _ (by omega) (by omega)).mono ?_; rintro e w' ⟨rfl, rfl⟩)
  have CB := Lib.hid (Blk.at_new (w := (w2.setCell ⟨w.heap.size, 5, none⟩ (.int .i64 (r.f % 100))).setCell ⟨w.heap.size, 6, none⟩ (.int .i64 (r.c % 2000))) (n := w2.heap.size) (by simp) (c.cells av cv) 43)
  have Q := Lib.hid ((set56 (x := .int .i64 (r.f % 100)) (y := .int .i64 (r.c % 2000)) R.out).alloc (.cells (c.cells av cv) 43))
  have hlo : w.heap.size < w1.heap.size := S1lt.out
  replace I := Lib.hid ((((I.out.setLow ⟨w.heap.size, 5, none⟩ (.int .i64 (r.f % 100)) hlo).setLow ⟨w.heap.size, 6, none⟩ (.int .i64 (r.c % 2000)) hlo).alloc (.cells (c.cells av cv) 43)).toSl)
  replace S := Lib.hid (((S.out.setCell (p := ⟨w.heap.size, 5, none⟩) (Nat.le_refl _) (.int .i64 (r.f % 100))).setCell (p := ⟨w.heap.size, 6, none⟩) (Nat.le_refl _) (.int .i64 (r.c % 2000))).alloc (by simp; omega) (.cells (c.cells av cv) 43))
  clear q0 q1 q2 q3 q4 q5 q6 hz qf R hlo S1lt
  obtain ⟨W, hW⟩ : ∃ W, W = ((w2.setCell ⟨w.heap.size, 5, none⟩ (.int .i64 (r.f % 100))).setCell ⟨w.heap.size, 6, none⟩ (.int .i64 (r.c % 2000))).alloc (.cells (c.cells av cv) 43) := ⟨_, rfl⟩
  rw [← hW] at CB Q I S
  change Calls _ _ _ (((w2.setCell ⟨w.heap.size, 5, none⟩ (.int .i64 (r.f % 100))).setCell ⟨w.heap.size, 6, none⟩ (.int .i64 (r.c % 2000))).alloc (.cells (c.cells av cv) 43)) _
  rw [← hW]
  clear hW
  refine (fine_val (r := ⟨r.p, r.i, r.b, r.d, r.n, r.f % 100, r.c % 2000⟩) I.out (by omega) (by omega) (by omega) (by omega) (by omega) (by show r.c % 2000 ≤ _; omega) (fineS_0 (.inl (Int.le_refl _)))).mono ?_
  obtain ⟨s, hs⟩ : ∃ s : Rule, s = ⟨r.p, r.i, r.b, r.d, r.n, r.f % 100, r.c % 2000⟩ := ⟨_, rfl⟩
  have hsc : s.c ≤ 9223372036854775807 := by rw [hs]; show r.c % 2000 ≤ _; omega
  have hs1 : 0 ≤ s.f ∧ s.f < 100 := by rw [hs]; exact m0
  have hs2 : 0 ≤ s.c ∧ s.c < 2000 := by rw [hs]; exact m1
  have R : RowKit.Hid (Blk W w.heap.size (rvs s) 28) := by rw [hs]; exact Q.out
  have HSC := Lib.hid hsc
  clear Q m0 m1 hsc hs
  rintro e W3 ⟨rfl, hb⟩
  replace S := Lib.hid (S.out.trans (hb.mono S.out.size))
  replace R := Lib.hid (R.out.below hb R.out.lt)
  replace CB := Lib.hid (CB.out.below hb CB.out.lt)
  replace I := Lib.hid (I.out.below hb (Nat.le_refl _))
  clear hb
  go_wp2_with fail
  go_loopw [10, 11] (fun l i wr => ∃ k : Nat, k ≤ 60 ∧ i = .int .i64 ((k : Int) + 1) ∧ l = .int .i64 (fineS s c x (x + k)) ∧ Below w.heap.size w wr ∧ Blk wr w.heap.size (rvs s) 28 ∧ Blk wr w2.heap.size (c.cells av cv) 43 ∧ IntSl wr av c.days) (fun _ i _ => 61 - (intOf i).toNat)
  case atStart => exact ⟨0, by omega, rfl, vint (by rw [fineS_0 (.inl (by simp))]), S.out, R.out, CB.out, I.out⟩
  case round =>
    obtain ⟨k, hk, rfl, rfl, hbl, hR, hC, hI⟩ := hrel
    clear S R CB I
    have S := Lib.hid hbl
    have R := Lib.hid hR
    have CB := Lib.hid hC
    have I := Lib.hid hI
    clear hbl hR hC hI
    by_cases hlt : k < 60
    · have g1 : decide (((k : Int) + 1) ≤ 60) = true := by simp; omega
      obtain ⟨A, hA⟩ : ∃ A, A = fineS s c x (x + k) := ⟨_, rfl⟩
      obtain ⟨B, hB⟩ : ∃ B, fineS s c x (x + ((k : Int) + 1)) = B := ⟨_, rfl⟩
      have ek : x + (((k + 1 : Nat)) : Int) = x + ((k : Int) + 1) := by omega
      have hbd : 0 ≤ A ∧ A ≤ 2000 := by
        rw [hA, fineS_min hs1.1 hs2.1]
        have := cntS_bd c (x + 1) (x + (k : Int) + 1)
        have := Int.mul_nonneg this.1 hs1.1
        omega
      rw [← hA]
      obtain ⟨q0, q1, q2, q3, q4, q5, q6⟩ := ruleCells R.out
      obtain ⟨y0, y1, y2, y3, y4, y5, y6, y7⟩ := calCells CB.out
      cases ho : openB c (x + ((k : Int) + 1))
      · have hstep : RowKit.Hid (B = A) := by
          show B = _
          rw [← hB, ← ek, fineS_nope (k := k) hs1.1 hs2.1 (by omega) (by omega) (by rw [ek]; exact ho), ← hA]
        have hbB : 0 ≤ B ∧ B ≤ 2000 := by rw [hstep.out]; omega
        have HB := Lib.hid hB
        have HA := Lib.hid hA
        have HO := Lib.hid ho
        have EK := Lib.hid ek
        clear hB hA ho ek
        have hne : (B != A) = false := by rw [hstep.out]; simp
        go_wp2_with fail
        refine (fine_val I.out (by omega) (by omega) (by omega) (by omega) (by omega) HSC.out HB.out).mono ?_
        rintro e W4 ⟨rfl, hb⟩
        replace S := Lib.hid (S.out.trans (hb.mono S.out.size))
        replace R := Lib.hid (R.out.below hb R.out.lt)
        replace CB := Lib.hid (CB.out.below hb CB.out.lt)
        replace I := Lib.hid (I.out.below hb (Nat.le_refl _))
        clear hb q0 q1 q2 q3 q4 q5 q6 y0 y1 y2 y3 y4 y5 y6 y7
        obtain ⟨y0, y1, y2, y3, y4, y5, y6, y7⟩ := calCells CB.out
        go_wp2_with fail
        refine (open_val c av cv _ _ I.out (by omega) HO.out).mono ?_
        rintro e W5 ⟨rfl, hb⟩
        replace S := Lib.hid (S.out.trans (hb.mono S.out.size))
        replace R := Lib.hid (R.out.below hb R.out.lt)
        replace CB := Lib.hid (CB.out.below hb CB.out.lt)
        replace I := Lib.hid (I.out.below hb (Nat.le_refl _))
        clear hb y0 y1 y2 y3 y4 y5 y6 y7
        obtain ⟨q0, q1, q2, q3, q4, q5, q6⟩ := ruleCells R.out
        go_wp2_with fail
        exact ⟨⟨k + 1, by omega, by go_num, vint (by rw [EK.out, HB.out]), S.out, R.out, CB.out, I.out⟩, by simp [intOf]; omega⟩
      · have hstep : RowKit.Hid (B = min (A + s.f) s.c) := by
          show B = _
          rw [← hB, ← ek, fineS_yes (k := k) hs1.1 hs2.1 (by omega) (by omega) (by rw [ek]; exact ho), ← hA]
        have hbB : 0 ≤ B ∧ B ≤ 2000 := by rw [hstep.out]; omega
        have HB := Lib.hid hB
        have HA := Lib.hid hA
        have HO := Lib.hid ho
        have EK := Lib.hid ek
        clear hB hA ho ek
        have hne : (B != min (A + s.f) s.c) = false := by rw [hstep.out]; simp
        go_wp2_with fail
        refine (fine_val I.out (by omega) (by omega) (by omega) (by omega) (by omega) HSC.out HB.out).mono ?_
        rintro e W4 ⟨rfl, hb⟩
        replace S := Lib.hid (S.out.trans (hb.mono S.out.size))
        replace R := Lib.hid (R.out.below hb R.out.lt)
        replace CB := Lib.hid (CB.out.below hb CB.out.lt)
        replace I := Lib.hid (I.out.below hb (Nat.le_refl _))
        clear hb q0 q1 q2 q3 q4 q5 q6 y0 y1 y2 y3 y4 y5 y6 y7
        obtain ⟨y0, y1, y2, y3, y4, y5, y6, y7⟩ := calCells CB.out
        go_wp2_with fail
        refine (open_val c av cv _ _ I.out (by omega) HO.out).mono ?_
        rintro e W5 ⟨rfl, hb⟩
        replace S := Lib.hid (S.out.trans (hb.mono S.out.size))
        replace R := Lib.hid (R.out.below hb R.out.lt)
        replace CB := Lib.hid (CB.out.below hb CB.out.lt)
        replace I := Lib.hid (I.out.below hb (Nat.le_refl _))
        clear hb y0 y1 y2 y3 y4 y5 y6 y7
        obtain ⟨q0, q1, q2, q3, q4, q5, q6⟩ := ruleCells R.out
        go_wp2_with fail
        exact ⟨⟨k + 1, by omega, by go_num, vint (by rw [EK.out, HB.out]), S.out, R.out, CB.out, I.out⟩, by simp [intOf]; omega⟩
    · have g1 : decide (((k : Int) + 1) ≤ 60) = false := by simp; omega
      go_wp2_with fail
      go_ret
      exact ⟨rfl, S.out⟩
end Go.Proofs.Ytjikgoeinilnjaa
