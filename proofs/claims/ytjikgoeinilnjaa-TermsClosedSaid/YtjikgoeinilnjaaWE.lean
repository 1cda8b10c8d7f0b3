/- TermsFind: the walk. -/
import Derived.Test.YtjikgoeinilnjaaWD
import Derived.Test.YtjikgoeinilnjaaMk
namespace Go.Proofs.Ytjikgoeinilnjaa
open Go.RowKit

theorem InSl.below {w w' : World} {a : Option Addr} {L : List Rule} {cap B : Nat} (h : InSl w a L cap) (hb : Below B w w') (hB : w.heap.size ≤ B) : InSl w' a L cap := by
  rcases h with h | ⟨ad, ha, h1, h2, h3⟩
  · exact .inl h
  · refine .inr ⟨ad, ha, ?_, h2, h3⟩
    rcases h1 with h1 | ⟨b, o, e, h4, h5⟩
    · exact .inl h1
    · exact .inr ⟨b, o, e, by have := hb.size; omega, fun k hk => (h5 k hk).below hb (by omega)⟩
theorem RB.setNe {w : World} {b : Nat} {L : List Rule} (h : RB w b L) (a : Addr) (v : Value) (hne : b ≠ a.block) : RB (w.setCell a v) b L := by
  refine ⟨by simpa using h.1, fun k hk => ?_⟩
  obtain ⟨c0, c1, c2, c3, c4, c5, c6⟩ := h.2 k hk
  refine ⟨?_, ?_, ?_, ?_, ?_, ?_, ?_⟩ <;> (rw [World.cell?_setCell_other _ _ _ _ (fun e => hne (by rw [e]))]; assumption)
theorem arr3 {w : World} {b : Nat} {u v x y z t : Value} {T : TypeId} (h : Blk w b #[u, v, t] T) : Blk (((w.setCell ⟨b, 0, none⟩ x).setCell ⟨b, 1, none⟩ y).setCell ⟨b, 2, none⟩ z) b #[x, y, z] T :=
  (((h.set 0 x).set 1 y).set 2 z).cast (by simp)
attribute [local go_sem] over_cell over_frozen calm calmAt calmUpon
set_option maxRecDepth 100000 in
set_option maxHeartbeats 2000000 in
theorem findLaw (L : List Rule) (a : Option Addr) (cap : Nat) (x0 x1 x2 y0 y1 y2 : Int) (w : World) (h : InSl w a L cap) :
    Calls Try.prog 3 #[.slice a L.length cap, .agg #[.int .i64 x0, .int .i64 x1, .int .i64 x2], .agg #[.int .i64 y0, .int .i64 y1, .int .i64 y2]] w fun e w' => e = .returned (.bool true) ∧ Below w.heap.size w w' := by
  have hb0 := below2 w (.cells #[.int .i64 x0, .int .i64 x1, .int .i64 x2] 23) (.cells #[.int .i64 y0, .int .i64 y1, .int .i64 y2] 23)
  have B4 := (Blk.new w #[.int .i64 x0, .int .i64 x1, .int .i64 x2] 23).alloc (.cells #[.int .i64 y0, .int .i64 y1, .int .i64 y2] 23)
  have B5 := Blk.at_new (w := w.alloc (.cells #[.int .i64 x0, .int .i64 x1, .int .i64 x2] 23)) (n := w.heap.size + 1) (by simp) #[.int .i64 y0, .int .i64 y1, .int .i64 y2] 23
  have S0 := Lib.hid hb0
  have P4 := Lib.hid B4
  have P5 := Lib.hid B5
  have HI := Lib.hid (h.below hb0 (Nat.le_refl _))
  clear hb0 B4 B5 h
  go_enter Try.func3, Try.ntmps3
  go_wp2_with fail
  generalize (w.alloc (.cells #[.int .i64 x0, .int .i64 x1, .int .i64 x2] 23)).alloc (.cells #[.int .i64 y0, .int .i64 y1, .int .i64 y2] 23) = w0 at *
  refine (sanity_any _).mono ?_
  rintro e w1 ⟨rfl, hb1⟩
  have S1 := Lib.hid (S0.out.trans (hb1.mono S0.out.size))
  have P4_1 := Lib.hid (P4.out.below hb1 P4.out.lt)
  have P5_1 := Lib.hid (P5.out.below hb1 P5.out.lt)
  have HI1 := Lib.hid (HI.out.below hb1 (Nat.le_refl _))
  clear hb1 S0 P4 P5 HI
  go_wp2_with fail
  refine (table_any L a cap _ HI1.out).mono ?_
  rintro e w2 ⟨⟨g, cap', rfl, hg1, hg2, hg3⟩, hb1⟩
  have S2 := Lib.hid (S1.out.trans (hb1.mono S1.out.size))
  have P4_2 := Lib.hid (P4_1.out.below hb1 P4_1.out.lt)
  have P5_2 := Lib.hid (P5_1.out.below hb1 P5_1.out.lt)
  have T2 : RowKit.Hid (RB w2 g ((L.take 20).map tabR)) := ⟨hg1, hg3⟩
  have hl : ((L.take 20).map tabR).length ≤ 20 := by simp; omega
  generalize (L.take 20).map tabR = T at *
  clear hb1 S1 P4_1 P5_1 HI1 hg1 hg2 hg3
  go_wp2_with fail
  have c0 : w2.cell? ⟨w.heap.size, 0, none⟩ = some (.int .i64 x0) := P4_2.out.cell 0
  have c1 : w2.cell? ⟨w.heap.size, 1, none⟩ = some (.int .i64 x1) := P4_2.out.cell 1
  have c2 : w2.cell? ⟨w.heap.size, 2, none⟩ = some (.int .i64 x2) := P4_2.out.cell 2
  have d0 : w2.cell? ⟨w.heap.size + 1, 0, none⟩ = some (.int .i64 y0) := P5_2.out.cell 0
  have d1 : w2.cell? ⟨w.heap.size + 1, 1, none⟩ = some (.int .i64 y1) := P5_2.out.cell 1
  have d2 : w2.cell? ⟨w.heap.size + 1, 2, none⟩ = some (.int .i64 y2) := P5_2.out.cell 2
  have z1 : w.heap.size < w2.heap.size := P4_2.out.lt
  have z2 : w.heap.size + 1 < w2.heap.size := P5_2.out.lt
  have m0 : 0 ≤ y0 % 4 ∧ y0 % 4 < 4 := by omega
  have m1 : 0 ≤ y1 % 4 ∧ y1 % 4 < 4 := by omega
  have m2 : 0 ≤ y2 % 4 ∧ y2 % 4 < 4 := by omega
  refine wp_region_mk 14 13 9 #[.int .i64 0, .int .i64 0, .int .i64 0] 23 (by kernel_rfl) (by kernel_rfl) ?_ ?_
  · intro o ho a w
    simp at ho
    subst ho
    kernel_rfl
  simp only [virt, vmove, vtail, Nat.reduceAdd, Nat.reduceLeDiff, Nat.reduceEqDiff, if_true, if_false]
  repeat (refine wpCalm_step (fun K hK => ?_); go_simp; first | (refine hK _ ?_; clear hK K) | (apply Exists.intro; refine ⟨fun _ => ?_, hK _ ?_⟩; (go_at_call 13; exact calmSame (mod_any _ _ _ (by omega) (by omega))); clear hK K))
  refine wpCalm_nil ?_
  intro x g2 hg2 hB2
  have S3 := Lib.hid (S2.out.trans (bover x S2.out.size))
  have P4_3 := Lib.hid (P4_2.out.over x)
  have P9 := Lib.hid hB2
  have T3 := Lib.hid (T2.out.over x)
  have hg0 : w.heap.size ≤ g2 := by have := S2.out.size; omega
  have hne : w.heap.size ≠ g2 := by omega
  have hng : g ≠ g2 := by have := T2.out.1; omega
  clear c0 c1 c2 d0 d1 d2 z1 z2 S2 P4_2 P5_2 T2
  generalize over w2 x = w3 at *
  have k0 := P9.out.cell 0
  have k1 := P9.out.cell 1
  have k2 := P9.out.cell 2
  have kf := P9.out.frozen
  have e0 : w3.cell? ⟨w.heap.size, 0, none⟩ = some (.int .i64 x0) := P4_3.out.cell 0
  have e1 : w3.cell? ⟨w.heap.size, 1, none⟩ = some (.int .i64 x1) := P4_3.out.cell 1
  have e2 : w3.cell? ⟨w.heap.size, 2, none⟩ = some (.int .i64 x2) := P4_3.out.cell 2
  simp only [List.drop_succ_cons, List.drop_zero]
  go_wp2_with fail
  obtain ⟨W, hW⟩ : ∃ W, W = (((w3.setCell ⟨g2, 0, none⟩ (.int .i64 (y0 % 4 - 1))).setCell ⟨g2, 1, none⟩ (.int .i64 (y1 % 4 - 1))).setCell ⟨g2, 2, none⟩ (.int .i64 (y2 % 4 - 1))) := ⟨_, rfl⟩
  have S_0 : RowKit.Hid (Below w.heap.size w W) := by rw [hW]; exact ((S3.out.setCell (by exact hg0) _).setCell (by exact hg0) _).setCell (by exact hg0) _
  have A_0 : RowKit.Hid (Blk W w.heap.size #[.int .i64 x0, .int .i64 x1, .int .i64 x2] 23) := by rw [hW]; exact ((P4_3.out.set_ne _ _ hne).set_ne _ _ hne).set_ne _ _ hne
  have C_0 : RowKit.Hid (Blk W g2 #[.int .i64 (y0 % 4 - 1), .int .i64 (y1 % 4 - 1), .int .i64 (y2 % 4 - 1)] 23) := by rw [hW]; exact arr3 P9.out
  have T_0 : RowKit.Hid (RB W g T) := by rw [hW]; exact ((T3.out.setNe _ _ hng).setNe _ _ hng).setNe _ _ hng
  rw [← hW]
  clear hW S3 P4_3 P9 T3 k0 k1 k2 kf e0 e1 e2 hB2
  generalize hz0 : y0 % 4 - 1 = z0 at *
  generalize hz1 : y1 % 4 - 1 = z1 at *
  generalize hz2 : y2 % 4 - 1 = z2 at *
  clear hz0 hz1 hz2 m0 m1 m2
  obtain ⟨p, hp⟩ : ∃ p, findS T x0 x1 x2 = p := ⟨_, rfl⟩
  obtain ⟨q, hq⟩ : ∃ q, findS T z0 z1 z2 = q := ⟨_, rfl⟩
  obtain ⟨⟨r0, r1, r2, r3, r4, r5, r6⟩, pm⟩ := p
  obtain ⟨⟨s0, s1, s2, s3, s4, s5, s6⟩, qm⟩ := q
  have HP := Lib.hid hp
  have HQ := Lib.hid hq
  clear hp hq
  refine (find_val (L := T) (n := T.length) (T_0.out) rfl (by omega) HP.out (t := decide (0 ≤ pm)) rfl).mono ?_
  rintro e w5 ⟨rfl, hb⟩
  have T_1 := Lib.hid ((T_0.out).below hb (T_0.out).1)
  have A_1 := Lib.hid ((A_0.out).below hb (A_0.out).lt)
  have C_1 := Lib.hid ((C_0.out).below hb (C_0.out).lt)
  have S_1 := Lib.hid (S_0.out.trans (hb.mono S_0.out.size))
  clear hb T_0 S_0 A_0 C_0
  have q := A_1.out.alloc (.cells #[.int .i64 r0, .int .i64 r1, .int .i64 r2, .int .i64 r3, .int .i64 r4, .int .i64 r5, .int .i64 r6] 28)
  have q0 : (w5.alloc (.cells #[.int .i64 r0, .int .i64 r1, .int .i64 r2, .int .i64 r3, .int .i64 r4, .int .i64 r5, .int .i64 r6] 28)).cell? ⟨w.heap.size, 0, none⟩ = some (.int .i64 x0) := q.cell 0
  have q1 : (w5.alloc (.cells #[.int .i64 r0, .int .i64 r1, .int .i64 r2, .int .i64 r3, .int .i64 r4, .int .i64 r5, .int .i64 r6] 28)).cell? ⟨w.heap.size, 1, none⟩ = some (.int .i64 x1) := q.cell 1
  have q2 : (w5.alloc (.cells #[.int .i64 r0, .int .i64 r1, .int .i64 r2, .int .i64 r3, .int .i64 r4, .int .i64 r5, .int .i64 r6] 28)).cell? ⟨w.heap.size, 2, none⟩ = some (.int .i64 x2) := q.cell 2
  clear q
  go_wp2_with fail
  clear q0 q1 q2
  refine (refFind_val (L := T) (n := T.length) (T_1.out.alloc _) rfl (by omega) HP.out (t := decide (0 ≤ pm)) rfl).mono ?_
  rintro e w6 ⟨rfl, hb⟩
  have T_2 := Lib.hid ((T_1.out.alloc _).below hb (T_1.out.alloc _).1)
  have A_2 := Lib.hid ((A_1.out.alloc _).below hb (A_1.out.alloc _).lt)
  have C_2 := Lib.hid ((C_1.out.alloc _).below hb (C_1.out.alloc _).lt)
  have D1_2 := Lib.hid ((Blk.new w5 #[.int .i64 r0, .int .i64 r1, .int .i64 r2, .int .i64 r3, .int .i64 r4, .int .i64 r5, .int .i64 r6] 28).below hb (Blk.new w5 #[.int .i64 r0, .int .i64 r1, .int .i64 r2, .int .i64 r3, .int .i64 r4, .int .i64 r5, .int .i64 r6] 28).lt)
  have S_2 := Lib.hid ((S_1.out.alloc S_1.out.size _).trans (hb.mono (alloc_ge _ (by have := S_1.out.size; omega))))
  clear hb T_1 S_1 A_1 C_1
  have q := C_2.out.alloc (.cells #[.int .i64 r0, .int .i64 r1, .int .i64 r2, .int .i64 r3, .int .i64 r4, .int .i64 r5, .int .i64 r6] 28)
  have q0 : (w6.alloc (.cells #[.int .i64 r0, .int .i64 r1, .int .i64 r2, .int .i64 r3, .int .i64 r4, .int .i64 r5, .int .i64 r6] 28)).cell? ⟨g2, 0, none⟩ = some (.int .i64 z0) := q.cell 0
  have q1 : (w6.alloc (.cells #[.int .i64 r0, .int .i64 r1, .int .i64 r2, .int .i64 r3, .int .i64 r4, .int .i64 r5, .int .i64 r6] 28)).cell? ⟨g2, 1, none⟩ = some (.int .i64 z1) := q.cell 1
  have q2 : (w6.alloc (.cells #[.int .i64 r0, .int .i64 r1, .int .i64 r2, .int .i64 r3, .int .i64 r4, .int .i64 r5, .int .i64 r6] 28)).cell? ⟨g2, 2, none⟩ = some (.int .i64 z2) := q.cell 2
  clear q
  go_wp2_with fail
  clear q0 q1 q2
  refine (find_val (L := T) (n := T.length) (T_2.out.alloc _) rfl (by omega) HQ.out (t := decide (0 ≤ qm)) rfl).mono ?_
  rintro e w7 ⟨rfl, hb⟩
  have T_3 := Lib.hid ((T_2.out.alloc _).below hb (T_2.out.alloc _).1)
  have A_3 := Lib.hid ((A_2.out.alloc _).below hb (A_2.out.alloc _).lt)
  have C_3 := Lib.hid ((C_2.out.alloc _).below hb (C_2.out.alloc _).lt)
  have D1_3 := Lib.hid ((D1_2.out.alloc _).below hb (D1_2.out.alloc _).lt)
  have D2_3 := Lib.hid ((Blk.new w6 #[.int .i64 r0, .int .i64 r1, .int .i64 r2, .int .i64 r3, .int .i64 r4, .int .i64 r5, .int .i64 r6] 28).below hb (Blk.new w6 #[.int .i64 r0, .int .i64 r1, .int .i64 r2, .int .i64 r3, .int .i64 r4, .int .i64 r5, .int .i64 r6] 28).lt)
  have S_3 := Lib.hid ((S_2.out.alloc S_2.out.size _).trans (hb.mono (alloc_ge _ (by have := S_2.out.size; omega))))
  clear hb T_2 S_2 A_2 C_2 D1_2
  have q := C_3.out.alloc (.cells #[.int .i64 s0, .int .i64 s1, .int .i64 s2, .int .i64 s3, .int .i64 s4, .int .i64 s5, .int .i64 s6] 28)
  have q0 : (w7.alloc (.cells #[.int .i64 s0, .int .i64 s1, .int .i64 s2, .int .i64 s3, .int .i64 s4, .int .i64 s5, .int .i64 s6] 28)).cell? ⟨g2, 0, none⟩ = some (.int .i64 z0) := q.cell 0
  have q1 : (w7.alloc (.cells #[.int .i64 s0, .int .i64 s1, .int .i64 s2, .int .i64 s3, .int .i64 s4, .int .i64 s5, .int .i64 s6] 28)).cell? ⟨g2, 1, none⟩ = some (.int .i64 z1) := q.cell 1
  have q2 : (w7.alloc (.cells #[.int .i64 s0, .int .i64 s1, .int .i64 s2, .int .i64 s3, .int .i64 s4, .int .i64 s5, .int .i64 s6] 28)).cell? ⟨g2, 2, none⟩ = some (.int .i64 z2) := q.cell 2
  clear q
  go_wp2_with fail
  clear q0 q1 q2
  refine (refFind_val (L := T) (n := T.length) (T_3.out.alloc _) rfl (by omega) HQ.out (t := decide (0 ≤ qm)) rfl).mono ?_
  rintro e w8 ⟨rfl, hb⟩
  have T_4 := Lib.hid ((T_3.out.alloc _).below hb (T_3.out.alloc _).1)
  have A_4 := Lib.hid ((A_3.out.alloc _).below hb (A_3.out.alloc _).lt)
  have C_4 := Lib.hid ((C_3.out.alloc _).below hb (C_3.out.alloc _).lt)
  have D1_4 := Lib.hid ((D1_3.out.alloc _).below hb (D1_3.out.alloc _).lt)
  have D2_4 := Lib.hid ((D2_3.out.alloc _).below hb (D2_3.out.alloc _).lt)
  have D3_4 := Lib.hid ((Blk.new w7 #[.int .i64 s0, .int .i64 s1, .int .i64 s2, .int .i64 s3, .int .i64 s4, .int .i64 s5, .int .i64 s6] 28).below hb (Blk.new w7 #[.int .i64 s0, .int .i64 s1, .int .i64 s2, .int .i64 s3, .int .i64 s4, .int .i64 s5, .int .i64 s6] 28).lt)
  have S_4 := Lib.hid ((S_3.out.alloc S_3.out.size _).trans (hb.mono (alloc_ge _ (by have := S_3.out.size; omega))))
  clear hb T_3 S_3 A_3 C_3 D1_3 D2_3
  obtain ⟨qa0, qa1, qa2, qa3, qa4, qa5, qa6⟩ := ruleCells (D1_4.out.alloc (.cells #[.int .i64 s0, .int .i64 s1, .int .i64 s2, .int .i64 s3, .int .i64 s4, .int .i64 s5, .int .i64 s6] 28))
  obtain ⟨qb0, qb1, qb2, qb3, qb4, qb5, qb6⟩ := ruleCells (D2_4.out.alloc (.cells #[.int .i64 s0, .int .i64 s1, .int .i64 s2, .int .i64 s3, .int .i64 s4, .int .i64 s5, .int .i64 s6] 28))
  obtain ⟨qc0, qc1, qc2, qc3, qc4, qc5, qc6⟩ := ruleCells (D3_4.out.alloc (.cells #[.int .i64 s0, .int .i64 s1, .int .i64 s2, .int .i64 s3, .int .i64 s4, .int .i64 s5, .int .i64 s6] 28))
  have HS := Lib.hid (S_4.out.alloc S_4.out.size (.cells #[.int .i64 s0, .int .i64 s1, .int .i64 s2, .int .i64 s3, .int .i64 s4, .int .i64 s5, .int .i64 s6] 28))
  clear T_4 A_4 C_4 D1_4 D2_4 D3_4 S_4
  go_wp2_with fail
  go_ret
  exact ⟨rfl, HS.out⟩
end Go.Proofs.Ytjikgoeinilnjaa
