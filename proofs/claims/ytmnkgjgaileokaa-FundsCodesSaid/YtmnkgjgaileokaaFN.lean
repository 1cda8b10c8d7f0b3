/- The contract of sanity. -/
import Derived.Test.YtmnkgjgaileokaaFM
namespace Go.Proofs.Ytmnkgjgaileokaa
open Go.RowKit

def q0 : PV := (FS.new 0).pv
def q1 : PV := (q0.add 1 0 100).2
def q2 : PV := (q1.add 2 1 50).2
def q3 : PV := (q2.add 3 2 10).2
def q4 : PV := (q3.enc 2 30).2
def q5 : PV := (q4.spend 2 15).2
def q8 : PV := (q5.move 1 3 40).2
theorem x1 : q0.add 1 0 100 = (0, q1) := by kernel_rfl
theorem x2 : q1.add 2 1 50 = (0, q2) := by kernel_rfl
theorem x3 : q2.add 3 2 10 = (0, q3) := by kernel_rfl
theorem x4 : q3.enc 2 30 = (0, q4) := by kernel_rfl
theorem x5 : q4.spend 2 15 = (0, q5) := by kernel_rfl
theorem x6 : q5.spend 2 6 = (60, q5) := by kernel_rfl
theorem x7 : q5.rel 2 31 = (60, q5) := by kernel_rfl
theorem x8 : q5.move 1 3 40 = (0, q8) := by kernel_rfl
theorem g0 : Good q0 := good_new 0
theorem g1 : Good q1 := (good_add g0 (by omega)).1
theorem g2 : Good q2 := (good_add g1 (by omega)).1
theorem g3 : Good q3 := (good_add g2 (by omega)).1
theorem g4 : Good q4 := (good_enc g3 _ _).1
theorem g5 : Good q5 := (good_spend g4 _ _).1
theorem g8 : Good q8 := (good_move g5 _ _ _).1
theorem f5 : q5.free0 2 = 5 := by kernel_rfl
theorem ids8 : q8.ids = [1, 2, 3] := by kernel_rfl
theorem sum8 : (q8.ids.map q8.sp).sum = 15 := by kernel_rfl
theorem t8 : q8.tot5 q8.ids.length 1 = #[.int .i64 1, .int .i64 0, .int .i64 160, .int .i64 15, .int .i64 30] := by kernel_rfl
theorem b8 : ∀ x ∈ q8.ids, totF q8.al q8.kids (q8.ids.length + 1) x ≤ 1000000000000000000 ∧ totF q8.sp q8.kids (q8.ids.length + 1) x ≤ 1000000000000000000 ∧ totF q8.en q8.kids (q8.ids.length + 1) x ≤ 1000000000000000000 := by
  rw [ids8]
  decide +kernel
theorem only {l : List Int} (hn : l.Nodup) (h : ∀ z, z ∈ l ↔ z = 1) : l = [1] := by
  match l, hn, h with
  | [], _, h => exact absurd ((h 1).2 rfl) (by simp)
  | [a], _, h => rw [(h a).1 (by simp)]
  | a :: b :: r, hn, h =>
    have h1 := (h a).1 (by simp)
    have h2 := (h b).1 (by simp)
    rw [h1, h2] at hn
    simp at hn
theorem closed8 {v : PV} (c : Closed q8 v) : v.fund5 1 = #[.int .i64 1, .int .i64 0, .int .i64 115, .int .i64 0, .int .i64 0] ∧ v.fund5 2 = #[.int .i64 2, .int .i64 1, .int .i64 30, .int .i64 0, .int .i64 30] ∧ v.fund5 3 = #[.int .i64 3, .int .i64 2, .int .i64 0, .int .i64 0, .int .i64 0] ∧ v.ids = [1, 2, 3] := by
  obtain ⟨l, h1, h2, h3⟩ := c.al
  have p1 : q8.pa 1 = 0 := by kernel_rfl
  have p2 : q8.pa 2 = 1 := by kernel_rfl
  have p3 : q8.pa 3 = 2 := by kernel_rfl
  rw [ids8] at h2 h3
  have hl : l = [1] := only h1 fun z => by
    rw [h2]
    constructor
    · rintro ⟨hz, hp⟩
      simp only [List.mem_cons, List.not_mem_nil, or_false] at hz
      rcases hz with rfl | rfl | rfl
      · rfl
      · rw [p2] at hp; cases hp
      · rw [p3] at hp; cases hp
    · rintro rfl; exact ⟨by simp, p1⟩
  subst hl
  have ei : v.ids = [1, 2, 3] := by rw [c.ids, ids8]
  have a1 : v.al 1 = 115 := (h3 1 (by simp)).2.trans (by kernel_rfl)
  have a2 : v.al 2 = 30 := (h3 2 (by simp)).2.trans (by kernel_rfl)
  have a3 : v.al 3 = 0 := (h3 3 (by simp)).2.trans (by kernel_rfl)
  have e1 : v.en 1 = 0 := by rw [c.en]; kernel_rfl
  have e2 : v.en 2 = 30 := by rw [c.en]; kernel_rfl
  have e3 : v.en 3 = 0 := by rw [c.en]; kernel_rfl
  unfold PV.fund5
  rw [ei, c.pa, a1, a2, a3, e1, e2, e3, (h3 1 (by simp)).1, (h3 2 (by simp)).1, (h3 3 (by simp)).1, p1, p2, p3]
  exact ⟨if_pos (by simp), if_pos (by simp), if_pos (by simp), rfl⟩
theorem pv_new (b : Nat) : (FS.new b).pv = q0 := rfl
/-- Where a walk stands: funds at block n0, made since the world w. -/
structure St (w : World) (n0 : Nat) (w' : World) (s : FS) (v : PV) : Prop where
  mem : Mem w' s
  pv : s.pv = v
  fb : s.fb = n0
  below : Below n0 w w'
  own : ∀ b, b < n0 → s.o b = .none
theorem St.step {w w1 w2 : World} {n0 : Nat} {s s' : FS} {v v' : PV} (h : St w n0 w1 s v) (hM : Mem w2 s') (hT : Turn s w1 s' w2) (hf : s'.fb = n0) (hp : s'.pv = v') : St w n0 w2 s' v' :=
  have hn : n0 ≤ w1.heap.size := by have := h.mem.fne; rw [h.fb] at this; omega
  ⟨hM, hp, hf, h.below.trans (hT.below hn h.own), fun b hb => hT.none b (by omega) (h.own b hb)⟩
theorem St.read {w w1 w2 : World} {n0 : Nat} {s : FS} {v : PV} (h : St w n0 w1 s v) (hb : Below w1.heap.size w1 w2) : St w n0 w2 s v :=
  have hn : n0 ≤ w1.heap.size := by have := h.mem.fne; rw [h.fb] at this; omega
  ⟨h.mem.below hb, h.pv, h.fb, h.below.trans (hb.mono hn), h.own⟩
set_option maxRecDepth 100000 in
set_option maxHeartbeats 4000000 in
theorem sanity_any (w : World) : Calls Try.prog 13 #[] w fun r w' => r = .returned (.bool true) ∧ Below w.heap.size w w' := by
  go_enter Try.func13, Try.ntmps13
  go_wp2_with fail
  refine (new_any w).mono ?_
  rintro e w1 ⟨rfl, hM, hw⟩
  have S0 := Lib.hid (show St w w.heap.size w1 (FS.new w.heap.size) q0 from ⟨hM, rfl, rfl, by rw [hw]; exact (Below.refl _ _).alloc (Nat.le_refl _) _, fun b hb => if_neg (by omega)⟩)
  clear hM hw
  generalize FS.new w.heap.size = s0 at *
  go_wp2_with fail
  have key0 := add_st S0.out.mem S0.out.pv g0 x1 (by omega) (by omega) (by omega) (by omega) (by omega) (by omega)
  rw [S0.out.fb] at key0
  refine key0.mono ?_
  clear key0
  rintro e v1 ⟨rfl, s1, hM, hT, hf, hp⟩
  have S1 := Lib.hid (S0.out.step hM hT hf hp)
  clear hM hT hf hp S0
  go_wp2_with fail
  have key1 := add_st S1.out.mem S1.out.pv g1 x2 (by omega) (by omega) (by omega) (by omega) (by omega) (by omega)
  rw [S1.out.fb] at key1
  refine key1.mono ?_
  clear key1
  rintro e v2 ⟨rfl, s2, hM, hT, hf, hp⟩
  have S2 := Lib.hid (S1.out.step hM hT hf hp)
  clear hM hT hf hp S1
  go_wp2_with fail
  have key2 := add_st S2.out.mem S2.out.pv g2 x3 (by omega) (by omega) (by omega) (by omega) (by omega) (by omega)
  rw [S2.out.fb] at key2
  refine key2.mono ?_
  clear key2
  rintro e v3 ⟨rfl, s3, hM, hT, hf, hp⟩
  have S3 := Lib.hid (S2.out.step hM hT hf hp)
  clear hM hT hf hp S2
  go_wp2_with fail
  have key3 := enc_st S3.out.mem S3.out.pv g3 x4 (by omega) (by omega) (by omega) (by omega)
  rw [S3.out.fb] at key3
  refine key3.mono ?_
  clear key3
  rintro e v4 ⟨rfl, s4, hM, hT, hf, hp⟩
  have S4 := Lib.hid (S3.out.step hM hT hf hp)
  clear hM hT hf hp S3
  go_wp2_with fail
  have key4 := spend_st S4.out.mem S4.out.pv g4 x5 (by omega) (by omega) (by omega) (by omega)
  rw [S4.out.fb] at key4
  refine key4.mono ?_
  clear key4
  rintro e v5 ⟨rfl, s5, hM, hT, hf, hp⟩
  have S5 := Lib.hid (S4.out.step hM hT hf hp)
  clear hM hT hf hp S4
  go_wp2_with fail
  have key5 := free_st S5.out.mem S5.out.pv g5 f5 (by omega) (by omega)
  rw [S5.out.fb] at key5
  refine key5.mono ?_
  clear key5
  rintro e v6 ⟨rfl, hb⟩
  have S6 := Lib.hid (S5.out.read hb)
  clear S5
  clear hb
  go_wp2_with fail
  have key6 := spend_st S6.out.mem S6.out.pv g5 x6 (by omega) (by omega) (by omega) (by omega)
  rw [S6.out.fb] at key6
  refine key6.mono ?_
  clear key6
  rintro e v7 ⟨rfl, s7, hM, hT, hf, hp⟩
  have S7 := Lib.hid (S6.out.step hM hT hf hp)
  clear hM hT hf hp S6
  go_wp2_with fail
  have key7 := rel_st S7.out.mem S7.out.pv g5 x7 (by omega) (by omega) (by omega) (by omega)
  rw [S7.out.fb] at key7
  refine key7.mono ?_
  clear key7
  rintro e v8 ⟨rfl, s8, hM, hT, hf, hp⟩
  have S8 := Lib.hid (S7.out.step hM hT hf hp)
  clear hM hT hf hp S7
  go_wp2_with fail
  have key8 := move_st S8.out.mem S8.out.pv g5 x8 (by omega) (by omega) (by omega) (by omega) (by omega) (by omega)
  rw [S8.out.fb] at key8
  refine key8.mono ?_
  clear key8
  rintro e v9 ⟨rfl, s9, hM, hT, hf, hp⟩
  have S9 := Lib.hid (S8.out.step hM hT hf hp)
  clear hM hT hf hp S8
  go_wp2_with fail
  have key9 := total_st S9.out.mem S9.out.pv g8 b8 t8 (by omega) (by omega)
  rw [S9.out.fb] at key9
  refine key9.mono ?_
  clear key9
  rintro e v10 ⟨rfl, hb⟩
  have S10 := Lib.hid (S9.out.read hb)
  clear S9
  clear hb
  go_wp2_with fail
  have key10 := close_st S10.out.mem S10.out.pv g8 sum8 
  rw [S10.out.fb] at key10
  refine key10.mono ?_
  clear key10
  rintro e v11 ⟨rfl, s11, hM, hT, hf, hc⟩
  have S11 := Lib.hid (S10.out.step hM hT hf rfl)
  have HC := Lib.hid (closed8 hc)
  clear hM hT hf hc S10
  go_wp2_with fail
  have key11 := fund_st (x := 1) S11.out.mem S11.out.pv HC.out.1 (t := true) (by rw [HC.out.2.2.2]; rfl) (by omega) (by omega)
  rw [S11.out.fb] at key11
  refine key11.mono ?_
  clear key11
  rintro e u0 ⟨rfl, hb⟩
  have R0 := Lib.hid (S11.out.read hb)
  have S12 := Lib.hid (R0.out.read ((Below.refl _ _).alloc (Nat.le_refl _) (.cells #[.int .i64 1, .int .i64 0, .int .i64 115, .int .i64 0, .int .i64 0] 31)))
  have K00 := Lib.hid (Blk.new u0 #[.int .i64 1, .int .i64 0, .int .i64 115, .int .i64 0, .int .i64 0] 31)
  clear hb S11 R0
  go_wp2_with fail
  generalize hU0 : u0.alloc (.cells #[.int .i64 1, .int .i64 0, .int .i64 115, .int .i64 0, .int .i64 0] 31) = U0 at *
  generalize u0.heap.size = c0 at *
  clear hU0
  have key12 := fund_st (x := 2) S12.out.mem S12.out.pv HC.out.2.1 (t := true) (by rw [HC.out.2.2.2]; rfl) (by omega) (by omega)
  rw [S12.out.fb] at key12
  refine key12.mono ?_
  clear key12
  rintro e u1 ⟨rfl, hb⟩
  have R1 := Lib.hid (S12.out.read hb)
  have K01 := Lib.hid ((K00.out.below hb K00.out.lt).alloc (.cells #[.int .i64 2, .int .i64 1, .int .i64 30, .int .i64 0, .int .i64 30] 31))
  have S13 := Lib.hid (R1.out.read ((Below.refl _ _).alloc (Nat.le_refl _) (.cells #[.int .i64 2, .int .i64 1, .int .i64 30, .int .i64 0, .int .i64 30] 31)))
  have K11 := Lib.hid (Blk.new u1 #[.int .i64 2, .int .i64 1, .int .i64 30, .int .i64 0, .int .i64 30] 31)
  clear hb S12 R1
  go_wp2_with fail
  generalize hU1 : u1.alloc (.cells #[.int .i64 2, .int .i64 1, .int .i64 30, .int .i64 0, .int .i64 30] 31) = U1 at *
  generalize u1.heap.size = c1 at *
  clear hU1
  have key13 := fund_st (x := 3) S13.out.mem S13.out.pv HC.out.2.2.1 (t := true) (by rw [HC.out.2.2.2]; rfl) (by omega) (by omega)
  rw [S13.out.fb] at key13
  refine key13.mono ?_
  clear key13
  rintro e u2 ⟨rfl, hb⟩
  have R2 := Lib.hid (S13.out.read hb)
  have K02 := Lib.hid ((K01.out.below hb K01.out.lt).alloc (.cells #[.int .i64 3, .int .i64 2, .int .i64 0, .int .i64 0, .int .i64 0] 31))
  have K12 := Lib.hid ((K11.out.below hb K11.out.lt).alloc (.cells #[.int .i64 3, .int .i64 2, .int .i64 0, .int .i64 0, .int .i64 0] 31))
  have S14 := Lib.hid (R2.out.read ((Below.refl _ _).alloc (Nat.le_refl _) (.cells #[.int .i64 3, .int .i64 2, .int .i64 0, .int .i64 0, .int .i64 0] 31)))
  have K22 := Lib.hid (Blk.new u2 #[.int .i64 3, .int .i64 2, .int .i64 0, .int .i64 0, .int .i64 0] 31)
  clear hb S13 R2
  obtain ⟨z0, z1, z2, z3, z4⟩ := five K02.out
  obtain ⟨y0, y1, y2, y3, y4⟩ := five K12.out
  have lz := K02.out.lt
  go_wp2_with fail
  go_ret
  exact ⟨rfl, S14.out.below⟩
end Go.Proofs.Ytmnkgjgaileokaa
