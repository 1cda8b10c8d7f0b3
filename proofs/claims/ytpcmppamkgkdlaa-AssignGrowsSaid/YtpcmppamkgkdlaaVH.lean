/- The law: the assignment is that of the reference, and so is its cost. -/
import Derived.Test.YtpcmppamkgkdlaaUE
import Derived.Test.YtpcmppamkgkdlaaVF
namespace Go.Proofs.Ytpcmppamkgkdlaa
open Go.RowKit

/-- A problem's lists in memory, and the problem itself. -/
structure Sit (w0 W : World) (pb : Nat) (cells : Array Value) (L : List Wt) (A : List Int) (wv av : Value) : Prop where
  blk : Blk W pb cells 27
  bel : Below w0.heap.size w0 W
  wants : Wants W W.heap.size wv L
  at_ : Ints W W.heap.size av A
theorem Sit.up {w0 W W' : World} {pb : Nat} {cells : Array Value} {L : List Wt} {A : List Int} {wv av : Value} (h : Sit w0 W pb cells L A wv av) (hb : Below W.heap.size W W') : Sit w0 W' pb cells L A wv av :=
  ⟨h.blk.below hb h.blk.lt, h.bel.trans (hb.mono h.bel.size), h.wants.up hb, h.at_.up hb⟩
/-- A whole problem is read, under a guard. -/
theorem wpList_load27g {ops : Array Oper} {rest : List Oper} {o : Oper} {a : Act} {W : World} {Q : Exit → Act → World → Prop} (x : Operand) (hgd : Region.wanted o (yielded ops a.tmps) = true) (ho : o.op = .load 27 x) {pb : Nat} {cells : Array Value}
    (hx : a.eval x = .pointer (some ⟨pb, 0, none⟩)) (h : Blk W pb cells 27) (hs : cells.size = 18) (k : wpList Try.prog ops Q rest (a.put o.dst (.agg cells)) W) : wpList Try.prog ops Q (o :: rest) a W :=
  wpList_step fun K hK => by
    rw [if_pos hgd]
    unfold Oper.wp execOp
    simp only [ho, hx, Instr.loadAt, Instr.sureAddr, Sem.run_bind, Sem.run_pure, Result.andThen_ok, run_loadVar_row W pb 27 27 cells (0, 0) _ h Try.underlying27 rfl (by rw [hs]; kernel_rfl)]
    exact hK _ _ k
theorem oi_bd {P : Prob} {q : Nat → Option Nat} (h : Mat P q) (hn : P.n ≤ 1000) (k : Nat) : -1 ≤ oi (q k) ∧ oi (q k) < 1000 := by
  rcases @oi_nn (q k) with e | ⟨c, e, e2⟩
  · rw [e]; simp [oi]
  · rw [e2]; have := P.lt k c (h.ok e).2; omega
set_option maxRecDepth 100000 in
set_option maxHeartbeats 8000000 in
theorem exactLaw (cells : Array Value) (wl : List (Int × Int)) (al : List Int) (cs : Nat → Int) (w : World) (hp : PrIn w w.heap.size cells wl al cs) (hcs : cells.size = 18) :
    Calls Try.prog 3 #[.agg cells] w fun e w' => e = .returned (.bool true) ∧ Below w.heap.size w w' := by
  have HP := Lib.hid hp
  have HS := Lib.hid hcs
  clear hp hcs
  go_enter Try.func3, Try.ntmps3
  go_wp2_with fail
  obtain ⟨pb, hpb⟩ : ∃ pb, pb = w.heap.size := ⟨_, rfl⟩
  obtain ⟨W1, hW1⟩ : ∃ W1, W1 = w.alloc (.cells cells 27) := ⟨_, rfl⟩
  have PB : RowKit.Hid (Blk W1 pb cells 27) := Lib.hid (by rw [hW1, hpb]; exact Blk.new _ _ _)
  have B1 : RowKit.Hid (Below w.heap.size w W1) := Lib.hid (by rw [hW1]; exact (Below.refl _ _).alloc (Nat.le_refl _) _)
  have HZ : RowKit.Hid (W1.heap.size = pb + 1 ∧ pb = w.heap.size) := Lib.hid ⟨by rw [hW1, hpb]; simp, hpb⟩
  rw [← hW1, ← hpb]
  clear hW1 hpb
  refine (sanity_any W1).mono ?_
  rintro e w2 ⟨rfl, hb2⟩
  have B2 := Lib.hid hb2
  have PB2 := Lib.hid (PB.out.below hb2 PB.out.lt)
  have hz2 := hb2.size
  clear hb2
  go_wp2_with (refine wpList_load27 (.tmp 1) rfl rfl rfl PB2.out HS.out ?_)
  have PR2 : RowKit.Hid (PrIn w2 w.heap.size cells wl al cs) := Lib.hid (HP.out.below ((B1.out).trans (B2.out.mono (by have := HZ.out; omega))))
  refine (lists_any cells wl al cs 7 w2 w.heap.size PR2.out (by have := HZ.out; omega) (by omega)).mono ?_
  rintro e w3 ⟨wv, av, w0, ps, rfl, hWB, h0, hat, hb3⟩
  have B3 : RowKit.Hid (Below W1.heap.size W1 w3) := Lib.hid (B2.out.trans (hb3.mono hz2))
  have ST3 : RowKit.Hid (Sit w w3 pb cells (wantsL wl 7) (atL al 7) wv av) := Lib.hid ⟨PB.out.below B3.out PB.out.lt, B1.out.trans (B3.out.mono (by have := HZ.out; omega)), hWB.done, hat.mono hWB.bel.size⟩
  obtain ⟨aw, cw, hwv, -⟩ := ST3.out.wants
  obtain ⟨aa, ca, hav, -⟩ := ST3.out.at_
  have HN := Lib.hid (wantsL_le wl 7)
  obtain ⟨L, hL⟩ : ∃ L, L = wantsL wl 7 := ⟨_, rfl⟩
  have HLC : RowKit.Hid (∀ k, (L.getD k noW).2.length ≤ 1000) := Lib.hid fun k => by rw [hL]; exact wantsL_cop wl 7 k
  rw [← hL] at ST3 HN hwv
  obtain ⟨A, hA⟩ : ∃ A, A = atL al 7 := ⟨_, rfl⟩
  have HAL : RowKit.Hid (A.length ≤ 7) := Lib.hid (by rw [hA]; exact atL_le al 7)
  rw [← hA] at ST3 hav
  have HLL := Lib.hid hL
  have HAA := Lib.hid hA
  have hn := HN.out
  have han := HAL.out
  subst hwv hav
  obtain ⟨P, hP⟩ : ∃ P, P = prob L A (costsM cs) := ⟨_, rfl⟩
  have HPP := Lib.hid hP
  have hPm : P.m = L.length := by rw [hP]; rfl
  have hPn : P.n = A.length := by rw [hP]; rfl
  have HPM := Lib.hid (And.intro hPm hPn)
  clear hWB h0 hat hb3 hL hA PR2 hP hPm hPn PB PB2
  go_wp2_with (refine wpList_load27 (.tmp 1) rfl rfl rfl ST3.out.blk HS.out ?_)
  refine (costs_any cells cs w3 HP.out.c2).mono ?_
  rintro e w4 ⟨cv, rfl, hC, hb⟩
  have ST4 := Lib.hid (ST3.out.up hb)
  have Ccv := Lib.hid hC
  clear hb hC
  go_wp2_with fail
  refine (assign_any L A (costsM cs) w4 w4.heap.size _ _ _ ST4.out.wants ST4.out.at_ Ccv.out (by omega) (by omega) HLC.out (costsM_row cs) (Nat.le_refl _)).mono ?_
  rw [← HPP.out]
  rintro e w5 ⟨cp, g, rfl, hB, hblk, hg, hb⟩
  have ST5 := Lib.hid (ST4.out.up hb)
  have BB := Lib.hid hB
  have I5 : RowKit.Hid (Ints w5 w5.heap.size (.slice (some ⟨g, 0, none⟩) P.m P.m) (outL cp P.m)) := Lib.hid (outL_ints hblk)
  clear hb hB hblk hg
  go_wp2_with (refine wpList_load27 (.tmp 1) rfl rfl rfl ST5.out.blk HS.out ?_)
  refine (costs_any cells cs w5 HP.out.c2).mono ?_
  rintro e w6 ⟨cv2, rfl, hC, hb⟩
  have ST6 := Lib.hid (ST5.out.up hb)
  have Ccv2 := Lib.hid hC
  have I6 := Lib.hid (I5.out.up hb)
  clear hb hC
  go_wp2_with fail
  have hpm : P.m ≤ 1000 := by have := HPM.out; omega
  have hpn : P.n ≤ 1000 := by have := HPM.out; omega
  refine (cost_any L A (costsM cs) (outL cp P.m) w6 w6.heap.size _ _ _ _ ST6.out.wants ST6.out.at_ Ccv2.out I6.out (by omega) (by omega) HLC.out (costsM_row cs) (Nat.le_refl _) (by rw [outL_len]; omega) (outL_bd BB.out.mat hpn)).mono ?_
  rw [← HPP.out]
  rintro e w7 ⟨rfl, hb⟩
  rw [out_cost BB.out.mat]
  have ST7 := Lib.hid (ST6.out.up hb)
  have I7 := Lib.hid (I6.out.up hb)
  clear hb
  obtain ⟨n, hn2⟩ : ∃ n, n = P.tot cp := ⟨_, rfl⟩
  have HN2 := Lib.hid hn2
  rw [← hn2]
  clear hn2
  dsimp only
  go_wp2_with (refine wpList_load27 (.tmp 1) rfl rfl rfl ST7.out.blk HS.out ?_)
  refine (costs_any cells cs w7 HP.out.c2).mono ?_
  rintro e w8 ⟨cv3, rfl, hC, hb⟩
  have ST8 := Lib.hid (ST7.out.up hb)
  have Ccv3 := Lib.hid hC
  have I8 := Lib.hid (I7.out.up hb)
  clear hb hC
  go_wp2_with fail
  refine (rcost_any L A (costsM cs) (outL cp P.m) w8 w8.heap.size _ _ _ _ ST8.out.wants ST8.out.at_ Ccv3.out I8.out (by omega) (by omega) HLC.out (costsM_row cs) (Nat.le_refl _) (by rw [outL_len]; omega) (outL_bd BB.out.mat hpn)).mono ?_
  rw [← HPP.out]
  rintro e w9 ⟨rfl, hb⟩
  rw [out_cost BB.out.mat, ← HN2.out]
  have ST9 := Lib.hid (ST8.out.up hb)
  have I9 := Lib.hid (I8.out.up hb)
  clear hb
  dsimp only
  go_wp2_with (refine wpList_load27g (.tmp 1) rfl rfl rfl ST9.out.blk HS.out ?_)
  refine (costs_any cells cs w9 HP.out.c2).mono ?_
  rintro e w10 ⟨cv4, rfl, hC, hb⟩
  have ST10 := Lib.hid (ST9.out.up hb)
  have Ccv4 := Lib.hid hC
  have I10 := Lib.hid (I9.out.up hb)
  clear hb hC
  go_wp2_with fail
  refine (rassign_any L A (costsM cs) w10 w10.heap.size _ _ _ ST10.out.wants ST10.out.at_ Ccv4.out (by omega) (by omega) HLC.out (costsM_row cs) (Nat.le_refl _)).mono ?_
  rw [← HPP.out]
  rintro e w11 ⟨q, v, rfl, hQ, hI, hb⟩
  obtain rfl : cp = q := Best.unique BB.out hQ
  have ST11 := Lib.hid (ST10.out.up hb)
  have I11 := Lib.hid (I10.out.up hb)
  have J11 := Lib.hid hI
  clear hb hQ hI
  go_wp2_with fail
  refine (same_any w11.heap.size _ _ (outL cp P.m) (outL cp P.m) w11 I11.out J11.out (by rw [outL_len]; omega)).mono ?_
  rintro e w12 ⟨rfl, hb⟩
  have F := Lib.hid (ST11.out.bel.trans (hb.mono ST11.out.bel.size))
  rw [decide_eq_true rfl]
  clear hb
  go_wp2_with fail
  go_ret
  exact ⟨rfl, F.out⟩
end Go.Proofs.Ytpcmppamkgkdlaa
