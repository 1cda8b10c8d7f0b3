/- The law: want by want, the first ones that can be served together are served, and no others. -/
import Derived.Test.YtpcmppamkgkdlaaVJ
import Derived.Deep.RegionHeld3
namespace Go.Proofs.Ytpcmppamkgkdlaa
open Go.RowKit

/-- Those before k are served as they are in the best assignment. -/
structure Upto (P : Prob) (a cp wn : Nat → Option Nat) (k : Nat) : Prop where
  mat : Mat P cp
  con : Con cp wn
  srv : ∀ j, j < k → (cp j).isSome = (a j).isSome
  off : ∀ j, k ≤ j → cp j = none
theorem Upto.start (P : Prob) (a : Nat → Option Nat) : Upto P a (fun _ => none) (fun _ => none) 0 := ⟨mat_none P, con_nothing, fun j hj => by omega, fun _ _ => rfl⟩
theorem Upto.yes {P : Prob} {a cp wn cp' wn' : Nat → Option Nat} {k : Nat} (h : Upto P a cp wn k) (hk : k < P.m) (hg : Greedy P a) (hf : Found P cp wn cp' wn' (fun _ => false) k) : Upto P a cp' wn' (k + 1) ∧ (a k).isSome = true := by
  obtain ⟨h1, h2⟩ := hf.top (h.off k (Nat.le_refl _))
  have hs : ∀ j, j < k → (cp' j).isSome = (a j).isSome := fun j hj => by rw [hf.same j (by omega)]; exact h.srv j hj
  have ha : (a k).isSome = true := (hg k hk).2 ⟨cp', h1, fun j hj hh => by rw [hs j hj]; exact hh, hf.got⟩
  refine ⟨⟨h1, h2, fun j hj => ?_, fun j hj => ?_⟩, ha⟩
  · rcases Nat.lt_or_ge j k with h' | h'
    · exact hs j h'
    · obtain rfl : j = k := by omega
      rw [hf.got, ha]
  · have := hf.same j (by omega)
    rw [h.off j (by omega)] at this
    cases e : cp' j with
    | none => rfl
    | some c => rw [e] at this; cases this
theorem Upto.no {P : Prob} {a cp wn : Nat → Option Nat} {seen' : Nat → Bool} {k : Nat} (h : Upto P a cp wn k) (hm : Mat P a) (hl : Lost P wn (fun _ => false) seen' k) : Upto P a cp wn (k + 1) ∧ (a k).isSome = false := by
  have ha : a k = none := hl.top h.mat h.con (h.off k (Nat.le_refl _)) hm fun j hj => by
    rcases Nat.lt_or_ge j k with h' | h'
    · rw [← h.srv j h']; exact hj
    · rw [h.off j h'] at hj; cases hj
  refine ⟨⟨h.mat, h.con, fun j hj => ?_, fun j hj => h.off j (by omega)⟩, by rw [ha]; rfl⟩
  rcases Nat.lt_or_ge j k with h' | h'
  · exact h.srv j h'
  · obtain rfl : j = k := by omega
    rw [h.off j (Nat.le_refl _), ha]
set_option maxRecDepth 100000 in
set_option maxHeartbeats 8000000 in
theorem servesLaw (cells : Array Value) (wl : List (Int × Int)) (al : List Int) (cs : Nat → Int) (w : World) (hp : PrIn w w.heap.size cells wl al cs) (hcs : cells.size = 18) :
    Calls Try.prog 6 #[.agg cells] w fun e w' => e = .returned (.bool true) ∧ Below w.heap.size w w' := by
  have HP := Lib.hid hp
  have HS := Lib.hid hcs
  clear hp hcs
  go_enter Try.func6, Try.ntmps6
  go_wp2_with fail
  obtain ⟨pb, hpb⟩ : ∃ pb, pb = w.heap.size := ⟨_, rfl⟩
  obtain ⟨W1, hW1⟩ : ∃ W1, W1 = w.alloc (.cells cells 27) := ⟨_, rfl⟩
  have PB : RowKit.Hid (Blk W1 pb cells 27) := Lib.hid (by rw [hW1, hpb]; exact Blk.new _ _ _)
  have B1 : RowKit.Hid (Below w.heap.size w W1) := Lib.hid (by rw [hW1]; exact (Below.refl _ _).alloc (Nat.le_refl _) _)
  have HZ : RowKit.Hid (W1.heap.size = pb + 1 ∧ pb = w.heap.size) := Lib.hid ⟨by rw [hW1, hpb]; simp, hpb⟩
  rw [← hW1, ← hpb]
  clear hW1 hpb
  refine (sanity_any W1).mono ?_
  rintro e w2 ⟨rfl, hb2⟩
  have B2 := Lib.hid hb2
  have PB2 := Lib.hid (PB.out.below hb2 PB.out.lt)
  have hz2 := hb2.size
  clear hb2
  go_wp2_with (refine wpList_load27 (.tmp 1) rfl rfl rfl PB2.out HS.out ?_)
  have PR2 : RowKit.Hid (PrIn w2 w.heap.size cells wl al cs) := Lib.hid (HP.out.below ((B1.out).trans (B2.out.mono (by have := HZ.out; omega))))
  refine (lists_any cells wl al cs 16 w2 w.heap.size PR2.out (by have := HZ.out; omega) (by omega)).mono ?_
  rintro e w3 ⟨wv, av, w0, ps, rfl, hWB, h0, hat, hb3⟩
  have B3 : RowKit.Hid (Below W1.heap.size W1 w3) := Lib.hid (B2.out.trans (hb3.mono hz2))
  have ST3 : RowKit.Hid (Sit w w3 pb cells (wantsL wl 16) (atL al 16) wv av) := Lib.hid ⟨PB.out.below B3.out PB.out.lt, B1.out.trans (B3.out.mono (by have := HZ.out; omega)), hWB.done, hat.mono hWB.bel.size⟩
  obtain ⟨aw, cw, hwv, -⟩ := ST3.out.wants
  obtain ⟨aa, ca, hav, -⟩ := ST3.out.at_
  have HN := Lib.hid (wantsL_le wl 16)
  obtain ⟨L, hL⟩ : ∃ L, L = wantsL wl 16 := ⟨_, rfl⟩
  have HLC : RowKit.Hid (∀ k, (L.getD k noW).2.length ≤ 1000) := Lib.hid fun k => by rw [hL]; exact wantsL_cop wl 16 k
  rw [← hL] at ST3 HN hwv
  obtain ⟨A, hA⟩ : ∃ A, A = atL al 16 := ⟨_, rfl⟩
  have HAL : RowKit.Hid (A.length ≤ 16) := Lib.hid (by rw [hA]; exact atL_le al 16)
  rw [← hA] at ST3 hav
  have HLL := Lib.hid hL
  have HAA := Lib.hid hA
  have hn := HN.out
  have han := HAL.out
  subst hwv hav
  obtain ⟨P, hP⟩ : ∃ P, P = prob L A (costsM cs) := ⟨_, rfl⟩
  have HPP := Lib.hid hP
  have hPm : P.m = L.length := by rw [hP]; rfl
  have hPn : P.n = A.length := by rw [hP]; rfl
  have HPM := Lib.hid (And.intro hPm hPn)
  clear hWB h0 hat hb3 hL hA PR2 hP hPm hPn PB PB2
  go_wp2_with (refine wpList_load27 (.tmp 1) rfl rfl rfl ST3.out.blk HS.out ?_)
  refine (costs_any cells cs w3 HP.out.c2).mono ?_
  rintro e w4 ⟨cv, rfl, hC, hb⟩
  have ST4 := Lib.hid (ST3.out.up hb)
  have Ccv := Lib.hid hC
  clear hb hC
  go_wp2_with fail
  refine (assign_any L A (costsM cs) w4 w4.heap.size _ _ _ ST4.out.wants ST4.out.at_ Ccv.out (by omega) (by omega) HLC.out (costsM_row cs) (Nat.le_refl _)).mono ?_
  rw [← HPP.out]
  rintro e w5 ⟨cp, g, rfl, hB, hblk, hg, hb⟩
  rw [HPM.out.1] at hblk ⊢
  have ST5 := Lib.hid (ST4.out.up hb)
  have BB := Lib.hid hB
  have G5 := Lib.hid hblk
  clear hb hB hg hblk
  go_wp2_with (refine wpList_load27 (.tmp 1) rfl rfl rfl ST5.out.blk HS.out ?_)
  refine (costs_any cells cs w5 HP.out.c2).mono ?_
  rintro e w6 ⟨cv2, rfl, hC, hb⟩
  have ST6 := Lib.hid (ST5.out.up hb)
  have Ccv2 := Lib.hid hC
  have G6 := Lib.hid (G5.out.below hb G5.out.lt)
  clear hb hC
  go_wp2_with fail
  have hpn : P.n ≤ 1000 := by have := HPM.out; omega
  have I6 : RowKit.Hid (Ints w6 w6.heap.size (.slice (some ⟨g, 0, none⟩) L.length L.length) (outL cp P.m)) := Lib.hid (by rw [HPM.out.1]; exact outL_ints G6.out)
  refine (cost_any L A (costsM cs) (outL cp P.m) w6 w6.heap.size _ _ _ _ ST6.out.wants ST6.out.at_ Ccv2.out I6.out (by omega) (by omega) HLC.out (costsM_row cs) (Nat.le_refl _) (by rw [outL_len]; have := HPM.out; omega) (outL_bd BB.out.mat hpn)).mono ?_
  rw [← HPP.out]
  rintro e w7 ⟨rfl, hb⟩
  rw [out_cost BB.out.mat]
  have ST7 := Lib.hid (ST6.out.up hb)
  have G7 := Lib.hid (G6.out.below hb G6.out.lt)
  clear hb
  obtain ⟨n, hn2⟩ : ∃ n, n = P.tot cp := ⟨_, rfl⟩
  have HN2 := Lib.hid hn2
  rw [← hn2]
  clear hn2
  dsimp only
  have hmk := mk30 A.length (by omega)
  go_wp2_with fail
  obtain ⟨tb, htb⟩ : ∃ tb, tb = w7.heap.size := ⟨_, rfl⟩
  obtain ⟨W8, hW8⟩ : ∃ W8, W8 = w7.alloc (.cells (arr (fun _ => .int .i64 0) A.length) 3) := ⟨_, rfl⟩
  have T8 : RowKit.Hid (Blk W8 tb (encO (ext 0 fun _ => none) A.length) 3) := Lib.hid (by rw [hW8]; exact Blk.at_new htb _ 3)
  have B8 : RowKit.Hid (Below w7.heap.size w7 W8) := Lib.hid (by rw [hW8]; exact (Below.refl _ _).alloc (Nat.le_refl _) _)
  have HTB : RowKit.Hid (tb = w7.heap.size ∧ W8.heap.size = tb + 1) := Lib.hid ⟨htb, by rw [hW8, size_alloc, htb]⟩
  rw [← htb, ← hW8]
  clear hmk htb hW8
  go_loopw [10] (fun v wr => ∃ c : Nat, c ≤ A.length ∧ v = .int .i64 c ∧ Blk wr tb (encO (ext c fun _ => none) A.length) 3 ∧ Below w7.heap.size w7 wr) (fun v _ => A.length - (intOf v).toNat)
  case atStart => exact ⟨0, by omega, rfl, T8.out, B8.out⟩
  case round =>
    obtain ⟨c, hc, rfl, hT, hb⟩ := hrel
    have T9 := Lib.hid hT
    have B9 := Lib.hid hb
    clear hT hb
    by_cases hlt : c < A.length
    · have e0 : wr.cell? ⟨tb, c, none⟩ = some (.int .i64 (oi (ext c (fun _ => none) c))) := T9.out.cellE (arr_get _ hlt)
      have ef := T9.out.frozen
      have T10 : RowKit.Hid (Blk (wr.setCell ⟨tb, c, none⟩ (.int .i64 (-1))) tb (encO (ext (c + 1) fun _ => none) A.length) 3) := Lib.hid ((T9.out.set c _).cast (by rw [← ext_none rfl]; exact encO_set _ hlt none))
      have B10 : RowKit.Hid (Below w7.heap.size w7 (wr.setCell ⟨tb, c, none⟩ (.int .i64 (-1)))) := Lib.hid (B9.out.setCell (by show w7.heap.size ≤ tb; have := HTB.out; omega) _)
      go_wp2_with fail
      exact ⟨⟨c + 1, by omega, by go_num, T10.out, B10.out⟩, by simp [intOf]; omega⟩
    · obtain rfl : c = A.length := by omega
      have e9 : ext A.length (fun _ => none) = ext A.length (fun _ => none) := rfl
      have T10 : RowKit.Hid (Blk wr tb (encO (fun _ => none) A.length) 3) := Lib.hid (T9.out.cast (arr_congr fun j hj => by unfold ext; rw [if_pos hj]))
      obtain ⟨wo, rfl⟩ : ∃ wo : World, wo = wr := ⟨_, rfl⟩
      clear e9 T9
      go_wp2_with fail
      go_loopw [11] (fun v wr => ∃ (k : Nat) (cq wn : Nat → Option Nat), k ≤ L.length ∧ v = .int .i64 k ∧ Blk wr tb (encO wn A.length) 3 ∧ Upto P cp cq wn k ∧ Below w7.heap.size w7 wr) (fun v _ => L.length - (intOf v).toNat)
      case atStart => exact ⟨0, _, _, by omega, rfl, T10.out, Upto.start P cp, B9.out⟩
      case round =>
        obtain ⟨k, cq, wn, hk, rfl, hT, hU, hb⟩ := hrel
        have T11 := Lib.hid hT
        have U11 := Lib.hid hU
        have B11 := Lib.hid hb
        clear hT hU hb
        by_cases hlk : k < L.length
        · have hmk := mk47 A.length (by omega)
          have G11 : RowKit.Hid (Blk wr g (encO cp L.length) 3) := Lib.hid (G7.out.below B11.out G7.out.lt)
          have a0 : wr.cell? ⟨g, k, none⟩ = some (.int .i64 (oi (cp k))) := G11.out.cellE (arr_get _ hlk)
          have KS : RowKit.Hid (Calls Try.prog 20 #[.slice aw L.length cw, .int .i64 A.length, .slice (some ⟨tb, 0, none⟩) A.length A.length, .slice (some ⟨wr.heap.size, 0, none⟩) A.length A.length, .int .i64 k] (wr.alloc (.cells (encB (fun _ => false) A.length) 4)).drew (SrvE P tb wr.heap.size (wr.alloc (.cells (encB (fun _ => false) A.length) 4)).drew cq wn (fun _ => false) k)) := Lib.hid (by
            rw [HPP.out]
            exact served_any L A (costsM cs) w7.heap.size tb wr.heap.size aw cw (by omega) (by omega) HLC.out w7 ST7.out.wants (by have := HTB.out; omega) B11.out.size (by have := T11.out.lt; omega) cq wn (by rw [← HPP.out]; exact U11.out.mat) U11.out.con
              (cntF (fun _ => false) A.length + 1) (fun _ => false) k _ (by omega) hlk (fun d hd => by rw [U11.out.off k (Nat.le_refl _)] at hd; cases hd) ((B11.out.alloc B11.out.size _).drew) ((T11.out.alloc _).drew) ((Blk.new wr _ 4).drew))
          have NG : RowKit.Hid (¬ SF tb wr.heap.size g) := Lib.hid (by unfold SF; have := G7.out.lt; have := HTB.out; have := B11.out.size; omega)
          have a1 : (wr.alloc (.cells (encB (fun _ => false) A.length) 4)).drew.cell? ⟨g, k, none⟩ = some (.int .i64 (oi (cp k))) := (((Below.refl wr.heap.size wr).alloc (Nat.le_refl _) _).cell (p := ⟨g, k, none⟩) G11.out.lt).trans a0
          have hup := Lib.hid (U11.out.yes (cp' := cq) (wn' := wn))
          go_wp2_with fail
          go_region_held3 (fun w' => w'.cell? ⟨g, k, none⟩ = some (.int .i64 (oi (cp k)))) (first | exact a0 | exact a1 | assumption) (first | (go_at_call 20; refine KS.out.mono ?_; rintro e w5 ⟨tt, cp', wn', seen', rfl, hT5, hG5, hN5, hyes, hno⟩; have a5 : w5.cell? ⟨g, k, none⟩ = some (.int .i64 (oi (cp k))) := hN5.cell a1 NG.out))
          rw [HPM.out.2] at hT5
          have T12 := Lib.hid hT5
          have B12 : RowKit.Hid (Below w7.heap.size w7 w5) := Lib.hid (((B11.out.alloc B11.out.size (.cells (encB (fun _ => false) A.length) 4)).drew).trans (hN5.below (by rw [show (wr.alloc (.cells (encB (fun _ => false) A.length) 4)).drew.heap.size = wr.heap.size + 1 from size_alloc _ _]; have := B11.out.size; omega) fun b e => by unfold SF at e; have := HTB.out; have := B11.out.size; omega))
          cases tt
          · obtain ⟨rfl, rfl, hlo⟩ := hno rfl
            obtain ⟨U2, hs⟩ := U11.out.no BB.out.mat hlo
            have U12 := Lib.hid U2
            have hx : oi (cp k) < 0 := by cases e : cp k with
              | none => simp [oi]
              | some c => rw [e] at hs; cases hs
            generalize oi (cp k) = x at *
            clear hyes hno hlo hs U2 hT5 hG5 hN5 a0 a1 a5 KS hup
            go_wp2_with fail
            all_goals first | (exfalso; rename_i hh; rw [decide_eq_false (show ¬ 0 ≤ x by omega)] at hh; cases hh; done) | exact ⟨⟨k + 1, _, _, by omega, by go_num, T12.out, U12.out, B12.out⟩, by simp [intOf]; omega⟩
          · obtain ⟨U2, hs⟩ := U11.out.yes (by have := HPM.out; omega) BB.out.greedy (hyes rfl)
            have U12 := Lib.hid U2
            have hx : 0 ≤ oi (cp k) := by cases e : cp k with
              | none => rw [e] at hs; cases hs
              | some c => simp [oi]
            generalize oi (cp k) = x at *
            clear hyes hno hs U2 hT5 hG5 hN5 a0 a1 a5 KS hup
            go_wp2_with fail
            all_goals first | (exfalso; rename_i hh; rw [decide_eq_true hx] at hh; cases hh; done) | exact ⟨⟨k + 1, _, _, by omega, by go_num, T12.out, U12.out, B12.out⟩, by simp [intOf]; omega⟩
        · obtain rfl : k = L.length := by omega
          have F := Lib.hid (ST7.out.bel.trans (B11.out.mono ST7.out.bel.size))
          go_wp2_with fail
          go_ret
          exact ⟨rfl, F.out⟩
end Go.Proofs.Ytpcmppamkgkdlaa
