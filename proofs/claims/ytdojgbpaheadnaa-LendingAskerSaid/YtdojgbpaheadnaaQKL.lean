/- The walk of LendingAsker. -/
import Derived.Test.YtdojgbpaheadnaaQKM
import Derived.Test.YtdojgbpaheadnaaQSN
set_option linter.unusedVariables false
set_option linter.unusedSimpArgs false

namespace Go.Proofs.Ytdojgbpaheadnaa
open Go.RowKit Go.Shelf Go.Maps

theorem tnRow (w : World) (g : Nat) (cs : Array Value) : Tn (fun j => j = g) w (w.setRow g cs) :=
  ⟨rfl, rfl, rfl, by show _ ≤ (w.heap.modify g _).size; rw [Array.size_modify]; exact Nat.le_refl _, fun k _ hn => setRow_other _ _ _ _ (by omega)⟩
set_option maxRecDepth 100000 in
set_option maxHeartbeats 16000000 in
theorem askerLaw (L : List Act6) (cap0 : Int) (a : Option Addr) (cap : Nat) (w : World) (h : InA6 w a L cap) (hcap0 : I64 cap0) :
    Calls Try.prog 4 #[.slice a L.length cap, i64 cap0] w fun r w' => r = .returned (.bool true) ∧ Below w.heap.size w w' := by
  have hcap := h.cap
  have hlen := h.len
  have HA0 := Lib.hid h
  clear h
  obtain ⟨X, hX⟩ : ∃ X, X = cap0.tmod 6 := ⟨_, rfl⟩
  have HX : RowKit.Hid (I64 X) := Lib.hid (by
    have h1 := Int.lt_tmod_of_pos cap0 (show (0 : Int) < 6 by omega)
    have h2 := Int.tmod_lt_of_pos cap0 (show (0 : Int) < 6 by omega)
    exact ⟨by omega, by omega⟩)
  clear hcap0
  go_enter Try.func4, Try.ntmps4
  go_wp2_with fail
  refine (sanity_any w).mono ?_
  rintro e w0 ⟨rfl, hb0⟩
  have HA := Lib.hid (HA0.out.below hb0 (Nat.le_refl _))
  have B0 := Lib.hid hb0
  clear hb0 HA0
  go_wp2_with fail
  rw [← hX]
  refine (newAsker_any 2 X ⟨by omega, by omega⟩ HX.out w0).mono ?_
  rintro e w1 ⟨rfl, hM, hb1⟩
  obtain ⟨b, hb⟩ : ∃ b, b = w0.heap.size := ⟨_, rfl⟩
  have HBB := Lib.hid hb
  have M1 := Lib.hid hM
  have T1 := Lib.hid hb1
  rw [← hb]
  clear hM hb1 hb
  go_wp2_with fail
  rw [← hX]
  refine (rnewA_any 2 X ⟨by omega, by omega⟩ HX.out w1).mono ?_
  rintro e w2 ⟨rfl, hR2, hb2⟩
  obtain ⟨rb, hrb⟩ : ∃ rb, rb = w1.heap.size := ⟨_, rfl⟩
  have BO : RowKit.Hid (ABo w0.heap.size b rb 0 (fun _ => False) ⟨2, X, 0, []⟩ w2) := Lib.hid
    ⟨_, _, _, _, by rw [HBB.out]; exact M1.out.up hb2, by rw [hrb]; exact hR2, fun j h1 h2 => by
      have h3 := (M1.out.own_lt (by rw [← HBB.out]; exact h1)).2
      have h4 := (hR2.own_lt (by rw [← hrb]; exact h2)).1
      omega, Nat.le_refl _, T1.out.size, fun _ h => h.elim⟩
  have B2 : RowKit.Hid (Below w0.heap.size w0 w2) := Lib.hid (T1.out.trans (hb2.mono T1.out.size))
  rw [← hrb]
  clear hR2 hb2 hrb M1 T1 hX
  go_wp2_with fail
  go_loopw [8] (fun i wr => ∃ k : Nat, k ≤ L.length ∧ k ≤ 60 ∧ i = .int .i64 k ∧ ∃ s, ABo w0.heap.size b rb k (fun _ => False) s wr ∧ Below w0.heap.size w0 wr) (fun i _ => 60 - (intOf i).toNat)
  case atStart => exact ⟨0, Nat.zero_le _, by omega, rfl, _, BO.out, B2.out⟩
  case round =>
    obtain ⟨k, hk, hk6, rfl, s, hBo, hb⟩ := hrel
    have BO := Lib.hid hBo
    have BB := Lib.hid hb
    clear hBo hb B2
    by_cases hgo : k < L.length ∧ k < 60
    · obtain ⟨hlt, h6⟩ := hgo
      obtain ⟨ba, oa, rfl, hbal, hact⟩ := (HA.out.below BB.out (Nat.le_refl _)).get k hlt
      obtain ⟨c, hc⟩ : ∃ c, c = L[k] := ⟨_, rfl⟩
      rw [← hc] at hact
      have AC := Lib.hid hact
      obtain ⟨a0, a1, a2, a3, a4, a5⟩ := hact
      clear hc
      go_wp2_with fail
      refine (mod_any c.r 6 _ (by omega) (by omega)).mono ?_
      rintro e w3 ⟨rfl, rfl⟩
      obtain ⟨R, hR⟩ : ∃ R, R = c.r % 6 := ⟨_, rfl⟩
      have HR : RowKit.Hid (I64 R) := Lib.hid ⟨by omega, by omega⟩
      rw [← hR]
      clear hR
      go_wp2_with fail
      refine (mod_any c.k 5 _ (by omega) (by omega)).mono ?_
      rintro e w3 ⟨rfl, rfl⟩
      obtain ⟨K, hK⟩ : ∃ K, K = c.k % 5 := ⟨_, rfl⟩
      rw [← hK]
      clear hK
      by_cases hK0 : K = 0
      · subst hK0
        go_wp2_with fail
        refine (mod_any c.v 5 _ (by omega) (by omega)).mono ?_
        rintro e w3 ⟨rfl, rfl⟩
        obtain ⟨T, hT⟩ : ∃ T, T = c.v % 5 := ⟨_, rfl⟩
        have HT : RowKit.Hid (I64 T) := Lib.hid ⟨by omega, by omega⟩
        rw [← hT]
        clear hT a0 a1 a2 a3 a4 a5
        go_wp2_with fail
        refine (BO.out.ask (by omega) R T HR.out HT.out).mono ?_
        rintro e w5 ⟨v1, rfl, hm1, hC1⟩
        have Q1 := Lib.hid (hm1.ask (by omega) HR.out HT.out)
        obtain ⟨E, hE⟩ : ∃ E, E = (s.ask R T).2 := ⟨_, rfl⟩
        rw [← hE] at Q1 ⊢
        clear hm1 hE
        go_wp2_with fail
        refine Q1.out.mono ?_
        rintro e w6 ⟨v2, rfl, hT2, hC2⟩
        clear Q1
        have HTT := Lib.hid (And.intro hT2 (And.intro hC1 hC2))
        clear hT2 hC1 hC2
        go_wp2_with fail
        obtain ⟨hT2, hC1, hC2⟩ := HTT.out
        refine (hT2.same (Nat.le_trans (Asr.ask_len s R T) (by omega))).mono ?_
        rintro e w9 ⟨rfl, hb9⟩
        have BO9 := Lib.hid (hT2.1.up hb9)
        have B9 : RowKit.Hid (Below w0.heap.size w0 w9) := Lib.hid (((BB.out.trans (hC1.below BB.out.size fun j hj => hj.1)).trans (hC2.below (Nat.le_trans BB.out.size hC1.size) fun j hj => hj.1)).trans (hb9.mono (Nat.le_trans (Nat.le_trans BB.out.size hC1.size) hC2.size)))
        clear hT2 hC1 hC2 hb9
        obtain ⟨s1, hs1⟩ : ∃ s1, s1 = (s.ask R T).1.1 := ⟨_, rfl⟩
        rw [← hs1] at BO9
        clear hs1 HTT
        go_wp2_with fail
        refine (BO9.out.state R HR.out).mono ?_
        rintro e w10 ⟨rfl, rfl⟩
        go_wp2_with fail
        refine (BO9.out.rstate R).mono ?_
        rintro e w11 ⟨rfl, rfl⟩
        obtain ⟨st9, hst9⟩ : ∃ x, x = s1.state R := ⟨_, rfl⟩
        rw [← hst9]
        clear hst9
        go_wp2_with fail
        refine BO9.out.here.mono ?_
        rintro e w12 ⟨v3, rfl, hr3, hb3⟩
        have Q3 := Lib.hid hr3
        have BO12 := Lib.hid (BO9.out.up hb3)
        have B12 : RowKit.Hid (Below w0.heap.size w0 w12) := Lib.hid (B9.out.trans (hb3.mono B9.out.size))
        clear hr3 hb3
        go_wp2_with fail
        refine BO12.out.rhere.mono ?_
        rintro e w13 ⟨v4, rfl, hr4, hb4⟩
        have IS := Lib.hid (isame_any v3 v4 s1.here w13 ((Tn.of_below (F := fun _ => False) hb4).row Q3.out fun _ _ => id) hr4 (by have := BO12.out.len.2; omega))
        have BO13 := Lib.hid (BO12.out.up hb4)
        have B13 : RowKit.Hid (Below w0.heap.size w0 w13) := Lib.hid (B12.out.trans (hb4.mono B12.out.size))
        clear hr4 hb4
        go_wp2_with fail
        refine IS.out.mono ?_
        rintro e w14 ⟨rfl, hb5⟩
        have BO14 := Lib.hid (BO13.out.up hb5)
        have B14 : RowKit.Hid (Below w0.heap.size w0 w14) := Lib.hid (B13.out.trans (hb5.mono B13.out.size))
        clear hb5 IS
        go_wp2_with fail
        exact ⟨⟨k + 1, hlt, h6, by go_num, s1, BO14.out, B14.out⟩, by simp [intOf]; omega⟩
      · by_cases hK1 : K = 1
        · subst hK1
          clear hK0 a0 a1 a2 a3 a4 a5
          go_wp2_with fail
          refine (BO.out.ret (by omega) R HR.out).mono ?_
          rintro e w5 ⟨v1, rfl, hm1, hC1⟩
          have Q1 := Lib.hid (hm1.ret (by omega))
          obtain ⟨E, hE⟩ : ∃ E, E = (s.ret R).2 := ⟨_, rfl⟩
          rw [← hE] at Q1 ⊢
          clear hm1 hE
          go_wp2_with fail
          refine Q1.out.mono ?_
          rintro e w6 ⟨v2, rfl, hT2, hC2⟩
          clear Q1
          have HTT := Lib.hid (And.intro hT2 (And.intro hC1 hC2))
          clear hT2 hC1 hC2
          go_wp2_with fail
          obtain ⟨hT2, hC1, hC2⟩ := HTT.out
          refine (hT2.same (Nat.le_trans (Asr.ret_len s R) (by omega))).mono ?_
          rintro e w9 ⟨rfl, hb9⟩
          have BO9 := Lib.hid (hT2.1.up hb9)
          have B9 : RowKit.Hid (Below w0.heap.size w0 w9) := Lib.hid (((BB.out.trans (hC1.below BB.out.size fun j hj => hj.1)).trans (hC2.below (Nat.le_trans BB.out.size hC1.size) fun j hj => hj.1)).trans (hb9.mono (Nat.le_trans (Nat.le_trans BB.out.size hC1.size) hC2.size)))
          clear hT2 hC1 hC2 hb9
          obtain ⟨s1, hs1⟩ : ∃ s1, s1 = (s.ret R).1.1 := ⟨_, rfl⟩
          rw [← hs1] at BO9
          clear hs1 HTT
          go_wp2_with fail
          refine (BO9.out.state R HR.out).mono ?_
          rintro e w10 ⟨rfl, rfl⟩
          go_wp2_with fail
          refine (BO9.out.rstate R).mono ?_
          rintro e w11 ⟨rfl, rfl⟩
          obtain ⟨st9, hst9⟩ : ∃ x, x = s1.state R := ⟨_, rfl⟩
          rw [← hst9]
          clear hst9
          go_wp2_with fail
          refine BO9.out.here.mono ?_
          rintro e w12 ⟨v3, rfl, hr3, hb3⟩
          have Q3 := Lib.hid hr3
          have BO12 := Lib.hid (BO9.out.up hb3)
          have B12 : RowKit.Hid (Below w0.heap.size w0 w12) := Lib.hid (B9.out.trans (hb3.mono B9.out.size))
          clear hr3 hb3
          go_wp2_with fail
          refine BO12.out.rhere.mono ?_
          rintro e w13 ⟨v4, rfl, hr4, hb4⟩
          have IS := Lib.hid (isame_any v3 v4 s1.here w13 ((Tn.of_below (F := fun _ => False) hb4).row Q3.out fun _ _ => id) hr4 (by have := BO12.out.len.2; omega))
          have BO13 := Lib.hid (BO12.out.up hb4)
          have B13 : RowKit.Hid (Below w0.heap.size w0 w13) := Lib.hid (B12.out.trans (hb4.mono B12.out.size))
          clear hr4 hb4
          go_wp2_with fail
          refine IS.out.mono ?_
          rintro e w14 ⟨rfl, hb5⟩
          have BO14 := Lib.hid (BO13.out.up hb5)
          have B14 : RowKit.Hid (Below w0.heap.size w0 w14) := Lib.hid (B13.out.trans (hb5.mono B13.out.size))
          clear hb5 IS
          go_wp2_with fail
          exact ⟨⟨k + 1, hlt, h6, by go_num, s1, BO14.out, B14.out⟩, by simp [intOf]; omega⟩
        · by_cases hK2 : K = 2
          · subst hK2
            clear hK0 hK1 a0 a1 a2 a3 a4 a5
            go_wp2_with fail
            refine (BO.out.tick (by omega)).mono ?_
            rintro e w5 ⟨v1, rfl, hm1, hC1⟩
            have Q1 := Lib.hid (hm1.tick (by omega))
            clear hm1
            go_wp2_with fail
            refine Q1.out.mono ?_
            rintro e w6 ⟨v2, rfl, hT2, hC2⟩
            clear Q1
            have HTT := Lib.hid (And.intro hT2 (And.intro hC1 hC2))
            clear hT2 hC1 hC2
            go_wp2_with fail
            obtain ⟨hT2, hC1, hC2⟩ := HTT.out
            refine (hT2.same (Nat.le_trans (Asr.tick_len s) (Nat.le_trans BO.out.len.1 (by omega)))).mono ?_
            rintro e w9 ⟨rfl, hb9⟩
            have BO9 := Lib.hid (hT2.1.up hb9)
            have B9 : RowKit.Hid (Below w0.heap.size w0 w9) := Lib.hid (((BB.out.trans (hC1.below BB.out.size fun j hj => hj.1)).trans (hC2.below (Nat.le_trans BB.out.size hC1.size) fun j hj => hj.1)).trans (hb9.mono (Nat.le_trans (Nat.le_trans BB.out.size hC1.size) hC2.size)))
            clear hT2 hC1 hC2 hb9
            obtain ⟨s1, hs1⟩ : ∃ s1, s1 = s.tick.1 := ⟨_, rfl⟩
            rw [← hs1] at BO9
            clear hs1 HTT
            go_wp2_with fail
            refine (BO9.out.state R HR.out).mono ?_
            rintro e w10 ⟨rfl, rfl⟩
            go_wp2_with fail
            refine (BO9.out.rstate R).mono ?_
            rintro e w11 ⟨rfl, rfl⟩
            obtain ⟨st9, hst9⟩ : ∃ x, x = s1.state R := ⟨_, rfl⟩
            rw [← hst9]
            clear hst9
            go_wp2_with fail
            refine BO9.out.here.mono ?_
            rintro e w12 ⟨v3, rfl, hr3, hb3⟩
            have Q3 := Lib.hid hr3
            have BO12 := Lib.hid (BO9.out.up hb3)
            have B12 : RowKit.Hid (Below w0.heap.size w0 w12) := Lib.hid (B9.out.trans (hb3.mono B9.out.size))
            clear hr3 hb3
            go_wp2_with fail
            refine BO12.out.rhere.mono ?_
            rintro e w13 ⟨v4, rfl, hr4, hb4⟩
            have IS := Lib.hid (isame_any v3 v4 s1.here w13 ((Tn.of_below (F := fun _ => False) hb4).row Q3.out fun _ _ => id) hr4 (by have := BO12.out.len.2; omega))
            have BO13 := Lib.hid (BO12.out.up hb4)
            have B13 : RowKit.Hid (Below w0.heap.size w0 w13) := Lib.hid (B12.out.trans (hb4.mono B12.out.size))
            clear hr4 hb4
            go_wp2_with fail
            refine IS.out.mono ?_
            rintro e w14 ⟨rfl, hb5⟩
            have BO14 := Lib.hid (BO13.out.up hb5)
            have B14 : RowKit.Hid (Below w0.heap.size w0 w14) := Lib.hid (B13.out.trans (hb5.mono B13.out.size))
            clear hb5 IS
            go_wp2_with fail
            exact ⟨⟨k + 1, hlt, h6, by go_num, s1, BO14.out, B14.out⟩, by simp [intOf]; omega⟩
          · have e0 : (K == 0) = false := by simpa using hK0
            have e1 : (K == 1) = false := by simpa using hK1
            have e2 : (K == 2) = false := by simpa using hK2
            clear hK0 hK1 hK2
            go_wp2_with fail
            refine (message_any c.k c.f c.t c.a c.r c.v 2 _ ⟨by omega, by omega⟩).mono ?_
            rintro e w4 ⟨m, rfl, hmt, hmf, hb4⟩
            have NB : RowKit.Hid (Blk (w4.alloc (.cells #[i64 0, i64 0, i64 0, .string { data := #[] }] 31)) w4.heap.size #[i64 0, i64 0, i64 0, .string { data := #[] }] 31) := Lib.hid (Blk.new _ _ _)
            obtain ⟨w5, hw5⟩ : ∃ w5, w5 = (w4.alloc (.cells #[i64 0, i64 0, i64 0, .string { data := #[] }] 31)).setRow w4.heap.size (encM m) := ⟨_, rfl⟩
            have K5 : Below w4.heap.size w4 w5 := by rw [hw5]; exact belowS ((Below.refl _ _).alloc (Nat.le_refl _) _) (Nat.le_refl _)
            obtain ⟨vb, hvb⟩ : ∃ vb, vb = w4.heap.size := ⟨_, rfl⟩
            have V5 : RowKit.Hid (Blk w5 vb (encM m) 31) := Lib.hid (by rw [hw5, hvb]; exact setRow_heap _ _ _ _ _ _ NB.out)
            have BO5 : RowKit.Hid (ABo w0.heap.size b rb k (fun j => j = vb) s w5) := Lib.hid ((BO.out.up hb4).new K5 (Nat.le_of_eq hvb.symm) V5.out.lt)
            have B5 : RowKit.Hid (Below w0.heap.size w0 w5) := Lib.hid ((BB.out.trans (hb4.mono BB.out.size)).trans (K5.mono (Nat.le_trans BB.out.size hb4.size)))
            have A5 : RowKit.Hid (Act6At w5 ba (oa + k * 6) c) := Lib.hid ((AC.out.below hb4 hbal).below K5 (Nat.lt_of_lt_of_le hbal hb4.size))
            have hba5 : ba < w5.heap.size := Nat.lt_of_lt_of_le hbal (Nat.le_trans hb4.size K5.size)
            have HZ4 : RowKit.Hid (w0.heap.size ≤ vb) := Lib.hid (by rw [hvb]; exact Nat.le_trans BB.out.size hb4.size)
            have HW5 := Lib.hid hw5
            have HVB := Lib.hid hvb
            have HMT := Lib.hid hmt
            clear hb4 hmt hmf K5 hw5 hvb a0 a1 a2 a3 a4 a5 hbal BO BB
            obtain ⟨a0, a1, a2, a3, a4, a5⟩ := A5.out
            by_cases h3 : (c.v.tmod 3 != 0) = true
            · go_wp2_with (refine wpList_store_row rfl 31 (.tmp 19) (.tmp 55) rfl w4.heap.size (encM m) rfl rfl 31 _ NB.out (enc_inf m) rfl (enc_all m) ?_; rw [← HW5.out, ← HVB.out])
              refine (BO5.out.expected c).mono ?_
              rintro e w6 ⟨m8, rfl, hmt8, hb6⟩
              have HMT8 := Lib.hid hmt8
              have V6 := Lib.hid (V5.out.below hb6 V5.out.lt)
              obtain ⟨w8, hw8⟩ : ∃ w8, w8 = w6.setRow vb (encM m8) := ⟨_, rfl⟩
              have T8 : Tn (fun j => j = vb) w6 w8 := by rw [hw8]; exact tnRow _ _ _
              have V8 : RowKit.Hid (Blk w8 vb (encM m8) 31) := Lib.hid (by rw [hw8]; exact setRow_heap _ _ _ _ _ _ V6.out)
              have BO8 := Lib.hid ((BO5.out.up hb6).set T8)
              have B8 : RowKit.Hid (Below w0.heap.size w0 w8) := Lib.hid ((B5.out.trans (hb6.mono B5.out.size)).trans (T8.below (Nat.le_trans B5.out.size hb6.size) fun j hj => by rw [hj]; exact HZ4.out))
              have HT8 : RowKit.Hid (m8.text.length ≤ 1000) := Lib.hid (by have := HMT8.out; omega)
              have HW8 := Lib.hid hw8
              clear hb6 hmt8 T8 hw8 BO5 B5 V5 A5 a0 a1 a2 a3 a4 a5 h3 NB HW5
              go_wp2_with (refine wpList_store_row rfl 31 (.tmp 19) (.tmp 68) rfl vb (encM m8) rfl rfl 31 _ V6.out (enc_inf m8) rfl (enc_all m8) ?_; rw [← HW8.out])
              clear HW8 V6
              obtain ⟨S, hS⟩ : ∃ S : World → Prop, S = fun W => Blk W vb (encM m8) 31 := ⟨_, rfl⟩
              have LB : RowKit.Hid (∀ W, S W → Blk W vb (encM m8) 31) := Lib.hid (by rw [hS]; exact fun W h => h)
              have UU : RowKit.Hid (∀ W, Blk W vb (encM m8) 31 → S W) := Lib.hid (by rw [hS]; exact fun W h => h)
              have hHeld : S w8.drew := UU.out _ V8.out.drew
              clear hS
              refine wp_region_held_drew (S := S) (by kernel_rfl) hHeld (fun _ => ?_)
              apply wpAnyH_apartVV (fun _ W => ABo w0.heap.size b rb (k + 1) (fun _ => False) (s.take m8).1 W ∧ Below w0.heap.size w0 W)
              case take =>
                intro R0 hR0
                refine wpAnyH_take (i := 0) (v := ?_) rfl (by kernel_rfl) (by kernel_rfl) (by kernel_rfl) (fun _ _ _ h => only_panic h) (Or.inl ⟨by rfl, ?_⟩) hHeld ?_
                rotate_left
                · (intro w hSw; clear hSw; go_simp; try (with_reducible rfl))
                try simp only [List.getElem_toArray, List.getElem_cons_succ, List.getElem_cons_zero, Act.put, List.setIfInBounds_toArray, List.set_cons_zero, List.set_cons_succ]
                refine wpAnyH_take (i := 3) (v := ?_) rfl (by kernel_rfl) (by kernel_rfl) (by kernel_rfl) (fun _ _ _ h => only_panic h) (Or.inl ⟨by rfl, ?_⟩) hHeld ?_
                rotate_left
                · (intro w hSw; clear hSw; go_simp; try (with_reducible rfl))
                try simp only [List.getElem_toArray, List.getElem_cons_succ, List.getElem_cons_zero, Act.put, List.setIfInBounds_toArray, List.set_cons_zero, List.set_cons_succ]
                refine wpAnyH_take (i := 1) (v := .agg (encM m8)) rfl (by kernel_rfl) (by kernel_rfl) (by kernel_rfl) (fun _ _ _ h => only_panic h) ?_ hHeld ?_
                · exact yields_row (.tmp 19) (by rfl) rfl rfl LB.out Try.underlying31 rfl (enc_inf m8)
                try simp only [List.getElem_toArray, List.getElem_cons_succ, List.getElem_cons_zero, Act.put, List.setIfInBounds_toArray, List.set_cons_zero, List.set_cons_succ]
                refine wpAnyH_take (i := 4) (v := .agg (encM m8)) rfl (by kernel_rfl) (by kernel_rfl) (by kernel_rfl) (fun _ _ _ h => only_panic h) ?_ hHeld ?_
                · exact yields_row (.tmp 19) (by rfl) rfl rfl LB.out Try.underlying31 rfl (enc_inf m8)
                try simp only [List.getElem_toArray, List.getElem_cons_succ, List.getElem_cons_zero, Act.put, List.setIfInBounds_toArray, List.set_cons_zero, List.set_cons_succ]
                refine wpAnyH_one (i := 2) rfl (by kernel_rfl) (by rfl) ?_
                go_simp
                refine ((BO8.out.up (Below.refl w8.heap.size w8).drew).take (by omega) m8 (by have := HT8.out; omega)).mono ?_
                rintro e W1 ⟨v1, rfl, hm1, hC1⟩
                have hHeld := UU.out _ (hC1.blk V8.out.drew (by simp))
                refine ⟨hHeld, ?_⟩
                refine wpAnyH_one (i := 5) rfl (by kernel_rfl) (by rfl) ?_
                go_simp
                refine (hm1.take (by omega) (by have := HT8.out; omega)).mono ?_
                rintro e W2 ⟨v2, rfl, hm2, hC2⟩
                have hHeld := UU.out _ (hC2.blk (LB.out _ hHeld) (by simp))
                refine ⟨hHeld, ?_⟩
                refine wpAnyH_one (i := 6) rfl (by kernel_rfl) (by rfl) ?_
                go_simp
                refine (hm2.same (Nat.le_trans (Asr.take_len s m8) (by omega))).mono ?_
                rintro e W3 ⟨rfl, hb3⟩
                have hHeld := UU.out _ ((LB.out _ hHeld).below hb3 (LB.out _ hHeld).lt)
                have hz1 : w8.heap.size ≤ W1.heap.size := hC1.size
                have FB : RowKit.Hid (ABo w0.heap.size b rb (k + 1) (fun _ => False) (s.take m8).1 W3 ∧ Below w0.heap.size w0 W3) := Lib.hid ⟨(hm2.1.up hb3).weak fun _ h => h.elim,
                  ((B8.out.trans ((((Below.refl w8.heap.size w8).drew).mono B8.out.size).trans (hC1.below (B := w0.heap.size) B8.out.size fun j hj => hj.1))).trans (hC2.below (Nat.le_trans B8.out.size hz1) fun j hj => hj.1)).trans (hb3.mono (Nat.le_trans (Nat.le_trans B8.out.size hz1) hC2.size))⟩
                clear hm1 hm2 hC1 hC2 hb3 hz1
                refine ⟨hHeld, ?_⟩
                refine wpAnyH_take (i := 7) (v := ?_) rfl (by kernel_rfl) (by kernel_rfl) (by kernel_rfl) (fun _ _ _ h => only_panic h) (Or.inl ⟨by rfl, ?_⟩) hHeld ?_
                rotate_left
                · (intro w hSw; clear hSw; go_simp; try (with_reducible rfl))
                try simp only [List.getElem_toArray, List.getElem_cons_succ, List.getElem_cons_zero, Act.put, List.setIfInBounds_toArray, List.set_cons_zero, List.set_cons_succ]
                exact wpAnyH_done (by kernel_rfl) ⟨rfl, hR0 v1 v2 _ FB.out⟩ _
              case rest =>
                rintro x y w9 ⟨hA, hb⟩
                have BO9 := Lib.hid hA
                have B9 := Lib.hid hb
                clear hA hb
                obtain ⟨s1, hs1⟩ : ∃ s1, s1 = (s.take m8).1 := ⟨_, rfl⟩
                rw [← hs1] at BO9
                clear hs1
                go_wp2_with fail
                refine (BO9.out.state R HR.out).mono ?_
                rintro e w10 ⟨rfl, rfl⟩
                go_wp2_with fail
                refine (BO9.out.rstate R).mono ?_
                rintro e w11 ⟨rfl, rfl⟩
                obtain ⟨st9, hst9⟩ : ∃ x, x = s1.state R := ⟨_, rfl⟩
                rw [← hst9]
                clear hst9
                go_wp2_with fail
                refine BO9.out.here.mono ?_
                rintro e w12 ⟨v3, rfl, hr3, hb3⟩
                have Q3 := Lib.hid hr3
                have BO12 := Lib.hid (BO9.out.up hb3)
                have B12 : RowKit.Hid (Below w0.heap.size w0 w12) := Lib.hid (B9.out.trans (hb3.mono B9.out.size))
                clear hr3 hb3
                go_wp2_with fail
                refine BO12.out.rhere.mono ?_
                rintro e w13 ⟨v4, rfl, hr4, hb4⟩
                have IS := Lib.hid (isame_any v3 v4 s1.here w13 ((Tn.of_below (F := fun _ => False) hb4).row Q3.out fun _ _ => id) hr4 (by have := BO12.out.len.2; omega))
                have BO13 := Lib.hid (BO12.out.up hb4)
                have B13 : RowKit.Hid (Below w0.heap.size w0 w13) := Lib.hid (B12.out.trans (hb4.mono B12.out.size))
                clear hr4 hb4
                go_wp2_with fail
                refine IS.out.mono ?_
                rintro e w14 ⟨rfl, hb5⟩
                have BO14 := Lib.hid (BO13.out.up hb5)
                have B14 : RowKit.Hid (Below w0.heap.size w0 w14) := Lib.hid (B13.out.trans (hb5.mono B13.out.size))
                clear hb5 IS
                go_wp2_with fail
                exact ⟨⟨k + 1, hlt, h6, by go_num, s1, BO14.out, B14.out⟩, by simp [intOf]; omega⟩
            · have h3 : (c.v.tmod 3 != 0) = false := by simpa using h3
              go_wp2_with (refine wpList_store_row rfl 31 (.tmp 19) (.tmp 55) rfl w4.heap.size (encM m) rfl rfl 31 _ NB.out (enc_inf m) rfl (enc_all m) ?_; rw [← HW5.out, ← HVB.out])
              obtain ⟨m8, hm8⟩ : ∃ m8, m8 = m := ⟨_, rfl⟩
              obtain ⟨w8, hw8⟩ : ∃ w8, w8 = w5 := ⟨_, rfl⟩
              have HT8 : RowKit.Hid (m.text.length ≤ 1000) := Lib.hid (Nat.le_trans HMT.out (by omega))
              rw [← hm8] at V5 HT8
              rw [← hw8] at V5 BO5 B5 ⊢
              have V8 := V5
              have BO8 := BO5
              have B8 := B5
              clear hm8 hw8 V5 BO5 B5 A5 a0 a1 a2 a3 a4 a5 h3 NB HW5
              obtain ⟨S, hS⟩ : ∃ S : World → Prop, S = fun W => Blk W vb (encM m8) 31 := ⟨_, rfl⟩
              have LB : RowKit.Hid (∀ W, S W → Blk W vb (encM m8) 31) := Lib.hid (by rw [hS]; exact fun W h => h)
              have UU : RowKit.Hid (∀ W, Blk W vb (encM m8) 31 → S W) := Lib.hid (by rw [hS]; exact fun W h => h)
              have hHeld : S w8.drew := UU.out _ V8.out.drew
              clear hS
              refine wp_region_held_drew (S := S) (by kernel_rfl) hHeld (fun _ => ?_)
              apply wpAnyH_apartVV (fun _ W => ABo w0.heap.size b rb (k + 1) (fun _ => False) (s.take m8).1 W ∧ Below w0.heap.size w0 W)
              case take =>
                intro R0 hR0
                refine wpAnyH_take (i := 0) (v := ?_) rfl (by kernel_rfl) (by kernel_rfl) (by kernel_rfl) (fun _ _ _ h => only_panic h) (Or.inl ⟨by rfl, ?_⟩) hHeld ?_
                rotate_left
                · (intro w hSw; clear hSw; go_simp; try (with_reducible rfl))
                try simp only [List.getElem_toArray, List.getElem_cons_succ, List.getElem_cons_zero, Act.put, List.setIfInBounds_toArray, List.set_cons_zero, List.set_cons_succ]
                refine wpAnyH_take (i := 3) (v := ?_) rfl (by kernel_rfl) (by kernel_rfl) (by kernel_rfl) (fun _ _ _ h => only_panic h) (Or.inl ⟨by rfl, ?_⟩) hHeld ?_
                rotate_left
                · (intro w hSw; clear hSw; go_simp; try (with_reducible rfl))
                try simp only [List.getElem_toArray, List.getElem_cons_succ, List.getElem_cons_zero, Act.put, List.setIfInBounds_toArray, List.set_cons_zero, List.set_cons_succ]
                refine wpAnyH_take (i := 1) (v := .agg (encM m8)) rfl (by kernel_rfl) (by kernel_rfl) (by kernel_rfl) (fun _ _ _ h => only_panic h) ?_ hHeld ?_
                · exact yields_row (.tmp 19) (by rfl) rfl rfl LB.out Try.underlying31 rfl (enc_inf m8)
                try simp only [List.getElem_toArray, List.getElem_cons_succ, List.getElem_cons_zero, Act.put, List.setIfInBounds_toArray, List.set_cons_zero, List.set_cons_succ]
                refine wpAnyH_take (i := 4) (v := .agg (encM m8)) rfl (by kernel_rfl) (by kernel_rfl) (by kernel_rfl) (fun _ _ _ h => only_panic h) ?_ hHeld ?_
                · exact yields_row (.tmp 19) (by rfl) rfl rfl LB.out Try.underlying31 rfl (enc_inf m8)
                try simp only [List.getElem_toArray, List.getElem_cons_succ, List.getElem_cons_zero, Act.put, List.setIfInBounds_toArray, List.set_cons_zero, List.set_cons_succ]
                refine wpAnyH_one (i := 2) rfl (by kernel_rfl) (by rfl) ?_
                go_simp
                refine ((BO8.out.up (Below.refl w8.heap.size w8).drew).take (by omega) m8 (by have := HT8.out; omega)).mono ?_
                rintro e W1 ⟨v1, rfl, hm1, hC1⟩
                have hHeld := UU.out _ (hC1.blk V8.out.drew (by simp))
                refine ⟨hHeld, ?_⟩
                refine wpAnyH_one (i := 5) rfl (by kernel_rfl) (by rfl) ?_
                go_simp
                refine (hm1.take (by omega) (by have := HT8.out; omega)).mono ?_
                rintro e W2 ⟨v2, rfl, hm2, hC2⟩
                have hHeld := UU.out _ (hC2.blk (LB.out _ hHeld) (by simp))
                refine ⟨hHeld, ?_⟩
                refine wpAnyH_one (i := 6) rfl (by kernel_rfl) (by rfl) ?_
                go_simp
                refine (hm2.same (Nat.le_trans (Asr.take_len s m8) (by omega))).mono ?_
                rintro e W3 ⟨rfl, hb3⟩
                have hHeld := UU.out _ ((LB.out _ hHeld).below hb3 (LB.out _ hHeld).lt)
                have hz1 : w8.heap.size ≤ W1.heap.size := hC1.size
                have FB : RowKit.Hid (ABo w0.heap.size b rb (k + 1) (fun _ => False) (s.take m8).1 W3 ∧ Below w0.heap.size w0 W3) := Lib.hid ⟨(hm2.1.up hb3).weak fun _ h => h.elim,
                  ((B8.out.trans ((((Below.refl w8.heap.size w8).drew).mono B8.out.size).trans (hC1.below (B := w0.heap.size) B8.out.size fun j hj => hj.1))).trans (hC2.below (Nat.le_trans B8.out.size hz1) fun j hj => hj.1)).trans (hb3.mono (Nat.le_trans (Nat.le_trans B8.out.size hz1) hC2.size))⟩
                clear hm1 hm2 hC1 hC2 hb3 hz1
                refine ⟨hHeld, ?_⟩
                refine wpAnyH_take (i := 7) (v := ?_) rfl (by kernel_rfl) (by kernel_rfl) (by kernel_rfl) (fun _ _ _ h => only_panic h) (Or.inl ⟨by rfl, ?_⟩) hHeld ?_
                rotate_left
                · (intro w hSw; clear hSw; go_simp; try (with_reducible rfl))
                try simp only [List.getElem_toArray, List.getElem_cons_succ, List.getElem_cons_zero, Act.put, List.setIfInBounds_toArray, List.set_cons_zero, List.set_cons_succ]
                exact wpAnyH_done (by kernel_rfl) ⟨rfl, hR0 v1 v2 _ FB.out⟩ _
              case rest =>
                rintro x y w9 ⟨hA, hb⟩
                have BO9 := Lib.hid hA
                have B9 := Lib.hid hb
                clear hA hb
                obtain ⟨s1, hs1⟩ : ∃ s1, s1 = (s.take m8).1 := ⟨_, rfl⟩
                rw [← hs1] at BO9
                clear hs1
                go_wp2_with fail
                refine (BO9.out.state R HR.out).mono ?_
                rintro e w10 ⟨rfl, rfl⟩
                go_wp2_with fail
                refine (BO9.out.rstate R).mono ?_
                rintro e w11 ⟨rfl, rfl⟩
                obtain ⟨st9, hst9⟩ : ∃ x, x = s1.state R := ⟨_, rfl⟩
                rw [← hst9]
                clear hst9
                go_wp2_with fail
                refine BO9.out.here.mono ?_
                rintro e w12 ⟨v3, rfl, hr3, hb3⟩
                have Q3 := Lib.hid hr3
                have BO12 := Lib.hid (BO9.out.up hb3)
                have B12 : RowKit.Hid (Below w0.heap.size w0 w12) := Lib.hid (B9.out.trans (hb3.mono B9.out.size))
                clear hr3 hb3
                go_wp2_with fail
                refine BO12.out.rhere.mono ?_
                rintro e w13 ⟨v4, rfl, hr4, hb4⟩
                have IS := Lib.hid (isame_any v3 v4 s1.here w13 ((Tn.of_below (F := fun _ => False) hb4).row Q3.out fun _ _ => id) hr4 (by have := BO12.out.len.2; omega))
                have BO13 := Lib.hid (BO12.out.up hb4)
                have B13 : RowKit.Hid (Below w0.heap.size w0 w13) := Lib.hid (B12.out.trans (hb4.mono B12.out.size))
                clear hr4 hb4
                go_wp2_with fail
                refine IS.out.mono ?_
                rintro e w14 ⟨rfl, hb5⟩
                have BO14 := Lib.hid (BO13.out.up hb5)
                have B14 : RowKit.Hid (Below w0.heap.size w0 w14) := Lib.hid (B13.out.trans (hb5.mono B13.out.size))
                clear hb5 IS
                go_wp2_with fail
                exact ⟨⟨k + 1, hlt, h6, by go_num, s1, BO14.out, B14.out⟩, by simp [intOf]; omega⟩
    · have hend : k = L.length ∨ (k < L.length ∧ k = 60) := by omega
      have FZ : RowKit.Hid (Below w.heap.size w wr) := Lib.hid (B0.out.trans (BB.out.mono B0.out.size))
      clear hgo
      rcases hend with rfl | ⟨hlt, rfl⟩
      · go_wp2_with fail
        go_ret
        exact ⟨rfl, FZ.out⟩
      · go_wp2_with fail
        go_ret
        exact ⟨rfl, FZ.out⟩
end Go.Proofs.Ytdojgbpaheadnaa
