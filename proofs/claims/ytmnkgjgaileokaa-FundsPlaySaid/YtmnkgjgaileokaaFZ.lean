/- The walks of FundsPlay and FundsAny. -/
import Derived.Test.YtmnkgjgaileokaaRM
namespace Go.Proofs.Ytmnkgjgaileokaa
open Go.RowKit

set_option maxRecDepth 100000 in
set_option maxHeartbeats 4000000 in
theorem playLaw (L : List Act4) (a : Option Addr) (cap : Nat) (w : World) (h : InA w a L cap) :
    Calls Try.prog 6 #[.slice a L.length cap] w fun r w' => r = .returned (.bool true) ∧ Below w.heap.size w w' := by
  have hcap := h.cap
  have hlen := h.len
  have HI0 := Lib.hid h
  clear h
  go_enter Try.func6, Try.ntmps6
  go_wp2_with fail
  refine (sanity_any w).mono ?_
  rintro e w0 ⟨rfl, hb0⟩
  have HI := Lib.hid (HI0.out.below hb0 (Nat.le_refl _))
  have HB0 := Lib.hid hb0
  clear hb0 HI0
  go_wp2_with fail
  refine (new_any w0).mono ?_
  rintro e w1 ⟨rfl, hM, hw⟩
  have S0 := Lib.hid (St.start hM hw)
  clear hM hw
  generalize FS.new w0.heap.size = s0 at *
  go_wp2_with fail
  refine (rnew_any w1).mono ?_
  rintro e w2 ⟨rfl, hR, hb⟩
  have T0 := Lib.hid (Both.start S0.out hR hb)
  clear hR hb S0
  obtain ⟨rb, hrb⟩ : ∃ rb, rb = w1.heap.size := ⟨_, rfl⟩
  rw [← hrb] at T0 ⊢
  clear hrb
  go_wp2_with fail
  go_loopw [6] (fun i wr => ∃ k : Nat, k ≤ L.length ∧ k ≤ 60 ∧ i = .int .i64 k ∧ ∃ s v sl, Both w0 w0.heap.size wr s v v rb sl ∧ Run L k v) (fun i _ => 60 - (intOf i).toNat)
  case atStart => exact ⟨0, by omega, by omega, rfl, s0, q0, _, T0.out, run0 L⟩
  case round =>
    obtain ⟨k, hk, hk6, rfl, s, v, sl, hS, hR⟩ := hrel
    have S := Lib.hid hS
    have R := Lib.hid hR
    clear hS hR T0
    have fin : ∀ wr', Below w0.heap.size w0 wr' → Below w.heap.size w wr' := fun wr' hb => HB0.out.trans (hb.mono HB0.out.size)
    have FIN := Lib.hid fin
    clear fin
    by_cases hgo : k < L.length ∧ k < 60
    · obtain ⟨hlt, h6⟩ := hgo
      obtain ⟨b, o, rfl, hA⟩ := HI.out.get k hlt
      have hA' := hA.below S.out.st.below (by
        rcases HI.out.at_ with h1 | ⟨b', o', h1, h2, h3⟩
        · subst h1; simp at hlt
        · cases h1; exact h2)
      have hin : In64 L[k] := HI.out.in_ _ (List.getElem_mem hlt)
      have HN := Lib.hid hin
      obtain ⟨c, hc⟩ : ∃ c, c = L[k] := ⟨_, rfl⟩
      rw [← hc] at hA' HN
      have HC := Lib.hid hc
      obtain ⟨a0, a1, a2, a3⟩ := hA'
      clear hA hin hc
      go_wp2_with fail
      refine (small_any c _).mono ?_
      rintro e w3 ⟨rfl, hb⟩
      have hcs := small_in HN.out
      obtain ⟨d, hd⟩ : ∃ d, d = c.small := ⟨_, rfl⟩
      rw [← hd] at hcs ⊢
      have HCS := Lib.hid hcs
      have HD := Lib.hid hd
      have S1 := Lib.hid ((S.out.read hb).alloc (.cells #[.int .u8 d.k, .int .i64 d.a, .int .i64 d.b, .int .i64 d.n] 27))
      have N1 := Lib.hid (Blk.new w3 #[.int .u8 d.k, .int .i64 d.a, .int .i64 d.b, .int .i64 d.n] 27)
      have O1 := Lib.hid (S.out.read hb).st.mem.fresh
      have hX1 : rb < w3.heap.size := (S.out.read hb).ref.hd.lt
      have hX2 : ∀ r, sl.ownBlock = some r → r < w3.heap.size := fun r hr => (S.out.read hb).ref.row.lt hr
      have HX2 := Lib.hid hX2
      clear hb S a0 a1 a2 a3 hcs hd hX2
      go_wp2_with fail
      generalize w3.alloc (.cells #[.int .u8 d.k, .int .i64 d.a, .int .i64 d.b, .int .i64 d.n] 27) = W1 at *
      generalize w3.heap.size = X at *
      have hoX : s.o X = .none := O1.out X (Nat.le_refl _)
      have d0 := N1.out.cell 0
      have d1 := N1.out.cell 1
      have d2 := N1.out.cell 2
      have d3 := N1.out.cell 3
      simp at d0 d1 d2 d3
      have key := do_st S1.out.st.mem S1.out.st.pv R.out.good HCS.out rfl
      rw [S1.out.st.fb] at key
      have KEY := Lib.hid (show Calls Try.prog 16 #[.pointer (some ⟨w0.heap.size, 0, none⟩), d.val] W1.drew fun r w' => r = .returned (.int .i64 (doC v d)) ∧ ∃ s' sl', ∃ v', Both w0 w0.heap.size w' s' v' v rb sl' ∧ sl' = sl ∧ DoR v d v' ∧ Blk w' X #[.int .u8 d.k, .int .i64 d.a, .int .i64 d.b, .int .i64 d.n] 27 from by
        have key := do_st (w := W1.drew) (S1.out.read (Below.refl _ W1).drew).st.mem S1.out.st.pv R.out.good HCS.out rfl
        rw [S1.out.st.fb] at key
        refine key.mono ?_
        rintro e w4 ⟨rfl, s', hM, hT, hf, hdd⟩
        exact ⟨rfl, s', sl, _, (S1.out.read (Below.refl _ W1).drew).doF hM hT hf rfl, rfl, hdd, hT.blk (N1.out.drew) hoX⟩)
      clear key
      have hdn : (doC v d == doC v d) = true := by simp
      have HOX := Lib.hid hoX
      clear hoX
      go_region_with (first | (go_at_call 16; refine KEY.out.mono ?_; rintro e w4 ⟨rfl, s', sl', v', hS2, rfl, hdd, hN2⟩; have e0 := hN2.cell 0; have e1 := hN2.cell 1; have e2 := hN2.cell 2; have e3 := hN2.cell 3; simp at e0 e1 e2 e3; have S2 := Lib.hid hS2; have DD := Lib.hid hdd; clear hS2 hdd hN2) | (go_at_call 23; refine (rdo_any S2.out.ref R.out.good d HCS.out DD.out).mono ?_; rintro e w5 ⟨rfl, sl2, hR2, hT2⟩; have S3 := Lib.hid (S2.out.doR hR2 hT2); clear hR2 hT2))
      all_goals (
        have R2 : RowKit.Hid (Run L (k + 1) v') := Lib.hid (R.out.step hlt (by rw [← HC.out]; exact HN.out) (by rw [← HC.out, ← HD.out]; exact DD.out))
        have S4 := S3
        clear S1 S2 S3 R KEY DD e0 e1 e2 e3 d0 d1 d2 d3
        go_wp2_with fail
        refine ⟨⟨k + 1, by omega, by omega, by go_num, s', _, _, S4.out, R2.out⟩, by simp [intOf]; omega⟩)
    · have hend : k = L.length ∨ (k < L.length ∧ k = 60) := by omega
      have G := Lib.hid R.out.good
      have key := agrees_any S.out.st.mem S.out.st.pv G.out S.out.ref
      rw [S.out.st.fb] at key
      have KEY := Lib.hid key
      have B := Lib.hid (FIN.out wr S.out.st.below)
      have B0 := Lib.hid S.out.n0_le
      clear key hgo S R
      rcases hend with rfl | ⟨hlt, rfl⟩
      · go_wp2_with fail
        refine KEY.out.mono ?_
        rintro e w4 ⟨rfl, hb⟩
        have B2 := Lib.hid (B.out.trans (hb.mono B.out.size))
        clear hb
        go_wp2_with fail
        go_ret
        exact ⟨rfl, B2.out⟩
      · go_wp2_with fail
        refine KEY.out.mono ?_
        rintro e w4 ⟨rfl, hb⟩
        have B2 := Lib.hid (B.out.trans (hb.mono B.out.size))
        clear hb
        go_wp2_with fail
        go_ret
        exact ⟨rfl, B2.out⟩
end Go.Proofs.Ytmnkgjgaileokaa
