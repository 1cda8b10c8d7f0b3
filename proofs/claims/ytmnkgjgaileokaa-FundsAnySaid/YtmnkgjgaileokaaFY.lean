/- The walk of FundsAny. -/
import Derived.Test.YtmnkgjgaileokaaRM
namespace Go.Proofs.Ytmnkgjgaileokaa
open Go.RowKit

set_option maxRecDepth 100000 in
set_option maxHeartbeats 4000000 in
theorem anyLaw (L : List Act4) (a : Option Addr) (cap : Nat) (w : World) (h : InA w a L cap) :
    Calls Try.prog 7 #[.slice a L.length cap] w fun r w' => r = .returned (.bool true) ∧ Below w.heap.size w w' := by
  have hcap := h.cap
  have hlen := h.len
  have HI0 := Lib.hid h
  clear h
  go_enter Try.func7, Try.ntmps7
  go_wp2_with fail
  refine (sanity_any w).mono ?_
  rintro e w0 ⟨rfl, hb0⟩
  have HI := Lib.hid (HI0.out.below hb0 (Nat.le_refl _))
  have HB0 := Lib.hid hb0
  clear hb0 HI0
  go_wp2_with fail
  refine (new_any w0).mono ?_
  rintro e w1 ⟨rfl, hM, hw⟩
  have S0 := Lib.hid (St.start hM hw)
  clear hM hw
  generalize FS.new w0.heap.size = s0 at *
  go_wp2_with fail
  refine (rnew_any w1).mono ?_
  rintro e w2 ⟨rfl, hR, hb⟩
  have T0 := Lib.hid (Both.start S0.out hR hb)
  clear hR hb S0
  obtain ⟨rb, hrb⟩ : ∃ rb, rb = w1.heap.size := ⟨_, rfl⟩
  rw [← hrb] at T0 ⊢
  clear hrb
  go_wp2_with fail
  go_loopw [6] (fun i wr => ∃ k : Nat, k ≤ L.length ∧ k ≤ 20 ∧ i = .int .i64 k ∧ ∃ s v sl, Both w0 w0.heap.size wr s v v rb sl ∧ Good v) (fun i _ => 20 - (intOf i).toNat)
  case atStart => exact ⟨0, by omega, by omega, rfl, s0, q0, _, T0.out, g0⟩
  case round =>
    obtain ⟨k, hk, hk6, rfl, s, v, sl, hS, hR⟩ := hrel
    have S := Lib.hid hS
    have R := Lib.hid hR
    clear hS hR T0
    have fin : ∀ wr', Below w0.heap.size w0 wr' → Below w.heap.size w wr' := fun wr' hb => HB0.out.trans (hb.mono HB0.out.size)
    have FIN := Lib.hid fin
    clear fin
    by_cases hgo : k < L.length ∧ k < 20
    · obtain ⟨hlt, h6⟩ := hgo
      obtain ⟨b, o, rfl, hA⟩ := HI.out.get k hlt
      have hA' := hA.below S.out.st.below (by
        rcases HI.out.at_ with h1 | ⟨b', o', h1, h2, h3⟩
        · subst h1; simp at hlt
        · cases h1; exact h2)
      have hin : In64 L[k] := HI.out.in_ _ (List.getElem_mem hlt)
      have HN := Lib.hid hin
      obtain ⟨c, hc⟩ : ∃ c, c = L[k] := ⟨_, rfl⟩
      rw [← hc] at hA' HN
      have HC := Lib.hid hc
      have HA := Lib.hid hA'
      obtain ⟨a0, a1, a2, a3⟩ := hA'
      have hbw : b < w0.heap.size := by
        rcases HI.out.at_ with h1 | ⟨b', o', h1, h2, h3⟩
        · subst h1; simp at hlt
        · cases h1; exact h2
      have KEY := Lib.hid (show Calls Try.prog 16 #[.pointer (some ⟨w0.heap.size, 0, none⟩), c.val] wr.drew fun r w' => r = .returned (.int .i64 (doC v c)) ∧ ∃ s' sl' v' E, Both w0 w0.heap.size w' s' v' v rb sl' ∧ sl' = sl ∧ DoR v c v' ∧ Good v' ∧ E = v'.enc1 ∧ ActAt w' b (o + k * 4) c from by
        have S1 := S.out.read (Below.refl _ wr).drew
        have key := do_st (w := wr.drew) S1.st.mem S1.st.pv R.out HN.out rfl
        rw [S1.st.fb] at key
        refine key.mono ?_
        rintro e w4 ⟨rfl, s', hM, hT, hf, hdd⟩
        have S2 := S1.doF hM hT hf rfl
        exact ⟨rfl, s', sl, _, _, S2, rfl, hdd, do_good R.out HN.out hdd, rfl, (show ActAt wr.drew b (o + k * 4) c from HA.out).below (hT.below (B := w0.heap.size) (by have := S1.n0_le; exact this) S1.st.own) hbw⟩)
      have hdn : (doC v c == doC v c) = true := by simp
      clear hA hin hc
      go_wp2_with fail
      go_region_with (first | (go_at_call 16; refine KEY.out.mono ?_; rintro e w4 ⟨rfl, s', sl', v', E, hS2, rfl, hdd, hgd, hE, hA4⟩; obtain ⟨e0, e1, e2, e3⟩ := hA4; have S2 := Lib.hid hS2; have DD := Lib.hid hdd; have GD := Lib.hid hgd; have HE := Lib.hid hE; clear hS2 hdd hgd hE) | (go_at_call 23; refine (rdo_any S2.out.ref R.out c HN.out DD.out).mono ?_; rintro e w5 ⟨rfl, sl2, hR2, hT2⟩; have S3 := Lib.hid (S2.out.doR hR2 hT2); clear hR2 hT2) | (go_at_call 25; have k5 := encode_st S3.out.st.mem S3.out.st.pv GD.out; rw [S3.out.st.fb, ← HE.out] at k5; refine k5.mono ?_; clear k5; rintro e w6 ⟨rfl, hb⟩; have S5 := Lib.hid (S3.out.read hb); clear hb) | (go_at_call 26; have k5 := rencode_any S5.out.ref GD.out; rw [← HE.out] at k5; refine k5.mono ?_; clear k5; rintro e w7 ⟨rfl, hb⟩; have S6 := Lib.hid (S5.out.read hb); clear hb))
      all_goals (
        have S7 := S6
        have G7 := GD
        clear S S2 S3 S5 S6 R KEY DD e0 e1 e2 e3 a0 a1 a2 a3
        go_wp2_with fail
        refine ⟨⟨k + 1, by omega, by omega, by go_num, s', _, _, S7.out, G7.out⟩, by simp [intOf]; omega⟩)
    · have hend : k = L.length ∨ (k < L.length ∧ k = 20) := by omega
      have B := Lib.hid (FIN.out wr S.out.st.below)
      clear hgo S R
      rcases hend with rfl | ⟨hlt, rfl⟩
      · go_wp2_with fail
        go_ret
        exact ⟨rfl, B.out⟩
      · go_wp2_with fail
        go_ret
        exact ⟨rfl, B.out⟩
end Go.Proofs.Ytmnkgjgaileokaa
