/- FundsErrors: the walk. -/
import Derived.Test.YtmnkgjgaileokaaCF
namespace Go.Proofs.Ytmnkgjgaileokaa
open Go.RowKit

theorem add_err {v : PV} {x p a : Int} (h : (v.add x p a).1 ≠ 0) : (v.add x p a).2 = v := by
  unfold PV.add at h ⊢
  split at h
  · rename_i h1; rw [if_pos h1]
  rename_i h1; rw [if_neg h1]
  split at h
  · rename_i h2; rw [if_pos h2]
  rename_i h2; rw [if_neg h2]
  split at h
  · rename_i h3; rw [if_pos h3]
  rename_i h3; rw [if_neg h3]
  split at h
  · rename_i h4; rw [if_pos h4]
  · exact absurd rfl h
theorem move_err {v : PV} {a b n : Int} (h : (v.move a b n).1 ≠ 0) : (v.move a b n).2 = v := by
  unfold PV.move at h ⊢
  split at h
  · rename_i h1; rw [if_pos h1]
  rename_i h1; rw [if_neg h1]
  split at h
  · rename_i h2; rw [if_pos h2]
  rename_i h2; rw [if_neg h2]
  split at h
  · rename_i h3; rw [if_pos h3]
  · exact absurd rfl h
theorem enc_err {v : PV} {x n : Int} (h : (v.enc x n).1 ≠ 0) : (v.enc x n).2 = v := by
  unfold PV.enc at h ⊢
  split at h
  · rename_i h1; rw [if_pos h1]
  rename_i h1; rw [if_neg h1]
  split at h
  · rename_i h2; rw [if_pos h2]
  rename_i h2; rw [if_neg h2]
  split at h
  · rename_i h3; rw [if_pos h3]
  · exact absurd rfl h
theorem rel_err {v : PV} {x n : Int} (h : (v.rel x n).1 ≠ 0) : (v.rel x n).2 = v := by
  unfold PV.rel at h ⊢
  split at h
  · rename_i h1; rw [if_pos h1]
  rename_i h1; rw [if_neg h1]
  split at h
  · rename_i h2; rw [if_pos h2]
  rename_i h2; rw [if_neg h2]
  split at h
  · rename_i h3; rw [if_pos h3]
  · exact absurd rfl h
theorem spend_err {v : PV} {x n : Int} (h : (v.spend x n).1 ≠ 0) : (v.spend x n).2 = v := by
  unfold PV.spend at h ⊢
  split at h
  · rename_i h1; rw [if_pos h1]
  rename_i h1; rw [if_neg h1]
  split at h
  · rename_i h2; rw [if_pos h2]
  rename_i h2; rw [if_neg h2]
  split at h
  · rename_i h3; rw [if_pos h3]
  · exact absurd rfl h
/-- A call that returns an error changes nothing. -/
theorem do_err {v v' : PV} {a : Act4} (hd : DoR v a v') (hc : doC v a ≠ 0) (hk : a.k % 9 ≠ 8) (h0 : 0 ≤ a.k) : v' = v := by
  unfold DoR at hd
  unfold doC at hc
  split at hd
  · rename_i h1; rw [if_pos h1] at hc; rw [hd, add_err hc]
  rename_i h1; rw [if_neg h1] at hc
  split at hd
  · rename_i h2; rw [if_pos h2] at hc; rw [hd, move_err hc]
  rename_i h2; rw [if_neg h2] at hc
  split at hd
  · rename_i h3; rw [if_pos h3] at hc; rw [hd, enc_err hc]
  rename_i h3; rw [if_neg h3] at hc
  split at hd
  · rename_i h4; rw [if_pos h4] at hc; rw [hd, rel_err hc]
  rename_i h4; rw [if_neg h4] at hc
  split at hd
  · rename_i h5; rw [if_pos h5] at hc; rw [hd, spend_err hc]
  · omega
set_option maxRecDepth 100000 in
set_option maxHeartbeats 4000000 in
theorem errorsLaw (L : List Act4) (a : Option Addr) (cap : Nat) (w : World) (h : InA w a L cap) :
    Calls Try.prog 8 #[.slice a L.length cap] w fun r w' => r = .returned (.bool true) ∧ Below w.heap.size w w' := by
  have hcap := h.cap
  have hlen := h.len
  have HI0 := Lib.hid h
  clear h
  go_enter Try.func8, Try.ntmps8
  go_wp2_with fail
  refine (sanity_any w).mono ?_
  rintro e w0 ⟨rfl, hb0⟩
  have HI := Lib.hid (HI0.out.below hb0 (Nat.le_refl _))
  have HB0 := Lib.hid hb0
  clear hb0 HI0
  go_wp2_with fail
  refine (new_any w0).mono ?_
  rintro e w1 ⟨rfl, hM, hw⟩
  have S0 := Lib.hid (St.start hM hw)
  clear hM hw
  generalize FS.new w0.heap.size = s0 at *
  go_wp2_with fail
  go_loopw [5] (fun i wr => ∃ k : Nat, k ≤ L.length ∧ k ≤ 60 ∧ i = .int .i64 k ∧ ∃ s v, St w0 w0.heap.size wr s v ∧ Run L k v) (fun i _ => 60 - (intOf i).toNat)
  case atStart => exact ⟨0, by omega, by omega, rfl, s0, q0, S0.out, run0 L⟩
  case round =>
    obtain ⟨k, hk, hk6, rfl, s, v, hS, hR⟩ := hrel
    have S := Lib.hid hS
    have R := Lib.hid hR
    clear hS hR S0
    by_cases hlt : k < L.length
    · by_cases h6 : k < 60
      · obtain ⟨b, o, rfl, hA⟩ := HI.out.get k hlt
        have hA' := hA.below S.out.below (by
          rcases HI.out.at_ with h1 | ⟨b', o', h1, h2, h3⟩
          · subst h1; simp at hlt
          · cases h1; exact h2)
        have hin : In64 L[k] := HI.out.in_ _ (List.getElem_mem hlt)
        have HN := Lib.hid hin
        obtain ⟨c, hc⟩ : ∃ c, c = L[k] := ⟨_, rfl⟩
        rw [← hc] at hA' HN
        have HC := Lib.hid hc
        obtain ⟨a0, a1, a2, a3⟩ := hA'
        clear hA hin hc
        go_wp2_with fail
        refine (small_any c _).mono ?_
        rintro e w2 ⟨rfl, hb⟩
        have hA2 := small_in HN.out
        have HA2 := Lib.hid hA2
        have sk0 : 0 ≤ c.small.k := hA2.k0
        have sk1 : c.small.k ≤ 255 := hA2.k1
        have R2 := Lib.hid (fun v' (hd : DoR v c.small v') => R.out.step (v' := v') hlt (by rw [← HC.out]; exact HN.out) (by rw [← HC.out]; exact hd))
        have hr : c.small.k.tmod 9 = c.small.k % 9 := by rw [Int.tmod_eq_emod_of_nonneg sk0]
        have S1 := Lib.hid ((S.out.read hb).read ((Below.refl _ _).alloc (Nat.le_refl _) (.cells (avs c.small) 27)))
        have A1 := Lib.hid (Blk.new w2 (avs c.small) 27)
        have OA := Lib.hid ((S.out.read hb).mem.fresh _ (Nat.le_refl _))
        obtain ⟨k', a', b', n', hk'⟩ : ∃ k' a' b' n', (⟨k', a', b', n'⟩ : Act4) = c.small := ⟨_, _, _, _, rfl⟩
        have e1 : c.small.k = k' := by rw [← hk']
        rw [e1] at sk0 sk1 hr
        rw [← hk'] at S1 A1 R2 HA2
        rw [← hk']
        clear hb S a0 a1 a2 a3 hA2 hk' e1
        go_wp2_with fail
        obtain ⟨W, hW⟩ : ∃ W, W = w2.alloc (.cells #[.int .u8 k', .int .i64 a', .int .i64 b', .int .i64 n'] 27) := ⟨_, rfl⟩
        unfold avs at S1 A1
        dsimp only at S1 A1
        rw [← hW] at S1 A1 ⊢
        clear hW
        obtain ⟨A, hA⟩ : ∃ A, A = w2.heap.size := ⟨_, rfl⟩
        rw [← hA] at A1 OA ⊢
        clear hA
        have key := encode_st S1.out.mem S1.out.pv R.out.good
        rw [S1.out.fb] at key
        refine key.mono ?_
        clear key
        rintro e w3 ⟨rfl, hb⟩
        have S2 := Lib.hid (S1.out.read hb)
        have A2 := Lib.hid (A1.out.below hb A1.out.lt)
        clear hb S1 A1
        obtain ⟨x0, x1, x2, x3⟩ : w3.cell? ⟨A, 0, none⟩ = some (.int .u8 k') ∧ w3.cell? ⟨A, 1, none⟩ = some (.int .i64 a') ∧ w3.cell? ⟨A, 2, none⟩ = some (.int .i64 b') ∧ w3.cell? ⟨A, 3, none⟩ = some (.int .i64 n') := ⟨A2.out.cell 0, A2.out.cell 1, A2.out.cell 2, A2.out.cell 3⟩
        obtain ⟨cc, hcc⟩ : ∃ cc, doC v ⟨k', a', b', n'⟩ = cc := ⟨_, rfl⟩
        have key := do_st S2.out.mem S2.out.pv R.out.good HA2.out hcc
        rw [S2.out.fb] at key
        have HK := Lib.hid key
        have HCC := Lib.hid hcc
        clear key hcc
        go_wp2_with fail
        clear x0 x1 x2 x3
        refine HK.out.mono ?_
        rintro e w4 ⟨rfl, s', hM, hT, hf, hd⟩
        have S3 := Lib.hid (S2.out.step hM hT hf rfl)
        have A3 := Lib.hid (hT.blk A2.out OA.out)
        have R3 := Lib.hid (R2.out _ hd)
        have HD := Lib.hid hd
        obtain ⟨x0, x1, x2, x3⟩ : w4.cell? ⟨A, 0, none⟩ = some (.int .u8 k') ∧ w4.cell? ⟨A, 1, none⟩ = some (.int .i64 a') ∧ w4.cell? ⟨A, 2, none⟩ = some (.int .i64 b') ∧ w4.cell? ⟨A, 3, none⟩ = some (.int .i64 n') := ⟨A3.out.cell 0, A3.out.cell 1, A3.out.cell 2, A3.out.cell 3⟩
        clear hM hT hf hd S2 A2 HK
        generalize s'.pv = u at *
        by_cases hc0 : cc = 0
        · subst hc0
          go_wp2_with fail
          exact ⟨⟨k + 1, by omega, by omega, by go_num, s', u, S3.out, R3.out⟩, by simp [intOf]; omega⟩
        · have hcb : (cc == 0) = false := by simpa using hc0
          have hcn : (cc != 0) = true := by simpa using hc0
          by_cases h8 : k' % 9 = 8
          · rw [h8] at hr
            clear hc0
            go_wp2_with fail
            exact ⟨⟨k + 1, by omega, by omega, by go_num, s', u, S3.out, R3.out⟩, by simp [intOf]; omega⟩
          · have h8b : (k' % 9 != 8) = true := by simpa using h8
            have hu : u = v := do_err HD.out (by rw [HCC.out]; exact hc0) h8 sk0
            subst hu
            clear hc0 h8
            have key := encode_st S3.out.mem S3.out.pv R3.out.good
            rw [S3.out.fb] at key
            have HK := Lib.hid key
            clear key
            go_wp2_with fail
            refine HK.out.mono ?_
            rintro e w5 ⟨rfl, hb⟩
            have S4 := Lib.hid (S3.out.read hb)
            clear hb
            go_wp2_with fail
            exact ⟨⟨k + 1, by omega, by omega, by go_num, s', _, S4.out, R3.out⟩, by simp [intOf]; omega⟩
      · go_wp2_with fail
        go_ret
        exact ⟨rfl, HB0.out.trans (S.out.below.mono HB0.out.size)⟩
    · go_wp2_with fail
      go_ret
      exact ⟨rfl, HB0.out.trans (S.out.below.mono HB0.out.size)⟩
end Go.Proofs.Ytmnkgjgaileokaa
