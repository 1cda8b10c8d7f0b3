/- FundsNone: the walk. -/
import Derived.Test.YtmnkgjgaileokaaTD
namespace Go.Proofs.Ytmnkgjgaileokaa
open Go.RowKit

theorem post_nil (x n : Int) (g1 g2 : Value) (w : World) : Calls Try.prog 53 #[.pointer none, .int .i64 x, .int .i64 n, .agg #[g1, g2]] w fun r w' => r = .returned (.int .i64 1) ∧ Below w.heap.size w w' := by
  go_enter Try.func53, Try.ntmps53
  go_wp2_with fail
  go_ret
  exact ⟨rfl, (Below.refl _ _).alloc (Nat.le_refl _) _⟩
theorem enc_nil (x n : Int) (w : World) : Calls Try.prog 28 #[.pointer none, .int .i64 x, .int .i64 n] w fun r w' => r = .returned (.int .i64 1) ∧ Below w.heap.size w w' := by
  go_enter Try.func28, Try.ntmps28
  go_wp2_with fail
  refine (post_nil _ _ _ _ _).mono ?_
  rintro e w1 ⟨rfl, hb⟩
  go_wp2_with fail
  go_ret
  exact ⟨rfl, hb⟩
theorem rel_nil (x n : Int) (w : World) : Calls Try.prog 29 #[.pointer none, .int .i64 x, .int .i64 n] w fun r w' => r = .returned (.int .i64 1) ∧ Below w.heap.size w w' := by
  go_enter Try.func29, Try.ntmps29
  go_wp2_with fail
  refine (post_nil _ _ _ _ _).mono ?_
  rintro e w1 ⟨rfl, hb⟩
  go_wp2_with fail
  go_ret
  exact ⟨rfl, hb⟩
theorem spend_nil (x n : Int) (w : World) : Calls Try.prog 36 #[.pointer none, .int .i64 x, .int .i64 n] w fun r w' => r = .returned (.int .i64 1) ∧ Below w.heap.size w w' := by
  go_enter Try.func36, Try.ntmps36
  go_wp2_with fail
  refine (post_nil _ _ _ _ _).mono ?_
  rintro e w1 ⟨rfl, hb⟩
  go_wp2_with fail
  go_ret
  exact ⟨rfl, hb⟩
theorem add_nil (x p a : Int) (w : World) : Calls Try.prog 21 #[.pointer none, .int .i64 x, .int .i64 p, .int .i64 a] w fun r w' => r = .returned (.int .i64 1) ∧ Below w.heap.size w w' := by
  go_enter Try.func21, Try.ntmps21
  go_wp2_with fail
  go_ret
  exact ⟨rfl, Below.refl _ _⟩
theorem move_nil (x p a : Int) (w : World) : Calls Try.prog 30 #[.pointer none, .int .i64 x, .int .i64 p, .int .i64 a] w fun r w' => r = .returned (.int .i64 1) ∧ Below w.heap.size w w' := by
  go_enter Try.func30, Try.ntmps30
  go_wp2_with fail
  go_ret
  exact ⟨rfl, Below.refl _ _⟩
theorem close_nil (w : World) : Calls Try.prog 27 #[.pointer none] w fun r w' => r = .returned (.int .i64 0) ∧ Below w.heap.size w w' := by
  go_enter Try.func27, Try.ntmps27
  go_wp2_with fail
  go_ret
  exact ⟨rfl, Below.refl _ _⟩
theorem free_nil (x : Int) (w : World) : Calls Try.prog 18 #[.pointer none, .int .i64 x] w fun r w' => r = .returned (.int .i64 0) ∧ Below w.heap.size w w' := by
  go_enter Try.func18, Try.ntmps18
  go_wp2_with fail
  go_ret
  exact ⟨rfl, Below.refl _ _⟩
theorem encode_nil (w : World) : Calls Try.prog 25 #[.pointer none] w fun r w' => r = .returned (.string { data := #[] }) ∧ Below w.heap.size w w' := by
  go_enter Try.func25, Try.ntmps25
  go_wp2_with fail
  go_ret
  exact ⟨rfl, Below.refl _ _⟩
theorem total_nil (x : Int) (w : World) : Calls Try.prog 20 #[.pointer none, .int .i64 x] w fun r w' => r = .returned (.agg #[.int .i64 0, .int .i64 0, .int .i64 0, .int .i64 0, .int .i64 0]) ∧ Below w.heap.size w w' := by
  go_enter Try.func20, Try.ntmps20
  go_wp2_with fail
  refine bodyPost_ret (v := .agg #[.int .i64 0, .int .i64 0, .int .i64 0, .int .i64 0, .int .i64 0]) ?_ rfl ⟨rfl, ?_⟩
  · simp [results, Try.results20, go_sem]
  · exact (Below.refl _ _).alloc (Nat.le_refl _) _
theorem fund_nil (x : Int) (w : World) : Calls Try.prog 17 #[.pointer none, .int .i64 x] w fun r w' => r = .returned (.tuple #[.agg #[.int .i64 0, .int .i64 0, .int .i64 0, .int .i64 0, .int .i64 0], .bool false]) ∧ Below w.heap.size w w' := by
  go_enter Try.func17, Try.ntmps17
  go_wp2_with fail
  refine bodyPost_ret (v := .tuple #[.agg #[.int .i64 0, .int .i64 0, .int .i64 0, .int .i64 0, .int .i64 0], .bool false]) ?_ rfl ⟨rfl, ?_⟩
  · simp [results, Try.results17, go_sem]
  · exact (Below.refl _ _).alloc (Nat.le_refl _) _
def nilC (a : Act4) : Int := if a.k % 9 = 8 then 0 else 1
set_option maxRecDepth 100000 in
set_option maxHeartbeats 4000000 in
theorem do_nil (a : Act4) (hi : In64 a) (w : World) : Calls Try.prog 16 #[.pointer none, a.val] w fun r w' => r = .returned (.int .i64 (nilC a)) ∧ Below w.heap.size w w' := by
  have ht : a.k.tmod 9 = a.k % 9 := by rw [Int.tmod_eq_emod_of_nonneg hi.k0]
  have k0 := hi.k0
  have k1 := hi.k1
  clear hi
  have h9 : a.k % 9 = 0 ∨ a.k % 9 = 1 ∨ a.k % 9 = 2 ∨ a.k % 9 = 3 ∨ a.k % 9 = 4 ∨ a.k % 9 = 5 ∨ a.k % 9 = 6 ∨ a.k % 9 = 7 ∨ a.k % 9 = 8 := by omega
  rcases h9 with h9 | h9 | h9 | h9 | h9 | h9 | h9 | h9 | h9
  · have hc : nilC a = 1 := by unfold nilC; rw [if_neg (by omega)]
    rw [hc]
    rw [h9] at ht
    clear hc h9
    go_enter Try.func16, Try.ntmps16
    go_wp2_with fail
    refine (add_nil _ _ _ _).mono ?_
    rintro e w1 ⟨rfl, hb⟩
    go_wp2_with fail
    go_ret
    exact ⟨rfl, ((Below.refl _ _).alloc (Nat.le_refl _) _).trans (hb.mono (by rw [size_alloc]; omega))⟩
  · have hc : nilC a = 1 := by unfold nilC; rw [if_neg (by omega)]
    rw [hc]
    rw [h9] at ht
    clear hc h9
    go_enter Try.func16, Try.ntmps16
    go_wp2_with fail
    refine (add_nil _ _ _ _).mono ?_
    rintro e w1 ⟨rfl, hb⟩
    go_wp2_with fail
    go_ret
    exact ⟨rfl, ((Below.refl _ _).alloc (Nat.le_refl _) _).trans (hb.mono (by rw [size_alloc]; omega))⟩
  · have hc : nilC a = 1 := by unfold nilC; rw [if_neg (by omega)]
    rw [hc]
    rw [h9] at ht
    clear hc h9
    go_enter Try.func16, Try.ntmps16
    go_wp2_with fail
    refine (move_nil _ _ _ _).mono ?_
    rintro e w1 ⟨rfl, hb⟩
    go_wp2_with fail
    go_ret
    exact ⟨rfl, ((Below.refl _ _).alloc (Nat.le_refl _) _).trans (hb.mono (by rw [size_alloc]; omega))⟩
  · have hc : nilC a = 1 := by unfold nilC; rw [if_neg (by omega)]
    rw [hc]
    rw [h9] at ht
    clear hc h9
    go_enter Try.func16, Try.ntmps16
    go_wp2_with fail
    refine (enc_nil _ _ _).mono ?_
    rintro e w1 ⟨rfl, hb⟩
    go_wp2_with fail
    go_ret
    exact ⟨rfl, ((Below.refl _ _).alloc (Nat.le_refl _) _).trans (hb.mono (by rw [size_alloc]; omega))⟩
  · have hc : nilC a = 1 := by unfold nilC; rw [if_neg (by omega)]
    rw [hc]
    rw [h9] at ht
    clear hc h9
    go_enter Try.func16, Try.ntmps16
    go_wp2_with fail
    refine (enc_nil _ _ _).mono ?_
    rintro e w1 ⟨rfl, hb⟩
    go_wp2_with fail
    go_ret
    exact ⟨rfl, ((Below.refl _ _).alloc (Nat.le_refl _) _).trans (hb.mono (by rw [size_alloc]; omega))⟩
  · have hc : nilC a = 1 := by unfold nilC; rw [if_neg (by omega)]
    rw [hc]
    rw [h9] at ht
    clear hc h9
    go_enter Try.func16, Try.ntmps16
    go_wp2_with fail
    refine (rel_nil _ _ _).mono ?_
    rintro e w1 ⟨rfl, hb⟩
    go_wp2_with fail
    go_ret
    exact ⟨rfl, ((Below.refl _ _).alloc (Nat.le_refl _) _).trans (hb.mono (by rw [size_alloc]; omega))⟩
  · have hc : nilC a = 1 := by unfold nilC; rw [if_neg (by omega)]
    rw [hc]
    rw [h9] at ht
    clear hc h9
    go_enter Try.func16, Try.ntmps16
    go_wp2_with fail
    refine (spend_nil _ _ _).mono ?_
    rintro e w1 ⟨rfl, hb⟩
    go_wp2_with fail
    go_ret
    exact ⟨rfl, ((Below.refl _ _).alloc (Nat.le_refl _) _).trans (hb.mono (by rw [size_alloc]; omega))⟩
  · have hc : nilC a = 1 := by unfold nilC; rw [if_neg (by omega)]
    rw [hc]
    rw [h9] at ht
    clear hc h9
    go_enter Try.func16, Try.ntmps16
    go_wp2_with fail
    refine (spend_nil _ _ _).mono ?_
    rintro e w1 ⟨rfl, hb⟩
    go_wp2_with fail
    go_ret
    exact ⟨rfl, ((Below.refl _ _).alloc (Nat.le_refl _) _).trans (hb.mono (by rw [size_alloc]; omega))⟩
  · have hc : nilC a = 0 := by unfold nilC; rw [if_pos h9]
    rw [hc]
    rw [h9] at ht
    clear hc h9
    go_enter Try.func16, Try.ntmps16
    go_wp2_with fail
    refine (close_nil _).mono ?_
    rintro e w1 ⟨rfl, hb⟩
    go_wp2_with fail
    go_ret
    exact ⟨rfl, ((Below.refl _ _).alloc (Nat.le_refl _) _).trans (hb.mono (by rw [size_alloc]; omega))⟩
set_option maxRecDepth 100000 in
set_option maxHeartbeats 8000000 in
theorem noneLaw (L : List Act4) (a : Option Addr) (cap : Nat) (w : World) (h : InA w a L cap) :
    Calls Try.prog 11 #[.slice a L.length cap] w fun r w' => r = .returned (.bool true) ∧ Below w.heap.size w w' := by
  have hcap := h.cap
  have hlen := h.len
  have HI0 := Lib.hid h
  clear h
  go_enter Try.func11, Try.ntmps11
  go_wp2_with fail
  refine (sanity_any w).mono ?_
  rintro e w0 ⟨rfl, hb0⟩
  have HI := Lib.hid (HI0.out.below hb0 (Nat.le_refl _))
  have HB0 := Lib.hid hb0
  clear hb0 HI0
  have hM := new_mem w0
  have S0 := Lib.hid (St.start hM rfl)
  clear hM
  go_wp2_with fail
  generalize FS.new w0.heap.size = s0 at *
  generalize w0.alloc (.cells #[.map none, .int .i64 0] 53) = w1 at *
  go_loopw [6] (fun i wr => ∃ k : Nat, k ≤ L.length ∧ k ≤ 60 ∧ i = .int .i64 k ∧ ∃ s v, St w0 w0.heap.size wr s v ∧ Run L k v) (fun i _ => 60 - (intOf i).toNat)
  case atStart => exact ⟨0, by omega, by omega, rfl, s0, q0, S0.out, run0 L⟩
  case round =>
    obtain ⟨k, hk, hk6, rfl, s, v, hS, hR⟩ := hrel
    have S := Lib.hid hS
    have R := Lib.hid hR
    clear hS hR S0
    by_cases hlt : k < L.length
    · by_cases h6 : k < 60
      · obtain ⟨b, o, rfl, hA⟩ := HI.out.get k hlt
        have hA' := hA.below S.out.below (by
          rcases HI.out.at_ with h1 | ⟨b', o', h1, h2, h3⟩
          · subst h1; simp at hlt
          · cases h1; exact h2)
        have hin : In64 L[k] := HI.out.in_ _ (List.getElem_mem hlt)
        have HN := Lib.hid hin
        obtain ⟨c, hc⟩ : ∃ c, c = L[k] := ⟨_, rfl⟩
        rw [← hc] at hA' HN
        have HC := Lib.hid hc
        obtain ⟨a0, a1, a2, a3⟩ := hA'
        clear hA hin hc
        go_wp2_with fail
        refine (small_any c _).mono ?_
        rintro e w2 ⟨rfl, hb⟩
        have hA2 := small_in HN.out
        have HA2 := Lib.hid hA2
        have sk0 : 0 ≤ c.small.k := hA2.k0
        have sk1 : c.small.k ≤ 255 := hA2.k1
        have R2 := Lib.hid (fun v' (hd : DoR v c.small v') => R.out.step (v' := v') hlt (by rw [← HC.out]; exact HN.out) (by rw [← HC.out]; exact hd))
        have hr : c.small.k.tmod 9 = c.small.k % 9 := by rw [Int.tmod_eq_emod_of_nonneg sk0]
        have S1 := Lib.hid ((S.out.read hb).read ((Below.refl _ _).alloc (Nat.le_refl _) (.cells (avs c.small) 27)))
        have A1 := Lib.hid (Blk.new w2 (avs c.small) 27)
        have OA := Lib.hid ((S.out.read hb).mem.fresh _ (Nat.le_refl _))
        obtain ⟨k', a', b', n', hk'⟩ : ∃ k' a' b' n', (⟨k', a', b', n'⟩ : Act4) = c.small := ⟨_, _, _, _, rfl⟩
        have e1 : c.small.k = k' := by rw [← hk']
        rw [e1] at sk0 sk1 hr
        rw [← hk'] at S1 A1 R2 HA2
        rw [← hk']
        clear hb S a0 a1 a2 a3 hA2 hk' e1
        go_wp2_with fail
        obtain ⟨W, hW⟩ : ∃ W, W = w2.alloc (.cells #[.int .u8 k', .int .i64 a', .int .i64 b', .int .i64 n'] 27) := ⟨_, rfl⟩
        unfold avs at S1 A1
        dsimp only at S1 A1
        rw [← hW] at S1 A1 ⊢
        clear hW
        obtain ⟨A, hA⟩ : ∃ A, A = w2.heap.size := ⟨_, rfl⟩
        rw [← hA] at A1 OA ⊢
        clear hA
        refine (do_nil ⟨k', a', b', n'⟩ HA2.out W).mono ?_
        rintro e w3 ⟨rfl, hb⟩
        have S2 := Lib.hid (S1.out.read hb)
        have A2 := Lib.hid (A1.out.below hb A1.out.lt)
        clear hb S1 A1
        obtain ⟨x0, x1, x2, x3⟩ : w3.cell? ⟨A, 0, none⟩ = some (.int .u8 k') ∧ w3.cell? ⟨A, 1, none⟩ = some (.int .i64 a') ∧ w3.cell? ⟨A, 2, none⟩ = some (.int .i64 b') ∧ w3.cell? ⟨A, 3, none⟩ = some (.int .i64 n') := ⟨A2.out.cell 0, A2.out.cell 1, A2.out.cell 2, A2.out.cell 3⟩
        have key := do_st S2.out.mem S2.out.pv R.out.good HA2.out rfl
        rw [S2.out.fb] at key
        have HK := Lib.hid key
        have R3 := R2
        clear key
        by_cases h8 : k' % 9 = 8
        · have hnc : nilC ⟨k', a', b', n'⟩ = 0 := if_pos h8
          rw [hnc]
          rw [h8] at hr
          clear hnc h8
          go_wp2_with fail
          refine HK.out.mono ?_
          rintro e w4 ⟨rfl, s', hM, hT, hf, hd⟩
          have S3 := Lib.hid (S2.out.step hM hT hf rfl)
          have R4 := Lib.hid (R2.out _ hd)
          clear hM hT hf hd
          go_wp2_with fail
          exact ⟨⟨k + 1, by omega, by omega, by go_num, s', _, S3.out, R4.out⟩, by simp [intOf]; omega⟩
        · have hnc : nilC ⟨k', a', b', n'⟩ = 1 := if_neg h8
          rw [hnc]
          have h8b : (k' % 9 != 8) = true := by simpa using h8
          have h8c : (k' % 9 == 8) = false := by simpa using h8
          clear hnc h8
          go_wp2_with fail
          refine HK.out.mono ?_
          rintro e w4 ⟨rfl, s', hM, hT, hf, hd⟩
          have S3 := Lib.hid (S2.out.step hM hT hf rfl)
          have R4 := Lib.hid (R2.out _ hd)
          clear hM hT hf hd
          go_wp2_with fail
          exact ⟨⟨k + 1, by omega, by omega, by go_num, s', _, S3.out, R4.out⟩, by simp [intOf]; omega⟩
      · have e60 : k = min L.length 60 := by omega
        rw [e60] at R
        go_wp2_with fail
        refine (fund_nil 1 _).mono ?_
        rintro e z1 ⟨rfl, hb⟩
        have S1 := Lib.hid ((S.out.read hb).alloc (.cells #[.int .i64 0, .int .i64 0, .int .i64 0, .int .i64 0, .int .i64 0] 31))
        clear hb S
        go_wp2_with fail
        generalize z1.alloc (.cells #[.int .i64 0, .int .i64 0, .int .i64 0, .int .i64 0, .int .i64 0] 31) = Z1 at *
        refine (free_nil 1 _).mono ?_
        rintro e z2 ⟨rfl, hb⟩
        have S2 := Lib.hid (S1.out.read hb)
        clear hb S1
        go_wp2_with fail
        refine (total_nil 1 _).mono ?_
        rintro e z3 ⟨rfl, hb⟩
        have S3 := Lib.hid (S2.out.read hb)
        clear hb S2
        go_wp2_with fail
        refine (encode_nil _).mono ?_
        rintro e z4 ⟨rfl, hb⟩
        have S4 := Lib.hid (S3.out.read hb)
        clear hb S3
        have key := encode_st S4.out.mem S4.out.pv R.out.good
        rw [S4.out.fb] at key
        have HK := Lib.hid key
        clear key
        go_wp2_with fail
        refine HK.out.mono ?_
        clear HK
        rintro e z5 ⟨rfl, hb⟩
        have S5 := Lib.hid (S4.out.read hb)
        have HI5 := Lib.hid (HI.out.below S5.out.below (Nat.le_refl _))
        clear hb S4
        go_wp2_with fail
        refine (played_any L a cap z5 HI5.out).mono ?_
        rintro e z6 ⟨rfl, s6, v6, hS6, hR6⟩
        have S6 := Lib.hid hS6
        have EQ : RowKit.Hid (v6.enc1 = v.enc1) := alike_code (alike_acts g0 (fun c hc => by
          obtain ⟨d, hd, rfl⟩ := List.mem_map.1 hc
          exact small_in (HI.out.in_ d (List.mem_of_mem_take hd))) R.out.acts hR6.acts)
        have key := encode_st S6.out.mem S6.out.pv hR6.good
        rw [S6.out.fb, EQ.out] at key
        have HK := Lib.hid key
        clear key hS6 hR6
        go_wp2_with fail
        refine HK.out.mono ?_
        rintro e z7 ⟨rfl, hb⟩
        have S7 := Lib.hid (S6.out.read hb)
        clear hb
        go_wp2_with fail
        go_ret
        exact ⟨rfl, HB0.out.trans ((S5.out.below.mono HB0.out.size).trans (S7.out.below.mono (by have := HB0.out.size; have := S5.out.below.size; omega)))⟩
    · have e60 : k = min L.length 60 := by omega
      rw [e60] at R
      go_wp2_with fail
      refine (fund_nil 1 _).mono ?_
      rintro e z1 ⟨rfl, hb⟩
      have S1 := Lib.hid ((S.out.read hb).alloc (.cells #[.int .i64 0, .int .i64 0, .int .i64 0, .int .i64 0, .int .i64 0] 31))
      clear hb S
      go_wp2_with fail
      generalize z1.alloc (.cells #[.int .i64 0, .int .i64 0, .int .i64 0, .int .i64 0, .int .i64 0] 31) = Z1 at *
      refine (free_nil 1 _).mono ?_
      rintro e z2 ⟨rfl, hb⟩
      have S2 := Lib.hid (S1.out.read hb)
      clear hb S1
      go_wp2_with fail
      refine (total_nil 1 _).mono ?_
      rintro e z3 ⟨rfl, hb⟩
      have S3 := Lib.hid (S2.out.read hb)
      clear hb S2
      go_wp2_with fail
      refine (encode_nil _).mono ?_
      rintro e z4 ⟨rfl, hb⟩
      have S4 := Lib.hid (S3.out.read hb)
      clear hb S3
      have key := encode_st S4.out.mem S4.out.pv R.out.good
      rw [S4.out.fb] at key
      have HK := Lib.hid key
      clear key
      go_wp2_with fail
      refine HK.out.mono ?_
      clear HK
      rintro e z5 ⟨rfl, hb⟩
      have S5 := Lib.hid (S4.out.read hb)
      have HI5 := Lib.hid (HI.out.below S5.out.below (Nat.le_refl _))
      clear hb S4
      go_wp2_with fail
      refine (played_any L a cap z5 HI5.out).mono ?_
      rintro e z6 ⟨rfl, s6, v6, hS6, hR6⟩
      have S6 := Lib.hid hS6
      have EQ : RowKit.Hid (v6.enc1 = v.enc1) := alike_code (alike_acts g0 (fun c hc => by
        obtain ⟨d, hd, rfl⟩ := List.mem_map.1 hc
        exact small_in (HI.out.in_ d (List.mem_of_mem_take hd))) R.out.acts hR6.acts)
      have key := encode_st S6.out.mem S6.out.pv hR6.good
      rw [S6.out.fb, EQ.out] at key
      have HK := Lib.hid key
      clear key hS6 hR6
      go_wp2_with fail
      refine HK.out.mono ?_
      rintro e z7 ⟨rfl, hb⟩
      have S7 := Lib.hid (S6.out.read hb)
      clear hb
      go_wp2_with fail
      go_ret
      exact ⟨rfl, HB0.out.trans ((S5.out.below.mono HB0.out.size).trans (S7.out.below.mono (by have := HB0.out.size; have := S5.out.below.size; omega)))⟩
end Go.Proofs.Ytmnkgjgaileokaa
