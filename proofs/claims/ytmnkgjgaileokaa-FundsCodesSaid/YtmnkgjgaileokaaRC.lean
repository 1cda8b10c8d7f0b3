/- The reference's Move, and the sum of all money. -/
import Derived.Test.YtmnkgjgaileokaaRB
namespace Go.Proofs.Ytmnkgjgaileokaa
open Go.RowKit

theorem perm_sum {l m : List Int} (h : l.Perm m) : l.sum = m.sum := by
  induction h with
  | nil => rfl
  | cons x _ ih => simp [ih]
  | swap x y l => simp; omega
  | trans _ _ a b => exact a.trans b
set_option maxRecDepth 100000 in
set_option maxHeartbeats 4000000 in
theorem rmove_any {w : World} {rb : Nat} {v : PV} {sl : Value} (h : RMem w rb v sl) (hg : Good v) (a b n : Int) (h4 : -9223372036854775808 ≤ n) (h5 : n ≤ 9223372036854775807) :
    Calls Try.prog 41 #[.pointer (some ⟨rb, 0, none⟩), .int .i64 a, .int .i64 b, .int .i64 n] w fun r w' => r = .returned (.int .i64 (v.move a b n).1) ∧ ∃ sl', RMem w' rb (v.move a b n).2 sl' ∧ RTurn w rb sl w' sl' := by
  by_cases ha : a ∈ v.ids
  case neg =>
    have hv : v.move a b n = (32, v) := if_pos (.inl ha)
    rw [hv]
    have HA := Lib.hid (find_no h (x := a) (fun e => ha ((sorted_mem v a).1 e)))
    by_cases hb : b ∈ v.ids
    · obtain ⟨k, hk, hkx⟩ := sorted_idx hb
      have HB := Lib.hid (find_yes h hg.snd k hk hkx)
      have H := Lib.hid h
      clear h hg ha hb hv hkx hk
      go_enter Try.func41, Try.ntmps41
      go_wp2_with fail
      refine HA.out.mono ?_
      rintro e w1 ⟨rfl, rfl⟩
      go_wp2_with fail
      refine HB.out.mono ?_
      rintro e w1 ⟨rfl, rfl⟩
      go_wp2_with fail
      go_ret
      exact ⟨rfl, sl, H.out, RTurn.refl _ _ _⟩
    · have HB := Lib.hid (find_no h (x := b) (fun e => hb ((sorted_mem v b).1 e)))
      have H := Lib.hid h
      clear h hg ha hb hv
      go_enter Try.func41, Try.ntmps41
      go_wp2_with fail
      refine HA.out.mono ?_
      rintro e w1 ⟨rfl, rfl⟩
      go_wp2_with fail
      refine HB.out.mono ?_
      rintro e w1 ⟨rfl, rfl⟩
      go_wp2_with fail
      go_ret
      exact ⟨rfl, sl, H.out, RTurn.refl _ _ _⟩
  obtain ⟨k, hk, hkx⟩ := sorted_idx ha
  have HA := Lib.hid (find_yes h hg.snd k hk hkx)
  by_cases hb : b ∈ v.ids
  case neg =>
    have hv : v.move a b n = (32, v) := if_pos (.inr hb)
    rw [hv]
    have HB := Lib.hid (find_no h (x := b) (fun e => hb ((sorted_mem v b).1 e)))
    have H := Lib.hid h
    clear h hg ha hb hv hkx hk
    go_enter Try.func41, Try.ntmps41
    go_wp2_with fail
    refine HA.out.mono ?_
    rintro e w1 ⟨rfl, rfl⟩
    go_wp2_with fail
    refine HB.out.mono ?_
    rintro e w1 ⟨rfl, rfl⟩
    go_wp2_with fail
    go_ret
    exact ⟨rfl, sl, H.out, RTurn.refl _ _ _⟩
  obtain ⟨j, hj, hjx⟩ := sorted_idx hb
  have HB := Lib.hid (find_yes h hg.snd j hj hjx)
  have hn0 : ¬ (a ∉ v.ids ∨ b ∉ v.ids) := fun e => by rcases e with e | e; exact e ha; exact e hb
  by_cases hn1 : n < 1
  · have hv : v.move a b n = (1, v) := by unfold PV.move; rw [if_neg hn0, if_pos (.inl hn1)]
    rw [hv]
    have H := Lib.hid h
    clear h hg ha hb hv hkx hk hjx hj hn0
    go_enter Try.func41, Try.ntmps41
    go_wp2_with fail
    refine HA.out.mono ?_
    rintro e w1 ⟨rfl, rfl⟩
    go_wp2_with fail
    refine HB.out.mono ?_
    rintro e w1 ⟨rfl, rfl⟩
    go_wp2_with fail
    go_ret
    exact ⟨rfl, sl, H.out, RTurn.refl _ _ _⟩
  by_cases hab : a = b
  · have hv : v.move a b n = (1, v) := by unfold PV.move; rw [if_neg hn0, if_pos (.inr hab)]
    rw [hv]
    have hkj : k = j := by
      rcases Nat.lt_trichotomy k j with h' | h' | h'
      · exact absurd (hkx.trans (hab.trans hjx.symm)) (idx_ne hg.snd hk hj (by omega))
      · exact h'
      · exact absurd (hkx.trans (hab.trans hjx.symm)) (idx_ne hg.snd hk hj (by omega))
    have H := Lib.hid h
    subst hkj
    clear h hg ha hb hv hkx hk hjx hj hn0 hab
    go_enter Try.func41, Try.ntmps41
    go_wp2_with fail
    refine HA.out.mono ?_
    rintro e w1 ⟨rfl, rfl⟩
    go_wp2_with fail
    refine HB.out.mono ?_
    rintro e w1 ⟨rfl, rfl⟩
    go_wp2_with fail
    go_ret
    exact ⟨rfl, sl, H.out, RTurn.refl _ _ _⟩
  have hkj : k ≠ j := fun e => by subst e; exact hab (hkx.symm.trans hjx)
  have hkjb : ((k : Int) == (j : Int)) = false := by simp; omega
  obtain ⟨g, cap, rfl, hg', hc1, hc2, hA⟩ := h.row.at_ k hk
  rw [hkx] at hA
  obtain ⟨a0, a1, a2, a3, a4, af⟩ := hA
  have c0 : w.cell? ⟨rb, 0, none⟩ = some (.slice (some ⟨g, 0, none⟩) v.sorted.length cap) := h.hd.cell 0
  have hz := h.hd.lt
  obtain ⟨⟨b1, b2⟩, ⟨b3, b4⟩, ⟨b5, b6⟩⟩ := hg.bd ha
  obtain ⟨⟨d1, d2⟩, _, _⟩ := hg.bd hb
  have hbl := hg.bal.le a ha
  have H := Lib.hid h
  have HN := Lib.hid hg.snd
  have HKX := Lib.hid hkx
  have HJX := Lib.hid hjx
  have HAB := Lib.hid hab
  obtain ⟨N, hN⟩ : ∃ N, v.sorted.length = N := ⟨_, rfl⟩
  have HNN := Lib.hid hN
  rw [hN] at hk hj hc1 c0 H
  rw [hN]
  clear h hg hkx hjx hN ha hb hkj
  by_cases hn2 : v.free a < n
  · have hv : v.move a b n = (60, v) := by unfold PV.move; rw [if_neg hn0, if_neg (by omega), if_pos hn2]
    rw [hv]
    unfold PV.free at *
    clear hv hn0 hab
    go_enter Try.func41, Try.ntmps41
    go_wp2_with fail
    refine HA.out.mono ?_
    rintro e w0 ⟨rfl, rfl⟩
    go_wp2_with fail
    refine HB.out.mono ?_
    rintro e w0 ⟨rfl, rfl⟩
    go_wp2_with fail
    refine (rfree_any a (v.pa a) (v.al a) (v.sp a) (v.en a) _ (by omega) (by omega) (by omega)).mono ?_
    rintro e w1 ⟨rfl, hb⟩
    have H1 := Lib.hid (H.out.below hb)
    have T1 : RowKit.Hid (RTurn w rb (.slice (some ⟨g, 0, none⟩) N cap) w1 (.slice (some ⟨g, 0, none⟩) N cap)) := RTurn.of_below hb
    clear hb a0 a1 a2 a3 a4 af c0 H
    go_wp2_with fail
    go_ret
    exact ⟨rfl, _, H1.out, T1.out⟩
  · have hv : v.move a b n = (0, { v with al := upd (upd v.al a (v.al a - n)) b (v.al b + n) }) := by unfold PV.move; rw [if_neg hn0, if_neg (by omega), if_neg hn2]
    rw [hv]
    unfold PV.free at *
    clear hv hn0 hab
    go_enter Try.func41, Try.ntmps41
    go_wp2_with fail
    refine HA.out.mono ?_
    rintro e w0 ⟨rfl, rfl⟩
    go_wp2_with fail
    refine HB.out.mono ?_
    rintro e w0 ⟨rfl, rfl⟩
    go_wp2_with fail
    refine (rfree_any a (v.pa a) (v.al a) (v.sp a) (v.en a) _ (by omega) (by omega) (by omega)).mono ?_
    rintro e w1 ⟨rfl, hb⟩
    have H1 := Lib.hid (H.out.below hb)
    have T1 : RowKit.Hid (RTurn w rb (.slice (some ⟨g, 0, none⟩) N cap) w1 (.slice (some ⟨g, 0, none⟩) N cap)) := RTurn.of_below hb
    clear hb a0 a1 a2 a3 a4 af c0 H hz hg'
    obtain ⟨g2, cap2, e, hg2, _, _, hA⟩ := H1.out.row.at_ k (by rw [HNN.out]; exact hk)
    rw [HNN.out] at e
    cases e
    rw [HKX.out] at hA
    obtain ⟨a0, a1, a2, a3, a4, af⟩ := hA
    have c0 : w1.cell? ⟨rb, 0, none⟩ = some (.slice (some ⟨g, 0, none⟩) N cap) := H1.out.hd.cell 0
    have hz1 := H1.out.hd.lt
    go_wp2_with fail
    refine wp_region_still_tail 17 (by kernel_rfl) (by kernel_rfl) ?_
    simp only [List.take_succ_cons, List.take_zero, List.drop_succ_cons, List.drop_zero]
    repeat still_step
    refine wpStill_nil ?_
    have hw : IntKind.i64.wrap (v.al a - n) = v.al a - n := by simp [IntKind.wrap, IntKind.bits, IntKind.signed]; omega
    simp only [hw]
    go_wp2_with fail
    obtain ⟨W, hW⟩ : ∃ W, W = (w1.setCell ⟨g, k * 5 + 2, none⟩ (.int .i64 (v.al a - n))).drew := ⟨_, rfl⟩
    have H2 : RowKit.Hid (RMem W rb { v with al := upd v.al a (v.al a - n) } (.slice (some ⟨g, 0, none⟩) N cap)) := by
      have h2 := H1.out
      rw [hW]
      rw [← HNN.out] at h2 ⊢
      exact (h2.set (v' := { v with al := upd v.al a (v.al a - n) }) HN.out (by rw [HNN.out]; exact hk) (by omega) HKX.out rfl (fun y i2 hi2 => cel_al v a _ y i2 hi2)).below ((Below.refl _ _).drew)
    have T2 : RowKit.Hid (RTurn w rb (.slice (some ⟨g, 0, none⟩) N cap) W (.slice (some ⟨g, 0, none⟩) N cap)) := by
      rw [hW]; exact (T1.out.trans (RTurn.set _ _ _ _ _ _ _)).trans (RTurn.of_below ((Below.refl _ _).drew))
    rw [← hW]
    clear hW H1 T1 a0 a1 a2 a3 a4 af c0 hz1 hg2 hw
    obtain ⟨g2, cap2, e, hg2, _, _, hA⟩ := H2.out.row.at_ j (by show j < v.sorted.length; rw [HNN.out]; exact hj)
    have e2 : (Value.slice (some ⟨g, 0, none⟩) N cap) = .slice (some ⟨g2, 0, none⟩) N cap2 := by rw [← HNN.out]; rw [← HNN.out] at e; exact e
    cases e2
    have hjx : (PV.sorted { v with al := upd v.al a (v.al a - n) })[j]'(by show j < v.sorted.length; rw [HNN.out]; exact hj) = b := HJX.out
    rw [hjx] at hA
    obtain ⟨a0, a1, a2, a3, a4, af⟩ := hA
    have a2' : W.cell? ⟨g, j * 5 + 2, none⟩ = some (.int .i64 (v.al b)) := by rw [a2]; show some (Value.int .i64 (upd v.al a (v.al a - n) b)) = _; rw [upd_ne _ _ (Ne.symm HAB.out)]
    have c0 : W.cell? ⟨rb, 0, none⟩ = some (.slice (some ⟨g, 0, none⟩) N cap) := H2.out.hd.cell 0
    have hz1 := H2.out.hd.lt
    clear a0 a1 a2 a3 a4 e hjx
    go_wp2_with fail
    refine wp_region_still_tail 17 (by kernel_rfl) (by kernel_rfl) ?_
    simp only [List.take_succ_cons, List.take_zero, List.drop_succ_cons, List.drop_zero]
    repeat still_step
    refine wpStill_nil ?_
    have hw : IntKind.i64.wrap (v.al b + n) = v.al b + n := by simp [IntKind.wrap, IntKind.bits, IntKind.signed]; omega
    simp only [hw]
    go_wp2_with fail
    go_ret
    refine ⟨rfl, .slice (some ⟨g, 0, none⟩) N cap, ?_, (T2.out.trans (RTurn.set _ _ _ _ _ _ _)).trans (RTurn.of_below ((Below.refl _ _).drew))⟩
    have h2 := H2.out
    rw [← HNN.out] at h2 ⊢
    exact (h2.set (v' := { v with al := upd (upd v.al a (v.al a - n)) b (v.al b + n) }) HN.out (by show j < v.sorted.length; rw [HNN.out]; exact hj) (by omega) HJX.out rfl (fun y i2 hi2 => cel_al { v with al := upd v.al a (v.al a - n) } b _ y i2 hi2)).below ((Below.refl _ _).drew)
set_option maxRecDepth 100000 in
set_option maxHeartbeats 2000000 in
theorem rall_any {w : World} {rb : Nat} {v : PV} {sl : Value} (h : RMem w rb v sl) (hg : Good v) :
    Calls Try.prog 65 #[.pointer (some ⟨rb, 0, none⟩)] w fun e w' => e = .returned (.int .i64 v.m) ∧ w = w' := by
  have hm : v.m = (v.sorted.map v.al).sum := by
    rw [hg.sum]; exact (perm_sum ((List.mergeSort_perm v.ids leI).map v.al)).symm
  obtain ⟨a, cap, rfl, hc1, hc2⟩ := h.row.form
  have c0 : w.cell? ⟨rb, 0, none⟩ = some (.slice a v.sorted.length cap) := h.hd.cell 0
  have hz := h.hd.lt
  have HR := Lib.hid h.row
  have HNN : RowKit.Hid (∀ x ∈ v.sorted, 0 ≤ v.al x) := fun x hx => (hg.bd ((sorted_mem v x).1 hx)).1.1
  have hb0 := hg.m0
  have HB : RowKit.Hid ((v.sorted.map v.al).sum ≤ 1000000000000000) := by rw [← hm]; exact hb0.2
  rw [hm]
  clear h hm hb0
  generalize v.sorted = S at *
  go_enter Try.func65, Try.ntmps65
  go_wp2_with fail
  go_loop [3, 4] (fun t i => ∃ k : Nat, k ≤ S.length ∧ i = .int .i64 k ∧ t = .int .i64 ((S.take k).map v.al).sum) (fun _ i => S.length - (intOf i).toNat)
  case atStart => exact ⟨0, by omega, rfl, by simp⟩
  case round =>
    obtain ⟨k, hk, rfl, rfl⟩ := hrel
    by_cases hkl : k < S.length
    · obtain ⟨g', cap', e, _, _, _, hB⟩ := HR.out.at_ k hkl
      cases e
      have b2 := hB.c2
      have hs := sum_step (g := v.al) S k hkl
      have h1 := sum_take (g := v.al) S (k + 1) HNN.out
      have h2 := sum_nonneg v.al (S.take k) (fun z hz => HNN.out z (List.mem_of_mem_take hz))
      have h3 := HNN.out _ (List.getElem_mem hkl)
      have h4 := HB.out
      rw [hs] at h1
      have HS := Lib.hid hs
      obtain ⟨A, hA⟩ : ∃ A, ((S.take k).map v.al).sum = A := ⟨_, rfl⟩
      obtain ⟨B, hB⟩ : ∃ B, v.al S[k] = B := ⟨_, rfl⟩
      rw [hA, hB] at h1 HS
      rw [hA] at h2
      rw [hB] at h3 b2
      rw [hA]
      have b5 : 0 ≤ A + B ∧ A + B ≤ 1000000000000000 := by omega
      clear hB hA hs h1 h4
      go_wp2_with fail
      go_round
      case rel => exact ⟨k + 1, by omega, by go_num, by rw [HS.out]⟩
      case measure => simp [intOf]; omega
    · obtain rfl : k = S.length := by omega
      go_wp2_with fail
      go_ret
      exact ⟨ret_int (by first | rfl | rw [List.take_length]), rfl⟩
end Go.Proofs.Ytmnkgjgaileokaa
