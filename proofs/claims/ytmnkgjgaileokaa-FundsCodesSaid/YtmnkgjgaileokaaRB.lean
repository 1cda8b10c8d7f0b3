/- The reference's Encumber, Release, Spend and Move. -/
import Derived.Test.YtmnkgjgaileokaaRA
import Derived.Test.YtmnkgjgaileokaaFS
import Derived.StillTailTactics
namespace Go.Proofs.Ytmnkgjgaileokaa
open Go.RowKit

theorem cel_al (v : PV) (x c y : Int) (i : Nat) (hi : i < 5) : PV.cel { v with al := upd v.al x c } y i = if y = x ∧ i = 2 then c else v.cel y i := by
  unfold PV.cel PV.row5 upd
  have : i = 0 ∨ i = 1 ∨ i = 2 ∨ i = 3 ∨ i = 4 := by omega
  rcases this with rfl | rfl | rfl | rfl | rfl <;> simp
theorem cel_sp (v : PV) (x c y : Int) (i : Nat) (hi : i < 5) : PV.cel { v with sp := upd v.sp x c } y i = if y = x ∧ i = 3 then c else v.cel y i := by
  unfold PV.cel PV.row5 upd
  have : i = 0 ∨ i = 1 ∨ i = 2 ∨ i = 3 ∨ i = 4 := by omega
  rcases this with rfl | rfl | rfl | rfl | rfl <;> simp
theorem cel_en (v : PV) (x c y : Int) (i : Nat) (hi : i < 5) : PV.cel { v with en := upd v.en x c } y i = if y = x ∧ i = 4 then c else v.cel y i := by
  unfold PV.cel PV.row5 upd
  have : i = 0 ∨ i = 1 ∨ i = 2 ∨ i = 3 ∨ i = 4 := by omega
  rcases this with rfl | rfl | rfl | rfl | rfl <;> simp
theorem RRow.set {w : World} {v v' : PV} {S : List Int} {g cap : Nat} (h : RRow w v S (.slice (some ⟨g, 0, none⟩) S.length cap)) (hn : S.Nodup) {k i : Nat} (hk : k < S.length) (hi : i < 5) {x c : Int} (hx : S[k] = x)
    (hv : ∀ y i2, i2 < 5 → v'.cel y i2 = if y = x ∧ i2 = i then c else v.cel y i2) : RRow (w.setCell ⟨g, k * 5 + i, none⟩ (.int .i64 c)) v' S (.slice (some ⟨g, 0, none⟩) S.length cap) := by
  rcases h with ⟨e, _⟩ | ⟨g', cap', cur, e, h2, h3, h4, h5, h6⟩
  · cases e
  · cases e
    have hb := (show Blk w g cur 31 from h2).set (k * 5 + i) (.int .i64 c)
    refine .inr ⟨g, cap, _, rfl, hb, h3, h4, by simpa using h5, fun j hj i2 hi2 => ?_⟩
    rw [hv _ _ hi2, Array.getElem?_setIfInBounds]
    by_cases e : k = j ∧ i = i2
    · obtain ⟨rfl, rfl⟩ := e
      rw [if_pos rfl, if_pos (by omega), if_pos ⟨hx, rfl⟩]
    · rw [if_neg (by omega), h6 j hj i2 hi2, if_neg]
      rintro ⟨e1, e2⟩
      apply e
      refine ⟨?_, e2.symm⟩
      rcases Nat.lt_trichotomy k j with h | h | h
      · exact absurd (e1.trans hx.symm) (idx_ne hn hj hk (by omega))
      · exact h
      · exact absurd (e1.trans hx.symm) (idx_ne hn hj hk (by omega))
theorem RMem.set {w : World} {rb : Nat} {v v' : PV} {g cap : Nat} (h : RMem w rb v (.slice (some ⟨g, 0, none⟩) v.sorted.length cap)) (hn : v.sorted.Nodup) {k i : Nat} (hk : k < v.sorted.length) (hi : i < 5) {x c : Int} (hx : v.sorted[k] = x)
    (hids : v'.ids = v.ids) (hv : ∀ y i2, i2 < 5 → v'.cel y i2 = if y = x ∧ i2 = i then c else v.cel y i2) : RMem (w.setCell ⟨g, k * 5 + i, none⟩ (.int .i64 c)) rb v' (.slice (some ⟨g, 0, none⟩) v.sorted.length cap) := by
  have hs : v'.sorted = v.sorted := by unfold PV.sorted; rw [hids]
  refine ⟨h.hd.set_ne _ _ (fun e => h.ne (by rw [e]; rfl)), ?_, h.ne⟩
  rw [hs]
  exact h.row.set hn hk hi hx hv
theorem RTurn.set (w : World) (rb g o n cap : Nat) (x : Value) : RTurn w rb (.slice (some ⟨g, 0, none⟩) n cap) (w.setCell ⟨g, o, none⟩ x) (.slice (some ⟨g, 0, none⟩) n cap) :=
  ⟨rfl, rfl, rfl, by simp, fun b _ _ h2 => Below.heap_setCell _ _ _ _ (fun e => h2 (by rw [e]; rfl)), fun r hr => .inl hr⟩
theorem RTurn.of_below {w w' : World} {rb : Nat} {sl : Value} (h : Below w.heap.size w w') : RTurn w rb sl w' sl := (RTurn.refl w rb sl).below h
theorem Good.bd {v : PV} (h : Good v) {x : Int} (hx : x ∈ v.ids) : (0 ≤ v.al x ∧ v.al x ≤ 1000000000000000) ∧ (0 ≤ v.sp x ∧ v.sp x ≤ 1000000000000000) ∧ (0 ≤ v.en x ∧ v.en x ≤ 1000000000000000) := by
  obtain ⟨h1, h2, h3, h4, h5⟩ := h.at0 x
  unfold PV.at0 PV.free0 at *
  simp only [if_pos hx] at *
  omega
set_option maxRecDepth 100000 in
set_option maxHeartbeats 4000000 in
theorem renc_any {w : World} {rb : Nat} {v : PV} {sl : Value} (h : RMem w rb v sl) (hg : Good v) (x n : Int) (h4 : -9223372036854775808 ≤ n) (h5 : n ≤ 9223372036854775807) :
    Calls Try.prog 42 #[.pointer (some ⟨rb, 0, none⟩), .int .i64 x, .int .i64 n] w fun r w' => r = .returned (.int .i64 (v.enc x n).1) ∧ ∃ sl', RMem w' rb (v.enc x n).2 sl' ∧ RTurn w rb sl w' sl' := by
  by_cases hx : x ∈ v.ids
  case neg =>
    have hv : v.enc x n = (32, v) := if_pos hx
    rw [hv]
    have HF := Lib.hid (find_no h (x := x) (fun e => hx ((sorted_mem v x).1 e)))
    have H := Lib.hid h
    clear h hg hx hv
    go_enter Try.func42, Try.ntmps42
    go_wp2_with fail
    refine HF.out.mono ?_
    rintro e w1 ⟨rfl, rfl⟩
    go_wp2_with fail
    go_ret
    exact ⟨rfl, sl, H.out, RTurn.refl _ _ _⟩
  obtain ⟨k, hk, hkx⟩ := sorted_idx hx
  have HF := Lib.hid (find_yes h hg.snd k hk hkx)
  obtain ⟨g, cap, rfl, hg', hc1, hc2, hA⟩ := h.row.at_ k hk
  rw [hkx] at hA
  obtain ⟨a0, a1, a2, a3, a4, af⟩ := hA
  have c0 : w.cell? ⟨rb, 0, none⟩ = some (.slice (some ⟨g, 0, none⟩) v.sorted.length cap) := h.hd.cell 0
  have hz := h.hd.lt
  obtain ⟨⟨b1, b2⟩, ⟨b3, b4⟩, ⟨b5, b6⟩⟩ := hg.bd hx
  have hbl := hg.bal.le x hx
  have H := Lib.hid h
  have HX := Lib.hid hx
  have HN := Lib.hid hg.snd
  have HKX := Lib.hid hkx
  obtain ⟨N, hN⟩ : ∃ N, v.sorted.length = N := ⟨_, rfl⟩
  have HNN := Lib.hid hN
  rw [hN] at hk hc1 c0 H
  rw [hN]
  clear h hg hkx hN
  by_cases hn1 : n < 0
  · have hv : v.enc x n = (1, v) := by unfold PV.enc; rw [if_neg (by simp [hx]), if_pos hn1]
    rw [hv]
    clear hx hv
    go_enter Try.func42, Try.ntmps42
    go_wp2_with fail
    refine HF.out.mono ?_
    rintro e w1 ⟨rfl, rfl⟩
    go_wp2_with fail
    go_ret
    exact ⟨rfl, _, H.out, RTurn.refl _ _ _⟩
  by_cases hn2 : v.free x < n
  · have hv : v.enc x n = (60, v) := by unfold PV.enc; rw [if_neg (by simp [hx]), if_neg hn1, if_pos hn2]
    rw [hv]
    unfold PV.free at *
    clear hx hv
    go_enter Try.func42, Try.ntmps42
    go_wp2_with fail
    refine HF.out.mono ?_
    rintro e w0 ⟨rfl, rfl⟩
    go_wp2_with fail
    refine (rfree_any x (v.pa x) (v.al x) (v.sp x) (v.en x) _ (by omega) (by omega) (by omega)).mono ?_
    rintro e w1 ⟨rfl, hb⟩
    have H1 := Lib.hid (H.out.below hb)
    have T1 : RowKit.Hid (RTurn w rb (.slice (some ⟨g, 0, none⟩) N cap) w1 (.slice (some ⟨g, 0, none⟩) N cap)) := RTurn.of_below hb
    clear hb a0 a1 a2 a3 a4 af c0 H
    obtain ⟨g2, cap2, e, hg2, _, _, hA⟩ := H1.out.row.at_ k (by rw [HNN.out]; exact hk)
    rw [HNN.out] at e
    cases e
    rw [HKX.out] at hA
    obtain ⟨a0, a1, a2, a3, a4, af⟩ := hA
    have c0 : w1.cell? ⟨rb, 0, none⟩ = some (.slice (some ⟨g, 0, none⟩) N cap) := H1.out.hd.cell 0
    have hz1 := H1.out.hd.lt
    clear hz hg'
    go_wp2_with fail
    go_ret
    exact ⟨rfl, _, H1.out, T1.out⟩
  · have hv : v.enc x n = (0, { v with en := upd v.en x (v.en x + n) }) := by unfold PV.enc; rw [if_neg (by simp [hx]), if_neg hn1, if_neg hn2]
    rw [hv]
    unfold PV.free at *
    clear hx hv
    go_enter Try.func42, Try.ntmps42
    go_wp2_with fail
    refine HF.out.mono ?_
    rintro e w0 ⟨rfl, rfl⟩
    go_wp2_with fail
    refine (rfree_any x (v.pa x) (v.al x) (v.sp x) (v.en x) _ (by omega) (by omega) (by omega)).mono ?_
    rintro e w1 ⟨rfl, hb⟩
    have H1 := Lib.hid (H.out.below hb)
    have T1 : RowKit.Hid (RTurn w rb (.slice (some ⟨g, 0, none⟩) N cap) w1 (.slice (some ⟨g, 0, none⟩) N cap)) := RTurn.of_below hb
    clear hb a0 a1 a2 a3 a4 af c0 H
    obtain ⟨g2, cap2, e, hg2, _, _, hA⟩ := H1.out.row.at_ k (by rw [HNN.out]; exact hk)
    rw [HNN.out] at e
    cases e
    rw [HKX.out] at hA
    obtain ⟨a0, a1, a2, a3, a4, af⟩ := hA
    have c0 : w1.cell? ⟨rb, 0, none⟩ = some (.slice (some ⟨g, 0, none⟩) N cap) := H1.out.hd.cell 0
    have hz1 := H1.out.hd.lt
    clear hz hg'
    go_wp2_with fail
    refine wp_region_still_tail 17 (by kernel_rfl) (by kernel_rfl) ?_
    simp only [List.take_succ_cons, List.take_zero, List.drop_succ_cons, List.drop_zero]
    repeat still_step
    refine wpStill_nil ?_
    have hw : IntKind.i64.wrap (v.en x + n) = v.en x + n := by simp [IntKind.wrap, IntKind.bits, IntKind.signed]; omega
    simp only [hw]
    go_wp2_with fail
    go_ret
    have hb1 : Below w1.heap.size w1 (w1.drewN 1) := (Below.refl _ _).drew
    have H2 := H1.out.below hb1
    refine ⟨rfl, .slice (some ⟨g, 0, none⟩) N cap, ?_, T1.out.trans ((RTurn.of_below hb1).trans (RTurn.set _ _ _ _ _ _ _))⟩
    rw [← HNN.out] at H2 ⊢
    exact H2.set HN.out (by rw [HNN.out]; exact hk) (by omega) HKX.out rfl (fun y i2 hi2 => cel_en v x _ y i2 hi2)
set_option maxRecDepth 100000 in
set_option maxHeartbeats 4000000 in
theorem rrel_any {w : World} {rb : Nat} {v : PV} {sl : Value} (h : RMem w rb v sl) (hg : Good v) (x n : Int) (h4 : -9223372036854775808 ≤ n) (h5 : n ≤ 9223372036854775807) :
    Calls Try.prog 43 #[.pointer (some ⟨rb, 0, none⟩), .int .i64 x, .int .i64 n] w fun r w' => r = .returned (.int .i64 (v.rel x n).1) ∧ ∃ sl', RMem w' rb (v.rel x n).2 sl' ∧ RTurn w rb sl w' sl' := by
  by_cases hx : x ∈ v.ids
  case neg =>
    have hv : v.rel x n = (32, v) := if_pos hx
    rw [hv]
    have HF := Lib.hid (find_no h (x := x) (fun e => hx ((sorted_mem v x).1 e)))
    have H := Lib.hid h
    clear h hg hx hv
    go_enter Try.func43, Try.ntmps43
    go_wp2_with fail
    refine HF.out.mono ?_
    rintro e w1 ⟨rfl, rfl⟩
    go_wp2_with fail
    go_ret
    exact ⟨rfl, sl, H.out, RTurn.refl _ _ _⟩
  obtain ⟨k, hk, hkx⟩ := sorted_idx hx
  have HF := Lib.hid (find_yes h hg.snd k hk hkx)
  obtain ⟨g, cap, rfl, hg', hc1, hc2, hA⟩ := h.row.at_ k hk
  rw [hkx] at hA
  obtain ⟨a0, a1, a2, a3, a4, af⟩ := hA
  have c0 : w.cell? ⟨rb, 0, none⟩ = some (.slice (some ⟨g, 0, none⟩) v.sorted.length cap) := h.hd.cell 0
  have hz := h.hd.lt
  obtain ⟨⟨b1, b2⟩, ⟨b3, b4⟩, ⟨b5, b6⟩⟩ := hg.bd hx
  have hbl := hg.bal.le x hx
  have H := Lib.hid h
  have HX := Lib.hid hx
  have HN := Lib.hid hg.snd
  have HKX := Lib.hid hkx
  obtain ⟨N, hN⟩ : ∃ N, v.sorted.length = N := ⟨_, rfl⟩
  have HNN := Lib.hid hN
  rw [hN] at hk hc1 c0 H
  rw [hN]
  clear h hg hkx hN
  by_cases hn1 : n < 0
  · have hv : v.rel x n = (1, v) := by unfold PV.rel; rw [if_neg (by simp [hx]), if_pos hn1]
    rw [hv]
    clear hx hv
    go_enter Try.func43, Try.ntmps43
    go_wp2_with fail
    refine HF.out.mono ?_
    rintro e w1 ⟨rfl, rfl⟩
    go_wp2_with fail
    go_ret
    exact ⟨rfl, _, H.out, RTurn.refl _ _ _⟩
  by_cases hn2 : v.en x < n
  · have hv : v.rel x n = (60, v) := by unfold PV.rel; rw [if_neg (by simp [hx]), if_neg hn1, if_pos hn2]
    rw [hv]
    unfold PV.free at *
    clear hx hv
    go_enter Try.func43, Try.ntmps43
    go_wp2_with fail
    refine HF.out.mono ?_
    rintro e w0 ⟨rfl, rfl⟩
    have H1 := H
    have T1 : RowKit.Hid (RTurn w rb (.slice (some ⟨g, 0, none⟩) N cap) w (.slice (some ⟨g, 0, none⟩) N cap)) := RTurn.refl _ _ _
    go_wp2_with fail
    go_ret
    exact ⟨rfl, _, H1.out, T1.out⟩
  · have hv : v.rel x n = (0, { v with en := upd v.en x (v.en x - n) }) := by unfold PV.rel; rw [if_neg (by simp [hx]), if_neg hn1, if_neg hn2]
    rw [hv]
    unfold PV.free at *
    clear hx hv
    go_enter Try.func43, Try.ntmps43
    go_wp2_with fail
    refine HF.out.mono ?_
    rintro e w0 ⟨rfl, rfl⟩
    have H1 := H
    have T1 : RowKit.Hid (RTurn w rb (.slice (some ⟨g, 0, none⟩) N cap) w (.slice (some ⟨g, 0, none⟩) N cap)) := RTurn.refl _ _ _
    go_wp2_with fail
    refine wp_region_still_tail 17 (by kernel_rfl) (by kernel_rfl) ?_
    simp only [List.take_succ_cons, List.take_zero, List.drop_succ_cons, List.drop_zero]
    repeat still_step
    refine wpStill_nil ?_
    have hw : IntKind.i64.wrap (v.en x - n) = v.en x - n := by simp [IntKind.wrap, IntKind.bits, IntKind.signed]; omega
    simp only [hw]
    go_wp2_with fail
    go_ret
    have hb1 : Below w.heap.size w (w.drewN 1) := (Below.refl _ _).drew
    have H2 := H1.out.below hb1
    refine ⟨rfl, .slice (some ⟨g, 0, none⟩) N cap, ?_, T1.out.trans ((RTurn.of_below hb1).trans (RTurn.set _ _ _ _ _ _ _))⟩
    rw [← HNN.out] at H2 ⊢
    exact H2.set HN.out (by rw [HNN.out]; exact hk) (by omega) HKX.out rfl (fun y i2 hi2 => cel_en v x _ y i2 hi2)
set_option maxRecDepth 100000 in
set_option maxHeartbeats 4000000 in
theorem rspend_any {w : World} {rb : Nat} {v : PV} {sl : Value} (h : RMem w rb v sl) (hg : Good v) (x n : Int) (h4 : -9223372036854775808 ≤ n) (h5 : n ≤ 9223372036854775807) :
    Calls Try.prog 44 #[.pointer (some ⟨rb, 0, none⟩), .int .i64 x, .int .i64 n] w fun r w' => r = .returned (.int .i64 (v.spend x n).1) ∧ ∃ sl', RMem w' rb (v.spend x n).2 sl' ∧ RTurn w rb sl w' sl' := by
  by_cases hx : x ∈ v.ids
  case neg =>
    have hv : v.spend x n = (32, v) := if_pos hx
    rw [hv]
    have HF := Lib.hid (find_no h (x := x) (fun e => hx ((sorted_mem v x).1 e)))
    have H := Lib.hid h
    clear h hg hx hv
    go_enter Try.func44, Try.ntmps44
    go_wp2_with fail
    refine HF.out.mono ?_
    rintro e w1 ⟨rfl, rfl⟩
    go_wp2_with fail
    go_ret
    exact ⟨rfl, sl, H.out, RTurn.refl _ _ _⟩
  obtain ⟨k, hk, hkx⟩ := sorted_idx hx
  have HF := Lib.hid (find_yes h hg.snd k hk hkx)
  obtain ⟨g, cap, rfl, hg', hc1, hc2, hA⟩ := h.row.at_ k hk
  rw [hkx] at hA
  obtain ⟨a0, a1, a2, a3, a4, af⟩ := hA
  have c0 : w.cell? ⟨rb, 0, none⟩ = some (.slice (some ⟨g, 0, none⟩) v.sorted.length cap) := h.hd.cell 0
  have hz := h.hd.lt
  obtain ⟨⟨b1, b2⟩, ⟨b3, b4⟩, ⟨b5, b6⟩⟩ := hg.bd hx
  have hbl := hg.bal.le x hx
  have H := Lib.hid h
  have HX := Lib.hid hx
  have HN := Lib.hid hg.snd
  have HKX := Lib.hid hkx
  obtain ⟨N, hN⟩ : ∃ N, v.sorted.length = N := ⟨_, rfl⟩
  have HNN := Lib.hid hN
  rw [hN] at hk hc1 c0 H
  rw [hN]
  clear h hg hkx hN
  by_cases hn1 : n < 0
  · have hv : v.spend x n = (1, v) := by unfold PV.spend; rw [if_neg (by simp [hx]), if_pos hn1]
    rw [hv]
    clear hx hv
    go_enter Try.func44, Try.ntmps44
    go_wp2_with fail
    refine HF.out.mono ?_
    rintro e w1 ⟨rfl, rfl⟩
    go_wp2_with fail
    go_ret
    exact ⟨rfl, _, H.out, RTurn.refl _ _ _⟩
  by_cases hn2 : v.free x < n
  · have hv : v.spend x n = (60, v) := by unfold PV.spend; rw [if_neg (by simp [hx]), if_neg hn1, if_pos hn2]
    rw [hv]
    unfold PV.free at *
    clear hx hv
    go_enter Try.func44, Try.ntmps44
    go_wp2_with fail
    refine HF.out.mono ?_
    rintro e w0 ⟨rfl, rfl⟩
    go_wp2_with fail
    refine (rfree_any x (v.pa x) (v.al x) (v.sp x) (v.en x) _ (by omega) (by omega) (by omega)).mono ?_
    rintro e w1 ⟨rfl, hb⟩
    have H1 := Lib.hid (H.out.below hb)
    have T1 : RowKit.Hid (RTurn w rb (.slice (some ⟨g, 0, none⟩) N cap) w1 (.slice (some ⟨g, 0, none⟩) N cap)) := RTurn.of_below hb
    clear hb a0 a1 a2 a3 a4 af c0 H
    obtain ⟨g2, cap2, e, hg2, _, _, hA⟩ := H1.out.row.at_ k (by rw [HNN.out]; exact hk)
    rw [HNN.out] at e
    cases e
    rw [HKX.out] at hA
    obtain ⟨a0, a1, a2, a3, a4, af⟩ := hA
    have c0 : w1.cell? ⟨rb, 0, none⟩ = some (.slice (some ⟨g, 0, none⟩) N cap) := H1.out.hd.cell 0
    have hz1 := H1.out.hd.lt
    clear hz hg'
    go_wp2_with fail
    go_ret
    exact ⟨rfl, _, H1.out, T1.out⟩
  · have hv : v.spend x n = (0, { v with sp := upd v.sp x (v.sp x + n) }) := by unfold PV.spend; rw [if_neg (by simp [hx]), if_neg hn1, if_neg hn2]
    rw [hv]
    unfold PV.free at *
    clear hx hv
    go_enter Try.func44, Try.ntmps44
    go_wp2_with fail
    refine HF.out.mono ?_
    rintro e w0 ⟨rfl, rfl⟩
    go_wp2_with fail
    refine (rfree_any x (v.pa x) (v.al x) (v.sp x) (v.en x) _ (by omega) (by omega) (by omega)).mono ?_
    rintro e w1 ⟨rfl, hb⟩
    have H1 := Lib.hid (H.out.below hb)
    have T1 : RowKit.Hid (RTurn w rb (.slice (some ⟨g, 0, none⟩) N cap) w1 (.slice (some ⟨g, 0, none⟩) N cap)) := RTurn.of_below hb
    clear hb a0 a1 a2 a3 a4 af c0 H
    obtain ⟨g2, cap2, e, hg2, _, _, hA⟩ := H1.out.row.at_ k (by rw [HNN.out]; exact hk)
    rw [HNN.out] at e
    cases e
    rw [HKX.out] at hA
    obtain ⟨a0, a1, a2, a3, a4, af⟩ := hA
    have c0 : w1.cell? ⟨rb, 0, none⟩ = some (.slice (some ⟨g, 0, none⟩) N cap) := H1.out.hd.cell 0
    have hz1 := H1.out.hd.lt
    clear hz hg'
    go_wp2_with fail
    refine wp_region_still_tail 17 (by kernel_rfl) (by kernel_rfl) ?_
    simp only [List.take_succ_cons, List.take_zero, List.drop_succ_cons, List.drop_zero]
    repeat still_step
    refine wpStill_nil ?_
    have hw : IntKind.i64.wrap (v.sp x + n) = v.sp x + n := by simp [IntKind.wrap, IntKind.bits, IntKind.signed]; omega
    simp only [hw]
    go_wp2_with fail
    go_ret
    have hb1 : Below w1.heap.size w1 (w1.drewN 1) := (Below.refl _ _).drew
    have H2 := H1.out.below hb1
    refine ⟨rfl, .slice (some ⟨g, 0, none⟩) N cap, ?_, T1.out.trans ((RTurn.of_below hb1).trans (RTurn.set _ _ _ _ _ _ _))⟩
    rw [← HNN.out] at H2 ⊢
    exact H2.set HN.out (by rw [HNN.out]; exact hk) (by omega) HKX.out rfl (fun y i2 hi2 => cel_sp v x _ y i2 hi2)
end Go.Proofs.Ytmnkgjgaileokaa
