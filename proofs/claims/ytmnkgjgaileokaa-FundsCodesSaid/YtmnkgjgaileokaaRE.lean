/- The contract of the reference's Add. -/
import Derived.Test.YtmnkgjgaileokaaRF
namespace Go.Proofs.Ytmnkgjgaileokaa
open Go.RowKit

set_option maxRecDepth 100000 in
set_option maxHeartbeats 8000000 in
theorem radd_any {w : World} {rb : Nat} {v : PV} {sl : Value} (h : RMem w rb v sl) (hg : Good v) (x p a : Int) (h0 : -9223372036854775808 ≤ x) (h1 : x ≤ 9223372036854775807) (h2 : -9223372036854775808 ≤ p) (h3 : p ≤ 9223372036854775807) (h4 : -9223372036854775808 ≤ a) (h5 : a ≤ 9223372036854775807) :
    Calls Try.prog 40 #[.pointer (some ⟨rb, 0, none⟩), .int .i64 x, .int .i64 p, .int .i64 a] w fun r w' => r = .returned (.int .i64 (v.add x p a).1) ∧ ∃ sl', RMem w' rb (v.add x p a).2 sl' ∧ RTurn w rb sl w' sl' := by
  by_cases ha : x < 1 ∨ min p a < 0
  · have hv : v.add x p a = (1, v) := if_pos ha
    rw [hv]
    have H := Lib.hid h
    have h3' : x < 1 ∨ (¬ x < 1 ∧ p < 0) ∨ (¬ x < 1 ∧ ¬ p < 0 ∧ a < 0) := by omega
    clear h hg hv ha
    rcases h3' with h6 | ⟨h6, h7⟩ | ⟨h6, h7, h8⟩
    all_goals
      go_enter Try.func40, Try.ntmps40
      go_wp2_with fail
      go_ret
      exact ⟨rfl, sl, H.out, RTurn.refl _ _ _⟩
  have a1 : ¬ x < 1 := by omega
  have a2 : ¬ p < 0 := by omega
  have a3 : ¬ a < 0 := by omega
  by_cases hx : x ∈ v.ids
  · have hv : v.add x p a = (22, v) := by unfold PV.add; rw [if_neg ha, if_pos hx]
    rw [hv]
    obtain ⟨k, hk, hkx⟩ := sorted_idx hx
    have HF := Lib.hid (find_yes h hg.snd k hk hkx)
    have H := Lib.hid h
    clear h hg hv ha hx hkx hk
    go_enter Try.func40, Try.ntmps40
    go_wp2_with fail
    refine HF.out.mono ?_
    rintro e w1 ⟨rfl, rfl⟩
    go_wp2_with fail
    go_ret
    exact ⟨rfl, sl, H.out, RTurn.refl _ _ _⟩
  have HF := Lib.hid (find_no h (x := x) (fun e => hx ((sorted_mem v x).1 e)))
  by_cases hp : p ≠ 0 ∧ p ∉ v.ids
  · have hv : v.add x p a = (32, v) := by unfold PV.add; rw [if_neg ha, if_neg hx, if_pos hp]
    rw [hv]
    have HP := Lib.hid (find_no h (x := p) (fun e => hp.2 ((sorted_mem v p).1 e)))
    have hpb : (p != 0) = true := by simpa using hp.1
    have H := Lib.hid h
    clear h hg hv ha hx hp
    go_enter Try.func40, Try.ntmps40
    go_wp2_with fail
    refine HF.out.mono ?_
    rintro e w1 ⟨rfl, rfl⟩
    clear HF
    go_wp2_with fail
    refine HP.out.mono ?_
    rintro e w1 ⟨rfl, rfl⟩
    go_wp2_with fail
    go_ret
    exact ⟨rfl, sl, H.out, RTurn.refl _ _ _⟩
  -- the parent is there, or none is wanted
  have HPP : RowKit.Hid (p = 0 ∨ ∃ k : Nat, p ∈ v.ids ∧ p ≠ 0 ∧ Calls Try.prog 68 #[.pointer (some ⟨rb, 0, none⟩), .int .i64 p] w fun e w' => e = .returned (.int .i64 k) ∧ w = w') := by
    by_cases e : p = 0
    · exact .inl e
    · have hpi : p ∈ v.ids := Classical.byContradiction fun e2 => hp ⟨e, e2⟩
      obtain ⟨k, hk, hkx⟩ := sorted_idx hpi
      exact .inr ⟨k, hpi, e, find_yes h hg.snd k hk hkx⟩
  have HALL := Lib.hid (rall_any h hg)
  have hm := hg.m0
  obtain ⟨sa, cap, rfl, hc1, hc2⟩ := h.row.form
  have c0 : w.cell? ⟨rb, 0, none⟩ = some (.slice sa v.sorted.length cap) := h.hd.cell 0
  have hz := h.hd.lt
  have H := Lib.hid h
  have HSL : RowKit.Hid (v.sorted.length = v.ids.length) := sorted_len v
  by_cases hlim : 10000 ≤ v.ids.length ∨ 1000000000000000 - v.m < a
  · have hv : v.add x p a = (2, v) := by unfold PV.add; rw [if_neg ha, if_neg hx, if_neg hp, if_pos hlim]
    rw [hv]
    rw [← HSL.out] at hlim
    generalize v.sorted.length = N at *
    have hlim' : 10000 ≤ N ∨ (¬ 10000 ≤ N ∧ 1000000000000000 - v.m < a) := by omega
    clear h hg hv ha hx hp hlim
    rcases HPP.out with rfl | ⟨k, _, hp0, HP⟩
    · rcases hlim' with h6 | ⟨h6, h7⟩
      · go_enter Try.func40, Try.ntmps40
        go_wp2_with fail
        refine HF.out.mono ?_
        rintro e w1 ⟨rfl, rfl⟩
        go_wp2_with fail
        go_ret
        exact ⟨rfl, _, H.out, RTurn.refl _ _ _⟩
      · go_enter Try.func40, Try.ntmps40
        go_wp2_with fail
        refine HF.out.mono ?_
        rintro e w1 ⟨rfl, rfl⟩
        go_wp2_with fail
        refine HALL.out.mono ?_
        rintro e w1 ⟨rfl, rfl⟩
        go_wp2_with fail
        go_ret
        exact ⟨rfl, _, H.out, RTurn.refl _ _ _⟩
    · have hpb : (p != 0) = true := by simpa using hp0
      have HP := Lib.hid HP
      clear hp0
      rcases hlim' with h6 | ⟨h6, h7⟩
      · go_enter Try.func40, Try.ntmps40
        go_wp2_with fail
        refine HF.out.mono ?_
        rintro e w1 ⟨rfl, rfl⟩
        clear HF
        go_wp2_with fail
        refine HP.out.mono ?_
        rintro e w1 ⟨rfl, rfl⟩
        go_wp2_with fail
        go_ret
        exact ⟨rfl, _, H.out, RTurn.refl _ _ _⟩
      · go_enter Try.func40, Try.ntmps40
        go_wp2_with fail
        refine HF.out.mono ?_
        rintro e w1 ⟨rfl, rfl⟩
        clear HF
        go_wp2_with fail
        refine HP.out.mono ?_
        rintro e w1 ⟨rfl, rfl⟩
        go_wp2_with fail
        refine HALL.out.mono ?_
        rintro e w1 ⟨rfl, rfl⟩
        go_wp2_with fail
        go_ret
        exact ⟨rfl, _, H.out, RTurn.refl _ _ _⟩
  exact radd_yes h hg x p a h0 h1 h2 h3 h4 h5 ha hx hp hlim
end Go.Proofs.Ytmnkgjgaileokaa
