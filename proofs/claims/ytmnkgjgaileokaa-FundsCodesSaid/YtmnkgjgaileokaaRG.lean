/- The reference's close. -/
import Derived.Test.YtmnkgjgaileokaaRC
namespace Go.Proofs.Ytmnkgjgaileokaa
open Go.RowKit

/-- The funds below one, in the reference's order. -/
def PV.kidR (v : PV) (x : Int) : List Int := v.sorted.filter fun y => v.pa y == x
/-- With nothing spent, and other money. -/
def PV.wi (v : PV) (al : Int → Int) : PV := { v with sp := fun _ => 0, al := al }
theorem wi_sorted (v : PV) (al : Int → Int) : (v.wi al).sorted = v.sorted := rfl
theorem kidR_perm {v : PV} (h : Good v) {x : Int} (hx : x ∈ v.ids) : (v.kidR x).Perm (v.kids x) := by
  rw [h.kid x hx]; exact (List.mergeSort_perm v.ids leI).filter _
theorem kidR_mem (v : PV) {x y : Int} : y ∈ v.kidR x ↔ y ∈ v.ids ∧ v.pa y = x := by unfold PV.kidR; rw [List.mem_filter, sorted_mem]; simp
theorem kidR_fix {v : PV} (h : Good v) : Fix v.ids (fun _ => 0) v.en v.kidR where
  nd := h.fix.nd
  sp := fun _ _ => Int.le_refl _
  en := h.fix.en
  idb := h.fix.idb
  kin := fun x hx y hy => h.fix.kin x hx y ((kidR_perm h hx).mem_iff.1 hy)
  kl := fun x hx => by rw [(kidR_perm h hx).length_eq]; exact h.fix.kl x hx
theorem kidR_deep {v : PV} (h : Good v) : ∀ (n : Nat) (x : Int), x ∈ v.ids → Deep v.kids n x → Deep v.kidR n x
  | 0, x, hx, hd => by
    have hd : v.kids x = [] := hd
    have := kidR_perm h hx
    rw [hd] at this
    exact List.perm_nil.1 this
  | n + 1, x, hx, hd => fun y hy => by
    have hy' := (kidR_perm h hx).mem_iff.1 hy
    exact kidR_deep h n y (h.fix.kin x hx y hy').1 (hd y hy')
def closeStep (v : PV) (n : Nat) (x : Int) (al : Int → Int) (y : Int) : Int → Int := stepA (fun _ => 0) v.en (liftA v.kidR (fun _ => 0) v.en n al y) x y
theorem filter_take (p : Int → Bool) (S : List Int) (k : Nat) (hk : k < S.length) : (S.take (k + 1)).filter p = (S.take k).filter p ++ if p S[k] then [S[k]] else [] := by
  rw [List.take_succ_eq_append_getElem hk, List.filter_append]
  congr 1
  cases h : p S[k] <;> simp [h]
theorem liftA_succ (v : PV) (n : Nat) (al : Int → Int) (x : Int) : liftA v.kidR (fun _ => 0) v.en (n + 1) al x = (v.kidR x).foldl (closeStep v n x) al := rfl
theorem bal_bd {v : PV} (h : Good v) {al : Int → Int} (hb : Bal v.ids (fun _ => 0) v.en al) {x : Int} (hx : x ∈ v.ids) : 0 ≤ al x ∧ al x ≤ 1000000000000000 ∧ 0 ≤ v.en x ∧ v.en x ≤ al x := by
  have h1 := hb.le x hx
  have h2 := h.fix.en x hx
  have h3 := Int.le_trans (le_sum al v.ids (fun z hz => by have := hb.le z hz; have := h.fix.en z hz; omega) hx) hb.sum
  omega
set_option maxRecDepth 100000 in
set_option maxHeartbeats 8000000 in
theorem close_kid {v : PV} (hg : Good v) {rb : Nat} {sl : Value} : ∀ (n : Nat) (w : World) (al : Int → Int) (x : Int), x ∈ v.ids → Deep v.kidR n x → Bal v.ids (fun _ => 0) v.en al → RMem w rb (v.wi al) sl →
    Calls Try.prog 70 #[.pointer (some ⟨rb, 0, none⟩), .int .i64 x] w fun r w' => r = .returned (.tuple #[]) ∧ RMem w' rb (v.wi (liftA v.kidR (fun _ => 0) v.en n al x)) sl ∧ RTurn w rb sl w' sl := by
  intro n
  induction n with
  | zero =>
    intro w al x hx hd hb h
    have hk0 : v.kidR x = [] := hd
    obtain ⟨a, cap, e, hc1, hc2⟩ := h.row.form
    rw [wi_sorted] at e hc1
    subst e
    have HM := Lib.hid h
    have HNK : RowKit.Hid (∀ k (hk : k < v.sorted.length), v.pa v.sorted[k] ≠ x) := fun k hk e => by
      have : v.sorted[k] ∈ v.kidR x := (kidR_mem v).2 ⟨(sorted_mem v _).1 (List.getElem_mem hk), e⟩
      rw [hk0] at this; cases this
    have hz := h.hd.lt
    have c0 : w.cell? ⟨rb, 0, none⟩ = some (.slice a v.sorted.length cap) := h.hd.cell 0
    clear h hd hb hx hk0
    go_enter Try.func70, Try.ntmps70
    go_wp2_with fail
    go_loop [4] (fun i => ∃ k : Nat, k ≤ v.sorted.length ∧ i = .int .i64 k) (fun i => v.sorted.length - (intOf i).toNat)
    case atStart => exact ⟨0, by omega, rfl⟩
    case round =>
      obtain ⟨k, hk, rfl⟩ := hrel
      by_cases hkl : k < v.sorted.length
      · obtain ⟨g, cap', e, hg', _, _, hA⟩ := HM.out.row.at_ k hkl
        cases e
        have p1 : w.cell? ⟨g, k * 5 + 1, none⟩ = some (.int .i64 (v.pa v.sorted[k])) := hA.c1
        have hnb : (v.pa v.sorted[k] != x) = true := by simpa using HNK.out k hkl
        clear hA
        go_wp2_with fail
        go_round
        case rel => exact ⟨k + 1, by omega, by go_num⟩
        case measure => simp [intOf]; omega
      · go_wp2_with fail
        go_end0
        exact ⟨rfl, HM.out, RTurn.refl _ _ _⟩
  | succ n ih =>
    intro w al x hx hd hb h
    obtain ⟨a, cap, e, hc1, hc2⟩ := h.row.form
    rw [wi_sorted] at e hc1
    subst e
    have HM := Lib.hid h
    have HIH := Lib.hid ih
    have HBAL := Lib.hid hb
    have HG := Lib.hid hg
    have HX := Lib.hid hx
    have HD := Lib.hid hd
    obtain ⟨q, hq, hqx⟩ := sorted_idx hx
    have HQ := Lib.hid hqx
    have HFIX := Lib.hid (kidR_fix hg)
    obtain ⟨S, hS⟩ : ∃ S, v.sorted = S := ⟨_, rfl⟩
    have HS := Lib.hid hS
    rw [hS] at hc1 HIH
    rw [hS]
    have hq2 : q < S.length := by rw [← hS]; exact hq
    have hs0 : RowKit.Hid (RMem w rb (v.wi al) (.slice a S.length cap)) := by rw [← hS]; exact HM.out
    clear h hd hx hqx hb hg ih hS
    go_enter Try.func70, Try.ntmps70
    go_wp2_with fail
    go_loopw [4] (fun i wr => ∃ (k : Nat) (al' : Int → Int), k ≤ S.length ∧ i = .int .i64 k ∧ al' = ((S.take k).filter fun y => v.pa y == x).foldl (closeStep v n x) al ∧ Bal v.ids (fun _ => 0) v.en al' ∧ RMem wr rb (v.wi al') (.slice a S.length cap) ∧ RTurn w rb (.slice a S.length cap) wr (.slice a S.length cap)) (fun i _ => S.length - (intOf i).toNat)
    case atStart => exact ⟨0, al, by omega, rfl, by simp, HBAL.out, hs0.out, RTurn.refl _ _ _⟩
    case round =>
      obtain ⟨k, al', hk, rfl, hal, hbal, hM, hT⟩ := hrel
      have HAL := Lib.hid hal
      have HB := Lib.hid hbal
      have H1 := Lib.hid hM
      have T1 := Lib.hid hT
      clear hal hbal hM hT
      have c0 : wr.cell? ⟨rb, 0, none⟩ = some (.slice a S.length cap) := H1.out.hd.cell 0
      have hz := H1.out.hd.lt
      by_cases hkl : k < S.length
      · have hks : k < v.sorted.length := by rw [HS.out]; exact hkl
        obtain ⟨g, cap', e, hg', _, _, hA⟩ := H1.out.row.at_ k hks
        have e2 : (Value.slice a S.length cap) = .slice (some ⟨g, 0, none⟩) S.length cap' := by have := HS.out; subst this; exact e
        cases e2
        clear e
        have hSk : (v.wi al').sorted[k] = S[k] := by have := HS.out; subst this; rfl
        rw [hSk] at hA
        have hyi : S[k] ∈ v.ids := by have := HS.out; subst this; exact (sorted_mem v _).1 (List.getElem_mem hks)
        have hft := filter_take (fun y => v.pa y == x) S k hkl
        obtain ⟨y, hy⟩ : ∃ y, S[k] = y := ⟨_, rfl⟩
        rw [hy] at hA hyi hft hSk
        have HYI := Lib.hid hyi
        have HFT := Lib.hid hft
        have HSK := Lib.hid hSk
        have p0 : wr.cell? ⟨g, k * 5, none⟩ = some (.int .i64 y) := hA.c0
        have p1 : wr.cell? ⟨g, k * 5 + 1, none⟩ = some (.int .i64 (v.pa y)) := hA.c1
        clear hA hyi hft hSk hy
        by_cases hpy : v.pa y = x
        · have hnb : (v.pa y != x) = false := by simpa using hpy
          have HPY := Lib.hid hpy
          have hfold : ((S.take (k + 1)).filter fun y => v.pa y == x).foldl (closeStep v n x) al = closeStep v n x al' y := by
            have e := HFT.out
            rw [if_pos (by simpa using hpy)] at e
            rw [e, List.foldl_append, ← HAL.out]; rfl
          have HFOLD := Lib.hid hfold
          have key := HIH.out wr al' y HYI.out (HD.out y ((kidR_mem v).2 ⟨HYI.out, HPY.out⟩)) HB.out H1.out
          have HK := Lib.hid key
          clear hfold hpy key
          go_wp2_with fail
          (with_reducible refine HK.out.mono ?_)
          rintro e w2 ⟨rfl, hM, hT⟩
          have H2 := Lib.hid hM
          have T2 := Lib.hid (T1.out.trans hT)
          have B2 := Lib.hid (liftA_bal HFIX.out n al' y HYI.out HB.out)
          clear hM hT HK H1 T1 p0 p1 c0 hz hg'
          obtain ⟨al2, hal2⟩ : ∃ al2, liftA v.kidR (fun _ => 0) v.en n al' y = al2 := ⟨_, rfl⟩
          have HAL2 := Lib.hid hal2
          rw [hal2] at H2 B2
          clear hal2
          have bd := bal_bd HG.out B2.out HYI.out
          have c0 : w2.cell? ⟨rb, 0, none⟩ = some (.slice (some ⟨g, 0, none⟩) S.length cap) := H2.out.hd.cell 0
          have hz := H2.out.hd.lt
          obtain ⟨g2, cap2, e, hg2, _, _, hA⟩ := H2.out.row.at_ k hks
          have e2 : (Value.slice (some ⟨g, 0, none⟩) S.length cap) = .slice (some ⟨g2, 0, none⟩) S.length cap2 := by have := HS.out; subst this; exact e
          cases e2
          have hSk2 : (v.wi al2).sorted[k] = y := HSK.out
          rw [hSk2] at hA
          have a0 : w2.cell? ⟨g, k * 5, none⟩ = some (.int .i64 y) := hA.c0
          have a1 : w2.cell? ⟨g, k * 5 + 1, none⟩ = some (.int .i64 (v.pa y)) := hA.c1
          have a2 : w2.cell? ⟨g, k * 5 + 2, none⟩ = some (.int .i64 (al2 y)) := hA.c2
          have a3 : w2.cell? ⟨g, k * 5 + 3, none⟩ = some (.int .i64 0) := hA.c3
          have a4 : w2.cell? ⟨g, k * 5 + 4, none⟩ = some (.int .i64 (v.en y)) := hA.c4
          clear hA e hSk2
          go_wp2_with fail
          have key := rfree_any y (v.pa y) (al2 y) 0 (v.en y) w2 (by omega) (by omega) (by omega)
          obtain ⟨F, hF⟩ : ∃ F, al2 y - 0 - v.en y = F := ⟨_, rfl⟩
          rw [hF] at key
          have bF : 0 ≤ F ∧ F ≤ 1000000000000000 := by omega
          have HKF := Lib.hid key
          have HF := Lib.hid hF
          clear key hF
          refine HKF.out.mono ?_
          rintro e w3 ⟨rfl, hb⟩
          have H3 := Lib.hid (H2.out.below hb)
          have T3 := Lib.hid (T2.out.below hb)
          clear hb H2 T2 a0 a1 a2 a3 a4 c0 hz hg2
          have hxy : y ≠ x := (HFIX.out.kin x HX.out y ((kidR_mem v).2 ⟨HYI.out, HPY.out⟩)).2
          have HXY := Lib.hid hxy
          have HFY := Lib.hid (find_yes H3.out HG.out.snd q (by show q < v.sorted.length; rw [HS.out]; exact hq2) HQ.out)
          clear hxy
          go_wp2_with fail
          refine HFY.out.mono ?_
          rintro e w4 ⟨rfl, rfl⟩
          obtain ⟨g2, cap2, e, hg2, _, _, hA⟩ := H3.out.row.at_ k hks
          have e2 : (Value.slice (some ⟨g, 0, none⟩) S.length cap) = .slice (some ⟨g2, 0, none⟩) S.length cap2 := by have := HS.out; subst this; exact e
          cases e2
          have hSk2 : (v.wi al2).sorted[k] = y := HSK.out
          rw [hSk2] at hA
          have a2 : w3.cell? ⟨g, k * 5 + 2, none⟩ = some (.int .i64 (al2 y)) := hA.c2
          have af := hA.fz
          have c0 : w3.cell? ⟨rb, 0, none⟩ = some (.slice (some ⟨g, 0, none⟩) S.length cap) := H3.out.hd.cell 0
          have hz := H3.out.hd.lt
          have bx := bal_bd HG.out B2.out HX.out
          clear hA e hSk2
          have hq0 : (0 : Int) ≤ (q : Int) := by omega
          go_wp2_with fail
          refine wp_region_still_tail 17 (by kernel_rfl) (by kernel_rfl) ?_
          simp only [List.take_succ_cons, List.take_zero, List.drop_succ_cons, List.drop_zero]
          repeat still_step
          refine wpStill_nil ?_
          have hw : IntKind.i64.wrap (al2 y - F) = al2 y - F := by simp [IntKind.wrap, IntKind.bits, IntKind.signed]; omega
          simp only [hw]
          go_wp2_with fail
          obtain ⟨W, hW⟩ : ∃ W, W = (w3.setCell ⟨g, k * 5 + 2, none⟩ (.int .i64 (al2 y - F))).drew := ⟨_, rfl⟩
          have H4 : RowKit.Hid (RMem W rb (v.wi (upd al2 y (al2 y - F))) (.slice (some ⟨g, 0, none⟩) S.length cap)) := by
            have h2 := H3.out
            rw [hW]
            have := HS.out
            subst this
            exact (h2.set (v' := v.wi (upd al2 y (al2 y - F))) HG.out.snd hks (by omega) HSK.out rfl (fun z i2 hi2 => cel_al (v.wi al2) y _ z i2 hi2)).below ((Below.refl _ _).drew)
          have T4 : RowKit.Hid (RTurn w rb (.slice (some ⟨g, 0, none⟩) S.length cap) W (.slice (some ⟨g, 0, none⟩) S.length cap)) := by
            rw [hW]; exact (T3.out.trans (RTurn.set _ _ _ _ _ _ _)).trans (RTurn.of_below ((Below.refl _ _).drew))
          rw [← hW]
          clear hW H3 T3 a2 af c0 hz hg2 hw HFY
          obtain ⟨g2, cap2, e, hg2, _, _, hA⟩ := H4.out.row.at_ q (by show q < v.sorted.length; rw [HS.out]; exact hq2)
          have e2 : (Value.slice (some ⟨g, 0, none⟩) S.length cap) = .slice (some ⟨g2, 0, none⟩) S.length cap2 := by have := HS.out; subst this; exact e
          cases e2
          have hqx : (PV.sorted (v.wi (upd al2 y (al2 y - F))))[q]'(by show q < v.sorted.length; rw [HS.out]; exact hq2) = x := HQ.out
          rw [hqx] at hA
          have a2 : W.cell? ⟨g, q * 5 + 2, none⟩ = some (.int .i64 (al2 x)) := by rw [hA.c2]; show some (Value.int .i64 (upd al2 y (al2 y - F) x)) = _; rw [upd_ne _ _ (Ne.symm HXY.out)]
          have af := hA.fz
          have c0 : W.cell? ⟨rb, 0, none⟩ = some (.slice (some ⟨g, 0, none⟩) S.length cap) := H4.out.hd.cell 0
          have hz := H4.out.hd.lt
          have hqN : (q : Int) < (S.length : Int) := by omega
          clear hA e hqx
          go_wp2_with fail
          refine wp_region_still_tail 17 (by kernel_rfl) (by kernel_rfl) ?_
          simp only [List.take_succ_cons, List.take_zero, List.drop_succ_cons, List.drop_zero]
          repeat still_step
          refine wpStill_nil ?_
          have hw : IntKind.i64.wrap (al2 x + F) = al2 x + F := by simp [IntKind.wrap, IntKind.bits, IntKind.signed]; omega
          simp only [hw]
          go_wp2_with fail
          have hst : closeStep v n x al' y = upd (upd al2 y (al2 y - F)) x (al2 x + F) := by
            unfold closeStep stepA
            rw [HAL2.out, HF.out]
          have hbal2 : Bal v.ids (fun _ => 0) v.en (closeStep v n x al' y) := by
            unfold closeStep
            rw [HAL2.out]
            exact stepA_bal HFIX.out B2.out HX.out HYI.out HXY.out
          have H5 : RMem ((W.setCell ⟨g, q * 5 + 2, none⟩ (.int .i64 (al2 x + F))).drew) rb (v.wi (closeStep v n x al' y)) (.slice (some ⟨g, 0, none⟩) S.length cap) := by
            rw [hst]
            have h2 := H4.out
            have := HS.out
            subst this
            exact (h2.set (v' := v.wi (upd (upd al2 y (al2 y - F)) x (al2 x + F))) HG.out.snd hq2 (by omega) HQ.out rfl (fun z i2 hi2 => cel_al (v.wi (upd al2 y (al2 y - F))) x _ z i2 hi2)).below ((Below.refl _ _).drew)
          exact ⟨⟨k + 1, closeStep v n x al' y, by omega, by go_num, HFOLD.out.symm, hbal2, H5, (T4.out.trans (RTurn.set _ _ _ _ _ _ _)).trans (RTurn.of_below ((Below.refl _ _).drew))⟩, by simp [intOf]; omega⟩
        · have hnb : (v.pa y != x) = true := by simpa using hpy
          have hfold : ((S.take (k + 1)).filter fun y => v.pa y == x).foldl (closeStep v n x) al = al' := by
            have e := HFT.out
            rw [if_neg (by simpa using hpy), List.append_nil] at e
            rw [e]; exact HAL.out.symm
          have HFOLD := Lib.hid hfold
          clear hfold hpy
          go_wp2_with fail
          exact ⟨⟨k + 1, al', by omega, by go_num, HFOLD.out.symm, HB.out, H1.out, T1.out⟩, by simp [intOf]; omega⟩
      · obtain rfl : k = S.length := by omega
        have hfin : al' = liftA v.kidR (fun _ => 0) v.en (n + 1) al x := by
          rw [HAL.out, List.take_length, ← HS.out]; rfl
        have HFIN := Lib.hid hfin
        clear hfin
        go_wp2_with fail
        go_end0
        exact ⟨rfl, by rw [← HFIN.out]; exact H1.out, T1.out⟩
set_option maxRecDepth 100000 in
set_option maxHeartbeats 8000000 in
theorem close_root {v : PV} (hg : Good v) {rb : Nat} {sl : Value} (w : World) (al : Int → Int) (hb : Bal v.ids (fun _ => 0) v.en al) (h : RMem w rb (v.wi al) sl) :
    Calls Try.prog 70 #[.pointer (some ⟨rb, 0, none⟩), .int .i64 0] w fun r w' => r = .returned (.tuple #[]) ∧ RMem w' rb (v.wi ((v.kidR 0).foldl (fun al y => liftA v.kidR (fun _ => 0) v.en v.ids.length al y) al)) sl ∧ RTurn w rb sl w' sl := by
    obtain ⟨n, hn⟩ : ∃ n, v.ids.length = n := ⟨_, rfl⟩
    have hx0 : (0 : Int) ∉ v.ids := fun e => by have := hg.fix.idb 0 e; omega
    have hdd : ∀ y ∈ v.ids, Deep v.kidR n y := fun y hy => kidR_deep hg n y hy (by rw [← hn]; exact hg.deep y hy)
    rw [hn]
    have ih := @close_kid v hg rb sl n
    obtain ⟨a, cap, e, hc1, hc2⟩ := h.row.form
    rw [wi_sorted] at e hc1
    subst e
    have HM := Lib.hid h
    have HIH := Lib.hid ih
    have HBAL := Lib.hid hb
    have HG := Lib.hid hg
    have HX0 := Lib.hid hx0
    have HD := Lib.hid hdd
    have HFIX := Lib.hid (kidR_fix hg)
    obtain ⟨S, hS⟩ : ∃ S, v.sorted = S := ⟨_, rfl⟩
    have HS := Lib.hid hS
    rw [hS] at hc1 HIH
    rw [hS]
    have hs0 : RowKit.Hid (RMem w rb (v.wi al) (.slice a S.length cap)) := by rw [← hS]; exact HM.out
    clear h hx0 hdd hb hg ih hS
    go_enter Try.func70, Try.ntmps70
    go_wp2_with fail
    go_loopw [4] (fun i wr => ∃ (k : Nat) (al' : Int → Int), k ≤ S.length ∧ i = .int .i64 k ∧ al' = ((S.take k).filter fun y => v.pa y == 0).foldl (fun al y => liftA v.kidR (fun _ => 0) v.en n al y) al ∧ Bal v.ids (fun _ => 0) v.en al' ∧ RMem wr rb (v.wi al') (.slice a S.length cap) ∧ RTurn w rb (.slice a S.length cap) wr (.slice a S.length cap)) (fun i _ => S.length - (intOf i).toNat)
    case atStart => exact ⟨0, al, by omega, rfl, by simp, HBAL.out, hs0.out, RTurn.refl _ _ _⟩
    case round =>
      obtain ⟨k, al', hk, rfl, hal, hbal, hM, hT⟩ := hrel
      have HAL := Lib.hid hal
      have HB := Lib.hid hbal
      have H1 := Lib.hid hM
      have T1 := Lib.hid hT
      clear hal hbal hM hT
      have c0 : wr.cell? ⟨rb, 0, none⟩ = some (.slice a S.length cap) := H1.out.hd.cell 0
      have hz := H1.out.hd.lt
      by_cases hkl : k < S.length
      · have hks : k < v.sorted.length := by rw [HS.out]; exact hkl
        obtain ⟨g, cap', e, hg', _, _, hA⟩ := H1.out.row.at_ k hks
        have e2 : (Value.slice a S.length cap) = .slice (some ⟨g, 0, none⟩) S.length cap' := by have := HS.out; subst this; exact e
        cases e2
        clear e
        have hSk : (v.wi al').sorted[k] = S[k] := by have := HS.out; subst this; rfl
        rw [hSk] at hA
        have hyi : S[k] ∈ v.ids := by have := HS.out; subst this; exact (sorted_mem v _).1 (List.getElem_mem hks)
        have hft := filter_take (fun y => v.pa y == 0) S k hkl
        obtain ⟨y, hy⟩ : ∃ y, S[k] = y := ⟨_, rfl⟩
        rw [hy] at hA hyi hft hSk
        have HYI := Lib.hid hyi
        have HFT := Lib.hid hft
        have HSK := Lib.hid hSk
        have p0 : wr.cell? ⟨g, k * 5, none⟩ = some (.int .i64 y) := hA.c0
        have p1 : wr.cell? ⟨g, k * 5 + 1, none⟩ = some (.int .i64 (v.pa y)) := hA.c1
        clear hA hyi hft hSk hy
        by_cases hpy : v.pa y = 0
        · have hnb : (v.pa y != 0) = false := by simpa using hpy
          have HPY := Lib.hid hpy
          have hfold : ((S.take (k + 1)).filter fun y => v.pa y == 0).foldl (fun al y => liftA v.kidR (fun _ => 0) v.en n al y) al = liftA v.kidR (fun _ => 0) v.en n al' y := by
            have e := HFT.out
            rw [if_pos (by simpa using hpy)] at e
            rw [e, List.foldl_append, ← HAL.out]; rfl
          have HFOLD := Lib.hid hfold
          have key := HIH.out wr al' y HYI.out (HD.out y HYI.out) HB.out H1.out
          have HK := Lib.hid key
          clear hfold hpy key
          go_wp2_with fail
          (with_reducible refine HK.out.mono ?_)
          rintro e w2 ⟨rfl, hM, hT⟩
          have H2 := Lib.hid hM
          have T2 := Lib.hid (T1.out.trans hT)
          have B2 := Lib.hid (liftA_bal HFIX.out n al' y HYI.out HB.out)
          clear hM hT HK H1 T1 p0 p1 c0 hz hg'
          obtain ⟨al2, hal2⟩ : ∃ al2, liftA v.kidR (fun _ => 0) v.en n al' y = al2 := ⟨_, rfl⟩
          have HAL2 := Lib.hid hal2
          rw [hal2] at H2 B2
          clear hal2
          have bd := bal_bd HG.out B2.out HYI.out
          have c0 : w2.cell? ⟨rb, 0, none⟩ = some (.slice (some ⟨g, 0, none⟩) S.length cap) := H2.out.hd.cell 0
          have hz := H2.out.hd.lt
          obtain ⟨g2, cap2, e, hg2, _, _, hA⟩ := H2.out.row.at_ k hks
          have e2 : (Value.slice (some ⟨g, 0, none⟩) S.length cap) = .slice (some ⟨g2, 0, none⟩) S.length cap2 := by have := HS.out; subst this; exact e
          cases e2
          have hSk2 : (v.wi al2).sorted[k] = y := HSK.out
          rw [hSk2] at hA
          have a0 : w2.cell? ⟨g, k * 5, none⟩ = some (.int .i64 y) := hA.c0
          have a1 : w2.cell? ⟨g, k * 5 + 1, none⟩ = some (.int .i64 (v.pa y)) := hA.c1
          have a2 : w2.cell? ⟨g, k * 5 + 2, none⟩ = some (.int .i64 (al2 y)) := hA.c2
          have a3 : w2.cell? ⟨g, k * 5 + 3, none⟩ = some (.int .i64 0) := hA.c3
          have a4 : w2.cell? ⟨g, k * 5 + 4, none⟩ = some (.int .i64 (v.en y)) := hA.c4
          clear hA e hSk2
          go_wp2_with fail
          have key := rfree_any y (v.pa y) (al2 y) 0 (v.en y) w2 (by omega) (by omega) (by omega)
          obtain ⟨F, hF⟩ : ∃ F, al2 y - 0 - v.en y = F := ⟨_, rfl⟩
          rw [hF] at key
          have bF : 0 ≤ F ∧ F ≤ 1000000000000000 := by omega
          have HKF := Lib.hid key
          have HF := Lib.hid hF
          clear key hF
          refine HKF.out.mono ?_
          rintro e w3 ⟨rfl, hb⟩
          have H3 := Lib.hid (H2.out.below hb)
          have T3 := Lib.hid (T2.out.below hb)
          clear hb H2 T2 a0 a1 a2 a3 a4 c0 hz hg2
          have HFN := Lib.hid (find_no H3.out (x := 0) (fun e => HX0.out ((sorted_mem v 0).1 e)))
          go_wp2_with fail
          refine HFN.out.mono ?_
          rintro e w4 ⟨rfl, rfl⟩
          go_wp2_with fail
          exact ⟨⟨k + 1, al2, by omega, by go_num, by rw [HFOLD.out, HAL2.out], B2.out, H3.out, T3.out⟩, by simp [intOf]; omega⟩
        · have hnb : (v.pa y != 0) = true := by simpa using hpy
          have hfold : ((S.take (k + 1)).filter fun y => v.pa y == 0).foldl (fun al y => liftA v.kidR (fun _ => 0) v.en n al y) al = al' := by
            have e := HFT.out
            rw [if_neg (by simpa using hpy), List.append_nil] at e
            rw [e]; exact HAL.out.symm
          have HFOLD := Lib.hid hfold
          clear hfold hpy
          go_wp2_with fail
          exact ⟨⟨k + 1, al', by omega, by go_num, HFOLD.out.symm, HB.out, H1.out, T1.out⟩, by simp [intOf]; omega⟩
      · obtain rfl : k = S.length := by omega
        have hfin : al' = (v.kidR 0).foldl (fun al y => liftA v.kidR (fun _ => 0) v.en n al y) al := by
          rw [HAL.out, List.take_length, ← HS.out]; rfl
        have HFIN := Lib.hid hfin
        clear hfin
        go_wp2_with fail
        go_end0
        exact ⟨rfl, by rw [← HFIN.out]; exact H1.out, T1.out⟩
end Go.Proofs.Ytmnkgjgaileokaa
