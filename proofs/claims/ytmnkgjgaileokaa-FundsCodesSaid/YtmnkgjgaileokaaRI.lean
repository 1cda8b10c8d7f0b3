/- The reference's Close. -/
import Derived.Test.YtmnkgjgaileokaaRH
namespace Go.Proofs.Ytmnkgjgaileokaa
open Go.RowKit

theorem RMem.cong {w : World} {rb : Nat} {v v' : PV} {sl : Value} (h : RMem w rb v sl) (hi : v'.ids = v.ids) (hr : ∀ x ∈ v.ids, v'.row5 x = v.row5 x) : RMem w rb v' sl := by
  have hs : v'.sorted = v.sorted := by unfold PV.sorted; rw [hi]
  refine ⟨h.hd, ?_, h.ne⟩
  rw [hs]
  rcases h.row with k | ⟨g, cap, cur, h1, h2, h3, h4, h5, h6⟩
  · exact .inl k
  · refine .inr ⟨g, cap, cur, h1, h2, h3, h4, h5, fun k hk i hi => ?_⟩
    have hx : v.sorted[k] ∈ v.ids := (sorted_mem v _).1 (List.getElem_mem hk)
    rw [h6 k hk i hi]
    unfold PV.cel; rw [hr _ hx]
theorem Good.treeR {v : PV} (h : Good v) : Tree v.sorted v.pa v.kidR where
  nd := h.snd
  kid := fun _ _ => rfl
  par := fun x hx => by
    rcases h.par x ((sorted_mem v x).1 hx) with e | e
    · exact .inl e
    · exact .inr ((sorted_mem v _).2 e)
  deep := fun x hx => by rw [sorted_len]; exact kidR_deep h _ x ((sorted_mem v x).1 hx) (h.deep x ((sorted_mem v x).1 hx))
  pos := fun x hx => by have := h.fix.idb x ((sorted_mem v x).1 hx); omega
/-- What the reference's Close leaves is what a year's end leaves. -/
theorem closeR_al {v : PV} (h : Good v) {z : Int} (hz : z ∈ v.ids) :
    (v.kidR 0).foldl (fun al y => liftA v.kidR (fun _ => 0) v.en v.ids.length al y) (fun z => v.al z - v.sp z) z = v.closeAl z := by
  have t := h.treeR
  have hl : v.ids.length = v.sorted.length := (sorted_len v).symm
  obtain ⟨r1, r2, _⟩ := roots_spec t v.en v.ids.length (v.kidR 0) (fun r hr => ⟨(sorted_mem v r).2 ((kidR_mem v).1 hr).1, ((kidR_mem v).1 hr).2⟩) (h.snd.filter _) (fun z => v.al z - v.sp z)
  unfold PV.closeAl
  by_cases hp : v.pa z = 0
  · rw [if_pos hp, r1 z ((kidR_mem v).2 ⟨hz, hp⟩)]
    have e1 := totF_sub (kids := v.kidR) (fun u => v.al u - v.sp u - v.en u) v.ids.length z
    have e2 := totF_sub (kids := v.kids) (fun u => v.al u - v.sp u - v.en u) v.ids.length z
    rw [totR h _ _ _ hz] at e1
    have e3 : (sub v.kidR v.ids.length z).map (fr v.en fun z => v.al z - v.sp z) = (sub v.kidR v.ids.length z).map fun u => v.al u - v.sp u - v.en u := rfl
    rw [e3]
    omega
  · rw [if_neg hp]
    obtain ⟨r, hr, hpr, hzr⟩ := below_root t ((sorted_mem v z).2 hz) hp
    rw [← hl] at hzr
    exact r2 z (List.mem_flatMap.2 ⟨r, (kidR_mem v).2 ⟨(sorted_mem v r).1 hr, hpr⟩, hzr⟩)
/-- The first k have nothing spent. -/
def PV.cl (v : PV) (k : Nat) : PV := { v with al := fun z => if z ∈ v.sorted.take k then v.al z - v.sp z else v.al z, sp := fun z => if z ∈ v.sorted.take k then 0 else v.sp z }
theorem not_take {S : List Int} (hn : S.Nodup) {k : Nat} (hk : k < S.length) : S[k] ∉ S.take k := by
  intro h
  obtain ⟨j, hj, e⟩ := List.getElem_of_mem h
  rw [List.length_take] at hj
  rw [List.getElem_take] at e
  exact idx_ne hn (by omega) hk (by omega) e
theorem cl_step {v : PV} (h : Good v) {k : Nat} (hk : k < v.sorted.length) {x : Int} (hx : v.sorted[k] = x) (y : Int) :
    PV.row5 { v.cl k with al := upd (v.cl k).al x (v.al x - v.sp x), sp := upd (v.cl k).sp x 0 } y = (v.cl (k + 1)).row5 y := by
  have hm : ∀ z, z ∈ v.sorted.take (k + 1) ↔ z ∈ v.sorted.take k ∨ z = x := fun z => by rw [List.take_succ_eq_append_getElem hk, hx]; simp
  have hxt : x ∉ v.sorted.take k := by rw [← hx]; exact not_take h.snd hk
  unfold PV.row5 PV.cl upd
  by_cases e : y = x
  · subst e
    simp [hm]
  · simp [hm, e]
set_option maxRecDepth 100000 in
set_option maxHeartbeats 8000000 in
theorem rclose_any {w : World} {rb : Nat} {v u : PV} {sl : Value} (h : RMem w rb v sl) (hg : Good v) (hu : Closed v u) :
    Calls Try.prog 45 #[.pointer (some ⟨rb, 0, none⟩)] w fun r w' => r = .returned (.int .i64 (v.ids.map v.sp).sum) ∧ RMem w' rb u sl ∧ RTurn w rb sl w' sl := by
  have hsum : (v.ids.map v.sp).sum = (v.sorted.map v.sp).sum := (perm_sum ((List.mergeSort_perm v.ids leI).map v.sp)).symm
  rw [hsum]
  have hb : Bal v.ids (fun _ => 0) v.en (fun z => v.al z - v.sp z) := ⟨fun z hz => by have := hg.bal.le z hz; show 0 + v.en z ≤ v.al z - v.sp z; omega,
        Int.le_trans (sum_mono _ fun z hz => by have := hg.fix.sp z hz; show v.al z - v.sp z ≤ v.al z; omega) hg.bal.sum⟩
  have HB := Lib.hid hb
  have HU := Lib.hid hu
  have HG := Lib.hid hg
  have hm2 := hg.money.2.1
  have HNN : RowKit.Hid (∀ x ∈ v.sorted, 0 ≤ v.sp x) := fun x hx => hm2.nn x ((sorted_mem v x).1 hx)
  have HLE : RowKit.Hid ((v.sorted.map v.sp).sum ≤ 1000000000000000) := by rw [← hsum]; exact hm2.le
  have H0 : RowKit.Hid (RMem w rb (v.cl 0) sl) := h.cong rfl fun x _ => by unfold PV.row5 PV.cl; simp
  obtain ⟨a, cap, rfl, hc1, hc2⟩ := h.row.form
  clear h hg hu hb hsum hm2
  go_enter Try.func45, Try.ntmps45
  go_wp2_with fail
  go_loopw [3, 4] (fun t i wr => ∃ k : Nat, k ≤ v.sorted.length ∧ i = .int .i64 k ∧ t = .int .i64 ((v.sorted.take k).map v.sp).sum ∧ RMem wr rb (v.cl k) (.slice a v.sorted.length cap) ∧ RTurn w rb (.slice a v.sorted.length cap) wr (.slice a v.sorted.length cap)) (fun _ i _ => v.sorted.length - (intOf i).toNat)
  case atStart => exact ⟨0, by omega, rfl, by simp, H0.out, RTurn.refl _ _ _⟩
  case round =>
    obtain ⟨k, hk, rfl, rfl, hM, hT⟩ := hrel
    have H1 := Lib.hid hM
    have T1 := Lib.hid hT
    clear hM hT H0
    have c0 : wr.cell? ⟨rb, 0, none⟩ = some (.slice a v.sorted.length cap) := H1.out.hd.cell 0
    have hz := H1.out.hd.lt
    by_cases hkl : k < v.sorted.length
    · obtain ⟨g, cap', e, hg', _, _, hA⟩ := H1.out.row.at_ k hkl
      have e2 : (Value.slice a v.sorted.length cap) = .slice (some ⟨g, 0, none⟩) v.sorted.length cap' := e
      cases e2
      have hxx : (v.cl k).sorted[k]'hkl = v.sorted[k] := rfl
      rw [hxx] at hA
      have hs := sum_step (g := v.sp) v.sorted k hkl
      have h1 := sum_take (g := v.sp) v.sorted (k + 1) HNN.out
      have h2 := sum_nonneg v.sp (v.sorted.take k) (fun z hz => HNN.out z (List.mem_of_mem_take hz))
      have h4 := HLE.out
      have hnt := not_take HG.out.snd hkl
      obtain ⟨x, hx⟩ : ∃ x, v.sorted[k] = x := ⟨_, rfl⟩
      have hxi : x ∈ v.ids := by rw [← hx]; exact (sorted_mem v _).1 (List.getElem_mem hkl)
      rw [hx] at hA hs hnt
      obtain ⟨⟨b1, b2⟩, ⟨b3, b4⟩, _⟩ := HG.out.bd hxi
      have hbl := HG.out.bal.le x hxi
      have hen := HG.out.fix.en x hxi
      have q2 : wr.cell? ⟨g, k * 5 + 2, none⟩ = some (.int .i64 (v.al x)) := by rw [hA.c2]; show some (Value.int .i64 (if x ∈ v.sorted.take k then v.al x - v.sp x else v.al x)) = _; rw [if_neg hnt]
      have q3 : wr.cell? ⟨g, k * 5 + 3, none⟩ = some (.int .i64 (v.sp x)) := by rw [hA.c3]; show some (Value.int .i64 (if x ∈ v.sorted.take k then 0 else v.sp x)) = _; rw [if_neg hnt]
      have af := hA.fz
      rw [hs] at h1
      have HS := Lib.hid hs
      have HX := Lib.hid hx
      obtain ⟨A, hA2⟩ : ∃ A, ((v.sorted.take k).map v.sp).sum = A := ⟨_, rfl⟩
      rw [hA2] at h1 h2 HS
      rw [hA2]
      have b5 : 0 ≤ A + v.sp x ∧ A + v.sp x ≤ 1000000000000000 := by omega
      clear hA hxx hs h1 h4 hnt hx hxi hA2 e
      go_wp2_with fail
      refine wp_region_still_tail 24 (by kernel_rfl) (by kernel_rfl) ?_
      simp only [List.take_succ_cons, List.take_zero, List.drop_succ_cons, List.drop_zero]
      repeat still_step
      refine wpStill_nil ?_
      have hw : IntKind.i64.wrap (v.al x - v.sp x) = v.al x - v.sp x := by simp [IntKind.wrap, IntKind.bits, IntKind.signed]; omega
      simp only [hw]
      go_wp2_with fail
      have H2 := H1.out.set (v' := { v.cl k with al := upd (v.cl k).al x (v.al x - v.sp x) }) HG.out.snd hkl (by omega : 2 < 5) HX.out rfl (fun y i2 hi2 => cel_al (v.cl k) x (v.al x - v.sp x) y i2 hi2)
      have H3 := RMem.set (v' := { v.cl k with al := upd (v.cl k).al x (v.al x - v.sp x), sp := upd (v.cl k).sp x 0 }) H2 HG.out.snd hkl (by omega : 3 < 5) HX.out rfl (fun y i2 hi2 => cel_sp { v.cl k with al := upd (v.cl k).al x (v.al x - v.sp x) } x 0 y i2 hi2)
      have H4 := (H3.cong (v' := v.cl (k + 1)) rfl (fun y _ => (cl_step HG.out hkl HX.out y).symm)).below ((Below.refl _ _).drew)
      exact ⟨⟨k + 1, by omega, by go_num, by rw [HS.out], H4, ((T1.out.trans (RTurn.set _ _ _ _ _ _ _)).trans (RTurn.set _ _ _ _ _ _ _)).trans (RTurn.of_below ((Below.refl _ _).drew))⟩, by simp [intOf]; omega⟩
    · obtain rfl : k = v.sorted.length := by omega
      have H2 : RMem wr rb (v.wi fun z => v.al z - v.sp z) (.slice a v.sorted.length cap) := H1.out.cong rfl fun y hy => by
        have hy : y ∈ v.sorted.take v.sorted.length := by rw [List.take_length]; exact (sorted_mem v y).2 hy
        unfold PV.row5 PV.cl PV.wi
        simp only [if_pos hy]
      have HK := Lib.hid (close_root HG.out wr _ HB.out H2)
      have HFIN : RowKit.Hid (∀ w', RMem w' rb (v.wi ((v.kidR 0).foldl (fun al y => liftA v.kidR (fun _ => 0) v.en v.ids.length al y) fun z => v.al z - v.sp z)) (.slice a v.sorted.length cap) → RMem w' rb u (.slice a v.sorted.length cap)) := fun w' hw => hw.cong HU.out.ids fun y hy => by
        have e1 := closed_al HG.out HU.out y hy
        have e2 := closeR_al HG.out hy
        unfold PV.row5 PV.wi
        rw [HU.out.pa, HU.out.en, e1.1, e1.2, ← e2]
      clear H2
      go_wp2_with fail
      refine HK.out.mono ?_
      rintro e w2 ⟨rfl, hM, hT⟩
      have H3 := Lib.hid (HFIN.out _ hM)
      have T2 := Lib.hid (T1.out.trans hT)
      clear hM hT
      go_wp2_with fail
      go_ret
      exact ⟨ret_int (by first | rfl | rw [List.take_length]), H3.out, T2.out⟩
end Go.Proofs.Ytmnkgjgaileokaa
