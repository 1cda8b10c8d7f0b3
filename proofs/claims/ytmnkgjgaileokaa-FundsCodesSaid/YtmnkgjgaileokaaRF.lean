/- The reference's Add: where a fund is added. -/
import Derived.Test.YtmnkgjgaileokaaRD
namespace Go.Proofs.Ytmnkgjgaileokaa
open Go.RowKit
attribute [local go_sem] over_cell over_frozen

theorem grow_blk5 {w w2 : World} {b : Nat} {xs : Array Value} {T : TypeId} {row : Option Nat} (h : Blk w b xs T) (hg : w.grownBy w2 row) (hne : row ≠ some b) : Blk w2 b xs T := by
  unfold Blk; rw [hg.block b h.lt (fun e => hne e.symm)]; exact h
theorem RTurn.put5 (w : World) (rb g o n cap : Nat) (x y z u q : Int) : RTurn w rb (.slice (some ⟨g, 0, none⟩) n cap) (put5 w g o x y z u q) (.slice (some ⟨g, 0, none⟩) n cap) :=
  ((((RTurn.set w rb g _ n cap _).trans (RTurn.set _ rb g _ n cap _)).trans (RTurn.set _ rb g _ n cap _)).trans (RTurn.set _ rb g _ n cap _)).trans (RTurn.set _ rb g _ n cap _)
set_option maxRecDepth 100000 in
set_option maxHeartbeats 8000000 in
theorem radd_yes {w : World} {rb : Nat} {v : PV} {sl : Value} (h : RMem w rb v sl) (hg : Good v) (x p a : Int) (h0 : -9223372036854775808 ≤ x) (h1 : x ≤ 9223372036854775807) (h2 : -9223372036854775808 ≤ p) (h3 : p ≤ 9223372036854775807) (h4 : -9223372036854775808 ≤ a) (h5 : a ≤ 9223372036854775807)
    (ha : ¬ (x < 1 ∨ min p a < 0)) (hx : x ∉ v.ids) (hp : ¬ (p ≠ 0 ∧ p ∉ v.ids)) (hlim : ¬ (10000 ≤ v.ids.length ∨ 1000000000000000 - v.m < a)) :
    Calls Try.prog 40 #[.pointer (some ⟨rb, 0, none⟩), .int .i64 x, .int .i64 p, .int .i64 a] w fun r w' => r = .returned (.int .i64 (v.add x p a).1) ∧ ∃ sl', RMem w' rb (v.add x p a).2 sl' ∧ RTurn w rb sl w' sl' := by
  have a1 : ¬ x < 1 := by omega
  have a2 : ¬ p < 0 := by omega
  have a3 : ¬ a < 0 := by omega
  have HF := Lib.hid (find_no h (x := x) (fun e => hx ((sorted_mem v x).1 e)))
  have HPP : RowKit.Hid (p = 0 ∨ ∃ k : Nat, p ∈ v.ids ∧ p ≠ 0 ∧ Calls Try.prog 68 #[.pointer (some ⟨rb, 0, none⟩), .int .i64 p] w fun e w' => e = .returned (.int .i64 k) ∧ w = w') := by
    by_cases e : p = 0
    · exact .inl e
    · have hpi : p ∈ v.ids := Classical.byContradiction fun e2 => hp ⟨e, e2⟩
      obtain ⟨k, hk, hkx⟩ := sorted_idx hpi
      exact .inr ⟨k, hpi, e, find_yes h hg.snd k hk hkx⟩
  have HALL := Lib.hid (rall_any h hg)
  have hm := hg.m0
  obtain ⟨sa, cap, rfl, hc1, hc2⟩ := h.row.form
  have c0 : w.cell? ⟨rb, 0, none⟩ = some (.slice sa v.sorted.length cap) := h.hd.cell 0
  have hz := h.hd.lt
  have H := Lib.hid h
  have HSL : RowKit.Hid (v.sorted.length = v.ids.length) := sorted_len v
  have hv : v.add x p a = (0, if p ∈ v.ids then (v.put x p a 0 0).link p x else v.put x p a 0 0) := by unfold PV.add; rw [if_neg ha, if_neg hx, if_neg hp, if_neg hlim]
  have hlink : ∀ w' sl', RMem w' rb (v.put x p a 0 0) sl' → RMem w' rb (v.add x p a).2 sl' := by
    intro w' sl' hM
    rw [hv]
    show RMem w' rb (if p ∈ v.ids then (v.put x p a 0 0).link p x else v.put x p a 0 0) sl'
    split
    · exact ⟨hM.hd, hM.row, hM.ne⟩
    · exact hM
  have hv1 : (v.add x p a).1 = 0 := by rw [hv]
  rw [hv1]
  have HLK := Lib.hid hlink
  obtain ⟨i0, hi, hz0, hz1, hz2⟩ := info_parts info31
  have HI0 := Lib.hid (And.intro hi (And.intro hz0 (And.intro hz1 hz2)))
  have hrow5 : ∀ y ∈ v.sorted, (v.put x p a 0 0).row5 y = v.row5 y := by
    intro y hy
    have hyx : y ≠ x := fun e => hx ((sorted_mem v x).1 (e ▸ hy))
    show [y, upd v.pa x p y, upd v.al x a y, upd v.sp x 0 y, upd v.en x 0 y] = v.row5 y
    rw [upd_ne _ _ hyx, upd_ne _ _ hyx, upd_ne _ _ hyx, upd_ne _ _ hyx]; rfl
  have hrx : (v.put x p a 0 0).row5 x = [x, p, a, 0, 0] := by
    show [x, upd v.pa x p x, upd v.al x a x, upd v.sp x 0 x, upd v.en x 0 x] = _
    rw [upd_same, upd_same, upd_same, upd_same]
  have HROW : RowKit.Hid (rowsOf (v.put x p a 0 0) (v.sorted ++ [x]) = rowsOf v v.sorted ++ [.int .i64 x, .int .i64 p, .int .i64 a, .int .i64 0, .int .i64 0]) := by
    unfold RowKit.Hid
    rw [rowsOf_snoc, rowsOf_congr hrow5, hrx]; rfl
  have HOW := Lib.hid h.row.owns
  have HNE := Lib.hid h.ne
  have HHD := Lib.hid h.hd
  have hN : v.sorted.length < 10000 := by have := HSL.out; omega
  have ha15 : a ≤ 1000000000000000 - v.m := by omega
  have HX := Lib.hid hx
  have hxs : x ∉ v.sorted := fun e => hx ((sorted_mem v x).1 e)
  have HXS := Lib.hid hxs
  clear h hg hv hlink hv1 ha hx hp hi hz0 hz1 hz2 hrow5 hrx hxs
  have hl2 : ¬ 10000 ≤ v.sorted.length := by omega
  have hl3 : ¬ 1000000000000000 - v.m < a := by omega
  have hlb : decide (10000 ≤ (v.sorted.length : Int)) = false := by simp; omega
  have hlc : decide (1000000000000000 - v.m < a) = false := by simp; omega
  clear hlim H
  rcases HPP.out with hp0 | ⟨k0, _, hp0, HP⟩
  · have hpb : (p != 0) = false := by simpa using hp0
    clear hp0 HPP
    go_enter Try.func40, Try.ntmps40
    go_wp2_with fail
    refine HF.out.mono ?_
    rintro e w1 ⟨rfl, rfl⟩
    go_wp2_with fail
    refine HALL.out.mono ?_
    rintro e w1 ⟨rfl, rfl⟩
    obtain ⟨hi, hz0, hz1, hz2⟩ := HI0.out
    go_wp2_with (at_builtin; go_loud (refine wpList_append_own_at _ rfl (.tmp 50) (.tmp 55) 74 rfl 0 31 i0 (.agg #[.int .i64 0, .int .i64 0, .int .i64 0, .int .i64 0, .int .i64 0]) 5 40 Try.underlying74 hi hz0 hz1 hz2 rfl (by decide) _ _ _ rfl (HOW.out.alloc _) ⟨w.heap.size, 0, none⟩ 1 1 [.int .i64 x, .int .i64 p, .int .i64 a, .int .i64 0, .int .i64 0] rfl rfl (news5 w 31 _ _ _ _ _) (one5 _ _ _ _ _) (by unfold maxLen; omega) (by omega) (Nat.zero_le _) ?_))
    intro sl' w2 hown hgrow hnil hloc
    clear hi hz0 hz1 hz2
    obtain ⟨g, cap', rfl⟩ := ownsRow_succ hown
    have hF2 := grow_blk5 (HHD.out.alloc _) hgrow HNE.out
    have k0 : w2.cell? ⟨rb, 0, none⟩ = some (.slice sa v.sorted.length cap) := hF2.cell 0
    have kf := hF2.frozen
    have hgne : g ≠ rb := by
      intro e
      subst e
      rcases hloc with e | e
      · exact HNE.out (by rw [← e]; rfl)
      · have : g = w.heap.size + 1 := by simpa [Value.ownBlock] using e
        have := HHD.out.lt; omega
    have R0 : RowKit.Hid (RRow w2 (v.put x p a 0 0) (v.sorted ++ [x]) (.slice (some ⟨g, 0, none⟩) (v.sorted.length + 1) cap')) := by
      refine RRow.of_owns ?_
      rw [HROW.out, List.length_append]
      exact hown
    have T0 : RowKit.Hid (RTurn w rb (.slice sa v.sorted.length cap) w2 (.slice (some ⟨g, 0, none⟩) (v.sorted.length + 1) cap')) := by
      refine ⟨hgrow.os, hgrow.tape, hgrow.output, by have := hgrow.size; rw [size_alloc] at this; omega, fun b hb h1 h2 => (hgrow.block b (by rw [size_alloc]; omega) (fun e => h2 e.symm)).trans (Below.heap_alloc _ _ _ hb), fun r hr => ?_⟩
      rcases hloc with e | e
      · exact .inl (by rw [← e]; exact hr)
      · rw [e] at hr
        have : w.heap.size + 1 = r := by simpa using hr
        exact .inr (by omega)
    have HF2 := Lib.hid hF2
    have hlt2 := hF2.lt
    clear hown hgrow hnil hloc hF2
    go_wp2_with fail
    obtain ⟨W, hW⟩ : ∃ W, W = w2.setCell ⟨rb, 0, none⟩ (.slice (some ⟨g, 0, none⟩) (v.sorted.length + 1) cap') := ⟨_, rfl⟩
    have B1 : RowKit.Hid (Blk W rb #[.slice (some ⟨g, 0, none⟩) (v.sorted.length + 1) cap'] 76) := by rw [hW]; exact (HF2.out.set 0 _).cast (by simp)
    have R1 : RowKit.Hid (RRow W (v.put x p a 0 0) (ins v.sorted v.sorted.length x) (.slice (some ⟨g, 0, none⟩) (v.sorted.length + 1) cap')) := by
      have e : ins v.sorted v.sorted.length x = v.sorted ++ [x] := by simp [ins]
      rw [e, hW]
      refine R0.out.same fun r hr => Below.heap_setCell _ _ _ _ fun e => ?_
      have e2 : g = r := by simpa [Value.ownBlock] using hr
      exact hgne (e2.trans e)
    have T1 : RowKit.Hid (RTurn w rb (.slice sa v.sorted.length cap) W (.slice (some ⟨g, 0, none⟩) (v.sorted.length + 1) cap')) := by
      rw [hW]
      refine T0.out.trans ⟨rfl, rfl, rfl, by simp, fun b _ h1 _ => Below.heap_setCell _ _ _ _ (fun e => h1 e), fun r hr => .inl hr⟩
    rw [← hW]
    clear hW R0 T0 HF2 k0 kf hlt2 c0 hz
    obtain ⟨V, hV⟩ : ∃ V, v.put x p a 0 0 = V := ⟨_, rfl⟩
    have HV := Lib.hid hV
    rw [hV] at R1 HLK
    clear hV
    go_loopw [9] (fun i wr => ∃ k : Nat, k ≤ v.sorted.length ∧ i = .int .i64 k ∧ (∀ y ∈ v.sorted.drop k, x < y) ∧ Blk wr rb #[.slice (some ⟨g, 0, none⟩) (v.sorted.length + 1) cap'] 76 ∧ RRow wr V (ins v.sorted k x) (.slice (some ⟨g, 0, none⟩) (v.sorted.length + 1) cap') ∧ RTurn w rb (.slice sa v.sorted.length cap) wr (.slice (some ⟨g, 0, none⟩) (v.sorted.length + 1) cap')) (fun i _ => (intOf i).toNat)
    case atStart => exact ⟨v.sorted.length, by omega, rfl, by simp, B1.out, R1.out, T1.out⟩
    case round =>
      obtain ⟨k, hk, rfl, hD, hB, hR, hT⟩ := hrel
      have HD := Lib.hid hD
      have B2 := Lib.hid hB
      have R2 := Lib.hid hR
      have T2 := Lib.hid hT
      clear hD hB hR hT B1 R1 T1
      have c0 : wr.cell? ⟨rb, 0, none⟩ = some (.slice (some ⟨g, 0, none⟩) (v.sorted.length + 1) cap') := B2.out.cell 0
      have hz := B2.out.lt
      have fin : RowKit.Hid ((∀ j (hj : j + 1 = k), v.sorted[j]'(by omega) ≤ x) → ∃ sl', RMem wr rb (v.add x p a).2 sl' ∧ RTurn w rb (.slice sa v.sorted.length cap) wr sl') := fun h2 => by
        refine ⟨_, HLK.out _ _ ⟨B2.out, ?_, fun e => hgne (by simpa [Value.ownBlock] using e)⟩, T2.out⟩
        have e : V.sorted = ins v.sorted k x := by rw [← HV.out]; exact (ins_sorted hk HD.out h2).symm
        rw [e]
        exact R2.out
      have hil := ins_len v.sorted k x hk
      have HIL := Lib.hid hil
      by_cases hk0 : k = 0
      · subst hk0
        clear hil
        go_wp2_with fail
        refine wp_region_over (by kernel_rfl) (by kernel_rfl) ?_
        repeat (go_big_quiet_step (fail))
        refine wpQuiet_nil ?_
        rintro _ ⟨nq, rfl⟩
        go_wp2_with fail
        go_ret
        obtain ⟨sl', h1, h2⟩ := fin.out (fun j hj => by omega)
        exact ⟨rfl, sl', h1.below (below_over _ _), h2.below (below_over _ _)⟩
      · obtain ⟨j, rfl⟩ : ∃ j, k = j + 1 := ⟨k - 1, by omega⟩
        have ek : ((j + 1 : Nat) : Int) = (j : Int) + 1 := by omega
        have eS : (Value.slice (some ⟨g, 0, none⟩) (v.sorted.length + 1) cap') = .slice (some ⟨g, 0, none⟩) (ins v.sorted (j + 1) x).length cap' := by rw [HIL.out]
        have R3 := R2.out
        rw [eS] at R3
        obtain ⟨g2, cap2, e2, hg2, hc3, hc4, hA⟩ := R3.at_ (j + 1) (by omega)
        cases e2
        have hAx : (ins v.sorted (j + 1) x)[j + 1]'(by omega) = x := by
          have := ins_get v.sorted (j + 1) x hk (j + 1)
          rw [if_neg (by omega), if_pos rfl, List.getElem?_eq_getElem (by omega)] at this
          simpa using this
        obtain ⟨g3, cap3, e3, _, _, _, hC⟩ := R3.at_ j (by omega)
        cases e3
        have hCx : (ins v.sorted (j + 1) x)[j]'(by omega) = v.sorted[j]'(by omega) := by
          have := ins_get v.sorted (j + 1) x hk j
          rw [if_pos (by omega), List.getElem?_eq_getElem (by omega), List.getElem?_eq_getElem (by omega)] at this
          simpa using this
        rw [hAx] at hA
        rw [hCx] at hC
        obtain ⟨Y, hY⟩ : ∃ Y, v.sorted[j]'(by omega) = Y := ⟨_, rfl⟩
        rw [hY] at hC hCx
        have HA := Lib.hid hA
        have HC := Lib.hid hC
        have HCX := Lib.hid hCx
        have HY := Lib.hid hY
        have p0 := hA.c0
        have q0 := hC.c0
        rw [ek]
        have hjN : j < v.sorted.length := by omega
        have HHIL := Lib.hid hil
        have hjb : (j : Int) < (v.sorted.length : Int) := by omega
        have HAX := Lib.hid hAx
        clear hA hC hAx hCx hY R3 eS hc3 hk0
        by_cases hlt : x < Y
        · go_wp2_with fail
          refine wp_region_over (by kernel_rfl) (by kernel_rfl) ?_
          repeat (go_big_quiet_step (fail))
          refine wpQuiet_nil ?_
          rintro _ ⟨nq, rfl⟩
          have B3 := Lib.hid (B2.out.below (below_over wr nq) B2.out.lt)
          have R3 : RowKit.Hid (RRow (over wr nq) V (ins v.sorted (j + 1) x) (.slice (some ⟨g, 0, none⟩) (v.sorted.length + 1) cap')) := R2.out.same fun r hr => (below_over wr nq).block r (R2.out.lt hr)
          have T3 := Lib.hid (T2.out.below (below_over wr nq))
          clear p0 q0 c0 hz B2 R2 T2 fin HA HC
          generalize over wr nq = W3 at *
          have c0 : W3.cell? ⟨rb, 0, none⟩ = some (.slice (some ⟨g, 0, none⟩) (v.sorted.length + 1) cap') := B3.out.cell 0
          have hz := B3.out.lt
          have eS : (Value.slice (some ⟨g, 0, none⟩) (v.sorted.length + 1) cap') = .slice (some ⟨g, 0, none⟩) (ins v.sorted (j + 1) x).length cap' := by rw [HIL.out]
          have R4 := R3.out
          rw [eS] at R4
          obtain ⟨g2, cap2, e2, hg2, _, _, hA⟩ := R4.at_ (j + 1) (by rw [HIL.out]; omega)
          cases e2
          rw [HAX.out] at hA
          obtain ⟨p0, p1, p2, p3, p4, pf⟩ := hA
          clear R4 eS
          go_wp2_with fail
          obtain ⟨W4, hW4⟩ : ∃ W4, W4 = W3.alloc (.cells #[.int .i64 x, .int .i64 (V.pa x), .int .i64 (V.al x), .int .i64 (V.sp x), .int .i64 (V.en x)] 31) := ⟨_, rfl⟩
          have hb4 : Below W3.heap.size W3 W4 := by rw [hW4]; exact (Below.refl _ _).alloc (Nat.le_refl _) _
          have B4 := Lib.hid (B3.out.below hb4 B3.out.lt)
          have R4 : RowKit.Hid (RRow W4 V (ins v.sorted (j + 1) x) (.slice (some ⟨g, 0, none⟩) (v.sorted.length + 1) cap')) := R3.out.same fun r hr => hb4.block r (R3.out.lt hr)
          have T4 := Lib.hid (T3.out.below hb4)
          have K4 : RowKit.Hid (Blk W4 W3.heap.size #[.int .i64 x, .int .i64 (V.pa x), .int .i64 (V.al x), .int .i64 (V.sp x), .int .i64 (V.en x)] 31) := by rw [hW4]; exact Blk.new _ _ _
          have hgX : g ≠ W3.heap.size := by omega
          have hrX : rb ≠ W3.heap.size := by omega
          rw [← hW4]
          clear hW4 hb4 p0 p1 p2 p3 p4 pf c0 hz B3 R3 T3 hg2
          generalize W3.heap.size = X at *
          have c0 : W4.cell? ⟨rb, 0, none⟩ = some (.slice (some ⟨g, 0, none⟩) (v.sorted.length + 1) cap') := B4.out.cell 0
          have hz := B4.out.lt
          have eS : (Value.slice (some ⟨g, 0, none⟩) (v.sorted.length + 1) cap') = .slice (some ⟨g, 0, none⟩) (ins v.sorted (j + 1) x).length cap' := by rw [HIL.out]
          have R5 := R4.out
          rw [eS] at R5
          obtain ⟨g2, cap2, e2, hg2, _, _, hA⟩ := R5.at_ (j + 1) (by rw [HIL.out]; omega)
          cases e2
          rw [HAX.out] at hA
          obtain ⟨p0, p1, p2, p3, p4, pf⟩ := hA
          obtain ⟨g2, cap2, e2, _, _, _, hC⟩ := R5.at_ j (by rw [HIL.out]; omega)
          cases e2
          rw [HCX.out] at hC
          obtain ⟨q0, q1, q2, q3, q4, _⟩ := hC
          have R6 := Lib.hid (R5.put5 (k := j + 1) (by rw [HIL.out]; omega) Y)
          clear R5 eS
          have hwj : IntKind.i64.wrap (j : Int) = (j : Int) := by simp [IntKind.wrap, IntKind.bits, IntKind.signed]; omega
          have hj0 : (0 : Int) ≤ (j : Int) := by omega
          have hj1 : (j : Int) < (v.sorted.length : Int) + 1 := by omega
          have hj2 : (0 : Int) ≤ (j : Int) + 1 := by omega
          have hj3 : ((j : Int) + 1).toNat = j + 1 := by omega
          have hj4 : (j : Int) + 1 < (v.sorted.length : Int) + 1 := by omega
          go_wp2_with fail
          refine wp_region_still_tail 14 (by kernel_rfl) (by kernel_rfl) ?_
          simp only [List.take_succ_cons, List.take_zero, List.drop_succ_cons, List.drop_zero]
          repeat still_step
          refine wpStill_nil ?_
          go_wp2_with fail
          obtain ⟨W5, hW5⟩ : ∃ W5, W5 = (put5 W4 g ((j + 1) * 5) Y (V.pa Y) (V.al Y) (V.sp Y) (V.en Y)).drew := ⟨_, rfl⟩
          have hd5 : Below (put5 W4 g ((j + 1) * 5) Y (V.pa Y) (V.al Y) (V.sp Y) (V.en Y)).heap.size (put5 W4 g ((j + 1) * 5) Y (V.pa Y) (V.al Y) (V.sp Y) (V.en Y)) W5 := by rw [hW5]; exact (Below.refl _ _).drew
          have hlS : ((ins v.sorted (j + 1) x).set (j + 1) Y).length = v.sorted.length + 1 := by rw [List.length_set, HIL.out]
          have B5 : RowKit.Hid (Blk W5 rb #[.slice (some ⟨g, 0, none⟩) (v.sorted.length + 1) cap'] 76) := by
            have h1 := ((((B4.out.set_ne ⟨g, (j + 1) * 5, none⟩ (.int .i64 Y) (Ne.symm hgne)).set_ne ⟨g, (j + 1) * 5 + 1, none⟩ (.int .i64 (V.pa Y)) (Ne.symm hgne)).set_ne ⟨g, (j + 1) * 5 + 2, none⟩ (.int .i64 (V.al Y)) (Ne.symm hgne)).set_ne ⟨g, (j + 1) * 5 + 3, none⟩ (.int .i64 (V.sp Y)) (Ne.symm hgne)).set_ne ⟨g, (j + 1) * 5 + 4, none⟩ (.int .i64 (V.en Y)) (Ne.symm hgne)
            exact h1.below hd5 h1.lt
          have K5 : RowKit.Hid (Blk W5 X #[.int .i64 x, .int .i64 (V.pa x), .int .i64 (V.al x), .int .i64 (V.sp x), .int .i64 (V.en x)] 31) := by
            have h1 := ((((K4.out.set_ne ⟨g, (j + 1) * 5, none⟩ (.int .i64 Y) (Ne.symm hgX)).set_ne ⟨g, (j + 1) * 5 + 1, none⟩ (.int .i64 (V.pa Y)) (Ne.symm hgX)).set_ne ⟨g, (j + 1) * 5 + 2, none⟩ (.int .i64 (V.al Y)) (Ne.symm hgX)).set_ne ⟨g, (j + 1) * 5 + 3, none⟩ (.int .i64 (V.sp Y)) (Ne.symm hgX)).set_ne ⟨g, (j + 1) * 5 + 4, none⟩ (.int .i64 (V.en Y)) (Ne.symm hgX)
            exact h1.below hd5 h1.lt
          have R7 : RowKit.Hid (RRow W5 V ((ins v.sorted (j + 1) x).set (j + 1) Y) (.slice (some ⟨g, 0, none⟩) (ins v.sorted (j + 1) x).length cap')) := R6.out.same fun r hr => hd5.block r (R6.out.lt hr)
          have T5 : RowKit.Hid (RTurn w rb (.slice sa v.sorted.length cap) W5 (.slice (some ⟨g, 0, none⟩) (v.sorted.length + 1) cap')) := (T4.out.trans (RTurn.put5 _ _ _ _ _ _ _ _ _ _ _)).below hd5
          unfold put5 at hW5
          rw [← hW5]
          clear hW5 hd5 p0 p1 p2 p3 p4 pf q0 q1 q2 q3 q4 c0 hz B4 K4 R4 R6 T4 hg2
          have c0 : W5.cell? ⟨rb, 0, none⟩ = some (.slice (some ⟨g, 0, none⟩) (v.sorted.length + 1) cap') := B5.out.cell 0
          have hz := B5.out.lt
          obtain ⟨x0, x1, x2, x3, x4⟩ := five K5.out
          have R8 := R7.out
          have eS : (Value.slice (some ⟨g, 0, none⟩) (ins v.sorted (j + 1) x).length cap') = .slice (some ⟨g, 0, none⟩) ((ins v.sorted (j + 1) x).set (j + 1) Y).length cap' := by rw [List.length_set]
          rw [eS] at R8
          obtain ⟨g2, cap2, e2, hg2, _, _, hC⟩ := R8.at_ j (by rw [hlS]; omega)
          cases e2
          have hCx : ((ins v.sorted (j + 1) x).set (j + 1) Y)[j]'(by rw [hlS]; omega) = Y := by
            rw [List.getElem_set_ne (by omega)]; exact HCX.out
          rw [hCx] at hC
          obtain ⟨q0, q1, q2, q3, q4, pf⟩ := hC
          have R9 := R8.put5 (k := j) (by rw [hlS]; omega) x
          have eI : (((ins v.sorted (j + 1) x).set (j + 1) Y).set j x) = ins v.sorted j x := by rw [← HY.out]; exact ins_swap v.sorted j x (by omega)
          rw [eI, hlS] at R9
          have HR9 := Lib.hid R9
          clear R9 R8 eS eI hCx hlS R7 K5
          go_wp2_with fail
          refine wp_region_still_tail 8 (by kernel_rfl) (by kernel_rfl) ?_
          simp only [List.take_succ_cons, List.take_zero, List.drop_succ_cons, List.drop_zero]
          repeat still_step
          refine wpStill_nil ?_
          go_wp2_with fail
          obtain ⟨W6, hW6⟩ : ∃ W6, W6 = (put5 W5 g (j * 5) x (V.pa x) (V.al x) (V.sp x) (V.en x)).drew := ⟨_, rfl⟩
          have hd6 : Below (put5 W5 g (j * 5) x (V.pa x) (V.al x) (V.sp x) (V.en x)).heap.size (put5 W5 g (j * 5) x (V.pa x) (V.al x) (V.sp x) (V.en x)) W6 := by rw [hW6]; exact (Below.refl _ _).drew
          have B6 : RowKit.Hid (Blk W6 rb #[.slice (some ⟨g, 0, none⟩) (v.sorted.length + 1) cap'] 76) := by
            have h1 := ((((B5.out.set_ne ⟨g, j * 5, none⟩ (.int .i64 x) (Ne.symm hgne)).set_ne ⟨g, j * 5 + 1, none⟩ (.int .i64 (V.pa x)) (Ne.symm hgne)).set_ne ⟨g, j * 5 + 2, none⟩ (.int .i64 (V.al x)) (Ne.symm hgne)).set_ne ⟨g, j * 5 + 3, none⟩ (.int .i64 (V.sp x)) (Ne.symm hgne)).set_ne ⟨g, j * 5 + 4, none⟩ (.int .i64 (V.en x)) (Ne.symm hgne)
            exact h1.below hd6 h1.lt
          have R10 : RowKit.Hid (RRow W6 V (ins v.sorted j x) (.slice (some ⟨g, 0, none⟩) (v.sorted.length + 1) cap')) := HR9.out.same fun r hr => hd6.block r (HR9.out.lt hr)
          have T6 : RowKit.Hid (RTurn w rb (.slice sa v.sorted.length cap) W6 (.slice (some ⟨g, 0, none⟩) (v.sorted.length + 1) cap')) := (T5.out.trans (RTurn.put5 _ _ _ _ _ _ _ _ _ _ _)).below hd6
          have hdr : ∀ y ∈ v.sorted.drop j, x < y := by
            intro y hy
            rw [List.drop_eq_getElem_cons hjN] at hy
            rcases List.mem_cons.1 hy with e | e
            · rw [e, HY.out]; exact hlt
            · exact HD.out y e
          unfold put5 at hW6
          rw [← hW6]
          exact ⟨⟨j, by omega, by first | rfl | go_num, hdr, B6.out, R10.out, T6.out⟩, by simp [intOf]⟩
        · go_wp2_with fail
          refine wp_region_over (by kernel_rfl) (by kernel_rfl) ?_
          repeat (go_big_quiet_step (fail))
          refine wpQuiet_nil ?_
          rintro _ ⟨nq, rfl⟩
          go_wp2_with fail
          go_ret
          obtain ⟨sl', h1, h2⟩ := fin.out (fun i hi => by
            obtain rfl : i = j := by omega
            rw [HY.out]; omega)
          exact ⟨rfl, sl', h1.below (below_over _ _), h2.below (below_over _ _)⟩
  · have hpb : (p != 0) = true := by simpa using hp0
    have HP := Lib.hid HP
    clear hp0 HPP
    go_enter Try.func40, Try.ntmps40
    go_wp2_with fail
    refine HF.out.mono ?_
    rintro e w1 ⟨rfl, rfl⟩
    clear HF
    go_wp2_with fail
    refine HP.out.mono ?_
    rintro e w1 ⟨rfl, rfl⟩
    go_wp2_with fail
    refine HALL.out.mono ?_
    rintro e w1 ⟨rfl, rfl⟩
    obtain ⟨hi, hz0, hz1, hz2⟩ := HI0.out
    go_wp2_with (at_builtin; go_loud (refine wpList_append_own_at _ rfl (.tmp 50) (.tmp 55) 74 rfl 0 31 i0 (.agg #[.int .i64 0, .int .i64 0, .int .i64 0, .int .i64 0, .int .i64 0]) 5 40 Try.underlying74 hi hz0 hz1 hz2 rfl (by decide) _ _ _ rfl (HOW.out.alloc _) ⟨w.heap.size, 0, none⟩ 1 1 [.int .i64 x, .int .i64 p, .int .i64 a, .int .i64 0, .int .i64 0] rfl rfl (news5 w 31 _ _ _ _ _) (one5 _ _ _ _ _) (by unfold maxLen; omega) (by omega) (Nat.zero_le _) ?_))
    intro sl' w2 hown hgrow hnil hloc
    clear hi hz0 hz1 hz2
    obtain ⟨g, cap', rfl⟩ := ownsRow_succ hown
    have hF2 := grow_blk5 (HHD.out.alloc _) hgrow HNE.out
    have k0 : w2.cell? ⟨rb, 0, none⟩ = some (.slice sa v.sorted.length cap) := hF2.cell 0
    have kf := hF2.frozen
    have hgne : g ≠ rb := by
      intro e
      subst e
      rcases hloc with e | e
      · exact HNE.out (by rw [← e]; rfl)
      · have : g = w.heap.size + 1 := by simpa [Value.ownBlock] using e
        have := HHD.out.lt; omega
    have R0 : RowKit.Hid (RRow w2 (v.put x p a 0 0) (v.sorted ++ [x]) (.slice (some ⟨g, 0, none⟩) (v.sorted.length + 1) cap')) := by
      refine RRow.of_owns ?_
      rw [HROW.out, List.length_append]
      exact hown
    have T0 : RowKit.Hid (RTurn w rb (.slice sa v.sorted.length cap) w2 (.slice (some ⟨g, 0, none⟩) (v.sorted.length + 1) cap')) := by
      refine ⟨hgrow.os, hgrow.tape, hgrow.output, by have := hgrow.size; rw [size_alloc] at this; omega, fun b hb h1 h2 => (hgrow.block b (by rw [size_alloc]; omega) (fun e => h2 e.symm)).trans (Below.heap_alloc _ _ _ hb), fun r hr => ?_⟩
      rcases hloc with e | e
      · exact .inl (by rw [← e]; exact hr)
      · rw [e] at hr
        have : w.heap.size + 1 = r := by simpa using hr
        exact .inr (by omega)
    have HF2 := Lib.hid hF2
    have hlt2 := hF2.lt
    clear hown hgrow hnil hloc hF2
    go_wp2_with fail
    obtain ⟨W, hW⟩ : ∃ W, W = w2.setCell ⟨rb, 0, none⟩ (.slice (some ⟨g, 0, none⟩) (v.sorted.length + 1) cap') := ⟨_, rfl⟩
    have B1 : RowKit.Hid (Blk W rb #[.slice (some ⟨g, 0, none⟩) (v.sorted.length + 1) cap'] 76) := by rw [hW]; exact (HF2.out.set 0 _).cast (by simp)
    have R1 : RowKit.Hid (RRow W (v.put x p a 0 0) (ins v.sorted v.sorted.length x) (.slice (some ⟨g, 0, none⟩) (v.sorted.length + 1) cap')) := by
      have e : ins v.sorted v.sorted.length x = v.sorted ++ [x] := by simp [ins]
      rw [e, hW]
      refine R0.out.same fun r hr => Below.heap_setCell _ _ _ _ fun e => ?_
      have e2 : g = r := by simpa [Value.ownBlock] using hr
      exact hgne (e2.trans e)
    have T1 : RowKit.Hid (RTurn w rb (.slice sa v.sorted.length cap) W (.slice (some ⟨g, 0, none⟩) (v.sorted.length + 1) cap')) := by
      rw [hW]
      refine T0.out.trans ⟨rfl, rfl, rfl, by simp, fun b _ h1 _ => Below.heap_setCell _ _ _ _ (fun e => h1 e), fun r hr => .inl hr⟩
    rw [← hW]
    clear hW R0 T0 HF2 k0 kf hlt2 c0 hz
    obtain ⟨V, hV⟩ : ∃ V, v.put x p a 0 0 = V := ⟨_, rfl⟩
    have HV := Lib.hid hV
    rw [hV] at R1 HLK
    clear hV
    go_loopw [9] (fun i wr => ∃ k : Nat, k ≤ v.sorted.length ∧ i = .int .i64 k ∧ (∀ y ∈ v.sorted.drop k, x < y) ∧ Blk wr rb #[.slice (some ⟨g, 0, none⟩) (v.sorted.length + 1) cap'] 76 ∧ RRow wr V (ins v.sorted k x) (.slice (some ⟨g, 0, none⟩) (v.sorted.length + 1) cap') ∧ RTurn w rb (.slice sa v.sorted.length cap) wr (.slice (some ⟨g, 0, none⟩) (v.sorted.length + 1) cap')) (fun i _ => (intOf i).toNat)
    case atStart => exact ⟨v.sorted.length, by omega, rfl, by simp, B1.out, R1.out, T1.out⟩
    case round =>
      obtain ⟨k, hk, rfl, hD, hB, hR, hT⟩ := hrel
      have HD := Lib.hid hD
      have B2 := Lib.hid hB
      have R2 := Lib.hid hR
      have T2 := Lib.hid hT
      clear hD hB hR hT B1 R1 T1
      have c0 : wr.cell? ⟨rb, 0, none⟩ = some (.slice (some ⟨g, 0, none⟩) (v.sorted.length + 1) cap') := B2.out.cell 0
      have hz := B2.out.lt
      have fin : RowKit.Hid ((∀ j (hj : j + 1 = k), v.sorted[j]'(by omega) ≤ x) → ∃ sl', RMem wr rb (v.add x p a).2 sl' ∧ RTurn w rb (.slice sa v.sorted.length cap) wr sl') := fun h2 => by
        refine ⟨_, HLK.out _ _ ⟨B2.out, ?_, fun e => hgne (by simpa [Value.ownBlock] using e)⟩, T2.out⟩
        have e : V.sorted = ins v.sorted k x := by rw [← HV.out]; exact (ins_sorted hk HD.out h2).symm
        rw [e]
        exact R2.out
      have hil := ins_len v.sorted k x hk
      have HIL := Lib.hid hil
      by_cases hk0 : k = 0
      · subst hk0
        clear hil
        go_wp2_with fail
        refine wp_region_over (by kernel_rfl) (by kernel_rfl) ?_
        repeat (go_big_quiet_step (fail))
        refine wpQuiet_nil ?_
        rintro _ ⟨nq, rfl⟩
        go_wp2_with fail
        go_ret
        obtain ⟨sl', h1, h2⟩ := fin.out (fun j hj => by omega)
        exact ⟨rfl, sl', h1.below (below_over _ _), h2.below (below_over _ _)⟩
      · obtain ⟨j, rfl⟩ : ∃ j, k = j + 1 := ⟨k - 1, by omega⟩
        have ek : ((j + 1 : Nat) : Int) = (j : Int) + 1 := by omega
        have eS : (Value.slice (some ⟨g, 0, none⟩) (v.sorted.length + 1) cap') = .slice (some ⟨g, 0, none⟩) (ins v.sorted (j + 1) x).length cap' := by rw [HIL.out]
        have R3 := R2.out
        rw [eS] at R3
        obtain ⟨g2, cap2, e2, hg2, hc3, hc4, hA⟩ := R3.at_ (j + 1) (by omega)
        cases e2
        have hAx : (ins v.sorted (j + 1) x)[j + 1]'(by omega) = x := by
          have := ins_get v.sorted (j + 1) x hk (j + 1)
          rw [if_neg (by omega), if_pos rfl, List.getElem?_eq_getElem (by omega)] at this
          simpa using this
        obtain ⟨g3, cap3, e3, _, _, _, hC⟩ := R3.at_ j (by omega)
        cases e3
        have hCx : (ins v.sorted (j + 1) x)[j]'(by omega) = v.sorted[j]'(by omega) := by
          have := ins_get v.sorted (j + 1) x hk j
          rw [if_pos (by omega), List.getElem?_eq_getElem (by omega), List.getElem?_eq_getElem (by omega)] at this
          simpa using this
        rw [hAx] at hA
        rw [hCx] at hC
        obtain ⟨Y, hY⟩ : ∃ Y, v.sorted[j]'(by omega) = Y := ⟨_, rfl⟩
        rw [hY] at hC hCx
        have HA := Lib.hid hA
        have HC := Lib.hid hC
        have HCX := Lib.hid hCx
        have HY := Lib.hid hY
        have p0 := hA.c0
        have q0 := hC.c0
        rw [ek]
        have hjN : j < v.sorted.length := by omega
        have HHIL := Lib.hid hil
        have hjb : (j : Int) < (v.sorted.length : Int) := by omega
        have HAX := Lib.hid hAx
        clear hA hC hAx hCx hY R3 eS hc3 hk0
        by_cases hlt : x < Y
        · go_wp2_with fail
          refine wp_region_over (by kernel_rfl) (by kernel_rfl) ?_
          repeat (go_big_quiet_step (fail))
          refine wpQuiet_nil ?_
          rintro _ ⟨nq, rfl⟩
          have B3 := Lib.hid (B2.out.below (below_over wr nq) B2.out.lt)
          have R3 : RowKit.Hid (RRow (over wr nq) V (ins v.sorted (j + 1) x) (.slice (some ⟨g, 0, none⟩) (v.sorted.length + 1) cap')) := R2.out.same fun r hr => (below_over wr nq).block r (R2.out.lt hr)
          have T3 := Lib.hid (T2.out.below (below_over wr nq))
          clear p0 q0 c0 hz B2 R2 T2 fin HA HC
          generalize over wr nq = W3 at *
          have c0 : W3.cell? ⟨rb, 0, none⟩ = some (.slice (some ⟨g, 0, none⟩) (v.sorted.length + 1) cap') := B3.out.cell 0
          have hz := B3.out.lt
          have eS : (Value.slice (some ⟨g, 0, none⟩) (v.sorted.length + 1) cap') = .slice (some ⟨g, 0, none⟩) (ins v.sorted (j + 1) x).length cap' := by rw [HIL.out]
          have R4 := R3.out
          rw [eS] at R4
          obtain ⟨g2, cap2, e2, hg2, _, _, hA⟩ := R4.at_ (j + 1) (by rw [HIL.out]; omega)
          cases e2
          rw [HAX.out] at hA
          obtain ⟨p0, p1, p2, p3, p4, pf⟩ := hA
          clear R4 eS
          go_wp2_with fail
          obtain ⟨W4, hW4⟩ : ∃ W4, W4 = W3.alloc (.cells #[.int .i64 x, .int .i64 (V.pa x), .int .i64 (V.al x), .int .i64 (V.sp x), .int .i64 (V.en x)] 31) := ⟨_, rfl⟩
          have hb4 : Below W3.heap.size W3 W4 := by rw [hW4]; exact (Below.refl _ _).alloc (Nat.le_refl _) _
          have B4 := Lib.hid (B3.out.below hb4 B3.out.lt)
          have R4 : RowKit.Hid (RRow W4 V (ins v.sorted (j + 1) x) (.slice (some ⟨g, 0, none⟩) (v.sorted.length + 1) cap')) := R3.out.same fun r hr => hb4.block r (R3.out.lt hr)
          have T4 := Lib.hid (T3.out.below hb4)
          have K4 : RowKit.Hid (Blk W4 W3.heap.size #[.int .i64 x, .int .i64 (V.pa x), .int .i64 (V.al x), .int .i64 (V.sp x), .int .i64 (V.en x)] 31) := by rw [hW4]; exact Blk.new _ _ _
          have hgX : g ≠ W3.heap.size := by omega
          have hrX : rb ≠ W3.heap.size := by omega
          rw [← hW4]
          clear hW4 hb4 p0 p1 p2 p3 p4 pf c0 hz B3 R3 T3 hg2
          generalize W3.heap.size = X at *
          have c0 : W4.cell? ⟨rb, 0, none⟩ = some (.slice (some ⟨g, 0, none⟩) (v.sorted.length + 1) cap') := B4.out.cell 0
          have hz := B4.out.lt
          have eS : (Value.slice (some ⟨g, 0, none⟩) (v.sorted.length + 1) cap') = .slice (some ⟨g, 0, none⟩) (ins v.sorted (j + 1) x).length cap' := by rw [HIL.out]
          have R5 := R4.out
          rw [eS] at R5
          obtain ⟨g2, cap2, e2, hg2, _, _, hA⟩ := R5.at_ (j + 1) (by rw [HIL.out]; omega)
          cases e2
          rw [HAX.out] at hA
          obtain ⟨p0, p1, p2, p3, p4, pf⟩ := hA
          obtain ⟨g2, cap2, e2, _, _, _, hC⟩ := R5.at_ j (by rw [HIL.out]; omega)
          cases e2
          rw [HCX.out] at hC
          obtain ⟨q0, q1, q2, q3, q4, _⟩ := hC
          have R6 := Lib.hid (R5.put5 (k := j + 1) (by rw [HIL.out]; omega) Y)
          clear R5 eS
          have hwj : IntKind.i64.wrap (j : Int) = (j : Int) := by simp [IntKind.wrap, IntKind.bits, IntKind.signed]; omega
          have hj0 : (0 : Int) ≤ (j : Int) := by omega
          have hj1 : (j : Int) < (v.sorted.length : Int) + 1 := by omega
          have hj2 : (0 : Int) ≤ (j : Int) + 1 := by omega
          have hj3 : ((j : Int) + 1).toNat = j + 1 := by omega
          have hj4 : (j : Int) + 1 < (v.sorted.length : Int) + 1 := by omega
          go_wp2_with fail
          refine wp_region_still_tail 14 (by kernel_rfl) (by kernel_rfl) ?_
          simp only [List.take_succ_cons, List.take_zero, List.drop_succ_cons, List.drop_zero]
          repeat still_step
          refine wpStill_nil ?_
          go_wp2_with fail
          obtain ⟨W5, hW5⟩ : ∃ W5, W5 = (put5 W4 g ((j + 1) * 5) Y (V.pa Y) (V.al Y) (V.sp Y) (V.en Y)).drew := ⟨_, rfl⟩
          have hd5 : Below (put5 W4 g ((j + 1) * 5) Y (V.pa Y) (V.al Y) (V.sp Y) (V.en Y)).heap.size (put5 W4 g ((j + 1) * 5) Y (V.pa Y) (V.al Y) (V.sp Y) (V.en Y)) W5 := by rw [hW5]; exact (Below.refl _ _).drew
          have hlS : ((ins v.sorted (j + 1) x).set (j + 1) Y).length = v.sorted.length + 1 := by rw [List.length_set, HIL.out]
          have B5 : RowKit.Hid (Blk W5 rb #[.slice (some ⟨g, 0, none⟩) (v.sorted.length + 1) cap'] 76) := by
            have h1 := ((((B4.out.set_ne ⟨g, (j + 1) * 5, none⟩ (.int .i64 Y) (Ne.symm hgne)).set_ne ⟨g, (j + 1) * 5 + 1, none⟩ (.int .i64 (V.pa Y)) (Ne.symm hgne)).set_ne ⟨g, (j + 1) * 5 + 2, none⟩ (.int .i64 (V.al Y)) (Ne.symm hgne)).set_ne ⟨g, (j + 1) * 5 + 3, none⟩ (.int .i64 (V.sp Y)) (Ne.symm hgne)).set_ne ⟨g, (j + 1) * 5 + 4, none⟩ (.int .i64 (V.en Y)) (Ne.symm hgne)
            exact h1.below hd5 h1.lt
          have K5 : RowKit.Hid (Blk W5 X #[.int .i64 x, .int .i64 (V.pa x), .int .i64 (V.al x), .int .i64 (V.sp x), .int .i64 (V.en x)] 31) := by
            have h1 := ((((K4.out.set_ne ⟨g, (j + 1) * 5, none⟩ (.int .i64 Y) (Ne.symm hgX)).set_ne ⟨g, (j + 1) * 5 + 1, none⟩ (.int .i64 (V.pa Y)) (Ne.symm hgX)).set_ne ⟨g, (j + 1) * 5 + 2, none⟩ (.int .i64 (V.al Y)) (Ne.symm hgX)).set_ne ⟨g, (j + 1) * 5 + 3, none⟩ (.int .i64 (V.sp Y)) (Ne.symm hgX)).set_ne ⟨g, (j + 1) * 5 + 4, none⟩ (.int .i64 (V.en Y)) (Ne.symm hgX)
            exact h1.below hd5 h1.lt
          have R7 : RowKit.Hid (RRow W5 V ((ins v.sorted (j + 1) x).set (j + 1) Y) (.slice (some ⟨g, 0, none⟩) (ins v.sorted (j + 1) x).length cap')) := R6.out.same fun r hr => hd5.block r (R6.out.lt hr)
          have T5 : RowKit.Hid (RTurn w rb (.slice sa v.sorted.length cap) W5 (.slice (some ⟨g, 0, none⟩) (v.sorted.length + 1) cap')) := (T4.out.trans (RTurn.put5 _ _ _ _ _ _ _ _ _ _ _)).below hd5
          unfold put5 at hW5
          rw [← hW5]
          clear hW5 hd5 p0 p1 p2 p3 p4 pf q0 q1 q2 q3 q4 c0 hz B4 K4 R4 R6 T4 hg2
          have c0 : W5.cell? ⟨rb, 0, none⟩ = some (.slice (some ⟨g, 0, none⟩) (v.sorted.length + 1) cap') := B5.out.cell 0
          have hz := B5.out.lt
          obtain ⟨x0, x1, x2, x3, x4⟩ := five K5.out
          have R8 := R7.out
          have eS : (Value.slice (some ⟨g, 0, none⟩) (ins v.sorted (j + 1) x).length cap') = .slice (some ⟨g, 0, none⟩) ((ins v.sorted (j + 1) x).set (j + 1) Y).length cap' := by rw [List.length_set]
          rw [eS] at R8
          obtain ⟨g2, cap2, e2, hg2, _, _, hC⟩ := R8.at_ j (by rw [hlS]; omega)
          cases e2
          have hCx : ((ins v.sorted (j + 1) x).set (j + 1) Y)[j]'(by rw [hlS]; omega) = Y := by
            rw [List.getElem_set_ne (by omega)]; exact HCX.out
          rw [hCx] at hC
          obtain ⟨q0, q1, q2, q3, q4, pf⟩ := hC
          have R9 := R8.put5 (k := j) (by rw [hlS]; omega) x
          have eI : (((ins v.sorted (j + 1) x).set (j + 1) Y).set j x) = ins v.sorted j x := by rw [← HY.out]; exact ins_swap v.sorted j x (by omega)
          rw [eI, hlS] at R9
          have HR9 := Lib.hid R9
          clear R9 R8 eS eI hCx hlS R7 K5
          go_wp2_with fail
          refine wp_region_still_tail 8 (by kernel_rfl) (by kernel_rfl) ?_
          simp only [List.take_succ_cons, List.take_zero, List.drop_succ_cons, List.drop_zero]
          repeat still_step
          refine wpStill_nil ?_
          go_wp2_with fail
          obtain ⟨W6, hW6⟩ : ∃ W6, W6 = (put5 W5 g (j * 5) x (V.pa x) (V.al x) (V.sp x) (V.en x)).drew := ⟨_, rfl⟩
          have hd6 : Below (put5 W5 g (j * 5) x (V.pa x) (V.al x) (V.sp x) (V.en x)).heap.size (put5 W5 g (j * 5) x (V.pa x) (V.al x) (V.sp x) (V.en x)) W6 := by rw [hW6]; exact (Below.refl _ _).drew
          have B6 : RowKit.Hid (Blk W6 rb #[.slice (some ⟨g, 0, none⟩) (v.sorted.length + 1) cap'] 76) := by
            have h1 := ((((B5.out.set_ne ⟨g, j * 5, none⟩ (.int .i64 x) (Ne.symm hgne)).set_ne ⟨g, j * 5 + 1, none⟩ (.int .i64 (V.pa x)) (Ne.symm hgne)).set_ne ⟨g, j * 5 + 2, none⟩ (.int .i64 (V.al x)) (Ne.symm hgne)).set_ne ⟨g, j * 5 + 3, none⟩ (.int .i64 (V.sp x)) (Ne.symm hgne)).set_ne ⟨g, j * 5 + 4, none⟩ (.int .i64 (V.en x)) (Ne.symm hgne)
            exact h1.below hd6 h1.lt
          have R10 : RowKit.Hid (RRow W6 V (ins v.sorted j x) (.slice (some ⟨g, 0, none⟩) (v.sorted.length + 1) cap')) := HR9.out.same fun r hr => hd6.block r (HR9.out.lt hr)
          have T6 : RowKit.Hid (RTurn w rb (.slice sa v.sorted.length cap) W6 (.slice (some ⟨g, 0, none⟩) (v.sorted.length + 1) cap')) := (T5.out.trans (RTurn.put5 _ _ _ _ _ _ _ _ _ _ _)).below hd6
          have hdr : ∀ y ∈ v.sorted.drop j, x < y := by
            intro y hy
            rw [List.drop_eq_getElem_cons hjN] at hy
            rcases List.mem_cons.1 hy with e | e
            · rw [e, HY.out]; exact hlt
            · exact HD.out y e
          unfold put5 at hW6
          rw [← hW6]
          exact ⟨⟨j, by omega, by first | rfl | go_num, hdr, B6.out, R10.out, T6.out⟩, by simp [intOf]⟩
        · go_wp2_with fail
          refine wp_region_over (by kernel_rfl) (by kernel_rfl) ?_
          repeat (go_big_quiet_step (fail))
          refine wpQuiet_nil ?_
          rintro _ ⟨nq, rfl⟩
          go_wp2_with fail
          go_ret
          obtain ⟨sl', h1, h2⟩ := fin.out (fun i hi => by
            obtain rfl : i = j := by omega
            rw [HY.out]; omega)
          exact ⟨rfl, sl', h1.below (below_over _ _), h2.below (below_over _ _)⟩
end Go.Proofs.Ytmnkgjgaileokaa
