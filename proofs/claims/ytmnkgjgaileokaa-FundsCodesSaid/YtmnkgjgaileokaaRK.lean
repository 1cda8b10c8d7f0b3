/- The contract of the reference's Encode. -/
import Derived.Test.YtmnkgjgaileokaaRJ
import Derived.Test.YtmnkgjgaileokaaCR
namespace Go.Proofs.Ytmnkgjgaileokaa
open Go.RowKit Go.Shelf Go.Maps

set_option maxRecDepth 100000 in
set_option maxHeartbeats 4000000 in
theorem rencode_any {w : World} {rb : Nat} {v : PV} {sl : Value} (h : RMem w rb v sl) (hg : Good v) :
    Calls Try.prog 26 #[.pointer (some ⟨rb, 0, none⟩)] w fun e w' => e = .returned (.string v.enc1) ∧ Below w.heap.size w w' := by
  have hlen : v.sorted.length ≤ 10000 := by rw [sorted_len]; exact hg.len
  obtain ⟨a, cap, rfl, hc1, hc2⟩ := h.row.form
  have c0 : w.cell? ⟨rb, 0, none⟩ = some (.slice a v.sorted.length cap) := h.hd.cell 0
  have hz := h.hd.lt
  obtain ⟨i0, hi, hz0, hz1, hz2⟩ := info_parts info3
  have HC := Lib.hid (code_in hg)
  have HM := Lib.hid h
  have HI0 := Lib.hid (And.intro hi (And.intro hz0 (And.intro hz1 hz2)))
  have HCS : RowKit.Hid (v.code = v.codeOf v.sorted) := Lib.hid rfl
  clear h hg hi hz0 hz1 hz2
  generalize hS : v.sorted = S at *
  have HS := Lib.hid hS
  clear hS
  go_enter Try.func26, Try.ntmps26
  go_wp2_with fail
  go_loopw [3, 4] (fun l i wr => ∃ (k : Nat) (lv : Value), k ≤ S.length ∧ i = .int .i64 k ∧ lv = l ∧ Below w.heap.size w wr ∧ wr.ownsRow w.heap.size 3 1 lv (5 * k) ((v.codeOf (S.take k)).map encZ)) (fun _ i _ => S.length - (intOf i).toNat)
  case atStart => exact ⟨0, _, by omega, rfl, rfl, Below.refl _ _, World.ownsRow_nil _ _ _ _⟩
  case round =>
    obtain ⟨k, lv, hk, rfl, rfl, hB, hrow⟩ := hrel
    have B3 := Lib.hid hB
    have R3 := Lib.hid hrow
    have HM3 := Lib.hid (HM.out.below hB)
    have d0 : wr.cell? ⟨rb, 0, none⟩ = some (.slice a S.length cap) := HM3.out.hd.cell 0
    have hzr := HM3.out.hd.lt
    clear hB hrow
    by_cases hlt : k < S.length
    · have hat := HM3.out.row
      rw [HS.out] at hat
      obtain ⟨g', cap', e, hgl, _, _, hA⟩ := hat.at_ k hlt
      cases e
      clear hat
      have hsn := codeOf_snoc v (S.take k) S[k]
      rw [← List.take_succ_eq_append_getElem hlt] at hsn
      have HSN := Lib.hid hsn
      obtain ⟨b0, b1, b2, b3, b4, bf⟩ := hA
      generalize S[k] = x at *
      clear hsn
      obtain ⟨hi, hz0, hz1, hz2⟩ := HI0.out
      have hzs := B3.out.size
      have hbk : k + 1 ≤ 1000000 := by omega
      have hag : lv.ownBlock ≠ some wr.heap.size := fun e => by have := (R3.out.lt _ e).2; omega
      go_wp2_with (at_builtin; go_loud (refine wpList_append_lies _ rfl (.tmp 22) (.tmp 33) 56 rfl w.heap.size 3 i0 (.int .i64 0) 1 8 Try.underlying56 hi hz0 hz1 hz2 rfl (by omega) lv (5 * k) _ (by rfl) ((R3.out.alloc _).alloc _) ⟨wr.heap.size + 1, 0, none⟩ 5 5 [.int .i64 x, .int .i64 (v.pa x), .int .i64 (v.al x), .int .i64 (v.sp x), .int .i64 (v.en x)] (by rfl) (by rfl) (World.news_of_block (cs := #[.int .i64 x, .int .i64 (v.pa x), .int .i64 (v.al x), .int .i64 (v.sp x), .int .i64 (v.en x)]) (t := 3) (fr := (0, 0)) (by simpa using heap_alloc_new (wr.alloc _) _)) (one5 _ _ _ _ _) (by omega) (by unfold maxLen; omega) (by omega) (by simp; omega) (wr.heap.size + 2) (by simp) ?_; intro gg cap' w5 hown5 hgrow hat hlt5))
      have B5 : RowKit.Hid (Below w.heap.size w w5) := ((B3.out.alloc hzs _).alloc (by simp; omega) _).grown hgrow (by simp; omega) (fun j e => (R3.out.lt _ e).1)
      have R5 : RowKit.Hid (w5.ownsRow w.heap.size 3 1 (.slice (some ⟨gg, 0, none⟩) (5 * k + 5) cap') (5 * (k + 1)) ((v.codeOf (S.take (k + 1))).map encZ)) := by
        have e1 : 5 * (k + 1) = 5 * k + 5 := by omega
        have e2 : (v.codeOf (S.take (k + 1))).map encZ = (v.codeOf (S.take k)).map encZ ++ [.int .i64 x, .int .i64 (v.pa x), .int .i64 (v.al x), .int .i64 (v.sp x), .int .i64 (v.en x)] := by
          rw [HSN.out, List.map_append]; rfl
        rw [e1, e2]
        exact hown5
      clear hown5 hgrow hat hlt5 hag b0 b1 b2 b3 b4 bf d0
      go_wp2_with fail
      exact ⟨⟨k + 1, _, by omega, by go_num, rfl, B5.out, R5.out⟩, by simp [intOf]; omega⟩
    · obtain rfl : k = S.length := by omega
      have R4 := R3.out
      rw [List.take_length] at R4
      obtain ⟨a', cap', rfl, hI', hd1, hd2⟩ := slice_of R4
      have hcl := codeOf_len v S
      have key := Lib.hid (rints_any (v.codeOf S) a' cap' wr hI' (by omega) hd1 hd2 (by rw [← HCS.out]; exact HC.out))
      clear R3 R4 hI' hcl
      go_wp2_with fail
      (with_reducible refine key.out.mono ?_)
      rintro e w6 ⟨rfl, hb⟩
      go_wp2_with fail
      go_ret
      refine ⟨?_, B3.out.trans (hb.mono B3.out.size)⟩
      unfold PV.enc1
      rw [HCS.out]
      rfl
end Go.Proofs.Ytmnkgjgaileokaa
