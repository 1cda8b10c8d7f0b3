/- agrees: the funds and the reference's say the same. -/
import Derived.Test.YtmnkgjgaileokaaRK
namespace Go.Proofs.Ytmnkgjgaileokaa
open Go.RowKit Go.Shelf Go.Maps

set_option maxRecDepth 100000 in
set_option maxHeartbeats 4000000 in
theorem agrees_any {w : World} {s : FS} {v : PV} {rb : Nat} {sl : Value} (h : Mem w s) (hv : s.pv = v) (hg : Good v) (hr : RMem w rb v sl) :
    Calls Try.prog 24 #[.pointer (some ⟨s.fb, 0, none⟩), .pointer (some ⟨rb, 0, none⟩)] w fun e w' => e = .returned (.bool true) ∧ Below w.heap.size w w' := by
  have HM := Lib.hid h
  have HV := Lib.hid hv
  have G := Lib.hid hg
  have HR := Lib.hid hr
  have HT := Lib.hid (good_tot hg)
  have hne : (s.fb == s.fb) = true := by simp
  clear h hv hg hr
  go_enter Try.func24, Try.ntmps24
  go_wp2_with fail
  refine (encode_st HM.out HV.out G.out).mono ?_
  rintro e w1 ⟨rfl, hb⟩
  have M1 := Lib.hid (HM.out.below hb)
  have R1 := Lib.hid (HR.out.below hb)
  have B1 := Lib.hid hb
  clear hb
  go_wp2_with fail
  refine (rencode_any R1.out G.out).mono ?_
  rintro e w2 ⟨rfl, hb⟩
  have M2 := Lib.hid (M1.out.below hb)
  have R2 := Lib.hid (R1.out.below hb)
  have B2 := Lib.hid (B1.out.trans (hb.mono B1.out.size))
  clear hb M1 R1 B1
  generalize v.enc1 = E1 at *
  go_wp2_with fail
  go_loopw [5] (fun i wr => ∃ k : Nat, k ≤ 11 ∧ i = .int .i64 k ∧ Below w.heap.size w wr) (fun i _ => 11 - (intOf i).toNat)
  case atStart => exact ⟨0, by omega, rfl, B2.out⟩
  case round =>
    obtain ⟨k, hk, rfl, hB⟩ := hrel
    have M3 := Lib.hid (HM.out.below hB)
    have R3 := Lib.hid (HR.out.below hB)
    have B3 := Lib.hid hB
    clear hB M2 R2 B2
    by_cases h11 : k < 11
    · have hf5 := fund5_0 v (k : Int)
      have ht5 := tot5_0 v (k : Int)
      have hfr : v.free0 (k : Int) = v.free0 (k : Int) := rfl
      have hdc : decide ((k : Int) ∈ v.ids) = decide ((k : Int) ∈ v.ids) := rfl
      generalize v.at0 (fun z => z) (k : Int) = i0 at *
      generalize v.at0 v.pa (k : Int) = i1 at *
      generalize v.at0 v.al (k : Int) = i2 at *
      generalize v.at0 v.sp (k : Int) = i3 at *
      generalize v.at0 v.en (k : Int) = i4 at *
      generalize v.at0 (v.T v.al) (k : Int) = j2 at *
      generalize v.at0 (v.T v.sp) (k : Int) = j3 at *
      generalize v.at0 (v.T v.en) (k : Int) = j4 at *
      generalize hdd : decide ((k : Int) ∈ v.ids) = D at hdc
      generalize hff : v.free0 (k : Int) = F at hfr
      have HF5 := Lib.hid hf5
      have HT5 := Lib.hid ht5
      have HD := Lib.hid hdd
      have HF := Lib.hid hff
      clear hf5 ht5 hdd hff hfr hdc
      go_wp2_with fail
      refine (fund_st (x := (k : Int)) M3.out HV.out HF5.out HD.out (by omega) (by omega)).mono ?_
      rintro e w4 ⟨rfl, hb⟩
      have M4 := Lib.hid ((M3.out.below hb).alloc (.cells #[.int .i64 i0, .int .i64 i1, .int .i64 i2, .int .i64 i3, .int .i64 i4] 31))
      have R4 := Lib.hid ((R3.out.below hb).below ((Below.refl _ w4).alloc (Nat.le_refl _) (.cells #[.int .i64 i0, .int .i64 i1, .int .i64 i2, .int .i64 i3, .int .i64 i4] 31)))
      have B4 := Lib.hid ((B3.out.trans (hb.mono B3.out.size)).alloc (by have := B3.out.size; have := hb.size; omega) (.cells #[.int .i64 i0, .int .i64 i1, .int .i64 i2, .int .i64 i3, .int .i64 i4] 31))
      have N4 := Lib.hid (Blk.new w4 #[.int .i64 i0, .int .i64 i1, .int .i64 i2, .int .i64 i3, .int .i64 i4] 31)
      clear hb
      go_wp2_with fail
      generalize w4.alloc (.cells #[.int .i64 i0, .int .i64 i1, .int .i64 i2, .int .i64 i3, .int .i64 i4] 31) = W4 at *
      generalize w4.heap.size = X at *
      have key := rfund_any R4.out G.out (x := (k : Int))
      rw [HF5.out, HD.out] at key
      refine key.mono ?_
      clear key
      rintro e w5 ⟨rfl, hb⟩
      have M5 := Lib.hid ((M4.out.below hb).alloc (.cells #[.int .i64 i0, .int .i64 i1, .int .i64 i2, .int .i64 i3, .int .i64 i4] 31))
      have R5 := Lib.hid ((R4.out.below hb).below ((Below.refl _ w5).alloc (Nat.le_refl _) (.cells #[.int .i64 i0, .int .i64 i1, .int .i64 i2, .int .i64 i3, .int .i64 i4] 31)))
      have B5 := Lib.hid ((B4.out.trans (hb.mono B4.out.size)).alloc (by have := B4.out.size; have := hb.size; omega) (.cells #[.int .i64 i0, .int .i64 i1, .int .i64 i2, .int .i64 i3, .int .i64 i4] 31))
      have N5 := N4.out.below hb N4.out.lt
      have d0 := N5.cell 0
      have d1 := N5.cell 1
      have d2 := N5.cell 2
      have d3 := N5.cell 3
      have d4 := N5.cell 4
      simp at d0 d1 d2 d3 d4
      have hX1 := N5.lt
      have hX : X ≠ w5.heap.size := by omega
      clear hb N5 N4
      go_wp2_with fail
      generalize w5.alloc (.cells #[.int .i64 i0, .int .i64 i1, .int .i64 i2, .int .i64 i3, .int .i64 i4] 31) = W5 at *
      clear d0 d1 d2 d3 d4 hX hX1
      (with_reducible refine (free_st (x := (k : Int)) M5.out HV.out G.out HF.out (by omega) (by omega)).mono ?_)
      rintro e w6 ⟨rfl, hb⟩
      have M6 := Lib.hid (M5.out.below hb)
      have R6 := Lib.hid (R5.out.below hb)
      have B6 := Lib.hid (B5.out.trans (hb.mono B5.out.size))
      clear hb M4 R4 B4
      go_wp2_with fail
      have key := rfreeof_any R6.out G.out (x := (k : Int))
      rw [HF.out] at key
      (with_reducible refine key.mono ?_)
      clear key
      rintro e w7 ⟨rfl, hb⟩
      have M7 := Lib.hid (M6.out.below hb)
      have R7 := Lib.hid (R6.out.below hb)
      have B7 := Lib.hid (B6.out.trans (hb.mono B6.out.size))
      clear hb M5 R5 B5
      go_wp2_with fail
      (with_reducible refine (total_st (x := (k : Int)) M7.out HV.out G.out HT.out HT5.out (by omega) (by omega)).mono ?_)
      rintro e w8 ⟨rfl, hb⟩
      have R8 := Lib.hid (R7.out.below hb)
      have B8 := Lib.hid (B7.out.trans (hb.mono B7.out.size))
      clear hb M6 R6 B6
      go_wp2_with fail
      have key := rtotal_any R8.out G.out (x := (k : Int))
      rw [HT5.out] at key
      (with_reducible refine key.mono ?_)
      clear key
      rintro e w9 ⟨rfl, hb⟩
      have B9 := Lib.hid (B8.out.trans (hb.mono B8.out.size))
      clear hb M7 R7 B7
      go_wp2_with fail
      exact ⟨⟨k + 1, by omega, by go_num, B9.out⟩, by simp [intOf]; omega⟩
    · obtain rfl : k = 11 := by omega
      go_wp2_with fail
      go_ret
      exact ⟨rfl, B3.out⟩
end Go.Proofs.Ytmnkgjgaileokaa
