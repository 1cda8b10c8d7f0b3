/- The reference's New and Do. -/
import Derived.Test.YtmnkgjgaileokaaRI
import Derived.Test.YtmnkgjgaileokaaRE
namespace Go.Proofs.Ytmnkgjgaileokaa
open Go.RowKit

theorem q0_sorted : q0.sorted = [] := by
  show ([] : List Int).mergeSort leI = []
  simp
theorem rnew_any (w : World) : Calls Try.prog 22 #[] w fun r w' => r = .returned (.pointer (some ⟨w.heap.size, 0, none⟩)) ∧ RMem w' w.heap.size q0 (.slice none 0 0) ∧ Below w.heap.size w w' := by
  have h : RMem (w.alloc (.cells #[.slice none 0 0] 76)) w.heap.size q0 (.slice none 0 0) := ⟨Blk.new w _ 76, .inl ⟨rfl, q0_sorted⟩, by simp [Value.ownBlock]⟩
  have hb : Below w.heap.size w (w.alloc (.cells #[.slice none 0 0] 76)) := (Below.refl _ _).alloc (Nat.le_refl _) _
  have H := Lib.hid (And.intro h hb)
  clear h hb
  go_enter Try.func22, Try.ntmps22
  go_wp2_with fail
  go_ret
  exact ⟨rfl, H.out⟩
set_option maxRecDepth 100000 in
set_option maxHeartbeats 4000000 in
theorem rdo_any {w : World} {rb : Nat} {v u : PV} {sl : Value} (h : RMem w rb v sl) (hg : Good v) (a : Act4) (hi : In64 a) (hd : DoR v a u) :
    Calls Try.prog 23 #[.pointer (some ⟨rb, 0, none⟩), a.val] w fun r w' => r = .returned (.int .i64 (doC v a)) ∧ ∃ sl', RMem w' rb u sl' ∧ RTurn w rb sl w' sl' := by
  have hb : Below w.heap.size w (w.alloc (.cells #[.int .u8 a.k, .int .i64 a.a, .int .i64 a.b, .int .i64 a.n] 27)) := (Below.refl _ _).alloc (Nat.le_refl _) _
  have HM := Lib.hid (h.below hb)
  have HT : RowKit.Hid (RTurn w rb sl (w.alloc (.cells #[.int .u8 a.k, .int .i64 a.a, .int .i64 a.b, .int .i64 a.n] 27)) sl) := RTurn.of_below hb
  have HG := Lib.hid hg
  have HI := Lib.hid hi
  have HD := Lib.hid hd
  have ht : a.k.tmod 9 = a.k % 9 := by rw [Int.tmod_eq_emod_of_nonneg hi.k0]
  have k0 := hi.k0
  have k1 := hi.k1
  clear h hg hi hb hd
  have h9 : a.k % 9 = 0 ∨ a.k % 9 = 1 ∨ a.k % 9 = 2 ∨ a.k % 9 = 3 ∨ a.k % 9 = 4 ∨ a.k % 9 = 5 ∨ a.k % 9 = 6 ∨ a.k % 9 = 7 ∨ a.k % 9 = 8 := by omega
  rcases h9 with h9 | h9 | h9 | h9 | h9 | h9 | h9 | h9 | h9
  · have hc : doC v a = (v.add a.a a.b a.n).1 := by simp [doC, h9]
    have hR : u = (v.add a.a a.b a.n).2 := by have := HD.out; simpa [DoR, h9] using this
    rw [hc]
    rw [h9] at ht
    have key := Lib.hid (radd_any HM.out HG.out a.a a.b a.n HI.out.a0 HI.out.a1 HI.out.b0 HI.out.b1 HI.out.n0 HI.out.n1)
    rw [← hR] at key
    clear hc hR h9
    go_enter Try.func23, Try.ntmps23
    go_wp2_with fail
    refine key.out.mono ?_
    rintro e w1 ⟨rfl, sl', hM, hT⟩
    go_wp2_with fail
    go_ret
    exact ⟨rfl, sl', hM, HT.out.trans hT⟩
  · have hc : doC v a = (v.add a.a a.b a.n).1 := by simp [doC, h9]
    have hR : u = (v.add a.a a.b a.n).2 := by have := HD.out; simpa [DoR, h9] using this
    rw [hc]
    rw [h9] at ht
    have key := Lib.hid (radd_any HM.out HG.out a.a a.b a.n HI.out.a0 HI.out.a1 HI.out.b0 HI.out.b1 HI.out.n0 HI.out.n1)
    rw [← hR] at key
    clear hc hR h9
    go_enter Try.func23, Try.ntmps23
    go_wp2_with fail
    refine key.out.mono ?_
    rintro e w1 ⟨rfl, sl', hM, hT⟩
    go_wp2_with fail
    go_ret
    exact ⟨rfl, sl', hM, HT.out.trans hT⟩
  · have hc : doC v a = (v.move a.a a.b a.n).1 := by simp [doC, h9]
    have hR : u = (v.move a.a a.b a.n).2 := by have := HD.out; simpa [DoR, h9] using this
    rw [hc]
    rw [h9] at ht
    have key := Lib.hid (rmove_any HM.out HG.out a.a a.b a.n HI.out.n0 HI.out.n1)
    rw [← hR] at key
    clear hc hR h9
    go_enter Try.func23, Try.ntmps23
    go_wp2_with fail
    refine key.out.mono ?_
    rintro e w1 ⟨rfl, sl', hM, hT⟩
    go_wp2_with fail
    go_ret
    exact ⟨rfl, sl', hM, HT.out.trans hT⟩
  · have hc : doC v a = (v.enc a.a a.n).1 := by simp [doC, h9]
    have hR : u = (v.enc a.a a.n).2 := by have := HD.out; simpa [DoR, h9] using this
    rw [hc]
    rw [h9] at ht
    have key := Lib.hid (renc_any HM.out HG.out a.a a.n HI.out.n0 HI.out.n1)
    rw [← hR] at key
    clear hc hR h9
    go_enter Try.func23, Try.ntmps23
    go_wp2_with fail
    refine key.out.mono ?_
    rintro e w1 ⟨rfl, sl', hM, hT⟩
    go_wp2_with fail
    go_ret
    exact ⟨rfl, sl', hM, HT.out.trans hT⟩
  · have hc : doC v a = (v.enc a.a a.n).1 := by simp [doC, h9]
    have hR : u = (v.enc a.a a.n).2 := by have := HD.out; simpa [DoR, h9] using this
    rw [hc]
    rw [h9] at ht
    have key := Lib.hid (renc_any HM.out HG.out a.a a.n HI.out.n0 HI.out.n1)
    rw [← hR] at key
    clear hc hR h9
    go_enter Try.func23, Try.ntmps23
    go_wp2_with fail
    refine key.out.mono ?_
    rintro e w1 ⟨rfl, sl', hM, hT⟩
    go_wp2_with fail
    go_ret
    exact ⟨rfl, sl', hM, HT.out.trans hT⟩
  · have hc : doC v a = (v.rel a.a a.n).1 := by simp [doC, h9]
    have hR : u = (v.rel a.a a.n).2 := by have := HD.out; simpa [DoR, h9] using this
    rw [hc]
    rw [h9] at ht
    have key := Lib.hid (rrel_any HM.out HG.out a.a a.n HI.out.n0 HI.out.n1)
    rw [← hR] at key
    clear hc hR h9
    go_enter Try.func23, Try.ntmps23
    go_wp2_with fail
    refine key.out.mono ?_
    rintro e w1 ⟨rfl, sl', hM, hT⟩
    go_wp2_with fail
    go_ret
    exact ⟨rfl, sl', hM, HT.out.trans hT⟩
  · have hc : doC v a = (v.spend a.a a.n).1 := by simp [doC, h9]
    have hR : u = (v.spend a.a a.n).2 := by have := HD.out; simpa [DoR, h9] using this
    rw [hc]
    rw [h9] at ht
    have key := Lib.hid (rspend_any HM.out HG.out a.a a.n HI.out.n0 HI.out.n1)
    rw [← hR] at key
    clear hc hR h9
    go_enter Try.func23, Try.ntmps23
    go_wp2_with fail
    refine key.out.mono ?_
    rintro e w1 ⟨rfl, sl', hM, hT⟩
    go_wp2_with fail
    go_ret
    exact ⟨rfl, sl', hM, HT.out.trans hT⟩
  · have hc : doC v a = (v.spend a.a a.n).1 := by simp [doC, h9]
    have hR : u = (v.spend a.a a.n).2 := by have := HD.out; simpa [DoR, h9] using this
    rw [hc]
    rw [h9] at ht
    have key := Lib.hid (rspend_any HM.out HG.out a.a a.n HI.out.n0 HI.out.n1)
    rw [← hR] at key
    clear hc hR h9
    go_enter Try.func23, Try.ntmps23
    go_wp2_with fail
    refine key.out.mono ?_
    rintro e w1 ⟨rfl, sl', hM, hT⟩
    go_wp2_with fail
    go_ret
    exact ⟨rfl, sl', hM, HT.out.trans hT⟩
  · have hc : doC v a = (v.ids.map v.sp).sum := by simp [doC, h9]
    have hR : Closed v u := by have := HD.out; simpa [DoR, h9] using this
    rw [hc]
    rw [h9] at ht
    have key := Lib.hid (rclose_any HM.out HG.out hR)
    clear hc hR h9
    go_enter Try.func23, Try.ntmps23
    go_wp2_with fail
    refine key.out.mono ?_
    rintro e w1 ⟨rfl, hM, hT⟩
    go_wp2_with fail
    go_ret
    exact ⟨rfl, sl, hM, HT.out.trans hT⟩
end Go.Proofs.Ytmnkgjgaileokaa
