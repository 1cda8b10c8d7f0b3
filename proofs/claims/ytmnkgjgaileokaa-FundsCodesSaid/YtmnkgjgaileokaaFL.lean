/- The contract of Total, whole. -/
import Derived.Test.YtmnkgjgaileokaaFK
namespace Go.Proofs.Ytmnkgjgaileokaa
open Go.RowKit

def FS.tot5 (s : FS) (n : Nat) (x : Int) : Array Value := if x ∈ s.ids then #[.int .i64 x, .int .i64 (s.pa x), .int .i64 (totF s.al s.kids (n + 1) x), .int .i64 (totF s.sp s.kids (n + 1) x), .int .i64 (totF s.en s.kids (n + 1) x)] else #[.int .i64 0, .int .i64 0, .int .i64 0, .int .i64 0, .int .i64 0]
set_option maxRecDepth 100000 in
set_option maxHeartbeats 4000000 in
theorem total_any {w : World} {s : FS} (h : Mem w s) (f : Fix s.ids s.sp s.en s.kids) (ha : ∀ z ∈ s.ids, 0 ≤ s.al z) (n : Nat) (hd : ∀ x ∈ s.ids, Deep s.kids n x) (hT : ∀ x ∈ s.ids, TB s (n + 1) x) (x : Int) (h0 : -9223372036854775808 ≤ x) (h1 : x ≤ 9223372036854775807) :
    Calls Try.prog 20 #[.pointer (some ⟨s.fb, 0, none⟩), .int .i64 x] w fun r w' => r = .returned (.agg (s.tot5 n x)) ∧ Below w.heap.size w w' := by
  obtain ⟨c0, c1⟩ := h.fbc
  have hz := h.fne
  have hlk := (h.alloc (.cells #[.int .i64 0, .int .i64 0, .int .i64 0, .int .i64 0, .int .i64 0] 31)).lookup x h0 h1
  by_cases hx : x ∈ s.ids
  · rw [look_yes hx] at hlk
    have hv : s.tot5 n x = #[.int .i64 x, .int .i64 (s.pa x), .int .i64 (totF s.al s.kids (n + 1) x), .int .i64 (totF s.sp s.kids (n + 1) x), .int .i64 (totF s.en s.kids (n + 1) x)] := if_pos hx
    rw [hv]
    have hb2 : Below w.heap.size w ((w.alloc (.cells #[.int .i64 0, .int .i64 0, .int .i64 0, .int .i64 0, .int .i64 0] 31)).alloc (.cells #[.func (.func 38) #[] #[.pointer (some ⟨w.heap.size + 1, 0, none⟩)]] 72)) := ((Below.refl _ _).alloc (Nat.le_refl _) _).alloc (by rw [size_alloc]; omega) _
    have B0 := Lib.hid hb2
    have M0 := Lib.hid ((h.alloc (.cells #[.int .i64 0, .int .i64 0, .int .i64 0, .int .i64 0, .int .i64 0] 31)).alloc (.cells #[.func (.func 38) #[] #[.pointer (some ⟨w.heap.size + 1, 0, none⟩)]] 72))
    have R0 := Lib.hid ((Blk.new w #[.int .i64 0, .int .i64 0, .int .i64 0, .int .i64 0, .int .i64 0] 31).alloc (.cells #[.func (.func 38) #[] #[.pointer (some ⟨w.heap.size + 1, 0, none⟩)]] 72))
    have C0 := Lib.hid (Blk.at_new (w := w.alloc (.cells #[.int .i64 0, .int .i64 0, .int .i64 0, .int .i64 0, .int .i64 0] 31)) (n := w.heap.size + 1) (by simp) #[.func (.func 38) #[] #[.pointer (some ⟨w.heap.size + 1, 0, none⟩)]] 72)
    have HF := Lib.hid f
    have HA := Lib.hid ha
    have HX := Lib.hid hx
    have HD := Lib.hid (hd x hx)
    have HTB := Lib.hid (hT x hx)
    have hmf : ∀ (fn : Fn) (first cap : Array Value) (w : World), (Instr.makeFunc fn first cap).run Try.prog w = .ok (.func fn first cap) w := fun _ _ _ _ => rfl
    clear h f ha hd hT hx hv hb2
    go_enter Try.func20, Try.ntmps20
    go_wp2_with fail
    obtain ⟨W, hW⟩ : ∃ W, W = (w.alloc (.cells #[.int .i64 0, .int .i64 0, .int .i64 0, .int .i64 0, .int .i64 0] 31)).alloc (.cells #[.func (.func 38) #[] #[.pointer (some ⟨w.heap.size + 1, 0, none⟩)]] 72) := ⟨_, rfl⟩
    rw [← hW] at B0 M0 R0 C0
    rw [← hW]
    clear hW hlk c0 c1
    refine wp_region_still_tail 7 (by kernel_rfl) (by kernel_rfl) ?_
    simp only [List.take_succ_cons, List.take_zero, List.drop_succ_cons, List.drop_zero]
    obtain ⟨Wd, hWd⟩ : ∃ Wd : World, Wd = { heap := W.heap, tape := W.tape, drawn := W.drawn + 1, os := W.os, output := W.output } := ⟨_, rfl⟩
    have M1 : RowKit.Hid (Mem Wd s) := by rw [hWd]; exact M0.out.drewN 1
    have R1' : RowKit.Hid (Blk Wd w.heap.size #[.int .i64 0, .int .i64 0, .int .i64 0, .int .i64 0, .int .i64 0] 31) := by rw [hWd]; exact R0.out.drew
    have C1 : RowKit.Hid (Blk Wd (w.heap.size + 1) #[.func (.func 38) #[] #[.pointer (some ⟨w.heap.size + 1, 0, none⟩)]] 72) := by rw [hWd]; exact C0.out.drew
    have B1' : RowKit.Hid (Below w.heap.size w Wd) := by rw [hWd]; exact B0.out.drew
    rw [← hWd]
    clear hWd M0 R0 C0 B0
    have hl2 := M1.out.lookup x h0 h1
    rw [look_yes HX.out] at hl2
    obtain ⟨d0, d1⟩ := M1.out.fbc
    have k0 : Wd.cell? ⟨w.heap.size + 1, 0, none⟩ = some (.func (.func 38) #[] #[.pointer (some ⟨w.heap.size + 1, 0, none⟩)]) := C1.out.cell 0
    repeat still_step
    refine wpStill_nil ?_
    go_wp2_with fail
    refine (tot_any n _ s x (w.heap.size + 1) M1.out HF.out HA.out HX.out HD.out HTB.out C1.out).mono ?_
    rintro e w1 ⟨rfl, hb⟩
    have R1 := Lib.hid (R1'.out.below hb R1'.out.lt)
    have B1 := Lib.hid (B1'.out.trans (hb.mono B1'.out.size))
    obtain ⟨r0, r1, r2, r3, r4⟩ := five R1.out
    have of := R1.out.frozen
    clear hb
    go_wp2_with fail
    refine bodyPost_ret (v := .agg #[.int .i64 x, .int .i64 (s.pa x), .int .i64 (totF s.al s.kids (n + 1) x), .int .i64 (totF s.sp s.kids (n + 1) x), .int .i64 (totF s.en s.kids (n + 1) x)]) ?_ rfl ⟨rfl, ?_⟩
    · simp [results, Try.results20, go_sem, r0, r1, r2, r3, r4]
    · exact ((((B1.out.setCell (Nat.le_refl _) _).setCell (Nat.le_refl _) _).setCell (Nat.le_refl _) _).setCell (Nat.le_refl _) _).setCell (Nat.le_refl _) _
  · rw [look_no hx] at hlk
    have hv : s.tot5 n x = #[.int .i64 0, .int .i64 0, .int .i64 0, .int .i64 0, .int .i64 0] := if_neg hx
    rw [hv]
    clear h f ha hd hT hx hv
    go_enter Try.func20, Try.ntmps20
    go_wp2_with fail
    refine bodyPost_ret (v := .agg #[.int .i64 0, .int .i64 0, .int .i64 0, .int .i64 0, .int .i64 0]) ?_ rfl ⟨rfl, ?_⟩
    · simp [results, Try.results20, go_sem]
    · exact (Below.refl _ _).alloc (Nat.le_refl _) _
end Go.Proofs.Ytmnkgjgaileokaa
