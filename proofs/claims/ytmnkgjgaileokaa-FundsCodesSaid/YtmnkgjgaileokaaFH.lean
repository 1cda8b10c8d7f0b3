/- Contracts of Mod, New, Small and do. -/
import Derived.Test.YtmnkgjgaileokaaFG
namespace Go.Proofs.Ytmnkgjgaileokaa
open Go.RowKit

theorem tmod_mod (a b : Int) (h0 : 0 < b) : (a.tmod b + b).tmod b = a % b := by
  have := Int.lt_tmod_of_pos a h0
  rw [Int.tmod_eq_emod_of_nonneg (by omega)]
  rw [Int.add_emod_right, Int.tmod_eq_emod]
  split
  · simp
  · have hn : (b.natAbs : Int) = b := by omega
    rw [hn, Int.sub_emod]; simp

theorem mod_any (a b : Int) (w : World) (h0 : 0 < b) (h1 : b ≤ 1000000) :
    Calls Try.prog 32 #[.int .i64 a, .int .i64 b] w fun e w' => e = .returned (.int .i64 (a % b)) ∧ w = w' := by
  have hb : ¬ b = 0 := by omega
  have hw : wrap64 (a.tmod b + b) = a.tmod b + b := by
    have := Int.tmod_lt_of_pos a h0
    have := Int.lt_tmod_of_pos a h0
    exact IntWalk.wrap64_in _ ⟨by omega, by omega⟩
  have hq := tmod_mod a b h0
  have H := Lib.hid hw
  have Q := Lib.hid hq
  clear hw hq
  go_enter Try.func32, Try.ntmps32
  go_wp2
  go_ret
  refine ⟨?_, rfl⟩
  show Ending.returned (.int .i64 ((wrap64 (a.tmod b + b)).tmod b)) = _
  rw [H.out, Q.out]


def FS.new (b : Nat) : FS := ⟨b, none, 0, [], fun _ => 0, fun _ => 0, fun _ => 0, fun _ => 0, fun _ => 0, fun _ => .nilFunc, fun _ => [], fun i => if i = b then .fb else .none⟩
theorem new_mem (w : World) : Mem (w.alloc (.cells #[.map none, .int .i64 0] 53)) (FS.new w.heap.size) where
  fresh := fun b hb => by rw [size_alloc] at hb; exact if_neg (by omega)
  fb := Blk.new w _ 53
  ofb := if_pos rfl
  fund := fun x hx => by cases hx
  ofund := fun x hx => by cases hx
  row := fun x hx => by cases hx
  orow := fun x hx => by cases hx
  kin := fun x hx => by cases hx
  map := .inl ⟨rfl, rfl⟩
theorem new_any (w : World) : Calls Try.prog 14 #[] w fun r w' => r = .returned (.pointer (some ⟨w.heap.size, 0, none⟩)) ∧ Mem w' (FS.new w.heap.size) ∧ w' = w.alloc (.cells #[.map none, .int .i64 0] 53) := by
  go_enter Try.func14, Try.ntmps14
  go_wp2_with fail
  go_ret
  exact ⟨rfl, new_mem w, rfl⟩
structure Act4 where
  k : Int
  a : Int
  b : Int
  n : Int
abbrev Act4.val (c : Act4) : Value := .agg #[.int .u8 c.k, .int .i64 c.a, .int .i64 c.b, .int .i64 c.n]
def Act4.small (c : Act4) : Act4 := ⟨c.k, c.a % 10, c.b % 10, c.n % 60 - 1⟩
set_option maxRecDepth 100000 in
set_option maxHeartbeats 2000000 in
theorem small_any (c : Act4) (w : World) : Calls Try.prog 15 #[c.val] w fun r w' => r = .returned c.small.val ∧ Below w.heap.size w w' := by
  have m0 : 0 ≤ c.a % 10 ∧ c.a % 10 < 10 := by omega
  have m1 : 0 ≤ c.b % 10 ∧ c.b % 10 < 10 := by omega
  have m2 : 0 ≤ c.n % 60 ∧ c.n % 60 < 60 := by omega
  have hb2 : Below w.heap.size w ((w.alloc (.cells #[.int .u8 c.k, .int .i64 c.a, .int .i64 c.b, .int .i64 c.n] 27)).alloc (.cells #[.int .u8 0, .int .i64 0, .int .i64 0, .int .i64 0] 27)) := ((Below.refl _ _).alloc (Nat.le_refl _) _).alloc (by rw [size_alloc]; omega) _
  have H1 := Lib.hid ((Blk.new w #[.int .u8 c.k, .int .i64 c.a, .int .i64 c.b, .int .i64 c.n] 27).alloc (.cells #[.int .u8 0, .int .i64 0, .int .i64 0, .int .i64 0] 27))
  have H2 := Lib.hid (Blk.at_new (w := w.alloc (.cells #[.int .u8 c.k, .int .i64 c.a, .int .i64 c.b, .int .i64 c.n] 27)) (n := w.heap.size + 1) (by simp) #[.int .u8 0, .int .i64 0, .int .i64 0, .int .i64 0] 27)
  have HB := Lib.hid hb2
  clear hb2
  go_enter Try.func15, Try.ntmps15
  go_wp2_with fail
  obtain ⟨W, hW⟩ : ∃ W, W = (w.alloc (.cells #[.int .u8 c.k, .int .i64 c.a, .int .i64 c.b, .int .i64 c.n] 27)).alloc (.cells #[.int .u8 0, .int .i64 0, .int .i64 0, .int .i64 0] 27) := ⟨_, rfl⟩
  rw [← hW] at H1 H2 HB
  rw [← hW]
  clear hW
  have c0 : W.cell? ⟨w.heap.size, 0, none⟩ = some (.int .u8 c.k) := H1.out.cell 0
  have c1 : W.cell? ⟨w.heap.size, 1, none⟩ = some (.int .i64 c.a) := H1.out.cell 1
  have c2 : W.cell? ⟨w.heap.size, 2, none⟩ = some (.int .i64 c.b) := H1.out.cell 2
  have c3 : W.cell? ⟨w.heap.size, 3, none⟩ = some (.int .i64 c.n) := H1.out.cell 3
  refine wp_region_still_tail 13 (by kernel_rfl) (by kernel_rfl) ?_
  simp only [List.take_succ_cons, List.take_zero, List.drop_succ_cons, List.drop_zero]
  repeat (first | still_step | (refine wpStill_step (fun K hK => ?_); go_simp; refine ⟨_, (mod_any _ _ _ (by omega) (by omega)).mono (fun _ _ h => ⟨h.1, h.2.symm⟩), hK _ ?_⟩; clear hK K))
  refine wpStill_nil ?_
  have d0 : W.cell? ⟨w.heap.size + 1, 0, none⟩ = some (.int .u8 0) := H2.out.cell 0
  have d1 : W.cell? ⟨w.heap.size + 1, 1, none⟩ = some (.int .i64 0) := H2.out.cell 1
  have d2 : W.cell? ⟨w.heap.size + 1, 2, none⟩ = some (.int .i64 0) := H2.out.cell 2
  have d3 : W.cell? ⟨w.heap.size + 1, 3, none⟩ = some (.int .i64 0) := H2.out.cell 3
  have df := H2.out.frozen
  have hw : IntKind.i64.wrap (c.n % 60 - 1) = c.n % 60 - 1 := by simp [IntKind.wrap, IntKind.bits, IntKind.signed]; omega
  simp only [hw]
  go_wp2_with fail
  refine bodyPost_ret (v := c.small.val) ?_ rfl ⟨rfl, ?_⟩
  · simp [results, Try.results15, go_sem, Act4.val, Act4.small, d0, d1, d2, d3]
  · exact ((((HB.out.drew).setCell (by show w.heap.size ≤ w.heap.size + 1; omega) _).setCell (by show w.heap.size ≤ w.heap.size + 1; omega) _).setCell (by show w.heap.size ≤ w.heap.size + 1; omega) _).setCell (by show w.heap.size ≤ w.heap.size + 1; omega) _
end Go.Proofs.Ytmnkgjgaileokaa
