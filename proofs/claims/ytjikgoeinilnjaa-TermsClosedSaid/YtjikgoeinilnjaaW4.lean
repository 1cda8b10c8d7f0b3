/- Contracts of the calendar: contains, Open, Next and their references. -/
import Derived.Test.YtjikgoeinilnjaaW1
import Derived.Test.YtjikgoeinilnjaaShelf
namespace Go.Proofs.Ytjikgoeinilnjaa
open Go.RowKit

/-- What a slice of integers leads to. -/
def IntSl (w : World) (a : Option Addr) (D : List Int) : Prop :=
  D = [] ∨ ∃ b o, a = some ⟨b, o, none⟩ ∧ b < w.heap.size ∧ ∀ j, j < D.length → w.cell? ⟨b, o + j, none⟩ = some (.int .i64 (D.getD j 0))
theorem IntSl.below {w w' : World} {a : Option Addr} {D : List Int} {B : Nat} (h : IntSl w a D) (hb : Below B w w') (hB : w.heap.size ≤ B) : IntSl w' a D := by
  rcases h with h | ⟨b, o, rfl, hl, hc⟩
  · exact .inl h
  · exact .inr ⟨b, o, rfl, by have := hb.size; omega, fun j hj => (hb.cell (p := ⟨b, o + j, none⟩) (by show b < B; omega)).trans (hc j hj)⟩
theorem IntSl.over {w : World} {a : Option Addr} {D : List Int} (h : IntSl w a D) (x : World) : IntSl (over w x) a D := h.below (below_over w x) (Nat.le_refl _)
theorem IntSl.alloc {w : World} {a : Option Addr} {D : List Int} (h : IntSl w a D) (o : Obj) : IntSl (w.alloc o) a D := h.below ((Below.refl _ _).alloc (Nat.le_refl _) o) (Nat.le_refl _)

structure Cal where
  b0 : Bool
  b1 : Bool
  b2 : Bool
  b3 : Bool
  b4 : Bool
  b5 : Bool
  b6 : Bool
  days : List Int
def Cal.wk (c : Cal) (i : Nat) : Bool := [c.b0, c.b1, c.b2, c.b3, c.b4, c.b5, c.b6].getD i false
def openB (c : Cal) (d : Int) : Bool := exB d && (!c.wk (wkd d).toNat && !decide (d ∈ c.days))

theorem contains_any (a : Option Addr) (D : List Int) (cap : Nat) (x : Int) (w : World) (hD : IntSl w a D) (hl : D.length ≤ 1000) :
    Calls Try.prog 35 #[.slice a D.length cap, .int .i64 x] w fun e w' => e = .returned (.bool (decide (x ∈ D))) ∧ w = w' := by
  rcases hD with rfl | ⟨b, o, rfl, _, hc⟩
  · exact (Try.slices_Contains_int_empty a cap x w).mono fun e w' ⟨h, h'⟩ => ⟨by rw [h]; simp, h'.symm⟩
  · exact (Try.slices_Contains_int b o D.length cap D x w (Nat.le_refl _) (by omega) hc).mono fun e w' ⟨h, h'⟩ => ⟨by rw [h, List.take_length, List.contains_eq_mem], h'.symm⟩
theorem contains31_any (a : Option Addr) (D : List Int) (cap : Nat) (x : Int) (w : World) (hD : IntSl w a D) (hl : D.length ≤ 1000) :
    Calls Try.prog 31 #[.slice a D.length cap, .int .i64 x] w fun e w' => e = .returned (.bool (decide (x ∈ D))) ∧ w = w' := by
  go_enter Try.func31, Try.ntmps31
  go_wp2_with fail
  refine (contains_any _ _ _ _ _ hD hl).mono ?_
  rintro e w' ⟨rfl, rfl⟩
  go_wp2
  go_ret
  exact ⟨rfl, rfl⟩
theorem exists_val {d : Int} {b : Bool} (h : exB d = b) (w : World) : Calls Try.prog 29 #[.int .i64 d] w fun e w' => e = .returned (.bool b) ∧ w = w' := h ▸ exists_any d w

abbrev Cal.cells (c : Cal) (a : Option Addr) (cap : Nat) : Array Value := #[.bool c.b0, .bool c.b1, .bool c.b2, .bool c.b3, .bool c.b4, .bool c.b5, .bool c.b6, .slice a c.days.length cap]
theorem Cal.cell (c : Cal) (a : Option Addr) (cap : Nat) (T : TypeId) (w : World) (i : Nat) (hi : i < 7) :
    (w.alloc (.cells (c.cells a cap) T)).cell? ⟨w.heap.size, i, none⟩ = some (.bool (c.wk i)) := by
  rw [(Blk.new w (c.cells a cap) T).cell]
  have h7 : i = 0 ∨ i = 1 ∨ i = 2 ∨ i = 3 ∨ i = 4 ∨ i = 5 ∨ i = 6 := by omega
  rcases h7 with rfl | rfl | rfl | rfl | rfl | rfl | rfl <;> rfl
theorem open_any (c : Cal) (a : Option Addr) (cap : Nat) (d : Int) (w : World) (hD : IntSl w a c.days) (hl : c.days.length ≤ 1000) :
    Calls Try.prog 21 #[.agg #[.bool c.b0, .bool c.b1, .bool c.b2, .bool c.b3, .bool c.b4, .bool c.b5, .bool c.b6, .slice a c.days.length cap], .int .i64 d] w fun e w' =>
      e = .returned (.bool (openB c d)) ∧ Below w.heap.size w w' := by
  have hw : 0 ≤ wkd d ∧ wkd d < 7 := by unfold wkd; omega
  cases h0 : exB d
  · go_enter Try.func21, Try.ntmps21
    go_wp2_with (go_at_call 29; refine (exists_val h0 _).mono ?_; rintro e w' ⟨rfl, rfl⟩)
    go_ret
    exact ⟨ret_bool (by simp [openB, h0]), (Below.refl _ _).alloc (Nat.le_refl _) _⟩
  · have hc := c.cell a cap 43 w (wkd d).toNat (by omega)
    cases h1 : c.wk (wkd d).toNat
    all_goals
      rw [h1] at hc
      go_enter Try.func21, Try.ntmps21
      go_wp2_with (first | (go_at_call 29; refine (exists_val h0 _).mono ?_; rintro e w' ⟨rfl, rfl⟩) | (go_at_call 30; refine (weekday_any _ _).mono ?_; rintro e w' ⟨rfl, rfl⟩) | (go_at_call 31; refine (contains31_any _ _ _ _ _ (hD.alloc _) hl).mono ?_; rintro e w' ⟨rfl, rfl⟩))
      go_ret
      exact ⟨ret_bool (by simp [openB, h0, h1]), (Below.refl _ _).alloc (Nat.le_refl _) _⟩
end Go.Proofs.Ytjikgoeinilnjaa
