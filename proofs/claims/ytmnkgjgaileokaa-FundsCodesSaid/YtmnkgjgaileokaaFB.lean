/- Contracts of free, Fund and Free. -/
import Derived.Test.YtmnkgjgaileokaaFA
namespace Go.Proofs.Ytmnkgjgaileokaa
open Go.RowKit

theorem fcellE {w : World} {b : Nat} {v0 v1 v2 v3 v4 v5 : Value} {T : TypeId} (h : Blk w b #[v0, v1, v2, v3, v4, v5] T) :
    w.cell? ⟨b, 0, none⟩ = some v0 ∧ w.cell? ⟨b, 1, none⟩ = some v1 ∧ w.cell? ⟨b, 2, none⟩ = some v2 ∧ w.cell? ⟨b, 3, none⟩ = some v3 ∧ w.cell? ⟨b, 4, none⟩ = some v4 ∧ w.cell? ⟨b, 5, none⟩ = some v5 :=
  ⟨h.cell 0, h.cell 1, h.cell 2, h.cell 3, h.cell 4, h.cell 5⟩
set_option maxHeartbeats 1000000 in
theorem free_any {w : World} {g : Nat} {x p a s e : Int} {b : Value} (h : Blk w g (fcells x p a s e b) 71) (h0 : 0 ≤ s) (h1 : 0 ≤ e) (h2 : s + e ≤ a) (h3 : a ≤ 1000000000000000) :
    Calls Try.prog 37 #[.pointer (some ⟨g, 0, none⟩)] w fun r w' => r = .returned (.int .i64 (a - s - e)) ∧ ∃ n, w' = w.drewN n := by
  obtain ⟨c0, c1, c2, c3, c4, c5⟩ := fcellE h
  clear h
  go_enter Try.func37, Try.ntmps37
  go_wp2_with fail
  go_quiet (fail)
  go_wp2_with fail
  go_ret
  exact ⟨rfl, _, rfl⟩
/-- The numbers are in order. -/
structure Num (s : FS) : Prop where
  idb : ∀ x ∈ s.ids, 1 ≤ x ∧ x ≤ 9223372036854775807
  sp : ∀ x ∈ s.ids, 0 ≤ s.sp x
  en : ∀ x ∈ s.ids, 0 ≤ s.en x
  le : ∀ x ∈ s.ids, s.sp x + s.en x ≤ s.al x
  al : ∀ x ∈ s.ids, s.al x ≤ 1000000000000000
def FS.free (s : FS) (x : Int) : Int := s.al x - s.sp x - s.en x
def FS.fund5 (s : FS) (x : Int) : Array Value := if x ∈ s.ids then #[.int .i64 x, .int .i64 (s.pa x), .int .i64 (s.al x), .int .i64 (s.sp x), .int .i64 (s.en x)] else #[.int .i64 0, .int .i64 0, .int .i64 0, .int .i64 0, .int .i64 0]
theorem Mem.fbc {w : World} {s : FS} (h : Mem w s) : w.cell? ⟨s.fb, 0, none⟩ = some (.map s.bm) ∧ w.cell? ⟨s.fb, 1, none⟩ = some (.int .i64 s.m) := ⟨h.fb.cell 0, h.fb.cell 1⟩
theorem Mem.fne {w : World} {s : FS} (h : Mem w s) : s.fb < w.heap.size := h.fb.lt
theorem look_yes {s : FS} {x : Int} (h : x ∈ s.ids) : s.look x = .pointer (some ⟨s.g x, 0, none⟩) := if_pos h
theorem look_no {s : FS} {x : Int} (h : x ∉ s.ids) : s.look x = .pointer none := if_neg h

set_option maxRecDepth 100000 in
set_option maxHeartbeats 2000000 in
theorem fund_any {w : World} {s : FS} (h : Mem w s) (x : Int) (h0 : -9223372036854775808 ≤ x) (h1 : x ≤ 9223372036854775807) :
    Calls Try.prog 17 #[.pointer (some ⟨s.fb, 0, none⟩), .int .i64 x] w fun r w' => r = .returned (.tuple #[.agg (s.fund5 x), .bool (decide (x ∈ s.ids))]) ∧ Below w.heap.size w w' := by
  obtain ⟨c0, c1⟩ := h.fbc
  have hz := h.fne
  have hlk := (h.alloc (.cells #[.int .i64 0, .int .i64 0, .int .i64 0, .int .i64 0, .int .i64 0] 31)).lookup x h0 h1
  by_cases hx : x ∈ s.ids
  · rw [look_yes hx] at hlk
    obtain ⟨d0, d1, d2, d3, d4, d5⟩ := fcellE (h.fund x hx)
    have hy := (h.fund x hx).lt
    have hv : s.fund5 x = #[.int .i64 x, .int .i64 (s.pa x), .int .i64 (s.al x), .int .i64 (s.sp x), .int .i64 (s.en x)] := if_pos hx
    have hd : decide (x ∈ s.ids) = true := by simpa using hx
    rw [hd, hv]
    clear h hx hd hv
    go_enter Try.func17, Try.ntmps17
    go_wp2_with fail
    refine bodyPost_ret (v := .tuple #[.agg #[.int .i64 x, .int .i64 (s.pa x), .int .i64 (s.al x), .int .i64 (s.sp x), .int .i64 (s.en x)], .bool true]) ?_ rfl ⟨rfl, ?_⟩
    · simp [results, Try.results17, go_sem]
    · exact (Below.refl _ _).alloc (Nat.le_refl _) _
  · rw [look_no hx] at hlk
    have hv : s.fund5 x = #[.int .i64 0, .int .i64 0, .int .i64 0, .int .i64 0, .int .i64 0] := if_neg hx
    have hd : decide (x ∈ s.ids) = false := by simpa using hx
    rw [hd, hv]
    clear h hx hd hv
    go_enter Try.func17, Try.ntmps17
    go_wp2_with fail
    refine bodyPost_ret (v := .tuple #[.agg #[.int .i64 0, .int .i64 0, .int .i64 0, .int .i64 0, .int .i64 0], .bool false]) ?_ rfl ⟨rfl, ?_⟩
    · simp [results, Try.results17, go_sem]
    · exact (Below.refl _ _).alloc (Nat.le_refl _) _
def FS.free0 (s : FS) (x : Int) : Int := if x ∈ s.ids then s.free x else 0
set_option maxRecDepth 100000 in
set_option maxHeartbeats 2000000 in
theorem freeof_any {w : World} {s : FS} (h : Mem w s) (hn : Num s) (x : Int) (h0 : -9223372036854775808 ≤ x) (h1 : x ≤ 9223372036854775807) :
    Calls Try.prog 18 #[.pointer (some ⟨s.fb, 0, none⟩), .int .i64 x] w fun r w' => r = .returned (.int .i64 (s.free0 x)) ∧ Below w.heap.size w w' := by
  obtain ⟨c0, c1⟩ := h.fbc
  have hlk := h.lookup x h0 h1
  by_cases hx : x ∈ s.ids
  · rw [look_yes hx] at hlk
    have hF := Lib.hid (h.fund x hx)
    have hv : s.free0 x = s.al x - s.sp x - s.en x := if_pos hx
    have n1 := hn.sp x hx
    have n2 := hn.en x hx
    have n3 := hn.le x hx
    have n4 := hn.al x hx
    rw [hv]
    clear h hx hv
    go_enter Try.func18, Try.ntmps18
    go_wp2_with fail
    refine (free_any hF.out n1 n2 n3 n4).mono ?_
    rintro e w1 ⟨rfl, n, rfl⟩
    go_wp2_with fail
    go_ret
    exact ⟨rfl, bdrewN (Below.refl _ _) _⟩
  · rw [look_no hx] at hlk
    have hv : s.free0 x = 0 := if_neg hx
    rw [hv]
    clear h hx hv
    go_enter Try.func18, Try.ntmps18
    go_wp2_with fail
    go_ret
    exact ⟨rfl, Below.refl _ _⟩
end Go.Proofs.Ytmnkgjgaileokaa
