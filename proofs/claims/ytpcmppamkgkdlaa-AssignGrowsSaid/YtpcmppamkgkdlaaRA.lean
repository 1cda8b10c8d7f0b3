/- How the arguments lie in memory: slices of integers, of such slices, of wants; and that they stay. -/
import Derived.Test.YtpcmppamkgkdlaaProg
import Derived.Test.YtpcmppamkgkdlaaLib
namespace Go.Proofs.Ytpcmppamkgkdlaa
open Go.RowKit

theorem cell_lt {w : World} {a : Addr} {v : Value} (h : w.cell? a = some v) : a.block < w.heap.size := by
  rcases Nat.lt_or_ge a.block w.heap.size with h' | h'
  · exact h'
  · simp [World.cell?, Array.getElem?_eq_none h'] at h
theorem Below.cellE {w w' : World} {a : Addr} {v : Value} (hb : Below w.heap.size w w') (h : w.cell? a = some v) : w'.cell? a = some v := (hb.cell (cell_lt h)).trans h
/-- A slice of integers that lies below block B. -/
def Ints (w : World) (B : Nat) (v : Value) (l : List Int) : Prop :=
  ∃ a cap, v = .slice a l.length cap ∧ (l = [] ∨ ∃ b o, a = some ⟨b, o, none⟩ ∧ b < B ∧ ∀ j, j < l.length → w.cell? ⟨b, o + j, none⟩ = some (.int .i64 (l.getD j 0)))
theorem Ints.below {w w' : World} {B C : Nat} {v : Value} {l : List Int} (h : Ints w B v l) (hb : Below C w w') (hC : B ≤ C) : Ints w' B v l := by
  obtain ⟨a, cap, rfl, h | ⟨b, o, rfl, hl, hc⟩⟩ := h
  · exact ⟨a, cap, rfl, .inl h⟩
  · exact ⟨_, cap, rfl, .inr ⟨b, o, rfl, hl, fun j hj => (hb.cell (p := ⟨b, o + j, none⟩) (by show b < C; omega)).trans (hc j hj)⟩⟩
theorem Ints.mono {w : World} {B C : Nat} {v : Value} {l : List Int} (h : Ints w B v l) (hC : B ≤ C) : Ints w C v l := by
  obtain ⟨a, cap, rfl, h | ⟨b, o, rfl, hl, hc⟩⟩ := h
  · exact ⟨a, cap, rfl, .inl h⟩
  · exact ⟨_, cap, rfl, .inr ⟨b, o, rfl, by omega, hc⟩⟩

/-- A slice of slices of integers. -/
def Rows2 (w : World) (B : Nat) (v : Value) (L : List (List Int)) : Prop :=
  ∃ a cap, v = .slice a L.length cap ∧ (L = [] ∨ ∃ b o, a = some ⟨b, o, none⟩ ∧ b < B ∧ ∀ j, j < L.length → ∃ u, w.cell? ⟨b, o + j, none⟩ = some u ∧ Ints w B u (L.getD j []))
theorem Rows2.below {w w' : World} {B C : Nat} {v : Value} {l : List (List Int)} (h : Rows2 w B v l) (hb : Below C w w') (hC : B ≤ C) : Rows2 w' B v l := by
  obtain ⟨a, cap, rfl, h | ⟨b, o, rfl, hl, hc⟩⟩ := h
  · exact ⟨a, cap, rfl, .inl h⟩
  · refine ⟨_, cap, rfl, .inr ⟨b, o, rfl, hl, fun j hj => ?_⟩⟩
    obtain ⟨u, h1, h2⟩ := hc j hj
    exact ⟨u, (hb.cell (p := ⟨b, o + j, none⟩) (by show b < C; omega)).trans h1, h2.below hb hC⟩
theorem Rows2.mono {w : World} {B C : Nat} {v : Value} {l : List (List Int)} (h : Rows2 w B v l) (hC : B ≤ C) : Rows2 w C v l := by
  obtain ⟨a, cap, rfl, h | ⟨b, o, rfl, hl, hc⟩⟩ := h
  · exact ⟨a, cap, rfl, .inl h⟩
  · refine ⟨_, cap, rfl, .inr ⟨b, o, rfl, by omega, fun j hj => ?_⟩⟩
    obtain ⟨u, h1, h2⟩ := hc j hj
    exact ⟨u, h1, h2.mono hC⟩

/-- A want: the pick-up branch, the copies. -/
abbrev Wt := Int × List Int
def noW : Wt := (0, [])
def Wants (w : World) (B : Nat) (v : Value) (L : List Wt) : Prop :=
  ∃ a cap, v = .slice a L.length cap ∧ (L = [] ∨ ∃ b o, a = some ⟨b, o, none⟩ ∧ b < B ∧ ∀ j, j < L.length → ∃ u, w.cell? ⟨b, o + j * 2, none⟩ = some (.int .i64 (L.getD j noW).1) ∧ w.cell? ⟨b, o + j * 2 + 1, none⟩ = some u ∧ Ints w B u (L.getD j noW).2)
theorem Wants.below {w w' : World} {B C : Nat} {v : Value} {l : List Wt} (h : Wants w B v l) (hb : Below C w w') (hC : B ≤ C) : Wants w' B v l := by
  obtain ⟨a, cap, rfl, h | ⟨b, o, rfl, hl, hc⟩⟩ := h
  · exact ⟨a, cap, rfl, .inl h⟩
  · refine ⟨_, cap, rfl, .inr ⟨b, o, rfl, hl, fun j hj => ?_⟩⟩
    obtain ⟨u, h0, h1, h2⟩ := hc j hj
    exact ⟨u, (hb.cell (p := ⟨b, o + j * 2, none⟩) (by show b < C; omega)).trans h0, (hb.cell (p := ⟨b, o + j * 2 + 1, none⟩) (by show b < C; omega)).trans h1, h2.below hb hC⟩
theorem Wants.mono {w : World} {B C : Nat} {v : Value} {l : List Wt} (h : Wants w B v l) (hC : B ≤ C) : Wants w C v l := by
  obtain ⟨a, cap, rfl, h | ⟨b, o, rfl, hl, hc⟩⟩ := h
  · exact ⟨a, cap, rfl, .inl h⟩
  · refine ⟨_, cap, rfl, .inr ⟨b, o, rfl, by omega, fun j hj => ?_⟩⟩
    obtain ⟨u, h0, h1, h2⟩ := hc j hj
    exact ⟨u, h0, h1, h2.mono hC⟩

/-- What a way costs. -/
def wayI (C : List (List Int)) (a b : Int) : Int :=
  if a < 0 ∨ (C.length : Int) ≤ a ∨ b < 0 ∨ ((C.getD a.toNat []).length : Int) ≤ b then 0 else min (max ((C.getD a.toNat []).getD b.toNat 0) 0) 1000000
theorem wayI_bd (C : List (List Int)) (a b : Int) : 0 ≤ wayI C a b ∧ wayI C a b ≤ 1000000 := by
  unfold wayI
  split <;> omega
theorem way_0 {C : List (List Int)} {a b : Int} (h : a < 0 ∨ (C.length : Int) ≤ a ∨ b < 0 ∨ ((C.getD a.toNat []).length : Int) ≤ b) : wayI C a b = 0 := if_pos h
theorem way_1 {C : List (List Int)} {a b : Int} (h : ¬ (a < 0 ∨ (C.length : Int) ≤ a ∨ b < 0 ∨ ((C.getD a.toNat []).length : Int) ≤ b)) : wayI C a b = min (max ((C.getD a.toNat []).getD b.toNat 0) 0) 1000000 := if_neg h
end Go.Proofs.Ytpcmppamkgkdlaa
