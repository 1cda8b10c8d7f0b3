/- What is kept: worlds that differ in named blocks alone; rows of the call's own. -/
import Derived.Test.YtdojgbpaheadnaaGreatQLib
import Derived.Shelf.Sort.Plain
import Derived.Maps.Own
import Derived.Maps.OwnSet
import Derived.Maps.OwnOps
import Derived.Maps.Views
import Derived.Maps.AppendAt
import Derived.Deep.AppendLies
set_option linter.unusedVariables false
set_option linter.unusedSimpArgs false

namespace Go.Proofs.YtdojgbpaheadnaaGreat
open Go.RowKit Go.Shelf Go.Maps

theorem cell_lt {w : World} {a : Addr} {v : Value} (h : w.cell? a = some v) : a.block < w.heap.size := by
  rcases Nat.lt_or_ge a.block w.heap.size with h' | h'
  · exact h'
  · simp [World.cell?, Array.getElem?_eq_none h'] at h
theorem Below.cellE {w w' : World} {a : Addr} {v : Value} (hb : Below w.heap.size w w') (h : w.cell? a = some v) : w'.cell? a = some v := (hb.cell (cell_lt h)).trans h
/-- A slice of integers that lies below block B. -/
def Ints (w : World) (B : Nat) (v : Value) (l : List Int) : Prop :=
  ∃ a cap, v = .slice a l.length cap ∧ (l = [] ∨ ∃ b o, a = some ⟨b, o, none⟩ ∧ b < B ∧ ∀ j, j < l.length → w.cell? ⟨b, o + j, none⟩ = some (.int .i64 (l.getD j 0)))
theorem Ints.below {w w' : World} {B C : Nat} {v : Value} {l : List Int} (h : Ints w B v l) (hb : Below C w w') (hC : B ≤ C) : Ints w' B v l := by
  obtain ⟨a, cap, rfl, h | ⟨b, o, rfl, hl, hc⟩⟩ := h
  · exact ⟨a, cap, rfl, .inl h⟩
  · exact ⟨_, cap, rfl, .inr ⟨b, o, rfl, hl, fun j hj => (hb.cell (p := ⟨b, o + j, none⟩) (by show b < C; omega)).trans (hc j hj)⟩⟩
theorem Ints.mono {w : World} {B C : Nat} {v : Value} {l : List Int} (h : Ints w B v l) (hC : B ≤ C) : Ints w C v l := by
  obtain ⟨a, cap, rfl, h | ⟨b, o, rfl, hl, hc⟩⟩ := h
  · exact ⟨a, cap, rfl, .inl h⟩
  · exact ⟨_, cap, rfl, .inr ⟨b, o, rfl, by omega, hc⟩⟩

/-- w' is w with new blocks, and with writes to the blocks F alone. -/
structure Tn (F : Nat → Prop) (w w' : World) : Prop where
  os : w'.os = w.os
  tape : w'.tape = w.tape
  output : w'.output = w.output
  size : w.heap.size ≤ w'.heap.size
  block : ∀ b, b < w.heap.size → ¬ F b → w'.heap[b]? = w.heap[b]?
namespace Tn
variable {F G : Nat → Prop} {a w w' : World}
theorem refl (F : Nat → Prop) (w : World) : Tn F w w := ⟨rfl, rfl, rfl, Nat.le_refl _, fun _ _ _ => rfl⟩
theorem trans (h : Tn F a w) (g : Tn F w w') : Tn F a w' := ⟨g.os.trans h.os, g.tape.trans h.tape, g.output.trans h.output, Nat.le_trans h.size g.size,
  fun b hb hF => (g.block b (Nat.lt_of_lt_of_le hb h.size) hF).trans (h.block b hb hF)⟩
/-- What the second writes may lie in new blocks. -/
theorem then_ (h : Tn F a w) (g : Tn G w w') (hG : ∀ b, G b → F b ∨ a.heap.size ≤ b) : Tn F a w' := ⟨g.os.trans h.os, g.tape.trans h.tape, g.output.trans h.output, Nat.le_trans h.size g.size,
  fun b hb hF => (g.block b (Nat.lt_of_lt_of_le hb h.size) (fun e => (hG b e).elim hF (by omega))).trans (h.block b hb hF)⟩
theorem mono (h : Tn F w w') (g : ∀ b, F b → G b) : Tn G w w' := ⟨h.os, h.tape, h.output, h.size, fun b hb hG => h.block b hb fun e => hG (g b e)⟩
theorem of_below (h : Below w.heap.size w w') : Tn F w w' := ⟨h.os, h.tape, h.output, h.size, fun b hb _ => h.block b hb⟩
theorem of_below' {B : Nat} (h : Below B w w') (hF : ∀ b, B ≤ b → b < w.heap.size → F b) : Tn F w w' := ⟨h.os, h.tape, h.output, h.size, fun b hb hn => h.block b (by
  rcases Nat.lt_or_ge b B with h' | h'
  · exact h'
  · exact absurd (hF b h' hb) hn)⟩
theorem of_grown {row : Option Nat} (h : w.grownBy w' row) : Tn (fun b => row = some b) w w' := ⟨h.os, h.tape, h.output, h.size, fun b hb hn => h.block b hb fun e => hn e.symm⟩
theorem alloc (h : Tn F a w) (o : Obj) : Tn F a (w.alloc o) := h.trans (of_below ((Below.refl _ _).alloc (Nat.le_refl _) _))
theorem drewN (h : Tn F a w) (n : Nat) : Tn F a (w.drewN n) := h.trans (of_below (bdrewN (Below.refl _ _) n))
theorem drew (h : Tn F a w) : Tn F a w.drew := ⟨h.os, h.tape, h.output, h.size, h.block⟩
theorem setCell (h : Tn F a w) {p : Addr} (hp : F p.block ∨ a.heap.size ≤ p.block) (u : Value) : Tn F a (w.setCell p u) := ⟨h.os, h.tape, h.output, by simpa using h.size,
  fun b hb hF => (Below.heap_setCell _ _ _ _ (fun e => hp.elim (fun g => hF (by rw [e]; exact g)) (fun g => by omega))).trans (h.block b hb hF)⟩
theorem below {B : Nat} (h : Tn F w w') (hB : B ≤ w.heap.size) (hF : ∀ b, F b → B ≤ b) : Below B w w' := ⟨h.os, h.tape, h.output, h.size, fun b hb => h.block b (by omega) fun e => by have := hF b e; omega⟩
theorem blk {b : Nat} {xs : Array Value} {T : TypeId} (h : Tn F w w') (k : Blk w b xs T) (hn : ¬ F b) : Blk w' b xs T := by unfold Blk; rw [h.block b k.lt hn]; exact k
theorem cell {p : Addr} {v : Value} (h : Tn F w w') (k : w.cell? p = some v) (hn : ¬ F p.block) : w'.cell? p = some v := by
  rw [World.cell?_of_block (h.block p.block (cell_lt k) hn)]; exact k
theorem row {B : Nat} {e : TypeId} {z n : Nat} {v : Value} {xs : List Value} (h : Tn F w w') (k : w.ownsRow B e z v n xs) (hn : ∀ r, v.ownBlock = some r → ¬ F r) : w'.ownsRow B e z v n xs := by
  obtain ⟨h0, ⟨h1, h2⟩ | ⟨g, c, cur, h1, h2, h3, h4⟩⟩ := k
  · exact ⟨h0, .inl ⟨h1, h2⟩⟩
  · exact ⟨h0, .inr ⟨g, c, cur, h1, h2, (h.block g (heap_lt h3) (hn g (by rw [h1]; rfl))).trans h3, h4⟩⟩
theorem map {P : Program} {K : TypeId} {b n : Nat} {D : DataW Unit} {R : Value → Option (DataW Unit × List MemPlace)} (h : Tn F w w') (k : w.ownsMap P K R b n D) (hn : ¬ F b) : w'.ownsMap P K R b n D := by
  obtain ⟨es, clock, hb, F', hs, hD⟩ := k
  exact ⟨es, clock, (h.block b (heap_lt hb) hn).trans hb, F', hs, hD⟩
end Tn

/-- A slice of integers that lies in blocks S. -/
def IntsIn (w : World) (S : Nat → Prop) (v : Value) (l : List Int) : Prop :=
  ∃ a cap, v = .slice a l.length cap ∧ (l = [] ∨ ∃ b o, a = some ⟨b, o, none⟩ ∧ S b ∧ ∀ j, j < l.length → w.cell? ⟨b, o + j, none⟩ = some (.int .i64 (l.getD j 0)))
theorem IntsIn.ints {w : World} {S : Nat → Prop} {v : Value} {l : List Int} {B : Nat} (h : IntsIn w S v l) (hS : ∀ b, S b → b < w.heap.size → b < B) : Ints w B v l := by
  obtain ⟨a, cap, rfl, h | ⟨b, o, rfl, hl, hc⟩⟩ := h
  · exact ⟨a, cap, rfl, .inl h⟩
  · rcases Nat.eq_zero_or_pos l.length with h0 | h0
    · exact ⟨_, cap, rfl, .inl (List.eq_nil_of_length_eq_zero h0)⟩
    · exact ⟨_, cap, rfl, .inr ⟨b, o, rfl, hS b hl (cell_lt (hc 0 h0)), hc⟩⟩
theorem IntsIn.keep {w w' : World} {F S S' : Nat → Prop} {v : Value} {l : List Int} (h : IntsIn w S v l) (t : Tn F w w') (hF : ∀ b, S b → b < w.heap.size → ¬ F b) (hS : ∀ b, S b → b < w.heap.size → S' b) : IntsIn w' S' v l := by
  obtain ⟨a, cap, rfl, h | ⟨b, o, rfl, hl, hc⟩⟩ := h
  · exact ⟨a, cap, rfl, .inl h⟩
  · rcases Nat.eq_zero_or_pos l.length with h0 | h0
    · exact ⟨_, cap, rfl, .inl (List.eq_nil_of_length_eq_zero h0)⟩
    · have hb := cell_lt (hc 0 h0)
      exact ⟨_, cap, rfl, .inr ⟨b, o, rfl, hS b hl hb, fun j hj => t.cell (hc j hj) (hF b hl hb)⟩⟩

/-! A slice of the call's own -/
def OwnSl (w : World) (B : Nat) (a : Option Addr) (D : List Int) (cap : Nat) : Prop :=
  D.length ≤ cap ∧ (D = [] ∨ ∃ g, a = some ⟨g, 0, none⟩ ∧ B ≤ g ∧ g < w.heap.size ∧ Go.Sort.Holds (Value.int .i64) w g 0 D.toArray)
theorem below_ahead {B : Nat} {a w : World} (h : Below B a w) (n : Nat) : Below B a (Go.Sort.ahead w n) := ⟨h.os, h.tape, h.output, h.size, h.block⟩
theorem below_putRow {B : Nat} {a w : World} (h : Below B a w) {g : Nat} (hg : B ≤ g) (o : Nat) (d : Array Int) : Below B a (Go.Sort.putRow (Value.int .i64) w g o d) :=
  ⟨h.os, h.tape, h.output, by rw [Go.Sort.size_putRow]; exact h.size, fun k hk => by
    show (w.heap.modify g _)[k]? = _
    rw [Array.getElem?_modify, if_neg (by omega)]; exact h.block k hk⟩
theorem tn_ahead (w : World) (n : Nat) (F : Nat → Prop) : Tn F w (Go.Sort.ahead w n) := ⟨rfl, rfl, rfl, Nat.le_refl _, fun _ _ _ => rfl⟩
theorem tn_putRow (w : World) (g o : Nat) (d : Array Int) : Tn (· = g) w (Go.Sort.putRow (Value.int .i64) w g o d) :=
  ⟨rfl, rfl, rfl, by rw [Go.Sort.size_putRow]; exact Nat.le_refl _, fun k _ hn => by
    show (w.heap.modify g _)[k]? = _
    rw [Array.getElem?_modify, if_neg (fun e => hn e.symm)]⟩
theorem tn_grow (w : World) (os : Array Obj) (F : Nat → Prop) : Tn F w (Go.Sort.grow w os) :=
  ⟨rfl, rfl, rfl, by rw [Go.Sort.size_grow]; omega, fun k hk _ => Go.Sort.heap_grow_old w os hk⟩

theorem OwnSl.keep {w w' : World} {F : Nat → Prop} {B : Nat} {a : Option Addr} {D : List Int} {cap : Nat} (h : OwnSl w B a D cap) (t : Tn F w w') (hF : ∀ b, B ≤ b → b < w.heap.size → a = some ⟨b, 0, none⟩ → ¬ F b) : OwnSl w' B a D cap := by
  obtain ⟨hcap, rfl | ⟨g, rfl, hg, hgl, hh⟩⟩ := h
  · exact ⟨hcap, .inl rfl⟩
  · refine ⟨hcap, .inr ⟨g, rfl, hg, by have := t.size; omega, fun j hj => ?_⟩⟩
    have hb := t.block g hgl (hF g hg hgl rfl)
    obtain ⟨h1, h2⟩ := hh j hj
    exact ⟨by rw [World.cell?_of_block hb]; exact h1, by rw [World.frozen?_of_block hb]; exact h2⟩
theorem OwnSl.ints {w : World} {B : Nat} {a : Option Addr} {D : List Int} {cap : Nat} (h : OwnSl w B a D cap) : IntsIn w (fun b => B ≤ b ∧ b < w.heap.size ∧ a = some ⟨b, 0, none⟩) (.slice a D.length cap) D := by
  obtain ⟨hcap, rfl | ⟨g, rfl, hg, hgl, hh⟩⟩ := h
  · exact ⟨a, cap, rfl, .inl rfl⟩
  · refine ⟨_, cap, rfl, .inr ⟨g, 0, rfl, ⟨hg, hgl, rfl⟩, fun j hj => ?_⟩⟩
    have := (hh j (by simpa using hj)).1
    rw [getElem!_pos _ j (by simpa using hj)] at this
    rw [getD_get _ _ hj]
    simpa using this
theorem own_of_row {w : World} {B : Nat} {v : Value} {D : List Int} (h : w.ownsRow B 3 1 v D.length (D.map (Value.int .i64))) : ∃ a cap, v = .slice a D.length cap ∧ OwnSl w B a D cap ∧ (∀ b o, a = some ⟨b, o, none⟩ → v.ownBlock = some b) := by
  obtain ⟨_, ⟨rfl, hn⟩ | ⟨g, c', cur, rfl, hg, hh, hn, hm, hcs, hx⟩⟩ := h
  · exact ⟨none, 0, by rw [hn], ⟨by omega, .inl (List.eq_nil_of_length_eq_zero hn)⟩, fun b o e => by cases e⟩
  · refine ⟨_, _, rfl, ⟨hn, .inr ⟨g, rfl, hg, heap_lt hh, fun j hj => ?_⟩⟩, fun b o e => by injection e with e; injection e with e1; rw [← e1]; rfl⟩
    have hj' : j < D.length := by simpa using hj
    have e : cur[0 + j]? = some (Value.int .i64 D[j]) := by
      have h1 := congrArg (fun l => l[j]?) hx
      simp only [Nat.mul_one, List.getElem?_map, List.getElem?_eq_getElem hj', Option.map_some] at h1
      rw [List.getElem?_take_of_lt hj'] at h1
      simpa using h1
    constructor
    · simp only [World.cell?, hh]
      rw [getElem!_pos D.toArray j hj]
      simpa using e
    · simp [World.frozen?, hh]
theorem row_lt {w : World} {B : Nat} {e : TypeId} {z n : Nat} {v : Value} {xs : List Value} (h : w.ownsRow B e z v n xs) : ∀ r, v.ownBlock = some r → B ≤ r ∧ r < w.heap.size := by
  obtain ⟨_, ⟨rfl, hn⟩ | ⟨g, c', cur, rfl, hg, hh, _⟩⟩ := h
  · intro r hr; cases hr
  · intro r hr
    have : g = r := by injection hr
    subst this
    exact ⟨hg, heap_lt hh⟩
theorem row_cell {w : World} {B : Nat} {e : TypeId} {n : Nat} {v : Value} {xs : List Value} (h : w.ownsRow B e 1 v n xs) : ∃ a cap, v = .slice a n cap ∧ (n = 0 ∨ ∃ g, a = some ⟨g, 0, none⟩ ∧ v.ownBlock = some g ∧ ∀ j u, xs[j]? = some u → w.cell? ⟨g, j, none⟩ = some u) := by
  obtain ⟨h0, ⟨rfl, hn⟩ | ⟨g, c', cur, rfl, hg, hh, hn, hm, hcs, hx⟩⟩ := h
  · exact ⟨none, 0, by rw [hn], .inl hn⟩
  · refine ⟨_, _, rfl, .inr ⟨g, rfl, rfl, fun j u hj => ?_⟩⟩
    simp only [World.cell?, hh]
    rw [← hx, Nat.mul_one] at hj
    have hjl : j < n := by
      have := (List.getElem?_eq_some_iff.1 hj).1
      rw [List.length_take] at this; omega
    rw [List.getElem?_take_of_lt hjl] at hj
    simpa using hj

theorem row_mono {w : World} {B B' : Nat} {e : TypeId} {z n : Nat} {v : Value} {xs : List Value} (h : w.ownsRow B e z v n xs) (hB : B' ≤ B) : w.ownsRow B' e z v n xs := by
  obtain ⟨h0, h1 | ⟨g, c, cur, q1, q2, q3⟩⟩ := h
  · exact ⟨h0, .inl h1⟩
  · exact ⟨h0, .inr ⟨g, c, cur, q1, by omega, q3⟩⟩
theorem add_off (b o i : Nat) : (⟨b, o, none⟩ : Addr).add i = ⟨b, o + i, none⟩ := by by_cases h : i = 0 <;> simp [Addr.add, h]
theorem add_of (b i : Nat) : (⟨b, 0, none⟩ : Addr).add i = ⟨b, i, none⟩ := by rw [add_off, Nat.zero_add]
end Go.Proofs.YtdojgbpaheadnaaGreat
