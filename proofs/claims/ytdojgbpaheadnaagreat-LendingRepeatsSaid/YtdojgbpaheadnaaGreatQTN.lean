/- What is kept: worlds that differ in named blocks alone; rows of the call's own. -/
import Derived.Test.YtdojgbpaheadnaaGreatQLib
import Derived.Shelf.Sort.Plain
import Derived.Maps.Own
import Derived.Maps.OwnSet
import Derived.Maps.OwnOps
import Derived.Maps.Views
import Derived.Maps.AppendAt
import Derived.Deep.AppendLies
import Derived.Test.YtdojgbpaheadnaaGreatQP
import Derived.Test.YtdojgbpaheadnaaGreatProg
import Derived.DeepKeys4
set_option linter.unusedVariables false
set_option linter.unusedSimpArgs false

namespace Go.Proofs.YtdojgbpaheadnaaGreat
open Go.RowKit Go.Shelf Go.Maps

theorem cell_lt {w : World} {a : Addr} {v : Value} (h : w.cell? a = some v) : a.block < w.heap.size := by
 rcases Nat.lt_or_ge a.block w.heap.size with h' | h'
 ·exact h'
 ·simp [World.cell?, Array.getElem?_eq_none h'] at h
theorem Below.cellE {w w' : World} {a : Addr} {v : Value} (hb : Below w.heap.size w w') (h : w.cell? a = some v) : w'.cell? a = some v := (hb.cell (cell_lt h)).trans h
def Ints (w : World) (B : Nat) (v : Value) (l : List Int) : Prop :=
 ∃ a cap, v = .slice a l.length cap ∧ (l = [] ∨ ∃ b o, a = some ⟨b, o, none⟩ ∧ b < B ∧ ∀ j, j < l.length → w.cell? ⟨b, o + j, none⟩ = some (.int .i64 (l.getD j 0)))
theorem Ints.below {w w' : World} {B C : Nat} {v : Value} {l : List Int} (h : Ints w B v l) (hb : Below C w w') (hC : B ≤ C) : Ints w' B v l := by
 obtain ⟨a, cap, rfl, h | ⟨b, o, rfl, hl, hc⟩⟩ := h
 ·exact ⟨a, cap, rfl, .inl h⟩
 ·exact ⟨_, cap, rfl, .inr ⟨b, o, rfl, hl, fun j hj => (hb.cell (p := ⟨b, o + j, none⟩) (by show b < C; omega)).trans (hc j hj)⟩⟩
theorem Ints.mono {w : World} {B C : Nat} {v : Value} {l : List Int} (h : Ints w B v l) (hC : B ≤ C) : Ints w C v l := by
 obtain ⟨a, cap, rfl, h | ⟨b, o, rfl, hl, hc⟩⟩ := h
 ·exact ⟨a, cap, rfl, .inl h⟩
 ·exact ⟨_, cap, rfl, .inr ⟨b, o, rfl, by omega, hc⟩⟩

structure Tn (F : Nat → Prop) (w w' : World) : Prop where
 os : w'.os = w.os
 tape : w'.tape = w.tape
 output : w'.output = w.output
 size : w.heap.size ≤ w'.heap.size
 block : ∀ b, b < w.heap.size → ¬ F b → w'.heap[b]? = w.heap[b]?
namespace Tn
variable {F G : Nat → Prop} {a w w' : World}
theorem refl (F : Nat → Prop) (w : World) : Tn F w w := ⟨rfl, rfl, rfl, Nat.le_refl _, fun _ _ _ => rfl⟩
theorem trans (h : Tn F a w) (g : Tn F w w') : Tn F a w' := ⟨g.os.trans h.os, g.tape.trans h.tape, g.output.trans h.output, Nat.le_trans h.size g.size,
 fun b hb hF => (g.block b (Nat.lt_of_lt_of_le hb h.size) hF).trans (h.block b hb hF)⟩
theorem then_ (h : Tn F a w) (g : Tn G w w') (hG : ∀ b, G b → F b ∨ a.heap.size ≤ b) : Tn F a w' := ⟨g.os.trans h.os, g.tape.trans h.tape, g.output.trans h.output, Nat.le_trans h.size g.size,
 fun b hb hF => (g.block b (Nat.lt_of_lt_of_le hb h.size) (fun e => (hG b e).elim hF (by omega))).trans (h.block b hb hF)⟩
theorem mono (h : Tn F w w') (g : ∀ b, F b → G b) : Tn G w w' := ⟨h.os, h.tape, h.output, h.size, fun b hb hG => h.block b hb fun e => hG (g b e)⟩
theorem of_below (h : Below w.heap.size w w') : Tn F w w' := ⟨h.os, h.tape, h.output, h.size, fun b hb _ => h.block b hb⟩
theorem of_below' {B : Nat} (h : Below B w w') (hF : ∀ b, B ≤ b → b < w.heap.size → F b) : Tn F w w' := ⟨h.os, h.tape, h.output, h.size, fun b hb hn => h.block b (by
 rcases Nat.lt_or_ge b B with h' | h'
 ·exact h'
 ·exact absurd (hF b h' hb) hn)⟩
theorem of_grown {row : Option Nat} (h : w.grownBy w' row) : Tn (fun b => row = some b) w w' := ⟨h.os, h.tape, h.output, h.size, fun b hb hn => h.block b hb fun e => hn e.symm⟩
theorem alloc (h : Tn F a w) (o : Obj) : Tn F a (w.alloc o) := h.trans (of_below ((Below.refl _ _).alloc (Nat.le_refl _) _))
theorem drewN (h : Tn F a w) (n : Nat) : Tn F a (w.drewN n) := h.trans (of_below (bdrewN (Below.refl _ _) n))
theorem drew (h : Tn F a w) : Tn F a w.drew := ⟨h.os, h.tape, h.output, h.size, h.block⟩
theorem setCell (h : Tn F a w) {p : Addr} (hp : F p.block ∨ a.heap.size ≤ p.block) (u : Value) : Tn F a (w.setCell p u) := ⟨h.os, h.tape, h.output, by simpa using h.size,
 fun b hb hF => (Below.heap_setCell _ _ _ _ (fun e => hp.elim (fun g => hF (by rw [e]; exact g)) (fun g => by omega))).trans (h.block b hb hF)⟩
theorem below {B : Nat} (h : Tn F w w') (hB : B ≤ w.heap.size) (hF : ∀ b, F b → B ≤ b) : Below B w w' := ⟨h.os, h.tape, h.output, h.size, fun b hb => h.block b (by omega) fun e => by have := hF b e; omega⟩
theorem blk {b : Nat} {xs : Array Value} {T : TypeId} (h : Tn F w w') (k : Blk w b xs T) (hn : ¬ F b) : Blk w' b xs T := by unfold Blk; rw [h.block b k.lt hn]; exact k
theorem cell {p : Addr} {v : Value} (h : Tn F w w') (k : w.cell? p = some v) (hn : ¬ F p.block) : w'.cell? p = some v := by
 rw [World.cell?_of_block (h.block p.block (cell_lt k) hn)]; exact k
theorem row {B : Nat} {e : TypeId} {z n : Nat} {v : Value} {xs : List Value} (h : Tn F w w') (k : w.ownsRow B e z v n xs) (hn : ∀ r, v.ownBlock = some r → ¬ F r) : w'.ownsRow B e z v n xs := by
 obtain ⟨h0, ⟨h1, h2⟩ | ⟨g, c, cur, h1, h2, h3, h4⟩⟩ := k
 ·exact ⟨h0, .inl ⟨h1, h2⟩⟩
 ·exact ⟨h0, .inr ⟨g, c, cur, h1, h2, (h.block g (heap_lt h3) (hn g (by rw [h1]; rfl))).trans h3, h4⟩⟩
theorem map {P : Program} {K : TypeId} {b n : Nat} {D : DataW Unit} {R : Value → Option (DataW Unit × List MemPlace)} (h : Tn F w w') (k : w.ownsMap P K R b n D) (hn : ¬ F b) : w'.ownsMap P K R b n D := by
 obtain ⟨es, clock, hb, F', hs, hD⟩ := k
 exact ⟨es, clock, (h.block b (heap_lt hb) hn).trans hb, F', hs, hD⟩
end Tn

def IntsIn (w : World) (S : Nat → Prop) (v : Value) (l : List Int) : Prop :=
 ∃ a cap, v = .slice a l.length cap ∧ (l = [] ∨ ∃ b o, a = some ⟨b, o, none⟩ ∧ S b ∧ ∀ j, j < l.length → w.cell? ⟨b, o + j, none⟩ = some (.int .i64 (l.getD j 0)))
theorem IntsIn.ints {w : World} {S : Nat → Prop} {v : Value} {l : List Int} {B : Nat} (h : IntsIn w S v l) (hS : ∀ b, S b → b < w.heap.size → b < B) : Ints w B v l := by
 obtain ⟨a, cap, rfl, h | ⟨b, o, rfl, hl, hc⟩⟩ := h
 ·exact ⟨a, cap, rfl, .inl h⟩
 ·rcases Nat.eq_zero_or_pos l.length with h0 | h0
  ·exact ⟨_, cap, rfl, .inl (List.eq_nil_of_length_eq_zero h0)⟩
  ·exact ⟨_, cap, rfl, .inr ⟨b, o, rfl, hS b hl (cell_lt (hc 0 h0)), hc⟩⟩
theorem IntsIn.keep {w w' : World} {F S S' : Nat → Prop} {v : Value} {l : List Int} (h : IntsIn w S v l) (t : Tn F w w') (hF : ∀ b, S b → b < w.heap.size → ¬ F b) (hS : ∀ b, S b → b < w.heap.size → S' b) : IntsIn w' S' v l := by
 obtain ⟨a, cap, rfl, h | ⟨b, o, rfl, hl, hc⟩⟩ := h
 ·exact ⟨a, cap, rfl, .inl h⟩
 ·rcases Nat.eq_zero_or_pos l.length with h0 | h0
  ·exact ⟨_, cap, rfl, .inl (List.eq_nil_of_length_eq_zero h0)⟩
  ·have hb := cell_lt (hc 0 h0)
   exact ⟨_, cap, rfl, .inr ⟨b, o, rfl, hS b hl hb, fun j hj => t.cell (hc j hj) (hF b hl hb)⟩⟩

def OwnSl (w : World) (B : Nat) (a : Option Addr) (D : List Int) (cap : Nat) : Prop :=
 D.length ≤ cap ∧ (D = [] ∨ ∃ g, a = some ⟨g, 0, none⟩ ∧ B ≤ g ∧ g < w.heap.size ∧ Go.Sort.Holds (Value.int .i64) w g 0 D.toArray)
theorem below_ahead {B : Nat} {a w : World} (h : Below B a w) (n : Nat) : Below B a (Go.Sort.ahead w n) := ⟨h.os, h.tape, h.output, h.size, h.block⟩
theorem below_putRow {B : Nat} {a w : World} (h : Below B a w) {g : Nat} (hg : B ≤ g) (o : Nat) (d : Array Int) : Below B a (Go.Sort.putRow (Value.int .i64) w g o d) :=
 ⟨h.os, h.tape, h.output, by rw [Go.Sort.size_putRow]; exact h.size, fun k hk => by
  show (w.heap.modify g _)[k]? = _
  rw [Array.getElem?_modify, if_neg (by omega)]; exact h.block k hk⟩
theorem tn_ahead (w : World) (n : Nat) (F : Nat → Prop) : Tn F w (Go.Sort.ahead w n) := ⟨rfl, rfl, rfl, Nat.le_refl _, fun _ _ _ => rfl⟩
theorem tn_putRow (w : World) (g o : Nat) (d : Array Int) : Tn (· = g) w (Go.Sort.putRow (Value.int .i64) w g o d) :=
 ⟨rfl, rfl, rfl, by rw [Go.Sort.size_putRow]; exact Nat.le_refl _, fun k _ hn => by
  show (w.heap.modify g _)[k]? = _
  rw [Array.getElem?_modify, if_neg (fun e => hn e.symm)]⟩
theorem tn_grow (w : World) (os : Array Obj) (F : Nat → Prop) : Tn F w (Go.Sort.grow w os) :=
 ⟨rfl, rfl, rfl, by rw [Go.Sort.size_grow]; omega, fun k hk _ => Go.Sort.heap_grow_old w os hk⟩

theorem OwnSl.keep {w w' : World} {F : Nat → Prop} {B : Nat} {a : Option Addr} {D : List Int} {cap : Nat} (h : OwnSl w B a D cap) (t : Tn F w w') (hF : ∀ b, B ≤ b → b < w.heap.size → a = some ⟨b, 0, none⟩ → ¬ F b) : OwnSl w' B a D cap := by
 obtain ⟨hcap, rfl | ⟨g, rfl, hg, hgl, hh⟩⟩ := h
 ·exact ⟨hcap, .inl rfl⟩
 ·refine ⟨hcap, .inr ⟨g, rfl, hg, by have := t.size; omega, fun j hj => ?_⟩⟩
  have hb := t.block g hgl (hF g hg hgl rfl)
  obtain ⟨h1, h2⟩ := hh j hj
  exact ⟨by rw [World.cell?_of_block hb]; exact h1, by rw [World.frozen?_of_block hb]; exact h2⟩
theorem OwnSl.ints {w : World} {B : Nat} {a : Option Addr} {D : List Int} {cap : Nat} (h : OwnSl w B a D cap) : IntsIn w (fun b => B ≤ b ∧ b < w.heap.size ∧ a = some ⟨b, 0, none⟩) (.slice a D.length cap) D := by
 obtain ⟨hcap, rfl | ⟨g, rfl, hg, hgl, hh⟩⟩ := h
 ·exact ⟨a, cap, rfl, .inl rfl⟩
 ·refine ⟨_, cap, rfl, .inr ⟨g, 0, rfl, ⟨hg, hgl, rfl⟩, fun j hj => ?_⟩⟩
  have := (hh j (by simpa using hj)).1
  rw [getElem!_pos _ j (by simpa using hj)] at this
  rw [getD_get _ _ hj]
  simpa using this
theorem own_of_row {w : World} {B : Nat} {v : Value} {D : List Int} (h : w.ownsRow B 3 1 v D.length (D.map (Value.int .i64))) : ∃ a cap, v = .slice a D.length cap ∧ OwnSl w B a D cap ∧ (∀ b o, a = some ⟨b, o, none⟩ → v.ownBlock = some b) := by
 obtain ⟨_, ⟨rfl, hn⟩ | ⟨g, c', cur, rfl, hg, hh, hn, hm, hcs, hx⟩⟩ := h
 ·exact ⟨none, 0, by rw [hn], ⟨by omega, .inl (List.eq_nil_of_length_eq_zero hn)⟩, fun b o e => by cases e⟩
 ·refine ⟨_, _, rfl, ⟨hn, .inr ⟨g, rfl, hg, heap_lt hh, fun j hj => ?_⟩⟩, fun b o e => by injection e with e; injection e with e1; rw [← e1]; rfl⟩
  have hj' : j < D.length := by simpa using hj
  have e : cur[0 + j]? = some (Value.int .i64 D[j]) := by
   have h1 := congrArg (fun l => l[j]?) hx
   simp only [Nat.mul_one, List.getElem?_map, List.getElem?_eq_getElem hj', Option.map_some] at h1
   rw [List.getElem?_take_of_lt hj'] at h1
   simpa using h1
  constructor
  ·simp only [World.cell?, hh]
   rw [getElem!_pos D.toArray j hj]
   simpa using e
  ·simp [World.frozen?, hh]
theorem row_lt {w : World} {B : Nat} {e : TypeId} {z n : Nat} {v : Value} {xs : List Value} (h : w.ownsRow B e z v n xs) : ∀ r, v.ownBlock = some r → B ≤ r ∧ r < w.heap.size := by
 obtain ⟨_, ⟨rfl, hn⟩ | ⟨g, c', cur, rfl, hg, hh, _⟩⟩ := h
 ·intro r hr; cases hr
 ·intro r hr
  have : g = r := by injection hr
  subst this
  exact ⟨hg, heap_lt hh⟩
theorem row_cell {w : World} {B : Nat} {e : TypeId} {n : Nat} {v : Value} {xs : List Value} (h : w.ownsRow B e 1 v n xs) : ∃ a cap, v = .slice a n cap ∧ (n = 0 ∨ ∃ g, a = some ⟨g, 0, none⟩ ∧ v.ownBlock = some g ∧ ∀ j u, xs[j]? = some u → w.cell? ⟨g, j, none⟩ = some u) := by
 obtain ⟨h0, ⟨rfl, hn⟩ | ⟨g, c', cur, rfl, hg, hh, hn, hm, hcs, hx⟩⟩ := h
 ·exact ⟨none, 0, by rw [hn], .inl hn⟩
 ·refine ⟨_, _, rfl, .inr ⟨g, rfl, rfl, fun j u hj => ?_⟩⟩
  simp only [World.cell?, hh]
  rw [← hx, Nat.mul_one] at hj
  have hjl : j < n := by
   have := (List.getElem?_eq_some_iff.1 hj).1
   rw [List.length_take] at this; omega
  rw [List.getElem?_take_of_lt hjl] at hj
  simpa using hj

theorem row_mono {w : World} {B B' : Nat} {e : TypeId} {z n : Nat} {v : Value} {xs : List Value} (h : w.ownsRow B e z v n xs) (hB : B' ≤ B) : w.ownsRow B' e z v n xs := by
 obtain ⟨h0, h1 | ⟨g, c, cur, q1, q2, q3⟩⟩ := h
 ·exact ⟨h0, .inl h1⟩
 ·exact ⟨h0, .inr ⟨g, c, cur, q1, by omega, q3⟩⟩
theorem add_off (b o i : Nat) : (⟨b, o, none⟩ : Addr).add i = ⟨b, o + i, none⟩ := by by_cases h : i = 0 <;> simp [Addr.add, h]
theorem add_of (b i : Nat) : (⟨b, 0, none⟩ : Addr).add i = ⟨b, i, none⟩ := by rw [add_off, Nat.zero_add]
end Go.Proofs.YtdojgbpaheadnaaGreat

/- Maps as functions of their keys; keys that are deals. -/
namespace Go.Proofs.YtdojgbpaheadnaaGreat
open Go.RowKit Go.Shelf Go.Maps Go.ChangeMaps

structure RepL (D : DataW Unit) (f : Lit → Option (DataW Unit)) : Prop where
 isMap : IsMap D
 at_ : ∀ l z, D.atKey l z = (f l).getD z
 has : ∀ l, Maps.has D l = (f l).isSome
theorem repL_nil : RepL (.map []) (fun _ => none) where
 isMap := Maps.isMap_empty
 at_ := by intro x z; simp [DataW.atKey]
 has := by intro x; simp [Maps.has]
open Classical in
noncomputable def updL (f : Lit → Option (DataW Unit)) (l : Lit) (d : DataW Unit) : Lit → Option (DataW Unit) := fun x => if x = l then some d else f x
theorem repL_put {D : DataW Unit} {f : Lit → Option (DataW Unit)} {l : Lit} {d : DataW Unit} (h : RepL D f) (hl : WideAt.IsKeyLit l) : RepL (D.put l d) (updL f l d) where
 isMap := h.isMap.put _ _
 at_ := by
  intro y z
  unfold updL
  by_cases e : y = l
  ·subst e
   rw [Maps.atKey_put_same h.isMap hl, if_pos rfl]; rfl
  ·rw [Maps.atKey_put_other e, h.at_, if_neg e]
 has := by
  intro y
  unfold updL
  by_cases e : y = l
  ·subst e
   rw [Maps.has_put_same h.isMap hl, if_pos rfl]; rfl
  ·rw [Maps.has_put_other e, h.has, if_neg e]
def MapF (w : World) (P : Program) (k : TypeId) (R : Value → Option (DataW Unit × List MemPlace)) (b n : Nat) (f : Lit → Option (DataW Unit)) : Prop := ∃ D, w.ownsMap P k R b n D ∧ RepL D f
theorem MapF.keep {w w' : World} {P : Program} {k : TypeId} {R : Value → Option (DataW Unit × List MemPlace)} {F : Nat → Prop} {b n : Nat} {f : Lit → Option (DataW Unit)} (h : MapF w P k R b n f) (t : Tn F w w') (hn : ¬ F b) : MapF w' P k R b n f := by
 obtain ⟨D, h1, h2⟩ := h
 exact ⟨D, t.map h1 hn, h2⟩
theorem MapF.lt {w : World} {P : Program} {k : TypeId} {R : Value → Option (DataW Unit × List MemPlace)} {b n : Nat} {f : Lit → Option (DataW Unit)} (h : MapF w P k R b n f) : b < w.heap.size := by
 obtain ⟨D, h1, h2⟩ := h; exact h1.lt
theorem MapF.mono {w : World} {P : Program} {k : TypeId} {R : Value → Option (DataW Unit × List MemPlace)} {b n m : Nat} {f : Lit → Option (DataW Unit)} (h : MapF w P k R b n f) (hm : n ≤ m) : MapF w P k R b m f := by
 obtain ⟨D, h1, h2⟩ := h; exact ⟨D, h1.mono hm, h2⟩
theorem MapF.new (w : World) (P : Program) (k : TypeId) (R : Value → Option (DataW Unit × List MemPlace)) : MapF (w.alloc (.map #[] 0)) P k R w.heap.size 0 (fun _ => none) := ⟨_, World.ownsMap_made w P k R, repL_nil⟩
section
variable {w : World} {P : Program} {k t e : TypeId} {R : Value → Option (DataW Unit × List MemPlace)} {b n : Nat} {f : Lit → Option (DataW Unit)}
theorem MapF.look (h : MapF w P k R b n f) (K : Keyed P k) (ht : P.underlying t = some (.map k e)) {z : Value} (hz : (zeroValue e).run P w = .ok z w) {zd : DataW Unit} {zp : List MemPlace} (hzd : R z = some (zd, zp)) {key : Value} {l : Lit} (hk : keyOf P k key = some l) :
  ∃ v ps, (Instr.lookup t (.map (some b)) key false).run P w = .ok v w ∧ R v = some ((f l).getD zd, ps) := by
 obtain ⟨D, h1, h2⟩ := h
 obtain ⟨v, ps, hr, hv⟩ := h1.lookup K ht hz hzd hk
 exact ⟨v, ps, hr, by rw [← h2.at_]; exact hv⟩
theorem MapF.look_ok (h : MapF w P k R b n f) (K : Keyed P k) (ht : P.underlying t = some (.map k e)) {z : Value} (hz : (zeroValue e).run P w = .ok z w) {zd : DataW Unit} {zp : List MemPlace} (hzd : R z = some (zd, zp)) {key : Value} {l : Lit} (hk : keyOf P k key = some l) :
  ∃ v ps, (Instr.lookup t (.map (some b)) key true).run P w = .ok (.tuple #[v, .bool (f l).isSome]) w ∧ R v = some ((f l).getD zd, ps) := by
 obtain ⟨D, h1, h2⟩ := h
 obtain ⟨v, ps, hr, hv⟩ := h1.look_ok K ht hz hzd hk
 exact ⟨v, ps, by rw [← h2.has]; exact hr, by rw [← h2.at_]; exact hv⟩
theorem MapF.put (h : MapF w P k R b n f) (K : Keyed P k) (ht : P.underlying t = some (.map k e)) (hn : n < maxLen) {key val : Value} {l : Lit} {d : DataW Unit} {ps : List MemPlace} (hk : keyOf P k key = some l) (hv : R val = some (d, ps)) :
  ∃ w', (Instr.mapUpdate t (.map (some b)) key val).run P w = .ok () w' ∧ MapF w' P k R b (n + 1) (updL f l d) ∧ w.grownBy w' (some b) := by
 obtain ⟨D, h1, h2⟩ := h
 obtain ⟨w', hr, ho, hg⟩ := h1.update K ht hn hk hv
 exact ⟨w', hr, ⟨_, ho, repL_put h2 (K.key hk)⟩, hg⟩
end
theorem laidOut_ : laidOutB Tryz.prog = true := by kernel_rfl
theorem lawD : WideMaps.KeyLaw Tryz.prog 106 := deep_law_laid laidOut_ (m := 3) (by omega) (of_decide_eq_true (by kernel_rfl)) (by kernel_rfl) (by kernel_rfl)
theorem keyD : Keyed Tryz.prog 106 := Keyed.of_law lawD
def klD (a r : Int) : Lit := .string (keyBytes [.int .i64 a, .int .i64 r])
theorem keyOfD {a r : Int} (ha : I64 a) (hr : I64 r) : keyOf Tryz.prog 106 (.agg #[.int .i64 a, .int .i64 r]) = some (klD a r) := by
 have h1 : Tryz.prog.keyType 106 = true := by kernel_rfl
 have c1 : Tryz.prog.cellsOf 106 = 2 := by kernel_rfl
 have c3 : Tryz.prog.cellsOf 3 = 1 := by kernel_rfl
 have wa : (Lit.int .i64 a).wf = true := WalkArith.wf_i64 (by have := ha.1; have := ha.2; omega)
 have wr : (Lit.int .i64 r).wf = true := WalkArith.wf_i64 (by have := hr.1; have := hr.2; omega)
 obtain ⟨n, hn⟩ : ∃ n, Tryz.prog.types.size = n + 1 := ⟨Tryz.prog.types.size - 1, by kernel_rfl⟩
 have k3 : ∀ x : Int, (Lit.int .i64 x).wf = true → Tryz.prog.keyLits (n + 1) 3 [.int .i64 x] = some [.int .i64 x] := fun x hx => by
  unfold Program.keyLits; rw [Tryz.underlying3]; simp [hx]
 unfold keyOf
 rw [Tryz.underlying106]
 have hf : (Value.agg #[.int .i64 a, .int .i64 r]).formed Tryz.prog 106 = true := by simp [Value.formed, Tryz.underlying106, c1]
 simp only [h1, hf, Bool.and_self, if_true, hn]
 unfold Program.keyLits
 rw [Tryz.underlying106]
 simp [c1, c3, Value.cells, k3 a wa, k3 r wr, klD]
theorem klD_inj {a r a' r' : Int} (ha : I64 a) (hr : I64 r) (ha' : I64 a') (hr' : I64 r') (h : klD a r = klD a' r') : a = a' ∧ r = r' := by
 have := keyD.inj (keyOfD ha hr) (by rw [h]; exact keyOfD ha' hr')
 simpa using this
end Go.Proofs.YtdojgbpaheadnaaGreat
