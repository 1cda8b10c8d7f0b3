/- Small laws on whole blocks of memory: what a block of cells holds, behind a store, behind new blocks. -/
import Derived.WalkKit
import Derived.WalkSpells
import Derived.WalkLawsBesides
import Derived.Lib.Hide
import Derived.Deep.QuietTactic
import Derived.BigQuiet
import Derived.Deep.DeepFit
set_option linter.unusedVariables false
set_option linter.unusedSimpArgs false

namespace Go.Proofs.YtdojgbpaheadnaaGreat
open Go.RowKit

theorem ret_int {k : IntKind} {a b : Int} (h : a = b) : Ending.returned (.int k a) = .returned (.int k b) := by rw [h]
theorem ret_bool {a b : Bool} (h : a = b) : Ending.returned (.bool a) = .returned (.bool b) := by rw [h]
theorem vint {k : IntKind} {a b : Int} (h : a = b) : Value.int k a = Value.int k b := by rw [h]
theorem vbool {a b : Bool} (h : a = b) : Value.bool a = Value.bool b := by rw [h]

theorem getD_get {α : Type} (l : List α) {i : Nat} (d : α) (h : i < l.length) : l.getD i d = l[i] := by simp [h]
def Blk (w : World) (b : Nat) (xs : Array Value) (T : TypeId) : Prop := w.heap[b]? = some (.cells xs T (0, 0))

theorem heap_lt {w : World} {b : Nat} {o : Obj} (h : w.heap[b]? = some o) : b < w.heap.size := by
 rcases Nat.lt_or_ge b w.heap.size with h' | h'
 ·exact h'
 ·simp [Array.getElem?_eq_none h'] at h

namespace Blk
variable {w w' : World} {b c : Nat} {xs : Array Value} {T : TypeId}
theorem lt (h : Blk w b xs T) : b < w.heap.size := heap_lt h
theorem cell (h : Blk w b xs T) (i : Nat) : w.cell? ⟨b, i, none⟩ = xs[i]? := by
 unfold Blk at h; simp [World.cell?, h]
theorem cellE (h : Blk w b xs T) {i : Nat} {v : Value} (e : xs[i]? = some v) : w.cell? ⟨b, i, none⟩ = some v := (h.cell i).trans e
theorem frozen (h : Blk w b xs T) (i : Nat) : w.frozen? ⟨b, i, none⟩ = false := by
 unfold Blk at h; simp [World.frozen?, h]
theorem set (h : Blk w b xs T) (i : Nat) (v : Value) : Blk (w.setCell ⟨b, i, none⟩ v) b (xs.setIfInBounds i v) T := by
 have hl := h.lt
 have h' : w.heap[b] = .cells xs T (0, 0) := by simpa [Blk, Array.getElem?_eq_getElem hl] using h
 show (w.heap.modify b _)[b]? = _
 rw [Array.getElem?_eq_getElem (by simpa using hl), Array.getElem_modify_self, h']
 rfl
theorem set_ne (h : Blk w b xs T) (a : Addr) (v : Value) (hne : b ≠ a.block) : Blk (w.setCell a v) b xs T := by
 unfold Blk; rw [Below.heap_setCell _ _ _ _ hne]; exact h
theorem alloc (h : Blk w b xs T) (o : Obj) : Blk (w.alloc o) b xs T := by
 unfold Blk; rw [Below.heap_alloc _ _ _ h.lt]; exact h
theorem new (w : World) (xs : Array Value) (T : TypeId) : Blk (w.alloc (.cells xs T)) w.heap.size xs T := by
 show (w.heap.push _)[w.heap.size]? = _
 simp
theorem drewN (h : Blk w b xs T) (n : Nat) : Blk (w.drewN n) b xs T := h
theorem drew (h : Blk w b xs T) : Blk w.drew b xs T := h
theorem below {B : Nat} (h : Blk w b xs T) (hb : Below B w w') (hl : b < B) : Blk w' b xs T := by
 unfold Blk; rw [hb.block b hl]; exact h
theorem cast {ys : Array Value} (h : Blk w b xs T) (e : xs = ys) : Blk w b ys T := e ▸ h
theorem at_new {n : Nat} (hn : n = w.heap.size) (xs : Array Value) (T : TypeId) : Blk (w.alloc (.cells xs T)) n xs T := hn ▸ Blk.new w xs T
end Blk

theorem bdrewN {B : Nat} {w w' : World} (h : Below B w w') (n : Nat) : Below B w (w'.drewN n) := ⟨h.os, h.tape, h.output, h.size, h.block⟩
theorem size_alloc (w : World) (o : Obj) : (w.alloc o).heap.size = w.heap.size + 1 := by show (w.heap.push o).size = _; simp
theorem bcell {W w1 : World} (hb : Below W.heap.size W w1) : (∀ b o, b < W.heap.size → w1.cell? ⟨b, o, none⟩ = W.cell? ⟨b, o, none⟩) ∧ (∀ b o, b < W.heap.size → w1.frozen? ⟨b, o, none⟩ = W.frozen? ⟨b, o, none⟩) :=
 ⟨fun b o h => hb.cell (p := ⟨b, o, none⟩) h, fun b o h => hb.frozen (p := ⟨b, o, none⟩) h⟩

def over (w x : World) : World := { heap := w.heap ++ x.heap.extract w.heap.size x.heap.size, tape := w.tape, drawn := x.drawn, os := w.os, output := w.output }
section
variable (w x y : World)
theorem over_block {b : Nat} (h : b < w.heap.size) : (over w x).heap[b]? = w.heap[b]? := by
 show (w.heap ++ _)[b]? = _
 rw [Array.getElem?_append_left h]
theorem over_cell {a : Addr} (h : (w.cell? a).isSome = true) : (over w x).cell? a = w.cell? a := by
 have hl : a.block < w.heap.size := by
  rcases Nat.lt_or_ge a.block w.heap.size with h' | h'
  ·exact h'
  ·simp [World.cell?, Array.getElem?_eq_none h'] at h
 exact World.cell?_of_block (over_block w x hl)
theorem over_frozen {a : Addr} (h : (w.cell? a).isSome = true) : (over w x).frozen? a = w.frozen? a := by
 have hl : a.block < w.heap.size := by
  rcases Nat.lt_or_ge a.block w.heap.size with h' | h'
  ·exact h'
  ·simp [World.cell?, Array.getElem?_eq_none h'] at h
 exact World.frozen?_of_block (over_block w x hl)
theorem over_size_le : w.heap.size ≤ (over w x).heap.size := by
 show _ ≤ (w.heap ++ _).size
 simp
theorem below_over : Below w.heap.size w (over w x) := ⟨rfl, rfl, rfl, over_size_le w x, fun _ h => over_block w x h⟩
theorem over_ge {y : World} {B : Nat} (x : World) (h : B ≤ y.heap.size) : B ≤ (over y x).heap.size := Nat.le_trans h (over_size_le y x)
theorem alloc_ge {y : World} {B : Nat} (o : Obj) (h : B ≤ y.heap.size + 1) : B ≤ (y.alloc o).heap.size := by rw [size_alloc]; exact h
theorem bover {y : World} {B : Nat} (x : World) (h : B ≤ y.heap.size) : Below B y (over y x) := (below_over y x).mono h
variable {w x y}
theorem is_over (h : Below w.heap.size w x) : ∃ y, x = over w y := by
 refine ⟨x, ?_⟩
 obtain ⟨heap, tape, drawn, os, output⟩ := x
 have e1 : os = w.os := h.os
 have e2 : tape = w.tape := h.tape
 have e3 : output = w.output := h.output
 subst e1 e2 e3
 show World.mk _ _ _ _ _ = World.mk _ _ _ _ _
 congr 1
 have hs : w.heap.size ≤ heap.size := h.size
 apply Array.ext_getElem?
 intro i
 rcases Nat.lt_or_ge i w.heap.size with hi | hi
 ·rw [Array.getElem?_append_left hi]; exact h.block i hi
 ·rw [Array.getElem?_append_right hi, Array.getElem?_extract]
  have e : w.heap.size + (i - w.heap.size) = i := by omega
  rw [e]
  simp only [Nat.min_self]
  split
  ·rfl
  ·exact Array.getElem?_eq_none (by omega)
theorem over_over : ∃ z, over (over w x) y = over w z :=
 is_over ((below_over w x).trans ((below_over (over w x) y).mono (over_size_le w x)))
theorem callsOver {P : Program} {f : FuncId} {args : Array Value} {v : Value} (h : Calls P f args w fun e w' => e = .returned v ∧ Below w.heap.size w w') :
  Calls P f args w fun e w' => e = .returned v ∧ ∃ x, w' = over w x := h.mono fun _ _ ⟨he, hb⟩ => ⟨he, is_over hb⟩
theorem inOver {P : Program} {f : FuncId} {args : Array Value} {v : Value} (h : Calls P f args (over w x) fun e w' => e = .returned v ∧ Below (over w x).heap.size (over w x) w') :
  Calls P f args (over w x) fun e w' => e = .returned v ∧ ∃ z, w' = over w z :=
 h.mono fun _ _ ⟨he, hb⟩ => ⟨he, by obtain ⟨y, rfl⟩ := is_over hb; exact over_over⟩
theorem inSame {P : Program} {f : FuncId} {args : Array Value} {v : Value} (h : Calls P f args (over w x) fun e w' => e = .returned v ∧ over w x = w') :
  Calls P f args (over w x) fun e w' => e = .returned v ∧ ∃ z, w' = over w z := h.mono fun _ _ ⟨he, hb⟩ => ⟨he, x, hb.symm⟩
theorem wp_region_over {P : Program} {id : Nat} {Q : Exit → Act → World → Prop} {a : Act} {w : World} {l : List Oper} (hm : P.follows .mixedOrders = true) (hB : Region.lexB .any l.toArray = true)
  (h : wpQuiet P l.toArray (fun w' => ∃ n, w' = over w n) (fun a' => ∀ w', (∃ n, w' = over w n) → Q .normal a' w') l a) : (Code.region id l.toArray true).wp P Q a w :=
 wp_region_quiet (C := fun w' => ∃ n, w' = over w n) hm hB (is_over (Below.refl _ _).drew) (by simpa using h)
end
theorem Blk.over {w : World} {b : Nat} {xs : Array Value} {T : TypeId} (h : Blk w b xs T) (x : World) : Blk (over w x) b xs T := h.below (below_over w x) h.lt
theorem gA {α : Type} {l : List α} {i : Nat} (h : i < l.toArray.size) : l.toArray[i] = l[i]'(by simpa using h) := List.getElem_toArray h
theorem gB {α : Type} {a : α} {l : List α} {i : Nat} (h : i + 1 < (a :: l).length) : (a :: l)[i + 1] = l[i]'(Nat.lt_of_succ_lt_succ h) := rfl
theorem gC {α : Type} {a : α} {l : List α} (h : 0 < (a :: l).length) : (a :: l)[0] = a := rfl
theorem gD {α : Type} {l : List α} {i : Nat} {a : α} : l.toArray.setIfInBounds i a = (l.set i a).toArray := List.setIfInBounds_toArray l i a
theorem gE {α : Type} {x : α} {xs : List α} {a : α} : (x :: xs).set 0 a = a :: xs := rfl
theorem gF {α : Type} {x : α} {xs : List α} {i : Nat} {a : α} : (x :: xs).set (i + 1) a = x :: xs.set i a := rfl
theorem gZ : (∀ (α : Type) (l : List α) (i : Nat) (h : i < l.toArray.size), l.toArray[i] = l[i]'(by simpa using h)) ∧ (∀ (α : Type) (a : α) (l : List α) (i : Nat) (h : i + 1 < (a :: l).length), (a :: l)[i + 1] = l[i]'(Nat.lt_of_succ_lt_succ h)) ∧ (∀ (α : Type) (a : α) (l : List α) (h : 0 < (a :: l).length), (a :: l)[0] = a) ∧ (∀ (α : Type) (l : List α) (i : Nat) (a : α), l.toArray.setIfInBounds i a = (l.set i a).toArray) ∧ (∀ (α : Type) (x : α) (xs : List α) (a : α), (x :: xs).set 0 a = a :: xs) ∧ (∀ (α : Type) (x : α) (xs : List α) (i : Nat) (a : α), (x :: xs).set (i + 1) a = x :: xs.set i a) ∧ (∀ (a : Act) (d : Tmp) (v : Value), a.put (some d) v = { a with tmps := a.tmps.setIfInBounds d v }) ∧ ∀ (a : Act) (v : Value), a.put none v = a :=
 ⟨fun _ _ _ h => gA h, fun _ _ _ _ h => gB h, fun _ _ _ h => gC h, fun _ _ _ _ => gD, fun _ _ _ _ => gE, fun _ _ _ _ _ => gF, fun _ _ _ => rfl, fun _ _ => rfl⟩
end Go.Proofs.YtdojgbpaheadnaaGreat
