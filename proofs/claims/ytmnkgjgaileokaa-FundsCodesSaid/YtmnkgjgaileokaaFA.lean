/- The state of funds in memory: what lies where, and what stays behind a store or a new block. -/
import Derived.Test.YtmnkgjgaileokaaProg
import Derived.Test.YtmnkgjgaileokaaMk2
import Derived.Maps.Own
import Derived.Maps.OwnSet
import Derived.Maps.RangeWalk
import Derived.Maps.Views
import Derived.Maps.AppendAt
import Derived.OneCell
namespace Go.Proofs.Ytmnkgjgaileokaa
open Go.RowKit

/-- Whose block it is. -/
inductive Own where
  | none
  | fb
  | mp
  | fund (x : Int)
  | row (x : Int)

structure FS where
  fb : Nat
  bm : Option Nat
  m : Int
  ids : List Int
  pa : Int → Int
  al : Int → Int
  sp : Int → Int
  en : Int → Int
  g : Int → Nat
  bl : Int → Value
  kids : Int → List Int
  o : Nat → Own

abbrev fcells (x p a s e : Int) (b : Value) : Array Value := #[.int .i64 x, .int .i64 p, .int .i64 a, .int .i64 s, .int .i64 e, b]
def FS.cells (s : FS) (x : Int) : Array Value := fcells x (s.pa x) (s.al x) (s.sp x) (s.en x) (s.bl x)
abbrev ptr (g : Nat) : Value := .pointer (some ⟨g, 0, none⟩)
def FS.look (s : FS) (x : Int) : Value := if x ∈ s.ids then ptr (s.g x) else .pointer none

/-- A pointer reads as its block's number. -/
def R68 (v : Value) : Option (DataW Unit × List MemPlace) :=
  match v with
  | .pointer none => some (.nil, [])
  | .pointer (some ⟨g, 0, none⟩) => some (.lit (.int .i64 g), [])
  | _ => none
theorem R68_ptr (g : Nat) : R68 (ptr g) = some (.lit (.int .i64 g), []) := rfl
theorem R68_lit {v : Value} {g : Nat} {ps : List MemPlace} (h : R68 v = some (.lit (.int .i64 g), ps)) : v = ptr g := by
  unfold R68 at h
  split at h
  · cases h
  · rename_i g' 
    simp only [Option.some.injEq, Prod.mk.injEq, DataW.lit.injEq, Lit.int.injEq, true_and] at h
    have : g' = g := by omega
    rw [this]
  · cases h
theorem R68_nil {v : Value} {ps : List MemPlace} (h : R68 v = some (.nil, ps)) : v = .pointer none := by
  unfold R68 at h
  split at h
  · rfl
  · cases h
  · cases h

/-- The map as read: the ids, with the blocks. -/
structure Rep (D : DataW Unit) (ids : List Int) (g : Int → Nat) : Prop where
  tidy : Maps.Tidy D
  size : Maps.size D = ids.length
  at_ : ∀ x z, D.atKey (.int .i64 x) z = if x ∈ ids then .lit (.int .i64 (g x)) else z
  has : ∀ kl, Maps.has D kl = true ↔ ∃ x ∈ ids, kl = .int .i64 x

structure Mem (w : World) (s : FS) : Prop where
  fresh : ∀ b, w.heap.size ≤ b → s.o b = .none
  fb : Blk w s.fb #[.map s.bm, .int .i64 s.m] 53
  ofb : s.o s.fb = .fb
  fund : ∀ x ∈ s.ids, Blk w (s.g x) (s.cells x) 71
  ofund : ∀ x ∈ s.ids, s.o (s.g x) = .fund x
  row : ∀ x ∈ s.ids, w.ownsRow 0 68 1 (s.bl x) (s.kids x).length ((s.kids x).map fun y => ptr (s.g y))
  orow : ∀ x ∈ s.ids, ∀ r, (s.bl x).ownBlock = some r → s.o r = .row x
  kin : ∀ x ∈ s.ids, ∀ y ∈ s.kids x, y ∈ s.ids
  map : (s.bm = none ∧ s.ids = []) ∨ ∃ b D, s.bm = some b ∧ s.o b = .mp ∧ w.ownsMap (H := Unit) Try.prog 3 R68 b s.ids.length D ∧ Rep D s.ids s.g

/-- What an operation leaves alone. -/
structure Turn (s : FS) (w : World) (s' : FS) (w' : World) : Prop where
  os : w'.os = w.os
  tape : w'.tape = w.tape
  output : w'.output = w.output
  size : w.heap.size ≤ w'.heap.size
  block : ∀ b, b < w.heap.size → s.o b = .none → w'.heap[b]? = w.heap[b]?
  none : ∀ b, b < w.heap.size → s.o b = .none → s'.o b = .none

theorem Turn.refl (s : FS) (w : World) : Turn s w s w := ⟨rfl, rfl, rfl, Nat.le_refl _, fun _ _ _ => rfl, fun _ _ h => h⟩
theorem Turn.trans {s s' s2 : FS} {w w' w2 : World} (h : Turn s w s' w') (k : Turn s' w' s2 w2) : Turn s w s2 w2 :=
  ⟨k.os.trans h.os, k.tape.trans h.tape, k.output.trans h.output, Nat.le_trans h.size k.size,
    fun b hb hn => (k.block b (Nat.lt_of_lt_of_le hb h.size) (h.none b hb hn)).trans (h.block b hb hn),
    fun b hb hn => k.none b (Nat.lt_of_lt_of_le hb h.size) (h.none b hb hn)⟩
theorem Turn.below {s s' : FS} {w w' : World} {B : Nat} (h : Turn s w s' w') (hB : B ≤ w.heap.size) (hn : ∀ b, b < B → s.o b = .none) : Below B w w' :=
  ⟨h.os, h.tape, h.output, h.size, fun b hb => h.block b (Nat.lt_of_lt_of_le hb hB) (hn b hb)⟩
theorem Turn.of_below {s : FS} {w w' : World} (h : Below w.heap.size w w') : Turn s w s w' := ⟨h.os, h.tape, h.output, h.size, fun b hb _ => h.block b hb, fun _ _ hn => hn⟩
theorem Turn.blk {s s' : FS} {w w' : World} {b : Nat} {xs : Array Value} {T : TypeId} (h : Turn s w s' w') (k : Blk w b xs T) (hn : s.o b = .none) : Blk w' b xs T := by
  unfold Blk; rw [h.block b k.lt hn]; exact k

/-! ### The state is kept where the owned blocks are -/
theorem owns_same {w w' : World} {e : TypeId} {z n : Nat} {v : Value} {xs : List Value} (h : w.ownsRow 0 e z v n xs) (hk : ∀ r, v.ownBlock = some r → w'.heap[r]? = w.heap[r]?) : w'.ownsRow 0 e z v n xs := by
  obtain ⟨h0, ⟨h1, h2⟩ | ⟨g, c, cur, h1, h2, h3, h4⟩⟩ := h
  · exact ⟨h0, .inl ⟨h1, h2⟩⟩
  · exact ⟨h0, .inr ⟨g, c, cur, h1, h2, (hk g (by rw [h1]; rfl)).trans h3, h4⟩⟩
theorem map_same {w w' : World} {b n : Nat} {D : DataW Unit} (h : w.ownsMap Try.prog 3 R68 b n D) (hk : w'.heap[b]? = w.heap[b]?) : w'.ownsMap Try.prog 3 R68 b n D := by
  obtain ⟨es, clock, hb, F, hs, hD⟩ := h
  exact ⟨es, clock, hk.trans hb, F, hs, hD⟩
theorem own_ne {a b : Own} (h : a ≠ b) {s : FS} {i j : Nat} (hi : s.o i = a) (hj : s.o j = b) : i ≠ j := fun e => h (by rw [← hi, ← hj, e])
theorem Mem.keep {w w' : World} {s : FS} (h : Mem w s) (hsz : w.heap.size ≤ w'.heap.size) (hk : ∀ b, s.o b ≠ .none → w'.heap[b]? = w.heap[b]?) : Mem w' s where
  fresh := fun b hb => h.fresh b (Nat.le_trans hsz hb)
  fb := by have := hk s.fb (by rw [h.ofb]; simp); unfold Blk; rw [this]; exact h.fb
  ofb := h.ofb
  fund := fun x hx => by have := hk (s.g x) (by rw [h.ofund x hx]; simp); unfold Blk; rw [this]; exact h.fund x hx
  ofund := h.ofund
  row := fun x hx => owns_same (h.row x hx) fun r hr => hk r (by rw [h.orow x hx r hr]; simp)
  orow := h.orow
  kin := h.kin
  map := by
    rcases h.map with h1 | ⟨b, D, h1, h2, h3, h4⟩
    · exact .inl h1
    · exact .inr ⟨b, D, h1, h2, map_same h3 (hk b (by rw [h2]; simp)), h4⟩
theorem Mem.alloc {w : World} {s : FS} (h : Mem w s) (ob : Obj) : Mem (w.alloc ob) s :=
  h.keep (by rw [size_alloc]; omega) fun b hb => Below.heap_alloc _ _ _ (by
    rcases Nat.lt_or_ge b w.heap.size with h' | h'
    · exact h'
    · exact absurd (h.fresh b h') hb)
theorem Mem.lt {w : World} {s : FS} (h : Mem w s) {b : Nat} (hb : s.o b ≠ .none) : b < w.heap.size := by
  rcases Nat.lt_or_ge b w.heap.size with h' | h'
  · exact h'
  · exact absurd (h.fresh b h') hb
theorem Mem.below {w w' : World} {s : FS} (h : Mem w s) (hb : Below w.heap.size w w') : Mem w' s := h.keep hb.size fun b hn => hb.block b (h.lt hn)
theorem Mem.drewN {w : World} {s : FS} (h : Mem w s) (n : Nat) : Mem (w.drewN n) s := h.keep (Nat.le_refl _) fun _ _ => rfl
theorem Mem.setNone {w : World} {s : FS} (h : Mem w s) (a : Addr) (v : Value) (hn : s.o a.block = .none) : Mem (w.setCell a v) s :=
  h.keep (by simp) fun b hb => Below.heap_setCell _ _ _ _ (fun e => hb (by rw [e]; exact hn))

/-- One fund's cells are written. -/
theorem Mem.fundSet {w w' : World} {s s' : FS} (h : Mem w s) {x : Int} (hx : x ∈ s.ids) (hsz : w.heap.size ≤ w'.heap.size) (hk : ∀ b, b ≠ s.g x → w'.heap[b]? = w.heap[b]?)
    (hc : Blk w' (s.g x) (s'.cells x) 71) (e1 : s'.fb = s.fb) (e2 : s'.bm = s.bm) (e3 : s'.m = s.m) (e4 : s'.ids = s.ids) (e5 : s'.g = s.g) (e6 : s'.bl = s.bl) (e7 : s'.kids = s.kids) (e8 : s'.o = s.o)
    (hce : ∀ y ∈ s.ids, y ≠ x → s'.cells y = s.cells y) : Mem w' s' where
  fresh := by rw [e8]; exact fun b hb => h.fresh b (Nat.le_trans hsz hb)
  fb := by
    rw [e1, e2, e3]
    have := hk s.fb (own_ne (by simp) h.ofb (h.ofund x hx))
    unfold Blk; rw [this]; exact h.fb
  ofb := by rw [e1, e8]; exact h.ofb
  fund := by
    rw [e4, e5]
    intro y hy
    by_cases e : y = x
    · subst e; exact hc
    · rw [hce y hy e]
      have := hk (s.g y) (own_ne (by simpa using e) (h.ofund y hy) (h.ofund x hx))
      unfold Blk; rw [this]; exact h.fund y hy
  ofund := by rw [e4, e5, e8]; exact h.ofund
  row := by
    rw [e4, e5, e6, e7]
    exact fun y hy => owns_same (h.row y hy) fun r hr => hk r (own_ne (by simp) (h.orow y hy r hr) (h.ofund x hx))
  orow := by rw [e4, e6, e8]; exact h.orow
  kin := by rw [e4, e7]; exact h.kin
  map := by
    rw [e2, e4, e5, e8]
    rcases h.map with h1 | ⟨b, D, h1, h2, h3, h4⟩
    · exact .inl h1
    · exact .inr ⟨b, D, h1, h2, map_same h3 (hk b (own_ne (by simp) h2 (h.ofund x hx))), h4⟩
def upd (f : Int → Int) (x v : Int) : Int → Int := fun y => if y = x then v else f y
theorem upd_same (f : Int → Int) (x v : Int) : upd f x v x = v := by simp [upd]
theorem upd_ne (f : Int → Int) {x y : Int} (v : Int) (h : y ≠ x) : upd f x v y = f y := by simp [upd, h]
theorem Mem.setAl {w : World} {s : FS} (h : Mem w s) {x : Int} (hx : x ∈ s.ids) (v : Int) : Mem (w.setCell ⟨s.g x, 2, none⟩ (.int .i64 v)) { s with al := upd s.al x v } := by
  refine h.fundSet hx (by simp) (fun b hb => Below.heap_setCell _ _ _ _ hb) ?_ rfl rfl rfl rfl rfl rfl rfl rfl (fun y _ hy => ?_)
  · exact ((h.fund x hx).set 2 _).cast (by simp [FS.cells, fcells, upd_same])
  · simp [FS.cells, upd_ne _ _ hy]
theorem Mem.setSp {w : World} {s : FS} (h : Mem w s) {x : Int} (hx : x ∈ s.ids) (v : Int) : Mem (w.setCell ⟨s.g x, 3, none⟩ (.int .i64 v)) { s with sp := upd s.sp x v } := by
  refine h.fundSet hx (by simp) (fun b hb => Below.heap_setCell _ _ _ _ hb) ?_ rfl rfl rfl rfl rfl rfl rfl rfl (fun y _ hy => ?_)
  · exact ((h.fund x hx).set 3 _).cast (by simp [FS.cells, fcells, upd_same])
  · simp [FS.cells, upd_ne _ _ hy]
theorem Mem.setEn {w : World} {s : FS} (h : Mem w s) {x : Int} (hx : x ∈ s.ids) (v : Int) : Mem (w.setCell ⟨s.g x, 4, none⟩ (.int .i64 v)) { s with en := upd s.en x v } := by
  refine h.fundSet hx (by simp) (fun b hb => Below.heap_setCell _ _ _ _ hb) ?_ rfl rfl rfl rfl rfl rfl rfl rfl (fun y _ hy => ?_)
  · exact ((h.fund x hx).set 4 _).cast (by simp [FS.cells, fcells, upd_same])
  · simp [FS.cells, upd_ne _ _ hy]
theorem Mem.setM {w : World} {s : FS} (h : Mem w s) (v : Int) : Mem (w.setCell ⟨s.fb, 1, none⟩ (.int .i64 v)) { s with m := v } where
  fresh := by simpa using h.fresh
  fb := ((h.fb).set 1 _).cast (by simp)
  ofb := h.ofb
  fund := fun x hx => (h.fund x hx).set_ne _ _ (own_ne (by simp) (h.ofund x hx) h.ofb)
  ofund := h.ofund
  row := fun y hy => owns_same (h.row y hy) fun r hr => Below.heap_setCell _ _ _ _ (own_ne (by simp) (h.orow y hy r hr) h.ofb)
  orow := h.orow
  kin := h.kin
  map := by
    rcases h.map with h1 | ⟨b, D, h1, h2, h3, h4⟩
    · exact .inl h1
    · exact .inr ⟨b, D, h1, h2, map_same h3 (Below.heap_setCell _ _ _ _ (own_ne (by simp) h2 h.ofb)), h4⟩
theorem Turn.setOwn {s : FS} {w : World} (a : Addr) (v : Value) (hn : s.o a.block ≠ .none) (s' : FS) (e : s'.o = s.o) : Turn s w s' (w.setCell a v) :=
  ⟨rfl, rfl, rfl, by simp, fun b _ hb => Below.heap_setCell _ _ _ _ (fun e' => hn (by rw [← e']; exact hb)), fun b _ hb => by rw [e]; exact hb⟩

/-! ### The look-up -/
theorem key3 : Maps.Keyed Try.prog 3 := Maps.int_keyed Try.underlying3
theorem zero68 (w : World) : (zeroValue 68).run Try.prog w = .ok (.pointer none) w := by kernel_rfl
theorem wf64 {x : Int} (h0 : -9223372036854775808 ≤ x) (h1 : x ≤ 9223372036854775807) : (Lit.int .i64 x).wf = true := WalkArith.wf_i64 (by omega)
theorem nil_look (x : Int) (w : World) : (Instr.lookup 51 (.map none) (.int .i64 x) false).run Try.prog w = .ok (.pointer none) w := by
  kernel_rfl
theorem Mem.lookup {w : World} {s : FS} (h : Mem w s) (x : Int) (h0 : -9223372036854775808 ≤ x) (h1 : x ≤ 9223372036854775807) :
    (Instr.lookup 51 (.map s.bm) (.int .i64 x) false).run Try.prog w = .ok (s.look x) w := by
  rcases h.map with ⟨h2, h3⟩ | ⟨b, D, h2, _, h3, h4⟩
  · rw [h2]
    have e : s.look x = .pointer none := by simp [FS.look, h3]
    rw [e]
    exact nil_look x w
  · rw [h2]
    obtain ⟨v, ps, hrun, hv⟩ := h3.lookup key3 Try.underlying51 (zero68 w) (zd := .nil) (zp := []) rfl (Maps.keyOf_int_mk Try.underlying3 (wf64 h0 h1))
    rw [h4.at_] at hv
    rw [hrun]
    unfold FS.look
    split
    · rename_i hx; rw [if_pos hx] at hv; rw [R68_lit hv]
    · rename_i hx; rw [if_neg hx] at hv; rw [R68_nil hv]
end Go.Proofs.Ytmnkgjgaileokaa
