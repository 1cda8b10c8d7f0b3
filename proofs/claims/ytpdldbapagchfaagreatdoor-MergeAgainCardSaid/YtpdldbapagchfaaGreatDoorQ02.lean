/- Merge, plainly: what a text is folded to; texts as rows of characters. -/
import Derived.Laws.IdiomStrings
import Derived.Laws.RangeAny
import Derived.WalkKit
import Derived.WalkSpells
import Derived.WalkLawsBesides
import Derived.Lib.Hide
import Derived.Deep.QuietTactic
import Derived.BigQuiet
import Derived.Deep.DeepFit
import Derived.Shelf.Sort.Plain
import Derived.Maps.Own
import Derived.Maps.OwnSet
import Derived.Maps.OwnOps
import Derived.Maps.Views
import Derived.Maps.AppendAt
import Derived.Deep.AppendLies
import Derived.Test.YtpdldbapagchfaaGreatDoorQ01
set_option linter.unusedVariables false
set_option linter.unusedSimpArgs false

namespace Go.Proofs.YtpdldbapagchfaaGreatDoor

/-- A character in UTF-8 (below 65536). -/
def enc8 (c : Nat) : List UInt8 :=
  if c < 0x80 then [UInt8.ofNat c]
  else if c < 0x800 then [UInt8.ofNat (0xC0 + c / 64), UInt8.ofNat (0x80 + c % 64)]
  else [UInt8.ofNat (0xE0 + c / 4096), UInt8.ofNat (0x80 + c / 64 % 64), UInt8.ofNat (0x80 + c % 64)]

/-- What a character is folded to, with a table given. -/
def charP (tab : Nat → Option (List UInt8)) (c : Nat) : List UInt8 :=
  if (97 ≤ c ∧ c ≤ 122) ∨ (48 ≤ c ∧ c ≤ 57) then enc8 c
  else if 65 ≤ c ∧ c ≤ 90 then enc8 (c + 32)
  else if c < 128 then [32]
  else if (0x300 ≤ c ∧ c ≤ 0x36f) ∨ (0xfe20 ≤ c ∧ c ≤ 0xfe2f) then []
  else match tab c with
    | some s => s
    | none =>
      if c = 0x3c2 then enc8 0x3c3
      else if (0x3b1 ≤ c ∧ c ≤ 0x3c9) ∨ (0x430 ≤ c ∧ c ≤ 0x44f) then enc8 c
      else if ((0x391 ≤ c ∧ c ≤ 0x3a9) ∧ c ≠ 0x3a2) ∨ (0x410 ≤ c ∧ c ≤ 0x42f) then enc8 (c + 32)
      else [32]

/-- The words of a text, with the word that is being read. -/
def wordsP (ch : Nat → List UInt8) : List Nat → List UInt8 → List (List UInt8)
  | [], w => if w = [] then [] else [w]
  | c :: cs, w => if ch c ≠ [32] then wordsP ch cs (w ++ ch c) else if w = [] then wordsP ch cs [] else w :: wordsP ch cs []

/-- Words with blanks between them. -/
def joinP : List (List UInt8) → List UInt8
  | [] => []
  | [w] => w
  | w :: v :: l => w ++ 32 :: joinP (v :: l)

def foldL (tab : Nat → Option (List UInt8)) (cs : List Nat) : List UInt8 := joinP (wordsP (charP tab) cs [])

/-- What a row of the table says: the first row that has the character (the reference), the last (the code's map). -/
def tabFirst : List (List UInt8 × List Nat) → Nat → Option (List UInt8)
  | [], _ => none
  | (s, l) :: rows, c => if c ∈ l then some s else tabFirst rows c
def tabLast : List (List UInt8 × List Nat) → Nat → Option (List UInt8)
  | [], _ => none
  | (s, l) :: rows, c => match tabLast rows c with
    | some t => some t
    | none => if c ∈ l then some s else none

theorem tabLast_none : ∀ (rows : List (List UInt8 × List Nat)) (c : Nat), tabLast rows c = none ↔ ∀ r ∈ rows, c ∉ r.2
  | [], c => by simp [tabLast]
  | (s, l) :: rows, c => by
    have ih := tabLast_none rows c
    unfold tabLast
    cases h : tabLast rows c with
    | some t =>
      have : ¬ ∀ r ∈ rows, c ∉ r.2 := fun h' => by rw [ih.2 h'] at h; cases h
      simp only [reduceCtorEq, false_iff]
      exact fun h' => this fun r hr => h' r (by simp [hr])
    | none =>
      have h' := ih.1 h
      by_cases hc : c ∈ l
      · simp [hc]
      · simp only [hc, if_false, true_iff]
        intro r hr
        rcases List.mem_cons.1 hr with e | e
        · subst e; exact hc
        · exact h' r e

/-- No character stands in two rows. -/
def Apart (rows : List (List UInt8 × List Nat)) : Prop := rows.Pairwise fun a b => ∀ c ∈ a.2, c ∉ b.2

theorem tab_same : ∀ {rows : List (List UInt8 × List Nat)}, Apart rows → ∀ c, tabLast rows c = tabFirst rows c
  | [], _, _ => rfl
  | (s, l) :: rows, h, c => by
    have h' := List.pairwise_cons.1 h
    unfold tabLast tabFirst
    by_cases hc : c ∈ l
    · rw [if_pos hc, (tabLast_none rows c).2 fun r hr => h'.1 r hr c hc]; simp [hc]
    · rw [if_neg hc, tab_same h'.2 c]
      cases tabFirst rows c <;> simp [hc]

end Go.Proofs.YtpdldbapagchfaaGreatDoor

/- Merge, plainly: equal keys are alike fields. -/
namespace Go.Proofs.YtpdldbapagchfaaGreatDoor

/-- Subfields as the key holds them. -/
def segs : List (UInt8 × List UInt8) → List UInt8
  | [] => []
  | (c, s) :: l => 0 :: c :: (s ++ segs l)

theorem cut_eq {α : Type} {z : α} : ∀ {a b x y : List α}, z ∉ a → z ∉ b → (x = [] ∨ x.head? = some z) → (y = [] ∨ y.head? = some z) → a ++ x = b ++ y → a = b ∧ x = y
  | [], [], x, y, _, _, _, _, h => ⟨rfl, h⟩
  | [], u :: b, x, y, _, hb, hx, _, h => by
    exfalso
    rw [List.nil_append] at h
    subst h
    rcases hx with e | e
    · cases e
    · simp at e; exact hb (by simp [e])
  | u :: a, [], x, y, ha, _, _, hy, h => by
    exfalso
    rw [List.nil_append] at h
    subst h
    rcases hy with e | e
    · cases e
    · simp at e; exact ha (by simp [e])
  | u :: a, v :: b, x, y, ha, hb, hx, hy, h => by
    simp only [List.cons_append, List.cons.injEq] at h
    obtain ⟨rfl, h⟩ := h
    obtain ⟨e1, e2⟩ := cut_eq (fun m => ha (by simp [m])) (fun m => hb (by simp [m])) hx hy h
    exact ⟨by rw [e1], e2⟩

theorem segs_head : ∀ l : List (UInt8 × List UInt8), segs l = [] ∨ (segs l).head? = some 0
  | [] => Or.inl rfl
  | (_, _) :: _ => Or.inr rfl

theorem segs_inj : ∀ {a b : List (UInt8 × List UInt8)}, (∀ x ∈ a, (0 : UInt8) ∉ x.2) → (∀ x ∈ b, (0 : UInt8) ∉ x.2) → segs a = segs b → a = b
  | [], [], _, _, _ => rfl
  | [], (c, s) :: b, _, _, h => by simp [segs] at h
  | (c, s) :: a, [], _, _, h => by simp [segs] at h
  | (c, s) :: a, (d, t) :: b, ha, hb, h => by
    simp only [segs, List.cons.injEq, true_and] at h
    obtain ⟨rfl, h⟩ := h
    obtain ⟨e1, e2⟩ := cut_eq (ha (c, s) (by simp)) (hb (c, t) (by simp)) (segs_head a) (segs_head b) h
    have e3 := segs_inj (fun x hx => ha x (by simp [hx])) (fun x hx => hb x (by simp [hx])) e2
    have e4 : s = t := e1
    rw [e3, e4]

/-- The key of a field: how long its data is, a blank, the data, the subfields. -/
def keyL (num : Nat → List UInt8) (data : List UInt8) (l : List (UInt8 × List UInt8)) : List UInt8 := num data.length ++ 32 :: (data ++ segs l)

theorem keyL_inj {num : Nat → List UInt8} (h32 : ∀ n, (32 : UInt8) ∉ num n) (hinj : ∀ m n, num m = num n → m = n) {d e : List UInt8} {a b : List (UInt8 × List UInt8)}
    (ha : ∀ x ∈ a, (0 : UInt8) ∉ x.2) (hb : ∀ x ∈ b, (0 : UInt8) ∉ x.2) (h : keyL num d a = keyL num e b) : d = e ∧ a = b := by
  unfold keyL at h
  obtain ⟨h1, h2⟩ := cut_eq (h32 _) (h32 _) (Or.inr rfl) (Or.inr rfl) h
  have h3 := hinj _ _ h1
  simp only [List.cons.injEq, true_and] at h2
  obtain ⟨h4, h5⟩ := List.append_inj h2 h3
  exact ⟨h4, segs_inj ha hb h5⟩

/-- No text is folded to one with a 0. -/
theorem enc8_ne {c : Nat} (h0 : c ≠ 0) (h1 : c < 0x800) : (0 : UInt8) ∉ enc8 c := by
  unfold enc8
  split
  · next h =>
    intro hm
    have := congrArg UInt8.toNat (List.mem_singleton.1 hm)
    simp at this; omega
  · intro hm
    rcases List.mem_cons.1 hm with e | e
    · have := congrArg UInt8.toNat e; simp at this; omega
    · have := congrArg UInt8.toNat (List.mem_singleton.1 e); simp at this; omega

theorem charP_ne {tab : Nat → Option (List UInt8)} (ht : ∀ c s, tab c = some s → (0 : UInt8) ∉ s) (c : Nat) : (0 : UInt8) ∉ charP tab c := by
  unfold charP
  split
  · exact enc8_ne (by omega) (by omega)
  split
  · exact enc8_ne (by omega) (by omega)
  split
  · decide
  split
  · decide
  split
  · next h => exact ht _ _ h
  split
  · decide
  split
  · exact enc8_ne (by omega) (by omega)
  split
  · exact enc8_ne (by omega) (by omega)
  · decide

theorem wordsP_ne {ch : Nat → List UInt8} (hc : ∀ c, (0 : UInt8) ∉ ch c) : ∀ (cs : List Nat) (w : List UInt8), (0 : UInt8) ∉ w → ∀ v ∈ wordsP ch cs w, (0 : UInt8) ∉ v
  | [], w, hw => by
    unfold wordsP; split
    · simp
    · simpa using hw
  | c :: cs, w, hw => by
    unfold wordsP; split
    · exact wordsP_ne hc cs _ (by simp [hw, hc c])
    · split
      · exact wordsP_ne hc cs _ (by simp)
      · intro v hv
        rcases List.mem_cons.1 hv with e | e
        · subst e; exact hw
        · exact wordsP_ne hc cs _ (by simp) v e

theorem joinP_ne : ∀ l : List (List UInt8), (∀ v ∈ l, (0 : UInt8) ∉ v) → (0 : UInt8) ∉ joinP l
  | [], _ => by simp [joinP]
  | [w], h => by simpa [joinP] using h w (by simp)
  | w :: v :: l, h => by
    unfold joinP
    have h1 := h w (by simp)
    have h2 := joinP_ne (v :: l) fun x hx => h x (by simp [List.mem_cons.1 hx])
    simp [h1, h2]

theorem foldL_ne {tab : Nat → Option (List UInt8)} (ht : ∀ c s, tab c = some s → (0 : UInt8) ∉ s) (cs : List Nat) : (0 : UInt8) ∉ foldL tab cs :=
  joinP_ne _ fun v hv => wordsP_ne (charP_ne ht) cs [] (by simp) v hv

end Go.Proofs.YtpdldbapagchfaaGreatDoor

/- The characters of a text; the letters' table, plainly. -/
namespace Go.Proofs.YtpdldbapagchfaaGreatDoor

/-- The characters from a place on, as the model reads them. -/
def runesT (s : ByteArray) : Nat → Nat → List Nat
  | 0, _ => []
  | n + 1, pos => if pos < s.size then (Utf8.decode s pos).1 :: runesT s n (pos + (Utf8.decode s pos).2) else []
def runes (s : ByteArray) : List Nat := runesT s s.size 0

theorem dec_pos (s : ByteArray) (pos : Nat) (h : pos < s.size) : 1 ≤ (Utf8.decode s pos).2 := by
  by_cases ha : (s[pos]'h).toNat < 128
  · rw [decode_ascii s pos h ha]; exact Nat.le_refl 1
  · exact (decode_high s pos h (by omega)).2
theorem runesT_end (s : ByteArray) (n : Nat) {pos : Nat} (h : ¬ pos < s.size) : runesT s n pos = [] := by
  cases n <;> simp [runesT, h]
theorem runesT_more (s : ByteArray) : ∀ (n m pos : Nat), s.size - pos ≤ n → s.size - pos ≤ m → runesT s n pos = runesT s m pos
  | n, m, pos, hn, hm => by
    by_cases h : pos < s.size
    · have hd := dec_pos s pos h
      obtain ⟨n, rfl⟩ : ∃ k, n = k + 1 := ⟨n - 1, by omega⟩
      obtain ⟨m, rfl⟩ : ∃ k, m = k + 1 := ⟨m - 1, by omega⟩
      unfold runesT
      rw [if_pos h, if_pos h, runesT_more s n m _ (by omega) (by omega)]
    · rw [runesT_end s n h, runesT_end s m h]
/-- The characters from pos on. -/
def runesAt (s : ByteArray) (pos : Nat) : List Nat := runesT s (s.size - pos) pos
theorem runesAt_end (s : ByteArray) {pos : Nat} (h : ¬ pos < s.size) : runesAt s pos = [] := runesT_end s _ h
theorem runesAt_step (s : ByteArray) {pos : Nat} (h : pos < s.size) : runesAt s pos = (Utf8.decode s pos).1 :: runesAt s (pos + (Utf8.decode s pos).2) := by
  have hd := dec_pos s pos h
  unfold runesAt
  obtain ⟨n, hn⟩ : ∃ k, s.size - pos = k + 1 := ⟨s.size - pos - 1, by omega⟩
  rw [hn, runesT, if_pos h]
  rw [runesT_more s n (s.size - (pos + (Utf8.decode s pos).2)) _ (by omega) (Nat.le_refl _)]
theorem runes_at (s : ByteArray) : runes s = runesAt s 0 := rfl
theorem runesT_len (s : ByteArray) : ∀ (n pos : Nat), (runesT s n pos).length ≤ n
  | 0, _ => by simp [runesT]
  | n + 1, pos => by
    unfold runesT
    split
    · simpa using runesT_len s n _
    · simp
theorem runes_len (s : ByteArray) : (runes s).length ≤ s.size := runesT_len s _ _
def runeV (c : Nat) : Value := .int .i32 c
theorem runesFrom_eq (s : ByteArray) : ∀ (n pos : Nat) (acc : Array Value), Conv.runesFrom s n pos acc = acc ++ ((runesT s n pos).map runeV).toArray
  | 0, _, acc => by simp [Conv.runesFrom, runesT]
  | n + 1, pos, acc => by
    unfold Conv.runesFrom runesT
    split
    · have h := runesFrom_eq s n (pos + (Utf8.decode s pos).2) (acc.push (.int .i32 (Int.ofNat (Utf8.decode s pos).1)))
      refine h.trans ?_
      simp [runeV]
    · simp
theorem runesFrom_runes (s : ByteArray) : Conv.runesFrom s s.size 0 #[] = ((runes s).map runeV).toArray := by rw [runesFrom_eq]; simp [runes]
theorem runesT_le (s : ByteArray) : ∀ (n pos : Nat), ∀ c ∈ runesT s n pos, c ≤ 2147483647
  | 0, _, c, h => by simp [runesT] at h
  | n + 1, pos, c, h => by
    unfold runesT at h
    split at h
    · rcases List.mem_cons.1 h with e | e
      · rw [e]; exact decode_le s pos
      · exact runesT_le s n _ c e
    · simp at h
/-- A text of bytes. -/
def ofL (l : List UInt8) : ByteArray := ⟨l.toArray⟩
theorem ofL_data (s : ByteArray) : ofL s.data.toList = s := by cases s; rfl
theorem ofL_inj {a b : List UInt8} (h : ofL a = ofL b) : a = b := by
  have := congrArg (fun x : ByteArray => x.data.toList) h
  simpa [ofL] using this
theorem ofL_app (a b : List UInt8) : ofL a ++ ofL b = ofL (a ++ b) := by
  apply ByteArray.ext
  simp [ofL]
theorem ofL_size (a : List UInt8) : (ofL a).size = a.length := by simp [ofL, ByteArray.size]
theorem encode_enc8 {c : Nat} (h : c < 0x800) : Utf8.encode c = ofL (enc8 c) := by
  have hv : Utf8.valid (c : Int) = true := by simp [Utf8.valid]; omega
  unfold Utf8.encode enc8 ofL
  rw [hv]
  simp only [if_true, Int.toNat_natCast]
  by_cases h1 : c < 0x80
  · rw [if_pos h1, if_pos h1]
  · rw [if_neg h1, if_neg h1, if_pos h, if_pos h]
/-- What both folds make of a text, a table given. -/
def foldS (tab : Nat → Option (List UInt8)) (s : ByteArray) : ByteArray := ofL (foldL tab (runes s))
end Go.Proofs.YtpdldbapagchfaaGreatDoor

/- Small laws on whole blocks of memory: what a block of cells holds, behind a store, behind new blocks. -/
namespace Go.Proofs.YtpdldbapagchfaaGreatDoor
open Go.RowKit

theorem ret_int {k : IntKind} {a b : Int} (h : a = b) : Ending.returned (.int k a) = .returned (.int k b) := by rw [h]
theorem ret_bool {a b : Bool} (h : a = b) : Ending.returned (.bool a) = .returned (.bool b) := by rw [h]
theorem vint {k : IntKind} {a b : Int} (h : a = b) : Value.int k a = Value.int k b := by rw [h]
theorem vbool {a b : Bool} (h : a = b) : Value.bool a = Value.bool b := by rw [h]

theorem getD_get {α : Type} (l : List α) {i : Nat} (d : α) (h : i < l.length) : l.getD i d = l[i] := by simp [h]
/-- Block b is a row of cells xs of the type T, none of them frozen. -/
def Blk (w : World) (b : Nat) (xs : Array Value) (T : TypeId) : Prop := w.heap[b]? = some (.cells xs T (0, 0))

theorem heap_lt {w : World} {b : Nat} {o : Obj} (h : w.heap[b]? = some o) : b < w.heap.size := by
  rcases Nat.lt_or_ge b w.heap.size with h' | h'
  · exact h'
  · simp [Array.getElem?_eq_none h'] at h

namespace Blk
variable {w w' : World} {b c : Nat} {xs : Array Value} {T : TypeId}
theorem lt (h : Blk w b xs T) : b < w.heap.size := heap_lt h
theorem cell (h : Blk w b xs T) (i : Nat) : w.cell? ⟨b, i, none⟩ = xs[i]? := by
  unfold Blk at h; simp [World.cell?, h]
theorem cellE (h : Blk w b xs T) {i : Nat} {v : Value} (e : xs[i]? = some v) : w.cell? ⟨b, i, none⟩ = some v := (h.cell i).trans e
theorem frozen (h : Blk w b xs T) (i : Nat) : w.frozen? ⟨b, i, none⟩ = false := by
  unfold Blk at h; simp [World.frozen?, h]
theorem set (h : Blk w b xs T) (i : Nat) (v : Value) : Blk (w.setCell ⟨b, i, none⟩ v) b (xs.setIfInBounds i v) T := by
  have hl := h.lt
  have h' : w.heap[b] = .cells xs T (0, 0) := by simpa [Blk, Array.getElem?_eq_getElem hl] using h
  show (w.heap.modify b _)[b]? = _
  rw [Array.getElem?_eq_getElem (by simpa using hl), Array.getElem_modify_self, h']
  rfl
theorem set_ne (h : Blk w b xs T) (a : Addr) (v : Value) (hne : b ≠ a.block) : Blk (w.setCell a v) b xs T := by
  unfold Blk; rw [Below.heap_setCell _ _ _ _ hne]; exact h
theorem alloc (h : Blk w b xs T) (o : Obj) : Blk (w.alloc o) b xs T := by
  unfold Blk; rw [Below.heap_alloc _ _ _ h.lt]; exact h
theorem new (w : World) (xs : Array Value) (T : TypeId) : Blk (w.alloc (.cells xs T)) w.heap.size xs T := by
  show (w.heap.push _)[w.heap.size]? = _
  simp
theorem drewN (h : Blk w b xs T) (n : Nat) : Blk (w.drewN n) b xs T := h
theorem drew (h : Blk w b xs T) : Blk w.drew b xs T := h
theorem below {B : Nat} (h : Blk w b xs T) (hb : Below B w w') (hl : b < B) : Blk w' b xs T := by
  unfold Blk; rw [hb.block b hl]; exact h
theorem cast {ys : Array Value} (h : Blk w b xs T) (e : xs = ys) : Blk w b ys T := e ▸ h
theorem at_new {n : Nat} (hn : n = w.heap.size) (xs : Array Value) (T : TypeId) : Blk (w.alloc (.cells xs T)) n xs T := hn ▸ Blk.new w xs T
end Blk

theorem bdrewN {B : Nat} {w w' : World} (h : Below B w w') (n : Nat) : Below B w (w'.drewN n) := ⟨h.os, h.tape, h.output, h.size, h.block⟩
theorem size_alloc (w : World) (o : Obj) : (w.alloc o).heap.size = w.heap.size + 1 := by show (w.heap.push o).size = _; simp
theorem bcell {W w1 : World} (hb : Below W.heap.size W w1) : (∀ b o, b < W.heap.size → w1.cell? ⟨b, o, none⟩ = W.cell? ⟨b, o, none⟩) ∧ (∀ b o, b < W.heap.size → w1.frozen? ⟨b, o, none⟩ = W.frozen? ⟨b, o, none⟩) :=
  ⟨fun b o h => hb.cell (p := ⟨b, o, none⟩) h, fun b o h => hb.frozen (p := ⟨b, o, none⟩) h⟩

/-! ### What lies above a world: 'over w x': the blocks of w, and behind them those of x. 'Below w.heap.size w w'' says just that w' is such a world. -/
def over (w x : World) : World := { heap := w.heap ++ x.heap.extract w.heap.size x.heap.size, tape := w.tape, drawn := x.drawn, os := w.os, output := w.output }
section
variable (w x y : World)
theorem over_block {b : Nat} (h : b < w.heap.size) : (over w x).heap[b]? = w.heap[b]? := by
  show (w.heap ++ _)[b]? = _
  rw [Array.getElem?_append_left h]
theorem over_cell {a : Addr} (h : (w.cell? a).isSome = true) : (over w x).cell? a = w.cell? a := by
  have hl : a.block < w.heap.size := by
    rcases Nat.lt_or_ge a.block w.heap.size with h' | h'
    · exact h'
    · simp [World.cell?, Array.getElem?_eq_none h'] at h
  exact World.cell?_of_block (over_block w x hl)
theorem over_frozen {a : Addr} (h : (w.cell? a).isSome = true) : (over w x).frozen? a = w.frozen? a := by
  have hl : a.block < w.heap.size := by
    rcases Nat.lt_or_ge a.block w.heap.size with h' | h'
    · exact h'
    · simp [World.cell?, Array.getElem?_eq_none h'] at h
  exact World.frozen?_of_block (over_block w x hl)
theorem over_size_le : w.heap.size ≤ (over w x).heap.size := by
  show _ ≤ (w.heap ++ _).size
  simp
theorem below_over : Below w.heap.size w (over w x) := ⟨rfl, rfl, rfl, over_size_le w x, fun _ h => over_block w x h⟩
theorem over_ge {y : World} {B : Nat} (x : World) (h : B ≤ y.heap.size) : B ≤ (over y x).heap.size := Nat.le_trans h (over_size_le y x)
theorem alloc_ge {y : World} {B : Nat} (o : Obj) (h : B ≤ y.heap.size + 1) : B ≤ (y.alloc o).heap.size := by rw [size_alloc]; exact h
theorem bover {y : World} {B : Nat} (x : World) (h : B ≤ y.heap.size) : Below B y (over y x) := (below_over y x).mono h
variable {w x y}
theorem is_over (h : Below w.heap.size w x) : ∃ y, x = over w y := by
  refine ⟨x, ?_⟩
  obtain ⟨heap, tape, drawn, os, output⟩ := x
  have e1 : os = w.os := h.os
  have e2 : tape = w.tape := h.tape
  have e3 : output = w.output := h.output
  subst e1 e2 e3
  show World.mk _ _ _ _ _ = World.mk _ _ _ _ _
  congr 1
  have hs : w.heap.size ≤ heap.size := h.size
  apply Array.ext_getElem?
  intro i
  rcases Nat.lt_or_ge i w.heap.size with hi | hi
  · rw [Array.getElem?_append_left hi]; exact h.block i hi
  · rw [Array.getElem?_append_right hi, Array.getElem?_extract]
    have e : w.heap.size + (i - w.heap.size) = i := by omega
    rw [e]
    simp only [Nat.min_self]
    split
    · rfl
    · exact Array.getElem?_eq_none (by omega)
theorem over_over : ∃ z, over (over w x) y = over w z :=
  is_over ((below_over w x).trans ((below_over (over w x) y).mono (over_size_le w x)))
theorem callsOver {P : Program} {f : FuncId} {args : Array Value} {v : Value} (h : Calls P f args w fun e w' => e = .returned v ∧ Below w.heap.size w w') :
    Calls P f args w fun e w' => e = .returned v ∧ ∃ x, w' = over w x := h.mono fun _ _ ⟨he, hb⟩ => ⟨he, is_over hb⟩
/-- A contract met inside a region whose order is drawn. -/
theorem inOver {P : Program} {f : FuncId} {args : Array Value} {v : Value} (h : Calls P f args (over w x) fun e w' => e = .returned v ∧ Below (over w x).heap.size (over w x) w') :
    Calls P f args (over w x) fun e w' => e = .returned v ∧ ∃ z, w' = over w z :=
  h.mono fun _ _ ⟨he, hb⟩ => ⟨he, by obtain ⟨y, rfl⟩ := is_over hb; exact over_over⟩
theorem inSame {P : Program} {f : FuncId} {args : Array Value} {v : Value} (h : Calls P f args (over w x) fun e w' => e = .returned v ∧ over w x = w') :
    Calls P f args (over w x) fun e w' => e = .returned v ∧ ∃ z, w' = over w z := h.mono fun _ _ ⟨he, hb⟩ => ⟨he, x, hb.symm⟩
theorem wp_region_over {P : Program} {id : Nat} {Q : Exit → Act → World → Prop} {a : Act} {w : World} {l : List Oper} (hm : P.follows .mixedOrders = true) (hB : Region.lexB .any l.toArray = true)
    (h : wpQuiet P l.toArray (fun w' => ∃ n, w' = over w n) (fun a' => ∀ w', (∃ n, w' = over w n) → Q .normal a' w') l a) : (Code.region id l.toArray true).wp P Q a w :=
  wp_region_quiet (C := fun w' => ∃ n, w' = over w n) hm hB (is_over (Below.refl _ _).drew) (by simpa using h)
end
theorem Blk.over {w : World} {b : Nat} {xs : Array Value} {T : TypeId} (h : Blk w b xs T) (x : World) : Blk (over w x) b xs T := h.below (below_over w x) h.lt
end Go.Proofs.YtpdldbapagchfaaGreatDoor

/- What is kept: worlds that differ in named blocks alone; rows of the call's own. -/
namespace Go.Proofs.YtpdldbapagchfaaGreatDoor
open Go.RowKit Go.Shelf Go.Maps

theorem cell_lt {w : World} {a : Addr} {v : Value} (h : w.cell? a = some v) : a.block < w.heap.size := by
  rcases Nat.lt_or_ge a.block w.heap.size with h' | h'
  · exact h'
  · simp [World.cell?, Array.getElem?_eq_none h'] at h
theorem Below.cellE {w w' : World} {a : Addr} {v : Value} (hb : Below w.heap.size w w') (h : w.cell? a = some v) : w'.cell? a = some v := (hb.cell (cell_lt h)).trans h
/-- A slice of integers that lies below block B. -/
def Ints (w : World) (B : Nat) (v : Value) (l : List Int) : Prop :=
  ∃ a cap, v = .slice a l.length cap ∧ (l = [] ∨ ∃ b o, a = some ⟨b, o, none⟩ ∧ b < B ∧ ∀ j, j < l.length → w.cell? ⟨b, o + j, none⟩ = some (.int .i64 (l.getD j 0)))
theorem Ints.below {w w' : World} {B C : Nat} {v : Value} {l : List Int} (h : Ints w B v l) (hb : Below C w w') (hC : B ≤ C) : Ints w' B v l := by
  obtain ⟨a, cap, rfl, h | ⟨b, o, rfl, hl, hc⟩⟩ := h
  · exact ⟨a, cap, rfl, .inl h⟩
  · exact ⟨_, cap, rfl, .inr ⟨b, o, rfl, hl, fun j hj => (hb.cell (p := ⟨b, o + j, none⟩) (by show b < C; omega)).trans (hc j hj)⟩⟩
theorem Ints.mono {w : World} {B C : Nat} {v : Value} {l : List Int} (h : Ints w B v l) (hC : B ≤ C) : Ints w C v l := by
  obtain ⟨a, cap, rfl, h | ⟨b, o, rfl, hl, hc⟩⟩ := h
  · exact ⟨a, cap, rfl, .inl h⟩
  · exact ⟨_, cap, rfl, .inr ⟨b, o, rfl, by omega, hc⟩⟩

/-- w' is w with new blocks, and with writes to the blocks F alone. -/
structure Tn (F : Nat → Prop) (w w' : World) : Prop where
  os : w'.os = w.os
  tape : w'.tape = w.tape
  output : w'.output = w.output
  size : w.heap.size ≤ w'.heap.size
  block : ∀ b, b < w.heap.size → ¬ F b → w'.heap[b]? = w.heap[b]?
namespace Tn
variable {F G : Nat → Prop} {a w w' : World}
theorem refl (F : Nat → Prop) (w : World) : Tn F w w := ⟨rfl, rfl, rfl, Nat.le_refl _, fun _ _ _ => rfl⟩
theorem trans (h : Tn F a w) (g : Tn F w w') : Tn F a w' := ⟨g.os.trans h.os, g.tape.trans h.tape, g.output.trans h.output, Nat.le_trans h.size g.size,
  fun b hb hF => (g.block b (Nat.lt_of_lt_of_le hb h.size) hF).trans (h.block b hb hF)⟩
/-- What the second writes may lie in new blocks. -/
theorem then_ (h : Tn F a w) (g : Tn G w w') (hG : ∀ b, G b → F b ∨ a.heap.size ≤ b) : Tn F a w' := ⟨g.os.trans h.os, g.tape.trans h.tape, g.output.trans h.output, Nat.le_trans h.size g.size,
  fun b hb hF => (g.block b (Nat.lt_of_lt_of_le hb h.size) (fun e => (hG b e).elim hF (by omega))).trans (h.block b hb hF)⟩
theorem mono (h : Tn F w w') (g : ∀ b, F b → G b) : Tn G w w' := ⟨h.os, h.tape, h.output, h.size, fun b hb hG => h.block b hb fun e => hG (g b e)⟩
theorem of_below (h : Below w.heap.size w w') : Tn F w w' := ⟨h.os, h.tape, h.output, h.size, fun b hb _ => h.block b hb⟩
theorem of_below' {B : Nat} (h : Below B w w') (hF : ∀ b, B ≤ b → b < w.heap.size → F b) : Tn F w w' := ⟨h.os, h.tape, h.output, h.size, fun b hb hn => h.block b (by
  rcases Nat.lt_or_ge b B with h' | h'
  · exact h'
  · exact absurd (hF b h' hb) hn)⟩
theorem of_grown {row : Option Nat} (h : w.grownBy w' row) : Tn (fun b => row = some b) w w' := ⟨h.os, h.tape, h.output, h.size, fun b hb hn => h.block b hb fun e => hn e.symm⟩
theorem alloc (h : Tn F a w) (o : Obj) : Tn F a (w.alloc o) := h.trans (of_below ((Below.refl _ _).alloc (Nat.le_refl _) _))
theorem drewN (h : Tn F a w) (n : Nat) : Tn F a (w.drewN n) := h.trans (of_below (bdrewN (Below.refl _ _) n))
theorem drew (h : Tn F a w) : Tn F a w.drew := ⟨h.os, h.tape, h.output, h.size, h.block⟩
theorem setCell (h : Tn F a w) {p : Addr} (hp : F p.block ∨ a.heap.size ≤ p.block) (u : Value) : Tn F a (w.setCell p u) := ⟨h.os, h.tape, h.output, by simpa using h.size,
  fun b hb hF => (Below.heap_setCell _ _ _ _ (fun e => hp.elim (fun g => hF (by rw [e]; exact g)) (fun g => by omega))).trans (h.block b hb hF)⟩
theorem below {B : Nat} (h : Tn F w w') (hB : B ≤ w.heap.size) (hF : ∀ b, F b → B ≤ b) : Below B w w' := ⟨h.os, h.tape, h.output, h.size, fun b hb => h.block b (by omega) fun e => by have := hF b e; omega⟩
theorem blk {b : Nat} {xs : Array Value} {T : TypeId} (h : Tn F w w') (k : Blk w b xs T) (hn : ¬ F b) : Blk w' b xs T := by unfold Blk; rw [h.block b k.lt hn]; exact k
theorem cell {p : Addr} {v : Value} (h : Tn F w w') (k : w.cell? p = some v) (hn : ¬ F p.block) : w'.cell? p = some v := by
  rw [World.cell?_of_block (h.block p.block (cell_lt k) hn)]; exact k
theorem row {B : Nat} {e : TypeId} {z n : Nat} {v : Value} {xs : List Value} (h : Tn F w w') (k : w.ownsRow B e z v n xs) (hn : ∀ r, v.ownBlock = some r → ¬ F r) : w'.ownsRow B e z v n xs := by
  obtain ⟨h0, ⟨h1, h2⟩ | ⟨g, c, cur, h1, h2, h3, h4⟩⟩ := k
  · exact ⟨h0, .inl ⟨h1, h2⟩⟩
  · exact ⟨h0, .inr ⟨g, c, cur, h1, h2, (h.block g (heap_lt h3) (hn g (by rw [h1]; rfl))).trans h3, h4⟩⟩
theorem map {P : Program} {K : TypeId} {b n : Nat} {D : DataW Unit} {R : Value → Option (DataW Unit × List MemPlace)} (h : Tn F w w') (k : w.ownsMap P K R b n D) (hn : ¬ F b) : w'.ownsMap P K R b n D := by
  obtain ⟨es, clock, hb, F', hs, hD⟩ := k
  exact ⟨es, clock, (h.block b (heap_lt hb) hn).trans hb, F', hs, hD⟩
end Tn

/-- A slice of integers that lies in blocks S. -/
def IntsIn (w : World) (S : Nat → Prop) (v : Value) (l : List Int) : Prop :=
  ∃ a cap, v = .slice a l.length cap ∧ (l = [] ∨ ∃ b o, a = some ⟨b, o, none⟩ ∧ S b ∧ ∀ j, j < l.length → w.cell? ⟨b, o + j, none⟩ = some (.int .i64 (l.getD j 0)))
theorem IntsIn.ints {w : World} {S : Nat → Prop} {v : Value} {l : List Int} {B : Nat} (h : IntsIn w S v l) (hS : ∀ b, S b → b < w.heap.size → b < B) : Ints w B v l := by
  obtain ⟨a, cap, rfl, h | ⟨b, o, rfl, hl, hc⟩⟩ := h
  · exact ⟨a, cap, rfl, .inl h⟩
  · rcases Nat.eq_zero_or_pos l.length with h0 | h0
    · exact ⟨_, cap, rfl, .inl (List.eq_nil_of_length_eq_zero h0)⟩
    · exact ⟨_, cap, rfl, .inr ⟨b, o, rfl, hS b hl (cell_lt (hc 0 h0)), hc⟩⟩
theorem IntsIn.keep {w w' : World} {F S S' : Nat → Prop} {v : Value} {l : List Int} (h : IntsIn w S v l) (t : Tn F w w') (hF : ∀ b, S b → b < w.heap.size → ¬ F b) (hS : ∀ b, S b → b < w.heap.size → S' b) : IntsIn w' S' v l := by
  obtain ⟨a, cap, rfl, h | ⟨b, o, rfl, hl, hc⟩⟩ := h
  · exact ⟨a, cap, rfl, .inl h⟩
  · rcases Nat.eq_zero_or_pos l.length with h0 | h0
    · exact ⟨_, cap, rfl, .inl (List.eq_nil_of_length_eq_zero h0)⟩
    · have hb := cell_lt (hc 0 h0)
      exact ⟨_, cap, rfl, .inr ⟨b, o, rfl, hS b hl hb, fun j hj => t.cell (hc j hj) (hF b hl hb)⟩⟩

/-! A slice of the call's own -/
def OwnSl (w : World) (B : Nat) (a : Option Addr) (D : List Int) (cap : Nat) : Prop :=
  D.length ≤ cap ∧ (D = [] ∨ ∃ g, a = some ⟨g, 0, none⟩ ∧ B ≤ g ∧ g < w.heap.size ∧ Go.Sort.Holds (Value.int .i64) w g 0 D.toArray)
theorem below_ahead {B : Nat} {a w : World} (h : Below B a w) (n : Nat) : Below B a (Go.Sort.ahead w n) := ⟨h.os, h.tape, h.output, h.size, h.block⟩
theorem below_putRow {B : Nat} {a w : World} (h : Below B a w) {g : Nat} (hg : B ≤ g) (o : Nat) (d : Array Int) : Below B a (Go.Sort.putRow (Value.int .i64) w g o d) :=
  ⟨h.os, h.tape, h.output, by rw [Go.Sort.size_putRow]; exact h.size, fun k hk => by
    show (w.heap.modify g _)[k]? = _
    rw [Array.getElem?_modify, if_neg (by omega)]; exact h.block k hk⟩
theorem tn_ahead (w : World) (n : Nat) (F : Nat → Prop) : Tn F w (Go.Sort.ahead w n) := ⟨rfl, rfl, rfl, Nat.le_refl _, fun _ _ _ => rfl⟩
theorem tn_putRow (w : World) (g o : Nat) (d : Array Int) : Tn (· = g) w (Go.Sort.putRow (Value.int .i64) w g o d) :=
  ⟨rfl, rfl, rfl, by rw [Go.Sort.size_putRow]; exact Nat.le_refl _, fun k _ hn => by
    show (w.heap.modify g _)[k]? = _
    rw [Array.getElem?_modify, if_neg (fun e => hn e.symm)]⟩
theorem tn_grow (w : World) (os : Array Obj) (F : Nat → Prop) : Tn F w (Go.Sort.grow w os) :=
  ⟨rfl, rfl, rfl, by rw [Go.Sort.size_grow]; omega, fun k hk _ => Go.Sort.heap_grow_old w os hk⟩

theorem OwnSl.keep {w w' : World} {F : Nat → Prop} {B : Nat} {a : Option Addr} {D : List Int} {cap : Nat} (h : OwnSl w B a D cap) (t : Tn F w w') (hF : ∀ b, B ≤ b → b < w.heap.size → a = some ⟨b, 0, none⟩ → ¬ F b) : OwnSl w' B a D cap := by
  obtain ⟨hcap, rfl | ⟨g, rfl, hg, hgl, hh⟩⟩ := h
  · exact ⟨hcap, .inl rfl⟩
  · refine ⟨hcap, .inr ⟨g, rfl, hg, by have := t.size; omega, fun j hj => ?_⟩⟩
    have hb := t.block g hgl (hF g hg hgl rfl)
    obtain ⟨h1, h2⟩ := hh j hj
    exact ⟨by rw [World.cell?_of_block hb]; exact h1, by rw [World.frozen?_of_block hb]; exact h2⟩
theorem OwnSl.ints {w : World} {B : Nat} {a : Option Addr} {D : List Int} {cap : Nat} (h : OwnSl w B a D cap) : IntsIn w (fun b => B ≤ b ∧ b < w.heap.size ∧ a = some ⟨b, 0, none⟩) (.slice a D.length cap) D := by
  obtain ⟨hcap, rfl | ⟨g, rfl, hg, hgl, hh⟩⟩ := h
  · exact ⟨a, cap, rfl, .inl rfl⟩
  · refine ⟨_, cap, rfl, .inr ⟨g, 0, rfl, ⟨hg, hgl, rfl⟩, fun j hj => ?_⟩⟩
    have := (hh j (by simpa using hj)).1
    rw [getElem!_pos _ j (by simpa using hj)] at this
    rw [getD_get _ _ hj]
    simpa using this
theorem own_of_row {w : World} {B : Nat} {v : Value} {D : List Int} (h : w.ownsRow B 3 1 v D.length (D.map (Value.int .i64))) : ∃ a cap, v = .slice a D.length cap ∧ OwnSl w B a D cap ∧ (∀ b o, a = some ⟨b, o, none⟩ → v.ownBlock = some b) := by
  obtain ⟨_, ⟨rfl, hn⟩ | ⟨g, c', cur, rfl, hg, hh, hn, hm, hcs, hx⟩⟩ := h
  · exact ⟨none, 0, by rw [hn], ⟨by omega, .inl (List.eq_nil_of_length_eq_zero hn)⟩, fun b o e => by cases e⟩
  · refine ⟨_, _, rfl, ⟨hn, .inr ⟨g, rfl, hg, heap_lt hh, fun j hj => ?_⟩⟩, fun b o e => by injection e with e; injection e with e1; rw [← e1]; rfl⟩
    have hj' : j < D.length := by simpa using hj
    have e : cur[0 + j]? = some (Value.int .i64 D[j]) := by
      have h1 := congrArg (fun l => l[j]?) hx
      simp only [Nat.mul_one, List.getElem?_map, List.getElem?_eq_getElem hj', Option.map_some] at h1
      rw [List.getElem?_take_of_lt hj'] at h1
      simpa using h1
    constructor
    · simp only [World.cell?, hh]
      rw [getElem!_pos D.toArray j hj]
      simpa using e
    · simp [World.frozen?, hh]
theorem row_lt {w : World} {B : Nat} {e : TypeId} {z n : Nat} {v : Value} {xs : List Value} (h : w.ownsRow B e z v n xs) : ∀ r, v.ownBlock = some r → B ≤ r ∧ r < w.heap.size := by
  obtain ⟨_, ⟨rfl, hn⟩ | ⟨g, c', cur, rfl, hg, hh, _⟩⟩ := h
  · intro r hr; cases hr
  · intro r hr
    have : g = r := by injection hr
    subst this
    exact ⟨hg, heap_lt hh⟩
theorem row_cell {w : World} {B : Nat} {e : TypeId} {n : Nat} {v : Value} {xs : List Value} (h : w.ownsRow B e 1 v n xs) : ∃ a cap, v = .slice a n cap ∧ (n = 0 ∨ ∃ g, a = some ⟨g, 0, none⟩ ∧ v.ownBlock = some g ∧ ∀ j u, xs[j]? = some u → w.cell? ⟨g, j, none⟩ = some u) := by
  obtain ⟨h0, ⟨rfl, hn⟩ | ⟨g, c', cur, rfl, hg, hh, hn, hm, hcs, hx⟩⟩ := h
  · exact ⟨none, 0, by rw [hn], .inl hn⟩
  · refine ⟨_, _, rfl, .inr ⟨g, rfl, rfl, fun j u hj => ?_⟩⟩
    simp only [World.cell?, hh]
    rw [← hx, Nat.mul_one] at hj
    have hjl : j < n := by
      have := (List.getElem?_eq_some_iff.1 hj).1
      rw [List.length_take] at this; omega
    rw [List.getElem?_take_of_lt hjl] at hj
    simpa using hj

theorem row_mono {w : World} {B B' : Nat} {e : TypeId} {z n : Nat} {v : Value} {xs : List Value} (h : w.ownsRow B e z v n xs) (hB : B' ≤ B) : w.ownsRow B' e z v n xs := by
  obtain ⟨h0, h1 | ⟨g, c, cur, q1, q2, q3⟩⟩ := h
  · exact ⟨h0, .inl h1⟩
  · exact ⟨h0, .inr ⟨g, c, cur, q1, by omega, q3⟩⟩
theorem add_off (b o i : Nat) : (⟨b, o, none⟩ : Addr).add i = ⟨b, o + i, none⟩ := by by_cases h : i = 0 <;> simp [Addr.add, h]
theorem add_of (b i : Nat) : (⟨b, 0, none⟩ : Addr).add i = ⟨b, i, none⟩ := by rw [add_off, Nat.zero_add]
end Go.Proofs.YtpdldbapagchfaaGreatDoor

/- strings.Builder: what is written, laid by hand (the shelf's laying does not find two types here). -/
namespace Go.Proofs.YtpdldbapagchfaaGreatDoor
open Go.RowKit Go.Shelf Go.Maps

def renB : Go.Shelf.Ren := ⟨fun | 167 => 97 | 240 => 105 | 276 => 111 | n => n, fun | 31 => 65 | 9 => 9 | 3 => 3 | 4 => 4 | 0 => 0 | 20 => 20 | 72 => 140 | 76 => 143 | 70 => 138 | 37 => 39 | 75 => 142 | 127 => 153 | 164 => 157 | 5 => 5 | 80 => 146 | n => n, fun | n => n⟩
theorem laysB : Go.Proofs.Lays.n167 Tryz.prog renB := {
  mixed := by kernel_rfl
  f167 := Tryz.func97.trans (congrArg some (by kernel_rfl))
  f240 := Tryz.func105.trans (congrArg some (by kernel_rfl))
  f276 := Tryz.func111.trans (congrArg some (by kernel_rfl))
  t0 := Tryz.underlying0
  a0 := Tryz.isAgg0
  z0 := Tryz.sizeOf0
  v0 := Tryz.zeroValue0
  t4 := Tryz.underlying4
  a4 := Tryz.isAgg4
  z4 := Tryz.sizeOf4
  v4 := Tryz.zeroValue4
  t5 := Tryz.underlying5
  a5 := Tryz.isAgg5
  z5 := Tryz.sizeOf5
  v5 := Tryz.zeroValue5
  t9 := Tryz.underlying9
  a9 := Tryz.isAgg9
  z9 := Tryz.sizeOf9
  v9 := Tryz.zeroValue9
  t20 := Tryz.underlying20
  a20 := Tryz.isAgg20
  z20 := Tryz.sizeOf20
  v20 := Tryz.zeroValue20
  t37 := Tryz.underlying39
  a37 := Tryz.isAgg39
  z37 := Tryz.sizeOf39
  v37 := Tryz.zeroValue39
  t70 := Tryz.underlying138
  a70 := Tryz.isAgg138
  z70 := Tryz.sizeOf138
  v70 := Tryz.zeroValue138
  t72 := Tryz.underlying140
  a72 := Tryz.isAgg140
  z72 := Tryz.sizeOf140
  v72 := Tryz.zeroValue140
  t75 := Tryz.underlying142
  a75 := Tryz.isAgg142
  z75 := Tryz.sizeOf142
  v75 := Tryz.zeroValue142
  t164 := Tryz.underlying157
  a164 := Tryz.isAgg157
  z164 := Tryz.sizeOf157
  v164 := Tryz.zeroValue157 }
theorem extraB : Go.Proofs.Builder.Extra Tryz.prog renB := {
  sizeBuilder := by kernel_rfl
  liesBuilder := by kernel_rfl
  t5 := Tryz.underlying5
  a5 := Tryz.isAgg5
  z5 := Tryz.sizeOf5
  v5 := Tryz.zeroValue5
  infoByte := by kernel_rfl
  cellsByte := by kernel_rfl
  sizeByte := by kernel_rfl
  neB5 := by decide }
abbrev IsB (B b : Nat) (l : List UInt8) (w : World) : Prop := Lib.IsBuilderF 140 5 B b (Lib.byteCells l) w
theorem cells_str (s : ByteArray) : Lib.strCells s = Lib.byteCells s.data.toList := rfl
theorem cells_app (a b : List UInt8) : Lib.byteCells a ++ Lib.byteCells b = Lib.byteCells (a ++ b) := by unfold Lib.byteCells; rw [List.map_append]
/-- WriteString. -/
theorem wstr_any (B b : Nat) (l : List UInt8) (s : ByteArray) (w : World) (h : IsB B b l w) (hl : l.length + s.size ≤ 140737488355328) (hB : B ≤ w.heap.size) :
    Calls Tryz.prog 95 #[.pointer (some ⟨b, 0, none⟩), .string s] w fun e w' => e = .returned (.tuple #[.int .i64 s.size, .nilIface]) ∧ IsB B b (l ++ s.data.toList) w' ∧ Below B w w' ∧ Lib.OthersKept 5 (some b) w w' := by
  refine (Any.Builder_WriteString_k (P := Tryz.prog) (ρ := Tryz.lays156_ren) { Tryz.lays156 with } Tryz.Builder_Extra_156 B b (Lib.byteCells l) s w h (by rw [Lib.byteCells_length]; exact hl) hB).mono ?_
  rintro e w' ⟨h1, h2, h3, h4⟩
  refine ⟨h1, .inr ?_, h3, h4⟩
  rw [cells_str, cells_app] at h2
  exact h2
/-- WriteByte. -/
theorem wbyte_any (B b : Nat) (l : List UInt8) (c : UInt8) (w : World) (h : IsB B b l w) (hl : l.length + 1 ≤ 140737488355328) (hB : B ≤ w.heap.size) :
    Calls Tryz.prog 97 #[.pointer (some ⟨b, 0, none⟩), .int .u8 c.toNat] w fun e w' => e = .returned .nilIface ∧ IsB B b (l ++ [c]) w' ∧ Below B w w' ∧ Lib.OthersKept 5 (some b) w w' := by
  refine (Any.Builder_WriteByte_k (P := Tryz.prog) (ρ := renB) laysB extraB B b (Lib.byteCells l) c.toNat w h (by rw [Lib.byteCells_length]; exact hl) hB).mono ?_
  rintro e w' ⟨h1, h2, h3, h4⟩
  refine ⟨h1, .inr ?_, h3, h4⟩
  have e1 : Lib.byteCells l ++ [Value.int .u8 (c.toNat : Int)] = Lib.byteCells (l ++ [c]) := by rw [← cells_app]; rfl
  rw [e1] at h2
  exact h2
/-- String. -/
theorem bstr_any (B b : Nat) (l : List UInt8) (w : World) (h : IsB B b l w) (hB : B ≤ w.heap.size) :
    Calls Tryz.prog 99 #[.pointer (some ⟨b, 0, none⟩)] w fun e w' => e = .returned (.string (ofL l)) ∧ IsB B b l w' ∧ Below B w w' ∧ Lib.OthersKept 5 (some b) w w' :=
  Tryz.Builder_String_any_k B b l w h hB
/-- A new builder. -/
theorem isB_new (w : World) (B : Nat) (hB : B ≤ w.heap.size) : IsB B w.heap.size [] (w.alloc (.cells #[.pointer none, .slice none 0 0] 140)) :=
  .inl ⟨hB, .slice none 0 0, Blk.new w _ 140, World.ownsRowF_of (World.ownsRow_nil _ _ _ _), by simp [Value.ownBlock]⟩
end Go.Proofs.YtpdldbapagchfaaGreatDoor
