/- Rows that are appended to, whatever comes. -/
import Derived.Test.YtdojgbpaheadnaaGreatQTN
import Derived.Test.YtdojgbpaheadnaaGreatQRNa
import Derived.Test.YtdojgbpaheadnaaGreatQS
import Derived.Deep.MidRow
import Derived.Test.YtdojgbpaheadnaaGreatQLF
import Derived.Test.YtdojgbpaheadnaaGreatQK
import Derived.Deep.CutBlock
set_option linter.unusedVariables false
set_option linter.unusedSimpArgs false

namespace Go.Proofs.YtdojgbpaheadnaaGreat
open Go.RowKit Go.Shelf Go.Maps

theorem row_fresh' {g : Nat} (w : World) (hg : g = w.heap.size) (B : Nat) (xs : Array Value) (T : TypeId) (z n : Nat) (hx : xs.size = n * z) (hm : n ≤ maxLen) (hB : B ≤ w.heap.size) : (w.alloc (.cells xs T)).ownsRow B T z (.slice (some ⟨g, 0, none⟩) n n) n xs.toList := by
 subst hg; exact row_fresh w B xs T z n hx hm hB
theorem below_grown {w w' w1 : World} {B : Nat} {row : Option Nat} (hb : Below B w w') (hB : B ≤ w'.heap.size) (hg : w'.grownBy w1 row) (hrow : ∀ r, row = some r → B ≤ r) : Below B w w1 :=
 hb.trans ⟨hg.os, hg.tape, hg.output, hg.size, fun b h => hg.block b (by omega) (fun e => by have := hrow b e.symm; omega)⟩
theorem Src.take' {W : World} {z n k cap : Nat} {xs : List Value} {a : Option Addr} (h : Src W z n xs (.slice a n cap)) (hk : k ≤ n) : Src W z k (xs.take (k * z)) (sliced a 0 k cap z) := by
 rcases h with ⟨c, e, h1, h2⟩ | ⟨ad, c, e, hl, hc⟩
 ·injection e with e1 _ e3
  subst e1 h1 h2
  obtain rfl : k = 0 := by omega
  exact .inl ⟨cap, by simp [sliced], rfl, by simp⟩
 ·injection e with e1 _ e3
  subst e1
  refine .inr ⟨ad, cap, by simp [sliced, Addr.add], ?_, fun j u hj => ?_⟩
  ·rw [List.length_take, hl]; exact Nat.min_eq_left (Nat.mul_le_mul_right z hk)
  ·have hj' := (List.getElem?_eq_some_iff.1 hj).1
   rw [List.length_take] at hj'
   rw [List.getElem?_take_of_lt (by omega)] at hj
   exact hc j u hj
theorem add_add (ad : Addr) (i j : Nat) (h : ad.spot = none) : (ad.add i).add j = ad.add (i + j) := by
 obtain ⟨b, o, s⟩ := ad
 obtain rfl : s = none := h
 rw [add_off, add_off, add_off, Nat.add_assoc]
theorem Src.drop' {W : World} {z n k cap : Nat} {xs : List Value} {a : Option Addr} (h : Src W z n xs (.slice a n cap)) (hk : k ≤ n) (hn : n ≤ cap) (hs : ∀ ad, a = some ad → ad.spot = none) : Src W z (n - k) (xs.drop (k * z)) (sliced a k n cap z) := by
 rcases h with ⟨c, e, h1, h2⟩ | ⟨ad, c, e, hl, hc⟩
 ·injection e with e1 _ e3
  subst e1 h1 h2
  obtain rfl : k = 0 := by omega
  exact .inl ⟨cap, by simp [sliced], rfl, by simp⟩
 ·injection e with e1 _ e3
  subst e1
  by_cases hq : cap = k
  ·have e0 : n = k := by omega
   subst hq e0
   have : xs.drop (n * z) = [] := List.drop_of_length_le (by omega)
   rw [this]
   exact .inr ⟨ad, 0, by simp [sliced], by simp, fun j u hj => by simp at hj⟩
  ·refine .inr ⟨ad.add (k * z), cap - k, by simp [sliced, hq], ?_, fun j u hj => ?_⟩
   ·rw [List.length_drop, hl, Nat.sub_mul]
   ·rw [add_add _ _ _ (hs _ rfl)]
    rw [List.getElem?_drop] at hj
    exact hc _ u hj
theorem wpList_cut_to {P : Program} {ops : Array Oper} {rest : List Oper} {W : World} {o : Oper} {a : Act} {Q : Exit → Act → World → Prop} (hgd : o.guard = none) (x y : Operand) (t : TypeId)
  (ho : o.op = .slice t x none (some y) none) (ht : P.underlying t = some (.slice (P.elem t))) {z : Nat} (hz : (P.info? (P.elem t)).map (·.size) = some z)
  (ad : Option Addr) (n cap : Nat) (hx : a.eval x = .slice ad n cap) (k : Nat) (hy : a.eval y = .int .i64 k) (hk : k ≤ cap)
  (hkn : k ≤ n) (h : ∀ y', (∀ W xs, Src W z n xs (.slice ad n cap) → Src W z k (xs.take (k * z)) y') → wpList P ops Q rest (a.put o.dst y') W) : wpList P ops Q (o :: rest) a W := by
 refine wpList_plain hgd fun K hK => ?_
 have hr := run_slice_h (P := P) (w := W) t ad n cap ht .i64 (k : Int) (by omega) (by omega)
 have hsz : (sizeOf (P.elem t)).run P W = .ok z W := by
  cases hq : P.info? (P.elem t) with
  | none => simp [hq] at hz
  | some i => simp [hq] at hz; simp [sizeOf, typeInfo, hq, hz]
 rw [hsz] at hr
 simp only [Result.andThen, Int.toNat_natCast] at hr
 unfold Oper.wp execOp
 simp only [ho, hx, hy, Option.map_some, Option.map_none, run_sliceAt_slice (w := W) t _ _ _ _ ht, Sem.run_bind, hr, Result.andThen]
 exact hK _ _ (h _ fun W xs hs => hs.take' hkn)
theorem wpList_cut_from {P : Program} {ops : Array Oper} {rest : List Oper} {W : World} {o : Oper} {a : Act} {Q : Exit → Act → World → Prop} (hgd : o.guard = none) (x y : Operand) (t : TypeId)
  (ho : o.op = .slice t x (some y) none none) (ht : P.underlying t = some (.slice (P.elem t))) {z : Nat} (hz : (P.info? (P.elem t)).map (·.size) = some z)
  (ad : Option Addr) (n cap : Nat) (hx : a.eval x = .slice ad n cap) (k : Nat) (hy : a.eval y = .int .i64 k) (hk : k ≤ n)
  (hnc : n ≤ cap) (hsp : ∀ p, ad = some p → p.spot = none) (h : ∀ y', (∀ W xs, Src W z n xs (.slice ad n cap) → Src W z (n - k) (xs.drop (k * z)) y') → wpList P ops Q rest (a.put o.dst y') W) : wpList P ops Q (o :: rest) a W := by
 refine wpList_plain hgd fun K hK => ?_
 have hr := run_slice_l (P := P) (w := W) t ad n cap ht .i64 (k : Int) (by omega) (by omega)
 have hsz : (sizeOf (P.elem t)).run P W = .ok z W := by
  cases hq : P.info? (P.elem t) with
  | none => simp [hq] at hz
  | some i => simp [hq] at hz; simp [sizeOf, typeInfo, hq, hz]
 rw [hsz] at hr
 simp only [Result.andThen, Int.toNat_natCast] at hr
 unfold Oper.wp execOp
 simp only [ho, hx, hy, Option.map_some, Option.map_none, run_sliceAt_slice (w := W) t _ _ _ _ ht, Sem.run_bind, hr, Result.andThen]
 exact hK _ _ (h _ fun W xs hs => hs.drop' hk hnc hsp)
end Go.Proofs.YtdojgbpaheadnaaGreat

/- Slices and rows of structs (general; taken from the texts of Merge). -/
namespace Go.Proofs.YtdojgbpaheadnaaGreat
open Go.RowKit Go.Shelf Go.Maps

inductive All2 {α β : Type} (R : α → β → Prop) : List α → List β → Prop where
 | nil : All2 R [] []
 | cons {a b l m} (h : R a b) (t : All2 R l m) : All2 R (a :: l) (b :: m)
namespace All2
variable {α β : Type} {R R' : α → β → Prop}
theorem length : ∀ {l : List α} {m : List β}, All2 R l m → l.length = m.length
 | _, _, .nil => rfl
 | _, _, .cons _ t => by simp [t.length]
theorem mono (h : ∀ a b, R a b → R' a b) : ∀ {l : List α} {m : List β}, All2 R l m → All2 R' l m
 | _, _, .nil => .nil
 | _, _, .cons g t => .cons (h _ _ g) (t.mono h)
theorem app : ∀ {l l' : List α} {m m' : List β}, All2 R l m → All2 R l' m' → All2 R (l ++ l') (m ++ m')
 | _, _, _, _, .nil, h => h
 | _, _, _, _, .cons g t, h => .cons g (t.app h)
theorem one {a : α} {b : β} (h : R a b) : All2 R [a] [b] := .cons h .nil
theorem get : ∀ {l : List α} {m : List β}, All2 R l m → ∀ j (h : j < l.length) (h' : j < m.length), R l[j] m[j]
 | _, _, .cons g _, 0, _, _ => g
 | _, _, .cons _ t, j + 1, h, h' => t.get j (by simpa using h) (by simpa using h')
theorem of_get : ∀ {l : List α} {m : List β}, l.length = m.length → (∀ j (h : j < l.length) (h' : j < m.length), R l[j] m[j]) → All2 R l m
 | [], [], _, _ => .nil
 | [], _ :: _, e, _ => by simp at e
 | _ :: _, [], e, _ => by simp at e
 | a :: l, b :: m, e, h => .cons (h 0 (by simp) (by simp)) (of_get (by simpa using e) fun j h1 h2 => h (j + 1) (by simpa using h1) (by simpa using h2))
theorem take : ∀ {l : List α} {m : List β} (_ : All2 R l m) (k : Nat), All2 R (l.take k) (m.take k)
 | _, _, _, 0 => by simpa using All2.nil
 | _, _, .nil, k + 1 => .nil
 | _, _, .cons g t, k + 1 => by rw [List.take_succ_cons, List.take_succ_cons]; exact .cons g (t.take k)
theorem drop : ∀ {l : List α} {m : List β} (_ : All2 R l m) (k : Nat), All2 R (l.drop k) (m.drop k)
 | _, _, h, 0 => h
 | _, _, .nil, k + 1 => .nil
 | _, _, .cons g t, k + 1 => t.drop k
end All2

theorem flat_len {z : Nat} : ∀ {css : List (List Value)}, (∀ c ∈ css, c.length = z) → css.flatten.length = css.length * z
 | [], _ => by simp
 | c :: l, h => by
  rw [List.flatten_cons, List.length_append, h c (by simp), flat_len fun d hd => h d (by simp [hd])]
  simp only [List.length_cons, Nat.add_mul, Nat.one_mul]; omega
theorem flat_get {z : Nat} : ∀ {css : List (List Value)}, (∀ c ∈ css, c.length = z) → ∀ j (h : j < css.length) i, i < z → css.flatten[j * z + i]? = css[j][i]?
 | c :: l, hz, 0, h, i, hi => by
  rw [List.flatten_cons, List.getElem?_append_left (by rw [hz c (by simp)]; omega)]; simp
 | c :: l, hz, j + 1, h, i, hi => by
  have hc := hz c (by simp)
  rw [List.flatten_cons, List.getElem?_append_right (by rw [hc, Nat.add_mul]; omega), hc]
  rw [show (j + 1) * z + i - z = j * z + i by rw [Nat.add_mul]; omega, flat_get (fun d hd => hz d (by simp [hd])) j (by simpa using h) i hi]
  simp
theorem flat_take {z : Nat} : ∀ {css : List (List Value)}, (∀ c ∈ css, c.length = z) → ∀ k, k ≤ css.length → css.flatten.take (k * z) = (css.take k).flatten
 | _, _, 0, _ => by simp
 | [], _, k + 1, h => by simp at h
 | c :: l, hz, k + 1, h => by
  have hc := hz c (by simp)
  rw [List.flatten_cons, List.take_succ_cons, List.flatten_cons, List.take_append, hc, show (k + 1) * z - z = k * z by rw [Nat.add_mul]; omega, flat_take (fun d hd => hz d (by simp [hd])) k (by simpa using h)]
  rw [List.take_of_length_le (by rw [hc, Nat.add_mul]; omega)]
theorem flat_drop {z : Nat} : ∀ {css : List (List Value)}, (∀ c ∈ css, c.length = z) → ∀ k, k ≤ css.length → css.flatten.drop (k * z) = (css.drop k).flatten
 | _, _, 0, _ => by simp
 | [], _, k + 1, h => by simp at h
 | c :: l, hz, k + 1, h => by
  have hc := hz c (by simp)
  rw [List.flatten_cons, List.drop_succ_cons, List.drop_append, hc, show (k + 1) * z - z = k * z by rw [Nat.add_mul]; omega, flat_drop (fun d hd => hz d (by simp [hd])) k (by simpa using h)]
  rw [List.drop_of_length_le (by rw [hc, Nat.add_mul]; omega), List.nil_append]

def Stay (S : Nat → Prop) (w w' : World) : Prop := ∀ b, S b → b < w.heap.size → w'.heap[b]? = w.heap[b]?
theorem Stay.of_below {S : Nat → Prop} {w w' : World} (h : Below w.heap.size w w') : Stay S w w' := fun b _ hb => h.block b hb
theorem Stay.of_tn {F S : Nat → Prop} {w w' : World} (h : Tn F w w') (hF : ∀ b, S b → b < w.heap.size → ¬ F b) : Stay S w w' := fun b hS hb => h.block b hb (hF b hS hb)
theorem Stay.cell {S : Nat → Prop} {w w' : World} (h : Stay S w w') {a : Addr} {u : Value} (hS : S a.block) (hc : w.cell? a = some u) : w'.cell? a = some u := by
 rw [World.cell?_of_block (h _ hS (cell_lt hc))]; exact hc
theorem Stay.frozen {S : Nat → Prop} {w w' : World} (h : Stay S w w') {a : Addr} (hS : S a.block) (hl : a.block < w.heap.size) : w'.frozen? a = w.frozen? a :=
 World.frozen?_of_block (h _ hS hl)

section
variable {α : Type}
def SlOf (z : Nat) (S : Nat → Prop) (R : World → List Value → α → Prop) (w : World) (v : Value) (L : List α) : Prop :=
 ∃ a cap, v = .slice a L.length cap ∧ L.length ≤ cap ∧ cap ≤ maxLen ∧ (L = [] ∨ ∃ b o, a = some ⟨b, o, none⟩ ∧ S b ∧ ∃ css : List (List Value), All2 (R w) css L ∧ (∀ c ∈ css, c.length = z) ∧
  ∀ j u, css.flatten[j]? = some u → w.cell? ⟨b, o + j, none⟩ = some u ∧ w.frozen? ⟨b, o + j, none⟩ = false)
def OwnOf (T : TypeId) (z : Nat) (B : Nat) (R : World → List Value → α → Prop) (w : World) (v : Value) (L : List α) : Prop :=
 ∃ css : List (List Value), w.ownsRow B T z v L.length css.flatten ∧ All2 (R w) css L ∧ ∀ c ∈ css, c.length = z
variable {T : TypeId} {z : Nat} {S S' : Nat → Prop} {B : Nat} {R R' : World → List Value → α → Prop} {w w' : World} {v : Value} {L : List α}
theorem SlOf.keep (hz : 0 < z) (h : SlOf z S R w v L) (hs : Stay S w w') (hR : ∀ c x, R w c x → R' w' c x) (hS : ∀ b, S b → b < w.heap.size → S' b) : SlOf z S' R' w' v L := by
 obtain ⟨a, cap, rfl, hc1, hc2, rfl | ⟨b, o, rfl, hb, css, h1, h2, h3⟩⟩ := h
 ·exact ⟨a, cap, rfl, hc1, hc2, .inl rfl⟩
 ·refine ⟨_, cap, rfl, hc1, hc2, ?_⟩
  by_cases h0 : L = []
  ·exact .inl h0
  have hl : b < w.heap.size := by
   have hn : 0 < css.length := by rw [h1.length]; exact List.length_pos_iff.2 h0
   have hx : 0 < css.flatten.length := by rw [flat_len h2]; exact Nat.mul_pos hn hz
   exact cell_lt (h3 0 _ (List.getElem?_eq_getElem hx)).1
  exact .inr ⟨b, o, rfl, hS b hb hl, css, h1.mono hR, h2, fun j u hj => ⟨hs.cell (a := ⟨b, o + j, none⟩) hb (h3 j u hj).1, (hs.frozen (a := ⟨b, o + j, none⟩) hb hl).trans (h3 j u hj).2⟩⟩
theorem OwnOf.sl (h : OwnOf T z B R w v L) : SlOf z (fun b => v.ownBlock = some b) R w v L := by
 obtain ⟨css, hr, h1, h2⟩ := h
 obtain ⟨h0, ⟨rfl, hn⟩ | ⟨g, c', cur, rfl, hg, hh, hn, hm, hcs, hx⟩⟩ := hr
 ·exact ⟨none, 0, by rw [hn], by omega, by unfold maxLen; omega, .inl (List.eq_nil_of_length_eq_zero hn)⟩
 ·refine ⟨_, c', rfl, hn, hm, .inr ⟨g, 0, rfl, rfl, css, h1, h2, fun j u hj => ?_⟩⟩
  rw [Nat.zero_add]
  refine ⟨?_, by simp [World.frozen?, hh]⟩
  simp only [World.cell?, hh]
  have hjl : j < L.length * z := by have := (List.getElem?_eq_some_iff.1 hj).1; omega
  rw [← hx, List.getElem?_take_of_lt hjl] at hj
  simpa using hj
theorem OwnOf.slB (h : OwnOf T z B R w v L) (hz : 0 < z) : SlOf z (fun b => B ≤ b) R w v L := by
 have hl : ∀ r, v.ownBlock = some r → B ≤ r ∧ r < w.heap.size := by obtain ⟨css, hr, _⟩ := h; exact row_lt hr
 exact h.sl.keep hz (fun _ _ _ => rfl) (fun _ _ h => h) (fun b hb _ => (hl b hb).1)
theorem OwnOf.keep {F : Nat → Prop} (h : OwnOf T z B R w v L) (t : Tn F w w') (hn : ∀ r, v.ownBlock = some r → B ≤ r → r < w.heap.size → ¬ F r) (hR : ∀ c x, R w c x → R' w' c x) : OwnOf T z B R' w' v L := by
 obtain ⟨css, hr, h1, h2⟩ := h
 exact ⟨css, t.row hr (fun r e => hn r e (row_lt hr r e).1 (row_lt hr r e).2), h1.mono hR, h2⟩
theorem OwnOf.low {B' : Nat} (h : OwnOf T z B R w v L) (hB : B' ≤ B) : OwnOf T z B' R w v L := by
 obtain ⟨css, hr, h1, h2⟩ := h
 exact ⟨css, row_mono hr hB, h1, h2⟩
theorem OwnOf.lt (h : OwnOf T z B R w v L) : ∀ r, v.ownBlock = some r → B ≤ r ∧ r < w.heap.size := by obtain ⟨css, hr, _⟩ := h; exact row_lt hr
theorem OwnOf.nil (T : TypeId) (z B : Nat) (R : World → List Value → α → Prop) (w : World) : OwnOf T z B R w (.slice none 0 0) [] :=
 ⟨[], World.ownsRow_nil _ _ _ _, .nil, by simp⟩
theorem SlOf.at (h : SlOf z S R w v L) {j : Nat} (hj : j < L.length) : ∃ b o cap css, v = .slice (some ⟨b, o, none⟩) L.length cap ∧ S b ∧ R w css L[j] ∧ css.length = z ∧
  ∀ i u, css[i]? = some u → w.cell? ⟨b, o + (j * z + i), none⟩ = some u ∧ w.frozen? ⟨b, o + (j * z + i), none⟩ = false := by
 obtain ⟨a, cap, rfl, _, _, rfl | ⟨b, o, rfl, hb, css, h1, h2, h3⟩⟩ := h
 ·simp at hj
 ·have hl := h1.length
  refine ⟨b, o, cap, css[j], rfl, hb, h1.get j (by omega) hj, h2 _ (List.getElem_mem _), fun i u hu => h3 _ u ?_⟩
  have hi : i < z := by have := (List.getElem?_eq_some_iff.1 hu).1; rw [h2 _ (List.getElem_mem _)] at this; exact this
  rw [flat_get h2 j (by omega) i hi]; exact hu
end

section
variable {α : Type} {T : TypeId} {z : Nat} {S : Nat → Prop} {B : Nat} {R : World → List Value → α → Prop} {w w' : World} {v : Value} {L : List α}
theorem SlOf.src (h : SlOf z S R w v L) : ∃ css : List (List Value), Src w z L.length css.flatten v ∧ All2 (R w) css L ∧ (∀ c ∈ css, c.length = z) := by
 obtain ⟨a, cap, rfl, h1, h2, rfl | ⟨b, o, rfl, hb, css, h3, h4, h5⟩⟩ := h
 ·refine ⟨[], ?_, .nil, by simp⟩
  cases a with
  | none => exact .inl ⟨cap, rfl, rfl, rfl⟩
  | some ad => exact .inr ⟨ad, cap, rfl, by simp, fun j u hj => by simp at hj⟩
 ·refine ⟨css, .inr ⟨_, cap, rfl, ?_, fun j u hj => ?_⟩, h3, h4⟩
  ·rw [flat_len h4, h3.length]
  ·rw [add_off]; exact (h5 j u hj).1
theorem one_flat {c1 : List Value → α → Prop} (h1 : ∀ c x, c1 c x → ∀ u ∈ c, u.oneCell' = true) : ∀ {css : List (List Value)} {L : List α}, All2 c1 css L → ∀ u ∈ css.flatten, u.oneCell' = true
 | _, _, .nil, u, hu => by simp at hu
 | _, _, .cons g t, u, hu => by
  rw [List.flatten_cons, List.mem_append] at hu
  rcases hu with hu | hu
  ·exact h1 _ _ g u hu
  ·exact one_flat h1 t u hu
theorem SlOf.range (hz : 0 < z) (h : SlOf z S R w v L) {j : Nat} (hj : j < L.length) : ∃ b o cap css, v = .slice (some ⟨b, o, none⟩) L.length cap ∧ S b ∧ b < w.heap.size ∧ R w css L[j] ∧ css.length = z ∧
  w.rangeAt b (o + j * z) css ∧ w.there b (o + j * z) z := by
 obtain ⟨b, o, cap, css, e, hb, hR, hl, hc⟩ := h.at hj
 refine ⟨b, o, cap, css, e, hb, cell_lt (hc 0 _ (List.getElem?_eq_getElem (by omega))).1, hR, hl, fun i u hu => ?_, fun i hi => ?_⟩
 ·rw [Nat.add_assoc]; exact (hc i u hu).1
 ·have h1 := hc i _ (List.getElem?_eq_getElem (by omega))
  rw [Nat.add_assoc, h1.1, h1.2]; exact ⟨rfl, rfl⟩
theorem OwnOf.of_row {css : List (List Value)} (hr : w.ownsRow B T z v L.length css.flatten) (h1 : All2 (R w) css L) (h2 : ∀ c ∈ css, c.length = z) : OwnOf T z B R w v L := ⟨css, hr, h1, h2⟩
end

theorem take_set {α : Type} (l : List α) (n i : Nat) (a : α) (h : i < n) : (l.set i a).take n = (l.take n).set i a := by
 apply List.ext_getElem?
 intro j
 by_cases hj : j < n
 ·rw [List.getElem?_take_of_lt hj, List.getElem?_set, List.getElem?_set, List.getElem?_take_of_lt hj]
  by_cases e : i = j
  ·subst e
   simp only [if_true, List.length_take]
   by_cases h1 : i < l.length
   ·rw [if_pos h1, if_pos (by omega)]
   ·rw [if_neg h1, if_neg (by omega)]
  ·rw [if_neg e, if_neg e]
 ·rw [List.getElem?_eq_none (by simp; omega), List.getElem?_eq_none (by simp; omega)]
theorem row_set1 {w : World} {B : Nat} {T : TypeId} {z n : Nat} {v : Value} {xs : List Value} (h : w.ownsRow B T z v n xs) {g : Nat} (hg : v.ownBlock = some g) {o : Nat} (ho : o < n * z) (u : Value) :
  (w.setCell ⟨g, o, none⟩ u).ownsRow B T z v n (xs.set o u) := by
 obtain ⟨h0, ⟨rfl, hn⟩ | ⟨g', c', cur, rfl, hg', hh, hn, hm, hcs, hx⟩⟩ := h
 ·cases hg
 ·obtain rfl : g' = g := by injection hg
  refine ⟨by simpa using h0, .inr ⟨g', c', cur.setIfInBounds o u, rfl, hg', Blk.set hh o u, hn, hm, by simpa using hcs, ?_⟩⟩
  rw [Array.toList_setIfInBounds, take_set _ _ _ _ ho, hx]
def setsL (xs : List Value) : Nat → List Value → List Value
 | _, [] => xs
 | o, v :: r => setsL (xs.set o v) (o + 1) r
theorem setsL_len : ∀ (vs : List Value) (xs : List Value) (o : Nat), (setsL xs o vs).length = xs.length
 | [], _, _ => rfl
 | v :: r, xs, o => by rw [setsL, setsL_len r]; simp
theorem setsL_get : ∀ (vs : List Value) (xs : List Value) (o j : Nat), o + vs.length ≤ xs.length → (setsL xs o vs)[j]? = if o ≤ j ∧ j < o + vs.length then vs[j - o]? else xs[j]?
 | [], xs, o, j, _ => by rw [setsL, if_neg (fun h => by have h1 := h.1; have h2 := h.2; rw [List.length_nil] at h2; omega)]
 | v :: r, xs, o, j, h => by
  have h' : o + 1 + r.length ≤ xs.length := by simp at h; omega
  rw [setsL, setsL_get r (xs.set o v) (o + 1) j (by simpa using h')]
  by_cases h1 : o + 1 ≤ j ∧ j < o + 1 + r.length
  ·rw [if_pos h1, if_pos (by simp; omega), show j - o = (j - (o + 1)) + 1 by omega]; simp
  ·rw [if_neg h1, List.getElem?_set]
   by_cases e : o = j
   ·subst e
    rw [if_pos rfl, if_pos (by omega), if_pos (by simp)]; simp
   ·rw [if_neg e, if_neg (by simp; omega)]
theorem row_sets {B : Nat} {T : TypeId} {z n : Nat} {v : Value} {g : Nat} (hg : v.ownBlock = some g) : ∀ (vs : List Value) {w : World} {xs : List Value} (_ : w.ownsRow B T z v n xs) (o : Nat) (_ : o + vs.length ≤ n * z),
  (w.setCells g o vs).ownsRow B T z v n (setsL xs o vs)
 | [], _, _, h, _, _ => h
 | u :: r, w, xs, h, o, ho => by
  rw [World.setCells, setsL]
  exact row_sets hg r (row_set1 h hg (by simp at ho; omega) u) (o + 1) (by simp at ho; omega)
theorem flat_set {z : Nat} {css : List (List Value)} (hz : ∀ c ∈ css, c.length = z) (hp : 0 < z) {k : Nat} (hk : k < css.length) {c : List Value} (hc : c.length = z) : setsL css.flatten (k * z) c = (css.set k c).flatten := by
 have hz' : ∀ d ∈ css.set k c, d.length = z := fun d hd => by
  rcases List.mem_or_eq_of_mem_set hd with h | h
  ·exact hz d h
  ·rw [h]; exact hc
 have hkz : k * z + z ≤ css.length * z := by
  have := Nat.mul_le_mul_right z hk
  rw [Nat.succ_mul] at this; exact this
 apply List.ext_getElem?
 intro j
 rw [setsL_get _ _ _ _ (by rw [flat_len hz, hc]; exact hkz), hc]
 by_cases hj : j < css.length * z
 ·have hq : j / z < css.length := Nat.div_lt_of_lt_mul (by rw [Nat.mul_comm]; exact hj)
  have hi : j % z < z := Nat.mod_lt _ hp
  have e : j = j / z * z + j % z := by rw [Nat.mul_comm]; exact (Nat.div_add_mod j z).symm
  have r1 := flat_get hz (j / z) hq (j % z) hi
  have r2 := flat_get hz' (j / z) (by simpa using hq) (j % z) hi
  rw [← e] at r1 r2
  rw [r1, r2]
  by_cases h1 : j / z = k
  ·rw [if_pos (by rw [← h1]; omega)]
   rw [List.getElem_set, if_pos h1.symm]
   congr 1
   rw [← h1]; omega
  ·have h4 : ¬ (k * z ≤ j ∧ j < k * z + z) := by
    rintro ⟨h2, h3⟩
    apply h1
    have a1 : k ≤ j / z := (Nat.le_div_iff_mul_le hp).2 h2
    have a2 : j / z < k + 1 := (Nat.div_lt_iff_lt_mul hp).2 (by rw [Nat.add_mul, Nat.one_mul]; exact h3)
    omega
   rw [if_neg h4, List.getElem_set, if_neg (fun h => h1 h.symm)]
 ·rw [if_neg (by omega), List.getElem?_eq_none (by rw [flat_len hz]; omega), List.getElem?_eq_none (by rw [flat_len hz']; simp; omega)]
theorem All2.set {α β : Type} {R : α → β → Prop} {l : List α} {m : List β} (h : All2 R l m) {k : Nat} (hk : k < m.length) {a : α} (ha : R a m[k]) : All2 R (l.set k a) m := by
 refine All2.of_get (by simpa using h.length) fun j h1 h2 => ?_
 rw [List.getElem_set]
 split
 ·next e => subst e; exact ha
 ·exact h.get j (by simpa using h1) h2
end Go.Proofs.YtdojgbpaheadnaaGreat

/- The net: its parcels in memory; methods through the interface value. -/
namespace Go.Proofs.YtdojgbpaheadnaaGreat
open Go.RowKit Go.Shelf Go.Maps
attribute [local go_sem] over_cell over_frozen

structure Pc where
 m : Msg
 at_ : Int
 sent : Int
def encPc (p : Pc) : List Value := [i64 p.m.frm, i64 p.m.to, i64 p.m.num, strV p.m.text, i64 p.at_, i64 p.sent]
theorem wrapnil (p : Value) (a : Addr) (hp : p = .pointer (some a)) (x y : ByteArray) (W : World) : Sem.run Tryz.prog (Builtin.ssaWrapNilChk_ #[206] 206 #[p, .string x, .string y]) W = .ok p W := by subst hp; rfl
theorem meth_val {W : World} {nb f : Nat} {wv : Value} {name : String} (h : W.cell? ⟨nb, 2, none⟩ = some wv) (e : (Array.find? (fun x => x.name == name) Tryz.t206.methods).map (fun m => (m.path, m.func)) = some (#[], some (f, false))) :
  Sem.run Tryz.prog (method (Tryz.prog.types.size + 100) 206 (.pointer (some ⟨nb, 2, none⟩)) name) W = .ok (f, wv) W := by
 cases hm : Array.find? (fun x => x.name == name) Tryz.t206.methods with
 | none => rw [hm] at e; cases e
 | some m =>
  obtain ⟨mn, ms, mp, mf⟩ := m
  rw [hm] at e
  simp only [Option.map_some, Option.some.injEq, Prod.mk.injEq] at e
  obtain ⟨rfl, rfl⟩ := e
  unfold method
  go_simp
  simp only [follow]
  go_simp
  unfold receiverAt
  go_simp
  simp only [Place.get]
  go_simp
  simp only [strVal]
  rw [wrapnil _ _ rfl]
  go_simp
theorem meth_ptr {nb f : Nat} {name : String} (e : (Array.find? (fun x => x.name == name) Tryz.t206.methods).map (fun m => (m.path, m.func)) = some (#[], some (f, true))) (W : World) :
  Sem.run Tryz.prog (method (Tryz.prog.types.size + 100) 206 (.pointer (some ⟨nb, 2, none⟩)) name) W = .ok (f, .pointer (some ⟨nb, 2, none⟩)) W := by
 cases hm : Array.find? (fun x => x.name == name) Tryz.t206.methods with
 | none => rw [hm] at e; cases e
 | some m =>
  obtain ⟨mn, ms, mp, mf⟩ := m
  rw [hm] at e
  simp only [Option.map_some, Option.some.injEq, Prod.mk.injEq] at e
  obtain ⟨rfl, rfl⟩ := e
  unfold method
  go_simp
  simp only [follow]
  go_simp
  unfold receiverAt
  go_simp
  simp only [Place.get]
  go_simp
section
variable {W : World} {nb : Nat} {wv : Value}
theorem mLen (h : W.cell? ⟨nb, 2, none⟩ = some wv) : Sem.run Tryz.prog (method (Tryz.prog.types.size + 100) 206 (.pointer (some ⟨nb, 2, none⟩)) "Len") W = .ok (174, wv) W := meth_val h (by kernel_rfl)
theorem mLess (h : W.cell? ⟨nb, 2, none⟩ = some wv) : Sem.run Tryz.prog (method (Tryz.prog.types.size + 100) 206 (.pointer (some ⟨nb, 2, none⟩)) "Less") W = .ok (175, wv) W := meth_val h (by kernel_rfl)
theorem mSwap (h : W.cell? ⟨nb, 2, none⟩ = some wv) : Sem.run Tryz.prog (method (Tryz.prog.types.size + 100) 206 (.pointer (some ⟨nb, 2, none⟩)) "Swap") W = .ok (176, wv) W := meth_val h (by kernel_rfl)
end
theorem mPush (nb : Nat) (W : World) : Sem.run Tryz.prog (method (Tryz.prog.types.size + 100) 206 (.pointer (some ⟨nb, 2, none⟩)) "Push") W = .ok (178, .pointer (some ⟨nb, 2, none⟩)) W := meth_ptr (by kernel_rfl) W
theorem mPop (nb : Nat) (W : World) : Sem.run Tryz.prog (method (Tryz.prog.types.size + 100) 206 (.pointer (some ⟨nb, 2, none⟩)) "Pop") W = .ok (177, .pointer (some ⟨nb, 2, none⟩)) W := meth_ptr (by kernel_rfl) W
end Go.Proofs.YtdojgbpaheadnaaGreat

/- The parcels of a net: a row, its members in two places exchanged; the methods. -/
namespace Go.Proofs.YtdojgbpaheadnaaGreat
open Go.RowKit Go.Shelf Go.Maps
attribute [local go_sem] over_cell over_frozen

theorem encPc_len (p : Pc) : (encPc p).length = 6 := rfl
theorem encPc_one (p : Pc) : ∀ u ∈ encPc p, u.oneCell' = true := by
 intro u hu; simp [encPc, strV] at hu; rcases hu with rfl | rfl | rfl | rfl | rfl | rfl <;> rfl
def flatQ (L : List Pc) : List Value := (L.map encPc).flatten
theorem flatQ_len (L : List Pc) : (flatQ L).length = L.length * 6 := by
 unfold flatQ
 rw [flat_len (z := 6) (fun c hc => by obtain ⟨p, -, rfl⟩ := List.mem_map.1 hc; rfl), List.length_map]
theorem flatQ_app (L M : List Pc) : flatQ (L ++ M) = flatQ L ++ flatQ M := by unfold flatQ; rw [List.map_append, List.flatten_append]
theorem flatQ_get {L : List Pc} {k : Nat} (hk : k < L.length) {i : Nat} (hi : i < 6) : (flatQ L)[k * 6 + i]? = (encPc L[k])[i]? := by
 unfold flatQ
 rw [flat_get (z := 6) (fun c hc => by obtain ⟨p, -, rfl⟩ := List.mem_map.1 hc; rfl) k (by simpa using hk) i hi]
 simp
theorem flatQ_take (L : List Pc) (k : Nat) (hk : k ≤ L.length) : (flatQ L).take (k * 6) = flatQ (L.take k) := by
 unfold flatQ
 rw [flat_take (z := 6) (fun c hc => by obtain ⟨p, -, rfl⟩ := List.mem_map.1 hc; rfl) k (by simpa using hk), List.map_take]
theorem flatQ_set {L : List Pc} {k : Nat} (hk : k < L.length) (p : Pc) : setsL (flatQ L) (k * 6) (encPc p) = flatQ (L.set k p) := by
 unfold flatQ
 rw [flat_set (z := 6) (fun c hc => by obtain ⟨p, -, rfl⟩ := List.mem_map.1 hc; rfl) (by omega) (by simpa using hk) rfl, List.map_set]
abbrev PRow (B : Nat) (w : World) (v : Value) (L : List Pc) : Prop := w.ownsRow B 182 6 v L.length (flatQ L)
theorem range6 {w : World} {b o : Nat} {u0 u1 u2 u3 u4 u5 : Value} (h : w.rangeAt b o [u0, u1, u2, u3, u4, u5]) : w.cell? ⟨b, o, none⟩ = some u0 ∧ w.cell? ⟨b, o + 1, none⟩ = some u1 ∧ w.cell? ⟨b, o + 2, none⟩ = some u2 ∧ w.cell? ⟨b, o + 3, none⟩ = some u3 ∧ w.cell? ⟨b, o + 4, none⟩ = some u4 ∧ w.cell? ⟨b, o + 5, none⟩ = some u5 := ⟨h 0 _ rfl, h 1 _ rfl, h 2 _ rfl, h 3 _ rfl, h 4 _ rfl, h 5 _ rfl⟩
section
variable {B : Nat} {w : World} {v : Value} {L : List Pc}
theorem PRow.head (h : PRow B w v L) (hn : 0 < L.length) : ∃ g c, v = .slice (some ⟨g, 0, none⟩) L.length c ∧ L.length ≤ c ∧ c ≤ maxLen ∧ B ≤ g ∧ g < w.heap.size := by
 obtain ⟨a, c, e, hc, hm, _, ⟨h0, _⟩ | ⟨g, rfl, _, hb, hg, _⟩⟩ := row_cellz h
 ·omega
 ·exact ⟨g, c, e, hc, hm, hb, hg⟩
theorem PRow.expl (h : PRow B w v L) : ∃ a c, v = .slice a L.length c := by
 obtain ⟨a, c, e, _⟩ := row_cellz h; exact ⟨a, c, e⟩
theorem PRow.at_ {g n c : Nat} (h : PRow B w (.slice (some ⟨g, 0, none⟩) n c) L) {k : Nat} (hk : k < L.length) : w.rangeAt g (k * 6) (encPc L[k]) ∧ w.there g (k * 6) 6 := by
 obtain ⟨a, c', e, _, _, _, ⟨h0, _, _⟩ | ⟨g', rfl, _, _, _, hx⟩⟩ := row_cellz h
 ·omega
 ·injection e with e en _
  injection e with e
  have e1 : g = g' := by injection e
  subst e1 en
  have key : ∀ i u, (encPc L[k])[i]? = some u → w.cell? ⟨g, k * 6 + i, none⟩ = some u := fun i u hu => by
   have hi : i < 6 := (List.getElem?_eq_some_iff.1 hu).1
   exact hx _ u (by rw [flatQ_get hk hi]; exact hu)
  refine ⟨key, fun i hi => ⟨?_, World.ownsRow.frozenAt h _⟩⟩
  rw [key i _ (List.getElem?_eq_getElem (show i < (encPc L[k]).length from hi))]; rfl
theorem PRow.put {g n c : Nat} (h : PRow B w (.slice (some ⟨g, 0, none⟩) n c) L) {k : Nat} (hk : k < L.length) (p : Pc) : PRow B (w.setCells g (k * 6) (encPc p)) (.slice (some ⟨g, 0, none⟩) n c) (L.set k p) := by
 have h1 := row_sets (g := g) rfl (encPc p) h (k * 6) (by rw [encPc_len]; omega)
 rw [flatQ_set hk] at h1
 unfold PRow
 rw [List.length_set]; exact h1
theorem PRow.swap {g n c : Nat} (h : PRow B w (.slice (some ⟨g, 0, none⟩) n c) L) {j k : Nat} (hj : j < L.length) (hk : k < L.length) :
  PRow B ((w.setCells g (j * 6) (encPc L[k])).setCells g (k * 6) (encPc L[j])).drew (.slice (some ⟨g, 0, none⟩) n c) ((L.set j L[k]).set k L[j]) ∧ Tn (fun b => b = g) w ((w.setCells g (j * 6) (encPc L[k])).setCells g (k * 6) (encPc L[j])).drew := by
 have h1 := (h.put hj L[k]).put (k := k) (by rw [List.length_set]; exact hk) L[j]
 exact ⟨(Tn.refl (fun _ => False) _).drew.row h1 (fun _ _ h => h), ((tn_setCells (encPc L[k]) (j * 6) w).trans (tn_setCells (encPc L[j]) (k * 6) _)).drew⟩
theorem swap_perm {L : List Pc} {j k : Nat} (hj : j < L.length) (hk : k < L.length) : ((L.set j L[k]).set k L[j]).Perm L := List.set_set_perm hj hk
theorem PRow.cut {g n c : Nat} (h : PRow B w (.slice (some ⟨g, 0, none⟩) n c) L) {k : Nat} (hk : k ≤ L.length) : PRow B w (.slice (some ⟨g, 0, none⟩) k c) (L.take k) := by
 obtain ⟨h0, ⟨e, hn⟩ | ⟨g', c', cur, e, hg, hh, hn, hm, hcs, hx⟩⟩ := h
 ·cases e
 ·injection e with e1 e2 e3
  injection e1 with e1
  have e4 : g = g' := by injection e1
  subst e3 e4
  have hl : (L.take k).length = k := by rw [List.length_take]; omega
  refine ⟨by rw [flatQ_len], .inr ⟨g, c, cur, by rw [hl], hg, hh, by rw [hl]; omega, hm, hcs, ?_⟩⟩
  rw [hl, ← flatQ_take L k hk, ← hx, List.take_take, Nat.min_eq_left (Nat.mul_le_mul_right 6 hk)]
end
set_option maxRecDepth 100000 in
theorem len_any (a : Option Addr) (n c : Nat) (w : World) : Calls Tryz.prog 174 #[.slice a n c] w fun e w' => e = .returned (.int .i64 n) ∧ w' = w := by
 go_enter Tryz.func174, Tryz.ntmps174
 go_wp2_with fail
 go_ret
 exact ⟨rfl, rfl⟩
set_option maxRecDepth 100000 in
set_option maxHeartbeats 2000000 in
theorem less_any {B : Nat} {w : World} {v : Value} {L : List Pc} (h : PRow B w v L) {i j : Nat} (hi : i < L.length) (hj : j < L.length) :
  Calls Tryz.prog 175 #[v, .int .i64 i, .int .i64 j] w fun e w' => ∃ b n, e = .returned (.bool b) ∧ w' = w.drewN n := by
 obtain ⟨g, c, rfl, hc, hm, -⟩ := h.head (by omega)
 obtain ⟨gi, ti⟩ := h.at_ hi
 obtain ⟨gj, tj⟩ := h.at_ hj
 obtain ⟨p, hp⟩ : ∃ p, p = L[i] := ⟨_, rfl⟩
 obtain ⟨q, hq⟩ : ∃ q, q = L[j] := ⟨_, rfl⟩
 rw [← hp] at gi
 rw [← hq] at gj
 obtain ⟨n, hn⟩ : ∃ n, n = L.length := ⟨_, rfl⟩
 rw [← hn] at hi hj hc ⊢
 clear hp hq hn h ti tj
 obtain ⟨-, -, -, -, p4, p5⟩ := range6 gi
 obtain ⟨-, -, -, -, q4, q5⟩ := range6 gj
 by_cases he : p.at_ = q.at_
 ·have hb : (p.at_ == q.at_) = true := by simpa using he
  go_enter Tryz.func175, Tryz.ntmps175
  go_wp2_with fail
  go_quiet (fail)
  go_wp2_with fail
  go_quiet (fail)
  go_wp2_with fail
  go_ret
  exact ⟨_, _, rfl, by first | rfl | exact (World.drewN_drewN ..)⟩
 ·have hb : (p.at_ == q.at_) = false := by simpa using he
  go_enter Tryz.func175, Tryz.ntmps175
  go_wp2_with fail
  go_quiet (fail)
  go_wp2_with fail
  go_quiet (fail)
  go_wp2_with fail
  go_ret
  exact ⟨_, _, rfl, by first | rfl | exact (World.drewN_drewN ..)⟩
set_option maxRecDepth 100000 in
set_option maxHeartbeats 2000000 in
theorem pswap_any {B : Nat} {w : World} {v : Value} {L : List Pc} (h : PRow B w v L) {i j : Nat} (hi : i < L.length) (hj : j < L.length) :
  Calls Tryz.prog 176 #[v, .int .i64 i, .int .i64 j] w fun e w' => e = .returned (.tuple #[]) ∧ PRow B w' v ((L.set i L[j]).set j L[i]) ∧ Tn (fun b => v.ownBlock = some b) w w' := by
 obtain ⟨g, c, rfl, hc, hm, -⟩ := h.head (by omega)
 obtain ⟨gi, ti⟩ := h.at_ hi
 obtain ⟨gj, tj⟩ := h.at_ hj
 have HW := Lib.hid (h.swap hi hj)
 obtain ⟨p, hp⟩ : ∃ p, p = L[i] := ⟨_, rfl⟩
 obtain ⟨q, hq⟩ : ∃ q, q = L[j] := ⟨_, rfl⟩
 rw [← hp] at gi HW ⊢
 rw [← hq] at gj HW ⊢
 have HP := Lib.hid hp
 have HQ := Lib.hid hq
 obtain ⟨n, hn⟩ : ∃ n, n = L.length := ⟨_, rfl⟩
 rw [← hn] at hi hj hc HW ⊢
 clear hp hq h
 obtain ⟨p0, p1, p2, p3, p4, p5⟩ := range6 gi
 obtain ⟨q0, q1, q2, q3, q4, q5⟩ := range6 gj
 have i0 : w.frozen? ⟨g, i * 6, none⟩ = false := (ti 0 (by omega)).2
 have i1 : w.frozen? ⟨g, i * 6 + 1, none⟩ = false := (ti 1 (by omega)).2
 have i2 : w.frozen? ⟨g, i * 6 + 2, none⟩ = false := (ti 2 (by omega)).2
 have i3 : w.frozen? ⟨g, i * 6 + 3, none⟩ = false := (ti 3 (by omega)).2
 have i4 : w.frozen? ⟨g, i * 6 + 4, none⟩ = false := (ti 4 (by omega)).2
 have i5 : w.frozen? ⟨g, i * 6 + 5, none⟩ = false := (ti 5 (by omega)).2
 have j0 : w.frozen? ⟨g, j * 6, none⟩ = false := (tj 0 (by omega)).2
 have j1 : w.frozen? ⟨g, j * 6 + 1, none⟩ = false := (tj 1 (by omega)).2
 have j2 : w.frozen? ⟨g, j * 6 + 2, none⟩ = false := (tj 2 (by omega)).2
 have j3 : w.frozen? ⟨g, j * 6 + 3, none⟩ = false := (tj 3 (by omega)).2
 have j4 : w.frozen? ⟨g, j * 6 + 4, none⟩ = false := (tj 4 (by omega)).2
 have j5 : w.frozen? ⟨g, j * 6 + 5, none⟩ = false := (tj 5 (by omega)).2
 clear ti tj gi gj hn
 by_cases he : i = j
 ·subst he
  obtain rfl : q = p := HQ.out.trans HP.out.symm
  go_enter Tryz.func176, Tryz.ntmps176
  go_wp2_with fail
  go_region
  all_goals go_wp2_with fail
  refine bodyPost_end (results_none rfl _ _ _) rfl ?_
  exact ⟨rfl, HW.out.1, HW.out.2.mono fun b e => by rw [show b = g from e]; rfl⟩
 ·go_enter Tryz.func176, Tryz.ntmps176
  go_wp2_with fail
  go_region
  all_goals go_wp2_with fail
  refine bodyPost_end (results_none rfl _ _ _) rfl ?_
  exact ⟨rfl, HW.out.1, HW.out.2.mono fun b e => by rw [show b = g from e]; rfl⟩
end Go.Proofs.YtdojgbpaheadnaaGreat

/- The net's heap: parcels are moved, none is lost. -/
namespace Go.Proofs.YtdojgbpaheadnaaGreat
open Go.RowKit Go.Shelf Go.Maps
attribute [local go_sem] over_cell over_frozen

theorem row_not {W : World} {t e : TypeId} {g : Nat} {cs : Array Value} {base size k : Nat} {v : Value} {xs : List Value} (h : Blk W g cs t) (hte : t ≠ e) (hr : W.ownsRow base e size v k xs) : some g ≠ v.ownBlock := by
 rcases hr.2 with ⟨rfl, _⟩ | ⟨b, cap, cur, rfl, _, hgb, _⟩
 ·simp [Value.ownBlock]
 ·intro e'
  obtain rfl : g = b := by simpa [Value.ownBlock] using e'
  have h' : W.heap[g]? = _ := h
  rw [h'] at hgb
  simp at hgb
  exact hte hgb.2
structure NMem (w : World) (B nb : Nat) (nd : Int) (sc : Value) (L : List Pc) (sent : Int) (wv : Value) : Prop where
 lo : B ≤ nb
 blk : Blk w nb #[i64 nd, sc, wv, i64 sent] 175
 row : PRow B w wv L
def OwnN (nb : Nat) (wv : Value) (k : Nat) : Prop := k = nb ∨ wv.ownBlock = some k
section
variable {w w' : World} {B nb : Nat} {nd : Int} {sc : Value} {L : List Pc} {sent : Int} {wv : Value}
theorem NMem.ne (h : NMem w B nb nd sc L sent wv) : wv.ownBlock ≠ some nb := fun e => row_not h.blk (by decide) h.row e.symm
theorem NMem.c2 (h : NMem w B nb nd sc L sent wv) : w.cell? ⟨nb, 2, none⟩ = some wv := h.blk.cell 2
theorem NMem.keep {F : Nat → Prop} (h : NMem w B nb nd sc L sent wv) (t : Tn F w w') (hF : ∀ k, F k → OwnN nb wv k → False) : NMem w' B nb nd sc L sent wv :=
 ⟨h.lo, t.blk h.blk (fun e => hF nb e (.inl rfl)), t.row h.row (fun r e hr => hF r hr (.inr e))⟩
theorem NMem.below (h : NMem w B nb nd sc L sent wv) (hb : Below w.heap.size w w') : NMem w' B nb nd sc L sent wv := h.keep (Tn.of_below (F := fun _ => False) hb) fun _ h => h.elim
theorem NMem.row' {L' : List Pc} (h : NMem w B nb nd sc L sent wv) (t : Tn (fun b => wv.ownBlock = some b) w w') (hr : PRow B w' wv L') : NMem w' B nb nd sc L' sent wv := ⟨h.lo, t.blk h.blk (fun e => h.ne e), hr⟩
theorem NMem.own_lt (h : NMem w B nb nd sc L sent wv) {k : Nat} (hk : OwnN nb wv k) : B ≤ k ∧ k < w.heap.size := by
 rcases hk with rfl | e
 ·exact ⟨h.lo, h.blk.lt⟩
 ·exact row_lt h.row k e
end
set_option maxRecDepth 100000 in
set_option maxHeartbeats 2000000 in
theorem up_any {w : World} {B nb : Nat} {nd : Int} {sc : Value} {L : List Pc} {sent : Int} {wv : Value} (h : NMem w B nb nd sc L sent wv) {j : Nat} (hj : j < L.length) (hl : L.length ≤ 1000000) :
  Calls Tryz.prog 131 #[.iface 206 (.pointer (some ⟨nb, 2, none⟩)), .int .i64 j] w fun e w' => e = .returned (.tuple #[]) ∧ ∃ L', L'.Perm L ∧ NMem w' B nb nd sc L' sent wv ∧ Tn (fun b => wv.ownBlock = some b) w w' := by
 have HM := Lib.hid h
 obtain ⟨n, hn⟩ : ∃ n, n = L.length := ⟨_, rfl⟩
 rw [← hn] at hj hl
 have NN := Lib.hid hn
 clear h hn
 have eL := enters_of Tryz.func175 (by kernel_rfl) rfl
 have eS := enters_of Tryz.func176 (by kernel_rfl) rfl
 go_enter Tryz.func131, Tryz.ntmps131
 go_wp2_with fail
 go_loopw [1] (fun v wr => ∃ (j : Nat) (L' : List Pc), v = .int .i64 j ∧ j < n ∧ L'.Perm L ∧ NMem wr B nb nd sc L' sent wv ∧ Tn (fun b => wv.ownBlock = some b) w wr) (fun v _ => (intOf v).toNat)
 case atStart => exact ⟨j, L, rfl, hj, .refl _, HM.out, Tn.refl _ _⟩
 case round =>
  obtain ⟨j, L', rfl, hj, hp, hm, ht⟩ := hrel
  have HP := Lib.hid hp
  have HR := Lib.hid hm
  have HT := Lib.hid ht
  have NL : Hid (L'.length = n) := Lib.hid (by rw [hp.length_eq, NN.out])
  have mL : Sem.run Tryz.prog (method 378 206 (.pointer (some ⟨nb, 2, none⟩)) "Less") wr = .ok (175, wv) wr := mLess hm.c2
  have mS : ∀ q, Sem.run Tryz.prog (method 378 206 (.pointer (some ⟨nb, 2, none⟩)) "Swap") (wr.drewN q) = .ok (176, wv) (wr.drewN q) := fun q => mSwap (by rw [World.cell?_drewN]; exact hm.c2)
  clear hp hm ht
  by_cases h0 : j = 0
  ·subst h0
   go_wp2_with fail
   refine bodyPost_end (results_none rfl _ _ _) rfl ?_
   exact ⟨rfl, L', HP.out, HR.out, HT.out⟩
  ·obtain ⟨i, hi⟩ : ∃ i : Nat, i = (j - 1) / 2 := ⟨_, rfl⟩
   have hij : i < j := by omega
   have hin : i < n := by omega
   have hq : ((j : Int) - 1) / 2 = (i : Int) := by omega
   have hne : ((i : Int) == (j : Int)) = false := by rw [beq_eq_false_iff_ne]; omega
   clear hi
   have hL := Lib.hid (less_any HR.out.row (i := j) (j := i) (by rw [NL.out]; exact hj) (by rw [NL.out]; exact hin))
   go_wp2_with fail
   refine hL.out.mono ?_
   rintro e w' ⟨b, q, rfl, rfl⟩
   have HS := Lib.hid (pswap_any (w := wr.drewN q) (v := wv) (L := L') ((Tn.refl (fun _ => False) wr).drewN q |>.row HR.out.row (fun _ _ h => h)) (i := i) (j := j) (by rw [NL.out]; exact hin) (by rw [NL.out]; exact hj))
   cases b with
   | false =>
    go_wp2_with fail
    refine bodyPost_end (results_none rfl _ _ _) rfl ?_
    exact ⟨rfl, L', HP.out, HR.out.row' ((Tn.refl _ wr).drewN q) ((Tn.refl (fun _ => False) wr).drewN q |>.row HR.out.row (fun _ _ h => h)), HT.out.drewN q⟩
   | true =>
    go_wp2_with fail
    refine HS.out.mono ?_
    rintro e w2 ⟨rfl, hr, ht⟩
    have HR2 := Lib.hid hr
    have HT2 := Lib.hid ht
    clear hr ht
    go_wp2_with fail
    refine ⟨⟨i, _, rfl, hin, ?_, HR.out.row' (((Tn.refl _ wr).drewN q).trans HT2.out) HR2.out, (HT.out.drewN q).trans HT2.out⟩, by simp [intOf]; omega⟩
    exact (swap_perm (by rw [NL.out]; exact hin) (by rw [NL.out]; exact hj)).trans HP.out
end Go.Proofs.YtdojgbpaheadnaaGreat

/- heap.down, and what the net's parcels do. -/
namespace Go.Proofs.YtdojgbpaheadnaaGreat
open Go.RowKit Go.Shelf Go.Maps
attribute [local go_sem] over_cell over_frozen
set_option maxRecDepth 100000 in
set_option maxHeartbeats 2000000 in
theorem down_any {w : World} {B nb : Nat} {nd : Int} {sc : Value} {L : List Pc} {sent : Int} {wv : Value} (h : NMem w B nb nd sc L sent wv) {n : Nat} (hn : n ≤ L.length) (hl : L.length ≤ 1000000) :
  Calls Tryz.prog 104 #[.iface 206 (.pointer (some ⟨nb, 2, none⟩)), .int .i64 0, .int .i64 n] w fun e w' => (∃ v, e = .returned v) ∧ ∃ L', L'.Perm L ∧ NMem w' B nb nd sc L' sent wv ∧ Tn (fun b => wv.ownBlock = some b) w w' := by
 have HM := Lib.hid h
 have hn6 : n ≤ 1000000 := by omega
 have NN := Lib.hid hn
 clear h hn hl
 have eL := enters_of Tryz.func175 (by kernel_rfl) rfl
 have eS := enters_of Tryz.func176 (by kernel_rfl) rfl
 go_enter Tryz.func104, Tryz.ntmps104
 go_wp2_with fail
 go_loopw [7] (fun v wr => ∃ (i : Nat) (L' : List Pc), v = .int .i64 i ∧ i ≤ n ∧ L'.Perm L ∧ NMem wr B nb nd sc L' sent wv ∧ Tn (fun b => wv.ownBlock = some b) w wr) (fun v _ => n - (intOf v).toNat)
 case atStart => exact ⟨0, L, rfl, by omega, .refl _, HM.out, Tn.refl _ _⟩
 case round =>
  obtain ⟨i, L', rfl, hi, hp, hm, ht⟩ := hrel
  have HP := Lib.hid hp
  have HR := Lib.hid hm
  have HT := Lib.hid ht
  have NL : Hid (L'.length = L.length) := Lib.hid hp.length_eq
  have hNN : n ≤ L.length := NN.out
  have mL : Sem.run Tryz.prog (method 378 206 (.pointer (some ⟨nb, 2, none⟩)) "Less") wr = .ok (175, wv) wr := mLess hm.c2
  have mL2 : ∀ q, Sem.run Tryz.prog (method 378 206 (.pointer (some ⟨nb, 2, none⟩)) "Less") (wr.drewN q) = .ok (175, wv) (wr.drewN q) := fun q => mLess (by rw [World.cell?_drewN]; exact hm.c2)
  have hc2 := Lib.hid hm.c2
  clear hp hm ht
  by_cases h0 : n ≤ 2 * i + 1
  ·have hd : decide (2 * (i : Int) + 1 ≥ (n : Int)) = true := by simp; omega
   go_wp2_with fail
   go_ret
   exact ⟨⟨_, rfl⟩, L', HP.out, HR.out, HT.out⟩
  ·have hd : decide (2 * (i : Int) + 1 ≥ (n : Int)) = false := by simp; omega
   have hd0 : decide (2 * (i : Int) + 1 < 0) = false := by simp; omega
   by_cases h1 : 2 * i + 2 < n
   ·have hd1 : decide (2 * (i : Int) + 1 + 1 < (n : Int)) = true := by simp; omega
    have hL := Lib.hid (less_any HR.out.row (i := 2 * i + 2) (j := 2 * i + 1) (by rw [NL.out]; omega) (by rw [NL.out]; omega))
    rw [show ((2 * i + 2 : Nat) : Int) = 2 * (i : Int) + 1 + 1 by omega, show ((2 * i + 1 : Nat) : Int) = 2 * (i : Int) + 1 by omega] at hL
    go_wp2_with fail
    refine hL.out.mono ?_
    rintro e w' ⟨b1, q1, rfl, rfl⟩
    obtain ⟨W, hW⟩ : ∃ W, W = wr.drewN q1 := ⟨_, rfl⟩
    have TW : Hid (Tn (fun _ => False) wr W ∧ W.cell? ⟨nb, 2, none⟩ = some wv) := Lib.hid (by rw [hW]; exact ⟨(Tn.refl _ wr).drewN q1, hc2.out⟩)
    have mL3 : Sem.run Tryz.prog (method 378 206 (.pointer (some ⟨nb, 2, none⟩)) "Less") W = .ok (175, wv) W := mLess TW.out.2
    rw [← hW]
    clear hW mL mL2 hL
    cases b1 with
    | true =>
     have hjn : (2 * i + 2) < n := by omega
     have hcj : (((2 * i + 2) : Nat) : Int) = (2 * (i : Int) + 1 + 1) := by omega
     have hL2 := Lib.hid (less_any (w := W) (v := wv) (L := L') (TW.out.1.row HR.out.row (fun _ _ h => h)) (i := (2 * i + 2)) (j := i) (by rw [NL.out]; omega) (by rw [NL.out]; omega))
     rw [hcj] at hL2
     go_wp2_with fail
     refine hL2.out.mono ?_
     rintro e w' ⟨b2, q2, rfl, rfl⟩
     have TX : Hid (Tn (fun _ => False) wr (W.drewN q2)) := Lib.hid (TW.out.1.drewN q2)
     have mS : Sem.run Tryz.prog (method 378 206 (.pointer (some ⟨nb, 2, none⟩)) "Swap") (W.drewN q2) = .ok (176, wv) (W.drewN q2) := mSwap (by rw [World.cell?_drewN]; exact TW.out.2)
     have HS := Lib.hid (pswap_any (w := W.drewN q2) (v := wv) (L := L') (TX.out.row HR.out.row (fun _ _ h => h)) (i := i) (j := (2 * i + 2)) (by rw [NL.out]; omega) (by rw [NL.out]; omega))
     rw [hcj] at HS
     clear hcj
     cases b2 with
     | false =>
      go_wp2_with fail
      go_ret
      exact ⟨⟨_, rfl⟩, L', HP.out, HR.out.row' (TX.out.mono fun _ h => h.elim) (TX.out.row HR.out.row (fun _ _ h => h)), HT.out.trans (TX.out.mono fun _ h => h.elim)⟩
     | true =>
      go_wp2_with fail
      refine HS.out.mono ?_
      rintro e w2 ⟨rfl, hr, ht⟩
      have HR2 := Lib.hid hr
      have HT2 : Hid (Tn (fun b => wv.ownBlock = some b) wr w2) := Lib.hid ((TX.out.mono fun _ h => h.elim).trans ht)
      clear hr ht
      go_wp2_with fail
      refine ⟨⟨(2 * i + 2), _, by go_num, by omega, ?_, HR.out.row' HT2.out HR2.out, HT.out.trans HT2.out⟩, by simp [intOf]; omega⟩
      exact (swap_perm (by rw [NL.out]; omega) (by rw [NL.out]; omega)).trans HP.out
    | false =>
     have hjn : (2 * i + 1) < n := by omega
     have hcj : (((2 * i + 1) : Nat) : Int) = (2 * (i : Int) + 1) := by omega
     have hL2 := Lib.hid (less_any (w := W) (v := wv) (L := L') (TW.out.1.row HR.out.row (fun _ _ h => h)) (i := (2 * i + 1)) (j := i) (by rw [NL.out]; omega) (by rw [NL.out]; omega))
     rw [hcj] at hL2
     go_wp2_with fail
     refine hL2.out.mono ?_
     rintro e w' ⟨b2, q2, rfl, rfl⟩
     have TX : Hid (Tn (fun _ => False) wr (W.drewN q2)) := Lib.hid (TW.out.1.drewN q2)
     have mS : Sem.run Tryz.prog (method 378 206 (.pointer (some ⟨nb, 2, none⟩)) "Swap") (W.drewN q2) = .ok (176, wv) (W.drewN q2) := mSwap (by rw [World.cell?_drewN]; exact TW.out.2)
     have HS := Lib.hid (pswap_any (w := W.drewN q2) (v := wv) (L := L') (TX.out.row HR.out.row (fun _ _ h => h)) (i := i) (j := (2 * i + 1)) (by rw [NL.out]; omega) (by rw [NL.out]; omega))
     rw [hcj] at HS
     clear hcj
     cases b2 with
     | false =>
      go_wp2_with fail
      go_ret
      exact ⟨⟨_, rfl⟩, L', HP.out, HR.out.row' (TX.out.mono fun _ h => h.elim) (TX.out.row HR.out.row (fun _ _ h => h)), HT.out.trans (TX.out.mono fun _ h => h.elim)⟩
     | true =>
      go_wp2_with fail
      refine HS.out.mono ?_
      rintro e w2 ⟨rfl, hr, ht⟩
      have HR2 := Lib.hid hr
      have HT2 : Hid (Tn (fun b => wv.ownBlock = some b) wr w2) := Lib.hid ((TX.out.mono fun _ h => h.elim).trans ht)
      clear hr ht
      go_wp2_with fail
      refine ⟨⟨(2 * i + 1), _, by go_num, by omega, ?_, HR.out.row' HT2.out HR2.out, HT.out.trans HT2.out⟩, by simp [intOf]; omega⟩
      exact (swap_perm (by rw [NL.out]; omega) (by rw [NL.out]; omega)).trans HP.out
   ·have hd1 : decide (2 * (i : Int) + 1 + 1 < (n : Int)) = false := by simp; omega
    obtain ⟨W, hW⟩ : ∃ W, W = wr := ⟨_, rfl⟩
    have TW : Hid (Tn (fun _ => False) wr W ∧ W.cell? ⟨nb, 2, none⟩ = some wv) := Lib.hid (by rw [hW]; exact ⟨Tn.refl _ _, hc2.out⟩)
    have mL3 : Sem.run Tryz.prog (method 378 206 (.pointer (some ⟨nb, 2, none⟩)) "Less") W = .ok (175, wv) W := mLess TW.out.2
    rw [← hW]
    clear mL mL2 hW
    have hjn : (2 * i + 1) < n := by omega
    have hcj : (((2 * i + 1) : Nat) : Int) = (2 * (i : Int) + 1) := by omega
    have hL2 := Lib.hid (less_any (w := W) (v := wv) (L := L') (TW.out.1.row HR.out.row (fun _ _ h => h)) (i := (2 * i + 1)) (j := i) (by rw [NL.out]; omega) (by rw [NL.out]; omega))
    rw [hcj] at hL2
    go_wp2_with fail
    refine hL2.out.mono ?_
    rintro e w' ⟨b2, q2, rfl, rfl⟩
    have TX : Hid (Tn (fun _ => False) wr (W.drewN q2)) := Lib.hid (TW.out.1.drewN q2)
    have mS : Sem.run Tryz.prog (method 378 206 (.pointer (some ⟨nb, 2, none⟩)) "Swap") (W.drewN q2) = .ok (176, wv) (W.drewN q2) := mSwap (by rw [World.cell?_drewN]; exact TW.out.2)
    have HS := Lib.hid (pswap_any (w := W.drewN q2) (v := wv) (L := L') (TX.out.row HR.out.row (fun _ _ h => h)) (i := i) (j := (2 * i + 1)) (by rw [NL.out]; omega) (by rw [NL.out]; omega))
    rw [hcj] at HS
    clear hcj
    cases b2 with
    | false =>
     go_wp2_with fail
     go_ret
     exact ⟨⟨_, rfl⟩, L', HP.out, HR.out.row' (TX.out.mono fun _ h => h.elim) (TX.out.row HR.out.row (fun _ _ h => h)), HT.out.trans (TX.out.mono fun _ h => h.elim)⟩
    | true =>
     go_wp2_with fail
     refine HS.out.mono ?_
     rintro e w2 ⟨rfl, hr, ht⟩
     have HR2 := Lib.hid hr
     have HT2 : Hid (Tn (fun b => wv.ownBlock = some b) wr w2) := Lib.hid ((TX.out.mono fun _ h => h.elim).trans ht)
     clear hr ht
     go_wp2_with fail
     refine ⟨⟨(2 * i + 1), _, by go_num, by omega, ?_, HR.out.row' HT2.out HR2.out, HT.out.trans HT2.out⟩, by simp [intOf]; omega⟩
     exact (swap_perm (by rw [NL.out]; omega) (by rw [NL.out]; omega)).trans HP.out
end Go.Proofs.YtdojgbpaheadnaaGreat

/- The net's Push and Pop. -/
namespace Go.Proofs.YtdojgbpaheadnaaGreat
open Go.RowKit Go.Shelf Go.Maps
attribute [local go_sem] over_cell over_frozen
theorem infoPc : (Tryz.prog.info? 182).map (fun i => (i.zero, i.size, i.bytes)) = some (some (.agg #[i64 0, i64 0, i64 0, .string ⟨#[]⟩, i64 0, i64 0]), 6, 56) := by kernel_rfl
theorem info_partsPc : ∃ i, Tryz.prog.info? 182 = some i ∧ i.zero = some (.agg #[i64 0, i64 0, i64 0, .string ⟨#[]⟩, i64 0, i64 0]) ∧ i.size = 6 ∧ i.bytes = 56 := by
 obtain ⟨i, hi, h⟩ := Option.map_eq_some_iff.1 infoPc
 injection h with h1 h2
 injection h2 with h2 h3
 exact ⟨i, hi, h1, h2, h3⟩
theorem tassert (v : Value) (W : World) : (Instr.typeAssert (.iface 182 v) 20 182 true).run Tryz.prog W = .ok (.tuple #[v, .bool true]) W := by kernel_rfl
set_option maxRecDepth 100000 in
set_option maxHeartbeats 4000000 in
theorem ppush_any {w : World} {B nb : Nat} {nd : Int} {sc : Value} {L : List Pc} {sent : Int} {wv : Value} (h : NMem w B nb nd sc L sent wv) (p : Pc) (hl : L.length ≤ 1000000) :
  Calls Tryz.prog 178 #[.pointer (some ⟨nb, 2, none⟩), .iface 182 (.agg #[i64 p.m.frm, i64 p.m.to, i64 p.m.num, strV p.m.text, i64 p.at_, i64 p.sent])] w fun e w' => e = .returned (.tuple #[]) ∧ ∃ wv', NMem w' B nb nd sc (L ++ [p]) sent wv' ∧ Tn (OwnN nb wv) w w' ∧ ∀ k, wv'.ownBlock = some k → wv.ownBlock = some k ∨ w.heap.size ≤ k := by
 obtain ⟨i0, hi, hz1, hz2, hz3⟩ := info_partsPc
 have HM := Lib.hid h
 have HL := Lib.hid hl
 have hnb := h.blk.lt
 clear h hl
 go_enter Tryz.func178, Tryz.ntmps178
 have hta := tassert (.agg #[i64 p.m.frm, i64 p.m.to, i64 p.m.num, strV p.m.text, i64 p.at_, i64 p.sent]) w
 go_wp2_with fail
 obtain ⟨W1, hW1⟩ : ∃ W1, W1 = w.alloc (.cells #[i64 p.m.frm, i64 p.m.to, i64 p.m.num, strV p.m.text, i64 p.at_, i64 p.sent] 182) := ⟨_, rfl⟩
 rw [← hW1]
 have B1 : Hid (Below w.heap.size w W1) := Lib.hid (by rw [hW1]; exact (Below.refl _ _).alloc (Nat.le_refl _) _)
 have K1 : Hid (Blk W1 w.heap.size #[i64 p.m.frm, i64 p.m.to, i64 p.m.num, strV p.m.text, i64 p.at_, i64 p.sent] 182) := Lib.hid (by rw [hW1]; exact Blk.new _ _ _)
 have hz1' : W1.heap.size = w.heap.size + 1 := by rw [hW1]; simp
 have HM1 := Lib.hid (HM.out.below B1.out)
 clear hW1 hta
 obtain ⟨S', hS'⟩ : ∃ S' : World → Prop, S' = fun W => Blk W nb #[i64 nd, sc, wv, i64 sent] 175 ∧ Blk W w.heap.size #[i64 p.m.frm, i64 p.m.to, i64 p.m.num, strV p.m.text, i64 p.at_, i64 p.sent] 182 := ⟨_, rfl⟩
 have LDD : Hid (∀ W, S' W → Blk W nb #[i64 nd, sc, wv, i64 sent] 175 ∧ Blk W w.heap.size #[i64 p.m.frm, i64 p.m.to, i64 p.m.num, strV p.m.text, i64 p.at_, i64 p.sent] 182) := Lib.hid (by rw [hS']; exact fun W h => h)
 have UU : Hid (∀ W, Blk W nb #[i64 nd, sc, wv, i64 sent] 175 → Blk W w.heap.size #[i64 p.m.frm, i64 p.m.to, i64 p.m.num, strV p.m.text, i64 p.at_, i64 p.sent] 182 → S' W) := Lib.hid (by rw [hS']; exact fun W h h' => ⟨h, h'⟩)
 have hHeld := UU.out W1.drew HM1.out.blk K1.out
 clear hS'
 refine wp_region_sp 8 S' (by kernel_rfl) (by kernel_rfl) ?_
 simp only [List.take_succ_cons, List.take_zero]
 apply wpAnyH_apartV (fun v' W => PRow B W v' (L ++ [p]) ∧ Blk W nb #[i64 nd, sc, wv, i64 sent] 175 ∧ Tn (OwnN nb wv) w W ∧ ∀ k, v'.ownBlock = some k → wv.ownBlock = some k ∨ k = w.heap.size + 2)
 case take =>
  intro R hR
  refine tk 0 (v := ?_) rfl hHeld ?_ ?_; rotate_left
  ·(intro w hSw; have l0 := (LDD.out w hSw).1.cell 2; go_simp; try (with_reducible rfl))
  try simp only [gZ]
  refine tk 1 (v := ?_) rfl hHeld ?_ ?_; rotate_left
  ·(intro w hSw; have l0 := (LDD.out w hSw).1.cell 2; go_simp; try (with_reducible rfl))
  try simp only [gZ]
  refine tk 2 (v := ?_) rfl hHeld ?_ ?_; rotate_left
  ·(intro w hSw; have l0 := (LDD.out w hSw).1.cell 2; go_simp; try (with_reducible rfl))
  try simp only [gZ]
  refine tk 3 (v := ?_) rfl hHeld ?_ ?_; rotate_left
  ·(intro w hSw; have l0 := (LDD.out w hSw).1.cell 2; go_simp; try (with_reducible rfl))
  try simp only [gZ]
  refine wpAnyH_take (i := 4) (v := .agg #[i64 p.m.frm, i64 p.m.to, i64 p.m.num, strV p.m.text, i64 p.at_, i64 p.sent]) rfl (by kernel_rfl) (by kernel_rfl) (by kernel_rfl) (fun _ _ _ h => only_panic h) ?_ hHeld ?_
  ·exact yields_row (.tmp 4) (by rfl) rfl rfl (fun W hW => (LDD.out W hW).2) Tryz.underlying182 rfl (by kernel_rfl)
  try simp only [gZ]
  refine wpAnyH_one (i := 5) rfl (by kernel_rfl) (by rfl) ?_
  go_simp
  obtain ⟨W2, hW2⟩ : ∃ W2, W2 = (W1.alloc (.cells #[i64 p.m.frm, i64 p.m.to, i64 p.m.num, strV p.m.text, i64 p.at_, i64 p.sent] 182)).drew := ⟨_, rfl⟩
  rw [← hW2]
  have B2 : Hid (Below W1.heap.size W1 W2) := Lib.hid (by rw [hW2]; exact bdrewN ((Below.refl _ _).alloc (Nat.le_refl _) _) 1)
  have HM2 := Lib.hid (HM1.out.below B2.out)
  have K2 : Hid (Blk W2 w.heap.size #[i64 p.m.frm, i64 p.m.to, i64 p.m.num, strV p.m.text, i64 p.at_, i64 p.sent] 182) := Lib.hid (K1.out.below B2.out K1.out.lt)
  have HSR : Hid (Src W2 6 1 (encPc p) (.slice (some ⟨w.heap.size + 1, 0, none⟩) 1 1)) := Lib.hid (by
   have h1 := row_fresh W1 0 #[i64 p.m.frm, i64 p.m.to, i64 p.m.num, strV p.m.text, i64 p.at_, i64 p.sent] 182 6 1 rfl (by unfold maxLen; omega) (Nat.zero_le _)
   rw [hz1'] at h1
   have h2 := ((Tn.refl (fun _ => False) _).drewN 1).row h1 (fun _ _ h => h)
   rw [hW2]
   exact src_row h2)
  have hz2' : W2.heap.size = w.heap.size + 2 := by rw [hW2]; simp [hz1']
  have hHeld := UU.out W2 HM2.out.blk K2.out
  clear hW2
  refine ⟨hHeld, ?_⟩
  refine wpAnyH_one (i := 6) rfl (by kernel_rfl) (by rfl) ?_
  have hlo := HM.out.lo
  have hl6 := HL.out
  simp only [List.getElem_toArray, List.getElem_cons_succ, List.getElem_cons_zero]
  refine wp_append_all (.tmp 15) (.tmp 17) 173 rfl B 182 i0 _ 6 56 Tryz.underlying173 hi hz1 hz2 hz3 rfl (by omega) wv L.length (flatQ L) rfl HM2.out.row 1 (encPc p) _ rfl HSR.out (encPc_one p) (by unfold maxLen; omega) (by omega) (by omega) ?_
  intro v' w4 hr hg ho
  have T4 : Hid (Tn (fun b => wv.ownBlock = some b) W2 w4) := Lib.hid (Tn.of_grown hg)
  have hne : ∀ k, v'.ownBlock = some k → wv.ownBlock = some k ∨ k = w.heap.size + 2 := fun k e => ho.elim (fun h => .inl (h.symm.trans e)) (fun h => .inr (by have e3 := h.symm.trans e; injection e3 with e3; omega))
  have K4 : Hid (Blk w4 nb #[i64 nd, sc, wv, i64 sent] 175) := Lib.hid (T4.out.blk HM2.out.blk (fun e => HM.out.ne e))
  have P4 : Hid (Blk w4 w.heap.size #[i64 p.m.frm, i64 p.m.to, i64 p.m.num, strV p.m.text, i64 p.at_, i64 p.sent] 182) := Lib.hid (T4.out.blk K2.out (fun e => by have := (row_lt HM.out.row _ e).2; omega))
  have R4 : Hid (PRow B w4 v' (L ++ [p])) := Lib.hid (by
   have : flatQ (L ++ [p]) = flatQ L ++ encPc p := by rw [flatQ_app]; unfold flatQ; simp
   unfold PRow
   rw [this, List.length_append]; exact hr)
  have hHeld := UU.out w4 K4.out P4.out
  have TW : Hid (Tn (OwnN nb wv) w w4) := Lib.hid (((Tn.of_below B1.out).trans (Tn.of_below (B2.out))).trans (T4.out.mono fun k e => .inr e))
  refine ⟨hHeld, ?_⟩
  refine tk 7 (v := ?_) rfl hHeld ?_ ?_; rotate_left
  ·(intro w hSw; clear hSw; go_simp; try (with_reducible rfl))
  try simp only [gZ]
  exact wpAnyH_done (by kernel_rfl) ⟨rfl, hR v' w4 ⟨R4.out, K4.out, TW.out, hne⟩⟩ _
 case rest =>
  rintro v' w4 ⟨hr, hk, ht, hne⟩
  have R4 := Lib.hid hr
  have T4 := Lib.hid ht
  have NE := Lib.hid hne
  have K4 := Lib.hid hk
  obtain ⟨va, vc, rfl⟩ := hr.expl
  obtain ⟨vn, hvn⟩ : ∃ vn, vn = (L ++ [p]).length := ⟨_, rfl⟩
  rw [← hvn] at R4 NE ⊢
  clear hvn
  have c2 : w4.cell? ⟨nb, 2, none⟩ = some wv := K4.out.cell 2
  have f2 : w4.frozen? ⟨nb, 2, none⟩ = false := K4.out.frozen 2
  have T5 : Hid (Tn (fun b => b = nb) w4 (w4.setCell ⟨nb, 2, none⟩ (.slice va vn vc))) := Lib.hid ((Tn.refl (fun b => b = nb) w4).setCell (p := ⟨nb, 2, none⟩) (.inl rfl) _)
  have K5 : Hid (Blk (w4.setCell ⟨nb, 2, none⟩ (.slice va vn vc)) nb #[i64 nd, sc, .slice va vn vc, i64 sent] 175) := Lib.hid (Blk.set K4.out 2 _)
  have TW : Hid (Tn (OwnN nb wv) w (w4.setCell ⟨nb, 2, none⟩ (.slice va vn vc))) := Lib.hid (T4.out.trans (T5.out.mono fun k e => .inl e))
  have NEW : Hid (NMem (w4.setCell ⟨nb, 2, none⟩ (.slice va vn vc)) B nb nd sc (L ++ [p]) sent (.slice va vn vc)) := Lib.hid ⟨HM.out.lo, K5.out, T5.out.row R4.out fun r e e2 => (NE.out r e).elim (fun h => HM.out.ne (h.trans (congrArg some e2))) (fun h => by have e3 : r = nb := e2; omega)⟩
  clear hr hk ht hne
  simp only [endN, List.drop_succ_cons, List.drop_zero]
  go_wp2_with fail
  refine bodyPost_end (results_none rfl _ _ _) rfl ?_
  exact ⟨rfl, _, NEW.out, TW.out, fun k e => (NE.out k e).imp id fun h => by omega⟩
end Go.Proofs.YtdojgbpaheadnaaGreat

/- The net's Pop; heap.Push and heap.Pop. -/
namespace Go.Proofs.YtdojgbpaheadnaaGreat
open Go.RowKit Go.Shelf Go.Maps
attribute [local go_sem] over_cell over_frozen
theorem Tn.up {F G : Nat → Prop} {w w1 w2 : World} (h : Tn F w w1) (h' : Tn G w1 w2) (hG : ∀ k, G k → F k ∨ w.heap.size ≤ k) : Tn F w w2 :=
 ⟨h'.os.trans h.os, h'.tape.trans h.tape, h'.output.trans h.output, Nat.le_trans h.size h'.size, fun b hb hn => (h'.block b (Nat.lt_of_lt_of_le hb h.size) fun hg => (hG b hg).elim hn fun e => by omega).trans (h.block b hb hn)⟩
def pcV (p : Pc) : Value := .agg #[i64 p.m.frm, i64 p.m.to, i64 p.m.num, strV p.m.text, i64 p.at_, i64 p.sent]
set_option maxRecDepth 100000 in
set_option maxHeartbeats 4000000 in
theorem ppop_any {w : World} {B nb : Nat} {nd : Int} {sc : Value} {r : List Pc} {p : Pc} {sent : Int} {wv : Value} (h : NMem w B nb nd sc (r ++ [p]) sent wv) (hl : r.length ≤ 1000000) :
  Calls Tryz.prog 177 #[.pointer (some ⟨nb, 2, none⟩)] w fun e w' => e = .returned (.iface 182 (pcV p)) ∧ ∃ wv', NMem w' B nb nd sc r sent wv' ∧ Tn (OwnN nb wv) w w' ∧ ∀ k, wv'.ownBlock = some k → wv.ownBlock = some k := by
 have h0 := h.row.head (by simp)
 obtain ⟨g, c, e, hc, hm, hgB, hgl⟩ := h0
 subst e
 have e1 : (r ++ [p]).length = r.length + 1 := by simp
 have hgn : g ≠ nb := fun e => h.ne (by rw [← e]; rfl)
 obtain ⟨gk, -⟩ := PRow.at_ h.row (k := r.length) (by simp)
 have hg0 : (r ++ [p])[r.length]'(by simp) = p := by simp
 rw [hg0] at gk
 have HC := Lib.hid (PRow.cut h.row (k := r.length) (by simp))
 rw [List.take_left' rfl] at HC
 rw [e1] at h hc ⊢
 obtain ⟨k, hk⟩ : ∃ k, k = r.length := ⟨_, rfl⟩
 rw [← hk] at h hc hl HC gk ⊢
 have HM := Lib.hid h
 have c2 := h.c2
 have f2 : w.frozen? ⟨nb, 2, none⟩ = false := h.blk.frozen 2
 have hnb := h.blk.lt
 clear h e1 hg0 hk
 unfold pcV
 obtain ⟨q0, q1, q2, q3, q4, q5⟩ := range6 gk
 clear gk
 go_enter Tryz.func177, Tryz.ntmps177
 go_wp2_with fail
 go_ret
 have T5 : Tn (fun b => b = nb) w (w.setCell ⟨nb, 2, none⟩ (.slice (some ⟨g, 0, none⟩) k c)) := (Tn.refl (fun b => b = nb) w).setCell (p := ⟨nb, 2, none⟩) (.inl rfl) _
 have T6 := T5.alloc (.cells #[.int .i64 p.m.frm, .int .i64 p.m.to, .int .i64 p.m.num, .string ⟨p.m.text.toArray⟩, .int .i64 p.at_, .int .i64 p.sent] 182)
 refine ⟨rfl, .slice (some ⟨g, 0, none⟩) k c, ⟨HM.out.lo, (Blk.set HM.out.blk 2 (.slice (some ⟨g, 0, none⟩) k c)).alloc _, T6.row HC.out fun r e e2 => ?_⟩, T6.mono fun k e => .inl e, fun k e => e⟩
 have e3 : g = r := by have e4 : some g = some r := e; injection e4
 exact hgn (e3.trans e2)
set_option maxRecDepth 100000 in
set_option maxHeartbeats 2000000 in
theorem hpush_any {w : World} {B nb : Nat} {nd : Int} {sc : Value} {L : List Pc} {sent : Int} {wv : Value} (h : NMem w B nb nd sc L sent wv) (p : Pc) (hl : L.length ≤ 900000) :
  Calls Tryz.prog 106 #[.iface 206 (.pointer (some ⟨nb, 2, none⟩)), .iface 182 (pcV p)] w fun e w' => e = .returned (.tuple #[]) ∧ ∃ L' wv', L'.Perm (L ++ [p]) ∧ NMem w' B nb nd sc L' sent wv' ∧ Tn (OwnN nb wv) w w' ∧ ∀ k, wv'.ownBlock = some k → wv.ownBlock = some k ∨ w.heap.size ≤ k := by
 have HP := Lib.hid (ppush_any h p (by omega))
 have eP := enters_of Tryz.func178 (by kernel_rfl) rfl
 have eL := enters_of Tryz.func174 (by kernel_rfl) rfl
 have mP : Sem.run Tryz.prog (method 378 206 (.pointer (some ⟨nb, 2, none⟩)) "Push") w = .ok (178, .pointer (some ⟨nb, 2, none⟩)) w := mPush nb w
 have HL := Lib.hid hl
 clear h hl
 unfold pcV
 go_enter Tryz.func106, Tryz.ntmps106
 go_wp2_with fail
 refine HP.out.mono ?_
 rintro e w2 ⟨rfl, wv2, hm, ht, ho⟩
 have HM := Lib.hid hm
 have HT := Lib.hid ht
 have HO := Lib.hid ho
 have mL : Sem.run Tryz.prog (method 378 206 (.pointer (some ⟨nb, 2, none⟩)) "Len") w2 = .ok (174, wv2) w2 := mLen hm.c2
 obtain ⟨a, c, rfl⟩ := hm.row.expl
 obtain ⟨n, hn⟩ : ∃ n, n = L.length := ⟨_, rfl⟩
 have e1 : (L ++ [p]).length = n + 1 := by simp [hn]
 have hn9 : n ≤ 900000 := by have := HL.out; omega
 rw [e1] at HM HO mL
 have HU := Lib.hid (up_any HM.out (j := n) (by rw [e1]; omega) (by rw [e1, hn]; have := HL.out; omega))
 clear hm ht ho e1 hn HP
 go_wp2_with fail
 refine (len_any a (n + 1) c w2).mono ?_
 rintro e w3 ⟨rfl, rfl⟩
 go_wp2_with fail
 refine HU.out.mono ?_
 rintro e w4 ⟨rfl, L', hp, hm, ht⟩
 have HM4 := Lib.hid hm
 have HP4 := Lib.hid hp
 have HT4 : Hid (Tn (OwnN nb wv) w w4) := Lib.hid (Tn.up HT.out ht fun k e => (HO.out k e).imp .inr id)
 clear hm hp ht
 go_wp2_with fail
 refine bodyPost_end (results_none rfl _ _ _) rfl ?_
 exact ⟨rfl, L', _, HP4.out, HM4.out, HT4.out, HO.out⟩
set_option maxRecDepth 100000 in
set_option maxHeartbeats 2000000 in
theorem hpop_any {w : World} {B nb : Nat} {nd : Int} {sc : Value} {L : List Pc} {sent : Int} {wv : Value} (h : NMem w B nb nd sc L sent wv) (hn : 0 < L.length) (hl : L.length ≤ 900000) :
  Calls Tryz.prog 80 #[.iface 206 (.pointer (some ⟨nb, 2, none⟩))] w fun e w' => ∃ p r wv', e = .returned (.iface 182 (pcV p)) ∧ (r ++ [p]).Perm L ∧ NMem w' B nb nd sc r sent wv' ∧ Tn (OwnN nb wv) w w' ∧ ∀ k, wv'.ownBlock = some k → wv.ownBlock = some k := by
 obtain ⟨a, c, e⟩ := h.row.expl
 subst e
 have eP := enters_of Tryz.func177 (by kernel_rfl) rfl
 have eL := enters_of Tryz.func174 (by kernel_rfl) rfl
 have eS := enters_of Tryz.func176 (by kernel_rfl) rfl
 obtain ⟨k, hk⟩ : ∃ k, L.length = k + 1 := ⟨L.length - 1, by omega⟩
 have hk9 : k ≤ 900000 := by omega
 have HK := Lib.hid hk
 have HS := Lib.hid (pswap_any h.row (i := 0) (j := k) (by omega) (by omega))
 have PS0 := swap_perm (L := L) (j := 0) (k := k) (by omega) (by omega)
 obtain ⟨L1, hL1⟩ : ∃ L1, L1 = (L.set 0 (L[k]'(by omega))).set k (L[0]'(by omega)) := ⟨_, rfl⟩
 rw [← hL1] at HS PS0
 have PS := Lib.hid PS0
 clear hL1 PS0
 rw [hk] at h HS ⊢
 have HM := Lib.hid h
 have mL : Sem.run Tryz.prog (method 378 206 (.pointer (some ⟨nb, 2, none⟩)) "Len") w = .ok (174, .slice a (k + 1) c) w := mLen h.c2
 have mS : Sem.run Tryz.prog (method 378 206 (.pointer (some ⟨nb, 2, none⟩)) "Swap") w = .ok (176, .slice a (k + 1) c) w := mSwap h.c2
 clear h hn hl hk
 go_enter Tryz.func80, Tryz.ntmps80
 go_wp2_with fail
 refine (len_any a (k + 1) c w).mono ?_
 rintro e w3 ⟨rfl, rfl⟩
 go_wp2_with fail
 refine HS.out.mono ?_
 rintro e w4 ⟨rfl, hr, ht⟩
 have HM4 := Lib.hid (HM.out.row' ht hr)
 have T4 := Lib.hid ht
 have hl1 : Hid (L1.length = k + 1) := Lib.hid (by rw [PS.out.length_eq, HK.out])
 have HD := Lib.hid (down_any HM4.out (n := k) (by rw [hl1.out]; omega) (by rw [hl1.out]; omega))
 clear hr ht mL mS HS
 go_wp2_with fail
 refine HD.out.mono ?_
 rintro e w5 ⟨⟨v5, rfl⟩, L2, hp, hm, ht⟩
 have P2 : Hid (L2.Perm L) := Lib.hid (hp.trans PS.out)
 have hl2 : L2.length = k + 1 := by rw [P2.out.length_eq, HK.out]
 obtain ⟨r, p, rfl⟩ : ∃ r p, L2 = r ++ [p] := ⟨L2.take k, L2[k]'(by omega), by
  rw [List.take_append_getElem]
  rw [List.take_of_length_le (by omega)]⟩
 have hr9 : r.length ≤ 1000000 := by simp at hl2; omega
 have HO := Lib.hid (ppop_any hm hr9)
 have T5 : Hid (Tn (OwnN nb (.slice a (k + 1) c)) w3 w5) := Lib.hid ((T4.out.trans ht).mono fun k e => .inr e)
 have mP : Sem.run Tryz.prog (method 378 206 (.pointer (some ⟨nb, 2, none⟩)) "Pop") w5 = .ok (177, .pointer (some ⟨nb, 2, none⟩)) w5 := mPop nb w5
 clear hp hm ht hl2 HD
 unfold pcV at HO
 go_wp2_with fail
 refine HO.out.mono ?_
 rintro e w6 ⟨rfl, wv', hm, ht, ho⟩
 have HM6 := Lib.hid hm
 have T6 : Hid (Tn (OwnN nb (.slice a (k + 1) c)) w3 w6) := Lib.hid (T5.out.trans ht)
 have O6 := Lib.hid ho
 clear hm ht ho
 go_wp2_with fail
 go_ret
 exact ⟨p, r, wv', rfl, P2.out, HM6.out, T6.out, O6.out⟩
end Go.Proofs.YtdojgbpaheadnaaGreat

/- The net's troubles. -/
namespace Go.Proofs.YtdojgbpaheadnaaGreat
open Go.RowKit Go.Shelf Go.Maps
attribute [local go_sem] over_cell over_frozen
theorem Blk.drew' {w : World} {b : Nat} {xs : Array Value} {T : TypeId} (h : Blk w b xs T) : Blk w.drew b xs T := h
abbrev Tr := Bool × Int × Int
def encT (t : Tr) : Array Value := #[.bool t.1, i64 t.2.1, i64 t.2.2]
def TrR (_ : World) (cs : List Value) (t : Tr) : Prop := cs = [.bool t.1, i64 t.2.1, i64 t.2.2]
def trP (S : List Tr) (n : Nat) : Tr := (S[n % S.length]?).getD (false, 1, 1)
theorem trP_nil (n : Nat) : trP [] n = (false, 1, 1) := rfl
theorem trP_at {S : List Tr} {n : Nat} (h : n % S.length < S.length) : trP S n = S[n % S.length] := by unfold trP; rw [List.getElem?_eq_getElem h]; rfl
set_option maxRecDepth 100000 in
set_option maxHeartbeats 2000000 in
theorem trouble_any {w : World} {B nb : Nat} {nd : Int} {sc : Value} {L : List Pc} {sent : Nat} {wv : Value} {P : Nat → Prop} {S : List Tr} (h : NMem w B nb nd sc L sent wv) (hs : SlOf 3 P TrR w sc S) :
  Calls Tryz.prog 105 #[.pointer (some ⟨nb, 0, none⟩)] w fun e w' => e = .returned (.agg (encT (trP S sent))) ∧ Below w.heap.size w w' := by
 have hnb := h.blk.lt
 have K := Lib.hid h.blk
 have HS := Lib.hid hs
 obtain ⟨a, c, rfl, -⟩ := hs
 obtain ⟨n, hn⟩ : ∃ n, n = S.length := ⟨_, rfl⟩
 rw [← hn] at K HS
 have NN := Lib.hid hn
 have c1 : w.cell? ⟨nb, 1, none⟩ = some (.slice a S.length c) := h.blk.cell 1
 have c3 : w.cell? ⟨nb, 3, none⟩ = some (i64 sent) := h.blk.cell 3
 rw [← hn] at c1
 clear h hn
 by_cases h0 : n = 0
 ·subst h0
  have e0 : S = [] := List.eq_nil_of_length_eq_zero NN.out.symm
  rw [e0, trP_nil]
  go_enter Tryz.func105, Tryz.ntmps105
  go_wp2_with fail
  refine bodyPost_ret (results_cell_row rfl _ _ w.heap.size _ _ _ _ rfl (Blk.new w _ 90) Tryz.underlying90 rfl (by kernel_rfl)) rfl ?_
  exact ⟨rfl, (Below.refl _ _).alloc (Nat.le_refl _) _⟩
 ·have hlt : sent % S.length < S.length := Nat.mod_lt _ (by rw [← NN.out]; omega)
  obtain ⟨b, o, cp, cs, e, _, _, hR, _, hg, _⟩ := SlOf.range (by omega) HS.out hlt
  have e' : a = some ⟨b, o, none⟩ := by injection e
  subst e'
  unfold TrR at hR
  subst hR
  rw [trP_at hlt]
  obtain ⟨t, ht⟩ : ∃ t, t = S[sent % S.length] := ⟨_, rfl⟩
  rw [← ht] at hg ⊢
  rw [← NN.out] at hg
  have q1 : (sent : Int) % (n : Int) < (n : Int) := Int.emod_lt_of_pos _ (by omega)
  have q2 : 0 ≤ (sent : Int) % (n : Int) := Int.emod_nonneg _ (by omega)
  have t0 : w.cell? ⟨b, o + sent % n * 3, none⟩ = some (.bool t.1) := hg 0 _ rfl
  have t1 : w.cell? ⟨b, o + sent % n * 3 + 1, none⟩ = some (i64 t.2.1) := hg 1 _ rfl
  have t2 : w.cell? ⟨b, o + sent % n * 3 + 2, none⟩ = some (i64 t.2.2) := hg 2 _ rfl
  clear e hg ht
  go_enter Tryz.func105, Tryz.ntmps105
  go_wp2_with fail
  go_region
  all_goals go_wp2_with fail
  refine bodyPost_ret (results_cell_row rfl _ _ w.heap.size _ _ _ _ rfl (Blk.drew' (Blk.new w _ 90)) Tryz.underlying90 rfl (by kernel_rfl)) rfl ?_
  exact ⟨rfl, bdrewN ((Below.refl _ _).alloc (Nat.le_refl _) _) 1⟩
end Go.Proofs.YtdojgbpaheadnaaGreat

/- The net: Send. -/
namespace Go.Proofs.YtdojgbpaheadnaaGreat
open Go.RowKit Go.Shelf Go.Maps
attribute [local go_sem] over_cell over_frozen
def copiesP (nd : Int) (t : Tr) (u : Int) : Nat := if t.1 = true ∨ u < 0 ∨ u ≥ nd then 0 else (min (max t.2.1 1) 8).toNat
theorem copiesP_le (nd : Int) (t : Tr) (u : Int) : copiesP nd t u ≤ 8 := by unfold copiesP; split <;> omega
def Sent (m : Msg) (k : Nat) (L L' : List Pc) : Prop := ∃ new : List Pc, new.length = k ∧ (∀ p ∈ new, p.m = m) ∧ L'.Perm (L ++ new)
set_option maxRecDepth 100000 in
theorem queue_any (nb : Nat) (w : World) : Calls Tryz.prog 79 #[.pointer (some ⟨nb, 0, none⟩)] w fun e w' => e = .returned (.iface 206 (.pointer (some ⟨nb, 2, none⟩))) ∧ w' = w := by
 go_enter Tryz.func79, Tryz.ntmps79
 go_wp2_with fail
 go_ret
 exact ⟨rfl, rfl⟩
theorem hpush' {w : World} {B nb : Nat} {nd : Int} {sc : Value} {L : List Pc} {sent : Int} {wv : Value} (h : NMem w B nb nd sc L sent wv) (m : Msg) (x y : Int) (hl : L.length ≤ 900000) :
  Calls Tryz.prog 106 #[.iface 206 (.pointer (some ⟨nb, 2, none⟩)), .iface 182 (.agg #[i64 m.frm, i64 m.to, i64 m.num, strV m.text, i64 x, i64 y])] w fun e w' => e = .returned (.tuple #[]) ∧ ∃ L' wv', L'.Perm (L ++ [⟨m, x, y⟩]) ∧ NMem w' B nb nd sc L' sent wv' ∧ Tn (OwnN nb wv) w w' ∧ ∀ k, wv'.ownBlock = some k → wv.ownBlock = some k ∨ w.heap.size ≤ k := hpush_any h ⟨m, x, y⟩ hl
set_option maxRecDepth 100000 in
set_option maxHeartbeats 4000000 in
theorem nsend_any {w : World} {B nb : Nat} {nd : Int} {sc : Value} {L : List Pc} {sent : Nat} {wv : Value} {P : Nat → Prop} {S : List Tr} (h : NMem w B nb nd sc L sent wv) (hs : SlOf 3 P TrR w sc S) (now : Int) (m : Msg) (hl : L.length ≤ 800000) (hn : sent ≤ 1000000) :
  Calls Tryz.prog 81 #[.pointer (some ⟨nb, 0, none⟩), i64 now, .agg (encM m)] w fun e w' => e = .returned (.tuple #[]) ∧ ∃ L' wv', Sent m (copiesP nd (trP S sent) m.to) L L' ∧ NMem w' B nb nd sc L' ((sent : Int) + 1) wv' ∧ Tn (OwnN nb wv) w w' ∧ ∀ k, wv'.ownBlock = some k → wv.ownBlock = some k ∨ w.heap.size ≤ k := by
 have HM := Lib.hid h
 have HS := Lib.hid hs
 have HL := Lib.hid hl
 have hnb := h.blk.lt
 clear h hs hl
 unfold encM
 go_enter Tryz.func81, Tryz.ntmps81
 go_wp2_with fail
 obtain ⟨W1, hW1⟩ : ∃ W1, W1 = w.alloc (.cells #[i64 m.frm, i64 m.to, i64 m.num, strV m.text] 31) := ⟨_, rfl⟩
 rw [← hW1]
 have B1 : Hid (Below w.heap.size w W1) := Lib.hid (by rw [hW1]; exact (Below.refl _ _).alloc (Nat.le_refl _) _)
 have KB1 : Hid (Blk W1 w.heap.size #[i64 m.frm, i64 m.to, i64 m.num, strV m.text] 31) := Lib.hid (by rw [hW1]; exact Blk.new _ _ _)
 have hz1 : W1.heap.size = w.heap.size + 1 := by rw [hW1]; simp
 clear hW1
 refine (trouble_any (HM.out.below B1.out) (SlOf.keep (S' := P) (R' := TrR) (by omega) HS.out (Stay.of_below B1.out) (fun _ _ h => h) (fun _ h _ => h))).mono ?_
 rintro e w2 ⟨rfl, hb⟩
 have B2 : Hid (Below w.heap.size w w2) := Lib.hid (B1.out.trans (hb.mono B1.out.size))
 have KB2 := Lib.hid (KB1.out.below hb KB1.out.lt)
 have hz2 : w.heap.size + 1 ≤ w2.heap.size := by have := hb.size; omega
 have HM2 := Lib.hid (HM.out.below B2.out)
 obtain ⟨t, ht⟩ : ∃ t, t = trP S sent := ⟨_, rfl⟩
 have NTR := Lib.hid ht
 rw [← ht]
 obtain ⟨tl, tc, td⟩ := t
 clear hb ht KB1
 unfold encT
 dsimp only
 have c3 : w2.cell? ⟨nb, 3, none⟩ = some (i64 sent) := HM2.out.blk.cell 3
 have f3 : w2.frozen? ⟨nb, 3, none⟩ = false := HM2.out.blk.frozen 3
 have hnb2 : nb < w2.heap.size := HM2.out.blk.lt
 go_wp2_with fail
 obtain ⟨W3, hW3⟩ : ∃ W3, W3 = (w2.setCell ⟨nb, 3, none⟩ (.int .i64 ((sent : Int) + 1))).alloc (.cells #[.bool tl, .int .i64 tc, .int .i64 td] 90) := ⟨_, rfl⟩
 rw [← hW3]
 have T3 : Hid (Tn (fun b => b = nb) w2 W3) := Lib.hid (by rw [hW3]; exact ((Tn.refl (fun b => b = nb) w2).setCell (p := ⟨nb, 3, none⟩) (.inl rfl) _).alloc _)
 have HM3 : Hid (NMem W3 B nb nd sc L ((sent : Int) + 1) wv) := Lib.hid ⟨HM.out.lo, by rw [hW3]; exact (Blk.set HM2.out.blk 3 _).alloc _, T3.out.row HM2.out.row fun r e e2 => HM.out.ne (e.trans (congrArg some e2))⟩
 have KB3 : Hid (Blk W3 w.heap.size #[i64 m.frm, i64 m.to, i64 m.num, strV m.text] 31) := Lib.hid (T3.out.blk KB2.out (by show ¬ w.heap.size = nb; omega))
 have KT3 : Hid (Blk W3 w2.heap.size #[.bool tl, .int .i64 tc, .int .i64 td] 90) := Lib.hid (by
  rw [hW3]
  have h := Blk.new (w2.setCell ⟨nb, 3, none⟩ (.int .i64 ((sent : Int) + 1))) #[.bool tl, .int .i64 tc, .int .i64 td] 90
  have e : (w2.setCell ⟨nb, 3, none⟩ (.int .i64 ((sent : Int) + 1))).heap.size = w2.heap.size := by simp [World.setCell]
  rw [e] at h; exact h)
 have TW3 : Hid (Tn (OwnN nb wv) w W3) := Lib.hid ((Tn.of_below B2.out).trans (T3.out.mono fun k e => .inl e))
 have hz3 : w2.heap.size < W3.heap.size := KT3.out.lt
 clear hW3 c3 f3
 have n0 : W3.cell? ⟨nb, 0, none⟩ = some (i64 nd) := HM3.out.blk.cell 0
 have m1 : W3.cell? ⟨w.heap.size, 1, none⟩ = some (i64 m.to) := KB3.out.cell 1
 have k0 : W3.cell? ⟨w2.heap.size, 0, none⟩ = some (.bool tl) := KT3.out.cell 0
 have k1 : W3.cell? ⟨w2.heap.size, 1, none⟩ = some (i64 tc) := KT3.out.cell 1
 have NONE : Hid (Sent m 0 L L) := Lib.hid ⟨[], rfl, by simp, by simp⟩
 by_cases hlost : tl = true ∨ m.to < 0 ∨ m.to ≥ nd
 ·have hc0 : Hid (Sent m (copiesP nd (trP S sent) m.to) L L) := Lib.hid (by rw [← NTR.out]; unfold copiesP; rw [if_pos hlost]; exact NONE.out)
  have FIN : Hid (∀ q, Tn (OwnN nb wv) w (W3.drewN q) ∧ NMem (W3.drewN q) B nb nd sc L ((sent : Int) + 1) wv) := Lib.hid fun q => ⟨TW3.out.drewN q, HM3.out.keep ((Tn.refl (fun _ => False) W3).drewN q) fun _ h => h.elim⟩
  rcases hlost with h | h | h
  ·subst h
   go_quiet (fail)
   go_wp2_with fail
   refine bodyPost_ret (results_none rfl _ _ _) rfl ?_
   (first | exact ⟨rfl, L, wv, hc0.out, (FIN.out _).2, (FIN.out _).1, fun k e => .inl e⟩ | exact ⟨rfl, L, hc0.out, wv, (FIN.out _).2, (FIN.out _).1, fun k e => .inl e⟩)
  ·cases tl with
   | true =>
    go_quiet (fail)
    go_wp2_with fail
    refine bodyPost_ret (results_none rfl _ _ _) rfl ?_
    (first | exact ⟨rfl, L, wv, hc0.out, (FIN.out _).2, (FIN.out _).1, fun k e => .inl e⟩ | exact ⟨rfl, L, hc0.out, wv, (FIN.out _).2, (FIN.out _).1, fun k e => .inl e⟩)
   | false =>
    have d0 : decide (m.to < 0) = true := by simpa using h
    go_quiet (fail)
    go_wp2_with fail
    refine bodyPost_ret (results_none rfl _ _ _) rfl ?_
    (first | exact ⟨rfl, L, wv, hc0.out, (FIN.out _).2, (FIN.out _).1, fun k e => .inl e⟩ | exact ⟨rfl, L, hc0.out, wv, (FIN.out _).2, (FIN.out _).1, fun k e => .inl e⟩)
  ·cases tl with
   | true =>
    go_quiet (fail)
    go_wp2_with fail
    refine bodyPost_ret (results_none rfl _ _ _) rfl ?_
    (first | exact ⟨rfl, L, wv, hc0.out, (FIN.out _).2, (FIN.out _).1, fun k e => .inl e⟩ | exact ⟨rfl, L, hc0.out, wv, (FIN.out _).2, (FIN.out _).1, fun k e => .inl e⟩)
   | false =>
    by_cases h0 : m.to < 0
    ·have d0 : decide (m.to < 0) = true := by simpa using h0
     go_quiet (fail)
     go_wp2_with fail
     refine bodyPost_ret (results_none rfl _ _ _) rfl ?_
     (first | exact ⟨rfl, L, wv, hc0.out, (FIN.out _).2, (FIN.out _).1, fun k e => .inl e⟩ | exact ⟨rfl, L, hc0.out, wv, (FIN.out _).2, (FIN.out _).1, fun k e => .inl e⟩)
    ·have d0 : decide (m.to < 0) = false := by simpa using h0
     have d1 : decide (m.to ≥ nd) = true := by simpa using h
     go_quiet (fail)
     go_wp2_with fail
     refine bodyPost_ret (results_none rfl _ _ _) rfl ?_
     (first | exact ⟨rfl, L, wv, hc0.out, (FIN.out _).2, (FIN.out _).1, fun k e => .inl e⟩ | exact ⟨rfl, L, hc0.out, wv, (FIN.out _).2, (FIN.out _).1, fun k e => .inl e⟩)
 ·obtain ⟨h1, h2, h3⟩ : tl = false ∧ ¬ m.to < 0 ∧ ¬ m.to ≥ nd := ⟨by cases tl <;> simp_all, fun h => hlost (.inr (.inl h)), fun h => hlost (.inr (.inr h))⟩
  subst h1
  have d0 : decide (m.to < 0) = false := by simpa using h2
  have d1 : decide (m.to ≥ nd) = false := by simpa using h3
  go_quiet (fail)
  obtain ⟨n, hn8⟩ : ∃ n : Nat, min (max tc 1) 8 = (n : Int) := ⟨(min (max tc 1) 8).toNat, by omega⟩
  have hcn : Hid (copiesP nd (trP S sent) m.to = n) := Lib.hid (by rw [← NTR.out]; unfold copiesP; rw [if_neg hlost]; dsimp only; omega)
  have hn8' : n ≤ 8 := by omega
  clear hlost
  go_wp2_with fail
  go_loopw [44] (fun i wr => ∃ (k : Nat) (L' : List Pc) (wv' : Value), k ≤ n ∧ i = .int .i64 k ∧ Sent m k L L' ∧ NMem wr B nb nd sc L' ((sent : Int) + 1) wv' ∧ Tn (OwnN nb wv) w wr ∧ (∀ k, wv'.ownBlock = some k → wv.ownBlock = some k ∨ w.heap.size ≤ k) ∧ Blk wr w.heap.size #[i64 m.frm, i64 m.to, i64 m.num, strV m.text] 31 ∧ Blk wr w2.heap.size #[.bool false, .int .i64 tc, .int .i64 td] 90) (fun i _ => n - (intOf i).toNat)
  case atStart => exact ⟨0, L, wv, by omega, rfl, NONE.out, HM3.out.keep ((Tn.refl (fun _ => False) W3).drewN _) (fun _ h => h.elim), TW3.out.drewN _, fun k e => .inl e, KB3.out, KT3.out⟩
  case round =>
   obtain ⟨k, L', wv', hk, rfl, hs, hm, ht, ho, hb1, hb2⟩ := hrel
   have HSn := Lib.hid hs
   have HMr := Lib.hid hm
   have HTr := Lib.hid ht
   have HOr := Lib.hid ho
   have KBr := Lib.hid hb1
   have KTr := Lib.hid hb2
   have hLl : Hid (L'.length ≤ 900000) := Lib.hid (by
    obtain ⟨new, h1, -, h2⟩ := hs
    rw [h2.length_eq, List.length_append, h1]
    have := HL.out
    omega)
   clear hs hm ht ho hb1 hb2
   by_cases hlt : k < n
   ·obtain ⟨S', hS'⟩ : ∃ S' : World → Prop, S' = fun W => Blk W w.heap.size #[i64 m.frm, i64 m.to, i64 m.num, strV m.text] 31 ∧ Blk W w2.heap.size #[.bool false, .int .i64 tc, .int .i64 td] 90 := ⟨_, rfl⟩
    have LDD : Hid (∀ W, S' W → Blk W w.heap.size #[i64 m.frm, i64 m.to, i64 m.num, strV m.text] 31 ∧ Blk W w2.heap.size #[.bool false, .int .i64 tc, .int .i64 td] 90) := Lib.hid (by rw [hS']; exact fun W h => h)
    have UU : Hid (∀ W, Blk W w.heap.size #[i64 m.frm, i64 m.to, i64 m.num, strV m.text] 31 → Blk W w2.heap.size #[.bool false, .int .i64 tc, .int .i64 td] 90 → S' W) := Lib.hid (by rw [hS']; exact fun W h h' => ⟨h, h'⟩)
    have hHeld := UU.out wr.drew KBr.out KTr.out
    clear hS'
    go_upto_region 9 with fail
    refine wp_region_held_drew (S := S') (by kernel_rfl) hHeld (fun _ => ?_)
    apply wpAnyH_apart (fun W => ∃ (L' : List Pc) (wv' : Value), Sent m (k + 1) L L' ∧ NMem W B nb nd sc L' ((sent : Int) + 1) wv' ∧ Tn (OwnN nb wv) w W ∧ (∀ k, wv'.ownBlock = some k → wv.ownBlock = some k ∨ w.heap.size ≤ k) ∧ Blk W w.heap.size #[i64 m.frm, i64 m.to, i64 m.num, strV m.text] 31 ∧ Blk W w2.heap.size #[.bool false, .int .i64 tc, .int .i64 td] 90)
    case take =>
     intro R hR
     refine tk 0 (v := ?_) rfl hHeld ?_ ?_; rotate_left
     ·(intro w hSw; have l2 := (LDD.out w hSw).2.cell 2; go_simp; try (with_reducible rfl))
     try simp only [gZ]
     refine tk 3 (v := ?_) rfl hHeld ?_ ?_; rotate_left
     ·(intro w hSw; have l2 := (LDD.out w hSw).2.cell 2; go_simp; try (with_reducible rfl))
     try simp only [gZ]
     refine tk 4 (v := ?_) rfl hHeld ?_ ?_; rotate_left
     ·(intro w hSw; have l2 := (LDD.out w hSw).2.cell 2; go_simp; try (with_reducible rfl))
     try simp only [gZ]
     refine tk 5 (v := ?_) rfl hHeld ?_ ?_; rotate_left
     ·(intro w hSw; have l2 := (LDD.out w hSw).2.cell 2; go_simp; try (with_reducible rfl))
     try simp only [gZ]
     refine tk 6 (v := ?_) rfl hHeld ?_ ?_; rotate_left
     ·(intro w hSw; have l2 := (LDD.out w hSw).2.cell 2; go_simp; try (with_reducible rfl))
     try simp only [gZ]
     refine tk 7 (v := ?_) rfl hHeld ?_ ?_; rotate_left
     ·(intro w hSw; have l2 := (LDD.out w hSw).2.cell 2; go_simp; try (with_reducible rfl))
     try simp only [gZ]
     refine tk 8 (v := ?_) rfl hHeld ?_ ?_; rotate_left
     ·(intro w hSw; have l2 := (LDD.out w hSw).2.cell 2; go_simp; try (with_reducible rfl))
     try simp only [gZ]
     refine tk 9 (v := ?_) rfl hHeld ?_ ?_; rotate_left
     ·(intro w hSw; have l2 := (LDD.out w hSw).2.cell 2; go_simp; try (with_reducible rfl))
     try simp only [gZ]
     refine tk 10 (v := ?_) rfl hHeld ?_ ?_; rotate_left
     ·(intro w hSw; have l2 := (LDD.out w hSw).2.cell 2; go_simp; try (with_reducible rfl))
     try simp only [gZ]
     refine wpAnyH_take (i := 2) (v := .agg #[i64 m.frm, i64 m.to, i64 m.num, strV m.text]) rfl (by kernel_rfl) (by kernel_rfl) (by kernel_rfl) (fun _ _ _ h => only_panic h) ?_ hHeld ?_
     ·exact yields_row (.tmp 5) (by rfl) rfl rfl (fun W hW => (LDD.out W hW).1) Tryz.underlying31 rfl (by kernel_rfl)
     try simp only [gZ]
     refine tk 11 (v := ?_) rfl hHeld ?_ ?_; rotate_left
     ·(intro w hSw; skip; go_simp; try (with_reducible rfl))
     try simp only [gZ]
     refine tk 12 (v := ?_) rfl hHeld ?_ ?_; rotate_left
     ·(intro w hSw; skip; go_simp; try (with_reducible rfl))
     try simp only [gZ]
     refine wpAnyH_one (i := 1) rfl (by kernel_rfl) (by rfl) ?_
     go_simp
     refine (queue_any nb _).mono ?_
     rintro e W ⟨rfl, rfl⟩
     refine ⟨hHeld, ?_⟩
     refine wpAnyH_one (i := 13) rfl (by kernel_rfl) (by rfl) ?_
     go_simp
     have HMd : Hid (NMem wr.drew B nb nd sc L' ((sent : Int) + 1) wv') := Lib.hid (HMr.out.keep ((Tn.refl (fun _ => False) wr).drewN 1) (fun _ h => h.elim))
     refine (hpush' HMd.out m _ _ hLl.out).mono ?_
     rintro e W2 ⟨rfl, L2, wv2, hp, hm2, ht2, ho2⟩
     have KB2' : Hid (Blk W2 w.heap.size #[i64 m.frm, i64 m.to, i64 m.num, strV m.text] 31) := Lib.hid (ht2.blk (KBr.out : Blk wr.drew _ _ _) (fun e => e.elim (fun e => by omega) (fun e => row_not KBr.out (by decide) HMr.out.row e.symm)))
     have KT2' : Hid (Blk W2 w2.heap.size #[.bool false, .int .i64 tc, .int .i64 td] 90) := Lib.hid (ht2.blk (KTr.out : Blk wr.drew _ _ _) (fun e => e.elim (fun e => by omega) (fun e => row_not KTr.out (by decide) HMr.out.row e.symm)))
     have hHeld := UU.out W2 KB2'.out KT2'.out
     have T2' : Hid (Tn (OwnN nb wv) w W2) := Lib.hid (Tn.up (HTr.out.drewN 1) ht2 fun k e => e.elim (fun e => .inl (.inl e)) fun e => (HOr.out k e).imp .inr id)
     have O2' : Hid (∀ k, wv2.ownBlock = some k → wv.ownBlock = some k ∨ w.heap.size ≤ k) := Lib.hid fun k e => (ho2 k e).elim (HOr.out k) fun h => .inr (by
      have h1 := HTr.out.size
      have h2 : wr.heap.size ≤ k := h
      omega)
     have S2' : Hid (Sent m (k + 1) L L2) := Lib.hid (by
      obtain ⟨new, h1, h2, h3⟩ := HSn.out
      refine ⟨new ++ [_], by rw [List.length_append, h1]; rfl, fun p hp => ?_, hp.trans (by rw [← List.append_assoc]; exact h3.append_right _)⟩
      rcases List.mem_append.1 hp with h | h
      ·exact h2 p h
      ·rw [List.mem_singleton.1 h])
     have M2' := Lib.hid hm2
     clear hp hm2 ht2 ho2
     refine ⟨hHeld, ?_⟩
     exact wpAnyH_done (by kernel_rfl) ⟨rfl, hR W2 ⟨L2, wv2, S2'.out, M2'.out, T2'.out, O2'.out, KB2'.out, KT2'.out⟩⟩ _
    case rest =>
     rintro W ⟨L2, wv2, h1, h2, h3, h4, h5, h6⟩
     go_wp2_with fail
     exact ⟨⟨k + 1, L2, wv2, hlt, by go_num, h1, h2, h3, h4, h5, h6⟩, by simp [intOf]; omega⟩
   ·obtain rfl : k = n := by omega
    go_wp2_with fail
    refine bodyPost_end (results_none rfl _ _ _) rfl ?_
    have h9 : Sent m (copiesP nd (trP S sent) m.to) L L' := by rw [hcn.out]; exact HSn.out
    first
     | exact ⟨rfl, L', wv', h9, HMr.out, HTr.out, HOr.out⟩
     | exact ⟨rfl, L', h9, wv', HMr.out, HTr.out, HOr.out⟩
end Go.Proofs.YtdojgbpaheadnaaGreat

/- The net: Next. -/
namespace Go.Proofs.YtdojgbpaheadnaaGreat
open Go.RowKit Go.Shelf Go.Maps
attribute [local go_sem] over_cell over_frozen
theorem ret_cell_tmp2 {P : Program} {fn : Func} {p u v : Tmp} {ty : TypeId} (h : fn.results = #[.cell p ty, .tmp u, .tmp v]) {tmps : Array Value} {w : World} {g : Nat} {cs : Array Value} {d : TypeDesc}
  (hp : tmps.getD p undef = .pointer (some ⟨g, 0, none⟩)) (hg : Blk w g cs ty) (hu : P.underlying ty = some d) (hd : (match d with | .struct _ | .array _ _ => true | _ => false) = true) (hi : (P.info? ty).map (·.size) = some cs.size) :
  (results fn tmps).run P w = .ok (.tuple #[.agg cs, tmps.getD u undef, tmps.getD v undef]) w := by
 have hp' : tmps[p]?.getD undef = .pointer (some ⟨g, 0, none⟩) := by simpa using hp
 simp [results, h, hp', asAddr, run_loadVar_row w g ty ty cs (0, 0) d hg hu hd hi]
set_option maxRecDepth 100000 in
set_option maxHeartbeats 4000000 in
theorem next_none {w : World} {B nb : Nat} {nd : Int} {sc : Value} {sent : Int} {wv : Value} (h : NMem w B nb nd sc [] sent wv) :
  Calls Tryz.prog 43 #[.pointer (some ⟨nb, 0, none⟩)] w fun e w' => e = .returned (.tuple #[.agg #[i64 0, i64 0, i64 0, .string ⟨#[]⟩], i64 0, .bool false]) ∧ Below w.heap.size w w' := by
 have HM := Lib.hid h
 obtain ⟨a, c, e⟩ := h.row.expl
 subst e
 have eL := enters_of Tryz.func174 (by kernel_rfl) rfl
 have hnb := h.blk.lt
 have mL : ∀ v, Sem.run Tryz.prog (method 378 206 (.pointer (some ⟨nb, 2, none⟩)) "Len") (w.alloc v) = .ok (174, .slice a 0 c) (w.alloc v) := fun v => mLen (Below.cellE ((Below.refl _ _).alloc (Nat.le_refl _) v) h.c2)
 clear h
 go_enter Tryz.func43, Tryz.ntmps43
 go_wp2_with fail
 refine (queue_any nb _).mono ?_
 rintro e w2 ⟨rfl, rfl⟩
 go_wp2_with fail
 refine (len_any a 0 c _).mono ?_
 rintro e w2 ⟨rfl, rfl⟩
 go_wp2_with fail
 refine bodyPost_ret (ret_cell_tmp2 rfl rfl (Blk.new w _ 31) Tryz.underlying31 rfl (by kernel_rfl)) rfl ?_
 exact ⟨rfl, (Below.refl _ _).alloc (Nat.le_refl _) _⟩
set_option maxRecDepth 100000 in
set_option maxHeartbeats 4000000 in
theorem next_some {w : World} {B nb : Nat} {nd : Int} {sc : Value} {L : List Pc} {sent : Int} {wv : Value} (h : NMem w B nb nd sc L sent wv) (hn : 0 < L.length) (hl : L.length ≤ 900000) :
  Calls Tryz.prog 43 #[.pointer (some ⟨nb, 0, none⟩)] w fun e w' => ∃ p r wv', e = .returned (.tuple #[.agg (encM p.m), i64 p.at_, .bool true]) ∧ (r ++ [p]).Perm L ∧ NMem w' B nb nd sc r sent wv' ∧ Tn (OwnN nb wv) w w' ∧ ∀ k, wv'.ownBlock = some k → wv.ownBlock = some k := by
 have HM := Lib.hid h
 have HL := Lib.hid hl
 have HN := Lib.hid hn
 obtain ⟨a, c, e⟩ := h.row.expl
 subst e
 have eL := enters_of Tryz.func174 (by kernel_rfl) rfl
 have hnb := h.blk.lt
 obtain ⟨n, hn'⟩ : ∃ n, n = L.length := ⟨_, rfl⟩
 have h0 : ¬ n = 0 := by omega
 rw [← hn'] at h HM ⊢
 have mL : ∀ v, Sem.run Tryz.prog (method 378 206 (.pointer (some ⟨nb, 2, none⟩)) "Len") (w.alloc v) = .ok (174, .slice a n c) (w.alloc v) := fun v => mLen (Below.cellE ((Below.refl _ _).alloc (Nat.le_refl _) v) h.c2)
 clear h hn hl hn'
 go_enter Tryz.func43, Tryz.ntmps43
 go_wp2_with fail
 refine (queue_any nb _).mono ?_
 rintro e w2 ⟨rfl, rfl⟩
 go_wp2_with fail
 refine (len_any a n c _).mono ?_
 rintro e w2 ⟨rfl, rfl⟩
 go_wp2_with fail
 obtain ⟨W1, hW1⟩ : ∃ W1, W1 = w.alloc (.cells #[.int .i64 0, .int .i64 0, .int .i64 0, .string ⟨#[]⟩] 31) := ⟨_, rfl⟩
 rw [← hW1]
 have B1 : Hid (Below w.heap.size w W1) := Lib.hid (by rw [hW1]; exact (Below.refl _ _).alloc (Nat.le_refl _) _)
 have KM1 : Hid (Blk W1 w.heap.size #[.int .i64 0, .int .i64 0, .int .i64 0, .string ⟨#[]⟩] 31) := Lib.hid (by rw [hW1]; exact Blk.new _ _ _)
 have hz1 : W1.heap.size = w.heap.size + 1 := by rw [hW1]; simp
 have HM1 := Lib.hid (HM.out.below B1.out)
 clear hW1 mL
 refine (queue_any nb _).mono ?_
 rintro e w2 ⟨rfl, rfl⟩
 go_wp2_with fail
 refine (hpop_any HM1.out HN.out HL.out).mono ?_
 rintro e w3 ⟨p, r, wv', rfl, hp, hm, ht, ho⟩
 have HP := Lib.hid hp
 have HM3 := Lib.hid hm
 have HT3 := Lib.hid ht
 have HO3 := Lib.hid ho
 have KM3 : Hid (Blk w3 w.heap.size #[.int .i64 0, .int .i64 0, .int .i64 0, .string ⟨#[]⟩] 31) := Lib.hid (ht.blk KM1.out (fun e => e.elim (fun e => by omega) (fun e => by have := (row_lt HM.out.row _ e).2; omega)))
 have hta := tassert (pcV p) w3
 clear hp hm ht ho
 unfold pcV at hta ⊢
 go_wp2_with fail
 obtain ⟨W4, hW4⟩ : ∃ W4, W4 = w3.alloc (.cells #[.int .i64 p.m.frm, .int .i64 p.m.to, .int .i64 p.m.num, .string ⟨p.m.text.toArray⟩, .int .i64 p.at_, .int .i64 p.sent] 182) := ⟨_, rfl⟩
 rw [← hW4]
 have B4 : Hid (Below w3.heap.size w3 W4) := Lib.hid (by rw [hW4]; exact (Below.refl _ _).alloc (Nat.le_refl _) _)
 have KP4 : Hid (Blk W4 w3.heap.size #[.int .i64 p.m.frm, .int .i64 p.m.to, .int .i64 p.m.num, .string ⟨p.m.text.toArray⟩, .int .i64 p.at_, .int .i64 p.sent] 182) := Lib.hid (by rw [hW4]; exact Blk.new _ _ _)
 have KM4 := Lib.hid (KM3.out.below B4.out KM3.out.lt)
 have HM4 := Lib.hid (HM3.out.below B4.out)
 have hlt3 : w.heap.size < w3.heap.size := KM3.out.lt
 clear hW4 hta
 have p0 : W4.cell? ⟨w3.heap.size, 0, none⟩ = some (.int .i64 p.m.frm) := KP4.out.cell 0
 have p1 : W4.cell? ⟨w3.heap.size, 1, none⟩ = some (.int .i64 p.m.to) := KP4.out.cell 1
 have p2 : W4.cell? ⟨w3.heap.size, 2, none⟩ = some (.int .i64 p.m.num) := KP4.out.cell 2
 have p3 : W4.cell? ⟨w3.heap.size, 3, none⟩ = some (.string ⟨p.m.text.toArray⟩) := KP4.out.cell 3
 have p4 : W4.cell? ⟨w3.heap.size, 4, none⟩ = some (.int .i64 p.at_) := KP4.out.cell 4
 have m0 : W4.cell? ⟨w.heap.size, 0, none⟩ = some (.int .i64 0) := KM4.out.cell 0
 have m1 : W4.cell? ⟨w.heap.size, 1, none⟩ = some (.int .i64 0) := KM4.out.cell 1
 have m2 : W4.cell? ⟨w.heap.size, 2, none⟩ = some (.int .i64 0) := KM4.out.cell 2
 have m3 : W4.cell? ⟨w.heap.size, 3, none⟩ = some (.string ⟨#[]⟩) := KM4.out.cell 3
 have f0 : W4.frozen? ⟨w.heap.size, 0, none⟩ = false := KM4.out.frozen 0
 have f1 : W4.frozen? ⟨w.heap.size, 1, none⟩ = false := KM4.out.frozen 1
 have f2 : W4.frozen? ⟨w.heap.size, 2, none⟩ = false := KM4.out.frozen 2
 have f3 : W4.frozen? ⟨w.heap.size, 3, none⟩ = false := KM4.out.frozen 3
 have T5 : Hid (∀ u0 u1 u2 u3, Tn (fun b => b = w.heap.size) W4 ((((W4.setCell ⟨w.heap.size, 0, none⟩ u0).setCell ⟨w.heap.size, 1, none⟩ u1).setCell ⟨w.heap.size, 2, none⟩ u2).setCell ⟨w.heap.size, 3, none⟩ u3).drew) := Lib.hid fun u0 u1 u2 u3 => (((((Tn.refl (fun b => b = w.heap.size) W4).setCell (p := ⟨w.heap.size, 0, none⟩) (.inl rfl) u0).setCell (p := ⟨w.heap.size, 1, none⟩) (.inl rfl) u1).setCell (p := ⟨w.heap.size, 2, none⟩) (.inl rfl) u2).setCell (p := ⟨w.heap.size, 3, none⟩) (.inl rfl) u3).drewN 1
 have K5 : Hid (∀ u0 u1 u2 u3, Blk ((((W4.setCell ⟨w.heap.size, 0, none⟩ u0).setCell ⟨w.heap.size, 1, none⟩ u1).setCell ⟨w.heap.size, 2, none⟩ u2).setCell ⟨w.heap.size, 3, none⟩ u3).drew w.heap.size #[u0, u1, u2, u3] 31) := Lib.hid fun u0 u1 u2 u3 => Blk.drew' (Blk.set (Blk.set (Blk.set (Blk.set KM4.out 0 u0) 1 u1) 2 u2) 3 u3)
 go_region
 all_goals go_wp2_with fail
 refine bodyPost_ret (ret_cell_tmp2 rfl rfl (K5.out _ _ _ _) Tryz.underlying31 rfl (by kernel_rfl)) rfl ?_
 refine ⟨p, r, wv', rfl, HP.out, HM4.out.keep (T5.out _ _ _ _) fun k e e2 => ?_, ?_, HO3.out⟩
 ·have h1 : k = w.heap.size := e
  rcases e2 with e2 | e2
  ·omega
  ·have := (row_lt HM.out.row k (HO3.out k e2)).2; omega
 ·exact Tn.up (((Tn.of_below B1.out).trans HT3.out).trans (Tn.of_below B4.out)) (T5.out _ _ _ _) fun k e => .inr (by have h1 : k = w.heap.size := e; omega)
end Go.Proofs.YtdojgbpaheadnaaGreat

/- A new net. -/
namespace Go.Proofs.YtdojgbpaheadnaaGreat
open Go.RowKit Go.Shelf Go.Maps
attribute [local go_sem] over_cell over_frozen
theorem run_eqs_nil {P : Program} (w : World) (t e : TypeId) (a : Option Addr) (l c : Nat) (h : P.underlying t = some (.slice e)) : (binOp .eql t (.slice a l c) (.slice none 0 0)).run P w = .ok (.bool a.isNone) w := by
 have := run_equal_slice_nil w t e a l c h
 simp [binOp, this]
attribute [local go_sem] run_eqs_nil
theorem infoTr : (Tryz.prog.info? 90).map (fun i => (i.zero, i.size, i.bytes)) = some (some (.agg #[.bool false, i64 0, i64 0]), 3, 24) := by kernel_rfl
theorem info_partsTr : ∃ i, Tryz.prog.info? 90 = some i ∧ i.zero = some (.agg #[.bool false, i64 0, i64 0]) ∧ i.size = 3 ∧ i.bytes = 24 := by
 obtain ⟨i, hi, h⟩ := Option.map_eq_some_iff.1 infoTr
 injection h with h1 h2
 injection h2 with h2 h3
 exact ⟨i, hi, h1, h2, h3⟩
theorem one_tr (w : World) (c : List Value) (x : Tr) (h : TrR w c x) : ∀ u ∈ c, u.oneCell' = true := by
 unfold TrR at h; subst h
 simp [Value.oneCell']
set_option maxRecDepth 100000 in
set_option maxHeartbeats 2000000 in
theorem trclone_any {w : World} {v : Value} {P : Nat → Prop} {S : List Tr} (h : SlOf 3 P TrR w v S) (hl : S.length ≤ 1000000) :
  Calls Tryz.prog 78 #[v] w fun e w' => ∃ v', e = .returned v' ∧ OwnOf 90 3 w.heap.size TrR w' v' S ∧ Below w.heap.size w w' := by
 obtain ⟨i0, hi, hz1, hz2, hz3⟩ := info_partsTr
 obtain ⟨css, hs, hA, hZ⟩ := SlOf.src h
 have hs' := hs
 obtain ⟨a, c, rfl, -⟩ := h
 obtain ⟨n, hn⟩ : ∃ n, n = S.length := ⟨_, rfl⟩
 have hl' : n ≤ 1000000 := by omega
 cases a with
 | none =>
  have hS : S = [] := by
   rcases hs with ⟨c', e, h0, _⟩ | ⟨ad, c', e, _⟩
   ·exact List.eq_nil_of_length_eq_zero h0
   ·injection e with e; cases e
  subst hS
  have hn0 : n = 0 := by simpa using hn
  clear hs hs' hl hn hA
  subst hn0
  have he := run_eqs_nil (P := Tryz.prog) w 68 90 none 0 c Tryz.underlying68
  go_enter Tryz.func78, Tryz.ntmps78
  go_wp2_with fail
  go_ret
  exact ⟨_, rfl, OwnOf.nil _ _ _ _ _, Below.refl _ _⟩
 | some ad =>
  have HS := Lib.hid hs
  have HA := Lib.hid hA
  have HON := Lib.hid (one_flat (fun c x h => one_tr w c x h) hA)
  clear hs hs' hA
  rw [← hn] at HS ⊢
  have NN := Lib.hid hn
  clear hn hl
  have he := run_eqs_nil (P := Tryz.prog) w 68 90 (some ad) n c Tryz.underlying68
  go_enter Tryz.func78, Tryz.ntmps78
  go_wp2_with (first
   | (at_builtin; go_loud (refine wpList_append_all rfl (.tmp 5) (.tmp 6) 68 rfl w.heap.size 90 i0 _ 3 24 Tryz.underlying68 hi hz1 hz2 hz3 rfl (by omega) _ 0 [] rfl (row_fresh w w.heap.size #[] 90 3 0 rfl (by unfold maxLen; omega) (Nat.le_refl _)) n css.flatten _ rfl (HS.out.below ((Below.refl _ _).alloc (Nat.le_refl _) _)) HON.out (by unfold maxLen; omega) (by omega) (by simp) ?_)
      intro v' w4 hr4 hg4 ho4; have HR4 := Lib.hid hr4; have HG4 := Lib.hid hg4; clear hr4 hg4 ho4))
  go_ret
  refine ⟨v', rfl, ⟨css, ?_, HA.out.mono fun _ _ h => h, hZ⟩, below_grown ((Below.refl _ _).alloc (Nat.le_refl _) _) (by simp) HG4.out (fun r e => by have e' : some w.heap.size = some r := e; injection e' with e'; omega)⟩
  have h1 := HR4.out
  rw [Nat.zero_add, List.nil_append, NN.out] at h1
  exact h1
structure NetM (w : World) (B nb : Nat) (nd : Int) (sc : Value) (S : List Tr) (L : List Pc) (sent : Int) (wv : Value) : Prop where
 mem : NMem w B nb nd sc L sent wv
 scr : OwnOf 90 3 B TrR w sc S
 ne1 : sc.ownBlock ≠ some nb
 ne2 : ∀ k, sc.ownBlock = some k → wv.ownBlock ≠ some k
def OwnT (nb : Nat) (sc wv : Value) (k : Nat) : Prop := OwnN nb wv k ∨ sc.ownBlock = some k
section
variable {w w' : World} {B nb : Nat} {nd : Int} {sc : Value} {S : List Tr} {L : List Pc} {sent : Int} {wv : Value}
theorem NetM.keep {F : Nat → Prop} (h : NetM w B nb nd sc S L sent wv) (t : Tn F w w') (hF : ∀ k, F k → OwnT nb sc wv k → False) : NetM w' B nb nd sc S L sent wv :=
 ⟨h.mem.keep t fun k hk ho => hF k hk (.inl ho), h.scr.keep t (fun r e _ _ hr => hF r hr (.inr e)) (fun _ _ h => h), h.ne1, h.ne2⟩
theorem NetM.own_lt (h : NetM w B nb nd sc S L sent wv) {k : Nat} (hk : OwnT nb sc wv k) : B ≤ k ∧ k < w.heap.size := hk.elim h.mem.own_lt fun e => h.scr.lt k e
theorem NetM.step {L' : List Pc} {sent' : Int} {wv' : Value} (h : NetM w B nb nd sc S L sent wv) (hm : NMem w' B nb nd sc L' sent' wv') (t : Tn (OwnN nb wv) w w') (ho : ∀ k, wv'.ownBlock = some k → wv.ownBlock = some k ∨ w.heap.size ≤ k) : NetM w' B nb nd sc S L' sent' wv' :=
 ⟨hm, h.scr.keep t (fun r e _ _ hr => hr.elim (fun e2 => h.ne1 (e.trans (congrArg some e2))) fun e2 => h.ne2 r e e2) (fun _ _ h => h), h.ne1, fun k e e2 => (ho k e2).elim (h.ne2 k e) fun h9 => by have := (h.scr.lt k e).2; omega⟩
end
set_option maxRecDepth 100000 in
set_option maxHeartbeats 2000000 in
theorem nnew_any {w : World} {v : Value} {P : Nat → Prop} {S : List Tr} (nd : Int) (h : SlOf 3 P TrR w v S) (hl : S.length ≤ 1000000) :
  Calls Tryz.prog 39 #[i64 nd, v] w fun e w' => ∃ nb sc, e = .returned (.pointer (some ⟨nb, 0, none⟩)) ∧ NetM w' w.heap.size nb nd sc S [] 0 (.slice none 0 0) ∧ Below w.heap.size w w' := by
 have HC := Lib.hid (trclone_any h hl)
 clear h hl
 go_enter Tryz.func39, Tryz.ntmps39
 go_wp2_with fail
 refine HC.out.mono ?_
 rintro e w2 ⟨v', rfl, ho, hb⟩
 have HO := Lib.hid ho
 have HB := Lib.hid hb
 obtain ⟨css, hr, -⟩ := ho
 obtain ⟨a, c, rfl, -⟩ := row_cellz hr
 clear hr hb HC
 go_wp2_with fail
 go_ret
 refine ⟨_, _, rfl, ⟨⟨HB.out.size, Blk.new _ _ _, World.ownsRow_nil _ _ _ _⟩, HO.out.keep (F := fun _ => False) ((Tn.refl _ w2).alloc _) (fun _ _ _ _ h => h) (fun _ _ h => h), fun e => ?_, fun k e e2 => by cases e2⟩, HB.out.alloc HB.out.size _⟩
 have := (HO.out.lt _ e).2
 omega
end Go.Proofs.YtdojgbpaheadnaaGreat
