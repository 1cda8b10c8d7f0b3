/- Several machines side by side in memory. -/
import Derived.Test.YtdojgbpaheadnaaGreatQLF
import Derived.Test.YtdojgbpaheadnaaGreatQBT
import Derived.Test.YtdojgbpaheadnaaGreatQA
import Derived.Test.YtdojgbpaheadnaaGreatQLG
set_option linter.unusedVariables false
set_option linter.unusedSimpArgs false

namespace Go.Proofs.YtdojgbpaheadnaaGreat
open Go.RowKit Go.Shelf Go.Maps Go.ChangeMaps

structure Assn where
 P : World → (Nat → Prop) → Prop
 keep : ∀ {w w' : World} {F O : Nat → Prop}, P w O → Tn F w w' → (∀ k, F k → O k → False) → P w' O
def Sys (B : Nat) (Z : Nat → Nat → Prop) (w : World) (Ms : List Assn) : Prop :=
 ∃ Os : Nat → Nat → Prop, (∀ i (M : Assn), Ms[i]? = some M → M.P w (Os i)) ∧ (∀ i j k, i ≠ j → Os i k → Os j k → False) ∧ (∀ i k, Os i k → B ≤ k ∧ k < w.heap.size ∧ ¬ Z i k) ∧ ∀ i k, Z i k → k < w.heap.size
section
variable {B : Nat} {Z Z' : Nat → Nat → Prop} {w w' : World} {Ms : List Assn}
theorem Sys.weak (h : Sys B Z w Ms) (hZ : ∀ i k, Z' i k → Z i k) : Sys B Z' w Ms := by
 obtain ⟨Os, h1, h2, h3, h4⟩ := h
 exact ⟨Os, h1, h2, fun i k hk => ⟨(h3 i k hk).1, (h3 i k hk).2.1, fun e => (h3 i k hk).2.2 (hZ i k e)⟩, fun i k hk => h4 i k (hZ i k hk)⟩
theorem Sys.up (h : Sys B Z w Ms) (hb : Below w.heap.size w w') : Sys B (fun i k => Z i k ∨ (w.heap.size ≤ k ∧ k < w'.heap.size)) w' Ms := by
 obtain ⟨Os, h1, h2, h3, h4⟩ := h
 have hs := hb.size
 refine ⟨Os, fun i M hi => M.keep (h1 i M hi) (Tn.of_below (F := fun _ => False) hb) fun _ h => h.elim, h2, fun i k hk => ⟨(h3 i k hk).1, by have := (h3 i k hk).2.1; omega, fun e => ?_⟩, fun i k hk => ?_⟩
 ·have := h3 i k hk
  rcases e with e | e
  ·exact this.2.2 e
  ·omega
 ·rcases hk with e | e
  ·have := h4 i k e; omega
  ·exact e.2
theorem Sys.up' (h : Sys B Z w Ms) (hb : Below w.heap.size w w') : Sys B Z w' Ms := (h.up hb).weak fun _ _ h => .inl h
theorem Sys.other {F : Nat → Prop} (h : Sys B Z w Ms) (t : Tn F w w') (hF : ∀ i k, F k → k < B ∨ Z i k) : Sys B Z w' Ms := by
 obtain ⟨Os, h1, h2, h3, h4⟩ := h
 refine ⟨Os, fun i M hi => M.keep (h1 i M hi) t fun k hk ho => ?_, h2, fun i k hk => ⟨(h3 i k hk).1, Nat.lt_of_lt_of_le (h3 i k hk).2.1 t.size, (h3 i k hk).2.2⟩, fun i k hk => Nat.lt_of_lt_of_le (h4 i k hk) t.size⟩
 have := h3 i k ho
 rcases hF i k hk with e | e
 ·omega
 ·exact this.2.2 e
theorem Sys.add {M : Assn} {O : Nat → Prop} (h : Sys B Z w Ms) (hb : Below w.heap.size w w') (hB : B ≤ w.heap.size) (hM : M.P w' O) (hO : ∀ k, O k → w.heap.size ≤ k ∧ k < w'.heap.size) : Sys B Z w' (Ms ++ [M]) := by
 obtain ⟨Os, h1, h2, h3, h4⟩ := h
 have hs := hb.size
 refine ⟨fun i k => (i < Ms.length ∧ Os i k) ∨ (i = Ms.length ∧ O k), fun i N hi => ?_, fun i j k hij => ?_, fun i k => ?_, fun i k hk => Nat.lt_of_lt_of_le (h4 i k hk) hs⟩
 ·by_cases hlt : i < Ms.length
  ·rw [List.getElem?_append_left hlt] at hi
   have e : (fun k => (i < Ms.length ∧ Os i k) ∨ (i = Ms.length ∧ O k)) = Os i := funext fun k => propext ⟨fun h => h.elim (·.2) fun h => by omega, fun h => .inl ⟨hlt, h⟩⟩
   (try dsimp only); rw [e]
   exact N.keep (h1 i N hi) (Tn.of_below (F := fun _ => False) hb) fun _ h => h.elim
  ·have hi2 : i = Ms.length := by
    have := (List.getElem?_eq_some_iff.1 hi).1
    rw [List.length_append] at this; simp at this; omega
   subst hi2
   obtain rfl : M = N := by simpa using hi
   have e : (fun k => (Ms.length < Ms.length ∧ Os Ms.length k) ∨ (Ms.length = Ms.length ∧ O k)) = O := funext fun k => propext ⟨fun h => h.elim (fun h => by omega) (·.2), fun h => .inr ⟨rfl, h⟩⟩
   (try dsimp only); rw [e]
   exact hM
 ·rintro (⟨a1, a2⟩ | ⟨a1, a2⟩) (⟨b1, b2⟩ | ⟨b1, b2⟩)
  ·exact h2 i j k hij a2 b2
  ·have := (h3 i k a2).2.1; have := (hO k b2).1; omega
  ·have := (h3 j k b2).2.1; have := (hO k a2).1; omega
  ·omega
 ·rintro (⟨a1, a2⟩ | ⟨a1, a2⟩)
  ·have := h3 i k a2; exact ⟨this.1, by omega, this.2.2⟩
  ·have := hO k a2; exact ⟨by omega, this.2, fun e => by have := h4 i k e; omega⟩
theorem Sys.nil (B : Nat) (w : World) : Sys B (fun _ _ => False) w [] := ⟨fun _ _ => False, fun i M h => by simp at h, fun _ _ _ _ h => h.elim, fun _ _ h => h.elim, fun _ _ h => h.elim⟩
theorem Sys.work {i : Nat} {M M' : Assn} (h : Sys B Z w Ms) (hB : B ≤ w.heap.size) (hi : Ms[i]? = some M) {f : Nat} {args : Array Value} {Post : Ending → World → Prop}
  (call : ∀ O, M.P w O → Calls Tryz.prog f args w fun e w' => Post e w' ∧ ∃ O', M'.P w' O' ∧ Tn O w w' ∧ ∀ k, O' k → k < w'.heap.size ∧ (O k ∨ w.heap.size ≤ k)) :
  Calls Tryz.prog f args w fun e w' => Post e w' ∧ Sys B (fun j k => Z j k ∨ (j ≠ i ∧ w.heap.size ≤ k ∧ k < w'.heap.size)) w' (Ms.set i M') ∧ Tn (fun k => B ≤ k ∧ ¬ Z i k) w w' := by
 obtain ⟨Os, h1, h2, h3, h4⟩ := h
 refine (call _ (h1 i M hi)).mono ?_
 rintro e w' ⟨hp, O', hM, ht, hO⟩
 have hs := ht.size
 refine ⟨hp, ⟨fun j k => (j = i ∧ O' k) ∨ (j ≠ i ∧ Os j k), fun j N hj => ?_, fun j l k hjl => ?_, fun j k => ?_, fun j k hk => ?_⟩, ht.mono fun k hk => ⟨(h3 i k hk).1, (h3 i k hk).2.2⟩⟩
 ·by_cases e : j = i
  ·subst e
   rw [List.getElem?_set_self (List.getElem?_eq_some_iff.1 hi).1] at hj
   obtain rfl : M' = N := by simpa using hj
   have e : (fun k => (j = j ∧ O' k) ∨ (j ≠ j ∧ Os j k)) = O' := funext fun k => propext ⟨fun h => h.elim (·.2) fun h => absurd rfl h.1, fun h => .inl ⟨rfl, h⟩⟩
   (try dsimp only); rw [e]; exact hM
  ·rw [List.getElem?_set_ne (Ne.symm e)] at hj
   have e' : (fun k => (j = i ∧ O' k) ∨ (j ≠ i ∧ Os j k)) = Os j := funext fun k => propext ⟨fun h => h.elim (fun h => absurd h.1 e) (·.2), fun h => .inr ⟨e, h⟩⟩
   (try dsimp only); rw [e']
   exact N.keep (h1 j N hj) ht fun k hk hk' => h2 i j k (Ne.symm e) hk hk'
 ·rintro (⟨a1, a2⟩ | ⟨a1, a2⟩) (⟨b1, b2⟩ | ⟨b1, b2⟩)
  ·omega
  ·rcases (hO k a2).2 with h | h
   ·exact h2 i l k (Ne.symm b1) h b2
   ·have := (h3 l k b2).2.1; omega
  ·rcases (hO k b2).2 with h | h
   ·exact h2 i j k (Ne.symm a1) h a2
   ·have := (h3 j k a2).2.1; omega
  ·exact h2 j l k hjl a2 b2
 ·rintro (⟨a1, a2⟩ | ⟨a1, a2⟩)
  ·subst a1
   have h5 := hO k a2
   refine ⟨?_, h5.1, fun e => ?_⟩
   ·rcases h5.2 with h | h
    ·exact (h3 j k h).1
    ·omega
   ·rcases e with e | e
    ·rcases h5.2 with h | h
     ·exact (h3 j k h).2.2 e
     ·have := h4 j k e; omega
    ·exact e.1 rfl
  ·have := h3 j k a2
   refine ⟨this.1, by omega, fun e => ?_⟩
   rcases e with e | e
   ·exact this.2.2 e
   ·omega
 ·rcases hk with e | e
  ·have := h4 j k e; omega
  ·exact e.2.2
theorem Sys.see {i : Nat} {M : Assn} (h : Sys B Z w Ms) (hi : Ms[i]? = some M) : ∃ O, M.P w O ∧ ∀ k, O k → B ≤ k ∧ k < w.heap.size ∧ ¬ Z i k := by
 obtain ⟨Os, h1, _, h3, _⟩ := h
 exact ⟨_, h1 i M hi, h3 i⟩
end
def asrA (B b N : Nat) (s : Asr) : Assn where
 P := fun w O => ∃ mv, AMem w B b s mv N ∧ O = OwnA b mv
 keep := by rintro w w' F O ⟨mv, h, rfl⟩ t hF; exact ⟨mv, h.keep t hF, rfl⟩
def brkA (B b N : Nat) (s : Brk) : Assn where
 P := fun w O => ∃ rv mv G o, BMem w B b s rv mv G o N ∧ O = fun k => o k ≠ 0
 keep := by
  rintro w w' F O ⟨rv, mv, G, o, h, rfl⟩ t hF
  exact ⟨rv, mv, G, o, h.keep t fun k hk => by
   rcases Nat.eq_zero_or_pos (o k) with h | h
   ·exact h
   ·exact (hF k hk (by omega)).elim, rfl⟩
def lenA (B b : Nat) (s : Len) : Assn where
 P := fun w O => ∃ hv mv, LMem w B b s hv mv 0 ∧ O = OwnL b hv mv
 keep := by rintro w w' F O ⟨hv, mv, h, rfl⟩ t hF; exact ⟨hv, mv, h.keep t hF, rfl⟩
def boxA (g : Nat) (cs : Array Value) (T : TypeId) : Assn where
 P := fun w O => Blk w g cs T ∧ O = fun k => k = g
 keep := by rintro w w' F O ⟨h, rfl⟩ t hF; exact ⟨t.blk h fun e => hF g e rfl, rfl⟩
theorem Sys.box {B : Nat} {Z : Nat → Nat → Prop} {w : World} {Ms : List Assn} (h : Sys B Z w Ms) (hB : B ≤ w.heap.size) (z cs : Array Value) (T : TypeId) : Sys B Z ((w.alloc (.cells z T)).setRow w.heap.size cs) (Ms ++ [boxA w.heap.size cs T]) ∧ Below w.heap.size w ((w.alloc (.cells z T)).setRow w.heap.size cs) := by
 have hb : Below w.heap.size w ((w.alloc (.cells z T)).setRow w.heap.size cs) := belowS ((Below.refl _ _).alloc (Nat.le_refl _) _) (Nat.le_refl _)
 have hk : Blk ((w.alloc (.cells z T)).setRow w.heap.size cs) w.heap.size cs T := setRow_heap _ _ _ _ _ _ (Blk.new w z T)
 exact ⟨h.add hb hB (O := fun k => k = w.heap.size) ⟨hk, rfl⟩ fun k e => ⟨by omega, by have := hk.lt; omega⟩, hb⟩
theorem Sys.take_in {B g : Nat} {Z : Nat → Nat → Prop} {w : World} {Ms : List Assn} {cs : Array Value} {T : TypeId} (h : Sys B Z w Ms) (hg : Blk w g cs T) (hB : B ≤ g) (hn : ∀ i (M : Assn) O, Ms[i]? = some M → M.P w O → (∀ k, O k → ¬ Z i k) → ¬ O g) : Sys B (fun i k => Z i k ∧ k ≠ g) w (Ms ++ [boxA g cs T]) := by
 obtain ⟨Os, h1, h2, h3, h4⟩ := h
 refine ⟨fun i k => (i < Ms.length ∧ Os i k) ∨ (i = Ms.length ∧ k = g), fun i N hi => ?_, fun i j k hij => ?_, fun i k => ?_, fun i k hk => h4 i k hk.1⟩
 ·by_cases hlt : i < Ms.length
  ·rw [List.getElem?_append_left hlt] at hi
   have e : (fun k => (i < Ms.length ∧ Os i k) ∨ (i = Ms.length ∧ k = g)) = Os i := funext fun k => propext ⟨fun h => h.elim (·.2) fun h => by omega, fun h => .inl ⟨hlt, h⟩⟩
   (try dsimp only); rw [e]
   exact h1 i N hi
  ·have hi2 : i = Ms.length := by
    have := (List.getElem?_eq_some_iff.1 hi).1
    rw [List.length_append] at this; simp at this; omega
   subst hi2
   obtain rfl : boxA g cs T = N := by simpa using hi
   have e : (fun k => (Ms.length < Ms.length ∧ Os Ms.length k) ∨ (Ms.length = Ms.length ∧ k = g)) = fun k => k = g := funext fun k => propext ⟨fun h => h.elim (fun h => by omega) (·.2), fun h => .inr ⟨rfl, h⟩⟩
   (try dsimp only); rw [e]
   exact ⟨hg, rfl⟩
 ·have key : ∀ i, i < Ms.length → ¬ Os i g := fun i hi => hn i Ms[i] (Os i) (List.getElem?_eq_getElem hi) (h1 i _ (List.getElem?_eq_getElem hi)) fun k hk => (h3 i k hk).2.2
  rintro (⟨a1, a2⟩ | ⟨a1, a2⟩) (⟨b1, b2⟩ | ⟨b1, b2⟩)
  ·exact h2 i j k hij a2 b2
  ·exact key i a1 (b2 ▸ a2)
  ·exact key j b1 (a2 ▸ b2)
  ·omega
 ·rintro (⟨a1, a2⟩ | ⟨a1, a2⟩)
  ·exact ⟨(h3 i k a2).1, (h3 i k a2).2.1, fun e => (h3 i k a2).2.2 e.1⟩
  ·subst a1 a2; exact ⟨hB, hg.lt, fun e => e.2 rfl⟩
theorem Sys.blk {B i g : Nat} {Z : Nat → Nat → Prop} {w : World} {Ms : List Assn} {cs : Array Value} {T : TypeId} (h : Sys B Z w Ms) (hi : Ms[i]? = some (boxA g cs T)) : Blk w g cs T := by
 obtain ⟨O, h1, -⟩ := h.see hi
 exact h1.1
theorem AMem.no_msg {w : World} {B b N g : Nat} {s : Asr} {mv : Value} {cs : Array Value} (h : AMem w B b s mv N) (hg : Blk w g cs 31) : ¬ OwnA b mv g := by
 rintro (rfl | e)
 ·have := h.blk.symm.trans hg
  simp at this
 ·rcases h.map with ⟨e1, _⟩ | ⟨mb, n, f, e1, hm, _⟩
  ·rw [e] at e1; cases e1
  ·rw [e] at e1; injection e1 with e1; injection e1 with e1; subst e1
   exact absurd hg (by
    obtain ⟨D, ⟨es, clock, hb, _⟩, _⟩ := hm
    unfold Blk
    rw [hb]
    simp)
section
variable {B0 B b N : Nat} {Z : Nat → Nat → Prop} {w : World} {Ms : List Assn} {i : Nat}
def Ans (ms : List Msg) (w : World) (e : Ending) (w' : World) : Prop := ∃ v, e = .returned v ∧ MsgsAt w' w.heap.size v ms
def Ans2 (ms : List Msg) (c : Int) (w : World) (e : Ending) (w' : World) : Prop := ∃ v, e = .returned (.tuple #[v, i64 c]) ∧ MsgsAt w' w.heap.size v ms
def After (B i : Nat) (Z : Nat → Nat → Prop) (w : World) (Ms : List Assn) (w' : World) : Prop := Sys B (fun j k => Z j k ∨ (j ≠ i ∧ w.heap.size ≤ k ∧ k < w'.heap.size)) w' Ms ∧ Tn (fun k => B ≤ k ∧ ¬ Z i k) w w'
theorem asr_take {s : Asr} (h : Sys B0 Z w Ms) (hB : B0 ≤ w.heap.size) (hi : Ms[i]? = some (asrA B b N s)) (m : Msg) (hN : N < 90000) (ht : m.text.length ≤ 1000000) :
  Calls Tryz.prog 22 #[.pointer (some ⟨b, 0, none⟩), .agg (encM m)] w fun e w' => Ans (s.take m).2 w e w' ∧ After B0 i Z w (Ms.set i (asrA B b (N + 1) (s.take m).1)) w' := by
 refine h.work hB hi fun O hO => ?_
 obtain ⟨mv, hM, rfl⟩ := hO
 refine (aTake_any B b N s mv m w hM (Nat.le_trans hM.lo (Nat.le_of_lt hM.blk.lt)) hN ht).mono ?_
 rintro e w' ⟨v, rfl, h1, h2, h3⟩
 exact ⟨⟨v, rfl, h1⟩, _, ⟨mv, h2, rfl⟩, h3, fun k hk => ⟨(h2.own_lt hk).2, .inl hk⟩⟩
theorem asr_ask {s : Asr} (h : Sys B0 Z w Ms) (hB : B0 ≤ w.heap.size) (hi : Ms[i]? = some (asrA B b N s)) (n t : Int) (hN : N < 90000) (hn : I64 n) (ht : I64 t) :
  Calls Tryz.prog 20 #[.pointer (some ⟨b, 0, none⟩), i64 n, i64 t] w fun e w' => Ans2 (s.ask n t).1.2 (s.ask n t).2 w e w' ∧ After B0 i Z w (Ms.set i (asrA B b (N + 1) (s.ask n t).1.1)) w' := by
 refine h.work hB hi fun O hO => ?_
 obtain ⟨mv, hM, rfl⟩ := hO
 refine (ask_any B b N s mv n t w hM (Nat.le_trans hM.lo (Nat.le_of_lt hM.blk.lt)) hN hn ht).mono ?_
 rintro e w' ⟨v, mv', rfl, h1, h2, h3, h4⟩
 exact ⟨⟨v, rfl, h1⟩, _, ⟨mv', h2, rfl⟩, h3, fun k hk => ⟨(h2.own_lt hk).2, h4 k hk⟩⟩
theorem asr_ret {s : Asr} (h : Sys B0 Z w Ms) (hB : B0 ≤ w.heap.size) (hi : Ms[i]? = some (asrA B b N s)) (n : Int) (hN : N < 90000) (hn : I64 n) :
  Calls Tryz.prog 21 #[.pointer (some ⟨b, 0, none⟩), i64 n] w fun e w' => Ans2 (s.ret n).1.2 (s.ret n).2 w e w' ∧ After B0 i Z w (Ms.set i (asrA B b (N + 1) (s.ret n).1.1)) w' := by
 refine h.work hB hi fun O hO => ?_
 obtain ⟨mv, hM, rfl⟩ := hO
 refine (return_any B b N s mv n w hM (Nat.le_trans hM.lo (Nat.le_of_lt hM.blk.lt)) hN hn).mono ?_
 rintro e w' ⟨v, mv', rfl, h1, h2, h3, h4⟩
 exact ⟨⟨v, rfl, h1⟩, _, ⟨mv', h2, rfl⟩, h3, fun k hk => ⟨(h2.own_lt hk).2, h4 k hk⟩⟩
theorem asr_state {s : Asr} (h : Sys B0 Z w Ms) (hi : Ms[i]? = some (asrA B b N s)) (n : Int) (hn : I64 n) :
  Calls Tryz.prog 24 #[.pointer (some ⟨b, 0, none⟩), i64 n] w fun e w' => e = .returned (i64 (s.state n)) ∧ w' = w := by
 obtain ⟨O, ⟨mv, hM, -⟩, -⟩ := h.see hi
 exact state_any B b N s mv n hn w hM
theorem asr_here {s : Asr} (h : Sys B0 Z w Ms) (hi : Ms[i]? = some (asrA B b N s)) :
  Calls Tryz.prog 25 #[.pointer (some ⟨b, 0, none⟩)] w fun e w' => ∃ v, e = .returned v ∧ w'.ownsRow w.heap.size 3 1 v s.here.length (s.here.map (Value.int .i64)) ∧ Below w.heap.size w w' := by
 obtain ⟨O, ⟨mv, hM, -⟩, -⟩ := h.see hi
 exact aHere_any B b N s mv w hM
theorem brk_take {s : Brk} (h : Sys B0 Z w Ms) (hB : B0 ≤ w.heap.size) (hi : Ms[i]? = some (brkA B b N s)) (m : Msg) (hN : N < 90000) (ht : m.text.length ≤ 1000000) :
  Calls Tryz.prog 16 #[.pointer (some ⟨b, 0, none⟩), .agg (encM m)] w fun e w' => Ans (s.take m).2 w e w' ∧ After B0 i Z w (Ms.set i (brkA B b (N + 1) (s.take m).1)) w' := by
 refine h.work hB hi fun O hO => ?_
 obtain ⟨rv, mv, G, o, hM, rfl⟩ := hO
 refine (bTake_any B b N s rv mv G o m w hM (Nat.le_trans (hM.olt b (by rw [hM.ob]; decide)).1 (Nat.le_of_lt hM.blk.lt)) hN ht).mono ?_
 rintro e w' ⟨v, mv', G', o', rfl, h1, h2, h3, h4⟩
 exact ⟨⟨v, rfl, h1⟩, _, ⟨rv, mv', G', o', h2, rfl⟩, h3, fun k hk => ⟨(h2.olt k hk).2, h4 k hk⟩⟩
theorem len_take {s : Len} (h : Sys B0 Z w Ms) (hB : B0 ≤ w.heap.size) (hi : Ms[i]? = some (lenA B b s)) (m : Msg) (hs : s.sent < 9000) (ht : m.text.length ≤ 1000000) :
  Calls Tryz.prog 26 #[.pointer (some ⟨b, 0, none⟩), .agg (encM m)] w fun e w' => Ans (s.take m).2 w e w' ∧ After B0 i Z w (Ms.set i (lenA B b (s.take m).1)) w' := by
 refine h.work hB hi fun O hO => ?_
 obtain ⟨hv, mv, hM, rfl⟩ := hO
 refine (take_any B b s hv mv m w hM (Nat.le_trans hM.lo (Nat.le_of_lt hM.blk.lt)) (by omega) (by have := hM.len; omega) ht).mono ?_
 rintro e w' ⟨v, hv', mv', rfl, h1, h2, h3, h4⟩
 exact ⟨⟨v, rfl, h1⟩, _, ⟨hv', mv', h2, rfl⟩, h3, fun k hk => ⟨(h2.own_lt hk).2, h4 k hk⟩⟩
theorem len_here {s : Len} (h : Sys B0 Z w Ms) (hi : Ms[i]? = some (lenA B b s)) (hl : s.here.length ≤ 100000) :
  Calls Tryz.prog 28 #[.pointer (some ⟨b, 0, none⟩)] w fun e w' => ∃ v', e = .returned v' ∧ w'.ownsRow w.heap.size 3 1 v' s.here.length (s.here.map (Value.int .i64)) ∧ Below w.heap.size w w' := by
 obtain ⟨O, ⟨hv, mv, hM, -⟩, -⟩ := h.see hi
 exact here_any B b 0 s hv mv w hM hl
end
end Go.Proofs.YtdojgbpaheadnaaGreat

/- A broker, new; the only message of a list. -/
namespace Go.Proofs.YtdojgbpaheadnaaGreat
open Go.RowKit Go.Shelf Go.Maps Go.ChangeMaps

set_option maxRecDepth 100000 in
theorem newBroker_any (id : Int) (hid : I64 id) (D : List Int) (hl : D.length ≤ 1000) (hD : ∀ x ∈ D, I64 x) (v : Value) (B : Nat) (w : World) (h : w.ownsRow B 3 1 v D.length (D.map (Value.int .i64))) :
  Calls Tryz.prog 10 #[i64 id, v] w fun e w' => ∃ b rv o, e = .returned (.pointer (some ⟨b, 0, none⟩)) ∧ BMem w' w.heap.size b ⟨id, 0, D, []⟩ rv (.map none) [] o 0 ∧ Below w.heap.size w w' := by
 have H := Lib.hid h
 have HI := Lib.hid hid
 have HD := Lib.hid hD
 clear h hid hD
 go_enter Tryz.func10, Tryz.ntmps10
 go_wp2_with fail
 refine (clone_any H.out (by omega)).mono ?_
 rintro e w1 ⟨v1, rfl, hr, hb⟩
 have R1 := Lib.hid hr
 have B1 := Lib.hid hb
 obtain ⟨a1, c1, rfl, -⟩ := row_cell hr
 clear hr hb
 go_wp2_with fail
 obtain ⟨bb, hbb⟩ : ∃ bb, bb = w1.heap.size := ⟨_, rfl⟩
 obtain ⟨w2, hw2⟩ : ∃ w2, w2 = w1.alloc (.cells #[i64 id, i64 0, .slice a1 D.length c1, .map none] 58) := ⟨_, rfl⟩
 have L2 : Hid (Blk w2 bb #[i64 id, i64 0, .slice a1 D.length c1, .map none] 58) := Lib.hid (by rw [hw2, hbb]; exact Blk.new _ _ _)
 have R2 : Hid (w2.ownsRow w.heap.size 3 1 (.slice a1 D.length c1) D.length (D.map (Value.int .i64))) := Lib.hid (by rw [hw2]; exact R1.out.alloc _)
 have B2 : Hid (Below w.heap.size w w2) := Lib.hid (by rw [hw2]; exact B1.out.alloc B1.out.size _)
 have HB : Hid (bb = w1.heap.size) := Lib.hid hbb
 have NE : Hid ((Value.slice a1 D.length c1).ownBlock ≠ some bb) := Lib.hid fun e => by have := (row_lt R1.out bb e).2; have := HB.out; omega
 rw [← hw2, ← hbb]
 clear hw2 hbb
 go_ret
 refine ⟨bb, _, fun k => if k = bb then 1 else if (Value.slice a1 D.length c1).ownBlock = some k then 5 else 0, rfl, ⟨L2.out, R2.out, rfl, .inl ⟨rfl, rfl⟩, fun g hg => by simp at hg, List.Pairwise.nil, by (try dsimp only); rw [if_pos rfl], fun k hk => ?_, fun k hk => ?_, List.Pairwise.nil, ⟨by dsimp only; omega, by dsimp only; omega⟩, ⟨HI.out, hl, HD.out, fun c hc => by simp at hc⟩, ⟨by simp, by omega⟩⟩, B2.out⟩
 ·(try dsimp only)
  rw [if_neg (fun e => NE.out (by rw [← e]; exact hk)), if_pos hk]
 ·(try dsimp only at hk)
  by_cases e : k = bb
  ·subst e; exact ⟨by rw [HB.out]; exact B1.out.size, L2.out.lt⟩
  ·rw [if_neg e] at hk
   by_cases e2 : (Value.slice a1 D.length c1).ownBlock = some k
   ·exact row_lt R2.out k e2
   ·rw [if_neg e2] at hk; exact absurd rfl hk
theorem wpList_load_row {P : Program} {ops : Array Oper} {rest : List Oper} {o : Oper} {a : Act} {W : World} {Q : Exit → Act → World → Prop} (T : TypeId) (x : Operand) (hgd : o.guard = none) (ho : o.op = .load T x) {pb : Nat} {cells : Array Value} {d : TypeDesc}
  (hx : a.eval x = .pointer (some ⟨pb, 0, none⟩)) (h : Blk W pb cells T) (hu : P.underlying T = some d) (hd : (match d with | .struct _ | .array _ _ => true | _ => false) = true) (hi : (P.info? T).map (·.size) = some cells.size)
  (k : wpList P ops Q rest (a.put o.dst (.agg cells)) W) : wpList P ops Q (o :: rest) a W :=
 wpList_plain hgd fun _ hK => by
  unfold Oper.wp execOp
  simp only [ho, hx, Instr.loadAt, Instr.sureAddr, Sem.run_bind, Sem.run_pure, Result.andThen_ok, run_loadVar_row W pb T T cells (0, 0) d h hu hd hi]
  exact hK _ _ k
def noMsg : Msg := ⟨0, -1, 0, []⟩
def oneOf : List Msg → Msg
 | [m] => m
 | _ => noMsg
set_option maxRecDepth 100000 in
set_option maxHeartbeats 4000000 in
theorem one_any (v : Value) (B : Nat) (m : Msg) (w : World) (h : MsgsAt w B v [m]) :
  Calls Tryz.prog 49 #[v] w fun e w' => e = .returned (.agg (encM m)) ∧ Below w.heap.size w w' := by
 obtain ⟨g, hg, rfl, hm⟩ := h
 have M0 := Lib.hid hm
 obtain ⟨cm, hcm⟩ : ∃ cm, cm = encM m := ⟨_, rfl⟩
 have CM := Lib.hid hcm
 rw [← hcm] at M0 ⊢
 have HC : (Tryz.prog.info? 31).map (·.size) = some cm.size := by rw [CM.out]; kernel_rfl
 have HC2 : Hid (cm.all (·.oneCell') = true) := Lib.hid (by rw [CM.out]; unfold encM strV; simp [Value.oneCell'])
 have HZ : cm.size = 4 := by rw [CM.out]; rfl
 clear hm hcm
 go_enter Tryz.func49, Tryz.ntmps49
 have B1 : Hid (Below w.heap.size w (w.alloc (.cells #[i64 0, i64 0, i64 0, .string { data := #[] }] 31))) := Lib.hid ((Below.refl _ _).alloc (Nat.le_refl _) _)
 have K1 : Hid (Blk (w.alloc (.cells #[i64 0, i64 0, i64 0, .string { data := #[] }] 31)) w.heap.size #[i64 0, i64 0, i64 0, .string { data := #[] }] 31) := Lib.hid (Blk.new _ _ _)
 have M1 := Lib.hid (M0.out.below B1.out M0.out.lt)
 have F := Lib.hid (belowS (cs := cm) B1.out (Nat.le_refl _))
 go_wp2_with (first
  | refine wpList_load_row 31 (.tmp 8) rfl rfl rfl M1.out Tryz.underlying31 rfl HC ?_
  | refine wpList_store_row rfl 31 (.tmp 2) (.tmp 9) rfl w.heap.size cm rfl rfl 31 _ K1.out HC HZ.symm HC2.out ?_)
 (try simp only [Exit.inBlock, Exit.then])
 refine bodyPost_ret (results_cell_row rfl _ _ w.heap.size 31 cm (0, 0) _ rfl (setRow_heap _ _ _ _ _ _ K1.out) Tryz.underlying31 rfl HC) rfl ?_
 exact ⟨rfl, F.out⟩
end Go.Proofs.YtdojgbpaheadnaaGreat
