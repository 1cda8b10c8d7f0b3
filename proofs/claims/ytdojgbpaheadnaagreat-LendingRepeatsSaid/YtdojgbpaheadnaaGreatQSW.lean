/- The machines with a net, side by side. -/
import Derived.Test.YtdojgbpaheadnaaGreatQSN
import Derived.Test.YtdojgbpaheadnaaGreatQA
import Derived.Test.YtdojgbpaheadnaaGreatQHF
import Derived.Test.YtdojgbpaheadnaaGreatQNN
import Derived.Test.YtdojgbpaheadnaaGreatQPP
set_option linter.unusedVariables false
set_option linter.unusedSimpArgs false

namespace Go.Proofs.YtdojgbpaheadnaaGreat
open Go.RowKit Go.Shelf Go.Maps Go.ChangeMaps

def exA {α : Type} (Φ : α → Prop) (M : α → Assn) : Assn where
 P := fun w O => ∃ x, Φ x ∧ (M x).P w O
 keep := by rintro w w' F O ⟨x, h1, h2⟩ t hF; exact ⟨x, h1, (M x).keep h2 t hF⟩
section
variable {B : Nat} {Z : Nat → Nat → Prop} {w : World} {Ms : List Assn}
theorem Sys.ex {α : Type} {Φ : α → Prop} {M : α → Assn} {i : Nat} (hi : i < Ms.length) (h : Sys B Z w (Ms.set i (exA Φ M))) : ∃ x, Φ x ∧ Sys B Z w (Ms.set i (M x)) := by
 obtain ⟨Os, h1, h2, h3, h4⟩ := h
 obtain ⟨x, hx, hP⟩ := h1 i (exA Φ M) (by rw [List.getElem?_set_self hi])
 refine ⟨x, hx, Os, fun j N hj => ?_, h2, h3, h4⟩
 by_cases e : j = i
 ·subst e
  rw [List.getElem?_set_self hi] at hj
  obtain rfl : M x = N := by simpa using hj
  exact hP
 ·rw [List.getElem?_set_ne (Ne.symm e)] at hj
  exact h1 j N (by rw [List.getElem?_set_ne (Ne.symm e)]; exact hj)
theorem Sys.workE {α : Type} {i : Nat} {w : World} {M : Assn} {M' : α → Assn} (h : Sys B Z w Ms) (hB : B ≤ w.heap.size) (hi : Ms[i]? = some M) {f : Nat} {args : Array Value} {Post : α → Ending → World → Prop}
  (call : ∀ O, M.P w O → Calls Tryz.prog f args w fun e w' => ∃ x, Post x e w' ∧ ∃ O', (M' x).P w' O' ∧ Tn O w w' ∧ ∀ k, O' k → k < w'.heap.size ∧ (O k ∨ w.heap.size ≤ k)) :
  Calls Tryz.prog f args w fun e w' => ∃ x, Post x e w' ∧ Sys B (fun j k => Z j k ∨ (j ≠ i ∧ w.heap.size ≤ k ∧ k < w'.heap.size)) w' (Ms.set i (M' x)) ∧ Tn (fun k => B ≤ k ∧ ¬ Z i k) w w' := by
 obtain ⟨Os, h1, h2, h3, h4⟩ := h
 refine (call _ (h1 i M hi)).mono ?_
 rintro e w' ⟨x, hp, O', hM, ht, hO⟩
 have hs := ht.size
 refine ⟨x, hp, ⟨fun j k => (j = i ∧ O' k) ∨ (j ≠ i ∧ Os j k), fun j N hj => ?_, fun j l k hjl => ?_, fun j k => ?_, fun j k hk => ?_⟩, ht.mono fun k hk => ⟨(h3 i k hk).1, (h3 i k hk).2.2⟩⟩
 ·by_cases e : j = i
  ·subst e
   rw [List.getElem?_set_self (List.getElem?_eq_some_iff.1 hi).1] at hj
   obtain rfl : M' x = N := by simpa using hj
   have e : (fun k => (j = j ∧ O' k) ∨ (j ≠ j ∧ Os j k)) = O' := funext fun k => propext ⟨fun h => h.elim (·.2) fun h => absurd rfl h.1, fun h => .inl ⟨rfl, h⟩⟩
   (try dsimp only); rw [e]; exact hM
  ·rw [List.getElem?_set_ne (Ne.symm e)] at hj
   have e' : (fun k => (j = i ∧ O' k) ∨ (j ≠ i ∧ Os j k)) = Os j := funext fun k => propext ⟨fun h => h.elim (fun h => absurd h.1 e) (·.2), fun h => .inr ⟨e, h⟩⟩
   (try dsimp only); rw [e']
   exact N.keep (h1 j N hj) ht fun k hk hk' => h2 i j k (Ne.symm e) hk hk'
 ·rintro (⟨a1, a2⟩ | ⟨a1, a2⟩) (⟨b1, b2⟩ | ⟨b1, b2⟩)
  ·omega
  ·rcases (hO k a2).2 with h | h
   ·exact h2 i l k (Ne.symm b1) h b2
   ·have := (h3 l k b2).2.1; omega
  ·rcases (hO k b2).2 with h | h
   ·exact h2 i j k (Ne.symm a1) h a2
   ·have := (h3 j k a2).2.1; omega
  ·exact h2 j l k hjl a2 b2
 ·rintro (⟨a1, a2⟩ | ⟨a1, a2⟩)
  ·subst a1
   have h5 := hO k a2
   refine ⟨?_, h5.1, fun e => ?_⟩
   ·rcases h5.2 with h | h
    ·exact (h3 j k h).1
    ·omega
   ·rcases e with e | e
    ·rcases h5.2 with h | h
     ·exact (h3 j k h).2.2 e
     ·have := h4 j k e; omega
    ·exact e.1 rfl
  ·have := h3 j k a2
   refine ⟨this.1, by omega, fun e => ?_⟩
   rcases e with e | e
   ·exact this.2.2 e
   ·omega
 ·rcases hk with e | e
  ·have := h4 j k e; omega
  ·exact e.2.2
theorem Sys.imp {Ms' : List Assn} (h : Sys B Z w Ms) (hm : ∀ (i : Nat) (M' : Assn), Ms'[i]? = some M' → ∃ M : Assn, Ms[i]? = some M ∧ ∀ w O, M.P w O → M'.P w O) : Sys B Z w Ms' := by
 obtain ⟨Os, h1, h2, h3, h4⟩ := h
 exact ⟨Os, fun i M' hi => by obtain ⟨M, hM, hP⟩ := hm i M' hi; exact hP _ _ (h1 i M hM), h2, h3, h4⟩
end
def netA (B nb : Nat) (nd : Int) (S : List Tr) (L : List Pc) (sent : Nat) : Assn where
 P := fun w O => ∃ sc wv, NetM w B nb nd sc S L sent wv ∧ O = OwnT nb sc wv
 keep := by rintro w w' F O ⟨sc, wv, h, rfl⟩ t hF; exact ⟨sc, wv, h.keep t hF, rfl⟩
section
variable {B0 B b N : Nat} {Z : Nat → Nat → Prop} {w : World} {Ms : List Assn} {i : Nat}
def AnsR (ms : List Msg) (w : World) (e : Ending) (w' : World) : Prop := ∃ v, e = .returned v ∧ MRow w' w.heap.size v ms
theorem asr_tick {s : Asr} (h : Sys B0 Z w Ms) (hB : B0 ≤ w.heap.size) (hi : Ms[i]? = some (asrA B b N s)) (hN : N < 90000) (hL : s.L.length < 1000) :
  Calls Tryz.prog 23 #[.pointer (some ⟨b, 0, none⟩)] w fun e w' => AnsR s.tick.2 w e w' ∧ After B0 i Z w (Ms.set i (asrA B b (N + 1) s.tick.1)) w' := by
 refine h.work hB hi fun O hO => ?_
 obtain ⟨mv, hM, rfl⟩ := hO
 refine (aTick_any B b N s mv w hM (Nat.le_trans hM.lo (Nat.le_of_lt hM.blk.lt)) hN hL).mono ?_
 rintro e w' ⟨v, rfl, h1, h2, h3⟩
 exact ⟨⟨v, rfl, h1⟩, _, ⟨mv, h2, rfl⟩, h3.mono fun k e => .inl e, fun k hk => ⟨(h2.own_lt hk).2, .inl hk⟩⟩
theorem brk_tick {s : Brk} (h : Sys B0 Z w Ms) (hB : B0 ≤ w.heap.size) (hi : Ms[i]? = some (brkA B b N s)) (hN : N < 90000) (hL : s.L.length < 900) :
  Calls Tryz.prog 18 #[.pointer (some ⟨b, 0, none⟩)] w fun e w' => AnsR s.tick.2 w e w' ∧ After B0 i Z w (Ms.set i (brkA B b (N + 1) s.tick.1)) w' := by
 refine h.work hB hi fun O hO => ?_
 obtain ⟨rv, mv, G, o, hM, rfl⟩ := hO
 refine (bTick_any B b N s rv mv G o w hM hN hL).mono ?_
 rintro e w' ⟨v, rfl, h1, h2, h3⟩
 exact ⟨⟨v, rfl, h1⟩, _, ⟨rv, mv, G, o, h2, rfl⟩, h3.mono fun k e => by have e' : k = b := e; subst e'; rw [hM.ob]; decide, fun k hk => ⟨(h2.olt k hk).2, .inl hk⟩⟩
theorem len_take' {s : Len} (h : Sys B0 Z w Ms) (hB : B0 ≤ w.heap.size) (hi : Ms[i]? = some (lenA B b s)) (m : Msg) (hs : s.sent < 90000) (hh : s.here.length ≤ 21000) (ht : m.text.length ≤ 1000000) :
  Calls Tryz.prog 26 #[.pointer (some ⟨b, 0, none⟩), .agg (encM m)] w fun e w' => Ans (s.take m).2 w e w' ∧ After B0 i Z w (Ms.set i (lenA B b (s.take m).1)) w' := by
 refine h.work hB hi fun O hO => ?_
 obtain ⟨hv, mv, hM, rfl⟩ := hO
 refine (take_any B b s hv mv m w hM (Nat.le_trans hM.lo (Nat.le_of_lt hM.blk.lt)) hs hh ht).mono ?_
 rintro e w' ⟨v, hv', mv', rfl, h1, h2, h3, h4⟩
 exact ⟨⟨v, rfl, h1⟩, _, ⟨hv', mv', h2, rfl⟩, h3, fun k hk => ⟨(h2.own_lt hk).2, h4 k hk⟩⟩
theorem net_send {nd : Int} {S : List Tr} {L : List Pc} {sent : Nat} (h : Sys B0 Z w Ms) (hB : B0 ≤ w.heap.size) (hi : Ms[i]? = some (netA B b nd S L sent)) (now : Int) (m : Msg) (hl : L.length ≤ 800000) (hn : sent ≤ 1000000) :
  Calls Tryz.prog 81 #[.pointer (some ⟨b, 0, none⟩), i64 now, .agg (encM m)] w fun e w' => e = .returned (.tuple #[]) ∧ ∃ L', Sent m (copiesP nd (trP S sent) m.to) L L' ∧ After B0 i Z w (Ms.set i (netA B b nd S L' (sent + 1))) w' := by
 have hlt : i < Ms.length := (List.getElem?_eq_some_iff.1 hi).1
 refine (h.work (M' := exA (fun L' => Sent m (copiesP nd (trP S sent) m.to) L L') fun L' => netA B b nd S L' (sent + 1)) (Post := fun e _ => e = .returned (.tuple #[])) hB hi fun O hO => ?_).mono ?_
 ·obtain ⟨sc, wv, hM, rfl⟩ := hO
  refine (nsend_any hM.mem hM.scr.sl now m hl hn).mono ?_
  rintro e w' ⟨rfl, L', wv', h1, h2, h3, h4⟩
  have h5 := hM.step h2 h3 h4
  refine ⟨rfl, _, ⟨L', h1, sc, wv', h5, rfl⟩, h3.mono fun k e => .inl e, fun k hk => ⟨(h5.own_lt hk).2, ?_⟩⟩
  rcases hk with (rfl | e) | e
  ·exact .inl (.inl (.inl rfl))
  ·exact (h4 k e).imp (fun e => .inl (.inr e)) id
  ·exact .inl (.inr e)
 ·rintro e w' ⟨h1, h2, h3⟩
  obtain ⟨L', h4, h5⟩ := Sys.ex hlt h2
  exact ⟨h1, L', h4, h5, h3⟩
theorem net_none {nd : Int} {S : List Tr} {sent : Nat} (h : Sys B0 Z w Ms) (hi : Ms[i]? = some (netA B b nd S [] sent)) :
  Calls Tryz.prog 43 #[.pointer (some ⟨b, 0, none⟩)] w fun e w' => e = .returned (.tuple #[.agg #[i64 0, i64 0, i64 0, .string ⟨#[]⟩], i64 0, .bool false]) ∧ Below w.heap.size w w' := by
 obtain ⟨O, ⟨sc, wv, hM, rfl⟩, -⟩ := h.see hi
 exact next_none hM.mem
theorem net_some {nd : Int} {S : List Tr} {L : List Pc} {sent : Nat} (h : Sys B0 Z w Ms) (hB : B0 ≤ w.heap.size) (hi : Ms[i]? = some (netA B b nd S L sent)) (hn : 0 < L.length) (hl : L.length ≤ 900000) :
  Calls Tryz.prog 43 #[.pointer (some ⟨b, 0, none⟩)] w fun e w' => ∃ p r, e = .returned (.tuple #[.agg (encM p.m), i64 p.at_, .bool true]) ∧ (r ++ [p]).Perm L ∧ After B0 i Z w (Ms.set i (netA B b nd S r sent)) w' := by
 have hlt : i < Ms.length := (List.getElem?_eq_some_iff.1 hi).1
 refine (h.workE (M' := fun x : Pc × List Pc => netA B b nd S x.2 sent) (Post := fun x e w' => e = .returned (.tuple #[.agg (encM x.1.m), i64 x.1.at_, .bool true]) ∧ (x.2 ++ [x.1]).Perm L) hB hi fun O hO => ?_).mono ?_
 ·obtain ⟨sc, wv, hM, rfl⟩ := hO
  refine (next_some hM.mem hn hl).mono ?_
  rintro e w' ⟨p, r, wv', rfl, h1, h2, h3, h4⟩
  have h5 := hM.step h2 h3 fun k e => .inl (h4 k e)
  refine ⟨(p, r), ⟨rfl, h1⟩, _, ⟨sc, wv', h5, rfl⟩, h3.mono fun k e => .inl e, fun k hk => ⟨(h5.own_lt hk).2, .inl ?_⟩⟩
  rcases hk with (rfl | e) | e
  ·exact .inl (.inl rfl)
  ·exact .inl (.inr (h4 k e))
  ·exact .inr e
 ·rintro e w' ⟨⟨p, r⟩, ⟨h1, h2⟩, h3, h4⟩
  exact ⟨p, r, h1, h2, h3, h4⟩
theorem Sys.set {g j : Nat} {cs : Array Value} {T : TypeId} (h : Sys B0 Z w Ms) (hi : Ms[i]? = some (boxA g cs T)) (u : Value) : Sys B0 Z (w.setCell ⟨g, j, none⟩ u) (Ms.set i (boxA g (cs.setIfInBounds j u) T)) := by
 obtain ⟨Os, h1, h2, h3, h4⟩ := h
 have hlt : i < Ms.length := (List.getElem?_eq_some_iff.1 hi).1
 obtain ⟨hb, hO⟩ := h1 i _ hi
 have t : Tn (fun b => b = g) w (w.setCell ⟨g, j, none⟩ u) := (Tn.refl (fun b => b = g) w).setCell (p := ⟨g, j, none⟩) (.inl rfl) u
 refine ⟨Os, fun k N hk => ?_, h2, fun k x hx => ⟨(h3 k x hx).1, Nat.lt_of_lt_of_le (h3 k x hx).2.1 t.size, (h3 k x hx).2.2⟩, fun k x hx => Nat.lt_of_lt_of_le (h4 k x hx) t.size⟩
 by_cases e : k = i
 ·subst e
  rw [List.getElem?_set_self hlt] at hk
  obtain rfl : boxA g (cs.setIfInBounds j u) T = N := by simpa using hk
  exact ⟨Blk.set hb j u, hO⟩
 ·rw [List.getElem?_set_ne (Ne.symm e)] at hk
  exact N.keep (h1 k N hk) t fun x hx ho => h2 k i x e ho (by rw [hO]; exact hx)
end
end Go.Proofs.YtdojgbpaheadnaaGreat

/- The library of the law: send. -/
namespace Go.Proofs.YtdojgbpaheadnaaGreat
open Go.RowKit Go.Shelf Go.Maps Go.ChangeMaps
attribute [local go_sem] over_cell over_frozen

theorem list_set_self {α : Type} {l : List α} {i : Nat} {x : α} (h : l[i]? = some x) : l.set i x = l := by
 apply List.ext_getElem?; intro j
 rw [List.getElem?_set]
 split
 ·rename_i e; subst e; rw [h]; split
  ·rfl
  ·rename_i h1; exact absurd (List.getElem?_eq_some_iff.1 h).1 h1
 ·rfl
def SentL (nd : Int) (S : List Tr) : Nat → List Msg → List Pc → List Pc → Prop
 | _, [], P, P' => P' = P
 | n, m :: ms, P, P' => ∃ P1, Sent m (copiesP nd (trP S n) m.to) P P1 ∧ SentL nd S (n + 1) ms P1 P'
theorem SentL.snoc {nd : Int} {S : List Tr} {m : Msg} {P2 : List Pc} : ∀ {ms : List Msg} {n : Nat} {P P1 : List Pc}, SentL nd S n ms P P1 → Sent m (copiesP nd (trP S (n + ms.length)) m.to) P1 P2 → SentL nd S n (ms ++ [m]) P P2
 | [], n, P, P1, h, h' => by
  obtain rfl : P1 = P := h
  exact ⟨P2, h', rfl⟩
 | x :: ms, n, P, P1, ⟨P0, h1, h2⟩, h' => by
  refine ⟨P0, h1, SentL.snoc h2 ?_⟩
  rw [List.length_cons] at h'
  rw [show n + 1 + ms.length = n + (ms.length + 1) by omega]; exact h'
theorem SentL.len {nd : Int} {S : List Tr} : ∀ {ms : List Msg} {n : Nat} {P P' : List Pc}, SentL nd S n ms P P' → P'.length ≤ P.length + 8 * ms.length
 | [], n, P, P', h => by obtain rfl : P' = P := h; simp
 | x :: ms, n, P, P', ⟨P0, ⟨new, h1, _, h2⟩, h3⟩ => by
  have := SentL.len h3
  have h4 := h2.length_eq
  rw [List.length_append, h1] at h4
  have := copiesP_le nd (trP S n) x.to
  rw [List.length_cons]; omega
theorem SentL.mem {nd : Int} {S : List Tr} : ∀ {ms : List Msg} {n : Nat} {P P' : List Pc}, SentL nd S n ms P P' → ∀ p ∈ P', p ∈ P ∨ p.m ∈ ms
 | [], n, P, P', h, p, hp => by obtain rfl : P' = P := h; exact .inl hp
 | x :: ms, n, P, P', ⟨P0, ⟨new, _, h2, h3⟩, h4⟩, p, hp => by
  rcases SentL.mem h4 p hp with h | h
  ·rcases List.mem_append.1 (h3.mem_iff.1 h) with h | h
   ·exact .inl h
   ·exact .inr (by rw [h2 p h]; simp)
  ·exact .inr (by simp [h])
theorem msgs_row {w : World} {B : Nat} {v : Value} {ms : List Msg} (h : MsgsAt w B v ms) : MRow w B v ms := by
 match ms, h with
 | [], h => obtain rfl : v = .slice none 0 0 := h; exact MRow.nil _ _
 | [m], ⟨g, hB, e, hg⟩ =>
  subst e
  have : mcells [m] = (encM m).toList := by unfold mcells; simp
  unfold MRow
  rw [this]
  exact ⟨rfl, .inr ⟨g, 1, encM m, rfl, hB, hg, Nat.le_refl _, by unfold maxLen; omega, rfl, rfl⟩⟩
theorem mcells_at {ms : List Msg} {k : Nat} (hk : k < ms.length) {i : Nat} (hi : i < 4) : (mcells ms)[k * 4 + i]? = (encM ms[k]).toList[i]? := by
 have e : mcells ms = (ms.map fun m => (encM m).toList).flatten := by unfold mcells; rw [List.flatMap_def]
 rw [e, flat_get (z := 4) (fun c hc => by obtain ⟨p, -, rfl⟩ := List.mem_map.1 hc; rfl) k (by simpa using hk) i hi]
 simp
theorem MRow.at_ {w : World} {B : Nat} {v : Value} {ms : List Msg} (h : MRow w B v ms) {k : Nat} (hk : k < ms.length) : ∃ g c, v = .slice (some ⟨g, 0, none⟩) ms.length c ∧ ms.length ≤ c ∧ w.cell? ⟨g, k * 4, none⟩ = some (i64 ms[k].frm) ∧ w.cell? ⟨g, k * 4 + 1, none⟩ = some (i64 ms[k].to) ∧ w.cell? ⟨g, k * 4 + 2, none⟩ = some (i64 ms[k].num) ∧ w.cell? ⟨g, k * 4 + 3, none⟩ = some (strV ms[k].text) := by
 obtain ⟨a, c, e, hc, _, _, ⟨h0, _, _⟩ | ⟨g, rfl, _, _, _, hx⟩⟩ := row_cellz h
 ·omega
 ·exact ⟨g, c, e, hc, hx _ _ (mcells_at hk (i := 0) (by omega)), hx _ _ (mcells_at hk (i := 1) (by omega)), hx _ _ (mcells_at hk (i := 2) (by omega)), hx _ _ (mcells_at hk (i := 3) (by omega))⟩
set_option maxRecDepth 100000 in
set_option maxHeartbeats 4000000 in
theorem lsend_any {B0 B7 xb nb Bv : Nat} {Z : Nat → Nat → Prop} {w : World} {Ms : List Assn} {S : List Tr} {P : List Pc} {sent : Nat} {x0 x1 x2 v : Value} {now : Int} {ms : List Msg} (h : Sys B0 Z w Ms) (hB : B0 ≤ w.heap.size)
  (hx : Ms[7]? = some (boxA xb #[x0, x1, x2, .pointer (some ⟨nb, 0, none⟩), i64 now] 78)) (hn : Ms[6]? = some (netA B7 nb 5 S P sent)) (hv : MRow w Bv v ms) (hz : ∀ k, v.ownBlock = some k → Z 6 k) (hl : P.length ≤ 700000) (hm : ms.length ≤ 1000) (hs : sent ≤ 900000) :
  Calls Tryz.prog 45 #[.pointer (some ⟨xb, 0, none⟩), v] w fun e w' => e = .returned (.tuple #[]) ∧ ∃ P' Z', SentL 5 S sent ms P P' ∧ Sys B0 Z' w' (Ms.set 6 (netA B7 nb 5 S P' (sent + ms.length))) ∧ (∀ i k, Z i k → Z' i k) ∧ Tn (fun k => B0 ≤ k ∧ ¬ Z 6 k) w w' := by
 have HS := Lib.hid h
 have HX := Lib.hid hx
 have HN := Lib.hid hn
 have HV := Lib.hid hv
 have HZ := Lib.hid hz
 obtain ⟨n, hnn⟩ : ∃ n, n = ms.length := ⟨_, rfl⟩
 obtain ⟨va, vc, rfl⟩ : ∃ va vc, v = .slice va ms.length vc := by obtain ⟨a, c, e, _⟩ := row_cellz hv; exact ⟨a, c, e⟩
 have HMS := Lib.hid hm
 rw [← hnn] at HV HZ ⊢
 have NN := Lib.hid hnn
 have hn1 : n ≤ 1000 := by omega
 have h67 : Hid (6 < Ms.length) := Lib.hid (List.getElem?_eq_some_iff.1 hn).1
 clear h hx hn hv hz hm hnn
 go_enter Tryz.func45, Tryz.ntmps45
 go_wp2_with fail
 go_loopw [4] (fun i wr => ∃ (k : Nat) (P' : List Pc) (Z' : Nat → Nat → Prop), k ≤ n ∧ i = .int .i64 k ∧ SentL 5 S sent (ms.take k) P P' ∧ Sys B0 Z' wr (Ms.set 6 (netA B7 nb 5 S P' (sent + k))) ∧ (∀ i k, Z i k → Z' i k) ∧ Tn (fun k => B0 ≤ k ∧ ¬ Z 6 k) w wr) (fun i _ => n - (intOf i).toNat)
 case atStart => exact ⟨0, P, Z, by omega, rfl, rfl, by rw [Nat.add_zero, list_set_self HN.out]; exact HS.out, fun _ _ h => h, Tn.refl _ _⟩
 case round =>
  obtain ⟨k, P', Z', hk, rfl, hsl, hsy, hzz, ht⟩ := hrel
  have SL := Lib.hid hsl
  have SY := Lib.hid hsy
  have ZZ := Lib.hid hzz
  have TT := Lib.hid ht
  have hBr : B0 ≤ wr.heap.size := Nat.le_trans hB ht.size
  clear hsl hsy hzz ht
  by_cases hlt : k < n
  ·have hkm : k < ms.length := by rw [← NN.out]; exact hlt
   have HVr : Hid (MRow wr Bv (.slice va n vc) ms) := Lib.hid (TT.out.row HV.out fun r e hr => hr.2 (HZ.out r e))
   obtain ⟨g, c, e, hc, m0, m1, m2, m3⟩ := MRow.at_ HVr.out hkm
   have e' : va = some ⟨g, 0, none⟩ := by injection e
   subst e'
   have KX : Hid (Blk wr xb #[x0, x1, x2, .pointer (some ⟨nb, 0, none⟩), i64 now] 78) := Lib.hid (SY.out.blk (i := 7) (by rw [List.getElem?_set_ne (by omega)]; exact HX.out))
   obtain ⟨m, hmd⟩ : ∃ m, m = ms[k] := ⟨_, rfl⟩
   rw [← hmd] at m0 m1 m2 m3
   have NMD := Lib.hid hmd
   have x3 : wr.cell? ⟨xb, 3, none⟩ = some (.pointer (some ⟨nb, 0, none⟩)) := KX.out.cell 3
   have x4 : wr.cell? ⟨xb, 4, none⟩ = some (i64 now) := KX.out.cell 4
   have hnc : n ≤ vc := by have h1 := NN.out; injection e with _ e2 e3; omega
   clear e hc hmd
   go_wp2_with fail
   obtain ⟨S', hS'⟩ : ∃ S' : World → Prop, S' = fun W => Blk W xb #[x0, x1, x2, .pointer (some ⟨nb, 0, none⟩), i64 now] 78 ∧ W.cell? ⟨g, k * 4, none⟩ = some (i64 m.frm) ∧ W.cell? ⟨g, k * 4 + 1, none⟩ = some (i64 m.to) ∧ W.cell? ⟨g, k * 4 + 2, none⟩ = some (i64 m.num) ∧ W.cell? ⟨g, k * 4 + 3, none⟩ = some (strV m.text) := ⟨_, rfl⟩
   have LDD : Hid (∀ W, S' W → Blk W xb #[x0, x1, x2, .pointer (some ⟨nb, 0, none⟩), i64 now] 78 ∧ W.cell? ⟨g, k * 4, none⟩ = some (i64 m.frm) ∧ W.cell? ⟨g, k * 4 + 1, none⟩ = some (i64 m.to) ∧ W.cell? ⟨g, k * 4 + 2, none⟩ = some (i64 m.num) ∧ W.cell? ⟨g, k * 4 + 3, none⟩ = some (strV m.text)) := Lib.hid (by rw [hS']; exact fun W h => h)
   have UU : Hid (∀ W, Blk W xb #[x0, x1, x2, .pointer (some ⟨nb, 0, none⟩), i64 now] 78 → W.cell? ⟨g, k * 4, none⟩ = some (i64 m.frm) → W.cell? ⟨g, k * 4 + 1, none⟩ = some (i64 m.to) → W.cell? ⟨g, k * 4 + 2, none⟩ = some (i64 m.num) → W.cell? ⟨g, k * 4 + 3, none⟩ = some (strV m.text) → S' W) := Lib.hid (by rw [hS']; exact fun W a b c d e => ⟨a, b, c, d, e⟩)
   have hHeld := UU.out wr.drew KX.out m0 m1 m2 m3
   have hgz : Hid (Z 6 g) := Lib.hid (HZ.out g rfl)
   have ML : Hid (P'.length ≤ 800000) := Lib.hid (by have := SL.out.len; rw [List.length_take] at this; omega)
   clear hS' x3 x4
   refine wp_region_held_drew (S := S') (by kernel_rfl) hHeld (fun _ => ?_)
   apply wpAnyH_apart (fun W => ∃ (P2 : List Pc) (Z2 : Nat → Nat → Prop), Sent m (copiesP 5 (trP S (sent + k)) m.to) P' P2 ∧ Sys B0 Z2 W (Ms.set 6 (netA B7 nb 5 S P2 (sent + k + 1))) ∧ (∀ i k, Z i k → Z2 i k) ∧ Tn (fun k => B0 ≤ k ∧ ¬ Z 6 k) w W)
   case take =>
    intro R hR
    refine tk 0 (v := ?_) rfl hHeld ?_ ?_; rotate_left
    ·(intro w hSw; (have l3 := (LDD.out w hSw).1.cell 3; have l4 := (LDD.out w hSw).1.cell 4); go_simp; try (with_reducible rfl))
    try simp only [gZ]
    refine tk 1 (v := ?_) rfl hHeld ?_ ?_; rotate_left
    ·(intro w hSw; (have l3 := (LDD.out w hSw).1.cell 3; have l4 := (LDD.out w hSw).1.cell 4); go_simp; try (with_reducible rfl))
    try simp only [gZ]
    refine tk 2 (v := ?_) rfl hHeld ?_ ?_; rotate_left
    ·(intro w hSw; (have l3 := (LDD.out w hSw).1.cell 3; have l4 := (LDD.out w hSw).1.cell 4); go_simp; try (with_reducible rfl))
    try simp only [gZ]
    refine tk 3 (v := ?_) rfl hHeld ?_ ?_; rotate_left
    ·(intro w hSw; (have l3 := (LDD.out w hSw).1.cell 3; have l4 := (LDD.out w hSw).1.cell 4); go_simp; try (with_reducible rfl))
    try simp only [gZ]
    refine tk 4 (v := ?_) rfl hHeld ?_ ?_; rotate_left
    ·(intro w hSw; (have l3 := (LDD.out w hSw).1.cell 3; have l4 := (LDD.out w hSw).1.cell 4); go_simp; try (with_reducible rfl))
    try simp only [gZ]
    refine tk 5 (v := ?_) rfl hHeld ?_ ?_; rotate_left
    ·(intro w hSw; (have l3 := (LDD.out w hSw).1.cell 3; have l4 := (LDD.out w hSw).1.cell 4); go_simp; try (with_reducible rfl))
    try simp only [gZ]
    refine tk 6 (v := ?_) rfl hHeld ?_ ?_; rotate_left
    ·(intro w hSw; (have l3 := (LDD.out w hSw).1.cell 3; have l4 := (LDD.out w hSw).1.cell 4); go_simp; try (with_reducible rfl))
    try simp only [gZ]
    refine tk 7 (v := ?_) rfl hHeld ?_ ?_; rotate_left
    ·(intro w hSw; (have l3 := (LDD.out w hSw).1.cell 3; have l4 := (LDD.out w hSw).1.cell 4); go_simp; try (with_reducible rfl))
    try simp only [gZ]
    refine tk 8 (v := ?_) rfl hHeld ?_ ?_; rotate_left
    ·(intro w hSw; obtain ⟨l0, l1, l2, l3, l4⟩ := LDD.out w hSw; go_simp; try (with_reducible rfl))
    try simp only [gZ]
    refine tk 9 (v := ?_) rfl hHeld ?_ ?_; rotate_left
    ·(intro w hSw; obtain ⟨l0, l1, l2, l3, l4⟩ := LDD.out w hSw; go_simp; try (with_reducible rfl))
    try simp only [gZ]
    refine tk 10 (v := ?_) rfl hHeld ?_ ?_; rotate_left
    ·(intro w hSw; obtain ⟨l0, l1, l2, l3, l4⟩ := LDD.out w hSw; go_simp; try (with_reducible rfl))
    try simp only [gZ]
    refine tk 11 (v := ?_) rfl hHeld ?_ ?_; rotate_left
    ·(intro w hSw; obtain ⟨l0, l1, l2, l3, l4⟩ := LDD.out w hSw; go_simp; try (with_reducible rfl))
    try simp only [gZ]
    refine wpAnyH_one (i := 12) rfl (by kernel_rfl) (by rfl) ?_
    go_simp
    have SYd : Hid (Sys B0 Z' wr.drew (Ms.set 6 (netA B7 nb 5 S P' (sent + k)))) := Lib.hid (SY.out.other (F := fun _ => False) ((Tn.refl (fun _ => False) wr).drewN 1) (fun _ _ h => h.elim))
    refine (net_send (i := 6) SYd.out hBr (by rw [List.getElem?_set_self h67.out]) now m ML.out (by omega)).mono ?_
    rintro e W2 ⟨rfl, P2, hp2, hs2, ht2⟩
    rw [List.set_set] at hs2
    have KX2 : Blk W2 xb #[x0, x1, x2, .pointer (some ⟨nb, 0, none⟩), i64 now] 78 := hs2.blk (i := 7) (by rw [List.getElem?_set_ne (by omega)]; exact HX.out)
    have T2 : Tn (fun k => B0 ≤ k ∧ ¬ Z 6 k) w W2 := (TT.out.drewN 1).trans (ht2.mono fun k hk => ⟨hk.1, fun h => hk.2 (ZZ.out 6 k h)⟩)
    have HV2 : MRow W2 Bv (.slice (some ⟨g, 0, none⟩) n vc) ms := T2.row HV.out fun r e hr => hr.2 (HZ.out r e)
    obtain ⟨g', c', e', -, n0, n1, n2, n3⟩ := MRow.at_ HV2 hkm
    have eg : g = g' := by injection e' with e' _ _; injection e' with e'; injection e'
    subst eg
    rw [← NMD.out] at n0 n1 n2 n3
    refine ⟨UU.out W2 KX2 n0 n1 n2 n3, ?_⟩
    exact wpAnyH_done (by kernel_rfl) ⟨rfl, hR W2 ⟨P2, _, hp2, hs2, fun i k h => .inl (ZZ.out i k h), T2⟩⟩ _
   case rest =>
    rintro W ⟨P2, Z2, h1, h2, h3, h4⟩
    have HH := Lib.hid (And.intro h1 (And.intro h2 (And.intro h3 h4)))
    clear h1 h2 h3 h4
    go_wp2_with fail
    refine ⟨⟨k + 1, P2, Z2, hlt, by go_num, ?_, HH.out.2.1, HH.out.2.2.1, HH.out.2.2.2⟩, by simp [intOf]; omega⟩
    rw [List.take_succ_eq_append_getElem hkm, ← NMD.out]
    refine SL.out.snoc ?_
    rw [List.length_take, Nat.min_eq_left (by omega)]
    exact HH.out.1
  ·obtain rfl : k = n := by omega
   go_wp2_with fail
   refine bodyPost_end (results_none rfl _ _ _) rfl ?_
   have h1 := SL.out
   rw [NN.out, List.take_length] at h1
   exact ⟨rfl, P', Z', h1, by rw [NN.out] at SY ⊢; exact SY.out, ZZ.out, TT.out⟩
end Go.Proofs.YtdojgbpaheadnaaGreat

/- The library of the law in memory: its machines, and the steps of each. -/
namespace Go.Proofs.YtdojgbpaheadnaaGreat
open Go.RowKit Go.Shelf Go.Maps Go.ChangeMaps

structure Lg where
 B0 : Nat
 a1 : Nat
 a2 : Nat
 bb : Nat
 l3 : Nat
 l4 : Nat
 l1 : Nat
 nb : Nat
 xb : Nat
 ab : Nat
 lb : Nat
 ac : Nat
 lc : Nat
 lo : Nat → Nat
 acs : Array Value
 lcs : Array Value
abbrev Lg.xcs (g : Lg) (now : Int) : Array Value := #[.slice (some ⟨g.ab, 0, none⟩) 2 g.ac, .pointer (some ⟨g.bb, 0, none⟩), .slice (some ⟨g.lb, 0, none⟩) 3 g.lc, .pointer (some ⟨g.nb, 0, none⟩), i64 now]
def Lg.ms (g : Lg) (n1 n2 n3 : Nat) (S : List Tr) (P : List Pc) (sent : Nat) (now : Int) (s : Lb) : List Assn :=
 [asrA (g.lo 0) g.a1 n1 (s.as 1), asrA (g.lo 1) g.a2 n2 (s.as 2), brkA (g.lo 2) g.bb n3 s.b, lenA (g.lo 3) g.l3 (s.ls 3), lenA (g.lo 4) g.l4 (s.ls 4), lenA (g.lo 5) g.l1 (s.ls 1), netA (g.lo 6) g.nb 5 S P sent, boxA g.xb (g.xcs now) 78, boxA g.ab g.acs 43, boxA g.lb g.lcs 44]
structure Lg.Ok (g : Lg) : Prop where
 p1 : g.acs[0]? = some (.pointer (some ⟨g.a1, 0, none⟩))
 p2 : g.acs[1]? = some (.pointer (some ⟨g.a2, 0, none⟩))
 q3 : g.lcs[0]? = some (.pointer (some ⟨g.l3, 0, none⟩))
 q4 : g.lcs[1]? = some (.pointer (some ⟨g.l4, 0, none⟩))
 q1 : g.lcs[2]? = some (.pointer (some ⟨g.l1, 0, none⟩))
 ca : 2 ≤ g.ac
 cl : 3 ≤ g.lc
structure LibM (g : Lg) (Z : Nat → Nat → Prop) (w : World) (N : Nat) (S : List Tr) (P : List Pc) (sent : Nat) (s : Lb) : Prop where
 ok : g.Ok
 hB : g.B0 ≤ w.heap.size
 sys : ∃ n1 n2 n3 now, n1 ≤ N ∧ n2 ≤ N ∧ n3 ≤ N ∧ Sys g.B0 Z w (g.ms n1 n2 n3 S P sent now s)
 ls : ∀ L, IsL L → (s.ls L).sent ≤ N
def Lg.F (g : Lg) (Z : Nat → Nat → Prop) (k : Nat) : Prop := g.B0 ≤ k ∧ ¬ ∀ i, Z i k
def Nx (g : Lg) (Z : Nat → Nat → Prop) (w w' : World) (Φ : (Nat → Nat → Prop) → Prop) : Prop :=
 ∃ Z', (∀ i k, Z i k → Z' i k) ∧ Tn (g.F Z) w w' ∧ Φ Z'
theorem Lg.F.mono {g : Lg} {Z Z' : Nat → Nat → Prop} (h : ∀ i k, Z i k → Z' i k) {k : Nat} (hk : g.F Z' k) : g.F Z k := ⟨hk.1, fun e => hk.2 fun i => h i k (e i)⟩
section
variable {g : Lg} {Z : Nat → Nat → Prop} {w : World} {N : Nat} {S : List Tr} {P : List Pc} {sent : Nat} {s : Lb}
theorem LibM.up {w' : World} (h : LibM g Z w N S P sent s) (hb : Below w.heap.size w w') : LibM g (fun i k => Z i k ∨ (w.heap.size ≤ k ∧ k < w'.heap.size)) w' N S P sent s := by
 obtain ⟨n1, n2, n3, now, h1, h2, h3, hs⟩ := h.sys
 exact ⟨h.ok, Nat.le_trans h.hB hb.size, ⟨n1, n2, n3, now, h1, h2, h3, hs.up hb⟩, h.ls⟩
theorem LibM.up' {w' : World} (h : LibM g Z w N S P sent s) (hb : Below w.heap.size w w') : LibM g Z w' N S P sent s := by
 obtain ⟨n1, n2, n3, now, h1, h2, h3, hs⟩ := h.sys
 exact ⟨h.ok, Nat.le_trans h.hB hb.size, ⟨n1, n2, n3, now, h1, h2, h3, hs.up' hb⟩, h.ls⟩
theorem LibM.other {F : Nat → Prop} {w' : World} (h : LibM g Z w N S P sent s) (t : Tn F w w') (hF : ∀ k, F k → k < g.B0 ∨ ∀ i, Z i k) : LibM g Z w' N S P sent s := by
 obtain ⟨n1, n2, n3, now, h1, h2, h3, hs⟩ := h.sys
 exact ⟨h.ok, Nat.le_trans h.hB t.size, ⟨n1, n2, n3, now, h1, h2, h3, hs.other t fun i k hk => (hF k hk).imp id fun e => e i⟩, h.ls⟩
theorem LibM.zlt (h : LibM g Z w N S P sent s) {i k : Nat} (hk : Z i k) : k < w.heap.size := by
 obtain ⟨n1, n2, n3, now, h1, h2, h3, Os, _, _, _, h4⟩ := h.sys
 exact h4 i k hk
theorem LibM.weak {Z' : Nat → Nat → Prop} (h : LibM g Z w N S P sent s) (hZ : ∀ i k, Z' i k → Z i k) : LibM g Z' w N S P sent s := by
 obtain ⟨n1, n2, n3, now, h1, h2, h3, hs⟩ := h.sys
 exact ⟨h.ok, h.hB, ⟨n1, n2, n3, now, h1, h2, h3, hs.weak hZ⟩, h.ls⟩
theorem LibM.more {N' : Nat} (h : LibM g Z w N S P sent s) (hN : N ≤ N') : LibM g Z w N' S P sent s := by
 obtain ⟨n1, n2, n3, now, h1, h2, h3, hs⟩ := h.sys
 exact ⟨h.ok, h.hB, ⟨n1, n2, n3, now, by omega, by omega, by omega, hs⟩, fun L hL => by have := h.ls L hL; omega⟩
theorem LibM.xblk (h : LibM g Z w N S P sent s) : ∃ now, Blk w g.xb (g.xcs now) 78 := by
 obtain ⟨n1, n2, n3, now, h1, h2, h3, hs⟩ := h.sys
 exact ⟨now, hs.blk (i := 7) rfl⟩
theorem LibM.ablk (h : LibM g Z w N S P sent s) : Blk w g.ab g.acs 43 := by
 obtain ⟨n1, n2, n3, now, h1, h2, h3, hs⟩ := h.sys
 exact hs.blk (i := 8) rfl
theorem LibM.lblk (h : LibM g Z w N S P sent s) : Blk w g.lb g.lcs 44 := by
 obtain ⟨n1, n2, n3, now, h1, h2, h3, hs⟩ := h.sys
 exact hs.blk (i := 9) rfl
structure LibC (g : Lg) (w : World) : Prop where
 x0 : w.cell? ⟨g.xb, 0, none⟩ = some (.slice (some ⟨g.ab, 0, none⟩) 2 g.ac)
 x1 : w.cell? ⟨g.xb, 1, none⟩ = some (.pointer (some ⟨g.bb, 0, none⟩))
 x2 : w.cell? ⟨g.xb, 2, none⟩ = some (.slice (some ⟨g.lb, 0, none⟩) 3 g.lc)
 x3 : w.cell? ⟨g.xb, 3, none⟩ = some (.pointer (some ⟨g.nb, 0, none⟩))
 x4 : ∃ now, w.cell? ⟨g.xb, 4, none⟩ = some (i64 now)
 f4 : w.frozen? ⟨g.xb, 4, none⟩ = false
 f3 : w.frozen? ⟨g.xb, 3, none⟩ = false
 a0 : w.cell? ⟨g.ab, 0, none⟩ = some (.pointer (some ⟨g.a1, 0, none⟩))
 a1 : w.cell? ⟨g.ab, 1, none⟩ = some (.pointer (some ⟨g.a2, 0, none⟩))
 l0 : w.cell? ⟨g.lb, 0, none⟩ = some (.pointer (some ⟨g.l3, 0, none⟩))
 l1 : w.cell? ⟨g.lb, 1, none⟩ = some (.pointer (some ⟨g.l4, 0, none⟩))
 l2 : w.cell? ⟨g.lb, 2, none⟩ = some (.pointer (some ⟨g.l1, 0, none⟩))
theorem LibM.cells (h : LibM g Z w N S P sent s) : LibC g w := by
 obtain ⟨now, hx⟩ := h.xblk
 have ha := h.ablk
 have hl := h.lblk
 have k := h.ok
 exact ⟨hx.cell 0, hx.cell 1, hx.cell 2, hx.cell 3, ⟨now, hx.cell 4⟩, hx.frozen 4, hx.frozen 3, (ha.cell 0).trans k.p1, (ha.cell 1).trans k.p2, (hl.cell 0).trans k.q3, (hl.cell 1).trans k.q4, (hl.cell 2).trans k.q1⟩
theorem LibM.clock (h : LibM g Z w N S P sent s) (now : Int) : LibM g Z (w.setCell ⟨g.xb, 4, none⟩ (i64 now)) N S P sent s ∧ Tn (g.F Z) w (w.setCell ⟨g.xb, 4, none⟩ (i64 now)) := by
 obtain ⟨n1, n2, n3, now0, h1, h2, h3, hs⟩ := h.sys
 obtain ⟨O, ⟨-, rfl⟩, hO⟩ := hs.see (i := 7) rfl
 have h7 := hO g.xb rfl
 refine ⟨⟨h.ok, by simpa using h.hB, ⟨n1, n2, n3, now, h1, h2, h3, hs.set (i := 7) (j := 4) rfl (i64 now)⟩, h.ls⟩, (Tn.refl _ _).setCell (p := ⟨g.xb, 4, none⟩) (.inl ⟨h7.1, fun e => h7.2.2 (e 7)⟩) _⟩
theorem LibM.next {i : Nat} {Ms : List Assn} {w' : World} (h : LibM g Z w N S P sent s) (ha : After g.B0 i Z w Ms w') {s' : Lb} {P' : List Pc} {sent' : Nat} {N' : Nat} (hm : ∃ n1 n2 n3 now, n1 ≤ N' ∧ n2 ≤ N' ∧ n3 ≤ N' ∧ Ms = g.ms n1 n2 n3 S P' sent' now s') (hl : ∀ L, IsL L → (s'.ls L).sent ≤ N') :
  Nx g Z w w' fun Z' => LibM g Z' w' N' S P' sent' s' ∧ (∀ j, j ≠ i → ∀ k, w.heap.size ≤ k → k < w'.heap.size → Z' j k) := by
 obtain ⟨n1, n2, n3, now, h1, h2, h3, rfl⟩ := hm
 obtain ⟨hs, ht⟩ := ha
 exact ⟨_, fun i k hk => .inl hk, ht.mono fun k hk => ⟨hk.1, fun e => hk.2 (e i)⟩, ⟨h.ok, Nat.le_trans h.hB ht.size, ⟨n1, n2, n3, now, h1, h2, h3, hs⟩, hl⟩, fun j hj k h5 h6 => .inr ⟨hj, h5, h6⟩⟩
theorem upd_id {α : Type} (f : Int → α) (i : Int) : upd f i (f i) = f := funext fun j => by unfold upd; split <;> simp_all
def Lg.ap (g : Lg) (a : Int) : Nat := if a = 1 then g.a1 else g.a2
def Lg.lp (g : Lg) (L : Int) : Nat := if L = 3 then g.l3 else if L = 4 then g.l4 else g.l1
def RowZ (w : World) (Z' : Nat → Nat → Prop) (v : Value) (w' : World) (ms : List Msg) : Prop := MRow w' w.heap.size v ms ∧ ∀ k, v.ownBlock = some k → Z' 6 k
theorem LibM.atick {a : Int} (ha : IsA a) (h : LibM g Z w N S P sent s) (hN : N < 90000) (hL : (s.as a).L.length < 1000) :
  Calls Tryz.prog 23 #[.pointer (some ⟨g.ap a, 0, none⟩)] w fun e w' => ∃ v, e = .returned v ∧ Nx g Z w w' fun Z' => LibM g Z' w' (N + 1) S P sent (s.tickA a) ∧ RowZ w Z' v w' (s.as a).tick.2 := by
 obtain ⟨n1, n2, n3, now, h1, h2, h3, hs⟩ := h.sys
 have fin : ∀ {i : Nat} {Ms : List Assn} {w' : World} {e : Ending}, i ≠ 6 → AnsR (s.as a).tick.2 w e w' → After g.B0 i Z w Ms w' → (∃ n1 n2 n3 now, n1 ≤ N + 1 ∧ n2 ≤ N + 1 ∧ n3 ≤ N + 1 ∧ Ms = g.ms n1 n2 n3 S P sent now (s.tickA a)) → ∃ v, e = .returned v ∧ Nx g Z w w' fun Z' => LibM g Z' w' (N + 1) S P sent (s.tickA a) ∧ RowZ w Z' v w' (s.as a).tick.2 := by
  rintro i Ms w' e hi ⟨v, rfl, hr⟩ haf hm
  obtain ⟨Z', hz, ht, hl, hn⟩ := h.next haf (s' := s.tickA a) (P' := P) (sent' := sent) (N' := N + 1) hm (fun L hL => by have := h.ls L hL; unfold Lb.tickA; dsimp only; omega)
  exact ⟨v, rfl, Z', hz, ht, hl, hr, fun k hk => hn 6 (Ne.symm hi) k (row_lt hr k hk).1 (row_lt hr k hk).2⟩
 rcases ha with rfl | rfl
 ·refine (asr_tick (i := 0) hs h.hB rfl (by omega) hL).mono ?_
  rintro e w' ⟨h4, h5⟩
  exact fin (by omega) h4 h5 ⟨n1 + 1, n2, n3, now, by omega, by omega, by omega, rfl⟩
 ·refine (asr_tick (i := 1) hs h.hB rfl (by omega) hL).mono ?_
  rintro e w' ⟨h4, h5⟩
  exact fin (by omega) h4 h5 ⟨n1, n2 + 1, n3, now, by omega, by omega, by omega, rfl⟩
theorem LibM.btick (h : LibM g Z w N S P sent s) (hN : N < 90000) (hL : s.b.L.length < 900) :
  Calls Tryz.prog 18 #[.pointer (some ⟨g.bb, 0, none⟩)] w fun e w' => ∃ v, e = .returned v ∧ Nx g Z w w' fun Z' => LibM g Z' w' (N + 1) S P sent s.tickB ∧ RowZ w Z' v w' s.b.tick.2 := by
 obtain ⟨n1, n2, n3, now, h1, h2, h3, hs⟩ := h.sys
 refine (brk_tick (i := 2) hs h.hB rfl (by omega) hL).mono ?_
 rintro e w' ⟨⟨v, rfl, hr⟩, haf⟩
 obtain ⟨Z', hz, ht, hl, hn⟩ := h.next haf (s' := s.tickB) (P' := P) (sent' := sent) (N' := N + 1) ⟨n1, n2, n3 + 1, now, by omega, by omega, by omega, rfl⟩ (fun L hL => by have := h.ls L hL; unfold Lb.tickB; dsimp only; omega)
 exact ⟨v, rfl, Z', hz, ht, hl, hr, fun k hk => hn 6 (by omega) k (row_lt hr k hk).1 (row_lt hr k hk).2⟩
theorem LibM.atake {a : Int} (ha : IsA a) (h : LibM g Z w N S P sent s) (m : Msg) (hN : N < 90000) (ht : m.text.length ≤ 1000000) :
  Calls Tryz.prog 22 #[.pointer (some ⟨g.ap a, 0, none⟩), .agg (encM m)] w fun e w' => ∃ v, e = .returned v ∧ Nx g Z w w' fun Z' => LibM g Z' w' (N + 1) S P sent (s.takeA a m) ∧ RowZ w Z' v w' ((s.as a).take m).2 := by
 obtain ⟨n1, n2, n3, now, h1, h2, h3, hs⟩ := h.sys
 have fin : ∀ {i : Nat} {Ms : List Assn} {w' : World} {e : Ending}, i ≠ 6 → Ans ((s.as a).take m).2 w e w' → After g.B0 i Z w Ms w' → (∃ n1 n2 n3 now, n1 ≤ N + 1 ∧ n2 ≤ N + 1 ∧ n3 ≤ N + 1 ∧ Ms = g.ms n1 n2 n3 S P sent now (s.takeA a m)) → ∃ v, e = .returned v ∧ Nx g Z w w' fun Z' => LibM g Z' w' (N + 1) S P sent (s.takeA a m) ∧ RowZ w Z' v w' ((s.as a).take m).2 := by
  rintro i Ms w' e hi ⟨v, rfl, hr⟩ haf hm
  have hr := msgs_row hr
  obtain ⟨Z', hz, ht, hl, hn⟩ := h.next haf (s' := s.takeA a m) (P' := P) (sent' := sent) (N' := N + 1) hm (fun L hL => by have := h.ls L hL; unfold Lb.takeA; dsimp only; omega)
  exact ⟨v, rfl, Z', hz, ht, hl, hr, fun k hk => hn 6 (Ne.symm hi) k (row_lt hr k hk).1 (row_lt hr k hk).2⟩
 rcases ha with rfl | rfl
 ·refine (asr_take (i := 0) hs h.hB rfl m (by omega) ht).mono ?_
  rintro e w' ⟨h4, h5⟩
  exact fin (by omega) h4 h5 ⟨n1 + 1, n2, n3, now, by omega, by omega, by omega, rfl⟩
 ·refine (asr_take (i := 1) hs h.hB rfl m (by omega) ht).mono ?_
  rintro e w' ⟨h4, h5⟩
  exact fin (by omega) h4 h5 ⟨n1, n2 + 1, n3, now, by omega, by omega, by omega, rfl⟩
theorem LibM.btake (h : LibM g Z w N S P sent s) (m : Msg) (hN : N < 90000) (ht : m.text.length ≤ 1000000) :
  Calls Tryz.prog 16 #[.pointer (some ⟨g.bb, 0, none⟩), .agg (encM m)] w fun e w' => ∃ v, e = .returned v ∧ Nx g Z w w' fun Z' => LibM g Z' w' (N + 1) S P sent (s.takeB m) ∧ RowZ w Z' v w' (s.b.take m).2 := by
 obtain ⟨n1, n2, n3, now, h1, h2, h3, hs⟩ := h.sys
 refine (brk_take (i := 2) hs h.hB rfl m (by omega) ht).mono ?_
 rintro e w' ⟨⟨v, rfl, hr⟩, haf⟩
 have hr := msgs_row hr
 obtain ⟨Z', hz, ht, hl, hn⟩ := h.next haf (s' := s.takeB m) (P' := P) (sent' := sent) (N' := N + 1) ⟨n1, n2, n3 + 1, now, by omega, by omega, by omega, rfl⟩ (fun L hL => by have := h.ls L hL; unfold Lb.takeB; dsimp only; omega)
 exact ⟨v, rfl, Z', hz, ht, hl, hr, fun k hk => hn 6 (by omega) k (row_lt hr k hk).1 (row_lt hr k hk).2⟩
theorem take_sent (x : Len) (m : Msg) : (x.take m).1.sent ≤ x.sent + 1 := by
 cases hd : dec m.text with
 | none => unfold Len.take; rw [hd]; show x.sent ≤ _; omega
 | some t =>
  obtain ⟨k, a, r, v⟩ := t
  unfold Len.take
  rw [hd]
  dsimp only
  repeat' split
  all_goals first | (show _ + 1 ≤ _; omega) | (simp only [Len.send, Len.deal]; omega) | (unfold Len.send Len.deal; split <;> (show x.sent + 1 ≤ _; omega)) | (show x.sent + 1 ≤ _; omega) | (show x.sent ≤ _; omega)
theorem LibM.ltake {L : Int} (hL : IsL L) (h : LibM g Z w N S P sent s) (m : Msg) (hN : N < 90000) (hh : (s.ls L).here.length ≤ 21000) (ht : m.text.length ≤ 1000000) :
  Calls Tryz.prog 26 #[.pointer (some ⟨g.lp L, 0, none⟩), .agg (encM m)] w fun e w' => ∃ v, e = .returned v ∧ Nx g Z w w' fun Z' => LibM g Z' w' (N + 1) S P sent (s.takeL L m) ∧ RowZ w Z' v w' ((s.ls L).take m).2 := by
 obtain ⟨n1, n2, n3, now, h1, h2, h3, hs⟩ := h.sys
 have hse := h.ls L hL
 have fin : ∀ {i : Nat} {Ms : List Assn} {w' : World} {e : Ending}, i ≠ 6 → Ans ((s.ls L).take m).2 w e w' → After g.B0 i Z w Ms w' → (∃ n1 n2 n3 now, n1 ≤ N + 1 ∧ n2 ≤ N + 1 ∧ n3 ≤ N + 1 ∧ Ms = g.ms n1 n2 n3 S P sent now (s.takeL L m)) → ∃ v, e = .returned v ∧ Nx g Z w w' fun Z' => LibM g Z' w' (N + 1) S P sent (s.takeL L m) ∧ RowZ w Z' v w' ((s.ls L).take m).2 := by
  rintro i Ms w' e hi ⟨v, rfl, hr⟩ haf hm
  have hr := msgs_row hr
  obtain ⟨Z', hz, ht, hl, hn⟩ := h.next haf (s' := s.takeL L m) (P' := P) (sent' := sent) (N' := N + 1) hm (fun M hM => by
   unfold Lb.takeL; dsimp only
   by_cases e : M = L
   ·subst e; rw [upd_self]; have := take_sent (s.ls M) m; omega
   ·rw [upd_ne _ _ e]; have := h.ls M hM; omega)
  exact ⟨v, rfl, Z', hz, ht, hl, hr, fun k hk => hn 6 (Ne.symm hi) k (row_lt hr k hk).1 (row_lt hr k hk).2⟩
 rcases hL with rfl | rfl | rfl
 ·refine (len_take' (i := 3) hs h.hB rfl m (by omega) hh ht).mono ?_
  rintro e w' ⟨h4, h5⟩
  exact fin (by omega) h4 h5 ⟨n1, n2, n3, now, by omega, by omega, by omega, rfl⟩
 ·refine (len_take' (i := 4) hs h.hB rfl m (by omega) hh ht).mono ?_
  rintro e w' ⟨h4, h5⟩
  exact fin (by omega) h4 h5 ⟨n1, n2, n3, now, by omega, by omega, by omega, rfl⟩
 ·refine (len_take' (i := 5) hs h.hB rfl m (by omega) hh ht).mono ?_
  rintro e w' ⟨h4, h5⟩
  exact fin (by omega) h4 h5 ⟨n1, n2, n3, now, by omega, by omega, by omega, rfl⟩
theorem LibM.aask {a : Int} (ha : IsA a) (h : LibM g Z w N S P sent s) (n t : Int) (hN : N < 90000) (hn : I64 n) (ht : I64 t) :
  Calls Tryz.prog 20 #[.pointer (some ⟨g.ap a, 0, none⟩), i64 n, i64 t] w fun e w' => ∃ v, e = .returned (.tuple #[v, i64 ((s.as a).ask n t).2]) ∧ Nx g Z w w' fun Z' => LibM g Z' w' (N + 1) S P sent (s.ask a n t) ∧ RowZ w Z' v w' ((s.as a).ask n t).1.2 := by
 obtain ⟨n1, n2, n3, now, h1, h2, h3, hs⟩ := h.sys
 have fin : ∀ {i : Nat} {Ms : List Assn} {w' : World} {e : Ending}, i ≠ 6 → Ans2 ((s.as a).ask n t).1.2 ((s.as a).ask n t).2 w e w' → After g.B0 i Z w Ms w' → (∃ n1 n2 n3 now, n1 ≤ N + 1 ∧ n2 ≤ N + 1 ∧ n3 ≤ N + 1 ∧ Ms = g.ms n1 n2 n3 S P sent now (s.ask a n t)) → ∃ v, e = .returned (.tuple #[v, i64 ((s.as a).ask n t).2]) ∧ Nx g Z w w' fun Z' => LibM g Z' w' (N + 1) S P sent (s.ask a n t) ∧ RowZ w Z' v w' ((s.as a).ask n t).1.2 := by
  rintro i Ms w' e hi ⟨v, rfl, hr⟩ haf hm
  have hr := msgs_row hr
  obtain ⟨Z', hz, ht, hl, hn⟩ := h.next haf (s' := s.ask a n t) (P' := P) (sent' := sent) (N' := N + 1) hm (fun L hL => by have := h.ls L hL; unfold Lb.ask; dsimp only; omega)
  exact ⟨v, rfl, Z', hz, ht, hl, hr, fun k hk => hn 6 (Ne.symm hi) k (row_lt hr k hk).1 (row_lt hr k hk).2⟩
 rcases ha with rfl | rfl
 ·refine (asr_ask (i := 0) hs h.hB rfl n t (by omega) hn ht).mono ?_
  rintro e w' ⟨h4, h5⟩
  exact fin (by omega) h4 h5 ⟨n1 + 1, n2, n3, now, by omega, by omega, by omega, rfl⟩
 ·refine (asr_ask (i := 1) hs h.hB rfl n t (by omega) hn ht).mono ?_
  rintro e w' ⟨h4, h5⟩
  exact fin (by omega) h4 h5 ⟨n1, n2 + 1, n3, now, by omega, by omega, by omega, rfl⟩
theorem LibM.aret {a : Int} (ha : IsA a) (h : LibM g Z w N S P sent s) (n : Int) (hN : N < 90000) (hn : I64 n) :
  Calls Tryz.prog 21 #[.pointer (some ⟨g.ap a, 0, none⟩), i64 n] w fun e w' => ∃ v, e = .returned (.tuple #[v, i64 ((s.as a).ret n).2]) ∧ Nx g Z w w' fun Z' => LibM g Z' w' (N + 1) S P sent (s.ret a n) ∧ RowZ w Z' v w' ((s.as a).ret n).1.2 := by
 obtain ⟨n1, n2, n3, now, h1, h2, h3, hs⟩ := h.sys
 have fin : ∀ {i : Nat} {Ms : List Assn} {w' : World} {e : Ending}, i ≠ 6 → Ans2 ((s.as a).ret n).1.2 ((s.as a).ret n).2 w e w' → After g.B0 i Z w Ms w' → (∃ n1 n2 n3 now, n1 ≤ N + 1 ∧ n2 ≤ N + 1 ∧ n3 ≤ N + 1 ∧ Ms = g.ms n1 n2 n3 S P sent now (s.ret a n)) → ∃ v, e = .returned (.tuple #[v, i64 ((s.as a).ret n).2]) ∧ Nx g Z w w' fun Z' => LibM g Z' w' (N + 1) S P sent (s.ret a n) ∧ RowZ w Z' v w' ((s.as a).ret n).1.2 := by
  rintro i Ms w' e hi ⟨v, rfl, hr⟩ haf hm
  have hr := msgs_row hr
  obtain ⟨Z', hz, ht, hl, hn⟩ := h.next haf (s' := s.ret a n) (P' := P) (sent' := sent) (N' := N + 1) hm (fun L hL => by have := h.ls L hL; unfold Lb.ret; dsimp only; omega)
  exact ⟨v, rfl, Z', hz, ht, hl, hr, fun k hk => hn 6 (Ne.symm hi) k (row_lt hr k hk).1 (row_lt hr k hk).2⟩
 rcases ha with rfl | rfl
 ·refine (asr_ret (i := 0) hs h.hB rfl n (by omega) hn).mono ?_
  rintro e w' ⟨h4, h5⟩
  exact fin (by omega) h4 h5 ⟨n1 + 1, n2, n3, now, by omega, by omega, by omega, rfl⟩
 ·refine (asr_ret (i := 1) hs h.hB rfl n (by omega) hn).mono ?_
  rintro e w' ⟨h4, h5⟩
  exact fin (by omega) h4 h5 ⟨n1, n2 + 1, n3, now, by omega, by omega, by omega, rfl⟩
theorem LibM.send {Bv : Nat} {v : Value} {ms : List Msg} (h : LibM g Z w N S P sent s) (hv : MRow w Bv v ms) (hz : ∀ k, v.ownBlock = some k → Z 6 k) (hl : P.length ≤ 700000) (hm : ms.length ≤ 1000) (hs : sent ≤ 900000) :
  Calls Tryz.prog 45 #[.pointer (some ⟨g.xb, 0, none⟩), v] w fun e w' => e = .returned (.tuple #[]) ∧ ∃ P', SentL 5 S sent ms P P' ∧ Nx g Z w w' fun Z' => LibM g Z' w' N S P' (sent + ms.length) s := by
 obtain ⟨n1, n2, n3, now, h1, h2, h3, hss⟩ := h.sys
 refine (lsend_any hss h.hB rfl rfl hv hz hl hm hs).mono ?_
 rintro e w' ⟨rfl, P', Z', h4, h5, h6, h7⟩
 exact ⟨rfl, P', h4, Z', h6, h7.mono fun k hk => ⟨hk.1, fun e => hk.2 (e 6)⟩, h.ok, Nat.le_trans h.hB h7.size, ⟨n1, n2, n3, now, h1, h2, h3, h5⟩, h.ls⟩
theorem LibM.next_none (h : LibM g Z w N S [] sent s) :
  Calls Tryz.prog 43 #[.pointer (some ⟨g.nb, 0, none⟩)] w fun e w' => e = .returned (.tuple #[.agg #[i64 0, i64 0, i64 0, .string ⟨#[]⟩], i64 0, .bool false]) ∧ Below w.heap.size w w' := by
 obtain ⟨n1, n2, n3, now, h1, h2, h3, hs⟩ := h.sys
 exact net_none (i := 6) hs rfl
theorem LibM.next_some (h : LibM g Z w N S P sent s) (hn : 0 < P.length) (hl : P.length ≤ 900000) :
  Calls Tryz.prog 43 #[.pointer (some ⟨g.nb, 0, none⟩)] w fun e w' => ∃ p r, e = .returned (.tuple #[.agg (encM p.m), i64 p.at_, .bool true]) ∧ (r ++ [p]).Perm P ∧ Nx g Z w w' fun Z' => LibM g Z' w' N S r sent s := by
 obtain ⟨n1, n2, n3, now, h1, h2, h3, hs⟩ := h.sys
 refine (net_some (i := 6) hs h.hB rfl hn hl).mono ?_
 rintro e w' ⟨p, r, rfl, hp, haf⟩
 obtain ⟨Z', hz, ht, hl, hn⟩ := h.next haf (s' := s) (P' := r) (sent' := sent) (N' := N) ⟨n1, n2, n3, now, by omega, by omega, by omega, rfl⟩ h.ls
 exact ⟨p, r, rfl, hp, Z', hz, ht, hl⟩
theorem LibM.ahere {a : Int} (ha : IsA a) (h : LibM g Z w N S P sent s) :
  Calls Tryz.prog 25 #[.pointer (some ⟨g.ap a, 0, none⟩)] w fun e w' => ∃ v, e = .returned v ∧ w'.ownsRow w.heap.size 3 1 v (s.as a).here.length ((s.as a).here.map (Value.int .i64)) ∧ Below w.heap.size w w' := by
 obtain ⟨n1, n2, n3, now, h1, h2, h3, hs⟩ := h.sys
 rcases ha with rfl | rfl
 ·exact asr_here (i := 0) hs rfl
 ·exact asr_here (i := 1) hs rfl
theorem LibM.astate {a : Int} (ha : IsA a) (h : LibM g Z w N S P sent s) (n : Int) (hn : I64 n) :
  Calls Tryz.prog 24 #[.pointer (some ⟨g.ap a, 0, none⟩), i64 n] w fun e w' => e = .returned (i64 ((s.as a).state n)) ∧ w' = w := by
 obtain ⟨n1, n2, n3, now, h1, h2, h3, hs⟩ := h.sys
 rcases ha with rfl | rfl
 ·exact asr_state (i := 0) hs rfl n hn
 ·exact asr_state (i := 1) hs rfl n hn
theorem LibM.lhere {L : Int} (hL : IsL L) (h : LibM g Z w N S P sent s) (hl : (s.ls L).here.length ≤ 100000) :
  Calls Tryz.prog 28 #[.pointer (some ⟨g.lp L, 0, none⟩)] w fun e w' => ∃ v, e = .returned v ∧ w'.ownsRow w.heap.size 3 1 v (s.ls L).here.length ((s.ls L).here.map (Value.int .i64)) ∧ Below w.heap.size w w' := by
 obtain ⟨n1, n2, n3, now, h1, h2, h3, hs⟩ := h.sys
 rcases hL with rfl | rfl | rfl
 ·exact len_here (i := 3) hs rfl hl
 ·exact len_here (i := 4) hs rfl hl
 ·exact len_here (i := 5) hs rfl hl
end
end Go.Proofs.YtdojgbpaheadnaaGreat

/- The library of the law: all machines tick. -/
namespace Go.Proofs.YtdojgbpaheadnaaGreat
open Go.RowKit Go.Shelf Go.Maps Go.ChangeMaps
attribute [local go_sem] over_cell over_frozen

theorem SentL.app {nd : Int} {S : List Tr} : ∀ {ms ms' : List Msg} {n : Nat} {P P1 P2 : List Pc}, SentL nd S n ms P P1 → SentL nd S (n + ms.length) ms' P1 P2 → SentL nd S n (ms ++ ms') P P2
 | [], ms', n, P, P1, P2, h, h' => by obtain rfl : P1 = P := h; exact h'
 | x :: ms, ms', n, P, P1, P2, ⟨P0, h1, h2⟩, h' => by
  refine ⟨P0, h1, SentL.app h2 ?_⟩
  rw [List.length_cons] at h'
  rw [show n + 1 + ms.length = n + (ms.length + 1) by omega]; exact h'
theorem KS.reqs {init : Int → List Int} {s : Lb} (h : KS init s) {a : Int} (ha : IsA a) : (s.as a).L.length ≤ 6 := by
 have hso := (h.ai a ha).so
 have h1 : ((s.as a).L.map Rq.n).Nodup := by
  rw [List.nodup_iff_pairwise_ne, List.pairwise_map]
  exact hso.imp fun {x y} hxy => by omega
 have h2 := nodup_le (m := [1, 2, 3, 4, 5, 6]) h1 fun x hx => by
  obtain ⟨q, hq, rfl⟩ := List.mem_map.1 hx
  have hv : (s.view a q.n).q = some q := by unfold Lb.view; dsimp only; rw [if_pos ha]; exact rq_mem hso hq
  have := h.gi.rg a q.n q hv
  simp only [List.mem_cons, List.not_mem_nil, or_false]; omega
 simpa using h2
theorem KS.cases {init : Int → List Int} {s : Lb} (h : KS init s) : s.b.L.length ≤ 12 := by
 have h1 : (s.b.L.map fun c => (c.a, c.r)).Nodup := by
  rw [List.nodup_iff_pairwise_ne, List.pairwise_map]
  refine h.so.imp fun {x y} hxy e => ?_
  injection e with e1 e2
  unfold csBefore at hxy; omega
 have h2 := nodup_le (m := [(1, 1), (1, 2), (1, 3), (1, 4), (1, 5), (1, 6), (2, 1), (2, 2), (2, 3), (2, 4), (2, 5), (2, 6)]) h1 fun x hx => by
  obtain ⟨c, hc, rfl⟩ := List.mem_map.1 hx
  have hv : (s.view c.a c.r).c = some c := cs_mem h.so hc
  obtain ⟨q, hq, -⟩ := (h.gi.di c.a c.r).c_q c hv
  obtain ⟨h3, h4, h5, -⟩ := h.gi.rg c.a c.r q hq
  have h6 : c.r = 1 ∨ c.r = 2 ∨ c.r = 3 ∨ c.r = 4 ∨ c.r = 5 ∨ c.r = 6 := by omega
  simp only [List.mem_cons, List.not_mem_nil, or_false, Prod.mk.injEq]
  rcases h3 with e | e <;> rw [e] <;> rcases h6 with e | e | e | e | e | e <;> rw [e] <;> simp
 simpa using h2
theorem tellA_len (s : Asr) (q : Rq) (k : Int) : (s.tell q k).2.length ≤ 1 := by unfold Asr.tell; split <;> simp
theorem tickL_len : ∀ (L : List Rq) (s : Asr), (tickL s L).2.length ≤ L.length
 | [], s => by simp [tickL]
 | q :: L, s => by
  have h1 := tickL_len L (s.tell q (agn q.st)).1
  have h2 := tellA_len s q (agn q.st)
  simp only [tickL, List.length_append, List.length_cons]; omega
theorem tickB_len : ∀ (L : List Cs) (s : Brk), (tickB s L).2.length ≤ L.length
 | [], s => by simp [tickB]
 | c :: L, s => by
  unfold tickB
  split
  ·have h1 := tickB_len L (s.tell c).1
   have h2 : (s.tell c).2.length = 1 := rfl
   simp only [List.length_append, List.length_cons]; omega
  ·have := tickB_len L s; simp only [List.length_cons]; omega
def Lb.tickM (s : Lb) : Lb := ((s.tickA 1).tickA 2).tickB
def Lb.tickMs (s : Lb) : List Msg := (s.as 1).tick.2 ++ ((s.tickA 1).as 2).tick.2 ++ ((s.tickA 1).tickA 2).b.tick.2
theorem Lb.tickM_W (s : Lb) : s.tickM.W = s.W ++ s.tickMs := by
 unfold Lb.tickM Lb.tickMs
 show (s.W ++ _ ++ _) ++ _ = _
 rw [List.append_assoc, List.append_assoc, List.append_assoc]
theorem KS.tickM {init : Int → List Int} {s : Lb} (h : KS init s) : KS init s.tickM := ((h.tickA (.inl rfl)).tickA (.inr rfl)).tickB
theorem KS.tickMs_len {init : Int → List Int} {s : Lb} (h : KS init s) : s.tickMs.length ≤ 24 := by
 have h1 := tickL_len (s.as 1).L (s.as 1)
 have h2 := tickL_len ((s.tickA 1).as 2).L ((s.tickA 1).as 2)
 have h3 := tickB_len ((s.tickA 1).tickA 2).b.L ((s.tickA 1).tickA 2).b
 have h4 := h.reqs (a := 1) (.inl rfl)
 have h5 := (h.tickA (a := 1) (.inl rfl)).reqs (a := 2) (.inr rfl)
 have h6 := ((h.tickA (a := 1) (.inl rfl)).tickA (a := 2) (.inr rfl)).cases
 unfold Lb.tickMs Asr.tick Brk.tick
 simp only [List.length_append]
 omega
set_option maxRecDepth 100000 in
set_option maxHeartbeats 4000000 in
theorem ltick_any {g : Lg} {Z : Nat → Nat → Prop} {w : World} {N : Nat} {S : List Tr} {P : List Pc} {sent : Nat} {s : Lb} {init : Int → List Int} (h : LibM g Z w N S P sent s) (hk : KS init s) (hN : N < 80000) (hl : P.length ≤ 600000) (hs : sent ≤ 800000) :
  Calls Tryz.prog 42 #[.pointer (some ⟨g.xb, 0, none⟩)] w fun e w' => e = .returned (.tuple #[]) ∧ ∃ P', SentL 5 S sent s.tickMs P P' ∧ Nx g Z w w' fun Z' => LibM g Z' w' (N + 3) S P' (sent + s.tickMs.length) s.tickM := by
 have L0 := Lib.hid h
 have k1 := hk.reqs (a := 1) (.inl rfl)
 have k2 := (hk.tickA (a := 1) (.inl rfl)).reqs (a := 2) (.inr rfl)
 have k3 := ((hk.tickA (a := 1) (.inl rfl)).tickA (a := 2) (.inr rfl)).cases
 have KL := Lib.hid hk.tickMs_len
 have e1 := tickL_len (s.as 1).L (s.as 1)
 have e2 := tickL_len ((s.tickA 1).as 2).L ((s.tickA 1).as 2)
 have e3 := tickB_len ((s.tickA 1).tickA 2).b.L ((s.tickA 1).tickA 2).b
 have E1 : Hid ((s.as 1).tick.2.length ≤ 6) := Lib.hid (Nat.le_trans e1 k1)
 have E2 : Hid (((s.tickA 1).as 2).tick.2.length ≤ 6) := Lib.hid (Nat.le_trans e2 k2)
 have E3 : Hid (((s.tickA 1).tickA 2).b.tick.2.length ≤ 12) := Lib.hid (Nat.le_trans e3 k3)
 have K1 := Lib.hid k1
 have K2 := Lib.hid k2
 have K3 := Lib.hid k3
 clear hk e1 e2 e3 k1 k2 k3
 have C := h.cells
 have x0 := C.x0
 have a0 := C.a0
 clear C h
 go_enter Tryz.func42, Tryz.ntmps42
 go_wp2_with fail
 refine (LibM.atick (a := 1) (.inl rfl) L0.out (by omega) (by have := K1.out; omega)).mono ?_
 rintro e w1 ⟨v1, rfl, Z1, hz1, ht1, hl1, hr1⟩
 have L1 := Lib.hid hl1
 have R1 := Lib.hid hr1
 have T1 := Lib.hid ht1
 have ZZ1 := Lib.hid hz1
 clear hl1 hr1 ht1 hz1 x0 a0
 go_wp2_with fail
 refine (L1.out.send R1.out.1 R1.out.2 (by omega) (by have := E1.out; omega) (by omega)).mono ?_
 rintro e w2 ⟨rfl, P2, hp2, Z2, hz2, ht2, hl2⟩
 have L2 := Lib.hid hl2
 have S2 := Lib.hid hp2
 have T2 := Lib.hid (T1.out.trans (ht2.mono fun k hk => Lg.F.mono ZZ1.out hk))
 have ZZ2 : Hid (∀ i k, Z i k → Z2 i k) := Lib.hid fun i k hk => hz2 i k (ZZ1.out i k hk)
 have M2 : Hid (P2.length ≤ 600100) := Lib.hid (by have := hp2.len; have := E1.out; omega)
 clear hp2 hl2 ht2 hz2 L1 R1 T1 ZZ1
 have C := L2.out.cells
 have x0 := C.x0
 have a1 := C.a1
 clear C
 go_wp2_with fail
 refine (LibM.atick (a := 2) (.inr rfl) L2.out (by omega) (by have := K2.out; omega)).mono ?_
 rintro e w3 ⟨v3, rfl, Z3, hz3, ht3, hl3, hr3⟩
 have L3 := Lib.hid hl3
 have R3 := Lib.hid hr3
 have T3 := Lib.hid (T2.out.trans (ht3.mono fun k hk => Lg.F.mono ZZ2.out hk))
 have ZZ3 : Hid (∀ i k, Z i k → Z3 i k) := Lib.hid fun i k hk => hz3 i k (ZZ2.out i k hk)
 clear hl3 hr3 ht3 hz3 x0 a1 T2 ZZ2 L2
 go_wp2_with fail
 refine (L3.out.send R3.out.1 R3.out.2 (by have := M2.out; omega) (by have := E2.out; omega) (by have := E1.out; omega)).mono ?_
 rintro e w4 ⟨rfl, P4, hp4, Z4, hz4, ht4, hl4⟩
 have L4 := Lib.hid hl4
 have S4 := Lib.hid (S2.out.app hp4)
 have T4 := Lib.hid (T3.out.trans (ht4.mono fun k hk => Lg.F.mono ZZ3.out hk))
 have ZZ4 : Hid (∀ i k, Z i k → Z4 i k) := Lib.hid fun i k hk => hz4 i k (ZZ3.out i k hk)
 have M4 : Hid (P4.length ≤ 600200) := Lib.hid (by have := hp4.len; have := E2.out; have := M2.out; omega)
 clear hp4 hl4 ht4 hz4 L3 R3 T3 ZZ3 S2 M2
 have C := L4.out.cells
 have x1 := C.x1
 clear C
 go_wp2_with fail
 refine (L4.out.btick (by omega) (by have := K3.out; show ((s.tickA 1).tickA 2).b.L.length < _; omega)).mono ?_
 rintro e w5 ⟨v5, rfl, Z5, hz5, ht5, hl5, hr5⟩
 have L5 := Lib.hid hl5
 have R5 := Lib.hid hr5
 have T5 := Lib.hid (T4.out.trans (ht5.mono fun k hk => Lg.F.mono ZZ4.out hk))
 have ZZ5 : Hid (∀ i k, Z i k → Z5 i k) := Lib.hid fun i k hk => hz5 i k (ZZ4.out i k hk)
 clear hl5 hr5 ht5 hz5 x1 T4 ZZ4 L4
 go_wp2_with fail
 refine (L5.out.send R5.out.1 R5.out.2 (by have := M4.out; omega) (by have := E3.out; omega) (by have := E1.out; have := E2.out; omega)).mono ?_
 rintro e w6 ⟨rfl, P6, hp6, Z6, hz6, ht6, hl6⟩
 have L6 := Lib.hid hl6
 have S6 := Lib.hid (S4.out.app (by rw [List.length_append, ← Nat.add_assoc]; exact hp6))
 have T6 := Lib.hid (T5.out.trans (ht6.mono fun k hk => Lg.F.mono ZZ5.out hk))
 have ZZ6 : Hid (∀ i k, Z i k → Z6 i k) := Lib.hid fun i k hk => hz6 i k (ZZ5.out i k hk)
 have M6 : Hid (P6.length ≤ 600400) := Lib.hid (by have := hp6.len; have := E3.out; have := M4.out; omega)
 clear hp6 hl6 ht6 hz6 L5 R5 T5 ZZ5 S4 M4
 have C := L6.out.cells
 have x2 := C.x2
 have l0 := C.l0
 clear C
 go_wp2_with fail
 refine (tick_any g.l3 w6).mono ?_
 rintro e w7 ⟨rfl, rfl⟩
 go_wp2_with fail
 refine (L6.out.send (Bv := 0) (ms := []) (MRow.nil _ _) (fun k e => by cases e) (by have := M6.out; omega) (by simp) (by have := E1.out; have := E2.out; have := E3.out; omega)).mono ?_
 rintro e w8 ⟨rfl, P8, hp8, Z8, hz8, ht8, hl8⟩
 obtain rfl : P8 = P6 := hp8
 have L8 := Lib.hid hl8
 have T8 := Lib.hid (T6.out.trans (ht8.mono fun k hk => Lg.F.mono ZZ6.out hk))
 have ZZ8 : Hid (∀ i k, Z i k → Z8 i k) := Lib.hid fun i k hk => hz8 i k (ZZ6.out i k hk)
 clear hl8 ht8 hz8 x2 l0
 go_wp2_with fail
 refine bodyPost_end (results_none rfl _ _ _) rfl ?_
 refine ⟨rfl, P8, S6.out, Z8, ZZ8.out, T8.out, ?_⟩
 have h1 := L8.out
 unfold Lb.tickMs Lb.tickM
 simp only [List.length_append, List.length_nil, Nat.add_zero] at h1 ⊢
 rw [← Nat.add_assoc, ← Nat.add_assoc]
 exact h1
end Go.Proofs.YtdojgbpaheadnaaGreat
