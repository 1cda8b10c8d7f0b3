/- An asker and the reference's, side by side. -/
import Derived.Test.YtdojgbpaheadnaaQKG
set_option linter.unusedVariables false
set_option linter.unusedSimpArgs false

namespace Go.Proofs.Ytdojgbpaheadnaa
open Go.RowKit Go.Shelf Go.Maps

/-- Both askers; Z: blocks that neither owns. -/
def ABo (B b rb k : Nat) (Z : Nat → Prop) (s : Asr) (w : World) : Prop :=
  ∃ mv lv B1 B2, AMem w B1 b s mv k ∧ RAM w B2 rb s lv k ∧ (∀ j, OwnA b mv j → OwnRA rb lv j → False) ∧ B ≤ B1 ∧ B ≤ B2 ∧ ∀ j, Z j → ¬ OwnA b mv j ∧ ¬ OwnRA rb lv j ∧ j < w.heap.size
/-- The one has worked, the other not yet. -/
def MidA (B b rb k : Nat) (Z : Nat → Prop) (s s1 : Asr) (ms : List Msg) (v1 : Value) (w : World) : Prop :=
  ∃ mv lv B1 B2, AMem w B1 b s1 mv (k + 1) ∧ RAM w B2 rb s lv k ∧ (∀ j, OwnA b mv j → OwnRA rb lv j → False) ∧ B ≤ B1 ∧ B ≤ B2 ∧ (∀ j, Z j → ¬ OwnA b mv j ∧ ¬ OwnRA rb lv j ∧ j < w.heap.size) ∧
    MSl w v1 ms ∧ ∀ g n c, v1 = .slice (some ⟨g, 0, none⟩) n c → ¬ OwnRA rb lv g
def Two (B b rb k : Nat) (Z : Nat → Prop) (s1 : Asr) (ms : List Msg) (v1 v2 : Value) (w : World) : Prop := ABo B b rb (k + 1) Z s1 w ∧ MSl w v1 ms ∧ MSl w v2 ms
/-- What may have changed. -/
abbrev Ch (B : Nat) (Z : Nat → Prop) (w w' : World) : Prop := Tn (fun j => B ≤ j ∧ ¬ Z j) w w'
section
variable {B b rb k : Nat} {Z : Nat → Prop} {s s1 : Asr} {w w' : World} {ms : List Msg} {v1 v2 : Value}
theorem ABo.up (h : ABo B b rb k Z s w) (hb : Below w.heap.size w w') : ABo B b rb k Z s w' := by
  obtain ⟨mv, lv, B1, B2, h1, h2, h3, h4, h5, h6⟩ := h
  exact ⟨mv, lv, B1, B2, h1.up hb, h2.up hb, h3, h4, h5, fun j hj => ⟨(h6 j hj).1, (h6 j hj).2.1, Nat.lt_of_lt_of_le (h6 j hj).2.2 hb.size⟩⟩
theorem ABo.weak {Z' : Nat → Prop} (h : ABo B b rb k Z s w) (hZ : ∀ j, Z' j → Z j) : ABo B b rb k Z' s w := by
  obtain ⟨mv, lv, B1, B2, h1, h2, h3, h4, h5, h6⟩ := h
  exact ⟨mv, lv, B1, B2, h1, h2, h3, h4, h5, fun j hj => h6 j (hZ j hj)⟩
/-- A new block. -/
theorem ABo.new {x : Nat} (h : ABo B b rb k (fun _ => False) s w) (hb : Below w.heap.size w w') (hx : w.heap.size ≤ x) (hx2 : x < w'.heap.size) : ABo B b rb k (fun j => j = x) s w' := by
  obtain ⟨mv, lv, B1, B2, h1, h2, h3, h4, h5, h6⟩ := h
  exact ⟨mv, lv, B1, B2, h1.up hb, h2.up hb, h3, h4, h5, fun j hj => ⟨fun e => by have := (h1.own_lt e).2; omega, fun e => by have := (h2.own_lt e).2; omega, by rw [show j = x from hj]; exact hx2⟩⟩
/-- The block of Z changes. -/
theorem ABo.set (h : ABo B b rb k Z s w) (t : Tn Z w w') : ABo B b rb k Z s w' := by
  obtain ⟨mv, lv, B1, B2, h1, h2, h3, h4, h5, h6⟩ := h
  exact ⟨mv, lv, B1, B2, h1.keep t (fun j hj ho => (h6 j hj).1 ho), h2.keep t (fun j hj ho => (h6 j hj).2.1 ho), h3, h4, h5, fun j hj => ⟨(h6 j hj).1, (h6 j hj).2.1, Nat.lt_of_lt_of_le (h6 j hj).2.2 t.size⟩⟩
theorem ABo.mid {mv mv' lv : Value} {B1 B2 : Nat} (h1 : AMem w B1 b s mv k) (h2 : RAM w B2 rb s lv k) (h3 : ∀ j, OwnA b mv j → OwnRA rb lv j → False) (h4 : B ≤ B1) (h5 : B ≤ B2) (h6 : ∀ j, Z j → ¬ OwnA b mv j ∧ ¬ OwnRA rb lv j ∧ j < w.heap.size)
    (hM : AMem w' B1 b s1 mv' (k + 1)) (hT : Tn (OwnA b mv) w w') (hO : ∀ j, OwnA b mv' j → OwnA b mv j ∨ w.heap.size ≤ j) (hm : MSl w' v1 ms) (hv : ∀ g n c, v1 = .slice (some ⟨g, 0, none⟩) n c → w.heap.size ≤ g) :
    MidA B b rb k Z s s1 ms v1 w' ∧ Ch B Z w w' := by
  refine ⟨⟨mv', lv, B1, B2, hM, h2.keep hT h3, fun j e1 e2 => ?_, h4, h5, fun j hj => ⟨fun e => ?_, (h6 j hj).2.1, Nat.lt_of_lt_of_le (h6 j hj).2.2 hT.size⟩, hm, fun g n c e e2 => ?_⟩, hT.mono fun j hj => ⟨Nat.le_trans h4 (h1.own_lt hj).1, fun e => (h6 j e).1 hj⟩⟩
  · rcases hO j e1 with h | h
    · exact h3 j h e2
    · have := (h2.own_lt e2).2; omega
  · rcases hO j e with h | h
    · exact (h6 j hj).1 h
    · have := (h6 j hj).2.2; omega
  · have := hv g n c e; have := (h2.own_lt e2).2; omega
theorem MidA.two {mv lv lv' : Value} {B1 B2 : Nat} (h1 : AMem w B1 b s1 mv (k + 1)) (h2 : RAM w B2 rb s lv k) (h3 : ∀ j, OwnA b mv j → OwnRA rb lv j → False) (h4 : B ≤ B1) (h5 : B ≤ B2) (h6 : ∀ j, Z j → ¬ OwnA b mv j ∧ ¬ OwnRA rb lv j ∧ j < w.heap.size)
    (h7 : MSl w v1 ms) (h8 : ∀ g n c, v1 = .slice (some ⟨g, 0, none⟩) n c → ¬ OwnRA rb lv g) (hR : RAM w' B2 rb s1 lv' (k + 1)) (hT : Tn (OwnRA rb lv) w w') (hO : ∀ j, OwnRA rb lv' j → OwnRA rb lv j ∨ w.heap.size ≤ j) (hm : MSl w' v2 ms) :
    Two B b rb k Z s1 ms v1 v2 w' ∧ Ch B Z w w' := by
  refine ⟨⟨⟨mv, lv', B1, B2, h1.keep hT (fun j e1 e2 => h3 j e2 e1), hR, fun j e1 e2 => ?_, h4, h5, fun j hj => ⟨(h6 j hj).1, fun e => ?_, Nat.lt_of_lt_of_le (h6 j hj).2.2 hT.size⟩⟩, h7.tn hT h8, hm⟩, hT.mono fun j hj => ⟨Nat.le_trans h5 (h2.own_lt hj).1, fun e => (h6 j e).2.1 hj⟩⟩
  · rcases hO j e2 with h | h
    · exact h3 j e1 h
    · have := (h1.own_lt e1).2; omega
  · rcases hO j e with h | h
    · exact (h6 j hj).2.1 h
    · have := (h6 j hj).2.2; omega
theorem msgs_at {l : List Msg} {v : Value} {C : Nat} (h : MsgsAt w C v l) : ∀ g n c, v = .slice (some ⟨g, 0, none⟩) n c → C ≤ g := by
  intro g n c e
  match l, h with
  | [], h => rw [show v = _ from h] at e; cases e
  | [m], ⟨g', h1, h2, _⟩ => rw [h2] at e; injection e with e; injection e with e; injection e with e; rw [← e]; exact h1
theorem mrow_at {l : List Msg} {v : Value} {C : Nat} (h : MRow w C v l) : ∀ g n c, v = .slice (some ⟨g, 0, none⟩) n c → C ≤ g := by
  intro g n c e
  obtain ⟨a, cap, e2, _, _, _, ⟨_, _, h3⟩ | ⟨g', h3, _, h4, _⟩⟩ := row_cellz h
  · rw [h3] at e2; rw [e2] at e; cases e
  · rw [h3] at e2; rw [e2] at e; injection e with e; injection e with e; injection e with e; rw [← e]; exact h4
theorem ABo.ask (h : ABo B b rb k Z s w) (hk : k < 8000) (n t : Int) (hn : I64 n) (ht : I64 t) :
    Calls Try.prog 20 #[.pointer (some ⟨b, 0, none⟩), i64 n, i64 t] w fun e w' => ∃ v1, e = .returned (.tuple #[v1, i64 (s.ask n t).2]) ∧ MidA B b rb k Z s (s.ask n t).1.1 (s.ask n t).1.2 v1 w' ∧ Ch B Z w w' := by
  obtain ⟨mv, lv, B1, B2, h1, h2, h3, h4, h5, h6⟩ := h
  refine (ask_any B1 b k s mv n t w h1 (Nat.le_trans h1.lo (Nat.le_of_lt h1.blk.lt)) (by omega) hn ht).mono ?_
  rintro e w' ⟨v, mv', rfl, hm, hM, hT, hO⟩
  exact ⟨v, rfl, ABo.mid h1 h2 h3 h4 h5 h6 hM hT hO hm.sl (msgs_at hm)⟩
theorem MidA.ask {n t : Int} (h : MidA B b rb k Z s (s.ask n t).1.1 (s.ask n t).1.2 v1 w) (hk : k < 8000) (hn : I64 n) (ht : I64 t) :
    Calls Try.prog 21 #[.pointer (some ⟨rb, 0, none⟩), i64 n, i64 t] w fun e w' => ∃ v2, e = .returned (.tuple #[v2, i64 (s.ask n t).2]) ∧ Two B b rb k Z (s.ask n t).1.1 (s.ask n t).1.2 v1 v2 w' ∧ Ch B Z w w' := by
  obtain ⟨mv, lv, B1, B2, h1, h2, h3, h4, h5, h6, h7, h8⟩ := h
  refine (rask_any B2 rb k s lv n t w h2 (by omega) hn ht).mono ?_
  rintro e w' ⟨v, lv', rfl, hm, hM, hT, hO⟩
  exact ⟨v, rfl, MidA.two h1 h2 h3 h4 h5 h6 h7 h8 hM hT hO hm.sl⟩
theorem ABo.ret (h : ABo B b rb k Z s w) (hk : k < 8000) (n : Int) (hn : I64 n) :
    Calls Try.prog 22 #[.pointer (some ⟨b, 0, none⟩), i64 n] w fun e w' => ∃ v1, e = .returned (.tuple #[v1, i64 (s.ret n).2]) ∧ MidA B b rb k Z s (s.ret n).1.1 (s.ret n).1.2 v1 w' ∧ Ch B Z w w' := by
  obtain ⟨mv, lv, B1, B2, h1, h2, h3, h4, h5, h6⟩ := h
  refine (return_any B1 b k s mv n w h1 (Nat.le_trans h1.lo (Nat.le_of_lt h1.blk.lt)) (by omega) hn).mono ?_
  rintro e w' ⟨v, mv', rfl, hm, hM, hT, hO⟩
  exact ⟨v, rfl, ABo.mid h1 h2 h3 h4 h5 h6 hM hT hO hm.sl (msgs_at hm)⟩
theorem MidA.ret {n : Int} (h : MidA B b rb k Z s (s.ret n).1.1 (s.ret n).1.2 v1 w) (hk : k < 8000) :
    Calls Try.prog 23 #[.pointer (some ⟨rb, 0, none⟩), i64 n] w fun e w' => ∃ v2, e = .returned (.tuple #[v2, i64 (s.ret n).2]) ∧ Two B b rb k Z (s.ret n).1.1 (s.ret n).1.2 v1 v2 w' ∧ Ch B Z w w' := by
  obtain ⟨mv, lv, B1, B2, h1, h2, h3, h4, h5, h6, h7, h8⟩ := h
  refine (rret_any B2 rb k s lv n w h2 (by omega)).mono ?_
  rintro e w' ⟨v, lv', rfl, hm, hM, hT, hO⟩
  exact ⟨v, rfl, MidA.two h1 h2 h3 h4 h5 h6 h7 h8 hM hT hO hm.sl⟩
theorem ABo.tick (h : ABo B b rb k Z s w) (hk : k < 900) :
    Calls Try.prog 24 #[.pointer (some ⟨b, 0, none⟩)] w fun e w' => ∃ v1, e = .returned v1 ∧ MidA B b rb k Z s s.tick.1 s.tick.2 v1 w' ∧ Ch B Z w w' := by
  obtain ⟨mv, lv, B1, B2, h1, h2, h3, h4, h5, h6⟩ := h
  refine (aTick_any B1 b k s mv w h1 (Nat.le_trans h1.lo (Nat.le_of_lt h1.blk.lt)) (by omega) (by have := h1.len.1; omega)).mono ?_
  rintro e w' ⟨v, rfl, hm, hM, hT⟩
  exact ⟨v, rfl, ABo.mid h1 h2 h3 h4 h5 h6 hM (hT.mono fun j hj => .inl hj) (fun j hj => .inl hj) hm.sl (mrow_at hm)⟩
theorem MidA.tick (h : MidA B b rb k Z s s.tick.1 s.tick.2 v1 w) (hk : k < 900) :
    Calls Try.prog 25 #[.pointer (some ⟨rb, 0, none⟩)] w fun e w' => ∃ v2, e = .returned v2 ∧ Two B b rb k Z s.tick.1 s.tick.2 v1 v2 w' ∧ Ch B Z w w' := by
  obtain ⟨mv, lv, B1, B2, h1, h2, h3, h4, h5, h6, h7, h8⟩ := h
  refine (rtickA_any B2 rb k s lv w h2 (by omega) (by have := h2.len.1; omega)).mono ?_
  rintro e w' ⟨v, rfl, hm, hM, hT⟩
  exact ⟨v, rfl, MidA.two h1 h2 h3 h4 h5 h6 h7 h8 hM (hT.mono fun j hj => .inl hj) (fun j hj => .inl hj) hm.sl⟩
theorem ABo.take (h : ABo B b rb k Z s w) (hk : k < 8000) (m : Msg) (ht : m.text.length ≤ 1000000) :
    Calls Try.prog 27 #[.pointer (some ⟨b, 0, none⟩), .agg (encM m)] w fun e w' => ∃ v1, e = .returned v1 ∧ MidA B b rb k Z s (s.take m).1 (s.take m).2 v1 w' ∧ Ch B Z w w' := by
  obtain ⟨mv, lv, B1, B2, h1, h2, h3, h4, h5, h6⟩ := h
  refine (aTake_any B1 b k s mv m w h1 (Nat.le_trans h1.lo (Nat.le_of_lt h1.blk.lt)) (by omega) ht).mono ?_
  rintro e w' ⟨v, rfl, hm, hM, hT⟩
  exact ⟨v, rfl, ABo.mid h1 h2 h3 h4 h5 h6 hM hT (fun j hj => .inl hj) hm.sl (msgs_at hm)⟩
theorem MidA.take {m : Msg} (h : MidA B b rb k Z s (s.take m).1 (s.take m).2 v1 w) (hk : k < 8000) (ht : m.text.length ≤ 1000000) :
    Calls Try.prog 28 #[.pointer (some ⟨rb, 0, none⟩), .agg (encM m)] w fun e w' => ∃ v2, e = .returned v2 ∧ Two B b rb k Z (s.take m).1 (s.take m).2 v1 v2 w' ∧ Ch B Z w w' := by
  obtain ⟨mv, lv, B1, B2, h1, h2, h3, h4, h5, h6, h7, h8⟩ := h
  refine (rtakeA_any B2 rb k s lv m w h2 (by omega) ht).mono ?_
  rintro e w' ⟨v, rfl, hm, hM, hT⟩
  exact ⟨v, rfl, MidA.two h1 h2 h3 h4 h5 h6 h7 h8 hM hT (fun j hj => .inl hj) hm.sl⟩
theorem Two.same (h : Two B b rb k Z s1 ms v1 v2 w) (hl : ms.length ≤ 1000000) :
    Calls Try.prog 11 #[v1, v2] w fun e w' => e = .returned (.bool true) ∧ Below w.heap.size w w' := msame_any v1 v2 ms w h.2.1 h.2.2 hl
theorem ABo.state (h : ABo B b rb k Z s w) (n : Int) (hn : I64 n) : Calls Try.prog 29 #[.pointer (some ⟨b, 0, none⟩), i64 n] w fun e w' => e = .returned (i64 (s.state n)) ∧ w' = w := by
  obtain ⟨mv, lv, B1, B2, h1, h2, h3, h4, h5, h6⟩ := h
  exact state_any B1 b k s mv n hn w h1
theorem ABo.rstate (h : ABo B b rb k Z s w) (n : Int) : Calls Try.prog 30 #[.pointer (some ⟨rb, 0, none⟩), i64 n] w fun e w' => e = .returned (i64 (s.state n)) ∧ w' = w := by
  obtain ⟨mv, lv, B1, B2, h1, h2, h3, h4, h5, h6⟩ := h
  exact rstate_any B2 rb k s lv n w h2
theorem ABo.here (h : ABo B b rb k Z s w) : Calls Try.prog 31 #[.pointer (some ⟨b, 0, none⟩)] w fun e w' => ∃ v, e = .returned v ∧ w'.ownsRow w.heap.size 3 1 v s.here.length (s.here.map (Value.int .i64)) ∧ Below w.heap.size w w' := by
  obtain ⟨mv, lv, B1, B2, h1, h2, h3, h4, h5, h6⟩ := h
  exact aHere_any B1 b k s mv w h1
theorem ABo.rhere (h : ABo B b rb k Z s w) : Calls Try.prog 32 #[.pointer (some ⟨rb, 0, none⟩)] w fun e w' => ∃ v, e = .returned v ∧ w'.ownsRow w.heap.size 3 1 v s.here.length (s.here.map (Value.int .i64)) ∧ Below w.heap.size w w' := by
  obtain ⟨mv, lv, B1, B2, h1, h2, h3, h4, h5, h6⟩ := h
  exact rhereA_any B2 rb k s lv w h2
theorem ABo.expected (h : ABo B b rb k Z s w) (c : Act6) : Calls Try.prog 26 #[.pointer (some ⟨rb, 0, none⟩), .agg #[i64 c.k, i64 c.f, i64 c.t, i64 c.a, i64 c.r, i64 c.v]] w (ExpE w) := by
  obtain ⟨mv, lv, B1, B2, h1, h2, h3, h4, h5, h6⟩ := h
  exact expected_any B2 rb k s lv c w h2
theorem ABo.len (h : ABo B b rb k Z s w) : s.L.length ≤ k ∧ s.here.length ≤ k := by
  obtain ⟨mv, lv, B1, B2, h1, h2, h3, h4, h5, h6⟩ := h
  refine ⟨h1.len.1, ?_⟩
  unfold Asr.here
  rw [List.length_mergeSort, List.length_map]
  exact Nat.le_trans (List.length_filter_le _ _) h1.len.1
end
theorem Asr.tell_len (s : Asr) (q : Rq) (k : Int) : (s.tell q k).2.length ≤ 1 := (tell_same s q k).2.2.2.2.2
theorem Asr.ask_len (s : Asr) (n t : Int) : (s.ask n t).1.2.length ≤ 1 := by
  unfold Asr.ask
  repeat' split
  all_goals first | (simp; done) | exact Asr.tell_len _ _ _
theorem Asr.ret_len (s : Asr) (n : Int) : (s.ret n).1.2.length ≤ 1 := by
  unfold Asr.ret
  repeat' split
  all_goals first | (simp; done) | exact Asr.tell_len _ _ _
theorem Asr.take_len (s : Asr) (m : Msg) : (s.take m).2.length ≤ 1 := by
  unfold Asr.take
  repeat' split
  all_goals first | (simp; done) | exact Asr.tell_len _ _ _
theorem Asr.tick_len (s : Asr) : s.tick.2.length ≤ s.L.length := (tickL_same s.L s).2.2.2.2.2
end Go.Proofs.Ytdojgbpaheadnaa
