/- A broker and the reference's, side by side. -/
import Derived.Test.YtdojgbpaheadnaaGreatQHD
import Derived.Test.YtdojgbpaheadnaaGreatQHE
import Derived.Test.YtdojgbpaheadnaaGreatQHL
import Derived.Test.YtdojgbpaheadnaaGreatQBT
import Derived.Test.YtdojgbpaheadnaaGreatQRS
import Derived.Test.YtdojgbpaheadnaaGreatQSY
set_option linter.unusedVariables false
set_option linter.unusedSimpArgs false

namespace Go.Proofs.YtdojgbpaheadnaaGreat
open Go.RowKit Go.Shelf Go.Maps

/-- Both brokers; Z: blocks that neither owns. -/
def BBo (B b rb k : Nat) (Z : Nat → Prop) (s : Brk) (w : World) : Prop :=
  ∃ rv mv G o rv2 lv2 G2 B1 B2, BMem w B1 b s rv mv G o k ∧ RBM w B2 rb s rv2 lv2 G2 k ∧ (∀ j, o j ≠ 0 → OwnRB rb rv2 lv2 j → False) ∧ B ≤ B1 ∧ B ≤ B2 ∧ ∀ j, Z j → o j = 0 ∧ ¬ OwnRB rb rv2 lv2 j ∧ j < w.heap.size
/-- The one has worked, the other not yet. -/
def MidB (B b rb k : Nat) (Z : Nat → Prop) (s s1 : Brk) (ms : List Msg) (v1 : Value) (w : World) : Prop :=
  ∃ rv mv G o rv2 lv2 G2 B1 B2, BMem w B1 b s1 rv mv G o (k + 1) ∧ RBM w B2 rb s rv2 lv2 G2 k ∧ (∀ j, o j ≠ 0 → OwnRB rb rv2 lv2 j → False) ∧ B ≤ B1 ∧ B ≤ B2 ∧ (∀ j, Z j → o j = 0 ∧ ¬ OwnRB rb rv2 lv2 j ∧ j < w.heap.size) ∧
    MSl w v1 ms ∧ ∀ g n c, v1 = .slice (some ⟨g, 0, none⟩) n c → ¬ OwnRB rb rv2 lv2 g
def TwoB (B b rb k : Nat) (Z : Nat → Prop) (s1 : Brk) (ms : List Msg) (v1 v2 : Value) (w : World) : Prop := BBo B b rb (k + 1) Z s1 w ∧ MSl w v1 ms ∧ MSl w v2 ms
/-- What may have changed. -/
abbrev ChB (B : Nat) (Z : Nat → Prop) (w w' : World) : Prop := Tn (fun j => B ≤ j ∧ ¬ Z j) w w'
section
variable {B b rb k : Nat} {Z : Nat → Prop} {s s1 : Brk} {w w' : World} {ms : List Msg} {v1 v2 : Value}
theorem BBo.up (h : BBo B b rb k Z s w) (hb : Below w.heap.size w w') : BBo B b rb k Z s w' := by
  obtain ⟨rv, mv, G, o, rv2, lv2, G2, B1, B2, h1, h2, h3, h4, h5, h6⟩ := h
  exact ⟨rv, mv, G, o, rv2, lv2, G2, B1, B2, h1.up hb, h2.up hb, h3, h4, h5, fun j hj => ⟨(h6 j hj).1, (h6 j hj).2.1, Nat.lt_of_lt_of_le (h6 j hj).2.2 hb.size⟩⟩
theorem BBo.weak {Z' : Nat → Prop} (h : BBo B b rb k Z s w) (hZ : ∀ j, Z' j → Z j) : BBo B b rb k Z' s w := by
  obtain ⟨rv, mv, G, o, rv2, lv2, G2, B1, B2, h1, h2, h3, h4, h5, h6⟩ := h
  exact ⟨rv, mv, G, o, rv2, lv2, G2, B1, B2, h1, h2, h3, h4, h5, fun j hj => h6 j (hZ j hj)⟩
theorem BBo.new {x : Nat} (h : BBo B b rb k (fun _ => False) s w) (hb : Below w.heap.size w w') (hx : w.heap.size ≤ x) (hx2 : x < w'.heap.size) : BBo B b rb k (fun j => j = x) s w' := by
  obtain ⟨rv, mv, G, o, rv2, lv2, G2, B1, B2, h1, h2, h3, h4, h5, h6⟩ := h
  refine ⟨rv, mv, G, o, rv2, lv2, G2, B1, B2, h1.up hb, h2.up hb, h3, h4, h5, fun j hj => ⟨?_, fun e => by have := (h2.own_lt e).2; have : j = x := hj; omega, by rw [show j = x from hj]; exact hx2⟩⟩
  rcases Nat.eq_zero_or_pos (o j) with h0 | h0
  · exact h0
  · have := (h1.olt j (by omega)).2
    have : j = x := hj
    omega
theorem BBo.set (h : BBo B b rb k Z s w) (t : Tn Z w w') : BBo B b rb k Z s w' := by
  obtain ⟨rv, mv, G, o, rv2, lv2, G2, B1, B2, h1, h2, h3, h4, h5, h6⟩ := h
  exact ⟨rv, mv, G, o, rv2, lv2, G2, B1, B2, h1.keep t (fun j hj => (h6 j hj).1), h2.keep t (fun j hj ho => (h6 j hj).2.1 ho), h3, h4, h5, fun j hj => ⟨(h6 j hj).1, (h6 j hj).2.1, Nat.lt_of_lt_of_le (h6 j hj).2.2 t.size⟩⟩
theorem BBo.mid {rv mv mv' rv2 lv2 : Value} {G G' : List CsG} {G2 : List CsN} {o o' : Nat → Nat} {B1 B2 : Nat} (h1 : BMem w B1 b s rv mv G o k) (h2 : RBM w B2 rb s rv2 lv2 G2 k) (h3 : ∀ j, o j ≠ 0 → OwnRB rb rv2 lv2 j → False) (h4 : B ≤ B1) (h5 : B ≤ B2)
    (h6 : ∀ j, Z j → o j = 0 ∧ ¬ OwnRB rb rv2 lv2 j ∧ j < w.heap.size)
    (hM : BMem w' B1 b s1 rv mv' G' o' (k + 1)) (hT : Tn (fun j => o j ≠ 0) w w') (hO : ∀ j, o' j ≠ 0 → o j ≠ 0 ∨ w.heap.size ≤ j) (hm : MSl w' v1 ms) (hv : ∀ g n c, v1 = .slice (some ⟨g, 0, none⟩) n c → w.heap.size ≤ g) :
    MidB B b rb k Z s s1 ms v1 w' ∧ ChB B Z w w' := by
  refine ⟨⟨rv, mv', G', o', rv2, lv2, G2, B1, B2, hM, h2.keep hT (fun j h => h3 j h), fun j e1 e2 => ?_, h4, h5, fun j hj => ⟨?_, (h6 j hj).2.1, Nat.lt_of_lt_of_le (h6 j hj).2.2 hT.size⟩, hm, fun g n c e e2 => ?_⟩, hT.mono fun j hj => ⟨Nat.le_trans h4 (h1.olt j hj).1, fun e => hj (h6 j e).1⟩⟩
  · rcases hO j e1 with h | h
    · exact h3 j h e2
    · have := (h2.own_lt e2).2; omega
  · rcases Nat.eq_zero_or_pos (o' j) with h0 | h0
    · exact h0
    · rcases hO j (by omega) with h | h
      · exact absurd (h6 j hj).1 h
      · have := (h6 j hj).2.2; omega
  · have := hv g n c e; have := (h2.own_lt e2).2; omega
theorem MidB.two {rv mv rv2 lv2 lv2' : Value} {G : List CsG} {G2 G2' : List CsN} {o : Nat → Nat} {B1 B2 : Nat} (h1 : BMem w B1 b s1 rv mv G o (k + 1)) (h2 : RBM w B2 rb s rv2 lv2 G2 k) (h3 : ∀ j, o j ≠ 0 → OwnRB rb rv2 lv2 j → False) (h4 : B ≤ B1) (h5 : B ≤ B2)
    (h6 : ∀ j, Z j → o j = 0 ∧ ¬ OwnRB rb rv2 lv2 j ∧ j < w.heap.size) (h7 : MSl w v1 ms) (h8 : ∀ g n c, v1 = .slice (some ⟨g, 0, none⟩) n c → ¬ OwnRB rb rv2 lv2 g)
    (hR : RBM w' B2 rb s1 rv2 lv2' G2' (k + 1)) (hT : Tn (OwnRB rb rv2 lv2) w w') (hO : ∀ j, OwnRB rb rv2 lv2' j → OwnRB rb rv2 lv2 j ∨ w.heap.size ≤ j) (hm : MSl w' v2 ms) :
    TwoB B b rb k Z s1 ms v1 v2 w' ∧ ChB B Z w w' := by
  refine ⟨⟨⟨rv, mv, G, o, rv2, lv2', G2', B1, B2, h1.keep hT (fun j e => ?_), hR, fun j e1 e2 => ?_, h4, h5, fun j hj => ⟨(h6 j hj).1, fun e => ?_, Nat.lt_of_lt_of_le (h6 j hj).2.2 hT.size⟩⟩, h7.tn hT h8, hm⟩, hT.mono fun j hj => ⟨Nat.le_trans h5 (h2.own_lt hj).1, fun e => (h6 j e).2.1 hj⟩⟩
  · rcases Nat.eq_zero_or_pos (o j) with h0 | h0
    · exact h0
    · exact (h3 j (by omega) e).elim
  · rcases hO j e2 with h | h
    · exact h3 j e1 h
    · have := (h1.olt j e1).2; omega
  · rcases hO j e with h | h
    · exact (h6 j hj).2.1 h
    · have := (h6 j hj).2.2; omega
theorem msgs_at {l : List Msg} {v : Value} {C : Nat} (h : MsgsAt w C v l) : ∀ g n c, v = .slice (some ⟨g, 0, none⟩) n c → C ≤ g := by
  intro g n c e
  match l, h with
  | [], h => rw [show v = _ from h] at e; cases e
  | [m], ⟨g', h1, h2, _⟩ => rw [h2] at e; injection e with e; injection e with e; injection e with e; rw [← e]; exact h1
theorem mrow_at {l : List Msg} {v : Value} {C : Nat} (h : MRow w C v l) : ∀ g n c, v = .slice (some ⟨g, 0, none⟩) n c → C ≤ g := by
  intro g n c e
  obtain ⟨a, cap, e2, _, _, _, ⟨_, _, h3⟩ | ⟨g', h3, _, h4, _⟩⟩ := row_cellz h
  · rw [h3] at e2; rw [e2] at e; cases e
  · rw [h3] at e2; rw [e2] at e; injection e with e; injection e with e; injection e with e; rw [← e]; exact h4
theorem BBo.take (h : BBo B b rb k Z s w) (hk : k < 8000) (m : Msg) (ht : m.text.length ≤ 1000000) :
    Calls Tryz.prog 16 #[.pointer (some ⟨b, 0, none⟩), .agg (encM m)] w fun e w' => ∃ v1, e = .returned v1 ∧ MidB B b rb k Z s (s.take m).1 (s.take m).2 v1 w' ∧ ChB B Z w w' := by
  obtain ⟨rv, mv, G, o, rv2, lv2, G2, B1, B2, h1, h2, h3, h4, h5, h6⟩ := h
  refine (bTake_any B1 b k s rv mv G o m w h1 (Nat.le_trans (h1.olt b (by rw [h1.ob]; decide)).1 (Nat.le_of_lt h1.blk.lt)) (by omega) ht).mono ?_
  rintro e w' ⟨v, mv', G', o', rfl, hm, hM, hT, hO⟩
  exact ⟨v, rfl, BBo.mid h1 h2 h3 h4 h5 h6 hM hT hO hm.sl (msgs_at hm)⟩
theorem MidB.take {m : Msg} (h : MidB B b rb k Z s (s.take m).1 (s.take m).2 v1 w) (hk : k < 8000) (ht : m.text.length ≤ 1000000) :
    Calls Tryz.prog 17 #[.pointer (some ⟨rb, 0, none⟩), .agg (encM m)] w fun e w' => ∃ v2, e = .returned v2 ∧ TwoB B b rb k Z (s.take m).1 (s.take m).2 v1 v2 w' ∧ ChB B Z w w' := by
  obtain ⟨rv, mv, G, o, rv2, lv2, G2, B1, B2, h1, h2, h3, h4, h5, h6, h7, h8⟩ := h
  refine (rbtake_any B2 rb k s rv2 lv2 G2 m w h2 (by omega) ht).mono ?_
  rintro e w' ⟨v, lv', G', rfl, hm, hM, hT, hO⟩
  exact ⟨v, rfl, MidB.two h1 h2 h3 h4 h5 h6 h7 h8 hM hT hO hm.sl⟩
theorem BBo.tick (h : BBo B b rb k Z s w) (hk : k < 800) :
    Calls Tryz.prog 18 #[.pointer (some ⟨b, 0, none⟩)] w fun e w' => ∃ v1, e = .returned v1 ∧ MidB B b rb k Z s s.tick.1 s.tick.2 v1 w' ∧ ChB B Z w w' := by
  obtain ⟨rv, mv, G, o, rv2, lv2, G2, B1, B2, h1, h2, h3, h4, h5, h6⟩ := h
  refine (bTick_any B1 b k s rv mv G o w h1 (by omega)).mono ?_
  rintro e w' ⟨v, rfl, hm, hM, hT⟩
  exact ⟨v, rfl, BBo.mid h1 h2 h3 h4 h5 h6 hM (hT.mono fun j hj => by rw [show j = b from hj, h1.ob]; decide) (fun j hj => .inl hj) hm.sl (mrow_at hm)⟩
theorem MidB.tick (h : MidB B b rb k Z s s.tick.1 s.tick.2 v1 w) (hk : k < 800) :
    Calls Tryz.prog 19 #[.pointer (some ⟨rb, 0, none⟩)] w fun e w' => ∃ v2, e = .returned v2 ∧ TwoB B b rb k Z s.tick.1 s.tick.2 v1 v2 w' ∧ ChB B Z w w' := by
  obtain ⟨rv, mv, G, o, rv2, lv2, G2, B1, B2, h1, h2, h3, h4, h5, h6, h7, h8⟩ := h
  refine (rbtick_any B2 rb k s rv2 lv2 G2 w h2 (by omega)).mono ?_
  rintro e w' ⟨v, rfl, hm, hM, hT⟩
  exact ⟨v, rfl, MidB.two h1 h2 h3 h4 h5 h6 h7 h8 hM (hT.mono fun j hj => .inl hj) (fun j hj => .inl hj) hm.sl⟩
theorem TwoB.same (h : TwoB B b rb k Z s1 ms v1 v2 w) (hl : ms.length ≤ 1000000) :
    Calls Tryz.prog 15 #[v1, v2] w fun e w' => e = .returned (.bool true) ∧ Below w.heap.size w w' := msame_any v1 v2 ms w h.2.1 h.2.2 hl
theorem BBo.more {k' : Nat} (h : BBo B b rb k Z s w) (hk : k ≤ k') (hk' : k' ≤ 10000) : BBo B b rb k' Z s w := by
  obtain ⟨rv, mv, G, o, rv2, lv2, G2, B1, B2, h1, h2, h3⟩ := h
  exact ⟨rv, mv, G, o, rv2, lv2, G2, B1, B2, h1.mono hk (by omega), h2.mono hk hk', h3⟩
theorem BBo.len (h : BBo B b rb k Z s w) : s.L.length ≤ k := by
  obtain ⟨rv, mv, G, o, rv2, lv2, G2, B1, B2, h1, h2, h3, h4, h5, h6⟩ := h
  rw [h1.gs, List.length_map]; exact h1.len.1
end
theorem Brk.tick_len (s : Brk) : s.tick.2.length ≤ s.L.length := (tickB_same s.L s).choose_spec.2.2.2
theorem Brk.take_len (s : Brk) (m : Msg) : (s.take m).2.length ≤ 1 := by
  unfold Brk.take
  repeat' split
  all_goals first | (simp; done) | (simp [Brk.tell]; done)
end Go.Proofs.YtdojgbpaheadnaaGreat
