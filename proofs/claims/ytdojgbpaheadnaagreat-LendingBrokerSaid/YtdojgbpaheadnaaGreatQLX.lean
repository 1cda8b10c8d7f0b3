/- The acts of an argument, and bytes. -/
import Derived.Test.YtdojgbpaheadnaaGreatQRS
set_option linter.unusedVariables false
set_option linter.unusedSimpArgs false

namespace Go.Proofs.YtdojgbpaheadnaaGreat
open Go.RowKit Go.Shelf Go.Maps

/-- An act by numbers. -/
structure Act6 where
  k : Int
  f : Int
  t : Int
  a : Int
  r : Int
  v : Int
def za6 : Act6 := ⟨0, 0, 0, 0, 0, 0⟩
instance : Inhabited Act6 := ⟨za6⟩
def Act6.ok (c : Act6) : Prop := I64 c.k ∧ I64 c.f ∧ I64 c.t ∧ I64 c.a ∧ I64 c.r ∧ I64 c.v
def avs6 (c : Act6) : Array Value := #[i64 c.k, i64 c.f, i64 c.t, i64 c.a, i64 c.r, i64 c.v]
def Act6At (w : World) (b o : Nat) (c : Act6) : Prop :=
  w.cell? ⟨b, o, none⟩ = some (i64 c.k) ∧ w.cell? ⟨b, o + 1, none⟩ = some (i64 c.f) ∧ w.cell? ⟨b, o + 2, none⟩ = some (i64 c.t) ∧ w.cell? ⟨b, o + 3, none⟩ = some (i64 c.a) ∧ w.cell? ⟨b, o + 4, none⟩ = some (i64 c.r) ∧ w.cell? ⟨b, o + 5, none⟩ = some (i64 c.v)
theorem Act6At.below {w w' : World} {b o B : Nat} {c : Act6} (h : Act6At w b o c) (hb : Below B w w') (hl : b < B) : Act6At w' b o c := by
  have e : ∀ i, w'.cell? ⟨b, i, none⟩ = w.cell? ⟨b, i, none⟩ := fun i => hb.cell (p := ⟨b, i, none⟩) hl
  obtain ⟨h0, h1, h2, h3, h4, h5⟩ := h
  exact ⟨(e _).trans h0, (e _).trans h1, (e _).trans h2, (e _).trans h3, (e _).trans h4, (e _).trans h5⟩
/-- An argument that is a slice of acts. -/
structure InA6 (w : World) (a : Option Addr) (L : List Act6) (cap : Nat) : Prop where
  at_ : L = [] ∨ ∃ b o, a = some ⟨b, o, none⟩ ∧ b < w.heap.size ∧ ∀ k, k < L.length → Act6At w b (o + k * 6) (L.getD k za6)
  in_ : ∀ c ∈ L, c.ok
  len : L.length ≤ cap
  cap : cap ≤ 9223372036854775807
theorem InA6.below {w w' : World} {a : Option Addr} {L : List Act6} {cap B : Nat} (h : InA6 w a L cap) (hb : Below B w w') (hB : w.heap.size ≤ B) : InA6 w' a L cap := by
  refine ⟨?_, h.in_, h.len, h.cap⟩
  rcases h.at_ with h1 | ⟨b, o, h1, h2, h3⟩
  · exact .inl h1
  · exact .inr ⟨b, o, h1, by have := hb.size; omega, fun k hk => (h3 k hk).below hb (by omega)⟩
theorem InA6.get {w : World} {a : Option Addr} {L : List Act6} {cap : Nat} (h : InA6 w a L cap) (k : Nat) (hk : k < L.length) : ∃ b o, a = some ⟨b, o, none⟩ ∧ b < w.heap.size ∧ Act6At w b (o + k * 6) L[k] := by
  rcases h.at_ with h1 | ⟨b, o, h1, h2, h3⟩
  · subst h1; simp at hk
  · exact ⟨b, o, h1, h2, by have := h3 k hk; rwa [getD_get _ _ hk] at this⟩
/-- Bytes that came in. -/
structure U8 (w : World) (a : Option Addr) (bs : List Int) (cap : Nat) : Prop where
  at_ : bs = [] ∨ ∃ b o, a = some ⟨b, o, none⟩ ∧ b < w.heap.size ∧ ∀ j, j < bs.length → w.cell? ⟨b, o + j, none⟩ = some (.int .u8 (bs.getD j 0))
  bd : ∀ j, j < bs.length → 0 ≤ bs.getD j 0 ∧ bs.getD j 0 < 256
  len : bs.length ≤ 9223372036854775807
theorem U8.below {w w' : World} {a : Option Addr} {L : List Int} {cap B : Nat} (h : U8 w a L cap) (hb : Below B w w') (hB : w.heap.size ≤ B) : U8 w' a L cap := by
  refine ⟨?_, h.bd, h.len⟩
  rcases h.at_ with h1 | ⟨b, o, h1, h2, h3⟩
  · exact .inl h1
  · exact .inr ⟨b, o, h1, by have := hb.size; omega, fun k hk => (hb.cell (p := ⟨b, o + k, none⟩) (by show b < B; omega)).trans (h3 k hk)⟩
theorem Len.take_len (s : Len) (m : Msg) : (s.take m).1.sent ≤ s.sent + 1 ∧ s.sent ≤ (s.take m).1.sent ∧ (s.take m).2.length ≤ 1 := by
  unfold Len.take
  have hd : ∀ a r v, (s.deal a r v).sent = s.sent := fun a r v => by unfold Len.deal; split <;> rfl
  repeat' split
  all_goals (try simp only [Len.send, hd])
  all_goals (simp only [List.length_nil, List.length_cons]; omega)
theorem wpAnyH_apartV4 {P : Program} {md : Region.Mode} {ops : Array Oper} {Q : Exit → Act → World → Prop} {S : World → Prop} {fuel : Nat} {L : Array Bool} {a : Act} {w : World} {a1 : Value → Value → Value → Value → Act} (F : World → Prop)
    (take : ∀ R : Act → World → Prop, (∀ x y z u w', F w' → R (a1 x y z u) w') → wpAnyH P md ops (only R) S fuel L a w) (rest : ∀ x y z u w', F w' → Q .normal (a1 x y z u) w') : wpAnyH P md ops Q S fuel L a w :=
  wpAnyH_mono (fun _ _ _ h => nomatch h.1) (fun ⟨_, _, h⟩ => nomatch h.1) (fun _ _ h => h.2) fuel L a w (take (Q .normal) rest)
end Go.Proofs.YtdojgbpaheadnaaGreat
