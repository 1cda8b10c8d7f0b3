/- The library of the law: a new net. -/
import Derived.Test.YtdojgbpaheadnaaGreatQUR
set_option linter.unusedVariables false
set_option linter.unusedSimpArgs false

namespace Go.Proofs.YtdojgbpaheadnaaGreat
open Go.RowKit Go.Shelf Go.Maps Go.ChangeMaps

theorem owns_nilT (w : World) (T : TypeId) (z B : Nat) (R : World → List Value → Tr → Prop) : SlOf z (fun b => (Value.slice none 0 0).ownBlock = some b) R w (.slice none 0 0) [] := (OwnOf.nil T z B R w).sl
theorem LibM.netNew {g : Lg} {Z : Nat → Nat → Prop} {w : World} {N : Nat} {S : List Tr} {P : List Pc} {sent : Nat} {s : Lb} (h : LibM g Z w N S P sent s) :
  Calls Tryz.prog 39 #[i64 5, .slice none 0 0] w fun e w' => ∃ (nb : Nat) (g' : Lg) (Z' : Nat → Nat → Prop), e = .returned (.pointer (some ⟨nb, 0, none⟩)) ∧ g'.xb = g.xb ∧ g'.B0 = g.B0 ∧ g'.nb = nb ∧ (∀ a, g'.ap a = g.ap a) ∧ (∀ L, g'.lp L = g.lp L) ∧
   LibC g w' ∧ (∀ i k, Z i k → Z' i k) ∧ Tn (g.F Z) w w' ∧ LibM g' Z' (w'.setCell ⟨g.xb, 3, none⟩ (.pointer (some ⟨nb, 0, none⟩))) N [] [] 0 s ∧ Tn (g.F Z) w (w'.setCell ⟨g.xb, 3, none⟩ (.pointer (some ⟨nb, 0, none⟩))) := by
 obtain ⟨n1, n2, n3, now, h1, h2, h3, hs⟩ := h.sys
 obtain ⟨O, ⟨-, rfl⟩, hO⟩ := hs.see (i := 7) rfl
 have h7 := hO g.xb rfl
 refine (hs.workE (i := 6) (M' := fun nb => netA w.heap.size nb 5 [] [] 0) (Post := fun nb e _ => e = .returned (.pointer (some ⟨nb, 0, none⟩))) h.hB rfl fun O hO => ?_).mono ?_
 ·refine (nnew_any 5 (owns_nilT w 90 3 0 TrR) (by simp)).mono ?_
  rintro e w' ⟨nb, sc, rfl, hN, hb⟩
  exact ⟨nb, rfl, _, ⟨sc, _, hN, rfl⟩, Tn.of_below hb, fun k hk => ⟨(hN.own_lt hk).2, .inr (hN.own_lt hk).1⟩⟩
 ·rintro e w' ⟨nb, rfl, hs', ht⟩
  have hsz := ht.size
  have hx : Blk w' g.xb (g.xcs now) 78 := hs'.blk (i := 7) rfl
  have ha : Blk w' g.ab g.acs 43 := hs'.blk (i := 8) rfl
  have hl : Blk w' g.lb g.lcs 44 := hs'.blk (i := 9) rfl
  have ht' : Tn (g.F Z) w w' := ht.mono fun k hk => ⟨hk.1, fun e => hk.2 (e 6)⟩
  have k := h.ok
  refine ⟨nb, { g with nb := nb, lo := fun i => if i = 6 then w.heap.size else g.lo i }, fun j k => Z j k ∨ (j ≠ 6 ∧ w.heap.size ≤ k ∧ k < w'.heap.size), rfl, rfl, rfl, rfl, fun a => rfl, fun L => rfl, ⟨hx.cell 0, hx.cell 1, hx.cell 2, hx.cell 3, ⟨now, hx.cell 4⟩, hx.frozen 4, hx.frozen 3, (ha.cell 0).trans k.p1, (ha.cell 1).trans k.p2, (hl.cell 0).trans k.q3, (hl.cell 1).trans k.q4, (hl.cell 2).trans k.q1⟩, fun i k hk => .inl hk, ht', ⟨⟨k.p1, k.p2, k.q3, k.q4, k.q1, k.ca, k.cl⟩, ?_, ⟨n1, n2, n3, now, h1, h2, h3, ?_⟩, h.ls⟩, ht'.setCell (p := ⟨g.xb, 3, none⟩) (.inl ⟨h7.1, fun e => h7.2.2 (e 7)⟩) _⟩
  ·show g.B0 ≤ (w'.setCell ⟨g.xb, 3, none⟩ (.pointer (some ⟨nb, 0, none⟩))).heap.size
   have := h.hB
   simp
   omega
  ·exact hs'.set (i := 7) (j := 3) rfl (.pointer (some ⟨nb, 0, none⟩))
theorem RunJ.netNew {w : World} {g : Lg} {S : List Tr} {init : Int → List Int} {D : Nat → Prop} {b : Nat} {Q : Lb → List Pc → Prop} {wr : World} (h : RunJ w g S init D b Q wr) :
  Calls Tryz.prog 39 #[i64 5, .slice none 0 0] wr fun e w' => ∃ (nb : Nat) (g' : Lg), e = .returned (.pointer (some ⟨nb, 0, none⟩)) ∧ g'.xb = g.xb ∧ g'.B0 = g.B0 ∧ (∀ a, g'.ap a = g.ap a) ∧ (∀ L, g'.lp L = g.lp L) ∧
   LibC g w' ∧ RunJ w g' [] init D b (fun s P => P = [] ∧ ∃ P0, Q s P0) (w'.setCell ⟨g.xb, 3, none⟩ (.pointer (some ⟨nb, 0, none⟩))) := by
 obtain ⟨Z, N, sent, P, s, h1, h2, h3, h4, h5, h6, h7, h8, h9⟩ := h
 refine h1.netNew.mono ?_
 rintro e w' ⟨nb, g', Z', rfl, e1, e2, -, e3, e4, hc, hz, -, hL, ht⟩
 exact ⟨nb, g', rfl, e1, e2, e3, e4, hc, Z', N, 0, [], s, hL, h2, fun p hp => (by cases hp), h4, Nat.zero_le _, Nat.le_refl _, fun i k hk => hz i k (h7 i k hk), (by rw [e2]; exact h8.trans (ht.mono fun k hk => ⟨hk.1, fun e => hk.2 fun i => h7 i k e⟩)), rfl, P, h9⟩
end Go.Proofs.YtdojgbpaheadnaaGreat
