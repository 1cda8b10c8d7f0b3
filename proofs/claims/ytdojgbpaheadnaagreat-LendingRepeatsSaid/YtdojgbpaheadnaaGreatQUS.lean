/- The library of the law: a round. -/
import Derived.Test.YtdojgbpaheadnaaGreatQUR
set_option linter.unusedVariables false
set_option linter.unusedSimpArgs false

namespace Go.Proofs.YtdojgbpaheadnaaGreat
open Go.RowKit Go.Shelf Go.Maps Go.ChangeMaps
attribute [local go_sem] over_cell over_frozen

set_option maxRecDepth 100000 in
set_option maxHeartbeats 8000000 in
theorem round_any {w : World} {g : Lg} {S : List Tr} {init : Int → List Int} {D : Nat → Prop} {b : Nat} {I0 : Lb → List Pc → Prop} {w0 : World} (hb : b ≤ 48000) (hi : ∀ L, (init L).length ≤ 20000) (J : Nat → Lb → List Pc → Prop)
  (ht : ∀ s P P' n, KS init s → (∀ p ∈ P, p.m ∈ s.W) → I0 s P → SentL 5 S n s.tickMs P P' → J 0 s.tickM P')
  (hd : ∀ i s P r (p : Pc) n P', i < 400 → KS init s → p.m ∈ s.W → J i s P → (∀ x ∈ P, x.m ∈ s.W) → (r ++ [p]).Perm P → SentL 5 S n (s.delMs p.m) r P' → J (i + 1) (s.del p.m) P') (h : RunJ w g S init D b I0 w0) :
  Calls Tryz.prog 37 #[.pointer (some ⟨g.xb, 0, none⟩)] w0 fun e w' => e = .returned (.tuple #[]) ∧ RunJ w g S init D (b + 824) (fun s P => ∃ i, i ≤ 400 ∧ J i s P ∧ (i = 400 ∨ P = [])) w' := by
 have H := Lib.hid (h.tick (by omega) ht)
 have HD := Lib.hid hd
 have NX : Hid (∀ W Q b, RunJ w g S init D b Q W → ∃ x0 now, W.cell? ⟨g.xb, 0, none⟩ = some x0 ∧ W.cell? ⟨g.xb, 4, none⟩ = some (i64 now) ∧ W.frozen? ⟨g.xb, 4, none⟩ = false ∧ W.cell? ⟨g.xb, 3, none⟩ = some (.pointer (some ⟨g.nb, 0, none⟩))) := Lib.hid (fun W Q b h => by
  have c := h.cells
  obtain ⟨now, hn⟩ := c.x4
  exact ⟨_, now, c.x0, hn, c.f4, c.x3⟩)
 clear h ht hd
 go_enter Tryz.func37, Tryz.ntmps37
 go_wp2_with fail
 refine H.out.mono ?_
 rintro e w1 ⟨rfl, hr1⟩
 have R1 := Lib.hid hr1
 obtain ⟨x0, now, cx0, cnow, fnow, cnet⟩ := NX.out _ _ _ hr1
 clear hr1 H
 have R2 := Lib.hid (R1.out.clock (wrap64 (now + 10)))
 go_wp2_with fail
 go_loopw [2, 3, 4, 5] (fun i _ _ _ wr => ∃ (k : Nat), k ≤ 400 ∧ i = .int .i64 k ∧ RunJ w g S init D (b + 24 + 2 * k) (J k) wr) (fun i _ _ _ _ => 400 - (intOf i).toNat)
 case atStart => exact ⟨0, by omega, rfl, R2.out⟩
 case round =>
  obtain ⟨k, hk, rfl, hr⟩ := hrel
  have RJ := Lib.hid hr
  by_cases hk4 : k < 400
  ·have hki : decide ((k : Int) < 400) = true := by simp; omega
   obtain ⟨x0, now2, cx0, cnow, fnow, cnet⟩ := NX.out _ _ _ hr
   clear hr
   rcases RJ.out.next (by omega) with hn | hn
   ·go_wp2_with fail
    refine hn.mono ?_
    rintro e W11 ⟨rfl, hr11⟩
    have R11 := Lib.hid hr11
    clear hr11 hn cx0 cnow fnow cnet
    go_wp2_with fail
    (try simp only [Exit.inBlock, Exit.then])
    first
     | refine bodyPost_ret (results_none rfl _ _ _) rfl ?_
     | refine bodyPost_end (results_none rfl _ _ _) rfl ?_
    exact ⟨rfl, (R11.out.up ((Below.refl _ _).alloc (Nat.le_refl _) _)).weak (by omega) fun s P _ hq => ⟨k, hk, hq.1, .inr hq.2⟩⟩
   ·go_wp2_with fail
    refine hn.mono ?_
    rintro e W11 ⟨p, rfl, hr11⟩
    have R11 := Lib.hid hr11
    obtain ⟨cm, hcm⟩ : ∃ cm, cm = encM p.m := ⟨_, rfl⟩
    rw [← hcm]
    have HCM := Lib.hid hcm
    have MI : Hid ((Tryz.prog.info? 31).map (·.size) = some cm.size) := Lib.hid (by rw [hcm]; kernel_rfl)
    have MO : Hid (cm.all (·.oneCell') = true) := Lib.hid (by rw [hcm]; unfold encM strV; simp [Value.oneCell'])
    have MS : Hid ((4 : Nat) = cm.size) := Lib.hid (by rw [hcm]; rfl)
    obtain ⟨W12, hW12⟩ : ∃ W12, W12 = (W11.alloc (.cells #[i64 0, i64 0, i64 0, .string ⟨#[]⟩] 31)).setRow W11.heap.size cm := ⟨_, rfl⟩
    have R12 := Lib.hid (hr11.up (w' := W12) (by rw [hW12]; exact belowS ((Below.refl _ _).alloc (Nat.le_refl _) _) (Nat.le_refl _)))
    have K12 : Hid (Blk W12 W11.heap.size cm 31) := Lib.hid (by rw [hW12]; exact setRow_heap _ _ _ _ _ _ (Blk.new _ _ _))
    have HW12 := Lib.hid hW12
    obtain ⟨x0', now3, cx0', cnow', fnow', cnet'⟩ := NX.out _ _ _ R12.out
    clear hr11 hn hcm cx0 cnow fnow cnet hW12
    obtain ⟨W13, hW13⟩ : ∃ W13, W13 = W12.setCell ⟨g.xb, 4, none⟩ (.int .i64 (max now3 p.at_)) := ⟨_, rfl⟩
    have R13 := Lib.hid (R12.out.clock (max now3 p.at_))
    rw [← hW13] at R13
    have K13 : Hid (Blk W13 W11.heap.size cm 31) := Lib.hid (by
     rw [hW13]
     exact ((Tn.refl (fun b => b = g.xb) W12).setCell (p := ⟨g.xb, 4, none⟩) (.inl rfl) _).blk K12.out (fun e => by
      have h1 : g.xb < W11.heap.size := (cell_lt R11.out.cells.x0 : _)
      have e : W11.heap.size = g.xb := e
      omega))
    have HW13 := Lib.hid hW13
    have DV := Lib.hid (R13.out.deliver hi (by omega) p.m (Q' := J (k + 1)) (fun s P hq => hq.1) (fun s r P' n hks hq hsl => by
     obtain ⟨hpm, P, hjk, hpp, hall⟩ := hq
     exact HD.out k s P r p n P' hk4 hks hpm hjk hall hpp hsl))
    rw [← HCM.out] at DV
    clear hW13
    go_wp2_with (first
     | rw [← HW12.out]
     | rw [← HW13.out]
     | refine wpList_store_row rfl 31 (.tmp 3) (.tmp 26) rfl W11.heap.size cm rfl rfl 31 _ (Blk.new _ _ _) MI.out MS.out MO.out ?_
     | refine wpList_load_row 31 (.tmp 3) rfl rfl rfl K13.out Tryz.underlying31 rfl MI.out ?_)
    refine DV.out.mono ?_
    rintro e W14 ⟨rfl, hr14⟩
    have R14 := Lib.hid hr14
    clear hr14 DV cx0' cnow' fnow' cnet'
    go_wp2_with fail
    go_roundw
    case rel => exact ⟨k + 1, by omega, by go_num, R14.out.weak (by omega) fun _ _ _ h => h⟩
    case measure => simp [intOf]; omega
  ·obtain rfl : k = 400 := by omega
   clear hr
   go_wp2_with fail
   refine bodyPost_end (results_none rfl _ _ _) rfl ?_
   exact ⟨rfl, RJ.out.weak (by omega) fun s P _ hq => ⟨400, by omega, hq, .inl rfl⟩⟩
end Go.Proofs.YtdojgbpaheadnaaGreat

/- The library of the law: a new net. -/
namespace Go.Proofs.YtdojgbpaheadnaaGreat
open Go.RowKit Go.Shelf Go.Maps Go.ChangeMaps

theorem owns_nilT (w : World) (T : TypeId) (z B : Nat) (R : World → List Value → Tr → Prop) : SlOf z (fun b => (Value.slice none 0 0).ownBlock = some b) R w (.slice none 0 0) [] := (OwnOf.nil T z B R w).sl
theorem LibM.netNew {g : Lg} {Z : Nat → Nat → Prop} {w : World} {N : Nat} {S : List Tr} {P : List Pc} {sent : Nat} {s : Lb} (h : LibM g Z w N S P sent s) :
  Calls Tryz.prog 39 #[i64 5, .slice none 0 0] w fun e w' => ∃ (nb : Nat) (g' : Lg) (Z' : Nat → Nat → Prop), e = .returned (.pointer (some ⟨nb, 0, none⟩)) ∧ g'.xb = g.xb ∧ g'.B0 = g.B0 ∧ g'.nb = nb ∧ (∀ a, g'.ap a = g.ap a) ∧ (∀ L, g'.lp L = g.lp L) ∧
   LibC g w' ∧ (∀ i k, Z i k → Z' i k) ∧ Tn (g.F Z) w w' ∧ LibM g' Z' (w'.setCell ⟨g.xb, 3, none⟩ (.pointer (some ⟨nb, 0, none⟩))) N [] [] 0 s ∧ Tn (g.F Z) w (w'.setCell ⟨g.xb, 3, none⟩ (.pointer (some ⟨nb, 0, none⟩))) := by
 obtain ⟨n1, n2, n3, now, h1, h2, h3, hs⟩ := h.sys
 obtain ⟨O, ⟨-, rfl⟩, hO⟩ := hs.see (i := 7) rfl
 have h7 := hO g.xb rfl
 refine (hs.workE (i := 6) (M' := fun nb => netA w.heap.size nb 5 [] [] 0) (Post := fun nb e _ => e = .returned (.pointer (some ⟨nb, 0, none⟩))) h.hB rfl fun O hO => ?_).mono ?_
 ·refine (nnew_any 5 (owns_nilT w 90 3 0 TrR) (by simp)).mono ?_
  rintro e w' ⟨nb, sc, rfl, hN, hb⟩
  exact ⟨nb, rfl, _, ⟨sc, _, hN, rfl⟩, Tn.of_below hb, fun k hk => ⟨(hN.own_lt hk).2, .inr (hN.own_lt hk).1⟩⟩
 ·rintro e w' ⟨nb, rfl, hs', ht⟩
  have hsz := ht.size
  have hx : Blk w' g.xb (g.xcs now) 78 := hs'.blk (i := 7) rfl
  have ha : Blk w' g.ab g.acs 43 := hs'.blk (i := 8) rfl
  have hl : Blk w' g.lb g.lcs 44 := hs'.blk (i := 9) rfl
  have ht' : Tn (g.F Z) w w' := ht.mono fun k hk => ⟨hk.1, fun e => hk.2 (e 6)⟩
  have k := h.ok
  refine ⟨nb, { g with nb := nb, lo := fun i => if i = 6 then w.heap.size else g.lo i }, fun j k => Z j k ∨ (j ≠ 6 ∧ w.heap.size ≤ k ∧ k < w'.heap.size), rfl, rfl, rfl, rfl, fun a => rfl, fun L => rfl, ⟨hx.cell 0, hx.cell 1, hx.cell 2, hx.cell 3, ⟨now, hx.cell 4⟩, hx.frozen 4, hx.frozen 3, (ha.cell 0).trans k.p1, (ha.cell 1).trans k.p2, (hl.cell 0).trans k.q3, (hl.cell 1).trans k.q4, (hl.cell 2).trans k.q1⟩, fun i k hk => .inl hk, ht', ⟨⟨k.p1, k.p2, k.q3, k.q4, k.q1, k.ca, k.cl⟩, ?_, ⟨n1, n2, n3, now, h1, h2, h3, ?_⟩, h.ls⟩, ht'.setCell (p := ⟨g.xb, 3, none⟩) (.inl ⟨h7.1, fun e => h7.2.2 (e 7)⟩) _⟩
  ·show g.B0 ≤ (w'.setCell ⟨g.xb, 3, none⟩ (.pointer (some ⟨nb, 0, none⟩))).heap.size
   have := h.hB
   simp
   omega
  ·exact hs'.set (i := 7) (j := 3) rfl (.pointer (some ⟨nb, 0, none⟩))
theorem RunJ.netNew {w : World} {g : Lg} {S : List Tr} {init : Int → List Int} {D : Nat → Prop} {b : Nat} {Q : Lb → List Pc → Prop} {wr : World} (h : RunJ w g S init D b Q wr) :
  Calls Tryz.prog 39 #[i64 5, .slice none 0 0] wr fun e w' => ∃ (nb : Nat) (g' : Lg), e = .returned (.pointer (some ⟨nb, 0, none⟩)) ∧ g'.xb = g.xb ∧ g'.B0 = g.B0 ∧ (∀ a, g'.ap a = g.ap a) ∧ (∀ L, g'.lp L = g.lp L) ∧
   LibC g w' ∧ RunJ w g' [] init D b (fun s P => P = [] ∧ ∃ P0, Q s P0) (w'.setCell ⟨g.xb, 3, none⟩ (.pointer (some ⟨nb, 0, none⟩))) := by
 obtain ⟨Z, N, sent, P, s, h1, h2, h3, h4, h5, h6, h7, h8, h9⟩ := h
 refine h1.netNew.mono ?_
 rintro e w' ⟨nb, g', Z', rfl, e1, e2, -, e3, e4, hc, hz, -, hL, ht⟩
 exact ⟨nb, g', rfl, e1, e2, e3, e4, hc, Z', N, 0, [], s, hL, h2, fun p hp => (by cases hp), h4, Nat.zero_le _, Nat.le_refl _, fun i k hk => hz i k (h7 i k hk), (by rw [e2]; exact h8.trans (ht.mono fun k hk => ⟨hk.1, fun e => hk.2 fun i => h7 i k e⟩)), rfl, P, h9⟩
end Go.Proofs.YtdojgbpaheadnaaGreat
