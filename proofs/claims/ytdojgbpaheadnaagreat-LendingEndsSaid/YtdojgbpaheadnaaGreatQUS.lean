/- The library of the law: a round. -/
import Derived.Test.YtdojgbpaheadnaaGreatQUR
set_option linter.unusedVariables false
set_option linter.unusedSimpArgs false

namespace Go.Proofs.YtdojgbpaheadnaaGreat
open Go.RowKit Go.Shelf Go.Maps Go.ChangeMaps
attribute [local go_sem] over_cell over_frozen

set_option maxRecDepth 100000 in
set_option maxHeartbeats 8000000 in
theorem round_any {w : World} {g : Lg} {S : List Tr} {init : Int → List Int} {D : Nat → Prop} {b : Nat} {I0 : Lb → List Pc → Prop} {w0 : World} (hb : b ≤ 48000) (hi : ∀ L, (init L).length ≤ 20000) (J : Nat → Lb → List Pc → Prop)
  (ht : ∀ s P P' n, KS init s → (∀ p ∈ P, p.m ∈ s.W) → I0 s P → SentL 5 S n s.tickMs P P' → J 0 s.tickM P')
  (hd : ∀ i s P r (p : Pc) n P', i < 400 → KS init s → p.m ∈ s.W → J i s P → (∀ x ∈ P, x.m ∈ s.W) → (r ++ [p]).Perm P → SentL 5 S n (s.delMs p.m) r P' → J (i + 1) (s.del p.m) P') (h : RunJ w g S init D b I0 w0) :
  Calls Tryz.prog 37 #[.pointer (some ⟨g.xb, 0, none⟩)] w0 fun e w' => e = .returned (.tuple #[]) ∧ RunJ w g S init D (b + 824) (fun s P => ∃ i, i ≤ 400 ∧ J i s P ∧ (i = 400 ∨ P = [])) w' := by
 have H := Lib.hid (h.tick (by omega) ht)
 have HD := Lib.hid hd
 have NX : Hid (∀ W Q b, RunJ w g S init D b Q W → ∃ x0 now, W.cell? ⟨g.xb, 0, none⟩ = some x0 ∧ W.cell? ⟨g.xb, 4, none⟩ = some (i64 now) ∧ W.frozen? ⟨g.xb, 4, none⟩ = false ∧ W.cell? ⟨g.xb, 3, none⟩ = some (.pointer (some ⟨g.nb, 0, none⟩))) := Lib.hid (fun W Q b h => by
  have c := h.cells
  obtain ⟨now, hn⟩ := c.x4
  exact ⟨_, now, c.x0, hn, c.f4, c.x3⟩)
 clear h ht hd
 go_enter Tryz.func37, Tryz.ntmps37
 go_wp2_with fail
 refine H.out.mono ?_
 rintro e w1 ⟨rfl, hr1⟩
 have R1 := Lib.hid hr1
 obtain ⟨x0, now, cx0, cnow, fnow, cnet⟩ := NX.out _ _ _ hr1
 clear hr1 H
 have R2 := Lib.hid (R1.out.clock (wrap64 (now + 10)))
 go_wp2_with fail
 go_loopw [2, 3, 4, 5] (fun i _ _ _ wr => ∃ (k : Nat), k ≤ 400 ∧ i = .int .i64 k ∧ RunJ w g S init D (b + 24 + 2 * k) (J k) wr) (fun i _ _ _ _ => 400 - (intOf i).toNat)
 case atStart => exact ⟨0, by omega, rfl, R2.out⟩
 case round =>
  obtain ⟨k, hk, rfl, hr⟩ := hrel
  have RJ := Lib.hid hr
  by_cases hk4 : k < 400
  ·have hki : decide ((k : Int) < 400) = true := by simp; omega
   obtain ⟨x0, now2, cx0, cnow, fnow, cnet⟩ := NX.out _ _ _ hr
   clear hr
   rcases RJ.out.next (by omega) with hn | hn
   ·go_wp2_with fail
    refine hn.mono ?_
    rintro e W11 ⟨rfl, hr11⟩
    have R11 := Lib.hid hr11
    clear hr11 hn cx0 cnow fnow cnet
    go_wp2_with fail
    (try simp only [Exit.inBlock, Exit.then])
    first
     | refine bodyPost_ret (results_none rfl _ _ _) rfl ?_
     | refine bodyPost_end (results_none rfl _ _ _) rfl ?_
    exact ⟨rfl, (R11.out.up ((Below.refl _ _).alloc (Nat.le_refl _) _)).weak (by omega) fun s P _ hq => ⟨k, hk, hq.1, .inr hq.2⟩⟩
   ·go_wp2_with fail
    refine hn.mono ?_
    rintro e W11 ⟨p, rfl, hr11⟩
    have R11 := Lib.hid hr11
    obtain ⟨cm, hcm⟩ : ∃ cm, cm = encM p.m := ⟨_, rfl⟩
    rw [← hcm]
    have HCM := Lib.hid hcm
    have MI : Hid ((Tryz.prog.info? 31).map (·.size) = some cm.size) := Lib.hid (by rw [hcm]; kernel_rfl)
    have MO : Hid (cm.all (·.oneCell') = true) := Lib.hid (by rw [hcm]; unfold encM strV; simp [Value.oneCell'])
    have MS : Hid ((4 : Nat) = cm.size) := Lib.hid (by rw [hcm]; rfl)
    obtain ⟨W12, hW12⟩ : ∃ W12, W12 = (W11.alloc (.cells #[i64 0, i64 0, i64 0, .string ⟨#[]⟩] 31)).setRow W11.heap.size cm := ⟨_, rfl⟩
    have R12 := Lib.hid (hr11.up (w' := W12) (by rw [hW12]; exact belowS ((Below.refl _ _).alloc (Nat.le_refl _) _) (Nat.le_refl _)))
    have K12 : Hid (Blk W12 W11.heap.size cm 31) := Lib.hid (by rw [hW12]; exact setRow_heap _ _ _ _ _ _ (Blk.new _ _ _))
    have HW12 := Lib.hid hW12
    obtain ⟨x0', now3, cx0', cnow', fnow', cnet'⟩ := NX.out _ _ _ R12.out
    clear hr11 hn hcm cx0 cnow fnow cnet hW12
    obtain ⟨W13, hW13⟩ : ∃ W13, W13 = W12.setCell ⟨g.xb, 4, none⟩ (.int .i64 (max now3 p.at_)) := ⟨_, rfl⟩
    have R13 := Lib.hid (R12.out.clock (max now3 p.at_))
    rw [← hW13] at R13
    have K13 : Hid (Blk W13 W11.heap.size cm 31) := Lib.hid (by
     rw [hW13]
     exact ((Tn.refl (fun b => b = g.xb) W12).setCell (p := ⟨g.xb, 4, none⟩) (.inl rfl) _).blk K12.out (fun e => by
      have h1 : g.xb < W11.heap.size := (cell_lt R11.out.cells.x0 : _)
      have e : W11.heap.size = g.xb := e
      omega))
    have HW13 := Lib.hid hW13
    have DV := Lib.hid (R13.out.deliver hi (by omega) p.m (Q' := J (k + 1)) (fun s P hq => hq.1) (fun s r P' n hks hq hsl => by
     obtain ⟨hpm, P, hjk, hpp, hall⟩ := hq
     exact HD.out k s P r p n P' hk4 hks hpm hjk hall hpp hsl))
    rw [← HCM.out] at DV
    clear hW13
    go_wp2_with (first
     | rw [← HW12.out]
     | rw [← HW13.out]
     | refine wpList_store_row rfl 31 (.tmp 3) (.tmp 26) rfl W11.heap.size cm rfl rfl 31 _ (Blk.new _ _ _) MI.out MS.out MO.out ?_
     | refine wpList_load_row 31 (.tmp 3) rfl rfl rfl K13.out Tryz.underlying31 rfl MI.out ?_)
    refine DV.out.mono ?_
    rintro e W14 ⟨rfl, hr14⟩
    have R14 := Lib.hid hr14
    clear hr14 DV cx0' cnow' fnow' cnet'
    go_wp2_with fail
    go_roundw
    case rel => exact ⟨k + 1, by omega, by go_num, R14.out.weak (by omega) fun _ _ _ h => h⟩
    case measure => simp [intOf]; omega
  ·obtain rfl : k = 400 := by omega
   clear hr
   go_wp2_with fail
   refine bodyPost_end (results_none rfl _ _ _) rfl ?_
   exact ⟨rfl, RJ.out.weak (by omega) fun s P _ hq => ⟨400, by omega, hq, .inl rfl⟩⟩
end Go.Proofs.YtdojgbpaheadnaaGreat
