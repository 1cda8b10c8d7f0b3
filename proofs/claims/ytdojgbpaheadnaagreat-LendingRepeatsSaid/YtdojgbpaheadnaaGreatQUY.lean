/- The walk of LendingRepeats. -/
import Derived.Test.YtdojgbpaheadnaaGreatQUX
import Derived.Test.YtdojgbpaheadnaaGreatQUS
import Derived.Test.YtdojgbpaheadnaaGreatQUL
import Derived.Test.YtdojgbpaheadnaaGreatQRS
set_option linter.unusedVariables false
set_option linter.unusedSimpArgs false

namespace Go.Proofs.YtdojgbpaheadnaaGreat
open Go.RowKit Go.Shelf Go.Maps Go.ChangeMaps
attribute [local go_sem] over_cell over_frozen

set_option maxRecDepth 100000 in
set_option maxHeartbeats 16000000 in
theorem repeatsLaw {w : World} {S : List Tr} (T : Nat → List Int) (ia : Nat → Option Addr) (ic : Nat → Nat) (hT : ∀ j, j < 3 → U8 w (ia j) (T j) (ic j) ∧ (T j).length ≤ ic j ∧ ic j ≤ 9223372036854775807)
  (D : List Int) (ra : Option Addr) (rc : Nat) (hR : U8 w ra D rc) (hrc : D.length ≤ rc ∧ rc ≤ 9223372036854775807)
  (A : List Int) (aa : Option Addr) (ac : Nat) (hA : U8 w aa A ac) (hac : A.length ≤ ac ∧ ac ≤ 9223372036854775807)
  (sa : Option Addr) (sc : Nat) (rr : Int) :
  Calls Tryz.prog 7 #[.agg #[.slice (ia 0) (T 0).length (ic 0), .slice (ia 1) (T 1).length (ic 1), .slice (ia 2) (T 2).length (ic 2), .slice ra D.length rc, .slice aa A.length ac, .slice sa S.length sc, .int .u8 rr]] w fun e w' => e = .returned (.bool true) ∧ Below w.heap.size w w' := by
 have HT := Lib.hid hT
 have HR := Lib.hid hR
 have HA := Lib.hid hA
 obtain ⟨w1, hw1⟩ : ∃ w1, w1 = w.alloc (.cells #[.slice (ia 0) (T 0).length (ic 0), .slice (ia 1) (T 1).length (ic 1), .slice (ia 2) (T 2).length (ic 2), .slice ra D.length rc, .slice aa A.length ac, .slice sa S.length sc, .int .u8 rr] 70) := ⟨_, rfl⟩
 have B1 : Hid (Below w.heap.size w w1) := Lib.hid (by rw [hw1]; exact (Below.refl _ _).alloc (Nat.le_refl _) _)
 have S1 : Hid (Blk w1 w.heap.size #[.slice (ia 0) (T 0).length (ic 0), .slice (ia 1) (T 1).length (ic 1), .slice (ia 2) (T 2).length (ic 2), .slice ra D.length rc, .slice aa A.length ac, .slice sa S.length sc, .int .u8 rr] 70) := Lib.hid (by rw [hw1]; exact Blk.new _ _ _)
 have HW1 := Lib.hid hw1
 clear hT hR hA hw1
 go_enter Tryz.func7, Tryz.ntmps7
 go_wp2_with fail
 rw [← HW1.out]
 refine (sanity_any w1).mono ?_
 rintro e w2 ⟨rfl, hb2⟩
 have B2 : Hid (Below w.heap.size w w2) := Lib.hid (B1.out.trans (hb2.mono B1.out.size))
 have S2 := Lib.hid (S1.out.below hb2 S1.out.lt)
 have c0 := S2.out.cell 0
 have c1 := S2.out.cell 1
 have c2 := S2.out.cell 2
 have c3 := S2.out.cell 3
 clear hb2
 go_wp2_with fail
 refine (begin_any (S := []) T ia ic (fun j hj => ⟨(HT.out j hj).1.below B2.out (Nat.le_refl _), (HT.out j hj).2⟩) D ra rc (HR.out.below B2.out (Nat.le_refl _)) hrc (owns_nilT w2 90 3 0 TrR) (by simp)).mono ?_
 rintro e WX ⟨gx, rfl, hgx, hLx, hb4⟩
 have LX := Lib.hid hLx
 have GX := Lib.hid hgx
 have BX := Lib.hid hb4
 have C4 : Hid (Below w.heap.size w WX) := Lib.hid (B2.out.trans (hb4.mono B2.out.size))
 have S4 := Lib.hid (S2.out.below hb4 S2.out.lt)
 clear hb4 hLx c0 c1 c2 c3 hgx
 have c0 := S4.out.cell 0
 have c1 := S4.out.cell 1
 have c2 := S4.out.cell 2
 have c3 := S4.out.cell 3
 obtain ⟨w5, hw5⟩ : ∃ w5, w5 = WX.alloc (.cells #[.bool false, .int .i64 2, .int .i64 0] 90) := ⟨_, rfl⟩
 have V5 : Hid (SlOf 3 (fun b => (Value.slice (some ⟨WX.heap.size, 0, none⟩) 1 1).ownBlock = some b) TrR w5 (.slice (some ⟨WX.heap.size, 0, none⟩) 1 1) [(false, 2, 0)]) := Lib.hid (by
  rw [hw5]
  exact OwnOf.sl (T := 90) (B := 0) ⟨[[.bool false, i64 2, i64 0]], row_fresh' (g := WX.heap.size) WX rfl 0 #[.bool false, .int .i64 2, .int .i64 0] 90 3 1 rfl (by unfold maxLen; omega) (Nat.zero_le _), .cons rfl .nil, fun c hc => by rw [List.mem_singleton.1 hc]; rfl⟩)
 have B5 : Hid (Below WX.heap.size WX w5) := Lib.hid (by rw [hw5]; exact (Below.refl _ _).alloc (Nat.le_refl _) _)
 have C5 : Hid (Below w.heap.size w w5) := Lib.hid (C4.out.trans (B5.out.mono C4.out.size))
 have HW5 := Lib.hid hw5
 clear hw5
 go_wp2_with fail
 rw [← HW5.out]
 refine (begin_any (S := [(false, 2, 0)]) T ia ic (fun j hj => ⟨(HT.out j hj).1.below C5.out (Nat.le_refl _), (HT.out j hj).2⟩) D ra rc (HR.out.below C5.out (Nat.le_refl _)) hrc V5.out (by simp)).mono ?_
 rintro e WY ⟨gy, rfl, hgy, hLy, hb6⟩
 have hr6 : (rotL D).length ≤ 6 := by unfold rotL; simp; omega
 have hrI := rotL_is D
 have hk0 : KS (Lb.start (rotL D) (srt (ttl (T 0))) (srt (ttl (T 1))) (srt (ttl (T 2)))).init (Lb.start (rotL D) (srt (ttl (T 0))) (srt (ttl (T 1))) (srt (ttl (T 2)))) := KS.start hrI hr6 (sortedI_merge _) (sortedI_merge _) (sortedI_merge _)
 have hi0 : ∀ L, ((Lb.start (rotL D) (srt (ttl (T 0))) (srt (ttl (T 1))) (srt (ttl (T 2)))).init L).length ≤ 20000 := fun L => by
  have h5 : ∀ j, (srt (ttl (T j))).length ≤ 20000 := fun j => by unfold srt; rw [List.length_mergeSort]; unfold ttl; simp; omega
  unfold Lb.init Lb.start
  dsimp only
  split
  ·exact h5 0
  ·split
   ·exact h5 1
   ·exact h5 2
 obtain ⟨r0, er0⟩ : ∃ r0, r0 = rotL D := ⟨_, rfl⟩
 obtain ⟨h3, eh3⟩ : ∃ h3, h3 = srt (ttl (T 0)) := ⟨_, rfl⟩
 obtain ⟨h4, eh4⟩ : ∃ h4, h4 = srt (ttl (T 1)) := ⟨_, rfl⟩
 obtain ⟨h1, eh1⟩ : ∃ h1, h1 = srt (ttl (T 2)) := ⟨_, rfl⟩
 rw [← er0, ← eh3, ← eh4, ← eh1] at LX hLy hk0 hi0
 have K0 := Lib.hid hk0
 have I0 := Lib.hid hi0
 have TW : Hid (Two w2 gx gy [] [(false, 2, 0)] (Lb.start r0 h3 h4 h1).init 0 0 (fun s P => s = Lb.start r0 h3 h4 h1 ∧ P = []) (fun s P => s = Lb.start r0 h3 h4 h1 ∧ P = []) WY) := Lib.hid (Two.begin LX.out hk0 BX.out B5.out hLy hk0 hb6 (by rw [GX.out]; exact Nat.le_refl _) hgy)
 have EB : Hid (w2.heap.size ≤ gx.B0 ∧ w2.heap.size ≤ gy.B0) := Lib.hid ⟨by rw [GX.out]; exact Nat.le_refl _, by rw [hgy]; exact Nat.le_trans BX.out.size B5.out.size⟩
 clear er0 eh3 eh4 eh1 hk0 hi0 hr6 hrI hLy hgy hb6 c0 c1 c2 c3 LX
 have c2 := (S2.out.below TW.out.below S2.out.lt).cell 4
 obtain ⟨DX, hDX⟩ := TW.out.x
 obtain ⟨DY, hDY⟩ := TW.out.y
 have RX := Lib.hid hDX.rightV
 have RY := Lib.hid hDY.rightV
 clear hDX hDY
 go_wp2_with fail
 refine RX.out.mono ?_
 rintro e W6 ⟨rfl, rfl⟩
 go_wp2_with fail
 refine RY.out.mono ?_
 rintro e W6 ⟨rfl, rfl⟩
 have AW : Hid (∀ W, Below w2.heap.size w2 W → U8 W aa (A.take 1) ac) := Lib.hid fun W hW => (HA.out.below (B2.out.trans (hW.mono B2.out.size)) (Nat.le_refl _)).take 1
 have AB : Hid (A.take 1 ≠ [] → ∀ b o, aa = some ⟨b, o, none⟩ → b < w2.heap.size) := Lib.hid fun hne b o e => by
  obtain ⟨b', o', e', hlt, -⟩ := HA.out.at_.resolve_left (fun e => hne (by rw [e]; rfl))
  rw [e] at e'
  injection e' with e'
  injection e' with e1 _
  have := B2.out.size
  omega
 obtain ⟨A1, hA1⟩ : ∃ A1, A1 = A.take 1 := ⟨_, rfl⟩
 rw [← hA1] at AW AB
 have hA1l : A1.length ≤ 1 := by rw [hA1, List.length_take]; omega
 have hmin : min (A.length : Int) 1 = A1.length := by rw [hA1, List.length_take]; omega
 have hA1c : A1.length ≤ ac := by rw [hA1, List.length_take]; omega
 have hlen0 : (0 : Int) ≤ A1.length := by omega
 have HAL := Lib.hid hA1l
 clear hA1
 obtain ⟨o, ho⟩ : ∃ o, o = A1.head?.map fun x => 1 + x % 4 := ⟨_, rfl⟩
 have HO := Lib.hid ho
 obtain ⟨init, hinit⟩ : ∃ init, init = (Lb.start r0 h3 h4 h1).init := ⟨_, rfl⟩
 rw [← hinit] at K0 I0 TW
 have HI := Lib.hid hinit
 have SI : Hid (∀ L, IsL L → SortedI (init L)) := Lib.hid fun L hL => by rw [HI.out]; exact (K0.out.li L hL).so
 clear ho hinit
 go_wp2_with fail
 refine (TW.out.stepX (Φ := fun e => e = .returned (.tuple #[])) (bx' := 20) (Qx' := QG init 1 1 1 (R1 r0 o)) fun Dx hr => (hr.asks1 (by omega) A1 aa ac (AW.out _ TW.out.below) ⟨hA1c, hac.2⟩ (fun hne b o e => Nat.lt_of_lt_of_le (AB.out hne b o e) EB.out.1) HAL.out (Q' := QG init 1 1 1 (R1 r0 o)) (fun s P P' n n' hk hq hp => by obtain ⟨rfl, rfl⟩ := hq; rw [HO.out]; exact QG.begin HAL.out (KS.askN _ _ (Nat.min_le_right _ _) hk) Cl.one (.inl rfl) hp)).mono fun e w' h => ⟨h.1, h.2.weak (by omega) fun _ _ _ h => h⟩).mono ?_
 rintro e W7 ⟨rfl, t7⟩
 have T7 := Lib.hid t7
 clear t7
 go_wp2_with fail
 refine (T7.out.stepY (Φ := fun e => e = .returned (.tuple #[])) (b2' := 20) (Qy' := QG init 1 1 2 (R1 r0 o)) fun Dx hr => (hr.asks1 (by omega) A1 aa ac (AW.out _ T7.out.below) ⟨hA1c, hac.2⟩ (fun hne b o e => Nat.lt_of_lt_of_le (AB.out hne b o e) EB.out.2) HAL.out (Q' := QG init 1 1 2 (R1 r0 o)) (fun s P P' n n' hk hq hp => by obtain ⟨rfl, rfl⟩ := hq; rw [HO.out]; exact QG.begin HAL.out (KS.askN _ _ (Nat.min_le_right _ _) hk) (Cl.two 0) (.inr rfl) hp)).mono fun e w' h => ⟨h.1, h.2.weak (by omega) fun _ _ _ h => h⟩).mono ?_
 rintro e W8 ⟨rfl, t8⟩
 have T8 := Lib.hid t8
 clear t8 hmin hA1l hA1c hlen0 c2
 go_wp2_with fail
 go_loopw [7] (fun i wr => ∃ (k : Nat), k ≤ 12 ∧ i = .int .i64 k ∧ Two w2 gx gy [] [(false, 2, 0)] init (20 + 824 * k) (20 + 824 * k) (QG init 1 1 1 (R1 r0 o)) (QG init 1 1 2 (R1 r0 o)) wr ∧ (1 ≤ k → Two w2 gx gy [] [(false, 2, 0)] init (20 + 824 * k) (20 + 824 * k) (RG init 1 1 (R1 r0 o)) (RG init 1 1 (R1 r0 o)) wr)) (fun i _ => 12 - (intOf i).toNat)
 case atStart => exact ⟨0, by omega, rfl, T8.out, fun e => by omega⟩
 case round =>
  obtain ⟨k, hk, rfl, hr, hr'⟩ := hrel
  by_cases hgo : k < 12
  ·have hdk : decide ((k : Int) < 12) = true := by simp; omega
   have RK := Lib.hid hr
   clear hr hr'
   have cc := RK.out.cx
   have x0 := cc.x0
   clear cc
   go_wp2_with fail
   refine (RK.out.stepX (Φ := fun e => e = .returned (.tuple #[])) (Qx' := RG init 1 1 (R1 r0 o)) fun Dx hr => (round_any (by omega) I0.out (JG init 1 1 1 (R1 r0 o)) (fun s P P' n hk _ hq hs => JG.tick hk Cl.one (.inl rfl) (R1.kp _ _ _) hq hs) (fun i s P r p n P' _ hk hm hq _ hp hs => JG.del hk Cl.one (.inl rfl) (R1.kp _ _ _) hm hq hp hs) hr).mono fun e w' h => ⟨h.1, h.2.weak (Nat.le_refl _) fun s' P' _ hq => by obtain ⟨i, -, h1, h2⟩ := hq; exact RG.of h1 h2⟩).mono ?_
   rintro e W11 ⟨rfl, t11⟩
   have T11 := Lib.hid t11
   clear t11 x0
   go_wp2_with fail
   refine (T11.out.stepY (Φ := fun e => e = .returned (.tuple #[])) (Qy' := RG init 1 1 (R1 r0 o)) fun Dx hr => (round_any (by omega) I0.out (JG init 1 1 2 (R1 r0 o)) (fun s P P' n hk _ hq hs => JG.tick hk (Cl.two 0) (.inr rfl) (R1.kp _ _ _) hq hs) (fun i s P r p n P' _ hk hm hq _ hp hs => JG.del hk (Cl.two 0) (.inr rfl) (R1.kp _ _ _) hm hq hp hs) hr).mono fun e w' h => ⟨h.1, h.2.weak (Nat.le_refl _) fun s' P' _ hq => by obtain ⟨i, -, h1, h2⟩ := hq; exact RG.of h1 h2⟩).mono ?_
   rintro e W12 ⟨rfl, t12⟩
   have T12 := Lib.hid t12
   clear t12
   go_wp2_with fail
   go_roundw
   case rel => exact ⟨k + 1, by omega, by go_num, T12.out.weak (by omega) (by omega) (fun _ _ _ h => QG.of h) (fun _ _ _ h => QG.of h), fun _ => T12.out.weak (by omega) (by omega) (fun _ _ _ h => h) (fun _ _ _ h => h)⟩
   case measure => simp [intOf]; omega
  ·obtain rfl : k = 12 := by omega
   rw [show ((12 : Nat) : Int) = 12 from rfl]
   have RE := Lib.hid (hr' (by omega))
   clear hr hr'
   obtain ⟨l0, hl0⟩ : ∃ l0, l0 = here1 init r0 o := ⟨_, rfl⟩
   obtain ⟨v0, hv0⟩ : ∃ v0, v0 = st1 init r0 o := ⟨_, rfl⟩
   have hl1 : l0.length ≤ 1 := by rw [hl0]; unfold here1; split <;> (try split) <;> simp
   have ST : Hid (∀ s P, KS init s → RG init 1 1 (R1 r0 o) s P → (s.as 1).state 1 = v0) := Lib.hid fun s P hk hq => by rw [hv0]; exact (hq.rep1 hk SI.out).1
   have HE : Hid (∀ s P, KS init s → RG init 1 1 (R1 r0 o) s P → (s.as 1).here = l0) := Lib.hid fun s P hk hq => by rw [hl0]; exact (hq.rep1 hk SI.out).2.1
   obtain ⟨z0, hz0⟩ : ∃ z : Nat, z = cnt (init 3) 0 + cnt (init 4) 0 + cnt (init 1) 0 := ⟨_, rfl⟩
   obtain ⟨z1, hz1⟩ : ∃ z : Nat, z = cnt (init 3) 1 + cnt (init 4) 1 + cnt (init 1) 1 := ⟨_, rfl⟩
   obtain ⟨z2, hz2⟩ : ∃ z : Nat, z = cnt (init 3) 2 + cnt (init 4) 2 + cnt (init 1) 2 := ⟨_, rfl⟩
   obtain ⟨z3, hz3⟩ : ∃ z : Nat, z = cnt (init 3) 3 + cnt (init 4) 3 + cnt (init 1) 3 := ⟨_, rfl⟩
   obtain ⟨z4, hz4⟩ : ∃ z : Nat, z = cnt (init 3) 4 + cnt (init 4) 4 + cnt (init 1) 4 := ⟨_, rfl⟩
   obtain ⟨z5, hz5⟩ : ∃ z : Nat, z = cnt (init 3) 5 + cnt (init 4) 5 + cnt (init 1) 5 := ⟨_, rfl⟩
   have CQ : Hid (∀ s : Lb, (∀ t, cnt s.heres.flatten t = cnt (init 3) t + cnt (init 4) t + cnt (init 1) t) → cntC s.heres.flatten = #[i64 z0, i64 z1, i64 z2, i64 z3, i64 z4, i64 z5]) := Lib.hid fun s h => by rw [hz0, hz1, hz2, hz3, hz4, hz5]; exact cntC_eq h
   have HL1 := Lib.hid hl1
   clear hl0 hv0 hz0 hz1 hz2 hz3 hz4 hz5 hl1
   obtain ⟨S', hS'⟩ : ∃ S' : World → Prop, S' = fun W => LibC gx W ∧ LibC gy W := ⟨_, rfl⟩
   have LDD : Hid (∀ W, S' W → LibC gx W ∧ LibC gy W) := Lib.hid (by rw [hS']; exact fun W h => h)
   have UU : Hid (∀ (Qx Qy : Lb → List Pc → Prop) b c W, Two w2 gx gy [] [(false, 2, 0)] init b c Qx Qy W → S' W) := Lib.hid (by rw [hS']; exact fun Qx Qy b c W h => ⟨h.cx, h.cy⟩)
   have RD := Lib.hid (RE.out.up (bdrewN (Below.refl wr.heap.size wr) 1))
   have hHeld := UU.out _ _ _ _ _ RD.out
   clear hS'
   go_wp2_with fail
   refine wp_region_held_drew (S := S') (by kernel_rfl) hHeld (fun _ => ?_)
   apply wpAnyH_apart4 (fun W => Two w2 gx gy [] [(false, 2, 0)] init (20 + 824 * 12) (20 + 824 * 12) (RG init 1 1 (R1 r0 o)) (RG init 1 1 (R1 r0 o)) W)
   case take =>
    intro R hR
    refine tk 0 (v := ?_) rfl hHeld ?_ ?_; rotate_left
    ·(intro w hSw; (obtain ⟨Cx, Cy⟩ := LDD.out w hSw; have x0 := Cx.x0; have a0 := Cx.a0; have y0 := Cy.x0; have b0 := Cy.a0; clear Cx Cy); go_simp; try (with_reducible rfl))
    try simp only [gZ]
    refine tk 1 (v := ?_) rfl hHeld ?_ ?_; rotate_left
    ·(intro w hSw; (obtain ⟨Cx, Cy⟩ := LDD.out w hSw; have x0 := Cx.x0; have a0 := Cx.a0; have y0 := Cy.x0; have b0 := Cy.a0; clear Cx Cy); go_simp; try (with_reducible rfl))
    try simp only [gZ]
    refine tk 2 (v := ?_) rfl hHeld ?_ ?_; rotate_left
    ·(intro w hSw; (obtain ⟨Cx, Cy⟩ := LDD.out w hSw; have x0 := Cx.x0; have a0 := Cx.a0; have y0 := Cy.x0; have b0 := Cy.a0; clear Cx Cy); go_simp; try (with_reducible rfl))
    try simp only [gZ]
    refine tk 3 (v := ?_) rfl hHeld ?_ ?_; rotate_left
    ·(intro w hSw; (obtain ⟨Cx, Cy⟩ := LDD.out w hSw; have x0 := Cx.x0; have a0 := Cx.a0; have y0 := Cy.x0; have b0 := Cy.a0; clear Cx Cy); go_simp; try (with_reducible rfl))
    try simp only [gZ]
    refine tk 4 (v := ?_) rfl hHeld ?_ ?_; rotate_left
    ·(intro w hSw; (obtain ⟨Cx, Cy⟩ := LDD.out w hSw; have x0 := Cx.x0; have a0 := Cx.a0; have y0 := Cy.x0; have b0 := Cy.a0; clear Cx Cy); go_simp; try (with_reducible rfl))
    try simp only [gZ]
    refine tk 5 (v := ?_) rfl hHeld ?_ ?_; rotate_left
    ·(intro w hSw; (obtain ⟨Cx, Cy⟩ := LDD.out w hSw; have x0 := Cx.x0; have a0 := Cx.a0; have y0 := Cy.x0; have b0 := Cy.a0; clear Cx Cy); go_simp; try (with_reducible rfl))
    try simp only [gZ]
    refine tk 7 (v := ?_) rfl hHeld ?_ ?_; rotate_left
    ·(intro w hSw; (obtain ⟨Cx, Cy⟩ := LDD.out w hSw; have x0 := Cx.x0; have a0 := Cx.a0; have y0 := Cy.x0; have b0 := Cy.a0; clear Cx Cy); go_simp; try (with_reducible rfl))
    try simp only [gZ]
    refine tk 8 (v := ?_) rfl hHeld ?_ ?_; rotate_left
    ·(intro w hSw; (obtain ⟨Cx, Cy⟩ := LDD.out w hSw; have x0 := Cx.x0; have a0 := Cx.a0; have y0 := Cy.x0; have b0 := Cy.a0; clear Cx Cy); go_simp; try (with_reducible rfl))
    try simp only [gZ]
    refine tk 9 (v := ?_) rfl hHeld ?_ ?_; rotate_left
    ·(intro w hSw; (obtain ⟨Cx, Cy⟩ := LDD.out w hSw; have x0 := Cx.x0; have a0 := Cx.a0; have y0 := Cy.x0; have b0 := Cy.a0; clear Cx Cy); go_simp; try (with_reducible rfl))
    try simp only [gZ]
    refine tk 10 (v := ?_) rfl hHeld ?_ ?_; rotate_left
    ·(intro w hSw; (obtain ⟨Cx, Cy⟩ := LDD.out w hSw; have x0 := Cx.x0; have a0 := Cx.a0; have y0 := Cy.x0; have b0 := Cy.a0; clear Cx Cy); go_simp; try (with_reducible rfl))
    try simp only [gZ]
    refine tk 11 (v := ?_) rfl hHeld ?_ ?_; rotate_left
    ·(intro w hSw; (obtain ⟨Cx, Cy⟩ := LDD.out w hSw; have x0 := Cx.x0; have a0 := Cx.a0; have y0 := Cy.x0; have b0 := Cy.a0; clear Cx Cy); go_simp; try (with_reducible rfl))
    try simp only [gZ]
    refine tk 12 (v := ?_) rfl hHeld ?_ ?_; rotate_left
    ·(intro w hSw; (obtain ⟨Cx, Cy⟩ := LDD.out w hSw; have x0 := Cx.x0; have a0 := Cx.a0; have y0 := Cy.x0; have b0 := Cy.a0; clear Cx Cy); go_simp; try (with_reducible rfl))
    try simp only [gZ]
    refine wpAnyH_one (i := 6) rfl (by kernel_rfl) (by rfl) ?_
    go_simp
    obtain ⟨Dx, hx⟩ := RD.out.x
    refine (hx.stateV ST.out).mono ?_
    rintro e V1 ⟨rfl, rfl⟩
    clear hx Dx
    refine ⟨hHeld, ?_⟩
    refine wpAnyH_one (i := 13) rfl (by kernel_rfl) (by rfl) ?_
    go_simp
    obtain ⟨Dx, hx⟩ := RD.out.y
    refine (hx.stateV ST.out).mono ?_
    rintro e V1 ⟨rfl, rfl⟩
    clear hx Dx
    refine ⟨hHeld, ?_⟩
    refine tk 14 (v := ?_) rfl hHeld ?_ ?_; rotate_left
    ·(intro w hSw; clear hSw; go_simp; try (with_reducible rfl))
    try simp only [gZ]
    refine tk 15 (v := ?_) rfl hHeld ?_ ?_; rotate_left
    ·(intro w hSw; clear hSw; go_simp; try (with_reducible rfl))
    try simp only [gZ]
    refine tk 16 (v := ?_) rfl hHeld ?_ ?_; rotate_left
    ·(intro w hSw; clear hSw; go_simp; try (with_reducible rfl))
    try simp only [gZ]
    refine tk 18 (v := ?_) rfl hHeld ?_ ?_; rotate_left
    ·(intro w hSw; clear hSw; go_simp; try (with_reducible rfl))
    try simp only [gZ]
    refine wpAnyH_one (i := 17) rfl (by kernel_rfl) (by rfl) ?_
    go_simp
    obtain ⟨Dx, hx⟩ := RD.out.x
    refine (hx.countV I0.out (fun s P hk hq => CQ.out s (hq.rep1 hk SI.out).2.2)).mono ?_
    rintro e V2 ⟨rfl, hb2⟩
    have RD2 := Lib.hid (RD.out.up hb2)
    clear hx Dx hb2
    refine ⟨UU.out _ _ _ _ _ RD2.out, ?_⟩
    have hHeld := UU.out _ _ _ _ _ RD2.out
    refine wpAnyH_one (i := 19) rfl (by kernel_rfl) (by rfl) ?_
    go_simp
    obtain ⟨Dx, hx⟩ := RD2.out.y
    refine (hx.countV I0.out (fun s P hk hq => CQ.out s (hq.rep1 hk SI.out).2.2)).mono ?_
    rintro e V3 ⟨rfl, hb3⟩
    have RD3 := Lib.hid (RD2.out.up hb3)
    clear hx Dx hb3
    refine ⟨UU.out _ _ _ _ _ RD3.out, ?_⟩
    have hHeld := UU.out _ _ _ _ _ RD3.out
    refine tk 20 (v := ?_) rfl hHeld ?_ ?_; rotate_left
    ·(intro w hSw; clear hSw; go_simp; rw [eq6_run]; exact rfl; try (with_reducible rfl))
    try simp only [gZ]
    refine tk 21 (v := ?_) rfl hHeld ?_ ?_; rotate_left
    ·(intro w hSw; clear hSw; go_simp; try (with_reducible rfl))
    try simp only [gZ]
    refine tk 22 (v := ?_) rfl hHeld ?_ ?_; rotate_left
    ·(intro w hSw; clear hSw; go_simp; try (with_reducible rfl))
    try simp only [gZ]
    refine tk 23 (v := ?_) rfl hHeld ?_ ?_; rotate_left
    ·(intro w hSw; (obtain ⟨Cx, Cy⟩ := LDD.out w hSw; have x0 := Cx.x0; have a0 := Cx.a0; have y0 := Cy.x0; have b0 := Cy.a0; clear Cx Cy); go_simp; try (with_reducible rfl))
    try simp only [gZ]
    refine tk 24 (v := ?_) rfl hHeld ?_ ?_; rotate_left
    ·(intro w hSw; (obtain ⟨Cx, Cy⟩ := LDD.out w hSw; have x0 := Cx.x0; have a0 := Cx.a0; have y0 := Cy.x0; have b0 := Cy.a0; clear Cx Cy); go_simp; try (with_reducible rfl))
    try simp only [gZ]
    refine tk 25 (v := ?_) rfl hHeld ?_ ?_; rotate_left
    ·(intro w hSw; (obtain ⟨Cx, Cy⟩ := LDD.out w hSw; have x0 := Cx.x0; have a0 := Cx.a0; have y0 := Cy.x0; have b0 := Cy.a0; clear Cx Cy); go_simp; try (with_reducible rfl))
    try simp only [gZ]
    refine tk 26 (v := ?_) rfl hHeld ?_ ?_; rotate_left
    ·(intro w hSw; (obtain ⟨Cx, Cy⟩ := LDD.out w hSw; have x0 := Cx.x0; have a0 := Cx.a0; have y0 := Cy.x0; have b0 := Cy.a0; clear Cx Cy); go_simp; try (with_reducible rfl))
    try simp only [gZ]
    refine tk 27 (v := ?_) rfl hHeld ?_ ?_; rotate_left
    ·(intro w hSw; (obtain ⟨Cx, Cy⟩ := LDD.out w hSw; have x0 := Cx.x0; have a0 := Cx.a0; have y0 := Cy.x0; have b0 := Cy.a0; clear Cx Cy); go_simp; try (with_reducible rfl))
    try simp only [gZ]
    refine tk 28 (v := ?_) rfl hHeld ?_ ?_; rotate_left
    ·(intro w hSw; (obtain ⟨Cx, Cy⟩ := LDD.out w hSw; have x0 := Cx.x0; have a0 := Cx.a0; have y0 := Cy.x0; have b0 := Cy.a0; clear Cx Cy); go_simp; try (with_reducible rfl))
    try simp only [gZ]
    refine tk 30 (v := ?_) rfl hHeld ?_ ?_; rotate_left
    ·(intro w hSw; (obtain ⟨Cx, Cy⟩ := LDD.out w hSw; have x0 := Cx.x0; have a0 := Cx.a0; have y0 := Cy.x0; have b0 := Cy.a0; clear Cx Cy); go_simp; try (with_reducible rfl))
    try simp only [gZ]
    refine tk 31 (v := ?_) rfl hHeld ?_ ?_; rotate_left
    ·(intro w hSw; (obtain ⟨Cx, Cy⟩ := LDD.out w hSw; have x0 := Cx.x0; have a0 := Cx.a0; have y0 := Cy.x0; have b0 := Cy.a0; clear Cx Cy); go_simp; try (with_reducible rfl))
    try simp only [gZ]
    refine tk 32 (v := ?_) rfl hHeld ?_ ?_; rotate_left
    ·(intro w hSw; (obtain ⟨Cx, Cy⟩ := LDD.out w hSw; have x0 := Cx.x0; have a0 := Cx.a0; have y0 := Cy.x0; have b0 := Cy.a0; clear Cx Cy); go_simp; try (with_reducible rfl))
    try simp only [gZ]
    refine tk 33 (v := ?_) rfl hHeld ?_ ?_; rotate_left
    ·(intro w hSw; (obtain ⟨Cx, Cy⟩ := LDD.out w hSw; have x0 := Cx.x0; have a0 := Cx.a0; have y0 := Cy.x0; have b0 := Cy.a0; clear Cx Cy); go_simp; try (with_reducible rfl))
    try simp only [gZ]
    refine tk 34 (v := ?_) rfl hHeld ?_ ?_; rotate_left
    ·(intro w hSw; (obtain ⟨Cx, Cy⟩ := LDD.out w hSw; have x0 := Cx.x0; have a0 := Cx.a0; have y0 := Cy.x0; have b0 := Cy.a0; clear Cx Cy); go_simp; try (with_reducible rfl))
    try simp only [gZ]
    refine tk 35 (v := ?_) rfl hHeld ?_ ?_; rotate_left
    ·(intro w hSw; (obtain ⟨Cx, Cy⟩ := LDD.out w hSw; have x0 := Cx.x0; have a0 := Cx.a0; have y0 := Cy.x0; have b0 := Cy.a0; clear Cx Cy); go_simp; try (with_reducible rfl))
    try simp only [gZ]
    refine wpAnyH_one (i := 29) rfl (by kernel_rfl) (by rfl) ?_
    go_simp
    obtain ⟨Dx, hx⟩ := RD3.out.x
    refine (hx.hereV HE.out).mono ?_
    rintro e V4 ⟨u4, rfl, hrow4, hb4⟩
    obtain ⟨a4, c4, rfl, -⟩ := row_cellz hrow4
    have RD4 := Lib.hid (RD3.out.up hb4)
    have RW4 := Lib.hid hrow4
    clear hx Dx hb4 hrow4
    refine ⟨UU.out _ _ _ _ _ RD4.out, ?_⟩
    have hHeld := UU.out _ _ _ _ _ RD4.out
    refine wpAnyH_one (i := 36) rfl (by kernel_rfl) (by rfl) ?_
    go_simp
    obtain ⟨Dx, hx⟩ := RD4.out.y
    refine (hx.hereV HE.out).mono ?_
    rintro e V5 ⟨u5, rfl, hrow5, hb5⟩
    obtain ⟨a5, c5, rfl, -⟩ := row_cellz hrow5
    have RD5 := Lib.hid (RD4.out.up hb5)
    have RW5 := Lib.hid hrow5
    have RV5 := Lib.hid ((Tn.of_below (F := fun _ => False) hb5).row RW4.out (fun _ _ h => h))
    clear hx Dx hb5 hrow5
    refine ⟨UU.out _ _ _ _ _ RD5.out, ?_⟩
    have hHeld := UU.out _ _ _ _ _ RD5.out
    refine wpAnyH_one (i := 37) rfl (by kernel_rfl) (by rfl) ?_
    go_simp
    refine (isame_any _ _ l0 V5 RV5.out RW5.out (by have := HL1.out; omega)).mono ?_
    rintro e V6 ⟨rfl, hb6⟩
    have RD6 := Lib.hid (RD5.out.up hb6)
    clear hb6
    refine ⟨UU.out _ _ _ _ _ RD6.out, ?_⟩
    have hHeld := UU.out _ _ _ _ _ RD6.out
    refine tk 38 (v := ?_) rfl hHeld ?_ ?_; rotate_left
    ·(intro w hSw; clear hSw; go_simp; try (with_reducible rfl))
    try simp only [gZ]
    refine tk 39 (v := ?_) rfl hHeld ?_ ?_; rotate_left
    ·(intro w hSw; clear hSw; go_simp; try (with_reducible rfl))
    try simp only [gZ]
    exact wpAnyH_done (by kernel_rfl) ⟨rfl, hR a4 c4 a5 c5 V6 RD6.out⟩ _
   case rest =>
    rintro a4 c4 a5 c5 V6 hV
    have RF := Lib.hid hV
    clear hV hHeld RD ST HE HL1
    go_wp2_with fail
    refine (RF.out.stepX (Φ := fun e => e = .returned (.tuple #[])) (bx' := 9920) (Qx' := QG init 1 1 1 (R2 r0 o)) fun Dx hr => (hr.finish (by omega) (Q' := QG init 1 1 1 (R2 r0 o)) (fun s P P' ms n hk hq hW hl hs => QG.fin hk Cl.one (.inl rfl) hq hW hl hs)).mono fun e w' h => ⟨h.1, h.2.weak (by omega) fun _ _ _ h => h⟩).mono ?_
    rintro e W9 ⟨rfl, t9⟩
    have T9 := Lib.hid t9
    clear t9
    go_wp2_with fail
    refine (T9.out.stepY (Φ := fun e => e = .returned (.tuple #[])) (b2' := 9920) (Qy' := QG init 1 1 2 (R2 r0 o)) fun Dx hr => (hr.finish (by omega) (Q' := QG init 1 1 2 (R2 r0 o)) (fun s P P' ms n hk hq hW hl hs => QG.fin hk (Cl.two 0) (.inr rfl) hq hW hl hs)).mono fun e w' h => ⟨h.1, h.2.weak (by omega) fun _ _ _ h => h⟩).mono ?_
    rintro e W10 ⟨rfl, t10⟩
    have T10 := Lib.hid t10
    clear t10
    go_wp2_with fail
    go_loopw [9] (fun i wr => ∃ (k : Nat), k ≤ 6 ∧ i = .int .i64 k ∧ Two w2 gx gy [] [(false, 2, 0)] init (9920 + 824 * k) (9920 + 824 * k) (QG init 1 1 1 (R2 r0 o)) (QG init 1 1 2 (R2 r0 o)) wr ∧ (1 ≤ k → Two w2 gx gy [] [(false, 2, 0)] init (9920 + 824 * k) (9920 + 824 * k) (RG init 1 1 (R2 r0 o)) (RG init 1 1 (R2 r0 o)) wr)) (fun i _ => 6 - (intOf i).toNat)
    case atStart => exact ⟨0, by omega, rfl, T10.out, fun e => by omega⟩
    case round =>
     obtain ⟨k, hk, rfl, hr, hr'⟩ := hrel
     by_cases hgo : k < 6
     ·have hdk : decide ((k : Int) < 6) = true := by simp; omega
      have RK := Lib.hid hr
      clear hr hr'
      have cc := RK.out.cx
      have x0 := cc.x0
      clear cc
      go_wp2_with fail
      refine (RK.out.stepX (Φ := fun e => e = .returned (.tuple #[])) (Qx' := RG init 1 1 (R2 r0 o)) fun Dx hr => (round_any (by omega) I0.out (JG init 1 1 1 (R2 r0 o)) (fun s P P' n hk _ hq hs => JG.tick hk Cl.one (.inl rfl) (R2.kp _ _ _) hq hs) (fun i s P r p n P' _ hk hm hq _ hp hs => JG.del hk Cl.one (.inl rfl) (R2.kp _ _ _) hm hq hp hs) hr).mono fun e w' h => ⟨h.1, h.2.weak (Nat.le_refl _) fun s' P' _ hq => by obtain ⟨i, -, h1, h2⟩ := hq; exact RG.of h1 h2⟩).mono ?_
      rintro e W11 ⟨rfl, t11⟩
      have T11 := Lib.hid t11
      clear t11 x0
      go_wp2_with fail
      refine (T11.out.stepY (Φ := fun e => e = .returned (.tuple #[])) (Qy' := RG init 1 1 (R2 r0 o)) fun Dx hr => (round_any (by omega) I0.out (JG init 1 1 2 (R2 r0 o)) (fun s P P' n hk _ hq hs => JG.tick hk (Cl.two 0) (.inr rfl) (R2.kp _ _ _) hq hs) (fun i s P r p n P' _ hk hm hq _ hp hs => JG.del hk (Cl.two 0) (.inr rfl) (R2.kp _ _ _) hm hq hp hs) hr).mono fun e w' h => ⟨h.1, h.2.weak (Nat.le_refl _) fun s' P' _ hq => by obtain ⟨i, -, h1, h2⟩ := hq; exact RG.of h1 h2⟩).mono ?_
      rintro e W12 ⟨rfl, t12⟩
      have T12 := Lib.hid t12
      clear t12
      go_wp2_with fail
      go_roundw
      case rel => exact ⟨k + 1, by omega, by go_num, T12.out.weak (by omega) (by omega) (fun _ _ _ h => QG.of h) (fun _ _ _ h => QG.of h), fun _ => T12.out.weak (by omega) (by omega) (fun _ _ _ h => h) (fun _ _ _ h => h)⟩
      case measure => simp [intOf]; omega
     ·obtain rfl : k = 6 := by omega
      rw [show ((6 : Nat) : Int) = 6 from rfl]
      have RE := Lib.hid (hr' (by omega))
      clear hr hr'
      obtain ⟨v1, hv1⟩ : ∃ v1, v1 = st2 init r0 o := ⟨_, rfl⟩
      have ST : Hid (∀ s P, KS init s → RG init 1 1 (R2 r0 o) s P → (s.as 1).state 1 = v1) := Lib.hid fun s P hk hq => by rw [hv1]; exact (hq.rep2 hk SI.out).1
      have RD := Lib.hid (RE.out.up (bdrewN (Below.refl wr.heap.size wr) 1))
      have hHeld := UU.out _ _ _ _ _ RD.out
      clear hv1
      go_wp2_with fail
      refine wp_region_held_drew (S := S') (by kernel_rfl) hHeld (fun _ => ?_)
      apply wpAnyH_apart (fun W => Two w2 gx gy [] [(false, 2, 0)] init (9920 + 824 * 6) (9920 + 824 * 6) (RG init 1 1 (R2 r0 o)) (RG init 1 1 (R2 r0 o)) W)
      case take =>
       intro R hR
       refine tk 0 (v := ?_) rfl hHeld ?_ ?_; rotate_left
       ·(intro w hSw; clear hSw; go_simp; try (with_reducible rfl))
       try simp only [gZ]
       refine tk 1 (v := ?_) rfl hHeld ?_ ?_; rotate_left
       ·(intro w hSw; clear hSw; go_simp; try (with_reducible rfl))
       try simp only [gZ]
       refine tk 2 (v := ?_) rfl hHeld ?_ ?_; rotate_left
       ·(intro w hSw; clear hSw; go_simp; try (with_reducible rfl))
       try simp only [gZ]
       refine tk 3 (v := ?_) rfl hHeld ?_ ?_; rotate_left
       ·(intro w hSw; clear hSw; go_simp; try (with_reducible rfl))
       try simp only [gZ]
       refine tk 4 (v := ?_) rfl hHeld ?_ ?_; rotate_left
       ·(intro w hSw; clear hSw; go_simp; try (with_reducible rfl))
       try simp only [gZ]
       refine tk 5 (v := ?_) rfl hHeld ?_ ?_; rotate_left
       ·(intro w hSw; (obtain ⟨Cx, Cy⟩ := LDD.out w hSw; have x0 := Cx.x0; have a0 := Cx.a0; have y0 := Cy.x0; have b0 := Cy.a0; clear Cx Cy); go_simp; try (with_reducible rfl))
       try simp only [gZ]
       refine tk 6 (v := ?_) rfl hHeld ?_ ?_; rotate_left
       ·(intro w hSw; (obtain ⟨Cx, Cy⟩ := LDD.out w hSw; have x0 := Cx.x0; have a0 := Cx.a0; have y0 := Cy.x0; have b0 := Cy.a0; clear Cx Cy); go_simp; try (with_reducible rfl))
       try simp only [gZ]
       refine tk 7 (v := ?_) rfl hHeld ?_ ?_; rotate_left
       ·(intro w hSw; (obtain ⟨Cx, Cy⟩ := LDD.out w hSw; have x0 := Cx.x0; have a0 := Cx.a0; have y0 := Cy.x0; have b0 := Cy.a0; clear Cx Cy); go_simp; try (with_reducible rfl))
       try simp only [gZ]
       refine tk 8 (v := ?_) rfl hHeld ?_ ?_; rotate_left
       ·(intro w hSw; (obtain ⟨Cx, Cy⟩ := LDD.out w hSw; have x0 := Cx.x0; have a0 := Cx.a0; have y0 := Cy.x0; have b0 := Cy.a0; clear Cx Cy); go_simp; try (with_reducible rfl))
       try simp only [gZ]
       refine tk 9 (v := ?_) rfl hHeld ?_ ?_; rotate_left
       ·(intro w hSw; (obtain ⟨Cx, Cy⟩ := LDD.out w hSw; have x0 := Cx.x0; have a0 := Cx.a0; have y0 := Cy.x0; have b0 := Cy.a0; clear Cx Cy); go_simp; try (with_reducible rfl))
       try simp only [gZ]
       refine tk 10 (v := ?_) rfl hHeld ?_ ?_; rotate_left
       ·(intro w hSw; (obtain ⟨Cx, Cy⟩ := LDD.out w hSw; have x0 := Cx.x0; have a0 := Cx.a0; have y0 := Cy.x0; have b0 := Cy.a0; clear Cx Cy); go_simp; try (with_reducible rfl))
       try simp only [gZ]
       refine tk 12 (v := ?_) rfl hHeld ?_ ?_; rotate_left
       ·(intro w hSw; (obtain ⟨Cx, Cy⟩ := LDD.out w hSw; have x0 := Cx.x0; have a0 := Cx.a0; have y0 := Cy.x0; have b0 := Cy.a0; clear Cx Cy); go_simp; try (with_reducible rfl))
       try simp only [gZ]
       refine tk 13 (v := ?_) rfl hHeld ?_ ?_; rotate_left
       ·(intro w hSw; (obtain ⟨Cx, Cy⟩ := LDD.out w hSw; have x0 := Cx.x0; have a0 := Cx.a0; have y0 := Cy.x0; have b0 := Cy.a0; clear Cx Cy); go_simp; try (with_reducible rfl))
       try simp only [gZ]
       refine tk 14 (v := ?_) rfl hHeld ?_ ?_; rotate_left
       ·(intro w hSw; (obtain ⟨Cx, Cy⟩ := LDD.out w hSw; have x0 := Cx.x0; have a0 := Cx.a0; have y0 := Cy.x0; have b0 := Cy.a0; clear Cx Cy); go_simp; try (with_reducible rfl))
       try simp only [gZ]
       refine tk 15 (v := ?_) rfl hHeld ?_ ?_; rotate_left
       ·(intro w hSw; (obtain ⟨Cx, Cy⟩ := LDD.out w hSw; have x0 := Cx.x0; have a0 := Cx.a0; have y0 := Cy.x0; have b0 := Cy.a0; clear Cx Cy); go_simp; try (with_reducible rfl))
       try simp only [gZ]
       refine tk 16 (v := ?_) rfl hHeld ?_ ?_; rotate_left
       ·(intro w hSw; (obtain ⟨Cx, Cy⟩ := LDD.out w hSw; have x0 := Cx.x0; have a0 := Cx.a0; have y0 := Cy.x0; have b0 := Cy.a0; clear Cx Cy); go_simp; try (with_reducible rfl))
       try simp only [gZ]
       refine tk 17 (v := ?_) rfl hHeld ?_ ?_; rotate_left
       ·(intro w hSw; (obtain ⟨Cx, Cy⟩ := LDD.out w hSw; have x0 := Cx.x0; have a0 := Cx.a0; have y0 := Cy.x0; have b0 := Cy.a0; clear Cx Cy); go_simp; try (with_reducible rfl))
       try simp only [gZ]
       refine wpAnyH_one (i := 11) rfl (by kernel_rfl) (by rfl) ?_
       go_simp
       obtain ⟨Dx, hx⟩ := RD.out.x
       refine (hx.stateV ST.out).mono ?_
       rintro e V1 ⟨rfl, rfl⟩
       clear hx Dx
       refine ⟨hHeld, ?_⟩
       refine wpAnyH_one (i := 18) rfl (by kernel_rfl) (by rfl) ?_
       go_simp
       obtain ⟨Dx, hx⟩ := RD.out.y
       refine (hx.stateV ST.out).mono ?_
       rintro e V1 ⟨rfl, rfl⟩
       clear hx Dx
       refine ⟨hHeld, ?_⟩
       refine tk 19 (v := ?_) rfl hHeld ?_ ?_; rotate_left
       ·(intro w hSw; clear hSw; go_simp; try (with_reducible rfl))
       try simp only [gZ]
       refine tk 20 (v := ?_) rfl hHeld ?_ ?_; rotate_left
       ·(intro w hSw; clear hSw; go_simp; try (with_reducible rfl))
       try simp only [gZ]
       refine tk 21 (v := ?_) rfl hHeld ?_ ?_; rotate_left
       ·(intro w hSw; clear hSw; go_simp; try (with_reducible rfl))
       try simp only [gZ]
       refine tk 22 (v := ?_) rfl hHeld ?_ ?_; rotate_left
       ·(intro w hSw; clear hSw; go_simp; try (with_reducible rfl))
       try simp only [gZ]
       refine tk 24 (v := ?_) rfl hHeld ?_ ?_; rotate_left
       ·(intro w hSw; clear hSw; go_simp; try (with_reducible rfl))
       try simp only [gZ]
       refine wpAnyH_one (i := 23) rfl (by kernel_rfl) (by rfl) ?_
       go_simp
       obtain ⟨Dx, hx⟩ := RD.out.x
       refine (hx.countV I0.out (fun s P hk hq => CQ.out s (hq.rep2 hk SI.out).2)).mono ?_
       rintro e V2 ⟨rfl, hb2⟩
       have RD2 := Lib.hid (RD.out.up hb2)
       clear hx Dx hb2
       refine ⟨UU.out _ _ _ _ _ RD2.out, ?_⟩
       have hHeld := UU.out _ _ _ _ _ RD2.out
       refine wpAnyH_one (i := 25) rfl (by kernel_rfl) (by rfl) ?_
       go_simp
       obtain ⟨Dx, hx⟩ := RD2.out.y
       refine (hx.countV I0.out (fun s P hk hq => CQ.out s (hq.rep2 hk SI.out).2)).mono ?_
       rintro e V3 ⟨rfl, hb3⟩
       have RD3 := Lib.hid (RD2.out.up hb3)
       clear hx Dx hb3
       refine ⟨UU.out _ _ _ _ _ RD3.out, ?_⟩
       have hHeld := UU.out _ _ _ _ _ RD3.out
       refine tk 26 (v := ?_) rfl hHeld ?_ ?_; rotate_left
       ·(intro w hSw; clear hSw; go_simp; rw [eq6_run]; exact rfl; try (with_reducible rfl))
       try simp only [gZ]
       refine tk 27 (v := ?_) rfl hHeld ?_ ?_; rotate_left
       ·(intro w hSw; clear hSw; go_simp; try (with_reducible rfl))
       try simp only [gZ]
       refine tk 28 (v := ?_) rfl hHeld ?_ ?_; rotate_left
       ·(intro w hSw; clear hSw; go_simp; try (with_reducible rfl))
       try simp only [gZ]
       exact wpAnyH_done (by kernel_rfl) ⟨rfl, hR V3 RD3.out⟩ _
      case rest =>
       rintro V3 hV
       have BF : Hid (Below w.heap.size w V3) := Lib.hid (B2.out.trans (hV.below.mono B2.out.size))
       clear hV
       go_wp2_with fail
       go_ret
       exact ⟨rfl, BF.out⟩
end Go.Proofs.YtdojgbpaheadnaaGreat
