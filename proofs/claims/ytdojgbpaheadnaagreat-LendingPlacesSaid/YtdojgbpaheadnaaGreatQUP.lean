/- The walk of LendingPlaces. -/
import Derived.Test.YtdojgbpaheadnaaGreatQUM
import Derived.Test.YtdojgbpaheadnaaGreatQUL
set_option linter.unusedVariables false
set_option linter.unusedSimpArgs false

namespace Go.Proofs.YtdojgbpaheadnaaGreat
open Go.RowKit Go.Shelf Go.Maps Go.ChangeMaps
attribute [local go_sem] over_cell over_frozen

set_option maxRecDepth 100000 in
set_option maxHeartbeats 16000000 in
theorem placesLaw {w : World} {S : List Tr} (T : Nat → List Int) (ia : Nat → Option Addr) (ic : Nat → Nat) (hT : ∀ j, j < 3 → U8 w (ia j) (T j) (ic j) ∧ (T j).length ≤ ic j ∧ ic j ≤ 9223372036854775807)
    (D : List Int) (ra : Option Addr) (rc : Nat) (hR : U8 w ra D rc) (hrc : D.length ≤ rc ∧ rc ≤ 9223372036854775807)
    (A : List Int) (aa : Option Addr) (ac : Nat) (hA : U8 w aa A ac) (hac : A.length ≤ ac ∧ ac ≤ 9223372036854775807)
    (sa : Option Addr) (sc : Nat) (hs : TrIn w sa S) (hI : ∀ t ∈ S, I64 t.2.2) (hl : S.length ≤ 9223372036854775807) (rr : Int) :
    Calls Tryz.prog 6 #[.agg #[.slice (ia 0) (T 0).length (ic 0), .slice (ia 1) (T 1).length (ic 1), .slice (ia 2) (T 2).length (ic 2), .slice ra D.length rc, .slice aa A.length ac, .slice sa S.length sc, .int .u8 rr]] w fun e w' => e = .returned (.bool true) ∧ Below w.heap.size w w' := by
  have HT := Lib.hid hT
  have HR := Lib.hid hR
  have HA := Lib.hid hA
  have HS := Lib.hid hs
  have HI := Lib.hid hI
  obtain ⟨w1, hw1⟩ : ∃ w1, w1 = w.alloc (.cells #[.slice (ia 0) (T 0).length (ic 0), .slice (ia 1) (T 1).length (ic 1), .slice (ia 2) (T 2).length (ic 2), .slice ra D.length rc, .slice aa A.length ac, .slice sa S.length sc, .int .u8 rr] 70) := ⟨_, rfl⟩
  have B1 : RowKit.Hid (Below w.heap.size w w1) := Lib.hid (by rw [hw1]; exact (Below.refl _ _).alloc (Nat.le_refl _) _)
  have S1 : RowKit.Hid (Blk w1 w.heap.size #[.slice (ia 0) (T 0).length (ic 0), .slice (ia 1) (T 1).length (ic 1), .slice (ia 2) (T 2).length (ic 2), .slice ra D.length rc, .slice aa A.length ac, .slice sa S.length sc, .int .u8 rr] 70) := Lib.hid (by rw [hw1]; exact Blk.new _ _ _)
  have HW1 := Lib.hid hw1
  clear hT hR hA hs hI hw1
  go_enter Tryz.func6, Tryz.ntmps6
  go_wp2_with fail
  rw [← HW1.out]
  refine (sanity_any w1).mono ?_
  rintro e w2 ⟨rfl, hb2⟩
  have B2 : RowKit.Hid (Below w.heap.size w w2) := Lib.hid (B1.out.trans (hb2.mono B1.out.size))
  have S2 := Lib.hid (S1.out.below hb2 S1.out.lt)
  clear hb2
  obtain ⟨S', hS'⟩ : ∃ S' : World → Prop, S' = fun W => Blk W w.heap.size #[.slice (ia 0) (T 0).length (ic 0), .slice (ia 1) (T 1).length (ic 1), .slice (ia 2) (T 2).length (ic 2), .slice ra D.length rc, .slice aa A.length ac, .slice sa S.length sc, .int .u8 rr] 70 := ⟨_, rfl⟩
  have LDD : RowKit.Hid (∀ W, S' W → Blk W w.heap.size #[.slice (ia 0) (T 0).length (ic 0), .slice (ia 1) (T 1).length (ic 1), .slice (ia 2) (T 2).length (ic 2), .slice ra D.length rc, .slice aa A.length ac, .slice sa S.length sc, .int .u8 rr] 70) := Lib.hid (by rw [hS']; exact fun W h => h)
  have UU : RowKit.Hid (∀ W, Below w2.heap.size w2 W → S' W) := Lib.hid (by rw [hS']; exact fun W h => S2.out.below h S2.out.lt)
  have hHeld := UU.out w2.drew (bdrewN (Below.refl _ _) 1)
  clear hS'
  go_wp2_with fail
  have SD : RowKit.Hid (TrIn w2.drew sa S) := Lib.hid ((HS.out.below B2.out).below (bdrewN (Below.refl _ _) 1))
  refine wp_region_held_drew (S := S') (by kernel_rfl) hHeld (fun _ => ?_)
  apply wpAnyH_apartVN (fun v n W => Below w2.heap.size w2 W ∧ ∃ g : Lg, n = g.xb ∧ w.heap.size ≤ g.B0 ∧ LibM g (fun _ _ => False) W 0 (trs S) [] 0 (Lb.start (rotL D) (srt (ttl (T 0))) (srt (ttl (T 1))) (srt (ttl (T 2)))) ∧ w2.heap.size ≤ g.B0)
  case take =>
    intro R hR
    refine tk 0 (v := ?_) rfl hHeld ?_ ?_; rotate_left
    · (intro w hSw; (have bk := LDD.out w hSw; have c0 := bk.cell 0; have c1 := bk.cell 1; have c2 := bk.cell 2; have c3 := bk.cell 3; have c5 := bk.cell 5; clear bk); go_simp; try (with_reducible rfl))
    try simp only [gA, gB, gC, Act.put, gD, gE, gF]
    refine tk 1 (v := ?_) rfl hHeld ?_ ?_; rotate_left
    · (intro w hSw; (have bk := LDD.out w hSw; have c0 := bk.cell 0; have c1 := bk.cell 1; have c2 := bk.cell 2; have c3 := bk.cell 3; have c5 := bk.cell 5; clear bk); go_simp; try (with_reducible rfl))
    try simp only [gA, gB, gC, Act.put, gD, gE, gF]
    refine tk 2 (v := ?_) rfl hHeld ?_ ?_; rotate_left
    · (intro w hSw; (have bk := LDD.out w hSw; have c0 := bk.cell 0; have c1 := bk.cell 1; have c2 := bk.cell 2; have c3 := bk.cell 3; have c5 := bk.cell 5; clear bk); go_simp; try (with_reducible rfl))
    try simp only [gA, gB, gC, Act.put, gD, gE, gF]
    refine tk 3 (v := ?_) rfl hHeld ?_ ?_; rotate_left
    · (intro w hSw; (have bk := LDD.out w hSw; have c0 := bk.cell 0; have c1 := bk.cell 1; have c2 := bk.cell 2; have c3 := bk.cell 3; have c5 := bk.cell 5; clear bk); go_simp; try (with_reducible rfl))
    try simp only [gA, gB, gC, Act.put, gD, gE, gF]
    refine tk 4 (v := ?_) rfl hHeld ?_ ?_; rotate_left
    · (intro w hSw; (have bk := LDD.out w hSw; have c0 := bk.cell 0; have c1 := bk.cell 1; have c2 := bk.cell 2; have c3 := bk.cell 3; have c5 := bk.cell 5; clear bk); go_simp; try (with_reducible rfl))
    try simp only [gA, gB, gC, Act.put, gD, gE, gF]
    refine tk 5 (v := ?_) rfl hHeld ?_ ?_; rotate_left
    · (intro w hSw; (have bk := LDD.out w hSw; have c0 := bk.cell 0; have c1 := bk.cell 1; have c2 := bk.cell 2; have c3 := bk.cell 3; have c5 := bk.cell 5; clear bk); go_simp; try (with_reducible rfl))
    try simp only [gA, gB, gC, Act.put, gD, gE, gF]
    refine wpAnyH_one (i := 6) rfl (by kernel_rfl) (by rfl) ?_
    go_simp
    refine (troubles_any SD.out HI.out hl).mono ?_
    rintro e W3 ⟨v3, rfl, hv3, hb3⟩
    have V3 := Lib.hid hv3
    have Q3 : RowKit.Hid (Below w2.heap.size w2 W3) := Lib.hid ((bdrewN (Below.refl _ _) 1).trans hb3)
    clear hv3 hb3
    have hHeld := UU.out W3 Q3.out
    refine ⟨hHeld, ?_⟩
    refine wpAnyH_one (i := 7) rfl (by kernel_rfl) (by rfl) ?_
    go_simp
    have C3 : RowKit.Hid (Below w.heap.size w W3) := Lib.hid (B2.out.trans (Q3.out.mono B2.out.size))
    refine (begin_any T ia ic (fun j hj => ⟨(HT.out j hj).1.below C3.out (Nat.le_refl _), (HT.out j hj).2⟩) D ra rc (HR.out.below C3.out (Nat.le_refl _)) hrc V3.out.sl (by unfold trs; simp; omega)).mono ?_
    rintro e W4 ⟨g, rfl, hg, hL, hb4⟩
    have Q4 : RowKit.Hid (Below w2.heap.size w2 W4) := Lib.hid (Q3.out.trans (hb4.mono Q3.out.size))
    have L4 := Lib.hid hL
    have G4 := Lib.hid hg
    clear hb4 hL hg
    have hHeld := UU.out W4 Q4.out
    refine ⟨hHeld, ?_⟩
    obtain ⟨n4, hn4⟩ : ∃ n4, n4 = g.xb := ⟨_, rfl⟩
    rw [← hn4]
    have N4 := Lib.hid hn4
    clear hn4
    refine tk 8 (v := ?_) rfl hHeld ?_ ?_; rotate_left
    · (intro w hSw; clear hSw; go_simp; try (with_reducible rfl))
    try simp only [gA, gB, gC, Act.put, gD, gE, gF]
    exact wpAnyH_done (by kernel_rfl) ⟨rfl, hR v3 n4 W4 ⟨Q4.out, g, N4.out, by rw [G4.out]; exact C3.out.size, L4.out, by rw [G4.out]; exact Q3.out.size⟩⟩ _
  case rest =>
    rintro v n W ⟨hb, g, rfl, hg, hL, hg2⟩
    have Q4 := Lib.hid hb
    have L4 := Lib.hid hL
    have C4 : RowKit.Hid (Below w.heap.size w W) := Lib.hid (B2.out.trans (hb.mono B2.out.size))
    have A4 := Lib.hid (HA.out.below C4.out (Nat.le_refl _))
    have S4 := Lib.hid (S2.out.below hb S2.out.lt)
    clear hb hL
    go_wp2_with fail
    refine (right_any L4.out).mono ?_
    rintro e W5 ⟨rfl, rfl⟩
    go_wp2_with fail
    have hr6 : (rotL D).length ≤ 6 := by unfold rotL; simp; omega
    have hrI := rotL_is D
    have hk0 : KS (Lb.start (rotL D) (srt (ttl (T 0))) (srt (ttl (T 1))) (srt (ttl (T 2)))).init (Lb.start (rotL D) (srt (ttl (T 0))) (srt (ttl (T 1))) (srt (ttl (T 2)))) := KS.start hrI hr6 (sortedI_merge _) (sortedI_merge _) (sortedI_merge _)
    have hi0 : ∀ L, ((Lb.start (rotL D) (srt (ttl (T 0))) (srt (ttl (T 1))) (srt (ttl (T 2)))).init L).length ≤ 20000 := fun L => by
      have h5 : ∀ j, (srt (ttl (T j))).length ≤ 20000 := fun j => by unfold srt; rw [List.length_mergeSort]; unfold ttl; simp; omega
      unfold Lb.init Lb.start
      dsimp only
      split
      · exact h5 0
      · split
        · exact h5 1
        · exact h5 2
    obtain ⟨r0, er0⟩ : ∃ r0, r0 = rotL D := ⟨_, rfl⟩
    obtain ⟨h3, eh3⟩ : ∃ h3, h3 = srt (ttl (T 0)) := ⟨_, rfl⟩
    obtain ⟨h4, eh4⟩ : ∃ h4, h4 = srt (ttl (T 1)) := ⟨_, rfl⟩
    obtain ⟨h1, eh1⟩ : ∃ h1, h1 = srt (ttl (T 2)) := ⟨_, rfl⟩
    rw [← er0, ← eh3, ← eh4, ← eh1] at L4 hk0 hi0
    have K0 := Lib.hid hk0
    have I0 := Lib.hid hi0
    clear er0 eh3 eh4 eh1 hk0 hi0 hr6 hrI
    refine (count_any L4.out (fun L hL => K0.out.hereL I0.out hL) (fun a ha => by rw [start_here]; exact Nat.zero_le _)).mono ?_
    rintro e W6 ⟨rfl, hb6⟩
    obtain ⟨C, hC⟩ : ∃ C, C = cntC (Lb.start r0 h3 h4 h1).heres.flatten := ⟨_, rfl⟩
    rw [← hC]
    have CI : RowKit.Hid ((Tryz.prog.info? 84).map (·.size) = some C.size) := Lib.hid (by rw [hC]; kernel_rfl)
    have CS : RowKit.Hid ((6 : Nat) = C.size) := Lib.hid (by rw [hC]; rfl)
    have CO : RowKit.Hid (C.all (·.oneCell') = true) := Lib.hid (by rw [hC]; unfold cntC; simp [Value.oneCell'])
    have HC := Lib.hid hC
    obtain ⟨W7, hW7⟩ : ∃ W7, W7 = (W6.alloc (.cells #[i64 0, i64 0, i64 0, i64 0, i64 0, i64 0] 84)).setRow W6.heap.size C := ⟨_, rfl⟩
    have b67 : Below W6.heap.size W6 W7 := by rw [hW7]; exact belowS ((Below.refl _ _).alloc (Nat.le_refl _) _) (Nat.le_refl _)
    have M7 : Blk W7 W6.heap.size C 84 := by rw [hW7]; exact setRow_heap _ _ _ _ _ _ (Blk.new _ _ _)
    have b57 : Below W5.heap.size W5 W7 := hb6.trans (b67.mono hb6.size)
    have RI : RowKit.Hid (RunI w g (trs S) (Lb.start r0 h3 h4 h1) W6.heap.size C 84 0 (fun _ => True) W7) := Lib.hid ⟨_, 0, 0, [], _, L4.out.up b57, K0.out, (fun p hp => by cases hp), Nat.le_refl _, Nat.le_refl _, Nat.le_refl _, fun i => .inr ⟨hb6.size, M7.lt⟩, M7, C4.out.trans (b57.mono C4.out.size), trivial⟩
    have c4 := (S4.out.below b57 S4.out.lt).cell 4
    have A7 := Lib.hid (A4.out.below b57 (Nat.le_refl _))
    have HW7 := Lib.hid hW7
    clear hb6 hC hW7 b67 M7 b57
    go_wp2_with (first
      | rw [← HW7.out]
      | refine wpList_store_row rfl 84 (.tmp 5) (.tmp 26) rfl W6.heap.size C rfl rfl 84 _ (Blk.new _ _ _) CI.out CS.out CO.out ?_)
    refine (RI.out.asks hg (by omega) A aa ac A7.out hac (fun hne b o e => ?_)).mono ?_
    · have := HA.out.at_.resolve_left hne
      obtain ⟨b', o', e', hlt, -⟩ := this
      rw [e] at e'
      injection e' with e'
      injection e' with e1 _
      omega
    rintro e W8 ⟨rfl, hr8⟩
    have R8 := Lib.hid hr8
    clear hr8
    go_wp2_with fail
    have NX : RowKit.Hid (∀ W Q b, RunI w g (trs S) (Lb.start r0 h3 h4 h1) W6.heap.size C 84 b Q W → ∃ x0 now, W.cell? ⟨g.xb, 0, none⟩ = some x0 ∧ W.cell? ⟨g.xb, 4, none⟩ = some (i64 now) ∧ W.frozen? ⟨g.xb, 4, none⟩ = false ∧ W.cell? ⟨g.xb, 3, none⟩ = some (.pointer (some ⟨g.nb, 0, none⟩))) := Lib.hid (fun W Q b h => by
      have c := h.cells
      obtain ⟨now, hn⟩ := c.x4
      exact ⟨_, now, c.x0, hn, c.f4, c.x3⟩)
    go_loopw [6, 7, 8, 9, 10, 11, 12] (fun i _ _ _ _ _ _ wr => ∃ (k : Nat), k ≤ 15 ∧ i = .int .i64 k ∧ RunI w g (trs S) (Lb.start r0 h3 h4 h1) W6.heap.size C 84 (60 * k + 7) (fun _ => True) wr) (fun i _ _ _ _ _ _ _ => 15 - (intOf i).toNat)
    case atStart => exact ⟨0, by omega, rfl, R8.out⟩
    case round =>
      obtain ⟨k, hk, rfl, hr⟩ := hrel
      have RK := Lib.hid hr
      clear hr
      by_cases hgo : k < 15
      · have hgi : decide ((k : Int) < 15) = true := by simp; omega
        go_wp2_with fail
        refine (RK.out.tick hg (by omega)).mono ?_
        rintro e W9 ⟨rfl, hr9⟩
        have R9 := Lib.hid hr9
        obtain ⟨x0, now, cx0, cnow, fnow, cnet⟩ := NX.out _ _ _ hr9
        clear hr9
        go_upto_block 2 with fail
        obtain ⟨W10, hW10⟩ : ∃ W10, W10 = W9.setCell ⟨g.xb, 4, none⟩ (.int .i64 (wrap64 (now + 5))) := ⟨_, rfl⟩
        have R10 : RowKit.Hid (RunI w g (trs S) (Lb.start r0 h3 h4 h1) W6.heap.size C 84 (60 * k + 31) (fun _ => True) W10) := Lib.hid (by rw [hW10]; exact (R9.out.clock hg _).weak (by omega) (fun _ h => h))
        rw [← hW10]
        clear hW10 cx0 cnow fnow cnet
        go_cut [7, 8, 9, 10, 11, 12] from 45 to 84 (fun s7 s8 s9 s10 s11 s12 W => RunI w g (trs S) (Lb.start r0 h3 h4 h1) W6.heap.size C 84 (60 * k + 43) (fun _ => True) W)
        case first =>
          go_wp2_with fail
          go_loopw [7, 8, 9, 10, 11, 12] (fun i _ _ _ _ _ wr => ∃ (j : Nat), j ≤ 6 ∧ i = .int .i64 j ∧ RunI w g (trs S) (Lb.start r0 h3 h4 h1) W6.heap.size C 84 (60 * k + 31 + 2 * j) (fun _ => True) wr) (fun i _ _ _ _ _ _ => 6 - (intOf i).toNat)
          case atStart => exact ⟨0, by omega, rfl, R10.out⟩
          case round =>
            obtain ⟨j, hj, rfl, hr⟩ := hrel
            have RJ := Lib.hid hr
            by_cases hj6 : j < 6
            · have hji : decide ((j : Int) < 6) = true := by simp; omega
              obtain ⟨x0, now2, cx0, cnow, fnow, cnet⟩ := NX.out _ _ _ hr
              clear hr
              rcases RJ.out.next hg (by omega) with hn | hn
              · go_wp2_with fail
                refine hn.mono ?_
                rintro e W11 ⟨rfl, hr11⟩
                have R11 := Lib.hid hr11
                clear hr11 hn cx0 cnow fnow cnet
                go_wp2_with fail
                go_meet
                case rel => exact (R11.out.up ((Below.refl _ _).alloc (Nat.le_refl _) _)).weak (by omega) (fun _ _ => trivial)
              · go_wp2_with fail
                refine hn.mono ?_
                rintro e W11 ⟨m, at_, rfl, hr11⟩
                have R11 := Lib.hid hr11
                obtain ⟨cm, hcm⟩ : ∃ cm, cm = encM m := ⟨_, rfl⟩
                rw [← hcm]
                have HCM := Lib.hid hcm
                have MI : RowKit.Hid ((Tryz.prog.info? 31).map (·.size) = some cm.size) := Lib.hid (by rw [hcm]; kernel_rfl)
                have MO : RowKit.Hid (cm.all (·.oneCell') = true) := Lib.hid (by rw [hcm]; unfold encM strV; simp [Value.oneCell'])
                have MS : RowKit.Hid ((4 : Nat) = cm.size) := Lib.hid (by rw [hcm]; rfl)
                obtain ⟨W12, hW12⟩ : ∃ W12, W12 = (W11.alloc (.cells #[i64 0, i64 0, i64 0, .string ⟨#[]⟩] 31)).setRow W11.heap.size cm := ⟨_, rfl⟩
                have R12 : RowKit.Hid (RunI w g (trs S) (Lb.start r0 h3 h4 h1) W6.heap.size C 84 (60 * k + 31 + 2 * j) (fun s => m ∈ s.W) W12) := Lib.hid (by rw [hW12]; exact hr11.up (belowS ((Below.refl _ _).alloc (Nat.le_refl _) _) (Nat.le_refl _)))
                have K12 : RowKit.Hid (Blk W12 W11.heap.size cm 31) := Lib.hid (by rw [hW12]; exact setRow_heap _ _ _ _ _ _ (Blk.new _ _ _))
                have HW12 := Lib.hid hW12
                obtain ⟨x0', now3, cx0', cnow', fnow', cnet'⟩ := NX.out _ _ _ R12.out
                clear hr11 hn hcm cx0 cnow fnow cnet hW12
                obtain ⟨W13, hW13⟩ : ∃ W13, W13 = W12.setCell ⟨g.xb, 4, none⟩ (.int .i64 (max now3 at_)) := ⟨_, rfl⟩
                have R13 : RowKit.Hid (RunI w g (trs S) (Lb.start r0 h3 h4 h1) W6.heap.size C 84 (60 * k + 31 + 2 * j) (fun s => m ∈ s.W) W13) := Lib.hid (by rw [hW13]; exact R12.out.clock hg _)
                have K13 : RowKit.Hid (Blk W13 W11.heap.size cm 31) := Lib.hid (by
                  rw [hW13]
                  exact ((Tn.refl (fun b => b = g.xb) W12).setCell (p := ⟨g.xb, 4, none⟩) (.inl rfl) _).blk K12.out (fun e => by
                    have h1 : g.xb < W11.heap.size := (cell_lt R11.out.cells.x0 : _)
                    have e : W11.heap.size = g.xb := e
                    omega))
                have HW13 := Lib.hid hW13
                have DV := Lib.hid (R13.out.deliver I0.out hg (by omega) m)
                rw [← HCM.out] at DV
                clear hW13
                go_wp2_with (first
                  | rw [← HW12.out]
                  | rw [← HW13.out]
                  | refine wpList_store_row rfl 31 (.tmp 8) (.tmp 55) rfl W11.heap.size cm rfl rfl 31 _ (Blk.new _ _ _) MI.out MS.out MO.out ?_
                  | refine wpList_load_row 31 (.tmp 8) rfl rfl rfl K13.out Tryz.underlying31 rfl MI.out ?_)
                refine DV.out.mono ?_
                rintro e W14 ⟨rfl, hr14⟩
                have R14 := Lib.hid hr14
                clear hr14 DV cx0' cnow' fnow' cnet'
                go_wp2_with fail
                refine (R14.out.count I0.out).mono ?_
                rintro e W15 ⟨L, rfl, hcl, hr15⟩
                obtain ⟨C2, hC2⟩ : ∃ C2, C2 = cntC L := ⟨_, rfl⟩
                rw [← hC2]
                have DI2 : RowKit.Hid ((Tryz.prog.info? 84).map (·.size) = some C2.size) := Lib.hid (by rw [hC2]; kernel_rfl)
                have DS2 : RowKit.Hid ((6 : Nat) = C2.size) := Lib.hid (by rw [hC2]; rfl)
                have DO2 : RowKit.Hid (C2.all (·.oneCell') = true) := Lib.hid (by rw [hC2]; unfold cntC; simp [Value.oneCell'])
                have HC2 := Lib.hid hC2
                obtain ⟨W16, hW16⟩ : ∃ W16, W16 = (W15.alloc (.cells #[i64 0, i64 0, i64 0, i64 0, i64 0, i64 0] 84)).setRow W15.heap.size C2 := ⟨_, rfl⟩
                have R16 : RowKit.Hid (RunI w g (trs S) (Lb.start r0 h3 h4 h1) W6.heap.size C 84 (60 * k + 31 + 2 * j + 2) (fun _ => True) W16) := Lib.hid (by rw [hW16]; exact hr15.up (belowS ((Below.refl _ _).alloc (Nat.le_refl _) _) (Nat.le_refl _)))
                have K16 : RowKit.Hid (Blk W16 W15.heap.size C2 84) := Lib.hid (by rw [hW16]; exact setRow_heap _ _ _ _ _ _ (Blk.new _ _ _))
                have HW16 := Lib.hid hW16
                have CL := Lib.hid hcl
                clear hr15 hcl hC2 hW16
                go_wp2_with (first
                  | rw [← HW16.out]
                  | refine wpList_store_row rfl 84 (.tmp 11) (.tmp 73) rfl W15.heap.size C2 rfl rfl 84 _ (Blk.new _ _ _) DI2.out DS2.out DO2.out ?_)
                go_loopw [12] (fun i wr => ∃ (t : Nat), t ≤ 6 ∧ i = .int .i64 t ∧ RunI w g (trs S) (Lb.start r0 h3 h4 h1) W6.heap.size C 84 (60 * k + 31 + 2 * j + 2) (fun _ => True) wr ∧ Blk wr W15.heap.size C2 84) (fun i _ => 6 - (intOf i).toNat)
                case atStart => exact ⟨0, by omega, rfl, R16.out, K16.out⟩
                case round =>
                  obtain ⟨t, ht, rfl, hrt, hkt⟩ := hrel
                  have RT := Lib.hid hrt
                  have KT := Lib.hid hkt
                  clear hrt hkt
                  by_cases ht6 : t < 6
                  · have hti : decide ((t : Int) < 6) = true := by simp; omega
                    have a1 : wr.cell? ⟨W15.heap.size, t, none⟩ = some (i64 (cnt L t)) := (KT.out.cell t).trans (by rw [HC2.out]; exact cntC_at ht6)
                    have a2 : wr.cell? ⟨W6.heap.size, t, none⟩ = some (i64 (cnt (Lb.start r0 h3 h4 h1).heres.flatten t)) := (RT.out.blk.cell t).trans (by rw [HC.out]; exact cntC_at ht6)
                    have hle := CL.out t
                    obtain ⟨n1, e1⟩ : ∃ n1, n1 = cnt L t := ⟨_, rfl⟩
                    obtain ⟨n2, e2⟩ : ∃ n2, n2 = cnt (Lb.start r0 h3 h4 h1).heres.flatten t := ⟨_, rfl⟩
                    rw [← e1] at a1 hle
                    rw [← e2] at a2 hle
                    have g1 : decide ((n2 : Int) < n1) = false := by simp; omega
                    have hle' := Lib.hid hle
                    clear e1 e2 hle
                    go_wp2_with fail
                    go_quiet (fail)
                    go_wp2_with fail
                    any_goals (exfalso; have := hle'.out; omega)
                    go_roundw
                    case rel => exact ⟨t + 1, by omega, by go_num, RT.out.up (bdrewN (Below.refl _ _) _), KT.out.below (bdrewN (Below.refl _ _) _) KT.out.lt⟩
                    case measure => simp [intOf]; omega
                  · obtain rfl : t = 6 := by omega
                    go_wp2_with fail
                    go_roundw
                    case rel => exact ⟨j + 1, by omega, by go_num, RT.out.weak (by omega) (fun _ h => h)⟩
                    case measure => simp [intOf]; omega
            · obtain rfl : j = 6 := by omega
              go_wp2_with fail
              go_meet
              case rel => exact RJ.out.weak (by omega) (fun _ h => h)
        case rest =>
          have RC := Lib.hid hcut
          clear hcut
          by_cases h4 : k % 4 = 3
          · have hq : decide ((k : Int) % 4 = 3) = true := by simp; omega
            go_wp2_with fail
            refine (RC.out.finish hg (by omega)).mono ?_
            rintro e W18 ⟨rfl, hr18⟩
            have R18 := Lib.hid hr18
            clear hr18
            have cc := R18.out.cells
            have x0 := cc.x0
            have a0 := cc.a0
            clear cc
            go_wp2_with fail
            refine (R18.out.here (a := 1) (.inl rfl)).mono ?_
            rintro e W20 ⟨va, n, c, rfl, hn, hr20⟩
            rw [if_pos rfl] at hn
            have hn4 : decide ((n : Int) > 4) = false := by simp; omega
            have R20 := Lib.hid hr20
            have cc := hr20.cells
            have x0' := cc.x0
            have a1' := cc.a1
            clear cc hr20 x0 a0
            go_wp2_with fail
            refine (R20.out.here (a := 2) (.inr rfl)).mono ?_
            rintro e W21 ⟨va2, n2, c2, rfl, hn2, hr21⟩
            rw [if_neg (by decide)] at hn2
            have hn5 : decide ((n2 : Int) > 3) = false := by simp; omega
            have R21 := Lib.hid hr21
            clear hr21 x0' a1'
            go_wp2_with fail
            go_roundw
            case rel => exact ⟨k + 1, by omega, by go_num, R21.out.weak (by omega) (fun _ _ => trivial)⟩
            case measure => simp [intOf]; omega
          · have hq : decide ((k : Int) % 4 = 3) = false := by simp; omega
            have cc := RC.out.cells
            have x0 := cc.x0
            have a0 := cc.a0
            clear cc
            go_wp2_with fail
            refine (RC.out.here (a := 1) (.inl rfl)).mono ?_
            rintro e W20 ⟨va, n, c, rfl, hn, hr20⟩
            rw [if_pos rfl] at hn
            have hn4 : decide ((n : Int) > 4) = false := by simp; omega
            have R20 := Lib.hid hr20
            have cc := hr20.cells
            have x0' := cc.x0
            have a1' := cc.a1
            clear cc hr20 x0 a0
            go_wp2_with fail
            refine (R20.out.here (a := 2) (.inr rfl)).mono ?_
            rintro e W21 ⟨va2, n2, c2, rfl, hn2, hr21⟩
            rw [if_neg (by decide)] at hn2
            have hn5 : decide ((n2 : Int) > 3) = false := by simp; omega
            have R21 := Lib.hid hr21
            clear hr21 x0' a1'
            go_wp2_with fail
            go_roundw
            case rel => exact ⟨k + 1, by omega, by go_num, R21.out.weak (by omega) (fun _ _ => trivial)⟩
            case measure => simp [intOf]; omega
      · obtain rfl : k = 15 := by omega
        go_wp2_with fail
        go_ret
        exact ⟨rfl, RK.out.bel⟩
end Go.Proofs.YtdojgbpaheadnaaGreat
