/- The library of the law: how often each title is here. -/
import Derived.Test.YtdojgbpaheadnaaGreatQUE
set_option linter.unusedVariables false
set_option linter.unusedSimpArgs false

namespace Go.Proofs.YtdojgbpaheadnaaGreat
open Go.RowKit Go.Shelf Go.Maps Go.ChangeMaps
attribute [local go_sem] over_cell over_frozen

theorem wpAnyH_apart5N {P : Program} {md : Region.Mode} {ops : Array Oper} {Q : Exit → Act → World → Prop} {S : World → Prop} {fuel : Nat} {L : Array Bool} {a : Act} {w : World} {a1 : Option Addr → Nat → Option Addr → Nat → Option Addr → Nat → Option Addr → Nat → Option Addr → Nat → Nat → Act} (F : Option Addr → Nat → Option Addr → Nat → Option Addr → Nat → Option Addr → Nat → Option Addr → Nat → Nat → World → Prop)
  (take : ∀ R : Act → World → Prop, (∀ p1 c1 p2 c2 p3 c3 p4 c4 p5 c5 n w', F p1 c1 p2 c2 p3 c3 p4 c4 p5 c5 n w' → R (a1 p1 c1 p2 c2 p3 c3 p4 c4 p5 c5 n) w') → wpAnyH P md ops (only R) S fuel L a w) (rest : ∀ p1 c1 p2 c2 p3 c3 p4 c4 p5 c5 n w', F p1 c1 p2 c2 p3 c3 p4 c4 p5 c5 n w' → Q .normal (a1 p1 c1 p2 c2 p3 c3 p4 c4 p5 c5 n) w') : wpAnyH P md ops Q S fuel L a w :=
 wpAnyH_mono (fun _ _ _ h => nomatch h.1) (fun ⟨_, _, h⟩ => nomatch h.1) (fun _ _ h => h.2) fuel L a w (take (Q .normal) rest)
def cnt (l : List Int) (t : Int) : Nat := l.countP fun x => decide (x % 6 = t)
def cntC (l : List Int) : Array Value := #[i64 (cnt l 0), i64 (cnt l 1), i64 (cnt l 2), i64 (cnt l 3), i64 (cnt l 4), i64 (cnt l 5)]
theorem cnt_snoc (l : List Int) (x t : Int) : cnt (l ++ [x]) t = cnt l t + if x % 6 = t then 1 else 0 := by
 unfold cnt
 rw [List.countP_append]
 congr 1
 rw [List.countP_singleton]
 simp
theorem cntC_at {l : List Int} {t : Nat} (h : t < 6) : (cntC l)[t]? = some (i64 (cnt l t)) := by
 unfold cntC
 have : t = 0 ∨ t = 1 ∨ t = 2 ∨ t = 3 ∨ t = 4 ∨ t = 5 := by omega
 rcases this with rfl | rfl | rfl | rfl | rfl | rfl <;> rfl
theorem cntC_snoc {l : List Int} {x : Int} {t : Nat} (h : t < 6) (hx : x % 6 = t) : (cntC l).setIfInBounds t (i64 (cnt l t + 1 : Int)) = cntC (l ++ [x]) := by
 unfold cntC
 simp only [cnt_snoc, hx]
 have : t = 0 ∨ t = 1 ∨ t = 2 ∨ t = 3 ∨ t = 4 ∨ t = 5 := by omega
 rcases this with rfl | rfl | rfl | rfl | rfl | rfl <;> simp
def Lb.heres (s : Lb) : List (List Int) := [(s.ls 3).here, (s.ls 4).here, (s.ls 1).here, (s.as 1).here, (s.as 2).here]
set_option maxRecDepth 100000 in
set_option maxHeartbeats 8000000 in
theorem count_any {g : Lg} {Z : Nat → Nat → Prop} {w : World} {N : Nat} {S : List Tr} {P : List Pc} {sent : Nat} {s : Lb} (h : LibM g Z w N S P sent s) (hh : ∀ L, IsL L → (s.ls L).here.length ≤ 20000) (hh2 : ∀ a, IsA a → (s.as a).here.length ≤ 20000) :
  Calls Tryz.prog 41 #[.pointer (some ⟨g.xb, 0, none⟩)] w fun e w' => e = .returned (.agg (cntC s.heres.flatten)) ∧ Below w.heap.size w w' := by
 obtain ⟨w1, hw1⟩ : ∃ w1, w1 = (w.alloc (.cells #[i64 0, i64 0, i64 0, i64 0, i64 0, i64 0] 84)).alloc (.cells #[i64 0, i64 0, i64 0, i64 0, i64 0, i64 0] 84) := ⟨_, rfl⟩
 have hB : Below w.heap.size w w1 := by rw [hw1]; exact ((Below.refl _ _).alloc (Nat.le_refl _) _).alloc (by rw [size_alloc]; omega) _
 have RB : Hid (Blk w1 w.heap.size #[i64 0, i64 0, i64 0, i64 0, i64 0, i64 0] 84) := Lib.hid (by rw [hw1]; exact (Blk.new _ _ _).alloc _)
 have OB : Hid (Blk w1 (w.heap.size + 1) (cntC []) 84) := Lib.hid (by rw [hw1]; exact Blk.at_new (by rw [size_alloc]) _ _)
 have L1 := Lib.hid (h.up' hB)
 have HB := Lib.hid hB
 have HW := Lib.hid hw1
 have HH := Lib.hid hh
 have HH2 := Lib.hid hh2
 clear h hB hw1 hh hh2
 go_enter Tryz.func41, Tryz.ntmps41
 go_wp2_with fail
 rw [← HW.out]
 have Ld := Lib.hid (L1.out.up' (w' := w1.drew) (bdrewN (Below.refl _ _) 1))
 have hHeld : LibC g w1.drew := Ld.out.cells
 refine wp_region_held_drew (S := LibC g) (by kernel_rfl) hHeld (fun _ => ?_)
 apply wpAnyH_apart5N (fun a1 c1 a2 c2 a3 c3 a4 c4 a5 c5 n W => Below w1.heap.size w1 W ∧ w1.heap.size ≤ n ∧ Blk W n #[.slice a1 (s.ls 3).here.length c1, .slice a2 (s.ls 4).here.length c2, .slice a3 (s.ls 1).here.length c3, .slice a4 (s.as 1).here.length c4, .slice a5 (s.as 2).here.length c5] 25 ∧ RowC W w1.heap.size a1 (s.ls 3).here ∧ RowC W w1.heap.size a2 (s.ls 4).here ∧ RowC W w1.heap.size a3 (s.ls 1).here ∧ RowC W w1.heap.size a4 (s.as 1).here ∧ RowC W w1.heap.size a5 (s.as 2).here)
 case take =>
  intro R hR
  refine tk 0 (v := ?_) rfl hHeld ?_ ?_; rotate_left
  ·(intro w hSw; (have x2 := hSw.x2; have l0 := hSw.l0; clear hSw); go_simp; try (with_reducible rfl))
  try simp only [gZ]
  refine tk 1 (v := ?_) rfl hHeld ?_ ?_; rotate_left
  ·(intro w hSw; (have x2 := hSw.x2; have l0 := hSw.l0; clear hSw); go_simp; try (with_reducible rfl))
  try simp only [gZ]
  refine tk 2 (v := ?_) rfl hHeld ?_ ?_; rotate_left
  ·(intro w hSw; (have x2 := hSw.x2; have l0 := hSw.l0; clear hSw); go_simp; try (with_reducible rfl))
  try simp only [gZ]
  refine tk 3 (v := ?_) rfl hHeld ?_ ?_; rotate_left
  ·(intro w hSw; (have x2 := hSw.x2; have l0 := hSw.l0; clear hSw); go_simp; try (with_reducible rfl))
  try simp only [gZ]
  refine tk 4 (v := ?_) rfl hHeld ?_ ?_; rotate_left
  ·(intro w hSw; (have x2 := hSw.x2; have l0 := hSw.l0; clear hSw); go_simp; try (with_reducible rfl))
  try simp only [gZ]
  refine tk 5 (v := ?_) rfl hHeld ?_ ?_; rotate_left
  ·(intro w hSw; (have x2 := hSw.x2; have l0 := hSw.l0; clear hSw); go_simp; try (with_reducible rfl))
  try simp only [gZ]
  refine tk 7 (v := ?_) rfl hHeld ?_ ?_; rotate_left
  ·(intro w hSw; (have x2 := hSw.x2; have l1 := hSw.l1; clear hSw); go_simp; try (with_reducible rfl))
  try simp only [gZ]
  refine tk 8 (v := ?_) rfl hHeld ?_ ?_; rotate_left
  ·(intro w hSw; (have x2 := hSw.x2; have l1 := hSw.l1; clear hSw); go_simp; try (with_reducible rfl))
  try simp only [gZ]
  refine tk 9 (v := ?_) rfl hHeld ?_ ?_; rotate_left
  ·(intro w hSw; (have x2 := hSw.x2; have l1 := hSw.l1; clear hSw); go_simp; try (with_reducible rfl))
  try simp only [gZ]
  refine tk 10 (v := ?_) rfl hHeld ?_ ?_; rotate_left
  ·(intro w hSw; (have x2 := hSw.x2; have l1 := hSw.l1; clear hSw); go_simp; try (with_reducible rfl))
  try simp only [gZ]
  refine tk 11 (v := ?_) rfl hHeld ?_ ?_; rotate_left
  ·(intro w hSw; (have x2 := hSw.x2; have l1 := hSw.l1; clear hSw); go_simp; try (with_reducible rfl))
  try simp only [gZ]
  refine tk 12 (v := ?_) rfl hHeld ?_ ?_; rotate_left
  ·(intro w hSw; (have x2 := hSw.x2; have l1 := hSw.l1; clear hSw); go_simp; try (with_reducible rfl))
  try simp only [gZ]
  refine tk 14 (v := ?_) rfl hHeld ?_ ?_; rotate_left
  ·(intro w hSw; (have x2 := hSw.x2; have l2 := hSw.l2; clear hSw); go_simp; try (with_reducible rfl))
  try simp only [gZ]
  refine tk 15 (v := ?_) rfl hHeld ?_ ?_; rotate_left
  ·(intro w hSw; (have x2 := hSw.x2; have l2 := hSw.l2; clear hSw); go_simp; try (with_reducible rfl))
  try simp only [gZ]
  refine tk 16 (v := ?_) rfl hHeld ?_ ?_; rotate_left
  ·(intro w hSw; (have x2 := hSw.x2; have l2 := hSw.l2; clear hSw); go_simp; try (with_reducible rfl))
  try simp only [gZ]
  refine tk 17 (v := ?_) rfl hHeld ?_ ?_; rotate_left
  ·(intro w hSw; (have x2 := hSw.x2; have l2 := hSw.l2; clear hSw); go_simp; try (with_reducible rfl))
  try simp only [gZ]
  refine tk 18 (v := ?_) rfl hHeld ?_ ?_; rotate_left
  ·(intro w hSw; (have x2 := hSw.x2; have l2 := hSw.l2; clear hSw); go_simp; try (with_reducible rfl))
  try simp only [gZ]
  refine tk 19 (v := ?_) rfl hHeld ?_ ?_; rotate_left
  ·(intro w hSw; (have x2 := hSw.x2; have l2 := hSw.l2; clear hSw); go_simp; try (with_reducible rfl))
  try simp only [gZ]
  refine tk 21 (v := ?_) rfl hHeld ?_ ?_; rotate_left
  ·(intro w hSw; (have x0 := hSw.x0; have a0 := hSw.a0; clear hSw); go_simp; try (with_reducible rfl))
  try simp only [gZ]
  refine tk 22 (v := ?_) rfl hHeld ?_ ?_; rotate_left
  ·(intro w hSw; (have x0 := hSw.x0; have a0 := hSw.a0; clear hSw); go_simp; try (with_reducible rfl))
  try simp only [gZ]
  refine tk 23 (v := ?_) rfl hHeld ?_ ?_; rotate_left
  ·(intro w hSw; (have x0 := hSw.x0; have a0 := hSw.a0; clear hSw); go_simp; try (with_reducible rfl))
  try simp only [gZ]
  refine tk 24 (v := ?_) rfl hHeld ?_ ?_; rotate_left
  ·(intro w hSw; (have x0 := hSw.x0; have a0 := hSw.a0; clear hSw); go_simp; try (with_reducible rfl))
  try simp only [gZ]
  refine tk 25 (v := ?_) rfl hHeld ?_ ?_; rotate_left
  ·(intro w hSw; (have x0 := hSw.x0; have a0 := hSw.a0; clear hSw); go_simp; try (with_reducible rfl))
  try simp only [gZ]
  refine tk 26 (v := ?_) rfl hHeld ?_ ?_; rotate_left
  ·(intro w hSw; (have x0 := hSw.x0; have a0 := hSw.a0; clear hSw); go_simp; try (with_reducible rfl))
  try simp only [gZ]
  refine tk 28 (v := ?_) rfl hHeld ?_ ?_; rotate_left
  ·(intro w hSw; (have x0 := hSw.x0; have a1 := hSw.a1; clear hSw); go_simp; try (with_reducible rfl))
  try simp only [gZ]
  refine tk 29 (v := ?_) rfl hHeld ?_ ?_; rotate_left
  ·(intro w hSw; (have x0 := hSw.x0; have a1 := hSw.a1; clear hSw); go_simp; try (with_reducible rfl))
  try simp only [gZ]
  refine tk 30 (v := ?_) rfl hHeld ?_ ?_; rotate_left
  ·(intro w hSw; (have x0 := hSw.x0; have a1 := hSw.a1; clear hSw); go_simp; try (with_reducible rfl))
  try simp only [gZ]
  refine tk 31 (v := ?_) rfl hHeld ?_ ?_; rotate_left
  ·(intro w hSw; (have x0 := hSw.x0; have a1 := hSw.a1; clear hSw); go_simp; try (with_reducible rfl))
  try simp only [gZ]
  refine tk 32 (v := ?_) rfl hHeld ?_ ?_; rotate_left
  ·(intro w hSw; (have x0 := hSw.x0; have a1 := hSw.a1; clear hSw); go_simp; try (with_reducible rfl))
  try simp only [gZ]
  refine tk 33 (v := ?_) rfl hHeld ?_ ?_; rotate_left
  ·(intro w hSw; (have x0 := hSw.x0; have a1 := hSw.a1; clear hSw); go_simp; try (with_reducible rfl))
  try simp only [gZ]
  refine wpAnyH_one (i := 6) rfl (by kernel_rfl) (by rfl) ?_
  go_simp
  refine (LibM.lhere (L := 3) (.inl rfl) Ld.out (Nat.le_trans (HH.out 3 (.inl rfl)) (by omega))).mono ?_
  rintro e W2 ⟨v1, rfl, hr1, hb1⟩
  obtain ⟨a1, c1, rfl, -⟩ := row_cellz hr1
  have R1 := Lib.hid (rowC_of hr1 (C := w1.heap.size) (Nat.le_refl _))
  have Q1 := Lib.hid hb1
  clear hr1 hb1
  have B1 : Hid (Below w1.drew.heap.size w1.drew W2) := Lib.hid Q1.out
  have hHeld := (Ld.out.up' B1.out).cells
  refine ⟨hHeld, ?_⟩
  refine wpAnyH_one (i := 13) rfl (by kernel_rfl) (by rfl) ?_
  go_simp
  refine (LibM.lhere (L := 4) (.inr (.inl rfl)) (Ld.out.up' B1.out) (Nat.le_trans (HH.out 4 (.inr (.inl rfl))) (by omega))).mono ?_
  rintro e W3 ⟨v2, rfl, hr2, hb2⟩
  obtain ⟨a2, c2, rfl, -⟩ := row_cellz hr2
  have R2 := Lib.hid (rowC_of hr2 (C := w1.heap.size) B1.out.size)
  have Q2 := Lib.hid hb2
  clear hr2 hb2
  have B2 := Lib.hid (B1.out.trans (Q2.out.mono B1.out.size))
  have hHeld := (Ld.out.up' B2.out).cells
  refine ⟨hHeld, ?_⟩
  refine wpAnyH_one (i := 20) rfl (by kernel_rfl) (by rfl) ?_
  go_simp
  refine (LibM.lhere (L := 1) (.inr (.inr rfl)) (Ld.out.up' B2.out) (Nat.le_trans (HH.out 1 (.inr (.inr rfl))) (by omega))).mono ?_
  rintro e W4 ⟨v3, rfl, hr3, hb3⟩
  obtain ⟨a3, c3, rfl, -⟩ := row_cellz hr3
  have R3 := Lib.hid (rowC_of hr3 (C := w1.heap.size) B2.out.size)
  have Q3 := Lib.hid hb3
  clear hr3 hb3
  have B3 := Lib.hid (B2.out.trans (Q3.out.mono B2.out.size))
  have hHeld := (Ld.out.up' B3.out).cells
  refine ⟨hHeld, ?_⟩
  refine wpAnyH_one (i := 27) rfl (by kernel_rfl) (by rfl) ?_
  go_simp
  refine (LibM.ahere (a := 1) (.inl rfl) (Ld.out.up' B3.out)).mono ?_
  rintro e W5 ⟨v4, rfl, hr4, hb4⟩
  obtain ⟨a4, c4, rfl, -⟩ := row_cellz hr4
  have R4 := Lib.hid (rowC_of hr4 (C := w1.heap.size) B3.out.size)
  have Q4 := Lib.hid hb4
  clear hr4 hb4
  have B4 := Lib.hid (B3.out.trans (Q4.out.mono B3.out.size))
  have hHeld := (Ld.out.up' B4.out).cells
  refine ⟨hHeld, ?_⟩
  refine wpAnyH_one (i := 34) rfl (by kernel_rfl) (by rfl) ?_
  go_simp
  refine (LibM.ahere (a := 2) (.inr rfl) (Ld.out.up' B4.out)).mono ?_
  rintro e W6 ⟨v5, rfl, hr5, hb5⟩
  obtain ⟨a5, c5, rfl, -⟩ := row_cellz hr5
  have R5 := Lib.hid (rowC_of hr5 (C := w1.heap.size) B4.out.size)
  have Q5 := Lib.hid hb5
  clear hr5 hb5
  have B5 := Lib.hid (B4.out.trans (Q5.out.mono B4.out.size))
  have hHeld := (Ld.out.up' B5.out).cells
  refine ⟨hHeld, ?_⟩
  refine wpAnyH_one (i := 35) rfl (by kernel_rfl) (by rfl) ?_
  go_simp
  obtain ⟨W7, hW7⟩ : ∃ W7, W7 = W6.alloc (.cells #[.slice a1 (s.ls 3).here.length c1, .slice a2 (s.ls 4).here.length c2, .slice a3 (s.ls 1).here.length c3, .slice a4 (s.as 1).here.length c4, .slice a5 (s.as 2).here.length c5] 25) := ⟨_, rfl⟩
  have B7 : Hid (Below w1.heap.size w1.drew W7) := Lib.hid (by rw [hW7]; exact B5.out.alloc B5.out.size _)
  have K7 : Hid (Blk W7 W6.heap.size #[.slice a1 (s.ls 3).here.length c1, .slice a2 (s.ls 4).here.length c2, .slice a3 (s.ls 1).here.length c3, .slice a4 (s.as 1).here.length c4, .slice a5 (s.as 2).here.length c5] 25) := Lib.hid (by rw [hW7]; exact Blk.new _ _ _)
  have U7 : Below W6.heap.size W6 W7 := by rw [hW7]; exact (Below.refl _ _).alloc (Nat.le_refl _) _
  have hHeld := (Ld.out.up' B7.out).cells
  rw [← hW7]
  obtain ⟨n7, hn7⟩ : ∃ n7, n7 = W6.heap.size := ⟨_, rfl⟩
  rw [← hn7] at K7 ⊢
  have N7 := Lib.hid hn7
  clear hW7 hn7
  refine ⟨hHeld, ?_⟩
  refine tk 36 (v := ?_) rfl hHeld ?_ ?_; rotate_left
  ·(intro w hSw; clear hSw; go_simp; try (with_reducible rfl))
  try simp only [gZ]
  have y5 := U7
  have y4 := Q5.out.trans (y5.mono Q5.out.size)
  have y3 := Q4.out.trans (y4.mono Q4.out.size)
  have y2 := Q3.out.trans (y3.mono Q3.out.size)
  have y1 := Q2.out.trans (y2.mono Q2.out.size)
  exact wpAnyH_done (by kernel_rfl) ⟨rfl, hR _ _ _ _ _ _ _ _ _ _ _ _ ⟨(Below.refl _ _).drew.trans B7.out, by rw [N7.out]; exact B5.out.size, K7.out, R1.out.below y1, R2.out.below y2, R3.out.below y3, R4.out.below y4, R5.out.below y5⟩⟩ _
 case rest =>
  rintro a1 c1 a2 c2 a3 c3 a4 c4 a5 c5 n W ⟨hb, hn, hK, r1, r2, r3, r4, r5⟩
  have BB := Lib.hid hb
  have HN := Lib.hid hn
  obtain ⟨Ls, hLs⟩ : ∃ Ls, Ls = s.heres := ⟨_, rfl⟩
  have RR : Hid (∀ i, i < 5 → ∃ a c, W.cell? ⟨n, i, none⟩ = some (.slice a (Ls.getD i []).length c) ∧ RowC W w1.heap.size a (Ls.getD i [])) := Lib.hid (by
   rw [hLs]
   intro i hi
   have h5 : i = 0 ∨ i = 1 ∨ i = 2 ∨ i = 3 ∨ i = 4 := by omega
   rcases h5 with rfl | rfl | rfl | rfl | rfl
   ·exact ⟨a1, c1, hK.cell 0, r1⟩
   ·exact ⟨a2, c2, hK.cell 1, r2⟩
   ·exact ⟨a3, c3, hK.cell 2, r3⟩
   ·exact ⟨a4, c4, hK.cell 3, r4⟩
   ·exact ⟨a5, c5, hK.cell 4, r5⟩)
  have HL := Lib.hid hLs
  have OB2 := Lib.hid (OB.out.below BB.out (by rw [HW.out, size_alloc, size_alloc]; omega))
  clear hb hn hK r1 r2 r3 r4 r5 hLs hHeld
  have LL5 : Hid (∀ i, i < 5 → (Ls.getD i []).length ≤ 20000) := Lib.hid (by
   rw [HL.out]
   intro i hi
   have h5 : i = 0 ∨ i = 1 ∨ i = 2 ∨ i = 3 ∨ i = 4 := by omega
   rcases h5 with rfl | rfl | rfl | rfl | rfl
   ·exact HH.out 3 (.inl rfl)
   ·exact HH.out 4 (.inr (.inl rfl))
   ·exact HH.out 1 (.inr (.inr rfl))
   ·exact HH2.out 1 (.inl rfl)
   ·exact HH2.out 2 (.inr rfl))
  have SZ : w1.heap.size = w.heap.size + 2 := by rw [HW.out, size_alloc, size_alloc]
  have NE : w.heap.size + 2 ≤ n := by rw [← SZ]; exact HN.out
  have SZ' := Lib.hid SZ
  have NE' := Lib.hid NE
  clear SZ NE
  go_wp2_with fail
  go_loopw [5, 6] (fun i j wr => ∃ (k : Nat), k ≤ 5 ∧ i = .int .i64 k ∧ (Ls.take k).flatten.length ≤ 20000 * k ∧ Tn (fun b => b = w.heap.size + 1) W wr ∧ Blk wr (w.heap.size + 1) (cntC (Ls.take k).flatten) 84) (fun i _ _ => 5 - (intOf i).toNat)
  case atStart => exact ⟨0, by omega, rfl, by simp, Tn.refl _ _, OB2.out⟩
  case round =>
   obtain ⟨k, hk, rfl, hlen, ht, hob⟩ := hrel
   have TK := Lib.hid ht
   have OK := Lib.hid hob
   clear ht hob
   by_cases hgo : k < 5
   ·obtain ⟨a, c, hc, hr⟩ := RR.out k hgo
    have hll := LL5.out k hgo
    obtain ⟨L, hL⟩ : ∃ L, L = Ls.getD k [] := ⟨_, rfl⟩
    rw [← hL] at hc hr hll
    have hcell := TK.out.cell hc (fun e => absurd NE'.out (by have e : n = w.heap.size + 1 := e; omega))
    have RC := Lib.hid hr
    have HLk := Lib.hid hL
    have HC0 := Lib.hid hc
    obtain ⟨A, hA⟩ : ∃ A, A = (Ls.take k).flatten := ⟨_, rfl⟩
    rw [← hA] at OK hlen
    have HAk := Lib.hid hA
    have hgi : decide ((k : Int) < 5) = true := by simp; omega
    clear hc hr hL hA
    go_wp2_with fail
    go_loopw [6] (fun j wr2 => ∃ (m : Nat), m ≤ L.length ∧ j = .int .i64 m ∧ Tn (fun b => b = w.heap.size + 1) W wr2 ∧ Blk wr2 (w.heap.size + 1) (cntC (A ++ L.take m)) 84) (fun j _ => L.length - (intOf j).toNat)
    case atStart => exact ⟨0, by omega, rfl, TK.out, by rw [List.take_zero, List.append_nil]; exact OK.out⟩
    case round =>
     obtain ⟨m, hm, rfl, ht2, hob2⟩ := hrel
     have T2 := Lib.hid ht2
     have O2 := Lib.hid hob2
     have hcell2 := T2.out.cell HC0.out (fun e => absurd NE'.out (by have e : n = w.heap.size + 1 := e; omega))
     clear ht2 hob2
     by_cases hgo2 : m < L.length
     ·obtain ⟨b, hab, hb1, hb2, hcl⟩ := RC.out.resolve_left (fun e => by rw [e] at hgo2; simp at hgo2)
      subst hab
      have hx := T2.out.cell (hcl m hgo2) (fun e => absurd hb1 (by have e : b = w.heap.size + 1 := e; have := SZ'.out; omega))
      obtain ⟨x, hxe⟩ : ∃ x, x = L.getD m 0 := ⟨_, rfl⟩
      rw [← hxe] at hx
      obtain ⟨t, htx, ht6⟩ : ∃ t : Nat, x % 6 = t ∧ t < 6 := ⟨(x % 6).toNat, by omega, by omega⟩
      obtain ⟨B, hBe⟩ : ∃ B, B = A ++ L.take m := ⟨_, rfl⟩
      rw [← hBe] at O2
      have hcn : cnt B t ≤ 120000 := by
       have h1 : cnt B t ≤ B.length := List.countP_le_length
       have h2 : B.length = A.length + min m L.length := by rw [hBe, List.length_append, List.length_take]
       omega
      have hoc := (O2.out.cell t).trans (cntC_at ht6)
      have hof := O2.out.frozen t
      obtain ⟨q, hq⟩ : ∃ q, q = cnt B t := ⟨_, rfl⟩
      rw [← hq] at hoc hcn
      have hwq : IntKind.i64.wrap (q + 1 : Int) = q + 1 := by rw [IntKind.wrap_i64]; omega
      have ht0 : (0 : Int) ≤ t := by omega
      have ht6' : (t : Int) < 6 := by omega
      have HX := Lib.hid hxe
      have HBE := Lib.hid hBe
      have HQ := Lib.hid hq
      have HTX := Lib.hid htx
      have HCL := Lib.hid hcl
      clear hxe hBe hq htx hcl
      go_wp2_with fail
      refine (mod_any x 6 _ (by omega) (by omega)).mono ?_
      rintro e w4 ⟨rfl, rfl⟩
      rw [HTX.out]
      go_wp2_with fail
      go_roundw
      case rel =>
       refine ⟨m + 1, hgo2, by go_num, T2.out.setCell (.inl rfl) _, ?_⟩
       have h1 := O2.out.set t (i64 (q + 1 : Int))
       rw [HQ.out, cntC_snoc ht6 HTX.out, HBE.out, HX.out, List.append_assoc, getD_get _ _ hgo2, ← List.take_succ_eq_append_getElem hgo2] at h1
       rw [HQ.out, HBE.out]
       exact h1
      case measure => simp [intOf]; omega
     ·obtain rfl : m = L.length := by omega
      go_wp2_with fail
      go_roundw
      case rel =>
       have h1 := O2.out
       have e : A ++ L.take L.length = (Ls.take (k + 1)).flatten := by
        have h5 : Ls.length = 5 := by rw [HL.out]; rfl
        have hk5 : k < Ls.length := by omega
        rw [List.take_of_length_le (Nat.le_refl _), HAk.out, HLk.out, List.take_succ_eq_append_getElem hk5, List.flatten_append]
        simp [hk5]
       rw [e] at h1
       refine ⟨k + 1, hgo, by go_num, ?_, T2.out, h1⟩
       rw [← e, List.length_append, List.take_of_length_le (Nat.le_refl _)]
       omega
      case measure => simp [intOf]; omega
   ·obtain rfl : k = 5 := by omega
    obtain ⟨C, hC⟩ : ∃ C, C = cntC (Ls.take 5).flatten := ⟨_, rfl⟩
    have hCi : (Tryz.prog.info? 84).map (·.size) = some C.size := by rw [hC]; kernel_rfl
    have hCs : (6 : Nat) = C.size := by rw [hC]; rfl
    have hCo : C.all (·.oneCell') = true := by rw [hC]; unfold cntC; simp [Value.oneCell']
    rw [← hC] at OK
    have CE := Lib.hid hC
    have CI := Lib.hid hCi
    have CS := Lib.hid hCs
    have CO := Lib.hid hCo
    have RBw : Hid (Blk wr w.heap.size #[i64 0, i64 0, i64 0, i64 0, i64 0, i64 0] 84) := Lib.hid (TK.out.blk (RB.out.below BB.out (by have := SZ'.out; omega)) (fun e => by omega))
    have BW : Hid (Below w.heap.size w wr) := Lib.hid (HB.out.trans ((BB.out.mono HB.out.size).trans (TK.out.below (Nat.le_trans HB.out.size BB.out.size) (fun b e => by omega))))
    clear hC hCi hCs hCo
    go_wp2_with (first
     | refine wpList_load_row 84 (.tmp 3) rfl rfl rfl OK.out Tryz.underlying84 rfl CI.out ?_
     | refine wpList_store_row rfl 84 (.tmp 2) (.tmp 70) rfl w.heap.size C rfl rfl 84 _ RBw.out CI.out CS.out CO.out ?_)
    (try simp only [Exit.inBlock, Exit.then])
    refine bodyPost_ret (results_cell_row rfl _ _ w.heap.size 84 C (0, 0) _ rfl (setRow_heap _ _ _ _ _ _ RBw.out) Tryz.underlying84 rfl CI.out) rfl ?_
    refine ⟨?_, belowS BW.out (Nat.le_refl _)⟩
    have : Ls.take 5 = s.heres := by rw [HL.out]; rfl
    rw [CE.out, this]
end Go.Proofs.YtdojgbpaheadnaaGreat
