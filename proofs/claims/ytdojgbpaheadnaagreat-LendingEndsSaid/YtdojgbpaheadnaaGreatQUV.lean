/- The walk of LendingEnds. -/
import Derived.Test.YtdojgbpaheadnaaGreatQUS
import Derived.Test.YtdojgbpaheadnaaGreatQUT
import Derived.Test.YtdojgbpaheadnaaGreatQUE
import Derived.Test.YtdojgbpaheadnaaGreatQUL
import Derived.Test.YtdojgbpaheadnaaGreatQPS
set_option linter.unusedVariables false
set_option linter.unusedSimpArgs false

namespace Go.Proofs.YtdojgbpaheadnaaGreat
open Go.RowKit Go.Shelf Go.Maps Go.ChangeMaps
attribute [local go_sem] over_cell over_frozen

theorem row_ne {w : World} {B z n n5 : Nat} {v : Value} {xs : List Value} {cs : Array Value} {T E : TypeId} (h : w.ownsRow B E z v n xs) (hk : Blk w n5 cs T) (hT : T ≠ E) : v.ownBlock ≠ some n5 := by
 intro e
 obtain ⟨h0, ⟨rfl, hn⟩ | ⟨g, c', cur, rfl, hg, hh, -⟩⟩ := h
 ·cases e
 ·have e : some g = some n5 := e
  injection e with e
  subst e
  have hk : w.heap[g]? = some (.cells cs T (0, 0)) := hk
  rw [hh] at hk
  injection hk with hk
  injection hk with _ hk _
  exact hT hk.symm
theorem tn_setRow (w : World) (g : Nat) (cs : Array Value) : Tn (fun j => j = g) w (w.setRow g cs) :=
 ⟨rfl, rfl, rfl, by show _ ≤ (w.heap.modify g _).size; rw [Array.size_modify]; exact Nat.le_refl _, fun k _ hn => setRow_other _ _ _ _ (by omega)⟩
theorem wpAnyH_apart3N {P : Program} {md : Region.Mode} {ops : Array Oper} {Q : Exit → Act → World → Prop} {S : World → Prop} {fuel : Nat} {L : Array Bool} {a : Act} {w : World} {a1 : Option Addr → Nat → Option Addr → Nat → Option Addr → Nat → Nat → Act} (F : Option Addr → Nat → Option Addr → Nat → Option Addr → Nat → Nat → World → Prop)
  (take : ∀ R : Act → World → Prop, (∀ p1 c1 p2 c2 p3 c3 n w', F p1 c1 p2 c2 p3 c3 n w' → R (a1 p1 c1 p2 c2 p3 c3 n) w') → wpAnyH P md ops (only R) S fuel L a w) (rest : ∀ p1 c1 p2 c2 p3 c3 n w', F p1 c1 p2 c2 p3 c3 n w' → Q .normal (a1 p1 c1 p2 c2 p3 c3 n) w') : wpAnyH P md ops Q S fuel L a w :=
 wpAnyH_mono (fun _ _ _ h => nomatch h.1) (fun ⟨_, _, h⟩ => nomatch h.1) (fun _ _ h => h.2) fuel L a w (take (Q .normal) rest)
set_option maxRecDepth 100000 in
set_option maxHeartbeats 16000000 in
theorem endsLaw {w : World} {S : List Tr} (T : Nat → List Int) (ia : Nat → Option Addr) (ic : Nat → Nat) (hT : ∀ j, j < 3 → U8 w (ia j) (T j) (ic j) ∧ (T j).length ≤ ic j ∧ ic j ≤ 9223372036854775807)
  (D : List Int) (ra : Option Addr) (rc : Nat) (hR : U8 w ra D rc) (hrc : D.length ≤ rc ∧ rc ≤ 9223372036854775807)
  (A : List Int) (aa : Option Addr) (ac : Nat) (hA : U8 w aa A ac) (hac : A.length ≤ ac ∧ ac ≤ 9223372036854775807)
  (sa : Option Addr) (sc : Nat) (hs : TrIn w sa S) (hI : ∀ t ∈ S, I64 t.2.2) (hl : S.length ≤ 9223372036854775807) (rr : Int) (hr0 : 0 ≤ rr) (hr1 : rr < 256) :
  Calls Tryz.prog 5 #[.agg #[.slice (ia 0) (T 0).length (ic 0), .slice (ia 1) (T 1).length (ic 1), .slice (ia 2) (T 2).length (ic 2), .slice ra D.length rc, .slice aa A.length ac, .slice sa S.length sc, .int .u8 rr]] w fun e w' => e = .returned (.bool true) ∧ Below w.heap.size w w' := by
 have HT := Lib.hid hT
 have HR := Lib.hid hR
 have HA := Lib.hid hA
 have HS := Lib.hid hs
 have HI := Lib.hid hI
 obtain ⟨w1, hw1⟩ : ∃ w1, w1 = w.alloc (.cells #[.slice (ia 0) (T 0).length (ic 0), .slice (ia 1) (T 1).length (ic 1), .slice (ia 2) (T 2).length (ic 2), .slice ra D.length rc, .slice aa A.length ac, .slice sa S.length sc, .int .u8 rr] 70) := ⟨_, rfl⟩
 have B1 : Hid (Below w.heap.size w w1) := Lib.hid (by rw [hw1]; exact (Below.refl _ _).alloc (Nat.le_refl _) _)
 have S1 : Hid (Blk w1 w.heap.size #[.slice (ia 0) (T 0).length (ic 0), .slice (ia 1) (T 1).length (ic 1), .slice (ia 2) (T 2).length (ic 2), .slice ra D.length rc, .slice aa A.length ac, .slice sa S.length sc, .int .u8 rr] 70) := Lib.hid (by rw [hw1]; exact Blk.new _ _ _)
 have HW1 := Lib.hid hw1
 clear hT hR hA hs hI hw1
 go_enter Tryz.func5, Tryz.ntmps5
 go_wp2_with fail
 rw [← HW1.out]
 refine (sanity_any w1).mono ?_
 rintro e w2 ⟨rfl, hb2⟩
 have B2 : Hid (Below w.heap.size w w2) := Lib.hid (B1.out.trans (hb2.mono B1.out.size))
 have S2 := Lib.hid (S1.out.below hb2 S1.out.lt)
 clear hb2
 obtain ⟨S', hS'⟩ : ∃ S' : World → Prop, S' = fun W => Blk W w.heap.size #[.slice (ia 0) (T 0).length (ic 0), .slice (ia 1) (T 1).length (ic 1), .slice (ia 2) (T 2).length (ic 2), .slice ra D.length rc, .slice aa A.length ac, .slice sa S.length sc, .int .u8 rr] 70 := ⟨_, rfl⟩
 have LDD : Hid (∀ W, S' W → Blk W w.heap.size #[.slice (ia 0) (T 0).length (ic 0), .slice (ia 1) (T 1).length (ic 1), .slice (ia 2) (T 2).length (ic 2), .slice ra D.length rc, .slice aa A.length ac, .slice sa S.length sc, .int .u8 rr] 70) := Lib.hid (by rw [hS']; exact fun W h => h)
 have UU : Hid (∀ W, Below w2.heap.size w2 W → S' W) := Lib.hid (by rw [hS']; exact fun W h => S2.out.below h S2.out.lt)
 have hHeld := UU.out w2.drew (bdrewN (Below.refl _ _) 1)
 clear hS'
 go_wp2_with fail
 have SD : Hid (TrIn w2.drew sa S) := Lib.hid ((HS.out.below B2.out).below (bdrewN (Below.refl _ _) 1))
 refine wp_region_held_drew (S := S') (by kernel_rfl) hHeld (fun _ => ?_)
 apply wpAnyH_apartVN (fun v n W => Below w2.heap.size w2 W ∧ ∃ g : Lg, n = g.xb ∧ w.heap.size ≤ g.B0 ∧ LibM g (fun _ _ => False) W 0 (trs S) [] 0 (Lb.start (rotL D) (srt (ttl (T 0))) (srt (ttl (T 1))) (srt (ttl (T 2)))) ∧ w2.heap.size ≤ g.B0)
 case take =>
  intro R hR
  refine tk 0 (v := ?_) rfl hHeld ?_ ?_; rotate_left
  ·(intro w hSw; (have bk := LDD.out w hSw; have c0 := bk.cell 0; have c1 := bk.cell 1; have c2 := bk.cell 2; have c3 := bk.cell 3; have c5 := bk.cell 5; clear bk); go_simp; try (with_reducible rfl))
  try simp only [gZ]
  refine tk 1 (v := ?_) rfl hHeld ?_ ?_; rotate_left
  ·(intro w hSw; (have bk := LDD.out w hSw; have c0 := bk.cell 0; have c1 := bk.cell 1; have c2 := bk.cell 2; have c3 := bk.cell 3; have c5 := bk.cell 5; clear bk); go_simp; try (with_reducible rfl))
  try simp only [gZ]
  refine tk 2 (v := ?_) rfl hHeld ?_ ?_; rotate_left
  ·(intro w hSw; (have bk := LDD.out w hSw; have c0 := bk.cell 0; have c1 := bk.cell 1; have c2 := bk.cell 2; have c3 := bk.cell 3; have c5 := bk.cell 5; clear bk); go_simp; try (with_reducible rfl))
  try simp only [gZ]
  refine tk 3 (v := ?_) rfl hHeld ?_ ?_; rotate_left
  ·(intro w hSw; (have bk := LDD.out w hSw; have c0 := bk.cell 0; have c1 := bk.cell 1; have c2 := bk.cell 2; have c3 := bk.cell 3; have c5 := bk.cell 5; clear bk); go_simp; try (with_reducible rfl))
  try simp only [gZ]
  refine tk 4 (v := ?_) rfl hHeld ?_ ?_; rotate_left
  ·(intro w hSw; (have bk := LDD.out w hSw; have c0 := bk.cell 0; have c1 := bk.cell 1; have c2 := bk.cell 2; have c3 := bk.cell 3; have c5 := bk.cell 5; clear bk); go_simp; try (with_reducible rfl))
  try simp only [gZ]
  refine tk 5 (v := ?_) rfl hHeld ?_ ?_; rotate_left
  ·(intro w hSw; (have bk := LDD.out w hSw; have c0 := bk.cell 0; have c1 := bk.cell 1; have c2 := bk.cell 2; have c3 := bk.cell 3; have c5 := bk.cell 5; clear bk); go_simp; try (with_reducible rfl))
  try simp only [gZ]
  refine wpAnyH_one (i := 6) rfl (by kernel_rfl) (by rfl) ?_
  go_simp
  refine (troubles_any SD.out HI.out hl).mono ?_
  rintro e W3 ⟨v3, rfl, hv3, hb3⟩
  have V3 := Lib.hid hv3
  have Q3 : Hid (Below w2.heap.size w2 W3) := Lib.hid ((bdrewN (Below.refl _ _) 1).trans hb3)
  clear hv3 hb3
  have hHeld := UU.out W3 Q3.out
  refine ⟨hHeld, ?_⟩
  refine wpAnyH_one (i := 7) rfl (by kernel_rfl) (by rfl) ?_
  go_simp
  have C3 : Hid (Below w.heap.size w W3) := Lib.hid (B2.out.trans (Q3.out.mono B2.out.size))
  refine (begin_any T ia ic (fun j hj => ⟨(HT.out j hj).1.below C3.out (Nat.le_refl _), (HT.out j hj).2⟩) D ra rc (HR.out.below C3.out (Nat.le_refl _)) hrc V3.out.sl (by unfold trs; simp; omega)).mono ?_
  rintro e W4 ⟨g, rfl, hg, hL, hb4⟩
  have Q4 : Hid (Below w2.heap.size w2 W4) := Lib.hid (Q3.out.trans (hb4.mono Q3.out.size))
  have L4 := Lib.hid hL
  have G4 := Lib.hid hg
  clear hb4 hL hg
  have hHeld := UU.out W4 Q4.out
  refine ⟨hHeld, ?_⟩
  obtain ⟨n4, hn4⟩ : ∃ n4, n4 = g.xb := ⟨_, rfl⟩
  rw [← hn4]
  have N4 := Lib.hid hn4
  clear hn4
  refine tk 8 (v := ?_) rfl hHeld ?_ ?_; rotate_left
  ·(intro w hSw; clear hSw; go_simp; try (with_reducible rfl))
  try simp only [gZ]
  exact wpAnyH_done (by kernel_rfl) ⟨rfl, hR v3 n4 W4 ⟨Q4.out, g, N4.out, by rw [G4.out]; exact C3.out.size, L4.out, by rw [G4.out]; exact Q3.out.size⟩⟩ _
 case rest =>
  rintro v n W ⟨hb, g, rfl, hg, hL, hg2⟩
  have Q4 := Lib.hid hb
  have L4 := Lib.hid hL
  have C4 : Hid (Below w.heap.size w W) := Lib.hid (B2.out.trans (hb.mono B2.out.size))
  have A4 := Lib.hid (HA.out.below C4.out (Nat.le_refl _))
  have S4 := Lib.hid (S2.out.below hb S2.out.lt)
  clear hb hL
  go_wp2_with fail
  refine (right_any L4.out).mono ?_
  rintro e W5 ⟨rfl, rfl⟩
  go_wp2_with fail
  have hr6 : (rotL D).length ≤ 6 := by unfold rotL; simp; omega
  have hrI := rotL_is D
  have hk0 : KS (Lb.start (rotL D) (srt (ttl (T 0))) (srt (ttl (T 1))) (srt (ttl (T 2)))).init (Lb.start (rotL D) (srt (ttl (T 0))) (srt (ttl (T 1))) (srt (ttl (T 2)))) := KS.start hrI hr6 (sortedI_merge _) (sortedI_merge _) (sortedI_merge _)
  have hi0 : ∀ L, ((Lb.start (rotL D) (srt (ttl (T 0))) (srt (ttl (T 1))) (srt (ttl (T 2)))).init L).length ≤ 20000 := fun L => by
   have h5 : ∀ j, (srt (ttl (T j))).length ≤ 20000 := fun j => by unfold srt; rw [List.length_mergeSort]; unfold ttl; simp; omega
   unfold Lb.init Lb.start
   dsimp only
   split
   ·exact h5 0
   ·split
    ·exact h5 1
    ·exact h5 2
  obtain ⟨r0, er0⟩ : ∃ r0, r0 = rotL D := ⟨_, rfl⟩
  obtain ⟨h3, eh3⟩ : ∃ h3, h3 = srt (ttl (T 0)) := ⟨_, rfl⟩
  obtain ⟨h4, eh4⟩ : ∃ h4, h4 = srt (ttl (T 1)) := ⟨_, rfl⟩
  obtain ⟨h1, eh1⟩ : ∃ h1, h1 = srt (ttl (T 2)) := ⟨_, rfl⟩
  rw [← er0, ← eh3, ← eh4, ← eh1] at L4 hk0 hi0
  have K0 := Lib.hid hk0
  have I0 := Lib.hid hi0
  clear er0 eh3 eh4 eh1 hk0 hi0 hr6 hrI
  have H5 : Hid (RunJ W5 g (trs S) (Lb.start r0 h3 h4 h1).init (fun _ => False) 0 (fun s P => s = Lb.start r0 h3 h4 h1 ∧ P = []) W5) := Lib.hid ⟨_, 0, 0, [], _, L4.out, K0.out, (fun p hp => by cases hp), Nat.le_refl _, Nat.le_refl _, Nat.le_refl _, fun i k h => h.elim, Tn.refl _ _, rfl, rfl⟩
  obtain ⟨S'', hS''⟩ : ∃ S'' : World → Prop, S'' = fun W => LibC g W := ⟨_, rfl⟩
  have LD5 : Hid (∀ W, S'' W → LibC g W) := Lib.hid (by rw [hS'']; exact fun W h => h)
  have UU : Hid (∀ W, Below W5.heap.size W5 W → S'' W) := Lib.hid (by rw [hS'']; exact fun W h => (L4.out.up' h).cells)
  have Ld := Lib.hid L4.out
  have ED : Hid (Below W5.heap.size W5 W5.drew) := Lib.hid (bdrewN (Below.refl _ _) 1)
  have HLE : Hid (∀ L, IsL L → ((Lb.start r0 h3 h4 h1).ls L).here.length ≤ 100000) := Lib.hid fun L hL => by have := I0.out L; unfold Lb.init at this; omega
  have hHeld := UU.out _ ED.out
  clear hS''
  go_wp2_with fail
  refine wp_region_sp 23 S'' (by kernel_rfl) (by kernel_rfl) ?_
  simp only [List.take_succ_cons, List.take_zero]
  apply wpAnyH_apart3N (fun a1 c1 a2 c2 a3 c3 n W => Below W5.heap.size W5 W ∧ W5.heap.size ≤ n ∧ Blk W n #[.slice none 0 0, .slice none 0 0, .slice none 0 0] 79 ∧
   W.ownsRow W5.heap.size 3 1 (.slice a1 ((Lb.start r0 h3 h4 h1).ls 3).here.length c1) ((Lb.start r0 h3 h4 h1).ls 3).here.length (((Lb.start r0 h3 h4 h1).ls 3).here.map (Value.int .i64)) ∧
   W.ownsRow W5.heap.size 3 1 (.slice a2 ((Lb.start r0 h3 h4 h1).ls 4).here.length c2) ((Lb.start r0 h3 h4 h1).ls 4).here.length (((Lb.start r0 h3 h4 h1).ls 4).here.map (Value.int .i64)) ∧
   W.ownsRow W5.heap.size 3 1 (.slice a3 ((Lb.start r0 h3 h4 h1).ls 1).here.length c3) ((Lb.start r0 h3 h4 h1).ls 1).here.length (((Lb.start r0 h3 h4 h1).ls 1).here.map (Value.int .i64)))
  case take =>
   intro R hR
   refine tk 0 (v := ?_) rfl hHeld ?_ ?_; rotate_left
   ·(intro w hSw; (have C := LD5.out w hSw; have x2 := C.x2; have l0 := C.l0; have l1 := C.l1; have l2 := C.l2; clear C); go_simp; try (with_reducible rfl))
   try simp only [gZ]
   refine tk 1 (v := ?_) rfl hHeld ?_ ?_; rotate_left
   ·(intro w hSw; (have C := LD5.out w hSw; have x2 := C.x2; have l0 := C.l0; have l1 := C.l1; have l2 := C.l2; clear C); go_simp; try (with_reducible rfl))
   try simp only [gZ]
   refine tk 2 (v := ?_) rfl hHeld ?_ ?_; rotate_left
   ·(intro w hSw; (have C := LD5.out w hSw; have x2 := C.x2; have l0 := C.l0; have l1 := C.l1; have l2 := C.l2; clear C); go_simp; try (with_reducible rfl))
   try simp only [gZ]
   refine tk 3 (v := ?_) rfl hHeld ?_ ?_; rotate_left
   ·(intro w hSw; (have C := LD5.out w hSw; have x2 := C.x2; have l0 := C.l0; have l1 := C.l1; have l2 := C.l2; clear C); go_simp; try (with_reducible rfl))
   try simp only [gZ]
   refine tk 4 (v := ?_) rfl hHeld ?_ ?_; rotate_left
   ·(intro w hSw; (have C := LD5.out w hSw; have x2 := C.x2; have l0 := C.l0; have l1 := C.l1; have l2 := C.l2; clear C); go_simp; try (with_reducible rfl))
   try simp only [gZ]
   refine tk 5 (v := ?_) rfl hHeld ?_ ?_; rotate_left
   ·(intro w hSw; (have C := LD5.out w hSw; have x2 := C.x2; have l0 := C.l0; have l1 := C.l1; have l2 := C.l2; clear C); go_simp; try (with_reducible rfl))
   try simp only [gZ]
   refine tk 7 (v := ?_) rfl hHeld ?_ ?_; rotate_left
   ·(intro w hSw; (have C := LD5.out w hSw; have x2 := C.x2; have l0 := C.l0; have l1 := C.l1; have l2 := C.l2; clear C); go_simp; try (with_reducible rfl))
   try simp only [gZ]
   refine tk 8 (v := ?_) rfl hHeld ?_ ?_; rotate_left
   ·(intro w hSw; (have C := LD5.out w hSw; have x2 := C.x2; have l0 := C.l0; have l1 := C.l1; have l2 := C.l2; clear C); go_simp; try (with_reducible rfl))
   try simp only [gZ]
   refine tk 9 (v := ?_) rfl hHeld ?_ ?_; rotate_left
   ·(intro w hSw; (have C := LD5.out w hSw; have x2 := C.x2; have l0 := C.l0; have l1 := C.l1; have l2 := C.l2; clear C); go_simp; try (with_reducible rfl))
   try simp only [gZ]
   refine tk 10 (v := ?_) rfl hHeld ?_ ?_; rotate_left
   ·(intro w hSw; (have C := LD5.out w hSw; have x2 := C.x2; have l0 := C.l0; have l1 := C.l1; have l2 := C.l2; clear C); go_simp; try (with_reducible rfl))
   try simp only [gZ]
   refine tk 11 (v := ?_) rfl hHeld ?_ ?_; rotate_left
   ·(intro w hSw; (have C := LD5.out w hSw; have x2 := C.x2; have l0 := C.l0; have l1 := C.l1; have l2 := C.l2; clear C); go_simp; try (with_reducible rfl))
   try simp only [gZ]
   refine tk 12 (v := ?_) rfl hHeld ?_ ?_; rotate_left
   ·(intro w hSw; (have C := LD5.out w hSw; have x2 := C.x2; have l0 := C.l0; have l1 := C.l1; have l2 := C.l2; clear C); go_simp; try (with_reducible rfl))
   try simp only [gZ]
   refine tk 14 (v := ?_) rfl hHeld ?_ ?_; rotate_left
   ·(intro w hSw; (have C := LD5.out w hSw; have x2 := C.x2; have l0 := C.l0; have l1 := C.l1; have l2 := C.l2; clear C); go_simp; try (with_reducible rfl))
   try simp only [gZ]
   refine tk 15 (v := ?_) rfl hHeld ?_ ?_; rotate_left
   ·(intro w hSw; (have C := LD5.out w hSw; have x2 := C.x2; have l0 := C.l0; have l1 := C.l1; have l2 := C.l2; clear C); go_simp; try (with_reducible rfl))
   try simp only [gZ]
   refine tk 16 (v := ?_) rfl hHeld ?_ ?_; rotate_left
   ·(intro w hSw; (have C := LD5.out w hSw; have x2 := C.x2; have l0 := C.l0; have l1 := C.l1; have l2 := C.l2; clear C); go_simp; try (with_reducible rfl))
   try simp only [gZ]
   refine tk 17 (v := ?_) rfl hHeld ?_ ?_; rotate_left
   ·(intro w hSw; (have C := LD5.out w hSw; have x2 := C.x2; have l0 := C.l0; have l1 := C.l1; have l2 := C.l2; clear C); go_simp; try (with_reducible rfl))
   try simp only [gZ]
   refine tk 18 (v := ?_) rfl hHeld ?_ ?_; rotate_left
   ·(intro w hSw; (have C := LD5.out w hSw; have x2 := C.x2; have l0 := C.l0; have l1 := C.l1; have l2 := C.l2; clear C); go_simp; try (with_reducible rfl))
   try simp only [gZ]
   refine tk 19 (v := ?_) rfl hHeld ?_ ?_; rotate_left
   ·(intro w hSw; (have C := LD5.out w hSw; have x2 := C.x2; have l0 := C.l0; have l1 := C.l1; have l2 := C.l2; clear C); go_simp; try (with_reducible rfl))
   try simp only [gZ]
   refine wpAnyH_two (i := 6) (j := 22) rfl rfl (by kernel_rfl) (by rfl) (by rfl) ?_ ?_
   ·skip
    go_simp
    refine (LibM.lhere (L := 3) (.inl rfl) (Ld.out.up' ED.out) (HLE.out 3 (.inl rfl))).mono ?_
    rintro e V1 ⟨v1, rfl, hr1, hb1⟩
    obtain ⟨a1, c1, rfl, -⟩ := row_cellz hr1
    have E1 := Lib.hid (ED.out.trans (hb1.mono ED.out.size))
    have G1 := Lib.hid (row_mono hr1 (B' := W5.heap.size) ED.out.size)
    have hHeld := UU.out _ E1.out
    clear hr1 hb1
    refine ⟨hHeld, ?_⟩
    refine wpAnyH_two (i := 13) (j := 22) rfl rfl (by kernel_rfl) (by rfl) (by rfl) ?_ ?_
    ·skip
     go_simp
     refine (LibM.lhere (L := 4) (.inr (.inl rfl)) (Ld.out.up' E1.out) (HLE.out 4 (.inr (.inl rfl)))).mono ?_
     rintro e V2 ⟨v2, rfl, hr2, hb2⟩
     obtain ⟨a2, c2, rfl, -⟩ := row_cellz hr2
     have E2 := Lib.hid (E1.out.trans (hb2.mono E1.out.size))
     have F2G1 := Lib.hid ((Tn.of_below (F := fun _ => False) hb2).row G1.out (fun _ _ h => h))
     have G2 := Lib.hid (row_mono hr2 (B' := W5.heap.size) E1.out.size)
     have hHeld := UU.out _ E2.out
     clear hr2 hb2
     refine ⟨hHeld, ?_⟩
     refine wpAnyH_two (i := 20) (j := 22) rfl rfl (by kernel_rfl) (by rfl) (by rfl) ?_ ?_
     ·skip
      go_simp
      refine (LibM.lhere (L := 1) (.inr (.inr rfl)) (Ld.out.up' E2.out) (HLE.out 1 (.inr (.inr rfl)))).mono ?_
      rintro e V3 ⟨v3, rfl, hr3, hb3⟩
      obtain ⟨a3, c3, rfl, -⟩ := row_cellz hr3
      have E3 := Lib.hid (E2.out.trans (hb3.mono E2.out.size))
      have F3F2G1 := Lib.hid ((Tn.of_below (F := fun _ => False) hb3).row F2G1.out (fun _ _ h => h))
      have F3G2 := Lib.hid ((Tn.of_below (F := fun _ => False) hb3).row G2.out (fun _ _ h => h))
      have G3 := Lib.hid (row_mono hr3 (B' := W5.heap.size) E2.out.size)
      have hHeld := UU.out _ E3.out
      clear hr3 hb3
      refine ⟨hHeld, ?_⟩
      refine tk 21 (v := ?_) rfl hHeld ?_ ?_; rotate_left
      ·(intro w hSw; clear hSw; go_simp; try (with_reducible rfl))
      try simp only [gZ]
      refine wpAnyH_one (i := 22) rfl (by kernel_rfl) (by rfl) ?_
      go_simp
      obtain ⟨V4, hV4⟩ : ∃ V, V = V3.alloc (.cells #[.slice none 0 0, .slice none 0 0, .slice none 0 0] 79) := ⟨_, rfl⟩
      rw [← hV4]
      have hb4 : Below V3.heap.size V3 V4 := by rw [hV4]; exact (Below.refl _ _).alloc (Nat.le_refl _) _
      have E4 := Lib.hid (E3.out.trans (hb4.mono E3.out.size))
      have F4F3F2G1 := Lib.hid ((Tn.of_below (F := fun _ => False) hb4).row F3F2G1.out (fun _ _ h => h))
      have F4F3G2 := Lib.hid ((Tn.of_below (F := fun _ => False) hb4).row F3G2.out (fun _ _ h => h))
      have F4G3 := Lib.hid ((Tn.of_below (F := fun _ => False) hb4).row G3.out (fun _ _ h => h))
      have K4 : Hid (Blk V4 V3.heap.size #[.slice none 0 0, .slice none 0 0, .slice none 0 0] 79) := Lib.hid (by rw [hV4]; exact Blk.new _ _ _)
      have hw4 := E3.out.size
      obtain ⟨n4, hn4⟩ : ∃ n, n = V3.heap.size := ⟨_, rfl⟩
      rw [← hn4] at K4 hw4 ⊢
      have W4n := Lib.hid hw4
      have hHeld := UU.out _ E4.out
      clear hV4 hb4 hn4 hw4
      refine ⟨hHeld, ?_⟩
      exact wpAnyH_done (by kernel_rfl) ⟨rfl, hR a1 c1 a2 c2 a3 c3 n4 V4 ⟨E4.out, W4n.out, K4.out, F4F3F2G1.out, F4F3G2.out, F4G3.out⟩⟩ _
     ·skip
      go_simp
      obtain ⟨V5, hV5⟩ : ∃ V, V = V2.alloc (.cells #[.slice none 0 0, .slice none 0 0, .slice none 0 0] 79) := ⟨_, rfl⟩
      rw [← hV5]
      have hb5 : Below V2.heap.size V2 V5 := by rw [hV5]; exact (Below.refl _ _).alloc (Nat.le_refl _) _
      have E5 := Lib.hid (E2.out.trans (hb5.mono E2.out.size))
      have F5F2G1 := Lib.hid ((Tn.of_below (F := fun _ => False) hb5).row F2G1.out (fun _ _ h => h))
      have F5G2 := Lib.hid ((Tn.of_below (F := fun _ => False) hb5).row G2.out (fun _ _ h => h))
      have K5 : Hid (Blk V5 V2.heap.size #[.slice none 0 0, .slice none 0 0, .slice none 0 0] 79) := Lib.hid (by rw [hV5]; exact Blk.new _ _ _)
      have hw5 := E2.out.size
      obtain ⟨n5, hn5⟩ : ∃ n, n = V2.heap.size := ⟨_, rfl⟩
      rw [← hn5] at K5 hw5 ⊢
      have W5n := Lib.hid hw5
      have hHeld := UU.out _ E5.out
      clear hV5 hb5 hn5 hw5
      refine ⟨hHeld, ?_⟩
      refine wpAnyH_one (i := 20) rfl (by kernel_rfl) (by rfl) ?_
      go_simp
      refine (LibM.lhere (L := 1) (.inr (.inr rfl)) (Ld.out.up' E5.out) (HLE.out 1 (.inr (.inr rfl)))).mono ?_
      rintro e V6 ⟨v6, rfl, hr6, hb6⟩
      obtain ⟨a6, c6, rfl, -⟩ := row_cellz hr6
      have E6 := Lib.hid (E5.out.trans (hb6.mono E5.out.size))
      have F6F5F2G1 := Lib.hid ((Tn.of_below (F := fun _ => False) hb6).row F5F2G1.out (fun _ _ h => h))
      have F6F5G2 := Lib.hid ((Tn.of_below (F := fun _ => False) hb6).row F5G2.out (fun _ _ h => h))
      have G6 := Lib.hid (row_mono hr6 (B' := W5.heap.size) E5.out.size)
      have K6 := Lib.hid (K5.out.below hb6 K5.out.lt)
      have hHeld := UU.out _ E6.out
      clear hr6 hb6
      refine ⟨hHeld, ?_⟩
      refine tk 21 (v := ?_) rfl hHeld ?_ ?_; rotate_left
      ·(intro w hSw; clear hSw; go_simp; try (with_reducible rfl))
      try simp only [gZ]
      exact wpAnyH_done (by kernel_rfl) ⟨rfl, hR a1 c1 a2 c2 a6 c6 n5 V6 ⟨E6.out, W5n.out, K6.out, F6F5F2G1.out, F6F5G2.out, G6.out⟩⟩ _
    ·skip
     go_simp
     obtain ⟨V7, hV7⟩ : ∃ V, V = V1.alloc (.cells #[.slice none 0 0, .slice none 0 0, .slice none 0 0] 79) := ⟨_, rfl⟩
     rw [← hV7]
     have hb7 : Below V1.heap.size V1 V7 := by rw [hV7]; exact (Below.refl _ _).alloc (Nat.le_refl _) _
     have E7 := Lib.hid (E1.out.trans (hb7.mono E1.out.size))
     have F7G1 := Lib.hid ((Tn.of_below (F := fun _ => False) hb7).row G1.out (fun _ _ h => h))
     have K7 : Hid (Blk V7 V1.heap.size #[.slice none 0 0, .slice none 0 0, .slice none 0 0] 79) := Lib.hid (by rw [hV7]; exact Blk.new _ _ _)
     have hw7 := E1.out.size
     obtain ⟨n7, hn7⟩ : ∃ n, n = V1.heap.size := ⟨_, rfl⟩
     rw [← hn7] at K7 hw7 ⊢
     have W7n := Lib.hid hw7
     have hHeld := UU.out _ E7.out
     clear hV7 hb7 hn7 hw7
     refine ⟨hHeld, ?_⟩
     refine wpAnyH_one (i := 13) rfl (by kernel_rfl) (by rfl) ?_
     go_simp
     refine (LibM.lhere (L := 4) (.inr (.inl rfl)) (Ld.out.up' E7.out) (HLE.out 4 (.inr (.inl rfl)))).mono ?_
     rintro e V8 ⟨v8, rfl, hr8, hb8⟩
     obtain ⟨a8, c8, rfl, -⟩ := row_cellz hr8
     have E8 := Lib.hid (E7.out.trans (hb8.mono E7.out.size))
     have F8F7G1 := Lib.hid ((Tn.of_below (F := fun _ => False) hb8).row F7G1.out (fun _ _ h => h))
     have G8 := Lib.hid (row_mono hr8 (B' := W5.heap.size) E7.out.size)
     have K8 := Lib.hid (K7.out.below hb8 K7.out.lt)
     have hHeld := UU.out _ E8.out
     clear hr8 hb8
     refine ⟨hHeld, ?_⟩
     refine wpAnyH_one (i := 20) rfl (by kernel_rfl) (by rfl) ?_
     go_simp
     refine (LibM.lhere (L := 1) (.inr (.inr rfl)) (Ld.out.up' E8.out) (HLE.out 1 (.inr (.inr rfl)))).mono ?_
     rintro e V9 ⟨v9, rfl, hr9, hb9⟩
     obtain ⟨a9, c9, rfl, -⟩ := row_cellz hr9
     have E9 := Lib.hid (E8.out.trans (hb9.mono E8.out.size))
     have F9F8F7G1 := Lib.hid ((Tn.of_below (F := fun _ => False) hb9).row F8F7G1.out (fun _ _ h => h))
     have F9G8 := Lib.hid ((Tn.of_below (F := fun _ => False) hb9).row G8.out (fun _ _ h => h))
     have G9 := Lib.hid (row_mono hr9 (B' := W5.heap.size) E8.out.size)
     have K9 := Lib.hid (K8.out.below hb9 K8.out.lt)
     have hHeld := UU.out _ E9.out
     clear hr9 hb9
     refine ⟨hHeld, ?_⟩
     refine tk 21 (v := ?_) rfl hHeld ?_ ?_; rotate_left
     ·(intro w hSw; clear hSw; go_simp; try (with_reducible rfl))
     try simp only [gZ]
     exact wpAnyH_done (by kernel_rfl) ⟨rfl, hR a1 c1 a8 c8 a9 c9 n7 V9 ⟨E9.out, W7n.out, K9.out, F9F8F7G1.out, F9G8.out, G9.out⟩⟩ _
   ·skip
    go_simp
    obtain ⟨V10, hV10⟩ : ∃ V, V = (W5.alloc (.cells #[.slice none 0 0, .slice none 0 0, .slice none 0 0] 79)).drew := ⟨_, rfl⟩
    rw [← hV10]
    have E10 : Hid (Below W5.heap.size W5 V10) := Lib.hid (by rw [hV10]; exact bdrewN ((Below.refl _ _).alloc (Nat.le_refl _) _) 1)
    have K10 : Hid (Blk V10 W5.heap.size #[.slice none 0 0, .slice none 0 0, .slice none 0 0] 79) := Lib.hid (by rw [hV10]; exact (Blk.new _ _ _).drewN 1)
    have hw10 := Nat.le_refl W5.heap.size
    obtain ⟨n10, hn10⟩ : ∃ n, n = W5.heap.size := ⟨_, rfl⟩
    have W10n : Hid (W5.heap.size ≤ n10) := Lib.hid (by rw [hn10]; exact Nat.le_refl _)
    rw [← hn10] at K10
    (try rw [← hn10])
    have hHeld := UU.out _ E10.out
    clear hV10 hn10 hw10
    refine ⟨hHeld, ?_⟩
    refine wpAnyH_one (i := 6) rfl (by kernel_rfl) (by rfl) ?_
    go_simp
    refine (LibM.lhere (L := 3) (.inl rfl) (Ld.out.up' E10.out) (HLE.out 3 (.inl rfl))).mono ?_
    rintro e V11 ⟨v11, rfl, hr11, hb11⟩
    obtain ⟨a11, c11, rfl, -⟩ := row_cellz hr11
    have E11 := Lib.hid (E10.out.trans (hb11.mono E10.out.size))
    have G11 := Lib.hid (row_mono hr11 (B' := W5.heap.size) E10.out.size)
    have K11 := Lib.hid (K10.out.below hb11 K10.out.lt)
    have hHeld := UU.out _ E11.out
    clear hr11 hb11
    refine ⟨hHeld, ?_⟩
    refine wpAnyH_one (i := 13) rfl (by kernel_rfl) (by rfl) ?_
    go_simp
    refine (LibM.lhere (L := 4) (.inr (.inl rfl)) (Ld.out.up' E11.out) (HLE.out 4 (.inr (.inl rfl)))).mono ?_
    rintro e V12 ⟨v12, rfl, hr12, hb12⟩
    obtain ⟨a12, c12, rfl, -⟩ := row_cellz hr12
    have E12 := Lib.hid (E11.out.trans (hb12.mono E11.out.size))
    have F12G11 := Lib.hid ((Tn.of_below (F := fun _ => False) hb12).row G11.out (fun _ _ h => h))
    have G12 := Lib.hid (row_mono hr12 (B' := W5.heap.size) E11.out.size)
    have K12 := Lib.hid (K11.out.below hb12 K11.out.lt)
    have hHeld := UU.out _ E12.out
    clear hr12 hb12
    refine ⟨hHeld, ?_⟩
    refine wpAnyH_one (i := 20) rfl (by kernel_rfl) (by rfl) ?_
    go_simp
    refine (LibM.lhere (L := 1) (.inr (.inr rfl)) (Ld.out.up' E12.out) (HLE.out 1 (.inr (.inr rfl)))).mono ?_
    rintro e V13 ⟨v13, rfl, hr13, hb13⟩
    obtain ⟨a13, c13, rfl, -⟩ := row_cellz hr13
    have E13 := Lib.hid (E12.out.trans (hb13.mono E12.out.size))
    have F13F12G11 := Lib.hid ((Tn.of_below (F := fun _ => False) hb13).row F12G11.out (fun _ _ h => h))
    have F13G12 := Lib.hid ((Tn.of_below (F := fun _ => False) hb13).row G12.out (fun _ _ h => h))
    have G13 := Lib.hid (row_mono hr13 (B' := W5.heap.size) E12.out.size)
    have K13 := Lib.hid (K12.out.below hb13 K12.out.lt)
    have hHeld := UU.out _ E13.out
    clear hr13 hb13
    refine ⟨hHeld, ?_⟩
    refine tk 21 (v := ?_) rfl hHeld ?_ ?_; rotate_left
    ·(intro w hSw; clear hSw; go_simp; try (with_reducible rfl))
    try simp only [gZ]
    exact wpAnyH_done (by kernel_rfl) ⟨rfl, hR a11 c11 a12 c12 a13 c13 n10 V13 ⟨E13.out, W10n.out, K13.out, F13F12G11.out, F13G12.out, G13.out⟩⟩ _
  case rest =>
   rintro a1 c1 a2 c2 a3 c3 n5 W ⟨hb, hn, hK, q1, q2, q3⟩
   simp only [endN, List.drop_succ_cons, List.drop_zero, Act.put, List.setIfInBounds_toArray, List.set_cons_zero, List.set_cons_succ]
   have EW := Lib.hid hb
   have NW := Lib.hid hn
   have KW := Lib.hid hK
   have Q1 := Lib.hid q1
   have Q2 := Lib.hid q2
   have Q3 := Lib.hid q3
   have z1 := row_ne q1 hK (by decide)
   have z2 := row_ne q2 hK (by decide)
   have z3 := row_ne q3 hK (by decide)
   obtain ⟨W7, hW7⟩ : ∃ W7, W7 = W.setRow n5 #[.slice a1 ((Lb.start r0 h3 h4 h1).ls 3).here.length c1, .slice a2 ((Lb.start r0 h3 h4 h1).ls 4).here.length c2, .slice a3 ((Lb.start r0 h3 h4 h1).ls 1).here.length c3] := ⟨_, rfl⟩
   have T7 : Tn (fun j => j = n5) W W7 := by rw [hW7]; exact tn_setRow W n5 _
   have B7 : Hid (Below W5.heap.size W5 W7) := Lib.hid (by rw [hW7]; exact belowS hb hn)
   have K7 : Hid (Blk W7 n5 #[.slice a1 ((Lb.start r0 h3 h4 h1).ls 3).here.length c1, .slice a2 ((Lb.start r0 h3 h4 h1).ls 4).here.length c2, .slice a3 ((Lb.start r0 h3 h4 h1).ls 1).here.length c3] 79) := Lib.hid (by rw [hW7]; exact setRow_heap _ _ _ _ _ _ hK)
   have U1 := Lib.hid (T7.row q1 (fun k e e' => z1 (e' ▸ e)))
   have U2 := Lib.hid (T7.row q2 (fun k e e' => z2 (e' ▸ e)))
   have U3 := Lib.hid (T7.row q3 (fun k e e' => z3 (e' ▸ e)))
   have HW7 := Lib.hid hW7
   have R7 := Lib.hid (H5.out.keep B7.out)
   obtain ⟨DD, hDD⟩ : ∃ DD : Nat → Prop, DD = (fun k => False ∨ (W5.heap.size ≤ k ∧ k < W7.heap.size)) := ⟨_, rfl⟩
   rw [← hDD] at R7
   have HDD := Lib.hid hDD
   clear hDD
   have c4 := (S4.out.below B7.out S4.out.lt).cell 4
   have A7 := Lib.hid (A4.out.below B7.out (Nat.le_refl _))
   clear hb hn hK q1 q2 q3 z1 z2 z3 T7 hW7 hHeld Ld ED HLE UU LD5
   go_wp2_with (first
    | rw [← HW7.out]
    | refine wpList_store_row rfl 79 (.tmp 5) (.tmp 44) rfl n5 #[.slice a1 ((Lb.start r0 h3 h4 h1).ls 3).here.length c1, .slice a2 ((Lb.start r0 h3 h4 h1).ls 4).here.length c2, .slice a3 ((Lb.start r0 h3 h4 h1).ls 1).here.length c3] rfl rfl 79 _ KW.out (by kernel_rfl) rfl (by simp [Value.oneCell']) ?_)
   refine (R7.out.asks (by omega) A aa ac A7.out hac (fun hne b o e => ?_) (Q' := fun _ _ => True) (fun _ _ _ _ _ _ _ _ => trivial)).mono ?_
   ·have := HA.out.at_.resolve_left hne
    obtain ⟨b', o', e', hlt, -⟩ := this
    rw [e] at e'
    injection e' with e'
    injection e' with e1 _
    omega
   rintro e W8 ⟨rfl, hr8⟩
   have R8 := Lib.hid hr8
   clear hr8
   obtain ⟨M, hM, hM12⟩ : ∃ M : Nat, rr % 12 = M ∧ M ≤ 11 := ⟨(rr % 12).toNat, by omega, by omega⟩
   have hwM : IntKind.i64.wrap (M : Int) = M := by rw [IntKind.wrap_i64]; omega
   have SB : Hid (w.heap.size < g.B0) := Lib.hid (by have := S2.out.lt; omega)
   have S7 := Lib.hid (S4.out.below B7.out S4.out.lt)
   have RC : Hid (∀ (g' : Lg) (S' : List Tr) (DD : Nat → Prop) (Q : Lb → List Pc → Prop) (b : Nat) (W : World), g'.B0 = g.B0 → RunJ W7 g' S' (Lb.start r0 h3 h4 h1).init DD b Q W → ∀ (j : Nat) (u : Value), (#[.slice (ia 0) (T 0).length (ic 0), .slice (ia 1) (T 1).length (ic 1), .slice (ia 2) (T 2).length (ic 2), .slice ra D.length rc, .slice aa A.length ac, .slice sa S.length sc, .int .u8 rr] : Array Value)[j]? = some u → W.cell? ⟨w.heap.size, j, none⟩ = some u) := Lib.hid (fun g' S' DD Q b W e h j u hu => h.tn.cell ((S7.out.cell j).trans hu) (fun e' => by have := SB.out; have e' : g'.B0 ≤ w.heap.size ∧ _ := e'; omega))
   go_wp2_with fail
   go_loopw [6] (fun i wr => ∃ (k : Nat), k ≤ M ∧ i = .int .i64 k ∧ RunJ W7 g (trs S) (Lb.start r0 h3 h4 h1).init DD (7 + 836 * k) (fun _ _ => True) wr) (fun i _ => M - (intOf i).toNat)
   case atStart => exact ⟨0, by omega, rfl, R8.out⟩
   case round =>
    obtain ⟨k, hk, rfl, hr⟩ := hrel
    have RK := Lib.hid hr
    clear hr
    have c6 := RC.out g _ _ _ _ wr rfl RK.out 6 _ rfl
    by_cases hgo : k < M
    ·have hki : decide ((k : Int) < M) = true := by simp; omega
     go_wp2_with fail
     refine (round_any (by omega) I0.out (fun _ _ _ => True) (fun _ _ _ _ _ _ _ _ => trivial) (fun _ _ _ _ _ _ _ _ _ _ _ _ _ _ => trivial) RK.out).mono ?_
     rintro e W9 ⟨rfl, hr9⟩
     have R9 := Lib.hid hr9
     clear hr9 c6
     by_cases h3 : k % 3 = 2
     ·have hq : decide ((k : Int) % 3 = 2) = true := by simp; omega
      go_wp2_with fail
      refine (R9.out.finish (by omega) (Q' := fun _ _ => True) (fun _ _ _ _ _ _ _ _ _ _ => trivial)).mono ?_
      rintro e W10 ⟨rfl, hr10⟩
      have R10 := Lib.hid hr10
      clear hr10
      go_wp2_with fail
      go_roundw
      case rel => exact ⟨k + 1, by omega, by go_num, R10.out.weak (by omega) fun _ _ _ _ => trivial⟩
      case measure => simp [intOf]; omega
     ·have hq : decide ((k : Int) % 3 = 2) = false := by simp; omega
      go_wp2_with fail
      go_roundw
      case rel => exact ⟨k + 1, by omega, by go_num, R9.out.weak (by omega) fun _ _ _ _ => trivial⟩
      case measure => simp [intOf]; omega
    ·obtain rfl : k = M := by omega
     go_wp2_with fail
     refine RK.out.netNew.mono ?_
     rintro e W10 ⟨nb, g', rfl, e1, e2, e3, e4, hc, hr10⟩
     have R10 := Lib.hid hr10
     have x3 := hc.x3
     have f3 := hc.f3
     clear hr10 c6 hc
     go_wp2_with fail
     go_loopw [7] (fun i wr => ∃ (j : Nat), j ≤ 40 ∧ i = .int .i64 j ∧ RunJ W7 g' [] (Lb.start r0 h3 h4 h1).init DD (9300 + 836 * j) (QE j) wr) (fun i _ => 40 - (intOf i).toNat)
     case atStart => exact ⟨0, by omega, rfl, R10.out.weak (by omega) fun s P _ hq => by obtain ⟨rfl, -⟩ := hq; exact ⟨by show qcost 1 [] ≤ 24; rw [qcost_nil]; omega, fun e => by omega, fun e => by omega⟩⟩
     case round =>
      obtain ⟨j, hj, rfl, hr⟩ := hrel
      have RJ := Lib.hid hr
      clear hr
      by_cases hj4 : j < 40
      ·have hji : decide ((j : Int) < 40) = true := by simp; omega
       have RD := Lib.hid (round_any (by omega) I0.out (JE j) (fun s P P' n hk _ hq hs => JE.tick hk hq hs) (fun i s P r p n P' _ hk hm hq _ hp hs => JE.del hk hm hq hp hs) RJ.out)
       rw [e1] at RD
       go_wp2_with fail
       refine RD.out.mono ?_
       rintro e W11 ⟨rfl, hr11⟩
       have R11 := Lib.hid (hr11.finish (by omega) (Q' := QE (j + 1)) (fun s P P' ms n hk hq hW hl hs => by
        obtain ⟨i, -, hJ, hi⟩ := hq
        exact QE.fin hk (RE.of hk hJ hi) hW hl hs))
       rw [e1] at R11
       clear hr11 RD
       go_wp2_with fail
       refine R11.out.mono ?_
       rintro e W12 ⟨rfl, hr12⟩
       have R12 := Lib.hid hr12
       clear hr12 R11
       go_wp2_with fail
       go_roundw
       case rel => exact ⟨j + 1, by omega, by go_num, R12.out.weak (by omega) fun _ _ _ h => h⟩
       case measure => simp [intOf]; omega
      ·obtain rfl : j = 40 := by omega
       rw [show ((40 : Nat) : Int) = 40 from rfl]
       have RF : Hid (RunJ W7 g' [] (Lb.start r0 h3 h4 h1).init DD 42740 (fun s _ => Far 6 s) wr) := Lib.hid (RJ.out.weak (by omega) fun s P _ hq => hq.2.2 (by omega))
       clear RJ
       go_upto_block 4 with fail
       go_cut [8, 9] from 76 to 108 (fun s8 s9 W => RunJ W7 g' [] (Lb.start r0 h3 h4 h1).init DD 42740 (fun s _ => Far 6 s) W)
       case first =>
        go_wp2_with fail
        go_loopw [8, 9] (fun i _ wr => ∃ (k : Nat), k ≤ A.length ∧ k ≤ 7 ∧ i = .int .i64 k ∧ RunJ W7 g' [] (Lb.start r0 h3 h4 h1).init DD 42740 (fun s _ => Far 6 s) wr) (fun i _ _ => 7 - (intOf i).toNat)
        case atStart => exact ⟨0, Nat.zero_le _, by omega, rfl, RF.out⟩
        case round =>
         obtain ⟨k, hkA, hk7, rfl, hr⟩ := hrel
         have RT := Lib.hid hr
         have c4' := RC.out g' _ _ _ _ wr e2 hr 4 _ rfl
         have cc := hr.cells
         have x0 := cc.x0
         have a0 := cc.a0
         have a1 := cc.a1
         rw [e1] at x0
         clear hr cc
         by_cases hgo : k < A.length ∧ k < 7
         ·obtain ⟨hlt, h7⟩ := hgo
          obtain ⟨q, hq⟩ : ∃ q : Nat, q = k / 2 := ⟨_, rfl⟩
          have hdi : (k : Int) / 2 = q := by omega
          have hq3 : q ≤ 3 := by omega
          have hwq : IntKind.i64.wrap (1 + q : Int) = 1 + q := by rw [IntKind.wrap_i64]; omega
          have hq0 : (0 : Int) ≤ q := by omega
          clear hq
          by_cases h2 : k % 2 = 0
          ·have hmo : (k : Int) % 2 = 0 := by omega
           go_wp2_with fail
           refine (RT.out.state (a := 1) (.inl rfl) (1 + q : Int) (i64_small (by omega))).mono ?_
           rintro e W20 ⟨rfl, s, P, rfl, hks, hfar⟩
           have hst := far_state hfar hks (a := 1) (.inl rfl) (1 + q : Int)
           obtain ⟨st, est⟩ : ∃ st, st = (s.as 1).state (1 + q : Int) := ⟨_, rfl⟩
           rw [← est] at hst ⊢
           clear est hfar hks
           rcases hst with rfl | rfl | rfl
           ·skip
            go_wp2_with fail
            go_roundw
            case rel => exact ⟨k + 1, by omega, by omega, by go_num, RT.out⟩
            case measure => simp [intOf]; omega
           ·skip
            go_wp2_with fail
            go_roundw
            case rel => exact ⟨k + 1, by omega, by omega, by go_num, RT.out⟩
            case measure => simp [intOf]; omega
           ·skip
            go_wp2_with fail
            go_roundw
            case rel => exact ⟨k + 1, by omega, by omega, by go_num, RT.out⟩
            case measure => simp [intOf]; omega
          ·have hmo : (k : Int) % 2 = 1 := by omega
           go_wp2_with fail
           refine (RT.out.state (a := 2) (.inr rfl) (1 + q : Int) (i64_small (by omega))).mono ?_
           rintro e W20 ⟨rfl, s, P, rfl, hks, hfar⟩
           have hst := far_state hfar hks (a := 2) (.inr rfl) (1 + q : Int)
           obtain ⟨st, est⟩ : ∃ st, st = (s.as 2).state (1 + q : Int) := ⟨_, rfl⟩
           rw [← est] at hst ⊢
           clear est hfar hks
           rcases hst with rfl | rfl | rfl
           ·skip
            go_wp2_with fail
            go_roundw
            case rel => exact ⟨k + 1, by omega, by omega, by go_num, RT.out⟩
            case measure => simp [intOf]; omega
           ·skip
            go_wp2_with fail
            go_roundw
            case rel => exact ⟨k + 1, by omega, by omega, by go_num, RT.out⟩
            case measure => simp [intOf]; omega
           ·skip
            go_wp2_with fail
            go_roundw
            case rel => exact ⟨k + 1, by omega, by omega, by go_num, RT.out⟩
            case measure => simp [intOf]; omega
         ·have hend : k = A.length ∨ (k < A.length ∧ k = 7) := by omega
          clear hgo
          rcases hend with rfl | ⟨hlt0, rfl⟩
          ·go_wp2_with fail
           go_meet
           case rel => exact RT.out
          ·go_wp2_with fail
           go_meet
           case rel => exact RT.out
       case rest =>
        have RG := Lib.hid hcut
        clear hcut
        have SI : Hid (∀ L, IsL L → SortedI ((Lb.start r0 h3 h4 h1).init L)) := Lib.hid fun L hL => (K0.out.li L hL).so
        have LL : Hid (∀ L, IsL L → ((Lb.start r0 h3 h4 h1).init L).length ≤ 1000000) := Lib.hid fun L hL => by have := I0.out L; omega
        have BK : Hid (∀ S' Q b W, RunJ W7 g' S' (Lb.start r0 h3 h4 h1).init DD b Q W → ∀ v xs n, W7.ownsRow W5.heap.size 3 1 v n xs → W.ownsRow W5.heap.size 3 1 v n xs) := Lib.hid (fun S' Q b W h v xs n hr => h.tn.row hr (fun k e e' => e'.2 (by rw [HDD.out]; have := row_lt hr k e; exact .inr this)))
        have BN : Hid (∀ S' Q b W, RunJ W7 g' S' (Lb.start r0 h3 h4 h1).init DD b Q W → Blk W n5 #[.slice a1 ((Lb.start r0 h3 h4 h1).ls 3).here.length c1, .slice a2 ((Lb.start r0 h3 h4 h1).ls 4).here.length c2, .slice a3 ((Lb.start r0 h3 h4 h1).ls 1).here.length c3] 79) := Lib.hid (fun S' Q b W h => h.tn.blk K7.out (fun e' => e'.2 (by rw [HDD.out]; have h1 := K7.out.lt; have h2 := NW.out; exact .inr ⟨h2, h1⟩)))
        go_wp2_with fail
        go_loopw [10] (fun i wr => ∃ (k : Nat), k ≤ 3 ∧ i = .int .i64 k ∧ RunJ W7 g' [] (Lb.start r0 h3 h4 h1).init DD 42740 (fun s _ => Far 6 s) wr) (fun i _ => 3 - (intOf i).toNat)
        case atStart => exact ⟨0, by omega, rfl, RG.out⟩
        case round =>
         obtain ⟨k, hk3, rfl, hr⟩ := hrel
         have RT := Lib.hid hr
         clear hr
         by_cases hgo : k < 3
         ·have h3' : k = 0 ∨ k = 1 ∨ k = 2 := by omega
          clear hk3
          rcases h3' with h | h | h
          ·skip
           subst h
           rw [show ((0 : Nat) : Int) = 0 from rfl]
           obtain ⟨S4', hS4'⟩ : ∃ S4' : World → Prop, S4' = fun W => LibC g' W ∧ Blk W n5 #[.slice a1 ((Lb.start r0 h3 h4 h1).ls 3).here.length c1, .slice a2 ((Lb.start r0 h3 h4 h1).ls 4).here.length c2, .slice a3 ((Lb.start r0 h3 h4 h1).ls 1).here.length c3] 79 := ⟨_, rfl⟩
           have LD6 : Hid (∀ W, S4' W → LibC g' W ∧ Blk W n5 #[.slice a1 ((Lb.start r0 h3 h4 h1).ls 3).here.length c1, .slice a2 ((Lb.start r0 h3 h4 h1).ls 4).here.length c2, .slice a3 ((Lb.start r0 h3 h4 h1).ls 1).here.length c3] 79) := Lib.hid (by rw [hS4']; exact fun W h => h)
           have UU6 : Hid (∀ W, RunJ W7 g' [] (Lb.start r0 h3 h4 h1).init DD 42740 (fun s _ => Far 6 s) W → S4' W) := Lib.hid (by rw [hS4']; exact fun W h => ⟨h.cells, BN.out _ _ _ _ h⟩)
           have RD := Lib.hid (RT.out.up (bdrewN (Below.refl wr.heap.size wr) 1))
           have hHeld := UU6.out _ RD.out
           clear hS4'
           go_wp2_with fail
           refine wp_region_held_drew (S := S4') (by kernel_rfl) hHeld (fun _ => ?_)
           apply wpAnyH_apartV (fun v W => RunJ W7 g' [] (Lb.start r0 h3 h4 h1).init DD 42740 (fun s _ => Far 6 s) W)
           case take =>
            intro R hR
            refine tk 0 (v := ?_) rfl hHeld ?_ ?_; rotate_left
            ·(intro w hSw; (obtain ⟨C, bk⟩ := LD6.out w hSw; have x2 := C.x2; rw [e1] at x2; have l0 := C.l0; have l1 := C.l1; have l2 := C.l2; have b0 := bk.cell 0; have b1 := bk.cell 1; have b2 := bk.cell 2; clear C bk); go_simp; try (with_reducible rfl))
            try simp only [gZ]
            refine tk 1 (v := ?_) rfl hHeld ?_ ?_; rotate_left
            ·(intro w hSw; (obtain ⟨C, bk⟩ := LD6.out w hSw; have x2 := C.x2; rw [e1] at x2; have l0 := C.l0; have l1 := C.l1; have l2 := C.l2; have b0 := bk.cell 0; have b1 := bk.cell 1; have b2 := bk.cell 2; clear C bk); go_simp; try (with_reducible rfl))
            try simp only [gZ]
            refine tk 2 (v := ?_) rfl hHeld ?_ ?_; rotate_left
            ·(intro w hSw; (obtain ⟨C, bk⟩ := LD6.out w hSw; have x2 := C.x2; rw [e1] at x2; have l0 := C.l0; have l1 := C.l1; have l2 := C.l2; have b0 := bk.cell 0; have b1 := bk.cell 1; have b2 := bk.cell 2; clear C bk); go_simp; try (with_reducible rfl))
            try simp only [gZ]
            refine tk 3 (v := ?_) rfl hHeld ?_ ?_; rotate_left
            ·(intro w hSw; (obtain ⟨C, bk⟩ := LD6.out w hSw; have x2 := C.x2; rw [e1] at x2; have l0 := C.l0; have l1 := C.l1; have l2 := C.l2; have b0 := bk.cell 0; have b1 := bk.cell 1; have b2 := bk.cell 2; clear C bk); go_simp; try (with_reducible rfl))
            try simp only [gZ]
            refine tk 4 (v := ?_) rfl hHeld ?_ ?_; rotate_left
            ·(intro w hSw; (obtain ⟨C, bk⟩ := LD6.out w hSw; have x2 := C.x2; rw [e1] at x2; have l0 := C.l0; have l1 := C.l1; have l2 := C.l2; have b0 := bk.cell 0; have b1 := bk.cell 1; have b2 := bk.cell 2; clear C bk); go_simp; try (with_reducible rfl))
            try simp only [gZ]
            refine tk 5 (v := ?_) rfl hHeld ?_ ?_; rotate_left
            ·(intro w hSw; (obtain ⟨C, bk⟩ := LD6.out w hSw; have x2 := C.x2; rw [e1] at x2; have l0 := C.l0; have l1 := C.l1; have l2 := C.l2; have b0 := bk.cell 0; have b1 := bk.cell 1; have b2 := bk.cell 2; clear C bk); go_simp; try (with_reducible rfl))
            try simp only [gZ]
            refine tk 6 (v := ?_) rfl hHeld ?_ ?_; rotate_left
            ·(intro w hSw; (obtain ⟨C, bk⟩ := LD6.out w hSw; have x2 := C.x2; rw [e1] at x2; have l0 := C.l0; have l1 := C.l1; have l2 := C.l2; have b0 := bk.cell 0; have b1 := bk.cell 1; have b2 := bk.cell 2; clear C bk); go_simp; try (with_reducible rfl))
            try simp only [gZ]
            refine tk 8 (v := ?_) rfl hHeld ?_ ?_; rotate_left
            ·(intro w hSw; (obtain ⟨C, bk⟩ := LD6.out w hSw; have x2 := C.x2; rw [e1] at x2; have l0 := C.l0; have l1 := C.l1; have l2 := C.l2; have b0 := bk.cell 0; have b1 := bk.cell 1; have b2 := bk.cell 2; clear C bk); go_simp; try (with_reducible rfl))
            try simp only [gZ]
            refine tk 9 (v := ?_) rfl hHeld ?_ ?_; rotate_left
            ·(intro w hSw; (obtain ⟨C, bk⟩ := LD6.out w hSw; have x2 := C.x2; rw [e1] at x2; have l0 := C.l0; have l1 := C.l1; have l2 := C.l2; have b0 := bk.cell 0; have b1 := bk.cell 1; have b2 := bk.cell 2; clear C bk); go_simp; try (with_reducible rfl))
            try simp only [gZ]
            refine tk 10 (v := ?_) rfl hHeld ?_ ?_; rotate_left
            ·(intro w hSw; (obtain ⟨C, bk⟩ := LD6.out w hSw; have x2 := C.x2; rw [e1] at x2; have l0 := C.l0; have l1 := C.l1; have l2 := C.l2; have b0 := bk.cell 0; have b1 := bk.cell 1; have b2 := bk.cell 2; clear C bk); go_simp; try (with_reducible rfl))
            try simp only [gZ]
            refine wpAnyH_one (i := 7) rfl (by kernel_rfl) (by rfl) ?_
            go_simp
            refine (RD.out.lhere (L := 3) (.inl rfl) I0.out).mono ?_
            rintro e W2 ⟨v2, s, P, rfl, hrow, hb2, hks, hfar, hr2⟩
            have R2 := Lib.hid (hr2.weak (Nat.le_refl _) fun _ _ _ h => h.1)
            have hE := far_lend hfar hks SI.out (L := 3) (.inl rfl)
            rw [hE] at hrow
            have RW2 := Lib.hid hrow
            clear hrow hb2 hks hfar hr2 hE
            refine ⟨UU6.out _ R2.out, ?_⟩
            have hHeld := UU6.out _ R2.out
            refine wpAnyH_one (i := 11) rfl (by kernel_rfl) (by rfl) ?_
            go_simp
            refine (isame_any v2 _ ((Lb.start r0 h3 h4 h1).init 3) W2 RW2.out (BK.out _ _ _ _ R2.out _ _ _ U1.out) (LL.out 3 (.inl rfl))).mono ?_
            rintro e W4 ⟨rfl, hb4⟩
            have R4 := Lib.hid (R2.out.up hb4)
            clear hb4
            refine ⟨UU6.out _ R4.out, ?_⟩
            have hHeld := UU6.out _ R4.out
            refine tk 12 (v := ?_) rfl hHeld ?_ ?_; rotate_left
            ·(intro w hSw; clear hSw; go_simp; try (with_reducible rfl))
            try simp only [gZ]
            exact wpAnyH_done (by kernel_rfl) ⟨rfl, hR v2 W4 R4.out⟩ _
           case rest =>
            rintro v W hW
            have RW := Lib.hid hW
            clear hW
            go_wp2_with fail
            go_roundw
            case rel => exact ⟨0 + 1, by omega, by first | rfl | go_num, RW.out⟩
            case measure => simp [intOf]
          ·skip
           subst h
           rw [show ((1 : Nat) : Int) = 1 from rfl]
           obtain ⟨S4', hS4'⟩ : ∃ S4' : World → Prop, S4' = fun W => LibC g' W ∧ Blk W n5 #[.slice a1 ((Lb.start r0 h3 h4 h1).ls 3).here.length c1, .slice a2 ((Lb.start r0 h3 h4 h1).ls 4).here.length c2, .slice a3 ((Lb.start r0 h3 h4 h1).ls 1).here.length c3] 79 := ⟨_, rfl⟩
           have LD6 : Hid (∀ W, S4' W → LibC g' W ∧ Blk W n5 #[.slice a1 ((Lb.start r0 h3 h4 h1).ls 3).here.length c1, .slice a2 ((Lb.start r0 h3 h4 h1).ls 4).here.length c2, .slice a3 ((Lb.start r0 h3 h4 h1).ls 1).here.length c3] 79) := Lib.hid (by rw [hS4']; exact fun W h => h)
           have UU6 : Hid (∀ W, RunJ W7 g' [] (Lb.start r0 h3 h4 h1).init DD 42740 (fun s _ => Far 6 s) W → S4' W) := Lib.hid (by rw [hS4']; exact fun W h => ⟨h.cells, BN.out _ _ _ _ h⟩)
           have RD := Lib.hid (RT.out.up (bdrewN (Below.refl wr.heap.size wr) 1))
           have hHeld := UU6.out _ RD.out
           clear hS4'
           go_wp2_with fail
           refine wp_region_held_drew (S := S4') (by kernel_rfl) hHeld (fun _ => ?_)
           apply wpAnyH_apartV (fun v W => RunJ W7 g' [] (Lb.start r0 h3 h4 h1).init DD 42740 (fun s _ => Far 6 s) W)
           case take =>
            intro R hR
            refine tk 0 (v := ?_) rfl hHeld ?_ ?_; rotate_left
            ·(intro w hSw; (obtain ⟨C, bk⟩ := LD6.out w hSw; have x2 := C.x2; rw [e1] at x2; have l0 := C.l0; have l1 := C.l1; have l2 := C.l2; have b0 := bk.cell 0; have b1 := bk.cell 1; have b2 := bk.cell 2; clear C bk); go_simp; try (with_reducible rfl))
            try simp only [gZ]
            refine tk 1 (v := ?_) rfl hHeld ?_ ?_; rotate_left
            ·(intro w hSw; (obtain ⟨C, bk⟩ := LD6.out w hSw; have x2 := C.x2; rw [e1] at x2; have l0 := C.l0; have l1 := C.l1; have l2 := C.l2; have b0 := bk.cell 0; have b1 := bk.cell 1; have b2 := bk.cell 2; clear C bk); go_simp; try (with_reducible rfl))
            try simp only [gZ]
            refine tk 2 (v := ?_) rfl hHeld ?_ ?_; rotate_left
            ·(intro w hSw; (obtain ⟨C, bk⟩ := LD6.out w hSw; have x2 := C.x2; rw [e1] at x2; have l0 := C.l0; have l1 := C.l1; have l2 := C.l2; have b0 := bk.cell 0; have b1 := bk.cell 1; have b2 := bk.cell 2; clear C bk); go_simp; try (with_reducible rfl))
            try simp only [gZ]
            refine tk 3 (v := ?_) rfl hHeld ?_ ?_; rotate_left
            ·(intro w hSw; (obtain ⟨C, bk⟩ := LD6.out w hSw; have x2 := C.x2; rw [e1] at x2; have l0 := C.l0; have l1 := C.l1; have l2 := C.l2; have b0 := bk.cell 0; have b1 := bk.cell 1; have b2 := bk.cell 2; clear C bk); go_simp; try (with_reducible rfl))
            try simp only [gZ]
            refine tk 4 (v := ?_) rfl hHeld ?_ ?_; rotate_left
            ·(intro w hSw; (obtain ⟨C, bk⟩ := LD6.out w hSw; have x2 := C.x2; rw [e1] at x2; have l0 := C.l0; have l1 := C.l1; have l2 := C.l2; have b0 := bk.cell 0; have b1 := bk.cell 1; have b2 := bk.cell 2; clear C bk); go_simp; try (with_reducible rfl))
            try simp only [gZ]
            refine tk 5 (v := ?_) rfl hHeld ?_ ?_; rotate_left
            ·(intro w hSw; (obtain ⟨C, bk⟩ := LD6.out w hSw; have x2 := C.x2; rw [e1] at x2; have l0 := C.l0; have l1 := C.l1; have l2 := C.l2; have b0 := bk.cell 0; have b1 := bk.cell 1; have b2 := bk.cell 2; clear C bk); go_simp; try (with_reducible rfl))
            try simp only [gZ]
            refine tk 6 (v := ?_) rfl hHeld ?_ ?_; rotate_left
            ·(intro w hSw; (obtain ⟨C, bk⟩ := LD6.out w hSw; have x2 := C.x2; rw [e1] at x2; have l0 := C.l0; have l1 := C.l1; have l2 := C.l2; have b0 := bk.cell 0; have b1 := bk.cell 1; have b2 := bk.cell 2; clear C bk); go_simp; try (with_reducible rfl))
            try simp only [gZ]
            refine tk 8 (v := ?_) rfl hHeld ?_ ?_; rotate_left
            ·(intro w hSw; (obtain ⟨C, bk⟩ := LD6.out w hSw; have x2 := C.x2; rw [e1] at x2; have l0 := C.l0; have l1 := C.l1; have l2 := C.l2; have b0 := bk.cell 0; have b1 := bk.cell 1; have b2 := bk.cell 2; clear C bk); go_simp; try (with_reducible rfl))
            try simp only [gZ]
            refine tk 9 (v := ?_) rfl hHeld ?_ ?_; rotate_left
            ·(intro w hSw; (obtain ⟨C, bk⟩ := LD6.out w hSw; have x2 := C.x2; rw [e1] at x2; have l0 := C.l0; have l1 := C.l1; have l2 := C.l2; have b0 := bk.cell 0; have b1 := bk.cell 1; have b2 := bk.cell 2; clear C bk); go_simp; try (with_reducible rfl))
            try simp only [gZ]
            refine tk 10 (v := ?_) rfl hHeld ?_ ?_; rotate_left
            ·(intro w hSw; (obtain ⟨C, bk⟩ := LD6.out w hSw; have x2 := C.x2; rw [e1] at x2; have l0 := C.l0; have l1 := C.l1; have l2 := C.l2; have b0 := bk.cell 0; have b1 := bk.cell 1; have b2 := bk.cell 2; clear C bk); go_simp; try (with_reducible rfl))
            try simp only [gZ]
            refine wpAnyH_one (i := 7) rfl (by kernel_rfl) (by rfl) ?_
            go_simp
            refine (RD.out.lhere (L := 4) (.inr (.inl rfl)) I0.out).mono ?_
            rintro e W2 ⟨v2, s, P, rfl, hrow, hb2, hks, hfar, hr2⟩
            have R2 := Lib.hid (hr2.weak (Nat.le_refl _) fun _ _ _ h => h.1)
            have hE := far_lend hfar hks SI.out (L := 4) (.inr (.inl rfl))
            rw [hE] at hrow
            have RW2 := Lib.hid hrow
            clear hrow hb2 hks hfar hr2 hE
            refine ⟨UU6.out _ R2.out, ?_⟩
            have hHeld := UU6.out _ R2.out
            refine wpAnyH_one (i := 11) rfl (by kernel_rfl) (by rfl) ?_
            go_simp
            refine (isame_any v2 _ ((Lb.start r0 h3 h4 h1).init 4) W2 RW2.out (BK.out _ _ _ _ R2.out _ _ _ U2.out) (LL.out 4 (.inr (.inl rfl)))).mono ?_
            rintro e W4 ⟨rfl, hb4⟩
            have R4 := Lib.hid (R2.out.up hb4)
            clear hb4
            refine ⟨UU6.out _ R4.out, ?_⟩
            have hHeld := UU6.out _ R4.out
            refine tk 12 (v := ?_) rfl hHeld ?_ ?_; rotate_left
            ·(intro w hSw; clear hSw; go_simp; try (with_reducible rfl))
            try simp only [gZ]
            exact wpAnyH_done (by kernel_rfl) ⟨rfl, hR v2 W4 R4.out⟩ _
           case rest =>
            rintro v W hW
            have RW := Lib.hid hW
            clear hW
            go_wp2_with fail
            go_roundw
            case rel => exact ⟨1 + 1, by omega, by first | rfl | go_num, RW.out⟩
            case measure => simp [intOf]
          ·skip
           subst h
           rw [show ((2 : Nat) : Int) = 2 from rfl]
           obtain ⟨S4', hS4'⟩ : ∃ S4' : World → Prop, S4' = fun W => LibC g' W ∧ Blk W n5 #[.slice a1 ((Lb.start r0 h3 h4 h1).ls 3).here.length c1, .slice a2 ((Lb.start r0 h3 h4 h1).ls 4).here.length c2, .slice a3 ((Lb.start r0 h3 h4 h1).ls 1).here.length c3] 79 := ⟨_, rfl⟩
           have LD6 : Hid (∀ W, S4' W → LibC g' W ∧ Blk W n5 #[.slice a1 ((Lb.start r0 h3 h4 h1).ls 3).here.length c1, .slice a2 ((Lb.start r0 h3 h4 h1).ls 4).here.length c2, .slice a3 ((Lb.start r0 h3 h4 h1).ls 1).here.length c3] 79) := Lib.hid (by rw [hS4']; exact fun W h => h)
           have UU6 : Hid (∀ W, RunJ W7 g' [] (Lb.start r0 h3 h4 h1).init DD 42740 (fun s _ => Far 6 s) W → S4' W) := Lib.hid (by rw [hS4']; exact fun W h => ⟨h.cells, BN.out _ _ _ _ h⟩)
           have RD := Lib.hid (RT.out.up (bdrewN (Below.refl wr.heap.size wr) 1))
           have hHeld := UU6.out _ RD.out
           clear hS4'
           go_wp2_with fail
           refine wp_region_held_drew (S := S4') (by kernel_rfl) hHeld (fun _ => ?_)
           apply wpAnyH_apartV (fun v W => RunJ W7 g' [] (Lb.start r0 h3 h4 h1).init DD 42740 (fun s _ => Far 6 s) W)
           case take =>
            intro R hR
            refine tk 0 (v := ?_) rfl hHeld ?_ ?_; rotate_left
            ·(intro w hSw; (obtain ⟨C, bk⟩ := LD6.out w hSw; have x2 := C.x2; rw [e1] at x2; have l0 := C.l0; have l1 := C.l1; have l2 := C.l2; have b0 := bk.cell 0; have b1 := bk.cell 1; have b2 := bk.cell 2; clear C bk); go_simp; try (with_reducible rfl))
            try simp only [gZ]
            refine tk 1 (v := ?_) rfl hHeld ?_ ?_; rotate_left
            ·(intro w hSw; (obtain ⟨C, bk⟩ := LD6.out w hSw; have x2 := C.x2; rw [e1] at x2; have l0 := C.l0; have l1 := C.l1; have l2 := C.l2; have b0 := bk.cell 0; have b1 := bk.cell 1; have b2 := bk.cell 2; clear C bk); go_simp; try (with_reducible rfl))
            try simp only [gZ]
            refine tk 2 (v := ?_) rfl hHeld ?_ ?_; rotate_left
            ·(intro w hSw; (obtain ⟨C, bk⟩ := LD6.out w hSw; have x2 := C.x2; rw [e1] at x2; have l0 := C.l0; have l1 := C.l1; have l2 := C.l2; have b0 := bk.cell 0; have b1 := bk.cell 1; have b2 := bk.cell 2; clear C bk); go_simp; try (with_reducible rfl))
            try simp only [gZ]
            refine tk 3 (v := ?_) rfl hHeld ?_ ?_; rotate_left
            ·(intro w hSw; (obtain ⟨C, bk⟩ := LD6.out w hSw; have x2 := C.x2; rw [e1] at x2; have l0 := C.l0; have l1 := C.l1; have l2 := C.l2; have b0 := bk.cell 0; have b1 := bk.cell 1; have b2 := bk.cell 2; clear C bk); go_simp; try (with_reducible rfl))
            try simp only [gZ]
            refine tk 4 (v := ?_) rfl hHeld ?_ ?_; rotate_left
            ·(intro w hSw; (obtain ⟨C, bk⟩ := LD6.out w hSw; have x2 := C.x2; rw [e1] at x2; have l0 := C.l0; have l1 := C.l1; have l2 := C.l2; have b0 := bk.cell 0; have b1 := bk.cell 1; have b2 := bk.cell 2; clear C bk); go_simp; try (with_reducible rfl))
            try simp only [gZ]
            refine tk 5 (v := ?_) rfl hHeld ?_ ?_; rotate_left
            ·(intro w hSw; (obtain ⟨C, bk⟩ := LD6.out w hSw; have x2 := C.x2; rw [e1] at x2; have l0 := C.l0; have l1 := C.l1; have l2 := C.l2; have b0 := bk.cell 0; have b1 := bk.cell 1; have b2 := bk.cell 2; clear C bk); go_simp; try (with_reducible rfl))
            try simp only [gZ]
            refine tk 6 (v := ?_) rfl hHeld ?_ ?_; rotate_left
            ·(intro w hSw; (obtain ⟨C, bk⟩ := LD6.out w hSw; have x2 := C.x2; rw [e1] at x2; have l0 := C.l0; have l1 := C.l1; have l2 := C.l2; have b0 := bk.cell 0; have b1 := bk.cell 1; have b2 := bk.cell 2; clear C bk); go_simp; try (with_reducible rfl))
            try simp only [gZ]
            refine tk 8 (v := ?_) rfl hHeld ?_ ?_; rotate_left
            ·(intro w hSw; (obtain ⟨C, bk⟩ := LD6.out w hSw; have x2 := C.x2; rw [e1] at x2; have l0 := C.l0; have l1 := C.l1; have l2 := C.l2; have b0 := bk.cell 0; have b1 := bk.cell 1; have b2 := bk.cell 2; clear C bk); go_simp; try (with_reducible rfl))
            try simp only [gZ]
            refine tk 9 (v := ?_) rfl hHeld ?_ ?_; rotate_left
            ·(intro w hSw; (obtain ⟨C, bk⟩ := LD6.out w hSw; have x2 := C.x2; rw [e1] at x2; have l0 := C.l0; have l1 := C.l1; have l2 := C.l2; have b0 := bk.cell 0; have b1 := bk.cell 1; have b2 := bk.cell 2; clear C bk); go_simp; try (with_reducible rfl))
            try simp only [gZ]
            refine tk 10 (v := ?_) rfl hHeld ?_ ?_; rotate_left
            ·(intro w hSw; (obtain ⟨C, bk⟩ := LD6.out w hSw; have x2 := C.x2; rw [e1] at x2; have l0 := C.l0; have l1 := C.l1; have l2 := C.l2; have b0 := bk.cell 0; have b1 := bk.cell 1; have b2 := bk.cell 2; clear C bk); go_simp; try (with_reducible rfl))
            try simp only [gZ]
            refine wpAnyH_one (i := 7) rfl (by kernel_rfl) (by rfl) ?_
            go_simp
            refine (RD.out.lhere (L := 1) (.inr (.inr rfl)) I0.out).mono ?_
            rintro e W2 ⟨v2, s, P, rfl, hrow, hb2, hks, hfar, hr2⟩
            have R2 := Lib.hid (hr2.weak (Nat.le_refl _) fun _ _ _ h => h.1)
            have hE := far_lend hfar hks SI.out (L := 1) (.inr (.inr rfl))
            rw [hE] at hrow
            have RW2 := Lib.hid hrow
            clear hrow hb2 hks hfar hr2 hE
            refine ⟨UU6.out _ R2.out, ?_⟩
            have hHeld := UU6.out _ R2.out
            refine wpAnyH_one (i := 11) rfl (by kernel_rfl) (by rfl) ?_
            go_simp
            refine (isame_any v2 _ ((Lb.start r0 h3 h4 h1).init 1) W2 RW2.out (BK.out _ _ _ _ R2.out _ _ _ U3.out) (LL.out 1 (.inr (.inr rfl)))).mono ?_
            rintro e W4 ⟨rfl, hb4⟩
            have R4 := Lib.hid (R2.out.up hb4)
            clear hb4
            refine ⟨UU6.out _ R4.out, ?_⟩
            have hHeld := UU6.out _ R4.out
            refine tk 12 (v := ?_) rfl hHeld ?_ ?_; rotate_left
            ·(intro w hSw; clear hSw; go_simp; try (with_reducible rfl))
            try simp only [gZ]
            exact wpAnyH_done (by kernel_rfl) ⟨rfl, hR v2 W4 R4.out⟩ _
           case rest =>
            rintro v W hW
            have RW := Lib.hid hW
            clear hW
            go_wp2_with fail
            go_roundw
            case rel => exact ⟨2 + 1, by omega, by first | rfl | go_num, RW.out⟩
            case measure => simp [intOf]
         ·obtain rfl : k = 3 := by omega
          rw [show ((3 : Nat) : Int) = 3 from rfl]
          obtain ⟨S5', hS5'⟩ : ∃ S5' : World → Prop, S5' = fun W => LibC g' W := ⟨_, rfl⟩
          have LD7 : Hid (∀ W, S5' W → LibC g' W) := Lib.hid (by rw [hS5']; exact fun W h => h)
          have UU7 : Hid (∀ W, RunJ W7 g' [] (Lb.start r0 h3 h4 h1).init DD 42740 (fun s _ => Far 6 s) W → S5' W) := Lib.hid (by rw [hS5']; exact fun W h => h.cells)
          have RD := Lib.hid (RT.out.up (bdrewN (Below.refl wr.heap.size wr) 1))
          have hHeld := UU7.out _ RD.out
          clear hS5'
          go_wp2_with fail
          refine wp_region_held_drew (S := S5') (by kernel_rfl) hHeld (fun _ => ?_)
          apply wpAnyH_apart4 (fun W => RunJ W7 g' [] (Lb.start r0 h3 h4 h1).init DD 42740 (fun s _ => Far 6 s) W)
          case take =>
           intro R hR
           refine tk 0 (v := ?_) rfl hHeld ?_ ?_; rotate_left
           ·(intro w hSw; (have C := LD7.out w hSw; have x0 := C.x0; rw [e1] at x0; have a0 := C.a0; have a1 := C.a1; clear C); go_simp; try (with_reducible rfl))
           try simp only [gZ]
           refine tk 1 (v := ?_) rfl hHeld ?_ ?_; rotate_left
           ·(intro w hSw; (have C := LD7.out w hSw; have x0 := C.x0; rw [e1] at x0; have a0 := C.a0; have a1 := C.a1; clear C); go_simp; try (with_reducible rfl))
           try simp only [gZ]
           refine tk 2 (v := ?_) rfl hHeld ?_ ?_; rotate_left
           ·(intro w hSw; (have C := LD7.out w hSw; have x0 := C.x0; rw [e1] at x0; have a0 := C.a0; have a1 := C.a1; clear C); go_simp; try (with_reducible rfl))
           try simp only [gZ]
           refine tk 3 (v := ?_) rfl hHeld ?_ ?_; rotate_left
           ·(intro w hSw; (have C := LD7.out w hSw; have x0 := C.x0; rw [e1] at x0; have a0 := C.a0; have a1 := C.a1; clear C); go_simp; try (with_reducible rfl))
           try simp only [gZ]
           refine tk 4 (v := ?_) rfl hHeld ?_ ?_; rotate_left
           ·(intro w hSw; (have C := LD7.out w hSw; have x0 := C.x0; rw [e1] at x0; have a0 := C.a0; have a1 := C.a1; clear C); go_simp; try (with_reducible rfl))
           try simp only [gZ]
           refine tk 5 (v := ?_) rfl hHeld ?_ ?_; rotate_left
           ·(intro w hSw; (have C := LD7.out w hSw; have x0 := C.x0; rw [e1] at x0; have a0 := C.a0; have a1 := C.a1; clear C); go_simp; try (with_reducible rfl))
           try simp only [gZ]
           refine tk 6 (v := ?_) rfl hHeld ?_ ?_; rotate_left
           ·(intro w hSw; (have C := LD7.out w hSw; have x0 := C.x0; rw [e1] at x0; have a0 := C.a0; have a1 := C.a1; clear C); go_simp; try (with_reducible rfl))
           try simp only [gZ]
           refine tk 7 (v := ?_) rfl hHeld ?_ ?_; rotate_left
           ·(intro w hSw; (have C := LD7.out w hSw; have x0 := C.x0; rw [e1] at x0; have a0 := C.a0; have a1 := C.a1; clear C); go_simp; try (with_reducible rfl))
           try simp only [gZ]
           refine tk 10 (v := ?_) rfl hHeld ?_ ?_; rotate_left
           ·(intro w hSw; (have C := LD7.out w hSw; have x0 := C.x0; rw [e1] at x0; have a0 := C.a0; have a1 := C.a1; clear C); go_simp; try (with_reducible rfl))
           try simp only [gZ]
           refine tk 11 (v := ?_) rfl hHeld ?_ ?_; rotate_left
           ·(intro w hSw; (have C := LD7.out w hSw; have x0 := C.x0; rw [e1] at x0; have a0 := C.a0; have a1 := C.a1; clear C); go_simp; try (with_reducible rfl))
           try simp only [gZ]
           refine tk 12 (v := ?_) rfl hHeld ?_ ?_; rotate_left
           ·(intro w hSw; (have C := LD7.out w hSw; have x0 := C.x0; rw [e1] at x0; have a0 := C.a0; have a1 := C.a1; clear C); go_simp; try (with_reducible rfl))
           try simp only [gZ]
           refine tk 13 (v := ?_) rfl hHeld ?_ ?_; rotate_left
           ·(intro w hSw; (have C := LD7.out w hSw; have x0 := C.x0; rw [e1] at x0; have a0 := C.a0; have a1 := C.a1; clear C); go_simp; try (with_reducible rfl))
           try simp only [gZ]
           refine tk 14 (v := ?_) rfl hHeld ?_ ?_; rotate_left
           ·(intro w hSw; (have C := LD7.out w hSw; have x0 := C.x0; rw [e1] at x0; have a0 := C.a0; have a1 := C.a1; clear C); go_simp; try (with_reducible rfl))
           try simp only [gZ]
           refine tk 15 (v := ?_) rfl hHeld ?_ ?_; rotate_left
           ·(intro w hSw; (have C := LD7.out w hSw; have x0 := C.x0; rw [e1] at x0; have a0 := C.a0; have a1 := C.a1; clear C); go_simp; try (with_reducible rfl))
           try simp only [gZ]
           refine wpAnyH_one (i := 8) rfl (by kernel_rfl) (by rfl) ?_
           go_simp
           refine (RD.out.here (a := 1) (.inl rfl)).mono ?_
           rintro e V2 ⟨v2, s, P, rfl, hrow, hb2, hks, hfar, hr2⟩
           have X2 := Lib.hid (hr2.weak (Nat.le_refl _) fun _ _ _ h => h.1)
           rw [far_here hfar hks (.inl rfl)] at hrow
           simp only [List.length_nil, List.map_nil] at hrow
           obtain ⟨b2, d2, rfl⟩ : ∃ b d, v2 = .slice b 0 d := by
            obtain ⟨-, ⟨rfl, -⟩ | ⟨g0, c0, cur, rfl, -⟩⟩ := hrow
            ·exact ⟨none, 0, rfl⟩
            ·exact ⟨_, c0, rfl⟩
           clear hrow hb2 hks hfar hr2
           refine ⟨UU7.out _ X2.out, ?_⟩
           have hHeld := UU7.out _ X2.out
           refine tk 9 (v := ?_) rfl hHeld ?_ ?_; rotate_left
           ·(intro w hSw; clear hSw; go_simp; try (with_reducible rfl))
           try simp only [gZ]
           refine wpAnyH_one (i := 16) rfl (by kernel_rfl) (by rfl) ?_
           go_simp
           refine (X2.out.here (a := 2) (.inr rfl)).mono ?_
           rintro e V3 ⟨v3, s, P, rfl, hrow, hb2, hks, hfar, hr2⟩
           have X3 := Lib.hid (hr2.weak (Nat.le_refl _) fun _ _ _ h => h.1)
           rw [far_here hfar hks (.inr rfl)] at hrow
           simp only [List.length_nil, List.map_nil] at hrow
           obtain ⟨b3, d3, rfl⟩ : ∃ b d, v3 = .slice b 0 d := by
            obtain ⟨-, ⟨rfl, -⟩ | ⟨g0, c0, cur, rfl, -⟩⟩ := hrow
            ·exact ⟨none, 0, rfl⟩
            ·exact ⟨_, c0, rfl⟩
           clear hrow hb2 hks hfar hr2
           refine ⟨UU7.out _ X3.out, ?_⟩
           have hHeld := UU7.out _ X3.out
           refine tk 17 (v := ?_) rfl hHeld ?_ ?_; rotate_left
           ·(intro w hSw; clear hSw; go_simp; try (with_reducible rfl))
           try simp only [gZ]
           refine tk 18 (v := ?_) rfl hHeld ?_ ?_; rotate_left
           ·(intro w hSw; clear hSw; go_simp; exact (rfl : _ = i64 0); try (with_reducible rfl))
           try simp only [gZ]
           refine tk 19 (v := ?_) rfl hHeld ?_ ?_; rotate_left
           ·(intro w hSw; clear hSw; go_simp; try (with_reducible rfl))
           try simp only [gZ]
           refine tk 20 (v := ?_) rfl hHeld ?_ ?_; rotate_left
           ·(intro w hSw; clear hSw; go_simp; try (with_reducible rfl))
           try simp only [gZ]
           refine tk 21 (v := ?_) rfl hHeld ?_ ?_; rotate_left
           ·(intro w hSw; clear hSw; go_simp; try (with_reducible rfl))
           try simp only [gZ]
           exact wpAnyH_done (by kernel_rfl) ⟨rfl, hR b2 d2 b3 d3 V3 X3.out⟩ _
          case rest =>
           rintro b2 d2 b3 d3 V3 hV
           have XF := Lib.hid hV
           have BF : Hid (Below w.heap.size w V3) := Lib.hid (by
            have b7 := C4.out.trans (B7.out.mono C4.out.size)
            exact b7.trans (hV.tn.below b7.size fun k hk => by have h1 := hk.1; rw [e2] at h1; omega))
           clear hV
           go_wp2_with fail
           go_ret
           exact ⟨rfl, BF.out⟩
end Go.Proofs.YtdojgbpaheadnaaGreat
