/- The walk of LendingFinds. -/
import Derived.Test.YtdojgbpaheadnaaGreatQUS
import Derived.Test.YtdojgbpaheadnaaGreatQUE
import Derived.Test.YtdojgbpaheadnaaGreatQPY
import Derived.Test.YtdojgbpaheadnaaGreatQPT
import Derived.Test.YtdojgbpaheadnaaGreatQRS
set_option linter.unusedVariables false
set_option linter.unusedSimpArgs false

namespace Go.Proofs.YtdojgbpaheadnaaGreat
open Go.RowKit Go.Shelf Go.Maps Go.ChangeMaps
attribute [local go_sem] over_cell over_frozen

theorem wantN_m1 {init : Int → List Int} {rota : List Int} {r t : Int} {i : Nat} (hn : wantN init rota r t i < 0) : wantN init rota r t i = -1 := by
 have h := wantN_neg.1 hn
 unfold wantN
 rw [h]
set_option maxRecDepth 100000 in
set_option maxHeartbeats 16000000 in
theorem findsLaw {w : World} (T : Nat → List Int) (ia : Nat → Option Addr) (ic : Nat → Nat) (hT : ∀ j, j < 3 → U8 w (ia j) (T j) (ic j) ∧ (T j).length ≤ ic j ∧ ic j ≤ 9223372036854775807)
  (D : List Int) (ra : Option Addr) (rc : Nat) (hR : U8 w ra D rc) (hrc : D.length ≤ rc ∧ rc ≤ 9223372036854775807) (q0 q1 : Int) (hq0 : 0 ≤ q0 ∧ q0 < 256) (hq1 : 0 ≤ q1 ∧ q1 < 256) :
  Calls Tryz.prog 8 #[.agg #[.slice (ia 0) (T 0).length (ic 0), .slice (ia 1) (T 1).length (ic 1), .slice (ia 2) (T 2).length (ic 2)], .slice ra D.length rc, .agg #[.int .u8 q0, .int .u8 q1]] w fun e w' => e = .returned (.bool true) ∧ Below w.heap.size w w' := by
 have HT := Lib.hid hT
 have HR := Lib.hid hR
 obtain ⟨w1, hw1⟩ : ∃ w1, w1 = (w.alloc (.cells #[.slice (ia 0) (T 0).length (ic 0), .slice (ia 1) (T 1).length (ic 1), .slice (ia 2) (T 2).length (ic 2)] 67)).alloc (.cells #[.int .u8 q0, .int .u8 q1] 91) := ⟨_, rfl⟩
 have B1 : Hid (Below w.heap.size w w1) := Lib.hid (by rw [hw1]; exact ((Below.refl _ _).alloc (Nat.le_refl _) _).alloc (by rw [size_alloc]; omega) _)
 have S1 : Hid (Blk w1 w.heap.size #[.slice (ia 0) (T 0).length (ic 0), .slice (ia 1) (T 1).length (ic 1), .slice (ia 2) (T 2).length (ic 2)] 67) := Lib.hid (by rw [hw1]; exact (Blk.new _ _ _).alloc _)
 have P1 : Hid (Blk w1 (w.heap.size + 1) #[.int .u8 q0, .int .u8 q1] 91) := Lib.hid (by rw [hw1]; exact Blk.at_new (by rw [size_alloc]) _ _)
 have HW1 := Lib.hid hw1
 clear hT hR hw1
 go_enter Tryz.func8, Tryz.ntmps8
 go_wp2_with fail
 rw [← HW1.out]
 refine (sanity_any w1).mono ?_
 rintro e w2 ⟨rfl, hb2⟩
 have B2 : Hid (Below w.heap.size w w2) := Lib.hid (B1.out.trans (hb2.mono B1.out.size))
 have S2 := Lib.hid (S1.out.below hb2 S1.out.lt)
 have P2 := Lib.hid (P1.out.below hb2 P1.out.lt)
 have c0 := S2.out.cell 0
 have c1 := S2.out.cell 1
 have c2 := S2.out.cell 2
 clear hb2
 go_wp2_with fail
 refine (begin_any (S := []) T ia ic (fun j hj => ⟨(HT.out j hj).1.below B2.out (Nat.le_refl _), (HT.out j hj).2⟩) D ra rc (HR.out.below B2.out (Nat.le_refl _)) hrc (owns_nilT w2 90 3 0 TrR) (by simp)).mono ?_
 rintro e W ⟨g, rfl, hg, hL, hb4⟩
 have L4 := Lib.hid hL
 have C4 : Hid (Below w.heap.size w W) := Lib.hid (B2.out.trans (hb4.mono B2.out.size))
 have S4 := Lib.hid (S2.out.below hb4 S2.out.lt)
 have P4 := Lib.hid (P2.out.below hb4 P2.out.lt)
 clear hb4 hL c0 c1 c2
 go_wp2_with fail
 refine (right_any L4.out).mono ?_
 rintro e W5 ⟨rfl, rfl⟩
 have p0 := P4.out.cell 0
 have p1 := P4.out.cell 1
 obtain ⟨rq0, hrq⟩ : ∃ rq0, rq0 = 1 + q0 % 6 := ⟨_, rfl⟩
 obtain ⟨tt, htt⟩ : ∃ tt, tt = 1 + q1 % 4 := ⟨_, rfl⟩
 have hw1 : IntKind.i64.wrap (q0 % 6) = q0 % 6 := by rw [IntKind.wrap_i64]; omega
 have hw2 : IntKind.i64.wrap (1 + q0 % 6) = rq0 := by rw [IntKind.wrap_i64]; omega
 have hw3 : IntKind.i64.wrap (q1 % 4) = q1 % 4 := by rw [IntKind.wrap_i64]; omega
 have hw4 : IntKind.i64.wrap (1 + q1 % 4) = tt := by rw [IntKind.wrap_i64]; omega
 clear hw2 hw4
 have hr6 : (rotL D).length ≤ 6 := by unfold rotL; simp; omega
 have hrI := rotL_is D
 have hk0 : KS (Lb.start (rotL D) (srt (ttl (T 0))) (srt (ttl (T 1))) (srt (ttl (T 2)))).init (Lb.start (rotL D) (srt (ttl (T 0))) (srt (ttl (T 1))) (srt (ttl (T 2)))) := KS.start hrI hr6 (sortedI_merge _) (sortedI_merge _) (sortedI_merge _)
 have hi0 : ∀ L, ((Lb.start (rotL D) (srt (ttl (T 0))) (srt (ttl (T 1))) (srt (ttl (T 2)))).init L).length ≤ 20000 := fun L => by
  have h5 : ∀ j, (srt (ttl (T j))).length ≤ 20000 := fun j => by unfold srt; rw [List.length_mergeSort]; unfold ttl; simp; omega
  unfold Lb.init Lb.start
  dsimp only
  split
  ·exact h5 0
  ·split
   ·exact h5 1
   ·exact h5 2
 obtain ⟨s0, hs0⟩ : ∃ s0, s0 = Lb.start (rotL D) (srt (ttl (T 0))) (srt (ttl (T 1))) (srt (ttl (T 2))) := ⟨_, rfl⟩
 have hrot : s0.b.rota = rotL D := by rw [hs0]; rfl
 rw [← hs0] at L4 hk0 hi0
 have K0 := Lib.hid hk0
 have I0 := Lib.hid hi0
 have HS0 := Lib.hid hs0
 have HROT := Lib.hid hrot
 obtain ⟨n, hn⟩ : ∃ n, n = (rotL D).length := ⟨_, rfl⟩
 have hnD : n = min D.length 6 := by rw [hn]; unfold rotL; simp; omega
 have hmin : min (D.length : Int) 6 = n := by omega
 obtain ⟨W6, hW6⟩ : ∃ W6, W6 = W5.alloc (.cells #[.int .i64 3, .int .i64 4, .int .i64 1] 92) := ⟨_, rfl⟩
 have B6 : Hid (Below W5.heap.size W5 W6) := Lib.hid (by rw [hW6]; exact (Below.refl _ _).alloc (Nat.le_refl _) _)
 have I6 : Hid (Blk W6 W5.heap.size #[.int .i64 3, .int .i64 4, .int .i64 1] 92) := Lib.hid (by rw [hW6]; exact Blk.new _ _ _)
 have H5 : Hid (RunJ W5 g [] s0.init (fun _ => False) 0 (fun s P => s = s0 ∧ P = []) W5) := Lib.hid ⟨_, 0, 0, [], _, L4.out, hk0, (fun p hp => by cases hp), Nat.le_refl _, Nat.le_refl _, Nat.le_refl _, fun i k h => h.elim, Tn.refl _ _, rfl, rfl⟩
 have H6 := Lib.hid (H5.out.keep B6.out)
 obtain ⟨DD, hDD⟩ : ∃ DD : Nat → Prop, DD = (fun k => False ∨ (W5.heap.size ≤ k ∧ k < W6.heap.size)) := ⟨_, rfl⟩
 rw [← hDD] at H6
 have HDD := Lib.hid hDD
 have HW6 := Lib.hid hW6
 have HMIN := Lib.hid hmin
 have HND := Lib.hid hnD
 have HN := Lib.hid hn
 have HRQ := Lib.hid hrq
 have HTT := Lib.hid htt
 have hrq6 : 1 ≤ rq0 ∧ rq0 ≤ 6 := by omega
 have htt4 : 1 ≤ tt ∧ tt ≤ 4 := by omega
 have RQ6 := Lib.hid hrq6
 clear hDD hW6 hs0 hrot hk0 hi0 hr6 hrI hn hrq htt hnD hmin
 go_upto_block 0 with (first | rw [← HW6.out])
 rw [← HRQ.out, ← HTT.out, HMIN.out]
 go_cut [12, 14, 15, 16, 17] from 43 to 89 (fun s12 s14 s15 s16 s17 W => RunJ W6 g [] s0.init DD 0 (fun s P => s = s0 ∧ P = []) W ∧ ((s12 = .int .i64 (-1) ∧ whoL s0.init (rotL D) 1 rq0 tt = none) ∨ ∃ X, whoL s0.init (rotL D) 1 rq0 tt = some X ∧ s12 = .int .i64 (kOf X)))
 case first =>
  go_wp2_with fail
  go_loopw [12, 14, 15, 16, 17] (fun w12 i _ _ _ wr => ∃ (k : Nat), k ≤ n ∧ i = .int .i64 k ∧ w12 = .int .i64 (wantN s0.init (rotL D) rq0 tt k) ∧ RunJ W6 g [] s0.init DD 0 (fun s P => s = s0 ∧ P = []) wr) (fun _ i _ _ _ _ => n - (intOf i).toNat)
  case atStart => exact ⟨0, by omega, rfl, by rw [wantN_zero], H6.out⟩
  case round =>
   obtain ⟨k, hk, rfl, rfl, hr⟩ := hrel
   have RK := Lib.hid hr
   clear hr
   by_cases hgo : k < n
   ·by_cases hneg : wantN s0.init (rotL D) rq0 tt k < 0
    ·obtain ⟨j, hj, hjm, hjt⟩ := turned_at RQ6.out.1 RQ6.out.2 (rota := rotL D) (i := k) (by rw [← HN.out]; exact hgo)
     rw [← HN.out] at hj hjm
     have hjD : j < D.length := by have := HND.out; omega
     have BW : Hid (Below w.heap.size w wr) := Lib.hid (by
      have b6 := C4.out.trans (B6.out.mono C4.out.size)
      exact b6.trans (RK.out.tn.below b6.size (fun k hk => by have h1 := hk.1; have h2 := B2.out.size; omega)))
     obtain ⟨b, o, rfl, hcell, hb0, hb1⟩ := (HR.out.below BW.out (Nat.le_refl _)).get (k := j) hjD
     obtain ⟨x, hx⟩ : ∃ x, x = D.getD j 0 := ⟨_, rfl⟩
     rw [← hx] at hcell hb0 hb1
     obtain ⟨kk, hkk, hk3⟩ : ∃ kk : Nat, x % 3 = kk ∧ kk < 3 := ⟨(x % 3).toNat, by omega, by omega⟩
     have hX : (turned (rotL D) rq0)[k]? = some (idsN kk) := by
      rw [hjt, ← (rotF_ids x kk hkk).1, hx]
      unfold rotL
      rw [List.getElem?_map, List.getElem?_take_of_lt (by have := HND.out; omega), List.getElem?_eq_getElem hjD, getD_get _ _ hjD]
      rfl
     have hkX : kOf (idsN kk) = kk := by rw [← (rotF_ids x kk hkk).1]; exact (rotF_ids x kk hkk).2
     have hnext := wantN_succ hneg hX
     rw [hkX] at hnext
     have hm1 := wantN_m1 hneg
     rw [hm1]
     have HNX := Lib.hid hnext
     have hdk : decide ((k : Int) < n) = true := by simp; omega
     have hn6 : n ≤ 6 := by have := HND.out; omega
     have hwa : IntKind.i64.wrap (1 + rq0) = 1 + rq0 := by rw [IntKind.wrap_i64]; omega
     have hwb : IntKind.i64.wrap (1 + rq0 + k) = 1 + rq0 + k := by rw [IntKind.wrap_i64]; omega
     have hnn : (n : Int) ≠ 0 := by omega
     have hjm' : Int.tmod (1 + rq0 + k) n = j := by rw [Int.tmod_eq_emod_of_nonneg (by omega)]; exact hjm
     have hkw : IntKind.i64.wrap (kk : Int) = kk := by rw [IntKind.wrap_i64]; omega
     clear hjt hX hkX hnext hm1 hneg hx hw1 hw3
     have cc := RK.out.cells
     have x2 := cc.x2
     have l0 := cc.l0
     have l1 := cc.l1
     have l2 := cc.l2
     clear cc
     have h3 : kk = 0 ∨ kk = 1 ∨ kk = 2 := by omega
     rcases h3 with h | h | h
     ·skip
      subst h
      rw [show ((0 : Nat) : Int) = 0 from rfl] at hkk hkw
      go_upto_region 14 with fail
      go_wp2_with fail
      refine (RK.out.lhere (L := 3) (.inl rfl) I0.out).mono ?_
      rintro e W8 ⟨v, s, P, rfl, hrow, hb8, hks, hsP, hr8⟩
      rw [hsP.1] at hrow
      have R8 := Lib.hid (hr8.weak (Nat.le_refl _) fun _ _ _ h => h.1)
      obtain ⟨va, vc, rfl, -⟩ := row_cellz hrow
      have hll : (s0.ls 3).here.length ≤ 20000 := I0.out 3
      have hrc8 := rowC_of hrow (C := 0) (Nat.zero_le _)
      obtain ⟨l, hl⟩ : ∃ l, l = (s0.ls 3).here := ⟨_, rfl⟩
      rw [← hl] at hrc8 hll ⊢
      have HL := Lib.hid hl
      have RC8 := Lib.hid hrc8
      have I8 : Hid (Blk W8 W5.heap.size #[.int .i64 3, .int .i64 4, .int .i64 1] 92) := Lib.hid (hr8.tn.blk I6.out (fun e' => e'.2 (by rw [HDD.out]; have h1 := I6.out.lt; exact .inr ⟨Nat.le_refl _, h1⟩)))
      clear hrow hb8 hks hsP hr8 hrc8 hl
      go_wp2_with fail
      go_loopw [12, 17] (fun w12 jj wr2 => ∃ (m : Nat), m ≤ l.length ∧ jj = .int .i64 m ∧ w12 = .int .i64 (if (3 : Int) ≠ 1 ∧ tt ∈ l.take m then 0 else -1) ∧ wr2 = W8) (fun _ jj _ => l.length - (intOf jj).toNat)
      case atStart => exact ⟨0, by omega, rfl, by simp, rfl⟩
      case round =>
       obtain ⟨m, hm, rfl, rfl, rfl⟩ := hrel
       by_cases hml : m < l.length
       ·obtain ⟨b2, hab, -, -, hcl⟩ := RC8.out.resolve_left (fun e => by rw [e] at hml; simp at hml)
        subst hab
        have hx8 := hcl m hml
        have hget : l.getD m 0 = l[m] := getD_get _ _ hml
        obtain ⟨y, hy⟩ : ∃ y, y = l.getD m 0 := ⟨_, rfl⟩
        rw [← hy] at hx8
        have HY := Lib.hid (hy.trans hget)
        have i8 := I8.out.cell 0
        have hdm : decide ((m : Int) < l.length) = true := by simp; omega
        obtain ⟨wv, hwv⟩ : ∃ wv, wv = (if (3 : Int) ≠ 1 ∧ tt ∈ l.take m then (0 : Int) else -1) := ⟨_, rfl⟩
        have HWV := Lib.hid hwv
        rw [← hwv]
        clear hcl hget hy hwv
        by_cases hyt : y = tt
        ·have hdy : decide (y = tt) = true := by simp [hyt]
         have hin : tt ∈ l.take (m + 1) := by rw [List.take_succ_eq_append_getElem hml]; simp [← HY.out, hyt]
         have HIN := Lib.hid hin
         clear hin
         go_wp2_with fail
         go_roundw
         case rel =>
          refine ⟨m + 1, hml, by go_num, ?_, by first | trivial | rfl⟩
          first
           | (rw [if_pos ⟨by decide, HIN.out⟩])
           | (rw [HWV.out, if_neg (by simp), if_neg (by simp)])
         case measure => simp [intOf]; omega
        ·have hdy : decide (y = tt) = false := by simp [hyt]
         have hin : tt ∈ l.take (m + 1) ↔ tt ∈ l.take m := by
          rw [List.take_succ_eq_append_getElem hml, List.mem_append, List.mem_singleton, ← HY.out]
          exact ⟨fun h => h.elim id fun h => absurd h.symm hyt, .inl⟩
         have HIN := Lib.hid hin
         clear hin
         go_wp2_with fail
         go_roundw
         case rel =>
          refine ⟨m + 1, hml, by go_num, ?_, by first | trivial | rfl⟩
          rw [HWV.out]
          simp only [HIN.out]
         case measure => simp [intOf]; omega
       ·obtain rfl : m = l.length := by omega
        go_wp2_with fail
        go_roundw
        case rel =>
         refine ⟨k + 1, hgo, by go_num, ?_, R8.out⟩
         have h1 := HNX.out
         have h2 : s0.init (idsN 0) = l := HL.out.symm
         rw [h1, List.take_of_length_le (Nat.le_refl _)]
         unfold okX
         rw [h2]
         have h4 : idsN 0 = 3 := rfl
         rw [h4]
         by_cases h5 : tt ∈ l <;> simp [h5]
        case measure => simp [intOf]; omega
     ·skip
      subst h
      rw [show ((1 : Nat) : Int) = 1 from rfl] at hkk hkw
      go_upto_region 14 with fail
      go_wp2_with fail
      refine (RK.out.lhere (L := 4) (.inr (.inl rfl)) I0.out).mono ?_
      rintro e W8 ⟨v, s, P, rfl, hrow, hb8, hks, hsP, hr8⟩
      rw [hsP.1] at hrow
      have R8 := Lib.hid (hr8.weak (Nat.le_refl _) fun _ _ _ h => h.1)
      obtain ⟨va, vc, rfl, -⟩ := row_cellz hrow
      have hll : (s0.ls 4).here.length ≤ 20000 := I0.out 4
      have hrc8 := rowC_of hrow (C := 0) (Nat.zero_le _)
      obtain ⟨l, hl⟩ : ∃ l, l = (s0.ls 4).here := ⟨_, rfl⟩
      rw [← hl] at hrc8 hll ⊢
      have HL := Lib.hid hl
      have RC8 := Lib.hid hrc8
      have I8 : Hid (Blk W8 W5.heap.size #[.int .i64 3, .int .i64 4, .int .i64 1] 92) := Lib.hid (hr8.tn.blk I6.out (fun e' => e'.2 (by rw [HDD.out]; have h1 := I6.out.lt; exact .inr ⟨Nat.le_refl _, h1⟩)))
      clear hrow hb8 hks hsP hr8 hrc8 hl
      go_wp2_with fail
      go_loopw [12, 17] (fun w12 jj wr2 => ∃ (m : Nat), m ≤ l.length ∧ jj = .int .i64 m ∧ w12 = .int .i64 (if (4 : Int) ≠ 1 ∧ tt ∈ l.take m then 1 else -1) ∧ wr2 = W8) (fun _ jj _ => l.length - (intOf jj).toNat)
      case atStart => exact ⟨0, by omega, rfl, by simp, rfl⟩
      case round =>
       obtain ⟨m, hm, rfl, rfl, rfl⟩ := hrel
       by_cases hml : m < l.length
       ·obtain ⟨b2, hab, -, -, hcl⟩ := RC8.out.resolve_left (fun e => by rw [e] at hml; simp at hml)
        subst hab
        have hx8 := hcl m hml
        have hget : l.getD m 0 = l[m] := getD_get _ _ hml
        obtain ⟨y, hy⟩ : ∃ y, y = l.getD m 0 := ⟨_, rfl⟩
        rw [← hy] at hx8
        have HY := Lib.hid (hy.trans hget)
        have i8 := I8.out.cell 1
        have hdm : decide ((m : Int) < l.length) = true := by simp; omega
        obtain ⟨wv, hwv⟩ : ∃ wv, wv = (if (4 : Int) ≠ 1 ∧ tt ∈ l.take m then (1 : Int) else -1) := ⟨_, rfl⟩
        have HWV := Lib.hid hwv
        rw [← hwv]
        clear hcl hget hy hwv
        by_cases hyt : y = tt
        ·have hdy : decide (y = tt) = true := by simp [hyt]
         have hin : tt ∈ l.take (m + 1) := by rw [List.take_succ_eq_append_getElem hml]; simp [← HY.out, hyt]
         have HIN := Lib.hid hin
         clear hin
         go_wp2_with fail
         go_roundw
         case rel =>
          refine ⟨m + 1, hml, by go_num, ?_, by first | trivial | rfl⟩
          first
           | (rw [if_pos ⟨by decide, HIN.out⟩])
           | (rw [HWV.out, if_neg (by simp), if_neg (by simp)])
         case measure => simp [intOf]; omega
        ·have hdy : decide (y = tt) = false := by simp [hyt]
         have hin : tt ∈ l.take (m + 1) ↔ tt ∈ l.take m := by
          rw [List.take_succ_eq_append_getElem hml, List.mem_append, List.mem_singleton, ← HY.out]
          exact ⟨fun h => h.elim id fun h => absurd h.symm hyt, .inl⟩
         have HIN := Lib.hid hin
         clear hin
         go_wp2_with fail
         go_roundw
         case rel =>
          refine ⟨m + 1, hml, by go_num, ?_, by first | trivial | rfl⟩
          rw [HWV.out]
          simp only [HIN.out]
         case measure => simp [intOf]; omega
       ·obtain rfl : m = l.length := by omega
        go_wp2_with fail
        go_roundw
        case rel =>
         refine ⟨k + 1, hgo, by go_num, ?_, R8.out⟩
         have h1 := HNX.out
         have h2 : s0.init (idsN 1) = l := HL.out.symm
         rw [h1, List.take_of_length_le (Nat.le_refl _)]
         unfold okX
         rw [h2]
         have h4 : idsN 1 = 4 := rfl
         rw [h4]
         by_cases h5 : tt ∈ l <;> simp [h5]
        case measure => simp [intOf]; omega
     ·skip
      subst h
      rw [show ((2 : Nat) : Int) = 2 from rfl] at hkk hkw
      go_upto_region 14 with fail
      go_wp2_with fail
      refine (RK.out.lhere (L := 1) (.inr (.inr rfl)) I0.out).mono ?_
      rintro e W8 ⟨v, s, P, rfl, hrow, hb8, hks, hsP, hr8⟩
      rw [hsP.1] at hrow
      have R8 := Lib.hid (hr8.weak (Nat.le_refl _) fun _ _ _ h => h.1)
      obtain ⟨va, vc, rfl, -⟩ := row_cellz hrow
      have hll : (s0.ls 1).here.length ≤ 20000 := I0.out 1
      have hrc8 := rowC_of hrow (C := 0) (Nat.zero_le _)
      obtain ⟨l, hl⟩ : ∃ l, l = (s0.ls 1).here := ⟨_, rfl⟩
      rw [← hl] at hrc8 hll ⊢
      have HL := Lib.hid hl
      have RC8 := Lib.hid hrc8
      have I8 : Hid (Blk W8 W5.heap.size #[.int .i64 3, .int .i64 4, .int .i64 1] 92) := Lib.hid (hr8.tn.blk I6.out (fun e' => e'.2 (by rw [HDD.out]; have h1 := I6.out.lt; exact .inr ⟨Nat.le_refl _, h1⟩)))
      clear hrow hb8 hks hsP hr8 hrc8 hl
      go_wp2_with fail
      go_loopw [12, 17] (fun w12 jj wr2 => ∃ (m : Nat), m ≤ l.length ∧ jj = .int .i64 m ∧ w12 = .int .i64 (if (1 : Int) ≠ 1 ∧ tt ∈ l.take m then 2 else -1) ∧ wr2 = W8) (fun _ jj _ => l.length - (intOf jj).toNat)
      case atStart => exact ⟨0, by omega, rfl, by simp, rfl⟩
      case round =>
       obtain ⟨m, hm, rfl, rfl, rfl⟩ := hrel
       by_cases hml : m < l.length
       ·obtain ⟨b2, hab, -, -, hcl⟩ := RC8.out.resolve_left (fun e => by rw [e] at hml; simp at hml)
        subst hab
        have hx8 := hcl m hml
        have hget : l.getD m 0 = l[m] := getD_get _ _ hml
        obtain ⟨y, hy⟩ : ∃ y, y = l.getD m 0 := ⟨_, rfl⟩
        rw [← hy] at hx8
        have HY := Lib.hid (hy.trans hget)
        have i8 := I8.out.cell 2
        have hdm : decide ((m : Int) < l.length) = true := by simp; omega
        obtain ⟨wv, hwv⟩ : ∃ wv, wv = (if (1 : Int) ≠ 1 ∧ tt ∈ l.take m then (2 : Int) else -1) := ⟨_, rfl⟩
        have HWV := Lib.hid hwv
        rw [← hwv]
        clear hcl hget hy hwv
        by_cases hyt : y = tt
        ·have hdy : decide (y = tt) = true := by simp [hyt]
         have hin : tt ∈ l.take (m + 1) := by rw [List.take_succ_eq_append_getElem hml]; simp [← HY.out, hyt]
         have HIN := Lib.hid hin
         clear hin
         go_wp2_with fail
         go_roundw
         case rel =>
          refine ⟨m + 1, hml, by go_num, ?_, by first | trivial | rfl⟩
          first
           | (rw [if_pos ⟨by decide, HIN.out⟩])
           | (rw [HWV.out, if_neg (by simp), if_neg (by simp)])
         case measure => simp [intOf]; omega
        ·have hdy : decide (y = tt) = false := by simp [hyt]
         have hin : tt ∈ l.take (m + 1) ↔ tt ∈ l.take m := by
          rw [List.take_succ_eq_append_getElem hml, List.mem_append, List.mem_singleton, ← HY.out]
          exact ⟨fun h => h.elim id fun h => absurd h.symm hyt, .inl⟩
         have HIN := Lib.hid hin
         clear hin
         go_wp2_with fail
         go_roundw
         case rel =>
          refine ⟨m + 1, hml, by go_num, ?_, by first | trivial | rfl⟩
          rw [HWV.out]
          simp only [HIN.out]
         case measure => simp [intOf]; omega
       ·obtain rfl : m = l.length := by omega
        go_wp2_with fail
        go_roundw
        case rel =>
         refine ⟨k + 1, hgo, by go_num, ?_, R8.out⟩
         have h1 := HNX.out
         have h2 : s0.init (idsN 2) = l := HL.out.symm
         rw [h1, List.take_of_length_le (Nat.le_refl _)]
         unfold okX
         rw [h2]
         have h4 : idsN 2 = 1 := rfl
         rw [h4]
         by_cases h5 : tt ∈ l <;> simp [h5]
        case measure => simp [intOf]; omega
    ·obtain ⟨X, hX, hwX⟩ := wantN_stop hneg
     have hX0 := kOf_nonneg X
     have hdk : decide ((k : Int) < n) = true := by simp; omega
     have hdn : decide (kOf X < 0) = false := by simp; omega
     rw [hwX]
     have HX := Lib.hid hX
     clear hX hwX hneg hX0
     go_wp2_with fail
     go_meet
     case rel => exact ⟨RK.out, .inr ⟨X, HX.out, rfl⟩⟩
   ·obtain rfl : k = n := by omega
    have hdk : decide ((k : Int) < k) = false := by simp
    by_cases hneg : wantN s0.init (rotL D) rq0 tt k < 0
    ·have hnone := wantN_all RQ6.out.1 RQ6.out.2 (by rw [← HN.out]; exact hneg)
     have hm1 := wantN_m1 hneg
     rw [hm1]
     have HNo := Lib.hid hnone
     clear hnone hm1 hneg
     go_wp2_with fail
     go_meet
     case rel => exact ⟨RK.out, .inl ⟨rfl, HNo.out⟩⟩
    ·obtain ⟨X, hX, hwX⟩ := wantN_stop hneg
     rw [hwX]
     have HX := Lib.hid hX
     clear hX hwX hneg
     go_wp2_with fail
     go_meet
     case rel => exact ⟨RK.out, .inr ⟨X, HX.out, rfl⟩⟩
 case rest =>
  obtain ⟨hrw, hwant⟩ := hcut
  have RW := Lib.hid hrw
  have HWT := Lib.hid hwant
  have cc := hrw.cells
  have x0 := cc.x0
  have a0 := cc.a0
  clear hrw hwant cc
  go_wp2_with fail
  refine (RW.out.ask (a := 1) (.inl rfl) (by omega) rq0 tt RQ6.out htt4).mono ?_
  rintro e W8 ⟨v, s, P, rfl, hks, hsP, hra⟩
  obtain ⟨rfl, rfl⟩ := hsP
  have RA := Lib.hid hra
  clear hra x0 a0
  go_wp2_with fail
  refine (RA.out.send (by omega)).mono ?_
  rintro e W9 ⟨rfl, hr9⟩
  have R9 : Hid (RunJ W6 g [] s.init DD 20 (QG s.init 1 rq0 1 (E1 (rotL D) rq0 tt)) W9) := Lib.hid (hr9.weak (by omega) fun s' P' hk' hq => by
   obtain ⟨rfl, i, hs⟩ := hq
   have ho := start_one (init := s.init) (rt := rotL D) (h3 := srt (ttl (T 0))) (h4 := srt (ttl (T 1))) (h1 := srt (ttl (T 2))) RQ6.out.1 htt4.1
   rw [← HS0.out] at ho
   exact QG.sent hk' Cl.one (.inl rfl) (by have := ask_len (s.as 1) rq0 tt; omega) (fun x hx => List.mem_append.2 (.inr hx)) ho.1 ho.2 hs)
  have hcode : ((s.as 1).ask rq0 tt).2 = 0 := by rw [HS0.out, start_ask RQ6.out.1 htt4.1]
  rw [hcode]
  clear hr9 hcode
  go_wp2_with fail
  go_loopw [20] (fun i wr => ∃ (k : Nat), k ≤ 14 ∧ i = .int .i64 k ∧ RunJ W6 g [] s.init DD (20 + 824 * k) (QG s.init 1 rq0 1 (E1 (rotL D) rq0 tt)) wr ∧ (1 ≤ k → RunJ W6 g [] s.init DD (20 + 824 * k) (RG s.init 1 rq0 (E1 (rotL D) rq0 tt)) wr)) (fun i _ => 14 - (intOf i).toNat)
  case atStart => exact ⟨0, by omega, rfl, R9.out, fun e => by omega⟩
  case round =>
   obtain ⟨k, hk, rfl, hr, hr'⟩ := hrel
   by_cases hgo : k < 14
   ·have RD := Lib.hid (round_any (by omega) I0.out (JG s.init 1 rq0 1 (E1 (rotL D) rq0 tt)) (fun s P P' n hk _ hq hs => JG.tick hk Cl.one (.inl rfl) (E1.kp _ _ _ _) hq hs) (fun i s P r p n P' _ hk hm hq _ hp hs => JG.del hk Cl.one (.inl rfl) (E1.kp _ _ _ _) hm hq hp hs) hr)
    have hdk : decide ((k : Int) < 14) = true := by simp; omega
    clear hr hr'
    go_wp2_with fail
    refine RD.out.mono ?_
    rintro e W11 ⟨rfl, hr11⟩
    have R11 := Lib.hid (hr11.weak (Nat.le_refl _) (Q' := RG s.init 1 rq0 (E1 (rotL D) rq0 tt)) fun s' P' _ hq => by obtain ⟨i, -, h1, h2⟩ := hq; exact RG.of h1 h2)
    clear hr11 RD
    go_wp2_with fail
    go_roundw
    case rel => exact ⟨k + 1, by omega, by go_num, R11.out.weak (by omega) fun _ _ _ h => QG.of h, fun _ => R11.out.weak (by omega) fun _ _ _ h => h⟩
    case measure => simp [intOf]; omega
   ·obtain rfl : k = 14 := by omega
    rw [show ((14 : Nat) : Int) = 14 from rfl]
    have RE := Lib.hid (hr' (by omega))
    have cc := RE.out.cells
    have x0 := cc.x0
    have a0 := cc.a0
    clear hr hr' cc
    rcases HWT.out with ⟨hw, hno⟩ | ⟨X, hX, hw⟩
    ·subst hw
     have HNo := Lib.hid hno
     clear hno
     go_wp2_with fail
     refine (RE.out.state (a := 1) (.inl rfl) rq0 (i64_small (by omega))).mono ?_
     rintro e W12 ⟨rfl, s', P', rfl, hks', hRG⟩
     have hst : (s'.as 1).state rq0 = 7 := by
      obtain ⟨q, -, -, h1, ⟨h4, h5⟩ | ⟨h7, -⟩⟩ := hRG.fin1 hks'
      ·rw [HNo.out] at h5; cases h5
      ·rw [h1, h7]
     rw [hst]
     clear hst hRG hks'
     go_wp2_with fail
     refine (RE.out.here (a := 1) (.inl rfl)).mono ?_
     rintro e W13 ⟨v3, s2, P2, rfl, hrow, hb13, hks2, hRG2, hr13⟩
     have hhe : (s2.as 1).here = [] := by
      obtain ⟨q, h0, -, h1, ⟨h4, h5⟩ | ⟨h7, -⟩⟩ := hRG2.fin1 hks2
      ·rw [HNo.out] at h5; cases h5
      ·exact far_here (hRG2.2.2.1.rest6 fun q' hq' => by rw [h0] at hq'; injection hq' with e; rw [← e]; omega) hks2 (.inl rfl)
     rw [hhe] at hrow
     simp only [List.length_nil, List.map_nil] at hrow
     obtain ⟨b3, d3, rfl⟩ : ∃ b d, v3 = .slice b 0 d := by
      obtain ⟨-, ⟨rfl, -⟩ | ⟨g0, c0, cur, rfl, -⟩⟩ := hrow
      ·exact ⟨none, 0, rfl⟩
      ·exact ⟨_, c0, rfl⟩
     have BF : Hid (Below w.heap.size w W13) := Lib.hid (by
      have b6 := C4.out.trans (B6.out.mono C4.out.size)
      exact b6.trans (hr13.tn.below b6.size fun k hk => by have h1 := hk.1; have := B2.out.size; omega))
     clear hrow hb13 hks2 hRG2 hr13 hhe
     go_wp2_with fail
     go_ret
     exact ⟨rfl, BF.out⟩
    ·have hX34 : X = 3 ∨ X = 4 := by
      rw [who_find] at hX
      have h1 := List.find?_some hX
      have h2 : X ∈ turned (rotL D) rq0 := List.mem_of_find?_eq_some hX
      have h3 : X ∈ rotL D := by
       unfold turned at h2
       rcases List.mem_append.1 h2 with h | h
       ·exact List.mem_of_mem_drop h
       ·exact List.mem_of_mem_take h
      have h4 := rotL_is D X h3
      unfold okX at h1
      unfold IsL at h4
      simp at h1
      omega
     subst hw
     have HXX := Lib.hid hX
     clear hX
     have BW : Hid (Below w.heap.size w wr) := Lib.hid (by
      have b6 := C4.out.trans (B6.out.mono C4.out.size)
      exact b6.trans (RE.out.tn.below b6.size (fun k hk => by have h1 := hk.1; have h2 := B2.out.size; omega)))
     have SI : Hid (∀ L, IsL L → SortedI (s.init L)) := Lib.hid fun L hL => (K0.out.li L hL).so
     rcases hX34 with hh | hh
     ·subst hh
      have s0c : wr.cell? ⟨w.heap.size, 0, none⟩ = some (.slice (ia 0) (T 0).length (ic 0)) := (RE.out.tn.cell (((S4.out.below B6.out S4.out.lt).cell 0).trans rfl) (fun e => by have h1 : g.B0 ≤ w.heap.size := e.1; have h2 := S2.out.lt; omega))
      have hkk : kOf 3 = 0 := rfl
      rw [hkk]
      clear hkk
      go_wp2_with fail
      refine (titles_any (T 0) (ia 0) (ic 0) wr ((HT.out 0 (by omega)).1.below BW.out (Nat.le_refl _)) (HT.out 0 (by omega)).2).mono ?_
      rintro e W12 ⟨v2, rfl, hv2, hb12⟩
      obtain ⟨av, cv, rfl, -⟩ := row_cellz hv2
      have RF := Lib.hid (RE.out.up hb12)
      have cc := RF.out.cells
      have x0 := cc.x0
      have a0 := cc.a0
      have x2 := cc.x2
      have l0 := cc.l0
      have l1 := cc.l1
      clear hv2 hb12 s0c cc RE
      obtain ⟨n5, hn5⟩ : ∃ n5, n5 = (ttl (T 0)).length := ⟨_, rfl⟩
      rw [← hn5]
      have n5l : (n5 : Int) ≤ 20000 := by rw [hn5]; unfold ttl; simp; omega
      have HN5 := Lib.hid hn5
      have hi5 : Hid ((s.init 3).length = n5) := Lib.hid (by rw [hn5, HS0.out]; show (srt (ttl (T 0))).length = _; unfold srt; rw [List.length_mergeSort])
      clear hn5
      go_wp2_with fail
      refine (RF.out.state (a := 1) (.inl rfl) rq0 (i64_small (by omega))).mono ?_
      rintro e W13 ⟨rfl, s', P', rfl, hks', hRG⟩
      have hst : (s'.as 1).state rq0 = 4 := by
       obtain ⟨q, -, -, h1, ⟨h4, h5⟩ | ⟨h7, h5⟩⟩ := hRG.fin1 hks'
       ·rw [h1, h4]
       ·rw [HXX.out] at h5; cases h5
      rw [hst]
      clear hst hRG hks'
      go_wp2_with fail
      refine (RF.out.lhere (L := 3) (.inl rfl) I0.out).mono ?_
      rintro e W14 ⟨v3, s2, P2, rfl, hrow, hb14, hks2, hRG2, hr14⟩
      obtain ⟨q, hq, hqt, -, hqc⟩ := hRG2.fin1 hks2
      have hq4 : q.st = 4 ∧ q.l = 3 := by
       rcases hqc with ⟨h4, h5⟩ | ⟨h7, h5⟩
       ·rw [HXX.out] at h5; injection h5 with h5; exact ⟨h4, h5.symm⟩
       ·rw [HXX.out] at h5; cases h5
      obtain ⟨r1, -, -, r4⟩ := hRG2.2.2.1.rest4 hks2 SI.out hq hq4.1
      rw [hq4.2] at r4
      have hlen : (s2.ls 3).here.length + 1 = n5 := by
       have := r4.length_eq
       rw [List.length_append, hi5.out] at this
       simpa using this
      obtain ⟨av3, cv3, rfl, -⟩ := row_cellz hrow
      obtain ⟨n6, hn6⟩ : ∃ n6, n6 = (s2.ls 3).here.length := ⟨_, rfl⟩
      rw [← hn6] at hlen ⊢
      have hw6 : IntKind.i64.wrap ((n5 : Int) - 1) = n6 := by rw [IntKind.wrap_i64]; omega
      have RG4 := Lib.hid (hr14.weak (Nat.le_refl _) fun _ _ _ h => h.1)
      have cc := RG4.out.cells
      have x0' := cc.x0
      have a0' := cc.a0
      clear hrow hb14 hks2 hRG2 hr14 hq hqt hqc hq4 r1 r4 hn6 cc x0 a0 x2 l0 l1
      go_wp2_with fail
      refine (RG4.out.here (a := 1) (.inl rfl)).mono ?_
      rintro e W15 ⟨v4, s3, P3, rfl, hrow, hb15, hks3, hRG3, hr15⟩
      obtain ⟨q, hq, hqt, -, hqc⟩ := hRG3.fin1 hks3
      have hq4 : q.st = 4 := by
       rcases hqc with ⟨h4, h5⟩ | ⟨h7, h5⟩
       ·exact h4
       ·rw [HXX.out] at h5; cases h5
      obtain ⟨r1, -⟩ := hRG3.2.2.1.rest4 hks3 SI.out hq hq4
      have hhe : (s3.as 1).here = [tt] := by rw [r1 1 (.inl rfl), if_pos rfl, hqt]
      rw [hhe] at hrow
      obtain ⟨W16, hW16⟩ : ∃ W16, W16 = W15.alloc (.cells #[.int .i64 tt] 3) := ⟨_, rfl⟩
      have B16 : Hid (Below W15.heap.size W15 W16) := Lib.hid (by rw [hW16]; exact (Below.refl _ _).alloc (Nat.le_refl _) _)
      have U16 : Hid (W16.ownsRow W14.heap.size 3 1 v4 [tt].length ([tt].map (Value.int .i64))) := Lib.hid ((Tn.of_below (F := fun _ => False) B16.out).row hrow (fun _ _ h => h))
      have V16 : Hid (W16.ownsRow 0 3 1 (.slice (some ⟨W15.heap.size, 0, none⟩) 1 1) [tt].length ([tt].map (Value.int .i64))) := Lib.hid (by rw [hW16]; exact row_fresh' (g := W15.heap.size) W15 rfl 0 #[.int .i64 tt] 3 1 1 rfl (by unfold maxLen; omega) (Nat.zero_le _))
      have BF : Hid (Below w.heap.size w W15) := Lib.hid (by
       have b6 := C4.out.trans (B6.out.mono C4.out.size)
       exact b6.trans (hr15.tn.below b6.size fun k hk => by have h1 := hk.1; have := B2.out.size; omega))
      have HW16 := Lib.hid hW16
      clear hrow hb15 hks3 hRG3 hr15 hhe hq hqt hqc hq4 r1 hW16 x0' a0'
      go_wp2_with fail
      rw [← HW16.out]
      refine (isame_any v4 _ [tt] W16 U16.out V16.out (by simp)).mono ?_
      rintro e W17 ⟨rfl, hb17⟩
      have BG : Hid (Below w.heap.size w W17) := Lib.hid ((BF.out.trans (B16.out.mono BF.out.size)).trans (hb17.mono (Nat.le_trans BF.out.size B16.out.size)))
      clear hb17
      go_wp2_with fail
      go_ret
      exact ⟨rfl, BG.out⟩
     ·subst hh
      have s0c : wr.cell? ⟨w.heap.size, 1, none⟩ = some (.slice (ia 1) (T 1).length (ic 1)) := (RE.out.tn.cell (((S4.out.below B6.out S4.out.lt).cell 1).trans rfl) (fun e => by have h1 : g.B0 ≤ w.heap.size := e.1; have h2 := S2.out.lt; omega))
      have hkk : kOf 4 = 1 := rfl
      rw [hkk]
      clear hkk
      go_wp2_with fail
      refine (titles_any (T 1) (ia 1) (ic 1) wr ((HT.out 1 (by omega)).1.below BW.out (Nat.le_refl _)) (HT.out 1 (by omega)).2).mono ?_
      rintro e W12 ⟨v2, rfl, hv2, hb12⟩
      obtain ⟨av, cv, rfl, -⟩ := row_cellz hv2
      have RF := Lib.hid (RE.out.up hb12)
      have cc := RF.out.cells
      have x0 := cc.x0
      have a0 := cc.a0
      have x2 := cc.x2
      have l0 := cc.l0
      have l1 := cc.l1
      clear hv2 hb12 s0c cc RE
      obtain ⟨n5, hn5⟩ : ∃ n5, n5 = (ttl (T 1)).length := ⟨_, rfl⟩
      rw [← hn5]
      have n5l : (n5 : Int) ≤ 20000 := by rw [hn5]; unfold ttl; simp; omega
      have HN5 := Lib.hid hn5
      have hi5 : Hid ((s.init 4).length = n5) := Lib.hid (by rw [hn5, HS0.out]; show (srt (ttl (T 1))).length = _; unfold srt; rw [List.length_mergeSort])
      clear hn5
      go_wp2_with fail
      refine (RF.out.state (a := 1) (.inl rfl) rq0 (i64_small (by omega))).mono ?_
      rintro e W13 ⟨rfl, s', P', rfl, hks', hRG⟩
      have hst : (s'.as 1).state rq0 = 4 := by
       obtain ⟨q, -, -, h1, ⟨h4, h5⟩ | ⟨h7, h5⟩⟩ := hRG.fin1 hks'
       ·rw [h1, h4]
       ·rw [HXX.out] at h5; cases h5
      rw [hst]
      clear hst hRG hks'
      go_wp2_with fail
      refine (RF.out.lhere (L := 4) (.inr (.inl rfl)) I0.out).mono ?_
      rintro e W14 ⟨v3, s2, P2, rfl, hrow, hb14, hks2, hRG2, hr14⟩
      obtain ⟨q, hq, hqt, -, hqc⟩ := hRG2.fin1 hks2
      have hq4 : q.st = 4 ∧ q.l = 4 := by
       rcases hqc with ⟨h4, h5⟩ | ⟨h7, h5⟩
       ·rw [HXX.out] at h5; injection h5 with h5; exact ⟨h4, h5.symm⟩
       ·rw [HXX.out] at h5; cases h5
      obtain ⟨r1, -, -, r4⟩ := hRG2.2.2.1.rest4 hks2 SI.out hq hq4.1
      rw [hq4.2] at r4
      have hlen : (s2.ls 4).here.length + 1 = n5 := by
       have := r4.length_eq
       rw [List.length_append, hi5.out] at this
       simpa using this
      obtain ⟨av3, cv3, rfl, -⟩ := row_cellz hrow
      obtain ⟨n6, hn6⟩ : ∃ n6, n6 = (s2.ls 4).here.length := ⟨_, rfl⟩
      rw [← hn6] at hlen ⊢
      have hw6 : IntKind.i64.wrap ((n5 : Int) - 1) = n6 := by rw [IntKind.wrap_i64]; omega
      have RG4 := Lib.hid (hr14.weak (Nat.le_refl _) fun _ _ _ h => h.1)
      have cc := RG4.out.cells
      have x0' := cc.x0
      have a0' := cc.a0
      clear hrow hb14 hks2 hRG2 hr14 hq hqt hqc hq4 r1 r4 hn6 cc x0 a0 x2 l0 l1
      go_wp2_with fail
      refine (RG4.out.here (a := 1) (.inl rfl)).mono ?_
      rintro e W15 ⟨v4, s3, P3, rfl, hrow, hb15, hks3, hRG3, hr15⟩
      obtain ⟨q, hq, hqt, -, hqc⟩ := hRG3.fin1 hks3
      have hq4 : q.st = 4 := by
       rcases hqc with ⟨h4, h5⟩ | ⟨h7, h5⟩
       ·exact h4
       ·rw [HXX.out] at h5; cases h5
      obtain ⟨r1, -⟩ := hRG3.2.2.1.rest4 hks3 SI.out hq hq4
      have hhe : (s3.as 1).here = [tt] := by rw [r1 1 (.inl rfl), if_pos rfl, hqt]
      rw [hhe] at hrow
      obtain ⟨W16, hW16⟩ : ∃ W16, W16 = W15.alloc (.cells #[.int .i64 tt] 3) := ⟨_, rfl⟩
      have B16 : Hid (Below W15.heap.size W15 W16) := Lib.hid (by rw [hW16]; exact (Below.refl _ _).alloc (Nat.le_refl _) _)
      have U16 : Hid (W16.ownsRow W14.heap.size 3 1 v4 [tt].length ([tt].map (Value.int .i64))) := Lib.hid ((Tn.of_below (F := fun _ => False) B16.out).row hrow (fun _ _ h => h))
      have V16 : Hid (W16.ownsRow 0 3 1 (.slice (some ⟨W15.heap.size, 0, none⟩) 1 1) [tt].length ([tt].map (Value.int .i64))) := Lib.hid (by rw [hW16]; exact row_fresh' (g := W15.heap.size) W15 rfl 0 #[.int .i64 tt] 3 1 1 rfl (by unfold maxLen; omega) (Nat.zero_le _))
      have BF : Hid (Below w.heap.size w W15) := Lib.hid (by
       have b6 := C4.out.trans (B6.out.mono C4.out.size)
       exact b6.trans (hr15.tn.below b6.size fun k hk => by have h1 := hk.1; have := B2.out.size; omega))
      have HW16 := Lib.hid hW16
      clear hrow hb15 hks3 hRG3 hr15 hhe hq hqt hqc hq4 r1 hW16 x0' a0'
      go_wp2_with fail
      rw [← HW16.out]
      refine (isame_any v4 _ [tt] W16 U16.out V16.out (by simp)).mono ?_
      rintro e W17 ⟨rfl, hb17⟩
      have BG : Hid (Below w.heap.size w W17) := Lib.hid ((BF.out.trans (B16.out.mono BF.out.size)).trans (hb17.mono (Nat.le_trans BF.out.size B16.out.size)))
      clear hb17
      go_wp2_with fail
      go_ret
      exact ⟨rfl, BG.out⟩
end Go.Proofs.YtdojgbpaheadnaaGreat
