/- A merged record has certain fields, from certain sources. -/
import Derived.Test.YtpdldbapagchfaaGreatDoorQ20
import Derived.Test.YtpdldbapagchfaaGreatDoorQ07
import Derived.Test.YtpdldbapagchfaaGreatDoorQ13
set_option linter.unusedVariables false
set_option linter.unusedSimpArgs false

namespace Go.Proofs.YtpdldbapagchfaaGreatDoor
open Go.RowKit Go.Shelf Go.Maps
attribute [local go_sem] over_cell over_frozen

set_option maxRecDepth 100000 in
set_option maxHeartbeats 4000000 in
theorem is_any {S : Nat → Prop} {w : World} {cs : List Value} {mr : Mrg} (hm : MrgR S w cs mr) {ps : List (Int × ByteArray × ByteArray)} (hps : mr.l.map (fun y => (y.2.1, y.1)) = ps.map fun p => (p.1, fldS p.2.1 p.2.2)) (hn : ps.length ≤ 100)
    {gi ci gs sc n2 n : Nat} (hnl : n = ps.length) (hn2 : n2 = 2 * ps.length) (hgi : ∀ j x, (ps.map (·.1))[j]? = some x → w.cell? ⟨gi, j, none⟩ = some (.int .i64 x)) (hgs : ∀ j x, (pairsL (ps.map (·.2)))[j]? = some x → w.cell? ⟨gs, j, none⟩ = some (.string x)) :
    Calls Tryz.prog 28 #[.agg cs.toArray, .slice (some ⟨gi, 0, none⟩) n ci, .slice (some ⟨gs, 0, none⟩) n2 sc] w fun e w' => e = .returned (.bool true) ∧ Below w.heap.size w w' := by
  obtain ⟨fv, rv, rfl, hf, hr⟩ := hm
  have HF := Lib.hid hf
  have HR := Lib.hid hr
  obtain ⟨fa, fc, rfl, -⟩ := hf
  obtain ⟨ra, rc, rfl, -⟩ := hr
  have hml : mr.l.length = n := by rw [hnl]; simpa using congrArg List.length hps
  have e1 : mr.fs.length = n := by simp [Mrg.fs, hml]
  have e2 : mr.rs.length = n := by simp [Mrg.rs, hml]
  rw [e1] at HF ⊢
  rw [e2] at HR ⊢
  have HML := Lib.hid hml
  have HNL := Lib.hid hnl
  have HN2 := Lib.hid hn2
  have HGI := Lib.hid hgi
  have HGS := Lib.hid hgs
  have HPS := Lib.hid hps
  have hn100 : n ≤ 100 := by omega
  have hn200 : n2 ≤ 200 := by omega
  obtain ⟨kd, hkd⟩ : ∃ kd, kd = mr.kind := ⟨_, rfl⟩
  obtain ⟨lv, hlv⟩ : ∃ lv, lv = mr.level := ⟨_, rfl⟩
  rw [← hkd, ← hlv]
  obtain ⟨W1, hW1⟩ : ∃ W1, W1 = w.alloc (.cells #[.int .u8 kd, .int .u8 lv, .slice fa n fc, .slice ra n rc] 32) := ⟨_, rfl⟩
  have B1 : RowKit.Hid (Below w.heap.size w W1) := Lib.hid (by rw [hW1]; exact (Below.refl _ _).alloc (Nat.le_refl _) _)
  have K1 : RowKit.Hid (Blk W1 w.heap.size #[.int .u8 kd, .int .u8 lv, .slice fa n fc, .slice ra n rc] 32) := Lib.hid (by rw [hW1]; exact Blk.new _ _ _)
  have k12 : W1.cell? ⟨w.heap.size, 2, none⟩ = some (.slice fa n fc) := K1.out.cell 2
  have k13 : W1.cell? ⟨w.heap.size, 3, none⟩ = some (.slice ra n rc) := K1.out.cell 3
  have q1 : ((n : Int) != (n : Int)) = false := by simp
  have q2 : ((n2 : Int) != 2 * (n : Int)) = false := by simp; omega
  have q3 : IntKind.i64.wrap (2 * (n : Int)) = 2 * (n : Int) := by rw [IntKind.wrap_i64]; omega
  clear hgi hgs hps hnl hn2 hml e1 e2 hkd hlv
  go_enter Tryz.func28, Tryz.ntmps28
  go_wp2_with fail
  rw [← hW1]
  clear hW1
  go_wp2_with fail
  clear q1 q2 q3 k12 k13
  go_loopw [36] (fun i wr => ∃ k : Nat, k ≤ n ∧ i = .int .i64 k ∧ Below W1.heap.size W1 wr) (fun i _ => n - (intOf i).toNat)
  case atStart => exact ⟨0, by omega, rfl, Below.refl _ _⟩
  case round =>
    obtain ⟨q, hq, rfl, hb⟩ := hrel
    have HB := Lib.hid hb
    have HBW : RowKit.Hid (Below w.heap.size w wr) := Lib.hid (B1.out.trans (hb.mono B1.out.size))
    clear hb
    by_cases hlt : q < n
    · have hlx : q < mr.fs.length := by unfold Mrg.fs; rw [List.length_map, HML.out]; exact hlt
      have hly : q < mr.rs.length := by unfold Mrg.rs; rw [List.length_map, HML.out]; exact hlt
      have hlp : q < ps.length := by rw [← HNL.out]; exact hlt
      obtain ⟨b, o, cap3, css, e1, -, -, hRf, -, hrg, -⟩ := SlOf.range (by omega) (FldsAt.keep HF.out (Stay.of_below HBW.out) (fun _ h _ => h)) hlx
      have e2 : fa = some ⟨b, o, none⟩ := by injection e1
      clear e1
      subst e2
      obtain ⟨rb, ro, cap4, csr, e1, -, -, hRr, -, hrgr, -⟩ := SlOf.range (by omega) (HR.out.keep (R' := RecR) (by omega) (Stay.of_below HBW.out) (fun _ _ h => h) (fun _ h _ => h)) hly
      have e2 : ra = some ⟨rb, ro, none⟩ := by injection e1
      clear e1
      subst e2
      obtain ⟨x1, hx1⟩ : ∃ y, y = ps[q].1 := ⟨_, rfl⟩
      obtain ⟨p1, hp1⟩ : ∃ y, y = ps[q].2.1 := ⟨_, rfl⟩
      obtain ⟨p2, hp2⟩ : ∃ y, y = ps[q].2.2 := ⟨_, rfl⟩
      have hlm : q < mr.l.length := by rw [HML.out]; exact hlt
      have hpq : (mr.l[q].2.1, mr.l[q].1) = (x1, fldS p1 p2) := by
        have h1 := congrArg (fun l => l[q]?) HPS.out
        simp only [List.getElem?_map, List.getElem?_eq_getElem hlm, List.getElem?_eq_getElem hlp, Option.map_some, Option.some.injEq] at h1
        rw [h1, hx1, hp1, hp2]
      have hfq : mr.fs[q] = fldS p1 p2 := by
        have h1 : mr.fs[q]? = some (fldS p1 p2) := by
          show (mr.l.map (·.1))[q]? = _
          rw [List.getElem?_map, List.getElem?_eq_getElem hlm]; exact congrArg some (congrArg Prod.snd hpq)
        rw [List.getElem?_eq_getElem hlx] at h1; injection h1
      have hrq : mr.rs[q].1 = x1 := by
        have h1 : mr.rs[q]? = some mr.l[q].2 := by
          show (mr.l.map (·.2))[q]? = _
          rw [List.getElem?_map, List.getElem?_eq_getElem hlm]; rfl
        rw [List.getElem?_eq_getElem hly] at h1
        have h2 : mr.rs[q] = mr.l[q].2 := by injection h1
        rw [h2]; exact congrArg Prod.fst hpq
      rw [hfq] at hRf
      have HRF := Lib.hid hRf
      obtain ⟨sa, sc', rfl, -⟩ := hRf.expl
      obtain ⟨sn, hsn⟩ : ∃ y, y = (fldS p1 p2).subs.length := ⟨_, rfl⟩
      obtain ⟨f1, hf1⟩ : ∃ y, y = (fldS p1 p2).tag := ⟨_, rfl⟩
      obtain ⟨f2, hf2⟩ : ∃ y, y = (fldS p1 p2).ind := ⟨_, rfl⟩
      obtain ⟨f3, hf3⟩ : ∃ y, y = (fldS p1 p2).data := ⟨_, rfl⟩
      rw [← hsn, ← hf1, ← hf2, ← hf3] at HRF hrg
      have HG := Lib.hid hrg
      unfold RecR at hRr
      subst hRr
      have hrr : wr.cell? ⟨rb, ro + q * 2, none⟩ = some (.int .i64 x1) := by rw [← hrq]; exact (range2 hrgr).1
      have hci : wr.cell? ⟨gi, q, none⟩ = some (.int .i64 x1) := Below.cellE HBW.out (HGI.out q x1 (by rw [List.getElem?_map, List.getElem?_eq_getElem hlp, hx1]; rfl))
      have hpp := pairs_at (l := ps.map (·.2)) (k := q) (by rw [List.length_map]; exact hlp)
      have hs1 : wr.cell? ⟨gs, 2 * q, none⟩ = some (.string p1) := Below.cellE HBW.out (HGS.out _ p1 (by rw [hpp.1, List.getElem_map, hp1]))
      have hs2 : wr.cell? ⟨gs, 2 * q + 1, none⟩ = some (.string p2) := Below.cellE HBW.out (HGS.out _ p2 (by rw [hpp.2, List.getElem_map, hp2]))
      have hk3 : wr.cell? ⟨w.heap.size, 3, none⟩ = some (.slice (some ⟨rb, ro, none⟩) n rc) := Below.cellE HB.out (K1.out.cell 3)
      obtain ⟨g8, hg8⟩ : ∃ g, g = wr.heap.size := ⟨_, rfl⟩
      obtain ⟨W8, hW8⟩ : ∃ W8, W8 = wr.alloc (.cells #[.string f1, .string f2, .string f3, .slice sa sn sc'] 48) := ⟨_, rfl⟩
      have B8 : RowKit.Hid (Below wr.heap.size wr W8) := Lib.hid (by rw [hW8]; exact (Below.refl _ _).alloc (Nat.le_refl _) _)
      have K8 : RowKit.Hid (Blk W8 g8 #[.string f1, .string f2, .string f3, .slice sa sn sc'] 48) := Lib.hid (by rw [hW8, hg8]; exact Blk.new _ _ _)
      have CS : RowKit.Hid (wr.cell? ⟨w.heap.size, 3, none⟩ = some (.slice (some ⟨rb, ro, none⟩) n rc) ∧ wr.cell? ⟨rb, ro + q * 2, none⟩ = some (.int .i64 x1) ∧ wr.cell? ⟨gi, q, none⟩ = some (.int .i64 x1) ∧ wr.cell? ⟨gs, 2 * q, none⟩ = some (.string p1) ∧ wr.cell? ⟨gs, 2 * q + 1, none⟩ = some (.string p2)) := Lib.hid ⟨hk3, hrr, hci, hs1, hs2⟩
      have hz8 : wr.heap.size ≤ W8.heap.size := B8.out.size
      have HN2q : RowKit.Hid (2 * q + 1 < n2) := Lib.hid (by have := HN2.out; omega)
      clear hrg hrgr hx1 hp1 hp2 hpq hfq hrq hsn hf1 hf2 hf3 hrr hci hpp hs1 hs2 hk3 hlx hly hlp hlm
      go_wp2_with (refine wpList_load_mid rfl 48 (.tmp 39) rfl b (o + q * 4) rfl [.string f1, .string f2, .string f3, .slice sa sn sc'] _ HG.out Tryz.underlying48 rfl (by kernel_rfl) ?_)
      rw [← hW8, ← hg8]
      clear hW8 hg8
      obtain ⟨S', hS'⟩ : ∃ S' : World → Prop, S' = fun W => Below W8.heap.size W8 W := ⟨_, rfl⟩
      have LD : RowKit.Hid (∀ W, S' W → W.cell? ⟨w.heap.size, 3, none⟩ = some (.slice (some ⟨rb, ro, none⟩) n rc) ∧ W.cell? ⟨rb, ro + q * 2, none⟩ = some (.int .i64 x1) ∧ W.cell? ⟨gi, q, none⟩ = some (.int .i64 x1) ∧ W.cell? ⟨gs, 2 * q, none⟩ = some (.string p1) ∧ W.cell? ⟨gs, 2 * q + 1, none⟩ = some (.string p2)) := Lib.hid (by
        rw [hS']; intro W hW
        have h1 := B8.out.trans (hW.mono hz8)
        exact ⟨Below.cellE h1 CS.out.1, Below.cellE h1 CS.out.2.1, Below.cellE h1 CS.out.2.2.1, Below.cellE h1 CS.out.2.2.2.1, Below.cellE h1 CS.out.2.2.2.2⟩)
      have LB : RowKit.Hid (∀ W, S' W → Blk W g8 #[.string f1, .string f2, .string f3, .slice sa sn sc'] 48) := Lib.hid (by rw [hS']; exact fun W h => K8.out.below h K8.out.lt)
      have UU : RowKit.Hid (∀ W, Below W8.heap.size W8 W → S' W) := Lib.hid (by rw [hS']; exact fun W h => h)
      have hHeld := UU.out _ (Below.refl W8.heap.size W8).drew
      clear hS'
      refine wp_region_held_drew (S := S') (by kernel_rfl) hHeld (fun _ => ?_)
      apply wpAnyH_apartV (fun v65 W => Below W8.heap.size W8 W)
      case take =>
        intro R hR
        have g1 : IntKind.i64.wrap (2 * (q : Int)) = 2 * (q : Int) := by rw [IntKind.wrap_i64]; omega
        have g2 : IntKind.i64.wrap (2 * (q : Int) + 1) = 2 * (q : Int) + 1 := by rw [IntKind.wrap_i64]; omega
        have g3 : (0 : Int) ≤ 2 * (q : Int) := by omega
        have g4 : (0 : Int) ≤ 2 * (q : Int) + 1 := by omega
        have g5 : (2 * (q : Int)).toNat = 2 * q := by omega
        have g6 : (2 * (q : Int) + 1).toNat = 2 * q + 1 := by omega
        have g7 : 2 * (q : Int) < (n2 : Int) := by have := HN2q.out; omega
        have g8' : 2 * (q : Int) + 1 < (n2 : Int) := by have := HN2q.out; omega
        have g9 : (q : Int) < (n : Int) := by omega
        have g10 : (x1 != x1) = false := by simp
        refine wpAnyH_take (i := 0) (v := ?_) rfl (by kernel_rfl) (by kernel_rfl) (by kernel_rfl) (fun _ _ _ h => only_panic h) (Or.inl ⟨by rfl, ?_⟩) hHeld ?_
        rotate_left
        · (intro w hSw; obtain ⟨l0, l1, l2, l3, l4⟩ := LD.out w hSw; go_simp; try (with_reducible rfl))
        try simp only [List.getElem_toArray, List.getElem_cons_succ, List.getElem_cons_zero, Act.put, List.setIfInBounds_toArray, List.set_cons_zero, List.set_cons_succ]
        refine wpAnyH_take (i := 1) (v := ?_) rfl (by kernel_rfl) (by kernel_rfl) (by kernel_rfl) (fun _ _ _ h => only_panic h) (Or.inl ⟨by rfl, ?_⟩) hHeld ?_
        rotate_left
        · (intro w hSw; obtain ⟨l0, l1, l2, l3, l4⟩ := LD.out w hSw; go_simp; try (with_reducible rfl))
        try simp only [List.getElem_toArray, List.getElem_cons_succ, List.getElem_cons_zero, Act.put, List.setIfInBounds_toArray, List.set_cons_zero, List.set_cons_succ]
        refine wpAnyH_take (i := 2) (v := ?_) rfl (by kernel_rfl) (by kernel_rfl) (by kernel_rfl) (fun _ _ _ h => only_panic h) (Or.inl ⟨by rfl, ?_⟩) hHeld ?_
        rotate_left
        · (intro w hSw; obtain ⟨l0, l1, l2, l3, l4⟩ := LD.out w hSw; go_simp; try (with_reducible rfl))
        try simp only [List.getElem_toArray, List.getElem_cons_succ, List.getElem_cons_zero, Act.put, List.setIfInBounds_toArray, List.set_cons_zero, List.set_cons_succ]
        refine wpAnyH_take (i := 3) (v := ?_) rfl (by kernel_rfl) (by kernel_rfl) (by kernel_rfl) (fun _ _ _ h => only_panic h) (Or.inl ⟨by rfl, ?_⟩) hHeld ?_
        rotate_left
        · (intro w hSw; obtain ⟨l0, l1, l2, l3, l4⟩ := LD.out w hSw; go_simp; try (with_reducible rfl))
        try simp only [List.getElem_toArray, List.getElem_cons_succ, List.getElem_cons_zero, Act.put, List.setIfInBounds_toArray, List.set_cons_zero, List.set_cons_succ]
        refine wpAnyH_take (i := 4) (v := ?_) rfl (by kernel_rfl) (by kernel_rfl) (by kernel_rfl) (fun _ _ _ h => only_panic h) (Or.inl ⟨by rfl, ?_⟩) hHeld ?_
        rotate_left
        · (intro w hSw; obtain ⟨l0, l1, l2, l3, l4⟩ := LD.out w hSw; go_simp; try (with_reducible rfl))
        try simp only [List.getElem_toArray, List.getElem_cons_succ, List.getElem_cons_zero, Act.put, List.setIfInBounds_toArray, List.set_cons_zero, List.set_cons_succ]
        refine wpAnyH_take (i := 5) (v := ?_) rfl (by kernel_rfl) (by kernel_rfl) (by kernel_rfl) (fun _ _ _ h => only_panic h) (Or.inl ⟨by rfl, ?_⟩) hHeld ?_
        rotate_left
        · (intro w hSw; obtain ⟨l0, l1, l2, l3, l4⟩ := LD.out w hSw; go_simp; try (with_reducible rfl))
        try simp only [List.getElem_toArray, List.getElem_cons_succ, List.getElem_cons_zero, Act.put, List.setIfInBounds_toArray, List.set_cons_zero, List.set_cons_succ]
        refine wpAnyH_take (i := 6) (v := ?_) rfl (by kernel_rfl) (by kernel_rfl) (by kernel_rfl) (fun _ _ _ h => only_panic h) (Or.inl ⟨by rfl, ?_⟩) hHeld ?_
        rotate_left
        · (intro w hSw; obtain ⟨l0, l1, l2, l3, l4⟩ := LD.out w hSw; go_simp; try (with_reducible rfl))
        try simp only [List.getElem_toArray, List.getElem_cons_succ, List.getElem_cons_zero, Act.put, List.setIfInBounds_toArray, List.set_cons_zero, List.set_cons_succ]
        refine wpAnyH_take (i := 7) (v := ?_) rfl (by kernel_rfl) (by kernel_rfl) (by kernel_rfl) (fun _ _ _ h => only_panic h) (Or.inl ⟨by rfl, ?_⟩) hHeld ?_
        rotate_left
        · (intro w hSw; obtain ⟨l0, l1, l2, l3, l4⟩ := LD.out w hSw; go_simp; try (with_reducible rfl))
        try simp only [List.getElem_toArray, List.getElem_cons_succ, List.getElem_cons_zero, Act.put, List.setIfInBounds_toArray, List.set_cons_zero, List.set_cons_succ]
        refine wpAnyH_take (i := 8) (v := ?_) rfl (by kernel_rfl) (by kernel_rfl) (by kernel_rfl) (fun _ _ _ h => only_panic h) (Or.inl ⟨by rfl, ?_⟩) hHeld ?_
        rotate_left
        · (intro w hSw; obtain ⟨l0, l1, l2, l3, l4⟩ := LD.out w hSw; go_simp; try (with_reducible rfl))
        try simp only [List.getElem_toArray, List.getElem_cons_succ, List.getElem_cons_zero, Act.put, List.setIfInBounds_toArray, List.set_cons_zero, List.set_cons_succ]
        refine wpAnyH_take (i := 9) (v := ?_) rfl (by kernel_rfl) (by kernel_rfl) (by kernel_rfl) (fun _ _ _ h => only_panic h) (Or.inl ⟨by rfl, ?_⟩) hHeld ?_
        rotate_left
        · (intro w hSw; obtain ⟨l0, l1, l2, l3, l4⟩ := LD.out w hSw; go_simp; try (with_reducible rfl))
        try simp only [List.getElem_toArray, List.getElem_cons_succ, List.getElem_cons_zero, Act.put, List.setIfInBounds_toArray, List.set_cons_zero, List.set_cons_succ]
        refine wpAnyH_take (i := 10) (v := ?_) rfl (by kernel_rfl) (by kernel_rfl) (by kernel_rfl) (fun _ _ _ h => only_panic h) (Or.inl ⟨by rfl, ?_⟩) hHeld ?_
        rotate_left
        · (intro w hSw; obtain ⟨l0, l1, l2, l3, l4⟩ := LD.out w hSw; go_simp; try (with_reducible rfl))
        try simp only [List.getElem_toArray, List.getElem_cons_succ, List.getElem_cons_zero, Act.put, List.setIfInBounds_toArray, List.set_cons_zero, List.set_cons_succ]
        refine wpAnyH_take (i := 11) (v := ?_) rfl (by kernel_rfl) (by kernel_rfl) (by kernel_rfl) (fun _ _ _ h => only_panic h) (Or.inl ⟨by rfl, ?_⟩) hHeld ?_
        rotate_left
        · (intro w hSw; obtain ⟨l0, l1, l2, l3, l4⟩ := LD.out w hSw; go_simp; try (with_reducible rfl))
        try simp only [List.getElem_toArray, List.getElem_cons_succ, List.getElem_cons_zero, Act.put, List.setIfInBounds_toArray, List.set_cons_zero, List.set_cons_succ]
        refine wpAnyH_take (i := 12) (v := .agg #[.string f1, .string f2, .string f3, .slice sa sn sc']) rfl (by kernel_rfl) (by kernel_rfl) (by kernel_rfl) (fun _ _ _ h => only_panic h) ?_ hHeld ?_
        · exact yields_row (.tmp 8) (by rfl) rfl rfl LB.out Tryz.underlying48 rfl (by kernel_rfl)
        try simp only [List.getElem_toArray, List.getElem_cons_succ, List.getElem_cons_zero, Act.put, List.setIfInBounds_toArray, List.set_cons_zero, List.set_cons_succ]
        refine wpAnyH_take (i := 13) (v := ?_) rfl (by kernel_rfl) (by kernel_rfl) (by kernel_rfl) (fun _ _ _ h => only_panic h) (Or.inl ⟨by rfl, ?_⟩) hHeld ?_
        rotate_left
        · (intro w hSw; obtain ⟨l0, l1, l2, l3, l4⟩ := LD.out w hSw; go_simp; try (with_reducible rfl))
        try simp only [List.getElem_toArray, List.getElem_cons_succ, List.getElem_cons_zero, Act.put, List.setIfInBounds_toArray, List.set_cons_zero, List.set_cons_succ]
        refine wpAnyH_take (i := 14) (v := ?_) rfl (by kernel_rfl) (by kernel_rfl) (by kernel_rfl) (fun _ _ _ h => only_panic h) (Or.inl ⟨by rfl, ?_⟩) hHeld ?_
        rotate_left
        · (intro w hSw; obtain ⟨l0, l1, l2, l3, l4⟩ := LD.out w hSw; go_simp; try (with_reducible rfl))
        try simp only [List.getElem_toArray, List.getElem_cons_succ, List.getElem_cons_zero, Act.put, List.setIfInBounds_toArray, List.set_cons_zero, List.set_cons_succ]
        refine wpAnyH_take (i := 15) (v := ?_) rfl (by kernel_rfl) (by kernel_rfl) (by kernel_rfl) (fun _ _ _ h => only_panic h) (Or.inl ⟨by rfl, ?_⟩) hHeld ?_
        rotate_left
        · (intro w hSw; obtain ⟨l0, l1, l2, l3, l4⟩ := LD.out w hSw; go_simp; try (with_reducible rfl))
        try simp only [List.getElem_toArray, List.getElem_cons_succ, List.getElem_cons_zero, Act.put, List.setIfInBounds_toArray, List.set_cons_zero, List.set_cons_succ]
        refine wpAnyH_take (i := 16) (v := ?_) rfl (by kernel_rfl) (by kernel_rfl) (by kernel_rfl) (fun _ _ _ h => only_panic h) (Or.inl ⟨by rfl, ?_⟩) hHeld ?_
        rotate_left
        · (intro w hSw; obtain ⟨l0, l1, l2, l3, l4⟩ := LD.out w hSw; go_simp; try (with_reducible rfl))
        try simp only [List.getElem_toArray, List.getElem_cons_succ, List.getElem_cons_zero, Act.put, List.setIfInBounds_toArray, List.set_cons_zero, List.set_cons_succ]
        refine wpAnyH_take (i := 17) (v := ?_) rfl (by kernel_rfl) (by kernel_rfl) (by kernel_rfl) (fun _ _ _ h => only_panic h) (Or.inl ⟨by rfl, ?_⟩) hHeld ?_
        rotate_left
        · (intro w hSw; obtain ⟨l0, l1, l2, l3, l4⟩ := LD.out w hSw; go_simp; try (with_reducible rfl))
        try simp only [List.getElem_toArray, List.getElem_cons_succ, List.getElem_cons_zero, Act.put, List.setIfInBounds_toArray, List.set_cons_zero, List.set_cons_succ]
        refine wpAnyH_take (i := 18) (v := ?_) rfl (by kernel_rfl) (by kernel_rfl) (by kernel_rfl) (fun _ _ _ h => only_panic h) (Or.inl ⟨by rfl, ?_⟩) hHeld ?_
        rotate_left
        · (intro w hSw; obtain ⟨l0, l1, l2, l3, l4⟩ := LD.out w hSw; go_simp; try (with_reducible rfl))
        try simp only [List.getElem_toArray, List.getElem_cons_succ, List.getElem_cons_zero, Act.put, List.setIfInBounds_toArray, List.set_cons_zero, List.set_cons_succ]
        refine wpAnyH_take (i := 19) (v := ?_) rfl (by kernel_rfl) (by kernel_rfl) (by kernel_rfl) (fun _ _ _ h => only_panic h) (Or.inl ⟨by rfl, ?_⟩) hHeld ?_
        rotate_left
        · (intro w hSw; obtain ⟨l0, l1, l2, l3, l4⟩ := LD.out w hSw; go_simp; try (with_reducible rfl))
        try simp only [List.getElem_toArray, List.getElem_cons_succ, List.getElem_cons_zero, Act.put, List.setIfInBounds_toArray, List.set_cons_zero, List.set_cons_succ]
        refine wpAnyH_take (i := 20) (v := ?_) rfl (by kernel_rfl) (by kernel_rfl) (by kernel_rfl) (fun _ _ _ h => only_panic h) (Or.inl ⟨by rfl, ?_⟩) hHeld ?_
        rotate_left
        · (intro w hSw; obtain ⟨l0, l1, l2, l3, l4⟩ := LD.out w hSw; go_simp; try (with_reducible rfl))
        try simp only [List.getElem_toArray, List.getElem_cons_succ, List.getElem_cons_zero, Act.put, List.setIfInBounds_toArray, List.set_cons_zero, List.set_cons_succ]
        refine wpAnyH_take (i := 21) (v := ?_) rfl (by kernel_rfl) (by kernel_rfl) (by kernel_rfl) (fun _ _ _ h => only_panic h) (Or.inl ⟨by rfl, ?_⟩) hHeld ?_
        rotate_left
        · (intro w hSw; obtain ⟨l0, l1, l2, l3, l4⟩ := LD.out w hSw; go_simp; try (with_reducible rfl))
        try simp only [List.getElem_toArray, List.getElem_cons_succ, List.getElem_cons_zero, Act.put, List.setIfInBounds_toArray, List.set_cons_zero, List.set_cons_succ]
        refine wpAnyH_take (i := 22) (v := ?_) rfl (by kernel_rfl) (by kernel_rfl) (by kernel_rfl) (fun _ _ _ h => only_panic h) (Or.inl ⟨by rfl, ?_⟩) hHeld ?_
        rotate_left
        · (intro w hSw; obtain ⟨l0, l1, l2, l3, l4⟩ := LD.out w hSw; go_simp; try (with_reducible rfl))
        try simp only [List.getElem_toArray, List.getElem_cons_succ, List.getElem_cons_zero, Act.put, List.setIfInBounds_toArray, List.set_cons_zero, List.set_cons_succ]
        refine wpAnyH_take (i := 23) (v := ?_) rfl (by kernel_rfl) (by kernel_rfl) (by kernel_rfl) (fun _ _ _ h => only_panic h) (Or.inl ⟨by rfl, ?_⟩) hHeld ?_
        rotate_left
        · (intro w hSw; obtain ⟨l0, l1, l2, l3, l4⟩ := LD.out w hSw; go_simp; try (with_reducible rfl))
        try simp only [List.getElem_toArray, List.getElem_cons_succ, List.getElem_cons_zero, Act.put, List.setIfInBounds_toArray, List.set_cons_zero, List.set_cons_succ]
        clear g1 g2 g3 g4 g5 g6 g7 g8' g9 g10
        refine wpAnyH_one (i := 24) rfl (by kernel_rfl) (by rfl) ?_
        go_simp
        refine (field_any p1 p2 _).mono ?_
        rintro e W2 ⟨cs2, rfl, hF, hb2⟩
        have HB2 : RowKit.Hid (Below W8.heap.size W8 W2) := Lib.hid ((Below.refl _ _).drew.trans hb2)
        have HF2 := Lib.hid hF
        obtain ⟨sv2, rfl, sa2, sc2, rfl, -⟩ := hF
        have hHeld := UU.out _ HB2.out
        have hs8 : FldR S W2 [.string f1, .string f2, .string f3, .slice sa sn sc'] (fldS p1 p2) := keeps_fld _ _ _ _ _ _ HRF.out (Stay.of_below (B8.out.trans (HB2.out.mono hz8))) (fun _ h _ => h)
        have HSF := Lib.hid (sameField_any S _ hs8 HF2.out (by show (1 : Nat) ≤ 1000; omega) (by show (1 : Nat) ≤ 1000; omega))
        clear hb2 hs8
        refine ⟨hHeld, ?_⟩
        refine wpAnyH_one (i := 25) rfl (by kernel_rfl) (by rfl) ?_
        go_simp
        refine HSF.out.mono ?_
        rintro e W4 ⟨he4, hb4⟩
        have he5 : e = .returned (.bool true) := by rw [he4, decide_eq_true rfl]
        subst he5
        have HB4 : RowKit.Hid (Below W8.heap.size W8 W4) := Lib.hid (HB2.out.trans (hb4.mono HB2.out.size))
        have hHeld := UU.out _ HB4.out
        clear he4 hb4
        dsimp only
        refine ⟨hHeld, ?_⟩
        refine wpAnyH_take (i := 26) (v := ?_) rfl (by kernel_rfl) (by kernel_rfl) (by kernel_rfl) (fun _ _ _ h => only_panic h) (Or.inl ⟨by rfl, ?_⟩) hHeld ?_
        rotate_left
        · (intro w hSw; clear hSw; go_simp; try (with_reducible rfl))
        try simp only [List.getElem_toArray, List.getElem_cons_succ, List.getElem_cons_zero, Act.put, List.setIfInBounds_toArray, List.set_cons_zero, List.set_cons_succ]
        refine wpAnyH_take (i := 27) (v := ?_) rfl (by kernel_rfl) (by kernel_rfl) (by kernel_rfl) (fun _ _ _ h => only_panic h) (Or.inl ⟨by rfl, ?_⟩) hHeld ?_
        rotate_left
        · (intro w hSw; clear hSw; go_simp; try (with_reducible rfl))
        try simp only [List.getElem_toArray, List.getElem_cons_succ, List.getElem_cons_zero, Act.put, List.setIfInBounds_toArray, List.set_cons_zero, List.set_cons_succ]
        obtain ⟨v65, hv65⟩ : ∃ v65 : Value, v65 = .agg #[.string (fldS p1 p2).tag, .string (fldS p1 p2).ind, .string (fldS p1 p2).data, .slice sa2 (fldS p1 p2).subs.length sc2] := ⟨_, rfl⟩
        rw [← hv65]
        exact wpAnyH_done (by kernel_rfl) ⟨rfl, hR v65 W4 HB4.out⟩ _
      case rest =>
        rintro v65 W4 hb4
        have HB4 : RowKit.Hid (Below W1.heap.size W1 W4) := Lib.hid (HB.out.trans ((B8.out.trans (hb4.mono hz8)).mono HB.out.size))
        clear hb4
        go_wp2_with fail
        exact ⟨⟨q + 1, hlt, by go_num, HB4.out⟩, by simp [intOf]; omega⟩
    · obtain rfl : q = n := by omega
      go_wp2_with fail
      go_ret
      exact ⟨rfl, HBW.out⟩
end Go.Proofs.YtpdldbapagchfaaGreatDoor

/- The reference's policy of a tag. -/
namespace Go.Proofs.YtpdldbapagchfaaGreatDoor
open Go.RowKit Go.Shelf Go.Maps

def polI : Pol → Int
  | .loc => 3
  | .first => 1
  | .all => 2
def polB (L : List UInt8) : Pol :=
  match L with
  | [] => .all
  | b :: l => if b = 57 then .loc else
      if (b = 48 ∧ l.head? = some 48) ∨ b :: l = [48, 49, 48] ∨ b :: l = [48, 52, 48] ∨ b :: l = [49, 48, 48] ∨ b :: l = [49, 49, 48] ∨ b :: l = [50, 52, 53] then .first else .all
theorem polB_cons (b : UInt8) (l : List UInt8) : polB (b :: l) = if b = 57 then .loc else
      if (b = 48 ∧ l.head? = some 48) ∨ b :: l = [48, 49, 48] ∨ b :: l = [48, 52, 48] ∨ b :: l = [49, 48, 48] ∨ b :: l = [49, 49, 48] ∨ b :: l = [50, 52, 53] then .first else .all := rfl
theorem polP_B (t : ByteArray) : polP t = polB t.data.toList := by unfold polP polB; rw [toList_data]; rfl
set_option maxRecDepth 100000 in
theorem polW0 (w : World) : Calls Tryz.prog 53 #[.string ⟨#[]⟩] w fun e w' => e = .returned (.int .i64 2) ∧ w' = w := by
  go_enter Tryz.func53, Tryz.ntmps53
  go_wp2_with fail
  go_ret
  exact ⟨rfl, rfl⟩
set_option maxRecDepth 100000 in
set_option maxHeartbeats 2000000 in
theorem polW9 (t : ByteArray) (h : 0 < t.size) (e9 : ((t[0].toNat : Int) == 57) = true) (w : World) : Calls Tryz.prog 53 #[.string t] w fun e w' => e = .returned (.int .i64 3) ∧ w' = w := by
  have p1 : decide ((0 : Int) < t.size) = true := by simpa using h
  go_enter Tryz.func53, Tryz.ntmps53
  go_wp2_with fail
  go_ret
  exact ⟨rfl, rfl⟩
set_option maxRecDepth 100000 in
set_option maxHeartbeats 2000000 in
theorem polWz (t : ByteArray) (h : 0 < t.size) (e9 : ((t[0].toNat : Int) == 57) = false) (h2 : 2 ≤ t.size) (x0 : ((t.extract 0 2).toList == [48, 48]) = true) (w : World) : Calls Tryz.prog 53 #[.string t] w fun e w' => e = .returned (.int .i64 1) ∧ w' = w := by
  have p1 : decide ((0 : Int) < t.size) = true := by simpa using h
  have p2 : decide ((1 : Int) < t.size) = true := by simp; omega
  have p3 : decide (1 < t.size) = true := by simp; omega
  have p4 : (2 : Int) ≤ t.size := by omega
  go_enter Tryz.func53, Tryz.ntmps53
  go_wp2_with fail
  go_ret
  exact ⟨rfl, rfl⟩
set_option maxRecDepth 100000 in
set_option maxHeartbeats 2000000 in
theorem polWs0 (t : ByteArray) (h : 0 < t.size) (e9 : ((t[0].toNat : Int) == 57) = false) (h2 : 2 ≤ t.size) (x0 : ((t.extract 0 2).toList == [48, 48]) = false) (y0 : (t.toList == [48, 49, 48]) = true) (w : World) : Calls Tryz.prog 53 #[.string t] w fun e w' => e = .returned (.int .i64 1) ∧ w' = w := by
  have p1 : decide ((0 : Int) < t.size) = true := by simpa using h
  have p2 : decide ((1 : Int) < t.size) = true := by simp; omega
  have p3 : decide (1 < t.size) = true := by simp; omega
  have p4 : (2 : Int) ≤ t.size := by omega
  go_enter Tryz.func53, Tryz.ntmps53
  go_wp2_with fail
  go_ret
  exact ⟨rfl, rfl⟩
set_option maxRecDepth 100000 in
set_option maxHeartbeats 2000000 in
theorem polWs1 (t : ByteArray) (h : 0 < t.size) (e9 : ((t[0].toNat : Int) == 57) = false) (h2 : 2 ≤ t.size) (x0 : ((t.extract 0 2).toList == [48, 48]) = false) (y0 : (t.toList == [48, 49, 48]) = false) (y1 : (t.toList == [48, 52, 48]) = true) (w : World) : Calls Tryz.prog 53 #[.string t] w fun e w' => e = .returned (.int .i64 1) ∧ w' = w := by
  have p1 : decide ((0 : Int) < t.size) = true := by simpa using h
  have p2 : decide ((1 : Int) < t.size) = true := by simp; omega
  have p3 : decide (1 < t.size) = true := by simp; omega
  have p4 : (2 : Int) ≤ t.size := by omega
  go_enter Tryz.func53, Tryz.ntmps53
  go_wp2_with fail
  go_ret
  exact ⟨rfl, rfl⟩
set_option maxRecDepth 100000 in
set_option maxHeartbeats 2000000 in
theorem polWs2 (t : ByteArray) (h : 0 < t.size) (e9 : ((t[0].toNat : Int) == 57) = false) (h2 : 2 ≤ t.size) (x0 : ((t.extract 0 2).toList == [48, 48]) = false) (y0 : (t.toList == [48, 49, 48]) = false) (y1 : (t.toList == [48, 52, 48]) = false) (y2 : (t.toList == [49, 48, 48]) = true) (w : World) : Calls Tryz.prog 53 #[.string t] w fun e w' => e = .returned (.int .i64 1) ∧ w' = w := by
  have p1 : decide ((0 : Int) < t.size) = true := by simpa using h
  have p2 : decide ((1 : Int) < t.size) = true := by simp; omega
  have p3 : decide (1 < t.size) = true := by simp; omega
  have p4 : (2 : Int) ≤ t.size := by omega
  go_enter Tryz.func53, Tryz.ntmps53
  go_wp2_with fail
  go_ret
  exact ⟨rfl, rfl⟩
set_option maxRecDepth 100000 in
set_option maxHeartbeats 2000000 in
theorem polWs3 (t : ByteArray) (h : 0 < t.size) (e9 : ((t[0].toNat : Int) == 57) = false) (h2 : 2 ≤ t.size) (x0 : ((t.extract 0 2).toList == [48, 48]) = false) (y0 : (t.toList == [48, 49, 48]) = false) (y1 : (t.toList == [48, 52, 48]) = false) (y2 : (t.toList == [49, 48, 48]) = false) (y3 : (t.toList == [49, 49, 48]) = true) (w : World) : Calls Tryz.prog 53 #[.string t] w fun e w' => e = .returned (.int .i64 1) ∧ w' = w := by
  have p1 : decide ((0 : Int) < t.size) = true := by simpa using h
  have p2 : decide ((1 : Int) < t.size) = true := by simp; omega
  have p3 : decide (1 < t.size) = true := by simp; omega
  have p4 : (2 : Int) ≤ t.size := by omega
  go_enter Tryz.func53, Tryz.ntmps53
  go_wp2_with fail
  go_ret
  exact ⟨rfl, rfl⟩
set_option maxRecDepth 100000 in
set_option maxHeartbeats 2000000 in
theorem polWs4 (t : ByteArray) (h : 0 < t.size) (e9 : ((t[0].toNat : Int) == 57) = false) (h2 : 2 ≤ t.size) (x0 : ((t.extract 0 2).toList == [48, 48]) = false) (y0 : (t.toList == [48, 49, 48]) = false) (y1 : (t.toList == [48, 52, 48]) = false) (y2 : (t.toList == [49, 48, 48]) = false) (y3 : (t.toList == [49, 49, 48]) = false) (y4 : (t.toList == [50, 52, 53]) = true) (w : World) : Calls Tryz.prog 53 #[.string t] w fun e w' => e = .returned (.int .i64 1) ∧ w' = w := by
  have p1 : decide ((0 : Int) < t.size) = true := by simpa using h
  have p2 : decide ((1 : Int) < t.size) = true := by simp; omega
  have p3 : decide (1 < t.size) = true := by simp; omega
  have p4 : (2 : Int) ≤ t.size := by omega
  go_enter Tryz.func53, Tryz.ntmps53
  go_wp2_with fail
  go_ret
  exact ⟨rfl, rfl⟩
set_option maxRecDepth 100000 in
set_option maxHeartbeats 2000000 in
theorem polWa (t : ByteArray) (h : 0 < t.size) (e9 : ((t[0].toNat : Int) == 57) = false) (h2 : 2 ≤ t.size) (x0 : ((t.extract 0 2).toList == [48, 48]) = false) (y0 : (t.toList == [48, 49, 48]) = false) (y1 : (t.toList == [48, 52, 48]) = false) (y2 : (t.toList == [49, 48, 48]) = false) (y3 : (t.toList == [49, 49, 48]) = false) (y4 : (t.toList == [50, 52, 53]) = false) (w : World) : Calls Tryz.prog 53 #[.string t] w fun e w' => e = .returned (.int .i64 2) ∧ w' = w := by
  have p1 : decide ((0 : Int) < t.size) = true := by simpa using h
  have p2 : decide ((1 : Int) < t.size) = true := by simp; omega
  have p3 : decide (1 < t.size) = true := by simp; omega
  have p4 : (2 : Int) ≤ t.size := by omega
  go_enter Tryz.func53, Tryz.ntmps53
  go_wp2_with fail
  go_ret
  exact ⟨rfl, rfl⟩
set_option maxRecDepth 100000 in
set_option maxHeartbeats 2000000 in
theorem polWb (t : ByteArray) (h : 0 < t.size) (e9 : ((t[0].toNat : Int) == 57) = false) (h2 : t.size ≤ 1) (y0 : (t.toList == [48, 49, 48]) = false) (y1 : (t.toList == [48, 52, 48]) = false) (y2 : (t.toList == [49, 48, 48]) = false) (y3 : (t.toList == [49, 49, 48]) = false) (y4 : (t.toList == [50, 52, 53]) = false) (w : World) : Calls Tryz.prog 53 #[.string t] w fun e w' => e = .returned (.int .i64 2) ∧ w' = w := by
  have p1 : decide ((0 : Int) < t.size) = true := by simpa using h
  have p2 : decide ((1 : Int) < t.size) = false := by simp; omega
  have p3 : decide (1 < t.size) = false := by simp; omega
  go_enter Tryz.func53, Tryz.ntmps53
  go_wp2_with fail
  go_ret
  exact ⟨rfl, rfl⟩
theorem policyR_any (t : ByteArray) (w : World) : Calls Tryz.prog 53 #[.string t] w fun e w' => e = .returned (.int .i64 (polI (polP t))) ∧ w' = w := by
  have hP := polP_B t
  have hd := toList_data t
  have hsz : t.data.toList.length = t.size := dsz t
  have hx : (t.extract 0 2).toList = t.data.toList.take 2 := by
    rw [toList_data]
    simp [ByteArray.data_extract]
  have h0 : ∀ (h : 0 < t.size), t.data.toList[0]? = some (t[0]'h) := fun h => by
    rw [List.getElem?_eq_getElem (by rw [hsz]; exact h)]; rfl
  rw [hP]
  by_cases hs0 : t.size = 0
  · have hn : t.data.toList = [] := List.eq_nil_of_length_eq_zero (by omega)
    have ht : t = ⟨#[]⟩ := data_inj hn
    rw [ht]; exact polW0 w
  have hs : 0 < t.size := by omega
  have g0 := h0 hs
  revert hx hsz hd g0
  generalize hL : t.data.toList = L
  intro hd hsz hx g0
  cases L with
  | nil => simp at hsz; omega
  | cons b l =>
    have g0' : t[0] = b := by simp only [List.getElem?_cons_zero] at g0; injection g0 with g0; exact g0.symm
    by_cases h9 : b = 57
    · have e : polB (b :: l) = .loc := by rw [polB_cons, if_pos h9]
      rw [e]
      exact polW9 t hs (by rw [g0', h9]; rfl) w
    have e9 : ((t[0].toNat : Int) == 57) = false := by
      rw [g0']
      have h1 : b.toNat ≠ 57 := fun e => h9 (UInt8.toNat_inj.1 e)
      simp; omega
    by_cases hz : b = 48 ∧ l.head? = some 48
    · have e : polB (b :: l) = .first := by rw [polB_cons, if_neg h9, if_pos (.inl hz)]
      rw [e]
      obtain ⟨rfl, hz⟩ := hz
      cases l with
      | nil => simp at hz
      | cons c l =>
        have hc : c = 48 := by simpa using hz
        subst hc
        exact polWz t hs e9 (by rw [← hsz]; simp) (by rw [hx]; rfl) w
    have q : ∀ X : List UInt8, (t.toList == X) = decide (b :: l = X) := fun X => by rw [hd]; by_cases h : b :: l = X <;> simp [h]
    by_cases hbig : 2 ≤ t.size
    · have x0 : ((t.extract 0 2).toList == [48, 48]) = false := by
        rw [hx]
        cases l with
        | nil => simp at hsz; omega
        | cons c l =>
          have : ¬ (b = 48 ∧ c = 48) := fun h => hz ⟨h.1, by simp [h.2]⟩
          simpa using this
      by_cases h1 : b :: l = [48, 49, 48]
      · have e : polB (b :: l) = .first := by rw [polB_cons, if_neg h9, if_pos (.inr (.inl h1))]
        rw [e]; exact polWs0 t hs e9 hbig x0 (by rw [q, decide_eq_true h1]) w
      by_cases h2 : b :: l = [48, 52, 48]
      · have e : polB (b :: l) = .first := by rw [polB_cons, if_neg h9, if_pos (.inr (.inr (.inl h2)))]
        rw [e]; exact polWs1 t hs e9 hbig x0 (by rw [q, decide_eq_false h1]) (by rw [q, decide_eq_true h2]) w
      by_cases h3 : b :: l = [49, 48, 48]
      · have e : polB (b :: l) = .first := by rw [polB_cons, if_neg h9, if_pos (.inr (.inr (.inr (.inl h3))))]
        rw [e]; exact polWs2 t hs e9 hbig x0 (by rw [q, decide_eq_false h1]) (by rw [q, decide_eq_false h2]) (by rw [q, decide_eq_true h3]) w
      by_cases h4 : b :: l = [49, 49, 48]
      · have e : polB (b :: l) = .first := by rw [polB_cons, if_neg h9, if_pos (.inr (.inr (.inr (.inr (.inl h4)))))]
        rw [e]; exact polWs3 t hs e9 hbig x0 (by rw [q, decide_eq_false h1]) (by rw [q, decide_eq_false h2]) (by rw [q, decide_eq_false h3]) (by rw [q, decide_eq_true h4]) w
      by_cases h5 : b :: l = [50, 52, 53]
      · have e : polB (b :: l) = .first := by rw [polB_cons, if_neg h9, if_pos (.inr (.inr (.inr (.inr (.inr h5)))))]
        rw [e]; exact polWs4 t hs e9 hbig x0 (by rw [q, decide_eq_false h1]) (by rw [q, decide_eq_false h2]) (by rw [q, decide_eq_false h3]) (by rw [q, decide_eq_false h4]) (by rw [q, decide_eq_true h5]) w
      have e : polB (b :: l) = .all := by
        rw [polB_cons, if_neg h9, if_neg (by rintro (h | h | h | h | h | h) <;> contradiction)]
      rw [e]; exact polWa t hs e9 hbig x0 (by rw [q, decide_eq_false h1]) (by rw [q, decide_eq_false h2]) (by rw [q, decide_eq_false h3]) (by rw [q, decide_eq_false h4]) (by rw [q, decide_eq_false h5]) w
    · have hl : l = [] := by
        simp at hsz
        exact List.eq_nil_of_length_eq_zero (by omega)
      subst hl
      have e : polB [b] = .all := by
        rw [polB_cons, if_neg h9, if_neg (by rintro (h | h | h | h | h | h) <;> first | contradiction | exact absurd (congrArg List.length h) (by simp))]
      have qq : ∀ x y z : UInt8, (t.toList == [x, y, z]) = false := fun x y z => by rw [q]; simp
      rw [e]; exact polWb t hs e9 (by omega) (qq _ _ _) (qq _ _ _) (qq _ _ _) (qq _ _ _) (qq _ _ _) w
end Go.Proofs.YtpdldbapagchfaaGreatDoor

/- The examples, plainly. -/
namespace Go.Proofs.YtpdldbapagchfaaGreatDoor
open Go.RowKit Go.Shelf Go.Maps

def exA : List (ByteArray × ByteArray) := [(⟨#[50, 52, 53]⟩, ⟨#[69, 109, 109, 97]⟩), (⟨#[54, 53, 48]⟩, ⟨#[83, 101, 97, 32, 115, 116, 111, 114, 105, 101, 115]⟩), (⟨#[57, 48, 48]⟩, ⟨#[120]⟩)]
def exB : List (ByteArray × ByteArray) := [(⟨#[50, 52, 53]⟩, ⟨#[69, 109, 109, 97, 46]⟩), (⟨#[54, 53, 48]⟩, ⟨#[83, 69, 65, 32, 83, 84, 79, 82, 73, 69, 83, 46]⟩), (⟨#[54, 53, 48]⟩, ⟨#[82, 105, 118, 101, 114, 115]⟩), (⟨#[57, 48, 48]⟩, ⟨#[120]⟩)]
def exC : List (ByteArray × ByteArray) := [(⟨#[53, 48, 48]⟩, ⟨#[110]⟩)]
def verA : Ver := saysP 1 5 2 exA
def verB : Ver := saysP 2 1 1 exB
def verC : Ver := saysP 1 5 3 exC
def ps1 : List (Int × ByteArray × ByteArray) := [(1, ⟨#[50, 52, 53]⟩, ⟨#[69, 109, 109, 97]⟩), (1, ⟨#[54, 53, 48]⟩, ⟨#[83, 101, 97, 32, 115, 116, 111, 114, 105, 101, 115]⟩), (2, ⟨#[54, 53, 48]⟩, ⟨#[82, 105, 118, 101, 114, 115]⟩), (1, ⟨#[57, 48, 48]⟩, ⟨#[120]⟩), (2, ⟨#[57, 48, 48]⟩, ⟨#[120]⟩)]
def ps2 : List (Int × ByteArray × ByteArray) := [(2, ⟨#[50, 52, 53]⟩, ⟨#[69, 109, 109, 97, 46]⟩), (2, ⟨#[54, 53, 48]⟩, ⟨#[83, 69, 65, 32, 83, 84, 79, 82, 73, 69, 83, 46]⟩), (2, ⟨#[54, 53, 48]⟩, ⟨#[82, 105, 118, 101, 114, 115]⟩), (2, ⟨#[57, 48, 48]⟩, ⟨#[120]⟩)]
def ps3 : List (Int × ByteArray × ByteArray) := [(2, ⟨#[50, 52, 53]⟩, ⟨#[69, 109, 109, 97, 46]⟩), (1, ⟨#[53, 48, 48]⟩, ⟨#[110]⟩), (2, ⟨#[54, 53, 48]⟩, ⟨#[83, 69, 65, 32, 83, 84, 79, 82, 73, 69, 83, 46]⟩), (2, ⟨#[54, 53, 48]⟩, ⟨#[82, 105, 118, 101, 114, 115]⟩), (2, ⟨#[57, 48, 48]⟩, ⟨#[120]⟩)]
theorem polP_fun : polP = fun t => polB t.data.toList := funext polP_B
/-- What counts, reckoned. -/
def latC (l : List Ver) : Nat → List Ver
  | 0 => []
  | n + 1 => if bestF l l.length l[n]!.r = some n then insV l[n]! (latC l n) else latC l n
theorem latC_eq (l : List Ver) : ∀ n, latTo l n = latC l n
  | 0 => rfl
  | n + 1 => by
    unfold latTo latC
    rw [latC_eq l n]
    by_cases h : Cnt l n
    · rw [if_pos h, if_pos ((best_iff l _ n).2 ⟨h, rfl⟩)]
    · rw [if_neg h, if_neg (fun e => h ((best_iff l _ n).1 e).1)]
theorem latest_C (l : List Ver) : latest l = latC l l.length := latC_eq l _
def outS (V : List Ver) : List (Int × Fld) := (mergeP (foldS tabC) (fun t => polB t.data.toList) (tagsP ltT (saidOf V)) V).map fun y => (y.2.1, y.1)
theorem out1 : outS (latest [verB, verA]) = ps1.map fun p => (p.1, fldS p.2.1 p.2.2) := by rw [latest_C]; decide +kernel
theorem out2 : outS (latest (without 1 [verA, verB])) = ps2.map fun p => (p.1, fldS p.2.1 p.2.2) := by rw [latest_C]; decide +kernel
theorem out3 : outS (latest [verC, verB, verA]) = ps3.map fun p => (p.1, fldS p.2.1 p.2.2) := by rw [latest_C]; decide +kernel
theorem mrg_out (V : List Ver) : (mrgV V).l.map (fun y => (y.2.1, y.1)) = outS V := by
  unfold mrgV outS; rw [polP_fun]
end Go.Proofs.YtpdldbapagchfaaGreatDoor
