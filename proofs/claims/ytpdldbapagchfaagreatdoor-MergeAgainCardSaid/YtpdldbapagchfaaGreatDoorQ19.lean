/- Merge: the walk. -/
import Derived.Test.YtpdldbapagchfaaGreatDoorQ18
import Derived.Deep.CutBlock
set_option linter.unusedVariables false
set_option linter.unusedSimpArgs false

namespace Go.Proofs.YtpdldbapagchfaaGreatDoor
open Go.RowKit Go.Shelf Go.Maps
attribute [local go_sem] over_cell over_frozen

set_option maxRecDepth 100000 in
set_option maxHeartbeats 8000000 in
theorem merge_any {w : World} {v : Value} {L : List Ver} {S0 : Nat → Prop} (h : VersAt S0 w v L) (hl : LOk L) (hlt : LOk (latest L)) :
    Calls Tryz.prog 14 #[v] w fun e w' => ∃ cs, e = .returned (.agg cs.toArray) ∧ MrgR (fun b => w.heap.size ≤ b) w' cs (mrgV (latest L)) ∧ Below w.heap.size w w' := by
  obtain ⟨i0, hi, hz1, hz2, hz3⟩ := info_SaidM
  obtain ⟨it, hit, hy1, hy2, hy3⟩ := info_Tag
  obtain ⟨jf, hjf, jf1, jf2, jf3⟩ := info_Fld
  obtain ⟨jr, hjr, jr1, jr2, jr3⟩ := info_Rec
  obtain ⟨W0, hW0⟩ : ∃ W0, W0 = (w.alloc (.cells #[.int .u8 0, .int .u8 0, .slice none 0 0, .slice none 0 0] 32)).alloc (.cells #[.int .u8 0, .int .u8 0, .slice none 0 0, .slice none 0 0] 32) := ⟨_, rfl⟩
  have B0 : RowKit.Hid (Below w.heap.size w W0) := Lib.hid (by rw [hW0]; exact ((Below.refl _ _).alloc (Nat.le_refl _) _).alloc (by simp) _)
  have K0 : RowKit.Hid (Blk W0 w.heap.size #[.int .u8 0, .int .u8 0, .slice none 0 0, .slice none 0 0] 32) := Lib.hid (by rw [hW0]; exact (Blk.new _ _ _).alloc _)
  have K1 : RowKit.Hid (Blk W0 (w.heap.size + 1) #[.int .u8 0, .int .u8 0, .slice none 0 0, .slice none 0 0] 32) := Lib.hid (by rw [hW0]; exact Blk.at_new (by simp) _ _)
  have HV : RowKit.Hid (VersAt S0 W0 v L) := Lib.hid (VersAt.keep h (Stay.of_below B0.out) (fun _ h _ => h))
  have hz0 : W0.heap.size = w.heap.size + 2 := by rw [hW0]; simp
  have HZ0 := Lib.hid hz0
  obtain ⟨a, cap, rfl, -⟩ := h
  obtain ⟨n, hn⟩ : ∃ n, n = L.length := ⟨_, rfl⟩
  rw [← hn] at HV ⊢
  have HLT := Lib.hid (latest_any S0 HV.out hl.vs hl.recs)
  obtain ⟨V, hV⟩ : ∃ V, V = latest L := ⟨_, rfl⟩
  rw [← hV] at HLT hlt ⊢
  have HOK := Lib.hid hlt
  clear hl HV hn hlt hV hz0
  go_enter Tryz.func14, Tryz.ntmps14
  go_wp2_with fail
  rw [← hW0]
  clear hW0
  refine HLT.out.mono ?_
  rintro e w1 ⟨v1, rfl, hv1, hb1⟩
  have HV1 := Lib.hid hv1
  obtain ⟨va, vc, rfl, -⟩ := hv1.sl
  have HB1 := Lib.hid hb1
  have hb1z := hb1.size
  clear hv1 hb1 HLT
  obtain ⟨m, hm⟩ : ∃ m, m = V.length := ⟨_, rfl⟩
  rw [← hm] at HV1 ⊢
  have HM := Lib.hid hm
  clear hm
  have HZ0L := HZ0.out
  have k0 := Lib.hid (K0.out.below HB1.out (by omega))
  have k1 := Lib.hid (K1.out.below HB1.out (by omega))
  clear HZ0L
  by_cases h0 : m = 0
  · subst h0
    have HE : RowKit.Hid (V = []) := Lib.hid (List.eq_nil_of_length_eq_zero HM.out.symm)
    have HFB : RowKit.Hid (Below w.heap.size w w1) := Lib.hid (B0.out.trans (HB1.out.mono B0.out.size))
    go_wp2_with (first
      | refine wpList_load_row 32 (.tmp 3) rfl rfl rfl k1.out Tryz.underlying32 rfl (by kernel_rfl) ?_
      | refine wpList_store_row rfl 32 (.tmp 2) (.tmp 23) rfl w.heap.size #[.int .u8 0, .int .u8 0, .slice none 0 0, .slice none 0 0] rfl rfl 32 _ k0.out (by kernel_rfl) rfl (by simp [Value.oneCell']) ?_)
    (try simp only [Exit.inBlock, Exit.then])
    refine bodyPost_ret (results_cell_row rfl _ _ w.heap.size 32 #[.int .u8 0, .int .u8 0, .slice none 0 0, .slice none 0 0] (0, 0) _ rfl (setRow_heap _ _ _ _ _ _ k0.out) Tryz.underlying32 rfl (by kernel_rfl)) rfl ?_
    refine ⟨[.int .u8 0, .int .u8 0, .slice none 0 0, .slice none 0 0], rfl, ?_, belowS HFB.out (Nat.le_refl _)⟩
    rw [HE.out]
    exact ⟨_, _, rfl, ⟨none, 0, rfl, Nat.le_refl _, by unfold maxLen; omega, .inl rfl⟩, ⟨none, 0, rfl, Nat.le_refl _, by unfold maxLen; omega, .inl rfl⟩⟩
  · have hm0 : 0 < m := by omega
    have hd0 : decide (0 < m) = true := by simpa using hm0
    have hm1000 : m ≤ 1000 := by have := HOK.out.vs.1; have := HM.out; omega
    clear h0
    obtain ⟨S, hS⟩ : ∃ S : Nat → Prop, S = fun b => W0.heap.size ≤ b ∧ b < w1.heap.size := ⟨_, rfl⟩
    have HSL : RowKit.Hid (∀ b, S b → W0.heap.size ≤ b ∧ b < w1.heap.size) := Lib.hid (by rw [hS]; exact fun b h => h)
    have HVS : RowKit.Hid (VersAt S w1 (.slice va m vc) V) := Lib.hid (by
      rw [hS]
      have h1 := (HV1.out.slB (by omega)).keep (S' := fun b => W0.heap.size ≤ b ∧ b < w1.heap.size) (R' := VerR (fun b => W0.heap.size ≤ b ∧ b < w1.heap.size)) (by omega) (fun _ _ _ => rfl) (fun c x h => VerR.keep h (fun _ _ _ => rfl) (fun b h h' => ⟨h, h'⟩)) (fun b h h' => ⟨h, h'⟩)
      exact h1)
    clear hS
    have hm0' : 0 < V.length := by rw [← HM.out]; exact hm0
    obtain ⟨vb, vo, cap2, cs, e1, hvS, hvl, hR, hcl, hrg, hth⟩ := SlOf.range (by omega) HVS.out hm0'
    have e2 : va = some ⟨vb, vo, none⟩ := by injection e1
    subst e2
    obtain ⟨x0, hx0⟩ : ∃ x0, x0 = V[0] := ⟨_, rfl⟩
    rw [← hx0] at hR
    obtain ⟨fv0, rfl, -⟩ := hR
    obtain ⟨-, -, -, p3, p4, -⟩ := range6 hrg
    have p3' : w1.cell? ⟨vb, vo + 3, none⟩ = some (.int .u8 x0.kind) := by simpa using p3
    have p4' : w1.cell? ⟨vb, vo + 4, none⟩ = some (.int .u8 x0.level) := by simpa using p4
    have HP3 := Lib.hid p3'
    have HP4 := Lib.hid p4'
    have hb3v : ¬ vb = w.heap.size + 1 := fun e => by have := (HSL.out vb hvS).1; have := HZ0.out; omega
    have HB3V := Lib.hid hb3v
    obtain ⟨kd, hkd⟩ : ∃ kd, kd = x0.kind := ⟨_, rfl⟩
    obtain ⟨lv, hlv⟩ : ∃ lv, lv = x0.level := ⟨_, rfl⟩
    have HKL : RowKit.Hid (kd = kdOf V ∧ lv = lvOf V) := Lib.hid (by rw [hkd, hlv, hx0]; exact kd_at hm0')
    rw [← hkd] at HP3
    rw [← hlv] at HP4
    clear e1 hvS hvl hcl hrg hth hx0 p3 p4 p3' p4' hb3v hkd hlv hm0'
    obtain ⟨b3, hb3⟩ : ∃ b3, b3 = w.heap.size + 1 := ⟨_, rfl⟩
    rw [← hb3] at k1 HB3V
    have HB3 := Lib.hid hb3
    go_wp2_with fail
    rw [← hb3]
    clear hb3
    obtain ⟨S', hS'⟩ : ∃ S' : World → Prop, S' = fun W => W.cell? ⟨vb, vo + 3, none⟩ = some (.int .u8 kd) ∧ W.cell? ⟨vb, vo + 4, none⟩ = some (.int .u8 lv) := ⟨_, rfl⟩
    have LD : RowKit.Hid (∀ W, S' W → W.cell? ⟨vb, vo + 3, none⟩ = some (.int .u8 kd) ∧ W.cell? ⟨vb, vo + 4, none⟩ = some (.int .u8 lv)) := Lib.hid (by rw [hS']; exact fun W h => h)
    have UU : RowKit.Hid (∀ W, Tn (fun b => b = b3) w1 W → S' W) := Lib.hid (by rw [hS']; exact fun W t => ⟨t.cell HP3.out HB3V.out, t.cell HP4.out HB3V.out⟩)
    have hHeld := UU.out _ (Tn.refl (fun b => b = b3) w1).drew
    clear hS'
    refine wp_region_held_drew (S := S') (by kernel_rfl) hHeld (fun _ => ?_)
    apply wpAnyH_apart (fun W => Blk W b3 #[.int .u8 kd, .int .u8 lv, .slice none 0 0, .slice none 0 0] 32 ∧ Tn (fun b => b = b3) w1 W ∧ W.heap.size = w1.heap.size)
    case take =>
      intro R hR
      refine wpAnyH_take (i := 0) (v := ?_) rfl (by kernel_rfl) (by kernel_rfl) (by kernel_rfl) (fun _ _ _ h => only_panic h) (Or.inl ⟨by rfl, ?_⟩) hHeld ?_
      rotate_left
      · (intro w hSw; obtain ⟨l0, l1⟩ := LD.out w hSw; go_simp; try (with_reducible rfl))
      try simp only [List.getElem_toArray, List.getElem_cons_succ, List.getElem_cons_zero, Act.put, List.setIfInBounds_toArray, List.set_cons_zero, List.set_cons_succ]
      refine wpAnyH_take (i := 1) (v := ?_) rfl (by kernel_rfl) (by kernel_rfl) (by kernel_rfl) (fun _ _ _ h => only_panic h) (Or.inl ⟨by rfl, ?_⟩) hHeld ?_
      rotate_left
      · (intro w hSw; obtain ⟨l0, l1⟩ := LD.out w hSw; go_simp; try (with_reducible rfl))
      try simp only [List.getElem_toArray, List.getElem_cons_succ, List.getElem_cons_zero, Act.put, List.setIfInBounds_toArray, List.set_cons_zero, List.set_cons_succ]
      refine wpAnyH_take (i := 2) (v := ?_) rfl (by kernel_rfl) (by kernel_rfl) (by kernel_rfl) (fun _ _ _ h => only_panic h) (Or.inl ⟨by rfl, ?_⟩) hHeld ?_
      rotate_left
      · (intro w hSw; obtain ⟨l0, l1⟩ := LD.out w hSw; go_simp; try (with_reducible rfl))
      try simp only [List.getElem_toArray, List.getElem_cons_succ, List.getElem_cons_zero, Act.put, List.setIfInBounds_toArray, List.set_cons_zero, List.set_cons_succ]
      refine wpAnyH_take (i := 3) (v := ?_) rfl (by kernel_rfl) (by kernel_rfl) (by kernel_rfl) (fun _ _ _ h => only_panic h) (Or.inl ⟨by rfl, ?_⟩) hHeld ?_
      rotate_left
      · (intro w hSw; obtain ⟨l0, l1⟩ := LD.out w hSw; go_simp; try (with_reducible rfl))
      try simp only [List.getElem_toArray, List.getElem_cons_succ, List.getElem_cons_zero, Act.put, List.setIfInBounds_toArray, List.set_cons_zero, List.set_cons_succ]
      refine wpAnyH_take (i := 4) (v := ?_) rfl (by kernel_rfl) (by kernel_rfl) (by kernel_rfl) (fun _ _ _ h => only_panic h) (Or.inl ⟨by rfl, ?_⟩) hHeld ?_
      rotate_left
      · (intro w hSw; obtain ⟨l0, l1⟩ := LD.out w hSw; go_simp; try (with_reducible rfl))
      try simp only [List.getElem_toArray, List.getElem_cons_succ, List.getElem_cons_zero, Act.put, List.setIfInBounds_toArray, List.set_cons_zero, List.set_cons_succ]
      refine wpAnyH_take (i := 5) (v := ?_) rfl (by kernel_rfl) (by kernel_rfl) (by kernel_rfl) (fun _ _ _ h => only_panic h) (Or.inl ⟨by rfl, ?_⟩) hHeld ?_
      rotate_left
      · (intro w hSw; obtain ⟨l0, l1⟩ := LD.out w hSw; go_simp; try (with_reducible rfl))
      try simp only [List.getElem_toArray, List.getElem_cons_succ, List.getElem_cons_zero, Act.put, List.setIfInBounds_toArray, List.set_cons_zero, List.set_cons_succ]
      refine wpAnyH_take (i := 6) (v := ?_) rfl (by kernel_rfl) (by kernel_rfl) (by kernel_rfl) (fun _ _ _ h => only_panic h) (Or.inl ⟨by rfl, ?_⟩) hHeld ?_
      rotate_left
      · (intro w hSw; obtain ⟨l0, l1⟩ := LD.out w hSw; go_simp; try (with_reducible rfl))
      try simp only [List.getElem_toArray, List.getElem_cons_succ, List.getElem_cons_zero, Act.put, List.setIfInBounds_toArray, List.set_cons_zero, List.set_cons_succ]
      refine wpAnyH_take (i := 7) (v := ?_) rfl (by kernel_rfl) (by kernel_rfl) (by kernel_rfl) (fun _ _ _ h => only_panic h) (Or.inl ⟨by rfl, ?_⟩) hHeld ?_
      rotate_left
      · (intro w hSw; obtain ⟨l0, l1⟩ := LD.out w hSw; go_simp; try (with_reducible rfl))
      try simp only [List.getElem_toArray, List.getElem_cons_succ, List.getElem_cons_zero, Act.put, List.setIfInBounds_toArray, List.set_cons_zero, List.set_cons_succ]
      refine wpAnyH_take (i := 8) (v := ?_) rfl (by kernel_rfl) (by kernel_rfl) (by kernel_rfl) (fun _ _ _ h => only_panic h) (Or.inl ⟨by rfl, ?_⟩) hHeld ?_
      rotate_left
      · (intro w hSw; obtain ⟨l0, l1⟩ := LD.out w hSw; go_simp; try (with_reducible rfl))
      try simp only [List.getElem_toArray, List.getElem_cons_succ, List.getElem_cons_zero, Act.put, List.setIfInBounds_toArray, List.set_cons_zero, List.set_cons_succ]
      refine wpAnyH_take (i := 9) (v := ?_) rfl (by kernel_rfl) (by kernel_rfl) (by kernel_rfl) (fun _ _ _ h => only_panic h) (Or.inl ⟨by rfl, ?_⟩) hHeld ?_
      rotate_left
      · (intro w hSw; obtain ⟨l0, l1⟩ := LD.out w hSw; go_simp; try (with_reducible rfl))
      try simp only [List.getElem_toArray, List.getElem_cons_succ, List.getElem_cons_zero, Act.put, List.setIfInBounds_toArray, List.set_cons_zero, List.set_cons_succ]
      refine wpAnyH_take (i := 10) (v := ?_) rfl (by kernel_rfl) (by kernel_rfl) (by kernel_rfl) (fun _ _ _ h => only_panic h) (Or.inl ⟨by rfl, ?_⟩) hHeld ?_
      rotate_left
      · (intro w hSw; obtain ⟨l0, l1⟩ := LD.out w hSw; go_simp; try (with_reducible rfl))
      try simp only [List.getElem_toArray, List.getElem_cons_succ, List.getElem_cons_zero, Act.put, List.setIfInBounds_toArray, List.set_cons_zero, List.set_cons_succ]
      refine wpAnyH_take (i := 11) (v := ?_) rfl (by kernel_rfl) (by kernel_rfl) (by kernel_rfl) (fun _ _ _ h => only_panic h) (Or.inl ⟨by rfl, ?_⟩) hHeld ?_
      rotate_left
      · (intro w hSw; obtain ⟨l0, l1⟩ := LD.out w hSw; go_simp; try (with_reducible rfl))
      try simp only [List.getElem_toArray, List.getElem_cons_succ, List.getElem_cons_zero, Act.put, List.setIfInBounds_toArray, List.set_cons_zero, List.set_cons_succ]
      refine wpAnyH_one (i := 12) rfl (by kernel_rfl) (by rfl) ?_
      have f0 : w1.drew.cell? ⟨b3, 0, none⟩ = some (.int .u8 0) := k1.out.cell 0
      have f1 : w1.drew.frozen? ⟨b3, 0, none⟩ = false := k1.out.frozen 0
      go_simp
      have K2 : RowKit.Hid (Blk (w1.drew.setCell ⟨b3, 0, none⟩ (.int .u8 kd)) b3 #[.int .u8 kd, .int .u8 0, .slice none 0 0, .slice none 0 0] 32) := Lib.hid (k1.out.drew.set 0 _)
      have T2 : RowKit.Hid (Tn (fun b => b = b3) w1 (w1.drew.setCell ⟨b3, 0, none⟩ (.int .u8 kd))) := Lib.hid ((Tn.refl (fun b => b = b3) w1).drew.setCell (p := ⟨b3, 0, none⟩) (.inl rfl) _)
      have hHeld := UU.out _ T2.out
      refine ⟨hHeld, ?_⟩
      refine wpAnyH_take (i := 13) (v := ?_) rfl (by kernel_rfl) (by kernel_rfl) (by kernel_rfl) (fun _ _ _ h => only_panic h) (Or.inl ⟨by rfl, ?_⟩) hHeld ?_
      rotate_left
      · (intro w hSw; clear hSw; go_simp; try (with_reducible rfl))
      try simp only [List.getElem_toArray, List.getElem_cons_succ, List.getElem_cons_zero, Act.put, List.setIfInBounds_toArray, List.set_cons_zero, List.set_cons_succ]
      refine wpAnyH_take (i := 14) (v := ?_) rfl (by kernel_rfl) (by kernel_rfl) (by kernel_rfl) (fun _ _ _ h => only_panic h) (Or.inl ⟨by rfl, ?_⟩) hHeld ?_
      rotate_left
      · (intro w hSw; clear hSw; go_simp; try (with_reducible rfl))
      try simp only [List.getElem_toArray, List.getElem_cons_succ, List.getElem_cons_zero, Act.put, List.setIfInBounds_toArray, List.set_cons_zero, List.set_cons_succ]
      refine wpAnyH_one (i := 15) rfl (by kernel_rfl) (by rfl) ?_
      have f2 : (w1.setCell ⟨b3, 0, none⟩ (.int .u8 kd)).drew.cell? ⟨b3, 1, none⟩ = some (.int .u8 0) := K2.out.cell 1
      have f3 : (w1.setCell ⟨b3, 0, none⟩ (.int .u8 kd)).drew.frozen? ⟨b3, 1, none⟩ = false := K2.out.frozen 1
      go_simp
      have K3 : RowKit.Hid (Blk ((w1.drew.setCell ⟨b3, 0, none⟩ (.int .u8 kd)).setCell ⟨b3, 1, none⟩ (.int .u8 lv)) b3 #[.int .u8 kd, .int .u8 lv, .slice none 0 0, .slice none 0 0] 32) := Lib.hid (K2.out.set 1 _)
      have T3 : RowKit.Hid (Tn (fun b => b = b3) w1 ((w1.drew.setCell ⟨b3, 0, none⟩ (.int .u8 kd)).setCell ⟨b3, 1, none⟩ (.int .u8 lv))) := Lib.hid (T2.out.setCell (p := ⟨b3, 1, none⟩) (.inl rfl) _)
      have hHeld := UU.out _ T3.out
      refine ⟨hHeld, ?_⟩
      exact wpAnyH_done (by kernel_rfl) ⟨rfl, hR _ ⟨K3.out, T3.out, by simp⟩⟩ _
    case rest =>
      rintro W3 ⟨hk3, ht3, hz3⟩
      have K3 := Lib.hid hk3
      have T3 := Lib.hid ht3
      have HZ3 := Lib.hid hz3
      clear hk3 ht3 hz3 LD UU hHeld
      have HVK : RowKit.Hid (∀ W, Below W3.heap.size W3 W → VersAt S W (.slice (some ⟨vb, vo, none⟩) m vc) V) := Lib.hid fun W hW => by
        refine VersAt.keep HVS.out (S' := S) (fun b hb hbl => ?_) (fun _ h _ => h)
        refine (hW.block b (by rw [HZ3.out]; exact hbl)).trans (T3.out.block b hbl (fun e => ?_))
        have := (HSL.out b hb).1
        have := HB3.out; have := HZ0.out; omega
      have hmk := run_makeMap (P := Tryz.prog) 64
      go_wp2_with fail
      obtain ⟨N, hN⟩ : ∃ N, N = W3.heap.size := ⟨_, rfl⟩
      rw [← hN]
      have HN := Lib.hid hN
      have HSN : RowKit.Hid (∀ b, S b → b < N) := Lib.hid fun b hb => by have := (HSL.out b hb).2; have := HZ3.out; omega
      clear hN
      go_loopw [6, 41] (fun tv i wr => ∃ k : Nat, k ≤ m ∧ i = .int .i64 k ∧ Mid S W3 N b3 kd lv (saidOf (V.take k)) wr tv) (fun _ i _ => m - (intOf i).toNat)
      case atStart =>
        refine ⟨0, by omega, rfl, fun _ => ⟨0, 0, 0⟩, ?_, by rw [HN.out]; exact (Below.refl _ _).alloc (Nat.le_refl _) _, K3.out.alloc _⟩
        have h1 := Col.start (S := S) (N := N) (E := fun _ => ⟨0, 0, 0⟩) (w := W3)
        rw [← HN.out] at h1
        exact h1
      case round =>
        obtain ⟨k, hk, rfl, hmid⟩ := hrel
        obtain ⟨ta, tc, rfl⟩ := hmid.expl
        obtain ⟨tn, htn⟩ : ∃ tn, tn = (tagsO (saidOf (V.take k))).length := ⟨_, rfl⟩
        rw [← htn] at hmid ⊢
        have HTN := Lib.hid htn
        have HMID := Lib.hid hmid
        clear hmid htn
        by_cases hlt : k < m
        --<L1
        · have hlx : k < V.length := by rw [← HM.out]; exact hlt
          obtain ⟨E0, hcol0, hbw0, hk30⟩ := HMID.out
          have BW := Lib.hid hbw0
          have hzw : N ≤ wr.heap.size := by have := hbw0.size; have := HN.out; omega
          obtain ⟨b, o, cap3, cs, e1, hSb, hbl, hR, hcl, hrg, hth⟩ := SlOf.range (by omega) (HVK.out wr (by rw [← HN.out]; exact hbw0)) hlx
          have e2 : vb = b := by injection e1 with h; injection h with h; injection h
          have e3 : vo = o := by injection e1 with h; injection h with h; injection h
          clear e1 hcl hth hbl hSb
          subst e2 e3
          obtain ⟨x, hx⟩ : ∃ x, x = V[k] := ⟨_, rfl⟩
          rw [← hx] at hR
          obtain ⟨fa, fc, rfl, hfl⟩ := hR.expl'
          have HXS : RowKit.Hid (saidOf (V.take (k + 1)) = saidOf (V.take k) ++ x.fs.map (fun f => (f, x.r))) := Lib.hid (by rw [saidOf_take hlx, ← hx])
          have HXF : RowKit.Hid (∀ f ∈ x.fs, KOk f) := Lib.hid (by rw [hx]; exact HOK.out.fld _ (List.getElem_mem _))
          have HG := Lib.hid hrg
          have hfl1 : x.fs.length ≤ 1000 := by rw [hx]; exact (HOK.out.vs.2 _ (List.getElem_mem _)).1
          obtain ⟨fn, hfn⟩ : ∃ fn, fn = x.fs.length := ⟨_, rfl⟩
          rw [← hfn] at HG hfl hfl1
          have HFN := Lib.hid hfn
          have HFS : RowKit.Hid (∀ W, Below N wr W → FldsAt S W (.slice fa fn fc) x.fs) := Lib.hid fun W hW => FldsAt.keep hfl (fun b hb _ => hW.block b (HSN.out b hb)) (fun _ h _ => h)
          have HPRE : RowKit.Hid (∀ q, q ≤ fn → (saidOf (V.take k) ++ (x.fs.take q).map (fun f => (f, x.r))).length ≤ 100000) := Lib.hid fun q hq => by
            have h1 := said_len_le HOK.out
            have h2 : saidOf V = saidOf (V.take (k + 1)) ++ saidOf (V.drop (k + 1)) := by
              unfold saidOf; rw [← List.flatMap_append, List.take_append_drop]
            rw [h2, List.length_append, HXS.out, List.length_append] at h1
            rw [List.length_append]
            have h3 : ((x.fs.take q).map fun f => (f, x.r)).length ≤ (x.fs.map fun f => (f, x.r)).length := by rw [List.length_map, List.length_map, List.length_take]; omega
            omega
          obtain ⟨x1, hx1⟩ : ∃ y, y = x.r.1 := ⟨_, rfl⟩
          obtain ⟨x2, hx2⟩ : ∃ y, y = x.r.2 := ⟨_, rfl⟩
          obtain ⟨x3, hx3⟩ : ∃ y, y = x.num := ⟨_, rfl⟩
          obtain ⟨x4, hx4⟩ : ∃ y, y = x.kind := ⟨_, rfl⟩
          obtain ⟨x5, hx5⟩ : ∃ y, y = x.level := ⟨_, rfl⟩
          rw [← hx1, ← hx2, ← hx3, ← hx4, ← hx5] at HG
          have HX12 : RowKit.Hid (x.r = (x1, x2)) := Lib.hid (by rw [hx1, hx2])
          clear hrg hR hx hx1 hx2 hx3 hx4 hx5 hcol0 hbw0 hk30 hlx hfl hfn
          obtain ⟨g8, hg8⟩ : ∃ g8, g8 = wr.heap.size := ⟨_, rfl⟩
          have hg8N : N ≤ g8 := by omega
          obtain ⟨W8, hW8⟩ : ∃ W8, W8 = wr.alloc (.cells #[.int .i64 x1, .int .i64 x2, .int .i64 x3, .int .u8 x4, .int .u8 x5, .slice fa fn fc] 43) := ⟨_, rfl⟩
          have K8 : RowKit.Hid (Blk W8 g8 #[.int .i64 x1, .int .i64 x2, .int .i64 x3, .int .u8 x4, .int .u8 x5, .slice fa fn fc] 43) := Lib.hid (by rw [hW8, hg8]; exact Blk.new _ _ _)
          have k85 : W8.cell? ⟨g8, 5, none⟩ = some (.slice fa fn fc) := K8.out.cell 5
          have B8 : RowKit.Hid (Below wr.heap.size wr W8) := Lib.hid (by rw [hW8]; exact (Below.refl _ _).alloc (Nat.le_refl _) _)
          have M8 : RowKit.Hid (Mid S wr N b3 kd lv (saidOf (V.take k)) W8 (.slice ta tn tc)) := Lib.hid (by
            obtain ⟨E, h1, h2, h3⟩ := HMID.out
            exact ⟨E, h1.below B8.out, B8.out.mono hzw, h3.below B8.out h3.lt⟩)
          go_wp2_with (refine wpList_load_mid rfl 43 (.tmp 43) rfl vb (vo + k * 6) rfl [.int .i64 x1, .int .i64 x2, .int .i64 x3, .int .u8 x4, .int .u8 x5, .slice fa fn fc] _ HG.out Tryz.underlying43 rfl (by kernel_rfl) ?_)
          rw [← hW8, ← hg8]
          clear hW8 hg8
          go_wp2_with fail
          obtain ⟨wo, rfl⟩ : ∃ wo, wo = wr := ⟨_, rfl⟩
          go_loopw [6, 49] (fun tv j wr => ∃ q : Nat, q ≤ fn ∧ j = .int .i64 q ∧ Mid S wo N b3 kd lv (saidOf (V.take k) ++ (x.fs.take q).map (fun f => (f, x.r))) wr tv ∧ Blk wr g8 #[.int .i64 x1, .int .i64 x2, .int .i64 x3, .int .u8 x4, .int .u8 x5, .slice fa fn fc] 43) (fun _ j _ => fn - (intOf j).toNat)
          case atStart => exact ⟨0, by omega, rfl, by simpa using M8.out, K8.out⟩
          case round =>
            obtain ⟨q, hq, rfl, hmid, hk8⟩ := hrel
            obtain ⟨ta, tc, rfl⟩ := hmid.expl
            obtain ⟨pre, hpre⟩ : ∃ pre, pre = saidOf (V.take k) ++ (x.fs.take q).map (fun f => (f, x.r)) := ⟨_, rfl⟩
            have HPL : RowKit.Hid (pre.length ≤ 100000) := Lib.hid (by rw [hpre]; exact HPRE.out q hq)
            rw [← hpre] at hmid
            rw [← hpre]
            have HPE := Lib.hid hpre
            obtain ⟨tn, htn⟩ : ∃ tn, tn = (tagsO pre).length := ⟨_, rfl⟩
            rw [← htn] at hmid ⊢
            have htl : tn ≤ 100000 := by have := HPL.out; have := tagsO_len pre; omega
            have HTN := Lib.hid htn
            clear hpre htn HMID M8 K8 k85 B8
            obtain ⟨E, hcol, hbw, hkb⟩ := hmid
            by_cases hqt : q < fn
            · have hqx : q < x.fs.length := by rw [← HFN.out]; exact hqt
              obtain ⟨fb, fo, fcap, fcs, e1, -, -, hR, -, hrg, -⟩ := SlOf.range (by omega) (HFS.out wr hbw) hqx
              have e2 : fa = some ⟨fb, fo, none⟩ := by injection e1
              clear e1
              subst e2
              obtain ⟨f, hf⟩ : ∃ f, f = x.fs[q] := ⟨_, rfl⟩
              rw [← hf] at hR
              have HRF := Lib.hid hR
              obtain ⟨sv0, rfl, hsub⟩ := hR
              obtain ⟨sa, sc, rfl, -⟩ := hsub
              obtain ⟨sn, hsn⟩ : ∃ y, y = f.subs.length := ⟨_, rfl⟩
              rw [← hsn] at HRF hrg
              obtain ⟨y1, hy1'⟩ : ∃ y, y = f.tag := ⟨_, rfl⟩
              obtain ⟨y2, hy2'⟩ : ∃ y, y = f.ind := ⟨_, rfl⟩
              obtain ⟨y3, hy3'⟩ : ∃ y, y = f.data := ⟨_, rfl⟩
              rw [← hy1', ← hy2', ← hy3'] at HRF hrg
              have HG := Lib.hid hrg
              have HY1 := Lib.hid hy1'
              have HKF : RowKit.Hid (KOk f) := Lib.hid (by rw [hf]; exact HXF.out _ (List.getElem_mem _))
              have htz : y1.size ≤ 1000 := by rw [hy1']; exact HKF.out.tag
              have HTZ := Lib.hid htz
              have HST : RowKit.Hid (saidOf (V.take k) ++ (x.fs.take (q + 1)).map (fun f => (f, x.r)) = pre ++ [(f, (x1, x2))]) := Lib.hid (by
                rw [said_step hqx, ← HPE.out, ← hf, HX12.out])
              have HSAID : RowKit.Hid (∀ W, Below N wo W → SaidC S W [.string y1, .string y2, .string y3, .slice sa sn sc, .int .i64 x1, .int .i64 x2] (f, (x1, x2))) := Lib.hid fun W hW => by
                obtain ⟨sv', e, hs⟩ := FldR.keep HRF.out (S' := S) (fun b hb _ => (hW.block b (HSN.out b hb)).trans (hbw.block b (HSN.out b hb)).symm) (fun _ h _ => h)
                exact ⟨sv', congrArg (fun l => l ++ [Value.int .i64 x1, Value.int .i64 x2]) e, hs⟩
              clear hrg hsn hy1' hy2' hy3' hf hqx htz
              obtain ⟨g10, hg10⟩ : ∃ g, g = wr.heap.size := ⟨_, rfl⟩
              obtain ⟨Wb, hWb⟩ : ∃ Wb, Wb = wr.alloc (.cells #[.string y1, .string y2, .string y3, .slice sa sn sc] 48) := ⟨_, rfl⟩
              have Bb : RowKit.Hid (Below wr.heap.size wr Wb) := Lib.hid (by rw [hWb]; exact (Below.refl _ _).alloc (Nat.le_refl _) _)
              have K10 : RowKit.Hid (Blk Wb g10 #[.string y1, .string y2, .string y3, .slice sa sn sc] 48) := Lib.hid (by rw [hWb, hg10]; exact Blk.new _ _ _)
              have hzb : Wb.heap.size = wr.heap.size + 1 := by rw [hWb]; simp
              have hwz : N ≤ wr.heap.size := by have := hbw.size; omega
              have CB := Lib.hid (hcol.below Bb.out)
              have KB8 := Lib.hid (hk8.below Bb.out hk8.lt)
              have KBB := Lib.hid (hkb.below Bb.out hkb.lt)
              have BB := Lib.hid (hbw.trans (Bb.out.mono hwz))
              obtain ⟨mf, mm, hm1, hm2, hm3⟩ := CB.out.map
              obtain ⟨lv1, ps, hlk, hlv1⟩ := hm2.look keyedT Tryz.underlying64 (z := .pointer none) (by kernel_rfl) (zd := ptD none) (zp := []) rfl (keyOfT HTZ.out)
              rw [hm3 y1 HTZ.out] at hlv1
              rw [hWb] at hlk
              clear hbw hcol hk8 hkb
              by_cases hin : y1 ∈ tagsO pre
              · rw [if_pos hin] at hlv1
                obtain ⟨cb, hcb⟩ : ∃ cb, cb = (E y1).cb := ⟨_, rfl⟩
                have : lv1 = .pointer (some ⟨cb, 0, none⟩) := by rw [hcb]; exact RPt_inv (k := some (E y1).cb) hlv1
                subst this
                obtain ⟨Wx, hWx⟩ : ∃ Wx, Wx = Wb := ⟨_, rfl⟩
                obtain ⟨sv, hsv⟩ : ∃ sv, sv = Value.slice (some ⟨(E y1).g, 0, none⟩) (about y1 pre).length (E y1).cap := ⟨_, rfl⟩
                have HX : RowKit.Hid (ColX S N N E y1 cb tn pre Wx (.slice ta tn tc) sv) := Lib.hid (by
                  rw [hsv, hWx, hcb]
                  have h1 := ColX.of_col CB.out hin
                  rw [← HTN.out] at h1
                  exact h1)
                clear hm1 hm2 hm3 hlv1 hin hcb hsv
                go_wp2_with (refine wpList_load_mid rfl 48 (.tmp 51) rfl fb (fo + q * 4) rfl [.string y1, .string y2, .string y3, .slice sa sn sc] _ HG.out Tryz.underlying48 rfl (by kernel_rfl) ?_)
                rw [← hWb, ← hg10, ← hWx]
                rw [← hWx] at K10 KB8 KBB BB
                have HWN : RowKit.Hid (N ≤ Wx.heap.size) := Lib.hid (by rw [hWx]; omega)
                clear hWb hg10 hWx hlk hzb hwz
                have K8 := KB8
                have KXB := BB
                have KX3 := KBB
                have HSX : RowKit.Hid (∀ W, Below Wx.heap.size Wx W → SaidC S W [.string y1, .string y2, .string y3, .slice sa sn sc, .int .i64 x1, .int .i64 x2] (f, (x1, x2))) := Lib.hid fun W hW => HSAID.out W (KXB.out.trans (hW.mono HWN.out))
                obtain ⟨css, r1, r2, r3, r4⟩ := HX.out.own
                obtain ⟨sq, hsq⟩ : ∃ sq, sq = (about y1 pre).length := ⟨_, rfl⟩
                have hsl : sq ≤ 100000 := by rw [hsq]; exact Nat.le_trans (about_len _ _) HPL.out
                have HR1 := Lib.hid r1
                have HCSS := Lib.hid (And.intro r1 (And.intro r2 (And.intro r3 r4)))
                rw [← hsq] at HR1
                have HSQ := Lib.hid hsq
                clear r1 r2 r3 r4 hsq
                have HNE : RowKit.Hid (¬ sv.ownBlock = some cb ∧ ¬ sv.ownBlock = some g10 ∧ ¬ sv.ownBlock = some g8) := Lib.hid ⟨fun e => row_not HX.out.blk (by decide) HR1.out e.symm, fun e => row_not K10.out (by decide) HR1.out e.symm, fun e => row_not K8.out (by decide) HR1.out e.symm⟩
                obtain ⟨S', hS'⟩ : ∃ S' : World → Prop, S' = fun V => V.cell? ⟨cb, 0, none⟩ = some sv ∧ Blk V g10 #[.string y1, .string y2, .string y3, .slice sa sn sc] 48 ∧ V.cell? ⟨g8, 0, none⟩ = some (.int .i64 x1) ∧ V.cell? ⟨g8, 1, none⟩ = some (.int .i64 x2) := ⟨_, rfl⟩
                have LD : RowKit.Hid (∀ V, S' V → V.cell? ⟨cb, 0, none⟩ = some sv ∧ V.cell? ⟨g8, 0, none⟩ = some (.int .i64 x1) ∧ V.cell? ⟨g8, 1, none⟩ = some (.int .i64 x2)) := Lib.hid (by rw [hS']; exact fun V h => ⟨h.1, h.2.2.1, h.2.2.2⟩)
                have LB : RowKit.Hid (∀ V, S' V → Blk V g10 #[.string y1, .string y2, .string y3, .slice sa sn sc] 48) := Lib.hid (by rw [hS']; exact fun V h => h.2.1)
                have UU : RowKit.Hid (∀ V F, Tn F Wx V → ¬ F cb → ¬ F g10 → ¬ F g8 → S' V) := Lib.hid (by rw [hS']; exact fun V F t h1 h2 h3 => ⟨t.cell (HX.out.blk.cell 0) h1, t.blk K10.out h2, t.cell (K8.out.cell 0) h3, t.cell (K8.out.cell 1) h3⟩)
                have hHeld := UU.out _ (fun _ => False) (Tn.refl (fun _ => False) Wx).drew (fun h => h) (fun h => h) (fun h => h)
                clear hS'
                refine wp_region_sp 13 S' (by kernel_rfl) (by kernel_rfl) ?_
                simp only [List.take_succ_cons, List.take_zero]
                apply wpAnyH_apartV (fun v' W => W.ownsRow N 71 6 v' (sq + 1) (css.flatten ++ [.string y1, .string y2, .string y3, .slice sa sn sc, .int .i64 x1, .int .i64 x2]) ∧ ∃ w3, Below Wx.heap.size Wx w3 ∧ w3.grownBy W sv.ownBlock ∧ (v'.ownBlock = sv.ownBlock ∨ v'.ownBlock = some w3.heap.size))
                case take =>
                  intro R hR
                  refine wpAnyH_take (i := 0) (v := ?_) rfl (by kernel_rfl) (by kernel_rfl) (by kernel_rfl) (fun _ _ _ h => only_panic h) (Or.inl ⟨by rfl, ?_⟩) hHeld ?_
                  rotate_left
                  · (intro w hSw; obtain ⟨l0, l1, l2⟩ := LD.out w hSw; go_simp; try (with_reducible rfl))
                  try simp only [List.getElem_toArray, List.getElem_cons_succ, List.getElem_cons_zero, Act.put, List.setIfInBounds_toArray, List.set_cons_zero, List.set_cons_succ]
                  refine wpAnyH_take (i := 1) (v := ?_) rfl (by kernel_rfl) (by kernel_rfl) (by kernel_rfl) (fun _ _ _ h => only_panic h) (Or.inl ⟨by rfl, ?_⟩) hHeld ?_
                  rotate_left
                  · (intro w hSw; obtain ⟨l0, l1, l2⟩ := LD.out w hSw; go_simp; try (with_reducible rfl))
                  try simp only [List.getElem_toArray, List.getElem_cons_succ, List.getElem_cons_zero, Act.put, List.setIfInBounds_toArray, List.set_cons_zero, List.set_cons_succ]
                  refine wpAnyH_take (i := 2) (v := ?_) rfl (by kernel_rfl) (by kernel_rfl) (by kernel_rfl) (fun _ _ _ h => only_panic h) (Or.inl ⟨by rfl, ?_⟩) hHeld ?_
                  rotate_left
                  · (intro w hSw; obtain ⟨l0, l1, l2⟩ := LD.out w hSw; go_simp; try (with_reducible rfl))
                  try simp only [List.getElem_toArray, List.getElem_cons_succ, List.getElem_cons_zero, Act.put, List.setIfInBounds_toArray, List.set_cons_zero, List.set_cons_succ]
                  refine wpAnyH_take (i := 3) (v := ?_) rfl (by kernel_rfl) (by kernel_rfl) (by kernel_rfl) (fun _ _ _ h => only_panic h) (Or.inl ⟨by rfl, ?_⟩) hHeld ?_
                  rotate_left
                  · (intro w hSw; obtain ⟨l0, l1, l2⟩ := LD.out w hSw; go_simp; try (with_reducible rfl))
                  try simp only [List.getElem_toArray, List.getElem_cons_succ, List.getElem_cons_zero, Act.put, List.setIfInBounds_toArray, List.set_cons_zero, List.set_cons_succ]
                  refine wpAnyH_take (i := 4) (v := ?_) rfl (by kernel_rfl) (by kernel_rfl) (by kernel_rfl) (fun _ _ _ h => only_panic h) (Or.inl ⟨by rfl, ?_⟩) hHeld ?_
                  rotate_left
                  · (intro w hSw; obtain ⟨l0, l1, l2⟩ := LD.out w hSw; go_simp; try (with_reducible rfl))
                  try simp only [List.getElem_toArray, List.getElem_cons_succ, List.getElem_cons_zero, Act.put, List.setIfInBounds_toArray, List.set_cons_zero, List.set_cons_succ]
                  refine wpAnyH_take (i := 6) (v := ?_) rfl (by kernel_rfl) (by kernel_rfl) (by kernel_rfl) (fun _ _ _ h => only_panic h) (Or.inl ⟨by rfl, ?_⟩) hHeld ?_
                  rotate_left
                  · (intro w hSw; obtain ⟨l0, l1, l2⟩ := LD.out w hSw; go_simp; try (with_reducible rfl))
                  try simp only [List.getElem_toArray, List.getElem_cons_succ, List.getElem_cons_zero, Act.put, List.setIfInBounds_toArray, List.set_cons_zero, List.set_cons_succ]
                  refine wpAnyH_take (i := 7) (v := ?_) rfl (by kernel_rfl) (by kernel_rfl) (by kernel_rfl) (fun _ _ _ h => only_panic h) (Or.inl ⟨by rfl, ?_⟩) hHeld ?_
                  rotate_left
                  · (intro w hSw; obtain ⟨l0, l1, l2⟩ := LD.out w hSw; go_simp; try (with_reducible rfl))
                  try simp only [List.getElem_toArray, List.getElem_cons_succ, List.getElem_cons_zero, Act.put, List.setIfInBounds_toArray, List.set_cons_zero, List.set_cons_succ]
                  refine wpAnyH_take (i := 5) (v := .agg #[.string y1, .string y2, .string y3, .slice sa sn sc]) rfl (by kernel_rfl) (by kernel_rfl) (by kernel_rfl) (fun _ _ _ h => only_panic h) ?_ hHeld ?_
                  · exact yields_row (.tmp 10) (by rfl) rfl rfl LB.out Tryz.underlying48 rfl (by kernel_rfl)
                  try simp only [List.getElem_toArray, List.getElem_cons_succ, List.getElem_cons_zero, Act.put, List.setIfInBounds_toArray, List.set_cons_zero, List.set_cons_succ]
                  refine wpAnyH_take (i := 8) (v := ?_) rfl (by kernel_rfl) (by kernel_rfl) (by kernel_rfl) (fun _ _ _ h => only_panic h) (Or.inl ⟨by rfl, ?_⟩) hHeld ?_
                  rotate_left
                  · (intro w hSw; clear hSw; go_simp; try (with_reducible rfl))
                  try simp only [List.getElem_toArray, List.getElem_cons_succ, List.getElem_cons_zero, Act.put, List.setIfInBounds_toArray, List.set_cons_zero, List.set_cons_succ]
                  refine wpAnyH_one (i := 9) rfl (by kernel_rfl) (by rfl) ?_
                  go_simp
                  obtain ⟨W4, hW4⟩ : ∃ W4, W4 = (Wx.alloc (.cells #[.string y1, .string y2, .string y3, .slice sa sn sc, .int .i64 x1, .int .i64 x2] 71)).drew := ⟨_, rfl⟩
                  have B4 : RowKit.Hid (Below Wx.heap.size Wx W4) := Lib.hid (by rw [hW4]; exact ((Below.refl _ _).alloc (Nat.le_refl _) _).drew)
                  have R4 : RowKit.Hid (W4.ownsRow 0 71 6 (.slice (some ⟨Wx.heap.size, 0, none⟩) 1 1) 1 [.string y1, .string y2, .string y3, .slice sa sn sc, .int .i64 x1, .int .i64 x2]) := Lib.hid (by
                    rw [hW4]
                    exact (Tn.refl (fun _ => False) (Wx.alloc (.cells #[.string y1, .string y2, .string y3, .slice sa sn sc, .int .i64 x1, .int .i64 x2] 71))).drew.row (row_fresh Wx 0 #[.string y1, .string y2, .string y3, .slice sa sn sc, .int .i64 x1, .int .i64 x2] 71 6 1 rfl (by unfold maxLen; omega) (Nat.zero_le _)) (fun _ _ h => h))
                  have hHeld := UU.out _ (fun _ => False) (Tn.of_below B4.out) (fun h => h) (fun h => h) (fun h => h)
                  rw [← hW4]
                  clear hW4
                  refine ⟨hHeld, ?_⟩
                  refine wpAnyH_one (i := 10) rfl (by kernel_rfl) (by rfl) ?_
                  simp only [List.getElem_toArray, List.getElem_cons_succ, List.getElem_cons_zero]
                  refine wp_append_all (.tmp 74) (.tmp 79) 67 rfl N 71 i0 _ 6 88 Tryz.underlying67 hi hz1 hz2 hz3 rfl (by omega) sv sq css.flatten rfl ((Tn.of_below (F := fun _ => False) B4.out).row HR1.out (fun _ _ h => h)) 1 [.string y1, .string y2, .string y3, .slice sa sn sc, .int .i64 x1, .int .i64 x2] _ rfl (src_row R4.out) (by simp [Value.oneCell']) (by unfold maxLen; omega) (by omega) (by have := B4.out.size; have := HWN.out; omega) ?_
                  intro v' w5 hr5 hg5 ho5
                  have hHeld := UU.out _ (fun b => sv.ownBlock = some b) ((Tn.of_below B4.out).trans (Tn.of_grown hg5)) HNE.out.1 HNE.out.2.1 HNE.out.2.2
                  refine ⟨hHeld, ?_⟩
                  refine wpAnyH_take (i := 11) (v := ?_) rfl (by kernel_rfl) (by kernel_rfl) (by kernel_rfl) (fun _ _ _ h => only_panic h) (Or.inl ⟨by rfl, ?_⟩) hHeld ?_
                  rotate_left
                  · (intro w hSw; clear hSw; go_simp; try (with_reducible rfl))
                  try simp only [List.getElem_toArray, List.getElem_cons_succ, List.getElem_cons_zero, Act.put, List.setIfInBounds_toArray, List.set_cons_zero, List.set_cons_succ]
                  refine wpAnyH_take (i := 12) (v := ?_) rfl (by kernel_rfl) (by kernel_rfl) (by kernel_rfl) (fun _ _ _ h => only_panic h) (Or.inl ⟨by rfl, ?_⟩) hHeld ?_
                  rotate_left
                  · (intro w hSw; clear hSw; go_simp; try (with_reducible rfl))
                  try simp only [List.getElem_toArray, List.getElem_cons_succ, List.getElem_cons_zero, Act.put, List.setIfInBounds_toArray, List.set_cons_zero, List.set_cons_succ]
                  exact wpAnyH_done (by kernel_rfl) ⟨rfl, hR v' w5 ⟨hr5, W4, B4.out, hg5, ho5⟩⟩ _
                case rest =>
                  rintro v' w5 ⟨hr5, w4, hb4, hg5, ho5⟩
                  obtain ⟨va', vc', rfl, -⟩ := row_cellz hr5
                  simp only [endN, List.drop_succ_cons, List.drop_zero]
                  have K5 : RowKit.Hid (Blk w5 cb #[sv] 69) := Lib.hid (((Tn.of_below (F := fun b => sv.ownBlock = some b) hb4).trans (Tn.of_grown hg5)).blk HX.out.blk HNE.out.1)
                  have k5 : w5.cell? ⟨cb, 0, none⟩ = some sv := K5.out.cell 0
                  have f5 : w5.frozen? ⟨cb, 0, none⟩ = false := K5.out.frozen 0
                  have HR5 := Lib.hid hr5
                  have HB4 := Lib.hid hb4
                  have HG5 := Lib.hid hg5
                  have HO5 := Lib.hid ho5
                  clear hr5 hb4 hg5 ho5
                  have HDO := Lib.hid (ColX.done HX.out HSN.out (Below.trans HB4.out (Below.refl _ _)) (x := (f, (x1, x2))) HY1.out.symm (cs := [.string y1, .string y2, .string y3, .slice sa sn sc, .int .i64 x1, .int .i64 x2]) (HSX.out w4 HB4.out) HCSS.out (by rw [← HSQ.out]; exact HR5.out) HG5.out HO5.out)
                  have HB5 : RowKit.Hid (Below N wo (w5.setCell ⟨cb, 0, none⟩ (.slice va' (sq + 1) vc'))) := Lib.hid (by
                    have h1 : Below N Wx w4 := HB4.out.mono HWN.out
                    have h2 := below_grown (KXB.out.trans h1) (by have := HB4.out.size; have := HWN.out; omega) HG5.out (fun r e => row_base HR1.out r e)
                    exact h2.setCell (p := ⟨cb, 0, none⟩) HX.out.cbN _)
                  have H58 : RowKit.Hid (Blk (w5.setCell ⟨cb, 0, none⟩ (.slice va' (sq + 1) vc')) g8 #[.int .i64 x1, .int .i64 x2, .int .i64 x3, .int .u8 x4, .int .u8 x5, .slice (some ⟨fb, fo, none⟩) fn fc] 43) := Lib.hid (by
                    have h1 := ((Tn.of_below (F := fun b => sv.ownBlock = some b) HB4.out).trans (Tn.of_grown HG5.out)).blk K8.out HNE.out.2.2
                    exact h1.set_ne _ _ (fun e => by have h2 := K8.out; have h3 := HX.out.blk; rw [e] at h2; unfold Blk at h2 h3; rw [h2] at h3; injection h3 with h3; injection h3 with _ h3; cases h3))
                  have H5b : RowKit.Hid (Blk (w5.setCell ⟨cb, 0, none⟩ (.slice va' (sq + 1) vc')) b3 #[.int .u8 kd, .int .u8 lv, .slice none 0 0, .slice none 0 0] 32) := Lib.hid (by
                    have h1 := ((Tn.of_below (F := fun b => sv.ownBlock = some b) HB4.out).trans (Tn.of_grown HG5.out)).blk KX3.out (fun e => row_not KX3.out (by decide) HR1.out e.symm)
                    exact h1.set_ne _ _ (fun e => by have h2 := KX3.out; have h3 := HX.out.blk; rw [e] at h2; unfold Blk at h2 h3; rw [h2] at h3; injection h3 with h3; injection h3 with _ h3; cases h3))
                  go_wp2_with fail
                  refine ⟨⟨q + 1, hqt, by go_num, ?_, H58.out⟩, by simp [intOf]; omega⟩
                  rw [HST.out]
                  obtain ⟨E', hE'⟩ := HDO.out
                  exact ⟨E', hE', HB5.out, H5b.out⟩
              · rw [if_neg hin] at hlv1
                have : lv1 = .pointer none := RPt_inv (k := none) hlv1
                subst this
                obtain ⟨cb, hcb⟩ : ∃ cb, cb = Wb.heap.size := ⟨_, rfl⟩
                obtain ⟨Wc, hWc⟩ : ∃ Wc, Wc = Wb.alloc (.cells #[.slice none 0 0] 69) := ⟨_, rfl⟩
                have Bc : RowKit.Hid (Below Wb.heap.size Wb Wc) := Lib.hid (by rw [hWc]; exact (Below.refl _ _).alloc (Nat.le_refl _) _)
                have Kc : RowKit.Hid (Blk Wc cb #[.slice none 0 0] 69) := Lib.hid (by rw [hWc, hcb]; exact Blk.new _ _ _)
                have hzc : Wc.heap.size = Wb.heap.size + 1 := by rw [hWc]; simp
                have HNC : RowKit.Hid (∀ u ∈ tagsO pre, (E u).cb ≠ cb) := Lib.hid fun u hu e => by
                  have := (CB.out.each u hu).1.lt; omega
                have mc := hm2.keep (Tn.of_below (F := fun _ => False) Bc.out) (fun h => h)
                obtain ⟨w2, hupd, hmap2, hg2⟩ := mc.put keyedT Tryz.underlying64 (by have := HPL.out; unfold maxLen; omega) (keyOfT HTZ.out) (val := .pointer (some ⟨cb, 0, none⟩)) (RPt_mk (some cb))
                have T2 : RowKit.Hid (Tn (fun b => b = N) Wc w2) := Lib.hid ((Tn.of_grown hg2).mono fun b h => by injection h with h; exact h.symm)
                have HMAP2 := Lib.hid hmap2
                have HF2 : RowKit.Hid (∀ u, u.size ≤ 1000 → updL mf (keyT y1) (ptD (some cb)) (keyT u) = if u = y1 then some (ptD (some cb)) else if u ∈ tagsO pre then some (ptD (some (E u).cb)) else none) := Lib.hid fun u hu => by
                  unfold updL
                  by_cases e : u = y1
                  · subst e; rw [if_pos rfl, if_pos rfl]
                  · rw [if_neg (fun h => e (keyT_inj h)), if_neg e, hm3 u hu]
                have HMM : RowKit.Hid (mm + 1 ≤ pre.length + 1) := Lib.hid (by omega)
                have c10 : ¬ wr.heap.size = N := fun e => map_ne hm2 K10.out (by rw [hg10, e])
                have K102 : RowKit.Hid (Blk w2 wr.heap.size #[.string y1, .string y2, .string y3, .slice sa sn sc] 48) := Lib.hid (T2.out.blk (by rw [← hg10]; exact K10.out.below Bc.out K10.out.lt) c10)
                have k102 : w2.cell? ⟨wr.heap.size, 0, none⟩ = some (.string y1) := K102.out.cell 0
                have CC := Lib.hid (CB.out.below Bc.out)
                have R2 : RowKit.Hid (w2.ownsRow N 9 1 (.slice ta tn tc) tn ((tagsO pre).map Value.string)) := Lib.hid (by
                  have h1 := CC.out.row
                  rw [← HTN.out] at h1
                  refine T2.out.row h1 (fun r e e' => ?_)
                  obtain ⟨_, ⟨e1, _⟩ | ⟨g', c', cur, e1, hg', hh, -⟩⟩ := h1
                  · rw [e1] at e; cases e
                  · rw [e1] at e
                    have e2 : g' = r := by injection e
                    exact map_ne mc (c := g') (xs := cur) (T := 9) hh (by rw [e2, e']))
                have hz2w : N ≤ w2.heap.size := by have := T2.out.size; omega
                have K82 : RowKit.Hid (Blk w2 g8 #[.int .i64 x1, .int .i64 x2, .int .i64 x3, .int .u8 x4, .int .u8 x5, .slice (some ⟨fb, fo, none⟩) fn fc] 43) := Lib.hid (T2.out.blk (KB8.out.below Bc.out KB8.out.lt) (fun e => map_ne hm2 KB8.out e.symm))
                have K32 : RowKit.Hid (Blk w2 b3 #[.int .u8 kd, .int .u8 lv, .slice none 0 0, .slice none 0 0] 32) := Lib.hid (T2.out.blk (KBB.out.below Bc.out KBB.out.lt) (fun e => map_ne hm2 KBB.out e.symm))
                have B2 : RowKit.Hid (Below N wo w2) := Lib.hid (((BB.out.trans (Bc.out.mono (by omega)))).trans (T2.out.below (by omega) (fun b e => by rw [e]; exact Nat.le_refl _)))
                have HIN := Lib.hid hin
                have HCBN : RowKit.Hid (N ≤ cb) := Lib.hid (by omega)
                rw [hWc, hWb] at hupd
                have ecb : cb = wr.heap.size + 1 := by omega
                rw [ecb] at hupd
                have HECB := Lib.hid ecb
                have HG10 := Lib.hid hg10
                clear hlv1 hin hm1 hm2 hm3 mc hmap2 hg2 hcb hWc hzc c10 hWb hzb ecb hg10
                go_wp2_with (first
                  | refine wpList_load_mid rfl 48 (.tmp 51) rfl fb (fo + q * 4) rfl [.string y1, .string y2, .string y3, .slice sa sn sc] _ HG.out Tryz.underlying48 rfl (by kernel_rfl) ?_
                  | (at_builtin; go_loud (refine wpList_append_all rfl (.tmp 65) (.tmp 68) 65 rfl N 9 it _ 1 16 Tryz.underlying65 hit hy1 hy2 hy3 rfl (by omega) _ tn ((tagsO pre).map Value.string) rfl (R2.out.alloc _) 1 [.string y1] _ rfl (src_row (row_fresh' _ (by simp) 0 _ 9 1 1 rfl (by unfold maxLen; omega) (Nat.zero_le _))) (by simp [Value.oneCell']) (by unfold maxLen; omega) (by omega) (by simp; omega) ?_); intro v' w4 hr4 hg4 ho4; have HR4 := Lib.hid hr4; have HG4 := Lib.hid hg4; have HO4 := Lib.hid ho4; clear hr4 hg4 ho4))
                obtain ⟨Wx, hWx⟩ : ∃ Wx, Wx = w4 := ⟨_, rfl⟩
                have T4 : RowKit.Hid (Tn (fun b => (Value.slice ta tn tc).ownBlock = some b) w2 w4) := Lib.hid (((Tn.refl _ w2).alloc _).trans (Tn.of_grown HG4.out))
                obtain ⟨sv, hsv⟩ : ∃ sv, sv = Value.slice none 0 0 := ⟨_, rfl⟩
                have HX : RowKit.Hid (ColX S N N E y1 cb (tn + 1) pre Wx v' sv) := Lib.hid (by
                  have h4 := HR4.out
                  have t4 := T4.out
                  have c1 := CC.out
                  rw [hsv, hWx]
                  rw [HTN.out] at h4 ⊢
                  exact ColX.of_new c1 HIN.out Kc.out HCBN.out HNC.out HSN.out HMM.out HMAP2.out HF2.out T2.out (Nat.le_refl _) h4 t4)
                rw [← HECB.out, ← HG10.out, ← hWx]
                have K10 : RowKit.Hid (Blk Wx g10 #[.string y1, .string y2, .string y3, .slice sa sn sc] 48) := Lib.hid (by rw [hWx, HG10.out]; exact T4.out.blk K102.out (fun e => row_not K102.out (by decide) R2.out e.symm))
                have K8 : RowKit.Hid (Blk Wx g8 #[.int .i64 x1, .int .i64 x2, .int .i64 x3, .int .u8 x4, .int .u8 x5, .slice (some ⟨fb, fo, none⟩) fn fc] 43) := Lib.hid (by rw [hWx]; exact T4.out.blk K82.out (fun e => row_not K82.out (by decide) R2.out e.symm))
                have KX3 : RowKit.Hid (Blk Wx b3 #[.int .u8 kd, .int .u8 lv, .slice none 0 0, .slice none 0 0] 32) := Lib.hid (by rw [hWx]; exact T4.out.blk K32.out (fun e => row_not K32.out (by decide) R2.out e.symm))
                have KXB : RowKit.Hid (Below N wo Wx) := Lib.hid (by rw [hWx]; exact B2.out.trans (T4.out.below hz2w (fun b e => row_base R2.out b e)))
                have HWN : RowKit.Hid (N ≤ Wx.heap.size) := Lib.hid (by rw [hWx]; have := T4.out.size; omega)
                have HSX : RowKit.Hid (∀ W, Below Wx.heap.size Wx W → SaidC S W [.string y1, .string y2, .string y3, .slice sa sn sc, .int .i64 x1, .int .i64 x2] (f, (x1, x2))) := Lib.hid fun W hW => HSAID.out W (KXB.out.trans (hW.mono HWN.out))
                clear hWx k102 hupd hz2w hsv
                obtain ⟨css, r1, r2, r3, r4⟩ := HX.out.own
                obtain ⟨sq, hsq⟩ : ∃ sq, sq = (about y1 pre).length := ⟨_, rfl⟩
                have hsl : sq ≤ 100000 := by rw [hsq]; exact Nat.le_trans (about_len _ _) HPL.out
                have HR1 := Lib.hid r1
                have HCSS := Lib.hid (And.intro r1 (And.intro r2 (And.intro r3 r4)))
                rw [← hsq] at HR1
                have HSQ := Lib.hid hsq
                clear r1 r2 r3 r4 hsq
                have HNE : RowKit.Hid (¬ sv.ownBlock = some cb ∧ ¬ sv.ownBlock = some g10 ∧ ¬ sv.ownBlock = some g8) := Lib.hid ⟨fun e => row_not HX.out.blk (by decide) HR1.out e.symm, fun e => row_not K10.out (by decide) HR1.out e.symm, fun e => row_not K8.out (by decide) HR1.out e.symm⟩
                obtain ⟨S', hS'⟩ : ∃ S' : World → Prop, S' = fun V => V.cell? ⟨cb, 0, none⟩ = some sv ∧ Blk V g10 #[.string y1, .string y2, .string y3, .slice sa sn sc] 48 ∧ V.cell? ⟨g8, 0, none⟩ = some (.int .i64 x1) ∧ V.cell? ⟨g8, 1, none⟩ = some (.int .i64 x2) := ⟨_, rfl⟩
                have LD : RowKit.Hid (∀ V, S' V → V.cell? ⟨cb, 0, none⟩ = some sv ∧ V.cell? ⟨g8, 0, none⟩ = some (.int .i64 x1) ∧ V.cell? ⟨g8, 1, none⟩ = some (.int .i64 x2)) := Lib.hid (by rw [hS']; exact fun V h => ⟨h.1, h.2.2.1, h.2.2.2⟩)
                have LB : RowKit.Hid (∀ V, S' V → Blk V g10 #[.string y1, .string y2, .string y3, .slice sa sn sc] 48) := Lib.hid (by rw [hS']; exact fun V h => h.2.1)
                have UU : RowKit.Hid (∀ V F, Tn F Wx V → ¬ F cb → ¬ F g10 → ¬ F g8 → S' V) := Lib.hid (by rw [hS']; exact fun V F t h1 h2 h3 => ⟨t.cell (HX.out.blk.cell 0) h1, t.blk K10.out h2, t.cell (K8.out.cell 0) h3, t.cell (K8.out.cell 1) h3⟩)
                have hHeld := UU.out _ (fun _ => False) (Tn.refl (fun _ => False) Wx).drew (fun h => h) (fun h => h) (fun h => h)
                clear hS'
                refine wp_region_sp 13 S' (by kernel_rfl) (by kernel_rfl) ?_
                simp only [List.take_succ_cons, List.take_zero]
                apply wpAnyH_apartV (fun v' W => W.ownsRow N 71 6 v' (sq + 1) (css.flatten ++ [.string y1, .string y2, .string y3, .slice sa sn sc, .int .i64 x1, .int .i64 x2]) ∧ ∃ w3, Below Wx.heap.size Wx w3 ∧ w3.grownBy W sv.ownBlock ∧ (v'.ownBlock = sv.ownBlock ∨ v'.ownBlock = some w3.heap.size))
                case take =>
                  intro R hR
                  refine wpAnyH_take (i := 0) (v := ?_) rfl (by kernel_rfl) (by kernel_rfl) (by kernel_rfl) (fun _ _ _ h => only_panic h) (Or.inl ⟨by rfl, ?_⟩) hHeld ?_
                  rotate_left
                  · (intro w hSw; obtain ⟨l0, l1, l2⟩ := LD.out w hSw; go_simp; try (with_reducible rfl))
                  try simp only [List.getElem_toArray, List.getElem_cons_succ, List.getElem_cons_zero, Act.put, List.setIfInBounds_toArray, List.set_cons_zero, List.set_cons_succ]
                  refine wpAnyH_take (i := 1) (v := ?_) rfl (by kernel_rfl) (by kernel_rfl) (by kernel_rfl) (fun _ _ _ h => only_panic h) (Or.inl ⟨by rfl, ?_⟩) hHeld ?_
                  rotate_left
                  · (intro w hSw; obtain ⟨l0, l1, l2⟩ := LD.out w hSw; go_simp; try (with_reducible rfl))
                  try simp only [List.getElem_toArray, List.getElem_cons_succ, List.getElem_cons_zero, Act.put, List.setIfInBounds_toArray, List.set_cons_zero, List.set_cons_succ]
                  refine wpAnyH_take (i := 2) (v := ?_) rfl (by kernel_rfl) (by kernel_rfl) (by kernel_rfl) (fun _ _ _ h => only_panic h) (Or.inl ⟨by rfl, ?_⟩) hHeld ?_
                  rotate_left
                  · (intro w hSw; obtain ⟨l0, l1, l2⟩ := LD.out w hSw; go_simp; try (with_reducible rfl))
                  try simp only [List.getElem_toArray, List.getElem_cons_succ, List.getElem_cons_zero, Act.put, List.setIfInBounds_toArray, List.set_cons_zero, List.set_cons_succ]
                  refine wpAnyH_take (i := 3) (v := ?_) rfl (by kernel_rfl) (by kernel_rfl) (by kernel_rfl) (fun _ _ _ h => only_panic h) (Or.inl ⟨by rfl, ?_⟩) hHeld ?_
                  rotate_left
                  · (intro w hSw; obtain ⟨l0, l1, l2⟩ := LD.out w hSw; go_simp; try (with_reducible rfl))
                  try simp only [List.getElem_toArray, List.getElem_cons_succ, List.getElem_cons_zero, Act.put, List.setIfInBounds_toArray, List.set_cons_zero, List.set_cons_succ]
                  refine wpAnyH_take (i := 4) (v := ?_) rfl (by kernel_rfl) (by kernel_rfl) (by kernel_rfl) (fun _ _ _ h => only_panic h) (Or.inl ⟨by rfl, ?_⟩) hHeld ?_
                  rotate_left
                  · (intro w hSw; obtain ⟨l0, l1, l2⟩ := LD.out w hSw; go_simp; try (with_reducible rfl))
                  try simp only [List.getElem_toArray, List.getElem_cons_succ, List.getElem_cons_zero, Act.put, List.setIfInBounds_toArray, List.set_cons_zero, List.set_cons_succ]
                  refine wpAnyH_take (i := 6) (v := ?_) rfl (by kernel_rfl) (by kernel_rfl) (by kernel_rfl) (fun _ _ _ h => only_panic h) (Or.inl ⟨by rfl, ?_⟩) hHeld ?_
                  rotate_left
                  · (intro w hSw; obtain ⟨l0, l1, l2⟩ := LD.out w hSw; go_simp; try (with_reducible rfl))
                  try simp only [List.getElem_toArray, List.getElem_cons_succ, List.getElem_cons_zero, Act.put, List.setIfInBounds_toArray, List.set_cons_zero, List.set_cons_succ]
                  refine wpAnyH_take (i := 7) (v := ?_) rfl (by kernel_rfl) (by kernel_rfl) (by kernel_rfl) (fun _ _ _ h => only_panic h) (Or.inl ⟨by rfl, ?_⟩) hHeld ?_
                  rotate_left
                  · (intro w hSw; obtain ⟨l0, l1, l2⟩ := LD.out w hSw; go_simp; try (with_reducible rfl))
                  try simp only [List.getElem_toArray, List.getElem_cons_succ, List.getElem_cons_zero, Act.put, List.setIfInBounds_toArray, List.set_cons_zero, List.set_cons_succ]
                  refine wpAnyH_take (i := 5) (v := .agg #[.string y1, .string y2, .string y3, .slice sa sn sc]) rfl (by kernel_rfl) (by kernel_rfl) (by kernel_rfl) (fun _ _ _ h => only_panic h) ?_ hHeld ?_
                  · exact yields_row (.tmp 10) (by rfl) rfl rfl LB.out Tryz.underlying48 rfl (by kernel_rfl)
                  try simp only [List.getElem_toArray, List.getElem_cons_succ, List.getElem_cons_zero, Act.put, List.setIfInBounds_toArray, List.set_cons_zero, List.set_cons_succ]
                  refine wpAnyH_take (i := 8) (v := ?_) rfl (by kernel_rfl) (by kernel_rfl) (by kernel_rfl) (fun _ _ _ h => only_panic h) (Or.inl ⟨by rfl, ?_⟩) hHeld ?_
                  rotate_left
                  · (intro w hSw; clear hSw; go_simp; try (with_reducible rfl))
                  try simp only [List.getElem_toArray, List.getElem_cons_succ, List.getElem_cons_zero, Act.put, List.setIfInBounds_toArray, List.set_cons_zero, List.set_cons_succ]
                  refine wpAnyH_one (i := 9) rfl (by kernel_rfl) (by rfl) ?_
                  go_simp
                  obtain ⟨W4, hW4⟩ : ∃ W4, W4 = (Wx.alloc (.cells #[.string y1, .string y2, .string y3, .slice sa sn sc, .int .i64 x1, .int .i64 x2] 71)).drew := ⟨_, rfl⟩
                  have B4 : RowKit.Hid (Below Wx.heap.size Wx W4) := Lib.hid (by rw [hW4]; exact ((Below.refl _ _).alloc (Nat.le_refl _) _).drew)
                  have R4 : RowKit.Hid (W4.ownsRow 0 71 6 (.slice (some ⟨Wx.heap.size, 0, none⟩) 1 1) 1 [.string y1, .string y2, .string y3, .slice sa sn sc, .int .i64 x1, .int .i64 x2]) := Lib.hid (by
                    rw [hW4]
                    exact (Tn.refl (fun _ => False) (Wx.alloc (.cells #[.string y1, .string y2, .string y3, .slice sa sn sc, .int .i64 x1, .int .i64 x2] 71))).drew.row (row_fresh Wx 0 #[.string y1, .string y2, .string y3, .slice sa sn sc, .int .i64 x1, .int .i64 x2] 71 6 1 rfl (by unfold maxLen; omega) (Nat.zero_le _)) (fun _ _ h => h))
                  have hHeld := UU.out _ (fun _ => False) (Tn.of_below B4.out) (fun h => h) (fun h => h) (fun h => h)
                  rw [← hW4]
                  clear hW4
                  refine ⟨hHeld, ?_⟩
                  refine wpAnyH_one (i := 10) rfl (by kernel_rfl) (by rfl) ?_
                  simp only [List.getElem_toArray, List.getElem_cons_succ, List.getElem_cons_zero]
                  refine wp_append_all (.tmp 74) (.tmp 79) 67 rfl N 71 i0 _ 6 88 Tryz.underlying67 hi hz1 hz2 hz3 rfl (by omega) sv sq css.flatten rfl ((Tn.of_below (F := fun _ => False) B4.out).row HR1.out (fun _ _ h => h)) 1 [.string y1, .string y2, .string y3, .slice sa sn sc, .int .i64 x1, .int .i64 x2] _ rfl (src_row R4.out) (by simp [Value.oneCell']) (by unfold maxLen; omega) (by omega) (by have := B4.out.size; have := HWN.out; omega) ?_
                  intro v' w5 hr5 hg5 ho5
                  have hHeld := UU.out _ (fun b => sv.ownBlock = some b) ((Tn.of_below B4.out).trans (Tn.of_grown hg5)) HNE.out.1 HNE.out.2.1 HNE.out.2.2
                  refine ⟨hHeld, ?_⟩
                  refine wpAnyH_take (i := 11) (v := ?_) rfl (by kernel_rfl) (by kernel_rfl) (by kernel_rfl) (fun _ _ _ h => only_panic h) (Or.inl ⟨by rfl, ?_⟩) hHeld ?_
                  rotate_left
                  · (intro w hSw; clear hSw; go_simp; try (with_reducible rfl))
                  try simp only [List.getElem_toArray, List.getElem_cons_succ, List.getElem_cons_zero, Act.put, List.setIfInBounds_toArray, List.set_cons_zero, List.set_cons_succ]
                  refine wpAnyH_take (i := 12) (v := ?_) rfl (by kernel_rfl) (by kernel_rfl) (by kernel_rfl) (fun _ _ _ h => only_panic h) (Or.inl ⟨by rfl, ?_⟩) hHeld ?_
                  rotate_left
                  · (intro w hSw; clear hSw; go_simp; try (with_reducible rfl))
                  try simp only [List.getElem_toArray, List.getElem_cons_succ, List.getElem_cons_zero, Act.put, List.setIfInBounds_toArray, List.set_cons_zero, List.set_cons_succ]
                  exact wpAnyH_done (by kernel_rfl) ⟨rfl, hR v' w5 ⟨hr5, W4, B4.out, hg5, ho5⟩⟩ _
                case rest =>
                  rintro v' w5 ⟨hr5, w4, hb4, hg5, ho5⟩
                  obtain ⟨va', vc', rfl, -⟩ := row_cellz hr5
                  simp only [endN, List.drop_succ_cons, List.drop_zero]
                  have K5 : RowKit.Hid (Blk w5 cb #[sv] 69) := Lib.hid (((Tn.of_below (F := fun b => sv.ownBlock = some b) hb4).trans (Tn.of_grown hg5)).blk HX.out.blk HNE.out.1)
                  have k5 : w5.cell? ⟨cb, 0, none⟩ = some sv := K5.out.cell 0
                  have f5 : w5.frozen? ⟨cb, 0, none⟩ = false := K5.out.frozen 0
                  have HR5 := Lib.hid hr5
                  have HB4 := Lib.hid hb4
                  have HG5 := Lib.hid hg5
                  have HO5 := Lib.hid ho5
                  clear hr5 hb4 hg5 ho5
                  have HDO := Lib.hid (ColX.done HX.out HSN.out (Below.trans HB4.out (Below.refl _ _)) (x := (f, (x1, x2))) HY1.out.symm (cs := [.string y1, .string y2, .string y3, .slice sa sn sc, .int .i64 x1, .int .i64 x2]) (HSX.out w4 HB4.out) HCSS.out (by rw [← HSQ.out]; exact HR5.out) HG5.out HO5.out)
                  have HB5 : RowKit.Hid (Below N wo (w5.setCell ⟨cb, 0, none⟩ (.slice va' (sq + 1) vc'))) := Lib.hid (by
                    have h1 : Below N Wx w4 := HB4.out.mono HWN.out
                    have h2 := below_grown (KXB.out.trans h1) (by have := HB4.out.size; have := HWN.out; omega) HG5.out (fun r e => row_base HR1.out r e)
                    exact h2.setCell (p := ⟨cb, 0, none⟩) HX.out.cbN _)
                  have H58 : RowKit.Hid (Blk (w5.setCell ⟨cb, 0, none⟩ (.slice va' (sq + 1) vc')) g8 #[.int .i64 x1, .int .i64 x2, .int .i64 x3, .int .u8 x4, .int .u8 x5, .slice (some ⟨fb, fo, none⟩) fn fc] 43) := Lib.hid (by
                    have h1 := ((Tn.of_below (F := fun b => sv.ownBlock = some b) HB4.out).trans (Tn.of_grown HG5.out)).blk K8.out HNE.out.2.2
                    exact h1.set_ne _ _ (fun e => by have h2 := K8.out; have h3 := HX.out.blk; rw [e] at h2; unfold Blk at h2 h3; rw [h2] at h3; injection h3 with h3; injection h3 with _ h3; cases h3))
                  have H5b : RowKit.Hid (Blk (w5.setCell ⟨cb, 0, none⟩ (.slice va' (sq + 1) vc')) b3 #[.int .u8 kd, .int .u8 lv, .slice none 0 0, .slice none 0 0] 32) := Lib.hid (by
                    have h1 := ((Tn.of_below (F := fun b => sv.ownBlock = some b) HB4.out).trans (Tn.of_grown HG5.out)).blk KX3.out (fun e => row_not KX3.out (by decide) HR1.out e.symm)
                    exact h1.set_ne _ _ (fun e => by have h2 := KX3.out; have h3 := HX.out.blk; rw [e] at h2; unfold Blk at h2 h3; rw [h2] at h3; injection h3 with h3; injection h3 with _ h3; cases h3))
                  go_wp2_with fail
                  refine ⟨⟨q + 1, hqt, by go_num, ?_, H58.out⟩, by simp [intOf]; omega⟩
                  rw [HST.out]
                  obtain ⟨E', hE'⟩ := HDO.out
                  exact ⟨E', hE', HB5.out, H5b.out⟩
            · obtain rfl : q = fn := by omega
              have HSE : RowKit.Hid (saidOf (V.take (k + 1)) = pre) := Lib.hid (by rw [HXS.out, HPE.out, HFN.out, List.take_length])
              have BWO : RowKit.Hid (Below N W3 wr) := Lib.hid (BW.out.trans hbw)
              have HCL := Lib.hid hcol
              have HKB := Lib.hid hkb
              clear hbw hcol hkb hk8
              go_wp2_with fail
              refine ⟨⟨k + 1, hlt, by go_num, ?_⟩, by simp [intOf]; omega⟩
              rw [HSE.out]
              exact ⟨E, HCL.out, BWO.out, HKB.out⟩
        --L1>
        · obtain rfl : k = m := by omega
          obtain ⟨E, hcol, hbw, hkb⟩ := HMID.out
          have HVT : RowKit.Hid (V.take k = V) := Lib.hid (by rw [HM.out, List.take_length])
          rw [HVT.out] at hcol HTN
          obtain ⟨pre, hpre⟩ : ∃ pre, pre = saidOf V := ⟨_, rfl⟩
          rw [← hpre] at hcol HTN
          have HPL : RowKit.Hid (pre.length ≤ 100000) := Lib.hid (by rw [hpre]; exact said_len_le HOK.out)
          have HPK : RowKit.Hid (∀ y ∈ pre, KOk y.1) := Lib.hid (by
            rw [hpre]; intro y hy
            obtain ⟨z, hz, hy'⟩ := List.mem_flatMap.1 hy
            obtain ⟨f, hf, rfl⟩ := List.mem_map.1 hy'
            exact HOK.out.fld z hz f hf)
          have HPRE := Lib.hid hpre
          have HCOL := Lib.hid hcol
          have HBW := Lib.hid hbw
          have HKB := Lib.hid hkb
          have htl : tn ≤ 100000 := by have := HPL.out; have := tagsO_len pre; have := HTN.out; omega
          have HSORT := Lib.hid (sortTags_any (n := tn) HTN.out.symm htl (by have h1 := hcol.row; rw [← HTN.out] at h1; exact h1))
          clear hcol hbw hkb hpre HMID
          go_wp2_with fail
          refine HSORT.out.mono ?_
          rintro e ws ⟨rfl, hcell, hts, htlen⟩
          have TS : RowKit.Hid (Tn (fun b => (Value.slice ta tn tc).ownBlock = some b) wr ws) := Lib.hid (hts.mono fun b hb => by rw [hb]; rfl)
          have HTL := Lib.hid htlen
          have HRW : RowKit.Hid (wr.ownsRow N 9 1 (.slice ta tn tc) tn ((tagsO pre).map Value.string)) := Lib.hid (by have h1 := HCOL.out.row; rw [← HTN.out] at h1; exact h1)
          have CS : RowKit.Hid (∀ u ∈ tagsO pre, ColAt S N (E u) (about u pre) ws) := Lib.hid fun u hu => col_others (HCOL.out.each u hu) HSN.out HRW.out TS.out
          have HTB : RowKit.Hid (∀ tb, ta = some ⟨tb, 0, none⟩ → N ≤ tb ∧ ∀ u ∈ tagsO pre, tb ≠ (E u).g) := Lib.hid fun tb e => by
            have h1 := HRW.out
            rw [e] at h1
            refine ⟨(row_base h1 tb rfl), fun u hu => ?_⟩
            obtain ⟨_, ⟨e1, _⟩ | ⟨g', c', cur, e1, hg', hh, -⟩⟩ := h1
            · cases e1
            · injection e1 with e1 _ _
              injection e1 with e1
              have e2 : tb = g' := by injection e1
              rw [e2]
              exact del_ne (HCOL.out.each u hu).2.1 (b := g') (xs := cur) (T := 9) hh (by decide)
          have HMS : RowKit.Hid (∃ f mm, mm ≤ 100000 ∧ MapF ws Tryz.prog 9 RPt N mm f ∧ ∀ u, u.size ≤ 1000 → f (keyT u) = if u ∈ tagsO pre then some (ptD (some (E u).cb)) else none) := Lib.hid (by
            obtain ⟨f, mm, h1, h2, h3⟩ := HCOL.out.map
            refine ⟨f, mm, by have := HPL.out; omega, h2.keep TS.out (fun e => ?_), h3⟩
            obtain ⟨_, ⟨e1, _⟩ | ⟨g', c', cur, e1, hg', hh, -⟩⟩ := HRW.out
            · rw [e1] at e; cases e
            · rw [e1] at e
              have e2 : g' = N := by injection e
              exact map_ne h2 (c := g') (xs := cur) (T := 9) hh e2.symm)
          have K3S : RowKit.Hid (Blk ws b3 #[.int .u8 kd, .int .u8 lv, .slice none 0 0, .slice none 0 0] 32) := Lib.hid (TS.out.blk HKB.out (fun e => row_not HKB.out (by decide) HRW.out e.symm))
          have HGLT : RowKit.Hid (∀ u ∈ tagsO pre, N ≤ (E u).g ∧ (E u).g < ws.heap.size) := Lib.hid fun u hu => by
            obtain ⟨css, hr, -⟩ := (CS.out u hu).2.1
            exact row_lt hr _ rfl
          have HCELL := Lib.hid hcell
          have HBS : RowKit.Hid (Below N W3 ws) := Lib.hid (HBW.out.trans (TS.out.below (by have := HBW.out.size; have := HN.out; omega) (fun b e => row_base HRW.out b e)))
          obtain ⟨T, hT⟩ : ∃ T, T = tagsP ltT pre := ⟨_, rfl⟩
          rw [← hT] at HTL HCELL
          have HTE := Lib.hid hT
          have HPO := Lib.hid (policies_any ws)
          clear hcell hts htlen HSORT hT
          go_wp2_with fail
          refine HPO.out.mono ?_
          rintro e wp ⟨ov, rfl, hov, hbp⟩
          have HOV := Lib.hid hov
          have BP := Lib.hid hbp
          obtain ⟨oa, oc, rfl, hoc, hom, -, ⟨h80, -⟩ | ⟨pb, rfl, -, hpbw, hpbl, hpc⟩⟩ := row_cellz hov
          · omega
          have HPC := Lib.hid hpc
          have hzps : ws.heap.size ≤ wp.heap.size := hbp.size
          have CP : RowKit.Hid (∀ u ∈ tagsO pre, ColAt S N (E u) (about u pre) wp) := Lib.hid fun u hu => (CS.out u hu).below BP.out
          have K3P := Lib.hid (K3S.out.below BP.out K3S.out.lt)
          have HMP : RowKit.Hid (∃ f mm, mm ≤ 100000 ∧ MapF wp Tryz.prog 9 RPt N mm f ∧ ∀ u, u.size ≤ 1000 → f (keyT u) = if u ∈ tagsO pre then some (ptD (some (E u).cb)) else none) := Lib.hid (by
            obtain ⟨f, mm, h1, h2, h3⟩ := HMS.out
            exact ⟨f, mm, h1, h2.keep (Tn.of_below (F := fun _ => False) BP.out) (fun h => h), h3⟩)
          have HB3L : RowKit.Hid (b3 < W0.heap.size ∧ b3 < N ∧ N ≤ ws.heap.size ∧ W0.heap.size ≤ N) := Lib.hid (by
            have := HB3.out; have := HZ0.out; have := hb1z; have := HZ3.out; have := HN.out; have := HBS.out.size
            omega)
          have HTC : RowKit.Hid (∀ j t, T[j]? = some t → ∃ tb, ta = some ⟨tb, 0, none⟩ ∧ wp.cell? ⟨tb, j, none⟩ = some (.string t)) := Lib.hid fun j t h => by
            obtain ⟨tb, e1, e2⟩ := HCELL.out j t h
            exact ⟨tb, e1, Below.cellE BP.out e2⟩
          have HTM : RowKit.Hid (∀ j t, T[j]? = some t → t ∈ tagsO pre) := Lib.hid fun j t h => by
            rw [← mem_tags, ← HTE.out]; exact List.mem_of_getElem? h
          have HTNE : RowKit.Hid (∀ i j t u, T[i]? = some t → T[j]? = some u → i ≠ j → t ≠ u) := Lib.hid fun i j t u h1 h2 hij e => by
            subst e
            have hnd := nodup_tagsP ltT_ord pre
            rw [← HTE.out] at hnd
            obtain ⟨hi, e1⟩ := List.getElem?_eq_some_iff.1 h1
            obtain ⟨hj, e2⟩ := List.getElem?_eq_some_iff.1 h2
            have hpw := List.pairwise_iff_getElem.1 hnd
            rcases Nat.lt_or_gt_of_ne hij with h | h
            · exact hpw i j hi hj h (e1.trans e2.symm)
            · exact hpw j i hj hi h (e2.trans e1.symm)
          obtain ⟨F, hF⟩ : ∃ F : Nat → Nat → Prop, F = fun k b => b = b3 ∨ ∃ j t, j < k ∧ T[j]? = some t ∧ b = (E t).g := ⟨_, rfl⟩
          have HFD : RowKit.Hid (∀ k b, F k b ↔ (b = b3 ∨ ∃ j t, j < k ∧ T[j]? = some t ∧ b = (E t).g)) := Lib.hid (by rw [hF]; exact fun _ _ => Iff.rfl)
          obtain ⟨N2, hN2⟩ : ∃ N2, N2 = wp.heap.size := ⟨_, rfl⟩
          have HN2 := Lib.hid hN2
          have hN2s : ws.heap.size ≤ N2 := by omega
          have HFS : RowKit.Hid (∀ k b, F k b → ¬ S b ∧ b < ws.heap.size) := Lib.hid fun k b h => by
            rcases (HFD.out k b).1 h with e | ⟨j, t, _, h1, e⟩
            · have := HB3L.out
              exact ⟨fun h => by have := (HSL.out b h).1; omega, by omega⟩
            · have h2 := HGLT.out t (HTM.out j t h1)
              exact ⟨fun h => by have := HSN.out b h; omega, by omega⟩
          clear hov hbp hpc hF hN2
          go_wp2_with fail
          go_loopw [90] (fun i wr => ∃ k : Nat, k ≤ tn ∧ i = .int .i64 k ∧ Tn (F k) wp wr ∧ MrgSt S N2 b3 kd lv wr (mrgTo pre T k)) (fun i _ => tn - (intOf i).toNat)
          case atStart => exact ⟨0, by omega, rfl, Tn.refl _ _, _, _, K3P.out, OwnOf.nil _ _ _ _ _, OwnOf.nil _ _ _ _ _⟩
          case round =>
            obtain ⟨p, hp, rfl, htn', hst⟩ := hrel
            have TN := Lib.hid htn'
            have HST := Lib.hid hst
            have hwz : N2 ≤ wr.heap.size := by have := htn'.size; have := HN2.out; omega
            clear htn' hst
            by_cases hlt : p < tn
            · obtain ⟨t, ht⟩ : ∃ t, T[p]? = some t := ⟨_, List.getElem?_eq_getElem (by rw [HTL.out]; exact hlt)⟩
              have HT := Lib.hid ht
              have htm := HTM.out p t ht
              have HTG := Lib.hid htm
              obtain ⟨tb, rfl, htc⟩ := HTC.out p t ht
              have htF : ¬ F p tb := fun h => by
                have h1 := HTB.out tb rfl
                rcases (HFD.out p tb).1 h with e | ⟨j, u, _, hu, e⟩
                · have := HB3L.out; omega
                · exact h1.2 u (HTM.out j u hu) e
              have hc1 : wr.cell? ⟨tb, p, none⟩ = some (.string t) := TN.out.cell htc htF
              have htz : t.size ≤ 1000 := by
                obtain ⟨y, hy, e⟩ := (mem_tagsO t pre).1 htm
                rw [← e]; exact (HPK.out y hy).tag
              have HTZ := Lib.hid htz
              have HPF : RowKit.Hid (¬ F p pb) := Lib.hid fun h => by have := (HFS.out p pb h).2; omega
              obtain ⟨g14, hg14⟩ : ∃ g, g = wr.heap.size := ⟨_, rfl⟩
              obtain ⟨W1, hW1⟩ : ∃ W1, W1 = wr.alloc (.cells #[.string t] 9) := ⟨_, rfl⟩
              have B1 : RowKit.Hid (Below wr.heap.size wr W1) := Lib.hid (by rw [hW1]; exact (Below.refl _ _).alloc (Nat.le_refl _) _)
              have K14 : RowKit.Hid (Blk W1 g14 #[.string t] 9) := Lib.hid (by rw [hW1, hg14]; exact Blk.new _ _ _)
              have HIX := Lib.hid (indexP_any t g14 (pv := .slice (some ⟨pb, 0, none⟩) 8 oc) (w := W1) (B := ws.heap.size) ((Tn.of_below (F := fun _ => False) B1.out).row (TN.out.row HOV.out (fun r e => by have e' : pb = r := (by injection e); rw [← e']; exact HPF.out)) (fun _ _ h => h)) (K14.out.cell 0))
              clear ht htm htc htF htz
              go_wp2_with fail
              rw [← hW1, ← hg14]
              have HG14 : RowKit.Hid (N2 ≤ g14) := Lib.hid (by omega)
              clear hW1 hg14
              refine HIX.out.mono ?_
              rintro e wq ⟨rfl, hbq⟩
              have BQ : RowKit.Hid (Below wr.heap.size wr wq) := Lib.hid (B1.out.trans (hbq.mono B1.out.size))
              have K14q : RowKit.Hid (Blk wq g14 #[.string t] 9) := Lib.hid (K14.out.below hbq K14.out.lt)
              have hix := idxP_lt t
              obtain ⟨ix, hixe⟩ : ∃ ix, ix = idxP t := ⟨_, rfl⟩
              have HIXE := Lib.hid hixe
              rw [← hixe] at hix ⊢
              have hix' : (ix : Int) < 8 := by omega
              obtain ⟨pf, hpf⟩ : ∃ pf, pf = polN (polP t) := ⟨_, rfl⟩
              have HEG : RowKit.Hid (∀ (args : Array Value) (w : World), (callFunc pf args).run Tryz.prog w = .ok (.enter pf args) w) := Lib.hid (by
                rw [hpf]
                cases polP t
                · exact enters_of Tryz.func50 (by kernel_rfl) rfl
                · exact enters_of Tryz.func51 (by kernel_rfl) rfl
                · exact enters_of Tryz.func49 (by kernel_rfl) rfl)
              have TQ : RowKit.Hid (Tn (F p) wp wq) := Lib.hid (TN.out.trans (Tn.of_below BQ.out))
              have pcq : wq.cell? ⟨pb, ix * 2 + 1, none⟩ = some (.func (.func pf) #[] #[]) := TQ.out.cell (HPC.out _ _ (by rw [hixe, hpf]; exact pol_cells t)) HPF.out
              have PCQ := Lib.hid pcq
              obtain ⟨e0, he0⟩ : ∃ e0, e0 = E t := ⟨_, rfl⟩
              obtain ⟨cb, hcb⟩ : ∃ cb, cb = e0.cb := ⟨_, rfl⟩
              obtain ⟨g, hg⟩ : ∃ g, g = e0.g := ⟨_, rfl⟩
              obtain ⟨ac, hac⟩ : ∃ ac, ac = e0.cap := ⟨_, rfl⟩
              have HGE : RowKit.Hid (g = (E t).g) := Lib.hid (by rw [hg, he0])
              have CAQ : RowKit.Hid (ColAt S N ⟨cb, g, ac⟩ (about t pre) wq) := Lib.hid (by
                have h1 := CP.out t HTG.out
                rw [← he0] at h1
                have h2 := HGLT.out t HTG.out
                rw [← he0] at h2
                rw [hcb, hg, hac]
                refine h1.tn TQ.out (fun b hb h => (HFS.out p b h).1 hb) (fun h => ?_) (fun h => ?_)
                · rcases (HFD.out p _).1 h with e | ⟨j, u, _, hu, e⟩
                  · have h3 := h1.2.2; have := HB3L.out; omega
                  · exact del_ne (CP.out u (HTM.out j u hu)).2.1 h1.1 (by decide) e
                · rcases (HFD.out p _).1 h with e | ⟨j, u, hj, hu, e⟩
                  · have := HB3L.out; omega
                  · exact (HCOL.out.apart t HTG.out u (HTM.out j u hu) (HTNE.out p j t u HT.out hu (by omega))).2 (by rw [← he0]; exact e))
              have HLK : RowKit.Hid (∀ W, Tn (fun b => b = g) wq W → (Instr.lookup 64 (.map (some N)) (.string t) false).run Tryz.prog W = .ok (.pointer (some ⟨cb, 0, none⟩)) W) := Lib.hid fun W hW => by
                obtain ⟨f, mm, _, h2, h3⟩ := HMP.out
                have hng : ¬ N = g := fun e => map_neD h2 (CP.out t HTG.out).2.1 (by rw [← he0, ← hg]; exact e)
                have hnF : ¬ F p N := fun h => by
                  rcases (HFD.out p N).1 h with e | ⟨j, u, _, hu, e⟩
                  · have := HB3L.out; omega
                  · exact map_neD h2 (CP.out u (HTM.out j u hu)).2.1 e
                obtain ⟨lv1, ps, hlk, hlv1⟩ := ((h2.keep TQ.out hnF).keep hW hng).look keyedT Tryz.underlying64 (z := .pointer none) (by kernel_rfl) (zd := ptD none) (zp := []) rfl (keyOfT HTZ.out)
                rw [h3 t HTZ.out, if_pos HTG.out] at hlv1
                have : lv1 = .pointer (some ⟨cb, 0, none⟩) := by rw [hcb, he0]; exact RPt_inv (k := some (E t).cb) hlv1
                rw [← this]; exact hlk
              have HGL : RowKit.Hid (g < ws.heap.size ∧ N ≤ g) := Lib.hid (by have := HGLT.out t HTG.out; rw [hg, he0]; omega)
              obtain ⟨K, hK⟩ : ∃ K, K = keepP (foldS tabC) (polP t) (about t pre) := ⟨_, rfl⟩
              have HKE := Lib.hid hK
              have HMS2 : RowKit.Hid (mrgTo pre T (p + 1) = mrgTo pre T p ++ K) := Lib.hid (by rw [hK]; exact mrgTo_step HT.out)
              obtain ⟨kn, hkn⟩ : ∃ kn, kn = K.length := ⟨_, rfl⟩
              have HKN := Lib.hid hkn
              have hkl : kn ≤ 100000 := by
                rw [hkn, hK]; exact Nat.le_trans (keepP_len _ _ _) (Nat.le_trans (about_len _ _) HPL.out)
              have HKP : RowKit.Hid (Calls Tryz.prog pf #[.pointer (some ⟨cb, 0, none⟩)] wq.drew fun e W' => ∃ v', e = .returned v' ∧ SlOf 6 (fun b => b = g) (SaidC S) W' v' K ∧ Tn (fun b => b = g) wq.drew W') := Lib.hid (by
                have c1 := CAQ.out.below (Below.refl wq.heap.size wq).drew
                have h0 : 0 < (about t pre).length := by
                  obtain ⟨y, hy, e⟩ := (mem_tagsO t pre).1 HTG.out
                  exact List.length_pos_of_mem (List.mem_filter.2 ⟨hy, by simpa using e⟩)
                rw [hpf, hK]
                refine keep_any (polP t) rfl h0 (Nat.le_trans (about_len _ _) HPL.out) c1.2.1 (c1.1.cell 0) (fun e => del_ne c1.2.1 c1.1 (by decide) e) (fun h => ?_) (fun b hb => ?_) (fun y hy => HPK.out y (List.mem_filter.1 hy).1)
                · have := HSN.out g h; have := HGL.out; omega
                · have h1 := HSN.out b hb
                  have h2 := CAQ.out.1.lt
                  have h3 := CAQ.out.2.2
                  show b < wq.heap.size
                  have : cb < wq.heap.size := h2
                  have : N ≤ cb := h3
                  omega)
              clear hpf hixe he0 hcb hg hac hbq hK hkn
              go_wp2_with fail
              obtain ⟨S', hS'⟩ : ∃ S' : World → Prop, S' = fun W => Tn (fun b => b = g) wq W := ⟨_, rfl⟩
              have LD : RowKit.Hid (∀ W, S' W → W.cell? ⟨pb, ix * 2 + 1, none⟩ = some (.func (.func pf) #[] #[]) ∧ W.cell? ⟨g14, 0, none⟩ = some (.string t) ∧ (Instr.lookup 64 (.map (some N)) (.string t) false).run Tryz.prog W = .ok (.pointer (some ⟨cb, 0, none⟩)) W) := Lib.hid (by
                rw [hS']
                intro W hW
                have := HGL.out; have := HG14.out
                exact ⟨hW.cell PCQ.out (by show ¬ pb = g; omega), hW.cell (K14q.out.cell 0) (by show ¬ g14 = g; omega), HLK.out W hW⟩)
              have UU : RowKit.Hid (∀ W, Tn (fun b => b = g) wq W → S' W) := Lib.hid (by rw [hS']; exact fun W h => h)
              have hHeld := UU.out _ (Tn.refl (fun b => b = g) wq).drew
              clear hS' pcq
              refine wp_region_held_drew (S := S') (by kernel_rfl) hHeld (fun _ => ?_)
              apply wpAnyH_apartV (fun vv W => SlOf 6 (fun b => b = g) (SaidC S) W vv K ∧ Tn (fun b => b = g) wq W)
              case take =>
                intro R hR
                refine wpAnyH_take (i := 0) (v := ?_) rfl (by kernel_rfl) (by kernel_rfl) (by kernel_rfl) (fun _ _ _ h => only_panic h) (Or.inl ⟨by rfl, ?_⟩) hHeld ?_
                rotate_left
                · (intro w hSw; obtain ⟨l0, l1, l2⟩ := LD.out w hSw; go_simp; try (with_reducible rfl))
                try simp only [List.getElem_toArray, List.getElem_cons_succ, List.getElem_cons_zero, Act.put, List.setIfInBounds_toArray, List.set_cons_zero, List.set_cons_succ]
                refine wpAnyH_take (i := 1) (v := ?_) rfl (by kernel_rfl) (by kernel_rfl) (by kernel_rfl) (fun _ _ _ h => only_panic h) (Or.inl ⟨by rfl, ?_⟩) hHeld ?_
                rotate_left
                · (intro w hSw; obtain ⟨l0, l1, l2⟩ := LD.out w hSw; go_simp; try (with_reducible rfl))
                try simp only [List.getElem_toArray, List.getElem_cons_succ, List.getElem_cons_zero, Act.put, List.setIfInBounds_toArray, List.set_cons_zero, List.set_cons_succ]
                refine wpAnyH_take (i := 2) (v := ?_) rfl (by kernel_rfl) (by kernel_rfl) (by kernel_rfl) (fun _ _ _ h => only_panic h) (Or.inl ⟨by rfl, ?_⟩) hHeld ?_
                rotate_left
                · (intro w hSw; obtain ⟨l0, l1, l2⟩ := LD.out w hSw; go_simp; try (with_reducible rfl))
                try simp only [List.getElem_toArray, List.getElem_cons_succ, List.getElem_cons_zero, Act.put, List.setIfInBounds_toArray, List.set_cons_zero, List.set_cons_succ]
                refine wpAnyH_take (i := 3) (v := ?_) rfl (by kernel_rfl) (by kernel_rfl) (by kernel_rfl) (fun _ _ _ h => only_panic h) (Or.inl ⟨by rfl, ?_⟩) hHeld ?_
                rotate_left
                · (intro w hSw; obtain ⟨l0, l1, l2⟩ := LD.out w hSw; go_simp; try (with_reducible rfl))
                try simp only [List.getElem_toArray, List.getElem_cons_succ, List.getElem_cons_zero, Act.put, List.setIfInBounds_toArray, List.set_cons_zero, List.set_cons_succ]
                refine wpAnyH_take (i := 4) (v := ?_) rfl (by kernel_rfl) (by kernel_rfl) (by kernel_rfl) (fun _ _ _ h => only_panic h) (Or.inl ⟨by rfl, ?_⟩) hHeld ?_
                rotate_left
                · (intro w hSw; obtain ⟨l0, l1, l2⟩ := LD.out w hSw; go_simp; try (with_reducible rfl))
                try simp only [List.getElem_toArray, List.getElem_cons_succ, List.getElem_cons_zero, Act.put, List.setIfInBounds_toArray, List.set_cons_zero, List.set_cons_succ]
                refine wpAnyH_take (i := 5) (v := ?_) rfl (by kernel_rfl) (by kernel_rfl) (by kernel_rfl) (fun _ _ _ h => only_panic h) (Or.inl ⟨by rfl, ?_⟩) hHeld ?_
                rotate_left
                · (intro w hSw; obtain ⟨l0, l1, l2⟩ := LD.out w hSw; go_simp; try (with_reducible rfl))
                try simp only [List.getElem_toArray, List.getElem_cons_succ, List.getElem_cons_zero, Act.put, List.setIfInBounds_toArray, List.set_cons_zero, List.set_cons_succ]
                refine wpAnyH_take (i := 6) (v := ?_) rfl (by kernel_rfl) (by kernel_rfl) (by kernel_rfl) (fun _ _ _ h => only_panic h) (Or.inl ⟨by rfl, ?_⟩) hHeld ?_
                rotate_left
                · (intro w hSw; obtain ⟨l0, l1, l2⟩ := LD.out w hSw; go_simp; try (with_reducible rfl))
                try simp only [List.getElem_toArray, List.getElem_cons_succ, List.getElem_cons_zero, Act.put, List.setIfInBounds_toArray, List.set_cons_zero, List.set_cons_succ]
                refine wpAnyH_take (i := 7) (v := ?_) rfl (by kernel_rfl) (by kernel_rfl) (by kernel_rfl) (fun _ _ _ h => only_panic h) (Or.inl ⟨by rfl, ?_⟩) hHeld ?_
                rotate_left
                · (intro w hSw; obtain ⟨l0, l1, l2⟩ := LD.out w hSw; go_simp; try (with_reducible rfl))
                try simp only [List.getElem_toArray, List.getElem_cons_succ, List.getElem_cons_zero, Act.put, List.setIfInBounds_toArray, List.set_cons_zero, List.set_cons_succ]
                refine wpAnyH_take (i := 10) (v := ?_) rfl (by kernel_rfl) (by kernel_rfl) (by kernel_rfl) (fun _ _ _ h => only_panic h) (Or.inl ⟨by rfl, ?_⟩) hHeld ?_
                rotate_left
                · (intro w hSw; obtain ⟨l0, l1, l2⟩ := LD.out w hSw; go_simp; try (with_reducible rfl))
                try simp only [List.getElem_toArray, List.getElem_cons_succ, List.getElem_cons_zero, Act.put, List.setIfInBounds_toArray, List.set_cons_zero, List.set_cons_succ]
                refine wpAnyH_one (i := 8) rfl (by kernel_rfl) (by rfl) ?_
                have eg := HEG.out
                go_simp
                refine HKP.out.mono ?_
                rintro e W2 ⟨v', rfl, hs, ht⟩
                have HS2 := Lib.hid hs
                have HT2 : RowKit.Hid (Tn (fun b => b = g) wq W2) := Lib.hid ((Tn.refl (fun b => b = g) wq).drew.trans ht)
                obtain ⟨ka, kc, rfl, -⟩ := hs
                rw [← HKN.out] at HS2 ⊢
                have hHeld := UU.out _ HT2.out
                clear ht
                refine ⟨hHeld, ?_⟩
                refine wpAnyH_one (i := 9) rfl (by kernel_rfl) (by rfl) ?_
                go_simp
                refine ⟨hHeld, ?_⟩
                obtain ⟨vv, hvv⟩ : ∃ vv, vv = Value.slice ka kn kc := ⟨_, rfl⟩
                rw [← hvv] at HS2 ⊢
                exact wpAnyH_done (by kernel_rfl) ⟨rfl, hR vv W2 ⟨HS2.out, HT2.out⟩⟩ _
              case rest =>
                rintro vv W2 ⟨hs, ht⟩
                have HS2 := Lib.hid hs
                have HT2 := Lib.hid ht
                obtain ⟨ka, kc, rfl, -⟩ := hs
                rw [← HKN.out] at HS2 ⊢
                have HF1 : RowKit.Hid (∀ b, F p b → F (p + 1) b) := Lib.hid fun b h => by
                  rcases (HFD.out p b).1 h with e | ⟨j, u, hj, hu, e⟩
                  · exact (HFD.out _ b).2 (.inl e)
                  · exact (HFD.out _ b).2 (.inr ⟨j, u, by omega, hu, e⟩)
                have TP : RowKit.Hid (Tn (F (p + 1)) wp W2) := Lib.hid ((TQ.out.mono HF1.out).trans (HT2.out.mono fun b e => (HFD.out _ b).2 (.inr ⟨p, t, by omega, HT.out, by rw [e]; exact HGE.out⟩)))
                have hgN2 : g < N2 := by have := HGL.out; omega
                have hgS : ¬ S g := fun h => by have := HSN.out g h; have := HGL.out; omega
                have HST2 : RowKit.Hid (MrgSt S N2 b3 kd lv W2 (mrgTo pre T p)) := Lib.hid ((HST.out.below BQ.out).tn HT2.out (fun b hb e => hgS (by rw [← e]; exact hb)) (fun e => by have := HGL.out; have := HB3L.out; omega) (fun b h1 _ e => by omega))
                have HGS := Lib.hid hgS
                have hwz2 : N2 ≤ W2.heap.size := by have := TP.out.size; have := HN2.out; omega
                clear ht hgS
                go_wp2_with fail
                obtain ⟨M0, hM0⟩ : ∃ M0, M0 = mrgTo pre T p := ⟨_, rfl⟩
                have HM0L : RowKit.Hid (M0.length ≤ p * 100000) := Lib.hid (by rw [hM0]; exact mrgTo_len HPL.out T p)
                rw [← hM0] at HST2 HMS2
                clear hM0
                obtain ⟨wo, rfl⟩ : ∃ wo, wo = wr := ⟨_, rfl⟩
                go_loopw [107] (fun i wr => ∃ q : Nat, q ≤ kn ∧ i = .int .i64 q ∧ Tn (F (p + 1)) wp wr ∧ MrgSt S N2 b3 kd lv wr (M0 ++ K.take q) ∧ SlOf 6 (fun b => b = g) (SaidC S) wr (.slice ka kn kc) K) (fun i _ => kn - (intOf i).toNat)
                case atStart => exact ⟨0, by omega, rfl, TP.out, by simpa using HST2.out, HS2.out⟩
                case round =>
                  obtain ⟨q, hq, rfl, htn2, hst2, hsl⟩ := hrel
                  have TN2 := Lib.hid htn2
                  have HST3 := Lib.hid hst2
                  have HSL3 := Lib.hid hsl
                  have hwz3 : N2 ≤ wr.heap.size := by have := htn2.size; have := HN2.out; omega
                  clear htn2 hst2 hsl
                  by_cases hqt : q < kn
                  · have hqx : q < K.length := by rw [← HKN.out]; exact hqt
                    obtain ⟨b, o, cap3, cs, e1, hSb, hbl, hR, hcl, hrg, hth⟩ := SlOf.range (by omega) HSL3.out hqx
                    have hbg : b = g := hSb
                    subst hbg
                    have e2 : ka = some ⟨b, o, none⟩ := by injection e1
                    clear e1 hcl hth hbl hSb
                    subst e2
                    obtain ⟨y, hy⟩ : ∃ y, y = K[q] := ⟨_, rfl⟩
                    rw [← hy] at hR
                    have HRS := Lib.hid hR
                    obtain ⟨sv0, rfl, hsub⟩ := hR
                    obtain ⟨sa, sc, rfl, -⟩ := hsub
                    obtain ⟨sn, hsn⟩ : ∃ z, z = y.1.subs.length := ⟨_, rfl⟩
                    rw [← hsn] at HRS hrg
                    obtain ⟨y1, hy1'⟩ : ∃ z, z = y.1.tag := ⟨_, rfl⟩
                    obtain ⟨y2, hy2'⟩ : ∃ z, z = y.1.ind := ⟨_, rfl⟩
                    obtain ⟨y3, hy3'⟩ : ∃ z, z = y.1.data := ⟨_, rfl⟩
                    obtain ⟨y4, hy4'⟩ : ∃ z, z = y.2.1 := ⟨_, rfl⟩
                    obtain ⟨y5, hy5'⟩ : ∃ z, z = y.2.2 := ⟨_, rfl⟩
                    rw [← hy1', ← hy2', ← hy3', ← hy4', ← hy5'] at HRS hrg
                    have HG := Lib.hid hrg
                    have HY45 : RowKit.Hid (y.2 = (y4, y5)) := Lib.hid (by rw [hy4', hy5'])
                    have HKT : RowKit.Hid (M0 ++ K.take (q + 1) = (M0 ++ K.take q) ++ [y]) := Lib.hid (by rw [List.take_succ_eq_append_getElem hqx, ← hy, List.append_assoc])
                    have HFR : RowKit.Hid (∀ W, Stay S wr W → FldR S W [.string y1, .string y2, .string y3, .slice sa sn sc] y.1) := Lib.hid fun W hW => by
                      obtain ⟨sv', e, hs⟩ := keeps_said _ S _ _ _ _ HRS.out hW (fun _ h _ => h)
                      injection e with e1 e; injection e with e2 e; injection e with e3 e; injection e with e4 e
                      exact ⟨sv', by rw [e1, e2, e3, e4], hs⟩
                    clear hrg hsn hy1' hy2' hy3' hy4' hy5' hy hqx
                    obtain ⟨mq, hmq⟩ : ∃ mq, mq = (M0 ++ K.take q).length := ⟨_, rfl⟩
                    have hmql : mq ≤ 100000000000 := by
                      have := HM0L.out
                      rw [hmq, List.length_append, List.length_take]
                      have h1 : p * 100000 ≤ 100000 * 100000 := Nat.mul_le_mul_right _ (by omega)
                      omega
                    have HMQ := Lib.hid hmq
                    obtain ⟨M1, hM1⟩ : ∃ M1, M1 = M0 ++ K.take q := ⟨_, rfl⟩
                    rw [← hM1] at HMQ HST3 HKT
                    clear hmq hM1
                    obtain ⟨fv, rv, hk3, hfo, hro⟩ := HST3.out
                    have K3 := Lib.hid hk3
                    obtain ⟨cssf, rf1, rf2, rf3⟩ := hfo
                    obtain ⟨cssr, rr1, rr2, rr3⟩ := hro
                    rw [List.length_map, ← HMQ.out] at rf1 rr1
                    obtain ⟨fa, fc, rfl, -⟩ := row_cellz rf1
                    obtain ⟨ra, rc, rfl, -⟩ := row_cellz rr1
                    have RF1 := Lib.hid rf1
                    have RR1 := Lib.hid rr1
                    have RF2 := Lib.hid rf2
                    have RR2 := Lib.hid rr2
                    have RF3 := Lib.hid rf3
                    have RR3 := Lib.hid rr3
                    obtain ⟨g17, hg17⟩ : ∃ g, g = wr.heap.size := ⟨_, rfl⟩
                    obtain ⟨W6, hW6⟩ : ∃ W6, W6 = wr.alloc (.cells #[.string y1, .string y2, .string y3, .slice sa sn sc, .int .i64 y4, .int .i64 y5] 71) := ⟨_, rfl⟩
                    have B6 : RowKit.Hid (Below wr.heap.size wr W6) := Lib.hid (by rw [hW6]; exact (Below.refl _ _).alloc (Nat.le_refl _) _)
                    have K17 : RowKit.Hid (Blk W6 g17 #[.string y1, .string y2, .string y3, .slice sa sn sc, .int .i64 y4, .int .i64 y5] 71) := Lib.hid (by rw [hW6, hg17]; exact Blk.new _ _ _)
                    have RF6 : RowKit.Hid (W6.ownsRow N2 48 4 (.slice fa mq fc) mq cssf.flatten) := Lib.hid ((Tn.of_below (F := fun _ => False) B6.out).row RF1.out (fun _ _ h => h))
                    have RR6 : RowKit.Hid (W6.ownsRow N2 41 2 (.slice ra mq rc) mq cssr.flatten) := Lib.hid ((Tn.of_below (F := fun _ => False) B6.out).row RR1.out (fun _ _ h => h))
                    have K36 : RowKit.Hid (Blk W6 b3 #[.int .u8 kd, .int .u8 lv, .slice fa mq fc, .slice ra mq rc] 32) := Lib.hid (K3.out.below B6.out K3.out.lt)
                    have k362 : W6.cell? ⟨b3, 2, none⟩ = some (.slice fa mq fc) := K36.out.cell 2
                    have HRG17 : RowKit.Hid (W6.rangeAt g17 0 [.string y1, .string y2, .string y3, .slice sa sn sc]) := Lib.hid fun j u hu => by
                      have h1 : j < 4 := (List.getElem?_eq_some_iff.1 hu).1
                      rw [Nat.zero_add, K17.out.cell]
                      have : j = 0 ∨ j = 1 ∨ j = 2 ∨ j = 3 := by omega
                      rcases this with rfl | rfl | rfl | rfl <;> exact hu
                    have hz6 : wr.heap.size ≤ W6.heap.size := B6.out.size
                    clear hk3 rf1 rf2 rf3 rr1 rr2 rr3
                    go_upto_region 31 with (refine wpList_load_mid rfl 71 (.tmp 109) rfl b (o + q * 6) rfl [.string y1, .string y2, .string y3, .slice sa sn sc, .int .i64 y4, .int .i64 y5] _ HG.out Tryz.underlying71 rfl (by kernel_rfl) ?_)
                    rw [← hW6, ← hg17]
                    clear hW6 hg17
                    go_upto_region 32 with (first
                      | refine wpList_load_mid rfl 48 (.tmp 114) rfl g17 0 rfl [.string y1, .string y2, .string y3, .slice sa sn sc] _ HRG17.out Tryz.underlying48 rfl (by kernel_rfl) ?_
                      | (at_builtin; go_loud (refine wpList_append_all rfl (.tmp 113) (.tmp 116) 27 rfl N2 48 jf _ 4 72 Tryz.underlying27 hjf jf1 jf2 jf3 rfl (by omega) _ mq cssf.flatten rfl (RF6.out.alloc _) 1 [.string y1, .string y2, .string y3, .slice sa sn sc] _ rfl (src_row (row_fresh' _ (by simp) 0 _ 48 4 1 rfl (by unfold maxLen; omega) (Nat.zero_le _))) (by simp [Value.oneCell']) (by unfold maxLen; omega) (by omega) (by simp; omega) ?_); intro v' w7 hr7 hg7 ho7; obtain ⟨a7, c7, e7, -⟩ := row_cellz hr7; subst e7; have HR7 := Lib.hid hr7; have T7 : RowKit.Hid (Tn (fun b => (Value.slice fa mq fc).ownBlock = some b) W6 w7) := Lib.hid (((Tn.refl _ W6).alloc _).trans (Tn.of_grown hg7)); have K37 : RowKit.Hid (Blk w7 b3 #[.int .u8 kd, .int .u8 lv, .slice fa mq fc, .slice ra mq rc] 32) := Lib.hid (T7.out.blk K36.out (fun e => row_not K36.out (by decide) RF6.out e.symm)); have k372 : w7.cell? ⟨b3, 2, none⟩ = some (.slice fa mq fc) := K37.out.cell 2; have f372 : w7.frozen? ⟨b3, 2, none⟩ = false := K37.out.frozen 2; clear hr7 hg7 ho7))
                    obtain ⟨W8, hW8⟩ : ∃ W8, W8 = w7.setCell ⟨b3, 2, none⟩ (.slice a7 (mq + 1) c7) := ⟨_, rfl⟩
                    have T8 : RowKit.Hid (Tn (fun b => b = b3) w7 W8) := Lib.hid (by rw [hW8]; exact (Tn.refl (fun b => b = b3) w7).setCell (p := ⟨b3, 2, none⟩) (.inl rfl) _)
                    have K38 : RowKit.Hid (Blk W8 b3 #[.int .u8 kd, .int .u8 lv, .slice a7 (mq + 1) c7, .slice ra mq rc] 32) := Lib.hid (by rw [hW8]; exact K37.out.set 2 _)
                    rw [← hW8]
                    clear hW8 k372 f372 k362
                    have HNB : RowKit.Hid (∀ r, (Value.slice fa mq fc).ownBlock = some r → N2 ≤ r) := Lib.hid (row_base RF6.out)
                    have R8 : RowKit.Hid (W8.ownsRow N2 48 4 (.slice a7 (mq + 1) c7) (mq + 1) (cssf.flatten ++ [.string y1, .string y2, .string y3, .slice sa sn sc])) := Lib.hid (T8.out.row HR7.out (fun r e e' => row_not K37.out (by decide) HR7.out (by rw [← e', e])))
                    have RR8 : RowKit.Hid (W8.ownsRow N2 41 2 (.slice ra mq rc) mq cssr.flatten) := Lib.hid (by
                      refine T8.out.row (T7.out.row RR6.out (fun r e e' => ?_)) (fun r e e' => row_not K36.out (by decide) RR6.out (by rw [← e', e]))
                      obtain ⟨_, ⟨e1, _⟩ | ⟨g', c', cur, e1, hg', hh, -⟩⟩ := RR6.out
                      · rw [e1] at e; cases e
                      · rw [e1] at e
                        have e2 : g' = r := by injection e
                        exact row_not (g := g') (cs := cur) (t := 41) hh (by decide) RF6.out (by rw [e2, e']))
                    have K178 : RowKit.Hid (Blk W8 g17 #[.string y1, .string y2, .string y3, .slice sa sn sc, .int .i64 y4, .int .i64 y5] 71) := Lib.hid (T8.out.blk (T7.out.blk K17.out (fun e => row_not K17.out (by decide) RF6.out e.symm)) (fun e => by have h2 := K17.out; have h3 := K36.out; rw [e] at h2; unfold Blk at h2 h3; rw [h2] at h3; injection h3 with h3; injection h3 with _ h3; cases h3))
                    have k383 : W8.cell? ⟨b3, 3, none⟩ = some (.slice ra mq rc) := K38.out.cell 3
                    have HRG8 : RowKit.Hid (W8.rangeAt g17 4 [.int .i64 y4, .int .i64 y5]) := Lib.hid fun j u hu => by
                      have h1 : j < 2 := (List.getElem?_eq_some_iff.1 hu).1
                      rw [K178.out.cell]
                      have : j = 0 ∨ j = 1 := by omega
                      rcases this with rfl | rfl <;> exact hu
                    have hz8 : wr.heap.size ≤ W8.heap.size := by have := T7.out.size; have := T8.out.size; omega
                    go_wp2_with (first
                      | refine wpList_load_mid rfl 41 (.tmp 122) rfl g17 4 rfl [.int .i64 y4, .int .i64 y5] _ HRG8.out Tryz.underlying41 rfl (by kernel_rfl) ?_
                      | (at_builtin; go_loud (refine wpList_append_all rfl (.tmp 121) (.tmp 124) 30 rfl N2 41 jr _ 2 16 Tryz.underlying30 hjr jr1 jr2 jr3 rfl (by omega) _ mq cssr.flatten rfl (RR8.out.alloc _) 1 [.int .i64 y4, .int .i64 y5] _ rfl (src_row (row_fresh' _ (by simp) 0 _ 41 2 1 rfl (by unfold maxLen; omega) (Nat.zero_le _))) (by simp [Value.oneCell']) (by unfold maxLen; omega) (by omega) (by simp; omega) ?_); intro v' w9 hr9 hg9 ho9; obtain ⟨a9, c9, e9, -⟩ := row_cellz hr9; subst e9; have HR9 := Lib.hid hr9; have T9 : RowKit.Hid (Tn (fun b => (Value.slice ra mq rc).ownBlock = some b) W8 w9) := Lib.hid (((Tn.refl _ W8).alloc _).trans (Tn.of_grown hg9)); have K39 : RowKit.Hid (Blk w9 b3 #[.int .u8 kd, .int .u8 lv, .slice a7 (mq + 1) c7, .slice ra mq rc] 32) := Lib.hid (T9.out.blk K38.out (fun e => row_not K38.out (by decide) RR8.out e.symm)); have k393 : w9.cell? ⟨b3, 3, none⟩ = some (.slice ra mq rc) := K39.out.cell 3; have f393 : w9.frozen? ⟨b3, 3, none⟩ = false := K39.out.frozen 3; clear hr9 hg9 ho9))
                    obtain ⟨Wf, hWf⟩ : ∃ Wf, Wf = w9.setCell ⟨b3, 3, none⟩ (.slice a9 (mq + 1) c9) := ⟨_, rfl⟩
                    have T10 : RowKit.Hid (Tn (fun b => b = b3) w9 Wf) := Lib.hid (by rw [hWf]; exact (Tn.refl (fun b => b = b3) w9).setCell (p := ⟨b3, 3, none⟩) (.inl rfl) _)
                    have K3F : RowKit.Hid (Blk Wf b3 #[.int .u8 kd, .int .u8 lv, .slice a7 (mq + 1) c7, .slice a9 (mq + 1) c9] 32) := Lib.hid (by rw [hWf]; exact K39.out.set 3 _)
                    rw [← hWf]
                    clear hWf k393 f393 k383
                    obtain ⟨G, hG⟩ : ∃ G : Nat → Prop, G = fun c => c = b3 ∨ N2 ≤ c := ⟨_, rfl⟩
                    have TT : RowKit.Hid (Tn G wr Wf) := Lib.hid (by
                      rw [hG]
                      exact ((((Tn.of_below (F := fun c => c = b3 ∨ N2 ≤ c) B6.out).trans (T7.out.mono fun c e => .inr (row_base RF6.out c e))).trans (T8.out.mono fun c e => .inl e)).trans (T9.out.mono fun c e => .inr (row_base RR8.out c e))).trans (T10.out.mono fun c e => .inl e))
                    have HSG : RowKit.Hid (∀ c, S c → ¬ G c) := Lib.hid (by
                      rw [hG]
                      rintro c hc (e | e)
                      · have := (HSL.out c hc).1; have := HB3L.out; omega
                      · have := HSN.out c hc; have := HB3L.out; omega)
                    have HBG : RowKit.Hid (¬ G b) := Lib.hid (by
                      rw [hG]
                      rintro (e | e)
                      · have := HB3L.out; have := HGL.out; omega
                      · omega)
                    have HGF : RowKit.Hid (∀ c, G c → F (p + 1) c ∨ wp.heap.size ≤ c) := Lib.hid (by
                      rw [hG]
                      rintro c (e | e)
                      · exact .inl ((HFD.out _ c).2 (.inl e))
                      · exact .inr (by have := HN2.out; omega))
                    clear hG
                    refine ⟨⟨q + 1, hqt, by go_num, TN2.out.then_ TT.out HGF.out, ?_, ?_⟩, by simp [intOf]; omega⟩
                    · rw [HKT.out]
                      refine ⟨_, _, K3F.out, ⟨cssf ++ [[.string y1, .string y2, .string y3, .slice sa sn sc]], ?_, ?_, ?_⟩, ⟨cssr ++ [[.int .i64 y4, .int .i64 y5]], ?_, ?_, ?_⟩⟩
                      · have h1 := T10.out.row (T9.out.row R8.out (fun r e e' => ?_)) (fun r e e' => row_not K39.out (by decide) (T9.out.row R8.out (fun r e e' => ?_)) (by rw [← e', e]))
                        · rw [List.length_map, List.length_append, ← HMQ.out, List.flatten_append]
                          simpa using h1
                        all_goals
                          obtain ⟨_, ⟨e1, _⟩ | ⟨g', c', cur, e1, hg', hh, -⟩⟩ := R8.out
                          · rw [e1] at e; cases e
                          · rw [e1] at e
                            have e2 : g' = r := by injection e
                            exact row_not (g := g') (cs := cur) (t := 48) hh (by decide) RR8.out (by rw [e2, e'])
                      · rw [List.map_append]
                        exact (RF2.out.mono fun c x hx => keeps_fld _ _ _ _ _ _ hx (Stay.of_tn TT.out fun c hc _ => HSG.out c hc) (fun _ h _ => h)).app (All2.one (HFR.out Wf (Stay.of_tn TT.out fun c hc _ => HSG.out c hc)))
                      · intro c hc
                        rcases List.mem_append.1 hc with h | h
                        · exact RF3.out c h
                        · rw [List.mem_singleton.1 h]; rfl
                      · have h1 := T10.out.row HR9.out (fun r e e' => row_not K39.out (by decide) HR9.out (by rw [← e', e]))
                        rw [List.length_map, List.length_append, ← HMQ.out, List.flatten_append]
                        simpa using h1
                      · rw [List.map_append]
                        exact (RR2.out.mono fun _ _ h => h).app (All2.one (show RecR Wf [.int .i64 y4, .int .i64 y5] y.2 from by rw [HY45.out]; rfl))
                      · intro c hc
                        rcases List.mem_append.1 hc with h | h
                        · exact RR3.out c h
                        · rw [List.mem_singleton.1 h]; rfl
                    · exact HSL3.out.keep (by omega) (fun c hc hl => TT.out.block c hl (by rw [show c = b from hc]; exact HBG.out)) (fun c x hx => keeps_said _ _ _ _ _ _ hx (Stay.of_tn TT.out fun c hc _ => HSG.out c hc) (fun _ h _ => h)) (fun _ h _ => h)
                  · obtain rfl : q = kn := by omega
                    have HKW : RowKit.Hid (M0 ++ K.take q = mrgTo pre T (p + 1)) := Lib.hid (by rw [HMS2.out, HKN.out, List.take_length])
                    have HST4 : RowKit.Hid (MrgSt S N2 b3 kd lv wr (mrgTo pre T (p + 1))) := Lib.hid (by rw [← HKW.out]; exact HST3.out)
                    go_wp2_with fail
                    exact ⟨⟨p + 1, hlt, by go_num, TN2.out, HST4.out⟩, by simp [intOf]; omega⟩
            · obtain rfl : p = tn := by omega
              have HMA : RowKit.Hid (mrgTo pre T p = mergeP (foldS tabC) polP (tagsP ltT (saidOf V)) V) := Lib.hid (by
                unfold mrgTo mergeP
                rw [← HTL.out, List.take_length, HTE.out, HPRE.out])
              obtain ⟨fv, rv, hk3, hfo, hro⟩ := HST.out
              obtain ⟨fa, fc, rfl⟩ := hfo.expl
              obtain ⟨ra, rc, rfl⟩ := hro.expl
              have K3 := Lib.hid hk3
              have HFO := Lib.hid hfo
              have HRO := Lib.hid hro
              obtain ⟨ml, hml⟩ : ∃ ml, ml = (mrgTo pre T p).length := ⟨_, rfl⟩
              simp only [List.length_map, ← hml] at K3 HFO HRO
              have HW0N : RowKit.Hid (w.heap.size < N ∧ w.heap.size < W0.heap.size ∧ b3 = w.heap.size + 1 ∧ W0.heap.size ≤ N ∧ N ≤ N2) := Lib.hid (by
                have := HB3L.out; have := HB3.out; have := HZ0.out
                omega)
              have hbF : ¬ F p w.heap.size := fun h => by
                have := HW0N.out
                rcases (HFD.out p _).1 h with e | ⟨j, u, _, hu, e⟩
                · omega
                · have h2 := HGLT.out u (HTM.out j u hu)
                  omega
              have K0E : RowKit.Hid (Blk wr w.heap.size #[.int .u8 0, .int .u8 0, .slice none 0 0, .slice none 0 0] 32) := Lib.hid (by
                have := HW0N.out
                have h1 : Blk W3 w.heap.size #[.int .u8 0, .int .u8 0, .slice none 0 0, .slice none 0 0] 32 := T3.out.blk k0.out (by show ¬ w.heap.size = b3; omega)
                exact TN.out.blk ((h1.below HBS.out (by omega)).below BP.out (by have := HB3L.out; omega)) hbF)
              have HBE : RowKit.Hid (Below w.heap.size w wr) := Lib.hid (by
                have := HW0N.out; have := HB3L.out
                have h1 : Below w.heap.size w w1 := B0.out.trans (HB1.out.mono (by omega))
                have h2 := h1.trans (T3.out.below (by omega) (fun c e => by omega))
                have h3 := h2.trans (HBS.out.mono (by omega))
                have h4 := h3.trans (BP.out.mono (by omega))
                refine h4.trans (TN.out.below (by omega) (fun c h => ?_))
                rcases (HFD.out p c).1 h with e | ⟨j, u, _, hu, e⟩
                · omega
                · have h2 := HGLT.out u (HTM.out j u hu)
                  omega)
              clear hk3 hfo hro hml hbF
              go_wp2_with (first
                | refine wpList_load_row 32 (.tmp 3) rfl rfl rfl K3.out Tryz.underlying32 rfl (by kernel_rfl) ?_
                | refine wpList_store_row rfl 32 (.tmp 2) (.tmp 129) rfl w.heap.size #[.int .u8 kd, .int .u8 lv, .slice fa ml fc, .slice ra ml rc] rfl rfl 32 _ K0E.out (by kernel_rfl) rfl (by simp [Value.oneCell']) ?_)
              (try simp only [Exit.inBlock, Exit.then])
              refine bodyPost_ret (results_cell_row rfl _ _ w.heap.size 32 #[.int .u8 kd, .int .u8 lv, .slice fa ml fc, .slice ra ml rc] (0, 0) _ rfl (setRow_heap _ _ _ _ _ _ K0E.out) Tryz.underlying32 rfl (by kernel_rfl)) rfl ?_
              refine ⟨[.int .u8 kd, .int .u8 lv, .slice fa ml fc, .slice ra ml rc], rfl, ?_, belowS HBE.out (Nat.le_refl _)⟩
              have HMV : mrgV V = ⟨kd, lv, mrgTo pre T p⟩ := by unfold mrgV; rw [← HMA.out, HKL.out.1, HKL.out.2]
              rw [HMV]
              refine ⟨_, _, rfl, ?_, ?_⟩
              · refine (HFO.out.slB (by omega)).keep (by omega) (fun c hc _ => setRow_other _ _ _ _ ?_) (fun cs x hx => keeps_fld _ _ _ _ _ _ hx (fun c hc _ => setRow_other _ _ _ _ ?_) (fun c hc _ => ?_)) (fun c hc _ => ?_)
                · have : N2 ≤ c := hc
                  have := HW0N.out; omega
                · have := (HSL.out c hc).1; have := HW0N.out; omega
                · have := (HSL.out c hc).1; have := HW0N.out; omega
                · have : N2 ≤ c := hc
                  have := HW0N.out
                  show w.heap.size ≤ c; omega
              · refine (HRO.out.slB (by omega)).keep (by omega) (fun c hc _ => setRow_other _ _ _ _ ?_) (fun _ _ h => h) (fun c hc _ => ?_)
                · have : N2 ≤ c := hc
                  have := HW0N.out; omega
                · have : N2 ≤ c := hc
                  have := HW0N.out
                  show w.heap.size ≤ c; omega
end Go.Proofs.YtpdldbapagchfaaGreatDoor
