/- The message that a request waits for. -/
import Derived.Test.YtdojgbpaheadnaaQKF
import Derived.Test.YtdojgbpaheadnaaQLX
set_option linter.unusedVariables false
set_option linter.unusedSimpArgs false

namespace Go.Proofs.Ytdojgbpaheadnaa
open Go.RowKit Go.Shelf Go.Maps

def ExpE (w : World) (e : Ending) (w' : World) : Prop := ∃ m : Msg, e = .returned (.agg (encM m)) ∧ m.text.length ≤ 100 ∧ Below w.heap.size w w'
theorem enc_all (m : Msg) : (encM m).all (·.oneCell') = true := by unfold encM strV; simp [Value.oneCell']
theorem enc_inf (m : Msg) : (Try.prog.info? 31).map (·.size) = some (encM m).size := by
  rw [show (encM m).size = 4 from rfl]; kernel_rfl
set_option maxRecDepth 100000 in
set_option maxHeartbeats 8000000 in
theorem expected_any (B rb N : Nat) (s : Asr) (lv : Value) (c : Act6) (w : World) (h : RAM w B rb s lv N) :
    Calls Try.prog 26 #[.pointer (some ⟨rb, 0, none⟩), .agg #[i64 c.k, i64 c.f, i64 c.t, i64 c.a, i64 c.r, i64 c.v]] w (ExpE w) := by
  obtain ⟨la, lcap, hlv, ld1, ld2, lxl, hlc⟩ := row_cellz h.reqs
  have hlcap : lcap ≤ 9223372036854775807 := by unfold maxLen at ld2; omega
  have hLl : s.L.length ≤ 10000 := by have := h.len; omega
  have H := Lib.hid h
  have HLV := Lib.hid hlv
  have HLC := Lib.hid hlc
  have hbl := h.blk.lt
  clear h ld2 lxl hlc hlv
  obtain ⟨w0, hw0⟩ : ∃ w0, w0 = (w.alloc (.cells #[i64 c.k, i64 c.f, i64 c.t, i64 c.a, i64 c.r, i64 c.v] 33)).alloc (.cells #[i64 0, i64 0, i64 0, .string { data := #[] }] 31) := ⟨_, rfl⟩
  have AB : RowKit.Hid (Blk w0 w.heap.size #[i64 c.k, i64 c.f, i64 c.t, i64 c.a, i64 c.r, i64 c.v] 33) := Lib.hid (by rw [hw0]; exact (Blk.new _ _ _).alloc _)
  have MB : RowKit.Hid (Blk w0 (w.heap.size + 1) #[i64 0, i64 0, i64 0, .string { data := #[] }] 31) := Lib.hid (by rw [hw0]; exact Blk.at_new (by rw [size_alloc]) _ _)
  have B0 : RowKit.Hid (Below w.heap.size w w0) := Lib.hid (by rw [hw0]; exact ((Below.refl _ _).alloc (Nat.le_refl _) _).alloc (by rw [size_alloc]; omega) _)
  have M0 := Lib.hid (H.out.up B0.out)
  have c3 : w.cell? ⟨rb, 3, none⟩ = some (.slice la s.L.length lcap) := (H.out.blk.cell 3).trans (congrArg some HLV.out)
  have HW0 := Lib.hid hw0
  clear hw0
  go_enter Try.func26, Try.ntmps26
  by_cases h0 : s.L.length = 0
  · rw [h0] at c3
    clear h0
    go_wp2_with fail
    rw [← HW0.out]
    refine (message_any c.k c.f c.t c.a c.r c.v 2 w0 ⟨by omega, by omega⟩).mono ?_
    rintro e w1 ⟨m, rfl, hmt, hmf, hb⟩
    have V1 := Lib.hid (MB.out.below hb MB.out.lt)
    have FB : RowKit.Hid (Below w.heap.size w (w1.setRow (w.heap.size + 1) (encM m))) := Lib.hid (belowS (B0.out.trans (hb.mono B0.out.size)) (by omega))
    have HT := Lib.hid hmt
    clear hb hmt hmf
    go_wp2_with (refine wpList_store_row rfl 31 (.tmp 4) (.tmp 15) rfl (w.heap.size + 1) (encM m) rfl rfl 31 _ V1.out (enc_inf _) rfl (enc_all _) ?_)
    (try simp only [Exit.inBlock, Exit.then])
    refine bodyPost_ret (results_cell_row rfl _ _ (w.heap.size + 1) 31 (encM m) (0, 0) _ rfl (setRow_heap _ _ _ _ _ _ V1.out) Try.underlying31 rfl (enc_inf _)) rfl ?_
    exact ⟨m, rfl, HT.out, FB.out⟩
  · have hne : (s.L.length == 0) = false := by simpa using h0
    obtain ⟨g0, rfl, -⟩ := HLC.out.resolve_left (fun h => h0 h.1)
    obtain ⟨j, hj, hjl⟩ : ∃ j : Nat, c.r % (s.L.length : Int) = (j : Int) ∧ j < s.L.length := by
      have h1 := Int.emod_nonneg c.r (show (s.L.length : Int) ≠ 0 by omega)
      have h2 := Int.emod_lt_of_pos c.r (show (0 : Int) < s.L.length by omega)
      exact ⟨(c.r % (s.L.length : Int)).toNat, by omega, by omega⟩
    obtain ⟨q, hq⟩ : ∃ q, s.L[j]? = some q := ⟨_, List.getElem?_eq_getElem hjl⟩
    have HQI : RowKit.Hid (I64 q.n) := Lib.hid (H.out.ids.2.2 q (List.mem_of_getElem? hq)).1
    have HJ := Lib.hid hj
    clear h0 hj
    go_wp2_with fail
    rw [← HW0.out]
    obtain ⟨S, hS⟩ : ∃ S : World → Prop, S = fun W => Below w0.heap.size w0 W := ⟨_, rfl⟩
    have LD : RowKit.Hid (∀ W, S W → W.cell? ⟨rb, 3, none⟩ = some (.slice (some ⟨g0, 0, none⟩) s.L.length lcap) ∧ W.cell? ⟨w.heap.size, 4, none⟩ = some (i64 c.r) ∧ W.cell? ⟨g0, j * 4, none⟩ = some (i64 q.n) ∧ W.cell? ⟨g0, j * 4 + 1, none⟩ = some (i64 q.t) ∧ W.cell? ⟨g0, j * 4 + 2, none⟩ = some (i64 q.st) ∧ W.cell? ⟨g0, j * 4 + 3, none⟩ = some (i64 q.l)) := Lib.hid (by
      rw [hS]; exact fun W hW => ⟨((M0.out.up hW).blk.cell 3).trans (congrArg some HLV.out), Below.cellE hW (AB.out.cell 4), (M0.out.up hW).req hq HLV.out⟩)
    have UU : RowKit.Hid (∀ W, Below w0.heap.size w0 W → S W) := Lib.hid (by rw [hS]; exact fun W h => h)
    have hHeld := UU.out _ (Below.refl w0.heap.size w0).drew
    clear hS c3 hq hne
    refine wp_region_sp 15 S (by kernel_rfl) (by kernel_rfl) ?_
    simp only [List.take_succ_cons, List.take_zero]
    apply wpAnyH_apart1 (fun g W => w0.heap.size ≤ g ∧ Blk W g #[i64 0, i64 0, i64 0, i64 0] 107 ∧ Below w0.heap.size w0 W)
    case take =>
      intro R hR
      refine wpAnyH_take (i := 0) (v := ?_) rfl (by kernel_rfl) (by kernel_rfl) (by kernel_rfl) (fun _ _ _ h => only_panic h) (Or.inl ⟨by rfl, ?_⟩) hHeld ?_
      rotate_left
      · (intro w hSw; obtain ⟨l0, l1, -⟩ := LD.out w hSw; go_simp; try (with_reducible rfl))
      try simp only [List.getElem_toArray, List.getElem_cons_succ, List.getElem_cons_zero, Act.put, List.setIfInBounds_toArray, List.set_cons_zero, List.set_cons_succ]
      refine wpAnyH_take (i := 1) (v := ?_) rfl (by kernel_rfl) (by kernel_rfl) (by kernel_rfl) (fun _ _ _ h => only_panic h) (Or.inl ⟨by rfl, ?_⟩) hHeld ?_
      rotate_left
      · (intro w hSw; obtain ⟨l0, l1, -⟩ := LD.out w hSw; go_simp; try (with_reducible rfl))
      try simp only [List.getElem_toArray, List.getElem_cons_succ, List.getElem_cons_zero, Act.put, List.setIfInBounds_toArray, List.set_cons_zero, List.set_cons_succ]
      refine wpAnyH_take (i := 2) (v := ?_) rfl (by kernel_rfl) (by kernel_rfl) (by kernel_rfl) (fun _ _ _ h => only_panic h) (Or.inl ⟨by rfl, ?_⟩) hHeld ?_
      rotate_left
      · (intro w hSw; obtain ⟨l0, l1, -⟩ := LD.out w hSw; go_simp; try (with_reducible rfl))
      try simp only [List.getElem_toArray, List.getElem_cons_succ, List.getElem_cons_zero, Act.put, List.setIfInBounds_toArray, List.set_cons_zero, List.set_cons_succ]
      refine wpAnyH_take (i := 3) (v := ?_) rfl (by kernel_rfl) (by kernel_rfl) (by kernel_rfl) (fun _ _ _ h => only_panic h) (Or.inl ⟨by rfl, ?_⟩) hHeld ?_
      rotate_left
      · (intro w hSw; obtain ⟨l0, l1, -⟩ := LD.out w hSw; go_simp; try (with_reducible rfl))
      try simp only [List.getElem_toArray, List.getElem_cons_succ, List.getElem_cons_zero, Act.put, List.setIfInBounds_toArray, List.set_cons_zero, List.set_cons_succ]
      refine wpAnyH_take (i := 4) (v := ?_) rfl (by kernel_rfl) (by kernel_rfl) (by kernel_rfl) (fun _ _ _ h => only_panic h) (Or.inl ⟨by rfl, ?_⟩) hHeld ?_
      rotate_left
      · (intro w hSw; obtain ⟨l0, l1, -⟩ := LD.out w hSw; go_simp; try (with_reducible rfl))
      try simp only [List.getElem_toArray, List.getElem_cons_succ, List.getElem_cons_zero, Act.put, List.setIfInBounds_toArray, List.set_cons_zero, List.set_cons_succ]
      refine wpAnyH_take (i := 5) (v := ?_) rfl (by kernel_rfl) (by kernel_rfl) (by kernel_rfl) (fun _ _ _ h => only_panic h) (Or.inl ⟨by rfl, ?_⟩) hHeld ?_
      rotate_left
      · (intro w hSw; obtain ⟨l0, l1, -⟩ := LD.out w hSw; go_simp; try (with_reducible rfl))
      try simp only [List.getElem_toArray, List.getElem_cons_succ, List.getElem_cons_zero, Act.put, List.setIfInBounds_toArray, List.set_cons_zero, List.set_cons_succ]
      refine wpAnyH_take (i := 6) (v := ?_) rfl (by kernel_rfl) (by kernel_rfl) (by kernel_rfl) (fun _ _ _ h => only_panic h) (Or.inl ⟨by rfl, ?_⟩) hHeld ?_
      rotate_left
      · (intro w hSw; obtain ⟨l0, l1, -⟩ := LD.out w hSw; go_simp; try (with_reducible rfl))
      try simp only [List.getElem_toArray, List.getElem_cons_succ, List.getElem_cons_zero, Act.put, List.setIfInBounds_toArray, List.set_cons_zero, List.set_cons_succ]
      refine wpAnyH_take (i := 7) (v := ?_) rfl (by kernel_rfl) (by kernel_rfl) (by kernel_rfl) (fun _ _ _ h => only_panic h) (Or.inl ⟨by rfl, ?_⟩) hHeld ?_
      rotate_left
      · (intro w hSw; obtain ⟨l0, l1, -⟩ := LD.out w hSw; go_simp; try (with_reducible rfl))
      try simp only [List.getElem_toArray, List.getElem_cons_succ, List.getElem_cons_zero, Act.put, List.setIfInBounds_toArray, List.set_cons_zero, List.set_cons_succ]
      refine wpAnyH_take (i := 8) (v := ?_) rfl (by kernel_rfl) (by kernel_rfl) (by kernel_rfl) (fun _ _ _ h => only_panic h) (Or.inl ⟨by rfl, ?_⟩) hHeld ?_
      rotate_left
      · (intro w hSw; obtain ⟨l0, l1, -⟩ := LD.out w hSw; go_simp; try (with_reducible rfl))
      try simp only [List.getElem_toArray, List.getElem_cons_succ, List.getElem_cons_zero, Act.put, List.setIfInBounds_toArray, List.set_cons_zero, List.set_cons_succ]
      refine wpAnyH_take (i := 9) (v := ?_) rfl (by kernel_rfl) (by kernel_rfl) (by kernel_rfl) (fun _ _ _ h => only_panic h) (Or.inl ⟨by rfl, ?_⟩) hHeld ?_
      rotate_left
      · (intro w hSw; obtain ⟨l0, l1, -⟩ := LD.out w hSw; go_simp; try (with_reducible rfl))
      try simp only [List.getElem_toArray, List.getElem_cons_succ, List.getElem_cons_zero, Act.put, List.setIfInBounds_toArray, List.set_cons_zero, List.set_cons_succ]
      refine wpAnyH_take (i := 10) (v := ?_) rfl (by kernel_rfl) (by kernel_rfl) (by kernel_rfl) (fun _ _ _ h => only_panic h) (Or.inl ⟨by rfl, ?_⟩) hHeld ?_
      rotate_left
      · (intro w hSw; obtain ⟨l0, l1, -⟩ := LD.out w hSw; go_simp; try (with_reducible rfl))
      try simp only [List.getElem_toArray, List.getElem_cons_succ, List.getElem_cons_zero, Act.put, List.setIfInBounds_toArray, List.set_cons_zero, List.set_cons_succ]
      refine wpAnyH_two (i := 11) (j := 14) rfl rfl (by kernel_rfl) (by rfl) (by rfl) ?_ ?_
      · go_simp
        refine (mod_any c.r s.L.length _ (by omega) (by omega)).mono ?_
        rintro e W1 ⟨rfl, rfl⟩
        rw [HJ.out]
        refine ⟨hHeld, ?_⟩
        refine wpAnyH_take (i := 12) (v := ?_) rfl (by kernel_rfl) (by kernel_rfl) (by kernel_rfl) (fun _ _ _ h => only_panic h) (Or.inl ⟨by rfl, ?_⟩) hHeld ?_
        rotate_left
        · (intro w hSw; clear hSw; go_simp; try (with_reducible rfl))
        try simp only [List.getElem_toArray, List.getElem_cons_succ, List.getElem_cons_zero, Act.put, List.setIfInBounds_toArray, List.set_cons_zero, List.set_cons_succ]
        refine wpAnyH_take (i := 13) (v := ?_) rfl (by kernel_rfl) (by kernel_rfl) (by kernel_rfl) (fun _ _ _ h => only_panic h) (Or.inl ⟨by rfl, ?_⟩) hHeld ?_
        rotate_left
        · (intro w hSw; obtain ⟨-, -, l2, l3, l4, l5⟩ := LD.out w hSw; go_simp; try (with_reducible rfl))
        try simp only [List.getElem_toArray, List.getElem_cons_succ, List.getElem_cons_zero, Act.put, List.setIfInBounds_toArray, List.set_cons_zero, List.set_cons_succ]
        refine wpAnyH_one (i := 14) rfl (by kernel_rfl) (by rfl) ?_
        go_simp
        obtain ⟨g, hg⟩ : ∃ g, g = w0.heap.size := ⟨_, rfl⟩
        obtain ⟨W2, hW2⟩ : ∃ W2, W2 = (w0.alloc (.cells #[i64 0, i64 0, i64 0, i64 0] 107)).drew := ⟨_, rfl⟩
        have B2 : RowKit.Hid (Below w0.heap.size w0 W2) := Lib.hid (by rw [hW2]; exact ((Below.refl _ _).alloc (Nat.le_refl _) _).drew)
        have G2 : RowKit.Hid (Blk W2 g #[i64 0, i64 0, i64 0, i64 0] 107) := Lib.hid (by rw [hW2, hg]; exact (Blk.new _ _ _).drew)
        have hgz : w0.heap.size ≤ g := by omega
        rw [← hW2, ← hg]
        clear hW2 hg
        have hHeld := UU.out _ B2.out
        refine ⟨hHeld, ?_⟩
        exact wpAnyH_done (by kernel_rfl) ⟨rfl, hR _ _ ⟨hgz, G2.out, B2.out⟩⟩ _
      · go_simp
        obtain ⟨g, hg⟩ : ∃ g, g = w0.heap.size := ⟨_, rfl⟩
        obtain ⟨W2, hW2⟩ : ∃ W2, W2 = (w0.alloc (.cells #[i64 0, i64 0, i64 0, i64 0] 107)).drew := ⟨_, rfl⟩
        have B2 : RowKit.Hid (Below w0.heap.size w0 W2) := Lib.hid (by rw [hW2]; exact ((Below.refl _ _).alloc (Nat.le_refl _) _).drew)
        have G2 : RowKit.Hid (Blk W2 g #[i64 0, i64 0, i64 0, i64 0] 107) := Lib.hid (by rw [hW2, hg]; exact (Blk.new _ _ _).drew)
        have hgz : w0.heap.size ≤ g := by omega
        rw [← hW2, ← hg]
        clear hW2 hg
        have hHeld := UU.out _ B2.out
        refine ⟨hHeld, ?_⟩
        refine wpAnyH_one (i := 11) rfl (by kernel_rfl) (by rfl) ?_
        go_simp
        refine (mod_any c.r s.L.length _ (by omega) (by omega)).mono ?_
        rintro e W1 ⟨rfl, rfl⟩
        rw [HJ.out]
        refine ⟨hHeld, ?_⟩
        refine wpAnyH_take (i := 12) (v := ?_) rfl (by kernel_rfl) (by kernel_rfl) (by kernel_rfl) (fun _ _ _ h => only_panic h) (Or.inl ⟨by rfl, ?_⟩) hHeld ?_
        rotate_left
        · (intro w hSw; clear hSw; go_simp; try (with_reducible rfl))
        try simp only [List.getElem_toArray, List.getElem_cons_succ, List.getElem_cons_zero, Act.put, List.setIfInBounds_toArray, List.set_cons_zero, List.set_cons_succ]
        refine wpAnyH_take (i := 13) (v := ?_) rfl (by kernel_rfl) (by kernel_rfl) (by kernel_rfl) (fun _ _ _ h => only_panic h) (Or.inl ⟨by rfl, ?_⟩) hHeld ?_
        rotate_left
        · (intro w hSw; obtain ⟨-, -, l2, l3, l4, l5⟩ := LD.out w hSw; go_simp; try (with_reducible rfl))
        try simp only [List.getElem_toArray, List.getElem_cons_succ, List.getElem_cons_zero, Act.put, List.setIfInBounds_toArray, List.set_cons_zero, List.set_cons_succ]
        exact wpAnyH_done (by kernel_rfl) ⟨rfl, hR _ _ ⟨hgz, G2.out, B2.out⟩⟩ _
    case rest =>
      rintro g W ⟨hgz, hG, hb⟩
      have G4 := Lib.hid hG
      obtain ⟨w5, hw5⟩ : ∃ w5, w5 = W.setRow g #[i64 q.n, i64 q.t, i64 q.st, i64 q.l] := ⟨_, rfl⟩
      have hT5 : Tn (fun k => k = g) W w5 := by
        rw [hw5]
        exact ⟨rfl, rfl, rfl, by show _ ≤ (W.heap.modify g _).size; rw [Array.size_modify]; exact Nat.le_refl _, fun k _ hn => setRow_other _ _ _ _ (by omega)⟩
      have hzw := B0.out.size
      have G5 : Blk w5 g #[i64 q.n, i64 q.t, i64 q.st, i64 q.l] 107 := by rw [hw5]; exact setRow_heap _ _ _ _ _ _ hG
      have hml := MB.out.lt
      have hal := AB.out.lt
      have MB5 : RowKit.Hid (Blk w5 (w.heap.size + 1) #[i64 0, i64 0, i64 0, .string { data := #[] }] 31) := Lib.hid (hT5.blk (MB.out.below hb hml) (by show ¬ w.heap.size + 1 = g; omega))
      have AB5 : Blk w5 w.heap.size #[i64 c.k, i64 c.f, i64 c.t, i64 c.a, i64 c.r, i64 c.v] 33 := hT5.blk (AB.out.below hb hal) (by show ¬ w.heap.size = g; omega)
      have B5 : RowKit.Hid (Below w.heap.size w w5) := Lib.hid ((B0.out.trans (hb.mono hzw)).trans (hT5.below (Nat.le_trans hzw hb.size) fun k hk => by rw [show k = g from hk]; omega))
      have HW5 := Lib.hid hw5
      have d0 : w5.cell? ⟨g, 0, none⟩ = some (i64 q.n) := G5.cell 0
      have d2 : w5.cell? ⟨g, 2, none⟩ = some (i64 q.st) := G5.cell 2
      have d3 : w5.cell? ⟨g, 3, none⟩ = some (i64 q.l) := G5.cell 3
      obtain ⟨S5, hS5⟩ : ∃ S : World → Prop, S = fun W => Below w5.heap.size w5 W := ⟨_, rfl⟩
      have LD5 : RowKit.Hid (∀ W, S5 W → W.cell? ⟨g, 0, none⟩ = some (i64 q.n) ∧ W.cell? ⟨w.heap.size, 3, none⟩ = some (i64 c.a)) := Lib.hid (by
        rw [hS5]; exact fun W h => ⟨Below.cellE h (G5.cell 0), Below.cellE h (AB5.cell 3)⟩)
      have UU5 : RowKit.Hid (∀ W, Below w5.heap.size w5 W → S5 W) := Lib.hid (by rw [hS5]; exact fun W h => h)
      have hHeld5 := UU5.out _ (Below.refl w5.heap.size w5).drew
      clear hS5 hw5 hT5 G5 AB5 hG hb hml hal
      simp only [endN, List.drop_succ_cons, List.drop_zero, Act.put, List.setIfInBounds_toArray, List.set_cons_zero, List.set_cons_succ]
      by_cases h1 : q.st = 1
      · rw [h1] at d2
        clear h1
        go_wp2_with (refine wpList_store_row rfl 107 (.tmp 5) (.tmp 29) rfl g #[i64 q.n, i64 q.t, i64 q.st, i64 q.l] rfl rfl 107 _ G4.out (by kernel_rfl) rfl (by simp [Value.oneCell']) ?_; rw [← HW5.out])
        obtain ⟨X, hX⟩ : ∃ X, X = txt 5 2 q.n (3 + c.a % 2) := ⟨_, rfl⟩
        have HX := Lib.hid hX
        have HXL : RowKit.Hid (X.length ≤ 50) := Lib.hid (by
          rw [hX]; exact txt_short ⟨⟨by dsimp only; omega, by dsimp only; omega⟩, ⟨by dsimp only; omega, by dsimp only; omega⟩, HQI.out, ⟨by dsimp only; omega, by dsimp only; omega⟩⟩)
        have hwr : IntKind.i64.wrap (3 + c.a % 2) = 3 + c.a % 2 := by rw [IntKind.wrap_i64]; omega
        clear hX d0 d2 d3
        refine wp_region_sp 10 S5 (by kernel_rfl) (by kernel_rfl) ?_
        simp only [List.take_succ_cons, List.take_zero]
        apply wpAnyH_apart (fun W => Below w5.heap.size w5 W)
        case take =>
          intro R hR
          have hHeld := hHeld5
          refine wpAnyH_take (i := 0) (v := ?_) rfl (by kernel_rfl) (by kernel_rfl) (by kernel_rfl) (fun _ _ _ h => only_panic h) (Or.inl ⟨by rfl, ?_⟩) hHeld ?_
          rotate_left
          · (intro w hSw; obtain ⟨l0, l1⟩ := LD5.out w hSw; go_simp; try (with_reducible rfl))
          try simp only [List.getElem_toArray, List.getElem_cons_succ, List.getElem_cons_zero, Act.put, List.setIfInBounds_toArray, List.set_cons_zero, List.set_cons_succ]
          refine wpAnyH_take (i := 1) (v := ?_) rfl (by kernel_rfl) (by kernel_rfl) (by kernel_rfl) (fun _ _ _ h => only_panic h) (Or.inl ⟨by rfl, ?_⟩) hHeld ?_
          rotate_left
          · (intro w hSw; obtain ⟨l0, l1⟩ := LD5.out w hSw; go_simp; try (with_reducible rfl))
          try simp only [List.getElem_toArray, List.getElem_cons_succ, List.getElem_cons_zero, Act.put, List.setIfInBounds_toArray, List.set_cons_zero, List.set_cons_succ]
          refine wpAnyH_take (i := 2) (v := ?_) rfl (by kernel_rfl) (by kernel_rfl) (by kernel_rfl) (fun _ _ _ h => only_panic h) (Or.inl ⟨by rfl, ?_⟩) hHeld ?_
          rotate_left
          · (intro w hSw; obtain ⟨l0, l1⟩ := LD5.out w hSw; go_simp; try (with_reducible rfl))
          try simp only [List.getElem_toArray, List.getElem_cons_succ, List.getElem_cons_zero, Act.put, List.setIfInBounds_toArray, List.set_cons_zero, List.set_cons_succ]
          refine wpAnyH_take (i := 3) (v := ?_) rfl (by kernel_rfl) (by kernel_rfl) (by kernel_rfl) (fun _ _ _ h => only_panic h) (Or.inl ⟨by rfl, ?_⟩) hHeld ?_
          rotate_left
          · (intro w hSw; obtain ⟨l0, l1⟩ := LD5.out w hSw; go_simp; try (with_reducible rfl))
          try simp only [List.getElem_toArray, List.getElem_cons_succ, List.getElem_cons_zero, Act.put, List.setIfInBounds_toArray, List.set_cons_zero, List.set_cons_succ]
          refine wpAnyH_take (i := 4) (v := ?_) rfl (by kernel_rfl) (by kernel_rfl) (by kernel_rfl) (fun _ _ _ h => only_panic h) (Or.inl ⟨by rfl, ?_⟩) hHeld ?_
          rotate_left
          · (intro w hSw; obtain ⟨l0, l1⟩ := LD5.out w hSw; go_simp; try (with_reducible rfl))
          try simp only [List.getElem_toArray, List.getElem_cons_succ, List.getElem_cons_zero, Act.put, List.setIfInBounds_toArray, List.set_cons_zero, List.set_cons_succ]
          refine wpAnyH_take (i := 5) (v := ?_) rfl (by kernel_rfl) (by kernel_rfl) (by kernel_rfl) (fun _ _ _ h => only_panic h) (Or.inl ⟨by rfl, ?_⟩) hHeld ?_
          rotate_left
          · (intro w hSw; obtain ⟨l0, l1⟩ := LD5.out w hSw; go_simp; try (with_reducible rfl))
          try simp only [List.getElem_toArray, List.getElem_cons_succ, List.getElem_cons_zero, Act.put, List.setIfInBounds_toArray, List.set_cons_zero, List.set_cons_succ]
          refine wpAnyH_one (i := 6) rfl (by kernel_rfl) (by rfl) ?_
          go_simp
          refine (mod_any c.a 2 _ (by omega) (by omega)).mono ?_
          rintro e W1 ⟨rfl, rfl⟩
          refine ⟨hHeld, ?_⟩
          refine wpAnyH_take (i := 7) (v := ?_) rfl (by kernel_rfl) (by kernel_rfl) (by kernel_rfl) (fun _ _ _ h => only_panic h) (Or.inl ⟨by rfl, ?_⟩) hHeld ?_
          rotate_left
          · (intro w hSw; clear hSw; go_simp; try (with_reducible rfl))
          try simp only [List.getElem_toArray, List.getElem_cons_succ, List.getElem_cons_zero, Act.put, List.setIfInBounds_toArray, List.set_cons_zero, List.set_cons_succ]
          refine wpAnyH_one (i := 8) rfl (by kernel_rfl) (by rfl) ?_
          go_simp
          refine (text_any 5 2 q.n (3 + c.a % 2) _ ⟨by omega, by omega⟩ ⟨by omega, by omega⟩ HQI.out ⟨by omega, by omega⟩).mono ?_
          rw [← HX.out]
          rintro e W3 ⟨rfl, hb⟩
          have B3 := Lib.hid ((Below.refl w5.heap.size w5).drew.trans hb)
          have hHeld := UU5.out _ B3.out
          clear hb
          refine ⟨hHeld, ?_⟩
          refine wpAnyH_take (i := 9) (v := ?_) rfl (by kernel_rfl) (by kernel_rfl) (by kernel_rfl) (fun _ _ _ h => only_panic h) (Or.inl ⟨by rfl, ?_⟩) hHeld ?_
          rotate_left
          · (intro w hSw; clear hSw; go_simp; try (with_reducible rfl))
          try simp only [List.getElem_toArray, List.getElem_cons_succ, List.getElem_cons_zero, Act.put, List.setIfInBounds_toArray, List.set_cons_zero, List.set_cons_succ]
          exact wpAnyH_done (by kernel_rfl) ⟨rfl, hR _ B3.out⟩ _
        case rest =>
          rintro W hW
          have V9 := Lib.hid (MB5.out.below hW MB5.out.lt)
          have FB : RowKit.Hid (Below w.heap.size w (W.setRow (w.heap.size + 1) (encM ⟨0, 2, 0, X⟩))) := Lib.hid (belowS (B5.out.trans (hW.mono B5.out.size)) (by omega))
          clear hW LD5 UU5 hHeld5 hwr
          simp only [endN, List.drop_succ_cons, List.drop_zero, Act.put, List.setIfInBounds_toArray, List.set_cons_zero, List.set_cons_succ]
          go_wp2_with (refine wpList_store_row rfl 31 (.tmp 4) (.tmp 51) rfl (w.heap.size + 1) (encM ⟨0, 2, 0, X⟩) rfl rfl 31 _ V9.out (enc_inf _) rfl (enc_all _) ?_)
          (try simp only [Exit.inBlock, Exit.then])
          refine bodyPost_ret (results_cell_row rfl _ _ (w.heap.size + 1) 31 (encM ⟨0, 2, 0, X⟩) (0, 0) _ rfl (setRow_heap _ _ _ _ _ _ V9.out) Try.underlying31 rfl (enc_inf _)) rfl ?_
          exact ⟨⟨0, 2, 0, X⟩, rfl, by have := HXL.out; dsimp only; omega, FB.out⟩
      · by_cases h2 : q.st = 2
        · rw [h2] at d2
          clear h1 h2
          go_wp2_with (refine wpList_store_row rfl 107 (.tmp 5) (.tmp 29) rfl g #[i64 q.n, i64 q.t, i64 q.st, i64 q.l] rfl rfl 107 _ G4.out (by kernel_rfl) rfl (by simp [Value.oneCell']) ?_; rw [← HW5.out])
          obtain ⟨X, hX⟩ : ∃ X, X = txt 8 2 q.n (3 + c.a % 2) := ⟨_, rfl⟩
          have HX := Lib.hid hX
          have HXL : RowKit.Hid (X.length ≤ 50) := Lib.hid (by
            rw [hX]; exact txt_short ⟨⟨by dsimp only; omega, by dsimp only; omega⟩, ⟨by dsimp only; omega, by dsimp only; omega⟩, HQI.out, ⟨by dsimp only; omega, by dsimp only; omega⟩⟩)
          have hwr : IntKind.i64.wrap (3 + c.a % 2) = 3 + c.a % 2 := by rw [IntKind.wrap_i64]; omega
          clear hX d0 d2 d3
          refine wp_region_sp 10 S5 (by kernel_rfl) (by kernel_rfl) ?_
          simp only [List.take_succ_cons, List.take_zero]
          apply wpAnyH_apart (fun W => Below w5.heap.size w5 W)
          case take =>
            intro R hR
            have hHeld := hHeld5
            refine wpAnyH_take (i := 0) (v := ?_) rfl (by kernel_rfl) (by kernel_rfl) (by kernel_rfl) (fun _ _ _ h => only_panic h) (Or.inl ⟨by rfl, ?_⟩) hHeld ?_
            rotate_left
            · (intro w hSw; obtain ⟨l0, l1⟩ := LD5.out w hSw; go_simp; try (with_reducible rfl))
            try simp only [List.getElem_toArray, List.getElem_cons_succ, List.getElem_cons_zero, Act.put, List.setIfInBounds_toArray, List.set_cons_zero, List.set_cons_succ]
            refine wpAnyH_take (i := 1) (v := ?_) rfl (by kernel_rfl) (by kernel_rfl) (by kernel_rfl) (fun _ _ _ h => only_panic h) (Or.inl ⟨by rfl, ?_⟩) hHeld ?_
            rotate_left
            · (intro w hSw; obtain ⟨l0, l1⟩ := LD5.out w hSw; go_simp; try (with_reducible rfl))
            try simp only [List.getElem_toArray, List.getElem_cons_succ, List.getElem_cons_zero, Act.put, List.setIfInBounds_toArray, List.set_cons_zero, List.set_cons_succ]
            refine wpAnyH_take (i := 2) (v := ?_) rfl (by kernel_rfl) (by kernel_rfl) (by kernel_rfl) (fun _ _ _ h => only_panic h) (Or.inl ⟨by rfl, ?_⟩) hHeld ?_
            rotate_left
            · (intro w hSw; obtain ⟨l0, l1⟩ := LD5.out w hSw; go_simp; try (with_reducible rfl))
            try simp only [List.getElem_toArray, List.getElem_cons_succ, List.getElem_cons_zero, Act.put, List.setIfInBounds_toArray, List.set_cons_zero, List.set_cons_succ]
            refine wpAnyH_take (i := 3) (v := ?_) rfl (by kernel_rfl) (by kernel_rfl) (by kernel_rfl) (fun _ _ _ h => only_panic h) (Or.inl ⟨by rfl, ?_⟩) hHeld ?_
            rotate_left
            · (intro w hSw; obtain ⟨l0, l1⟩ := LD5.out w hSw; go_simp; try (with_reducible rfl))
            try simp only [List.getElem_toArray, List.getElem_cons_succ, List.getElem_cons_zero, Act.put, List.setIfInBounds_toArray, List.set_cons_zero, List.set_cons_succ]
            refine wpAnyH_take (i := 4) (v := ?_) rfl (by kernel_rfl) (by kernel_rfl) (by kernel_rfl) (fun _ _ _ h => only_panic h) (Or.inl ⟨by rfl, ?_⟩) hHeld ?_
            rotate_left
            · (intro w hSw; obtain ⟨l0, l1⟩ := LD5.out w hSw; go_simp; try (with_reducible rfl))
            try simp only [List.getElem_toArray, List.getElem_cons_succ, List.getElem_cons_zero, Act.put, List.setIfInBounds_toArray, List.set_cons_zero, List.set_cons_succ]
            refine wpAnyH_take (i := 5) (v := ?_) rfl (by kernel_rfl) (by kernel_rfl) (by kernel_rfl) (fun _ _ _ h => only_panic h) (Or.inl ⟨by rfl, ?_⟩) hHeld ?_
            rotate_left
            · (intro w hSw; obtain ⟨l0, l1⟩ := LD5.out w hSw; go_simp; try (with_reducible rfl))
            try simp only [List.getElem_toArray, List.getElem_cons_succ, List.getElem_cons_zero, Act.put, List.setIfInBounds_toArray, List.set_cons_zero, List.set_cons_succ]
            refine wpAnyH_one (i := 6) rfl (by kernel_rfl) (by rfl) ?_
            go_simp
            refine (mod_any c.a 2 _ (by omega) (by omega)).mono ?_
            rintro e W1 ⟨rfl, rfl⟩
            refine ⟨hHeld, ?_⟩
            refine wpAnyH_take (i := 7) (v := ?_) rfl (by kernel_rfl) (by kernel_rfl) (by kernel_rfl) (fun _ _ _ h => only_panic h) (Or.inl ⟨by rfl, ?_⟩) hHeld ?_
            rotate_left
            · (intro w hSw; clear hSw; go_simp; try (with_reducible rfl))
            try simp only [List.getElem_toArray, List.getElem_cons_succ, List.getElem_cons_zero, Act.put, List.setIfInBounds_toArray, List.set_cons_zero, List.set_cons_succ]
            refine wpAnyH_one (i := 8) rfl (by kernel_rfl) (by rfl) ?_
            go_simp
            refine (text_any 8 2 q.n (3 + c.a % 2) _ ⟨by omega, by omega⟩ ⟨by omega, by omega⟩ HQI.out ⟨by omega, by omega⟩).mono ?_
            rw [← HX.out]
            rintro e W3 ⟨rfl, hb⟩
            have B3 := Lib.hid ((Below.refl w5.heap.size w5).drew.trans hb)
            have hHeld := UU5.out _ B3.out
            clear hb
            refine ⟨hHeld, ?_⟩
            refine wpAnyH_take (i := 9) (v := ?_) rfl (by kernel_rfl) (by kernel_rfl) (by kernel_rfl) (fun _ _ _ h => only_panic h) (Or.inl ⟨by rfl, ?_⟩) hHeld ?_
            rotate_left
            · (intro w hSw; clear hSw; go_simp; try (with_reducible rfl))
            try simp only [List.getElem_toArray, List.getElem_cons_succ, List.getElem_cons_zero, Act.put, List.setIfInBounds_toArray, List.set_cons_zero, List.set_cons_succ]
            exact wpAnyH_done (by kernel_rfl) ⟨rfl, hR _ B3.out⟩ _
          case rest =>
            rintro W hW
            have V9 := Lib.hid (MB5.out.below hW MB5.out.lt)
            have FB : RowKit.Hid (Below w.heap.size w (W.setRow (w.heap.size + 1) (encM ⟨q.l, 2, 0, X⟩))) := Lib.hid (belowS (B5.out.trans (hW.mono B5.out.size)) (by omega))
            clear hW LD5 UU5 hHeld5 hwr
            simp only [endN, List.drop_succ_cons, List.drop_zero, Act.put, List.setIfInBounds_toArray, List.set_cons_zero, List.set_cons_succ]
            go_wp2_with (refine wpList_store_row rfl 31 (.tmp 4) (.tmp 51) rfl (w.heap.size + 1) (encM ⟨q.l, 2, 0, X⟩) rfl rfl 31 _ V9.out (enc_inf _) rfl (enc_all _) ?_)
            (try simp only [Exit.inBlock, Exit.then])
            refine bodyPost_ret (results_cell_row rfl _ _ (w.heap.size + 1) 31 (encM ⟨q.l, 2, 0, X⟩) (0, 0) _ rfl (setRow_heap _ _ _ _ _ _ V9.out) Try.underlying31 rfl (enc_inf _)) rfl ?_
            exact ⟨⟨q.l, 2, 0, X⟩, rfl, by have := HXL.out; dsimp only; omega, FB.out⟩
        · by_cases h3 : q.st = 3
          · rw [h3] at d2
            clear h1 h2 h3
            go_wp2_with (refine wpList_store_row rfl 107 (.tmp 5) (.tmp 29) rfl g #[i64 q.n, i64 q.t, i64 q.st, i64 q.l] rfl rfl 107 _ G4.out (by kernel_rfl) rfl (by simp [Value.oneCell']) ?_; rw [← HW5.out])
            obtain ⟨X, hX⟩ : ∃ X, X = txt 10 2 q.n (3 + c.a % 2) := ⟨_, rfl⟩
            have HX := Lib.hid hX
            have HXL : RowKit.Hid (X.length ≤ 50) := Lib.hid (by
              rw [hX]; exact txt_short ⟨⟨by dsimp only; omega, by dsimp only; omega⟩, ⟨by dsimp only; omega, by dsimp only; omega⟩, HQI.out, ⟨by dsimp only; omega, by dsimp only; omega⟩⟩)
            have hwr : IntKind.i64.wrap (3 + c.a % 2) = 3 + c.a % 2 := by rw [IntKind.wrap_i64]; omega
            clear hX d0 d2 d3
            refine wp_region_sp 10 S5 (by kernel_rfl) (by kernel_rfl) ?_
            simp only [List.take_succ_cons, List.take_zero]
            apply wpAnyH_apart (fun W => Below w5.heap.size w5 W)
            case take =>
              intro R hR
              have hHeld := hHeld5
              refine wpAnyH_take (i := 0) (v := ?_) rfl (by kernel_rfl) (by kernel_rfl) (by kernel_rfl) (fun _ _ _ h => only_panic h) (Or.inl ⟨by rfl, ?_⟩) hHeld ?_
              rotate_left
              · (intro w hSw; obtain ⟨l0, l1⟩ := LD5.out w hSw; go_simp; try (with_reducible rfl))
              try simp only [List.getElem_toArray, List.getElem_cons_succ, List.getElem_cons_zero, Act.put, List.setIfInBounds_toArray, List.set_cons_zero, List.set_cons_succ]
              refine wpAnyH_take (i := 1) (v := ?_) rfl (by kernel_rfl) (by kernel_rfl) (by kernel_rfl) (fun _ _ _ h => only_panic h) (Or.inl ⟨by rfl, ?_⟩) hHeld ?_
              rotate_left
              · (intro w hSw; obtain ⟨l0, l1⟩ := LD5.out w hSw; go_simp; try (with_reducible rfl))
              try simp only [List.getElem_toArray, List.getElem_cons_succ, List.getElem_cons_zero, Act.put, List.setIfInBounds_toArray, List.set_cons_zero, List.set_cons_succ]
              refine wpAnyH_take (i := 2) (v := ?_) rfl (by kernel_rfl) (by kernel_rfl) (by kernel_rfl) (fun _ _ _ h => only_panic h) (Or.inl ⟨by rfl, ?_⟩) hHeld ?_
              rotate_left
              · (intro w hSw; obtain ⟨l0, l1⟩ := LD5.out w hSw; go_simp; try (with_reducible rfl))
              try simp only [List.getElem_toArray, List.getElem_cons_succ, List.getElem_cons_zero, Act.put, List.setIfInBounds_toArray, List.set_cons_zero, List.set_cons_succ]
              refine wpAnyH_take (i := 3) (v := ?_) rfl (by kernel_rfl) (by kernel_rfl) (by kernel_rfl) (fun _ _ _ h => only_panic h) (Or.inl ⟨by rfl, ?_⟩) hHeld ?_
              rotate_left
              · (intro w hSw; obtain ⟨l0, l1⟩ := LD5.out w hSw; go_simp; try (with_reducible rfl))
              try simp only [List.getElem_toArray, List.getElem_cons_succ, List.getElem_cons_zero, Act.put, List.setIfInBounds_toArray, List.set_cons_zero, List.set_cons_succ]
              refine wpAnyH_take (i := 4) (v := ?_) rfl (by kernel_rfl) (by kernel_rfl) (by kernel_rfl) (fun _ _ _ h => only_panic h) (Or.inl ⟨by rfl, ?_⟩) hHeld ?_
              rotate_left
              · (intro w hSw; obtain ⟨l0, l1⟩ := LD5.out w hSw; go_simp; try (with_reducible rfl))
              try simp only [List.getElem_toArray, List.getElem_cons_succ, List.getElem_cons_zero, Act.put, List.setIfInBounds_toArray, List.set_cons_zero, List.set_cons_succ]
              refine wpAnyH_take (i := 5) (v := ?_) rfl (by kernel_rfl) (by kernel_rfl) (by kernel_rfl) (fun _ _ _ h => only_panic h) (Or.inl ⟨by rfl, ?_⟩) hHeld ?_
              rotate_left
              · (intro w hSw; obtain ⟨l0, l1⟩ := LD5.out w hSw; go_simp; try (with_reducible rfl))
              try simp only [List.getElem_toArray, List.getElem_cons_succ, List.getElem_cons_zero, Act.put, List.setIfInBounds_toArray, List.set_cons_zero, List.set_cons_succ]
              refine wpAnyH_one (i := 6) rfl (by kernel_rfl) (by rfl) ?_
              go_simp
              refine (mod_any c.a 2 _ (by omega) (by omega)).mono ?_
              rintro e W1 ⟨rfl, rfl⟩
              refine ⟨hHeld, ?_⟩
              refine wpAnyH_take (i := 7) (v := ?_) rfl (by kernel_rfl) (by kernel_rfl) (by kernel_rfl) (fun _ _ _ h => only_panic h) (Or.inl ⟨by rfl, ?_⟩) hHeld ?_
              rotate_left
              · (intro w hSw; clear hSw; go_simp; try (with_reducible rfl))
              try simp only [List.getElem_toArray, List.getElem_cons_succ, List.getElem_cons_zero, Act.put, List.setIfInBounds_toArray, List.set_cons_zero, List.set_cons_succ]
              refine wpAnyH_one (i := 8) rfl (by kernel_rfl) (by rfl) ?_
              go_simp
              refine (text_any 10 2 q.n (3 + c.a % 2) _ ⟨by omega, by omega⟩ ⟨by omega, by omega⟩ HQI.out ⟨by omega, by omega⟩).mono ?_
              rw [← HX.out]
              rintro e W3 ⟨rfl, hb⟩
              have B3 := Lib.hid ((Below.refl w5.heap.size w5).drew.trans hb)
              have hHeld := UU5.out _ B3.out
              clear hb
              refine ⟨hHeld, ?_⟩
              refine wpAnyH_take (i := 9) (v := ?_) rfl (by kernel_rfl) (by kernel_rfl) (by kernel_rfl) (fun _ _ _ h => only_panic h) (Or.inl ⟨by rfl, ?_⟩) hHeld ?_
              rotate_left
              · (intro w hSw; clear hSw; go_simp; try (with_reducible rfl))
              try simp only [List.getElem_toArray, List.getElem_cons_succ, List.getElem_cons_zero, Act.put, List.setIfInBounds_toArray, List.set_cons_zero, List.set_cons_succ]
              exact wpAnyH_done (by kernel_rfl) ⟨rfl, hR _ B3.out⟩ _
            case rest =>
              rintro W hW
              have V9 := Lib.hid (MB5.out.below hW MB5.out.lt)
              have FB : RowKit.Hid (Below w.heap.size w (W.setRow (w.heap.size + 1) (encM ⟨q.l, 2, 0, X⟩))) := Lib.hid (belowS (B5.out.trans (hW.mono B5.out.size)) (by omega))
              clear hW LD5 UU5 hHeld5 hwr
              simp only [endN, List.drop_succ_cons, List.drop_zero, Act.put, List.setIfInBounds_toArray, List.set_cons_zero, List.set_cons_succ]
              go_wp2_with (refine wpList_store_row rfl 31 (.tmp 4) (.tmp 51) rfl (w.heap.size + 1) (encM ⟨q.l, 2, 0, X⟩) rfl rfl 31 _ V9.out (enc_inf _) rfl (enc_all _) ?_)
              (try simp only [Exit.inBlock, Exit.then])
              refine bodyPost_ret (results_cell_row rfl _ _ (w.heap.size + 1) 31 (encM ⟨q.l, 2, 0, X⟩) (0, 0) _ rfl (setRow_heap _ _ _ _ _ _ V9.out) Try.underlying31 rfl (enc_inf _)) rfl ?_
              exact ⟨⟨q.l, 2, 0, X⟩, rfl, by have := HXL.out; dsimp only; omega, FB.out⟩
          · by_cases h5 : q.st = 5
            · rw [h5] at d2
              clear h1 h2 h3 h5
              go_wp2_with (refine wpList_store_row rfl 107 (.tmp 5) (.tmp 29) rfl g #[i64 q.n, i64 q.t, i64 q.st, i64 q.l] rfl rfl 107 _ G4.out (by kernel_rfl) rfl (by simp [Value.oneCell']) ?_; rw [← HW5.out])
              obtain ⟨X, hX⟩ : ∃ X, X = txt 12 2 q.n (3 + c.a % 2) := ⟨_, rfl⟩
              have HX := Lib.hid hX
              have HXL : RowKit.Hid (X.length ≤ 50) := Lib.hid (by
                rw [hX]; exact txt_short ⟨⟨by dsimp only; omega, by dsimp only; omega⟩, ⟨by dsimp only; omega, by dsimp only; omega⟩, HQI.out, ⟨by dsimp only; omega, by dsimp only; omega⟩⟩)
              have hwr : IntKind.i64.wrap (3 + c.a % 2) = 3 + c.a % 2 := by rw [IntKind.wrap_i64]; omega
              clear hX d0 d2 d3
              refine wp_region_sp 10 S5 (by kernel_rfl) (by kernel_rfl) ?_
              simp only [List.take_succ_cons, List.take_zero]
              apply wpAnyH_apart (fun W => Below w5.heap.size w5 W)
              case take =>
                intro R hR
                have hHeld := hHeld5
                refine wpAnyH_take (i := 0) (v := ?_) rfl (by kernel_rfl) (by kernel_rfl) (by kernel_rfl) (fun _ _ _ h => only_panic h) (Or.inl ⟨by rfl, ?_⟩) hHeld ?_
                rotate_left
                · (intro w hSw; obtain ⟨l0, l1⟩ := LD5.out w hSw; go_simp; try (with_reducible rfl))
                try simp only [List.getElem_toArray, List.getElem_cons_succ, List.getElem_cons_zero, Act.put, List.setIfInBounds_toArray, List.set_cons_zero, List.set_cons_succ]
                refine wpAnyH_take (i := 1) (v := ?_) rfl (by kernel_rfl) (by kernel_rfl) (by kernel_rfl) (fun _ _ _ h => only_panic h) (Or.inl ⟨by rfl, ?_⟩) hHeld ?_
                rotate_left
                · (intro w hSw; obtain ⟨l0, l1⟩ := LD5.out w hSw; go_simp; try (with_reducible rfl))
                try simp only [List.getElem_toArray, List.getElem_cons_succ, List.getElem_cons_zero, Act.put, List.setIfInBounds_toArray, List.set_cons_zero, List.set_cons_succ]
                refine wpAnyH_take (i := 2) (v := ?_) rfl (by kernel_rfl) (by kernel_rfl) (by kernel_rfl) (fun _ _ _ h => only_panic h) (Or.inl ⟨by rfl, ?_⟩) hHeld ?_
                rotate_left
                · (intro w hSw; obtain ⟨l0, l1⟩ := LD5.out w hSw; go_simp; try (with_reducible rfl))
                try simp only [List.getElem_toArray, List.getElem_cons_succ, List.getElem_cons_zero, Act.put, List.setIfInBounds_toArray, List.set_cons_zero, List.set_cons_succ]
                refine wpAnyH_take (i := 3) (v := ?_) rfl (by kernel_rfl) (by kernel_rfl) (by kernel_rfl) (fun _ _ _ h => only_panic h) (Or.inl ⟨by rfl, ?_⟩) hHeld ?_
                rotate_left
                · (intro w hSw; obtain ⟨l0, l1⟩ := LD5.out w hSw; go_simp; try (with_reducible rfl))
                try simp only [List.getElem_toArray, List.getElem_cons_succ, List.getElem_cons_zero, Act.put, List.setIfInBounds_toArray, List.set_cons_zero, List.set_cons_succ]
                refine wpAnyH_take (i := 4) (v := ?_) rfl (by kernel_rfl) (by kernel_rfl) (by kernel_rfl) (fun _ _ _ h => only_panic h) (Or.inl ⟨by rfl, ?_⟩) hHeld ?_
                rotate_left
                · (intro w hSw; obtain ⟨l0, l1⟩ := LD5.out w hSw; go_simp; try (with_reducible rfl))
                try simp only [List.getElem_toArray, List.getElem_cons_succ, List.getElem_cons_zero, Act.put, List.setIfInBounds_toArray, List.set_cons_zero, List.set_cons_succ]
                refine wpAnyH_take (i := 5) (v := ?_) rfl (by kernel_rfl) (by kernel_rfl) (by kernel_rfl) (fun _ _ _ h => only_panic h) (Or.inl ⟨by rfl, ?_⟩) hHeld ?_
                rotate_left
                · (intro w hSw; obtain ⟨l0, l1⟩ := LD5.out w hSw; go_simp; try (with_reducible rfl))
                try simp only [List.getElem_toArray, List.getElem_cons_succ, List.getElem_cons_zero, Act.put, List.setIfInBounds_toArray, List.set_cons_zero, List.set_cons_succ]
                refine wpAnyH_one (i := 6) rfl (by kernel_rfl) (by rfl) ?_
                go_simp
                refine (mod_any c.a 2 _ (by omega) (by omega)).mono ?_
                rintro e W1 ⟨rfl, rfl⟩
                refine ⟨hHeld, ?_⟩
                refine wpAnyH_take (i := 7) (v := ?_) rfl (by kernel_rfl) (by kernel_rfl) (by kernel_rfl) (fun _ _ _ h => only_panic h) (Or.inl ⟨by rfl, ?_⟩) hHeld ?_
                rotate_left
                · (intro w hSw; clear hSw; go_simp; try (with_reducible rfl))
                try simp only [List.getElem_toArray, List.getElem_cons_succ, List.getElem_cons_zero, Act.put, List.setIfInBounds_toArray, List.set_cons_zero, List.set_cons_succ]
                refine wpAnyH_one (i := 8) rfl (by kernel_rfl) (by rfl) ?_
                go_simp
                refine (text_any 12 2 q.n (3 + c.a % 2) _ ⟨by omega, by omega⟩ ⟨by omega, by omega⟩ HQI.out ⟨by omega, by omega⟩).mono ?_
                rw [← HX.out]
                rintro e W3 ⟨rfl, hb⟩
                have B3 := Lib.hid ((Below.refl w5.heap.size w5).drew.trans hb)
                have hHeld := UU5.out _ B3.out
                clear hb
                refine ⟨hHeld, ?_⟩
                refine wpAnyH_take (i := 9) (v := ?_) rfl (by kernel_rfl) (by kernel_rfl) (by kernel_rfl) (fun _ _ _ h => only_panic h) (Or.inl ⟨by rfl, ?_⟩) hHeld ?_
                rotate_left
                · (intro w hSw; clear hSw; go_simp; try (with_reducible rfl))
                try simp only [List.getElem_toArray, List.getElem_cons_succ, List.getElem_cons_zero, Act.put, List.setIfInBounds_toArray, List.set_cons_zero, List.set_cons_succ]
                exact wpAnyH_done (by kernel_rfl) ⟨rfl, hR _ B3.out⟩ _
              case rest =>
                rintro W hW
                have V9 := Lib.hid (MB5.out.below hW MB5.out.lt)
                have FB : RowKit.Hid (Below w.heap.size w (W.setRow (w.heap.size + 1) (encM ⟨q.l, 2, 0, X⟩))) := Lib.hid (belowS (B5.out.trans (hW.mono B5.out.size)) (by omega))
                clear hW LD5 UU5 hHeld5 hwr
                simp only [endN, List.drop_succ_cons, List.drop_zero, Act.put, List.setIfInBounds_toArray, List.set_cons_zero, List.set_cons_succ]
                go_wp2_with (refine wpList_store_row rfl 31 (.tmp 4) (.tmp 51) rfl (w.heap.size + 1) (encM ⟨q.l, 2, 0, X⟩) rfl rfl 31 _ V9.out (enc_inf _) rfl (enc_all _) ?_)
                (try simp only [Exit.inBlock, Exit.then])
                refine bodyPost_ret (results_cell_row rfl _ _ (w.heap.size + 1) 31 (encM ⟨q.l, 2, 0, X⟩) (0, 0) _ rfl (setRow_heap _ _ _ _ _ _ V9.out) Try.underlying31 rfl (enc_inf _)) rfl ?_
                exact ⟨⟨q.l, 2, 0, X⟩, rfl, by have := HXL.out; dsimp only; omega, FB.out⟩
            · have e1 : (q.st == 1) = false := by simpa using h1
              have e2 : (q.st == 2) = false := by simpa using h2
              have e3 : (q.st == 3) = false := by simpa using h3
              have e5 : (q.st == 5) = false := by simpa using h5
              clear h1 h2 h3 h5
              go_wp2_with (refine wpList_store_row rfl 107 (.tmp 5) (.tmp 29) rfl g #[i64 q.n, i64 q.t, i64 q.st, i64 q.l] rfl rfl 107 _ G4.out (by kernel_rfl) rfl (by simp [Value.oneCell']) ?_; rw [← HW5.out])
              obtain ⟨X, hX⟩ : ∃ X, X = txt 5 2 q.n (3 + c.a % 2) := ⟨_, rfl⟩
              have HX := Lib.hid hX
              have HXL : RowKit.Hid (X.length ≤ 50) := Lib.hid (by
                rw [hX]; exact txt_short ⟨⟨by dsimp only; omega, by dsimp only; omega⟩, ⟨by dsimp only; omega, by dsimp only; omega⟩, HQI.out, ⟨by dsimp only; omega, by dsimp only; omega⟩⟩)
              have hwr : IntKind.i64.wrap (3 + c.a % 2) = 3 + c.a % 2 := by rw [IntKind.wrap_i64]; omega
              clear hX d0 d2 d3
              refine wp_region_sp 10 S5 (by kernel_rfl) (by kernel_rfl) ?_
              simp only [List.take_succ_cons, List.take_zero]
              apply wpAnyH_apart (fun W => Below w5.heap.size w5 W)
              case take =>
                intro R hR
                have hHeld := hHeld5
                refine wpAnyH_take (i := 0) (v := ?_) rfl (by kernel_rfl) (by kernel_rfl) (by kernel_rfl) (fun _ _ _ h => only_panic h) (Or.inl ⟨by rfl, ?_⟩) hHeld ?_
                rotate_left
                · (intro w hSw; obtain ⟨l0, l1⟩ := LD5.out w hSw; go_simp; try (with_reducible rfl))
                try simp only [List.getElem_toArray, List.getElem_cons_succ, List.getElem_cons_zero, Act.put, List.setIfInBounds_toArray, List.set_cons_zero, List.set_cons_succ]
                refine wpAnyH_take (i := 1) (v := ?_) rfl (by kernel_rfl) (by kernel_rfl) (by kernel_rfl) (fun _ _ _ h => only_panic h) (Or.inl ⟨by rfl, ?_⟩) hHeld ?_
                rotate_left
                · (intro w hSw; obtain ⟨l0, l1⟩ := LD5.out w hSw; go_simp; try (with_reducible rfl))
                try simp only [List.getElem_toArray, List.getElem_cons_succ, List.getElem_cons_zero, Act.put, List.setIfInBounds_toArray, List.set_cons_zero, List.set_cons_succ]
                refine wpAnyH_take (i := 2) (v := ?_) rfl (by kernel_rfl) (by kernel_rfl) (by kernel_rfl) (fun _ _ _ h => only_panic h) (Or.inl ⟨by rfl, ?_⟩) hHeld ?_
                rotate_left
                · (intro w hSw; obtain ⟨l0, l1⟩ := LD5.out w hSw; go_simp; try (with_reducible rfl))
                try simp only [List.getElem_toArray, List.getElem_cons_succ, List.getElem_cons_zero, Act.put, List.setIfInBounds_toArray, List.set_cons_zero, List.set_cons_succ]
                refine wpAnyH_take (i := 3) (v := ?_) rfl (by kernel_rfl) (by kernel_rfl) (by kernel_rfl) (fun _ _ _ h => only_panic h) (Or.inl ⟨by rfl, ?_⟩) hHeld ?_
                rotate_left
                · (intro w hSw; obtain ⟨l0, l1⟩ := LD5.out w hSw; go_simp; try (with_reducible rfl))
                try simp only [List.getElem_toArray, List.getElem_cons_succ, List.getElem_cons_zero, Act.put, List.setIfInBounds_toArray, List.set_cons_zero, List.set_cons_succ]
                refine wpAnyH_take (i := 4) (v := ?_) rfl (by kernel_rfl) (by kernel_rfl) (by kernel_rfl) (fun _ _ _ h => only_panic h) (Or.inl ⟨by rfl, ?_⟩) hHeld ?_
                rotate_left
                · (intro w hSw; obtain ⟨l0, l1⟩ := LD5.out w hSw; go_simp; try (with_reducible rfl))
                try simp only [List.getElem_toArray, List.getElem_cons_succ, List.getElem_cons_zero, Act.put, List.setIfInBounds_toArray, List.set_cons_zero, List.set_cons_succ]
                refine wpAnyH_take (i := 5) (v := ?_) rfl (by kernel_rfl) (by kernel_rfl) (by kernel_rfl) (fun _ _ _ h => only_panic h) (Or.inl ⟨by rfl, ?_⟩) hHeld ?_
                rotate_left
                · (intro w hSw; obtain ⟨l0, l1⟩ := LD5.out w hSw; go_simp; try (with_reducible rfl))
                try simp only [List.getElem_toArray, List.getElem_cons_succ, List.getElem_cons_zero, Act.put, List.setIfInBounds_toArray, List.set_cons_zero, List.set_cons_succ]
                refine wpAnyH_one (i := 6) rfl (by kernel_rfl) (by rfl) ?_
                go_simp
                refine (mod_any c.a 2 _ (by omega) (by omega)).mono ?_
                rintro e W1 ⟨rfl, rfl⟩
                refine ⟨hHeld, ?_⟩
                refine wpAnyH_take (i := 7) (v := ?_) rfl (by kernel_rfl) (by kernel_rfl) (by kernel_rfl) (fun _ _ _ h => only_panic h) (Or.inl ⟨by rfl, ?_⟩) hHeld ?_
                rotate_left
                · (intro w hSw; clear hSw; go_simp; try (with_reducible rfl))
                try simp only [List.getElem_toArray, List.getElem_cons_succ, List.getElem_cons_zero, Act.put, List.setIfInBounds_toArray, List.set_cons_zero, List.set_cons_succ]
                refine wpAnyH_one (i := 8) rfl (by kernel_rfl) (by rfl) ?_
                go_simp
                refine (text_any 5 2 q.n (3 + c.a % 2) _ ⟨by omega, by omega⟩ ⟨by omega, by omega⟩ HQI.out ⟨by omega, by omega⟩).mono ?_
                rw [← HX.out]
                rintro e W3 ⟨rfl, hb⟩
                have B3 := Lib.hid ((Below.refl w5.heap.size w5).drew.trans hb)
                have hHeld := UU5.out _ B3.out
                clear hb
                refine ⟨hHeld, ?_⟩
                refine wpAnyH_take (i := 9) (v := ?_) rfl (by kernel_rfl) (by kernel_rfl) (by kernel_rfl) (fun _ _ _ h => only_panic h) (Or.inl ⟨by rfl, ?_⟩) hHeld ?_
                rotate_left
                · (intro w hSw; clear hSw; go_simp; try (with_reducible rfl))
                try simp only [List.getElem_toArray, List.getElem_cons_succ, List.getElem_cons_zero, Act.put, List.setIfInBounds_toArray, List.set_cons_zero, List.set_cons_succ]
                exact wpAnyH_done (by kernel_rfl) ⟨rfl, hR _ B3.out⟩ _
              case rest =>
                rintro W hW
                have V9 := Lib.hid (MB5.out.below hW MB5.out.lt)
                have FB : RowKit.Hid (Below w.heap.size w (W.setRow (w.heap.size + 1) (encM ⟨q.l, 2, 0, X⟩))) := Lib.hid (belowS (B5.out.trans (hW.mono B5.out.size)) (by omega))
                clear hW LD5 UU5 hHeld5 hwr
                simp only [endN, List.drop_succ_cons, List.drop_zero, Act.put, List.setIfInBounds_toArray, List.set_cons_zero, List.set_cons_succ]
                go_wp2_with (refine wpList_store_row rfl 31 (.tmp 4) (.tmp 51) rfl (w.heap.size + 1) (encM ⟨q.l, 2, 0, X⟩) rfl rfl 31 _ V9.out (enc_inf _) rfl (enc_all _) ?_)
                (try simp only [Exit.inBlock, Exit.then])
                refine bodyPost_ret (results_cell_row rfl _ _ (w.heap.size + 1) 31 (encM ⟨q.l, 2, 0, X⟩) (0, 0) _ rfl (setRow_heap _ _ _ _ _ _ V9.out) Try.underlying31 rfl (enc_inf _)) rfl ?_
                exact ⟨⟨q.l, 2, 0, X⟩, rfl, by have := HXL.out; dsimp only; omega, FB.out⟩
end Go.Proofs.Ytdojgbpaheadnaa
