/- The reference's lender, new. -/
import Derived.Test.YtdojgbpaheadnaaGreatQRS
import Derived.Test.YtdojgbpaheadnaaGreatQRT
set_option linter.unusedVariables false
set_option linter.unusedSimpArgs false

namespace Go.Proofs.YtdojgbpaheadnaaGreat
open Go.RowKit Go.Shelf Go.Maps

set_option maxRecDepth 100000 in
set_option maxHeartbeats 4000000 in
theorem rnew_any (id : Int) (hid : I64 id) (D : List Int) (hl : D.length ≤ 100) (v : Value) (B : Nat) (w : World) (h : w.ownsRow B 3 1 v D.length (D.map (Value.int .i64))) :
    Calls Tryz.prog 31 #[i64 id, v] w fun e w' => ∃ rb cv, e = .returned (.pointer (some ⟨rb, 0, none⟩)) ∧ RLM w' w.heap.size rb ⟨id, 0, D.mergeSort fun x y => decide (x ≤ y), []⟩ cv (.slice none 0 0) 0 ∧ Below w.heap.size w w' := by
  obtain ⟨da, dcap, rfl, hc1, hc2, hxl, hc⟩ := row_cellz h
  have hcap : dcap ≤ 9223372036854775807 := by unfold maxLen at hc2; omega
  have HC := Lib.hid hc
  have HI := Lib.hid hid
  clear h hc hc2 hxl hid
  go_enter Tryz.func31, Tryz.ntmps31
  go_wp2_with fail
  obtain ⟨rb, hrb⟩ : ∃ rb, rb = w.heap.size := ⟨_, rfl⟩
  obtain ⟨w1, hw1⟩ : ∃ w1, w1 = w.alloc (.cells #[i64 id, i64 0, .slice none 0 0, .slice none 0 0] 165) := ⟨_, rfl⟩
  have M1 : RowKit.Hid (RLM w1 w.heap.size rb ⟨id, 0, [], []⟩ (.slice none 0 0) (.slice none 0 0) 0) := Lib.hid
    ⟨by rw [hw1, hrb]; exact Blk.new _ _ _, World.ownsRow_nil _ _ _ _, World.ownsRow_nil _ _ _ _, by simp [Value.ownBlock], by simp [Value.ownBlock], fun k hk => (by cases hk), by omega, ⟨by dsimp only; omega, by dsimp only; omega⟩, ⟨by simp, by simp, by omega⟩, ⟨HI.out, fun d hd => by simp at hd⟩, List.Pairwise.nil⟩
  have B1 : RowKit.Hid (Below w.heap.size w w1) := Lib.hid (by rw [hw1]; exact (Below.refl _ _).alloc (Nat.le_refl _) _)
  have HRB : RowKit.Hid (rb = w.heap.size) := Lib.hid hrb
  rw [← hw1, ← hrb]
  clear hw1 hrb
  go_loopw [6] (fun i wr => ∃ k : Nat, k ≤ D.length ∧ i = .int .i64 k ∧ ∃ cv, RLM wr w.heap.size rb ⟨id, 0, insAll (D.take k), []⟩ cv (.slice none 0 0) 0 ∧ Below w.heap.size w wr) (fun i _ => D.length - (intOf i).toNat)
  case atStart => exact ⟨0, Nat.zero_le _, rfl, _, M1.out, B1.out⟩
  case round =>
    obtain ⟨k, hk, rfl, cv, hM, hb⟩ := hrel
    have M2 := Lib.hid hM
    have B2 := Lib.hid hb
    clear hM hb M1 B1
    by_cases hlt : k < D.length
    · obtain ⟨g, rfl, -, hgB, hgl, hgc⟩ := HC.out.resolve_left (fun h => by omega)
      have hgk := hgc k _ (show (D.map (Value.int .i64))[k]? = some (i64 D[k]) by simp [hlt])
      obtain ⟨y, hy⟩ : ∃ y, y = D[k] := ⟨_, rfl⟩
      rw [← hy] at hgk
      have HS : RowKit.Hid (insAll (D.take (k + 1)) = ins y (insAll (D.take k))) := Lib.hid (by
        rw [← insAll_snoc, List.take_succ_eq_append_getElem hlt, hy])
      have hil : (insAll (D.take k)).length ≤ 100 := by rw [insAll_len, List.length_take]; omega
      obtain ⟨H, hH⟩ : ∃ H, H = insAll (D.take k) := ⟨_, rfl⟩
      rw [← hH] at M2 HS hil
      have HHH := Lib.hid hH
      have GK := Lib.hid hgk
      clear hgc hy hgk hH
      obtain ⟨ca, ccap, hcv, -⟩ := row_cellz M2.out.cop
      have HCV := Lib.hid hcv
      clear hcv
      obtain ⟨S6, hS6⟩ : ∃ S : World → Prop, S = fun W => Below wr.heap.size wr W := ⟨_, rfl⟩
      have LD6 : RowKit.Hid (∀ W, S6 W → W.cell? ⟨rb, 2, none⟩ = some (.slice ca H.length ccap) ∧ W.cell? ⟨g, k, none⟩ = some (i64 y)) := Lib.hid (by
        rw [hS6]; intro W hW; exact ⟨Below.cellE hW ((M2.out.blk.cell 2).trans (congrArg some HCV.out)), Below.cellE hW (Below.cellE B2.out GK.out)⟩)
      have UU6 : RowKit.Hid (∀ W, Below wr.heap.size wr W → S6 W) := Lib.hid (by rw [hS6]; exact fun W h => h)
      have hHeld := UU6.out _ (Below.refl wr.heap.size wr).drew
      clear hS6
      go_wp2_with fail
      refine wp_region_sp 12 S6 (by kernel_rfl) (by kernel_rfl) ?_
      simp only [List.take_succ_cons, List.take_zero]
      apply wpAnyH_apartV (fun u W => W.ownsRow wr.heap.size 3 1 u (ins y H).length ((ins y H).map (Value.int .i64)) ∧ Below wr.heap.size wr W)
      case take =>
        intro R hR
        refine wpAnyH_take (i := 0) (v := ?_) rfl (by kernel_rfl) (by kernel_rfl) (by kernel_rfl) (fun _ _ _ h => only_panic h) (Or.inl ⟨by rfl, ?_⟩) hHeld ?_
        rotate_left
        · (intro w hSw; obtain ⟨l0, l1⟩ := LD6.out w hSw; go_simp; try (with_reducible rfl))
        try simp only [gA, gB, gC, Act.put, gD, gE, gF]
        refine wpAnyH_take (i := 1) (v := ?_) rfl (by kernel_rfl) (by kernel_rfl) (by kernel_rfl) (fun _ _ _ h => only_panic h) (Or.inl ⟨by rfl, ?_⟩) hHeld ?_
        rotate_left
        · (intro w hSw; obtain ⟨l0, l1⟩ := LD6.out w hSw; go_simp; try (with_reducible rfl))
        try simp only [gA, gB, gC, Act.put, gD, gE, gF]
        refine wpAnyH_take (i := 2) (v := ?_) rfl (by kernel_rfl) (by kernel_rfl) (by kernel_rfl) (fun _ _ _ h => only_panic h) (Or.inl ⟨by rfl, ?_⟩) hHeld ?_
        rotate_left
        · (intro w hSw; obtain ⟨l0, l1⟩ := LD6.out w hSw; go_simp; try (with_reducible rfl))
        try simp only [gA, gB, gC, Act.put, gD, gE, gF]
        refine wpAnyH_take (i := 3) (v := ?_) rfl (by kernel_rfl) (by kernel_rfl) (by kernel_rfl) (fun _ _ _ h => only_panic h) (Or.inl ⟨by rfl, ?_⟩) hHeld ?_
        rotate_left
        · (intro w hSw; obtain ⟨l0, l1⟩ := LD6.out w hSw; go_simp; try (with_reducible rfl))
        try simp only [gA, gB, gC, Act.put, gD, gE, gF]
        refine wpAnyH_take (i := 4) (v := ?_) rfl (by kernel_rfl) (by kernel_rfl) (by kernel_rfl) (fun _ _ _ h => only_panic h) (Or.inl ⟨by rfl, ?_⟩) hHeld ?_
        rotate_left
        · (intro w hSw; obtain ⟨l0, l1⟩ := LD6.out w hSw; go_simp; try (with_reducible rfl))
        try simp only [gA, gB, gC, Act.put, gD, gE, gF]
        refine wpAnyH_take (i := 5) (v := ?_) rfl (by kernel_rfl) (by kernel_rfl) (by kernel_rfl) (fun _ _ _ h => only_panic h) (Or.inl ⟨by rfl, ?_⟩) hHeld ?_
        rotate_left
        · (intro w hSw; obtain ⟨l0, l1⟩ := LD6.out w hSw; go_simp; try (with_reducible rfl))
        try simp only [gA, gB, gC, Act.put, gD, gE, gF]
        refine wpAnyH_take (i := 6) (v := ?_) rfl (by kernel_rfl) (by kernel_rfl) (by kernel_rfl) (fun _ _ _ h => only_panic h) (Or.inl ⟨by rfl, ?_⟩) hHeld ?_
        rotate_left
        · (intro w hSw; obtain ⟨l0, l1⟩ := LD6.out w hSw; go_simp; try (with_reducible rfl))
        try simp only [gA, gB, gC, Act.put, gD, gE, gF]
        refine wpAnyH_take (i := 7) (v := ?_) rfl (by kernel_rfl) (by kernel_rfl) (by kernel_rfl) (fun _ _ _ h => only_panic h) (Or.inl ⟨by rfl, ?_⟩) hHeld ?_
        rotate_left
        · (intro w hSw; clear hSw; go_simp; skip; try (with_reducible rfl))
        try simp only [gA, gB, gC, Act.put, gD, gE, gF]
        refine wpAnyH_take (i := 8) (v := ?_) rfl (by kernel_rfl) (by kernel_rfl) (by kernel_rfl) (fun _ _ _ h => only_panic h) (Or.inl ⟨by rfl, ?_⟩) hHeld ?_
        rotate_left
        · (intro w hSw; obtain ⟨l0, l1⟩ := LD6.out w hSw; go_simp; try (with_reducible rfl))
        try simp only [gA, gB, gC, Act.put, gD, gE, gF]
        refine wpAnyH_one (i := 9) rfl (by kernel_rfl) (by rfl) ?_
        go_simp
        refine (insert_any y (HCV.out ▸ (M2.out.up (Below.refl wr.heap.size wr).drew).cop) (by dsimp only; omega)).mono ?_
        rintro e W9 ⟨v9, rfl, hr9, hb9⟩
        have B9 : RowKit.Hid (Below wr.heap.size wr W9) := Lib.hid ((Below.refl wr.heap.size wr).drew.trans hb9)
        have R9 := Lib.hid hr9
        have hHeld := UU6.out _ B9.out
        clear hr9 hb9
        refine ⟨hHeld, ?_⟩
        refine wpAnyH_take (i := 10) (v := ?_) rfl (by kernel_rfl) (by kernel_rfl) (by kernel_rfl) (fun _ _ _ h => only_panic h) (Or.inl ⟨by rfl, ?_⟩) hHeld ?_
        rotate_left
        · (intro w hSw; clear hSw; go_simp; try (with_reducible rfl))
        try simp only [gA, gB, gC, Act.put, gD, gE, gF]
        refine wpAnyH_take (i := 11) (v := ?_) rfl (by kernel_rfl) (by kernel_rfl) (by kernel_rfl) (fun _ _ _ h => only_panic h) (Or.inl ⟨by rfl, ?_⟩) hHeld ?_
        rotate_left
        · (intro w hSw; clear hSw; go_simp; try (with_reducible rfl))
        try simp only [gA, gB, gC, Act.put, gD, gE, gF]
        exact wpAnyH_done (by kernel_rfl) ⟨rfl, hR _ _ ⟨R9.out, B9.out⟩⟩ _
      rintro u W ⟨hu, hb⟩
      obtain ⟨M6, T6⟩ := M2.out.copies hb hu (by rw [ins_len]; omega)
      have bW := M2.out.blk.below hb M2.out.blk.lt
      have f2 := bW.frozen 2
      have hbW := bW.lt
      have cW : W.cell? ⟨rb, 2, none⟩ = some cv := bW.cell 2
      obtain ⟨ua, uc, rfl, -⟩ := row_cellz hu
      have M6 : RowKit.Hid (RLM (W.setCell ⟨rb, 2, none⟩ (.slice ua (ins y H).length uc)) w.heap.size rb ⟨id, 0, insAll (D.take (k + 1)), []⟩ (.slice ua (ins y H).length uc) (.slice none 0 0) 0) := Lib.hid (by rw [HS.out]; exact M6)
      have B6 : RowKit.Hid (Below w.heap.size w (W.setCell ⟨rb, 2, none⟩ (.slice ua (ins y H).length uc))) := Lib.hid (B2.out.trans (T6.below B2.out.size fun b hb => by rw [hb, HRB.out]; exact Nat.le_refl _))
      clear hu hb bW T6 UU6 LD6 hHeld
      simp only [endN, List.drop_succ_cons, List.drop_zero, Act.put, List.setIfInBounds_toArray, List.set_cons_zero, List.set_cons_succ]
      go_wp2_with fail
      exact ⟨⟨k + 1, hlt, by go_num, _, M6.out, B6.out⟩, by simp [intOf]; omega⟩
    · have hk2 : k = D.length := by omega
      subst hk2
      have M3 : RowKit.Hid (RLM wr w.heap.size rb ⟨id, 0, D.mergeSort fun x y => decide (x ≤ y), []⟩ cv (.slice none 0 0) 0) := Lib.hid (by
        have := M2.out
        rw [List.take_length, insAll_eq] at this; exact this)
      go_wp2_with fail
      go_ret
      exact ⟨rb, cv, rfl, M3.out, B2.out⟩
end Go.Proofs.YtdojgbpaheadnaaGreat
