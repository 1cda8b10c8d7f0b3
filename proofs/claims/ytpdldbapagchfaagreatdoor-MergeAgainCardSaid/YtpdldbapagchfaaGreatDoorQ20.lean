/- What the laws make: fields, versions. -/
import Derived.Test.YtpdldbapagchfaaGreatDoorQ19
import Derived.Test.YtpdldbapagchfaaGreatDoorQ14
set_option linter.unusedVariables false
set_option linter.unusedSimpArgs false

namespace Go.Proofs.YtpdldbapagchfaaGreatDoor
open Go.RowKit Go.Shelf Go.Maps
attribute [local go_sem] over_cell over_frozen

def fldS (tag text : ByteArray) : Fld := ⟨tag, ⟨#[32, 32]⟩, ⟨#[]⟩, [⟨97, text⟩]⟩
/-- A statement apart from what follows it, with three values that are not known ahead. -/
theorem wpAnyH_apartV3 {P : Program} {md : Region.Mode} {ops : Array Oper} {Q : Exit → Act → World → Prop} {S : World → Prop} {fuel : Nat} {L : Array Bool} {a : Act} {w : World} {a1 : Value → Value → Value → Act} (F : Value → Value → Value → World → Prop)
    (take : ∀ R : Act → World → Prop, (∀ g h i w', F g h i w' → R (a1 g h i) w') → wpAnyH P md ops (only R) S fuel L a w) (rest : ∀ g h i w', F g h i w' → Q .normal (a1 g h i) w') : wpAnyH P md ops Q S fuel L a w :=
  wpAnyH_mono (fun _ _ _ h => nomatch h.1) (fun ⟨_, _, h⟩ => nomatch h.1) (fun _ _ h => h.2) fuel L a w (take (Q .normal) rest)
set_option maxRecDepth 100000 in
set_option maxHeartbeats 2000000 in
theorem field_any (tag text : ByteArray) (w : World) : Calls Tryz.prog 44 #[.string tag, .string text] w fun e w' => ∃ cs, e = .returned (.agg cs.toArray) ∧ FldR (fun b => w.heap.size ≤ b) w' cs (fldS tag text) ∧ Below w.heap.size w w' := by
  have HB : RowKit.Hid (∀ p q, Below w.heap.size w ((w.alloc p).alloc q)) := Lib.hid fun p q => ((Below.refl _ _).alloc (Nat.le_refl _) _).alloc (by simp) _
  go_enter Tryz.func44, Tryz.ntmps44
  go_wp2_with fail
  refine bodyPost_ret (results_cell_row rfl _ _ w.heap.size 48 #[.string tag, .string ⟨#[32, 32]⟩, .string ⟨#[]⟩, .slice (some ⟨w.heap.size + 1, 0, none⟩) 1 1] (0, 0) _ rfl ((Blk.new _ _ _).alloc _) Tryz.underlying48 rfl (by kernel_rfl)) rfl ?_
  refine ⟨[.string tag, .string ⟨#[32, 32]⟩, .string ⟨#[]⟩, .slice (some ⟨w.heap.size + 1, 0, none⟩) 1 1], rfl, ⟨_, rfl, ?_⟩, HB.out _ _⟩
  refine ⟨some ⟨w.heap.size + 1, 0, none⟩, 1, rfl, Nat.le_refl _, by unfold maxLen; omega, .inr ⟨w.heap.size + 1, 0, rfl, by show w.heap.size ≤ _; omega, [[.int .u8 97, .string text]], All2.one rfl, by simp, fun j u hj => ?_⟩⟩
  have K : Blk ((w.alloc (.cells #[.string tag, .string ⟨#[32, 32]⟩, .string ⟨#[]⟩, .slice (some ⟨w.heap.size + 1, 0, none⟩) 1 1] 48)).alloc (.cells #[.int .u8 97, .string text] 54)) (w.heap.size + 1) #[.int .u8 97, .string text] 54 := Blk.at_new (by simp) _ _
  rw [Nat.zero_add]
  exact ⟨K.cellE (by simpa using hj), K.frozen _⟩
/-- Pairs of tags and texts, as they are given. -/
def pairsL (l : List (ByteArray × ByteArray)) : List ByteArray := l.flatMap fun p => [p.1, p.2]
theorem pairs_at {l : List (ByteArray × ByteArray)} {k : Nat} (hk : k < l.length) : (pairsL l)[2 * k]? = some l[k].1 ∧ (pairsL l)[2 * k + 1]? = some l[k].2 := by
  induction l generalizing k with
  | nil => simp at hk
  | cons p l ih =>
    cases k with
    | zero => exact ⟨rfl, rfl⟩
    | succ k =>
      have h := ih (k := k) (by simpa using hk)
      have e : pairsL (p :: l) = p.1 :: p.2 :: pairsL l := rfl
      rw [e, show 2 * (k + 1) = 2 * k + 1 + 1 by omega]
      exact ⟨by simpa using h.1, by simpa using h.2⟩
def saysP (s n v : Int) (l : List (ByteArray × ByteArray)) : Ver := ⟨(s, n), v, 0, 0, l.map fun p => fldS p.1 p.2⟩
set_option maxRecDepth 100000 in
set_option maxHeartbeats 4000000 in
theorem says_any (s n v : Int) (l : List (ByteArray × ByteArray)) {gb cap n2 : Nat} {w : World} (hn2 : n2 = 2 * l.length) (hg : ∀ j x, (pairsL l)[j]? = some x → w.cell? ⟨gb, j, none⟩ = some (.string x)) (hl : l.length ≤ 100) :
    Calls Tryz.prog 27 #[.int .i64 s, .int .i64 n, .int .i64 v, .slice (some ⟨gb, 0, none⟩) n2 cap] w fun e w' => ∃ cs, e = .returned (.agg cs.toArray) ∧ VerR (fun b => w.heap.size ≤ b) w' cs (saysP s n v l) ∧ Below w.heap.size w w' := by
  obtain ⟨jf, hjf, jf1, jf2, jf3⟩ := info_Fld
  have HG := Lib.hid hg
  obtain ⟨m, hm⟩ : ∃ m, m = l.length := ⟨_, rfl⟩
  rw [← hm] at hl hn2
  have HM := Lib.hid hm
  have HN2 := Lib.hid hn2
  have hn2l : n2 ≤ 200 := by omega
  clear hn2
  obtain ⟨W1, hW1⟩ : ∃ W1, W1 = (w.alloc (.cells #[.int .i64 0, .int .i64 0, .int .i64 0, .int .u8 0, .int .u8 0, .slice none 0 0] 43)).alloc (.cells #[.int .i64 s, .int .i64 n, .int .i64 v, .int .u8 0, .int .u8 0, .slice none 0 0] 43) := ⟨_, rfl⟩
  have B1 : RowKit.Hid (Below w.heap.size w W1) := Lib.hid (by rw [hW1]; exact ((Below.refl _ _).alloc (Nat.le_refl _) _).alloc (by simp) _)
  have K1 : RowKit.Hid (Blk W1 w.heap.size #[.int .i64 0, .int .i64 0, .int .i64 0, .int .u8 0, .int .u8 0, .slice none 0 0] 43) := Lib.hid (by rw [hW1]; exact (Blk.new _ _ _).alloc _)
  have K2 : RowKit.Hid (Blk W1 (w.heap.size + 1) #[.int .i64 s, .int .i64 n, .int .i64 v, .int .u8 0, .int .u8 0, .slice none 0 0] 43) := Lib.hid (by rw [hW1]; exact Blk.at_new (by simp) _ _)
  have Z1 : RowKit.Hid (W1.heap.size = w.heap.size + 2) := Lib.hid (by rw [hW1]; simp)
  clear hg hm
  go_enter Tryz.func27, Tryz.ntmps27
  go_wp2_with fail
  rw [← hW1]
  clear hW1
  obtain ⟨B, hB⟩ : ∃ B, B = w.heap.size + 2 := ⟨_, rfl⟩
  have HBE := Lib.hid hB
  obtain ⟨b9, hb9⟩ : ∃ b9, b9 = w.heap.size + 1 := ⟨_, rfl⟩
  have HB9 := Lib.hid hb9
  rw [← hb9] at K2 ⊢
  clear hb9 hB
  go_loopw [10] (fun i wr => ∃ (k : Nat) (fv : Value), k ≤ m ∧ i = .int .i64 (((2 * k : Nat) : Int) + 1) ∧ Below w.heap.size w wr ∧ Blk wr w.heap.size #[.int .i64 0, .int .i64 0, .int .i64 0, .int .u8 0, .int .u8 0, .slice none 0 0] 43 ∧ Blk wr b9 #[.int .i64 s, .int .i64 n, .int .i64 v, .int .u8 0, .int .u8 0, fv] 43 ∧ OwnX 48 4 B FldR wr fv ((l.take k).map fun p => fldS p.1 p.2) ∧ B ≤ wr.heap.size) (fun i _ => n2 + 1 - (intOf i).toNat)
  case atStart => exact ⟨0, _, by omega, rfl, B1.out, K1.out, K2.out, OwnX.nil _ _ _ _ _, by have := Z1.out; have := HBE.out; omega⟩
  case round =>
    obtain ⟨k, fv, hk, rfl, hb, hk1, hk2, hox, hBw⟩ := hrel
    have HB := Lib.hid hb
    obtain ⟨fa, fc, rfl⟩ := hox.expl
    have hlk : ((l.take k).map fun p => fldS p.1 p.2).length = k := by rw [List.length_map, List.length_take, Nat.min_eq_left (by rw [← HM.out]; exact hk)]
    rw [hlk] at hk2 hox
    obtain ⟨q, rfl⟩ : ∃ q, q = k := ⟨_, rfl⟩
    have HQL := Lib.hid hlk
    have KK1 := Lib.hid hk1
    have KK2 := Lib.hid hk2
    have HOX := Lib.hid hox
    clear hb hk1 hk2 hox hlk
    obtain ⟨j0, hj0⟩ : ∃ j0, j0 = 2 * q := ⟨_, rfl⟩
    rw [← hj0]
    have HJ0 := Lib.hid hj0
    clear hj0
    by_cases hlt : q < m
    · have hlx : q < l.length := by rw [← HM.out]; exact hlt
      obtain ⟨p1, hp1⟩ : ∃ y, y = l[q].1 := ⟨_, rfl⟩
      obtain ⟨p2, hp2⟩ : ∃ y, y = l[q].2 := ⟨_, rfl⟩
      have hc1 : wr.cell? ⟨gb, j0, none⟩ = some (.string p1) := Below.cellE HB.out (HG.out _ _ (by rw [HJ0.out, hp1]; exact (pairs_at hlx).1))
      have hc2 : wr.cell? ⟨gb, j0 + 1, none⟩ = some (.string p2) := Below.cellE HB.out (HG.out _ _ (by rw [HJ0.out, hp2]; exact (pairs_at hlx).2))
      have HTK : RowKit.Hid ((l.take (q + 1)).map (fun p => fldS p.1 p.2) = (l.take q).map (fun p => fldS p.1 p.2) ++ [fldS p1 p2]) := Lib.hid (by rw [List.take_succ_eq_append_getElem hlx, List.map_append, hp1, hp2]; rfl)
      have hgl : gb < wr.heap.size := cell_lt hc1
      have HGB : RowKit.Hid (¬ (Value.slice fa q fc).ownBlock = some gb) := Lib.hid fun e => by
        obtain ⟨css, r1, _⟩ := HOX.out
        have h1 := (row_lt r1 gb e).1
        have h2 := cell_lt (HG.out (2 * q) _ (pairs_at hlx).1)
        have : gb < w.heap.size := h2
        have := HBE.out; omega
      have hjl : j0 + 1 < n2 := by have := HJ0.out; have := HN2.out; omega
      have hjd : decide ((j0 : Int) + 1 < (n2 : Int)) = true := by simp; omega
      have C1 := Lib.hid hc1
      have C2 := Lib.hid hc2
      clear hp1 hp2 hgl
      go_wp2_with fail
      clear hjd
      obtain ⟨S', hS'⟩ : ∃ S' : World → Prop, S' = fun W => W.cell? ⟨b9, 5, none⟩ = some (.slice fa q fc) ∧ W.cell? ⟨gb, j0, none⟩ = some (.string p1) ∧ W.cell? ⟨gb, j0 + 1, none⟩ = some (.string p2) := ⟨_, rfl⟩
      have LD : RowKit.Hid (∀ W, S' W → W.cell? ⟨b9, 5, none⟩ = some (.slice fa q fc) ∧ W.cell? ⟨gb, j0, none⟩ = some (.string p1) ∧ W.cell? ⟨gb, j0 + 1, none⟩ = some (.string p2)) := Lib.hid (by rw [hS']; exact fun W h => h)
      have UU : RowKit.Hid (∀ W F, Tn F wr W → ¬ F b9 → ¬ F gb → S' W) := Lib.hid (by rw [hS']; exact fun W F t h1 h2 => ⟨t.cell (KK2.out.cell 5) h1, t.cell C1.out h2, t.cell C2.out h2⟩)
      have hHeld := UU.out _ (fun _ => False) (Tn.refl (fun _ => False) wr).drew (fun h => h) (fun h => h)
      clear hS' hc1 hc2
      refine wp_region_sp 17 S' (by kernel_rfl) (by kernel_rfl) ?_
      simp only [List.take_succ_cons, List.take_zero]
      apply wpAnyH_apartV3 (fun v34 v35 v' W => ∃ a' c', v' = .slice a' (q + 1) c' ∧ OwnX 48 4 B FldR W v' ((l.take q).map (fun p => fldS p.1 p.2) ++ [fldS p1 p2]) ∧ Tn (fun b => (Value.slice fa q fc).ownBlock = some b) wr W)
      case take =>
        intro R hR
        have g2 : (j0 : Int) < (n2 : Int) := by omega
        have g3 : (j0 : Int) + 1 < (n2 : Int) := by omega
        have g4 : (0 : Int) ≤ (j0 : Int) + 1 := by omega
        have g5 : ((j0 : Int) + 1).toNat = j0 + 1 := by omega
        have g1 : IntKind.i64.wrap (j0 : Int) = (j0 : Int) := by rw [IntKind.wrap_i64]; omega
        refine wpAnyH_take (i := 0) (v := ?_) rfl (by kernel_rfl) (by kernel_rfl) (by kernel_rfl) (fun _ _ _ h => only_panic h) (Or.inl ⟨by rfl, ?_⟩) hHeld ?_
        rotate_left
        · (intro w hSw; obtain ⟨l0, l1, l2⟩ := LD.out w hSw; go_simp; try (with_reducible rfl))
        try simp only [List.getElem_toArray, List.getElem_cons_succ, List.getElem_cons_zero, Act.put, List.setIfInBounds_toArray, List.set_cons_zero, List.set_cons_succ]
        refine wpAnyH_take (i := 1) (v := ?_) rfl (by kernel_rfl) (by kernel_rfl) (by kernel_rfl) (fun _ _ _ h => only_panic h) (Or.inl ⟨by rfl, ?_⟩) hHeld ?_
        rotate_left
        · (intro w hSw; obtain ⟨l0, l1, l2⟩ := LD.out w hSw; go_simp; try (with_reducible rfl))
        try simp only [List.getElem_toArray, List.getElem_cons_succ, List.getElem_cons_zero, Act.put, List.setIfInBounds_toArray, List.set_cons_zero, List.set_cons_succ]
        refine wpAnyH_take (i := 2) (v := ?_) rfl (by kernel_rfl) (by kernel_rfl) (by kernel_rfl) (fun _ _ _ h => only_panic h) (Or.inl ⟨by rfl, ?_⟩) hHeld ?_
        rotate_left
        · (intro w hSw; obtain ⟨l0, l1, l2⟩ := LD.out w hSw; go_simp; try (with_reducible rfl))
        try simp only [List.getElem_toArray, List.getElem_cons_succ, List.getElem_cons_zero, Act.put, List.setIfInBounds_toArray, List.set_cons_zero, List.set_cons_succ]
        refine wpAnyH_take (i := 3) (v := ?_) rfl (by kernel_rfl) (by kernel_rfl) (by kernel_rfl) (fun _ _ _ h => only_panic h) (Or.inl ⟨by rfl, ?_⟩) hHeld ?_
        rotate_left
        · (intro w hSw; obtain ⟨l0, l1, l2⟩ := LD.out w hSw; go_simp; try (with_reducible rfl))
        try simp only [List.getElem_toArray, List.getElem_cons_succ, List.getElem_cons_zero, Act.put, List.setIfInBounds_toArray, List.set_cons_zero, List.set_cons_succ]
        refine wpAnyH_take (i := 4) (v := ?_) rfl (by kernel_rfl) (by kernel_rfl) (by kernel_rfl) (fun _ _ _ h => only_panic h) (Or.inl ⟨by rfl, ?_⟩) hHeld ?_
        rotate_left
        · (intro w hSw; obtain ⟨l0, l1, l2⟩ := LD.out w hSw; go_simp; try (with_reducible rfl))
        try simp only [List.getElem_toArray, List.getElem_cons_succ, List.getElem_cons_zero, Act.put, List.setIfInBounds_toArray, List.set_cons_zero, List.set_cons_succ]
        refine wpAnyH_take (i := 5) (v := ?_) rfl (by kernel_rfl) (by kernel_rfl) (by kernel_rfl) (fun _ _ _ h => only_panic h) (Or.inl ⟨by rfl, ?_⟩) hHeld ?_
        rotate_left
        · (intro w hSw; obtain ⟨l0, l1, l2⟩ := LD.out w hSw; go_simp; try (with_reducible rfl))
        try simp only [List.getElem_toArray, List.getElem_cons_succ, List.getElem_cons_zero, Act.put, List.setIfInBounds_toArray, List.set_cons_zero, List.set_cons_succ]
        refine wpAnyH_take (i := 6) (v := ?_) rfl (by kernel_rfl) (by kernel_rfl) (by kernel_rfl) (fun _ _ _ h => only_panic h) (Or.inl ⟨by rfl, ?_⟩) hHeld ?_
        rotate_left
        · (intro w hSw; obtain ⟨l0, l1, l2⟩ := LD.out w hSw; go_simp; try (with_reducible rfl))
        try simp only [List.getElem_toArray, List.getElem_cons_succ, List.getElem_cons_zero, Act.put, List.setIfInBounds_toArray, List.set_cons_zero, List.set_cons_succ]
        refine wpAnyH_take (i := 7) (v := ?_) rfl (by kernel_rfl) (by kernel_rfl) (by kernel_rfl) (fun _ _ _ h => only_panic h) (Or.inl ⟨by rfl, ?_⟩) hHeld ?_
        rotate_left
        · (intro w hSw; obtain ⟨l0, l1, l2⟩ := LD.out w hSw; go_simp; try (with_reducible rfl))
        try simp only [List.getElem_toArray, List.getElem_cons_succ, List.getElem_cons_zero, Act.put, List.setIfInBounds_toArray, List.set_cons_zero, List.set_cons_succ]
        refine wpAnyH_take (i := 8) (v := ?_) rfl (by kernel_rfl) (by kernel_rfl) (by kernel_rfl) (fun _ _ _ h => only_panic h) (Or.inl ⟨by rfl, ?_⟩) hHeld ?_
        rotate_left
        · (intro w hSw; obtain ⟨l0, l1, l2⟩ := LD.out w hSw; go_simp; try (with_reducible rfl))
        try simp only [List.getElem_toArray, List.getElem_cons_succ, List.getElem_cons_zero, Act.put, List.setIfInBounds_toArray, List.set_cons_zero, List.set_cons_succ]
        refine wpAnyH_take (i := 9) (v := ?_) rfl (by kernel_rfl) (by kernel_rfl) (by kernel_rfl) (fun _ _ _ h => only_panic h) (Or.inl ⟨by rfl, ?_⟩) hHeld ?_
        rotate_left
        · (intro w hSw; obtain ⟨l0, l1, l2⟩ := LD.out w hSw; go_simp; try (with_reducible rfl))
        try simp only [List.getElem_toArray, List.getElem_cons_succ, List.getElem_cons_zero, Act.put, List.setIfInBounds_toArray, List.set_cons_zero, List.set_cons_succ]
        refine wpAnyH_take (i := 10) (v := ?_) rfl (by kernel_rfl) (by kernel_rfl) (by kernel_rfl) (fun _ _ _ h => only_panic h) (Or.inl ⟨by rfl, ?_⟩) hHeld ?_
        rotate_left
        · (intro w hSw; obtain ⟨l0, l1, l2⟩ := LD.out w hSw; go_simp; try (with_reducible rfl))
        try simp only [List.getElem_toArray, List.getElem_cons_succ, List.getElem_cons_zero, Act.put, List.setIfInBounds_toArray, List.set_cons_zero, List.set_cons_succ]
        refine wpAnyH_take (i := 11) (v := ?_) rfl (by kernel_rfl) (by kernel_rfl) (by kernel_rfl) (fun _ _ _ h => only_panic h) (Or.inl ⟨by rfl, ?_⟩) hHeld ?_
        rotate_left
        · (intro w hSw; obtain ⟨l0, l1, l2⟩ := LD.out w hSw; go_simp; try (with_reducible rfl))
        try simp only [List.getElem_toArray, List.getElem_cons_succ, List.getElem_cons_zero, Act.put, List.setIfInBounds_toArray, List.set_cons_zero, List.set_cons_succ]
        clear g1 g2 g3 g4 g5
        refine wpAnyH_one (i := 12) rfl (by kernel_rfl) (by rfl) ?_
        go_simp
        refine (field_any p1 p2 _).mono ?_
        rintro e W2 ⟨cs, rfl, hF, hb2⟩
        have HB2 : RowKit.Hid (Below wr.heap.size wr W2) := Lib.hid ((Below.refl _ _).drew.trans hb2)
        have HF := Lib.hid hF
        obtain ⟨sv, rfl, sa, sc, rfl, -⟩ := hF
        have hHeld := UU.out _ (fun _ => False) (Tn.of_below HB2.out) (fun h => h) (fun h => h)
        clear hb2
        refine ⟨hHeld, ?_⟩
        refine wpAnyH_one (i := 13) rfl (by kernel_rfl) (by rfl) ?_
        go_simp
        obtain ⟨v34, hv34⟩ : ∃ v34 : Value, v34 = .agg #[.string (fldS p1 p2).tag, .string (fldS p1 p2).ind, .string (fldS p1 p2).data, .slice sa (fldS p1 p2).subs.length sc] := ⟨_, rfl⟩
        obtain ⟨v35, hv35⟩ : ∃ v35 : Value, v35 = .slice (some ⟨W2.heap.size, 0, none⟩) 1 1 := ⟨_, rfl⟩
        obtain ⟨W4, hW4⟩ : ∃ W4, W4 = W2.alloc (.cells #[.string (fldS p1 p2).tag, .string (fldS p1 p2).ind, .string (fldS p1 p2).data, .slice sa (fldS p1 p2).subs.length sc] 48) := ⟨_, rfl⟩
        have B4 : RowKit.Hid (Below W2.heap.size W2 W4) := Lib.hid (by rw [hW4]; exact (Below.refl _ _).alloc (Nat.le_refl _) _)
        have B4' : RowKit.Hid (Below wr.heap.size wr W4) := Lib.hid (HB2.out.trans (B4.out.mono HB2.out.size))
        have R4 : RowKit.Hid (W4.ownsRow 0 48 4 v35 1 [.string (fldS p1 p2).tag, .string (fldS p1 p2).ind, .string (fldS p1 p2).data, .slice sa (fldS p1 p2).subs.length sc]) := Lib.hid (by
          rw [hW4, hv35]
          exact row_fresh W2 0 #[.string (fldS p1 p2).tag, .string (fldS p1 p2).ind, .string (fldS p1 p2).data, .slice sa (fldS p1 p2).subs.length sc] 48 4 1 rfl (by unfold maxLen; omega) (Nat.zero_le _))
        have hHeld := UU.out _ (fun _ => False) (Tn.of_below B4'.out) (fun h => h) (fun h => h)
        obtain ⟨css, r1, r2, r3⟩ := HOX.out
        have hql : ((l.take q).map fun p => fldS p.1 p.2).length = q := HQL.out
        rw [hql] at r1
        rw [← hW4, ← hv34, ← hv35]
        clear hW4 hv34 hv35
        refine ⟨hHeld, ?_⟩
        refine wpAnyH_one (i := 14) rfl (by kernel_rfl) (by rfl) ?_
        simp only [List.getElem_toArray, List.getElem_cons_succ, List.getElem_cons_zero]
        refine wp_append_all (.tmp 24) (.tmp 35) 27 rfl B 48 jf _ 4 72 Tryz.underlying27 hjf jf1 jf2 jf3 rfl (by omega) (.slice fa q fc) q css.flatten rfl ((Tn.of_below (F := fun _ => False) B4'.out).row r1 (fun _ _ h => h)) 1 [.string (fldS p1 p2).tag, .string (fldS p1 p2).ind, .string (fldS p1 p2).data, .slice sa (fldS p1 p2).subs.length sc] v35 rfl (src_row R4.out) (by simp [Value.oneCell']) (by unfold maxLen; omega) (by omega) (by have := B4'.out.size; omega) ?_
        intro v' w5 hr5 hg5 ho5
        have T5 : RowKit.Hid (Tn (fun b => (Value.slice fa q fc).ownBlock = some b) wr w5) := Lib.hid ((Tn.of_below B4'.out).trans (Tn.of_grown hg5))
        have hHeld := UU.out _ _ T5.out (fun e => row_not KK2.out (by decide) r1 e.symm) HGB.out
        refine ⟨hHeld, ?_⟩
        refine wpAnyH_take (i := 15) (v := ?_) rfl (by kernel_rfl) (by kernel_rfl) (by kernel_rfl) (fun _ _ _ h => only_panic h) (Or.inl ⟨by rfl, ?_⟩) hHeld ?_
        rotate_left
        · (intro w hSw; clear hSw; go_simp; try (with_reducible rfl))
        try simp only [List.getElem_toArray, List.getElem_cons_succ, List.getElem_cons_zero, Act.put, List.setIfInBounds_toArray, List.set_cons_zero, List.set_cons_succ]
        refine wpAnyH_take (i := 16) (v := ?_) rfl (by kernel_rfl) (by kernel_rfl) (by kernel_rfl) (fun _ _ _ h => only_panic h) (Or.inl ⟨by rfl, ?_⟩) hHeld ?_
        rotate_left
        · (intro w hSw; clear hSw; go_simp; try (with_reducible rfl))
        try simp only [List.getElem_toArray, List.getElem_cons_succ, List.getElem_cons_zero, Act.put, List.setIfInBounds_toArray, List.set_cons_zero, List.set_cons_succ]
        refine wpAnyH_done (by kernel_rfl) ⟨rfl, hR v34 v35 v' w5 ?_⟩ _
        obtain ⟨a', c', e', -⟩ := row_cellz hr5
        refine ⟨a', c', e', ?_, T5.out⟩
        refine OwnX.snoc (v := .slice fa q fc) keeps_fld (w3 := W2) (w3' := W4) (css := css) (by rw [hql]; exact (Tn.of_below (F := fun _ => False) HB2.out).row r1 (fun _ _ h => h)) (r2.mono fun c x hx => keeps_fld _ _ _ _ _ _ hx (Stay.of_below HB2.out) (fun _ h _ => h)) r3 (C := wr.heap.size) HF.out (fun r e => (row_lt r1 r e).2) hBw rfl B4.out (by rw [hql]; exact hr5) hg5 ho5
      case rest =>
        rintro v34 v35 v' w5 ⟨a', c', rfl, hox5, ht5⟩
        have HOX5 := Lib.hid hox5
        have T5 := Lib.hid ht5
        simp only [endN, List.drop_succ_cons, List.drop_zero]
        have hnb : ∀ (g : Nat) (xs : Array Value) (T : TypeId), Blk wr g xs T → T ≠ 48 → ¬ (Value.slice fa q fc).ownBlock = some g := fun g xs T hk hT e => by
          obtain ⟨css, r1, _⟩ := HOX.out
          exact row_not hk hT r1 e.symm
        have K5 : RowKit.Hid (Blk w5 b9 #[.int .i64 s, .int .i64 n, .int .i64 v, .int .u8 0, .int .u8 0, .slice fa q fc] 43) := Lib.hid (ht5.blk KK2.out (hnb _ _ _ KK2.out (by decide)))
        have K51 : RowKit.Hid (Blk w5 w.heap.size #[.int .i64 0, .int .i64 0, .int .i64 0, .int .u8 0, .int .u8 0, .slice none 0 0] 43) := Lib.hid (ht5.blk KK1.out (hnb _ _ _ KK1.out (by decide)))
        have k5 : w5.cell? ⟨b9, 5, none⟩ = some (.slice fa q fc) := K5.out.cell 5
        have f5 : w5.frozen? ⟨b9, 5, none⟩ = false := K5.out.frozen 5
        have HBF : RowKit.Hid (Below w.heap.size w (w5.setCell ⟨b9, 5, none⟩ (.slice a' (q + 1) c'))) := Lib.hid (by
          have := HB9.out
          refine (HB.out.trans (ht5.below HB.out.size (fun b e => ?_))).setCell (p := ⟨b9, 5, none⟩) (by show w.heap.size ≤ b9; omega) _
          obtain ⟨css, r1, _⟩ := HOX.out
          have h1 := (row_lt r1 b e).1
          have := HBE.out; omega)
        have KF := Lib.hid (K5.out.set 5 (.slice a' (q + 1) c'))
        have KF1 : RowKit.Hid (Blk (w5.setCell ⟨b9, 5, none⟩ (.slice a' (q + 1) c')) w.heap.size #[.int .i64 0, .int .i64 0, .int .i64 0, .int .u8 0, .int .u8 0, .slice none 0 0] 43) := Lib.hid (K51.out.set_ne _ _ (by have := HB9.out; show w.heap.size ≠ b9; omega))
        have HOF : RowKit.Hid (OwnX 48 4 B FldR (w5.setCell ⟨b9, 5, none⟩ (.slice a' (q + 1) c')) (.slice a' (q + 1) c') ((l.take q).map (fun p => fldS p.1 p.2) ++ [fldS p1 p2])) := Lib.hid (HOX5.out.tn keeps_fld ((Tn.refl (fun b => b = b9) w5).setCell (p := ⟨b9, 5, none⟩) (.inl rfl) _) (fun b e => by have := HB9.out; have := HBE.out; omega))
        have hzF : B ≤ (w5.setCell ⟨b9, 5, none⟩ (.slice a' (q + 1) c')).heap.size := by have := ht5.size; simp; omega
        have HZF := Lib.hid hzF
        clear hox5 ht5 hnb hzF k5 f5
        have k5 : w5.cell? ⟨b9, 5, none⟩ = some (.slice fa q fc) := K5.out.cell 5
        have f5 : w5.frozen? ⟨b9, 5, none⟩ = false := K5.out.frozen 5
        go_wp2_with fail
        refine ⟨⟨q + 1, _, hlt, by have := HJ0.out; exact congrArg (Value.int .i64) (by omega), HBF.out, KF1.out, KF.out, by rw [HTK.out]; exact HOF.out, HZF.out⟩, by simp [intOf]; omega⟩
    · obtain rfl : q = m := by omega
      have hdd : decide ((j0 : Int) + 1 < (n2 : Int)) = false := by have := HJ0.out; have := HN2.out; simp; omega
      have HLT : RowKit.Hid ((l.take q).map (fun p => fldS p.1 p.2) = (saysP s n v l).fs) := Lib.hid (by rw [HM.out, List.take_length]; rfl)
      go_wp2_with (first
        | refine wpList_load_row 43 (.tmp 9) rfl rfl rfl KK2.out Tryz.underlying43 rfl (by kernel_rfl) ?_
        | refine wpList_store_row rfl 43 (.tmp 8) (.tmp 39) rfl w.heap.size #[.int .i64 s, .int .i64 n, .int .i64 v, .int .u8 0, .int .u8 0, .slice fa q fc] rfl rfl 43 _ KK1.out (by kernel_rfl) rfl (by simp [Value.oneCell']) ?_)
      (try simp only [Exit.inBlock, Exit.then])
      refine bodyPost_ret (results_cell_row rfl _ _ w.heap.size 43 #[.int .i64 s, .int .i64 n, .int .i64 v, .int .u8 0, .int .u8 0, .slice fa q fc] (0, 0) _ rfl (setRow_heap _ _ _ _ _ _ KK1.out) Tryz.underlying43 rfl (by kernel_rfl)) rfl ?_
      refine ⟨[.int .i64 s, .int .i64 n, .int .i64 v, .int .u8 0, .int .u8 0, .slice fa q fc], rfl, ⟨_, rfl, ?_⟩, belowS HB.out (Nat.le_refl _)⟩
      have h1 := (HOX.out.own keeps_fld).slB (by omega)
      rw [HLT.out] at h1
      have hne : ∀ c, B ≤ c → c ≠ w.heap.size := fun c hc => by have := HBE.out; omega
      exact h1.keep (by omega) (fun c hc _ => setRow_other _ _ _ _ (hne c hc)) (fun cs x hx => keeps_fld _ _ _ _ _ _ hx (fun c hc _ => setRow_other _ _ _ _ (hne c hc)) (fun c hc _ => by have : B ≤ c := hc; have := HBE.out; show w.heap.size ≤ c; omega)) (fun c hc _ => by have : B ≤ c := hc; have := HBE.out; show w.heap.size ≤ c; omega)
end Go.Proofs.YtpdldbapagchfaaGreatDoor
