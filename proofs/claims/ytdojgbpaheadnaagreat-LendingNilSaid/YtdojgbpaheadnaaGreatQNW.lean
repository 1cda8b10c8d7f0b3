/- The walk of LendingNil. -/
import Derived.Test.YtdojgbpaheadnaaGreatQNL
import Derived.Test.YtdojgbpaheadnaaGreatQSN
import Derived.Deep.CutBlock
set_option linter.unusedVariables false
set_option linter.unusedSimpArgs false

namespace Go.Proofs.YtdojgbpaheadnaaGreat
open Go.RowKit Go.Shelf Go.Maps

theorem msgs_len {w : World} {B : Nat} {v : Value} {l : List Msg} (h : MsgsAt w B v l) : l.length ≤ 1 := by
  match l, h with
  | [], _ => simp
  | [m], _ => simp
theorem wpAnyH_apart6 {P : Program} {md : Region.Mode} {ops : Array Oper} {Q : Exit → Act → World → Prop} {S : World → Prop} {fuel : Nat} {L : Array Bool} {a : Act} {w : World} {a1 : Value → Value → Nat → Value → Value → Nat → Act} (F : World → Prop)
    (take : ∀ R : Act → World → Prop, (∀ x1 x2 n x3 x4 m w', F w' → R (a1 x1 x2 n x3 x4 m) w') → wpAnyH P md ops (only R) S fuel L a w) (rest : ∀ x1 x2 n x3 x4 m w', F w' → Q .normal (a1 x1 x2 n x3 x4 m) w') : wpAnyH P md ops Q S fuel L a w :=
  wpAnyH_mono (fun _ _ _ h => nomatch h.1) (fun ⟨_, _, h⟩ => nomatch h.1) (fun _ _ h => h.2) fuel L a w (take (Q .normal) rest)
theorem nenc_inf (m : Msg) : (Tryz.prog.info? 31).map (·.size) = some (encM m).size := by
  rw [show (encM m).size = 4 from rfl]; kernel_rfl
theorem nmsgs_at {w : World} {l : List Msg} {v : Value} {C : Nat} (h : MsgsAt w C v l) : ∀ g n c, v = .slice (some ⟨g, 0, none⟩) n c → C ≤ g ∧ g < w.heap.size := by
  intro g n c e
  match l, h with
  | [], h => rw [show v = _ from h] at e; cases e
  | [m], ⟨g', h1, h2, h3⟩ => rw [h2] at e; injection e with e; injection e with e; injection e with e; rw [← e]; exact ⟨h1, h3.lt⟩
set_option maxRecDepth 100000 in
set_option maxHeartbeats 16000000 in
theorem nilLaw (m : Msg) (q0 q1 : Int) (h0 : I64 q0) (h1 : I64 q1) (w : World) :
    Calls Tryz.prog 4 #[.agg (encM m), .agg #[i64 q0, i64 q1]] w fun r w' => r = .returned (.bool true) ∧ Below w.heap.size w w' := by
  obtain ⟨mf, mt, mn, mx⟩ := m
  have HQ := Lib.hid (And.intro h0 h1)
  clear h0 h1
  unfold encM
  go_enter Tryz.func4, Tryz.ntmps4
  go_wp2_with fail
  obtain ⟨w0, hw0⟩ : ∃ w0, w0 = (w.alloc (.cells #[i64 mf, i64 mt, i64 mn, strV mx] 31)).alloc (.cells #[i64 q0, i64 q1] 42) := ⟨_, rfl⟩
  obtain ⟨ma, hma⟩ : ∃ ma, ma = w.heap.size := ⟨_, rfl⟩
  obtain ⟨qa, hqa⟩ : ∃ qa, qa = ma + 1 := ⟨_, rfl⟩
  have hs1 : (w.alloc (.cells #[i64 mf, i64 mt, i64 mn, strV mx] 31)).heap.size = qa := by rw [size_alloc, hqa, hma]
  have MA : RowKit.Hid (Blk w0 ma #[i64 mf, i64 mt, i64 mn, strV mx] 31) := Lib.hid (by rw [hw0, hma]; exact (Blk.new _ _ _).alloc _)
  have QA : RowKit.Hid (Blk w0 qa #[i64 q0, i64 q1] 42) := Lib.hid (by rw [hw0, ← hs1]; exact Blk.new _ _ _)
  have BA : RowKit.Hid (Below w.heap.size w w0) := Lib.hid (by rw [hw0]; exact ((Below.refl _ _).alloc (Nat.le_refl _) _).alloc (by rw [size_alloc]; omega) _)
  have BB : RowKit.Hid (Below w0.heap.size w0 w0) := Lib.hid (Below.refl _ _)
  rw [← hw0, ← hma, ← hqa]
  have c0 : w0.cell? ⟨qa, 0, none⟩ = some (i64 q0) := QA.out.cell 0
  have c1 : w0.cell? ⟨qa, 1, none⟩ = some (i64 q1) := QA.out.cell 1
  clear hw0 hma hqa hs1
  go_wp2_with fail
  refine (sanity_any w0).mono ?_
  rintro e w1 ⟨rfl, hb⟩
  have B2 := Lib.hid (BB.out.trans (hb.mono BB.out.size))
  clear BB hb c0 c1
  have BB := B2
  clear B2
  have c0 : w1.cell? ⟨qa, 0, none⟩ = some (i64 q0) := Below.cellE BB.out (QA.out.cell 0)
  have c1 : w1.cell? ⟨qa, 1, none⟩ = some (i64 q1) := Below.cellE BB.out (QA.out.cell 1)
  go_wp2_with fail
  refine (nil_ask q0 q1 w1).mono ?_
  rintro e w2 ⟨rfl, hb⟩
  have B2 := Lib.hid (BB.out.trans (hb.mono BB.out.size))
  clear BB hb c0 c1
  have BB := B2
  clear B2
  have c0 : w2.cell? ⟨qa, 0, none⟩ = some (i64 q0) := Below.cellE BB.out (QA.out.cell 0)
  have c1 : w2.cell? ⟨qa, 1, none⟩ = some (i64 q1) := Below.cellE BB.out (QA.out.cell 1)
  go_wp2_with fail
  refine (nil_ret q0 w2).mono ?_
  rintro e w3 ⟨rfl, hb⟩
  have B2 := Lib.hid (BB.out.trans (hb.mono BB.out.size))
  clear BB hb c0 c1
  have BB := B2
  clear B2
  have c0 : w3.cell? ⟨qa, 0, none⟩ = some (i64 q0) := Below.cellE BB.out (QA.out.cell 0)
  have c1 : w3.cell? ⟨qa, 1, none⟩ = some (i64 q1) := Below.cellE BB.out (QA.out.cell 1)
  have d0 : w3.cell? ⟨ma, 0, none⟩ = some (i64 mf) := Below.cellE BB.out (MA.out.cell 0)
  have d1 : w3.cell? ⟨ma, 1, none⟩ = some (i64 mt) := Below.cellE BB.out (MA.out.cell 1)
  have d2 : w3.cell? ⟨ma, 2, none⟩ = some (i64 mn) := Below.cellE BB.out (MA.out.cell 2)
  have d3 : w3.cell? ⟨ma, 3, none⟩ = some (strV mx) := Below.cellE BB.out (MA.out.cell 3)
  go_wp2_with fail
  refine (nil_takeA ⟨mf, mt, mn, mx⟩ w3).mono ?_
  rintro e w4 ⟨rfl, hb⟩
  have B2 := Lib.hid (BB.out.trans (hb.mono BB.out.size))
  clear BB hb c0 c1
  have BB := B2
  clear B2
  have c0 : w4.cell? ⟨qa, 0, none⟩ = some (i64 q0) := Below.cellE BB.out (QA.out.cell 0)
  have c1 : w4.cell? ⟨qa, 1, none⟩ = some (i64 q1) := Below.cellE BB.out (QA.out.cell 1)
  clear d0 d1 d2 d3
  go_wp2_with fail
  refine (nil_tickA w4).mono ?_
  rintro e w5 ⟨rfl, hb⟩
  have B2 := Lib.hid (BB.out.trans (hb.mono BB.out.size))
  clear BB hb c0 c1
  have BB := B2
  clear B2
  have c0 : w5.cell? ⟨qa, 0, none⟩ = some (i64 q0) := Below.cellE BB.out (QA.out.cell 0)
  have c1 : w5.cell? ⟨qa, 1, none⟩ = some (i64 q1) := Below.cellE BB.out (QA.out.cell 1)
  go_wp2_with fail
  refine (nil_state q0 w5).mono ?_
  rintro e w6 ⟨rfl, hb⟩
  have B2 := Lib.hid (BB.out.trans (hb.mono BB.out.size))
  clear BB hb c0 c1
  have BB := B2
  clear B2
  have c0 : w6.cell? ⟨qa, 0, none⟩ = some (i64 q0) := Below.cellE BB.out (QA.out.cell 0)
  have c1 : w6.cell? ⟨qa, 1, none⟩ = some (i64 q1) := Below.cellE BB.out (QA.out.cell 1)
  go_wp2_with fail
  refine (nil_hereA w6).mono ?_
  rintro e w7 ⟨rfl, hb⟩
  have B2 := Lib.hid (BB.out.trans (hb.mono BB.out.size))
  clear BB hb c0 c1
  have BB := B2
  clear B2
  have c0 : w7.cell? ⟨qa, 0, none⟩ = some (i64 q0) := Below.cellE BB.out (QA.out.cell 0)
  have c1 : w7.cell? ⟨qa, 1, none⟩ = some (i64 q1) := Below.cellE BB.out (QA.out.cell 1)
  have d0 : w7.cell? ⟨ma, 0, none⟩ = some (i64 mf) := Below.cellE BB.out (MA.out.cell 0)
  have d1 : w7.cell? ⟨ma, 1, none⟩ = some (i64 mt) := Below.cellE BB.out (MA.out.cell 1)
  have d2 : w7.cell? ⟨ma, 2, none⟩ = some (i64 mn) := Below.cellE BB.out (MA.out.cell 2)
  have d3 : w7.cell? ⟨ma, 3, none⟩ = some (strV mx) := Below.cellE BB.out (MA.out.cell 3)
  go_wp2_with fail
  refine (nil_takeB ⟨mf, mt, mn, mx⟩ w7).mono ?_
  rintro e w8 ⟨rfl, hb⟩
  have B2 := Lib.hid (BB.out.trans (hb.mono BB.out.size))
  clear BB hb c0 c1
  have BB := B2
  clear B2
  have c0 : w8.cell? ⟨qa, 0, none⟩ = some (i64 q0) := Below.cellE BB.out (QA.out.cell 0)
  have c1 : w8.cell? ⟨qa, 1, none⟩ = some (i64 q1) := Below.cellE BB.out (QA.out.cell 1)
  clear d0 d1 d2 d3
  go_wp2_with fail
  refine (nil_tickB w8).mono ?_
  rintro e w9 ⟨rfl, hb⟩
  have B2 := Lib.hid (BB.out.trans (hb.mono BB.out.size))
  clear BB hb c0 c1
  have BB := B2
  clear B2
  have c0 : w9.cell? ⟨qa, 0, none⟩ = some (i64 q0) := Below.cellE BB.out (QA.out.cell 0)
  have c1 : w9.cell? ⟨qa, 1, none⟩ = some (i64 q1) := Below.cellE BB.out (QA.out.cell 1)
  have d0 : w9.cell? ⟨ma, 0, none⟩ = some (i64 mf) := Below.cellE BB.out (MA.out.cell 0)
  have d1 : w9.cell? ⟨ma, 1, none⟩ = some (i64 mt) := Below.cellE BB.out (MA.out.cell 1)
  have d2 : w9.cell? ⟨ma, 2, none⟩ = some (i64 mn) := Below.cellE BB.out (MA.out.cell 2)
  have d3 : w9.cell? ⟨ma, 3, none⟩ = some (strV mx) := Below.cellE BB.out (MA.out.cell 3)
  go_wp2_with fail
  refine (nil_takeL ⟨mf, mt, mn, mx⟩ w9).mono ?_
  rintro e w10 ⟨rfl, hb⟩
  have B2 := Lib.hid (BB.out.trans (hb.mono BB.out.size))
  clear BB hb c0 c1
  have BB := B2
  clear B2
  have c0 : w10.cell? ⟨qa, 0, none⟩ = some (i64 q0) := Below.cellE BB.out (QA.out.cell 0)
  have c1 : w10.cell? ⟨qa, 1, none⟩ = some (i64 q1) := Below.cellE BB.out (QA.out.cell 1)
  clear d0 d1 d2 d3
  go_wp2_with fail
  refine (nil_tickL w10).mono ?_
  rintro e w11 ⟨rfl, hb⟩
  have B2 := Lib.hid (BB.out.trans (hb.mono BB.out.size))
  clear BB hb c0 c1
  have BB := B2
  clear B2
  have c0 : w11.cell? ⟨qa, 0, none⟩ = some (i64 q0) := Below.cellE BB.out (QA.out.cell 0)
  have c1 : w11.cell? ⟨qa, 1, none⟩ = some (i64 q1) := Below.cellE BB.out (QA.out.cell 1)
  go_wp2_with fail
  refine (nil_hereL w11).mono ?_
  rintro e w12 ⟨rfl, hb⟩
  have B2 := Lib.hid (BB.out.trans (hb.mono BB.out.size))
  clear BB hb c0 c1
  have BB := B2
  clear B2
  have c0 : w12.cell? ⟨qa, 0, none⟩ = some (i64 q0) := Below.cellE BB.out (QA.out.cell 0)
  have c1 : w12.cell? ⟨qa, 1, none⟩ = some (i64 q1) := Below.cellE BB.out (QA.out.cell 1)
  go_upto_region 10 with fail
  obtain ⟨za, hza⟩ : ∃ za, za = w12.heap.size := ⟨_, rfl⟩
  obtain ⟨w13, hww13⟩ : ∃ w13, w13 = w12.alloc (.cells #[i64 0, i64 0, i64 0, .map none] 55) := ⟨_, rfl⟩
  have ZA : RowKit.Hid (Blk w13 za #[i64 0, i64 0, i64 0, .map none] 55) := Lib.hid (by rw [hww13, hza]; exact Blk.new _ _ _)
  have BN : RowKit.Hid (Below w12.heap.size w12 w13) := Lib.hid (by rw [hww13]; exact (Below.refl _ _).alloc (Nat.le_refl _) _)
  have B2 := Lib.hid (BB.out.trans (BN.out.mono BB.out.size))
  have hzza : w0.heap.size ≤ za := by rw [hza]; exact BB.out.size
  clear BB c0 c1
  have BB := B2
  clear B2
  have c0 : w13.cell? ⟨qa, 0, none⟩ = some (i64 q0) := Below.cellE BB.out (QA.out.cell 0)
  have c1 : w13.cell? ⟨qa, 1, none⟩ = some (i64 q1) := Below.cellE BB.out (QA.out.cell 1)
  rw [← hww13, ← hza]
  have HXza := Lib.hid hza
  clear hww13 hza
  clear BN
  go_upto_region 11 with fail
  obtain ⟨zb, hzb⟩ : ∃ zb, zb = w13.heap.size := ⟨_, rfl⟩
  obtain ⟨w14, hww14⟩ : ∃ w14, w14 = w13.alloc (.cells #[i64 0, i64 0, .slice none 0 0, .map none] 58) := ⟨_, rfl⟩
  have ZB0 : RowKit.Hid (Blk w14 zb #[i64 0, i64 0, .slice none 0 0, .map none] 58) := Lib.hid (by rw [hww14, hzb]; exact Blk.new _ _ _)
  have BN : RowKit.Hid (Below w13.heap.size w13 w14) := Lib.hid (by rw [hww14]; exact (Below.refl _ _).alloc (Nat.le_refl _) _)
  have B2 := Lib.hid (BB.out.trans (BN.out.mono BB.out.size))
  have hzzb : w0.heap.size ≤ zb := by rw [hzb]; exact BB.out.size
  clear BB c0 c1
  have BB := B2
  clear B2
  have c0 : w14.cell? ⟨qa, 0, none⟩ = some (i64 q0) := Below.cellE BB.out (QA.out.cell 0)
  have c1 : w14.cell? ⟨qa, 1, none⟩ = some (i64 q1) := Below.cellE BB.out (QA.out.cell 1)
  rw [← hww14, ← hzb]
  have HXzb := Lib.hid hzb
  clear hww14 hzb
  have NE1 : RowKit.Hid (za < zb) := Lib.hid (by rw [HXzb.out]; exact ZA.out.lt)
  have ZA4 := Lib.hid (ZA.out.below BN.out ZA.out.lt)
  clear BN
  go_upto_region 12 with fail
  obtain ⟨zl, hzl⟩ : ∃ zl, zl = w14.heap.size := ⟨_, rfl⟩
  obtain ⟨w15, hww15⟩ : ∃ w15, w15 = w14.alloc (.cells #[i64 0, i64 0, .slice none 0 0, .map none] 61) := ⟨_, rfl⟩
  have ZL0 : RowKit.Hid (Blk w15 zl #[i64 0, i64 0, .slice none 0 0, .map none] 61) := Lib.hid (by rw [hww15, hzl]; exact Blk.new _ _ _)
  have BN : RowKit.Hid (Below w14.heap.size w14 w15) := Lib.hid (by rw [hww15]; exact (Below.refl _ _).alloc (Nat.le_refl _) _)
  have B2 := Lib.hid (BB.out.trans (BN.out.mono BB.out.size))
  have hzzl : w0.heap.size ≤ zl := by rw [hzl]; exact BB.out.size
  clear BB c0 c1
  have BB := B2
  clear B2
  have c0 : w15.cell? ⟨qa, 0, none⟩ = some (i64 q0) := Below.cellE BB.out (QA.out.cell 0)
  have c1 : w15.cell? ⟨qa, 1, none⟩ = some (i64 q1) := Below.cellE BB.out (QA.out.cell 1)
  rw [← hww15, ← hzl]
  have HXzl := Lib.hid hzl
  clear hww15 hzl
  have NE2 : RowKit.Hid (zb < zl) := Lib.hid (by rw [HXzl.out]; exact ZB0.out.lt)
  have ZA5 := Lib.hid (ZA4.out.below BN.out ZA4.out.lt)
  have ZB5 := Lib.hid (ZB0.out.below BN.out ZB0.out.lt)
  clear BN ZA ZA4 ZB0
  obtain ⟨R, hR⟩ : ∃ R, R = (⟨0, 0, 0, []⟩ : Asr).ask q0 q1 := ⟨_, rfl⟩
  have HR := Lib.hid hR
  clear hR
  go_wp2_with fail
  have AK := ask_any za za 0 ⟨0, 0, 0, []⟩ (.map none) q0 q1 w15 (zeroAsk ZA5.out) (Nat.le_of_lt ZA5.out.lt) (by omega) HQ.out.1 HQ.out.2
  rw [← HR.out] at AK
  refine AK.mono ?_
  clear AK
  rintro e w16 ⟨v18, mv16, rfl, hm, -, hT, -⟩
  have HLR : RowKit.Hid (R.1.2.length ≤ 1) := Lib.hid (msgs_len hm)
  have U := Lib.hid hm.sl
  have oz : ∀ j, OwnA za (.map none) j → j = za := fun j h => by rcases h with h | h; exact h; cases h
  have T16 : RowKit.Hid (Tn (fun j => j = za) w15 w16) := Lib.hid (hT.mono oz)
  have ZB := Lib.hid (T16.out.blk ZB5.out (by have := NE1.out; omega))
  have ZL := Lib.hid (T16.out.blk ZL0.out (by have := NE1.out; have := NE2.out; omega))
  have B16 : RowKit.Hid (Below w0.heap.size w0 w16) := Lib.hid (BB.out.trans (T16.out.below BB.out.size fun j hj => by rw [show j = za from hj]; exact hzza))
  have QB : RowKit.Hid (Blk w16 qa #[i64 q0, i64 q1] 42) := Lib.hid (QA.out.below B16.out QA.out.lt)
  clear hm hT oz BB c0 c1 ZB5 ZL0 ZA5 T16
  obtain ⟨S, hS⟩ : ∃ S : World → Prop, S = fun W => Blk W qa #[i64 q0, i64 q1] 42 := ⟨_, rfl⟩
  have LD : RowKit.Hid (∀ W, S W → W.cell? ⟨qa, 0, none⟩ = some (i64 q0) ∧ W.cell? ⟨qa, 1, none⟩ = some (i64 q1)) := Lib.hid (by rw [hS]; exact fun W h => ⟨h.cell 0, h.cell 1⟩)
  have UU : RowKit.Hid (∀ W, Blk W qa #[i64 q0, i64 q1] 42 → S W) := Lib.hid (by rw [hS]; exact fun W h => h)
  have LB : RowKit.Hid (∀ W, S W → Blk W qa #[i64 q0, i64 q1] 42) := Lib.hid (by rw [hS]; exact fun W h => h)
  have hHeld := UU.out _ QB.out.drew
  clear hS
  go_wp2_with fail
  refine wp_region_held_drew (S := S) (by kernel_rfl) hHeld (fun _ => ?_)
  apply wpAnyH_apartV (fun v W => MSl W v18 R.1.2 ∧ MSl W v R.1.2 ∧ Blk W zb #[i64 0, i64 0, .slice none 0 0, .map none] 58 ∧ Blk W zl #[i64 0, i64 0, .slice none 0 0, .map none] 61 ∧ Below w0.heap.size w0 W)
  case take =>
    intro R0 hR0
    refine wpAnyH_take (i := 1) (v := ?_) rfl (by kernel_rfl) (by kernel_rfl) (by kernel_rfl) (fun _ _ _ h => only_panic h) (Or.inl ⟨by rfl, ?_⟩) hHeld ?_
    rotate_left
    · (intro w hSw; obtain ⟨l0, l1⟩ := LD.out w hSw; go_simp; try (with_reducible rfl))
    try simp only [gA, gB, gC, Act.put, gD, gE, gF]
    refine wpAnyH_take (i := 2) (v := ?_) rfl (by kernel_rfl) (by kernel_rfl) (by kernel_rfl) (fun _ _ _ h => only_panic h) (Or.inl ⟨by rfl, ?_⟩) hHeld ?_
    rotate_left
    · (intro w hSw; obtain ⟨l0, l1⟩ := LD.out w hSw; go_simp; try (with_reducible rfl))
    try simp only [gA, gB, gC, Act.put, gD, gE, gF]
    refine wpAnyH_take (i := 3) (v := ?_) rfl (by kernel_rfl) (by kernel_rfl) (by kernel_rfl) (fun _ _ _ h => only_panic h) (Or.inl ⟨by rfl, ?_⟩) hHeld ?_
    rotate_left
    · (intro w hSw; obtain ⟨l0, l1⟩ := LD.out w hSw; go_simp; try (with_reducible rfl))
    try simp only [gA, gB, gC, Act.put, gD, gE, gF]
    refine wpAnyH_take (i := 4) (v := ?_) rfl (by kernel_rfl) (by kernel_rfl) (by kernel_rfl) (fun _ _ _ h => only_panic h) (Or.inl ⟨by rfl, ?_⟩) hHeld ?_
    rotate_left
    · (intro w hSw; obtain ⟨l0, l1⟩ := LD.out w hSw; go_simp; try (with_reducible rfl))
    try simp only [gA, gB, gC, Act.put, gD, gE, gF]
    refine wpAnyH_one (i := 0) rfl (by kernel_rfl) (by rfl) ?_
    go_simp
    refine (rnewA_any 0 0 ⟨by omega, by omega⟩ ⟨by omega, by omega⟩ w16.drew).mono ?_
    rintro e W1 ⟨rfl, hM1, hb1⟩
    have hHeld := UU.out _ (QB.out.drew.below hb1 QB.out.drew.lt)
    refine ⟨hHeld, ?_⟩
    refine wpAnyH_one (i := 5) rfl (by kernel_rfl) (by rfl) ?_
    go_simp
    have AK := rask_any _ _ 0 ⟨0, 0, 0, []⟩ _ q0 q1 W1 hM1 (by omega) HQ.out.1 HQ.out.2
    rw [← HR.out] at AK
    refine AK.mono ?_
    clear AK
    rintro e W2 ⟨v20, lv', rfl, hm2, -, hT2, -⟩
    have hz16 : w16.drew.heap.size = w16.heap.size := rfl
    have own : ∀ j, OwnRA w16.drew.heap.size (.slice none 0 0) j → w16.heap.size ≤ j := fun j h => by
      rcases h with h | h
      · rw [h]; exact Nat.le_refl _
      · simp [Value.ownBlock] at h
    have T2 : RowKit.Hid (Below w16.heap.size w16 W2) := Lib.hid (((Below.refl w16.heap.size w16).drew.trans hb1).trans (hT2.below (B := w16.heap.size) hb1.size own))
    have hHeld := UU.out _ (QB.out.below T2.out QB.out.lt)
    have FF : RowKit.Hid (MSl W2 v18 R.1.2 ∧ MSl W2 v20 R.1.2 ∧ Blk W2 zb #[i64 0, i64 0, .slice none 0 0, .map none] 58 ∧ Blk W2 zl #[i64 0, i64 0, .slice none 0 0, .map none] 61 ∧ Below w0.heap.size w0 W2) := Lib.hid
      ⟨U.out.below T2.out, hm2.sl, ZB.out.below T2.out ZB.out.lt, ZL.out.below T2.out ZL.out.lt, B16.out.trans (T2.out.mono B16.out.size)⟩
    clear hM1 hb1 hm2 hT2 own hz16
    refine ⟨hHeld, ?_⟩
    refine wpAnyH_take (i := 6) (v := ?_) rfl (by kernel_rfl) (by kernel_rfl) (by kernel_rfl) (fun _ _ _ h => only_panic h) (Or.inl ⟨by rfl, ?_⟩) hHeld ?_
    rotate_left
    · (intro w hSw; clear hSw; go_simp; try (with_reducible rfl))
    try simp only [gA, gB, gC, Act.put, gD, gE, gF]
    refine wpAnyH_take (i := 7) (v := ?_) rfl (by kernel_rfl) (by kernel_rfl) (by kernel_rfl) (fun _ _ _ h => only_panic h) (Or.inl ⟨by rfl, ?_⟩) hHeld ?_
    rotate_left
    · (intro w hSw; clear hSw; go_simp; try (with_reducible rfl))
    try simp only [gA, gB, gC, Act.put, gD, gE, gF]
    refine wpAnyH_take (i := 8) (v := ?_) rfl (by kernel_rfl) (by kernel_rfl) (by kernel_rfl) (fun _ _ _ h => only_panic h) (Or.inl ⟨by rfl, ?_⟩) hHeld ?_
    rotate_left
    · (intro w hSw; clear hSw; go_simp; try (with_reducible rfl))
    try simp only [gA, gB, gC, Act.put, gD, gE, gF]
    refine wpAnyH_take (i := 9) (v := ?_) rfl (by kernel_rfl) (by kernel_rfl) (by kernel_rfl) (fun _ _ _ h => only_panic h) (Or.inl ⟨by rfl, ?_⟩) hHeld ?_
    rotate_left
    · (intro w hSw; clear hSw; go_simp; try (with_reducible rfl))
    try simp only [gA, gB, gC, Act.put, gD, gE, gF]
    refine wpAnyH_take (i := 10) (v := ?_) rfl (by kernel_rfl) (by kernel_rfl) (by kernel_rfl) (fun _ _ _ h => only_panic h) (Or.inl ⟨by rfl, ?_⟩) hHeld ?_
    rotate_left
    · (intro w hSw; clear hSw; go_simp; try (with_reducible rfl))
    try simp only [gA, gB, gC, Act.put, gD, gE, gF]
    exact wpAnyH_done (by kernel_rfl) ⟨rfl, hR0 v20 _ FF.out⟩ _
  rintro v20 w17 ⟨hU, hV, hZB, hZL, hB⟩
  have U17 := Lib.hid (And.intro hU hV)
  have ZB17 := Lib.hid hZB
  have ZL17 := Lib.hid hZL
  have B17 := Lib.hid hB
  clear hU hV hZB hZL hB U ZB ZL B16 QB
  go_wp2_with fail
  refine (text_any 1 2 3 4 w17 ⟨by omega, by omega⟩ ⟨by omega, by omega⟩ ⟨by omega, by omega⟩ ⟨by omega, by omega⟩).mono ?_
  rintro e w18 ⟨rfl, hb18⟩
  obtain ⟨X, hX⟩ : ∃ X, X = txt 1 2 3 4 := ⟨_, rfl⟩
  rw [← hX]
  have HX := Lib.hid hX
  have B18 := Lib.hid hb18
  clear hX hb18
  go_wp2_with fail
  obtain ⟨vb, hvb⟩ : ∃ vb, vb = w18.heap.size := ⟨_, rfl⟩
  obtain ⟨w19, hw19⟩ : ∃ w19, w19 = w18.alloc (.cells (encM ⟨2, 0, 0, X⟩) 31) := ⟨_, rfl⟩
  have V19 : RowKit.Hid (Blk w19 vb (encM ⟨2, 0, 0, X⟩) 31) := Lib.hid (by rw [hw19, hvb]; exact Blk.new _ _ _)
  have T19 : RowKit.Hid (Below w17.heap.size w17 w19) := Lib.hid (B18.out.trans (by rw [hw19]; exact ((Below.refl w18.heap.size w18).alloc (Nat.le_refl _) _).mono B18.out.size))
  have LV : RowKit.Hid (w17.heap.size ≤ vb) := Lib.hid (by rw [hvb]; exact B18.out.size)
  rw [show w18.alloc (.cells #[i64 2, i64 0, i64 0, .string { data := X.toArray }] 31) = w19 from hw19.symm, ← hvb]
  clear hw19 hvb B18
  refine (text_any 2 2 3 4 w19 ⟨by omega, by omega⟩ ⟨by omega, by omega⟩ ⟨by omega, by omega⟩ ⟨by omega, by omega⟩).mono ?_
  rintro e w20 ⟨rfl, hb20⟩
  obtain ⟨Y, hY⟩ : ∃ Y, Y = txt 2 2 3 4 := ⟨_, rfl⟩
  rw [← hY]
  have HY := Lib.hid hY
  have V20 := Lib.hid (V19.out.below hb20 V19.out.lt)
  have T20 := Lib.hid (T19.out.trans (hb20.mono T19.out.size))
  have LW20 : RowKit.Hid (vb < w20.heap.size) := Lib.hid V20.out.lt
  clear hY hb20 V19 T19
  go_wp2_with fail
  obtain ⟨sb, hsb⟩ : ∃ sb, sb = w20.heap.size := ⟨_, rfl⟩
  obtain ⟨w21, hw21⟩ : ∃ w21, w21 = w20.alloc (.cells (encM ⟨0, 0, 0, Y⟩) 31) := ⟨_, rfl⟩
  have S21 : RowKit.Hid (Blk w21 sb (encM ⟨0, 0, 0, Y⟩) 31) := Lib.hid (by rw [hw21, hsb]; exact Blk.new _ _ _)
  have D21 : Below w20.heap.size w20 w21 := by rw [hw21]; exact (Below.refl _ _).alloc (Nat.le_refl _) _
  have V21 := Lib.hid (V20.out.below D21 V20.out.lt)
  have T21 : RowKit.Hid (Below w17.heap.size w17 w21) := Lib.hid (T20.out.trans (D21.mono T20.out.size))
  have LS : RowKit.Hid (vb < sb) := Lib.hid (by rw [hsb]; exact LW20.out)
  rw [show w20.alloc (.cells #[i64 0, i64 0, i64 0, .string { data := Y.toArray }] 31) = w21 from hw21.symm, ← hsb]
  clear hw21 hsb D21 V20 T20 LW20
  have LZ : RowKit.Hid (zb < zl ∧ zl < vb) := Lib.hid ⟨NE2.out, Nat.lt_of_lt_of_le ZL17.out.lt LV.out⟩
  have ZB := Lib.hid (ZB17.out.below T21.out ZB17.out.lt)
  have ZL := Lib.hid (ZL17.out.below T21.out ZL17.out.lt)
  have U : RowKit.Hid (MSl w21 v18 R.1.2 ∧ MSl w21 v20 R.1.2) := Lib.hid ⟨U17.out.1.below T21.out, U17.out.2.below T21.out⟩
  have BB : RowKit.Hid (Below w0.heap.size w0 w21) := Lib.hid (B17.out.trans (T21.out.mono B17.out.size))
  have HB0 : RowKit.Hid (w0.heap.size ≤ zb) := Lib.hid hzzb
  have HB1 : RowKit.Hid (w0.heap.size ≤ zl) := Lib.hid hzzl
  clear U17 ZB17 ZL17 B17 T21 hzza hzzb hzzl
  have MX : RowKit.Hid (X.length ≤ 1000) := Lib.hid (by rw [HX.out]; exact Nat.le_trans (txt_short ⟨⟨by dsimp only; omega, by dsimp only; omega⟩, ⟨by dsimp only; omega, by dsimp only; omega⟩, ⟨by dsimp only; omega, by dsimp only; omega⟩, ⟨by dsimp only; omega, by dsimp only; omega⟩⟩) (by omega))
  have MY : RowKit.Hid (Y.length ≤ 1000) := Lib.hid (by rw [HY.out]; exact Nat.le_trans (txt_short ⟨⟨by dsimp only; omega, by dsimp only; omega⟩, ⟨by dsimp only; omega, by dsimp only; omega⟩, ⟨by dsimp only; omega, by dsimp only; omega⟩, ⟨by dsimp only; omega, by dsimp only; omega⟩⟩) (by omega))
  have DX : RowKit.Hid (dec X = some (1, 2, 3, 4)) := Lib.hid (by rw [HX.out]; exact dec_ints (q := (1, 2, 3, 4)) ⟨⟨by dsimp only; omega, by dsimp only; omega⟩, ⟨by dsimp only; omega, by dsimp only; omega⟩, ⟨by dsimp only; omega, by dsimp only; omega⟩, ⟨by dsimp only; omega, by dsimp only; omega⟩⟩)
  obtain ⟨S, hS⟩ : ∃ S : World → Prop, S = fun W => Blk W vb (encM ⟨2, 0, 0, X⟩) 31 ∧ Blk W sb (encM ⟨0, 0, 0, Y⟩) 31 := ⟨_, rfl⟩
  have L1 : RowKit.Hid (∀ W, S W → Blk W vb (encM ⟨2, 0, 0, X⟩) 31) := Lib.hid (by rw [hS]; exact fun W h => h.1)
  have L2 : RowKit.Hid (∀ W, S W → Blk W sb (encM ⟨0, 0, 0, Y⟩) 31) := Lib.hid (by rw [hS]; exact fun W h => h.2)
  have UU : RowKit.Hid (∀ W, Blk W vb (encM ⟨2, 0, 0, X⟩) 31 → Blk W sb (encM ⟨0, 0, 0, Y⟩) 31 → S W) := Lib.hid (by rw [hS]; exact fun W h h' => ⟨h, h'⟩)
  have hHeld := UU.out _ V21.out.drew S21.out.drew
  clear hS
  go_wp2_with fail
  refine wp_region_held_drew (S := S) (by kernel_rfl) hHeld (fun _ => ?_)
  apply wpAnyH_apart6 (fun W => Below w0.heap.size w0 W)
  case take =>
    intro R0 hR0
    refine wpAnyH_take (i := 0) (v := ?_) rfl (by kernel_rfl) (by kernel_rfl) (by kernel_rfl) (fun _ _ _ h => only_panic h) (Or.inl ⟨by rfl, ?_⟩) hHeld ?_
    rotate_left
    · (intro w hSw; clear hSw; go_simp; try (with_reducible rfl))
    try simp only [gA, gB, gC, Act.put, gD, gE, gF]
    refine wpAnyH_take (i := 1) (v := ?_) rfl (by kernel_rfl) (by kernel_rfl) (by kernel_rfl) (fun _ _ _ h => only_panic h) (Or.inl ⟨by rfl, ?_⟩) hHeld ?_
    rotate_left
    · (intro w hSw; clear hSw; go_simp; try (with_reducible rfl))
    try simp only [gA, gB, gC, Act.put, gD, gE, gF]
    refine wpAnyH_take (i := 2) (v := ?_) rfl (by kernel_rfl) (by kernel_rfl) (by kernel_rfl) (fun _ _ _ h => only_panic h) (Or.inl ⟨by rfl, ?_⟩) hHeld ?_
    rotate_left
    · (intro w hSw; clear hSw; go_simp; try (with_reducible rfl))
    try simp only [gA, gB, gC, Act.put, gD, gE, gF]
    refine wpAnyH_take (i := 3) (v := ?_) rfl (by kernel_rfl) (by kernel_rfl) (by kernel_rfl) (fun _ _ _ h => only_panic h) (Or.inl ⟨by rfl, ?_⟩) hHeld ?_
    rotate_left
    · (intro w hSw; clear hSw; go_simp; try (with_reducible rfl))
    try simp only [gA, gB, gC, Act.put, gD, gE, gF]
    refine wpAnyH_take (i := 4) (v := ?_) rfl (by kernel_rfl) (by kernel_rfl) (by kernel_rfl) (fun _ _ _ h => only_panic h) (Or.inl ⟨by rfl, ?_⟩) hHeld ?_
    rotate_left
    · (intro w hSw; clear hSw; go_simp; try (with_reducible rfl))
    try simp only [gA, gB, gC, Act.put, gD, gE, gF]
    refine wpAnyH_take (i := 5) (v := ?_) rfl (by kernel_rfl) (by kernel_rfl) (by kernel_rfl) (fun _ _ _ h => only_panic h) (Or.inl ⟨by rfl, ?_⟩) hHeld ?_
    rotate_left
    · (intro w hSw; clear hSw; go_simp; try (with_reducible rfl))
    try simp only [gA, gB, gC, Act.put, gD, gE, gF]
    refine wpAnyH_one (i := 6) rfl (by kernel_rfl) (by rfl) ?_
    go_simp
    refine (msame_any v18 v20 R.1.2 w21.drew (U.out.1.below (Below.refl w21.heap.size w21).drew) (U.out.2.below (Below.refl w21.heap.size w21).drew) (Nat.le_trans HLR.out (by omega))).mono ?_
    rintro e W1 ⟨rfl, hb1⟩
    have C1 : RowKit.Hid (Below w21.heap.size w21 W1) := Lib.hid ((Below.refl w21.heap.size w21).drew.trans hb1)
    have hHeld := UU.out _ (V21.out.below C1.out V21.out.lt) (S21.out.below C1.out S21.out.lt)
    have ZB1 := Lib.hid (ZB.out.below C1.out ZB.out.lt)
    have ZL1 := Lib.hid (ZL.out.below C1.out ZL.out.lt)
    clear hb1
    refine ⟨hHeld, ?_⟩
    refine wpAnyH_take (i := 7) (v := ?_) rfl (by kernel_rfl) (by kernel_rfl) (by kernel_rfl) (fun _ _ _ h => only_panic h) (Or.inl ⟨by rfl, ?_⟩) hHeld ?_
    rotate_left
    · (intro w hSw; clear hSw; go_simp; try (with_reducible rfl))
    try simp only [gA, gB, gC, Act.put, gD, gE, gF]
    refine wpAnyH_take (i := 8) (v := ?_) rfl (by kernel_rfl) (by kernel_rfl) (by kernel_rfl) (fun _ _ _ h => only_panic h) (Or.inl ⟨by rfl, ?_⟩) hHeld ?_
    rotate_left
    · (intro w hSw; clear hSw; go_simp; try (with_reducible rfl))
    try simp only [gA, gB, gC, Act.put, gD, gE, gF]
    refine wpAnyH_take (i := 9) (v := ?_) rfl (by kernel_rfl) (by kernel_rfl) (by kernel_rfl) (fun _ _ _ h => only_panic h) (Or.inl ⟨by rfl, ?_⟩) hHeld ?_
    rotate_left
    · (intro w hSw; clear hSw; go_simp; try (with_reducible rfl))
    try simp only [gA, gB, gC, Act.put, gD, gE, gF]
    refine wpAnyH_take (i := 10) (v := .agg (encM ⟨2, 0, 0, X⟩)) rfl (by kernel_rfl) (by kernel_rfl) (by kernel_rfl) (fun _ _ _ h => only_panic h) ?_ hHeld ?_
    · exact yields_row (.tmp 22) (by rfl) rfl rfl L1.out Tryz.underlying31 rfl (nenc_inf _)
    try simp only [gA, gB, gC, Act.put, gD, gE, gF]
    refine wpAnyH_take (i := 13) (v := .agg (encM ⟨2, 0, 0, X⟩)) rfl (by kernel_rfl) (by kernel_rfl) (by kernel_rfl) (fun _ _ _ h => only_panic h) ?_ hHeld ?_
    · exact yields_row (.tmp 22) (by rfl) rfl rfl L1.out Tryz.underlying31 rfl (nenc_inf _)
    try simp only [gA, gB, gC, Act.put, gD, gE, gF]
    refine wpAnyH_one (i := 11) rfl (by kernel_rfl) (by rfl) ?_
    go_simp
    refine (bTake_any zb zb 0 ⟨0, 0, [], []⟩ (.slice none 0 0) (.map none) [] _ ⟨2, 0, 0, X⟩ W1 (zeroBrk ZB1.out) (Nat.le_of_lt ZB1.out.lt) (by omega) (by have := MX.out; dsimp only; omega)).mono ?_
    rintro e W2 ⟨v1, mv', G', o', rfl, hm1, -, hT1, -⟩
    have own1 : ∀ k, (if k = zb then 1 else 0) ≠ 0 → k = zb := fun k h => by
      by_cases e : k = zb
      · exact e
      · rw [if_neg e] at h; exact absurd rfl h
    have T2 : RowKit.Hid (Tn (fun k => k = zb) W1 W2) := Lib.hid (hT1.mono own1)
    have M1 := Lib.hid hm1.sl
    have G1 := Lib.hid (nmsgs_at hm1)
    have HL1 := Lib.hid (msgs_len hm1)
    have hHeld := UU.out _ (T2.out.blk (L1.out _ hHeld) (by have := LZ.out; omega)) (T2.out.blk (L2.out _ hHeld) (by have := LZ.out; have := LS.out; omega))
    have ZL2 := Lib.hid (T2.out.blk ZL1.out (by have := LZ.out; omega))
    have C2 : RowKit.Hid (Below w0.heap.size w0 W2) := Lib.hid ((BB.out.trans (C1.out.mono BB.out.size)).trans (T2.out.below (Nat.le_trans BB.out.size C1.out.size) fun j hj => by rw [show j = zb from hj]; exact HB0.out))
    have VL : RowKit.Hid (vb < W2.heap.size ∧ sb < W2.heap.size) := Lib.hid ⟨(L1.out _ hHeld).lt, (L2.out _ hHeld).lt⟩
    clear hm1 hT1 own1 ZB1 ZL1
    refine ⟨hHeld, ?_⟩
    refine wpAnyH_one (i := 12) rfl (by kernel_rfl) (by rfl) ?_
    go_simp
    refine (rbnew_any 0 ⟨by omega, by omega⟩ [] (by simp) (fun x hx => (by cases hx)) (.slice none 0 0) 0 W2 (World.ownsRow_nil _ _ _ _)).mono ?_
    rintro e W3 ⟨rb, rv, rfl, hRM, hb3⟩
    have C3 : RowKit.Hid (Below w0.heap.size w0 W3) := Lib.hid (C2.out.trans (hb3.mono C2.out.size))
    have hHeld := UU.out _ ((L1.out _ hHeld).below hb3 (L1.out _ hHeld).lt) ((L2.out _ hHeld).below hb3 (L2.out _ hHeld).lt)
    have ZL3 := Lib.hid (ZL2.out.below hb3 ZL2.out.lt)
    have M3 := Lib.hid (M1.out.below hb3)
    have RM3 := Lib.hid hRM
    have GZ : RowKit.Hid (∀ j, OwnRB rb rv (.slice none 0 0) j → W2.heap.size ≤ j) := Lib.hid fun j h => (RM3.out.own_lt h).1
    clear hRM hb3
    refine ⟨hHeld, ?_⟩
    refine wpAnyH_one (i := 14) rfl (by kernel_rfl) (by rfl) ?_
    go_simp
    refine (rbtake_a W2.heap.size rb 0 ⟨0, 0, [], []⟩ rv (.slice none 0 0) [] 2 0 X 1 2 3 4 W3 RM3.out (by omega) (by have := MX.out; omega) DX.out rfl ⟨rfl, rfl⟩).mono ?_
    rintro e W4 ⟨v2, lv4, G4, rfl, hm2, -, hT4, -⟩
    have T4 := Lib.hid hT4
    have M4 := Lib.hid (M3.out.tn T4.out fun g n c e h => by have h1 := (G1.out g n c e).2; have h2 := GZ.out g h; omega)
    have N4 := Lib.hid hm2.sl
    have hHeld := UU.out _ (T4.out.blk (L1.out _ hHeld) (fun h => by have h1 := GZ.out _ h; have h2 := VL.out.1; omega)) (T4.out.blk (L2.out _ hHeld) (fun h => by have h1 := GZ.out _ h; have h2 := VL.out.2; omega))
    have ZL4 := Lib.hid (T4.out.blk ZL3.out (fun h => by have h1 := GZ.out _ h; have h2 := ZL2.out.lt; omega))
    have C4 : RowKit.Hid (Below w0.heap.size w0 W4) := Lib.hid (C3.out.trans (T4.out.below C3.out.size fun j hj => Nat.le_trans C2.out.size (GZ.out j hj)))
    clear hm2 hT4 M1 M3 ZL2 ZL3 RM3 GZ G1 VL
    refine ⟨hHeld, ?_⟩
    refine wpAnyH_one (i := 15) rfl (by kernel_rfl) (by rfl) ?_
    go_simp
    refine (msame_any v1 v2 _ W4 M4.out N4.out (Nat.le_trans HL1.out (by omega))).mono ?_
    rintro e W5 ⟨rfl, hb5⟩
    have C5 : RowKit.Hid (Below w0.heap.size w0 W5) := Lib.hid (C4.out.trans (hb5.mono C4.out.size))
    have hHeld := UU.out _ ((L1.out _ hHeld).below hb5 (L1.out _ hHeld).lt) ((L2.out _ hHeld).below hb5 (L2.out _ hHeld).lt)
    have ZL5 := Lib.hid (ZL4.out.below hb5 ZL4.out.lt)
    clear hb5 M4 N4 ZL4
    refine ⟨hHeld, ?_⟩
    refine wpAnyH_take (i := 16) (v := ?_) rfl (by kernel_rfl) (by kernel_rfl) (by kernel_rfl) (fun _ _ _ h => only_panic h) (Or.inl ⟨by rfl, ?_⟩) hHeld ?_
    rotate_left
    · (intro w hSw; clear hSw; go_simp; try (with_reducible rfl))
    try simp only [gA, gB, gC, Act.put, gD, gE, gF]
    refine wpAnyH_take (i := 17) (v := ?_) rfl (by kernel_rfl) (by kernel_rfl) (by kernel_rfl) (fun _ _ _ h => only_panic h) (Or.inl ⟨by rfl, ?_⟩) hHeld ?_
    rotate_left
    · (intro w hSw; clear hSw; go_simp; try (with_reducible rfl))
    try simp only [gA, gB, gC, Act.put, gD, gE, gF]
    refine wpAnyH_take (i := 18) (v := ?_) rfl (by kernel_rfl) (by kernel_rfl) (by kernel_rfl) (fun _ _ _ h => only_panic h) (Or.inl ⟨by rfl, ?_⟩) hHeld ?_
    rotate_left
    · (intro w hSw; clear hSw; go_simp; try (with_reducible rfl))
    try simp only [gA, gB, gC, Act.put, gD, gE, gF]
    refine wpAnyH_take (i := 19) (v := .agg (encM ⟨0, 0, 0, Y⟩)) rfl (by kernel_rfl) (by kernel_rfl) (by kernel_rfl) (fun _ _ _ h => only_panic h) ?_ hHeld ?_
    · exact yields_row (.tmp 23) (by rfl) rfl rfl L2.out Tryz.underlying31 rfl (nenc_inf _)
    try simp only [gA, gB, gC, Act.put, gD, gE, gF]
    refine wpAnyH_take (i := 22) (v := .agg (encM ⟨0, 0, 0, Y⟩)) rfl (by kernel_rfl) (by kernel_rfl) (by kernel_rfl) (fun _ _ _ h => only_panic h) ?_ hHeld ?_
    · exact yields_row (.tmp 23) (by rfl) rfl rfl L2.out Tryz.underlying31 rfl (nenc_inf _)
    try simp only [gA, gB, gC, Act.put, gD, gE, gF]
    refine wpAnyH_one (i := 20) rfl (by kernel_rfl) (by rfl) ?_
    go_simp
    refine (take_any zl zl ⟨0, 0, [], []⟩ (.slice none 0 0) (.map none) ⟨0, 0, 0, Y⟩ W5 (zeroLen ZL5.out) (Nat.le_of_lt ZL5.out.lt) (by dsimp only; omega) (by have := MY.out; dsimp only; omega)).mono ?_
    rintro e W6 ⟨v3, hv6, mv6, rfl, hm3, -, hT6, -⟩
    have own6 : ∀ j, OwnL zl (.slice none 0 0) (.map none) j → j = zl := fun j h => by
      rcases h with h | h | h
      · exact h
      · simp [Value.ownBlock] at h
      · cases h
    have T6 : RowKit.Hid (Tn (fun k => k = zl) W5 W6) := Lib.hid (hT6.mono own6)
    have M6 := Lib.hid hm3.sl
    have G6 := Lib.hid (nmsgs_at hm3)
    have HL3 := Lib.hid (msgs_len hm3)
    have hHeld := UU.out _ (T6.out.blk (L1.out _ hHeld) (by have := LZ.out; omega)) (T6.out.blk (L2.out _ hHeld) (by have := LZ.out; have := LS.out; omega))
    have C6 : RowKit.Hid (Below w0.heap.size w0 W6) := Lib.hid (C5.out.trans (T6.out.below C5.out.size fun j hj => by rw [show j = zl from hj]; exact HB1.out))
    have VL : RowKit.Hid (vb < W6.heap.size ∧ sb < W6.heap.size) := Lib.hid ⟨(L1.out _ hHeld).lt, (L2.out _ hHeld).lt⟩
    clear hm3 hT6 own6 ZL5
    refine ⟨hHeld, ?_⟩
    refine wpAnyH_one (i := 21) rfl (by kernel_rfl) (by rfl) ?_
    go_simp
    refine (rnew_any 0 ⟨by omega, by omega⟩ [] (by simp) (.slice none 0 0) 0 W6 (World.ownsRow_nil _ _ _ _)).mono ?_
    rintro e W7 ⟨rl, cv, rfl, hRL, hb7⟩
    rw [List.mergeSort_nil] at hRL
    have C7 : RowKit.Hid (Below w0.heap.size w0 W7) := Lib.hid (C6.out.trans (hb7.mono C6.out.size))
    have hHeld := UU.out _ ((L1.out _ hHeld).below hb7 (L1.out _ hHeld).lt) ((L2.out _ hHeld).below hb7 (L2.out _ hHeld).lt)
    have M7 := Lib.hid (M6.out.below hb7)
    have RL7 := Lib.hid hRL
    have GZ : RowKit.Hid (∀ j, OwnR rl cv (.slice none 0 0) j → W6.heap.size ≤ j) := Lib.hid fun j h => (RL7.out.own_lt h).1
    have LE7 : RowKit.Hid (W6.heap.size ≤ W7.heap.size) := Lib.hid hb7.size
    clear hRL hb7 M6
    refine ⟨hHeld, ?_⟩
    refine wpAnyH_one (i := 23) rfl (by kernel_rfl) (by rfl) ?_
    go_simp
    refine (rTake_any W6.heap.size rl 0 ⟨0, 0, [], []⟩ cv (.slice none 0 0) ⟨0, 0, 0, Y⟩ W7 RL7.out LE7.out (by omega) (by have := MY.out; dsimp only; omega)).mono ?_
    rintro e W8 ⟨v4, cv8, lv8, rfl, hm4, -, hT8, -⟩
    have T8 := Lib.hid hT8
    have M8 := Lib.hid (M7.out.tn T8.out fun g n c e h => by have h1 := (G6.out g n c e).2; have h2 := GZ.out g h; omega)
    have N8 := Lib.hid hm4.sl
    have hHeld := UU.out _ (T8.out.blk (L1.out _ hHeld) (fun h => by have h1 := GZ.out _ h; have h2 := VL.out.1; omega)) (T8.out.blk (L2.out _ hHeld) (fun h => by have h1 := GZ.out _ h; have h2 := VL.out.2; omega))
    have C8 : RowKit.Hid (Below w0.heap.size w0 W8) := Lib.hid (C7.out.trans (T8.out.below C7.out.size fun j hj => Nat.le_trans C6.out.size (GZ.out j hj)))
    clear hm4 hT8 M7 GZ VL RL7 G6
    refine ⟨hHeld, ?_⟩
    refine wpAnyH_one (i := 24) rfl (by kernel_rfl) (by rfl) ?_
    go_simp
    refine (msame_any v3 v4 _ W8 M8.out N8.out (Nat.le_trans HL3.out (by omega))).mono ?_
    rintro e W9 ⟨rfl, hb9⟩
    have C9 : RowKit.Hid (Below w0.heap.size w0 W9) := Lib.hid (C8.out.trans (hb9.mono C8.out.size))
    have hHeld := UU.out _ ((L1.out _ hHeld).below hb9 (L1.out _ hHeld).lt) ((L2.out _ hHeld).below hb9 (L2.out _ hHeld).lt)
    refine ⟨hHeld, ?_⟩
    refine wpAnyH_take (i := 25) (v := ?_) rfl (by kernel_rfl) (by kernel_rfl) (by kernel_rfl) (fun _ _ _ h => only_panic h) (Or.inl ⟨by rfl, ?_⟩) hHeld ?_
    rotate_left
    · (intro w hSw; clear hSw; go_simp; try (with_reducible rfl))
    try simp only [gA, gB, gC, Act.put, gD, gE, gF]
    refine wpAnyH_take (i := 26) (v := ?_) rfl (by kernel_rfl) (by kernel_rfl) (by kernel_rfl) (fun _ _ _ h => only_panic h) (Or.inl ⟨by rfl, ?_⟩) hHeld ?_
    rotate_left
    · (intro w hSw; clear hSw; go_simp; try (with_reducible rfl))
    try simp only [gA, gB, gC, Act.put, gD, gE, gF]
    exact wpAnyH_done (by kernel_rfl) ⟨rfl, hR0 v1 v2 rb v3 v4 rl _ C9.out⟩ _
  rintro v1 v2 n1 v3 v4 n2 W hW
  go_wp2_with fail
  go_ret
  exact ⟨rfl, BA.out.trans (hW.mono BA.out.size)⟩
end Go.Proofs.YtdojgbpaheadnaaGreat
