/- An asker takes a message. -/
import Derived.Test.YtdojgbpaheadnaaGreatQA
set_option linter.unusedVariables false
set_option linter.unusedSimpArgs false

namespace Go.Proofs.YtdojgbpaheadnaaGreat
open Go.RowKit Go.Shelf Go.Maps Go.ChangeMaps

theorem let_cells {id : Int} {m : Msg} {lc : Array Value} {ok : Bool} (h : Let id m lc ok) : ∃ fr k a r v, lc = #[i64 fr, i64 k, i64 a, i64 r, i64 v] ∧ (I64 k ∧ I64 a ∧ I64 r ∧ I64 v) ∧ (ok = true → dec m.text = some (k, a, r, v) ∧ m.to = id ∧ fr = m.frm) := by
 cases ok with
 | false => exact ⟨0, 0, 0, 0, 0, h.zero rfl, ⟨⟨by omega, by omega⟩, ⟨by omega, by omega⟩, ⟨by omega, by omega⟩, ⟨by omega, by omega⟩⟩, fun e => (by cases e)⟩
 | true =>
  obtain ⟨⟨k, a, r, v⟩, hd, hto, hlc⟩ := h.yes rfl
  exact ⟨m.frm, k, a, r, v, hlc, (dec_some.1 hd).1, fun _ => ⟨hd, hto, rfl⟩⟩
theorem aTake_eq {s : Asr} {m : Msg} {k a r v : Int} (hd : dec m.text = some (k, a, r, v)) (hto : m.to = s.id) (ha : a = s.id) : s.take m =
  match rq s.L r with
   | none => (s, [])
   | some x =>
    match stp k with
    | none => (s, [])
    | some (p, q, z) =>
     if x.st ≠ p ∨ m.frm ≠ (if x.st = 1 then 0 else x.l) then (s, [])
     else ({ s with L := setQ { x with st := q, l := if k = 5 then v else x.l } s.L } : Asr).tell { x with st := q, l := if k = 5 then v else x.l } z := by
 unfold Asr.take
 rw [hd]
 dsimp only
 rw [if_neg (by rw [hto, ha]; simp)]
 cases rq s.L r with
 | none => rfl
 | some x => cases stp k <;> rfl
theorem aTake_no {s : Asr} {m : Msg} {k a r v : Int} (hd : dec m.text = some (k, a, r, v)) (h : m.to ≠ s.id ∨ a ≠ s.id ∨ stp k = none ∨ ∀ x p q z, rq s.L r = some x → stp k = some (p, q, z) → x.st ≠ p) : s.take m = (s, []) := by
 unfold Asr.take
 rw [hd]
 dsimp only
 by_cases h1 : m.to ≠ s.id ∨ a ≠ s.id
 ·rw [if_pos h1]
 ·rw [if_neg h1]
  cases h2 : rq s.L r with
  | none => rfl
  | some x =>
   dsimp only
   cases h3 : stp k with
   | none => rfl
   | some y =>
    obtain ⟨p, q, z⟩ := y
    dsimp only
    rw [if_pos]
    rcases h with h | h | h | h
    ·exact absurd (.inl h) h1
    ·exact absurd (.inr h) h1
    ·rw [h] at h3; cases h3
    ·exact .inl (h x p q z h2 h3)
theorem stp_ways {k p q z : Int} (h : stp k = some (p, q, z)) : k = 5 ∧ p = 1 ∧ q = 2 ∧ z = 7 ∨ k = 6 ∧ p = 1 ∧ q = 7 ∧ z = 0 ∨ k = 8 ∧ p = 2 ∧ q = 3 ∧ z = 9 ∨ k = 10 ∧ p = 3 ∧ q = 4 ∧ z = 0 ∨ k = 12 ∧ p = 5 ∧ q = 6 ∧ z = 0 := by
 unfold stp at h
 repeat' split at h
 all_goals (simp at h)
 all_goals omega
def ATakeE (B b N : Nat) (s : Asr) (mv : Value) (m : Msg) (w : World) (e : Ending) (w' : World) : Prop :=
 ∃ v, e = .returned v ∧ MsgsAt w' w.heap.size v (s.take m).2 ∧ AMem w' B b (s.take m).1 mv (N + 1) ∧ Tn (OwnA b mv) w w'
set_option maxRecDepth 100000 in
set_option maxHeartbeats 8000000 in
theorem aTake_any (B b N : Nat) (s : Asr) (mv : Value) (m : Msg) (w : World) (h : AMem w B b s mv N) (hB : B ≤ w.heap.size) (hN : N < 90000) (ht : m.text.length ≤ 1000000) :
  Calls Tryz.prog 22 #[.pointer (some ⟨b, 0, none⟩), .agg (encM m)] w (ATakeE B b N s mv m w) := by
 obtain ⟨lc, ok, hlet⟩ := let_of s.id m
 obtain ⟨fr, k, a, r, v, hlc, hi4, hyes⟩ := let_cells hlet
 have LE := Lib.hid hlet
 have HLC := Lib.hid (And.intro hlc hi4)
 have HY := Lib.hid hyes
 have H := Lib.hid h
 have HB := Lib.hid hB
 have hbl := h.blk.lt
 obtain ⟨cm, hcm⟩ : ∃ cm, cm = encM m := ⟨_, rfl⟩
 have CM := Lib.hid hcm
 rw [← hcm]
 have FN : Hid (s.take m = (s, []) → ∀ W, Below w.heap.size w W → ATakeE B b N s mv m w (.returned (.slice none 0 0)) W) := Lib.hid fun e W hW =>
  ⟨_, rfl, by rw [e]; rfl, by rw [e]; exact (H.out.up hW).mono (Nat.le_succ _) (by omega), Tn.of_below hW⟩
 clear hlet h hcm hB hlc hi4 hyes
 obtain ⟨p, q, z, hstv⟩ : ∃ p q z, stpV k = rqV p q z := by
  unfold stpV
  split
  ·exact ⟨_, _, _, rfl⟩
  ·exact ⟨_, _, _, rfl⟩
 obtain ⟨en, hen⟩ : ∃ en, en = (stp k).isSome := ⟨_, rfl⟩
 have HST := Lib.hid hstv
 have HEN := Lib.hid hen
 have LK : Hid (∀ (W : World) (mb : Nat), StpAt W mb → (Instr.lookup 136 (.map (some mb)) (i64 k) true).run Tryz.prog W = .ok (.tuple #[.agg #[i64 p, i64 q, i64 z], .bool en]) W) := Lib.hid (by
  intro W mb h; rw [h.look HLC.out.2.1, hstv, hen]; rfl)
 obtain ⟨xt, xs, xl, hxt⟩ : ∃ xt xs xl, rqAt s.L r = ⟨(rqAt s.L r).n, xt, xs, xl⟩ := ⟨_, _, _, rfl⟩
 have HXT := Lib.hid hxt
 clear hstv hen hxt
 go_enter Tryz.func22, Tryz.ntmps22
 go_wp2_with fail
 obtain ⟨mk, hmk⟩ : ∃ mk, mk = w.heap.size := ⟨_, rfl⟩
 obtain ⟨w1, hw1⟩ : ∃ w1, w1 = w.alloc (.cells cm 31) := ⟨_, rfl⟩
 have MB : Hid (Blk w1 mk cm 31) := Lib.hid (by rw [hw1, hmk]; exact Blk.new _ _ _)
 have B1 : Hid (Below w.heap.size w w1) := Lib.hid (by rw [hw1]; exact (Below.refl _ _).alloc (Nat.le_refl _) _)
 have M1 := Lib.hid (H.out.up B1.out)
 rw [← hmk, ← hw1]
 clear hw1
 have HMK := Lib.hid hmk
 clear hmk
 obtain ⟨S, hS⟩ : ∃ S : World → Prop, S = fun W => Below w1.heap.size w1 W := ⟨_, rfl⟩
 have OP : Hid (∀ W, S W → Calls Tryz.prog 52 #[.pointer (some ⟨b, 0, none⟩), .agg cm] W fun e w' => e = .returned (.tuple #[.agg lc, .bool ok]) ∧ Below W.heap.size W w') := Lib.hid (by
  rw [hS, CM.out]; exact fun W hW => LE.out.opens b W (Below.cellE hW (M1.out.blk.cell 0)) ht)
 have LM : Hid (∀ W, S W → Blk W mk cm 31) := Lib.hid (by rw [hS]; exact fun W hW => MB.out.below hW MB.out.lt)
 have UU : Hid (∀ W, Below w1.heap.size w1 W → S W) := Lib.hid (by rw [hS]; exact fun W h => h)
 have HC : (Tryz.prog.info? 31).map (·.size) = some cm.size := by rw [CM.out]; kernel_rfl
 have HL6 := LE.out.size
 have HL5 : (Tryz.prog.info? 108).map (·.size) = some lc.size := by rw [HL6]; kernel_rfl
 have hHeld := UU.out _ (Below.refl w1.heap.size w1).drew
 clear hS
 refine wp_region_held_drew (S := S) (by kernel_rfl) hHeld (fun hU => ?_)
 apply wpAnyH_apart1 (fun g W => w1.heap.size ≤ g ∧ Blk W g lc 108 ∧ Below w1.heap.size w1 W)
 case take =>
  intro R hR
  refine tk 0 (v := ?_) rfl hHeld ?_ ?_; rotate_left
  ·(intro w hSw; clear hSw; go_simp; try (with_reducible rfl))
  try simp only [gZ]
  refine tk 1 (v := ?_) rfl hHeld ?_ ?_; rotate_left
  ·(intro w hSw; clear hSw; go_simp; try (with_reducible rfl))
  try simp only [gZ]
  refine tk 2 (v := ?_) rfl hHeld ?_ ?_; rotate_left
  ·(intro w hSw; clear hSw; go_simp; try (with_reducible rfl))
  try simp only [gZ]
  refine wpAnyH_take (i := 3) (v := .agg cm) rfl (by kernel_rfl) (by kernel_rfl) (by kernel_rfl) (fun _ _ _ h => only_panic h) ?_ hHeld ?_
  ·exact yields_row (.tmp 3) (by rfl) rfl rfl LM.out Tryz.underlying31 rfl HC
  try simp only [gZ]
  refine wpAnyH_two (i := 4) (j := 8) rfl rfl (by kernel_rfl) (by rfl) (by rfl) ?_ ?_
  ·go_simp
   refine (OP.out _ hHeld).mono ?_
   rintro e W2 ⟨rfl, hb⟩
   have B2 := Lib.hid ((Below.refl w1.heap.size w1).drew.trans hb)
   have hHeld := UU.out _ B2.out
   clear hb
   refine ⟨hHeld, ?_⟩
   refine tk 5 (v := ?_) rfl hHeld ?_ ?_; rotate_left
   ·(intro w hSw; clear hSw; go_simp; try (with_reducible rfl))
   try simp only [gZ]
   refine tk 6 (v := ?_) rfl hHeld ?_ ?_; rotate_left
   ·(intro w hSw; clear hSw; go_simp; try (with_reducible rfl))
   try simp only [gZ]
   refine tk 7 (v := ?_) rfl hHeld ?_ ?_; rotate_left
   ·(intro w hSw; clear hSw; go_simp; try (with_reducible rfl))
   try simp only [gZ]
   refine wpAnyH_one (i := 8) rfl (by kernel_rfl) (by rfl) ?_
   go_simp
   obtain ⟨g, hg⟩ : ∃ g, g = W2.heap.size := ⟨_, rfl⟩
   have B3 : Hid (Below w1.heap.size w1 (W2.alloc (.cells #[i64 0, i64 0, i64 0, i64 0, i64 0] 108))) := Lib.hid (B2.out.alloc B2.out.size _)
   have G3 : Hid (Blk (W2.alloc (.cells #[i64 0, i64 0, i64 0, i64 0, i64 0] 108)) g #[i64 0, i64 0, i64 0, i64 0, i64 0] 108) := Lib.hid (by rw [hg]; exact Blk.new _ _ _)
   have hgz : w1.heap.size ≤ g := by rw [hg]; exact B2.out.size
   rw [← hg]
   have hHeld := UU.out _ B3.out
   refine ⟨hHeld, ?_⟩
   refine wpAnyH_one (i := 9) rfl (by kernel_rfl) (by rfl) ?_
   refine wp_store_row 108 (.tmp 5) (.tmp 19) rfl g lc rfl rfl 108 _ G3.out HL5 HL6.symm LE.out.one ?_
   have B4 := Lib.hid (belowS (cs := lc) B3.out hgz)
   have hHeld := UU.out _ B4.out
   refine ⟨hHeld, ?_⟩
   refine tk 10 (v := ?_) rfl hHeld ?_ ?_; rotate_left
   ·(intro w hSw; clear hSw; go_simp; try (with_reducible rfl))
   try simp only [gZ]
   exact wpAnyH_done (by kernel_rfl) ⟨rfl, hR _ _ ⟨hgz, setRow_heap _ _ _ _ _ _ G3.out, B4.out⟩⟩ _
  ·go_simp
   obtain ⟨g, hg⟩ : ∃ g, g = w1.heap.size := ⟨_, rfl⟩
   obtain ⟨W2, hW2⟩ : ∃ W2, W2 = (w1.alloc (.cells #[i64 0, i64 0, i64 0, i64 0, i64 0] 108)).drew := ⟨_, rfl⟩
   have B2 : Hid (Below w1.heap.size w1 W2) := Lib.hid (by rw [hW2]; exact ((Below.refl _ _).alloc (Nat.le_refl _) _).drew)
   have G2 : Hid (Blk W2 g #[i64 0, i64 0, i64 0, i64 0, i64 0] 108) := Lib.hid (by rw [hW2, hg]; exact (Blk.new _ _ _).drew)
   have hgz : w1.heap.size ≤ g := by omega
   rw [← hW2, ← hg]
   clear hW2 hg
   have hHeld := UU.out _ B2.out
   refine ⟨hHeld, ?_⟩
   refine wpAnyH_one (i := 4) rfl (by kernel_rfl) (by rfl) ?_
   go_simp
   refine (OP.out _ hHeld).mono ?_
   rintro e W3 ⟨rfl, hb⟩
   have G3 := Lib.hid (G2.out.below hb G2.out.lt)
   have B3 := Lib.hid (B2.out.trans (hb.mono B2.out.size))
   have hHeld := UU.out _ B3.out
   clear hb
   refine ⟨hHeld, ?_⟩
   refine tk 5 (v := ?_) rfl hHeld ?_ ?_; rotate_left
   ·(intro w hSw; clear hSw; go_simp; try (with_reducible rfl))
   try simp only [gZ]
   refine tk 6 (v := ?_) rfl hHeld ?_ ?_; rotate_left
   ·(intro w hSw; clear hSw; go_simp; try (with_reducible rfl))
   try simp only [gZ]
   refine tk 7 (v := ?_) rfl hHeld ?_ ?_; rotate_left
   ·(intro w hSw; clear hSw; go_simp; try (with_reducible rfl))
   try simp only [gZ]
   refine wpAnyH_one (i := 9) rfl (by kernel_rfl) (by rfl) ?_
   refine wp_store_row 108 (.tmp 5) (.tmp 19) rfl g lc rfl rfl 108 _ G3.out HL5 HL6.symm LE.out.one ?_
   have B4 := Lib.hid (belowS (cs := lc) B3.out hgz)
   have hHeld := UU.out _ B4.out
   refine ⟨hHeld, ?_⟩
   refine tk 10 (v := ?_) rfl hHeld ?_ ?_; rotate_left
   ·(intro w hSw; clear hSw; go_simp; try (with_reducible rfl))
   try simp only [gZ]
   exact wpAnyH_done (by kernel_rfl) ⟨rfl, hR _ _ ⟨hgz, setRow_heap _ _ _ _ _ _ G3.out, B4.out⟩⟩ _
 rintro g w2 ⟨hgz, hG, hb⟩
 have G2 := Lib.hid hG
 have M2 := Lib.hid (M1.out.up hb)
 have B2 := Lib.hid (B1.out.trans (hb.mono B1.out.size))
 have hz2 := hb.size
 have hz1 := B1.out.size
 clear hU hHeld hG hb S OP LM UU HC MB HL5 HL6
 have hGL : Hid (Blk w2 g #[i64 fr, i64 k, i64 a, i64 r, i64 v] 108) := Lib.hid (by rw [← HLC.out.1]; exact G2.out)
 have G2 := Lib.hid hGL.out
 clear hGL
 obtain ⟨S, hS⟩ : ∃ S : World → Prop, S = fun W => Below w2.heap.size w2 W := ⟨_, rfl⟩
 have LD : Hid (∀ W, S W → W.cell? ⟨g, 1, none⟩ = some (i64 k)) := Lib.hid (by rw [hS]; exact fun W h => Below.cellE h (G2.out.cell 1))
 have UU : Hid (∀ W, Below w2.heap.size w2 W → S W) := Lib.hid (by rw [hS]; exact fun W h => h)
 clear hS
 go_wp2_with fail
 have hHeld := UU.out _ (Below.refl w2.heap.size w2).drew
 refine wp_region_held_drew (S := S) (by kernel_rfl) hHeld (fun hU => ?_)
 apply wpAnyH_apart2 (fun _ g9 W => w2.heap.size ≤ g9 ∧ Blk W g9 #[i64 p, i64 q, i64 z] 134 ∧ Below w2.heap.size w2 W)
 case take =>
  intro R hR
  refine tk 1 (v := ?_) rfl hHeld ?_ ?_; rotate_left
  ·(intro w hSw; clear hSw; go_simp; try (with_reducible rfl))
  try simp only [gZ]
  refine tk 2 (v := ?_) rfl hHeld ?_ ?_; rotate_left
  ·(intro w hSw; have l0 := LD.out w hSw; go_simp; try (with_reducible rfl))
  try simp only [gZ]
  refine wpAnyH_two (i := 0) (j := 7) rfl rfl (by kernel_rfl) (by rfl) (by rfl) ?_ ?_
  ·go_simp
   refine (steps_any _).mono ?_
   rintro e W4 ⟨mb, rfl, hA, hb⟩
   have A4 := Lib.hid hA
   have B4 := Lib.hid ((Below.refl w2.heap.size w2).drew.trans hb)
   have hHeld := UU.out _ B4.out
   clear hA hb
   refine ⟨hHeld, ?_⟩
   refine wpAnyH_two (i := 3) (j := 7) rfl rfl (by kernel_rfl) (by rfl) (by rfl) ?_ ?_
   ·have hlk := LK.out W4 mb A4.out
    go_simp
    clear hlk
    refine ⟨hHeld, ?_⟩
    refine tk 4 (v := ?_) rfl hHeld ?_ ?_; rotate_left
    ·(intro w hSw; clear hSw; go_simp; try (with_reducible rfl))
    try simp only [gZ]
    refine tk 5 (v := ?_) rfl hHeld ?_ ?_; rotate_left
    ·(intro w hSw; clear hSw; go_simp; try (with_reducible rfl))
    try simp only [gZ]
    refine tk 6 (v := ?_) rfl hHeld ?_ ?_; rotate_left
    ·(intro w hSw; clear hSw; go_simp; try (with_reducible rfl))
    try simp only [gZ]
    refine wpAnyH_one (i := 7) rfl (by kernel_rfl) (by rfl) ?_
    go_simp
    obtain ⟨g9, hg⟩ : ∃ g9, g9 = W4.heap.size := ⟨_, rfl⟩
    obtain ⟨W5, hW5⟩ : ∃ W5, W5 = W4.alloc (.cells #[i64 0, i64 0, i64 0] 134) := ⟨_, rfl⟩
    have G5 : Hid (Blk W5 g9 #[i64 0, i64 0, i64 0] 134) := Lib.hid (by rw [hW5, hg]; exact Blk.new _ _ _)
    have B5 : Hid (Below w2.heap.size w2 W5) := Lib.hid (by rw [hW5]; exact B4.out.alloc B4.out.size _)
    have hg9 : w2.heap.size ≤ g9 := by rw [hg]; exact B4.out.size
    rw [← hW5, ← hg]
    clear hW5 hg
    have hHeld := UU.out _ B5.out
    refine ⟨hHeld, ?_⟩
    refine wpAnyH_one (i := 8) rfl (by kernel_rfl) (by rfl) ?_
    refine wp_store_row 134 (.tmp 7) (.tmp 26) rfl g9 #[i64 p, i64 q, i64 z] rfl rfl 134 _ G5.out (by kernel_rfl) rfl (by simp [Value.oneCell']) ?_
    have B9 := Lib.hid (belowS (cs := #[i64 p, i64 q, i64 z]) B5.out hg9)
    have hHeld := UU.out _ B9.out
    refine ⟨hHeld, ?_⟩
    refine tk 9 (v := ?_) rfl hHeld ?_ ?_; rotate_left
    ·(intro w hSw; clear hSw; go_simp; try (with_reducible rfl))
    try simp only [gZ]
    exact wpAnyH_done (by kernel_rfl) ⟨rfl, hR mb g9 _ ⟨hg9, setRow_heap _ _ _ _ _ _ G5.out, B9.out⟩⟩ _
   ·go_simp
    obtain ⟨g9, hg⟩ : ∃ g9, g9 = W4.heap.size := ⟨_, rfl⟩
    obtain ⟨W5, hW5⟩ : ∃ W5, W5 = W4.alloc (.cells #[i64 0, i64 0, i64 0] 134) := ⟨_, rfl⟩
    have G5 : Hid (Blk W5 g9 #[i64 0, i64 0, i64 0] 134) := Lib.hid (by rw [hW5, hg]; exact Blk.new _ _ _)
    have B5 : Hid (Below w2.heap.size w2 W5) := Lib.hid (by rw [hW5]; exact B4.out.alloc B4.out.size _)
    have hg9 : w2.heap.size ≤ g9 := by rw [hg]; exact B4.out.size
    have A5 : Hid (StpAt W5 mb) := Lib.hid (by rw [hW5]; exact A4.out.up ((Below.refl _ _).alloc (Nat.le_refl _) _))
    rw [← hW5, ← hg]
    clear hW5 hg
    have hHeld := UU.out _ B5.out
    refine ⟨hHeld, ?_⟩
    refine wpAnyH_one (i := 3) rfl (by kernel_rfl) (by rfl) ?_
    have hlk := LK.out W5 mb A5.out
    go_simp
    clear hlk
    refine ⟨hHeld, ?_⟩
    refine tk 4 (v := ?_) rfl hHeld ?_ ?_; rotate_left
    ·(intro w hSw; clear hSw; go_simp; try (with_reducible rfl))
    try simp only [gZ]
    refine tk 5 (v := ?_) rfl hHeld ?_ ?_; rotate_left
    ·(intro w hSw; clear hSw; go_simp; try (with_reducible rfl))
    try simp only [gZ]
    refine tk 6 (v := ?_) rfl hHeld ?_ ?_; rotate_left
    ·(intro w hSw; clear hSw; go_simp; try (with_reducible rfl))
    try simp only [gZ]
    refine wpAnyH_one (i := 8) rfl (by kernel_rfl) (by rfl) ?_
    refine wp_store_row 134 (.tmp 7) (.tmp 26) rfl g9 #[i64 p, i64 q, i64 z] rfl rfl 134 _ G5.out (by kernel_rfl) rfl (by simp [Value.oneCell']) ?_
    have B9 := Lib.hid (belowS (cs := #[i64 p, i64 q, i64 z]) B5.out hg9)
    have hHeld := UU.out _ B9.out
    refine ⟨hHeld, ?_⟩
    refine tk 9 (v := ?_) rfl hHeld ?_ ?_; rotate_left
    ·(intro w hSw; clear hSw; go_simp; try (with_reducible rfl))
    try simp only [gZ]
    exact wpAnyH_done (by kernel_rfl) ⟨rfl, hR mb g9 _ ⟨hg9, setRow_heap _ _ _ _ _ _ G5.out, B9.out⟩⟩ _
  ·go_simp
   obtain ⟨g9, hg⟩ : ∃ g9, g9 = w2.heap.size := ⟨_, rfl⟩
   obtain ⟨W4, hW4⟩ : ∃ W4, W4 = (w2.alloc (.cells #[i64 0, i64 0, i64 0] 134)).drew := ⟨_, rfl⟩
   have G4 : Hid (Blk W4 g9 #[i64 0, i64 0, i64 0] 134) := Lib.hid (by rw [hW4, hg]; exact (Blk.new _ _ _).drew)
   have B4 : Hid (Below w2.heap.size w2 W4) := Lib.hid (by rw [hW4]; exact ((Below.refl _ _).alloc (Nat.le_refl _) _).drew)
   have hg9 : w2.heap.size ≤ g9 := by omega
   rw [← hW4, ← hg]
   clear hW4 hg
   have hHeld := UU.out _ B4.out
   refine ⟨hHeld, ?_⟩
   refine wpAnyH_one (i := 0) rfl (by kernel_rfl) (by rfl) ?_
   go_simp
   refine (steps_any _).mono ?_
   rintro e W5 ⟨mb, rfl, hA, hb⟩
   have A5 := Lib.hid hA
   have G5 := Lib.hid (G4.out.below hb G4.out.lt)
   have B5 := Lib.hid (B4.out.trans (hb.mono B4.out.size))
   have hHeld := UU.out _ B5.out
   clear hA hb
   refine ⟨hHeld, ?_⟩
   refine wpAnyH_one (i := 3) rfl (by kernel_rfl) (by rfl) ?_
   have hlk := LK.out W5 mb A5.out
   go_simp
   clear hlk
   refine ⟨hHeld, ?_⟩
   refine tk 4 (v := ?_) rfl hHeld ?_ ?_; rotate_left
   ·(intro w hSw; clear hSw; go_simp; try (with_reducible rfl))
   try simp only [gZ]
   refine tk 5 (v := ?_) rfl hHeld ?_ ?_; rotate_left
   ·(intro w hSw; clear hSw; go_simp; try (with_reducible rfl))
   try simp only [gZ]
   refine tk 6 (v := ?_) rfl hHeld ?_ ?_; rotate_left
   ·(intro w hSw; clear hSw; go_simp; try (with_reducible rfl))
   try simp only [gZ]
   refine wpAnyH_one (i := 8) rfl (by kernel_rfl) (by rfl) ?_
   refine wp_store_row 134 (.tmp 7) (.tmp 26) rfl g9 #[i64 p, i64 q, i64 z] rfl rfl 134 _ G5.out (by kernel_rfl) rfl (by simp [Value.oneCell']) ?_
   have B9 := Lib.hid (belowS (cs := #[i64 p, i64 q, i64 z]) B5.out hg9)
   have hHeld := UU.out _ B9.out
   refine ⟨hHeld, ?_⟩
   refine tk 9 (v := ?_) rfl hHeld ?_ ?_; rotate_left
   ·(intro w hSw; clear hSw; go_simp; try (with_reducible rfl))
   try simp only [gZ]
   exact wpAnyH_done (by kernel_rfl) ⟨rfl, hR mb g9 _ ⟨hg9, setRow_heap _ _ _ _ _ _ G5.out, B9.out⟩⟩ _
 rintro mbs g7 w3 ⟨hg7, hG7, hb⟩
 have hgl : g < w2.heap.size := G2.out.lt
 have G3 := Lib.hid (G2.out.below hb G2.out.lt)
 have S3 := Lib.hid hG7
 have M3 := Lib.hid (M2.out.up hb)
 have B3 := Lib.hid (B2.out.trans (hb.mono B2.out.size))
 have hz3 := hb.size
 clear hU hHeld hG7 hb S LD UU LK G2 M2 B2
 obtain ⟨S, hS⟩ : ∃ S : World → Prop, S = fun W => Below w3.heap.size w3 W := ⟨_, rfl⟩
 have LD : Hid (∀ W, S W → W.cell? ⟨b, 3, none⟩ = some mv ∧ W.cell? ⟨g, 3, none⟩ = some (i64 r) ∧ (Instr.lookup 53 mv (i64 r) false).run Tryz.prog W = .ok (.agg #[i64 xt, i64 xs, i64 xl]) W) := Lib.hid (by
  rw [hS]; intro W h
  refine ⟨Below.cellE h (M3.out.blk.cell 3), Below.cellE h (G3.out.cell 3), ?_⟩
  rw [((M3.out.up h).look HLC.out.2.2.2.1).2, HXT.out]; rfl)
 have UU : Hid (∀ W, Below w3.heap.size w3 W → S W) := Lib.hid (by rw [hS]; exact fun W h => h)
 clear hS
 go_wp2_with fail
 have hHeld := UU.out _ (Below.refl w3.heap.size w3).drew
 refine wp_region_held_drew (S := S) (by kernel_rfl) hHeld (fun hU => ?_)
 apply wpAnyH_apart1 (fun g' W => w3.heap.size ≤ g' ∧ Blk W g' #[i64 xt, i64 xs, i64 xl] 130 ∧ Below w3.heap.size w3 W)
 case take =>
  intro R hR
  refine tk 0 (v := ?_) rfl hHeld ?_ ?_; rotate_left
  ·(intro w hSw; clear hSw; go_simp; try (with_reducible rfl))
  try simp only [gZ]
  refine tk 1 (v := ?_) rfl hHeld ?_ ?_; rotate_left
  ·(intro w hSw; clear hSw; go_simp; try (with_reducible rfl))
  try simp only [gZ]
  refine tk 2 (v := ?_) rfl hHeld ?_ ?_; rotate_left
  ·(intro w hSw; clear hSw; go_simp; try (with_reducible rfl))
  try simp only [gZ]
  refine tk 3 (v := ?_) rfl hHeld ?_ ?_; rotate_left
  ·(intro w hSw; obtain ⟨l0, l1, l2⟩ := LD.out w hSw; go_simp; try (with_reducible rfl))
  try simp only [gZ]
  refine tk 4 (v := ?_) rfl hHeld ?_ ?_; rotate_left
  ·(intro w hSw; obtain ⟨l0, l1, l2⟩ := LD.out w hSw; go_simp; try (with_reducible rfl))
  try simp only [gZ]
  refine tk 5 (v := ?_) rfl hHeld ?_ ?_; rotate_left
  ·(intro w hSw; obtain ⟨l0, l1, l2⟩ := LD.out w hSw; go_simp; try (with_reducible rfl))
  try simp only [gZ]
  refine tk 6 (v := ?_) rfl hHeld ?_ ?_; rotate_left
  ·(intro w hSw; obtain ⟨l0, l1, l2⟩ := LD.out w hSw; go_simp; try (with_reducible rfl))
  try simp only [gZ]
  refine tk 7 (v := ?_) rfl hHeld ?_ ?_; rotate_left
  ·(intro w hSw; obtain ⟨l0, l1, l2⟩ := LD.out w hSw; go_simp; try (with_reducible rfl))
  try simp only [gZ]
  refine wpAnyH_one (i := 8) rfl (by kernel_rfl) (by rfl) ?_
  go_simp
  obtain ⟨g', hg'⟩ : ∃ g', g' = w3.heap.size := ⟨_, rfl⟩
  obtain ⟨W3, hW3⟩ : ∃ W3, W3 = (w3.alloc (.cells #[i64 0, i64 0, i64 0] 130)).drew := ⟨_, rfl⟩
  have G4 : Hid (Blk W3 g' #[i64 0, i64 0, i64 0] 130) := Lib.hid (by rw [hW3, hg']; exact (Blk.new _ _ _).drew)
  have B4 : Hid (Below w3.heap.size w3 W3) := Lib.hid (by rw [hW3]; exact ((Below.refl _ _).alloc (Nat.le_refl _) _).drew)
  have hgz : w3.heap.size ≤ g' := by omega
  rw [← hW3, ← hg']
  clear hW3 hg'
  have hHeld := UU.out _ B4.out
  refine ⟨hHeld, ?_⟩
  refine wpAnyH_one (i := 9) rfl (by kernel_rfl) (by rfl) ?_
  refine wp_store_row 130 (.tmp 9) (.tmp 35) rfl g' #[i64 xt, i64 xs, i64 xl] rfl rfl 130 _ G4.out (by kernel_rfl) rfl (by simp [Value.oneCell']) ?_
  have B5 := Lib.hid (belowS (cs := #[i64 xt, i64 xs, i64 xl]) B4.out hgz)
  have hHeld := UU.out _ B5.out
  refine ⟨hHeld, ?_⟩
  exact wpAnyH_done (by kernel_rfl) ⟨rfl, hR _ _ ⟨hgz, setRow_heap _ _ _ _ _ _ G4.out, B5.out⟩⟩ _
 rintro g' w4 ⟨hgz', hG, hb⟩
 have L4 := Lib.hid hG
 have hg7l : g7 < w3.heap.size := S3.out.lt
 have G4 := Lib.hid (G3.out.below hb G3.out.lt)
 have S4 := Lib.hid (S3.out.below hb S3.out.lt)
 have M4 := Lib.hid (M3.out.up hb)
 have B4 := Lib.hid (B3.out.trans (hb.mono B3.out.size))
 have hz4 := hb.size
 clear hU hHeld hG hb S LD UU G3 S3 M3 B3
 have x0 : w4.cell? ⟨g, 0, none⟩ = some (i64 fr) := G4.out.cell 0
 have x1 : w4.cell? ⟨g, 1, none⟩ = some (i64 k) := G4.out.cell 1
 have x2 : w4.cell? ⟨g, 2, none⟩ = some (i64 a) := G4.out.cell 2
 have y0 : w4.cell? ⟨b, 0, none⟩ = some (i64 s.id) := M4.out.blk.cell 0
 have z1 : w4.cell? ⟨g', 1, none⟩ = some (i64 xs) := L4.out.cell 1
 have z2 : w4.cell? ⟨g', 2, none⟩ = some (i64 xl) := L4.out.cell 2
 have u0 : w4.cell? ⟨g7, 0, none⟩ = some (i64 p) := S4.out.cell 0
 cases ok with
 | false =>
  have F := Lib.hid (FN.out (by
   rcases LE.out.no rfl with h1 | h1
   ·unfold Asr.take; rw [h1]
   ·cases hd : dec m.text with
    | none => unfold Asr.take; rw [hd]
    | some y => obtain ⟨k', a', r', v'⟩ := y; exact aTake_no hd (.inl h1)))
  go_wp2_with fail
  obtain ⟨S, hS⟩ : ∃ S : World → Prop, S = fun W => ∃ n, W = w4.drewN n := ⟨_, rfl⟩
  have SS : Hid (∀ W, S W → ∃ n, W = w4.drewN n) := Lib.hid (by rw [hS]; exact fun W h => h)
  have hHeld : S w4.drew := by rw [hS]; exact ⟨1, rfl⟩
  clear hS
  refine wp_region_held_drew (S := S) (by kernel_rfl) hHeld (fun hU => ?_)
  apply wpAnyH_apart S
  case take =>
   intro R hR
   refine tk 0 (v := ?_) rfl hHeld ?_ ?_; rotate_left
   ·(intro w hSw; clear hSw; go_simp; try (with_reducible rfl))
   try simp only [gZ]
   refine tk 1 (v := ?_) rfl hHeld ?_ ?_; rotate_left
   ·(intro w hSw; clear hSw; go_simp; try (with_reducible rfl))
   try simp only [gZ]
   refine tk 2 (v := ?_) rfl hHeld ?_ ?_; rotate_left
   ·(intro w hSw; clear hSw; go_simp; try (with_reducible rfl))
   try simp only [gZ]
   refine wpAnyH_take (i := 3) (v := undef) rfl (by kernel_rfl) (by kernel_rfl) (by kernel_rfl) (fun _ _ _ h => only_panic h) (Or.inr ⟨by rfl, rfl⟩) hHeld ?_
   try simp only [gZ]
   refine wpAnyH_take (i := 4) (v := undef) rfl (by kernel_rfl) (by kernel_rfl) (by kernel_rfl) (fun _ _ _ h => only_panic h) (Or.inr ⟨by rfl, rfl⟩) hHeld ?_
   try simp only [gZ]
   refine tk 5 (v := ?_) rfl hHeld ?_ ?_; rotate_left
   ·(intro w hSw; clear hSw; go_simp; try (with_reducible rfl))
   try simp only [gZ]
   refine tk 6 (v := ?_) rfl hHeld ?_ ?_; rotate_left
   ·(intro w hSw; clear hSw; go_simp; try (with_reducible rfl))
   try simp only [gZ]
   refine wpAnyH_take (i := 7) (v := undef) rfl (by kernel_rfl) (by kernel_rfl) (by kernel_rfl) (fun _ _ _ h => only_panic h) (Or.inr ⟨by rfl, rfl⟩) hHeld ?_
   try simp only [gZ]
   refine wpAnyH_take (i := 8) (v := undef) rfl (by kernel_rfl) (by kernel_rfl) (by kernel_rfl) (fun _ _ _ h => only_panic h) (Or.inr ⟨by rfl, rfl⟩) hHeld ?_
   try simp only [gZ]
   refine wpAnyH_take (i := 9) (v := undef) rfl (by kernel_rfl) (by kernel_rfl) (by kernel_rfl) (fun _ _ _ h => only_panic h) (Or.inr ⟨by rfl, rfl⟩) hHeld ?_
   try simp only [gZ]
   refine wpAnyH_take (i := 10) (v := undef) rfl (by kernel_rfl) (by kernel_rfl) (by kernel_rfl) (fun _ _ _ h => only_panic h) (Or.inr ⟨by rfl, rfl⟩) hHeld ?_
   try simp only [gZ]
   refine wpAnyH_take (i := 11) (v := undef) rfl (by kernel_rfl) (by kernel_rfl) (by kernel_rfl) (fun _ _ _ h => only_panic h) (Or.inr ⟨by rfl, rfl⟩) hHeld ?_
   try simp only [gZ]
   refine wpAnyH_take (i := 12) (v := undef) rfl (by kernel_rfl) (by kernel_rfl) (by kernel_rfl) (fun _ _ _ h => only_panic h) (Or.inr ⟨by rfl, rfl⟩) hHeld ?_
   try simp only [gZ]
   refine wpAnyH_take (i := 13) (v := undef) rfl (by kernel_rfl) (by kernel_rfl) (by kernel_rfl) (fun _ _ _ h => only_panic h) (Or.inr ⟨by rfl, rfl⟩) hHeld ?_
   try simp only [gZ]
   refine wpAnyH_take (i := 14) (v := undef) rfl (by kernel_rfl) (by kernel_rfl) (by kernel_rfl) (fun _ _ _ h => only_panic h) (Or.inr ⟨by rfl, rfl⟩) hHeld ?_
   try simp only [gZ]
   refine wpAnyH_take (i := 15) (v := undef) rfl (by kernel_rfl) (by kernel_rfl) (by kernel_rfl) (fun _ _ _ h => only_panic h) (Or.inr ⟨by rfl, rfl⟩) hHeld ?_
   try simp only [gZ]
   refine tk 16 (v := ?_) rfl hHeld ?_ ?_; rotate_left
   ·(intro w hSw; clear hSw; go_simp; try (with_reducible rfl))
   try simp only [gZ]
   refine tk 17 (v := ?_) rfl hHeld ?_ ?_; rotate_left
   ·(intro w hSw; clear hSw; go_simp; try (with_reducible rfl))
   try simp only [gZ]
   refine wpAnyH_take (i := 18) (v := undef) rfl (by kernel_rfl) (by kernel_rfl) (by kernel_rfl) (fun _ _ _ h => only_panic h) (Or.inr ⟨by rfl, rfl⟩) hHeld ?_
   try simp only [gZ]
   refine wpAnyH_take (i := 19) (v := undef) rfl (by kernel_rfl) (by kernel_rfl) (by kernel_rfl) (fun _ _ _ h => only_panic h) (Or.inr ⟨by rfl, rfl⟩) hHeld ?_
   try simp only [gZ]
   refine wpAnyH_take (i := 20) (v := undef) rfl (by kernel_rfl) (by kernel_rfl) (by kernel_rfl) (fun _ _ _ h => only_panic h) (Or.inr ⟨by rfl, rfl⟩) hHeld ?_
   try simp only [gZ]
   refine wpAnyH_take (i := 21) (v := undef) rfl (by kernel_rfl) (by kernel_rfl) (by kernel_rfl) (fun _ _ _ h => only_panic h) (Or.inr ⟨by rfl, rfl⟩) hHeld ?_
   try simp only [gZ]
   refine wpAnyH_take (i := 22) (v := undef) rfl (by kernel_rfl) (by kernel_rfl) (by kernel_rfl) (fun _ _ _ h => only_panic h) (Or.inr ⟨by rfl, rfl⟩) hHeld ?_
   try simp only [gZ]
   refine tk 23 (v := ?_) rfl hHeld ?_ ?_; rotate_left
   ·(intro w hSw; clear hSw; go_simp; try (with_reducible rfl))
   try simp only [gZ]
   exact wpAnyH_done (by kernel_rfl) ⟨rfl, hR _ hHeld⟩ _
  intro W hW
  obtain ⟨nq, rfl⟩ := SS.out W hW
  have F2 := Lib.hid (F.out (w4.drewN nq) (bdrewN B4.out nq))
  clear F hU hHeld hW SS S
  go_wp2_with fail
  go_ret
  exact F2.out
 | true =>
  obtain ⟨hd, hto, hfrm⟩ := HY.out rfl
  cases en with
  | false =>
   have F := Lib.hid (FN.out (aTake_no hd (.inr (.inr (.inl (by
    have := HEN.out
    cases h : stp k with
    | none => rfl
    | some y => rw [h] at this; cases this))))))
   go_wp2_with fail
   go_quiet (fail)
   rename_i nq
   have F2 := Lib.hid (F.out (w4.drewN nq) (bdrewN B4.out nq))
   clear F
   go_wp2_with fail
   go_ret
   exact F2.out
  | true =>
   obtain ⟨⟨p', q', z'⟩, hstp⟩ : ∃ y, stp k = some y := by
    have := HEN.out
    cases h : stp k with
    | none => rw [h] at this; cases this
    | some y => exact ⟨y, rfl⟩
   obtain ⟨rfl, rfl, rfl⟩ : p' = p ∧ q' = q ∧ z' = z := by
    have := HST.out
    unfold stpV at this
    rw [hstp] at this
    simpa [rqV] using this
   by_cases ha : a = s.id
   ·by_cases hp : xs = p'
    ·subst hp ha
     cases hq : rq s.L r with
     | none =>
      exfalso
      have h1 := HXT.out
      unfold rqAt at h1
      rw [hq] at h1
      injection h1 with _ _ h1
      rcases stp_ways hstp with ⟨-, h2, -⟩ | ⟨-, h2, -⟩ | ⟨-, h2, -⟩ | ⟨-, h2, -⟩ | ⟨-, h2, -⟩ <;> omega
     | some x =>
      obtain ⟨hxm, hxn⟩ := rq_some hq
      have h1 := HXT.out
      rw [rqAt_some hq] at h1
      obtain ⟨h2, h3, h4⟩ : x.t = xt ∧ x.st = xs ∧ x.l = xl := by
       have e1 := congrArg Rq.t h1
       have e2 := congrArg Rq.st h1
       have e3 := congrArg Rq.l h1
       exact ⟨e1, e2, e3⟩
      subst h2 h4 hxn
      obtain ⟨mb, rfl⟩ : ∃ mb, mv = .map (some mb) := by
       rcases H.out.map with ⟨_, h⟩ | ⟨mb, _, _, h, _⟩
       ·rw [h] at hq; cases hq
       ·exact ⟨mb, h⟩
      have hmbl : mb < w.heap.size := (H.out.own_lt (.inr rfl : OwnA b (.map (some mb)) mb)).2
      have HP := Lib.hid h3
      have HXQ := Lib.hid hq
      have HXI := Lib.hid (H.out.ids.2.2 x hxm)
      have TO := Lib.hid (aTake_eq hd hto rfl)
      have HFR := Lib.hid hfrm
      have hmkl := HMK.out
      have HST1 := Lib.hid hstp
      clear hd hto hfrm hstp h1 h3 hq hxm x0 x1 x2 y0 z1 z2 u0 HXT HST HEN HY LE
      rcases stp_ways HST1.out with ⟨rfl, rfl, rfl, rfl⟩ | ⟨rfl, rfl, rfl, rfl⟩ | ⟨rfl, rfl, rfl, rfl⟩ | ⟨rfl, rfl, rfl, rfl⟩ | ⟨rfl, rfl, rfl, rfl⟩
      ·have x2 : w4.cell? ⟨g, 2, none⟩ = some (i64 s.id) := G4.out.cell 2
       have y0 : w4.cell? ⟨b, 0, none⟩ = some (i64 s.id) := M4.out.blk.cell 0
       have z1 : w4.cell? ⟨g', 1, none⟩ = some (i64 1) := L4.out.cell 1
       have u0 : w4.cell? ⟨g7, 0, none⟩ = some (i64 1) := S4.out.cell 0
       go_wp2_with fail
       go_quiet (fail)
       rename_i nq
       obtain ⟨w5, hw5⟩ : ∃ w5, w5 = w4.drewN nq := ⟨_, rfl⟩
       have G5 : Hid (Blk w5 g #[i64 fr, i64 5, i64 s.id, i64 x.n, i64 v] 108) := Lib.hid (by rw [hw5]; exact G4.out.drewN nq)
       have L5 : Hid (Blk w5 g' #[i64 x.t, i64 1, i64 x.l] 130) := Lib.hid (by rw [hw5]; exact L4.out.drewN nq)
       have S5 : Hid (Blk w5 g7 #[i64 1, i64 2, i64 7] 134) := Lib.hid (by rw [hw5]; exact S4.out.drewN nq)
       have M5 : Hid (AMem w5 B b s (.map (some mb)) N) := Lib.hid (by rw [hw5]; exact M4.out.drewN nq)
       have B5 : Hid (Below w.heap.size w w5) := Lib.hid (by rw [hw5]; exact bdrewN B4.out nq)
       have hz5 : w4.heap.size ≤ w5.heap.size := by rw [hw5]; exact Nat.le_refl _
       rw [← hw5]
       clear hw5 x2 y0 z1 u0 G4 L4 S4 M4 B4
       have x0 : w5.cell? ⟨g, 0, none⟩ = some (i64 fr) := G5.out.cell 0
       have x1 : w5.cell? ⟨g, 1, none⟩ = some (i64 5) := G5.out.cell 1
       have z1 : w5.cell? ⟨g', 1, none⟩ = some (i64 1) := L5.out.cell 1
       have z2 : w5.cell? ⟨g', 2, none⟩ = some (i64 x.l) := L5.out.cell 2
       by_cases hfr : fr = 0
       ·have RES : Hid (s.take m = ({ s with L := setQ { x with st := 2, l := v } s.L } : Asr).tell { x with st := 2, l := v } 7) := Lib.hid (by
         rw [TO.out, HXQ.out]; dsimp only; rw [HST1.out]; dsimp only
         rw [if_neg (by rw [HP.out, ← HFR.out, hfr]; simp)]
         rfl)
        have f1 : w5.frozen? ⟨g', 1, none⟩ = false := L5.out.frozen 1
        have f2 : w5.frozen? ⟨g', 2, none⟩ = false := L5.out.frozen 2
        have x4 : w5.cell? ⟨g, 4, none⟩ = some (i64 v) := G5.out.cell 4
        have u1 : w5.cell? ⟨g7, 1, none⟩ = some (i64 2) := S5.out.cell 1
        have hgg : g ≠ g' := by omega
        have hg7' : g7 ≠ g' := by omega
        subst hfr
        go_wp2_with fail
        obtain ⟨w6, hw6⟩ : ∃ w6, w6 = (w5.setCell ⟨g', 2, none⟩ (i64 v)).setCell ⟨g', 1, none⟩ (i64 2) := ⟨_, rfl⟩
        have L6 : Hid (Blk w6 g' #[i64 x.t, i64 2, i64 v] 130) := Lib.hid (by rw [hw6]; exact ((L5.out.set 2 _).set 1 _).cast rfl)
        have T56 : Hid (Tn (fun k => k = g') w5 w6) := Lib.hid (by rw [hw6]; exact ((Tn.refl (fun k => k = g') w5).setCell (p := ⟨g', 2, none⟩) (.inl rfl) _).setCell (p := ⟨g', 1, none⟩) (.inl rfl) _)
        have B6 : Hid (Below w.heap.size w w6) := Lib.hid (B5.out.trans (T56.out.below B5.out.size fun k hk => by omega))
        have M6 := Lib.hid (H.out.up B6.out)
        have G6 := Lib.hid (T56.out.blk G5.out hgg)
        have S6 := Lib.hid (T56.out.blk S5.out hg7')
        rw [← hw6]
        clear hw6 T56 G5 S5 L5 M5 B5 x0 x1 z1 z2 f1 f2 x4 u1
        obtain ⟨S, hS⟩ : ∃ S : World → Prop, S = fun W => ∃ n, W = w6.drewN n := ⟨_, rfl⟩
        have LDD : Hid (∀ W, S W → W.cell? ⟨b, 3, none⟩ = some (.map (some mb)) ∧ W.cell? ⟨g, 3, none⟩ = some (i64 x.n)) := Lib.hid (by rw [hS]; rintro W ⟨n, rfl⟩; exact ⟨M6.out.blk.cell 3, G6.out.cell 3⟩)
        have LDB : Hid (∀ W, S W → Blk W g' #[i64 x.t, i64 2, i64 v] 130) := Lib.hid (by rw [hS]; rintro W ⟨n, rfl⟩; exact L6.out.drewN n)
        have SS : Hid (∀ W, S W → ∃ n, W = w6.drewN n) := Lib.hid (by rw [hS]; exact fun W h => h)
        have hHeld : S w6.drew := by rw [hS]; exact ⟨1, rfl⟩
        clear hS
        refine wp_region_sp 8 S (by kernel_rfl) (by kernel_rfl) ?_
        simp only [List.take_succ_cons, List.take_zero]
        apply wpAnyH_apart S
        case take =>
         intro R hR
         refine tk 0 (v := ?_) rfl hHeld ?_ ?_; rotate_left
         ·(intro w hSw; obtain ⟨l0, l1⟩ := LDD.out w hSw; go_simp; try (with_reducible rfl))
         try simp only [gZ]
         refine tk 1 (v := ?_) rfl hHeld ?_ ?_; rotate_left
         ·(intro w hSw; obtain ⟨l0, l1⟩ := LDD.out w hSw; go_simp; try (with_reducible rfl))
         try simp only [gZ]
         refine tk 2 (v := ?_) rfl hHeld ?_ ?_; rotate_left
         ·(intro w hSw; obtain ⟨l0, l1⟩ := LDD.out w hSw; go_simp; try (with_reducible rfl))
         try simp only [gZ]
         refine tk 3 (v := ?_) rfl hHeld ?_ ?_; rotate_left
         ·(intro w hSw; obtain ⟨l0, l1⟩ := LDD.out w hSw; go_simp; try (with_reducible rfl))
         try simp only [gZ]
         refine tk 4 (v := ?_) rfl hHeld ?_ ?_; rotate_left
         ·(intro w hSw; obtain ⟨l0, l1⟩ := LDD.out w hSw; go_simp; try (with_reducible rfl))
         try simp only [gZ]
         refine tk 5 (v := ?_) rfl hHeld ?_ ?_; rotate_left
         ·(intro w hSw; obtain ⟨l0, l1⟩ := LDD.out w hSw; go_simp; try (with_reducible rfl))
         try simp only [gZ]
         refine tk 6 (v := ?_) rfl hHeld ?_ ?_; rotate_left
         ·(intro w hSw; obtain ⟨l0, l1⟩ := LDD.out w hSw; go_simp; try (with_reducible rfl))
         try simp only [gZ]
         refine wpAnyH_take (i := 7) (v := .agg #[i64 x.t, i64 2, i64 v]) rfl (by kernel_rfl) (by kernel_rfl) (by kernel_rfl) (fun _ _ _ h => only_panic h) ?_ hHeld ?_
         ·exact yields_row (.tmp 9) (by rfl) rfl rfl LDB.out Tryz.underlying130 rfl (by kernel_rfl)
         try simp only [gZ]
         exact wpAnyH_done (by kernel_rfl) ⟨rfl, hR _ hHeld⟩ _
        intro W hW
        obtain ⟨n1, rfl⟩ := SS.out W hW
        obtain ⟨w7, hrun, hM7, hT7⟩ := (M6.out.drewN n1).put (q := { x with st := 2, l := v }) (L' := setQ { x with st := 2, l := v } s.L) (rq_set' HXQ.out) (set_sortedQ M6.out.inOrder) (fun y hy => by
         rcases set_memQ hy with rfl | hy
         ·exact ⟨HXI.out.1, HXI.out.2.1, by dsimp only; omega, by dsimp only; omega, HLC.out.2.2.2.2⟩
         ·exact M6.out.ids.2.2 y hy) HXI.out.1 (by rw [set_lenQ]; have := M6.out.len.1; omega) (by omega)
        have hrun' : (Instr.mapUpdate 53 (.map (some mb)) (i64 x.n) (.agg #[i64 x.t, i64 2, i64 v])).run Tryz.prog (w6.drewN n1) = .ok () w7 := hrun
        have M7 := Lib.hid hM7
        have T7 : Hid (Tn (OwnA b (.map (some mb))) w w7) := Lib.hid ((Tn.of_below (bdrewN B6.out n1)).trans (hT7.mono fun k hk => .inr (by rw [hk])))
        have x3 : w7.cell? ⟨g, 3, none⟩ = some (i64 x.n) := hT7.cell ((G6.out.drewN n1).cell 3) (by show ¬ g = mb; omega)
        have u2 : w7.cell? ⟨g7, 2, none⟩ = some (i64 7) := hT7.cell ((S6.out.drewN n1).cell 2) (by show ¬ g7 = mb; omega)
        simp only [endN, List.drop_succ_cons, List.drop_zero, Act.put, List.setIfInBounds_toArray, List.set_cons_zero, List.set_cons_succ]
        clear hHeld hW SS LDD LDB S hrun hM7 hT7
        go_wp2_with fail
        refine (tell_any B b (N + 1) { s with L := setQ { x with st := 2, l := v } s.L } (.map (some mb)) x.n 7 { x with st := 2, l := v } w7 M7.out (Nat.le_trans HB.out T7.out.size) ((rq_set' (q := { x with st := 2, l := v }) HXQ.out x.n).trans (if_pos rfl)) (by have := M6.out.sent.2; show s.sent < 1000 * ((N + 1 : Nat) : Int); omega) HXI.out.1 ⟨by omega, by omega⟩).mono ?_
        rintro e w8 ⟨v8, rfl, hm8, hM8, hT8⟩
        have F : Hid (ATakeE B b N s (.map (some mb)) m w (.returned v8) w8) := Lib.hid (by
         unfold ATakeE
         rw [RES.out]
         exact ⟨v8, rfl, hm8.mono T7.out.size, hM8, T7.out.trans (hT8.mono fun k hk => .inl hk)⟩)
        clear hm8 hM8 hT8 hrun' x3 u2
        go_wp2_with fail
        go_ret
        exact F.out
       ·have F := Lib.hid (FN.out (by
         rw [TO.out, HXQ.out]; dsimp only; rw [HST1.out]; dsimp only
         rw [if_pos (.inr (by rw [HP.out, ← HFR.out]; simpa using hfr))]) w5 B5.out)
        have k1 : (fr != 0) = true := by simp [hfr]
        go_wp2_with fail
        go_ret
        exact F.out
      ·have x2 : w4.cell? ⟨g, 2, none⟩ = some (i64 s.id) := G4.out.cell 2
       have y0 : w4.cell? ⟨b, 0, none⟩ = some (i64 s.id) := M4.out.blk.cell 0
       have z1 : w4.cell? ⟨g', 1, none⟩ = some (i64 1) := L4.out.cell 1
       have u0 : w4.cell? ⟨g7, 0, none⟩ = some (i64 1) := S4.out.cell 0
       go_wp2_with fail
       go_quiet (fail)
       rename_i nq
       obtain ⟨w5, hw5⟩ : ∃ w5, w5 = w4.drewN nq := ⟨_, rfl⟩
       have G5 : Hid (Blk w5 g #[i64 fr, i64 6, i64 s.id, i64 x.n, i64 v] 108) := Lib.hid (by rw [hw5]; exact G4.out.drewN nq)
       have L5 : Hid (Blk w5 g' #[i64 x.t, i64 1, i64 x.l] 130) := Lib.hid (by rw [hw5]; exact L4.out.drewN nq)
       have S5 : Hid (Blk w5 g7 #[i64 1, i64 7, i64 0] 134) := Lib.hid (by rw [hw5]; exact S4.out.drewN nq)
       have M5 : Hid (AMem w5 B b s (.map (some mb)) N) := Lib.hid (by rw [hw5]; exact M4.out.drewN nq)
       have B5 : Hid (Below w.heap.size w w5) := Lib.hid (by rw [hw5]; exact bdrewN B4.out nq)
       have hz5 : w4.heap.size ≤ w5.heap.size := by rw [hw5]; exact Nat.le_refl _
       rw [← hw5]
       clear hw5 x2 y0 z1 u0 G4 L4 S4 M4 B4
       have x0 : w5.cell? ⟨g, 0, none⟩ = some (i64 fr) := G5.out.cell 0
       have x1 : w5.cell? ⟨g, 1, none⟩ = some (i64 6) := G5.out.cell 1
       have z1 : w5.cell? ⟨g', 1, none⟩ = some (i64 1) := L5.out.cell 1
       have z2 : w5.cell? ⟨g', 2, none⟩ = some (i64 x.l) := L5.out.cell 2
       by_cases hfr : fr = 0
       ·have RES : Hid (s.take m = ({ s with L := setQ { x with st := 7, l := x.l } s.L } : Asr).tell { x with st := 7, l := x.l } 0) := Lib.hid (by
         rw [TO.out, HXQ.out]; dsimp only; rw [HST1.out]; dsimp only
         rw [if_neg (by rw [HP.out, ← HFR.out, hfr]; simp)]
         rfl)
        have f1 : w5.frozen? ⟨g', 1, none⟩ = false := L5.out.frozen 1
        have f2 : w5.frozen? ⟨g', 2, none⟩ = false := L5.out.frozen 2
        have x4 : w5.cell? ⟨g, 4, none⟩ = some (i64 v) := G5.out.cell 4
        have u1 : w5.cell? ⟨g7, 1, none⟩ = some (i64 7) := S5.out.cell 1
        have hgg : g ≠ g' := by omega
        have hg7' : g7 ≠ g' := by omega
        subst hfr
        go_wp2_with fail
        obtain ⟨w6, hw6⟩ : ∃ w6, w6 = w5.setCell ⟨g', 1, none⟩ (i64 7) := ⟨_, rfl⟩
        have L6 : Hid (Blk w6 g' #[i64 x.t, i64 7, i64 x.l] 130) := Lib.hid (by rw [hw6]; exact (L5.out.set 1 _).cast rfl)
        have T56 : Hid (Tn (fun k => k = g') w5 w6) := Lib.hid (by rw [hw6]; exact (Tn.refl (fun k => k = g') w5).setCell (p := ⟨g', 1, none⟩) (.inl rfl) _)
        have B6 : Hid (Below w.heap.size w w6) := Lib.hid (B5.out.trans (T56.out.below B5.out.size fun k hk => by omega))
        have M6 := Lib.hid (H.out.up B6.out)
        have G6 := Lib.hid (T56.out.blk G5.out hgg)
        have S6 := Lib.hid (T56.out.blk S5.out hg7')
        rw [← hw6]
        clear hw6 T56 G5 S5 L5 M5 B5 x0 x1 z1 z2 f1 f2 x4 u1
        obtain ⟨S, hS⟩ : ∃ S : World → Prop, S = fun W => ∃ n, W = w6.drewN n := ⟨_, rfl⟩
        have LDD : Hid (∀ W, S W → W.cell? ⟨b, 3, none⟩ = some (.map (some mb)) ∧ W.cell? ⟨g, 3, none⟩ = some (i64 x.n)) := Lib.hid (by rw [hS]; rintro W ⟨n, rfl⟩; exact ⟨M6.out.blk.cell 3, G6.out.cell 3⟩)
        have LDB : Hid (∀ W, S W → Blk W g' #[i64 x.t, i64 7, i64 x.l] 130) := Lib.hid (by rw [hS]; rintro W ⟨n, rfl⟩; exact L6.out.drewN n)
        have SS : Hid (∀ W, S W → ∃ n, W = w6.drewN n) := Lib.hid (by rw [hS]; exact fun W h => h)
        have hHeld : S w6.drew := by rw [hS]; exact ⟨1, rfl⟩
        clear hS
        refine wp_region_sp 8 S (by kernel_rfl) (by kernel_rfl) ?_
        simp only [List.take_succ_cons, List.take_zero]
        apply wpAnyH_apart S
        case take =>
         intro R hR
         refine tk 0 (v := ?_) rfl hHeld ?_ ?_; rotate_left
         ·(intro w hSw; obtain ⟨l0, l1⟩ := LDD.out w hSw; go_simp; try (with_reducible rfl))
         try simp only [gZ]
         refine tk 1 (v := ?_) rfl hHeld ?_ ?_; rotate_left
         ·(intro w hSw; obtain ⟨l0, l1⟩ := LDD.out w hSw; go_simp; try (with_reducible rfl))
         try simp only [gZ]
         refine tk 2 (v := ?_) rfl hHeld ?_ ?_; rotate_left
         ·(intro w hSw; obtain ⟨l0, l1⟩ := LDD.out w hSw; go_simp; try (with_reducible rfl))
         try simp only [gZ]
         refine tk 3 (v := ?_) rfl hHeld ?_ ?_; rotate_left
         ·(intro w hSw; obtain ⟨l0, l1⟩ := LDD.out w hSw; go_simp; try (with_reducible rfl))
         try simp only [gZ]
         refine tk 4 (v := ?_) rfl hHeld ?_ ?_; rotate_left
         ·(intro w hSw; obtain ⟨l0, l1⟩ := LDD.out w hSw; go_simp; try (with_reducible rfl))
         try simp only [gZ]
         refine tk 5 (v := ?_) rfl hHeld ?_ ?_; rotate_left
         ·(intro w hSw; obtain ⟨l0, l1⟩ := LDD.out w hSw; go_simp; try (with_reducible rfl))
         try simp only [gZ]
         refine tk 6 (v := ?_) rfl hHeld ?_ ?_; rotate_left
         ·(intro w hSw; obtain ⟨l0, l1⟩ := LDD.out w hSw; go_simp; try (with_reducible rfl))
         try simp only [gZ]
         refine wpAnyH_take (i := 7) (v := .agg #[i64 x.t, i64 7, i64 x.l]) rfl (by kernel_rfl) (by kernel_rfl) (by kernel_rfl) (fun _ _ _ h => only_panic h) ?_ hHeld ?_
         ·exact yields_row (.tmp 9) (by rfl) rfl rfl LDB.out Tryz.underlying130 rfl (by kernel_rfl)
         try simp only [gZ]
         exact wpAnyH_done (by kernel_rfl) ⟨rfl, hR _ hHeld⟩ _
        intro W hW
        obtain ⟨n1, rfl⟩ := SS.out W hW
        obtain ⟨w7, hrun, hM7, hT7⟩ := (M6.out.drewN n1).put (q := { x with st := 7, l := x.l }) (L' := setQ { x with st := 7, l := x.l } s.L) (rq_set' HXQ.out) (set_sortedQ M6.out.inOrder) (fun y hy => by
         rcases set_memQ hy with rfl | hy
         ·exact ⟨HXI.out.1, HXI.out.2.1, by dsimp only; omega, by dsimp only; omega, HXI.out.2.2.2.2⟩
         ·exact M6.out.ids.2.2 y hy) HXI.out.1 (by rw [set_lenQ]; have := M6.out.len.1; omega) (by omega)
        have hrun' : (Instr.mapUpdate 53 (.map (some mb)) (i64 x.n) (.agg #[i64 x.t, i64 7, i64 x.l])).run Tryz.prog (w6.drewN n1) = .ok () w7 := hrun
        have M7 := Lib.hid hM7
        have T7 : Hid (Tn (OwnA b (.map (some mb))) w w7) := Lib.hid ((Tn.of_below (bdrewN B6.out n1)).trans (hT7.mono fun k hk => .inr (by rw [hk])))
        have x3 : w7.cell? ⟨g, 3, none⟩ = some (i64 x.n) := hT7.cell ((G6.out.drewN n1).cell 3) (by show ¬ g = mb; omega)
        have u2 : w7.cell? ⟨g7, 2, none⟩ = some (i64 0) := hT7.cell ((S6.out.drewN n1).cell 2) (by show ¬ g7 = mb; omega)
        simp only [endN, List.drop_succ_cons, List.drop_zero, Act.put, List.setIfInBounds_toArray, List.set_cons_zero, List.set_cons_succ]
        clear hHeld hW SS LDD LDB S hrun hM7 hT7
        go_wp2_with fail
        refine (tell_any B b (N + 1) { s with L := setQ { x with st := 7, l := x.l } s.L } (.map (some mb)) x.n 0 { x with st := 7, l := x.l } w7 M7.out (Nat.le_trans HB.out T7.out.size) ((rq_set' (q := { x with st := 7, l := x.l }) HXQ.out x.n).trans (if_pos rfl)) (by have := M6.out.sent.2; show s.sent < 1000 * ((N + 1 : Nat) : Int); omega) HXI.out.1 ⟨by omega, by omega⟩).mono ?_
        rintro e w8 ⟨v8, rfl, hm8, hM8, hT8⟩
        have F : Hid (ATakeE B b N s (.map (some mb)) m w (.returned v8) w8) := Lib.hid (by
         unfold ATakeE
         rw [RES.out]
         exact ⟨v8, rfl, hm8.mono T7.out.size, hM8, T7.out.trans (hT8.mono fun k hk => .inl hk)⟩)
        clear hm8 hM8 hT8 hrun' x3 u2
        go_wp2_with fail
        go_ret
        exact F.out
       ·have F := Lib.hid (FN.out (by
         rw [TO.out, HXQ.out]; dsimp only; rw [HST1.out]; dsimp only
         rw [if_pos (.inr (by rw [HP.out, ← HFR.out]; simpa using hfr))]) w5 B5.out)
        have k1 : (fr != 0) = true := by simp [hfr]
        go_wp2_with fail
        go_ret
        exact F.out
      ·have x2 : w4.cell? ⟨g, 2, none⟩ = some (i64 s.id) := G4.out.cell 2
       have y0 : w4.cell? ⟨b, 0, none⟩ = some (i64 s.id) := M4.out.blk.cell 0
       have z1 : w4.cell? ⟨g', 1, none⟩ = some (i64 2) := L4.out.cell 1
       have u0 : w4.cell? ⟨g7, 0, none⟩ = some (i64 2) := S4.out.cell 0
       go_wp2_with fail
       go_quiet (fail)
       rename_i nq
       obtain ⟨w5, hw5⟩ : ∃ w5, w5 = w4.drewN nq := ⟨_, rfl⟩
       have G5 : Hid (Blk w5 g #[i64 fr, i64 8, i64 s.id, i64 x.n, i64 v] 108) := Lib.hid (by rw [hw5]; exact G4.out.drewN nq)
       have L5 : Hid (Blk w5 g' #[i64 x.t, i64 2, i64 x.l] 130) := Lib.hid (by rw [hw5]; exact L4.out.drewN nq)
       have S5 : Hid (Blk w5 g7 #[i64 2, i64 3, i64 9] 134) := Lib.hid (by rw [hw5]; exact S4.out.drewN nq)
       have M5 : Hid (AMem w5 B b s (.map (some mb)) N) := Lib.hid (by rw [hw5]; exact M4.out.drewN nq)
       have B5 : Hid (Below w.heap.size w w5) := Lib.hid (by rw [hw5]; exact bdrewN B4.out nq)
       have hz5 : w4.heap.size ≤ w5.heap.size := by rw [hw5]; exact Nat.le_refl _
       rw [← hw5]
       clear hw5 x2 y0 z1 u0 G4 L4 S4 M4 B4
       have x0 : w5.cell? ⟨g, 0, none⟩ = some (i64 fr) := G5.out.cell 0
       have x1 : w5.cell? ⟨g, 1, none⟩ = some (i64 8) := G5.out.cell 1
       have z1 : w5.cell? ⟨g', 1, none⟩ = some (i64 2) := L5.out.cell 1
       have z2 : w5.cell? ⟨g', 2, none⟩ = some (i64 x.l) := L5.out.cell 2
       by_cases hfr : fr = x.l
       ·have RES : Hid (s.take m = ({ s with L := setQ { x with st := 3, l := x.l } s.L } : Asr).tell { x with st := 3, l := x.l } 9) := Lib.hid (by
         rw [TO.out, HXQ.out]; dsimp only; rw [HST1.out]; dsimp only
         rw [if_neg (by rw [HP.out, ← HFR.out, hfr]; simp)]
         rfl)
        have f1 : w5.frozen? ⟨g', 1, none⟩ = false := L5.out.frozen 1
        have f2 : w5.frozen? ⟨g', 2, none⟩ = false := L5.out.frozen 2
        have x4 : w5.cell? ⟨g, 4, none⟩ = some (i64 v) := G5.out.cell 4
        have u1 : w5.cell? ⟨g7, 1, none⟩ = some (i64 3) := S5.out.cell 1
        have hgg : g ≠ g' := by omega
        have hg7' : g7 ≠ g' := by omega
        subst hfr
        go_wp2_with fail
        obtain ⟨w6, hw6⟩ : ∃ w6, w6 = w5.setCell ⟨g', 1, none⟩ (i64 3) := ⟨_, rfl⟩
        have L6 : Hid (Blk w6 g' #[i64 x.t, i64 3, i64 x.l] 130) := Lib.hid (by rw [hw6]; exact (L5.out.set 1 _).cast rfl)
        have T56 : Hid (Tn (fun k => k = g') w5 w6) := Lib.hid (by rw [hw6]; exact (Tn.refl (fun k => k = g') w5).setCell (p := ⟨g', 1, none⟩) (.inl rfl) _)
        have B6 : Hid (Below w.heap.size w w6) := Lib.hid (B5.out.trans (T56.out.below B5.out.size fun k hk => by omega))
        have M6 := Lib.hid (H.out.up B6.out)
        have G6 := Lib.hid (T56.out.blk G5.out hgg)
        have S6 := Lib.hid (T56.out.blk S5.out hg7')
        rw [← hw6]
        clear hw6 T56 G5 S5 L5 M5 B5 x0 x1 z1 z2 f1 f2 x4 u1
        obtain ⟨S, hS⟩ : ∃ S : World → Prop, S = fun W => ∃ n, W = w6.drewN n := ⟨_, rfl⟩
        have LDD : Hid (∀ W, S W → W.cell? ⟨b, 3, none⟩ = some (.map (some mb)) ∧ W.cell? ⟨g, 3, none⟩ = some (i64 x.n)) := Lib.hid (by rw [hS]; rintro W ⟨n, rfl⟩; exact ⟨M6.out.blk.cell 3, G6.out.cell 3⟩)
        have LDB : Hid (∀ W, S W → Blk W g' #[i64 x.t, i64 3, i64 x.l] 130) := Lib.hid (by rw [hS]; rintro W ⟨n, rfl⟩; exact L6.out.drewN n)
        have SS : Hid (∀ W, S W → ∃ n, W = w6.drewN n) := Lib.hid (by rw [hS]; exact fun W h => h)
        have hHeld : S w6.drew := by rw [hS]; exact ⟨1, rfl⟩
        clear hS
        refine wp_region_sp 8 S (by kernel_rfl) (by kernel_rfl) ?_
        simp only [List.take_succ_cons, List.take_zero]
        apply wpAnyH_apart S
        case take =>
         intro R hR
         refine tk 0 (v := ?_) rfl hHeld ?_ ?_; rotate_left
         ·(intro w hSw; obtain ⟨l0, l1⟩ := LDD.out w hSw; go_simp; try (with_reducible rfl))
         try simp only [gZ]
         refine tk 1 (v := ?_) rfl hHeld ?_ ?_; rotate_left
         ·(intro w hSw; obtain ⟨l0, l1⟩ := LDD.out w hSw; go_simp; try (with_reducible rfl))
         try simp only [gZ]
         refine tk 2 (v := ?_) rfl hHeld ?_ ?_; rotate_left
         ·(intro w hSw; obtain ⟨l0, l1⟩ := LDD.out w hSw; go_simp; try (with_reducible rfl))
         try simp only [gZ]
         refine tk 3 (v := ?_) rfl hHeld ?_ ?_; rotate_left
         ·(intro w hSw; obtain ⟨l0, l1⟩ := LDD.out w hSw; go_simp; try (with_reducible rfl))
         try simp only [gZ]
         refine tk 4 (v := ?_) rfl hHeld ?_ ?_; rotate_left
         ·(intro w hSw; obtain ⟨l0, l1⟩ := LDD.out w hSw; go_simp; try (with_reducible rfl))
         try simp only [gZ]
         refine tk 5 (v := ?_) rfl hHeld ?_ ?_; rotate_left
         ·(intro w hSw; obtain ⟨l0, l1⟩ := LDD.out w hSw; go_simp; try (with_reducible rfl))
         try simp only [gZ]
         refine tk 6 (v := ?_) rfl hHeld ?_ ?_; rotate_left
         ·(intro w hSw; obtain ⟨l0, l1⟩ := LDD.out w hSw; go_simp; try (with_reducible rfl))
         try simp only [gZ]
         refine wpAnyH_take (i := 7) (v := .agg #[i64 x.t, i64 3, i64 x.l]) rfl (by kernel_rfl) (by kernel_rfl) (by kernel_rfl) (fun _ _ _ h => only_panic h) ?_ hHeld ?_
         ·exact yields_row (.tmp 9) (by rfl) rfl rfl LDB.out Tryz.underlying130 rfl (by kernel_rfl)
         try simp only [gZ]
         exact wpAnyH_done (by kernel_rfl) ⟨rfl, hR _ hHeld⟩ _
        intro W hW
        obtain ⟨n1, rfl⟩ := SS.out W hW
        obtain ⟨w7, hrun, hM7, hT7⟩ := (M6.out.drewN n1).put (q := { x with st := 3, l := x.l }) (L' := setQ { x with st := 3, l := x.l } s.L) (rq_set' HXQ.out) (set_sortedQ M6.out.inOrder) (fun y hy => by
         rcases set_memQ hy with rfl | hy
         ·exact ⟨HXI.out.1, HXI.out.2.1, by dsimp only; omega, by dsimp only; omega, HXI.out.2.2.2.2⟩
         ·exact M6.out.ids.2.2 y hy) HXI.out.1 (by rw [set_lenQ]; have := M6.out.len.1; omega) (by omega)
        have hrun' : (Instr.mapUpdate 53 (.map (some mb)) (i64 x.n) (.agg #[i64 x.t, i64 3, i64 x.l])).run Tryz.prog (w6.drewN n1) = .ok () w7 := hrun
        have M7 := Lib.hid hM7
        have T7 : Hid (Tn (OwnA b (.map (some mb))) w w7) := Lib.hid ((Tn.of_below (bdrewN B6.out n1)).trans (hT7.mono fun k hk => .inr (by rw [hk])))
        have x3 : w7.cell? ⟨g, 3, none⟩ = some (i64 x.n) := hT7.cell ((G6.out.drewN n1).cell 3) (by show ¬ g = mb; omega)
        have u2 : w7.cell? ⟨g7, 2, none⟩ = some (i64 9) := hT7.cell ((S6.out.drewN n1).cell 2) (by show ¬ g7 = mb; omega)
        simp only [endN, List.drop_succ_cons, List.drop_zero, Act.put, List.setIfInBounds_toArray, List.set_cons_zero, List.set_cons_succ]
        clear hHeld hW SS LDD LDB S hrun hM7 hT7
        go_wp2_with fail
        refine (tell_any B b (N + 1) { s with L := setQ { x with st := 3, l := x.l } s.L } (.map (some mb)) x.n 9 { x with st := 3, l := x.l } w7 M7.out (Nat.le_trans HB.out T7.out.size) ((rq_set' (q := { x with st := 3, l := x.l }) HXQ.out x.n).trans (if_pos rfl)) (by have := M6.out.sent.2; show s.sent < 1000 * ((N + 1 : Nat) : Int); omega) HXI.out.1 ⟨by omega, by omega⟩).mono ?_
        rintro e w8 ⟨v8, rfl, hm8, hM8, hT8⟩
        have F : Hid (ATakeE B b N s (.map (some mb)) m w (.returned v8) w8) := Lib.hid (by
         unfold ATakeE
         rw [RES.out]
         exact ⟨v8, rfl, hm8.mono T7.out.size, hM8, T7.out.trans (hT8.mono fun k hk => .inl hk)⟩)
        clear hm8 hM8 hT8 hrun' x3 u2
        go_wp2_with fail
        go_ret
        exact F.out
       ·have F := Lib.hid (FN.out (by
         rw [TO.out, HXQ.out]; dsimp only; rw [HST1.out]; dsimp only
         rw [if_pos (.inr (by rw [HP.out, ← HFR.out]; simpa using hfr))]) w5 B5.out)
        have k1 : (fr != x.l) = true := by simp [hfr]
        go_wp2_with fail
        go_ret
        exact F.out
      ·have x2 : w4.cell? ⟨g, 2, none⟩ = some (i64 s.id) := G4.out.cell 2
       have y0 : w4.cell? ⟨b, 0, none⟩ = some (i64 s.id) := M4.out.blk.cell 0
       have z1 : w4.cell? ⟨g', 1, none⟩ = some (i64 3) := L4.out.cell 1
       have u0 : w4.cell? ⟨g7, 0, none⟩ = some (i64 3) := S4.out.cell 0
       go_wp2_with fail
       go_quiet (fail)
       rename_i nq
       obtain ⟨w5, hw5⟩ : ∃ w5, w5 = w4.drewN nq := ⟨_, rfl⟩
       have G5 : Hid (Blk w5 g #[i64 fr, i64 10, i64 s.id, i64 x.n, i64 v] 108) := Lib.hid (by rw [hw5]; exact G4.out.drewN nq)
       have L5 : Hid (Blk w5 g' #[i64 x.t, i64 3, i64 x.l] 130) := Lib.hid (by rw [hw5]; exact L4.out.drewN nq)
       have S5 : Hid (Blk w5 g7 #[i64 3, i64 4, i64 0] 134) := Lib.hid (by rw [hw5]; exact S4.out.drewN nq)
       have M5 : Hid (AMem w5 B b s (.map (some mb)) N) := Lib.hid (by rw [hw5]; exact M4.out.drewN nq)
       have B5 : Hid (Below w.heap.size w w5) := Lib.hid (by rw [hw5]; exact bdrewN B4.out nq)
       have hz5 : w4.heap.size ≤ w5.heap.size := by rw [hw5]; exact Nat.le_refl _
       rw [← hw5]
       clear hw5 x2 y0 z1 u0 G4 L4 S4 M4 B4
       have x0 : w5.cell? ⟨g, 0, none⟩ = some (i64 fr) := G5.out.cell 0
       have x1 : w5.cell? ⟨g, 1, none⟩ = some (i64 10) := G5.out.cell 1
       have z1 : w5.cell? ⟨g', 1, none⟩ = some (i64 3) := L5.out.cell 1
       have z2 : w5.cell? ⟨g', 2, none⟩ = some (i64 x.l) := L5.out.cell 2
       by_cases hfr : fr = x.l
       ·have RES : Hid (s.take m = ({ s with L := setQ { x with st := 4, l := x.l } s.L } : Asr).tell { x with st := 4, l := x.l } 0) := Lib.hid (by
         rw [TO.out, HXQ.out]; dsimp only; rw [HST1.out]; dsimp only
         rw [if_neg (by rw [HP.out, ← HFR.out, hfr]; simp)]
         rfl)
        have f1 : w5.frozen? ⟨g', 1, none⟩ = false := L5.out.frozen 1
        have f2 : w5.frozen? ⟨g', 2, none⟩ = false := L5.out.frozen 2
        have x4 : w5.cell? ⟨g, 4, none⟩ = some (i64 v) := G5.out.cell 4
        have u1 : w5.cell? ⟨g7, 1, none⟩ = some (i64 4) := S5.out.cell 1
        have hgg : g ≠ g' := by omega
        have hg7' : g7 ≠ g' := by omega
        subst hfr
        go_wp2_with fail
        obtain ⟨w6, hw6⟩ : ∃ w6, w6 = w5.setCell ⟨g', 1, none⟩ (i64 4) := ⟨_, rfl⟩
        have L6 : Hid (Blk w6 g' #[i64 x.t, i64 4, i64 x.l] 130) := Lib.hid (by rw [hw6]; exact (L5.out.set 1 _).cast rfl)
        have T56 : Hid (Tn (fun k => k = g') w5 w6) := Lib.hid (by rw [hw6]; exact (Tn.refl (fun k => k = g') w5).setCell (p := ⟨g', 1, none⟩) (.inl rfl) _)
        have B6 : Hid (Below w.heap.size w w6) := Lib.hid (B5.out.trans (T56.out.below B5.out.size fun k hk => by omega))
        have M6 := Lib.hid (H.out.up B6.out)
        have G6 := Lib.hid (T56.out.blk G5.out hgg)
        have S6 := Lib.hid (T56.out.blk S5.out hg7')
        rw [← hw6]
        clear hw6 T56 G5 S5 L5 M5 B5 x0 x1 z1 z2 f1 f2 x4 u1
        obtain ⟨S, hS⟩ : ∃ S : World → Prop, S = fun W => ∃ n, W = w6.drewN n := ⟨_, rfl⟩
        have LDD : Hid (∀ W, S W → W.cell? ⟨b, 3, none⟩ = some (.map (some mb)) ∧ W.cell? ⟨g, 3, none⟩ = some (i64 x.n)) := Lib.hid (by rw [hS]; rintro W ⟨n, rfl⟩; exact ⟨M6.out.blk.cell 3, G6.out.cell 3⟩)
        have LDB : Hid (∀ W, S W → Blk W g' #[i64 x.t, i64 4, i64 x.l] 130) := Lib.hid (by rw [hS]; rintro W ⟨n, rfl⟩; exact L6.out.drewN n)
        have SS : Hid (∀ W, S W → ∃ n, W = w6.drewN n) := Lib.hid (by rw [hS]; exact fun W h => h)
        have hHeld : S w6.drew := by rw [hS]; exact ⟨1, rfl⟩
        clear hS
        refine wp_region_sp 8 S (by kernel_rfl) (by kernel_rfl) ?_
        simp only [List.take_succ_cons, List.take_zero]
        apply wpAnyH_apart S
        case take =>
         intro R hR
         refine tk 0 (v := ?_) rfl hHeld ?_ ?_; rotate_left
         ·(intro w hSw; obtain ⟨l0, l1⟩ := LDD.out w hSw; go_simp; try (with_reducible rfl))
         try simp only [gZ]
         refine tk 1 (v := ?_) rfl hHeld ?_ ?_; rotate_left
         ·(intro w hSw; obtain ⟨l0, l1⟩ := LDD.out w hSw; go_simp; try (with_reducible rfl))
         try simp only [gZ]
         refine tk 2 (v := ?_) rfl hHeld ?_ ?_; rotate_left
         ·(intro w hSw; obtain ⟨l0, l1⟩ := LDD.out w hSw; go_simp; try (with_reducible rfl))
         try simp only [gZ]
         refine tk 3 (v := ?_) rfl hHeld ?_ ?_; rotate_left
         ·(intro w hSw; obtain ⟨l0, l1⟩ := LDD.out w hSw; go_simp; try (with_reducible rfl))
         try simp only [gZ]
         refine tk 4 (v := ?_) rfl hHeld ?_ ?_; rotate_left
         ·(intro w hSw; obtain ⟨l0, l1⟩ := LDD.out w hSw; go_simp; try (with_reducible rfl))
         try simp only [gZ]
         refine tk 5 (v := ?_) rfl hHeld ?_ ?_; rotate_left
         ·(intro w hSw; obtain ⟨l0, l1⟩ := LDD.out w hSw; go_simp; try (with_reducible rfl))
         try simp only [gZ]
         refine tk 6 (v := ?_) rfl hHeld ?_ ?_; rotate_left
         ·(intro w hSw; obtain ⟨l0, l1⟩ := LDD.out w hSw; go_simp; try (with_reducible rfl))
         try simp only [gZ]
         refine wpAnyH_take (i := 7) (v := .agg #[i64 x.t, i64 4, i64 x.l]) rfl (by kernel_rfl) (by kernel_rfl) (by kernel_rfl) (fun _ _ _ h => only_panic h) ?_ hHeld ?_
         ·exact yields_row (.tmp 9) (by rfl) rfl rfl LDB.out Tryz.underlying130 rfl (by kernel_rfl)
         try simp only [gZ]
         exact wpAnyH_done (by kernel_rfl) ⟨rfl, hR _ hHeld⟩ _
        intro W hW
        obtain ⟨n1, rfl⟩ := SS.out W hW
        obtain ⟨w7, hrun, hM7, hT7⟩ := (M6.out.drewN n1).put (q := { x with st := 4, l := x.l }) (L' := setQ { x with st := 4, l := x.l } s.L) (rq_set' HXQ.out) (set_sortedQ M6.out.inOrder) (fun y hy => by
         rcases set_memQ hy with rfl | hy
         ·exact ⟨HXI.out.1, HXI.out.2.1, by dsimp only; omega, by dsimp only; omega, HXI.out.2.2.2.2⟩
         ·exact M6.out.ids.2.2 y hy) HXI.out.1 (by rw [set_lenQ]; have := M6.out.len.1; omega) (by omega)
        have hrun' : (Instr.mapUpdate 53 (.map (some mb)) (i64 x.n) (.agg #[i64 x.t, i64 4, i64 x.l])).run Tryz.prog (w6.drewN n1) = .ok () w7 := hrun
        have M7 := Lib.hid hM7
        have T7 : Hid (Tn (OwnA b (.map (some mb))) w w7) := Lib.hid ((Tn.of_below (bdrewN B6.out n1)).trans (hT7.mono fun k hk => .inr (by rw [hk])))
        have x3 : w7.cell? ⟨g, 3, none⟩ = some (i64 x.n) := hT7.cell ((G6.out.drewN n1).cell 3) (by show ¬ g = mb; omega)
        have u2 : w7.cell? ⟨g7, 2, none⟩ = some (i64 0) := hT7.cell ((S6.out.drewN n1).cell 2) (by show ¬ g7 = mb; omega)
        simp only [endN, List.drop_succ_cons, List.drop_zero, Act.put, List.setIfInBounds_toArray, List.set_cons_zero, List.set_cons_succ]
        clear hHeld hW SS LDD LDB S hrun hM7 hT7
        go_wp2_with fail
        refine (tell_any B b (N + 1) { s with L := setQ { x with st := 4, l := x.l } s.L } (.map (some mb)) x.n 0 { x with st := 4, l := x.l } w7 M7.out (Nat.le_trans HB.out T7.out.size) ((rq_set' (q := { x with st := 4, l := x.l }) HXQ.out x.n).trans (if_pos rfl)) (by have := M6.out.sent.2; show s.sent < 1000 * ((N + 1 : Nat) : Int); omega) HXI.out.1 ⟨by omega, by omega⟩).mono ?_
        rintro e w8 ⟨v8, rfl, hm8, hM8, hT8⟩
        have F : Hid (ATakeE B b N s (.map (some mb)) m w (.returned v8) w8) := Lib.hid (by
         unfold ATakeE
         rw [RES.out]
         exact ⟨v8, rfl, hm8.mono T7.out.size, hM8, T7.out.trans (hT8.mono fun k hk => .inl hk)⟩)
        clear hm8 hM8 hT8 hrun' x3 u2
        go_wp2_with fail
        go_ret
        exact F.out
       ·have F := Lib.hid (FN.out (by
         rw [TO.out, HXQ.out]; dsimp only; rw [HST1.out]; dsimp only
         rw [if_pos (.inr (by rw [HP.out, ← HFR.out]; simpa using hfr))]) w5 B5.out)
        have k1 : (fr != x.l) = true := by simp [hfr]
        go_wp2_with fail
        go_ret
        exact F.out
      ·have x2 : w4.cell? ⟨g, 2, none⟩ = some (i64 s.id) := G4.out.cell 2
       have y0 : w4.cell? ⟨b, 0, none⟩ = some (i64 s.id) := M4.out.blk.cell 0
       have z1 : w4.cell? ⟨g', 1, none⟩ = some (i64 5) := L4.out.cell 1
       have u0 : w4.cell? ⟨g7, 0, none⟩ = some (i64 5) := S4.out.cell 0
       go_wp2_with fail
       go_quiet (fail)
       rename_i nq
       obtain ⟨w5, hw5⟩ : ∃ w5, w5 = w4.drewN nq := ⟨_, rfl⟩
       have G5 : Hid (Blk w5 g #[i64 fr, i64 12, i64 s.id, i64 x.n, i64 v] 108) := Lib.hid (by rw [hw5]; exact G4.out.drewN nq)
       have L5 : Hid (Blk w5 g' #[i64 x.t, i64 5, i64 x.l] 130) := Lib.hid (by rw [hw5]; exact L4.out.drewN nq)
       have S5 : Hid (Blk w5 g7 #[i64 5, i64 6, i64 0] 134) := Lib.hid (by rw [hw5]; exact S4.out.drewN nq)
       have M5 : Hid (AMem w5 B b s (.map (some mb)) N) := Lib.hid (by rw [hw5]; exact M4.out.drewN nq)
       have B5 : Hid (Below w.heap.size w w5) := Lib.hid (by rw [hw5]; exact bdrewN B4.out nq)
       have hz5 : w4.heap.size ≤ w5.heap.size := by rw [hw5]; exact Nat.le_refl _
       rw [← hw5]
       clear hw5 x2 y0 z1 u0 G4 L4 S4 M4 B4
       have x0 : w5.cell? ⟨g, 0, none⟩ = some (i64 fr) := G5.out.cell 0
       have x1 : w5.cell? ⟨g, 1, none⟩ = some (i64 12) := G5.out.cell 1
       have z1 : w5.cell? ⟨g', 1, none⟩ = some (i64 5) := L5.out.cell 1
       have z2 : w5.cell? ⟨g', 2, none⟩ = some (i64 x.l) := L5.out.cell 2
       by_cases hfr : fr = x.l
       ·have RES : Hid (s.take m = ({ s with L := setQ { x with st := 6, l := x.l } s.L } : Asr).tell { x with st := 6, l := x.l } 0) := Lib.hid (by
         rw [TO.out, HXQ.out]; dsimp only; rw [HST1.out]; dsimp only
         rw [if_neg (by rw [HP.out, ← HFR.out, hfr]; simp)]
         rfl)
        have f1 : w5.frozen? ⟨g', 1, none⟩ = false := L5.out.frozen 1
        have f2 : w5.frozen? ⟨g', 2, none⟩ = false := L5.out.frozen 2
        have x4 : w5.cell? ⟨g, 4, none⟩ = some (i64 v) := G5.out.cell 4
        have u1 : w5.cell? ⟨g7, 1, none⟩ = some (i64 6) := S5.out.cell 1
        have hgg : g ≠ g' := by omega
        have hg7' : g7 ≠ g' := by omega
        subst hfr
        go_wp2_with fail
        obtain ⟨w6, hw6⟩ : ∃ w6, w6 = w5.setCell ⟨g', 1, none⟩ (i64 6) := ⟨_, rfl⟩
        have L6 : Hid (Blk w6 g' #[i64 x.t, i64 6, i64 x.l] 130) := Lib.hid (by rw [hw6]; exact (L5.out.set 1 _).cast rfl)
        have T56 : Hid (Tn (fun k => k = g') w5 w6) := Lib.hid (by rw [hw6]; exact (Tn.refl (fun k => k = g') w5).setCell (p := ⟨g', 1, none⟩) (.inl rfl) _)
        have B6 : Hid (Below w.heap.size w w6) := Lib.hid (B5.out.trans (T56.out.below B5.out.size fun k hk => by omega))
        have M6 := Lib.hid (H.out.up B6.out)
        have G6 := Lib.hid (T56.out.blk G5.out hgg)
        have S6 := Lib.hid (T56.out.blk S5.out hg7')
        rw [← hw6]
        clear hw6 T56 G5 S5 L5 M5 B5 x0 x1 z1 z2 f1 f2 x4 u1
        obtain ⟨S, hS⟩ : ∃ S : World → Prop, S = fun W => ∃ n, W = w6.drewN n := ⟨_, rfl⟩
        have LDD : Hid (∀ W, S W → W.cell? ⟨b, 3, none⟩ = some (.map (some mb)) ∧ W.cell? ⟨g, 3, none⟩ = some (i64 x.n)) := Lib.hid (by rw [hS]; rintro W ⟨n, rfl⟩; exact ⟨M6.out.blk.cell 3, G6.out.cell 3⟩)
        have LDB : Hid (∀ W, S W → Blk W g' #[i64 x.t, i64 6, i64 x.l] 130) := Lib.hid (by rw [hS]; rintro W ⟨n, rfl⟩; exact L6.out.drewN n)
        have SS : Hid (∀ W, S W → ∃ n, W = w6.drewN n) := Lib.hid (by rw [hS]; exact fun W h => h)
        have hHeld : S w6.drew := by rw [hS]; exact ⟨1, rfl⟩
        clear hS
        refine wp_region_sp 8 S (by kernel_rfl) (by kernel_rfl) ?_
        simp only [List.take_succ_cons, List.take_zero]
        apply wpAnyH_apart S
        case take =>
         intro R hR
         refine tk 0 (v := ?_) rfl hHeld ?_ ?_; rotate_left
         ·(intro w hSw; obtain ⟨l0, l1⟩ := LDD.out w hSw; go_simp; try (with_reducible rfl))
         try simp only [gZ]
         refine tk 1 (v := ?_) rfl hHeld ?_ ?_; rotate_left
         ·(intro w hSw; obtain ⟨l0, l1⟩ := LDD.out w hSw; go_simp; try (with_reducible rfl))
         try simp only [gZ]
         refine tk 2 (v := ?_) rfl hHeld ?_ ?_; rotate_left
         ·(intro w hSw; obtain ⟨l0, l1⟩ := LDD.out w hSw; go_simp; try (with_reducible rfl))
         try simp only [gZ]
         refine tk 3 (v := ?_) rfl hHeld ?_ ?_; rotate_left
         ·(intro w hSw; obtain ⟨l0, l1⟩ := LDD.out w hSw; go_simp; try (with_reducible rfl))
         try simp only [gZ]
         refine tk 4 (v := ?_) rfl hHeld ?_ ?_; rotate_left
         ·(intro w hSw; obtain ⟨l0, l1⟩ := LDD.out w hSw; go_simp; try (with_reducible rfl))
         try simp only [gZ]
         refine tk 5 (v := ?_) rfl hHeld ?_ ?_; rotate_left
         ·(intro w hSw; obtain ⟨l0, l1⟩ := LDD.out w hSw; go_simp; try (with_reducible rfl))
         try simp only [gZ]
         refine tk 6 (v := ?_) rfl hHeld ?_ ?_; rotate_left
         ·(intro w hSw; obtain ⟨l0, l1⟩ := LDD.out w hSw; go_simp; try (with_reducible rfl))
         try simp only [gZ]
         refine wpAnyH_take (i := 7) (v := .agg #[i64 x.t, i64 6, i64 x.l]) rfl (by kernel_rfl) (by kernel_rfl) (by kernel_rfl) (fun _ _ _ h => only_panic h) ?_ hHeld ?_
         ·exact yields_row (.tmp 9) (by rfl) rfl rfl LDB.out Tryz.underlying130 rfl (by kernel_rfl)
         try simp only [gZ]
         exact wpAnyH_done (by kernel_rfl) ⟨rfl, hR _ hHeld⟩ _
        intro W hW
        obtain ⟨n1, rfl⟩ := SS.out W hW
        obtain ⟨w7, hrun, hM7, hT7⟩ := (M6.out.drewN n1).put (q := { x with st := 6, l := x.l }) (L' := setQ { x with st := 6, l := x.l } s.L) (rq_set' HXQ.out) (set_sortedQ M6.out.inOrder) (fun y hy => by
         rcases set_memQ hy with rfl | hy
         ·exact ⟨HXI.out.1, HXI.out.2.1, by dsimp only; omega, by dsimp only; omega, HXI.out.2.2.2.2⟩
         ·exact M6.out.ids.2.2 y hy) HXI.out.1 (by rw [set_lenQ]; have := M6.out.len.1; omega) (by omega)
        have hrun' : (Instr.mapUpdate 53 (.map (some mb)) (i64 x.n) (.agg #[i64 x.t, i64 6, i64 x.l])).run Tryz.prog (w6.drewN n1) = .ok () w7 := hrun
        have M7 := Lib.hid hM7
        have T7 : Hid (Tn (OwnA b (.map (some mb))) w w7) := Lib.hid ((Tn.of_below (bdrewN B6.out n1)).trans (hT7.mono fun k hk => .inr (by rw [hk])))
        have x3 : w7.cell? ⟨g, 3, none⟩ = some (i64 x.n) := hT7.cell ((G6.out.drewN n1).cell 3) (by show ¬ g = mb; omega)
        have u2 : w7.cell? ⟨g7, 2, none⟩ = some (i64 0) := hT7.cell ((S6.out.drewN n1).cell 2) (by show ¬ g7 = mb; omega)
        simp only [endN, List.drop_succ_cons, List.drop_zero, Act.put, List.setIfInBounds_toArray, List.set_cons_zero, List.set_cons_succ]
        clear hHeld hW SS LDD LDB S hrun hM7 hT7
        go_wp2_with fail
        refine (tell_any B b (N + 1) { s with L := setQ { x with st := 6, l := x.l } s.L } (.map (some mb)) x.n 0 { x with st := 6, l := x.l } w7 M7.out (Nat.le_trans HB.out T7.out.size) ((rq_set' (q := { x with st := 6, l := x.l }) HXQ.out x.n).trans (if_pos rfl)) (by have := M6.out.sent.2; show s.sent < 1000 * ((N + 1 : Nat) : Int); omega) HXI.out.1 ⟨by omega, by omega⟩).mono ?_
        rintro e w8 ⟨v8, rfl, hm8, hM8, hT8⟩
        have F : Hid (ATakeE B b N s (.map (some mb)) m w (.returned v8) w8) := Lib.hid (by
         unfold ATakeE
         rw [RES.out]
         exact ⟨v8, rfl, hm8.mono T7.out.size, hM8, T7.out.trans (hT8.mono fun k hk => .inl hk)⟩)
        clear hm8 hM8 hT8 hrun' x3 u2
        go_wp2_with fail
        go_ret
        exact F.out
       ·have F := Lib.hid (FN.out (by
         rw [TO.out, HXQ.out]; dsimp only; rw [HST1.out]; dsimp only
         rw [if_pos (.inr (by rw [HP.out, ← HFR.out]; simpa using hfr))]) w5 B5.out)
        have k1 : (fr != x.l) = true := by simp [hfr]
        go_wp2_with fail
        go_ret
        exact F.out
    ·have d2 : (xs != p') = true := by simp [hp]
     subst ha
     have F := Lib.hid (FN.out (aTake_no hd (.inr (.inr (.inr (fun x p1 q1 z1 h1 h2 h3 => hp (by
      rw [hstp] at h2; injection h2 with h2; injection h2 with h2 _
      have h4 := HXT.out
      rw [rqAt_some h1] at h4
      have h5 := congrArg Rq.st h4
      have h6 : x.st = xs := h5
      omega)))))))
     go_wp2_with fail
     go_quiet (fail)
     rename_i nq
     have F2 := Lib.hid (F.out (w4.drewN nq) (bdrewN B4.out nq))
     clear F
     go_wp2_with fail
     go_ret
     exact F2.out
   ·have d1 : (a != s.id) = true := by simp [ha]
    have F := Lib.hid (FN.out (aTake_no hd (.inr (.inl ha))))
    go_wp2_with fail
    go_quiet (fail)
    rename_i nq
    have F2 := Lib.hid (F.out (w4.drewN nq) (bdrewN B4.out nq))
    clear F
    go_wp2_with fail
    go_ret
    exact F2.out
end Go.Proofs.YtdojgbpaheadnaaGreat
