/- A lender takes a message. -/
import Derived.Test.YtdojgbpaheadnaaGreatQLF
set_option linter.unusedVariables false
set_option linter.unusedSimpArgs false

namespace Go.Proofs.YtdojgbpaheadnaaGreat
open Go.RowKit Go.Shelf Go.Maps Go.ChangeMaps

def TakeLE (B b : Nat) (s : Len) (hv mv : Value) (m : Msg) (w : World) (e : Ending) (w' : World) : Prop :=
 ∃ v hv' mv', e = .returned v ∧ MsgsAt w' w.heap.size v (s.take m).2 ∧ LMem w' B b (s.take m).1 hv' mv' 0 ∧ Tn (OwnL b hv mv) w w' ∧ ∀ k, OwnL b hv' mv' k → OwnL b hv mv k ∨ w.heap.size ≤ k
set_option maxRecDepth 100000 in
set_option maxHeartbeats 8000000 in
theorem take_any (B b : Nat) (s : Len) (hv mv : Value) (m : Msg) (w : World) (h : LMem w B b s hv mv 0) (hB : B ≤ w.heap.size) (hs : s.sent < 90000) (hh : s.here.length ≤ 21000) (ht : m.text.length ≤ 1000000) :
  Calls Tryz.prog 26 #[.pointer (some ⟨b, 0, none⟩), .agg (encM m)] w (TakeLE B b s hv mv m w) := by
 obtain ⟨lc, ok, hlet⟩ := let_of s.id m
 have LE := Lib.hid hlet
 have H := Lib.hid h
 have hbl := h.blk.lt
 obtain ⟨cm, hcm⟩ : ∃ cm, cm = encM m := ⟨_, rfl⟩
 have CM := Lib.hid hcm
 rw [← hcm]
 clear hlet h hcm
 go_enter Tryz.func26, Tryz.ntmps26
 go_wp2_with fail
 obtain ⟨mk, hmk⟩ : ∃ mk, mk = w.heap.size := ⟨_, rfl⟩
 obtain ⟨w1, hw1⟩ : ∃ w1, w1 = w.alloc (.cells cm 31) := ⟨_, rfl⟩
 have MB : Hid (Blk w1 mk cm 31) := Lib.hid (by rw [hw1, hmk]; exact Blk.new _ _ _)
 have B1 : Hid (Below w.heap.size w w1) := Lib.hid (by rw [hw1]; exact (Below.refl _ _).alloc (Nat.le_refl _) _)
 have M1 := Lib.hid (H.out.up B1.out)
 rw [← hmk, ← hw1]
 clear hw1
 have HMK := Lib.hid hmk
 clear hmk
 obtain ⟨S, hS⟩ : ∃ S : World → Prop, S = fun W => Below w1.heap.size w1 W := ⟨_, rfl⟩
 have OP : Hid (∀ W, S W → Calls Tryz.prog 52 #[.pointer (some ⟨b, 0, none⟩), .agg cm] W fun e w' => e = .returned (.tuple #[.agg lc, .bool ok]) ∧ Below W.heap.size W w') := Lib.hid (by
  rw [hS, CM.out]; exact fun W hW => LE.out.opens b W (Below.cellE hW (M1.out.blk.cell 0)) ht)
 have LM : Hid (∀ W, S W → Blk W mk cm 31) := Lib.hid (by rw [hS]; exact fun W hW => MB.out.below hW MB.out.lt)
 have SS : Hid (∀ W, S W → Below w1.heap.size w1 W) := Lib.hid (by rw [hS]; exact fun W h => h)
 have UU : Hid (∀ W, Below w1.heap.size w1 W → S W) := Lib.hid (by rw [hS]; exact fun W h => h)
 have HC : (Tryz.prog.info? 31).map (·.size) = some cm.size := by rw [CM.out]; kernel_rfl
 have HL6 := LE.out.size
 have HL5 : (Tryz.prog.info? 108).map (·.size) = some lc.size := by rw [HL6]; kernel_rfl
 have hHeld := UU.out _ (Below.refl w1.heap.size w1).drew
 clear hS
 refine wp_region_held_drew (S := S) (by kernel_rfl) hHeld (fun hU => ?_)
 apply wpAnyH_apart1 (fun g W => w1.heap.size ≤ g ∧ Blk W g lc 108 ∧ Below w1.heap.size w1 W)
 case take =>
  intro R hR
  refine tk 0 (v := ?_) rfl hHeld ?_ ?_; rotate_left
  ·(intro w hSw; clear hSw; go_simp; try (with_reducible rfl))
  try simp only [gZ]
  refine tk 1 (v := ?_) rfl hHeld ?_ ?_; rotate_left
  ·(intro w hSw; clear hSw; go_simp; try (with_reducible rfl))
  try simp only [gZ]
  refine tk 2 (v := ?_) rfl hHeld ?_ ?_; rotate_left
  ·(intro w hSw; clear hSw; go_simp; try (with_reducible rfl))
  try simp only [gZ]
  refine wpAnyH_take (i := 3) (v := .agg cm) rfl (by kernel_rfl) (by kernel_rfl) (by kernel_rfl) (fun _ _ _ h => only_panic h) ?_ hHeld ?_
  ·exact yields_row (.tmp 3) (by rfl) rfl rfl LM.out Tryz.underlying31 rfl HC
  try simp only [gZ]
  refine wpAnyH_two (i := 4) (j := 8) rfl rfl (by kernel_rfl) (by rfl) (by rfl) ?_ ?_
  ·go_simp
   refine (OP.out _ hHeld).mono ?_
   rintro e W2 ⟨rfl, hb⟩
   have B2 := Lib.hid ((Below.refl w1.heap.size w1).drew.trans hb)
   have hHeld := UU.out _ B2.out
   clear hb
   refine ⟨hHeld, ?_⟩
   refine tk 5 (v := ?_) rfl hHeld ?_ ?_; rotate_left
   ·(intro w hSw; clear hSw; go_simp; try (with_reducible rfl))
   try simp only [gZ]
   refine tk 6 (v := ?_) rfl hHeld ?_ ?_; rotate_left
   ·(intro w hSw; clear hSw; go_simp; try (with_reducible rfl))
   try simp only [gZ]
   refine tk 7 (v := ?_) rfl hHeld ?_ ?_; rotate_left
   ·(intro w hSw; clear hSw; go_simp; try (with_reducible rfl))
   try simp only [gZ]
   refine wpAnyH_one (i := 8) rfl (by kernel_rfl) (by rfl) ?_
   go_simp
   obtain ⟨g, hg⟩ : ∃ g, g = W2.heap.size := ⟨_, rfl⟩
   have B3 : Hid (Below w1.heap.size w1 (W2.alloc (.cells #[i64 0, i64 0, i64 0, i64 0, i64 0] 108))) := Lib.hid (B2.out.alloc B2.out.size _)
   have G3 : Hid (Blk (W2.alloc (.cells #[i64 0, i64 0, i64 0, i64 0, i64 0] 108)) g #[i64 0, i64 0, i64 0, i64 0, i64 0] 108) := Lib.hid (by rw [hg]; exact Blk.new _ _ _)
   have hgz : w1.heap.size ≤ g := by rw [hg]; exact B2.out.size
   rw [← hg]
   have hHeld := UU.out _ B3.out
   refine ⟨hHeld, ?_⟩
   refine wpAnyH_one (i := 9) rfl (by kernel_rfl) (by rfl) ?_
   refine wp_store_row 108 (.tmp 5) (.tmp 21) rfl g lc rfl rfl 108 _ G3.out HL5 HL6.symm LE.out.one ?_
   have B4 := Lib.hid (belowS (cs := lc) B3.out hgz)
   have hHeld := UU.out _ B4.out
   refine ⟨hHeld, ?_⟩
   refine tk 10 (v := ?_) rfl hHeld ?_ ?_; rotate_left
   ·(intro w hSw; clear hSw; go_simp; try (with_reducible rfl))
   try simp only [gZ]
   exact wpAnyH_done (by kernel_rfl) ⟨rfl, hR _ _ ⟨hgz, setRow_heap _ _ _ _ _ _ G3.out, B4.out⟩⟩ _
  ·go_simp
   obtain ⟨g, hg⟩ : ∃ g, g = w1.heap.size := ⟨_, rfl⟩
   obtain ⟨W2, hW2⟩ : ∃ W2, W2 = (w1.alloc (.cells #[i64 0, i64 0, i64 0, i64 0, i64 0] 108)).drew := ⟨_, rfl⟩
   have B2 : Hid (Below w1.heap.size w1 W2) := Lib.hid (by rw [hW2]; exact ((Below.refl _ _).alloc (Nat.le_refl _) _).drew)
   have G2 : Hid (Blk W2 g #[i64 0, i64 0, i64 0, i64 0, i64 0] 108) := Lib.hid (by rw [hW2, hg]; exact (Blk.new _ _ _).drew)
   have hgz : w1.heap.size ≤ g := by omega
   rw [← hW2, ← hg]
   clear hW2 hg
   have hHeld := UU.out _ B2.out
   refine ⟨hHeld, ?_⟩
   refine wpAnyH_one (i := 4) rfl (by kernel_rfl) (by rfl) ?_
   go_simp
   refine (OP.out _ hHeld).mono ?_
   rintro e W3 ⟨rfl, hb⟩
   have G3 := Lib.hid (G2.out.below hb G2.out.lt)
   have B3 := Lib.hid (B2.out.trans (hb.mono B2.out.size))
   have hHeld := UU.out _ B3.out
   clear hb
   refine ⟨hHeld, ?_⟩
   refine tk 5 (v := ?_) rfl hHeld ?_ ?_; rotate_left
   ·(intro w hSw; clear hSw; go_simp; try (with_reducible rfl))
   try simp only [gZ]
   refine tk 6 (v := ?_) rfl hHeld ?_ ?_; rotate_left
   ·(intro w hSw; clear hSw; go_simp; try (with_reducible rfl))
   try simp only [gZ]
   refine tk 7 (v := ?_) rfl hHeld ?_ ?_; rotate_left
   ·(intro w hSw; clear hSw; go_simp; try (with_reducible rfl))
   try simp only [gZ]
   refine wpAnyH_one (i := 9) rfl (by kernel_rfl) (by rfl) ?_
   refine wp_store_row 108 (.tmp 5) (.tmp 21) rfl g lc rfl rfl 108 _ G3.out HL5 HL6.symm LE.out.one ?_
   have B4 := Lib.hid (belowS (cs := lc) B3.out hgz)
   have hHeld := UU.out _ B4.out
   refine ⟨hHeld, ?_⟩
   refine tk 10 (v := ?_) rfl hHeld ?_ ?_; rotate_left
   ·(intro w hSw; clear hSw; go_simp; try (with_reducible rfl))
   try simp only [gZ]
   exact wpAnyH_done (by kernel_rfl) ⟨rfl, hR _ _ ⟨hgz, setRow_heap _ _ _ _ _ _ G3.out, B4.out⟩⟩ _
 rintro g w2 ⟨hgz, hG, hb⟩
 have G2 := Lib.hid hG
 have M2 := Lib.hid (M1.out.up hb)
 have B2 := Lib.hid (B1.out.trans (hb.mono B1.out.size))
 have hz2 := hb.size
 have hz1 := B1.out.size
 clear hU hHeld hG hb S OP LM SS UU HC MB HL5 HL6
 cases ok with
 | false =>
  have F : Hid (TakeLE B b s hv mv m w (.returned (.slice none 0 0)) w2) := Lib.hid (by
   have e : s.take m = (s, []) := by
    unfold Len.take
    rcases LE.out.no rfl with h1 | h1
    ·rw [h1]
    ·cases hd : dec m.text with
     | none => rfl
     | some q => obtain ⟨k, a, r, v⟩ := q; dsimp only; rw [if_pos h1]
   refine ⟨_, hv, mv, rfl, ?_, ?_, Tn.of_below B2.out, fun k h => .inl h⟩
   ·rw [e]; rfl
   ·rw [e]; exact M2.out)
  go_wp2_with fail
  go_ret
  exact F.out
 | true =>
  obtain ⟨⟨k, a, r, v⟩, hd, hto, hlc⟩ := LE.out.yes rfl
  subst hlc
  have HD := Lib.hid hd
  have HQ := Lib.hid (dec_some.1 hd).1
  obtain ⟨t0, k0, -, hat⟩ := atD s.L a r
  have HAT := Lib.hid hat
  obtain ⟨kn, hkn⟩ : ∃ kn, kn = (at_ s.L a r).isSome := ⟨_, rfl⟩
  have HKN := Lib.hid hkn
  obtain ⟨S, hS⟩ : ∃ S : World → Prop, S = fun W => Below w2.heap.size w2 W := ⟨_, rfl⟩
  have LD : Hid (∀ W, S W → W.cell? ⟨b, 3, none⟩ = some mv ∧ W.cell? ⟨g, 2, none⟩ = some (i64 a) ∧ W.cell? ⟨g, 3, none⟩ = some (i64 r) ∧ (Instr.lookup 59 mv (.agg #[i64 a, i64 r]) true).run Tryz.prog W = .ok (.tuple #[.agg #[i64 t0, i64 k0], .bool kn]) W) := Lib.hid (by
   rw [hS]; intro W h
   refine ⟨Below.cellE h (M2.out.blk.cell 3), Below.cellE h (G2.out.cell 2), Below.cellE h (G2.out.cell 3), ?_⟩
   rw [((M2.out.up h).look HQ.out.2.1 HQ.out.2.2.1).1, hat, hkn]; rfl)
  have UU : Hid (∀ W, Below w2.heap.size w2 W → S W) := Lib.hid (by rw [hS]; exact fun W h => h)
  clear hS hd hat hkn
  go_wp2_with fail
  have hHeld := UU.out _ (Below.refl w2.heap.size w2).drew
  refine wp_region_held_drew (S := S) (by kernel_rfl) hHeld (fun hU => ?_)
  apply wpAnyH_apart1 (fun g' W => w2.heap.size ≤ g' ∧ Blk W g' #[i64 t0, i64 k0] 145 ∧ Below w2.heap.size w2 W)
  case take =>
   intro R hR
   refine tk 0 (v := ?_) rfl hHeld ?_ ?_; rotate_left
   ·(intro w hSw; clear hSw; go_simp; try (with_reducible rfl))
   try simp only [gZ]
   refine tk 1 (v := ?_) rfl hHeld ?_ ?_; rotate_left
   ·(intro w hSw; clear hSw; go_simp; try (with_reducible rfl))
   try simp only [gZ]
   refine tk 2 (v := ?_) rfl hHeld ?_ ?_; rotate_left
   ·(intro w hSw; clear hSw; go_simp; try (with_reducible rfl))
   try simp only [gZ]
   refine tk 3 (v := ?_) rfl hHeld ?_ ?_; rotate_left
   ·(intro w hSw; obtain ⟨l0, l1, l2, l3⟩ := LD.out w hSw; go_simp; try (with_reducible rfl))
   try simp only [gZ]
   refine tk 4 (v := ?_) rfl hHeld ?_ ?_; rotate_left
   ·(intro w hSw; obtain ⟨l0, l1, l2, l3⟩ := LD.out w hSw; go_simp; try (with_reducible rfl))
   try simp only [gZ]
   refine tk 5 (v := ?_) rfl hHeld ?_ ?_; rotate_left
   ·(intro w hSw; obtain ⟨l0, l1, l2, l3⟩ := LD.out w hSw; go_simp; try (with_reducible rfl))
   try simp only [gZ]
   refine tk 6 (v := ?_) rfl hHeld ?_ ?_; rotate_left
   ·(intro w hSw; obtain ⟨l0, l1, l2, l3⟩ := LD.out w hSw; go_simp; try (with_reducible rfl))
   try simp only [gZ]
   refine tk 7 (v := ?_) rfl hHeld ?_ ?_; rotate_left
   ·(intro w hSw; clear hSw; go_simp; try (with_reducible rfl))
   try simp only [gZ]
   refine tk 8 (v := ?_) rfl hHeld ?_ ?_; rotate_left
   ·(intro w hSw; clear hSw; go_simp; try (with_reducible rfl))
   try simp only [gZ]
   refine tk 9 (v := ?_) rfl hHeld ?_ ?_; rotate_left
   ·(intro w hSw; clear hSw; go_simp; try (with_reducible rfl))
   try simp only [gZ]
   refine wpAnyH_one (i := 10) rfl (by kernel_rfl) (by rfl) ?_
   go_simp
   obtain ⟨g', hg'⟩ : ∃ g', g' = w2.heap.size := ⟨_, rfl⟩
   obtain ⟨W3, hW3⟩ : ∃ W3, W3 = (w2.alloc (.cells #[i64 0, i64 0] 145)).drew := ⟨_, rfl⟩
   have G3 : Hid (Blk W3 g' #[i64 0, i64 0] 145) := Lib.hid (by rw [hW3, hg']; exact (Blk.new _ _ _).drew)
   have B3 : Hid (Below w2.heap.size w2 W3) := Lib.hid (by rw [hW3]; exact ((Below.refl _ _).alloc (Nat.le_refl _) _).drew)
   have hgz : w2.heap.size ≤ g' := by omega
   rw [← hW3, ← hg']
   clear hW3 hg'
   have hHeld := UU.out _ B3.out
   refine ⟨hHeld, ?_⟩
   refine wpAnyH_one (i := 11) rfl (by kernel_rfl) (by rfl) ?_
   refine wp_store_row 145 (.tmp 7) (.tmp 33) rfl g' #[i64 t0, i64 k0] rfl rfl 145 _ G3.out (by kernel_rfl) rfl (by simp [Value.oneCell']) ?_
   have B4 := Lib.hid (belowS (cs := #[i64 t0, i64 k0]) B3.out hgz)
   have hHeld := UU.out _ B4.out
   refine ⟨hHeld, ?_⟩
   refine tk 12 (v := ?_) rfl hHeld ?_ ?_; rotate_left
   ·(intro w hSw; clear hSw; go_simp; try (with_reducible rfl))
   try simp only [gZ]
   exact wpAnyH_done (by kernel_rfl) ⟨rfl, hR _ _ ⟨hgz, setRow_heap _ _ _ _ _ _ G3.out, B4.out⟩⟩ _
  rintro g' w3 ⟨hgz', hG, hb⟩
  have L3 := Lib.hid hG
  have G3 := Lib.hid (G2.out.below hb G2.out.lt)
  have M3 := Lib.hid (M2.out.up hb)
  have B3 := Lib.hid (B2.out.trans (hb.mono B2.out.size))
  have hz3 := hb.size
  have hgl : g < w2.heap.size := G2.out.lt
  clear hU hHeld hG hb S LD UU G2 M2 B2
  obtain ⟨fr, hfr⟩ : ∃ fr, fr = m.frm := ⟨_, rfl⟩
  have HFR := Lib.hid hfr
  rw [← hfr] at G3 ⊢
  by_cases hw : k = 2 ∧ fr = 0
  ·obtain ⟨rfl, rfl⟩ := hw
   have g0 : w3.cell? ⟨g, 0, none⟩ = some (i64 0) := G3.out.cell 0
   have g1 : w3.cell? ⟨g, 1, none⟩ = some (i64 2) := G3.out.cell 1
   clear hfr
   cases hat : at_ s.L a r with
   | some d4 =>
    obtain rfl : kn = true := by rw [HKN.out, hat]; rfl
    have M4 := Lib.hid M3.out
    have G4 := Lib.hid G3.out
    have D4 : Hid (at_ s.L a r = some d4) := Lib.hid hat
    have T4 : Hid (Tn (OwnL b hv mv) w w3) := Lib.hid (Tn.of_below B3.out)
    have O4 : Hid (∀ k, OwnL b hv mv k → OwnL b hv mv k ∨ w.heap.size ≤ k) := Lib.hid fun k h => .inl h
    have HS4 : Hid (s.sent < 1000000000) := Lib.hid (by omega)
    have RES : Hid (∀ (K : Int), (d4.st = 1 ∧ K = 4 ∨ ¬ d4.st = 1 ∧ K = 3) → s.take m = ({ s with sent := s.sent + 1 }, [mesg s.id s.sent 0 K a r 0])) := Lib.hid (by
     intro K hK
     unfold Len.take
     rw [HD.out]
     dsimp only
     rw [if_neg (by rw [hto]; simp), if_pos ⟨rfl, HFR.out.symm⟩, hat]
     rcases hK with ⟨h1, rfl⟩ | ⟨h1, rfl⟩
     ·dsimp only; rw [if_pos h1]; rfl
     ·dsimp only; rw [if_neg h1]; rfl)
    clear hat
    obtain ⟨S, hS⟩ : ∃ S : World → Prop, S = fun W => ∃ n, W = w3.drewN n := ⟨_, rfl⟩
    obtain ⟨kk, hkk⟩ : ∃ kk, kk = kd d4.st := ⟨_, rfl⟩
    have HKK := Lib.hid hkk
    have LD : Hid (∀ W, S W → W.cell? ⟨b, 3, none⟩ = some mv ∧ W.cell? ⟨g, 2, none⟩ = some (i64 a) ∧ W.cell? ⟨g, 3, none⟩ = some (i64 r) ∧ (Instr.lookup 59 mv (.agg #[i64 a, i64 r]) false).run Tryz.prog W = .ok (.agg #[i64 d4.t, i64 kk]) W) := Lib.hid (by
     rw [hS]; rintro W ⟨n, rfl⟩
     refine ⟨M4.out.blk.cell 3, G4.out.cell 2, G4.out.cell 3, ?_⟩
     rw [((M4.out.drewN n).look HQ.out.2.1 HQ.out.2.2.1).2, hkk]
     unfold atV; rw [D4.out]; rfl)
    have SS : Hid (∀ W, S W → ∃ n, W = w3.drewN n) := Lib.hid (by rw [hS]; exact fun W h => h)
    have hHeld : S w3.drew := by rw [hS]; exact ⟨1, rfl⟩
    clear hS hkk
    go_wp2_with fail
    refine wp_region_held_drew (S := S) (by kernel_rfl) hHeld (fun hU => ?_)
    apply wpAnyH_apart S
    case take =>
     intro R hR
     refine tk 0 (v := ?_) rfl hHeld ?_ ?_; rotate_left
     ·(intro w hSw; clear hSw; go_simp; try (with_reducible rfl))
     try simp only [gZ]
     refine tk 1 (v := ?_) rfl hHeld ?_ ?_; rotate_left
     ·(intro w hSw; clear hSw; go_simp; try (with_reducible rfl))
     try simp only [gZ]
     refine tk 2 (v := ?_) rfl hHeld ?_ ?_; rotate_left
     ·(intro w hSw; clear hSw; go_simp; try (with_reducible rfl))
     try simp only [gZ]
     refine tk 3 (v := ?_) rfl hHeld ?_ ?_; rotate_left
     ·(intro w hSw; obtain ⟨l0, l1, l2, l3⟩ := LD.out w hSw; go_simp; try (with_reducible rfl))
     try simp only [gZ]
     refine tk 4 (v := ?_) rfl hHeld ?_ ?_; rotate_left
     ·(intro w hSw; obtain ⟨l0, l1, l2, l3⟩ := LD.out w hSw; go_simp; try (with_reducible rfl))
     try simp only [gZ]
     refine tk 5 (v := ?_) rfl hHeld ?_ ?_; rotate_left
     ·(intro w hSw; obtain ⟨l0, l1, l2, l3⟩ := LD.out w hSw; go_simp; try (with_reducible rfl))
     try simp only [gZ]
     refine tk 6 (v := ?_) rfl hHeld ?_ ?_; rotate_left
     ·(intro w hSw; obtain ⟨l0, l1, l2, l3⟩ := LD.out w hSw; go_simp; try (with_reducible rfl))
     try simp only [gZ]
     refine tk 7 (v := ?_) rfl hHeld ?_ ?_; rotate_left
     ·(intro w hSw; have hfd := field_loan d4.t kk w; go_simp; try (with_reducible rfl))
     try simp only [gZ]
     refine tk 8 (v := ?_) rfl hHeld ?_ ?_; rotate_left
     ·(intro w hSw; clear hSw; go_simp; try (with_reducible rfl))
     try simp only [gZ]
     exact wpAnyH_done (by kernel_rfl) ⟨rfl, hR _ hHeld⟩ _
    intro W hW
    obtain ⟨n4, rfl⟩ := SS.out W hW
    clear hU hHeld hW SS LD S
    by_cases hst : kk = 4
    ·subst hst
     have h1 : d4.st = 1 := kd_four.1 HKK.out.symm
     go_wp2_with fail
     obtain ⟨S, hS⟩ : ∃ S : World → Prop, S = fun W => ∃ n, W = (w3.drewN n4).drewN n := ⟨_, rfl⟩
     have LD : Hid (∀ W, S W → W.cell? ⟨g, 2, none⟩ = some (i64 a) ∧ W.cell? ⟨g, 3, none⟩ = some (i64 r)) := Lib.hid (by rw [hS]; rintro W ⟨n, rfl⟩; exact ⟨G4.out.cell 2, G4.out.cell 3⟩)
     have SS : Hid (∀ W, S W → ∃ n, W = w3.drewN n) := Lib.hid (by rw [hS]; rintro W ⟨n, rfl⟩; exact ⟨n4 + n, by simp [World.drewN, Nat.add_assoc]⟩)
     have hHeld : S (w3.drewN n4).drew := by rw [hS]; exact ⟨1, rfl⟩
     clear hS
     refine wp_region_sp 5 S (by kernel_rfl) (by kernel_rfl) ?_
     simp only [List.take_succ_cons, List.take_zero]
     apply wpAnyH_apart S
     case take =>
      intro R hR
      refine tk 0 (v := ?_) rfl hHeld ?_ ?_; rotate_left
      ·(intro w hSw; clear hSw; go_simp; try (with_reducible rfl))
      try simp only [gZ]
      refine tk 1 (v := ?_) rfl hHeld ?_ ?_; rotate_left
      ·(intro w hSw; clear hSw; go_simp; try (with_reducible rfl))
      try simp only [gZ]
      refine tk 2 (v := ?_) rfl hHeld ?_ ?_; rotate_left
      ·(intro w hSw; clear hSw; go_simp; try (with_reducible rfl))
      try simp only [gZ]
      refine tk 3 (v := ?_) rfl hHeld ?_ ?_; rotate_left
      ·(intro w hSw; obtain ⟨l0, l1⟩ := LD.out w hSw; go_simp; try (with_reducible rfl))
      try simp only [gZ]
      refine tk 4 (v := ?_) rfl hHeld ?_ ?_; rotate_left
      ·(intro w hSw; obtain ⟨l0, l1⟩ := LD.out w hSw; go_simp; try (with_reducible rfl))
      try simp only [gZ]
      exact wpAnyH_done (by kernel_rfl) ⟨rfl, hR _ hHeld⟩ _
     intro W hW
     obtain ⟨n5, rfl⟩ := SS.out W hW
     simp only [endN, List.drop_succ_cons, List.drop_zero, Act.put, List.setIfInBounds_toArray, List.set_cons_zero, List.set_cons_succ]
     have M5 := Lib.hid (M4.out.drewN n5)
     clear hHeld hW SS LD S
     go_wp2_with fail
     refine (send_any b s.id s.sent 0 4 a r 0 (w3.drewN n5) (M5.out.blk.cell 0) (M5.out.blk.cell 1) (M5.out.blk.frozen 1) ⟨M5.out.sent, HS4.out⟩ ⟨by omega, by omega⟩ HQ.out.2.1 HQ.out.2.2.1 ⟨by omega, by omega⟩).mono ?_
     rintro e w6 ⟨gm, rfl, hgm, hM, hb6⟩
     obtain ⟨M6, T6⟩ := M5.out.sent1 (by omega) hb6
     have F : Hid (TakeLE B b s hv mv m w (.returned (.slice (some ⟨gm, 0, none⟩) 1 1)) w6) := Lib.hid (by
      have e := RES.out 4 (.inl ⟨h1, rfl⟩)
      refine ⟨_, hv, mv, rfl, ?_, ?_, ?_, O4.out⟩
      ·rw [e]; exact ⟨gm, Nat.le_trans T4.out.size hgm, rfl, hM⟩
      ·rw [e]; exact M6
      ·exact (T4.out.drewN n5).then_ T6 fun k hk => by rw [hk]; exact .inl (.inl rfl))
     clear hM hb6 M6 T6
     go_wp2_with fail
     go_ret
     exact F.out
    ·have h1 : ¬ d4.st = 1 := fun e => hst (HKK.out.trans (kd_four.2 e))
     go_wp2_with fail
     obtain ⟨S, hS⟩ : ∃ S : World → Prop, S = fun W => ∃ n, W = (w3.drewN n4).drewN n := ⟨_, rfl⟩
     have LD : Hid (∀ W, S W → W.cell? ⟨g, 2, none⟩ = some (i64 a) ∧ W.cell? ⟨g, 3, none⟩ = some (i64 r)) := Lib.hid (by rw [hS]; rintro W ⟨n, rfl⟩; exact ⟨G4.out.cell 2, G4.out.cell 3⟩)
     have SS : Hid (∀ W, S W → ∃ n, W = w3.drewN n) := Lib.hid (by rw [hS]; rintro W ⟨n, rfl⟩; exact ⟨n4 + n, by simp [World.drewN, Nat.add_assoc]⟩)
     have hHeld : S (w3.drewN n4).drew := by rw [hS]; exact ⟨1, rfl⟩
     clear hS
     refine wp_region_sp 5 S (by kernel_rfl) (by kernel_rfl) ?_
     simp only [List.take_succ_cons, List.take_zero]
     apply wpAnyH_apart S
     case take =>
      intro R hR
      refine tk 0 (v := ?_) rfl hHeld ?_ ?_; rotate_left
      ·(intro w hSw; clear hSw; go_simp; try (with_reducible rfl))
      try simp only [gZ]
      refine tk 1 (v := ?_) rfl hHeld ?_ ?_; rotate_left
      ·(intro w hSw; clear hSw; go_simp; try (with_reducible rfl))
      try simp only [gZ]
      refine tk 2 (v := ?_) rfl hHeld ?_ ?_; rotate_left
      ·(intro w hSw; clear hSw; go_simp; try (with_reducible rfl))
      try simp only [gZ]
      refine tk 3 (v := ?_) rfl hHeld ?_ ?_; rotate_left
      ·(intro w hSw; obtain ⟨l0, l1⟩ := LD.out w hSw; go_simp; try (with_reducible rfl))
      try simp only [gZ]
      refine tk 4 (v := ?_) rfl hHeld ?_ ?_; rotate_left
      ·(intro w hSw; obtain ⟨l0, l1⟩ := LD.out w hSw; go_simp; try (with_reducible rfl))
      try simp only [gZ]
      exact wpAnyH_done (by kernel_rfl) ⟨rfl, hR _ hHeld⟩ _
     intro W hW
     obtain ⟨n5, rfl⟩ := SS.out W hW
     simp only [endN, List.drop_succ_cons, List.drop_zero, Act.put, List.setIfInBounds_toArray, List.set_cons_zero, List.set_cons_succ]
     have M5 := Lib.hid (M4.out.drewN n5)
     clear hHeld hW SS LD S
     go_wp2_with fail
     refine (send_any b s.id s.sent 0 3 a r 0 (w3.drewN n5) (M5.out.blk.cell 0) (M5.out.blk.cell 1) (M5.out.blk.frozen 1) ⟨M5.out.sent, HS4.out⟩ ⟨by omega, by omega⟩ HQ.out.2.1 HQ.out.2.2.1 ⟨by omega, by omega⟩).mono ?_
     rintro e w6 ⟨gm, rfl, hgm, hM, hb6⟩
     obtain ⟨M6, T6⟩ := M5.out.sent1 (by omega) hb6
     have F : Hid (TakeLE B b s hv mv m w (.returned (.slice (some ⟨gm, 0, none⟩) 1 1)) w6) := Lib.hid (by
      have e := RES.out 3 (.inr ⟨h1, rfl⟩)
      refine ⟨_, hv, mv, rfl, ?_, ?_, ?_, O4.out⟩
      ·rw [e]; exact ⟨gm, Nat.le_trans T4.out.size hgm, rfl, hM⟩
      ·rw [e]; exact M6
      ·exact (T4.out.drewN n5).then_ T6 fun k hk => by rw [hk]; exact .inl (.inl rfl))
     clear hM hb6 M6 T6
     go_wp2_with fail
     go_ret
     exact F.out
   | none =>
    obtain rfl : kn = false := by rw [HKN.out, hat]; rfl
    have q2 : w3.cell? ⟨g, 2, none⟩ = some (i64 a) := G3.out.cell 2
    have q3 : w3.cell? ⟨g, 3, none⟩ = some (i64 r) := G3.out.cell 3
    have q4 : w3.cell? ⟨g, 4, none⟩ = some (i64 v) := G3.out.cell 4
    have hB3 := B3.out.size
    go_wp2_with fail
    refine (promise_any B b s hv mv a r v w3 M3.out (by omega) (by omega) HQ.out.2.1 HQ.out.2.2.1 HQ.out.2.2.2 hat).mono ?_
    rintro e w4 ⟨hv4, mv4, rfl, hM4, hT4, hO4⟩
    have M4 := Lib.hid hM4
    have G4 := Lib.hid (hT4.blk G3.out fun h => by have := (H.out.own_lt h).2; omega)
    obtain ⟨d4, hd4⟩ : ∃ d4 : Deal, d4 = ⟨a, r, v, if v ∈ s.here then 2 else 1⟩ := ⟨_, rfl⟩
    have D4 : Hid (at_ (s.deal a r v).L a r = some d4) := Lib.hid (by
     rw [hd4]; unfold Len.deal
     split <;> (dsimp only; rw [at_snoc, hat]; simp [hit]))
    have T4 : Hid (Tn (OwnL b hv mv) w w4) := Lib.hid ((Tn.of_below B3.out).trans hT4)
    have O4 : Hid (∀ k, OwnL b hv4 mv4 k → OwnL b hv mv k ∨ w.heap.size ≤ k) := Lib.hid fun k h => (hO4 k h).imp id fun h => by omega
    have HS4 : Hid ((s.deal a r v).sent < 1000000000) := Lib.hid (by unfold Len.deal; split <;> (dsimp only; omega))
    have RES : Hid (∀ (K : Int), (d4.st = 1 ∧ K = 4 ∨ ¬ d4.st = 1 ∧ K = 3) → s.take m = ({ s.deal a r v with sent := (s.deal a r v).sent + 1 }, [mesg (s.deal a r v).id (s.deal a r v).sent 0 K a r 0])) := Lib.hid (by
     intro K hK
     unfold Len.take
     rw [HD.out]
     dsimp only
     rw [if_neg (by rw [hto]; simp), if_pos ⟨rfl, HFR.out.symm⟩, hat]
     rw [hd4] at hK
     by_cases hm : v ∈ s.here
     ·rw [if_pos hm] at hK
      rcases hK with ⟨h1, _⟩ | ⟨_, rfl⟩
      ·cases h1
      ·dsimp only; rw [if_pos hm]; rfl
     ·rw [if_neg hm] at hK
      rcases hK with ⟨_, rfl⟩ | ⟨h1, _⟩
      ·dsimp only; rw [if_neg hm]; rfl
      ·exact absurd rfl h1)
    clear hat hM4 hT4 hO4 hd4 q2 q3 q4
    obtain ⟨S, hS⟩ : ∃ S : World → Prop, S = fun W => ∃ n, W = w4.drewN n := ⟨_, rfl⟩
    obtain ⟨kk, hkk⟩ : ∃ kk, kk = kd d4.st := ⟨_, rfl⟩
    have HKK := Lib.hid hkk
    have LD : Hid (∀ W, S W → W.cell? ⟨b, 3, none⟩ = some mv4 ∧ W.cell? ⟨g, 2, none⟩ = some (i64 a) ∧ W.cell? ⟨g, 3, none⟩ = some (i64 r) ∧ (Instr.lookup 59 mv4 (.agg #[i64 a, i64 r]) false).run Tryz.prog W = .ok (.agg #[i64 d4.t, i64 kk]) W) := Lib.hid (by
     rw [hS]; rintro W ⟨n, rfl⟩
     refine ⟨M4.out.blk.cell 3, G4.out.cell 2, G4.out.cell 3, ?_⟩
     rw [((M4.out.drewN n).look HQ.out.2.1 HQ.out.2.2.1).2, hkk]
     unfold atV; rw [D4.out]; rfl)
    have SS : Hid (∀ W, S W → ∃ n, W = w4.drewN n) := Lib.hid (by rw [hS]; exact fun W h => h)
    have hHeld : S w4.drew := by rw [hS]; exact ⟨1, rfl⟩
    clear hS hkk
    go_wp2_with fail
    refine wp_region_held_drew (S := S) (by kernel_rfl) hHeld (fun hU => ?_)
    apply wpAnyH_apart S
    case take =>
     intro R hR
     refine tk 0 (v := ?_) rfl hHeld ?_ ?_; rotate_left
     ·(intro w hSw; clear hSw; go_simp; try (with_reducible rfl))
     try simp only [gZ]
     refine tk 1 (v := ?_) rfl hHeld ?_ ?_; rotate_left
     ·(intro w hSw; clear hSw; go_simp; try (with_reducible rfl))
     try simp only [gZ]
     refine tk 2 (v := ?_) rfl hHeld ?_ ?_; rotate_left
     ·(intro w hSw; clear hSw; go_simp; try (with_reducible rfl))
     try simp only [gZ]
     refine tk 3 (v := ?_) rfl hHeld ?_ ?_; rotate_left
     ·(intro w hSw; obtain ⟨l0, l1, l2, l3⟩ := LD.out w hSw; go_simp; try (with_reducible rfl))
     try simp only [gZ]
     refine tk 4 (v := ?_) rfl hHeld ?_ ?_; rotate_left
     ·(intro w hSw; obtain ⟨l0, l1, l2, l3⟩ := LD.out w hSw; go_simp; try (with_reducible rfl))
     try simp only [gZ]
     refine tk 5 (v := ?_) rfl hHeld ?_ ?_; rotate_left
     ·(intro w hSw; obtain ⟨l0, l1, l2, l3⟩ := LD.out w hSw; go_simp; try (with_reducible rfl))
     try simp only [gZ]
     refine tk 6 (v := ?_) rfl hHeld ?_ ?_; rotate_left
     ·(intro w hSw; obtain ⟨l0, l1, l2, l3⟩ := LD.out w hSw; go_simp; try (with_reducible rfl))
     try simp only [gZ]
     refine tk 7 (v := ?_) rfl hHeld ?_ ?_; rotate_left
     ·(intro w hSw; have hfd := field_loan d4.t kk w; go_simp; try (with_reducible rfl))
     try simp only [gZ]
     refine tk 8 (v := ?_) rfl hHeld ?_ ?_; rotate_left
     ·(intro w hSw; clear hSw; go_simp; try (with_reducible rfl))
     try simp only [gZ]
     exact wpAnyH_done (by kernel_rfl) ⟨rfl, hR _ hHeld⟩ _
    intro W hW
    obtain ⟨n4, rfl⟩ := SS.out W hW
    clear hU hHeld hW SS LD S
    by_cases hst : kk = 4
    ·subst hst
     have h1 : d4.st = 1 := kd_four.1 HKK.out.symm
     go_wp2_with fail
     obtain ⟨S, hS⟩ : ∃ S : World → Prop, S = fun W => ∃ n, W = (w4.drewN n4).drewN n := ⟨_, rfl⟩
     have LD : Hid (∀ W, S W → W.cell? ⟨g, 2, none⟩ = some (i64 a) ∧ W.cell? ⟨g, 3, none⟩ = some (i64 r)) := Lib.hid (by rw [hS]; rintro W ⟨n, rfl⟩; exact ⟨G4.out.cell 2, G4.out.cell 3⟩)
     have SS : Hid (∀ W, S W → ∃ n, W = w4.drewN n) := Lib.hid (by rw [hS]; rintro W ⟨n, rfl⟩; exact ⟨n4 + n, by simp [World.drewN, Nat.add_assoc]⟩)
     have hHeld : S (w4.drewN n4).drew := by rw [hS]; exact ⟨1, rfl⟩
     clear hS
     refine wp_region_sp 5 S (by kernel_rfl) (by kernel_rfl) ?_
     simp only [List.take_succ_cons, List.take_zero]
     apply wpAnyH_apart S
     case take =>
      intro R hR
      refine tk 0 (v := ?_) rfl hHeld ?_ ?_; rotate_left
      ·(intro w hSw; clear hSw; go_simp; try (with_reducible rfl))
      try simp only [gZ]
      refine tk 1 (v := ?_) rfl hHeld ?_ ?_; rotate_left
      ·(intro w hSw; clear hSw; go_simp; try (with_reducible rfl))
      try simp only [gZ]
      refine tk 2 (v := ?_) rfl hHeld ?_ ?_; rotate_left
      ·(intro w hSw; clear hSw; go_simp; try (with_reducible rfl))
      try simp only [gZ]
      refine tk 3 (v := ?_) rfl hHeld ?_ ?_; rotate_left
      ·(intro w hSw; obtain ⟨l0, l1⟩ := LD.out w hSw; go_simp; try (with_reducible rfl))
      try simp only [gZ]
      refine tk 4 (v := ?_) rfl hHeld ?_ ?_; rotate_left
      ·(intro w hSw; obtain ⟨l0, l1⟩ := LD.out w hSw; go_simp; try (with_reducible rfl))
      try simp only [gZ]
      exact wpAnyH_done (by kernel_rfl) ⟨rfl, hR _ hHeld⟩ _
     intro W hW
     obtain ⟨n5, rfl⟩ := SS.out W hW
     simp only [endN, List.drop_succ_cons, List.drop_zero, Act.put, List.setIfInBounds_toArray, List.set_cons_zero, List.set_cons_succ]
     have M5 := Lib.hid (M4.out.drewN n5)
     clear hHeld hW SS LD S
     go_wp2_with fail
     refine (send_any b (s.deal a r v).id (s.deal a r v).sent 0 4 a r 0 (w4.drewN n5) (M5.out.blk.cell 0) (M5.out.blk.cell 1) (M5.out.blk.frozen 1) ⟨M5.out.sent, HS4.out⟩ ⟨by omega, by omega⟩ HQ.out.2.1 HQ.out.2.2.1 ⟨by omega, by omega⟩).mono ?_
     rintro e w6 ⟨gm, rfl, hgm, hM, hb6⟩
     obtain ⟨M6, T6⟩ := M5.out.sent1 (by omega) hb6
     have F : Hid (TakeLE B b s hv mv m w (.returned (.slice (some ⟨gm, 0, none⟩) 1 1)) w6) := Lib.hid (by
      have e := RES.out 4 (.inl ⟨h1, rfl⟩)
      refine ⟨_, hv4, mv4, rfl, ?_, ?_, ?_, O4.out⟩
      ·rw [e]; exact ⟨gm, Nat.le_trans T4.out.size hgm, rfl, hM⟩
      ·rw [e]; exact M6
      ·exact (T4.out.drewN n5).then_ T6 fun k hk => by rw [hk]; exact .inl (.inl rfl))
     clear hM hb6 M6 T6
     go_wp2_with fail
     go_ret
     exact F.out
    ·have h1 : ¬ d4.st = 1 := fun e => hst (HKK.out.trans (kd_four.2 e))
     go_wp2_with fail
     obtain ⟨S, hS⟩ : ∃ S : World → Prop, S = fun W => ∃ n, W = (w4.drewN n4).drewN n := ⟨_, rfl⟩
     have LD : Hid (∀ W, S W → W.cell? ⟨g, 2, none⟩ = some (i64 a) ∧ W.cell? ⟨g, 3, none⟩ = some (i64 r)) := Lib.hid (by rw [hS]; rintro W ⟨n, rfl⟩; exact ⟨G4.out.cell 2, G4.out.cell 3⟩)
     have SS : Hid (∀ W, S W → ∃ n, W = w4.drewN n) := Lib.hid (by rw [hS]; rintro W ⟨n, rfl⟩; exact ⟨n4 + n, by simp [World.drewN, Nat.add_assoc]⟩)
     have hHeld : S (w4.drewN n4).drew := by rw [hS]; exact ⟨1, rfl⟩
     clear hS
     refine wp_region_sp 5 S (by kernel_rfl) (by kernel_rfl) ?_
     simp only [List.take_succ_cons, List.take_zero]
     apply wpAnyH_apart S
     case take =>
      intro R hR
      refine tk 0 (v := ?_) rfl hHeld ?_ ?_; rotate_left
      ·(intro w hSw; clear hSw; go_simp; try (with_reducible rfl))
      try simp only [gZ]
      refine tk 1 (v := ?_) rfl hHeld ?_ ?_; rotate_left
      ·(intro w hSw; clear hSw; go_simp; try (with_reducible rfl))
      try simp only [gZ]
      refine tk 2 (v := ?_) rfl hHeld ?_ ?_; rotate_left
      ·(intro w hSw; clear hSw; go_simp; try (with_reducible rfl))
      try simp only [gZ]
      refine tk 3 (v := ?_) rfl hHeld ?_ ?_; rotate_left
      ·(intro w hSw; obtain ⟨l0, l1⟩ := LD.out w hSw; go_simp; try (with_reducible rfl))
      try simp only [gZ]
      refine tk 4 (v := ?_) rfl hHeld ?_ ?_; rotate_left
      ·(intro w hSw; obtain ⟨l0, l1⟩ := LD.out w hSw; go_simp; try (with_reducible rfl))
      try simp only [gZ]
      exact wpAnyH_done (by kernel_rfl) ⟨rfl, hR _ hHeld⟩ _
     intro W hW
     obtain ⟨n5, rfl⟩ := SS.out W hW
     simp only [endN, List.drop_succ_cons, List.drop_zero, Act.put, List.setIfInBounds_toArray, List.set_cons_zero, List.set_cons_succ]
     have M5 := Lib.hid (M4.out.drewN n5)
     clear hHeld hW SS LD S
     go_wp2_with fail
     refine (send_any b (s.deal a r v).id (s.deal a r v).sent 0 3 a r 0 (w4.drewN n5) (M5.out.blk.cell 0) (M5.out.blk.cell 1) (M5.out.blk.frozen 1) ⟨M5.out.sent, HS4.out⟩ ⟨by omega, by omega⟩ HQ.out.2.1 HQ.out.2.2.1 ⟨by omega, by omega⟩).mono ?_
     rintro e w6 ⟨gm, rfl, hgm, hM, hb6⟩
     obtain ⟨M6, T6⟩ := M5.out.sent1 (by omega) hb6
     have F : Hid (TakeLE B b s hv mv m w (.returned (.slice (some ⟨gm, 0, none⟩) 1 1)) w6) := Lib.hid (by
      have e := RES.out 3 (.inr ⟨h1, rfl⟩)
      refine ⟨_, hv4, mv4, rfl, ?_, ?_, ?_, O4.out⟩
      ·rw [e]; exact ⟨gm, Nat.le_trans T4.out.size hgm, rfl, hM⟩
      ·rw [e]; exact M6
      ·exact (T4.out.drewN n5).then_ T6 fun k hk => by rw [hk]; exact .inl (.inl rfl))
     clear hM hb6 M6 T6
     go_wp2_with fail
     go_ret
     exact F.out
  ·have FN : Hid (s.take m = (s, []) → ∀ W, Below w.heap.size w W → LMem W B b s hv mv 0 → TakeLE B b s hv mv m w (.returned (.slice none 0 0)) W) := Lib.hid fun e W hW hM => ⟨_, hv, mv, rfl, by rw [e]; rfl, by rw [e]; exact hM, Tn.of_below hW, fun k h => .inl h⟩
   by_cases hk2 : k = 2
   ·subst hk2
    have hf0 : ¬ fr = 0 := fun e => hw ⟨rfl, e⟩
    have g0 : w3.cell? ⟨g, 0, none⟩ = some (i64 fr) := G3.out.cell 0
    have g1 : w3.cell? ⟨g, 1, none⟩ = some (i64 2) := G3.out.cell 1
    obtain ⟨p0, q0, hans⟩ : ∃ p0 q0, ansV 2 = loanV p0 q0 := by
     unfold ansV
     split
     ·exact ⟨_, _, rfl⟩
     ·exact ⟨_, _, rfl⟩
    obtain ⟨en, hen⟩ : ∃ en, en = (ans 2).isSome := ⟨_, rfl⟩
    have HANS := Lib.hid hans
    have HEN := Lib.hid hen
    have LK : Hid (∀ (W : World) (mb : Nat), AnsAt W mb → (Instr.lookup 152 (.map (some mb)) (i64 2) true).run Tryz.prog W = .ok (.tuple #[.agg #[i64 p0, i64 q0], .bool en]) W) := Lib.hid (by
     intro W mb h; rw [h.look HQ.out.1, hans, hen]; rfl)
    obtain ⟨S, hS⟩ : ∃ S : World → Prop, S = fun W => Below w3.heap.size w3 W := ⟨_, rfl⟩
    have LD : Hid (∀ W, S W → W.cell? ⟨g, 1, none⟩ = some (i64 2)) := Lib.hid (by rw [hS]; exact fun W h => Below.cellE h (G3.out.cell 1))
    have UU : Hid (∀ W, Below w3.heap.size w3 W → S W) := Lib.hid (by rw [hS]; exact fun W h => h)
    clear hS hans hen
    go_wp2_with fail
    have hHeld := UU.out _ (Below.refl w3.heap.size w3).drew
    refine wp_region_held_drew (S := S) (by kernel_rfl) hHeld (fun hU => ?_)
    apply wpAnyH_apart2 (fun _ g9 W => w3.heap.size ≤ g9 ∧ Blk W g9 #[i64 p0, i64 q0] 150 ∧ Below w3.heap.size w3 W)
    case take =>
     intro R hR
     refine tk 1 (v := ?_) rfl hHeld ?_ ?_; rotate_left
     ·(intro w hSw; clear hSw; go_simp; try (with_reducible rfl))
     try simp only [gZ]
     refine tk 2 (v := ?_) rfl hHeld ?_ ?_; rotate_left
     ·(intro w hSw; have l0 := LD.out w hSw; go_simp; try (with_reducible rfl))
     try simp only [gZ]
     refine wpAnyH_two (i := 0) (j := 7) rfl rfl (by kernel_rfl) (by rfl) (by rfl) ?_ ?_
     ·go_simp
      refine (answers_any _).mono ?_
      rintro e W4 ⟨mb, rfl, hA, hb⟩
      have A4 := Lib.hid hA
      have B4 := Lib.hid ((Below.refl w3.heap.size w3).drew.trans hb)
      have hHeld := UU.out _ B4.out
      clear hA hb
      refine ⟨hHeld, ?_⟩
      refine wpAnyH_two (i := 3) (j := 7) rfl rfl (by kernel_rfl) (by rfl) (by rfl) ?_ ?_
      ·have hlk := LK.out W4 mb A4.out
       go_simp
       clear hlk
       refine ⟨hHeld, ?_⟩
       refine tk 4 (v := ?_) rfl hHeld ?_ ?_; rotate_left
       ·(intro w hSw; clear hSw; go_simp; try (with_reducible rfl))
       try simp only [gZ]
       refine tk 5 (v := ?_) rfl hHeld ?_ ?_; rotate_left
       ·(intro w hSw; clear hSw; go_simp; try (with_reducible rfl))
       try simp only [gZ]
       refine tk 6 (v := ?_) rfl hHeld ?_ ?_; rotate_left
       ·(intro w hSw; clear hSw; go_simp; try (with_reducible rfl))
       try simp only [gZ]
       refine wpAnyH_one (i := 7) rfl (by kernel_rfl) (by rfl) ?_
       go_simp
       obtain ⟨g9, hg⟩ : ∃ g9, g9 = W4.heap.size := ⟨_, rfl⟩
       obtain ⟨W5, hW5⟩ : ∃ W5, W5 = W4.alloc (.cells #[i64 0, i64 0] 150) := ⟨_, rfl⟩
       have G5 : Hid (Blk W5 g9 #[i64 0, i64 0] 150) := Lib.hid (by rw [hW5, hg]; exact Blk.new _ _ _)
       have B5 : Hid (Below w3.heap.size w3 W5) := Lib.hid (by rw [hW5]; exact B4.out.alloc B4.out.size _)
       have hg9 : w3.heap.size ≤ g9 := by rw [hg]; exact B4.out.size
       rw [← hW5, ← hg]
       clear hW5 hg
       have hHeld := UU.out _ B5.out
       refine ⟨hHeld, ?_⟩
       refine wpAnyH_one (i := 8) rfl (by kernel_rfl) (by rfl) ?_
       refine wp_store_row 150 (.tmp 9) (.tmp 77) rfl g9 #[i64 p0, i64 q0] rfl rfl 150 _ G5.out (by kernel_rfl) rfl (by simp [Value.oneCell']) ?_
       have B9 := Lib.hid (belowS (cs := #[i64 p0, i64 q0]) B5.out hg9)
       have hHeld := UU.out _ B9.out
       refine ⟨hHeld, ?_⟩
       refine tk 9 (v := ?_) rfl hHeld ?_ ?_; rotate_left
       ·(intro w hSw; clear hSw; go_simp; try (with_reducible rfl))
       try simp only [gZ]
       exact wpAnyH_done (by kernel_rfl) ⟨rfl, hR mb g9 _ ⟨hg9, setRow_heap _ _ _ _ _ _ G5.out, B9.out⟩⟩ _
      ·go_simp
       obtain ⟨g9, hg⟩ : ∃ g9, g9 = W4.heap.size := ⟨_, rfl⟩
       obtain ⟨W5, hW5⟩ : ∃ W5, W5 = W4.alloc (.cells #[i64 0, i64 0] 150) := ⟨_, rfl⟩
       have G5 : Hid (Blk W5 g9 #[i64 0, i64 0] 150) := Lib.hid (by rw [hW5, hg]; exact Blk.new _ _ _)
       have B5 : Hid (Below w3.heap.size w3 W5) := Lib.hid (by rw [hW5]; exact B4.out.alloc B4.out.size _)
       have hg9 : w3.heap.size ≤ g9 := by rw [hg]; exact B4.out.size
       have A5 : Hid (AnsAt W5 mb) := Lib.hid (by rw [hW5]; exact A4.out.up ((Below.refl _ _).alloc (Nat.le_refl _) _))
       rw [← hW5, ← hg]
       clear hW5 hg
       have hHeld := UU.out _ B5.out
       refine ⟨hHeld, ?_⟩
       refine wpAnyH_one (i := 3) rfl (by kernel_rfl) (by rfl) ?_
       have hlk := LK.out W5 mb A5.out
       go_simp
       clear hlk
       refine ⟨hHeld, ?_⟩
       refine tk 4 (v := ?_) rfl hHeld ?_ ?_; rotate_left
       ·(intro w hSw; clear hSw; go_simp; try (with_reducible rfl))
       try simp only [gZ]
       refine tk 5 (v := ?_) rfl hHeld ?_ ?_; rotate_left
       ·(intro w hSw; clear hSw; go_simp; try (with_reducible rfl))
       try simp only [gZ]
       refine tk 6 (v := ?_) rfl hHeld ?_ ?_; rotate_left
       ·(intro w hSw; clear hSw; go_simp; try (with_reducible rfl))
       try simp only [gZ]
       refine wpAnyH_one (i := 8) rfl (by kernel_rfl) (by rfl) ?_
       refine wp_store_row 150 (.tmp 9) (.tmp 77) rfl g9 #[i64 p0, i64 q0] rfl rfl 150 _ G5.out (by kernel_rfl) rfl (by simp [Value.oneCell']) ?_
       have B9 := Lib.hid (belowS (cs := #[i64 p0, i64 q0]) B5.out hg9)
       have hHeld := UU.out _ B9.out
       refine ⟨hHeld, ?_⟩
       refine tk 9 (v := ?_) rfl hHeld ?_ ?_; rotate_left
       ·(intro w hSw; clear hSw; go_simp; try (with_reducible rfl))
       try simp only [gZ]
       exact wpAnyH_done (by kernel_rfl) ⟨rfl, hR mb g9 _ ⟨hg9, setRow_heap _ _ _ _ _ _ G5.out, B9.out⟩⟩ _
     ·go_simp
      obtain ⟨g9, hg⟩ : ∃ g9, g9 = w3.heap.size := ⟨_, rfl⟩
      obtain ⟨W4, hW4⟩ : ∃ W4, W4 = (w3.alloc (.cells #[i64 0, i64 0] 150)).drew := ⟨_, rfl⟩
      have G4 : Hid (Blk W4 g9 #[i64 0, i64 0] 150) := Lib.hid (by rw [hW4, hg]; exact (Blk.new _ _ _).drew)
      have B4 : Hid (Below w3.heap.size w3 W4) := Lib.hid (by rw [hW4]; exact ((Below.refl _ _).alloc (Nat.le_refl _) _).drew)
      have hg9 : w3.heap.size ≤ g9 := by omega
      rw [← hW4, ← hg]
      clear hW4 hg
      have hHeld := UU.out _ B4.out
      refine ⟨hHeld, ?_⟩
      refine wpAnyH_one (i := 0) rfl (by kernel_rfl) (by rfl) ?_
      go_simp
      refine (answers_any _).mono ?_
      rintro e W5 ⟨mb, rfl, hA, hb⟩
      have A5 := Lib.hid hA
      have G5 := Lib.hid (G4.out.below hb G4.out.lt)
      have B5 := Lib.hid (B4.out.trans (hb.mono B4.out.size))
      have hHeld := UU.out _ B5.out
      clear hA hb
      refine ⟨hHeld, ?_⟩
      refine wpAnyH_one (i := 3) rfl (by kernel_rfl) (by rfl) ?_
      have hlk := LK.out W5 mb A5.out
      go_simp
      clear hlk
      refine ⟨hHeld, ?_⟩
      refine tk 4 (v := ?_) rfl hHeld ?_ ?_; rotate_left
      ·(intro w hSw; clear hSw; go_simp; try (with_reducible rfl))
      try simp only [gZ]
      refine tk 5 (v := ?_) rfl hHeld ?_ ?_; rotate_left
      ·(intro w hSw; clear hSw; go_simp; try (with_reducible rfl))
      try simp only [gZ]
      refine tk 6 (v := ?_) rfl hHeld ?_ ?_; rotate_left
      ·(intro w hSw; clear hSw; go_simp; try (with_reducible rfl))
      try simp only [gZ]
      refine wpAnyH_one (i := 8) rfl (by kernel_rfl) (by rfl) ?_
      refine wp_store_row 150 (.tmp 9) (.tmp 77) rfl g9 #[i64 p0, i64 q0] rfl rfl 150 _ G5.out (by kernel_rfl) rfl (by simp [Value.oneCell']) ?_
      have B9 := Lib.hid (belowS (cs := #[i64 p0, i64 q0]) B5.out hg9)
      have hHeld := UU.out _ B9.out
      refine ⟨hHeld, ?_⟩
      refine tk 9 (v := ?_) rfl hHeld ?_ ?_; rotate_left
      ·(intro w hSw; clear hSw; go_simp; try (with_reducible rfl))
      try simp only [gZ]
      exact wpAnyH_done (by kernel_rfl) ⟨rfl, hR mb g9 _ ⟨hg9, setRow_heap _ _ _ _ _ _ G5.out, B9.out⟩⟩ _
    rintro mb g9 w4 ⟨hg9, hG9, hb⟩
    have L9 := Lib.hid hG9
    have G4 := Lib.hid (G3.out.below hb G3.out.lt)
    have L4 := Lib.hid (L3.out.below hb L3.out.lt)
    have M4 := Lib.hid (M3.out.up hb)
    have B4 := Lib.hid (B3.out.trans (hb.mono B3.out.size))
    have hz4 := hb.size
    have hgl' : g' < w3.heap.size := L3.out.lt
    clear hU hHeld hG9 hb S LD UU LK G3 M3 L3
    obtain rfl : en = false := by rw [HEN.out]; rfl
    have F := Lib.hid (FN.out (by
     rw [take_other HD.out hto (fun h => hf0 (by rw [HFR.out]; exact h.2))]
     cases at_ s.L a r <;> rfl) w4 B4.out M4.out)
    cases kn with
    | false =>
     go_wp2_with fail
     go_ret
     exact F.out
    | true =>
     go_wp2_with fail
     go_ret
     exact F.out
   ·have g1 : w3.cell? ⟨g, 1, none⟩ = some (i64 k) := G3.out.cell 1
    obtain ⟨p0, q0, hans⟩ : ∃ p0 q0, ansV k = loanV p0 q0 := by
     unfold ansV
     split
     ·exact ⟨_, _, rfl⟩
     ·exact ⟨_, _, rfl⟩
    obtain ⟨en, hen⟩ : ∃ en, en = (ans k).isSome := ⟨_, rfl⟩
    have HANS := Lib.hid hans
    have HEN := Lib.hid hen
    have LK : Hid (∀ (W : World) (mb : Nat), AnsAt W mb → (Instr.lookup 152 (.map (some mb)) (i64 k) true).run Tryz.prog W = .ok (.tuple #[.agg #[i64 p0, i64 q0], .bool en]) W) := Lib.hid (by
     intro W mb h; rw [h.look HQ.out.1, hans, hen]; rfl)
    obtain ⟨S, hS⟩ : ∃ S : World → Prop, S = fun W => Below w3.heap.size w3 W := ⟨_, rfl⟩
    have LD : Hid (∀ W, S W → W.cell? ⟨g, 1, none⟩ = some (i64 k)) := Lib.hid (by rw [hS]; exact fun W h => Below.cellE h (G3.out.cell 1))
    have UU : Hid (∀ W, Below w3.heap.size w3 W → S W) := Lib.hid (by rw [hS]; exact fun W h => h)
    clear hS hans hen
    go_wp2_with fail
    have hHeld := UU.out _ (Below.refl w3.heap.size w3).drew
    refine wp_region_held_drew (S := S) (by kernel_rfl) hHeld (fun hU => ?_)
    apply wpAnyH_apart2 (fun _ g9 W => w3.heap.size ≤ g9 ∧ Blk W g9 #[i64 p0, i64 q0] 150 ∧ Below w3.heap.size w3 W)
    case take =>
     intro R hR
     refine tk 1 (v := ?_) rfl hHeld ?_ ?_; rotate_left
     ·(intro w hSw; clear hSw; go_simp; try (with_reducible rfl))
     try simp only [gZ]
     refine tk 2 (v := ?_) rfl hHeld ?_ ?_; rotate_left
     ·(intro w hSw; have l0 := LD.out w hSw; go_simp; try (with_reducible rfl))
     try simp only [gZ]
     refine wpAnyH_two (i := 0) (j := 7) rfl rfl (by kernel_rfl) (by rfl) (by rfl) ?_ ?_
     ·go_simp
      refine (answers_any _).mono ?_
      rintro e W4 ⟨mb, rfl, hA, hb⟩
      have A4 := Lib.hid hA
      have B4 := Lib.hid ((Below.refl w3.heap.size w3).drew.trans hb)
      have hHeld := UU.out _ B4.out
      clear hA hb
      refine ⟨hHeld, ?_⟩
      refine wpAnyH_two (i := 3) (j := 7) rfl rfl (by kernel_rfl) (by rfl) (by rfl) ?_ ?_
      ·have hlk := LK.out W4 mb A4.out
       go_simp
       clear hlk
       refine ⟨hHeld, ?_⟩
       refine tk 4 (v := ?_) rfl hHeld ?_ ?_; rotate_left
       ·(intro w hSw; clear hSw; go_simp; try (with_reducible rfl))
       try simp only [gZ]
       refine tk 5 (v := ?_) rfl hHeld ?_ ?_; rotate_left
       ·(intro w hSw; clear hSw; go_simp; try (with_reducible rfl))
       try simp only [gZ]
       refine tk 6 (v := ?_) rfl hHeld ?_ ?_; rotate_left
       ·(intro w hSw; clear hSw; go_simp; try (with_reducible rfl))
       try simp only [gZ]
       refine wpAnyH_one (i := 7) rfl (by kernel_rfl) (by rfl) ?_
       go_simp
       obtain ⟨g9, hg⟩ : ∃ g9, g9 = W4.heap.size := ⟨_, rfl⟩
       obtain ⟨W5, hW5⟩ : ∃ W5, W5 = W4.alloc (.cells #[i64 0, i64 0] 150) := ⟨_, rfl⟩
       have G5 : Hid (Blk W5 g9 #[i64 0, i64 0] 150) := Lib.hid (by rw [hW5, hg]; exact Blk.new _ _ _)
       have B5 : Hid (Below w3.heap.size w3 W5) := Lib.hid (by rw [hW5]; exact B4.out.alloc B4.out.size _)
       have hg9 : w3.heap.size ≤ g9 := by rw [hg]; exact B4.out.size
       rw [← hW5, ← hg]
       clear hW5 hg
       have hHeld := UU.out _ B5.out
       refine ⟨hHeld, ?_⟩
       refine wpAnyH_one (i := 8) rfl (by kernel_rfl) (by rfl) ?_
       refine wp_store_row 150 (.tmp 9) (.tmp 77) rfl g9 #[i64 p0, i64 q0] rfl rfl 150 _ G5.out (by kernel_rfl) rfl (by simp [Value.oneCell']) ?_
       have B9 := Lib.hid (belowS (cs := #[i64 p0, i64 q0]) B5.out hg9)
       have hHeld := UU.out _ B9.out
       refine ⟨hHeld, ?_⟩
       refine tk 9 (v := ?_) rfl hHeld ?_ ?_; rotate_left
       ·(intro w hSw; clear hSw; go_simp; try (with_reducible rfl))
       try simp only [gZ]
       exact wpAnyH_done (by kernel_rfl) ⟨rfl, hR mb g9 _ ⟨hg9, setRow_heap _ _ _ _ _ _ G5.out, B9.out⟩⟩ _
      ·go_simp
       obtain ⟨g9, hg⟩ : ∃ g9, g9 = W4.heap.size := ⟨_, rfl⟩
       obtain ⟨W5, hW5⟩ : ∃ W5, W5 = W4.alloc (.cells #[i64 0, i64 0] 150) := ⟨_, rfl⟩
       have G5 : Hid (Blk W5 g9 #[i64 0, i64 0] 150) := Lib.hid (by rw [hW5, hg]; exact Blk.new _ _ _)
       have B5 : Hid (Below w3.heap.size w3 W5) := Lib.hid (by rw [hW5]; exact B4.out.alloc B4.out.size _)
       have hg9 : w3.heap.size ≤ g9 := by rw [hg]; exact B4.out.size
       have A5 : Hid (AnsAt W5 mb) := Lib.hid (by rw [hW5]; exact A4.out.up ((Below.refl _ _).alloc (Nat.le_refl _) _))
       rw [← hW5, ← hg]
       clear hW5 hg
       have hHeld := UU.out _ B5.out
       refine ⟨hHeld, ?_⟩
       refine wpAnyH_one (i := 3) rfl (by kernel_rfl) (by rfl) ?_
       have hlk := LK.out W5 mb A5.out
       go_simp
       clear hlk
       refine ⟨hHeld, ?_⟩
       refine tk 4 (v := ?_) rfl hHeld ?_ ?_; rotate_left
       ·(intro w hSw; clear hSw; go_simp; try (with_reducible rfl))
       try simp only [gZ]
       refine tk 5 (v := ?_) rfl hHeld ?_ ?_; rotate_left
       ·(intro w hSw; clear hSw; go_simp; try (with_reducible rfl))
       try simp only [gZ]
       refine tk 6 (v := ?_) rfl hHeld ?_ ?_; rotate_left
       ·(intro w hSw; clear hSw; go_simp; try (with_reducible rfl))
       try simp only [gZ]
       refine wpAnyH_one (i := 8) rfl (by kernel_rfl) (by rfl) ?_
       refine wp_store_row 150 (.tmp 9) (.tmp 77) rfl g9 #[i64 p0, i64 q0] rfl rfl 150 _ G5.out (by kernel_rfl) rfl (by simp [Value.oneCell']) ?_
       have B9 := Lib.hid (belowS (cs := #[i64 p0, i64 q0]) B5.out hg9)
       have hHeld := UU.out _ B9.out
       refine ⟨hHeld, ?_⟩
       refine tk 9 (v := ?_) rfl hHeld ?_ ?_; rotate_left
       ·(intro w hSw; clear hSw; go_simp; try (with_reducible rfl))
       try simp only [gZ]
       exact wpAnyH_done (by kernel_rfl) ⟨rfl, hR mb g9 _ ⟨hg9, setRow_heap _ _ _ _ _ _ G5.out, B9.out⟩⟩ _
     ·go_simp
      obtain ⟨g9, hg⟩ : ∃ g9, g9 = w3.heap.size := ⟨_, rfl⟩
      obtain ⟨W4, hW4⟩ : ∃ W4, W4 = (w3.alloc (.cells #[i64 0, i64 0] 150)).drew := ⟨_, rfl⟩
      have G4 : Hid (Blk W4 g9 #[i64 0, i64 0] 150) := Lib.hid (by rw [hW4, hg]; exact (Blk.new _ _ _).drew)
      have B4 : Hid (Below w3.heap.size w3 W4) := Lib.hid (by rw [hW4]; exact ((Below.refl _ _).alloc (Nat.le_refl _) _).drew)
      have hg9 : w3.heap.size ≤ g9 := by omega
      rw [← hW4, ← hg]
      clear hW4 hg
      have hHeld := UU.out _ B4.out
      refine ⟨hHeld, ?_⟩
      refine wpAnyH_one (i := 0) rfl (by kernel_rfl) (by rfl) ?_
      go_simp
      refine (answers_any _).mono ?_
      rintro e W5 ⟨mb, rfl, hA, hb⟩
      have A5 := Lib.hid hA
      have G5 := Lib.hid (G4.out.below hb G4.out.lt)
      have B5 := Lib.hid (B4.out.trans (hb.mono B4.out.size))
      have hHeld := UU.out _ B5.out
      clear hA hb
      refine ⟨hHeld, ?_⟩
      refine wpAnyH_one (i := 3) rfl (by kernel_rfl) (by rfl) ?_
      have hlk := LK.out W5 mb A5.out
      go_simp
      clear hlk
      refine ⟨hHeld, ?_⟩
      refine tk 4 (v := ?_) rfl hHeld ?_ ?_; rotate_left
      ·(intro w hSw; clear hSw; go_simp; try (with_reducible rfl))
      try simp only [gZ]
      refine tk 5 (v := ?_) rfl hHeld ?_ ?_; rotate_left
      ·(intro w hSw; clear hSw; go_simp; try (with_reducible rfl))
      try simp only [gZ]
      refine tk 6 (v := ?_) rfl hHeld ?_ ?_; rotate_left
      ·(intro w hSw; clear hSw; go_simp; try (with_reducible rfl))
      try simp only [gZ]
      refine wpAnyH_one (i := 8) rfl (by kernel_rfl) (by rfl) ?_
      refine wp_store_row 150 (.tmp 9) (.tmp 77) rfl g9 #[i64 p0, i64 q0] rfl rfl 150 _ G5.out (by kernel_rfl) rfl (by simp [Value.oneCell']) ?_
      have B9 := Lib.hid (belowS (cs := #[i64 p0, i64 q0]) B5.out hg9)
      have hHeld := UU.out _ B9.out
      refine ⟨hHeld, ?_⟩
      refine tk 9 (v := ?_) rfl hHeld ?_ ?_; rotate_left
      ·(intro w hSw; clear hSw; go_simp; try (with_reducible rfl))
      try simp only [gZ]
      exact wpAnyH_done (by kernel_rfl) ⟨rfl, hR mb g9 _ ⟨hg9, setRow_heap _ _ _ _ _ _ G5.out, B9.out⟩⟩ _
    rintro mb g9 w4 ⟨hg9, hG9, hb⟩
    have L9 := Lib.hid hG9
    have G4 := Lib.hid (G3.out.below hb G3.out.lt)
    have L4 := Lib.hid (L3.out.below hb L3.out.lt)
    have M4 := Lib.hid (M3.out.up hb)
    have B4 := Lib.hid (B3.out.trans (hb.mono B3.out.size))
    have hz4 := hb.size
    have hgl' : g' < w3.heap.size := L3.out.lt
    clear hU hHeld hG9 hb S LD UU LK G3 M3 L3
    have hk3 : ¬ (k = 2 ∧ m.frm = 0) := fun h => hk2 h.1
    cases hat2 : at_ s.L a r with
    | none =>
     obtain rfl : kn = false := by rw [HKN.out, hat2]; rfl
     have F := Lib.hid (FN.out (by rw [take_other HD.out hto hk3, hat2]) w4 B4.out M4.out)
     go_wp2_with fail
     go_ret
     exact F.out
    | some d =>
     obtain rfl : kn = true := by rw [HKN.out, hat2]; rfl
     cases han : ans k with
     | none =>
      obtain rfl : en = false := by rw [HEN.out, han]; rfl
      have F := Lib.hid (FN.out (by rw [take_other HD.out hto hk3, hat2]; dsimp only; rw [han]) w4 B4.out M4.out)
      go_wp2_with fail
      go_ret
      exact F.out
     | some pq =>
      obtain ⟨p, q⟩ := pq
      obtain rfl : en = true := by rw [HEN.out, han]; rfl
      have h1 := HAT.out
      have h2 := HANS.out
      unfold atV at h1
      unfold ansV at h2
      rw [hat2] at h1
      rw [han] at h2
      obtain ⟨rfl, hk0⟩ : d.t = t0 ∧ kd d.st = k0 := by simpa [loanV] using h1
      obtain ⟨hp0, hq0⟩ : kd p = p0 ∧ kd q = q0 := by simpa [loanV] using h2
      have HK0 := Lib.hid hk0
      have HP0 := Lib.hid hp0
      have HQ0 := Lib.hid hq0
      have x0 : w4.cell? ⟨g, 0, none⟩ = some (i64 fr) := G4.out.cell 0
      have x2 : w4.cell? ⟨g, 2, none⟩ = some (i64 a) := G4.out.cell 2
      have y1 : w4.cell? ⟨g', 1, none⟩ = some (i64 k0) := L4.out.cell 1
      have z0 : w4.cell? ⟨g9, 0, none⟩ = some (i64 p0) := L9.out.cell 0
      have z1 : w4.cell? ⟨g9, 1, none⟩ = some (i64 q0) := L9.out.cell 1
      have TO := Lib.hid (take_other HD.out hto hk3)
      have HX := Lib.hid (And.intro hat2 han)
      clear h1 h2 hk0 hp0 hq0 hk3 hw hat2 han hfr
      by_cases hfa : fr = a
      ·by_cases hst : ¬ k0 = p0 ∧ ¬ k0 = q0
       ·obtain ⟨hs1, hs2⟩ := hst
        have F := Lib.hid (FN.out (by
         rw [TO.out, HX.out.1]; dsimp only; rw [HX.out.2]; dsimp only
         rw [if_pos (.inr ⟨fun e => hs1 (by rw [← HK0.out, ← HP0.out, e]), fun e => hs2 (by rw [← HK0.out, ← HQ0.out, e])⟩)]) w4 B4.out M4.out)
        have d1 : (k0 != p0) = true := by simp [hs1]
        have d2 : (k0 != q0) = true := by simp [hs2]
        go_wp2_with fail
        go_ret
        exact F.out
       ·obtain ⟨mb, rfl⟩ : ∃ mb, mv = .map (some mb) := by
         rcases H.out.map with ⟨_, h⟩ | ⟨mb, _, _, h, _⟩
         ·have h1 := HX.out.1; rw [h] at h1; cases h1
         ·exact ⟨mb, h⟩
        have HMB : Hid (mb < w.heap.size) := Lib.hid (H.out.own_lt (.inr (.inr rfl))).2
        have HS9 : Hid (s.sent < 1000000000) := Lib.hid (by omega)
        have HDS : Hid (1 ≤ d.st ∧ d.st ≤ 5) := Lib.hid (H.out.ids.2 d (at_hit HX.out.1).2.2).2.2.2
        have HID : Hid (∀ q, 1 ≤ q → q ≤ 5 → ∀ d ∈ setSt s.L a r q, I64 d.a ∧ I64 d.r ∧ I64 d.t ∧ 1 ≤ d.st ∧ d.st ≤ 5) := Lib.hid (by
         intro q h1 h2 d hd
         unfold setSt at hd
         obtain ⟨d', h3, rfl⟩ := List.mem_map.1 hd
         have := H.out.ids.2 d' h3
         split
         ·exact ⟨this.1, this.2.1, this.2.2.1, h1, h2⟩
         ·exact this)
        have hk00 : k0 = p0 ∨ k0 = q0 := by
         by_cases e : k0 = p0
         ·exact .inl e
         ·by_cases e' : k0 = q0
          ·exact .inr e'
          ·exact absurd ⟨e, e'⟩ hst
        have hans3 : k = 7 ∧ p = 2 ∧ q = 3 ∨ k = 9 ∧ p = 3 ∧ q = 4 ∨ k = 11 ∧ p = 4 ∧ q = 5 := ans_ways HX.out.2
        clear hst
        have hfa2 := hfa.symm
        clear hfa
        subst hfa2
        rcases hans3 with ⟨rfl, rfl, rfl⟩ | ⟨rfl, rfl, rfl⟩ | ⟨rfl, rfl, rfl⟩
        ·obtain rfl : 3 = p0 := HP0.out
         obtain rfl : 8 = q0 := HQ0.out
         rcases hk00 with rfl | rfl
         ·have HST : Hid (d.st = 2) := Lib.hid (kd_inv HDS.out.1 HDS.out.2 HK0.out (by decide))
          have RES : Hid (s.take m = (({ s with here := s.here, L := setSt s.L a r 3, sent := s.sent + 1 } : Len), [mesg s.id s.sent a 8 a r 0])) := Lib.hid (by
           rw [TO.out, HX.out.1]; dsimp only; rw [HX.out.2]; dsimp only
           rw [if_neg (by rw [HST.out, ← HFR.out]; simp), HST.out]
           rfl)
          have fX : w4.frozen? ⟨g', 1, none⟩ = false := L4.out.frozen 1
          have OX : Hid (∀ k, OwnL b hv (.map (some mb)) k → k < w.heap.size) := Lib.hid fun k hk => (H.out.own_lt hk).2
          have OWN : Hid (∀ k, OwnL b hv (.map (some mb)) k → OwnL b hv (.map (some mb)) k ∨ w.heap.size ≤ k) := Lib.hid fun k h => .inl h
          have TX : Hid (Tn (OwnL b hv (.map (some mb))) w w4) := Lib.hid (Tn.of_below B4.out)
          have LX := Lib.hid L4.out
          have MX := Lib.hid M4.out
          have GX := Lib.hid G4.out
          have L9X := Lib.hid L9.out
          go_wp2_with fail
          obtain ⟨w5, hw5⟩ : ∃ w5, w5 = w4.setCell ⟨g', 1, none⟩ (i64 8) := ⟨_, rfl⟩
          have L5 : Hid (Blk w5 g' #[i64 d.t, i64 8] 145) := Lib.hid (by rw [hw5]; exact (LX.out.set 1 _).cast rfl)
          have T45 : Hid (Tn (fun k => k = g') (w4) w5) := Lib.hid (by rw [hw5]; exact (Tn.refl (fun k => k = g') _).setCell (p := ⟨g', 1, none⟩) (.inl rfl) _)
          have M5 : Hid (LMem w5 B b s hv (.map (some mb)) 0) := Lib.hid (MX.out.keep T45.out fun k hk ho => by
           have h1 := OX.out k ho
           omega)
          have G5 : Hid (Blk w5 g #[i64 a, i64 7, i64 a, i64 r, i64 v] 108) := Lib.hid (T45.out.blk GX.out (by omega))
          have z5 : Hid (Blk w5 g9 #[i64 3, i64 8] 150) := Lib.hid (T45.out.blk L9X.out (by omega))
          have T5 : Hid (Tn (OwnL b hv (.map (some mb))) w w5) := Lib.hid (TX.out.then_ T45.out fun k hk => by rw [hk]; exact .inr (by omega))
          rw [← hw5]
          clear hw5 T45 fX LX MX GX L9X TX OX
          obtain ⟨S, hS⟩ : ∃ S : World → Prop, S = fun W => ∃ n, W = w5.drewN n := ⟨_, rfl⟩
          have LDD : Hid (∀ W, S W → W.cell? ⟨b, 3, none⟩ = some (.map (some mb)) ∧ W.cell? ⟨g, 2, none⟩ = some (i64 a) ∧ W.cell? ⟨g, 3, none⟩ = some (i64 r)) := Lib.hid (by rw [hS]; rintro W ⟨n, rfl⟩; exact ⟨M5.out.blk.cell 3, G5.out.cell 2, G5.out.cell 3⟩)
          have LDB : Hid (∀ W, S W → Blk W g' #[i64 d.t, i64 8] 145) := Lib.hid (by rw [hS]; rintro W ⟨n, rfl⟩; exact L5.out.drewN n)
          have SS : Hid (∀ W, S W → ∃ n, W = w5.drewN n) := Lib.hid (by rw [hS]; exact fun W h => h)
          have hHeld : S w5.drew := by rw [hS]; exact ⟨1, rfl⟩
          clear hS
          refine wp_region_sp 7 S (by kernel_rfl) (by kernel_rfl) ?_
          simp only [List.take_succ_cons, List.take_zero]
          apply wpAnyH_apart S
          case take =>
           intro R hR
           refine tk 0 (v := ?_) rfl hHeld ?_ ?_; rotate_left
           ·(intro w hSw; obtain ⟨l0, l1, l2⟩ := LDD.out w hSw; go_simp; try (with_reducible rfl))
           try simp only [gZ]
           refine tk 1 (v := ?_) rfl hHeld ?_ ?_; rotate_left
           ·(intro w hSw; obtain ⟨l0, l1, l2⟩ := LDD.out w hSw; go_simp; try (with_reducible rfl))
           try simp only [gZ]
           refine tk 2 (v := ?_) rfl hHeld ?_ ?_; rotate_left
           ·(intro w hSw; obtain ⟨l0, l1, l2⟩ := LDD.out w hSw; go_simp; try (with_reducible rfl))
           try simp only [gZ]
           refine tk 3 (v := ?_) rfl hHeld ?_ ?_; rotate_left
           ·(intro w hSw; obtain ⟨l0, l1, l2⟩ := LDD.out w hSw; go_simp; try (with_reducible rfl))
           try simp only [gZ]
           refine tk 4 (v := ?_) rfl hHeld ?_ ?_; rotate_left
           ·(intro w hSw; obtain ⟨l0, l1, l2⟩ := LDD.out w hSw; go_simp; try (with_reducible rfl))
           try simp only [gZ]
           refine tk 5 (v := ?_) rfl hHeld ?_ ?_; rotate_left
           ·(intro w hSw; obtain ⟨l0, l1, l2⟩ := LDD.out w hSw; go_simp; try (with_reducible rfl))
           try simp only [gZ]
           refine wpAnyH_take (i := 6) (v := .agg #[i64 d.t, i64 8]) rfl (by kernel_rfl) (by kernel_rfl) (by kernel_rfl) (fun _ _ _ h => only_panic h) ?_ hHeld ?_
           ·exact yields_row (.tmp 7) (by rfl) rfl rfl LDB.out Tryz.underlying145 rfl (by kernel_rfl)
           try simp only [gZ]
           exact wpAnyH_done (by kernel_rfl) ⟨rfl, hR _ hHeld⟩ _
          intro W hW
          obtain ⟨n5, rfl⟩ := SS.out W hW
          clear hHeld hW SS LDD LDB
          obtain ⟨w6, hrun, hM6, hT6⟩ := (M5.out.drewN n5).put (t := d.t) (k := 8) (L' := setSt s.L a r 3) HS9.out (by omega) HQ.out.2.1 HQ.out.2.2.1 (fun f hf => fit_set (st := 3) hf HQ.out.2.1 HQ.out.2.2.1 HX.out.1) (HID.out 3 (by omega) (by omega))
          have hrun' : (Instr.mapUpdate 59 (.map (some mb)) (.agg #[i64 a, i64 r]) (.agg #[i64 d.t, i64 8])).run Tryz.prog (w5.drewN n5) = .ok () w6 := hrun
          have M6 := Lib.hid hM6
          have G6 : Hid (Blk w6 g #[i64 a, i64 7, i64 a, i64 r, i64 v] 108) := Lib.hid (hT6.blk (G5.out.drewN n5) (Ne.symm (by have := HMB.out; omega)))
          have z6 : Hid (Blk w6 g9 #[i64 3, i64 8] 150) := Lib.hid (hT6.blk (z5.out.drewN n5) (by have := HMB.out; omega))
          have T6 : Hid (Tn (OwnL b hv (.map (some mb))) w w6) := Lib.hid ((T5.out.drewN n5).then_ hT6 fun k hk => by rw [hk]; exact .inl (.inr (.inr rfl)))
          simp only [endN, List.drop_succ_cons, List.drop_zero, Act.put, List.setIfInBounds_toArray, List.set_cons_zero, List.set_cons_succ]
          clear hM6 hT6 hrun S
          go_wp2_with fail
          clear hrun'
          obtain ⟨S, hS⟩ : ∃ S : World → Prop, S = fun W => ∃ n, W = w6.drewN n := ⟨_, rfl⟩
          have LDD : Hid (∀ W, S W → W.cell? ⟨g9, 1, none⟩ = some (i64 8) ∧ W.cell? ⟨g, 2, none⟩ = some (i64 a) ∧ W.cell? ⟨g, 3, none⟩ = some (i64 r)) := Lib.hid (by rw [hS]; rintro W ⟨n, rfl⟩; exact ⟨z6.out.cell 1, G6.out.cell 2, G6.out.cell 3⟩)
          have SS : Hid (∀ W, S W → ∃ n, W = w6.drewN n) := Lib.hid (by rw [hS]; exact fun W h => h)
          have hHeld : S w6.drew := by rw [hS]; exact ⟨1, rfl⟩
          clear hS
          refine wp_region_sp 10 S (by kernel_rfl) (by kernel_rfl) ?_
          simp only [List.take_succ_cons, List.take_zero]
          apply wpAnyH_apart S
          case take =>
           intro R hR
           refine tk 0 (v := ?_) rfl hHeld ?_ ?_; rotate_left
           ·(intro w hSw; obtain ⟨l0, l1, l2⟩ := LDD.out w hSw; go_simp; try (with_reducible rfl))
           try simp only [gZ]
           refine tk 1 (v := ?_) rfl hHeld ?_ ?_; rotate_left
           ·(intro w hSw; obtain ⟨l0, l1, l2⟩ := LDD.out w hSw; go_simp; try (with_reducible rfl))
           try simp only [gZ]
           refine tk 2 (v := ?_) rfl hHeld ?_ ?_; rotate_left
           ·(intro w hSw; obtain ⟨l0, l1, l2⟩ := LDD.out w hSw; go_simp; try (with_reducible rfl))
           try simp only [gZ]
           refine tk 3 (v := ?_) rfl hHeld ?_ ?_; rotate_left
           ·(intro w hSw; obtain ⟨l0, l1, l2⟩ := LDD.out w hSw; go_simp; try (with_reducible rfl))
           try simp only [gZ]
           refine tk 4 (v := ?_) rfl hHeld ?_ ?_; rotate_left
           ·(intro w hSw; obtain ⟨l0, l1, l2⟩ := LDD.out w hSw; go_simp; try (with_reducible rfl))
           try simp only [gZ]
           refine tk 5 (v := ?_) rfl hHeld ?_ ?_; rotate_left
           ·(intro w hSw; obtain ⟨l0, l1, l2⟩ := LDD.out w hSw; go_simp; try (with_reducible rfl))
           try simp only [gZ]
           refine tk 6 (v := ?_) rfl hHeld ?_ ?_; rotate_left
           ·(intro w hSw; obtain ⟨l0, l1, l2⟩ := LDD.out w hSw; go_simp; try (with_reducible rfl))
           try simp only [gZ]
           refine tk 7 (v := ?_) rfl hHeld ?_ ?_; rotate_left
           ·(intro w hSw; obtain ⟨l0, l1, l2⟩ := LDD.out w hSw; go_simp; try (with_reducible rfl))
           try simp only [gZ]
           refine tk 8 (v := ?_) rfl hHeld ?_ ?_; rotate_left
           ·(intro w hSw; obtain ⟨l0, l1, l2⟩ := LDD.out w hSw; go_simp; try (with_reducible rfl))
           try simp only [gZ]
           refine tk 9 (v := ?_) rfl hHeld ?_ ?_; rotate_left
           ·(intro w hSw; obtain ⟨l0, l1, l2⟩ := LDD.out w hSw; go_simp; try (with_reducible rfl))
           try simp only [gZ]
           exact wpAnyH_done (by kernel_rfl) ⟨rfl, hR _ hHeld⟩ _
          intro W hW
          obtain ⟨n6, rfl⟩ := SS.out W hW
          simp only [endN, List.drop_succ_cons, List.drop_zero, Act.put, List.setIfInBounds_toArray, List.set_cons_zero, List.set_cons_succ]
          have M7 := Lib.hid (M6.out.drewN n6)
          clear hHeld hW SS LDD S
          go_wp2_with fail
          refine (send_any b s.id s.sent a 8 a r 0 (w6.drewN n6) (M7.out.blk.cell 0) (M7.out.blk.cell 1) (M7.out.blk.frozen 1) ⟨M7.out.sent, HS9.out⟩ ⟨by omega, by omega⟩ HQ.out.2.1 HQ.out.2.2.1 ⟨by omega, by omega⟩).mono ?_
          rintro e w8 ⟨gm, rfl, hgm, hM, hb8⟩
          obtain ⟨M8, T8⟩ := M7.out.sent1 (by omega) hb8
          have F : Hid (TakeLE B b s hv (.map (some mb)) m w (.returned (.slice (some ⟨gm, 0, none⟩) 1 1)) w8) := Lib.hid (by
           refine ⟨_, hv, .map (some mb), rfl, ?_, ?_, ?_, OWN.out⟩
           ·rw [RES.out]; exact ⟨gm, Nat.le_trans T6.out.size hgm, rfl, hM⟩
           ·rw [RES.out]; exact M8
           ·exact (T6.out.drewN n6).then_ T8 fun k hk => by rw [hk]; exact .inl (.inl rfl))
          clear hM hb8 M8 T8
          go_wp2_with fail
          go_ret
          exact F.out
         ·have HST : Hid (d.st = 3) := Lib.hid (kd_inv HDS.out.1 HDS.out.2 HK0.out (by decide))
          have RES : Hid (s.take m = (({ s with here := s.here, L := setSt s.L a r 3, sent := s.sent + 1 } : Len), [mesg s.id s.sent a 8 a r 0])) := Lib.hid (by
           rw [TO.out, HX.out.1]; dsimp only; rw [HX.out.2]; dsimp only
           rw [if_neg (by rw [HST.out, ← HFR.out]; simp), HST.out]
           rfl)
          have fX : w4.frozen? ⟨g', 1, none⟩ = false := L4.out.frozen 1
          have OX : Hid (∀ k, OwnL b hv (.map (some mb)) k → k < w.heap.size) := Lib.hid fun k hk => (H.out.own_lt hk).2
          have OWN : Hid (∀ k, OwnL b hv (.map (some mb)) k → OwnL b hv (.map (some mb)) k ∨ w.heap.size ≤ k) := Lib.hid fun k h => .inl h
          have TX : Hid (Tn (OwnL b hv (.map (some mb))) w w4) := Lib.hid (Tn.of_below B4.out)
          have LX := Lib.hid L4.out
          have MX := Lib.hid M4.out
          have GX := Lib.hid G4.out
          have L9X := Lib.hid L9.out
          go_wp2_with fail
          obtain ⟨w5, hw5⟩ : ∃ w5, w5 = w4.setCell ⟨g', 1, none⟩ (i64 8) := ⟨_, rfl⟩
          have L5 : Hid (Blk w5 g' #[i64 d.t, i64 8] 145) := Lib.hid (by rw [hw5]; exact (LX.out.set 1 _).cast rfl)
          have T45 : Hid (Tn (fun k => k = g') (w4) w5) := Lib.hid (by rw [hw5]; exact (Tn.refl (fun k => k = g') _).setCell (p := ⟨g', 1, none⟩) (.inl rfl) _)
          have M5 : Hid (LMem w5 B b s hv (.map (some mb)) 0) := Lib.hid (MX.out.keep T45.out fun k hk ho => by
           have h1 := OX.out k ho
           omega)
          have G5 : Hid (Blk w5 g #[i64 a, i64 7, i64 a, i64 r, i64 v] 108) := Lib.hid (T45.out.blk GX.out (by omega))
          have z5 : Hid (Blk w5 g9 #[i64 3, i64 8] 150) := Lib.hid (T45.out.blk L9X.out (by omega))
          have T5 : Hid (Tn (OwnL b hv (.map (some mb))) w w5) := Lib.hid (TX.out.then_ T45.out fun k hk => by rw [hk]; exact .inr (by omega))
          rw [← hw5]
          clear hw5 T45 fX LX MX GX L9X TX OX
          obtain ⟨S, hS⟩ : ∃ S : World → Prop, S = fun W => ∃ n, W = w5.drewN n := ⟨_, rfl⟩
          have LDD : Hid (∀ W, S W → W.cell? ⟨b, 3, none⟩ = some (.map (some mb)) ∧ W.cell? ⟨g, 2, none⟩ = some (i64 a) ∧ W.cell? ⟨g, 3, none⟩ = some (i64 r)) := Lib.hid (by rw [hS]; rintro W ⟨n, rfl⟩; exact ⟨M5.out.blk.cell 3, G5.out.cell 2, G5.out.cell 3⟩)
          have LDB : Hid (∀ W, S W → Blk W g' #[i64 d.t, i64 8] 145) := Lib.hid (by rw [hS]; rintro W ⟨n, rfl⟩; exact L5.out.drewN n)
          have SS : Hid (∀ W, S W → ∃ n, W = w5.drewN n) := Lib.hid (by rw [hS]; exact fun W h => h)
          have hHeld : S w5.drew := by rw [hS]; exact ⟨1, rfl⟩
          clear hS
          refine wp_region_sp 7 S (by kernel_rfl) (by kernel_rfl) ?_
          simp only [List.take_succ_cons, List.take_zero]
          apply wpAnyH_apart S
          case take =>
           intro R hR
           refine tk 0 (v := ?_) rfl hHeld ?_ ?_; rotate_left
           ·(intro w hSw; obtain ⟨l0, l1, l2⟩ := LDD.out w hSw; go_simp; try (with_reducible rfl))
           try simp only [gZ]
           refine tk 1 (v := ?_) rfl hHeld ?_ ?_; rotate_left
           ·(intro w hSw; obtain ⟨l0, l1, l2⟩ := LDD.out w hSw; go_simp; try (with_reducible rfl))
           try simp only [gZ]
           refine tk 2 (v := ?_) rfl hHeld ?_ ?_; rotate_left
           ·(intro w hSw; obtain ⟨l0, l1, l2⟩ := LDD.out w hSw; go_simp; try (with_reducible rfl))
           try simp only [gZ]
           refine tk 3 (v := ?_) rfl hHeld ?_ ?_; rotate_left
           ·(intro w hSw; obtain ⟨l0, l1, l2⟩ := LDD.out w hSw; go_simp; try (with_reducible rfl))
           try simp only [gZ]
           refine tk 4 (v := ?_) rfl hHeld ?_ ?_; rotate_left
           ·(intro w hSw; obtain ⟨l0, l1, l2⟩ := LDD.out w hSw; go_simp; try (with_reducible rfl))
           try simp only [gZ]
           refine tk 5 (v := ?_) rfl hHeld ?_ ?_; rotate_left
           ·(intro w hSw; obtain ⟨l0, l1, l2⟩ := LDD.out w hSw; go_simp; try (with_reducible rfl))
           try simp only [gZ]
           refine wpAnyH_take (i := 6) (v := .agg #[i64 d.t, i64 8]) rfl (by kernel_rfl) (by kernel_rfl) (by kernel_rfl) (fun _ _ _ h => only_panic h) ?_ hHeld ?_
           ·exact yields_row (.tmp 7) (by rfl) rfl rfl LDB.out Tryz.underlying145 rfl (by kernel_rfl)
           try simp only [gZ]
           exact wpAnyH_done (by kernel_rfl) ⟨rfl, hR _ hHeld⟩ _
          intro W hW
          obtain ⟨n5, rfl⟩ := SS.out W hW
          clear hHeld hW SS LDD LDB
          obtain ⟨w6, hrun, hM6, hT6⟩ := (M5.out.drewN n5).put (t := d.t) (k := 8) (L' := setSt s.L a r 3) HS9.out (by omega) HQ.out.2.1 HQ.out.2.2.1 (fun f hf => fit_set (st := 3) hf HQ.out.2.1 HQ.out.2.2.1 HX.out.1) (HID.out 3 (by omega) (by omega))
          have hrun' : (Instr.mapUpdate 59 (.map (some mb)) (.agg #[i64 a, i64 r]) (.agg #[i64 d.t, i64 8])).run Tryz.prog (w5.drewN n5) = .ok () w6 := hrun
          have M6 := Lib.hid hM6
          have G6 : Hid (Blk w6 g #[i64 a, i64 7, i64 a, i64 r, i64 v] 108) := Lib.hid (hT6.blk (G5.out.drewN n5) (Ne.symm (by have := HMB.out; omega)))
          have z6 : Hid (Blk w6 g9 #[i64 3, i64 8] 150) := Lib.hid (hT6.blk (z5.out.drewN n5) (by have := HMB.out; omega))
          have T6 : Hid (Tn (OwnL b hv (.map (some mb))) w w6) := Lib.hid ((T5.out.drewN n5).then_ hT6 fun k hk => by rw [hk]; exact .inl (.inr (.inr rfl)))
          simp only [endN, List.drop_succ_cons, List.drop_zero, Act.put, List.setIfInBounds_toArray, List.set_cons_zero, List.set_cons_succ]
          clear hM6 hT6 hrun S
          go_wp2_with fail
          clear hrun'
          obtain ⟨S, hS⟩ : ∃ S : World → Prop, S = fun W => ∃ n, W = w6.drewN n := ⟨_, rfl⟩
          have LDD : Hid (∀ W, S W → W.cell? ⟨g9, 1, none⟩ = some (i64 8) ∧ W.cell? ⟨g, 2, none⟩ = some (i64 a) ∧ W.cell? ⟨g, 3, none⟩ = some (i64 r)) := Lib.hid (by rw [hS]; rintro W ⟨n, rfl⟩; exact ⟨z6.out.cell 1, G6.out.cell 2, G6.out.cell 3⟩)
          have SS : Hid (∀ W, S W → ∃ n, W = w6.drewN n) := Lib.hid (by rw [hS]; exact fun W h => h)
          have hHeld : S w6.drew := by rw [hS]; exact ⟨1, rfl⟩
          clear hS
          refine wp_region_sp 10 S (by kernel_rfl) (by kernel_rfl) ?_
          simp only [List.take_succ_cons, List.take_zero]
          apply wpAnyH_apart S
          case take =>
           intro R hR
           refine tk 0 (v := ?_) rfl hHeld ?_ ?_; rotate_left
           ·(intro w hSw; obtain ⟨l0, l1, l2⟩ := LDD.out w hSw; go_simp; try (with_reducible rfl))
           try simp only [gZ]
           refine tk 1 (v := ?_) rfl hHeld ?_ ?_; rotate_left
           ·(intro w hSw; obtain ⟨l0, l1, l2⟩ := LDD.out w hSw; go_simp; try (with_reducible rfl))
           try simp only [gZ]
           refine tk 2 (v := ?_) rfl hHeld ?_ ?_; rotate_left
           ·(intro w hSw; obtain ⟨l0, l1, l2⟩ := LDD.out w hSw; go_simp; try (with_reducible rfl))
           try simp only [gZ]
           refine tk 3 (v := ?_) rfl hHeld ?_ ?_; rotate_left
           ·(intro w hSw; obtain ⟨l0, l1, l2⟩ := LDD.out w hSw; go_simp; try (with_reducible rfl))
           try simp only [gZ]
           refine tk 4 (v := ?_) rfl hHeld ?_ ?_; rotate_left
           ·(intro w hSw; obtain ⟨l0, l1, l2⟩ := LDD.out w hSw; go_simp; try (with_reducible rfl))
           try simp only [gZ]
           refine tk 5 (v := ?_) rfl hHeld ?_ ?_; rotate_left
           ·(intro w hSw; obtain ⟨l0, l1, l2⟩ := LDD.out w hSw; go_simp; try (with_reducible rfl))
           try simp only [gZ]
           refine tk 6 (v := ?_) rfl hHeld ?_ ?_; rotate_left
           ·(intro w hSw; obtain ⟨l0, l1, l2⟩ := LDD.out w hSw; go_simp; try (with_reducible rfl))
           try simp only [gZ]
           refine tk 7 (v := ?_) rfl hHeld ?_ ?_; rotate_left
           ·(intro w hSw; obtain ⟨l0, l1, l2⟩ := LDD.out w hSw; go_simp; try (with_reducible rfl))
           try simp only [gZ]
           refine tk 8 (v := ?_) rfl hHeld ?_ ?_; rotate_left
           ·(intro w hSw; obtain ⟨l0, l1, l2⟩ := LDD.out w hSw; go_simp; try (with_reducible rfl))
           try simp only [gZ]
           refine tk 9 (v := ?_) rfl hHeld ?_ ?_; rotate_left
           ·(intro w hSw; obtain ⟨l0, l1, l2⟩ := LDD.out w hSw; go_simp; try (with_reducible rfl))
           try simp only [gZ]
           exact wpAnyH_done (by kernel_rfl) ⟨rfl, hR _ hHeld⟩ _
          intro W hW
          obtain ⟨n6, rfl⟩ := SS.out W hW
          simp only [endN, List.drop_succ_cons, List.drop_zero, Act.put, List.setIfInBounds_toArray, List.set_cons_zero, List.set_cons_succ]
          have M7 := Lib.hid (M6.out.drewN n6)
          clear hHeld hW SS LDD S
          go_wp2_with fail
          refine (send_any b s.id s.sent a 8 a r 0 (w6.drewN n6) (M7.out.blk.cell 0) (M7.out.blk.cell 1) (M7.out.blk.frozen 1) ⟨M7.out.sent, HS9.out⟩ ⟨by omega, by omega⟩ HQ.out.2.1 HQ.out.2.2.1 ⟨by omega, by omega⟩).mono ?_
          rintro e w8 ⟨gm, rfl, hgm, hM, hb8⟩
          obtain ⟨M8, T8⟩ := M7.out.sent1 (by omega) hb8
          have F : Hid (TakeLE B b s hv (.map (some mb)) m w (.returned (.slice (some ⟨gm, 0, none⟩) 1 1)) w8) := Lib.hid (by
           refine ⟨_, hv, .map (some mb), rfl, ?_, ?_, ?_, OWN.out⟩
           ·rw [RES.out]; exact ⟨gm, Nat.le_trans T6.out.size hgm, rfl, hM⟩
           ·rw [RES.out]; exact M8
           ·exact (T6.out.drewN n6).then_ T8 fun k hk => by rw [hk]; exact .inl (.inl rfl))
          clear hM hb8 M8 T8
          go_wp2_with fail
          go_ret
          exact F.out
        ·obtain rfl : 8 = p0 := HP0.out
         obtain rfl : 10 = q0 := HQ0.out
         rcases hk00 with rfl | rfl
         ·have HST : Hid (d.st = 3) := Lib.hid (kd_inv HDS.out.1 HDS.out.2 HK0.out (by decide))
          have RES : Hid (s.take m = (({ s with here := s.here, L := setSt s.L a r 4, sent := s.sent + 1 } : Len), [mesg s.id s.sent a 10 a r 0])) := Lib.hid (by
           rw [TO.out, HX.out.1]; dsimp only; rw [HX.out.2]; dsimp only
           rw [if_neg (by rw [HST.out, ← HFR.out]; simp), HST.out]
           rfl)
          have fX : w4.frozen? ⟨g', 1, none⟩ = false := L4.out.frozen 1
          have OX : Hid (∀ k, OwnL b hv (.map (some mb)) k → k < w.heap.size) := Lib.hid fun k hk => (H.out.own_lt hk).2
          have OWN : Hid (∀ k, OwnL b hv (.map (some mb)) k → OwnL b hv (.map (some mb)) k ∨ w.heap.size ≤ k) := Lib.hid fun k h => .inl h
          have TX : Hid (Tn (OwnL b hv (.map (some mb))) w w4) := Lib.hid (Tn.of_below B4.out)
          have LX := Lib.hid L4.out
          have MX := Lib.hid M4.out
          have GX := Lib.hid G4.out
          have L9X := Lib.hid L9.out
          go_wp2_with fail
          obtain ⟨w5, hw5⟩ : ∃ w5, w5 = w4.setCell ⟨g', 1, none⟩ (i64 10) := ⟨_, rfl⟩
          have L5 : Hid (Blk w5 g' #[i64 d.t, i64 10] 145) := Lib.hid (by rw [hw5]; exact (LX.out.set 1 _).cast rfl)
          have T45 : Hid (Tn (fun k => k = g') (w4) w5) := Lib.hid (by rw [hw5]; exact (Tn.refl (fun k => k = g') _).setCell (p := ⟨g', 1, none⟩) (.inl rfl) _)
          have M5 : Hid (LMem w5 B b s hv (.map (some mb)) 0) := Lib.hid (MX.out.keep T45.out fun k hk ho => by
           have h1 := OX.out k ho
           omega)
          have G5 : Hid (Blk w5 g #[i64 a, i64 9, i64 a, i64 r, i64 v] 108) := Lib.hid (T45.out.blk GX.out (by omega))
          have z5 : Hid (Blk w5 g9 #[i64 8, i64 10] 150) := Lib.hid (T45.out.blk L9X.out (by omega))
          have T5 : Hid (Tn (OwnL b hv (.map (some mb))) w w5) := Lib.hid (TX.out.then_ T45.out fun k hk => by rw [hk]; exact .inr (by omega))
          rw [← hw5]
          clear hw5 T45 fX LX MX GX L9X TX OX
          obtain ⟨S, hS⟩ : ∃ S : World → Prop, S = fun W => ∃ n, W = w5.drewN n := ⟨_, rfl⟩
          have LDD : Hid (∀ W, S W → W.cell? ⟨b, 3, none⟩ = some (.map (some mb)) ∧ W.cell? ⟨g, 2, none⟩ = some (i64 a) ∧ W.cell? ⟨g, 3, none⟩ = some (i64 r)) := Lib.hid (by rw [hS]; rintro W ⟨n, rfl⟩; exact ⟨M5.out.blk.cell 3, G5.out.cell 2, G5.out.cell 3⟩)
          have LDB : Hid (∀ W, S W → Blk W g' #[i64 d.t, i64 10] 145) := Lib.hid (by rw [hS]; rintro W ⟨n, rfl⟩; exact L5.out.drewN n)
          have SS : Hid (∀ W, S W → ∃ n, W = w5.drewN n) := Lib.hid (by rw [hS]; exact fun W h => h)
          have hHeld : S w5.drew := by rw [hS]; exact ⟨1, rfl⟩
          clear hS
          refine wp_region_sp 7 S (by kernel_rfl) (by kernel_rfl) ?_
          simp only [List.take_succ_cons, List.take_zero]
          apply wpAnyH_apart S
          case take =>
           intro R hR
           refine tk 0 (v := ?_) rfl hHeld ?_ ?_; rotate_left
           ·(intro w hSw; obtain ⟨l0, l1, l2⟩ := LDD.out w hSw; go_simp; try (with_reducible rfl))
           try simp only [gZ]
           refine tk 1 (v := ?_) rfl hHeld ?_ ?_; rotate_left
           ·(intro w hSw; obtain ⟨l0, l1, l2⟩ := LDD.out w hSw; go_simp; try (with_reducible rfl))
           try simp only [gZ]
           refine tk 2 (v := ?_) rfl hHeld ?_ ?_; rotate_left
           ·(intro w hSw; obtain ⟨l0, l1, l2⟩ := LDD.out w hSw; go_simp; try (with_reducible rfl))
           try simp only [gZ]
           refine tk 3 (v := ?_) rfl hHeld ?_ ?_; rotate_left
           ·(intro w hSw; obtain ⟨l0, l1, l2⟩ := LDD.out w hSw; go_simp; try (with_reducible rfl))
           try simp only [gZ]
           refine tk 4 (v := ?_) rfl hHeld ?_ ?_; rotate_left
           ·(intro w hSw; obtain ⟨l0, l1, l2⟩ := LDD.out w hSw; go_simp; try (with_reducible rfl))
           try simp only [gZ]
           refine tk 5 (v := ?_) rfl hHeld ?_ ?_; rotate_left
           ·(intro w hSw; obtain ⟨l0, l1, l2⟩ := LDD.out w hSw; go_simp; try (with_reducible rfl))
           try simp only [gZ]
           refine wpAnyH_take (i := 6) (v := .agg #[i64 d.t, i64 10]) rfl (by kernel_rfl) (by kernel_rfl) (by kernel_rfl) (fun _ _ _ h => only_panic h) ?_ hHeld ?_
           ·exact yields_row (.tmp 7) (by rfl) rfl rfl LDB.out Tryz.underlying145 rfl (by kernel_rfl)
           try simp only [gZ]
           exact wpAnyH_done (by kernel_rfl) ⟨rfl, hR _ hHeld⟩ _
          intro W hW
          obtain ⟨n5, rfl⟩ := SS.out W hW
          clear hHeld hW SS LDD LDB
          obtain ⟨w6, hrun, hM6, hT6⟩ := (M5.out.drewN n5).put (t := d.t) (k := 10) (L' := setSt s.L a r 4) HS9.out (by omega) HQ.out.2.1 HQ.out.2.2.1 (fun f hf => fit_set (st := 4) hf HQ.out.2.1 HQ.out.2.2.1 HX.out.1) (HID.out 4 (by omega) (by omega))
          have hrun' : (Instr.mapUpdate 59 (.map (some mb)) (.agg #[i64 a, i64 r]) (.agg #[i64 d.t, i64 10])).run Tryz.prog (w5.drewN n5) = .ok () w6 := hrun
          have M6 := Lib.hid hM6
          have G6 : Hid (Blk w6 g #[i64 a, i64 9, i64 a, i64 r, i64 v] 108) := Lib.hid (hT6.blk (G5.out.drewN n5) (Ne.symm (by have := HMB.out; omega)))
          have z6 : Hid (Blk w6 g9 #[i64 8, i64 10] 150) := Lib.hid (hT6.blk (z5.out.drewN n5) (by have := HMB.out; omega))
          have T6 : Hid (Tn (OwnL b hv (.map (some mb))) w w6) := Lib.hid ((T5.out.drewN n5).then_ hT6 fun k hk => by rw [hk]; exact .inl (.inr (.inr rfl)))
          simp only [endN, List.drop_succ_cons, List.drop_zero, Act.put, List.setIfInBounds_toArray, List.set_cons_zero, List.set_cons_succ]
          clear hM6 hT6 hrun S
          go_wp2_with fail
          clear hrun'
          obtain ⟨S, hS⟩ : ∃ S : World → Prop, S = fun W => ∃ n, W = w6.drewN n := ⟨_, rfl⟩
          have LDD : Hid (∀ W, S W → W.cell? ⟨g9, 1, none⟩ = some (i64 10) ∧ W.cell? ⟨g, 2, none⟩ = some (i64 a) ∧ W.cell? ⟨g, 3, none⟩ = some (i64 r)) := Lib.hid (by rw [hS]; rintro W ⟨n, rfl⟩; exact ⟨z6.out.cell 1, G6.out.cell 2, G6.out.cell 3⟩)
          have SS : Hid (∀ W, S W → ∃ n, W = w6.drewN n) := Lib.hid (by rw [hS]; exact fun W h => h)
          have hHeld : S w6.drew := by rw [hS]; exact ⟨1, rfl⟩
          clear hS
          refine wp_region_sp 10 S (by kernel_rfl) (by kernel_rfl) ?_
          simp only [List.take_succ_cons, List.take_zero]
          apply wpAnyH_apart S
          case take =>
           intro R hR
           refine tk 0 (v := ?_) rfl hHeld ?_ ?_; rotate_left
           ·(intro w hSw; obtain ⟨l0, l1, l2⟩ := LDD.out w hSw; go_simp; try (with_reducible rfl))
           try simp only [gZ]
           refine tk 1 (v := ?_) rfl hHeld ?_ ?_; rotate_left
           ·(intro w hSw; obtain ⟨l0, l1, l2⟩ := LDD.out w hSw; go_simp; try (with_reducible rfl))
           try simp only [gZ]
           refine tk 2 (v := ?_) rfl hHeld ?_ ?_; rotate_left
           ·(intro w hSw; obtain ⟨l0, l1, l2⟩ := LDD.out w hSw; go_simp; try (with_reducible rfl))
           try simp only [gZ]
           refine tk 3 (v := ?_) rfl hHeld ?_ ?_; rotate_left
           ·(intro w hSw; obtain ⟨l0, l1, l2⟩ := LDD.out w hSw; go_simp; try (with_reducible rfl))
           try simp only [gZ]
           refine tk 4 (v := ?_) rfl hHeld ?_ ?_; rotate_left
           ·(intro w hSw; obtain ⟨l0, l1, l2⟩ := LDD.out w hSw; go_simp; try (with_reducible rfl))
           try simp only [gZ]
           refine tk 5 (v := ?_) rfl hHeld ?_ ?_; rotate_left
           ·(intro w hSw; obtain ⟨l0, l1, l2⟩ := LDD.out w hSw; go_simp; try (with_reducible rfl))
           try simp only [gZ]
           refine tk 6 (v := ?_) rfl hHeld ?_ ?_; rotate_left
           ·(intro w hSw; obtain ⟨l0, l1, l2⟩ := LDD.out w hSw; go_simp; try (with_reducible rfl))
           try simp only [gZ]
           refine tk 7 (v := ?_) rfl hHeld ?_ ?_; rotate_left
           ·(intro w hSw; obtain ⟨l0, l1, l2⟩ := LDD.out w hSw; go_simp; try (with_reducible rfl))
           try simp only [gZ]
           refine tk 8 (v := ?_) rfl hHeld ?_ ?_; rotate_left
           ·(intro w hSw; obtain ⟨l0, l1, l2⟩ := LDD.out w hSw; go_simp; try (with_reducible rfl))
           try simp only [gZ]
           refine tk 9 (v := ?_) rfl hHeld ?_ ?_; rotate_left
           ·(intro w hSw; obtain ⟨l0, l1, l2⟩ := LDD.out w hSw; go_simp; try (with_reducible rfl))
           try simp only [gZ]
           exact wpAnyH_done (by kernel_rfl) ⟨rfl, hR _ hHeld⟩ _
          intro W hW
          obtain ⟨n6, rfl⟩ := SS.out W hW
          simp only [endN, List.drop_succ_cons, List.drop_zero, Act.put, List.setIfInBounds_toArray, List.set_cons_zero, List.set_cons_succ]
          have M7 := Lib.hid (M6.out.drewN n6)
          clear hHeld hW SS LDD S
          go_wp2_with fail
          refine (send_any b s.id s.sent a 10 a r 0 (w6.drewN n6) (M7.out.blk.cell 0) (M7.out.blk.cell 1) (M7.out.blk.frozen 1) ⟨M7.out.sent, HS9.out⟩ ⟨by omega, by omega⟩ HQ.out.2.1 HQ.out.2.2.1 ⟨by omega, by omega⟩).mono ?_
          rintro e w8 ⟨gm, rfl, hgm, hM, hb8⟩
          obtain ⟨M8, T8⟩ := M7.out.sent1 (by omega) hb8
          have F : Hid (TakeLE B b s hv (.map (some mb)) m w (.returned (.slice (some ⟨gm, 0, none⟩) 1 1)) w8) := Lib.hid (by
           refine ⟨_, hv, .map (some mb), rfl, ?_, ?_, ?_, OWN.out⟩
           ·rw [RES.out]; exact ⟨gm, Nat.le_trans T6.out.size hgm, rfl, hM⟩
           ·rw [RES.out]; exact M8
           ·exact (T6.out.drewN n6).then_ T8 fun k hk => by rw [hk]; exact .inl (.inl rfl))
          clear hM hb8 M8 T8
          go_wp2_with fail
          go_ret
          exact F.out
         ·have HST : Hid (d.st = 4) := Lib.hid (kd_inv HDS.out.1 HDS.out.2 HK0.out (by decide))
          have RES : Hid (s.take m = (({ s with here := s.here, L := setSt s.L a r 4, sent := s.sent + 1 } : Len), [mesg s.id s.sent a 10 a r 0])) := Lib.hid (by
           rw [TO.out, HX.out.1]; dsimp only; rw [HX.out.2]; dsimp only
           rw [if_neg (by rw [HST.out, ← HFR.out]; simp), HST.out]
           rfl)
          have fX : w4.frozen? ⟨g', 1, none⟩ = false := L4.out.frozen 1
          have OX : Hid (∀ k, OwnL b hv (.map (some mb)) k → k < w.heap.size) := Lib.hid fun k hk => (H.out.own_lt hk).2
          have OWN : Hid (∀ k, OwnL b hv (.map (some mb)) k → OwnL b hv (.map (some mb)) k ∨ w.heap.size ≤ k) := Lib.hid fun k h => .inl h
          have TX : Hid (Tn (OwnL b hv (.map (some mb))) w w4) := Lib.hid (Tn.of_below B4.out)
          have LX := Lib.hid L4.out
          have MX := Lib.hid M4.out
          have GX := Lib.hid G4.out
          have L9X := Lib.hid L9.out
          go_wp2_with fail
          obtain ⟨w5, hw5⟩ : ∃ w5, w5 = w4.setCell ⟨g', 1, none⟩ (i64 10) := ⟨_, rfl⟩
          have L5 : Hid (Blk w5 g' #[i64 d.t, i64 10] 145) := Lib.hid (by rw [hw5]; exact (LX.out.set 1 _).cast rfl)
          have T45 : Hid (Tn (fun k => k = g') (w4) w5) := Lib.hid (by rw [hw5]; exact (Tn.refl (fun k => k = g') _).setCell (p := ⟨g', 1, none⟩) (.inl rfl) _)
          have M5 : Hid (LMem w5 B b s hv (.map (some mb)) 0) := Lib.hid (MX.out.keep T45.out fun k hk ho => by
           have h1 := OX.out k ho
           omega)
          have G5 : Hid (Blk w5 g #[i64 a, i64 9, i64 a, i64 r, i64 v] 108) := Lib.hid (T45.out.blk GX.out (by omega))
          have z5 : Hid (Blk w5 g9 #[i64 8, i64 10] 150) := Lib.hid (T45.out.blk L9X.out (by omega))
          have T5 : Hid (Tn (OwnL b hv (.map (some mb))) w w5) := Lib.hid (TX.out.then_ T45.out fun k hk => by rw [hk]; exact .inr (by omega))
          rw [← hw5]
          clear hw5 T45 fX LX MX GX L9X TX OX
          obtain ⟨S, hS⟩ : ∃ S : World → Prop, S = fun W => ∃ n, W = w5.drewN n := ⟨_, rfl⟩
          have LDD : Hid (∀ W, S W → W.cell? ⟨b, 3, none⟩ = some (.map (some mb)) ∧ W.cell? ⟨g, 2, none⟩ = some (i64 a) ∧ W.cell? ⟨g, 3, none⟩ = some (i64 r)) := Lib.hid (by rw [hS]; rintro W ⟨n, rfl⟩; exact ⟨M5.out.blk.cell 3, G5.out.cell 2, G5.out.cell 3⟩)
          have LDB : Hid (∀ W, S W → Blk W g' #[i64 d.t, i64 10] 145) := Lib.hid (by rw [hS]; rintro W ⟨n, rfl⟩; exact L5.out.drewN n)
          have SS : Hid (∀ W, S W → ∃ n, W = w5.drewN n) := Lib.hid (by rw [hS]; exact fun W h => h)
          have hHeld : S w5.drew := by rw [hS]; exact ⟨1, rfl⟩
          clear hS
          refine wp_region_sp 7 S (by kernel_rfl) (by kernel_rfl) ?_
          simp only [List.take_succ_cons, List.take_zero]
          apply wpAnyH_apart S
          case take =>
           intro R hR
           refine tk 0 (v := ?_) rfl hHeld ?_ ?_; rotate_left
           ·(intro w hSw; obtain ⟨l0, l1, l2⟩ := LDD.out w hSw; go_simp; try (with_reducible rfl))
           try simp only [gZ]
           refine tk 1 (v := ?_) rfl hHeld ?_ ?_; rotate_left
           ·(intro w hSw; obtain ⟨l0, l1, l2⟩ := LDD.out w hSw; go_simp; try (with_reducible rfl))
           try simp only [gZ]
           refine tk 2 (v := ?_) rfl hHeld ?_ ?_; rotate_left
           ·(intro w hSw; obtain ⟨l0, l1, l2⟩ := LDD.out w hSw; go_simp; try (with_reducible rfl))
           try simp only [gZ]
           refine tk 3 (v := ?_) rfl hHeld ?_ ?_; rotate_left
           ·(intro w hSw; obtain ⟨l0, l1, l2⟩ := LDD.out w hSw; go_simp; try (with_reducible rfl))
           try simp only [gZ]
           refine tk 4 (v := ?_) rfl hHeld ?_ ?_; rotate_left
           ·(intro w hSw; obtain ⟨l0, l1, l2⟩ := LDD.out w hSw; go_simp; try (with_reducible rfl))
           try simp only [gZ]
           refine tk 5 (v := ?_) rfl hHeld ?_ ?_; rotate_left
           ·(intro w hSw; obtain ⟨l0, l1, l2⟩ := LDD.out w hSw; go_simp; try (with_reducible rfl))
           try simp only [gZ]
           refine wpAnyH_take (i := 6) (v := .agg #[i64 d.t, i64 10]) rfl (by kernel_rfl) (by kernel_rfl) (by kernel_rfl) (fun _ _ _ h => only_panic h) ?_ hHeld ?_
           ·exact yields_row (.tmp 7) (by rfl) rfl rfl LDB.out Tryz.underlying145 rfl (by kernel_rfl)
           try simp only [gZ]
           exact wpAnyH_done (by kernel_rfl) ⟨rfl, hR _ hHeld⟩ _
          intro W hW
          obtain ⟨n5, rfl⟩ := SS.out W hW
          clear hHeld hW SS LDD LDB
          obtain ⟨w6, hrun, hM6, hT6⟩ := (M5.out.drewN n5).put (t := d.t) (k := 10) (L' := setSt s.L a r 4) HS9.out (by omega) HQ.out.2.1 HQ.out.2.2.1 (fun f hf => fit_set (st := 4) hf HQ.out.2.1 HQ.out.2.2.1 HX.out.1) (HID.out 4 (by omega) (by omega))
          have hrun' : (Instr.mapUpdate 59 (.map (some mb)) (.agg #[i64 a, i64 r]) (.agg #[i64 d.t, i64 10])).run Tryz.prog (w5.drewN n5) = .ok () w6 := hrun
          have M6 := Lib.hid hM6
          have G6 : Hid (Blk w6 g #[i64 a, i64 9, i64 a, i64 r, i64 v] 108) := Lib.hid (hT6.blk (G5.out.drewN n5) (Ne.symm (by have := HMB.out; omega)))
          have z6 : Hid (Blk w6 g9 #[i64 8, i64 10] 150) := Lib.hid (hT6.blk (z5.out.drewN n5) (by have := HMB.out; omega))
          have T6 : Hid (Tn (OwnL b hv (.map (some mb))) w w6) := Lib.hid ((T5.out.drewN n5).then_ hT6 fun k hk => by rw [hk]; exact .inl (.inr (.inr rfl)))
          simp only [endN, List.drop_succ_cons, List.drop_zero, Act.put, List.setIfInBounds_toArray, List.set_cons_zero, List.set_cons_succ]
          clear hM6 hT6 hrun S
          go_wp2_with fail
          clear hrun'
          obtain ⟨S, hS⟩ : ∃ S : World → Prop, S = fun W => ∃ n, W = w6.drewN n := ⟨_, rfl⟩
          have LDD : Hid (∀ W, S W → W.cell? ⟨g9, 1, none⟩ = some (i64 10) ∧ W.cell? ⟨g, 2, none⟩ = some (i64 a) ∧ W.cell? ⟨g, 3, none⟩ = some (i64 r)) := Lib.hid (by rw [hS]; rintro W ⟨n, rfl⟩; exact ⟨z6.out.cell 1, G6.out.cell 2, G6.out.cell 3⟩)
          have SS : Hid (∀ W, S W → ∃ n, W = w6.drewN n) := Lib.hid (by rw [hS]; exact fun W h => h)
          have hHeld : S w6.drew := by rw [hS]; exact ⟨1, rfl⟩
          clear hS
          refine wp_region_sp 10 S (by kernel_rfl) (by kernel_rfl) ?_
          simp only [List.take_succ_cons, List.take_zero]
          apply wpAnyH_apart S
          case take =>
           intro R hR
           refine tk 0 (v := ?_) rfl hHeld ?_ ?_; rotate_left
           ·(intro w hSw; obtain ⟨l0, l1, l2⟩ := LDD.out w hSw; go_simp; try (with_reducible rfl))
           try simp only [gZ]
           refine tk 1 (v := ?_) rfl hHeld ?_ ?_; rotate_left
           ·(intro w hSw; obtain ⟨l0, l1, l2⟩ := LDD.out w hSw; go_simp; try (with_reducible rfl))
           try simp only [gZ]
           refine tk 2 (v := ?_) rfl hHeld ?_ ?_; rotate_left
           ·(intro w hSw; obtain ⟨l0, l1, l2⟩ := LDD.out w hSw; go_simp; try (with_reducible rfl))
           try simp only [gZ]
           refine tk 3 (v := ?_) rfl hHeld ?_ ?_; rotate_left
           ·(intro w hSw; obtain ⟨l0, l1, l2⟩ := LDD.out w hSw; go_simp; try (with_reducible rfl))
           try simp only [gZ]
           refine tk 4 (v := ?_) rfl hHeld ?_ ?_; rotate_left
           ·(intro w hSw; obtain ⟨l0, l1, l2⟩ := LDD.out w hSw; go_simp; try (with_reducible rfl))
           try simp only [gZ]
           refine tk 5 (v := ?_) rfl hHeld ?_ ?_; rotate_left
           ·(intro w hSw; obtain ⟨l0, l1, l2⟩ := LDD.out w hSw; go_simp; try (with_reducible rfl))
           try simp only [gZ]
           refine tk 6 (v := ?_) rfl hHeld ?_ ?_; rotate_left
           ·(intro w hSw; obtain ⟨l0, l1, l2⟩ := LDD.out w hSw; go_simp; try (with_reducible rfl))
           try simp only [gZ]
           refine tk 7 (v := ?_) rfl hHeld ?_ ?_; rotate_left
           ·(intro w hSw; obtain ⟨l0, l1, l2⟩ := LDD.out w hSw; go_simp; try (with_reducible rfl))
           try simp only [gZ]
           refine tk 8 (v := ?_) rfl hHeld ?_ ?_; rotate_left
           ·(intro w hSw; obtain ⟨l0, l1, l2⟩ := LDD.out w hSw; go_simp; try (with_reducible rfl))
           try simp only [gZ]
           refine tk 9 (v := ?_) rfl hHeld ?_ ?_; rotate_left
           ·(intro w hSw; obtain ⟨l0, l1, l2⟩ := LDD.out w hSw; go_simp; try (with_reducible rfl))
           try simp only [gZ]
           exact wpAnyH_done (by kernel_rfl) ⟨rfl, hR _ hHeld⟩ _
          intro W hW
          obtain ⟨n6, rfl⟩ := SS.out W hW
          simp only [endN, List.drop_succ_cons, List.drop_zero, Act.put, List.setIfInBounds_toArray, List.set_cons_zero, List.set_cons_succ]
          have M7 := Lib.hid (M6.out.drewN n6)
          clear hHeld hW SS LDD S
          go_wp2_with fail
          refine (send_any b s.id s.sent a 10 a r 0 (w6.drewN n6) (M7.out.blk.cell 0) (M7.out.blk.cell 1) (M7.out.blk.frozen 1) ⟨M7.out.sent, HS9.out⟩ ⟨by omega, by omega⟩ HQ.out.2.1 HQ.out.2.2.1 ⟨by omega, by omega⟩).mono ?_
          rintro e w8 ⟨gm, rfl, hgm, hM, hb8⟩
          obtain ⟨M8, T8⟩ := M7.out.sent1 (by omega) hb8
          have F : Hid (TakeLE B b s hv (.map (some mb)) m w (.returned (.slice (some ⟨gm, 0, none⟩) 1 1)) w8) := Lib.hid (by
           refine ⟨_, hv, .map (some mb), rfl, ?_, ?_, ?_, OWN.out⟩
           ·rw [RES.out]; exact ⟨gm, Nat.le_trans T6.out.size hgm, rfl, hM⟩
           ·rw [RES.out]; exact M8
           ·exact (T6.out.drewN n6).then_ T8 fun k hk => by rw [hk]; exact .inl (.inl rfl))
          clear hM hb8 M8 T8
          go_wp2_with fail
          go_ret
          exact F.out
        ·obtain rfl : 10 = p0 := HP0.out
         obtain rfl : 12 = q0 := HQ0.out
         rcases hk00 with rfl | rfl
         ·have HST : Hid (d.st = 4) := Lib.hid (kd_inv HDS.out.1 HDS.out.2 HK0.out (by decide))
          have RES : Hid (s.take m = (({ s with here := ins d.t s.here, L := setSt s.L a r 5, sent := s.sent + 1 } : Len), [mesg s.id s.sent a 12 a r 0])) := Lib.hid (by
           rw [TO.out, HX.out.1]; dsimp only; rw [HX.out.2]; dsimp only
           rw [if_neg (by rw [HST.out, ← HFR.out]; simp), HST.out]
           rfl)
          have fX : w4.frozen? ⟨g', 1, none⟩ = false := L4.out.frozen 1
          have OX0 : Hid (∀ k, OwnL b hv (.map (some mb)) k → k < w.heap.size) := Lib.hid fun k hk => (H.out.own_lt hk).2
          clear fX
          go_wp2_with fail
          obtain ⟨S, hS⟩ : ∃ S : World → Prop, S = fun W => ∃ n, W = w4.drewN n := ⟨_, rfl⟩
          have LDD : Hid (∀ W, S W → W.cell? ⟨b, 2, none⟩ = some hv ∧ W.cell? ⟨g', 0, none⟩ = some (i64 d.t)) := Lib.hid (by rw [hS]; rintro W ⟨n, rfl⟩; exact ⟨M4.out.blk.cell 2, L4.out.cell 0⟩)
          have SS : Hid (∀ W, S W → ∃ n, W = w4.drewN n) := Lib.hid (by rw [hS]; exact fun W h => h)
          have UU : Hid (∀ n, S (w4.drewN n)) := Lib.hid (by rw [hS]; exact fun n => ⟨n, rfl⟩)
          have hHeld : S w4.drew := UU.out 1
          have hlen : s.here.length ≤ 100000 := by have := M4.out.len; omega
          have SR : Hid (∀ n, Calls Tryz.prog 71 #[hv, i64 d.t] (w4.drewN n) fun e w' => e = .returned (.tuple #[.int .i64 (pos d.t s.here), .bool (decide (d.t ∈ s.here))]) ∧ ∃ q, w' = (w4.drewN n).drewN q) := Lib.hid fun n => search_own d.t (row_drewN M4.out.row n) M4.out.inOrder hlen
          obtain ⟨pp, hpp⟩ : ∃ pp, pp = pos d.t s.here := ⟨_, rfl⟩
          obtain ⟨bb, hbb⟩ : ∃ bb, bb = decide (d.t ∈ s.here) := ⟨_, rfl⟩
          rw [← hpp, ← hbb] at SR
          have HPP := Lib.hid hpp
          clear hS hpp hbb
          refine wp_region_held_drew (S := S) (by kernel_rfl) hHeld (fun hU => ?_)
          apply wpAnyH_apart S
          case take =>
           intro R hR
           refine tk 0 (v := ?_) rfl hHeld ?_ ?_; rotate_left
           ·(intro w hSw; obtain ⟨l0, l1⟩ := LDD.out w hSw; go_simp; try (with_reducible rfl))
           try simp only [gZ]
           refine tk 1 (v := ?_) rfl hHeld ?_ ?_; rotate_left
           ·(intro w hSw; obtain ⟨l0, l1⟩ := LDD.out w hSw; go_simp; try (with_reducible rfl))
           try simp only [gZ]
           refine tk 2 (v := ?_) rfl hHeld ?_ ?_; rotate_left
           ·(intro w hSw; obtain ⟨l0, l1⟩ := LDD.out w hSw; go_simp; try (with_reducible rfl))
           try simp only [gZ]
           refine tk 3 (v := ?_) rfl hHeld ?_ ?_; rotate_left
           ·(intro w hSw; obtain ⟨l0, l1⟩ := LDD.out w hSw; go_simp; try (with_reducible rfl))
           try simp only [gZ]
           refine tk 4 (v := ?_) rfl hHeld ?_ ?_; rotate_left
           ·(intro w hSw; obtain ⟨l0, l1⟩ := LDD.out w hSw; go_simp; try (with_reducible rfl))
           try simp only [gZ]
           refine tk 5 (v := ?_) rfl hHeld ?_ ?_; rotate_left
           ·(intro w hSw; obtain ⟨l0, l1⟩ := LDD.out w hSw; go_simp; try (with_reducible rfl))
           try simp only [gZ]
           refine wpAnyH_one (i := 6) rfl (by kernel_rfl) (by rfl) ?_
           go_simp
           refine (SR.out 1).mono ?_
           rintro e W5 ⟨rfl, q', rfl⟩
           have hHeld : S ((w4.drewN 1).drewN q') := by rw [drewN_add]; exact UU.out _
           refine ⟨hHeld, ?_⟩
           refine tk 7 (v := ?_) rfl hHeld ?_ ?_; rotate_left
           ·(intro w hSw; clear hSw; go_simp; try (with_reducible rfl))
           try simp only [gZ]
           refine tk 8 (v := ?_) rfl hHeld ?_ ?_; rotate_left
           ·(intro w hSw; clear hSw; go_simp; try (with_reducible rfl))
           try simp only [gZ]
           refine tk 9 (v := ?_) rfl hHeld ?_ ?_; rotate_left
           ·(intro w hSw; clear hSw; go_simp; try (with_reducible rfl))
           try simp only [gZ]
           refine tk 10 (v := ?_) rfl hHeld ?_ ?_; rotate_left
           ·(intro w hSw; clear hSw; go_simp; try (with_reducible rfl))
           try simp only [gZ]
           refine tk 11 (v := ?_) rfl hHeld ?_ ?_; rotate_left
           ·(intro w hSw; clear hSw; go_simp; try (with_reducible rfl))
           try simp only [gZ]
           exact wpAnyH_done (by kernel_rfl) ⟨rfl, hR _ hHeld⟩ _
          intro W hW
          obtain ⟨n5, rfl⟩ := SS.out W hW
          clear hU hHeld hW SS LDD SR UU S
          go_wp2_with fail
          obtain ⟨S, hS⟩ : ∃ S : World → Prop, S = fun W => W.cell? ⟨b, 2, none⟩ = some hv ∧ W.cell? ⟨g', 0, none⟩ = some (i64 d.t) := ⟨_, rfl⟩
          have LDD : Hid (∀ W, S W → W.cell? ⟨b, 2, none⟩ = some hv ∧ W.cell? ⟨g', 0, none⟩ = some (i64 d.t)) := Lib.hid (by rw [hS]; exact fun W h => h)
          have UU : Hid (∀ W, W.cell? ⟨b, 2, none⟩ = some hv ∧ W.cell? ⟨g', 0, none⟩ = some (i64 d.t) → S W) := Lib.hid (by rw [hS]; exact fun W h => h)
          clear hS
          obtain ⟨w5, hw5⟩ : ∃ w5, w5 = (w4.drewN n5).drew := ⟨_, rfl⟩
          have M5 : Hid (LMem w5 B b s hv (.map (some mb)) 0) := Lib.hid (by rw [hw5]; exact (M4.out.drewN n5).drew)
          have GX : Hid (Blk w5 g #[i64 a, i64 11, i64 a, i64 r, i64 v] 108) := Lib.hid (by rw [hw5]; exact (G4.out.drewN n5).drew)
          have LX : Hid (Blk w5 g' #[i64 d.t, i64 10] 145) := Lib.hid (by rw [hw5]; exact (L4.out.drewN n5).drew)
          have L9X : Hid (Blk w5 g9 #[i64 10, i64 12] 150) := Lib.hid (by rw [hw5]; exact (L9.out.drewN n5).drew)
          have B5 : Hid (Below w.heap.size w w5) := Lib.hid (by rw [hw5]; exact (bdrewN B4.out n5).drew)
          have hz5 : w4.heap.size ≤ w5.heap.size := by rw [hw5]; exact Nat.le_refl _
          have hHeld : S w5 := UU.out _ ⟨M5.out.blk.cell 2, LX.out.cell 0⟩
          obtain ⟨vb, hvb⟩ : ∃ vb, vb = w5.heap.size := ⟨_, rfl⟩
          obtain ⟨w6, hw6⟩ : ∃ w6, w6 = w5.alloc (.cells #[i64 d.t] 3) := ⟨_, rfl⟩
          have VB : Hid (Blk w6 vb #[i64 d.t] 3) := Lib.hid (by rw [hw6, hvb]; exact Blk.new _ _ _)
          have b56 : Below w5.heap.size w5 w6 := by rw [hw6]; exact (Below.refl _ _).alloc (Nat.le_refl _) _
          have M6 := Lib.hid (M5.out.up b56)
          have GX6 := Lib.hid (GX.out.below b56 GX.out.lt)
          have LX6 := Lib.hid (LX.out.below b56 LX.out.lt)
          have L9X6 := Lib.hid (L9X.out.below b56 L9X.out.lt)
          have B6 := Lib.hid (B5.out.trans (b56.mono B5.out.size))
          have hz6 := b56.size
          have hvn : hv.ownBlock ≠ some vb := fun e => by have := (row_lt H.out.row vb e).2; have := B5.out.size; omega
          have IO := Lib.hid (ins_own d.t M6.out.row hlen VB.out hvn)
          rw [← HPP.out] at IO
          have hB6 : B ≤ w6.heap.size := by have := B6.out.size; omega
          rw [Nat.min_eq_left hB6] at IO
          have HW6 := Lib.hid (And.intro hw6 hvb)
          have HW5 := Lib.hid hw5
          clear hw6 hvb hw5 M4 G4 L4 L9 B4 b56
          refine wp_region_sq 10 S (by kernel_rfl) (by kernel_rfl) ?_
          simp only [List.take_succ_cons, List.take_zero]
          rw [← HW5.out]
          apply wpAnyH_apartV (fun v7 W => W.ownsRow B 3 1 v7 (ins d.t s.here).length ((ins d.t s.here).map (Value.int .i64)) ∧ Tn (fun b => hv.ownBlock = some b) w6 W ∧ ∀ b, v7.ownBlock = some b → hv.ownBlock = some b ∨ w6.heap.size ≤ b)
          case take =>
           intro R hR
           refine tk 0 (v := ?_) rfl hHeld ?_ ?_; rotate_left
           ·(intro w hSw; obtain ⟨l0, l1⟩ := LDD.out w hSw; go_simp; try (with_reducible rfl))
           try simp only [gZ]
           refine tk 1 (v := ?_) rfl hHeld ?_ ?_; rotate_left
           ·(intro w hSw; obtain ⟨l0, l1⟩ := LDD.out w hSw; go_simp; try (with_reducible rfl))
           try simp only [gZ]
           refine tk 2 (v := ?_) rfl hHeld ?_ ?_; rotate_left
           ·(intro w hSw; obtain ⟨l0, l1⟩ := LDD.out w hSw; go_simp; try (with_reducible rfl))
           try simp only [gZ]
           refine tk 3 (v := ?_) rfl hHeld ?_ ?_; rotate_left
           ·(intro w hSw; obtain ⟨l0, l1⟩ := LDD.out w hSw; go_simp; try (with_reducible rfl))
           try simp only [gZ]
           refine tk 4 (v := ?_) rfl hHeld ?_ ?_; rotate_left
           ·(intro w hSw; obtain ⟨l0, l1⟩ := LDD.out w hSw; go_simp; try (with_reducible rfl))
           try simp only [gZ]
           refine tk 5 (v := ?_) rfl hHeld ?_ ?_; rotate_left
           ·(intro w hSw; obtain ⟨l0, l1⟩ := LDD.out w hSw; go_simp; try (with_reducible rfl))
           try simp only [gZ]
           refine tk 6 (v := ?_) rfl hHeld ?_ ?_; rotate_left
           ·(intro w hSw; obtain ⟨l0, l1⟩ := LDD.out w hSw; go_simp; try (with_reducible rfl))
           try simp only [gZ]
           refine tk 7 (v := ?_) rfl hHeld ?_ ?_; rotate_left
           ·(intro w hSw; obtain ⟨l0, l1⟩ := LDD.out w hSw; go_simp; try (with_reducible rfl))
           try simp only [gZ]
           refine wpAnyH_one (i := 8) rfl (by kernel_rfl) (by rfl) ?_
           go_simp
           rw [← HW6.out.1, ← HW6.out.2]
           have hHeld : S w6 := UU.out _ ⟨M6.out.blk.cell 2, LX6.out.cell 0⟩
           refine ⟨hHeld, ?_⟩
           refine wpAnyH_one (i := 9) rfl (by kernel_rfl) (by rfl) ?_
           go_simp
           refine IO.out.mono ?_
           rintro e w7 ⟨hv7, rfl, row7, T7, own7⟩
           have hHeld : S w7 := UU.out _ ⟨(T7.blk M6.out.blk M6.out.ne).cell 2, (T7.blk LX6.out (fun e => by have := (row_lt H.out.row g' e).2; omega)).cell 0⟩
           refine ⟨hHeld, ?_⟩
           exact wpAnyH_done (by kernel_rfl) ⟨rfl, hR _ _ ⟨row7, T7, own7⟩⟩ _
          rintro hv7 w7 ⟨row7, T7, own7⟩
          simp only [endN, List.drop_succ_cons, List.drop_zero, Act.put, List.setIfInBounds_toArray, List.set_cons_zero, List.set_cons_succ]
          clear hHeld LDD UU S IO
          have NO : Hid (∀ j, ¬ j < w.heap.size → ¬ hv.ownBlock = some j) := Lib.hid fun j hj e => hj (row_lt H.out.row j e).2
          have B7 : Hid (Blk w7 b #[i64 s.id, i64 s.sent, hv, .map (some mb)] 61) := Lib.hid (T7.blk M6.out.blk M6.out.ne)
          have GX7 := Lib.hid (T7.blk GX6.out (NO.out g (by omega)))
          have LX7 := Lib.hid (T7.blk LX6.out (NO.out g' (by omega)))
          have L9X7 := Lib.hid (T7.blk L9X6.out (NO.out g9 (by omega)))
          have M8 := Lib.hid (M6.out.setHere (H' := ins d.t s.here) (e' := 1) T7 row7 own7 (ins_sorted _ _ M6.out.inOrder) (by rw [ins_len]; have := M6.out.len; omega) (by omega))
          have T8 : Hid (Tn (OwnL b hv (.map (some mb))) w (w7.setCell ⟨b, 2, none⟩ hv7)) := Lib.hid (((Tn.of_below B6.out).trans (T7.mono fun k hk => .inr (.inl hk))).setCell (p := ⟨b, 2, none⟩) (.inl (.inl rfl)) _)
          have OWN : Hid (∀ k, OwnL b hv7 (.map (some mb)) k → OwnL b hv (.map (some mb)) k ∨ w.heap.size ≤ k) := Lib.hid fun k hk => by
           rcases hk with h | h | h
           ·exact .inl (.inl h)
           ·rcases own7 k h with h | h
            ·exact .inl (.inr (.inl h))
            ·exact .inr (by have := B6.out.size; omega)
           ·exact .inl (.inr (.inr h))
          have OX : Hid (∀ k, OwnL b hv7 (.map (some mb)) k → k ≠ g') := Lib.hid fun k hk e => by
           rcases hk with h | h | h
           ·have := OX0.out k (.inl h); omega
           ·rcases own7 k h with h | h
            ·have := OX0.out k (.inr (.inl h)); omega
            ·omega
           ·have := OX0.out k (.inr (.inr h)); omega
          have q7 : w7.cell? ⟨b, 2, none⟩ = some hv := B7.out.cell 2
          have f7 := B7.out.frozen 2
          obtain ⟨a7, c7, rfl, -⟩ := row_cell row7
          obtain ⟨n7, hn7⟩ : ∃ n7, n7 = (ins d.t s.here).length := ⟨_, rfl⟩
          rw [← hn7] at M8 T8 OWN OX
          try rw [← hn7]
          clear hn7 row7 T7 own7 hvn NO M6 GX6 LX6 L9X6 B6 VB GX LX L9X
          obtain ⟨w9, hw9⟩ : ∃ w9, w9 = w7.setCell ⟨b, 2, none⟩ (.slice a7 n7 c7) := ⟨_, rfl⟩
          rw [← hw9] at M8 T8
          have hgb : g ≠ b := fun e => by have := OX0.out b (.inl rfl); omega
          have hgb' : g' ≠ b := fun e => by have := OX0.out b (.inl rfl); omega
          have hgb9 : g9 ≠ b := fun e => by have := OX0.out b (.inl rfl); omega
          have LX : Hid (Blk w9 g' #[i64 d.t, i64 10] 145) := Lib.hid (by rw [hw9]; exact LX7.out.set_ne _ _ hgb')
          have GX : Hid (Blk w9 g #[i64 a, i64 11, i64 a, i64 r, i64 v] 108) := Lib.hid (by rw [hw9]; exact GX7.out.set_ne _ _ hgb)
          have L9X : Hid (Blk w9 g9 #[i64 10, i64 12] 150) := Lib.hid (by rw [hw9]; exact L9X7.out.set_ne _ _ hgb9)
          have MX := Lib.hid M8.out
          have TX := Lib.hid T8.out
          have x0 : w9.cell? ⟨g, 0, none⟩ = some (i64 a) := GX.out.cell 0
          have z1 : w9.cell? ⟨g9, 1, none⟩ = some (i64 12) := L9X.out.cell 1
          have fX : w9.frozen? ⟨g', 1, none⟩ = false := LX.out.frozen 1
          have y9 : w9.cell? ⟨g', 1, none⟩ = some (i64 10) := LX.out.cell 1
          clear M8 T8 B7 GX7 LX7 L9X7 hgb hgb' hgb9 x0
          subst hw9
          go_wp2_with fail
          obtain ⟨w5, hw5⟩ : ∃ w5, w5 = (w7.setCell ⟨b, 2, none⟩ (.slice a7 n7 c7)).setCell ⟨g', 1, none⟩ (i64 12) := ⟨_, rfl⟩
          have L5 : Hid (Blk w5 g' #[i64 d.t, i64 12] 145) := Lib.hid (by rw [hw5]; exact (LX.out.set 1 _).cast rfl)
          clear y9
          have T45 : Hid (Tn (fun k => k = g') ((w7.setCell ⟨b, 2, none⟩ (.slice a7 n7 c7))) w5) := Lib.hid (by rw [hw5]; exact (Tn.refl (fun k => k = g') _).setCell (p := ⟨g', 1, none⟩) (.inl rfl) _)
          have M5 : Hid (LMem w5 B b { s with here := ins d.t s.here } (.slice a7 n7 c7) (.map (some mb)) 1) := Lib.hid (MX.out.keep T45.out fun k hk ho => by
           exact OX.out k ho hk)
          have G5 : Hid (Blk w5 g #[i64 a, i64 11, i64 a, i64 r, i64 v] 108) := Lib.hid (T45.out.blk GX.out (by omega))
          have z5 : Hid (Blk w5 g9 #[i64 10, i64 12] 150) := Lib.hid (T45.out.blk L9X.out (by omega))
          have T5 : Hid (Tn (OwnL b hv (.map (some mb))) w w5) := Lib.hid (TX.out.then_ T45.out fun k hk => by rw [hk]; exact .inr (by omega))
          rw [← hw5]
          clear hw5 T45 fX LX MX GX L9X TX OX
          obtain ⟨S, hS⟩ : ∃ S : World → Prop, S = fun W => ∃ n, W = w5.drewN n := ⟨_, rfl⟩
          have LDD : Hid (∀ W, S W → W.cell? ⟨b, 3, none⟩ = some (.map (some mb)) ∧ W.cell? ⟨g, 2, none⟩ = some (i64 a) ∧ W.cell? ⟨g, 3, none⟩ = some (i64 r)) := Lib.hid (by rw [hS]; rintro W ⟨n, rfl⟩; exact ⟨M5.out.blk.cell 3, G5.out.cell 2, G5.out.cell 3⟩)
          have LDB : Hid (∀ W, S W → Blk W g' #[i64 d.t, i64 12] 145) := Lib.hid (by rw [hS]; rintro W ⟨n, rfl⟩; exact L5.out.drewN n)
          have SS : Hid (∀ W, S W → ∃ n, W = w5.drewN n) := Lib.hid (by rw [hS]; exact fun W h => h)
          have hHeld : S w5.drew := by rw [hS]; exact ⟨1, rfl⟩
          clear hS
          refine wp_region_sp 7 S (by kernel_rfl) (by kernel_rfl) ?_
          simp only [List.take_succ_cons, List.take_zero]
          apply wpAnyH_apart S
          case take =>
           intro R hR
           refine tk 0 (v := ?_) rfl hHeld ?_ ?_; rotate_left
           ·(intro w hSw; obtain ⟨l0, l1, l2⟩ := LDD.out w hSw; go_simp; try (with_reducible rfl))
           try simp only [gZ]
           refine tk 1 (v := ?_) rfl hHeld ?_ ?_; rotate_left
           ·(intro w hSw; obtain ⟨l0, l1, l2⟩ := LDD.out w hSw; go_simp; try (with_reducible rfl))
           try simp only [gZ]
           refine tk 2 (v := ?_) rfl hHeld ?_ ?_; rotate_left
           ·(intro w hSw; obtain ⟨l0, l1, l2⟩ := LDD.out w hSw; go_simp; try (with_reducible rfl))
           try simp only [gZ]
           refine tk 3 (v := ?_) rfl hHeld ?_ ?_; rotate_left
           ·(intro w hSw; obtain ⟨l0, l1, l2⟩ := LDD.out w hSw; go_simp; try (with_reducible rfl))
           try simp only [gZ]
           refine tk 4 (v := ?_) rfl hHeld ?_ ?_; rotate_left
           ·(intro w hSw; obtain ⟨l0, l1, l2⟩ := LDD.out w hSw; go_simp; try (with_reducible rfl))
           try simp only [gZ]
           refine tk 5 (v := ?_) rfl hHeld ?_ ?_; rotate_left
           ·(intro w hSw; obtain ⟨l0, l1, l2⟩ := LDD.out w hSw; go_simp; try (with_reducible rfl))
           try simp only [gZ]
           refine wpAnyH_take (i := 6) (v := .agg #[i64 d.t, i64 12]) rfl (by kernel_rfl) (by kernel_rfl) (by kernel_rfl) (fun _ _ _ h => only_panic h) ?_ hHeld ?_
           ·exact yields_row (.tmp 7) (by rfl) rfl rfl LDB.out Tryz.underlying145 rfl (by kernel_rfl)
           try simp only [gZ]
           exact wpAnyH_done (by kernel_rfl) ⟨rfl, hR _ hHeld⟩ _
          intro W hW
          obtain ⟨n5, rfl⟩ := SS.out W hW
          clear hHeld hW SS LDD LDB
          obtain ⟨w6, hrun, hM6, hT6⟩ := (M5.out.drewN n5).put (t := d.t) (k := 12) (L' := setSt s.L a r 5) HS9.out (by omega) HQ.out.2.1 HQ.out.2.2.1 (fun f hf => fit_set (st := 5) hf HQ.out.2.1 HQ.out.2.2.1 HX.out.1) (HID.out 5 (by omega) (by omega))
          have hrun' : (Instr.mapUpdate 59 (.map (some mb)) (.agg #[i64 a, i64 r]) (.agg #[i64 d.t, i64 12])).run Tryz.prog (w5.drewN n5) = .ok () w6 := hrun
          have M6 := Lib.hid hM6
          have G6 : Hid (Blk w6 g #[i64 a, i64 11, i64 a, i64 r, i64 v] 108) := Lib.hid (hT6.blk (G5.out.drewN n5) (Ne.symm (by have := HMB.out; omega)))
          have z6 : Hid (Blk w6 g9 #[i64 10, i64 12] 150) := Lib.hid (hT6.blk (z5.out.drewN n5) (by have := HMB.out; omega))
          have T6 : Hid (Tn (OwnL b hv (.map (some mb))) w w6) := Lib.hid ((T5.out.drewN n5).then_ hT6 fun k hk => by rw [hk]; exact .inl (.inr (.inr rfl)))
          simp only [endN, List.drop_succ_cons, List.drop_zero, Act.put, List.setIfInBounds_toArray, List.set_cons_zero, List.set_cons_succ]
          clear hM6 hT6 hrun S
          go_wp2_with fail
          clear hrun'
          obtain ⟨S, hS⟩ : ∃ S : World → Prop, S = fun W => ∃ n, W = w6.drewN n := ⟨_, rfl⟩
          have LDD : Hid (∀ W, S W → W.cell? ⟨g9, 1, none⟩ = some (i64 12) ∧ W.cell? ⟨g, 2, none⟩ = some (i64 a) ∧ W.cell? ⟨g, 3, none⟩ = some (i64 r)) := Lib.hid (by rw [hS]; rintro W ⟨n, rfl⟩; exact ⟨z6.out.cell 1, G6.out.cell 2, G6.out.cell 3⟩)
          have SS : Hid (∀ W, S W → ∃ n, W = w6.drewN n) := Lib.hid (by rw [hS]; exact fun W h => h)
          have hHeld : S w6.drew := by rw [hS]; exact ⟨1, rfl⟩
          clear hS
          refine wp_region_sp 10 S (by kernel_rfl) (by kernel_rfl) ?_
          simp only [List.take_succ_cons, List.take_zero]
          apply wpAnyH_apart S
          case take =>
           intro R hR
           refine tk 0 (v := ?_) rfl hHeld ?_ ?_; rotate_left
           ·(intro w hSw; obtain ⟨l0, l1, l2⟩ := LDD.out w hSw; go_simp; try (with_reducible rfl))
           try simp only [gZ]
           refine tk 1 (v := ?_) rfl hHeld ?_ ?_; rotate_left
           ·(intro w hSw; obtain ⟨l0, l1, l2⟩ := LDD.out w hSw; go_simp; try (with_reducible rfl))
           try simp only [gZ]
           refine tk 2 (v := ?_) rfl hHeld ?_ ?_; rotate_left
           ·(intro w hSw; obtain ⟨l0, l1, l2⟩ := LDD.out w hSw; go_simp; try (with_reducible rfl))
           try simp only [gZ]
           refine tk 3 (v := ?_) rfl hHeld ?_ ?_; rotate_left
           ·(intro w hSw; obtain ⟨l0, l1, l2⟩ := LDD.out w hSw; go_simp; try (with_reducible rfl))
           try simp only [gZ]
           refine tk 4 (v := ?_) rfl hHeld ?_ ?_; rotate_left
           ·(intro w hSw; obtain ⟨l0, l1, l2⟩ := LDD.out w hSw; go_simp; try (with_reducible rfl))
           try simp only [gZ]
           refine tk 5 (v := ?_) rfl hHeld ?_ ?_; rotate_left
           ·(intro w hSw; obtain ⟨l0, l1, l2⟩ := LDD.out w hSw; go_simp; try (with_reducible rfl))
           try simp only [gZ]
           refine tk 6 (v := ?_) rfl hHeld ?_ ?_; rotate_left
           ·(intro w hSw; obtain ⟨l0, l1, l2⟩ := LDD.out w hSw; go_simp; try (with_reducible rfl))
           try simp only [gZ]
           refine tk 7 (v := ?_) rfl hHeld ?_ ?_; rotate_left
           ·(intro w hSw; obtain ⟨l0, l1, l2⟩ := LDD.out w hSw; go_simp; try (with_reducible rfl))
           try simp only [gZ]
           refine tk 8 (v := ?_) rfl hHeld ?_ ?_; rotate_left
           ·(intro w hSw; obtain ⟨l0, l1, l2⟩ := LDD.out w hSw; go_simp; try (with_reducible rfl))
           try simp only [gZ]
           refine tk 9 (v := ?_) rfl hHeld ?_ ?_; rotate_left
           ·(intro w hSw; obtain ⟨l0, l1, l2⟩ := LDD.out w hSw; go_simp; try (with_reducible rfl))
           try simp only [gZ]
           exact wpAnyH_done (by kernel_rfl) ⟨rfl, hR _ hHeld⟩ _
          intro W hW
          obtain ⟨n6, rfl⟩ := SS.out W hW
          simp only [endN, List.drop_succ_cons, List.drop_zero, Act.put, List.setIfInBounds_toArray, List.set_cons_zero, List.set_cons_succ]
          have M7 := Lib.hid (M6.out.drewN n6)
          clear hHeld hW SS LDD S
          go_wp2_with fail
          refine (send_any b s.id s.sent a 12 a r 0 (w6.drewN n6) (M7.out.blk.cell 0) (M7.out.blk.cell 1) (M7.out.blk.frozen 1) ⟨M7.out.sent, HS9.out⟩ ⟨by omega, by omega⟩ HQ.out.2.1 HQ.out.2.2.1 ⟨by omega, by omega⟩).mono ?_
          rintro e w8 ⟨gm, rfl, hgm, hM, hb8⟩
          obtain ⟨M8, T8⟩ := M7.out.sent1 (by omega) hb8
          have F : Hid (TakeLE B b s hv (.map (some mb)) m w (.returned (.slice (some ⟨gm, 0, none⟩) 1 1)) w8) := Lib.hid (by
           refine ⟨_, (.slice a7 n7 c7), .map (some mb), rfl, ?_, ?_, ?_, OWN.out⟩
           ·rw [RES.out]; exact ⟨gm, Nat.le_trans T6.out.size hgm, rfl, hM⟩
           ·rw [RES.out]; exact M8
           ·exact (T6.out.drewN n6).then_ T8 fun k hk => by rw [hk]; exact .inl (.inl rfl))
          clear hM hb8 M8 T8
          go_wp2_with fail
          go_ret
          exact F.out
         ·have HST : Hid (d.st = 5) := Lib.hid (kd_inv HDS.out.1 HDS.out.2 HK0.out (by decide))
          have RES : Hid (s.take m = (({ s with here := s.here, L := setSt s.L a r 5, sent := s.sent + 1 } : Len), [mesg s.id s.sent a 12 a r 0])) := Lib.hid (by
           rw [TO.out, HX.out.1]; dsimp only; rw [HX.out.2]; dsimp only
           rw [if_neg (by rw [HST.out, ← HFR.out]; simp), HST.out]
           rfl)
          have fX : w4.frozen? ⟨g', 1, none⟩ = false := L4.out.frozen 1
          have OX : Hid (∀ k, OwnL b hv (.map (some mb)) k → k < w.heap.size) := Lib.hid fun k hk => (H.out.own_lt hk).2
          have OWN : Hid (∀ k, OwnL b hv (.map (some mb)) k → OwnL b hv (.map (some mb)) k ∨ w.heap.size ≤ k) := Lib.hid fun k h => .inl h
          have TX : Hid (Tn (OwnL b hv (.map (some mb))) w w4) := Lib.hid (Tn.of_below B4.out)
          have LX := Lib.hid L4.out
          have MX := Lib.hid M4.out
          have GX := Lib.hid G4.out
          have L9X := Lib.hid L9.out
          go_wp2_with fail
          obtain ⟨w5, hw5⟩ : ∃ w5, w5 = w4.setCell ⟨g', 1, none⟩ (i64 12) := ⟨_, rfl⟩
          have L5 : Hid (Blk w5 g' #[i64 d.t, i64 12] 145) := Lib.hid (by rw [hw5]; exact (LX.out.set 1 _).cast rfl)
          have T45 : Hid (Tn (fun k => k = g') (w4) w5) := Lib.hid (by rw [hw5]; exact (Tn.refl (fun k => k = g') _).setCell (p := ⟨g', 1, none⟩) (.inl rfl) _)
          have M5 : Hid (LMem w5 B b s hv (.map (some mb)) 0) := Lib.hid (MX.out.keep T45.out fun k hk ho => by
           have h1 := OX.out k ho
           omega)
          have G5 : Hid (Blk w5 g #[i64 a, i64 11, i64 a, i64 r, i64 v] 108) := Lib.hid (T45.out.blk GX.out (by omega))
          have z5 : Hid (Blk w5 g9 #[i64 10, i64 12] 150) := Lib.hid (T45.out.blk L9X.out (by omega))
          have T5 : Hid (Tn (OwnL b hv (.map (some mb))) w w5) := Lib.hid (TX.out.then_ T45.out fun k hk => by rw [hk]; exact .inr (by omega))
          rw [← hw5]
          clear hw5 T45 fX LX MX GX L9X TX OX
          obtain ⟨S, hS⟩ : ∃ S : World → Prop, S = fun W => ∃ n, W = w5.drewN n := ⟨_, rfl⟩
          have LDD : Hid (∀ W, S W → W.cell? ⟨b, 3, none⟩ = some (.map (some mb)) ∧ W.cell? ⟨g, 2, none⟩ = some (i64 a) ∧ W.cell? ⟨g, 3, none⟩ = some (i64 r)) := Lib.hid (by rw [hS]; rintro W ⟨n, rfl⟩; exact ⟨M5.out.blk.cell 3, G5.out.cell 2, G5.out.cell 3⟩)
          have LDB : Hid (∀ W, S W → Blk W g' #[i64 d.t, i64 12] 145) := Lib.hid (by rw [hS]; rintro W ⟨n, rfl⟩; exact L5.out.drewN n)
          have SS : Hid (∀ W, S W → ∃ n, W = w5.drewN n) := Lib.hid (by rw [hS]; exact fun W h => h)
          have hHeld : S w5.drew := by rw [hS]; exact ⟨1, rfl⟩
          clear hS
          refine wp_region_sp 7 S (by kernel_rfl) (by kernel_rfl) ?_
          simp only [List.take_succ_cons, List.take_zero]
          apply wpAnyH_apart S
          case take =>
           intro R hR
           refine tk 0 (v := ?_) rfl hHeld ?_ ?_; rotate_left
           ·(intro w hSw; obtain ⟨l0, l1, l2⟩ := LDD.out w hSw; go_simp; try (with_reducible rfl))
           try simp only [gZ]
           refine tk 1 (v := ?_) rfl hHeld ?_ ?_; rotate_left
           ·(intro w hSw; obtain ⟨l0, l1, l2⟩ := LDD.out w hSw; go_simp; try (with_reducible rfl))
           try simp only [gZ]
           refine tk 2 (v := ?_) rfl hHeld ?_ ?_; rotate_left
           ·(intro w hSw; obtain ⟨l0, l1, l2⟩ := LDD.out w hSw; go_simp; try (with_reducible rfl))
           try simp only [gZ]
           refine tk 3 (v := ?_) rfl hHeld ?_ ?_; rotate_left
           ·(intro w hSw; obtain ⟨l0, l1, l2⟩ := LDD.out w hSw; go_simp; try (with_reducible rfl))
           try simp only [gZ]
           refine tk 4 (v := ?_) rfl hHeld ?_ ?_; rotate_left
           ·(intro w hSw; obtain ⟨l0, l1, l2⟩ := LDD.out w hSw; go_simp; try (with_reducible rfl))
           try simp only [gZ]
           refine tk 5 (v := ?_) rfl hHeld ?_ ?_; rotate_left
           ·(intro w hSw; obtain ⟨l0, l1, l2⟩ := LDD.out w hSw; go_simp; try (with_reducible rfl))
           try simp only [gZ]
           refine wpAnyH_take (i := 6) (v := .agg #[i64 d.t, i64 12]) rfl (by kernel_rfl) (by kernel_rfl) (by kernel_rfl) (fun _ _ _ h => only_panic h) ?_ hHeld ?_
           ·exact yields_row (.tmp 7) (by rfl) rfl rfl LDB.out Tryz.underlying145 rfl (by kernel_rfl)
           try simp only [gZ]
           exact wpAnyH_done (by kernel_rfl) ⟨rfl, hR _ hHeld⟩ _
          intro W hW
          obtain ⟨n5, rfl⟩ := SS.out W hW
          clear hHeld hW SS LDD LDB
          obtain ⟨w6, hrun, hM6, hT6⟩ := (M5.out.drewN n5).put (t := d.t) (k := 12) (L' := setSt s.L a r 5) HS9.out (by omega) HQ.out.2.1 HQ.out.2.2.1 (fun f hf => fit_set (st := 5) hf HQ.out.2.1 HQ.out.2.2.1 HX.out.1) (HID.out 5 (by omega) (by omega))
          have hrun' : (Instr.mapUpdate 59 (.map (some mb)) (.agg #[i64 a, i64 r]) (.agg #[i64 d.t, i64 12])).run Tryz.prog (w5.drewN n5) = .ok () w6 := hrun
          have M6 := Lib.hid hM6
          have G6 : Hid (Blk w6 g #[i64 a, i64 11, i64 a, i64 r, i64 v] 108) := Lib.hid (hT6.blk (G5.out.drewN n5) (Ne.symm (by have := HMB.out; omega)))
          have z6 : Hid (Blk w6 g9 #[i64 10, i64 12] 150) := Lib.hid (hT6.blk (z5.out.drewN n5) (by have := HMB.out; omega))
          have T6 : Hid (Tn (OwnL b hv (.map (some mb))) w w6) := Lib.hid ((T5.out.drewN n5).then_ hT6 fun k hk => by rw [hk]; exact .inl (.inr (.inr rfl)))
          simp only [endN, List.drop_succ_cons, List.drop_zero, Act.put, List.setIfInBounds_toArray, List.set_cons_zero, List.set_cons_succ]
          clear hM6 hT6 hrun S
          go_wp2_with fail
          clear hrun'
          obtain ⟨S, hS⟩ : ∃ S : World → Prop, S = fun W => ∃ n, W = w6.drewN n := ⟨_, rfl⟩
          have LDD : Hid (∀ W, S W → W.cell? ⟨g9, 1, none⟩ = some (i64 12) ∧ W.cell? ⟨g, 2, none⟩ = some (i64 a) ∧ W.cell? ⟨g, 3, none⟩ = some (i64 r)) := Lib.hid (by rw [hS]; rintro W ⟨n, rfl⟩; exact ⟨z6.out.cell 1, G6.out.cell 2, G6.out.cell 3⟩)
          have SS : Hid (∀ W, S W → ∃ n, W = w6.drewN n) := Lib.hid (by rw [hS]; exact fun W h => h)
          have hHeld : S w6.drew := by rw [hS]; exact ⟨1, rfl⟩
          clear hS
          refine wp_region_sp 10 S (by kernel_rfl) (by kernel_rfl) ?_
          simp only [List.take_succ_cons, List.take_zero]
          apply wpAnyH_apart S
          case take =>
           intro R hR
           refine tk 0 (v := ?_) rfl hHeld ?_ ?_; rotate_left
           ·(intro w hSw; obtain ⟨l0, l1, l2⟩ := LDD.out w hSw; go_simp; try (with_reducible rfl))
           try simp only [gZ]
           refine tk 1 (v := ?_) rfl hHeld ?_ ?_; rotate_left
           ·(intro w hSw; obtain ⟨l0, l1, l2⟩ := LDD.out w hSw; go_simp; try (with_reducible rfl))
           try simp only [gZ]
           refine tk 2 (v := ?_) rfl hHeld ?_ ?_; rotate_left
           ·(intro w hSw; obtain ⟨l0, l1, l2⟩ := LDD.out w hSw; go_simp; try (with_reducible rfl))
           try simp only [gZ]
           refine tk 3 (v := ?_) rfl hHeld ?_ ?_; rotate_left
           ·(intro w hSw; obtain ⟨l0, l1, l2⟩ := LDD.out w hSw; go_simp; try (with_reducible rfl))
           try simp only [gZ]
           refine tk 4 (v := ?_) rfl hHeld ?_ ?_; rotate_left
           ·(intro w hSw; obtain ⟨l0, l1, l2⟩ := LDD.out w hSw; go_simp; try (with_reducible rfl))
           try simp only [gZ]
           refine tk 5 (v := ?_) rfl hHeld ?_ ?_; rotate_left
           ·(intro w hSw; obtain ⟨l0, l1, l2⟩ := LDD.out w hSw; go_simp; try (with_reducible rfl))
           try simp only [gZ]
           refine tk 6 (v := ?_) rfl hHeld ?_ ?_; rotate_left
           ·(intro w hSw; obtain ⟨l0, l1, l2⟩ := LDD.out w hSw; go_simp; try (with_reducible rfl))
           try simp only [gZ]
           refine tk 7 (v := ?_) rfl hHeld ?_ ?_; rotate_left
           ·(intro w hSw; obtain ⟨l0, l1, l2⟩ := LDD.out w hSw; go_simp; try (with_reducible rfl))
           try simp only [gZ]
           refine tk 8 (v := ?_) rfl hHeld ?_ ?_; rotate_left
           ·(intro w hSw; obtain ⟨l0, l1, l2⟩ := LDD.out w hSw; go_simp; try (with_reducible rfl))
           try simp only [gZ]
           refine tk 9 (v := ?_) rfl hHeld ?_ ?_; rotate_left
           ·(intro w hSw; obtain ⟨l0, l1, l2⟩ := LDD.out w hSw; go_simp; try (with_reducible rfl))
           try simp only [gZ]
           exact wpAnyH_done (by kernel_rfl) ⟨rfl, hR _ hHeld⟩ _
          intro W hW
          obtain ⟨n6, rfl⟩ := SS.out W hW
          simp only [endN, List.drop_succ_cons, List.drop_zero, Act.put, List.setIfInBounds_toArray, List.set_cons_zero, List.set_cons_succ]
          have M7 := Lib.hid (M6.out.drewN n6)
          clear hHeld hW SS LDD S
          go_wp2_with fail
          refine (send_any b s.id s.sent a 12 a r 0 (w6.drewN n6) (M7.out.blk.cell 0) (M7.out.blk.cell 1) (M7.out.blk.frozen 1) ⟨M7.out.sent, HS9.out⟩ ⟨by omega, by omega⟩ HQ.out.2.1 HQ.out.2.2.1 ⟨by omega, by omega⟩).mono ?_
          rintro e w8 ⟨gm, rfl, hgm, hM, hb8⟩
          obtain ⟨M8, T8⟩ := M7.out.sent1 (by omega) hb8
          have F : Hid (TakeLE B b s hv (.map (some mb)) m w (.returned (.slice (some ⟨gm, 0, none⟩) 1 1)) w8) := Lib.hid (by
           refine ⟨_, hv, .map (some mb), rfl, ?_, ?_, ?_, OWN.out⟩
           ·rw [RES.out]; exact ⟨gm, Nat.le_trans T6.out.size hgm, rfl, hM⟩
           ·rw [RES.out]; exact M8
           ·exact (T6.out.drewN n6).then_ T8 fun k hk => by rw [hk]; exact .inl (.inl rfl))
          clear hM hb8 M8 T8
          go_wp2_with fail
          go_ret
          exact F.out
      ·have F := Lib.hid (FN.out (by
        rw [TO.out, HX.out.1]; dsimp only; rw [HX.out.2]; dsimp only
        rw [if_pos (.inl (by rw [← HFR.out]; exact hfa))]) w4 B4.out M4.out)
       go_wp2_with fail
       go_ret
       exact F.out
end Go.Proofs.YtdojgbpaheadnaaGreat
