/- A broker takes a message. -/
import Derived.Test.YtdojgbpaheadnaaGreatQBN
import Derived.Test.YtdojgbpaheadnaaGreatQAT
set_option linter.unusedVariables false
set_option linter.unusedSimpArgs false

namespace Go.Proofs.YtdojgbpaheadnaaGreat
open Go.RowKit Go.Shelf Go.Maps Go.ChangeMaps

theorem mapB_nil0 (W : World) : (binOp .eql 56 (.map none) (.map none)).run Tryz.prog W = .ok (.bool true) W := by kernel_rfl
theorem mapB_nil1 (W : World) (b : Nat) : (binOp .eql 56 (.map (some b)) (.map none)).run Tryz.prog W = .ok (.bool false) W := by kernel_rfl
theorem wpAnyH_apartVN {P : Program} {md : Region.Mode} {ops : Array Oper} {Q : Exit → Act → World → Prop} {S : World → Prop} {fuel : Nat} {L : Array Bool} {a : Act} {w : World} {a1 : Value → Nat → Act} (F : Value → Nat → World → Prop)
  (take : ∀ R : Act → World → Prop, (∀ x g w', F x g w' → R (a1 x g) w') → wpAnyH P md ops (only R) S fuel L a w) (rest : ∀ x g w', F x g w' → Q .normal (a1 x g) w') : wpAnyH P md ops Q S fuel L a w :=
 wpAnyH_mono (fun _ _ _ h => nomatch h.1) (fun ⟨_, _, h⟩ => nomatch h.1) (fun _ _ h => h.2) fuel L a w (take (Q .normal) rest)
theorem wpAnyH_apart3 {P : Program} {md : Region.Mode} {ops : Array Oper} {Q : Exit → Act → World → Prop} {S : World → Prop} {fuel : Nat} {L : Array Bool} {a : Act} {w : World} {a1 : Option Addr → Nat → Nat → Act} (F : Option Addr → Nat → Nat → World → Prop)
  (take : ∀ R : Act → World → Prop, (∀ x y g w', F x y g w' → R (a1 x y g) w') → wpAnyH P md ops (only R) S fuel L a w) (rest : ∀ x y g w', F x y g w' → Q .normal (a1 x y g) w') : wpAnyH P md ops Q S fuel L a w :=
 wpAnyH_mono (fun _ _ _ h => nomatch h.1) (fun ⟨_, _, h⟩ => nomatch h.1) (fun _ _ h => h.2) fuel L a w (take (Q .normal) rest)
def BTakeE (B b N : Nat) (s : Brk) (rv mv : Value) (G : List CsG) (o : Nat → Nat) (m : Msg) (w : World) (e : Ending) (w' : World) : Prop :=
 ∃ v mv' G' o', e = .returned v ∧ MsgsAt w' w.heap.size v (s.take m).2 ∧ BMem w' B b (s.take m).1 rv mv' G' o' (N + 1) ∧ Tn (fun k => o k ≠ 0) w w' ∧ ∀ k, o' k ≠ 0 → o k ≠ 0 ∨ w.heap.size ≤ k
theorem bTake_none {s : Brk} {m : Msg} (h : dec m.text = none ∨ m.to ≠ s.id) : s.take m = (s, []) := by
 unfold Brk.take
 cases hd : dec m.text with
 | none => rfl
 | some q =>
  obtain ⟨k, a, r, v⟩ := q
  dsimp only
  rcases h with h | h
  ·rw [hd] at h; cases h
  ·rw [if_pos h]
theorem bTake_some {s : Brk} {m : Msg} {k a r v : Int} (hd : dec m.text = some (k, a, r, v)) (hto : m.to = s.id) : s.take m =
  match cs s.L a r with
   | none => if k = 1 ∧ m.frm = a then ({ s with L := insC ⟨a, r, v, rotOf s.rota a r, false⟩ s.L } : Brk).tell ⟨a, r, v, rotOf s.rota a r, false⟩ else (s, [])
   | some c =>
    if k = 1 ∧ m.frm = a then (if c.opn then (s, []) else s.tell c)
    else if c.opn ∧ c.left.head? = some m.frm then
     if k = 3 then ({ s with L := setC { c with g := true } s.L } : Brk).tell { c with g := true }
     else if k = 4 then ({ s with L := setC { c with left := c.left.tail } s.L } : Brk).tell { c with left := c.left.tail }
     else (s, [])
    else (s, []) := by
 unfold Brk.take
 rw [hd]
 dsimp only
 rw [if_neg (by rw [hto]; simp)]
 cases cs s.L a r <;> rfl
set_option maxRecDepth 100000 in
set_option maxHeartbeats 8000000 in
theorem bTake_any (B b N : Nat) (s : Brk) (rv mv : Value) (G : List CsG) (o : Nat → Nat) (m : Msg) (w : World) (h : BMem w B b s rv mv G o N) (hB : B ≤ w.heap.size) (hN : N < 90000) (ht : m.text.length ≤ 1000000) :
  Calls Tryz.prog 16 #[.pointer (some ⟨b, 0, none⟩), .agg (encM m)] w (BTakeE B b N s rv mv G o m w) := by
 obtain ⟨lc, ok, hlet⟩ := let_of s.id m
 obtain ⟨fr, k, a, r, v, hlc, hi4, hyes⟩ := let_cells hlet
 have LE := Lib.hid hlet
 have HLC := Lib.hid (And.intro hlc hi4)
 have HY := Lib.hid hyes
 have H := Lib.hid h
 have HB := Lib.hid hB
 have hbl := h.blk.lt
 obtain ⟨cm, hcm⟩ : ∃ cm, cm = encM m := ⟨_, rfl⟩
 have CM := Lib.hid hcm
 rw [← hcm]
 have FN : Hid (s.take m = (s, []) → ∀ W, Below w.heap.size w W → BTakeE B b N s rv mv G o m w (.returned (.slice none 0 0)) W) := Lib.hid fun e W hW =>
  ⟨_, mv, G, o, rfl, by rw [e]; rfl, by rw [e]; exact (H.out.up hW).mono (Nat.le_succ _) (by omega), Tn.of_below hW, fun k h => .inl h⟩
 clear hlet h hcm hB hlc hi4 hyes
 go_enter Tryz.func16, Tryz.ntmps16
 go_wp2_with fail
 obtain ⟨mk, hmk⟩ : ∃ mk, mk = w.heap.size := ⟨_, rfl⟩
 obtain ⟨w1, hw1⟩ : ∃ w1, w1 = w.alloc (.cells cm 31) := ⟨_, rfl⟩
 have MB : Hid (Blk w1 mk cm 31) := Lib.hid (by rw [hw1, hmk]; exact Blk.new _ _ _)
 have B1 : Hid (Below w.heap.size w w1) := Lib.hid (by rw [hw1]; exact (Below.refl _ _).alloc (Nat.le_refl _) _)
 have M1 := Lib.hid (H.out.up B1.out)
 rw [← hmk, ← hw1]
 clear hw1
 have HMK := Lib.hid hmk
 clear hmk
 obtain ⟨S, hS⟩ : ∃ S : World → Prop, S = fun W => Below w1.heap.size w1 W := ⟨_, rfl⟩
 have OP : Hid (∀ W, S W → Calls Tryz.prog 52 #[.pointer (some ⟨b, 0, none⟩), .agg cm] W fun e w' => e = .returned (.tuple #[.agg lc, .bool ok]) ∧ Below W.heap.size W w') := Lib.hid (by
  rw [hS, CM.out]; exact fun W hW => LE.out.opens b W (Below.cellE hW (M1.out.blk.cell 0)) ht)
 have LM : Hid (∀ W, S W → Blk W mk cm 31) := Lib.hid (by rw [hS]; exact fun W hW => MB.out.below hW MB.out.lt)
 have UU : Hid (∀ W, Below w1.heap.size w1 W → S W) := Lib.hid (by rw [hS]; exact fun W h => h)
 have HC : (Tryz.prog.info? 31).map (·.size) = some cm.size := by rw [CM.out]; kernel_rfl
 have HL6 := LE.out.size
 have HL5 : (Tryz.prog.info? 108).map (·.size) = some lc.size := by rw [HL6]; kernel_rfl
 have hHeld := UU.out _ (Below.refl w1.heap.size w1).drew
 clear hS
 refine wp_region_held_drew (S := S) (by kernel_rfl) hHeld (fun hU => ?_)
 apply wpAnyH_apart1 (fun g W => w1.heap.size ≤ g ∧ Blk W g lc 108 ∧ Below w1.heap.size w1 W)
 case take =>
  intro R hR
  refine tk 0 (v := ?_) rfl hHeld ?_ ?_; rotate_left
  ·(intro w hSw; clear hSw; go_simp; try (with_reducible rfl))
  try simp only [gZ]
  refine tk 1 (v := ?_) rfl hHeld ?_ ?_; rotate_left
  ·(intro w hSw; clear hSw; go_simp; try (with_reducible rfl))
  try simp only [gZ]
  refine tk 2 (v := ?_) rfl hHeld ?_ ?_; rotate_left
  ·(intro w hSw; clear hSw; go_simp; try (with_reducible rfl))
  try simp only [gZ]
  refine wpAnyH_take (i := 3) (v := .agg cm) rfl (by kernel_rfl) (by kernel_rfl) (by kernel_rfl) (fun _ _ _ h => only_panic h) ?_ hHeld ?_
  ·exact yields_row (.tmp 3) (by rfl) rfl rfl LM.out Tryz.underlying31 rfl HC
  try simp only [gZ]
  refine wpAnyH_two (i := 4) (j := 8) rfl rfl (by kernel_rfl) (by rfl) (by rfl) ?_ ?_
  ·go_simp
   refine (OP.out _ hHeld).mono ?_
   rintro e W2 ⟨rfl, hb⟩
   have B2 := Lib.hid ((Below.refl w1.heap.size w1).drew.trans hb)
   have hHeld := UU.out _ B2.out
   clear hb
   refine ⟨hHeld, ?_⟩
   refine tk 5 (v := ?_) rfl hHeld ?_ ?_; rotate_left
   ·(intro w hSw; clear hSw; go_simp; try (with_reducible rfl))
   try simp only [gZ]
   refine tk 6 (v := ?_) rfl hHeld ?_ ?_; rotate_left
   ·(intro w hSw; clear hSw; go_simp; try (with_reducible rfl))
   try simp only [gZ]
   refine tk 7 (v := ?_) rfl hHeld ?_ ?_; rotate_left
   ·(intro w hSw; clear hSw; go_simp; try (with_reducible rfl))
   try simp only [gZ]
   refine wpAnyH_one (i := 8) rfl (by kernel_rfl) (by rfl) ?_
   go_simp
   obtain ⟨g, hg⟩ : ∃ g, g = W2.heap.size := ⟨_, rfl⟩
   have B3 : Hid (Below w1.heap.size w1 (W2.alloc (.cells #[i64 0, i64 0, i64 0, i64 0, i64 0] 108))) := Lib.hid (B2.out.alloc B2.out.size _)
   have G3 : Hid (Blk (W2.alloc (.cells #[i64 0, i64 0, i64 0, i64 0, i64 0] 108)) g #[i64 0, i64 0, i64 0, i64 0, i64 0] 108) := Lib.hid (by rw [hg]; exact Blk.new _ _ _)
   have hgz : w1.heap.size ≤ g := by rw [hg]; exact B2.out.size
   rw [← hg]
   have hHeld := UU.out _ B3.out
   refine ⟨hHeld, ?_⟩
   refine wpAnyH_one (i := 9) rfl (by kernel_rfl) (by rfl) ?_
   refine wp_store_row 108 (.tmp 5) (.tmp 17) rfl g lc rfl rfl 108 _ G3.out HL5 HL6.symm LE.out.one ?_
   have B4 := Lib.hid (belowS (cs := lc) B3.out hgz)
   have hHeld := UU.out _ B4.out
   refine ⟨hHeld, ?_⟩
   refine tk 10 (v := ?_) rfl hHeld ?_ ?_; rotate_left
   ·(intro w hSw; clear hSw; go_simp; try (with_reducible rfl))
   try simp only [gZ]
   exact wpAnyH_done (by kernel_rfl) ⟨rfl, hR _ _ ⟨hgz, setRow_heap _ _ _ _ _ _ G3.out, B4.out⟩⟩ _
  ·go_simp
   obtain ⟨g, hg⟩ : ∃ g, g = w1.heap.size := ⟨_, rfl⟩
   obtain ⟨W2, hW2⟩ : ∃ W2, W2 = (w1.alloc (.cells #[i64 0, i64 0, i64 0, i64 0, i64 0] 108)).drew := ⟨_, rfl⟩
   have B2 : Hid (Below w1.heap.size w1 W2) := Lib.hid (by rw [hW2]; exact ((Below.refl _ _).alloc (Nat.le_refl _) _).drew)
   have G2 : Hid (Blk W2 g #[i64 0, i64 0, i64 0, i64 0, i64 0] 108) := Lib.hid (by rw [hW2, hg]; exact (Blk.new _ _ _).drew)
   have hgz : w1.heap.size ≤ g := by omega
   rw [← hW2, ← hg]
   clear hW2 hg
   have hHeld := UU.out _ B2.out
   refine ⟨hHeld, ?_⟩
   refine wpAnyH_one (i := 4) rfl (by kernel_rfl) (by rfl) ?_
   go_simp
   refine (OP.out _ hHeld).mono ?_
   rintro e W3 ⟨rfl, hb⟩
   have G3 := Lib.hid (G2.out.below hb G2.out.lt)
   have B3 := Lib.hid (B2.out.trans (hb.mono B2.out.size))
   have hHeld := UU.out _ B3.out
   clear hb
   refine ⟨hHeld, ?_⟩
   refine tk 5 (v := ?_) rfl hHeld ?_ ?_; rotate_left
   ·(intro w hSw; clear hSw; go_simp; try (with_reducible rfl))
   try simp only [gZ]
   refine tk 6 (v := ?_) rfl hHeld ?_ ?_; rotate_left
   ·(intro w hSw; clear hSw; go_simp; try (with_reducible rfl))
   try simp only [gZ]
   refine tk 7 (v := ?_) rfl hHeld ?_ ?_; rotate_left
   ·(intro w hSw; clear hSw; go_simp; try (with_reducible rfl))
   try simp only [gZ]
   refine wpAnyH_one (i := 9) rfl (by kernel_rfl) (by rfl) ?_
   refine wp_store_row 108 (.tmp 5) (.tmp 17) rfl g lc rfl rfl 108 _ G3.out HL5 HL6.symm LE.out.one ?_
   have B4 := Lib.hid (belowS (cs := lc) B3.out hgz)
   have hHeld := UU.out _ B4.out
   refine ⟨hHeld, ?_⟩
   refine tk 10 (v := ?_) rfl hHeld ?_ ?_; rotate_left
   ·(intro w hSw; clear hSw; go_simp; try (with_reducible rfl))
   try simp only [gZ]
   exact wpAnyH_done (by kernel_rfl) ⟨rfl, hR _ _ ⟨hgz, setRow_heap _ _ _ _ _ _ G3.out, B4.out⟩⟩ _
 rintro g w2 ⟨hgz, hG, hb⟩
 have G2 := Lib.hid hG
 have M2 := Lib.hid (M1.out.up hb)
 have B2 := Lib.hid (B1.out.trans (hb.mono B1.out.size))
 have hz2 := hb.size
 have hz1 := B1.out.size
 clear hU hHeld hG hb S OP LM UU HC MB HL5 HL6
 have hGL : Hid (Blk w2 g #[i64 fr, i64 k, i64 a, i64 r, i64 v] 108) := Lib.hid (by rw [← HLC.out.1]; exact G2.out)
 have G2 := Lib.hid hGL.out
 clear hGL
 have go0 : w2.cell? ⟨g, 0, none⟩ = some (i64 fr) := G2.out.cell 0
 cases ok with
 | false =>
  have F := Lib.hid (FN.out (bTake_none (LE.out.no rfl)) w2 B2.out)
  go_wp2_with fail
  go_ret
  exact F.out
 | true =>
  obtain ⟨hd, hto, rfl⟩ := HY.out rfl
  have HT0 := Lib.hid (bTake_some hd hto)
  clear hd hto
  obtain ⟨mvo, hmv⟩ : ∃ mvo, mv = .map mvo := by
   rcases H.out.map with ⟨e, _⟩ | ⟨mb, _, _, e, _⟩
   ·exact ⟨_, e⟩
   ·exact ⟨_, e⟩
  subst hmv
  obtain ⟨pk, hpk⟩ : ∃ pk, pk = ptV ((gcs G a r).map (·.k)) := ⟨_, rfl⟩
  obtain ⟨S, hS⟩ : ∃ S : World → Prop, S = fun W => ∃ n, W = w2.drewN n := ⟨_, rfl⟩
  have LD : Hid (∀ W, S W → W.cell? ⟨b, 3, none⟩ = some (.map mvo) ∧ W.cell? ⟨g, 2, none⟩ = some (i64 a) ∧ W.cell? ⟨g, 3, none⟩ = some (i64 r) ∧ (Instr.lookup 56 (.map mvo) (.agg #[i64 a, i64 r]) false).run Tryz.prog W = .ok pk W) := Lib.hid (by
   rw [hS]; rintro W ⟨n, rfl⟩
   exact ⟨M2.out.blk.cell 3, G2.out.cell 2, G2.out.cell 3, by rw [hpk]; exact (M2.out.up (bdrewN (Below.refl _ _) n)).look HLC.out.2.2.1 HLC.out.2.2.2.1⟩)
  have SS : Hid (∀ W, S W → ∃ n, W = w2.drewN n) := Lib.hid (by rw [hS]; exact fun W h => h)
  have hHeld : S w2.drew := by rw [hS]; exact ⟨1, rfl⟩
  have HPK := Lib.hid hpk
  clear hS hpk
  go_wp2_with fail
  refine wp_region_held_drew (S := S) (by kernel_rfl) hHeld (fun _ => ?_)
  apply wpAnyH_apart S
  case take =>
   intro R hR
   refine tk 0 (v := ?_) rfl hHeld ?_ ?_; rotate_left
   ·(intro w hSw; have l0 := (LD.out w hSw).1; go_simp; try (with_reducible rfl))
   try simp only [gZ]
   refine tk 1 (v := ?_) rfl hHeld ?_ ?_; rotate_left
   ·(intro w hSw; have l0 := (LD.out w hSw).1; go_simp; try (with_reducible rfl))
   try simp only [gZ]
   refine tk 2 (v := ?_) rfl hHeld ?_ ?_; rotate_left
   ·(intro w hSw; have l0 := (LD.out w hSw).1; go_simp; try (with_reducible rfl))
   try simp only [gZ]
   refine tk 3 (v := ?_) rfl hHeld ?_ ?_; rotate_left
   ·(intro w hSw; have l0 := (LD.out w hSw).1; go_simp; try (with_reducible rfl))
   try simp only [gZ]
   refine tk 4 (v := ?_) rfl hHeld ?_ ?_; rotate_left
   ·(intro w hSw; obtain ⟨-, l1, l2, -⟩ := LD.out w hSw; go_simp; try (with_reducible rfl))
   try simp only [gZ]
   refine tk 5 (v := ?_) rfl hHeld ?_ ?_; rotate_left
   ·(intro w hSw; obtain ⟨-, l1, l2, -⟩ := LD.out w hSw; go_simp; try (with_reducible rfl))
   try simp only [gZ]
   refine tk 6 (v := ?_) rfl hHeld ?_ ?_; rotate_left
   ·(intro w hSw; have l0 := (LD.out w hSw).2.2.2; go_simp; try (with_reducible rfl))
   try simp only [gZ]
   refine tk 7 (v := ?_) rfl hHeld ?_ ?_; rotate_left
   ·(intro w hSw; clear hSw; go_simp; try (with_reducible rfl))
   try simp only [gZ]
   exact wpAnyH_done (by kernel_rfl) ⟨rfl, hR _ hHeld⟩ _
  intro w3 hW
  obtain ⟨n3, hn3⟩ := SS.out w3 hW
  have M3 : Hid (BMem w3 B b s rv (.map mvo) G o N) := Lib.hid (hn3 ▸ M2.out.up (bdrewN (Below.refl _ _) n3))
  have B3 : Hid (Below w.heap.size w w3) := Lib.hid (hn3 ▸ bdrewN B2.out n3)
  have G3 : Hid (Blk w3 g #[i64 m.frm, i64 k, i64 a, i64 r, i64 v] 108) := Lib.hid (hn3 ▸ G2.out.drewN n3)
  clear hn3 hW SS LD hHeld M2 B2 G2 go0 hz2
  have g0 : w3.cell? ⟨g, 0, none⟩ = some (i64 m.frm) := G3.out.cell 0
  have g1 : w3.cell? ⟨g, 1, none⟩ = some (i64 k) := G3.out.cell 1
  have g2 : w3.cell? ⟨g, 2, none⟩ = some (i64 a) := G3.out.cell 2
  obtain ⟨fm, hfm⟩ : ∃ fm, fm = m.frm := ⟨_, rfl⟩
  rw [← hfm] at g0 HT0
  have HFM := Lib.hid hfm
  clear hfm
  cases hq : gcs G a r with
  | none =>
   have hpk : pk = .pointer none := by rw [HPK.out, hq]; rfl
   subst hpk
   have hcs : cs s.L a r = none := by rw [H.out.gcs_eq, hq]; rfl
   have HCS := Lib.hid hcs
   have HQ := Lib.hid hq
   clear hcs hq
   by_cases hw : k = 1 ∧ fm = a
   ·obtain ⟨hk1, hfa⟩ := hw
    subst hk1
    subst hfa
    have HI4 := HLC.out.2
    have HT : Hid (s.take m = ({ s with L := insC ⟨fm, r, v, rotOf s.rota fm r, false⟩ s.L } : Brk).tell ⟨fm, r, v, rotOf s.rota fm r, false⟩) := Lib.hid (by rw [HT0.out, HCS.out]; exact if_pos ⟨rfl, rfl⟩)
    have hq0 := mapB_nil0
    have hq1 := mapB_nil1
    have f3 := M3.out.blk.frozen 3
    have hb3 := M3.out.blk.lt
    have c3 : w3.cell? ⟨b, 3, none⟩ = some (.map mvo) := M3.out.blk.cell 3
    cases mvo with
    | none =>
     obtain ⟨mvo0, hmv0⟩ : ∃ x : Option Nat, x = none := ⟨_, rfl⟩
     rw [← hmv0] at H FN
     have hmk := run_makeMap (P := Tryz.prog) 56
     obtain ⟨mb, hmb⟩ : ∃ mb, mb = w3.heap.size := ⟨_, rfl⟩
     obtain ⟨M4, T4⟩ := M3.out.made hmb (Nat.le_trans HB.out B3.out.size)
     obtain ⟨w4, hw4⟩ : ∃ w4, w4 = (w3.alloc (.map #[] 0)).setCell ⟨b, 3, none⟩ (.map (some mb)) := ⟨_, rfl⟩
     obtain ⟨o4, ho4⟩ : ∃ o4 : Nat → Nat, o4 = fun x => if x = mb then 2 else o x := ⟨_, rfl⟩
     rw [← hw4] at M4 T4
     rw [← ho4] at M4
     have O4 : Hid (∀ k, o4 k ≠ 0 → o k ≠ 0 ∨ w.heap.size ≤ k) := Lib.hid fun k hk => by
      rw [ho4] at hk
      by_cases e : k = mb
      ·exact .inr (by rw [e, hmb]; exact B3.out.size)
      ·exact .inl (by simpa [e] using hk)
     have HMB : Hid (o4 mb ≠ 0) := Lib.hid (by rw [ho4]; simp)
     have G4 := Lib.hid (T4.blk G3.out (by show g ≠ b; have := (H.out.olt b (by rw [H.out.ob]; decide)).2; have := Nat.le_trans B1.out.size hgz; omega))
     have hgm : g ≠ mb := by have := G3.out.lt; omega
     have T4 : Hid (Tn (fun k => o k ≠ 0) w w4) := Lib.hid ((Tn.of_below B3.out).trans (T4.mono fun k hk => by rw [show k = b from hk, H.out.ob]; decide))
     have M4 := Lib.hid M4
     go_wp2_with fail
     have hw5 := hw4.trans (World.setCell_alloc_past _ _ _ _ hb3)
     rw [← hmb, ← hw5]
     clear hw5 hw4 hmb hmv0 ho4 M3 B3 G3 hmk g0 g1 g2 c3 f3 hb3
     obtain ⟨S5, hS5⟩ : ∃ S : World → Prop, S = fun W => Below w4.heap.size w4 W := ⟨_, rfl⟩
     have LD5 : Hid (∀ W, S5 W → W.cell? ⟨b, 3, none⟩ = some (.map (some mb)) ∧ W.cell? ⟨g, 2, none⟩ = some (i64 fm) ∧ W.cell? ⟨g, 3, none⟩ = some (i64 r) ∧ W.cell? ⟨g, 4, none⟩ = some (i64 v)) := Lib.hid (by
      rw [hS5]; intro W hW
      exact ⟨Below.cellE hW (M4.out.blk.cell 3), Below.cellE hW (G4.out.cell 2), Below.cellE hW (G4.out.cell 3), Below.cellE hW (G4.out.cell 4)⟩)
     have UU5 : Hid (∀ W, Below w4.heap.size w4 W → S5 W) := Lib.hid (by rw [hS5]; exact fun W h => h)
     have hHeld := UU5.out _ (Below.refl w4.heap.size w4).drew
     clear hS5
     refine wp_region_sp 14 S5 (by kernel_rfl) (by kernel_rfl) ?_
     simp only [List.take_succ_cons, List.take_zero]
     apply wpAnyH_apart3 (fun la lc k W => LeftAt W (fun x => w4.heap.size ≤ x ∧ x ≠ k) la lc (rotOf s.rota fm r) ∧ w4.heap.size ≤ k ∧ Blk W k #[i64 v, .slice la (rotOf s.rota fm r).length lc, .bool false] 113 ∧ Below w4.heap.size w4 W)
     case take =>
      intro R hR
      refine tk 0 (v := ?_) rfl hHeld ?_ ?_; rotate_left
      ·(intro w hSw; obtain ⟨l0, l1, l2, l3⟩ := LD5.out w hSw; go_simp; try (with_reducible rfl))
      try simp only [gZ]
      refine tk 1 (v := ?_) rfl hHeld ?_ ?_; rotate_left
      ·(intro w hSw; obtain ⟨l0, l1, l2, l3⟩ := LD5.out w hSw; go_simp; try (with_reducible rfl))
      try simp only [gZ]
      refine tk 2 (v := ?_) rfl hHeld ?_ ?_; rotate_left
      ·(intro w hSw; obtain ⟨l0, l1, l2, l3⟩ := LD5.out w hSw; go_simp; try (with_reducible rfl))
      try simp only [gZ]
      refine tk 3 (v := ?_) rfl hHeld ?_ ?_; rotate_left
      ·(intro w hSw; obtain ⟨l0, l1, l2, l3⟩ := LD5.out w hSw; go_simp; try (with_reducible rfl))
      try simp only [gZ]
      refine tk 4 (v := ?_) rfl hHeld ?_ ?_; rotate_left
      ·(intro w hSw; obtain ⟨l0, l1, l2, l3⟩ := LD5.out w hSw; go_simp; try (with_reducible rfl))
      try simp only [gZ]
      refine tk 5 (v := ?_) rfl hHeld ?_ ?_; rotate_left
      ·(intro w hSw; obtain ⟨l0, l1, l2, l3⟩ := LD5.out w hSw; go_simp; try (with_reducible rfl))
      try simp only [gZ]
      refine tk 6 (v := ?_) rfl hHeld ?_ ?_; rotate_left
      ·(intro w hSw; obtain ⟨l0, l1, l2, l3⟩ := LD5.out w hSw; go_simp; try (with_reducible rfl))
      try simp only [gZ]
      refine tk 7 (v := ?_) rfl hHeld ?_ ?_; rotate_left
      ·(intro w hSw; obtain ⟨l0, l1, l2, l3⟩ := LD5.out w hSw; go_simp; try (with_reducible rfl))
      try simp only [gZ]
      refine tk 8 (v := ?_) rfl hHeld ?_ ?_; rotate_left
      ·(intro w hSw; obtain ⟨l0, l1, l2, l3⟩ := LD5.out w hSw; go_simp; try (with_reducible rfl))
      try simp only [gZ]
      refine tk 9 (v := ?_) rfl hHeld ?_ ?_; rotate_left
      ·(intro w hSw; obtain ⟨l0, l1, l2, l3⟩ := LD5.out w hSw; go_simp; try (with_reducible rfl))
      try simp only [gZ]
      refine tk 10 (v := ?_) rfl hHeld ?_ ?_; rotate_left
      ·(intro w hSw; obtain ⟨l0, l1, l2, l3⟩ := LD5.out w hSw; go_simp; try (with_reducible rfl))
      try simp only [gZ]
      refine wpAnyH_one (i := 11) rfl (by kernel_rfl) (by rfl) ?_
      go_simp
      refine (lenders_any fm r (M4.out.up (Below.refl w4.heap.size w4).drew).blk (M4.out.up (Below.refl w4.heap.size w4).drew).row M4.out.ids.2.1).mono ?_
      rintro e W6 ⟨la, lc, rfl, hL6, hb6⟩
      have L6 := Lib.hid hL6
      have B6 : Hid (Below w4.heap.size w4 W6) := Lib.hid ((Below.refl w4.heap.size w4).drew.trans hb6)
      have hHeld := UU5.out _ B6.out
      clear hL6 hb6
      refine ⟨hHeld, ?_⟩
      refine tk 12 (v := ?_) rfl hHeld ?_ ?_; rotate_left
      ·(intro w hSw; clear hSw; go_simp; try (with_reducible rfl))
      try simp only [gZ]
      refine wpAnyH_one (i := 13) rfl (by kernel_rfl) (by rfl) ?_
      go_simp
      obtain ⟨k5, hk5⟩ : ∃ k5, k5 = W6.heap.size := ⟨_, rfl⟩
      have B7 : Hid (Below w4.heap.size w4 (W6.alloc (.cells #[i64 v, .slice la (rotOf s.rota fm r).length lc, .bool false] 113))) := Lib.hid (B6.out.alloc B6.out.size _)
      have G7 : Hid (Blk (W6.alloc (.cells #[i64 v, .slice la (rotOf s.rota fm r).length lc, .bool false] 113)) k5 #[i64 v, .slice la (rotOf s.rota fm r).length lc, .bool false] 113) := Lib.hid (by rw [hk5]; exact Blk.new _ _ _)
      have hkz : w4.heap.size ≤ k5 := by rw [hk5]; exact B6.out.size
      have L7 : Hid (LeftAt (W6.alloc (.cells #[i64 v, .slice la (rotOf s.rota fm r).length lc, .bool false] 113)) (fun x => w4.heap.size ≤ x ∧ x ≠ k5) la lc (rotOf s.rota fm r)) := Lib.hid
       (L6.out.keep (F := fun _ => False) (Tn.of_below ((Below.refl _ _).alloc (Nat.le_refl _) _)) (fun _ _ => id) fun j hj hjl => ⟨by simpa using hj, by omega⟩)
      rw [← hk5]
      clear hk5
      have hHeld := UU5.out _ B7.out
      refine ⟨hHeld, ?_⟩
      exact wpAnyH_done (by kernel_rfl) ⟨rfl, hR _ _ _ _ ⟨L7.out, hkz, G7.out, B7.out⟩⟩ _
     case rest =>
      rintro la lc k5 W ⟨hL, hkz, hB5, hb⟩
      have M5 := M4.out.up hb
      have hzz : w.heap.size ≤ w4.heap.size := T4.out.size
      have hBB : B ≤ w4.heap.size := Nat.le_trans HB.out hzz
      have h0 : ∀ x, w4.heap.size ≤ x → o4 x = 0 := fun x hx => by
       rcases Nat.eq_zero_or_pos (o4 x) with h | h
       ·exact h
       ·have := (M4.out.olt x (by omega)).2; omega
      obtain ⟨w6, o6, hr6, hM6, hT6, hO6⟩ := M5.put (c := ⟨fm, r, v, rotOf s.rota fm r, false⟩) (B0 := w.heap.size) HCS.out hB5 rfl ⟨hL.1, hL.2.imp id fun ⟨gg, oo, e1, e2, e3⟩ => ⟨gg, oo, e1, ⟨h0 gg e2.1, e2.2, by have := e2.1; omega, by have := e2.1; omega⟩, e3⟩⟩ (h0 k5 hkz) ⟨by omega, by omega⟩ ⟨HI4.2.1, HI4.2.2.1, HI4.2.2.2, fun x hx => M4.out.ids.2.2.1 x (rot_mem hx), Nat.le_trans (rot_len _ _ _) M4.out.ids.2.1⟩ (by omega)
      have g2 : w6.cell? ⟨g, 2, none⟩ = some (i64 fm) := hT6.cell (Below.cellE hb (G4.out.cell 2)) hgm
      have g3 : w6.cell? ⟨g, 3, none⟩ = some (i64 r) := hT6.cell (Below.cellE hb (G4.out.cell 3)) hgm
      have M6 := Lib.hid hM6
      have T6 : Hid (Tn (fun k => o k ≠ 0) w w6) := Lib.hid ((T4.out.trans (Tn.of_below hb)).then_ hT6 fun x hx => by
       rw [show x = mb from hx]; exact O4.out mb HMB.out)
      have O6 : Hid (∀ k, o6 k ≠ 0 → o k ≠ 0 ∨ w.heap.size ≤ k) := Lib.hid fun k hk => (hO6 k hk).elim (O4.out k) .inr
      have HX6 : Hid (gcs (insG ⟨⟨fm, r, v, rotOf s.rota fm r, false⟩, k5, la, lc⟩ G) fm r = some ⟨⟨fm, r, v, rotOf s.rota fm r, false⟩, k5, la, lc⟩) := Lib.hid (by
       rw [gcs_ins (x := ⟨⟨fm, r, v, rotOf s.rota fm r, false⟩, k5, la, lc⟩) HQ.out, if_pos ⟨rfl, rfl⟩])
      clear hL hB5 hb M5 hzz hBB h0 hM6 hT6 hO6 UU5 LD5 hHeld hkz
      simp only [endN, List.drop_succ_cons, List.drop_zero, Act.put, List.setIfInBounds_toArray, List.set_cons_zero, List.set_cons_succ]
      go_wp2_with fail
      refine (bTell_any B b (N + 1) { s with L := insC ⟨fm, r, v, rotOf s.rota fm r, false⟩ s.L } rv (.map (some mb)) _ o6 ⟨⟨fm, r, v, rotOf s.rota fm r, false⟩, k5, la, lc⟩ fm r w6 M6.out HX6.out (by have := H.out.sent.2; show s.sent < 1000 * ((N + 1 : Nat) : Int); omega)).mono ?_
      rintro e w7 ⟨v7, rfl, hm7, hM7, hT7⟩
      have F : Hid (BTakeE B b N s rv (.map mvo0) G o m w (.returned v7) w7) := Lib.hid (by
       refine ⟨v7, .map (some mb), insG ⟨⟨fm, r, v, rotOf s.rota fm r, false⟩, k5, la, lc⟩ G, o6, rfl, ?_, ?_, T6.out.then_ hT7 fun k hk => ?_, O6.out⟩
       ·rw [HT.out]; exact hm7.mono T6.out.size
       ·rw [HT.out]; exact hM7
       ·rw [show k = b from hk]; exact .inl (by rw [H.out.ob]; decide))
      clear hm7 hM7 hT7
      go_wp2_with fail
      go_ret
      exact F.out
    | some mb =>
     obtain ⟨mvo0, hmv0⟩ : ∃ x : Option Nat, x = some mb := ⟨_, rfl⟩
     rw [← hmv0] at H FN
     obtain ⟨w4, hw4⟩ : ∃ w4, w4 = w3 := ⟨_, rfl⟩
     obtain ⟨o4, ho4⟩ : ∃ o4 : Nat → Nat, o4 = o := ⟨_, rfl⟩
     have M4 := M3
     have G4 := G3
     have HMB : Hid (o4 mb ≠ 0) := Lib.hid (by
      rw [ho4]
      rcases M3.out.map with ⟨e, _⟩ | ⟨mb', n, f, e, _, _, _, h2⟩
      ·cases e
      ·injection e with e; injection e with e; subst e; rw [h2]; decide)
     have O4 : Hid (∀ k, o4 k ≠ 0 → o k ≠ 0 ∨ w.heap.size ≤ k) := Lib.hid fun k hk => .inl (by rw [← ho4]; exact hk)
     have hgm : g ≠ mb := by have := (H.out.olt mb (by rw [← ho4]; exact HMB.out)).2; have := Nat.le_trans B1.out.size hgz; omega
     have T4 : Hid (Tn (fun k => o k ≠ 0) w w3) := Lib.hid (Tn.of_below B3.out)
     rw [← ho4] at M4
     go_wp2_with fail
     rw [← hw4] at M4 G4 T4 ⊢
     clear hw4 hmv0 ho4 M3 B3 G3 g0 g1 g2 c3 f3 hb3
     obtain ⟨S5, hS5⟩ : ∃ S : World → Prop, S = fun W => Below w4.heap.size w4 W := ⟨_, rfl⟩
     have LD5 : Hid (∀ W, S5 W → W.cell? ⟨b, 3, none⟩ = some (.map (some mb)) ∧ W.cell? ⟨g, 2, none⟩ = some (i64 fm) ∧ W.cell? ⟨g, 3, none⟩ = some (i64 r) ∧ W.cell? ⟨g, 4, none⟩ = some (i64 v)) := Lib.hid (by
      rw [hS5]; intro W hW
      exact ⟨Below.cellE hW (M4.out.blk.cell 3), Below.cellE hW (G4.out.cell 2), Below.cellE hW (G4.out.cell 3), Below.cellE hW (G4.out.cell 4)⟩)
     have UU5 : Hid (∀ W, Below w4.heap.size w4 W → S5 W) := Lib.hid (by rw [hS5]; exact fun W h => h)
     have hHeld := UU5.out _ (Below.refl w4.heap.size w4).drew
     clear hS5
     refine wp_region_sp 14 S5 (by kernel_rfl) (by kernel_rfl) ?_
     simp only [List.take_succ_cons, List.take_zero]
     apply wpAnyH_apart3 (fun la lc k W => LeftAt W (fun x => w4.heap.size ≤ x ∧ x ≠ k) la lc (rotOf s.rota fm r) ∧ w4.heap.size ≤ k ∧ Blk W k #[i64 v, .slice la (rotOf s.rota fm r).length lc, .bool false] 113 ∧ Below w4.heap.size w4 W)
     case take =>
      intro R hR
      refine tk 0 (v := ?_) rfl hHeld ?_ ?_; rotate_left
      ·(intro w hSw; obtain ⟨l0, l1, l2, l3⟩ := LD5.out w hSw; go_simp; try (with_reducible rfl))
      try simp only [gZ]
      refine tk 1 (v := ?_) rfl hHeld ?_ ?_; rotate_left
      ·(intro w hSw; obtain ⟨l0, l1, l2, l3⟩ := LD5.out w hSw; go_simp; try (with_reducible rfl))
      try simp only [gZ]
      refine tk 2 (v := ?_) rfl hHeld ?_ ?_; rotate_left
      ·(intro w hSw; obtain ⟨l0, l1, l2, l3⟩ := LD5.out w hSw; go_simp; try (with_reducible rfl))
      try simp only [gZ]
      refine tk 3 (v := ?_) rfl hHeld ?_ ?_; rotate_left
      ·(intro w hSw; obtain ⟨l0, l1, l2, l3⟩ := LD5.out w hSw; go_simp; try (with_reducible rfl))
      try simp only [gZ]
      refine tk 4 (v := ?_) rfl hHeld ?_ ?_; rotate_left
      ·(intro w hSw; obtain ⟨l0, l1, l2, l3⟩ := LD5.out w hSw; go_simp; try (with_reducible rfl))
      try simp only [gZ]
      refine tk 5 (v := ?_) rfl hHeld ?_ ?_; rotate_left
      ·(intro w hSw; obtain ⟨l0, l1, l2, l3⟩ := LD5.out w hSw; go_simp; try (with_reducible rfl))
      try simp only [gZ]
      refine tk 6 (v := ?_) rfl hHeld ?_ ?_; rotate_left
      ·(intro w hSw; obtain ⟨l0, l1, l2, l3⟩ := LD5.out w hSw; go_simp; try (with_reducible rfl))
      try simp only [gZ]
      refine tk 7 (v := ?_) rfl hHeld ?_ ?_; rotate_left
      ·(intro w hSw; obtain ⟨l0, l1, l2, l3⟩ := LD5.out w hSw; go_simp; try (with_reducible rfl))
      try simp only [gZ]
      refine tk 8 (v := ?_) rfl hHeld ?_ ?_; rotate_left
      ·(intro w hSw; obtain ⟨l0, l1, l2, l3⟩ := LD5.out w hSw; go_simp; try (with_reducible rfl))
      try simp only [gZ]
      refine tk 9 (v := ?_) rfl hHeld ?_ ?_; rotate_left
      ·(intro w hSw; obtain ⟨l0, l1, l2, l3⟩ := LD5.out w hSw; go_simp; try (with_reducible rfl))
      try simp only [gZ]
      refine tk 10 (v := ?_) rfl hHeld ?_ ?_; rotate_left
      ·(intro w hSw; obtain ⟨l0, l1, l2, l3⟩ := LD5.out w hSw; go_simp; try (with_reducible rfl))
      try simp only [gZ]
      refine wpAnyH_one (i := 11) rfl (by kernel_rfl) (by rfl) ?_
      go_simp
      refine (lenders_any fm r (M4.out.up (Below.refl w4.heap.size w4).drew).blk (M4.out.up (Below.refl w4.heap.size w4).drew).row M4.out.ids.2.1).mono ?_
      rintro e W6 ⟨la, lc, rfl, hL6, hb6⟩
      have L6 := Lib.hid hL6
      have B6 : Hid (Below w4.heap.size w4 W6) := Lib.hid ((Below.refl w4.heap.size w4).drew.trans hb6)
      have hHeld := UU5.out _ B6.out
      clear hL6 hb6
      refine ⟨hHeld, ?_⟩
      refine tk 12 (v := ?_) rfl hHeld ?_ ?_; rotate_left
      ·(intro w hSw; clear hSw; go_simp; try (with_reducible rfl))
      try simp only [gZ]
      refine wpAnyH_one (i := 13) rfl (by kernel_rfl) (by rfl) ?_
      go_simp
      obtain ⟨k5, hk5⟩ : ∃ k5, k5 = W6.heap.size := ⟨_, rfl⟩
      have B7 : Hid (Below w4.heap.size w4 (W6.alloc (.cells #[i64 v, .slice la (rotOf s.rota fm r).length lc, .bool false] 113))) := Lib.hid (B6.out.alloc B6.out.size _)
      have G7 : Hid (Blk (W6.alloc (.cells #[i64 v, .slice la (rotOf s.rota fm r).length lc, .bool false] 113)) k5 #[i64 v, .slice la (rotOf s.rota fm r).length lc, .bool false] 113) := Lib.hid (by rw [hk5]; exact Blk.new _ _ _)
      have hkz : w4.heap.size ≤ k5 := by rw [hk5]; exact B6.out.size
      have L7 : Hid (LeftAt (W6.alloc (.cells #[i64 v, .slice la (rotOf s.rota fm r).length lc, .bool false] 113)) (fun x => w4.heap.size ≤ x ∧ x ≠ k5) la lc (rotOf s.rota fm r)) := Lib.hid
       (L6.out.keep (F := fun _ => False) (Tn.of_below ((Below.refl _ _).alloc (Nat.le_refl _) _)) (fun _ _ => id) fun j hj hjl => ⟨by simpa using hj, by omega⟩)
      rw [← hk5]
      clear hk5
      have hHeld := UU5.out _ B7.out
      refine ⟨hHeld, ?_⟩
      exact wpAnyH_done (by kernel_rfl) ⟨rfl, hR _ _ _ _ ⟨L7.out, hkz, G7.out, B7.out⟩⟩ _
     case rest =>
      rintro la lc k5 W ⟨hL, hkz, hB5, hb⟩
      have M5 := M4.out.up hb
      have hzz : w.heap.size ≤ w4.heap.size := T4.out.size
      have hBB : B ≤ w4.heap.size := Nat.le_trans HB.out hzz
      have h0 : ∀ x, w4.heap.size ≤ x → o4 x = 0 := fun x hx => by
       rcases Nat.eq_zero_or_pos (o4 x) with h | h
       ·exact h
       ·have := (M4.out.olt x (by omega)).2; omega
      obtain ⟨w6, o6, hr6, hM6, hT6, hO6⟩ := M5.put (c := ⟨fm, r, v, rotOf s.rota fm r, false⟩) (B0 := w.heap.size) HCS.out hB5 rfl ⟨hL.1, hL.2.imp id fun ⟨gg, oo, e1, e2, e3⟩ => ⟨gg, oo, e1, ⟨h0 gg e2.1, e2.2, by have := e2.1; omega, by have := e2.1; omega⟩, e3⟩⟩ (h0 k5 hkz) ⟨by omega, by omega⟩ ⟨HI4.2.1, HI4.2.2.1, HI4.2.2.2, fun x hx => M4.out.ids.2.2.1 x (rot_mem hx), Nat.le_trans (rot_len _ _ _) M4.out.ids.2.1⟩ (by omega)
      have g2 : w6.cell? ⟨g, 2, none⟩ = some (i64 fm) := hT6.cell (Below.cellE hb (G4.out.cell 2)) hgm
      have g3 : w6.cell? ⟨g, 3, none⟩ = some (i64 r) := hT6.cell (Below.cellE hb (G4.out.cell 3)) hgm
      have M6 := Lib.hid hM6
      have T6 : Hid (Tn (fun k => o k ≠ 0) w w6) := Lib.hid ((T4.out.trans (Tn.of_below hb)).then_ hT6 fun x hx => by
       rw [show x = mb from hx]; exact O4.out mb HMB.out)
      have O6 : Hid (∀ k, o6 k ≠ 0 → o k ≠ 0 ∨ w.heap.size ≤ k) := Lib.hid fun k hk => (hO6 k hk).elim (O4.out k) .inr
      have HX6 : Hid (gcs (insG ⟨⟨fm, r, v, rotOf s.rota fm r, false⟩, k5, la, lc⟩ G) fm r = some ⟨⟨fm, r, v, rotOf s.rota fm r, false⟩, k5, la, lc⟩) := Lib.hid (by
       rw [gcs_ins (x := ⟨⟨fm, r, v, rotOf s.rota fm r, false⟩, k5, la, lc⟩) HQ.out, if_pos ⟨rfl, rfl⟩])
      clear hL hB5 hb M5 hzz hBB h0 hM6 hT6 hO6 UU5 LD5 hHeld hkz
      simp only [endN, List.drop_succ_cons, List.drop_zero, Act.put, List.setIfInBounds_toArray, List.set_cons_zero, List.set_cons_succ]
      go_wp2_with fail
      refine (bTell_any B b (N + 1) { s with L := insC ⟨fm, r, v, rotOf s.rota fm r, false⟩ s.L } rv (.map (some mb)) _ o6 ⟨⟨fm, r, v, rotOf s.rota fm r, false⟩, k5, la, lc⟩ fm r w6 M6.out HX6.out (by have := H.out.sent.2; show s.sent < 1000 * ((N + 1 : Nat) : Int); omega)).mono ?_
      rintro e w7 ⟨v7, rfl, hm7, hM7, hT7⟩
      have F : Hid (BTakeE B b N s rv (.map mvo0) G o m w (.returned v7) w7) := Lib.hid (by
       refine ⟨v7, .map (some mb), insG ⟨⟨fm, r, v, rotOf s.rota fm r, false⟩, k5, la, lc⟩ G, o6, rfl, ?_, ?_, T6.out.then_ hT7 fun k hk => ?_, O6.out⟩
       ·rw [HT.out]; exact hm7.mono T6.out.size
       ·rw [HT.out]; exact hM7
       ·rw [show k = b from hk]; exact .inl (by rw [H.out.ob]; decide))
      clear hm7 hM7 hT7
      go_wp2_with fail
      go_ret
      exact F.out
   ·have F := Lib.hid (FN.out (by rw [HT0.out, HCS.out]; exact if_neg hw))
    by_cases h1 : k = 1
    ·have hfa : ¬ fm = a := fun e => hw ⟨h1, e⟩
     subst h1
     clear hw
     go_wp2_with fail
     go_quiet (fail)
     go_wp2_with fail
     go_quiet (fail)
     go_wp2_with fail
     go_ret
     exact F.out _ (bdrewN (bdrewN B3.out _) _)
    ·clear hw
     by_cases h3 : k = 3
     ·subst h3
      go_wp2_with fail
      go_quiet (fail)
      go_wp2_with fail
      go_quiet (fail)
      go_wp2_with fail
      go_ret
      exact F.out _ (bdrewN (bdrewN B3.out _) _)
     ·by_cases h4 : k = 4
      ·subst h4
       go_wp2_with fail
       go_quiet (fail)
       go_wp2_with fail
       go_quiet (fail)
       go_wp2_with fail
       go_ret
       exact F.out _ (bdrewN (bdrewN B3.out _) _)
      ·have e1 : (k == 1) = false := by simpa using h1
       have e3 : (k == 3) = false := by simpa using h3
       have e4 : (k == 4) = false := by simpa using h4
       clear h1 h3 h4
       go_wp2_with fail
       go_quiet (fail)
       go_wp2_with fail
       go_quiet (fail)
       go_wp2_with fail
       go_ret
       exact F.out _ (bdrewN (bdrewN B3.out _) _)
  | some x =>
   have hpk : pk = .pointer (some ⟨x.k, 0, none⟩) := by rw [HPK.out, hq]; rfl
   subst hpk
   have hcs : cs s.L a r = some x.c := by rw [H.out.gcs_eq, hq]; rfl
   obtain ⟨hxG, hxa, hxr⟩ := gcs_some hq
   obtain ⟨⟨ca, cr, ct, left, gr⟩, xk, la, lc'⟩ := x
   dsimp only at hxa hxr hcs
   subst hxa hxr
   have HCS := Lib.hid hcs
   have HQ := Lib.hid hq
   obtain ⟨d1, d2, d3⟩ := M3.out.cases_ _ hxG
   dsimp only at d1 d2 d3
   have x1 : w3.cell? ⟨xk, 1, none⟩ = some (.slice la left.length lc') := d1.cell 1
   have x2 : w3.cell? ⟨xk, 2, none⟩ = some (.bool gr) := d1.cell 2
   have DF := Lib.hid (d1.frozen 2)
   have DF1 := Lib.hid (d1.frozen 1)
   obtain ⟨⟨l1, l2⟩, l3⟩ := d3
   have X3 := Lib.hid l3
   have d2' := d2
   clear hcs hq hxG d1 d2 l3
   have CI : Hid (I64 ct ∧ (∀ y ∈ left, I64 y) ∧ left.length ≤ 1000) := Lib.hid (H.out.ids.2.2.2 _ (by rw [H.out.gs]; exact List.mem_map.2 ⟨_, (gcs_some HQ.out).1, rfl⟩)).2.2
   have g3 : w3.cell? ⟨g, 3, none⟩ = some (i64 cr) := G3.out.cell 3
   have hxk : xk < w.heap.size := (H.out.olt xk (by rw [d2']; decide)).2
   have hgk : w.heap.size ≤ g := Nat.le_trans hz1 hgz
   have hgx : ¬ g = xk := by omega
   have hgx' : ¬ xk = g := by omega
   by_cases hop : gr = false ∧ left ≠ []
   ·obtain ⟨rfl, hne⟩ := hop
    obtain ⟨y, rest, rfl⟩ := List.exists_cons_of_ne_nil hne
    obtain ⟨h, o1, rfl, hP, hcl⟩ := X3.out.resolve_left (by simp)
    have hy0 : w3.cell? ⟨h, o1, none⟩ = some (i64 y) := hcl 0 y rfl
    have hln : (y :: rest).length = rest.length + 1 := rfl
    rw [hln] at x1 l1
    have HCL := Lib.hid hcl
    have HPP := Lib.hid hP
    clear hcl hne hP hln
    by_cases h1 : k = 1
    ·subst h1
     by_cases hfa : fm = ca
     ·subst hfa
      have F := Lib.hid (FN.out (by rw [HT0.out, HCS.out]; simp [Cs.opn]))
      go_wp2_with fail
      go_quiet (fail)
      go_wp2_with fail
      go_quiet (fail)
      go_wp2_with fail
      go_ret
      exact F.out _ (bdrewN (bdrewN B3.out _) _)
     ·have F := Lib.hid (FN.out (by rw [HT0.out, HCS.out]; simp [hfa]))
      have hfb : (fm == ca) = false := by simpa using hfa
      clear hfa
      go_wp2_with fail
      go_quiet (fail)
      go_wp2_with fail
      go_quiet (fail)
      go_wp2_with fail
      go_ret
      exact F.out _ (bdrewN (bdrewN B3.out _) _)
    ·have e1 : (k == 1) = false := by simpa using h1
     by_cases h3 : k = 3
     ·subst h3
      clear h1
      by_cases hfy : fm = y
      ·subst hfy
       have HT : Hid (s.take m = ({ s with L := setC ⟨ca, cr, ct, fm :: rest, true⟩ s.L } : Brk).tell ⟨ca, cr, ct, fm :: rest, true⟩) := Lib.hid (by rw [HT0.out, HCS.out]; simp [Cs.opn])
       have fz := DF.out
       go_wp2_with fail
       go_quiet (fail)
       go_wp2_with fail
       obtain ⟨w5, hw5⟩ : ∃ w5, w5 = (w3.drewN nq).setCell ⟨xk, 2, none⟩ (.bool true) := ⟨_, rfl⟩
       obtain ⟨M5, T5⟩ := (M3.out.up (bdrewN (Below.refl _ _) nq)).change (x' := ⟨⟨ca, cr, ct, fm :: rest, true⟩, xk, some ⟨h, o1, none⟩, lc'⟩) (i := 2) (v := .bool true) HQ.out ⟨rfl, rfl⟩ rfl rfl ⟨⟨l1, l2⟩, .inr ⟨h, o1, rfl, HPP.out, HCL.out⟩⟩ (CI.out)
       have M5 : Hid (BMem w5 B b { s with L := setC ⟨ca, cr, ct, (List.cons fm rest), true⟩ s.L } rv (.map mvo) (setG ⟨⟨ca, cr, ct, (List.cons fm rest), true⟩, xk, (some ⟨h, o1, none⟩), lc'⟩ G) o (N + 1)) := Lib.hid (by rw [hw5]; exact M5.mono (Nat.le_succ _) (by omega))
       have T5 : Hid (Tn (fun k => o k ≠ 0) w w5) := Lib.hid (by
        rw [hw5]
        exact (Tn.of_below (bdrewN B3.out nq)).trans (T5.mono fun k hk => by rw [show k = xk from hk, d2']; decide))
       have HX5 : Hid (gcs (setG ⟨⟨ca, cr, ct, (List.cons fm rest), true⟩, xk, (some ⟨h, o1, none⟩), lc'⟩ G) ca cr = some ⟨⟨ca, cr, ct, (List.cons fm rest), true⟩, xk, (some ⟨h, o1, none⟩), lc'⟩) := Lib.hid (by
        rw [gcs_set, HQ.out]; simp [csHit])
       rw [← hw5]
       clear hw5 fz
       refine (bTell_any B b (N + 1) { s with L := setC ⟨ca, cr, ct, (List.cons fm rest), true⟩ s.L } rv (.map mvo) _ o ⟨⟨ca, cr, ct, (List.cons fm rest), true⟩, xk, (some ⟨h, o1, none⟩), lc'⟩ ca cr w5 M5.out HX5.out (by have := H.out.sent.2; show s.sent < 1000 * ((N + 1 : Nat) : Int); omega)).mono ?_
       rintro e w6 ⟨v6, rfl, hm6, hM6, hT6⟩
       have F : Hid (BTakeE B b N s rv (.map mvo) G o m w (.returned v6) w6) := Lib.hid (by
        refine ⟨v6, .map mvo, setG ⟨⟨ca, cr, ct, (List.cons fm rest), true⟩, xk, (some ⟨h, o1, none⟩), lc'⟩ G, o, rfl, ?_, ?_, T5.out.trans (hT6.mono fun k hk => by rw [show k = b from hk, H.out.ob]; decide), fun k hk => .inl hk⟩
        ·rw [HT.out]; exact hm6.mono T5.out.size
        ·rw [HT.out]; exact hM6)
       clear hm6 hM6 hT6
       go_wp2_with fail
       go_ret
       exact F.out
      ·have F := Lib.hid (FN.out (by rw [HT0.out, HCS.out]; simp [Ne.symm hfy]))
       have hfb : (fm == y) = false := by simpa using hfy
       clear hfy
       go_wp2_with fail
       go_quiet (fail)
       go_wp2_with fail
       go_quiet (fail)
       go_wp2_with fail
       go_ret
       exact F.out _ (bdrewN (bdrewN B3.out _) _)
     ·by_cases h4 : k = 4
      ·subst h4
       clear h1 h3
       by_cases hfy : fm = y
       ·subst hfy
        have HT : Hid (s.take m = ({ s with L := setC ⟨ca, cr, ct, rest, false⟩ s.L } : Brk).tell ⟨ca, cr, ct, rest, false⟩) := Lib.hid (by rw [HT0.out, HCS.out]; simp [Cs.opn])
        have fz := DF1.out
        by_cases hlc : lc' = 1
        ·subst hlc
         have hr0 : rest = [] := List.eq_nil_of_length_eq_zero (by omega)
         subst hr0
         go_wp2_with fail
         go_quiet (fail)
         go_wp2_with fail
         obtain ⟨n1, hn1⟩ : ∃ n1, n1 = nq := ⟨_, rfl⟩
         rw [← hn1]
         clear hn1
         go_quiet (fail)
         go_wp2_with fail
         obtain ⟨n2, hn2⟩ : ∃ n2, n2 = n1 + nq := ⟨_, rfl⟩
         rw [← hn2]
         clear hn2
         obtain ⟨w5, hw5⟩ : ∃ w5, w5 = (w3.drewN n2).setCell ⟨xk, 1, none⟩ (.slice (some ⟨h, o1, none⟩) 0 0) := ⟨_, rfl⟩
         obtain ⟨M5, T5⟩ := (M3.out.up (bdrewN (Below.refl _ _) n2)).change (x' := ⟨⟨ca, cr, ct, [], false⟩, xk, some ⟨h, o1, none⟩, 0⟩) (i := 1) (v := .slice (some ⟨h, o1, none⟩) 0 0) HQ.out ⟨rfl, rfl⟩ rfl rfl ⟨⟨Nat.le_refl _, by dsimp only; omega⟩, .inl rfl⟩ ⟨CI.out.1, by simp, by simp⟩
         have M5 : Hid (BMem w5 B b { s with L := setC ⟨ca, cr, ct, [], false⟩ s.L } rv (.map mvo) (setG ⟨⟨ca, cr, ct, [], false⟩, xk, (some ⟨h, o1, none⟩), 0⟩ G) o (N + 1)) := Lib.hid (by rw [hw5]; exact M5.mono (Nat.le_succ _) (by omega))
         have T5 : Hid (Tn (fun k => o k ≠ 0) w w5) := Lib.hid (by
          rw [hw5]
          exact (Tn.of_below (bdrewN B3.out n2)).trans (T5.mono fun k hk => by rw [show k = xk from hk, d2']; decide))
         have HX5 : Hid (gcs (setG ⟨⟨ca, cr, ct, [], false⟩, xk, (some ⟨h, o1, none⟩), 0⟩ G) ca cr = some ⟨⟨ca, cr, ct, [], false⟩, xk, (some ⟨h, o1, none⟩), 0⟩) := Lib.hid (by
          rw [gcs_set, HQ.out]; simp [csHit])
         rw [← hw5]
         clear hw5 fz
         refine (bTell_any B b (N + 1) { s with L := setC ⟨ca, cr, ct, [], false⟩ s.L } rv (.map mvo) _ o ⟨⟨ca, cr, ct, [], false⟩, xk, (some ⟨h, o1, none⟩), 0⟩ ca cr w5 M5.out HX5.out (by have := H.out.sent.2; show s.sent < 1000 * ((N + 1 : Nat) : Int); omega)).mono ?_
         rintro e w6 ⟨v6, rfl, hm6, hM6, hT6⟩
         have F : Hid (BTakeE B b N s rv (.map mvo) G o m w (.returned v6) w6) := Lib.hid (by
          refine ⟨v6, .map mvo, setG ⟨⟨ca, cr, ct, [], false⟩, xk, (some ⟨h, o1, none⟩), 0⟩ G, o, rfl, ?_, ?_, T5.out.trans (hT6.mono fun k hk => by rw [show k = b from hk, H.out.ob]; decide), fun k hk => .inl hk⟩
          ·rw [HT.out]; exact hm6.mono T5.out.size
          ·rw [HT.out]; exact hM6)
         clear hm6 hM6 hT6
         go_wp2_with fail
         go_ret
         exact F.out
        ·go_wp2_with fail
         go_quiet (fail)
         go_wp2_with fail
         obtain ⟨n1, hn1⟩ : ∃ n1, n1 = nq := ⟨_, rfl⟩
         rw [← hn1]
         clear hn1
         go_quiet (fail)
         go_wp2_with fail
         obtain ⟨n2, hn2⟩ : ∃ n2, n2 = n1 + nq := ⟨_, rfl⟩
         rw [← hn2]
         clear hn2
         obtain ⟨w5, hw5⟩ : ∃ w5, w5 = (w3.drewN n2).setCell ⟨xk, 1, none⟩ (.slice (some ⟨h, o1 + 1, none⟩) rest.length (lc' - 1)) := ⟨_, rfl⟩
         obtain ⟨M5, T5⟩ := (M3.out.up (bdrewN (Below.refl _ _) n2)).change (x' := ⟨⟨ca, cr, ct, rest, false⟩, xk, some ⟨h, o1 + 1, none⟩, lc' - 1⟩) (i := 1) (v := .slice (some ⟨h, o1 + 1, none⟩) rest.length (lc' - 1)) HQ.out ⟨rfl, rfl⟩ rfl rfl ⟨⟨by dsimp only; omega, by dsimp only; omega⟩, .inr ⟨h, o1 + 1, rfl, HPP.out, fun j u hu => by
          have := HCL.out (j + 1) u (by simpa using hu)
          rw [show o1 + 1 + j = o1 + (j + 1) by omega]; exact this⟩⟩ ⟨CI.out.1, fun z hz => CI.out.2.1 z (by simp [hz]), by have := CI.out.2.2; rw [List.length_cons] at this; dsimp only; omega⟩
         have M5 : Hid (BMem w5 B b { s with L := setC ⟨ca, cr, ct, rest, false⟩ s.L } rv (.map mvo) (setG ⟨⟨ca, cr, ct, rest, false⟩, xk, (some ⟨h, o1 + 1, none⟩), (lc' - 1)⟩ G) o (N + 1)) := Lib.hid (by rw [hw5]; exact M5.mono (Nat.le_succ _) (by omega))
         have T5 : Hid (Tn (fun k => o k ≠ 0) w w5) := Lib.hid (by
          rw [hw5]
          exact (Tn.of_below (bdrewN B3.out n2)).trans (T5.mono fun k hk => by rw [show k = xk from hk, d2']; decide))
         have HX5 : Hid (gcs (setG ⟨⟨ca, cr, ct, rest, false⟩, xk, (some ⟨h, o1 + 1, none⟩), (lc' - 1)⟩ G) ca cr = some ⟨⟨ca, cr, ct, rest, false⟩, xk, (some ⟨h, o1 + 1, none⟩), (lc' - 1)⟩) := Lib.hid (by
          rw [gcs_set, HQ.out]; simp [csHit])
         rw [← hw5]
         clear hw5 fz
         refine (bTell_any B b (N + 1) { s with L := setC ⟨ca, cr, ct, rest, false⟩ s.L } rv (.map mvo) _ o ⟨⟨ca, cr, ct, rest, false⟩, xk, (some ⟨h, o1 + 1, none⟩), (lc' - 1)⟩ ca cr w5 M5.out HX5.out (by have := H.out.sent.2; show s.sent < 1000 * ((N + 1 : Nat) : Int); omega)).mono ?_
         rintro e w6 ⟨v6, rfl, hm6, hM6, hT6⟩
         have F : Hid (BTakeE B b N s rv (.map mvo) G o m w (.returned v6) w6) := Lib.hid (by
          refine ⟨v6, .map mvo, setG ⟨⟨ca, cr, ct, rest, false⟩, xk, (some ⟨h, o1 + 1, none⟩), (lc' - 1)⟩ G, o, rfl, ?_, ?_, T5.out.trans (hT6.mono fun k hk => by rw [show k = b from hk, H.out.ob]; decide), fun k hk => .inl hk⟩
          ·rw [HT.out]; exact hm6.mono T5.out.size
          ·rw [HT.out]; exact hM6)
         clear hm6 hM6 hT6
         go_wp2_with fail
         go_ret
         exact F.out
       ·have F := Lib.hid (FN.out (by rw [HT0.out, HCS.out]; simp [Ne.symm hfy]))
        have hfb : (fm == y) = false := by simpa using hfy
        clear hfy
        go_wp2_with fail
        go_quiet (fail)
        go_wp2_with fail
        go_quiet (fail)
        go_wp2_with fail
        go_ret
        exact F.out _ (bdrewN (bdrewN B3.out _) _)
      ·have F := Lib.hid (FN.out (by rw [HT0.out, HCS.out]; simp [h1, h3, h4]))
       have e3 : (k == 3) = false := by simpa using h3
       have e4 : (k == 4) = false := by simpa using h4
       clear h1 h3 h4
       go_wp2_with fail
       go_quiet (fail)
       go_wp2_with fail
       go_quiet (fail)
       go_wp2_with fail
       go_ret
       exact F.out _ (bdrewN (bdrewN B3.out _) _)
   ·have hopn : Cs.opn ⟨ca, cr, ct, left, gr⟩ = false := by
     unfold Cs.opn
     cases gr with
     | true => rfl
     | false => cases left with
      | nil => rfl
      | cons y rest => exact absurd ⟨rfl, by simp⟩ hop
    have HOP := Lib.hid hopn
    by_cases hw : k = 1 ∧ fm = ca
    ·obtain ⟨rfl, rfl⟩ := hw
     have HT : Hid (s.take m = s.tell ⟨fm, cr, ct, left, gr⟩) := Lib.hid (by rw [HT0.out, HCS.out]; simp [HOP.out])
     have BT := Lib.hid (fun (W : World) (hW : Below w3.heap.size w3 W) => bTell_any B b (N + 1) s rv (.map mvo) G o ⟨⟨fm, cr, ct, left, gr⟩, xk, la, lc'⟩ fm cr W ((M3.out.up hW).mono (Nat.le_succ _) (by omega)) HQ.out (by have := H.out.sent.2; show s.sent < 1000 * ((N + 1 : Nat) : Int); omega))
     clear hopn
     cases gr with
     | true =>
      go_wp2_with fail
      refine (BT.out _ (Below.refl _ _)).mono ?_
      rintro e w6 ⟨v6, rfl, hm6, hM6, hT6⟩
      have F : Hid (BTakeE B b N s rv (.map mvo) G o m w (.returned v6) w6) := Lib.hid (by
       refine ⟨v6, .map mvo, G, o, rfl, ?_, ?_, (Tn.of_below B3.out).trans (hT6.mono fun k hk => by rw [show k = b from hk, H.out.ob]; decide), fun k hk => .inl hk⟩
       ·rw [HT.out]; exact hm6.mono B3.out.size
       ·rw [HT.out]; exact hM6)
      clear hm6 hM6 hT6
      go_wp2_with fail
      go_ret
      exact F.out
     | false =>
      obtain rfl : left = [] := by
       cases left with
       | nil => rfl
       | cons y rest => exact absurd ⟨rfl, by simp⟩ hop
      clear hop
      go_wp2_with fail
      refine (BT.out _ (Below.refl _ _)).mono ?_
      rintro e w6 ⟨v6, rfl, hm6, hM6, hT6⟩
      have F : Hid (BTakeE B b N s rv (.map mvo) G o m w (.returned v6) w6) := Lib.hid (by
       refine ⟨v6, .map mvo, G, o, rfl, ?_, ?_, (Tn.of_below B3.out).trans (hT6.mono fun k hk => by rw [show k = b from hk, H.out.ob]; decide), fun k hk => .inl hk⟩
       ·rw [HT.out]; exact hm6.mono B3.out.size
       ·rw [HT.out]; exact hM6)
      clear hm6 hM6 hT6
      go_wp2_with fail
      go_ret
      exact F.out
    ·have F := Lib.hid (FN.out (by rw [HT0.out, HCS.out]; simp [HOP.out, hw]))
     clear hopn
     cases gr with
     | true =>
      by_cases h1 : k = 1
      ·subst h1
       have hfb : (fm == ca) = false := by
        have : ¬ fm = ca := fun e => hw ⟨rfl, e⟩
        simpa using this
       clear hw
       go_wp2_with fail
       go_quiet (fail)
       go_wp2_with fail
       go_quiet (fail)
       go_wp2_with fail
       go_ret
       exact F.out _ (bdrewN (bdrewN B3.out _) _)
      ·clear hw
       have e1 : (k == 1) = false := by simpa using h1
       by_cases h3 : k = 3
       ·subst h3
        clear h1
        go_wp2_with fail
        go_quiet (fail)
        go_wp2_with fail
        go_quiet (fail)
        go_wp2_with fail
        go_ret
        exact F.out _ (bdrewN (bdrewN B3.out _) _)
       ·have e3 : (k == 3) = false := by simpa using h3
        by_cases h4 : k = 4
        ·subst h4
         clear h1 h3
         go_wp2_with fail
         go_quiet (fail)
         go_wp2_with fail
         go_quiet (fail)
         go_wp2_with fail
         go_ret
         exact F.out _ (bdrewN (bdrewN B3.out _) _)
        ·have e4 : (k == 4) = false := by simpa using h4
         clear h1 h3 h4
         go_wp2_with fail
         go_quiet (fail)
         go_wp2_with fail
         go_quiet (fail)
         go_wp2_with fail
         go_ret
         exact F.out _ (bdrewN (bdrewN B3.out _) _)
     | false =>
      obtain rfl : left = [] := by
       cases left with
       | nil => rfl
       | cons y rest => exact absurd ⟨rfl, by simp⟩ hop
      clear hop
      by_cases h1 : k = 1
      ·subst h1
       have hfb : (fm == ca) = false := by
        have : ¬ fm = ca := fun e => hw ⟨rfl, e⟩
        simpa using this
       clear hw
       go_wp2_with fail
       go_quiet (fail)
       go_wp2_with fail
       go_quiet (fail)
       go_wp2_with fail
       go_ret
       exact F.out _ (bdrewN (bdrewN B3.out _) _)
      ·clear hw
       have e1 : (k == 1) = false := by simpa using h1
       by_cases h3 : k = 3
       ·subst h3
        clear h1
        go_wp2_with fail
        go_quiet (fail)
        go_wp2_with fail
        go_quiet (fail)
        go_wp2_with fail
        go_ret
        exact F.out _ (bdrewN (bdrewN B3.out _) _)
       ·have e3 : (k == 3) = false := by simpa using h3
        by_cases h4 : k = 4
        ·subst h4
         clear h1 h3
         go_wp2_with fail
         go_quiet (fail)
         go_wp2_with fail
         go_quiet (fail)
         go_wp2_with fail
         go_ret
         exact F.out _ (bdrewN (bdrewN B3.out _) _)
        ·have e4 : (k == 4) = false := by simpa using h4
         clear h1 h3 h4
         go_wp2_with fail
         go_quiet (fail)
         go_wp2_with fail
         go_quiet (fail)
         go_wp2_with fail
         go_ret
         exact F.out _ (bdrewN (bdrewN B3.out _) _)
end Go.Proofs.YtdojgbpaheadnaaGreat
