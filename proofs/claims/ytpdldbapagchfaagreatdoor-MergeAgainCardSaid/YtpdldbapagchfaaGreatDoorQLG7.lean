/- The law Again. -/
import Derived.Test.YtpdldbapagchfaaGreatDoorQ28
import Derived.Test.YtpdldbapagchfaaGreatDoorQ08
import Derived.Test.YtpdldbapagchfaaGreatDoorQ18
import Derived.Test.YtpdldbapagchfaaGreatDoorQ13
set_option linter.unusedVariables false
set_option linter.unusedSimpArgs false

namespace Go.Proofs.YtpdldbapagchfaaGreatDoor
open Go.RowKit Go.Shelf Go.Maps
attribute [local go_sem] over_cell over_frozen
theorem latest_one (x : Ver) : latest [x] = [x] := by
  have h : Cnt [x] 0 := ⟨by simp, fun j hj _ => by
    obtain rfl : j = 0 := by simpa using hj
    unfold Beats; simp⟩
  unfold latest
  simp only [List.length_singleton, latTo]
  rw [if_pos h]; rfl
/-- The merged record as a version. -/
def againV (G : Mrg) : Ver := { r := (9, 9), num := -4, kind := G.kind, level := G.level, fs := G.fs }
theorem again_l {L : List Ver} {G : Mrg} (hG : G.l = mergeP (foldS tabC) polP (tagsP ltT (saidOf L)) L) : (mrgV [againV G]).l = G.l.map fun x => (x.1, (9, 9)) := by
  have h := merge_again ltT_ord (foldS tabC) polP (saidOf L) (9, 9) G.l hG
  have e : saidOf [againV G] = by_ (9, 9) G.l := by
    simp only [saidOf, List.flatMap_cons, List.flatMap_nil, List.append_nil, againV, Mrg.fs, by_, List.map_map]; rfl
  show mergeP (foldS tabC) polP (tagsP ltT (saidOf [againV G])) [againV G] = _
  unfold mergeP
  rw [e]; exact h
set_option maxRecDepth 100000 in
set_option maxHeartbeats 4000000 in
theorem againLaw (S : Nat → Prop) {w : World} {v : Value} {l : List SaidI} (h : SlOf 4 S (SaidR S) w v l) (hl : SOk l) :
    Calls Tryz.prog 9 #[v] w fun e w' => e = .returned (.bool true) ∧ Below w.heap.size w w' := by
  have HS := Lib.hid h
  have HL := Lib.hid (versP_lok hl)
  obtain ⟨a, cap, rfl, -⟩ := h
  obtain ⟨n, hn⟩ : ∃ n, n = l.length := ⟨_, rfl⟩
  rw [← hn] at HS ⊢
  clear hl hn
  have hmk := run_makeMap (P := Tryz.prog) 51
  go_enter Tryz.func9, Tryz.ntmps9
  go_wp2_with fail
  refine (sanity_any w).mono ?_
  rintro e w1 ⟨rfl, hb⟩
  have B1 := Lib.hid hb
  have HV := Lib.hid (versions_any S (h := HS.out.keep (by omega) (Stay.of_below hb) (fun _ _ h => h.keep (Stay.of_below hb) (fun _ h _ => h)) (fun _ h _ => h)))
  clear hb
  go_wp2_with fail
  refine HV.out.mono ?_
  rintro e w2 ⟨v2, rfl, hO, hb⟩
  have HO := Lib.hid hO
  obtain ⟨va, vc, rfl⟩ := hO.expl
  obtain ⟨m, hm⟩ : ∃ m, m = (versP l).length := ⟨_, rfl⟩
  rw [← hm] at HO ⊢
  have B2 : RowKit.Hid (Below w.heap.size w w2) := Lib.hid (B1.out.trans (hb.mono B1.out.size))
  have HV2 := Lib.hid (HO.out.slB (by omega))
  clear hO hb hm HV
  go_wp2_with fail
  refine (merge_any HV2.out HL.out HL.out.latest).mono ?_
  rintro e w3 ⟨cs, rfl, hM, hb⟩
  obtain ⟨G, hG⟩ : ∃ G, G = mrgV (latest (versP l)) := ⟨_, rfl⟩
  have OG : RowKit.Hid (FsOk G.fs) := Lib.hid (by rw [hG]; exact mrgV_ok HL.out.latest (few_latest (versP_len l) (versP_few l)))
  rw [← hG] at hM
  have HG := Lib.hid hG
  have B3 : RowKit.Hid (Below w.heap.size w w3) := Lib.hid (B2.out.trans (hb.mono B2.out.size))
  have HV3 := Lib.hid (VersAt.keep HV2.out (Stay.of_below hb) (fun _ h _ => h))
  clear hb hG
  obtain ⟨fv, rv, rfl, hF, hR⟩ := hM
  have HF := Lib.hid hF
  have HR := Lib.hid hR
  obtain ⟨fa, fc, rfl, -⟩ := hF
  obtain ⟨ra, rc, rfl, -⟩ := hR
  obtain ⟨p, hp⟩ : ∃ p, p = G.l.length := ⟨_, rfl⟩
  have e1 : G.fs.length = p := by rw [hp]; exact List.length_map ..
  have e2 : G.rs.length = p := by rw [hp]; exact List.length_map ..
  rw [e1] at HF ⊢
  rw [e2] at HR ⊢
  have NP := Lib.hid hp
  clear hp
  obtain ⟨b4, hb4⟩ : ∃ b4, b4 = w3.heap.size := ⟨_, rfl⟩
  have HB4 := Lib.hid hb4
  clear hb4
  go_wp2_with fail
  obtain ⟨W4, hW4⟩ : ∃ W4, W4 = ((w3.alloc (.cells #[.int .u8 G.kind, .int .u8 G.level, .slice fa p fc, .slice ra p rc] 32)).alloc (.cells #[.int .i64 9, .int .i64 9] 41)).alloc (.map #[] 0) := ⟨_, rfl⟩
  rw [← hW4, ← HB4.out]
  have B34 : RowKit.Hid (Below w3.heap.size w3 W4) := Lib.hid (by rw [hW4]; exact (((Below.refl _ _).alloc (Nat.le_refl _) _).alloc (by simp) _).alloc (by simp; omega) _)
  have K4 : RowKit.Hid (Blk W4 b4 #[.int .u8 G.kind, .int .u8 G.level, .slice fa p fc, .slice ra p rc] 32) := Lib.hid (by rw [hW4, HB4.out]; exact ((Blk.new _ _ _).alloc _).alloc _)
  have K5 : RowKit.Hid (Blk W4 (b4 + 1) #[.int .i64 9, .int .i64 9] 41) := Lib.hid (by rw [hW4, HB4.out]; exact (Blk.at_new (by simp) _ _).alloc _)
  have M4 : RowKit.Hid (MapF W4 Tryz.prog 9 RI (b4 + 1 + 1) 0 fun _ => none) := Lib.hid (by
    have h := MapF.new ((w3.alloc (.cells #[.int .u8 G.kind, .int .u8 G.level, .slice fa p fc, .slice ra p rc] 32)).alloc (.cells #[.int .i64 9, .int .i64 9] 41)) Tryz.prog 9 RI
    rw [hW4, HB4.out]
    have e : ((w3.alloc (.cells #[.int .u8 G.kind, .int .u8 G.level, .slice fa p fc, .slice ra p rc] 32)).alloc (.cells #[.int .i64 9, .int .i64 9] 41)).heap.size = w3.heap.size + 1 + 1 := by simp
    rw [e] at h
    exact h)
  clear hW4
  have HF4 : RowKit.Hid (FldsAt (fun b => b < b4) W4 (.slice fa p fc) G.fs) := Lib.hid (by
    rw [HB4.out]
    exact FldsAt.keep (S := fun b => b < w3.heap.size) (FldsAt.keep HF.out (fun _ _ _ => rfl) (fun _ _ h => h)) (Stay.of_below B34.out) (fun _ h _ => h))
  have MGL : RowKit.Hid (G.l = mergeP (foldS tabC) polP (tagsP ltT (saidOf (latest (versP l)))) (latest (versP l))) := Lib.hid (by rw [HG.out]; rfl)
  have KG : RowKit.Hid (∀ f ∈ G.fs, KOk f) := Lib.hid (fun f hf => by
    obtain ⟨y, hy, rfl⟩ := List.mem_map.1 hf
    rw [MGL.out] at hy
    obtain ⟨x, hx, h1, h2⟩ := mem_mergeP hy
    exact HL.out.latest.fld x hx _ h2)
  have B4 : RowKit.Hid (Below w.heap.size w W4) := Lib.hid (B3.out.trans (B34.out.mono B3.out.size))
  have p1 : p ≤ 1000 := by rw [← e1]; exact OG.out.1
  clear HF HR B34
  go_loopw [22] (fun i wr => ∃ (k nn : Nat) (f : Lit → Option (DataW Unit)), k ≤ p ∧ nn ≤ k ∧ i = .int .i64 k ∧ Tn (fun b => b = b4 + 1 + 1) W4 wr ∧ MapF wr Tryz.prog 9 RI (b4 + 1 + 1) nn f) (fun i _ => p - (intOf i).toNat)
  case atStart => exact ⟨0, 0, _, by omega, by omega, rfl, Tn.refl _ _, M4.out⟩
  case round =>
    obtain ⟨k, nn, mf, hk, hnn, rfl, ht, hm⟩ := hrel
    have HT := Lib.hid ht
    have HM := Lib.hid hm
    clear ht hm
    by_cases hlt : k < p
    · have hlx : k < G.fs.length := by rw [e1]; exact hlt
      obtain ⟨b, o, cp, cs, ea, _, _, hR, hl, hg, _⟩ := SlOf.range (by omega) (FldsAt.keep HF4.out (Stay.of_tn HT.out fun b h _ e => by have : b < b4 := h; omega) (fun _ h _ => h)) hlx
      have ea' : fa = some ⟨b, o, none⟩ := by injection ea
      clear ea
      subst ea'
      obtain ⟨f, hf⟩ : ∃ f, f = G.fs[k] := ⟨_, rfl⟩
      rw [← hf] at hR
      have HTZ : RowKit.Hid (f.tag.size ≤ 1000) := Lib.hid (by rw [hf]; exact (KG.out _ (List.getElem_mem _)).tag)
      obtain ⟨sa, sc, rfl, -⟩ := hR.expl
      obtain ⟨sn, hsn⟩ : ∃ sn, sn = f.subs.length := ⟨_, rfl⟩
      rw [← hsn] at hg
      clear hsn hf hR
      obtain ⟨g0, g1, g2, g3⟩ := range4 hg
      obtain ⟨W6, hW6⟩ : ∃ W6, W6 = wr.alloc (.cells #[.string f.tag, .string f.ind, .string f.data, .slice sa sn sc] 48) := ⟨_, rfl⟩
      have B6 : RowKit.Hid (Below wr.heap.size wr W6) := Lib.hid (by rw [hW6]; exact (Below.refl _ _).alloc (Nat.le_refl _) _)
      have M6 : MapF W6 Tryz.prog 9 RI (b4 + 1 + 1) nn mf := HM.out.keep (Tn.of_below (F := fun _ => False) B6.out) (fun h => h)
      obtain ⟨lv, ps, hlk, hlv⟩ := M6.look keyedT Tryz.underlying51 (zeroInt W6) (zd := .lit (.int .i64 0)) (zp := []) rfl (keyOfT HTZ.out)
      obtain ⟨c, rfl⟩ := RI_some hlv
      obtain ⟨c1, hc1⟩ : ∃ c1, IntKind.i64.wrap (c + 1) = c1 := ⟨_, rfl⟩
      obtain ⟨w7, hr7, hm7, hg7⟩ := M6.put keyedT Tryz.underlying51 (by unfold maxLen; omega) (keyOfT HTZ.out) (val := .int .i64 c1) (d := .lit (.int .i64 c1)) (ps := []) rfl
      have HM7 := Lib.hid hm7
      have T7 : RowKit.Hid (Tn (fun b => b = b4 + 1 + 1) wr w7) := Lib.hid ((Tn.of_below B6.out).trans ((Tn.of_grown hg7).mono fun b h => by injection h with h; exact h.symm))
      rw [hW6] at hlk hr7
      clear M6 hlv hm7 hg7 hW6 hg
      go_wp2_with fail
      exact ⟨⟨k + 1, nn + 1, _, hlt, by omega, by go_num, HT.out.trans T7.out, HM7.out⟩, by simp [intOf]; omega⟩
    · obtain rfl : k = p := by omega
      have K4r : RowKit.Hid (Blk wr b4 #[.int .u8 G.kind, .int .u8 G.level, .slice fa k fc, .slice ra k rc] 32) := Lib.hid (HT.out.blk K4.out (by show ¬ b4 = b4 + 1 + 1; omega))
      have K5r : RowKit.Hid (Blk wr (b4 + 1) #[.int .i64 9, .int .i64 9] 41) := Lib.hid (HT.out.blk K5.out (by show ¬ b4 + 1 = b4 + 1 + 1; omega))
      have HFr : RowKit.Hid (FldsAt (fun b => b < b4) wr (.slice fa k fc) G.fs) := Lib.hid (FldsAt.keep HF4.out (Stay.of_tn HT.out fun b h _ e => by have : b < b4 := h; omega) (fun _ h _ => h))
      have Br : RowKit.Hid (Below w.heap.size w wr) := Lib.hid (B4.out.trans (HT.out.below B4.out.size fun b e => by
        have h1 := B3.out.size
        have h2 := HB4.out
        omega))
      have x0 : wr.cell? ⟨b4, 0, none⟩ = some (.int .u8 G.kind) := K4r.out.cell 0
      have x1 : wr.cell? ⟨b4, 1, none⟩ = some (.int .u8 G.level) := K4r.out.cell 1
      have x2 : wr.cell? ⟨b4, 2, none⟩ = some (.slice fa k fc) := K4r.out.cell 2
      have z0 : wr.cell? ⟨b4 + 1, 0, none⟩ = some (.int .i64 9) := K5r.out.cell 0
      have z1 : wr.cell? ⟨b4 + 1, 1, none⟩ = some (.int .i64 9) := K5r.out.cell 1
      go_wp2_with fail
      obtain ⟨X, hX⟩ : ∃ X, X = againV G := ⟨_, rfl⟩
      obtain ⟨W8, hW8⟩ : ∃ W8, W8 = wr.alloc (.cells #[.int .i64 9, .int .i64 9, .int .i64 (-4), .int .u8 G.kind, .int .u8 G.level, .slice fa k fc] 43) := ⟨_, rfl⟩
      rw [← hW8]
      have B8 : RowKit.Hid (Below wr.heap.size wr W8) := Lib.hid (by rw [hW8]; exact (Below.refl _ _).alloc (Nat.le_refl _) _)
      have HF8 : RowKit.Hid (FldsAt (fun _ => True) W8 (.slice fa k fc) G.fs) := Lib.hid (FldsAt.keep HFr.out (Stay.of_below B8.out) (fun _ _ _ => trivial))
      have HX8 : RowKit.Hid (VersAt (fun _ => True) W8 (.slice (some ⟨wr.heap.size, 0, none⟩) 1 1) [X]) := Lib.hid (by
        have h1 : W8.ownsRow 0 43 6 (.slice (some ⟨wr.heap.size, 0, none⟩) 1 1) 1 [.int .i64 9, .int .i64 9, .int .i64 (-4), .int .u8 G.kind, .int .u8 G.level, .slice fa k fc] := by
          rw [hW8]; exact row_fresh wr 0 _ _ 6 1 rfl (by unfold maxLen; omega) (Nat.zero_le _)
        exact OwnOf.vers (B := 0) (S := fun _ => True) ⟨[[.int .i64 9, .int .i64 9, .int .i64 (-4), .int .u8 G.kind, .int .u8 G.level, .slice fa k fc]], h1, All2.one ⟨_, by rw [hX]; rfl, by rw [hX]; exact HF8.out⟩, by simp⟩)
      have LX : RowKit.Hid (LOk [X]) := Lib.hid (by
        refine ⟨⟨by simp, fun x hx => ?_⟩, fun x hx => ?_, by simp, fun x hx f hf => ?_⟩
        all_goals have hx' : x = againV G := by rw [← hX]; simpa using hx
        · rw [hx']; exact OG.out
        · rw [hx']; exact (show In64 ((9 : Int), (9 : Int)) from by unfold In64 I64; omega)
        · rw [hx'] at hf; exact KG.out f hf)
      have AG : RowKit.Hid ((mrgV [X]).l = G.l.map fun x => (x.1, (9, 9))) := Lib.hid (by rw [hX]; exact again_l MGL.out)
      have AK : RowKit.Hid ((mrgV [X]).kind = G.kind ∧ (mrgV [X]).level = G.level) := Lib.hid (by rw [hX]; exact ⟨rfl, rfl⟩)
      clear hW8 hX
      refine (merge_any HX8.out LX.out (by rw [latest_one]; exact LX.out)).mono ?_
      rintro e w9 ⟨cs, rfl, hM, hb⟩
      rw [latest_one] at hM
      obtain ⟨N, hN⟩ : ∃ N, N = mrgV [X] := ⟨_, rfl⟩
      rw [← hN] at hM AG AK
      have NF : RowKit.Hid (N.fs = G.fs) := Lib.hid (by unfold Mrg.fs; rw [AG.out, List.map_map]; rfl)
      have NR : RowKit.Hid (∀ y ∈ N.rs, y = (9, 9)) := Lib.hid (by
        unfold Mrg.rs; rw [AG.out, List.map_map]
        intro y hy
        obtain ⟨z, -, rfl⟩ := List.mem_map.1 hy
        rfl)
      have NL : RowKit.Hid (N.rs.length = k) := Lib.hid (by unfold Mrg.rs; rw [AG.out, List.map_map, List.length_map, NP.out])
      have B9 : RowKit.Hid (Below wr.heap.size wr w9) := Lib.hid (B8.out.trans (hb.mono B8.out.size))
      obtain ⟨fv, rv, rfl, hF9, hR9⟩ := hM
      rw [NF.out] at hF9
      rw [AK.out.1, AK.out.2]
      have HF9 := Lib.hid hF9
      have HR9 := Lib.hid hR9
      obtain ⟨fa9, fc9, rfl, -⟩ := hF9
      obtain ⟨ra9, rc9, rfl, -⟩ := hR9
      rw [e1] at HF9 ⊢
      rw [NL.out] at HR9 ⊢
      clear hb hN
      have x0 : w9.cell? ⟨b4, 0, none⟩ = some (.int .u8 G.kind) := Below.cellE B9.out (K4r.out.cell 0)
      have x1 : w9.cell? ⟨b4, 1, none⟩ = some (.int .u8 G.level) := Below.cellE B9.out (K4r.out.cell 1)
      have x2 : w9.cell? ⟨b4, 2, none⟩ = some (.slice fa k fc) := Below.cellE B9.out (K4r.out.cell 2)
      go_wp2_with fail
      obtain ⟨wo, rfl⟩ : ∃ wo, wo = wr := ⟨_, rfl⟩
      obtain ⟨Wa, hWa⟩ : ∃ Wa, Wa = w9.alloc (.cells #[.int .u8 G.kind, .int .u8 G.level, .slice fa9 k fc9, .slice ra9 k rc9] 32) := ⟨_, rfl⟩
      rw [← hWa]
      have Ba : RowKit.Hid (Below w9.heap.size w9 Wa) := Lib.hid (by rw [hWa]; exact (Below.refl _ _).alloc (Nat.le_refl _) _)
      have Ka : RowKit.Hid (Blk Wa w9.heap.size #[.int .u8 G.kind, .int .u8 G.level, .slice fa9 k fc9, .slice ra9 k rc9] 32) := Lib.hid (by rw [hWa]; exact Blk.new _ _ _)
      have HRa : RowKit.Hid (SlOf 2 (fun _ => True) RecR Wa (.slice ra9 k rc9) N.rs) := Lib.hid (SlOf.keep (by omega) HR9.out (Stay.of_below Ba.out) (fun _ _ h => h) (fun _ _ _ => trivial))
      have BWa : RowKit.Hid (Below wo.heap.size wo Wa) := Lib.hid (B9.out.trans (Ba.out.mono B9.out.size))
      clear hWa x0 x1 x2
      go_loopw [41] (fun i wt => ∃ j : Nat, j ≤ k ∧ i = .int .i64 j ∧ Below Wa.heap.size Wa wt) (fun i _ => k - (intOf i).toNat)
      case atStart => exact ⟨0, by omega, rfl, Below.refl _ _⟩
      case round =>
        obtain ⟨j, hj, rfl, hb⟩ := hrel
        have BT := Lib.hid hb
        have BWr : RowKit.Hid (Below wo.heap.size wo wr) := Lib.hid (BWa.out.trans (hb.mono BWa.out.size))
        clear hb
        by_cases hjt : j < k
        · have hjx : j < N.rs.length := by rw [NL.out]; exact hjt
          obtain ⟨b, o, cp, cs4, ea, _, _, hR4, hl4, hg4, _⟩ := SlOf.range (by omega) (SlOf.keep (S' := fun _ => True) (R' := RecR) (by omega) HRa.out (Stay.of_below BT.out) (fun _ _ h => h) (fun _ _ _ => trivial)) hjx
          have ea' : ra9 = some ⟨b, o, none⟩ := by injection ea
          clear ea
          subst ea'
          unfold RecR at hR4
          subst hR4
          have he := NR.out _ (List.getElem_mem hjx)
          rw [he] at hg4
          have u0 : wr.cell? ⟨b, o + j * 2, none⟩ = some (.int .i64 9) := hg4 0 _ rfl
          have u1 : wr.cell? ⟨b, o + j * 2 + 1, none⟩ = some (.int .i64 9) := hg4 1 _ rfl
          have z0 : wr.cell? ⟨b4 + 1, 0, none⟩ = some (.int .i64 9) := Below.cellE BWr.out (K5r.out.cell 0)
          have z1 : wr.cell? ⟨b4 + 1, 1, none⟩ = some (.int .i64 9) := Below.cellE BWr.out (K5r.out.cell 1)
          have zl : b4 + 1 < wr.heap.size := cell_lt z0
          clear he hg4
          go_wp2_with fail
          exact ⟨⟨j + 1, hjt, by go_num, BT.out.alloc BT.out.size _⟩, by simp [intOf]; omega⟩
        · obtain rfl : j = k := by omega
          have y0 : wr.cell? ⟨w9.heap.size, 0, none⟩ = some (.int .u8 G.kind) := Below.cellE BT.out (Ka.out.cell 0)
          have y1 : wr.cell? ⟨w9.heap.size, 1, none⟩ = some (.int .u8 G.level) := Below.cellE BT.out (Ka.out.cell 1)
          have y2 : wr.cell? ⟨w9.heap.size, 2, none⟩ = some (.slice fa9 j fc9) := Below.cellE BT.out (Ka.out.cell 2)
          have x0 : wr.cell? ⟨b4, 0, none⟩ = some (.int .u8 G.kind) := Below.cellE BWr.out (K4r.out.cell 0)
          have x1 : wr.cell? ⟨b4, 1, none⟩ = some (.int .u8 G.level) := Below.cellE BWr.out (K4r.out.cell 1)
          have x2 : wr.cell? ⟨b4, 2, none⟩ = some (.slice fa j fc) := Below.cellE BWr.out (K4r.out.cell 2)
          have HFA : RowKit.Hid (FldsAt (fun _ => True) wr (.slice fa9 j fc9) G.fs) := Lib.hid (FldsAt.keep HF9.out (Stay.of_below (Ba.out.trans (BT.out.mono Ba.out.size))) (fun _ _ _ => trivial))
          have HFB : RowKit.Hid (FldsAt (fun _ => True) wr (.slice fa j fc) G.fs) := Lib.hid (FldsAt.keep HFr.out (Stay.of_below BWr.out) (fun _ _ _ => trivial))
          go_wp2_with fail
          refine (sameRecord_any _ _ G.kind G.level HFA.out HFB.out OG.out).mono ?_
          rintro e wz ⟨rfl, hb⟩
          have BZ : RowKit.Hid (Below w.heap.size w wz) := Lib.hid (Br.out.trans ((BWr.out.trans (hb.mono BWr.out.size)).mono Br.out.size))
          clear hb
          go_wp2_with fail
          go_ret
          exact ⟨rfl, BZ.out⟩
end Go.Proofs.YtpdldbapagchfaaGreatDoor
