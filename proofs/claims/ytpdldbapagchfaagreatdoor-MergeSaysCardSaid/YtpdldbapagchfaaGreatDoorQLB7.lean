/- The law Says. -/
import Derived.Test.YtpdldbapagchfaaGreatDoorQ28
import Derived.Test.YtpdldbapagchfaaGreatDoorQ08
set_option linter.unusedVariables false
set_option linter.unusedSimpArgs false

namespace Go.Proofs.YtpdldbapagchfaaGreatDoor
open Go.RowKit Go.Shelf Go.Maps
attribute [local go_sem] over_cell over_frozen

set_option maxRecDepth 100000 in
set_option maxHeartbeats 4000000 in
theorem saysLaw (S : Nat → Prop) {w : World} {v : Value} {l : List SaidI} (h : SlOf 4 S (SaidR S) w v l) (hl : SOk l) :
    Calls Tryz.prog 7 #[v] w fun e w' => e = .returned (.bool true) ∧ Below w.heap.size w w' := by
  have HS := Lib.hid h
  have HL := Lib.hid (versP_lok hl)
  obtain ⟨a, cap, rfl, -⟩ := h
  obtain ⟨n, hn⟩ : ∃ n, n = l.length := ⟨_, rfl⟩
  rw [← hn] at HS ⊢
  clear hl hn
  go_enter Tryz.func7, Tryz.ntmps7
  go_wp2_with fail
  refine (sanity_any w).mono ?_
  rintro e w1 ⟨rfl, hb⟩
  have B1 := Lib.hid hb
  have HV := Lib.hid (versions_any S (h := HS.out.keep (by omega) (Stay.of_below hb) (fun _ _ h => h.keep (Stay.of_below hb) (fun _ h _ => h)) (fun _ h _ => h)))
  clear hb
  go_wp2_with fail
  refine HV.out.mono ?_
  rintro e w2 ⟨v2, rfl, hO, hb⟩
  have HO := Lib.hid hO
  obtain ⟨va, vc, rfl⟩ := hO.expl
  obtain ⟨m, hm⟩ : ∃ m, m = (versP l).length := ⟨_, rfl⟩
  rw [← hm] at HO ⊢
  have B2 : RowKit.Hid (Below w.heap.size w w2) := Lib.hid (B1.out.trans (hb.mono B1.out.size))
  have HV2 := Lib.hid (HO.out.slB (by omega))
  clear hO hb hm HV
  go_wp2_with fail
  refine (merge_any HV2.out HL.out HL.out.latest).mono ?_
  rintro e w3 ⟨cs, rfl, hM, hb⟩
  obtain ⟨G, hG⟩ : ∃ G, G = mrgV (latest (versP l)) := ⟨_, rfl⟩
  have OG : RowKit.Hid (FsOk G.fs) := Lib.hid (by rw [hG]; exact mrgV_ok HL.out.latest (few_latest (versP_len l) (versP_few l)))
  rw [← hG] at hM
  have HG := Lib.hid hG
  have B3 : RowKit.Hid (Below w.heap.size w w3) := Lib.hid (B2.out.trans (hb.mono B2.out.size))
  have HV3 := Lib.hid (VersAt.keep HV2.out (Stay.of_below hb) (fun _ h _ => h))
  clear hb hG
  obtain ⟨fv, rv, rfl, hF, hR⟩ := hM
  have HF := Lib.hid hF
  have HR := Lib.hid hR
  obtain ⟨fa, fc, rfl, -⟩ := hF
  obtain ⟨ra, rc, rfl, -⟩ := hR
  obtain ⟨p, hp⟩ : ∃ p, p = G.l.length := ⟨_, rfl⟩
  have e1 : G.fs.length = p := by rw [hp]; exact List.length_map ..
  have e2 : G.rs.length = p := by rw [hp]; exact List.length_map ..
  rw [e1] at HF ⊢
  rw [e2] at HR ⊢
  have NP := Lib.hid hp
  clear hp
  go_wp2_with fail
  obtain ⟨W4, hW4⟩ : ∃ W4, W4 = w3.alloc (.cells #[.int .u8 G.kind, .int .u8 G.level, .slice fa p fc, .slice ra p rc] 32) := ⟨_, rfl⟩
  rw [← hW4]
  have B4 : RowKit.Hid (Below w.heap.size w W4) := Lib.hid (by rw [hW4]; exact B3.out.alloc B3.out.size _)
  have B34 : RowKit.Hid (Below w3.heap.size w3 W4) := Lib.hid (by rw [hW4]; exact (Below.refl _ _).alloc (Nat.le_refl _) _)
  have K4 : RowKit.Hid (Blk W4 w3.heap.size #[.int .u8 G.kind, .int .u8 G.level, .slice fa p fc, .slice ra p rc] 32) := Lib.hid (by rw [hW4]; exact Blk.new _ _ _)
  clear hW4
  refine (latest_any _ (VersAt.keep HV3.out (Stay.of_below B34.out) (fun _ h _ => h)) HL.out.vs HL.out.recs).mono ?_
  rintro e w5 ⟨v5, rfl, hO5, hb⟩
  have H5 := Lib.hid hO5.vers
  obtain ⟨la, lc, rfl⟩ := hO5.expl
  obtain ⟨L, hL⟩ : ∃ L, L = latest (versP l) := ⟨_, rfl⟩
  rw [← hL] at H5 HG ⊢
  have LO : RowKit.Hid (LOk L) := Lib.hid (by rw [hL]; exact HL.out.latest)
  obtain ⟨q, hq⟩ : ∃ q, q = L.length := ⟨_, rfl⟩
  rw [← hq] at H5 ⊢
  have NQ := Lib.hid hq
  have B5 : RowKit.Hid (Below w.heap.size w w5) := Lib.hid (B4.out.trans (hb.mono B4.out.size))
  have K5 : RowKit.Hid (Blk w5 w3.heap.size #[.int .u8 G.kind, .int .u8 G.level, .slice fa p fc, .slice ra p rc] 32) := Lib.hid (K4.out.below hb K4.out.lt)
  have HF5 : RowKit.Hid (FldsAt (fun _ => True) w5 (.slice fa p fc) G.fs) := Lib.hid (FldsAt.keep (FldsAt.keep HF.out (Stay.of_below B34.out) (fun _ h _ => h)) (Stay.of_below hb) (fun _ _ _ => trivial))
  have HR5 : RowKit.Hid (SlOf 2 (fun _ => True) RecR w5 (.slice ra p rc) G.rs) := Lib.hid (SlOf.keep (S' := fun _ => True) (by omega) (SlOf.keep (R' := RecR) (by omega) HR.out (Stay.of_below B34.out) (fun _ _ h => h) (fun _ h _ => h)) (Stay.of_below hb) (fun _ _ h => h) (fun _ _ _ => trivial))
  clear hO5 hb hL hq B34 K4 HF HR HV3 HV2 HO
  have p1 : p ≤ 1000 := by rw [← e1]; exact OG.out.1
  have q1 : q ≤ 100 := by rw [NQ.out]; exact LO.out.few
  have c2 : w5.cell? ⟨w3.heap.size, 2, none⟩ = some (.slice fa p fc) := K5.out.cell 2
  have c3 : w5.cell? ⟨w3.heap.size, 3, none⟩ = some (.slice ra p rc) := K5.out.cell 3
  go_wp2_with fail
  go_loopw [33] (fun i wr => ∃ k : Nat, k ≤ p ∧ i = .int .i64 k ∧ Below w5.heap.size w5 wr) (fun i _ => p - (intOf i).toNat)
  case atStart => exact ⟨0, by omega, rfl, Below.refl _ _⟩
  case round =>
    obtain ⟨k, hk, rfl, hb⟩ := hrel
    have BR := Lib.hid hb
    clear hb
    by_cases hlt : k < p
    · have hlx : k < G.fs.length := by rw [e1]; exact hlt
      have hlr : k < G.rs.length := by rw [e2]; exact hlt
      obtain ⟨b1, o1, cp1, cs1, ea, _, _, hR1, hl1, hg1, _⟩ := SlOf.range (by omega) (FldsAt.keep HF5.out (Stay.of_below BR.out) (fun _ h _ => h)) hlx
      have ea' : fa = some ⟨b1, o1, none⟩ := by injection ea
      clear ea
      subst ea'
      obtain ⟨f, hf⟩ : ∃ f, f = G.fs[k] := ⟨_, rfl⟩
      rw [← hf] at hR1
      have HFF := Lib.hid hR1
      obtain ⟨sa, sc, rfl, -⟩ := hR1.expl
      obtain ⟨sn, hsn⟩ : ∃ sn, sn = f.subs.length := ⟨_, rfl⟩
      rw [← hsn] at hg1 HFF
      have NS := Lib.hid hsn
      have NF := Lib.hid hf
      clear hsn hf
      obtain ⟨g0, g1, g2, g3⟩ := range4 hg1
      go_wp2_with fail
      obtain ⟨wo, rfl⟩ : ∃ wo, wo = wr := ⟨_, rfl⟩
      obtain ⟨W6, hW6⟩ : ∃ W6, W6 = wo.alloc (.cells #[.string f.tag, .string f.ind, .string f.data, .slice sa sn sc] 48) := ⟨_, rfl⟩
      rw [← hW6]
      have B6 : RowKit.Hid (Below wo.heap.size wo W6) := Lib.hid (by rw [hW6]; exact (Below.refl _ _).alloc (Nat.le_refl _) _)
      have K6 : RowKit.Hid (Blk W6 wo.heap.size #[.string f.tag, .string f.ind, .string f.data, .slice sa sn sc] 48) := Lib.hid (by rw [hW6]; exact Blk.new _ _ _)
      clear hW6 g0 g1 g2 g3 hg1
      go_loopw [9, 40] (fun fd i wt => ∃ (j : Nat) (fb : Bool), j ≤ q ∧ i = .int .i64 j ∧ fd = .bool fb ∧ Below W6.heap.size W6 wt ∧ ∀ j', j' < j → ∀ x, L[j']? = some x → x.r = G.rs[k] → f ∈ x.fs → fb = true) (fun _ i _ => q - (intOf i).toNat)
      case atStart => exact ⟨0, false, by omega, rfl, rfl, Below.refl _ _, fun j' h => by omega⟩
      case round =>
        obtain ⟨j, fb, hj, rfl, rfl, hb, hfb⟩ := hrel
        have BT := Lib.hid hb
        have FB := Lib.hid hfb
        clear hb hfb
        by_cases hjt : j < q
        · have hjx : j < L.length := by rw [← NQ.out]; exact hjt
          have BC : RowKit.Hid (Below w5.heap.size w5 wr) := Lib.hid (BR.out.trans ((B6.out.trans (BT.out.mono B6.out.size)).mono BR.out.size))
          obtain ⟨b2, o2, cp2, cs2, ea, _, _, hR2, hl2, hg2, _⟩ := SlOf.range (by omega) (VersAt.keep H5.out (Stay.of_below BC.out) (fun _ h _ => h)) hjx
          have ea' : la = some ⟨b2, o2, none⟩ := by injection ea
          clear ea
          subst ea'
          obtain ⟨x, hx⟩ : ∃ x, x = L[j] := ⟨_, rfl⟩
          rw [← hx] at hR2
          obtain ⟨xa, xc, rfl, hXF⟩ := hR2.expl'
          have NX := Lib.hid hx
          obtain ⟨r, hr⟩ : ∃ r, r = x.fs.length := ⟨_, rfl⟩
          rw [← hr] at hXF hg2
          have HXF := Lib.hid hXF
          have NR := Lib.hid hr
          have r1 : r ≤ 1000 := by rw [hr, hx]; exact (LO.out.vs.2 _ (List.getElem_mem _)).1
          clear hx hr hXF hR2
          obtain ⟨g0, g1, g2, g3, g4, g5⟩ := range6 hg2
          clear hg2
          go_wp2_with fail
          obtain ⟨wm, rfl⟩ : ∃ wm, wm = wr := ⟨_, rfl⟩
          obtain ⟨W7, hW7⟩ : ∃ W7, W7 = wm.alloc (.cells #[.int .i64 x.r.1, .int .i64 x.r.2, .int .i64 x.num, .int .u8 x.kind, .int .u8 x.level, .slice xa r xc] 43) := ⟨_, rfl⟩
          rw [← hW7]
          have B7 : RowKit.Hid (Below wm.heap.size wm W7) := Lib.hid (by rw [hW7]; exact (Below.refl _ _).alloc (Nat.le_refl _) _)
          have K7 : RowKit.Hid (Blk W7 wm.heap.size #[.int .i64 x.r.1, .int .i64 x.r.2, .int .i64 x.num, .int .u8 x.kind, .int .u8 x.level, .slice xa r xc] 43) := Lib.hid (by rw [hW7]; exact Blk.new _ _ _)
          have M7 : RowKit.Hid (Below W6.heap.size W6 W7) := Lib.hid (BT.out.trans (B7.out.mono BT.out.size))
          clear hW7 g0 g1 g2 g3 g4 g5
          go_loopw [9, 48] (fun fd i wt => ∃ (i' : Nat) (fe : Bool), i' ≤ r ∧ i = .int .i64 i' ∧ fd = .bool fe ∧ Below W7.heap.size W7 wt ∧ (∀ j', j' < j → ∀ x, L[j']? = some x → x.r = G.rs[k] → f ∈ x.fs → fe = true) ∧ (x.r = G.rs[k] → ∀ i0, i0 < i' → x.fs[i0]? = some f → fe = true)) (fun _ i _ => r - (intOf i).toNat)
          case atStart => exact ⟨0, fb, by omega, rfl, rfl, Below.refl _ _, FB.out, fun _ i0 h => by omega⟩
          case round =>
            obtain ⟨i', fe, hi', rfl, rfl, hb, hfb, hfc⟩ := hrel
            have BI := Lib.hid hb
            have FB2 := Lib.hid hfb
            have FC := Lib.hid hfc
            clear hb hfb hfc
            have BD : RowKit.Hid (Below wm.heap.size wm wr) := Lib.hid (B7.out.trans (BI.out.mono B7.out.size))
            have B6D : RowKit.Hid (Below W6.heap.size W6 wr) := Lib.hid (M7.out.trans (BI.out.mono M7.out.size))
            have B5D : RowKit.Hid (Below w5.heap.size w5 wr) := Lib.hid (BC.out.trans (BD.out.mono BC.out.size))
            by_cases hit : i' < r
            · have hgx : i' < x.fs.length := by rw [← NR.out]; exact hit
              obtain ⟨b3, o3, cp3, cs3, ea, _, _, hR3, hl3, hg3, _⟩ := SlOf.range (by omega) (FldsAt.keep (S' := fun _ => True) HXF.out (Stay.of_below BD.out) (fun _ _ _ => trivial)) hgx
              have ea' : xa = some ⟨b3, o3, none⟩ := by injection ea
              clear ea
              subst ea'
              obtain ⟨g, hg⟩ : ∃ g, g = x.fs[i'] := ⟨_, rfl⟩
              rw [← hg] at hR3
              have HGR := Lib.hid hR3
              obtain ⟨ga, gc, rfl, -⟩ := hR3.expl
              obtain ⟨gn, hgn⟩ : ∃ gn, gn = g.subs.length := ⟨_, rfl⟩
              rw [← hgn] at hg3 HGR
              have NG := Lib.hid hg
              have GN := Lib.hid hgn
              clear hg hgn hR3
              obtain ⟨t0, t1, t2, t3⟩ := range4 hg3
              clear hg3
              go_wp2_with fail
              obtain ⟨wn, rfl⟩ : ∃ wn, wn = wr := ⟨_, rfl⟩
              obtain ⟨W8, hW8⟩ : ∃ W8, W8 = wn.alloc (.cells #[.string g.tag, .string g.ind, .string g.data, .slice ga gn gc] 48) := ⟨_, rfl⟩
              rw [← hW8]
              have B8 : RowKit.Hid (Below wn.heap.size wn W8) := Lib.hid (by rw [hW8]; exact (Below.refl _ _).alloc (Nat.le_refl _) _)
              have K8 : RowKit.Hid (Blk W8 wn.heap.size #[.string g.tag, .string g.ind, .string g.data, .slice ga gn gc] 48) := Lib.hid (by rw [hW8]; exact Blk.new _ _ _)
              clear hW8 t0 t1 t2 t3
              have B58 : RowKit.Hid (Below w5.heap.size w5 W8) := Lib.hid (B5D.out.trans (B8.out.mono B5D.out.size))
              have B68 : RowKit.Hid (Below W6.heap.size W6 W8) := Lib.hid (B6D.out.trans (B8.out.mono B6D.out.size))
              have B78 : RowKit.Hid (Below W7.heap.size W7 W8) := Lib.hid (BI.out.trans (B8.out.mono BI.out.size))
              have BO8 : RowKit.Hid (Below wo.heap.size wo W8) := Lib.hid (B6.out.trans (B68.out.mono B6.out.size))
              obtain ⟨b4, o4, cp4, cs4, ea, _, _, hR4, hl4, hg4, _⟩ := SlOf.range (by omega) (SlOf.keep (S' := fun _ => True) (R' := RecR) (by omega) HR5.out (Stay.of_below B58.out) (fun _ _ h => h) (fun _ _ _ => trivial)) hlr
              have ea' : ra = some ⟨b4, o4, none⟩ := by injection ea
              clear ea
              subst ea'
              unfold RecR at hR4
              subst hR4
              obtain ⟨rk, hrk⟩ : ∃ rk, rk = G.rs[k] := ⟨_, rfl⟩
              rw [← hrk] at hg4
              have NK := Lib.hid hrk
              obtain ⟨bb, hbb⟩ : ∃ bb, bb = decide (f = g) := ⟨_, rfl⟩
              have NB := Lib.hid hbb
              have lf : RowKit.Hid (f.subs.length ≤ 1000) := Lib.hid (by rw [NF.out]; exact OG.out.2 _ (List.getElem_mem _))
              have lg : RowKit.Hid (g.subs.length ≤ 1000) := Lib.hid (by rw [NG.out]; exact (LO.out.vs.2 x (by rw [NX.out]; exact List.getElem_mem _)).2 _ (List.getElem_mem _))
              have HSF : RowKit.Hid (∀ y, Calls Tryz.prog 22 #[.agg #[.string f.tag, .string f.ind, .string f.data, .slice sa sn sc], .agg #[.string g.tag, .string g.ind, .string g.data, .slice ga gn gc]] (over W8 y) fun e w' => e = .returned (.bool bb) ∧ Below (over W8 y).heap.size (over W8 y) w') := Lib.hid fun y => by
                rw [hbb]
                exact sameField_any (fun _ => True) (fun _ => True) (w := over W8 y)
                  (keeps_fld _ _ _ _ _ _ HFF.out (Stay.of_below (BO8.out.trans ((below_over W8 y).mono BO8.out.size))) (fun _ _ _ => trivial))
                  (keeps_fld _ _ _ _ _ _ HGR.out (Stay.of_below (B8.out.trans ((below_over W8 y).mono B8.out.size))) (fun _ _ _ => trivial)) lf.out lg.out
              have u0 : W8.cell? ⟨b4, o4 + k * 2, none⟩ = some (.int .i64 rk.1) := hg4 0 _ rfl
              have u1 : W8.cell? ⟨b4, o4 + k * 2 + 1, none⟩ = some (.int .i64 rk.2) := hg4 1 _ rfl
              have m3 : W8.cell? ⟨w3.heap.size, 3, none⟩ = some (.slice (some ⟨b4, o4, none⟩) p rc) := Below.cellE B58.out (K5.out.cell 3)
              have x0 : W8.cell? ⟨wm.heap.size, 0, none⟩ = some (.int .i64 x.r.1) := Below.cellE B78.out (K7.out.cell 0)
              have x1 : W8.cell? ⟨wm.heap.size, 1, none⟩ = some (.int .i64 x.r.2) := Below.cellE B78.out (K7.out.cell 1)
              have f0 : W8.cell? ⟨wo.heap.size, 0, none⟩ = some (.string f.tag) := Below.cellE B68.out (K6.out.cell 0)
              have f1 : W8.cell? ⟨wo.heap.size, 1, none⟩ = some (.string f.ind) := Below.cellE B68.out (K6.out.cell 1)
              have f2 : W8.cell? ⟨wo.heap.size, 2, none⟩ = some (.string f.data) := Below.cellE B68.out (K6.out.cell 2)
              have f3 : W8.cell? ⟨wo.heap.size, 3, none⟩ = some (.slice sa sn sc) := Below.cellE B68.out (K6.out.cell 3)
              have g0 : W8.cell? ⟨wn.heap.size, 0, none⟩ = some (.string g.tag) := K8.out.cell 0
              have g1 : W8.cell? ⟨wn.heap.size, 1, none⟩ = some (.string g.ind) := K8.out.cell 1
              have g2 : W8.cell? ⟨wn.heap.size, 2, none⟩ = some (.string g.data) := K8.out.cell 2
              have g3 : W8.cell? ⟨wn.heap.size, 3, none⟩ = some (.slice ga gn gc) := K8.out.cell 3
              have hq := eql_rec x.r rk
              have ED : RowKit.Hid (∀ y, Below W7.heap.size W7 (over W8 y)) := Lib.hid fun y => B78.out.trans ((below_over W8 y).mono B78.out.size)
              clear hrk hbb hg4 c2 c3
              cases fe with
              | true =>
                refine wp_region_over (by kernel_rfl) (by kernel_rfl) ?_
                repeat (first | go_big_quiet_step (first | (go_at_call 22; with_reducible exact inOver (HSF.out _))))
                refine wpQuiet_nil ?_
                rintro _ ⟨nq, rfl⟩
                go_wp2_with fail
                exact ⟨⟨i' + 1, true, hit, by go_num, rfl, ED.out _, fun _ _ _ _ _ _ => rfl, fun _ _ _ _ => rfl⟩, by simp [intOf]; omega⟩
              | false =>
                by_cases hr : x.r = rk
                · rw [decide_eq_true hr] at hq
                  refine wp_region_over (by kernel_rfl) (by kernel_rfl) ?_
                  repeat (first | go_big_quiet_step (first | (go_at_call 22; with_reducible exact inOver (HSF.out _))))
                  refine wpQuiet_nil ?_
                  rintro _ ⟨nq, rfl⟩
                  go_wp2_with fail
                  refine ⟨⟨i' + 1, bb, hit, by go_num, rfl, ED.out _, fun j' a x' b c d => absurd (FB2.out j' a x' b c d) (by simp), fun c i0 a b => ?_⟩, by simp [intOf]; omega⟩
                  by_cases e : i0 = i'
                  · subst e
                    rw [List.getElem?_eq_getElem hgx] at b
                    injection b with b
                    rw [NB.out, NG.out, b]; exact decide_eq_true rfl
                  · exact absurd (FC.out c i0 (by omega) b) (by simp)
                · rw [decide_eq_false hr] at hq
                  refine wp_region_over (by kernel_rfl) (by kernel_rfl) ?_
                  repeat (first | go_big_quiet_step (first | (go_at_call 22; with_reducible exact inOver (HSF.out _))))
                  refine wpQuiet_nil ?_
                  rintro _ ⟨nq, rfl⟩
                  go_wp2_with fail
                  exact ⟨⟨i' + 1, false, hit, by go_num, rfl, ED.out _, fun j' a x' b c d => absurd (FB2.out j' a x' b c d) (by simp), fun c => absurd (c.trans NK.out.symm) hr⟩, by simp [intOf]; omega⟩
            · obtain rfl : i' = r := by omega
              go_wp2_with fail
              refine ⟨⟨j + 1, fe, hjt, by go_num, rfl, B6D.out, fun j' a x' b c d => ?_⟩, by simp [intOf]; omega⟩
              by_cases e : j' = j
              · subst e
                rw [List.getElem?_eq_getElem hjx, ← NX.out] at b
                injection b with b
                subst b
                obtain ⟨i0, h0, h1⟩ := List.mem_iff_getElem.1 d
                exact FC.out c i0 (by rw [NR.out]; exact h0) (by rw [List.getElem?_eq_getElem h0, h1])
              · exact FB2.out j' (by omega) x' b c d
        · obtain rfl : j = q := by omega
          have HFB : fb = true := by
            have hm : G.l[k]'(by rw [← NP.out]; exact hlt) ∈ mergeP (foldS tabC) polP (tagsP ltT (saidOf L)) L := by
              have e := HG.out
              have : G.l = mergeP (foldS tabC) polP (tagsP ltT (saidOf L)) L := by rw [e]; rfl
              rw [← this]; exact List.getElem_mem _
            obtain ⟨y, hy, h1, h2⟩ := mem_mergeP hm
            obtain ⟨j', hj', rfl⟩ := List.mem_iff_getElem.1 hy
            refine FB.out j' (by rw [NQ.out]; exact hj') _ (List.getElem?_eq_getElem hj') (h1.trans (by simp [Mrg.rs])) ?_
            rw [NF.out]
            have : G.fs[k] = (G.l[k]'(by rw [← NP.out]; exact hlt)).1 := by simp [Mrg.fs]
            rw [this]; exact h2
          subst HFB
          have BQ : RowKit.Hid (Below w5.heap.size w5 wr) := Lib.hid (BR.out.trans ((B6.out.trans (BT.out.mono B6.out.size)).mono BR.out.size))
          have m2 : wr.cell? ⟨w3.heap.size, 2, none⟩ = some (.slice (some ⟨b1, o1, none⟩) p fc) := Below.cellE BQ.out c2
          have f0 : wr.cell? ⟨wo.heap.size, 0, none⟩ = some (.string f.tag) := Below.cellE BT.out (K6.out.cell 0)
          cases k with
          | zero =>
            go_wp2_with fail
            go_quiet (fail)
            go_wp2_with fail
            exact ⟨⟨1, hlt, rfl, bdrewN BQ.out _⟩, by simp [intOf]; omega⟩
          | succ k' =>
            obtain ⟨b4, o4, cp4, cs4, ea, _, _, hR4, hl4, hg4, _⟩ := SlOf.range (by omega) (FldsAt.keep HF5.out (Stay.of_below BQ.out) (fun _ h _ => h)) (show k' < G.fs.length by omega)
            have ea' : (some ⟨b1, o1, none⟩ : Option Addr) = some ⟨b4, o4, none⟩ := by injection ea
            clear ea
            have eb : b1 = b4 := by injection ea' with h; injection h
            have eo : o1 = o4 := by injection ea' with h; injection h
            subst eb eo
            obtain ⟨z, hz⟩ : ∃ z, z = G.fs[k'] := ⟨_, rfl⟩
            rw [← hz] at hR4
            obtain ⟨za, zc, rfl, -⟩ := hR4.expl
            have z0 : wr.cell? ⟨b1, o1 + k' * 4, none⟩ = some (.string z.tag) := hg4 0 _ rfl
            have NZ := Lib.hid hz
            have hno : f.tag = z.tag ∨ ltT z.tag f.tag = true := by
              have h1 := merge_asc ltT_ord (foldS tabC) polP L
              have h2 : G.l = mergeP (foldS tabC) polP (tagsP ltT (saidOf L)) L := by rw [HG.out]; rfl
              rw [← h2] at h1
              have h3 := List.pairwise_iff_getElem.1 h1 k' (k' + 1) (by rw [← NP.out]; omega) (by rw [← NP.out]; exact hlt) (by omega)
              have e3 : z = (G.l[k']'(by rw [← NP.out]; omega)).1 := by rw [hz]; simp [Mrg.fs]
              have e4 : f = (G.l[k' + 1]'(by rw [← NP.out]; exact hlt)).1 := by rw [NF.out]; simp [Mrg.fs]
              rw [← e3, ← e4] at h3
              exact ltT_ord.tot h3
            have hno2 : (z.tag.toList == f.tag.toList) = true ∨ Op.bytesLess z.tag.toList f.tag.toList = true := by
              rcases hno with h | h
              · left; rw [h]; simp
              · right; rw [bless]; exact h
            clear hz hg4 hR4 ea' hno
            rcases hno2 with h9 | h9
            all_goals
              go_wp2_with fail
              go_quiet (fail)
              go_wp2_with fail
              exact ⟨⟨k' + 1 + 1, hlt, by go_num, bdrewN BQ.out _⟩, by simp [intOf]; omega⟩
    · obtain rfl : k = p := by omega
      go_wp2_with fail
      go_ret
      exact ⟨rfl, B5.out.trans (BR.out.mono B5.out.size)⟩
end Go.Proofs.YtpdldbapagchfaaGreatDoor
