/- The law Covers. -/
import Derived.Test.YtpdldbapagchfaaGreatDoorQ28
import Derived.Test.YtpdldbapagchfaaGreatDoorQ08
import Derived.Test.YtpdldbapagchfaaGreatDoorQ14
import Derived.Test.YtpdldbapagchfaaGreatDoorQ25
import Derived.Test.YtpdldbapagchfaaGreatDoorQ21
set_option linter.unusedVariables false
set_option linter.unusedSimpArgs false

namespace Go.Proofs.YtpdldbapagchfaaGreatDoor
open Go.RowKit Go.Shelf Go.Maps
attribute [local go_sem] over_cell over_frozen

theorem pol_first {t : ByteArray} (h : polP t = .first) : ∃ h0 : 0 < t.size, ((t[0].toNat : Int) == 57) = false := by
  rw [polP_B] at h
  have hsz : t.data.toList.length = t.size := dsz t
  have h0 : ∀ (h : 0 < t.size), t.data.toList[0]? = some (t[0]'h) := fun h => by
    rw [List.getElem?_eq_getElem (by rw [hsz]; exact h)]; rfl
  revert h hsz h0
  generalize t.data.toList = L
  intro h hsz h0
  cases L with
  | nil => simp [polB] at h
  | cons b l =>
    have hs : 0 < t.size := by simp at hsz; omega
    have g0 := h0 hs
    have g0' : t[0] = b := by simp only [List.getElem?_cons_zero] at g0; injection g0 with g0; exact g0.symm
    refine ⟨hs, ?_⟩
    rw [g0']
    rw [polB_cons] at h
    by_cases h9 : b = 57
    · rw [if_pos h9] at h; cases h
    · have h1 : b.toNat ≠ 57 := fun e => h9 (UInt8.toNat_inj.1 e)
      simp; omega

set_option maxRecDepth 100000 in
set_option maxHeartbeats 4000000 in
theorem coversLaw (S : Nat → Prop) {w : World} {v : Value} {l : List SaidI} (h : SlOf 4 S (SaidR S) w v l) (hl : SOk l) :
    Calls Tryz.prog 8 #[v] w fun e w' => e = .returned (.bool true) ∧ Below w.heap.size w w' := by
  have HS := Lib.hid h
  have HL := Lib.hid (versP_lok hl)
  obtain ⟨a, cap, rfl, -⟩ := h
  obtain ⟨n, hn⟩ : ∃ n, n = l.length := ⟨_, rfl⟩
  rw [← hn] at HS ⊢
  clear hl hn
  go_enter Tryz.func8, Tryz.ntmps8
  go_wp2_with fail
  refine (sanity_any w).mono ?_
  rintro e w1 ⟨rfl, hb⟩
  have B1 := Lib.hid hb
  have HV := Lib.hid (versions_any S (h := HS.out.keep (by omega) (Stay.of_below hb) (fun _ _ h => h.keep (Stay.of_below hb) (fun _ h _ => h)) (fun _ h _ => h)))
  clear hb
  go_wp2_with fail
  refine HV.out.mono ?_
  rintro e w2 ⟨v2, rfl, hO, hb⟩
  have HO := Lib.hid hO
  obtain ⟨va, vc, rfl⟩ := hO.expl
  obtain ⟨m, hm⟩ : ∃ m, m = (versP l).length := ⟨_, rfl⟩
  rw [← hm] at HO ⊢
  have B2 : RowKit.Hid (Below w.heap.size w w2) := Lib.hid (B1.out.trans (hb.mono B1.out.size))
  have HV2 := Lib.hid (HO.out.slB (by omega))
  clear hO hb hm HV
  go_wp2_with fail
  refine (merge_any HV2.out HL.out HL.out.latest).mono ?_
  rintro e w3 ⟨cs, rfl, hM, hb⟩
  obtain ⟨G, hG⟩ : ∃ G, G = mrgV (latest (versP l)) := ⟨_, rfl⟩
  have OG : RowKit.Hid (FsOk G.fs) := Lib.hid (by rw [hG]; exact mrgV_ok HL.out.latest (few_latest (versP_len l) (versP_few l)))
  rw [← hG] at hM
  have HG := Lib.hid hG
  have B3 : RowKit.Hid (Below w.heap.size w w3) := Lib.hid (B2.out.trans (hb.mono B2.out.size))
  have HV3 := Lib.hid (VersAt.keep HV2.out (Stay.of_below hb) (fun _ h _ => h))
  clear hb hG
  obtain ⟨fv, rv, rfl, hF, hR⟩ := hM
  have HF := Lib.hid hF
  have HR := Lib.hid hR
  obtain ⟨fa, fc, rfl, -⟩ := hF
  obtain ⟨ra, rc, rfl, -⟩ := hR
  obtain ⟨p, hp⟩ : ∃ p, p = G.l.length := ⟨_, rfl⟩
  have e1 : G.fs.length = p := by rw [hp]; exact List.length_map ..
  have e2 : G.rs.length = p := by rw [hp]; exact List.length_map ..
  rw [e1] at HF ⊢
  rw [e2] at HR ⊢
  have NP := Lib.hid hp
  clear hp
  go_wp2_with fail
  obtain ⟨W4, hW4⟩ : ∃ W4, W4 = w3.alloc (.cells #[.int .u8 G.kind, .int .u8 G.level, .slice fa p fc, .slice ra p rc] 32) := ⟨_, rfl⟩
  rw [← hW4]
  have B4 : RowKit.Hid (Below w.heap.size w W4) := Lib.hid (by rw [hW4]; exact B3.out.alloc B3.out.size _)
  have B34 : RowKit.Hid (Below w3.heap.size w3 W4) := Lib.hid (by rw [hW4]; exact (Below.refl _ _).alloc (Nat.le_refl _) _)
  have K4 : RowKit.Hid (Blk W4 w3.heap.size #[.int .u8 G.kind, .int .u8 G.level, .slice fa p fc, .slice ra p rc] 32) := Lib.hid (by rw [hW4]; exact Blk.new _ _ _)
  clear hW4
  refine (latest_any _ (VersAt.keep HV3.out (Stay.of_below B34.out) (fun _ h _ => h)) HL.out.vs HL.out.recs).mono ?_
  rintro e w5 ⟨v5, rfl, hO5, hb⟩
  have H5 := Lib.hid hO5.vers
  obtain ⟨la, lc, rfl⟩ := hO5.expl
  obtain ⟨L, hL⟩ : ∃ L, L = latest (versP l) := ⟨_, rfl⟩
  rw [← hL] at H5 HG ⊢
  have LO : RowKit.Hid (LOk L) := Lib.hid (by rw [hL]; exact HL.out.latest)
  obtain ⟨q, hq⟩ : ∃ q, q = L.length := ⟨_, rfl⟩
  rw [← hq] at H5 ⊢
  have NQ := Lib.hid hq
  have B5 : RowKit.Hid (Below w.heap.size w w5) := Lib.hid (B4.out.trans (hb.mono B4.out.size))
  have K5 : RowKit.Hid (Blk w5 w3.heap.size #[.int .u8 G.kind, .int .u8 G.level, .slice fa p fc, .slice ra p rc] 32) := Lib.hid (K4.out.below hb K4.out.lt)
  have HF5 : RowKit.Hid (FldsAt (fun _ => True) w5 (.slice fa p fc) G.fs) := Lib.hid (FldsAt.keep (FldsAt.keep HF.out (Stay.of_below B34.out) (fun _ h _ => h)) (Stay.of_below hb) (fun _ _ _ => trivial))
  have HR5 : RowKit.Hid (SlOf 2 (fun _ => True) RecR w5 (.slice ra p rc) G.rs) := Lib.hid (SlOf.keep (S' := fun _ => True) (by omega) (SlOf.keep (R' := RecR) (by omega) HR.out (Stay.of_below B34.out) (fun _ _ h => h) (fun _ h _ => h)) (Stay.of_below hb) (fun _ _ h => h) (fun _ _ _ => trivial))
  have AS : RowKit.Hid (Asc L) := Lib.hid (by rw [hL]; exact asc_latest _)
  have MGL : RowKit.Hid (G.l = mergeP (foldS tabC) polP (tagsP ltT (saidOf L)) L) := Lib.hid (by rw [HG.out]; rfl)
  clear hO5 hb hL hq B34 K4 HF HR HV3 HV2 HO
  have p1 : p ≤ 1000 := by rw [← e1]; exact OG.out.1
  have q1 : q ≤ 100 := by rw [NQ.out]; exact LO.out.few
  have c2 : w5.cell? ⟨w3.heap.size, 2, none⟩ = some (.slice fa p fc) := K5.out.cell 2
  have c3 : w5.cell? ⟨w3.heap.size, 3, none⟩ = some (.slice ra p rc) := K5.out.cell 3
  go_wp2_with fail
  go_loopw [31] (fun i wr => ∃ k : Nat, k ≤ q ∧ i = .int .i64 k ∧ Below w5.heap.size w5 wr) (fun i _ => q - (intOf i).toNat)
  case atStart => exact ⟨0, by omega, rfl, Below.refl _ _⟩
  case round =>
    obtain ⟨k, hk, rfl, hb⟩ := hrel
    have BR := Lib.hid hb
    clear hb
    by_cases hlt : k < q
    · have hlx : k < L.length := by rw [← NQ.out]; exact hlt
      obtain ⟨b2, o2, cp2, cs2, ea, _, _, hR2, hl2, hg2, _⟩ := SlOf.range (by omega) (VersAt.keep H5.out (Stay.of_below BR.out) (fun _ h _ => h)) hlx
      have ea' : la = some ⟨b2, o2, none⟩ := by injection ea
      clear ea
      subst ea'
      obtain ⟨x, hx⟩ : ∃ x, x = L[k] := ⟨_, rfl⟩
      rw [← hx] at hR2
      obtain ⟨xa, xc, rfl, hXF⟩ := hR2.expl'
      have XM : RowKit.Hid (x ∈ L) := Lib.hid (by rw [hx]; exact List.getElem_mem _)
      obtain ⟨r, hr⟩ : ∃ r, r = x.fs.length := ⟨_, rfl⟩
      rw [← hr] at hXF hg2
      have HXF := Lib.hid hXF
      have NR := Lib.hid hr
      have r1 : r ≤ 1000 := by rw [hr]; exact (LO.out.vs.2 _ XM.out).1
      clear hx hr hXF hR2
      obtain ⟨g0, g1, g2, g3, g4, g5⟩ := range6 hg2
      clear hg2
      go_wp2_with fail
      obtain ⟨wo, rfl⟩ : ∃ wo, wo = wr := ⟨_, rfl⟩
      obtain ⟨W6, hW6⟩ : ∃ W6, W6 = wo.alloc (.cells #[.int .i64 x.r.1, .int .i64 x.r.2, .int .i64 x.num, .int .u8 x.kind, .int .u8 x.level, .slice xa r xc] 43) := ⟨_, rfl⟩
      rw [← hW6]
      have B6 : RowKit.Hid (Below wo.heap.size wo W6) := Lib.hid (by rw [hW6]; exact (Below.refl _ _).alloc (Nat.le_refl _) _)
      have K6 : RowKit.Hid (Blk W6 wo.heap.size #[.int .i64 x.r.1, .int .i64 x.r.2, .int .i64 x.num, .int .u8 x.kind, .int .u8 x.level, .slice xa r xc] 43) := Lib.hid (by rw [hW6]; exact Blk.new _ _ _)
      clear hW6 g0 g1 g2 g3 g4 g5
      go_loopw [39] (fun i wt => ∃ j : Nat, j ≤ r ∧ i = .int .i64 j ∧ Below W6.heap.size W6 wt) (fun i _ => r - (intOf i).toNat)
      case atStart => exact ⟨0, by omega, rfl, Below.refl _ _⟩
      case round =>
        obtain ⟨j, hj, rfl, hb⟩ := hrel
        have BT := Lib.hid hb
        clear hb
        have BO : RowKit.Hid (Below wo.heap.size wo wr) := Lib.hid (B6.out.trans (BT.out.mono B6.out.size))
        have BC : RowKit.Hid (Below w5.heap.size w5 wr) := Lib.hid (BR.out.trans (BO.out.mono BR.out.size))
        by_cases hjt : j < r
        · have hjx : j < x.fs.length := by rw [← NR.out]; exact hjt
          obtain ⟨b1, o1, cp1, cs1, ea, _, _, hR1, hl1, hg1, _⟩ := SlOf.range (by omega) (FldsAt.keep (S' := fun _ => True) HXF.out (Stay.of_below BO.out) (fun _ _ _ => trivial)) hjx
          have ea' : xa = some ⟨b1, o1, none⟩ := by injection ea
          clear ea
          subst ea'
          obtain ⟨f, hf⟩ : ∃ f, f = x.fs[j] := ⟨_, rfl⟩
          rw [← hf] at hR1
          have HFF := Lib.hid hR1
          obtain ⟨sa, sc, rfl, -⟩ := hR1.expl
          obtain ⟨sn, hsn⟩ : ∃ sn, sn = f.subs.length := ⟨_, rfl⟩
          rw [← hsn] at hg1 HFF
          have FM : RowKit.Hid (f ∈ x.fs) := Lib.hid (by rw [hf]; exact List.getElem_mem _)
          clear hsn hf hR1
          obtain ⟨g0, g1, g2, g3⟩ := range4 hg1
          have m2 : wr.cell? ⟨w3.heap.size, 2, none⟩ = some (.slice fa p fc) := Below.cellE BC.out c2
          have m2l : w3.heap.size < wr.heap.size := cell_lt m2
          clear hg1
          go_wp2_with fail
          clear m2 m2l
          obtain ⟨wm, rfl⟩ : ∃ wm, wm = wr := ⟨_, rfl⟩
          obtain ⟨W7, hW7⟩ : ∃ W7, W7 = wm.alloc (.cells #[.string f.tag, .string f.ind, .string f.data, .slice sa sn sc] 48) := ⟨_, rfl⟩
          rw [← hW7]
          have B7 : RowKit.Hid (Below wm.heap.size wm W7) := Lib.hid (by rw [hW7]; exact (Below.refl _ _).alloc (Nat.le_refl _) _)
          have K7 : RowKit.Hid (Blk W7 wm.heap.size #[.string f.tag, .string f.ind, .string f.data, .slice sa sn sc] 48) := Lib.hid (by rw [hW7]; exact Blk.new _ _ _)
          have M7 : RowKit.Hid (Below W6.heap.size W6 W7) := Lib.hid (BT.out.trans (B7.out.mono BT.out.size))
          have KF : RowKit.Hid (KOk f) := Lib.hid (LO.out.fld x XM.out f FM.out)
          clear hW7 g0 g1 g2 g3
          go_loopw [10, 11, 47] (fun fd fe i wt => ∃ (c : Nat) (ba bb : Bool), c ≤ p ∧ i = .int .i64 c ∧ fd = .bool ba ∧ fe = .bool bb ∧ Below W7.heap.size W7 wt ∧ (∀ c', c' < c → ∀ y, G.l[c']? = some y → Alike (foldS tabC) f y.1 = true → ba = true) ∧ (∀ c', c' < c → ∀ y, G.l[c']? = some y → y.1.tag = f.tag → ltR y.2 x.r = true → bb = true)) (fun _ _ i _ => p - (intOf i).toNat)
          case atStart => exact ⟨0, false, false, by omega, rfl, rfl, rfl, Below.refl _ _, fun c' h => by omega, fun c' h => by omega⟩
          case round =>
            obtain ⟨c, ba, bb, hc, rfl, rfl, rfl, hb, hfa, hfb⟩ := hrel
            have BI := Lib.hid hb
            have FA := Lib.hid hfa
            have FB := Lib.hid hfb
            clear hb hfa hfb
            have BD : RowKit.Hid (Below wm.heap.size wm wr) := Lib.hid (B7.out.trans (BI.out.mono B7.out.size))
            have B6D : RowKit.Hid (Below W6.heap.size W6 wr) := Lib.hid (M7.out.trans (BI.out.mono M7.out.size))
            have B5D : RowKit.Hid (Below w5.heap.size w5 wr) := Lib.hid (BC.out.trans (BD.out.mono BC.out.size))
            by_cases hct : c < p
            · have hcx : c < G.fs.length := by rw [e1]; exact hct
              have hcr : c < G.rs.length := by rw [e2]; exact hct
              have hcl : c < G.l.length := by rw [← NP.out]; exact hct
              obtain ⟨b3, o3, cp3, cs3, ea, _, _, hR3, hl3, hg3, _⟩ := SlOf.range (by omega) (FldsAt.keep HF5.out (Stay.of_below B5D.out) (fun _ h _ => h)) hcx
              have ea' : fa = some ⟨b3, o3, none⟩ := by injection ea
              clear ea
              subst ea'
              obtain ⟨g, hg⟩ : ∃ g, g = G.fs[c] := ⟨_, rfl⟩
              rw [← hg] at hR3
              have HGR := Lib.hid hR3
              obtain ⟨ga, gc, rfl, -⟩ := hR3.expl
              obtain ⟨gn, hgn⟩ : ∃ gn, gn = g.subs.length := ⟨_, rfl⟩
              rw [← hgn] at hg3 HGR
              obtain ⟨b4, o4, cp4, cs4, ea, _, _, hR4, hl4, hg4, _⟩ := SlOf.range (by omega) (SlOf.keep (S' := fun _ => True) (R' := RecR) (by omega) HR5.out (Stay.of_below B5D.out) (fun _ _ h => h) (fun _ _ _ => trivial)) hcr
              have ea' : ra = some ⟨b4, o4, none⟩ := by injection ea
              clear ea
              subst ea'
              unfold RecR at hR4
              subst hR4
              obtain ⟨rk, hrk⟩ : ∃ rk, rk = G.rs[c] := ⟨_, rfl⟩
              rw [← hrk] at hg4
              have NY : RowKit.Hid (G.l[c]? = some (g, rk)) := Lib.hid (by
                rw [List.getElem?_eq_getElem hcl, hg, hrk]; simp [Mrg.fs, Mrg.rs])
              have KG : RowKit.Hid (KOk g) := Lib.hid (by
                have hm : (g, rk) ∈ mergeP (foldS tabC) polP (tagsP ltT (saidOf L)) L := by
                  rw [← MGL.out]; exact List.mem_of_getElem? NY.out
                obtain ⟨y, hy, h1, h2⟩ := mem_mergeP hm
                exact LO.out.fld y hy g h2)
              clear hg hgn hR3 hrk
              obtain ⟨t0, t1, t2, t3⟩ := range4 hg3
              clear hg3
              have NA : RowKit.Hid (∀ b', b' = (ba || Alike (foldS tabC) f g) → ∀ c', c' < c + 1 → ∀ y, G.l[c']? = some y → Alike (foldS tabC) f y.1 = true → b' = true) := Lib.hid fun b' hb' c' h y hy ha => by
                rw [hb']
                by_cases e : c' = c
                · subst e
                  rw [NY.out] at hy
                  injection hy with hy
                  subst hy
                  rw [show Alike (foldS tabC) f g = true from ha, Bool.or_true]
                · rw [FA.out c' (by omega) y hy ha, Bool.true_or]
              have NB : RowKit.Hid (∀ b', b' = (bb || (decide (f.tag = g.tag) && ltR rk x.r)) → ∀ c', c' < c + 1 → ∀ y, G.l[c']? = some y → y.1.tag = f.tag → ltR y.2 x.r = true → b' = true) := Lib.hid fun b' hb' c' h y hy ht ha => by
                rw [hb']
                by_cases e : c' = c
                · subst e
                  rw [NY.out] at hy
                  injection hy with hy
                  subst hy
                  rw [show ltR rk x.r = true from ha, show decide (f.tag = g.tag) = true from decide_eq_true (Eq.symm ht), Bool.and_true, Bool.or_true]
                · rw [FB.out c' (by omega) y hy ht ha, Bool.true_or]
              have z0 : wr.cell? ⟨wm.heap.size, 0, none⟩ = some (.string f.tag) := Below.cellE BI.out (K7.out.cell 0)
              have z1 : wr.cell? ⟨wm.heap.size, 1, none⟩ = some (.string f.ind) := Below.cellE BI.out (K7.out.cell 1)
              have z2 : wr.cell? ⟨wm.heap.size, 2, none⟩ = some (.string f.data) := Below.cellE BI.out (K7.out.cell 2)
              have z3 : wr.cell? ⟨wm.heap.size, 3, none⟩ = some (.slice sa sn sc) := Below.cellE BI.out (K7.out.cell 3)
              have zl : wm.heap.size < wr.heap.size := cell_lt z0
              cases ba with
              | true =>
                go_wp2_with fail
                obtain ⟨wn, rfl⟩ : ∃ wn, wn = wr := ⟨_, rfl⟩
                obtain ⟨W8, hW8⟩ : ∃ W8, W8 = wn.alloc (.cells #[.string g.tag, .string g.ind, .string g.data, .slice ga gn gc] 48) := ⟨_, rfl⟩
                rw [← hW8]
                have B8 : RowKit.Hid (Below wn.heap.size wn W8) := Lib.hid (by rw [hW8]; exact (Below.refl _ _).alloc (Nat.le_refl _) _)
                have K8 : RowKit.Hid (Blk W8 wn.heap.size #[.string g.tag, .string g.ind, .string g.data, .slice ga gn gc] 48) := Lib.hid (by rw [hW8]; exact Blk.new _ _ _)
                clear hW8 t0 t1 t2 t3 z0 z1 z2 z3 zl
                have B58 : RowKit.Hid (Below w5.heap.size w5 W8) := Lib.hid (B5D.out.trans (B8.out.mono B5D.out.size))
                have B68 : RowKit.Hid (Below W6.heap.size W6 W8) := Lib.hid (B6D.out.trans (B8.out.mono B6D.out.size))
                have B78 : RowKit.Hid (Below W7.heap.size W7 W8) := Lib.hid (BI.out.trans (B8.out.mono BI.out.size))
                have BM8 : RowKit.Hid (Below wm.heap.size wm W8) := Lib.hid (BD.out.trans (B8.out.mono BD.out.size))
                have HFF8 := Lib.hid (keeps_fld _ (fun _ => True) _ _ _ _ HFF.out (Stay.of_below BM8.out) (fun _ _ _ => trivial))
                have HGR8 := Lib.hid (keeps_fld _ (fun _ => True) _ _ _ _ HGR.out (Stay.of_below B8.out) (fun _ _ _ => trivial))
                have u0 : RowKit.Hid (W8.cell? ⟨b4, o4 + c * 2, none⟩ = some (.int .i64 rk.1)) := Lib.hid (Below.cellE B8.out (hg4 0 _ rfl))
                have u1 : RowKit.Hid (W8.cell? ⟨b4, o4 + c * 2 + 1, none⟩ = some (.int .i64 rk.2)) := Lib.hid (Below.cellE B8.out (hg4 1 _ rfl))
                clear hg4
                have f0 : W8.cell? ⟨wm.heap.size, 0, none⟩ = some (.string f.tag) := Below.cellE B78.out (K7.out.cell 0)
                have f1 : W8.cell? ⟨wm.heap.size, 1, none⟩ = some (.string f.ind) := Below.cellE B78.out (K7.out.cell 1)
                have f2 : W8.cell? ⟨wm.heap.size, 2, none⟩ = some (.string f.data) := Below.cellE B78.out (K7.out.cell 2)
                have f3 : W8.cell? ⟨wm.heap.size, 3, none⟩ = some (.slice sa sn sc) := Below.cellE B78.out (K7.out.cell 3)
                have g0 : W8.cell? ⟨wn.heap.size, 0, none⟩ = some (.string g.tag) := K8.out.cell 0
                have g1 : W8.cell? ⟨wn.heap.size, 1, none⟩ = some (.string g.ind) := K8.out.cell 1
                have g2 : W8.cell? ⟨wn.heap.size, 2, none⟩ = some (.string g.data) := K8.out.cell 2
                have g3 : W8.cell? ⟨wn.heap.size, 3, none⟩ = some (.slice ga gn gc) := K8.out.cell 3
                clear c2 c3
                have B89 : RowKit.Hid (Below W8.heap.size W8 W8) := Lib.hid (Below.refl _ _)
                clear f1 f2 f3 g1 g2 g3
                have HLR : RowKit.Hid (∀ y, Calls Tryz.prog 24 #[.agg #[.int .i64 rk.1, .int .i64 rk.2], .agg #[.int .i64 x.r.1, .int .i64 x.r.2]] (over W8 y) fun e w' => e = .returned (.bool (ltR rk x.r)) ∧ Below (over W8 y).heap.size (over W8 y) w') := Lib.hid fun y => lessRec_any rk x.r _
                have B59 : RowKit.Hid (Below w5.heap.size w5 W8) := Lib.hid (B58.out.trans (B89.out.mono B58.out.size))
                have B69 : RowKit.Hid (Below W6.heap.size W6 W8) := Lib.hid (B68.out.trans (B89.out.mono B68.out.size))
                have B79 : RowKit.Hid (Below W7.heap.size W7 W8) := Lib.hid (B78.out.trans (B89.out.mono B78.out.size))
                have m3 : W8.cell? ⟨w3.heap.size, 2, none⟩ = some (.slice (some ⟨b3, o3, none⟩) p fc) := Below.cellE B59.out (K5.out.cell 2)
                have m4 : W8.cell? ⟨w3.heap.size, 3, none⟩ = some (.slice (some ⟨b4, o4, none⟩) p rc) := Below.cellE B59.out (K5.out.cell 3)
                have x0 : W8.cell? ⟨wo.heap.size, 0, none⟩ = some (.int .i64 x.r.1) := Below.cellE B69.out (K6.out.cell 0)
                have x1 : W8.cell? ⟨wo.heap.size, 1, none⟩ = some (.int .i64 x.r.2) := Below.cellE B69.out (K6.out.cell 1)
                have v0 : W8.cell? ⟨b4, o4 + c * 2, none⟩ = some (.int .i64 rk.1) := Below.cellE B89.out u0.out
                have v1 : W8.cell? ⟨b4, o4 + c * 2 + 1, none⟩ = some (.int .i64 rk.2) := Below.cellE B89.out u1.out
                have ED : RowKit.Hid (∀ y, Below W7.heap.size W7 (over W8 y)) := Lib.hid fun y => B79.out.trans ((below_over W8 y).mono B79.out.size)
                cases bb with
                | true =>
                  refine wp_region_over (by kernel_rfl) (by kernel_rfl) ?_
                  repeat (first | go_big_quiet_step (first | (go_at_call 24; with_reducible exact inOver (HLR.out _))))
                  refine wpQuiet_nil ?_
                  rintro _ ⟨nq, rfl⟩
                  go_wp2_with fail
                  exact ⟨⟨c + 1, true, true, hct, by go_num, rfl, rfl, ED.out _, (fun _ _ _ _ _ => rfl), (fun _ _ _ _ _ _ => rfl)⟩, by simp [intOf]; omega⟩
                | false =>
                  by_cases ht : f.tag = g.tag
                  · obtain ⟨lr, hlr⟩ : ∃ lr, lr = ltR rk x.r := ⟨_, rfl⟩
                    have NB' := Lib.hid (NB.out lr (by rw [decide_eq_true ht, Bool.true_and, Bool.false_or]; exact hlr))
                    rw [← hlr] at HLR
                    have hte : (f.tag.toList == g.tag.toList) = true := by rw [ht]; simp
                    clear hlr
                    refine wp_region_over (by kernel_rfl) (by kernel_rfl) ?_
                    repeat (first | go_big_quiet_step (first | (go_at_call 24; with_reducible exact inOver (HLR.out _))))
                    refine wpQuiet_nil ?_
                    rintro _ ⟨nq, rfl⟩
                    go_wp2_with fail
                    exact ⟨⟨c + 1, true, lr, hct, by go_num, rfl, rfl, ED.out _, (fun _ _ _ _ _ => rfl), NB'.out⟩, by simp [intOf]; omega⟩
                  · have NB' := Lib.hid (NB.out false (by rw [decide_eq_false ht]; rfl))
                    have hte : (f.tag.toList == g.tag.toList) = false := by
                      rw [beq_eq_false_iff_ne]; exact fun e => ht (by rw [toList_data, toList_data] at e; exact data_inj e)
                    refine wp_region_over (by kernel_rfl) (by kernel_rfl) ?_
                    repeat (first | go_big_quiet_step (first | (go_at_call 24; with_reducible exact inOver (HLR.out _))))
                    refine wpQuiet_nil ?_
                    rintro _ ⟨nq, rfl⟩
                    go_wp2_with fail
                    exact ⟨⟨c + 1, true, false, hct, by go_num, rfl, rfl, ED.out _, (fun _ _ _ _ _ => rfl), NB'.out⟩, by simp [intOf]; omega⟩
              | false =>
                go_wp2_with fail
                obtain ⟨wn, rfl⟩ : ∃ wn, wn = wr := ⟨_, rfl⟩
                obtain ⟨W8, hW8⟩ : ∃ W8, W8 = wn.alloc (.cells #[.string g.tag, .string g.ind, .string g.data, .slice ga gn gc] 48) := ⟨_, rfl⟩
                rw [← hW8]
                have B8 : RowKit.Hid (Below wn.heap.size wn W8) := Lib.hid (by rw [hW8]; exact (Below.refl _ _).alloc (Nat.le_refl _) _)
                have K8 : RowKit.Hid (Blk W8 wn.heap.size #[.string g.tag, .string g.ind, .string g.data, .slice ga gn gc] 48) := Lib.hid (by rw [hW8]; exact Blk.new _ _ _)
                clear hW8 t0 t1 t2 t3 z0 z1 z2 z3 zl
                have B58 : RowKit.Hid (Below w5.heap.size w5 W8) := Lib.hid (B5D.out.trans (B8.out.mono B5D.out.size))
                have B68 : RowKit.Hid (Below W6.heap.size W6 W8) := Lib.hid (B6D.out.trans (B8.out.mono B6D.out.size))
                have B78 : RowKit.Hid (Below W7.heap.size W7 W8) := Lib.hid (BI.out.trans (B8.out.mono BI.out.size))
                have BM8 : RowKit.Hid (Below wm.heap.size wm W8) := Lib.hid (BD.out.trans (B8.out.mono BD.out.size))
                have HFF8 := Lib.hid (keeps_fld _ (fun _ => True) _ _ _ _ HFF.out (Stay.of_below BM8.out) (fun _ _ _ => trivial))
                have HGR8 := Lib.hid (keeps_fld _ (fun _ => True) _ _ _ _ HGR.out (Stay.of_below B8.out) (fun _ _ _ => trivial))
                have u0 : RowKit.Hid (W8.cell? ⟨b4, o4 + c * 2, none⟩ = some (.int .i64 rk.1)) := Lib.hid (Below.cellE B8.out (hg4 0 _ rfl))
                have u1 : RowKit.Hid (W8.cell? ⟨b4, o4 + c * 2 + 1, none⟩ = some (.int .i64 rk.2)) := Lib.hid (Below.cellE B8.out (hg4 1 _ rfl))
                clear hg4
                have f0 : W8.cell? ⟨wm.heap.size, 0, none⟩ = some (.string f.tag) := Below.cellE B78.out (K7.out.cell 0)
                have f1 : W8.cell? ⟨wm.heap.size, 1, none⟩ = some (.string f.ind) := Below.cellE B78.out (K7.out.cell 1)
                have f2 : W8.cell? ⟨wm.heap.size, 2, none⟩ = some (.string f.data) := Below.cellE B78.out (K7.out.cell 2)
                have f3 : W8.cell? ⟨wm.heap.size, 3, none⟩ = some (.slice sa sn sc) := Below.cellE B78.out (K7.out.cell 3)
                have g0 : W8.cell? ⟨wn.heap.size, 0, none⟩ = some (.string g.tag) := K8.out.cell 0
                have g1 : W8.cell? ⟨wn.heap.size, 1, none⟩ = some (.string g.ind) := K8.out.cell 1
                have g2 : W8.cell? ⟨wn.heap.size, 2, none⟩ = some (.string g.data) := K8.out.cell 2
                have g3 : W8.cell? ⟨wn.heap.size, 3, none⟩ = some (.slice ga gn gc) := K8.out.cell 3
                clear c2 c3
                obtain ⟨al, hal⟩ : ∃ al, al = Alike (foldS tabC) f g := ⟨_, rfl⟩
                have NA' := Lib.hid (NA.out al (by rw [Bool.false_or]; exact hal))
                have HC := Lib.hid (alikeR_any _ _ HFF8.out HGR8.out KF.out.f KG.out.f)
                rw [← hal] at HC
                clear hal
                refine HC.out.mono ?_
                rintro e w9 ⟨rfl, hb⟩
                have B89 := Lib.hid hb
                clear hb HC f0 f1 f2 f3 g0 g1 g2 g3
                have f0 : w9.cell? ⟨wm.heap.size, 0, none⟩ = some (.string f.tag) := Below.cellE B89.out (Below.cellE B78.out (K7.out.cell 0))
                have g0 : w9.cell? ⟨wn.heap.size, 0, none⟩ = some (.string g.tag) := Below.cellE B89.out (K8.out.cell 0)
                go_wp2_with fail
                have HLR : RowKit.Hid (∀ y, Calls Tryz.prog 24 #[.agg #[.int .i64 rk.1, .int .i64 rk.2], .agg #[.int .i64 x.r.1, .int .i64 x.r.2]] (over w9 y) fun e w' => e = .returned (.bool (ltR rk x.r)) ∧ Below (over w9 y).heap.size (over w9 y) w') := Lib.hid fun y => lessRec_any rk x.r _
                have B59 : RowKit.Hid (Below w5.heap.size w5 w9) := Lib.hid (B58.out.trans (B89.out.mono B58.out.size))
                have B69 : RowKit.Hid (Below W6.heap.size W6 w9) := Lib.hid (B68.out.trans (B89.out.mono B68.out.size))
                have B79 : RowKit.Hid (Below W7.heap.size W7 w9) := Lib.hid (B78.out.trans (B89.out.mono B78.out.size))
                have m3 : w9.cell? ⟨w3.heap.size, 2, none⟩ = some (.slice (some ⟨b3, o3, none⟩) p fc) := Below.cellE B59.out (K5.out.cell 2)
                have m4 : w9.cell? ⟨w3.heap.size, 3, none⟩ = some (.slice (some ⟨b4, o4, none⟩) p rc) := Below.cellE B59.out (K5.out.cell 3)
                have x0 : w9.cell? ⟨wo.heap.size, 0, none⟩ = some (.int .i64 x.r.1) := Below.cellE B69.out (K6.out.cell 0)
                have x1 : w9.cell? ⟨wo.heap.size, 1, none⟩ = some (.int .i64 x.r.2) := Below.cellE B69.out (K6.out.cell 1)
                have v0 : w9.cell? ⟨b4, o4 + c * 2, none⟩ = some (.int .i64 rk.1) := Below.cellE B89.out u0.out
                have v1 : w9.cell? ⟨b4, o4 + c * 2 + 1, none⟩ = some (.int .i64 rk.2) := Below.cellE B89.out u1.out
                have ED : RowKit.Hid (∀ y, Below W7.heap.size W7 (over w9 y)) := Lib.hid fun y => B79.out.trans ((below_over w9 y).mono B79.out.size)
                cases bb with
                | true =>
                  refine wp_region_over (by kernel_rfl) (by kernel_rfl) ?_
                  repeat (first | go_big_quiet_step (first | (go_at_call 24; with_reducible exact inOver (HLR.out _))))
                  refine wpQuiet_nil ?_
                  rintro _ ⟨nq, rfl⟩
                  go_wp2_with fail
                  exact ⟨⟨c + 1, al, true, hct, by go_num, rfl, rfl, ED.out _, NA'.out, (fun _ _ _ _ _ _ => rfl)⟩, by simp [intOf]; omega⟩
                | false =>
                  by_cases ht : f.tag = g.tag
                  · obtain ⟨lr, hlr⟩ : ∃ lr, lr = ltR rk x.r := ⟨_, rfl⟩
                    have NB' := Lib.hid (NB.out lr (by rw [decide_eq_true ht, Bool.true_and, Bool.false_or]; exact hlr))
                    rw [← hlr] at HLR
                    have hte : (f.tag.toList == g.tag.toList) = true := by rw [ht]; simp
                    clear hlr
                    refine wp_region_over (by kernel_rfl) (by kernel_rfl) ?_
                    repeat (first | go_big_quiet_step (first | (go_at_call 24; with_reducible exact inOver (HLR.out _))))
                    refine wpQuiet_nil ?_
                    rintro _ ⟨nq, rfl⟩
                    go_wp2_with fail
                    exact ⟨⟨c + 1, al, lr, hct, by go_num, rfl, rfl, ED.out _, NA'.out, NB'.out⟩, by simp [intOf]; omega⟩
                  · have NB' := Lib.hid (NB.out false (by rw [decide_eq_false ht]; rfl))
                    have hte : (f.tag.toList == g.tag.toList) = false := by
                      rw [beq_eq_false_iff_ne]; exact fun e => ht (by rw [toList_data, toList_data] at e; exact data_inj e)
                    refine wp_region_over (by kernel_rfl) (by kernel_rfl) ?_
                    repeat (first | go_big_quiet_step (first | (go_at_call 24; with_reducible exact inOver (HLR.out _))))
                    refine wpQuiet_nil ?_
                    rintro _ ⟨nq, rfl⟩
                    go_wp2_with fail
                    exact ⟨⟨c + 1, al, false, hct, by go_num, rfl, rfl, ED.out _, NA'.out, NB'.out⟩, by simp [intOf]; omega⟩
            · obtain rfl : c = p := by omega
              have HH : ba = true ∨ (polP f.tag = .first ∧ bb = true) := by
                rcases merge_covers (lt := ltT) (foldS tabC) polP AS.out XM.out FM.out with ⟨y, hy, ha⟩ | ⟨hp, y, hy, ht, ha⟩
                · rw [← MGL.out] at hy
                  obtain ⟨c', hc', rfl⟩ := List.mem_iff_getElem.1 hy
                  exact .inl (FA.out c' (by rw [NP.out]; exact hc') _ (List.getElem?_eq_getElem hc') ha)
                · rw [← MGL.out] at hy
                  obtain ⟨c', hc', rfl⟩ := List.mem_iff_getElem.1 hy
                  exact .inr ⟨hp, FB.out c' (by rw [NP.out]; exact hc') _ (List.getElem?_eq_getElem hc') ht ha⟩
              have BQ : RowKit.Hid (Below W6.heap.size W6 wr) := Lib.hid B6D.out
              have f0 : wr.cell? ⟨wm.heap.size, 0, none⟩ = some (.string f.tag) := Below.cellE BI.out (K7.out.cell 0)
              by_cases hs0 : f.tag.size = 0
              · have et : f.tag = ⟨#[]⟩ := data_inj (List.eq_nil_of_length_eq_zero (by rw [dsz]; exact hs0))
                have hba : ba = true := by
                  rcases HH with h | ⟨h, -⟩
                  · exact h
                  · obtain ⟨h0, -⟩ := pol_first h
                    omega
                subst hba
                rw [et] at f0
                cases bb with
                | true =>
                  go_wp2_with fail
                  exact ⟨⟨j + 1, hjt, by go_num, BQ.out⟩, by simp [intOf]; omega⟩
                | false =>
                  go_wp2_with fail
                  exact ⟨⟨j + 1, hjt, by go_num, BQ.out⟩, by simp [intOf]; omega⟩
              · have hs : 0 < f.tag.size := by omega
                have p0 : decide ((0 : Int) < f.tag.size) = true := by simpa using hs
                have hne : (f.tag.toList == []) = false := by
                  rw [beq_eq_false_iff_ne]
                  exact fun e => hs0 (by rw [← dsz, ← toList_data, e]; rfl)
                by_cases h9 : ((f.tag[0].toNat : Int) == 57) = true
                · have hba : ba = true := by
                    rcases HH with h | ⟨h, -⟩
                    · exact h
                    · obtain ⟨_, h1⟩ := pol_first h
                      rw [h1] at h9; cases h9
                  subst hba
                  cases bb with
                  | true =>
                    go_wp2_with fail
                    exact ⟨⟨j + 1, hjt, by go_num, BQ.out⟩, by simp [intOf]; omega⟩
                  | false =>
                    go_wp2_with fail
                    exact ⟨⟨j + 1, hjt, by go_num, BQ.out⟩, by simp [intOf]; omega⟩
                · have h9' : ((f.tag[0].toNat : Int) == 57) = false := by simpa using h9
                  clear h9
                  cases ba with
                  | true =>
                    cases bb with
                    | true =>
                      go_wp2_with fail
                      exact ⟨⟨j + 1, hjt, by go_num, BQ.out⟩, by simp [intOf]; omega⟩
                    | false =>
                      go_wp2_with fail
                      exact ⟨⟨j + 1, hjt, by go_num, BQ.out⟩, by simp [intOf]; omega⟩
                  | false =>
                    obtain rfl : bb = true := by
                      rcases HH with h | ⟨-, h⟩
                      · cases h
                      · exact h
                    go_wp2_with fail
                    exact ⟨⟨j + 1, hjt, by go_num, BQ.out⟩, by simp [intOf]; omega⟩
        · obtain rfl : j = r := by omega
          go_wp2_with fail
          exact ⟨⟨k + 1, hlt, by go_num, BC.out⟩, by simp [intOf]; omega⟩
    · obtain rfl : k = q := by omega
      go_wp2_with fail
      go_ret
      exact ⟨rfl, B5.out.trans (BR.out.mono B5.out.size)⟩
end Go.Proofs.YtpdldbapagchfaaGreatDoor
