/- The contract of try. -/
import Derived.Test.YtpcmppamkgkdlaaVE
import Derived.Deep.QuietTactic
import Derived.BigQuiet
namespace Go.Proofs.Ytpcmppamkgkdlaa
open Go.RowKit

set_option maxRecDepth 100000 in
set_option maxHeartbeats 16000000 in
theorem try_any (L : List Wt) (A : List Int) (C : List (List Int)) (t : TL) (S : Nat → Bool) (hl : L.length ≤ 1000) (ha : A.length ≤ 1000) (hl2 : ∀ k, (L.getD k noW).2.length ≤ 1000) (hc : ∀ k, ((C.getD k []).length : Int) ≤ 9223372036854775807) (hS : ∀ j, L.length ≤ j → S j = false)
    (w0 : World) (hL : Wants w0 t.B (.slice t.aw L.length t.cw) L) (hA : Ints w0 t.B (.slice t.aa A.length t.ca) A) (hC : Rows2 w0 t.B (.slice t.ac C.length t.cc) C) :
    ∀ (d k : Nat) (U : Nat → Bool) (cp : Nat → Option Nat) (nv bv : Value) (least : Int) (st : St) (w : World), L.length - k < d → k ≤ L.length → Below t.B w0 w → Try (prob L A C) S U cp k → TryM (prob L A C) t L A.length C.length S w U cp k nv bv least st →
      Calls Try.prog 30 #[pt t.sb, .int .i64 k] w (TryR (prob L A C) t L A.length C.length S U cp k nv st w) := by
  intro d
  induction d with
  | zero => intro k U cp nv bv least st w h; omega
  | succ d ih =>
    intro k U cp nv bv least st w hd hk hb hT hM
    have IH := Lib.hid ih
    have HM := Lib.hid hM
    have HT := Lib.hid hT
    have HB := Lib.hid hb
    have HL := Lib.hid hL
    have HA := Lib.hid hA
    have HC := Lib.hid hC
    have HL2 := Lib.hid hl2
    have HCC := Lib.hid hc
    have HS := Lib.hid hS
    obtain ⟨P, hP⟩ : ∃ P, P = prob L A C := ⟨_, rfl⟩
    have HAC : RowKit.Hid (∀ k c, c < A.length → (c ∈ P.acc k ↔ (c : Int) ∈ (L.getD k noW).2)) := Lib.hid fun k c hc => by rw [hP]; exact acc_nat hc
    have HPM : RowKit.Hid (P.m = L.length ∧ P.n = A.length) := Lib.hid (by rw [hP]; exact ⟨rfl, rfl⟩)
    have HBD : RowKit.Hid (∀ k c, 0 ≤ P.cst k c ∧ P.cst k c ≤ 1000000) := Lib.hid (by rw [hP]; exact prob_cst L A C)
    have HCS : RowKit.Hid (∀ k c, P.cst k c = wayI C (A.getD c 0) (L.getD k noW).1) := Lib.hid (by rw [hP]; exact fun k c => rfl)
    rw [← hP] at IH HM HT ⊢
    have hsb := sum_bd HBD.out cp k
    have s0 := HM.out.blk.cell 0
    have s3 := HM.out.blk.cell 3
    have s6 := HM.out.blk.cell 6
    have s7 := HM.out.blk.cell 7
    have s8 := HM.out.blk.cell 8
    clear ih hM hT hb hL hA hC hl2 hc hP hS
    simp at s0 s3 s6 s7 s8
    have ways : (∃ g, st = some g ∧ P.tot g ≤ sumN (P.one cp) k) ∨ ((∀ g, st = some g → sumN (P.one cp) k < P.tot g) ∧ (bv = .slice none 0 0 ∨ ∃ gb m cap, bv = .slice (some ⟨gb, 0, none⟩) m cap ∧ decide (least ≤ sumN (P.one cp) k) = false)) := by
      have hb := HM.out.best
      cases st with
      | none => exact .inr ⟨fun g e => (by cases e), .inl hb⟩
      | some g =>
        obtain ⟨h0, gb, cap, rfl, _⟩ := hb
        rcases Int.lt_or_le (sumN (P.one cp) k) (P.tot g) with h | h
        · exact .inr ⟨fun g' e => (by injection e with e; subst e; exact h), .inr ⟨gb, _, cap, rfl, by simp; omega⟩⟩
        · exact .inl ⟨g, rfl, h⟩
    obtain ⟨sm, hsm⟩ : ∃ sm, sm = sumN (P.one cp) k := ⟨_, rfl⟩
    have HSM := Lib.hid hsm
    rw [← hsm] at hsb s6 ways
    clear hsm
    rcases ways with ⟨g, rfl, hle⟩ | ⟨hw, hw2⟩
    · obtain ⟨rfl, gb, cap, rfl, _, _, _, _, _, _⟩ := HM.out.best
      have d1 : decide (P.tot g ≤ sm) = true := by simpa using hle
      have CUT : RowKit.Hid (TryE P S cp k (some g) (some g)) := Lib.hid (TryE.cut (fun k c => (HBD.out k c).1) (by have := HPM.out; omega) (by rw [← HSM.out]; exact hle))
      obtain ⟨tg, htg⟩ : ∃ tg, tg = P.tot g := ⟨_, rfl⟩
      have HTG := Lib.hid htg
      rw [← htg] at d1 s8
      clear hle htg
      go_enter Try.func30, Try.ntmps30
      go_wp2_with fail
      go_quiet (fail)
      go_wp2_with fail
      rename_i nq
      have B1 : RowKit.Hid (Below w.heap.size w (w.drewN nq)) := Lib.hid (bdrewN (Below.refl _ _) nq)
      refine bodyPost_ret (results_none rfl _ _ _) rfl ?_
      exact ⟨rfl, _, _, _, _, HM.out.keep B1.out, CUT.out, Tn.of_below B1.out, fun b e => .inl e⟩
    have HW := Lib.hid hw
    clear hw
    rcases hw2 with rfl | ⟨gq, mq, cq, rfl, d1⟩
    all_goals
      go_enter Try.func30, Try.ntmps30
      go_wp2_with fail
      go_quiet (fail)
      rename_i nq
      have B1 : RowKit.Hid (Below w.heap.size w (w.drewN nq)) := Lib.hid (bdrewN (Below.refl _ _) nq)
      obtain ⟨bq, hM1⟩ : ∃ q : Option Addr × Nat × Nat, TryM P t L A.length C.length S (w.drewN nq) U cp k nv (.slice q.1 q.2.1 q.2.2) least st := ⟨(_, _, _), HM.out.keep B1.out⟩
      obtain ⟨aq, nn, cc⟩ := bq
      have M1 := Lib.hid hM1
      clear hM1
      have TB1 := Lib.hid (HB.out.trans ((HM.out.tb (Tn.of_below B1.out)).mono (Nat.le_refl _)))
      generalize w.drewN nq = w1 at *
      clear s0 s3 s6 s7 s8
      have s0 : w1.cell? ⟨t.sb, 0, none⟩ = some (.slice t.aw L.length t.cw) := M1.out.blk.cell 0
      have s5 : w1.cell? ⟨t.sb, 5, none⟩ = some nv := M1.out.blk.cell 5
      have s7 : w1.cell? ⟨t.sb, 7, none⟩ = some (.slice aq nn cc) := M1.out.blk.cell 7
      have hfr := M1.out.blk.frozen
      obtain ⟨an, cn, rfl, -⟩ := row_cell M1.out.now
      have hlt1 : t.sb < w1.heap.size := M1.out.blk.lt
      by_cases hkm : k = L.length
      case pos =>
        subst hkm
        have e1 : ((L.length : Int) == (L.length : Int)) = true := by simp
        obtain ⟨i3, hi, hi0, hi1, hi2⟩ := info_parts info3
        have hbz : RowKit.Hid ((w1.alloc (.cells #[] 3)).ownsRow w1.heap.size 3 1 (.slice (some ⟨w1.heap.size, 0, none⟩) 0 0) 0 []) := Lib.hid (World.ownsRow_lit w1 #[] 0 (Nat.le_refl _) (by unfold maxLen; omega) rfl)
        have RN : RowKit.Hid ((w1.alloc (.cells #[] 3)).ownsRow t.B 3 1 (.slice an L.length cn) L.length ((nowL cp L.length).map (Value.int .i64))) := Lib.hid (M1.out.now.alloc _)
        go_wp2_with (at_builtin; go_must (refine wpList_append_copy rfl (.tmp 31) (.tmp 35) 30 rfl t.B w1.heap.size 3 i3 (.int .i64 0) 8 Try.underlying30 hi hi0 hi1 hi2 rfl rfl hbz.out _ L.length _ RN.out rfl (ints1 _) (by unfold maxLen; omega) (by omega) ?_))
        intro gb cap w2 hrow hg
        have B2 : RowKit.Hid (Below w1.heap.size w1 w2) := Lib.hid ((((Tn.refl (fun _ => False) w1).alloc (.cells #[] 3)).then_ (Tn.of_grown hg) fun b e => .inr (by injection e with e; omega)).below (Nat.le_refl _) fun _ h => h.elim)
        have M2 := Lib.hid (M1.out.keep B2.out)
        have R2 := Lib.hid hrow
        have GB : RowKit.Hid (w1.heap.size ≤ gb ∧ gb < w2.heap.size) := Lib.hid (row_lt hrow gb rfl)
        have z6 : w2.cell? ⟨t.sb, 6, none⟩ = some (.int .i64 sm) := by rw [HSM.out]; exact M2.out.blk.cell 6
        have z7 : w2.cell? ⟨t.sb, 7, none⟩ = some (.slice aq nn cc) := M2.out.blk.cell 7
        have z8 : w2.cell? ⟨t.sb, 8, none⟩ = some (.int .i64 least) := M2.out.blk.cell 8
        have zf := M2.out.blk.frozen
        have MM : RowKit.Hid (TryM P t L A.length C.length S ((w2.setCell ⟨t.sb, 7, none⟩ (.slice (some ⟨gb, 0, none⟩) L.length cap)).setCell ⟨t.sb, 8, none⟩ (.int .i64 sm)) U cp L.length (.slice an L.length cn) (.slice (some ⟨gb, 0, none⟩) L.length cap) sm (some cp)) := Lib.hid (by
          have l1 := M1.out.blk.lt
          have l2 := M1.out.used.lt
          refine M2.out.best_set HPM.out.1 (fun j hj => ?_) GB.out.2 ?_ ?_ ?_ ?_ HSM.out
          · obtain ⟨_, _, e9, h9 | ⟨g9, e8, -, h9⟩⟩ := row_cell hrow
            · omega
            · obtain rfl : gb = g9 := by injection e9 with a1 a2 a3; rw [← a1] at e8; injection e8 with e8; injection e8
              exact h9 j (.int .i64 (oi (cp j))) (by rw [List.getElem?_map, nowL, List.getElem?_map, List.getElem?_range hj]; rfl)
          · have := GB.out.1; have := M1.out.ne.2.2.2.1; omega
          · have := GB.out.1; omega
          · have := GB.out.1; omega
          · intro e; have := (row_lt M1.out.now _ e).2; have := GB.out.1; omega)
        have FE : RowKit.Hid (TryE P S cp L.length st (some cp)) := Lib.hid (by
          have := TryE.full (P := P) (S := S) (cp := cp) (st := st) HT.out.mat (fun j => by
            rcases Nat.lt_or_ge j L.length with h | h
            · exact HT.out.srv j h
            · rw [HT.out.off j h, HS.out j h]; rfl) (fun g hg => by have := HW.out g hg; rw [HSM.out] at this; show sumN (P.one cp) P.m < P.tot g; rw [HPM.out.1]; exact this)
          rw [HPM.out.1] at this
          exact this)
        have TT : RowKit.Hid (Tn (TryF t (.slice an L.length cn)) w ((w2.setCell ⟨t.sb, 7, none⟩ (.slice (some ⟨gb, 0, none⟩) L.length cap)).setCell ⟨t.sb, 8, none⟩ (.int .i64 sm))) := Lib.hid
          ((((Tn.of_below B1.out).trans (Tn.of_below B2.out)).setCell (p := ⟨t.sb, 7, none⟩) (.inl (.inl rfl)) _).setCell (p := ⟨t.sb, 8, none⟩) (.inl (.inl rfl)) _)
        clear hrow hg hi hi0 hi1 hi2 s0 s5 s7 hfr e1
        go_wp2_with fail
        refine bodyPost_ret (results_none rfl _ _ _) rfl ?_
        exact ⟨rfl, _, _, _, _, MM.out, FE.out, TT.out, fun b e => .inl e⟩
      have hkl : k < L.length := by omega
      have e1 : ((k : Int) == (L.length : Int)) = false := by simp; omega
      have e2 : (k == L.length) = false := by simpa using hkm
      obtain ⟨vb, hsv, hv1, hv2, hv3, hvc⟩ := M1.out.srv k hkl
      have s3 : w1.cell? ⟨t.sb, 3, none⟩ = some (.slice (some ⟨vb, 0, none⟩) L.length t.cs) := by rw [← hsv]; exact M1.out.blk.cell 3
      have HN : RowKit.Hid (L.length - (k + 1) < d ∧ k + 1 ≤ L.length) := Lib.hid ⟨by omega, by omega⟩
      have HKM := Lib.hid hkm
      clear hv1 hv2 hv3 hkm
      cases hsk : S k
      case false =>
        rw [hsk] at hvc
        have HSK := Lib.hid hsk
        obtain ⟨i3, hi, hi0, hi1, hi2⟩ := info_parts info3
        have RN : RowKit.Hid ((w1.alloc (.cells #[.int .i64 (-1)] 3)).ownsRow t.B 3 1 (.slice an k cn) k ((nowL cp k).map (Value.int .i64))) := Lib.hid (M1.out.now.alloc _)
        have hB1 : RowKit.Hid (t.B ≤ w1.heap.size) := Lib.hid (by have := M1.out.ne.2.2.2.1; omega)
        clear hsk
        go_wp2_with (at_builtin; go_must (refine wpList_append_lies _ rfl (.tmp 58) (.tmp 59) 30 rfl t.B 3 i3 (.int .i64 0) 1 8 Try.underlying30 hi hi0 hi1 hi2 rfl (by decide) _ k _ rfl RN.out ⟨w1.heap.size, 0, none⟩ 1 1 [.int .i64 (-1)] rfl rfl (news_ w1 _ 3) (one_ rfl) (by omega) (by unfold maxLen; omega) (by omega) (by have := hB1.out; simp; omega) (w1.heap.size + 1) (by simp) ?_))
        intro g cap w2 hown hgrow hat hlt5
        have PU := Lib.hid (M1.out.push_skip (w1 := w1.alloc (.cells #[.int .i64 (-1)] 3)) (g := g) (cap := cap) ((Below.refl _ _).alloc (Nat.le_refl _) _) (HT.out.off k (Nat.le_refl _)) hown hgrow (hat.imp id fun e => by omega))
        have T2 : RowKit.Hid (Tn (fun b => (Value.slice an k cn).ownBlock = some b) w1 w2) := Lib.hid ((Tn.of_below ((Below.refl _ _).alloc (Nat.le_refl _) (.cells #[.int .i64 (-1)] 3))).then_ (Tn.of_grown hgrow) fun b e => .inl e)
        have z5 : w2.cell? ⟨t.sb, 5, none⟩ = some (.slice an k cn) := T2.out.cell s5 M1.out.ne.1
        have zf : ∀ i, w2.frozen? ⟨t.sb, i, none⟩ = false := (T2.out.blk M1.out.blk M1.out.ne.1).frozen
        clear hown hgrow hat hlt5 hi hi0 hi1 hi2 s0 s5 s7 s3 hfr hvc e1
        go_wp2_with fail
        refine (IH.out (k + 1) U cp _ _ _ _ _ HN.out.1 HN.out.2 (TB1.out.trans (M1.out.tb PU.out.2.1)) (HT.out.skip HSK.out) PU.out.1).mono ?_
        rintro e w3 ⟨rfl, nv2, bv2, least2, st2, hM2, hE2, hT2, hN2⟩
        obtain ⟨an2, cn2, rfl, hq | ⟨g2, rfl, -, -⟩⟩ := row_cell hM2.now
        · omega
        have M3 := Lib.hid hM2
        have E3 := Lib.hid (hE2.skip HSK.out (HT.out.off k (Nat.le_refl _)))
        have T3 : RowKit.Hid (Tn (TryF t (.slice an k cn)) w (w3.setCell ⟨t.sb, 5, none⟩ (.slice (some ⟨g2, 0, none⟩) k cn2))) := Lib.hid ((((Tn.of_below B1.out).trans PU.out.2.1).then_ hT2 fun b e => by
          rcases e with e | e | e
          · exact .inl (.inl e)
          · exact .inl (.inr (.inl e))
          · rcases PU.out.2.2 b e with h | h
            · exact .inl (.inr (.inr h))
            · have := B1.out.size; exact .inr (by omega)).setCell (p := ⟨t.sb, 5, none⟩) (.inl (.inl rfl)) _)
        have N3 : RowKit.Hid (∀ b, (Value.slice (some ⟨g2, 0, none⟩) k cn2).ownBlock = some b → (Value.slice an k cn).ownBlock = some b ∨ w.heap.size ≤ b) := Lib.hid fun b e => by
          rcases hN2 b e with h | h
          · rcases PU.out.2.2 b h with h | h
            · exact .inl h
            · have := B1.out.size; exact .inr (by omega)
          · have := B1.out.size; have := PU.out.2.1.size; exact .inr (by omega)
        have M4 := Lib.hid (M3.out.pop_skip (HT.out.off k (Nat.le_refl _)))
        have z5 : w3.cell? ⟨t.sb, 5, none⟩ = some (.slice (some ⟨g2, 0, none⟩) (k + 1) cn2) := M3.out.blk.cell 5
        have zf := M3.out.blk.frozen
        have hcap : k + 1 ≤ cn2 := row_cap hM2.now
        clear hM2 hE2 hT2 hN2
        go_wp2_with fail
        refine bodyPost_ret (results_none rfl _ _ _) rfl ?_
        exact ⟨rfl, _, _, _, _, M4.out, E3.out, T3.out, N3.out⟩
      case true =>
        rw [hsk] at hvc
        have HSK := Lib.hid hsk
        clear hsk
        go_wp2_with fail
        clear s0 s3 s5 s7 hfr hvc e1 hlt1
        go_loopw [4] (fun v wr => ∃ (c : Nat) (nv' bv' : Value) (least' : Int) (st' : St), c ≤ A.length ∧ v = .int .i64 c ∧ TryM P t L A.length C.length S wr U cp k nv' bv' least' st' ∧ LoopE P S cp k c st st' ∧ Tn (TryF t (.slice an k cn)) w wr ∧ ∀ b, nv'.ownBlock = some b → (Value.slice an k cn).ownBlock = some b ∨ w.heap.size ≤ b) (fun v _ => A.length - (intOf v).toNat)
        case atStart => exact ⟨0, _, _, _, _, by omega, rfl, M1.out, LoopE.start, Tn.of_below B1.out, fun b e => .inl e⟩
        case round =>
          obtain ⟨c, nv1, bv1, least1, st1, hc, rfl, hM, hLE, hTn, hN⟩ := hrel
          obtain ⟨an1, cn1, rfl, -⟩ := row_cell hM.now
          have M := Lib.hid hM
          have LE := Lib.hid hLE
          have T := Lib.hid hTn
          have N := Lib.hid hN
          have TB := Lib.hid (HB.out.trans (HM.out.tb hTn))
          have s0 : wr.cell? ⟨t.sb, 0, none⟩ = some (.slice t.aw L.length t.cw) := M.out.blk.cell 0
          have s1 : wr.cell? ⟨t.sb, 1, none⟩ = some (.slice t.aa A.length t.ca) := M.out.blk.cell 1
          clear hM hLE hTn hN
          by_cases hcl : c < A.length
          · obtain ⟨aw1, cw1, hw, hw2⟩ := HL.out
            rcases hw2 with h | ⟨bw, ow, haw, hbw, hcw⟩
            · rw [h] at hkl; simp at hkl
            have haw' : t.aw = some ⟨bw, ow, none⟩ := by injection hw with h1 h2 h3; rw [h1, haw]
            obtain ⟨u, e0', e1', hu⟩ := hcw k hkl
            have e0 := (TB.out.cell (p := ⟨bw, ow + k * 2, none⟩) hbw).trans e0'
            have e1 := (TB.out.cell (p := ⟨bw, ow + k * 2 + 1, none⟩) hbw).trans e1'
            have E0 := Lib.hid e0'
            have HAW := Lib.hid haw'
            have HBW := Lib.hid hbw
            rw [haw'] at s0
            have hac := HAC.out k c hcl
            have hcs := HCS.out k c
            have hbd := HBD.out k c
            have KA := Lib.hid (accepts_any t.B (L.getD k noW).1 u (L.getD k noW).2 (c : Int) wr (hu.below TB.out (Nat.le_refl _)) (by have := HL2.out k; omega))
            obtain ⟨pp, hpp⟩ : ∃ pp, pp = (L.getD k noW).1 := ⟨_, rfl⟩
            obtain ⟨lk, hlk⟩ : ∃ lk, lk = (L.getD k noW).2 := ⟨_, rfl⟩
            rw [← hpp] at e0 KA E0 hcs
            rw [← hlk] at hac KA
            have HAC1 := Lib.hid hac
            have HCS1 := Lib.hid hcs
            have HBD1 := Lib.hid hbd
            clear hw haw hbw hcw haw' e0' e1' hu hac hcs hbd hpp hlk
            go_wp2_with fail
            refine KA.out.mono ?_
            rintro e w4 ⟨rfl, hb4⟩
            have M4 := Lib.hid (M.out.keep hb4)
            have T4 := Lib.hid (T.out.trans (Tn.of_below hb4))
            have TB4 := Lib.hid (HB.out.trans (HM.out.tb T4.out))
            have B4 := Lib.hid hb4
            clear hb4 s0 s1 e0 e1
            have s4 : w4.cell? ⟨t.sb, 4, none⟩ = some (.slice (some ⟨t.ub, 0, none⟩) A.length A.length) := M4.out.blk.cell 4
            by_cases hin : (c : Int) ∈ lk
            case neg =>
              rw [decide_eq_false hin]
              have N2 := Lib.hid (LE.out.next fun q hq e => hin (HAC1.out.1 (hq.mat.ok e).2))
              clear hin
              go_wp2_with fail
              exact ⟨⟨c + 1, _, _, _, _, by omega, by go_num, M4.out, N2.out, T4.out, N.out⟩, by simp [intOf]; omega⟩
            rw [decide_eq_true hin]
            have HIN := Lib.hid (HAC1.out.2 hin)
            clear hin
            have uc : w4.cell? ⟨t.ub, c, none⟩ = some (.bool (U c)) := M4.out.used.cellE (arr_get _ hcl)
            cases huc : U c
            case true =>
              rw [huc] at uc
              have N2 := Lib.hid (LE.out.next fun q hq e => by
                obtain ⟨j, hj⟩ := (HT.out.use c).1 huc
                have hjk : j < k := by
                  rcases Nat.lt_or_ge j k with h | h
                  · exact h
                  · rw [HT.out.off j h] at hj; cases hj
                have h1 := hq.pre j hjk
                rw [hj] at h1
                have := hq.mat.inj h1 e
                omega)
              clear huc
              go_wp2_with fail
              exact ⟨⟨c + 1, _, _, _, _, by omega, by go_num, M4.out, N2.out, T4.out, N.out⟩, by simp [intOf]; omega⟩
            case false =>
              rw [huc] at uc
              have HUC := Lib.hid huc
              obtain ⟨aa1, ca1, hw, hw2⟩ := HA.out
              rcases hw2 with h | ⟨ba, oa, haa, hba, hca⟩
              · rw [h] at hcl; simp at hcl
              have haa' : t.aa = some ⟨ba, oa, none⟩ := by injection hw with h1 h2 h3; rw [h1, haa]
              have f1 := (TB4.out.cell (p := ⟨ba, oa + c, none⟩) hba).trans (hca c hcl)
              have f2 := (TB4.out.cell (p := ⟨bw, ow + k * 2, none⟩) HBW.out).trans E0.out
              have s0 : w4.cell? ⟨t.sb, 0, none⟩ = some (.slice (some ⟨bw, ow, none⟩) L.length t.cw) := by rw [← HAW.out]; exact M4.out.blk.cell 0
              have s1 : w4.cell? ⟨t.sb, 1, none⟩ = some (.slice (some ⟨ba, oa, none⟩) A.length t.ca) := by rw [← haa']; exact M4.out.blk.cell 1
              have s2 : w4.cell? ⟨t.sb, 2, none⟩ = some (.slice t.ac C.length t.cc) := M4.out.blk.cell 2
              have hcs := HCS1.out
              obtain ⟨ax, hax⟩ : ∃ ax, ax = A.getD c 0 := ⟨_, rfl⟩
              obtain ⟨z, hz⟩ : ∃ z, z = P.cst k c := ⟨_, rfl⟩
              have hz0 := HBD1.out
              rw [← hax] at f1 hcs
              rw [← hz] at hcs hz0
              have HZ := Lib.hid hz
              have KW2 : RowKit.Hid (∀ n, Calls Try.prog 21 #[.slice t.ac C.length t.cc, .int .i64 ax, .int .i64 pp] (w4.drewN n) fun e w' => e = .returned (.int .i64 z) ∧ w' = w4.drewN n) := Lib.hid fun n => by
                rw [hcs]; exact (rway_any t.B _ C ax pp _ (HC.out.below (bdrewN TB4.out n) (Nat.le_refl _)) HCC.out).mono fun _ _ h => ⟨h.1, h.2.symm⟩
              have hwr : IntKind.i64.wrap (sm + z) = sm + z := IntWalk.i64_in _ (by omega)
              have hwr2 : IntKind.i64.wrap (sm + z - z) = sm := by rw [IntWalk.i64_in _ (by omega)]; omega
              have HWR := Lib.hid (And.intro hwr hwr2)
              have hclb : (c : Int) < (A.length : Int) := by omega
              have hklb : (k : Int) < (L.length : Int) := by omega
              clear huc hw haa hca haa' hcs hax hz hwr hwr2
              go_wp2_with fail
              go_quiet ((go_at_call 21; exact Calls.quiet_of_same (KW2.out _)))
              rename_i nq
              have M5 := Lib.hid (M4.out.keep (w' := w4.drewN nq) (bdrewN (Below.refl _ _) nq))
              have T5 := Lib.hid (T4.out.trans (Tn.of_below (bdrewN (Below.refl _ _) nq)))
              have B45 : RowKit.Hid (Below wr.heap.size wr (w4.drewN nq)) := Lib.hid (bdrewN B4.out nq)
              generalize w4.drewN nq = w5 at *
              clear f1 f2 s0 s1 s2 s4 uc KW2
              have s4 : w5.cell? ⟨t.sb, 4, none⟩ = some (.slice (some ⟨t.ub, 0, none⟩) A.length A.length) := M5.out.blk.cell 4
              have s5 : w5.cell? ⟨t.sb, 5, none⟩ = some (.slice an1 k cn1) := M5.out.blk.cell 5
              have uc : w5.cell? ⟨t.ub, c, none⟩ = some (.bool (U c)) := M5.out.used.cellE (arr_get _ hcl)
              have uf := M5.out.used.frozen
              have U6 : RowKit.Hid (Blk (w5.setCell ⟨t.ub, c, none⟩ (.bool true)) t.ub (encB (upU U c true) A.length) 4) := Lib.hid ((M5.out.used.set c (.bool true)).cast (encB_set U hcl true))
              have T6 : RowKit.Hid (Tn (fun b => b = t.ub) w5 (w5.setCell ⟨t.ub, c, none⟩ (.bool true))) := Lib.hid ((Tn.refl (fun b => b = t.ub) w5).setCell (p := ⟨t.ub, c, none⟩) (.inl rfl) _)
              have hne := M5.out.ne.2.2.1
              have K6 : RowKit.Hid (Blk (w5.setCell ⟨t.ub, c, none⟩ (.bool true)) t.sb _ 70) := Lib.hid (T6.out.blk M5.out.blk hne)
              have z5 : (w5.setCell ⟨t.ub, c, none⟩ (.bool true)).cell? ⟨t.sb, 5, none⟩ = some (.slice an1 k cn1) := K6.out.cell 5
              obtain ⟨i3, hi, hi0, hi1, hi2⟩ := info_parts info3
              have RN : RowKit.Hid (((w5.setCell ⟨t.ub, c, none⟩ (.bool true)).alloc (.cells #[.int .i64 c] 3)).ownsRow t.B 3 1 (.slice an1 k cn1) k ((nowL cp k).map (Value.int .i64))) := Lib.hid ((T6.out.row M5.out.now fun r hr e => by subst e; exact M5.out.ne.2.1 hr).alloc _)
              have hB1 : RowKit.Hid (t.B ≤ (w5.setCell ⟨t.ub, c, none⟩ (.bool true)).heap.size) := Lib.hid (by have := K6.out.lt; have := M5.out.ne.2.2.2.1; omega)
              have H6 : RowKit.Hid ((w5.setCell ⟨t.ub, c, none⟩ (.bool true)).heap.size = w5.heap.size) := Lib.hid (by simp)
              have NW : RowKit.Hid (∀ j u, [Value.int .i64 (c : Int)][j]? = some u → ((w5.setCell ⟨t.ub, c, none⟩ (.bool true)).alloc (.cells #[.int .i64 c] 3)).cell? ((⟨w5.heap.size, 0, none⟩ : Addr).add j) = some u) := Lib.hid (by rw [← H6.out]; exact news_ (w5.setCell ⟨t.ub, c, none⟩ (.bool true)) _ 3)
              go_wp2_with (at_builtin; go_must (refine wpList_append_lies _ rfl (.tmp 135) (.tmp 137) 30 rfl t.B 3 i3 (.int .i64 0) 1 8 Try.underlying30 hi hi0 hi1 hi2 rfl (by decide) _ k _ rfl RN.out ⟨w5.heap.size, 0, none⟩ 1 1 [.int .i64 c] rfl rfl NW.out (one_ rfl) (by omega) (by unfold maxLen; omega) (by omega) (by rw [size_alloc]; have := hB1.out; omega) (w5.heap.size + 1) (by rw [size_alloc, H6.out]) ?_))
              intro g cap w7 hown hgrow hat hlt5
              have PU := Lib.hid (M5.out.push_take (w1 := (w5.setCell ⟨t.ub, c, none⟩ (.bool true)).alloc (.cells #[.int .i64 c] 3)) (g := g) (cap := cap) (c := c) (s := sm + z) (T6.out.alloc _) (U6.out.alloc _) hown (by rw [HZ.out, HSM.out]) hgrow (hat.imp id fun e => by omega))
              have T7 : RowKit.Hid (Tn (fun b => b = t.ub ∨ (Value.slice an1 k cn1).ownBlock = some b) w5 w7) := Lib.hid (((T6.out.alloc (.cells #[.int .i64 c] 3)).mono fun b e => .inl e).then_ (Tn.of_grown hgrow) fun b e => .inl (.inr e))
              have K7 : RowKit.Hid (Blk w7 t.sb _ 70) := Lib.hid (T7.out.blk M5.out.blk fun e => e.elim hne M5.out.ne.1)
              have z5' : w7.cell? ⟨t.sb, 5, none⟩ = some (.slice an1 k cn1) := K7.out.cell 5
              have z6 : w7.cell? ⟨t.sb, 6, none⟩ = some (.int .i64 sm) := by rw [HSM.out]; exact K7.out.cell 6
              have zf : ∀ i, w7.frozen? ⟨t.sb, i, none⟩ = false := K7.out.frozen
              have hwr := HWR.out.1
              have hwr2 := HWR.out.2
              clear hown hgrow hat hlt5 hi hi0 hi1 hi2 s4 s5 z5 uc uf
              go_wp2_with fail
              refine (IH.out (k + 1) (upU U c true) (upC cp k (some c)) _ _ _ st1 _ HN.out.1 HN.out.2 (TB.out.trans (M.out.tb (((Tn.of_below (w := wr) (F := TryF t (.slice an1 k cn1)) B45.out)).trans PU.out.2.1))) (HT.out.take HSK.out (by have := HPM.out; omega) HIN.out HUC.out) PU.out.1).mono ?_
              rintro e w8 ⟨rfl, nv2, bv2, least2, st2, hM2, hE2, hT2, hN2⟩
              obtain ⟨an2, cn2, rfl, hq | ⟨g2, rfl, -, -⟩⟩ := row_cell hM2.now
              · omega
              have M8 := Lib.hid hM2
              have E8 := Lib.hid (LE.out.step hE2)
              have P8 := Lib.hid (M8.out.pop_take (U := U) (cp := cp) (s := sm) hcl rfl HUC.out rfl HSM.out)
              have T8 : RowKit.Hid (Tn (TryF t (.slice an k cn)) w (((w8.setCell ⟨t.sb, 6, none⟩ (.int .i64 sm)).setCell ⟨t.sb, 5, none⟩ (.slice (some ⟨g2, 0, none⟩) k cn2)).setCell ⟨t.ub, c, none⟩ (.bool false))) := Lib.hid ((((((T5.out.then_ PU.out.2.1 fun b e => by
                rcases e with e | e | e
                · exact .inl (.inl e)
                · exact .inl (.inr (.inl e))
                · exact (N.out b e).imp (fun h => .inr (.inr h)) id).then_ hT2 fun b e => by
                rcases e with e | e | e
                · exact .inl (.inl e)
                · exact .inl (.inr (.inl e))
                · rcases PU.out.2.2 b e with h | h
                  · exact (N.out b h).imp (fun h => .inr (.inr h)) id
                  · have := T5.out.size; exact .inr (by omega)).setCell (p := ⟨t.sb, 6, none⟩) (.inl (.inl rfl)) _).setCell (p := ⟨t.sb, 5, none⟩) (.inl (.inl rfl)) _).setCell (p := ⟨t.ub, c, none⟩) (.inl (.inr (.inl rfl))) _))
              have N8 : RowKit.Hid (∀ b, (Value.slice (some ⟨g2, 0, none⟩) k cn2).ownBlock = some b → (Value.slice an k cn).ownBlock = some b ∨ w.heap.size ≤ b) := Lib.hid fun b e => by
                have q5 := T5.out.size
                have q6 := PU.out.2.1.size
                rcases hN2 b e with h | h
                · rcases PU.out.2.2 b h with h | h
                  · exact N.out b h
                  · exact .inr (by omega)
                · exact .inr (by omega)
              have y6 : w8.cell? ⟨t.sb, 6, none⟩ = some (.int .i64 (sm + z)) := by
                have h6 : w8.cell? ⟨t.sb, 6, none⟩ = some (.int .i64 (sumN (P.one (upC cp k (some c))) (k + 1))) := M8.out.blk.cell 6
                rw [sum_up, ← HSM.out, ← HZ.out] at h6
                exact h6
              have y5 : w8.cell? ⟨t.sb, 5, none⟩ = some (.slice (some ⟨g2, 0, none⟩) (k + 1) cn2) := M8.out.blk.cell 5
              have y4 : w8.cell? ⟨t.sb, 4, none⟩ = some (.slice (some ⟨t.ub, 0, none⟩) A.length A.length) := M8.out.blk.cell 4
              have yf := M8.out.blk.frozen
              have yu := M8.out.used.frozen
              have yc : w8.cell? ⟨t.ub, c, none⟩ = some (.bool true) := by
                have : w8.cell? ⟨t.ub, c, none⟩ = some (.bool (upU U c true c)) := M8.out.used.cellE (arr_get _ hcl)
                rw [this]; unfold upU; rw [if_pos rfl]
              have hcap : k + 1 ≤ cn2 := row_cap hM2.now
              clear hM2 hE2 hT2 hN2 z5' z6 zf hwr
              go_wp2_with fail
              exact ⟨⟨c + 1, _, _, _, _, by omega, by go_num, P8.out, E8.out, T8.out, N8.out⟩, by simp [intOf]; omega⟩
          · obtain rfl : c = A.length := by omega
            have HF : RowKit.Hid (TryE P S cp k st st1) := Lib.hid (TryE.of_loop HSK.out (by rw [HPM.out.2]; exact LE.out))
            go_wp2_with fail
            refine bodyPost_ret (results_none rfl _ _ _) rfl ?_
            exact ⟨rfl, _, _, _, _, M.out, HF.out, T.out, N.out⟩
end Go.Proofs.Ytpcmppamkgkdlaa
