/- The contract of lower: the least copy with which the assignment stays as cheap. -/
import Derived.Test.YtpcmppamkgkdlaaSN
import Derived.Deep.LoopGhost
import Derived.StillTailTactics
import Derived.IntWalk
namespace Go.Proofs.Ytpcmppamkgkdlaa
open Go.RowKit Go.Shelf

set_option maxRecDepth 100000 in
set_option maxHeartbeats 8000000 in
theorem lower_any {P : Prob} (hP : Fits P) (s : SL) {cp wn : Nat → Option Nat} (hm : Mat P cp) (hc : Con cp wn) {f : Nat → Int} (hf : Pot P 0 cp wn f) (w : World) {k old : Nat} (hk : cp k = some old) (h : SM P s w cp wn) :
    Calls Try.prog 27 #[pt s.sb, .int .i64 k] w (LowE P s cp k f w) := by
  have hn1 := hP.n
  have hm1 := hP.m
  have hl1 := hP.len k
  have HP := Lib.hid hP
  have HM := Lib.hid hm
  have HC := Lib.hid hc
  have HFP := Lib.hid hf
  have H := Lib.hid h
  have HK := Lib.hid hk
  have hkm : k < P.m := (hm.ok hk).1
  have HOA := Lib.hid (hm.ok hk).2
  have hon : old < P.n := P.lt k old (hm.ok hk).2
  obtain ⟨i0, hi, hz0, hz1, hz2⟩ := info_parts info3
  have HI0 := Lib.hid (And.intro hi (And.intro hz0 (And.intro hz1 hz2)))
  clear hP hm hc hf h hk hi hz0 hz1 hz2
  go_enter Try.func27, Try.ntmps27
  go_wp2_with fail
  have KE := Lib.hid (edges_any HP.out s cp wn w k (Nat.le_of_lt hkm) HM.out H.out)
  refine KE.out.mono ?_
  rintro e w1 ⟨ev, rfl, hev, hb1⟩
  have EV := Lib.hid hev
  have B1 := Lib.hid hb1
  have S1 := Lib.hid (H.out.below hb1)
  have hz1 := hb1.size
  clear hev hb1 KE
  obtain ⟨ga, capa, a2, cap2, hav, hga, hu, hI⟩ := S1.out.acc_at hkm
  have HI := Lib.hid hI
  have s0 : w1.cell? ⟨s.sb, 0, none⟩ = some (.slice (some ⟨ga, 0, none⟩) P.m capa) := by have := S1.out.blk.cell 0; rw [← hav]; exact this
  clear hav hI
  go_wp2_with fail
  go_loopw [26] (fun x wr => ∃ i : Nat, i ≤ (P.acc k).length ∧ x = .int .i64 i ∧ Below w1.heap.size w1 wr ∧ ∀ d, d ∈ (P.acc k).take i → d < old → Rej P cp k d) (fun x _ => (P.acc k).length - (intOf x).toNat)
  case atStart => exact ⟨0, by omega, rfl, Below.refl _ _, fun d hd => by simp at hd⟩
  case round =>
    obtain ⟨wo, rfl⟩ : ∃ wo : World, wo = wr := ⟨_, rfl⟩
    obtain ⟨i, hi, rfl, hb, hrj⟩ := hrel
    have B2 := Lib.hid hb
    have RJ := Lib.hid hrj
    have S2 := Lib.hid (S1.out.below hb)
    have hz2 := hb.size
    have TW : RowKit.Hid (Tn s.F w wo) := Lib.hid ((Tn.of_below B1.out).trans (Tn.of_below hb))
    clear hb hrj
    by_cases hlt : i < (P.acc k).length
    · rcases HI.out with h | ⟨b, o, rfl, hbb, hcl⟩
      · rw [h] at hlt; simp at hlt
      have e0 := Below.cellE B2.out (hcl i hlt)
      have HCL := Lib.hid hcl
      have HMEM : RowKit.Hid ((P.acc k).getD i 0 ∈ P.acc k) := Lib.hid (by rw [getD_get _ _ hlt]; exact List.getElem_mem hlt)
      have BF := Lib.hid (fun d hd h => before_of (HP.out.sort k) (d := d) hlt hd h)
      have TS : RowKit.Hid ((P.acc k).take (i + 1) = (P.acc k).take i ++ [(P.acc k).getD i 0]) := Lib.hid (take_succD i hlt)
      have hcn := P.lt k _ HMEM.out
      obtain ⟨c, hc⟩ : ∃ c, c = (P.acc k).getD i 0 := ⟨_, rfl⟩
      rw [← hc] at e0 HMEM BF TS hcn
      have NX : RowKit.Hid (Rej P cp k c → ∀ d, d ∈ (P.acc k).take (i + 1) → d < old → Rej P cp k d) := Lib.hid (fun hr d hd hlt => by
        rw [TS.out] at hd
        rcases List.mem_append.1 hd with h | h
        · exact RJ.out d h hlt
        · simp at h; rw [h]; exact hr)
      clear hcl hc
      have s3 : wo.cell? ⟨s.sb, 3, none⟩ = some (.slice (some ⟨s.cb, 0, none⟩) P.m P.m) := S2.out.blk.cell 3
      have s4 : wo.cell? ⟨s.sb, 4, none⟩ = some (.slice (some ⟨s.wb, 0, none⟩) P.n P.n) := S2.out.blk.cell 4
      have c0 : wo.cell? ⟨s.cb, k, none⟩ = some (.int .i64 (old : Int)) := by rw [S2.out.cp_at hkm, HK.out]; rfl
      by_cases hco : old ≤ c
      · have hco1 : decide ((old : Int) ≤ (c : Int)) = true := by simp; omega
        have hco2 : decide (old ≤ c) = true := by simpa using hco
        have HFIN : RowKit.Hid (LowE P s cp k f w (.returned (.tuple #[])) wo) := Lib.hid (low_keep HM.out HC.out HFP.out HK.out (fun d hd hl => RJ.out d (BF.out d hd (by omega)) hl) S2.out TW.out)
        clear hco
        go_wp2_with fail
        refine bodyPost_ret (results_none rfl _ _ _) rfl ?_
        exact HFIN.out
      · have hco1 : decide ((old : Int) ≤ (c : Int)) = false := by simp; omega
        have hco2 : decide (old ≤ c) = false := by simp; omega
        have w0 := S2.out.wn_at hcn
        have hne : c ≠ old := by omega
        have HNE := Lib.hid hne
        have hcl : c < old := by omega
        cases hw : wn c with
        | none =>
          rw [hw] at w0
          have w0' : wo.cell? ⟨s.wb, c, none⟩ = some (.int .i64 (-1)) := w0
          clear w0 hw hne hco
          go_wp2_with fail
          have KP := Lib.hid (paths_any HP.out s cp wn wo (some c) (edL P k cp wn) ev w.heap.size (fun a h => by injection h with h; omega) (edges_ok HP.out HM.out HC.out) (EV.out.keep (Tn.of_below (F := fun _ => False) B2.out) (fun _ _ _ => id)) S2.out)
          refine KP.out.mono ?_
          rintro e w2 ⟨cb, bb, n, hn, rfl, hB, hcb, hbb, hb2, hend⟩
          have LOW := Lib.hid (low_of HP.out HM.out HC.out HFP.out HK.out HMEM.out HNE.out hn hend)
          have BDR := Bd.rounds (src := some c) (fun e he => ((edges_ok (first := k) HP.out HM.out HC.out).wt e he).1) (edges_ok (first := k) HP.out HM.out HC.out).len (n + 1) old
          have B3 : RowKit.Hid (Below w1.heap.size w1 w2) := Lib.hid (B2.out.trans (hb2.mono hz2))
          have S3 := Lib.hid (S2.out.below hb2)
          have HBM := Lib.hid hB
          have T3 : RowKit.Hid (Tn s.F w w2) := Lib.hid (TW.out.trans (Tn.of_below hb2))
          have hz3 := hb2.size
          obtain ⟨R, hR⟩ : ∃ R, R = rounds (edL P k cp wn) (some c) (n + 1) := ⟨_, rfl⟩
          rw [← hR] at HBM LOW BDR
          rw [← hR]
          clear hB hb2 KP hR hend s3 s4 c0 w0' e0
          obtain ⟨gk, capk, mb, hkv, hgk, hgc, hmb, hM⟩ := S3.out.cst_at hkm
          have s1 : w2.cell? ⟨s.sb, 1, none⟩ = some (.slice (some ⟨gk, 0, none⟩) P.m capk) := by have := S3.out.blk.cell 1; rw [← hkv]; exact this
          obtain ⟨y, hy⟩ : ∃ y, y = R.cost old := ⟨_, rfl⟩
          have HY := Lib.hid hy
          have k0 : w2.cell? ⟨cb, old, none⟩ = some (.int .i64 y) := by rw [hy]; exact HBM.out.cost.cellE (arr_get _ (by omega))
          rw [← hy] at BDR
          have l1 : ∀ q, (Instr.lookup 66 (.map (some mb)) (.int .i64 (c : Int)) false).run Try.prog (w2.drewN q) = .ok (.int .i64 (P.cst k c)) (w2.drewN q) := fun q => MapAt.look' (P := P) (w := w2.drewN q) (hM.keep (Tn.of_below (F := fun _ => False) (bdrewN (Below.refl _ _) q)) id) HMEM.out (by omega)
          have l2 : ∀ q, (Instr.lookup 66 (.map (some mb)) (.int .i64 (old : Int)) false).run Try.prog (w2.drewN q) = .ok (.int .i64 (P.cst k old)) (w2.drewN q) := fun q => MapAt.look' (P := P) (w := w2.drewN q) (hM.keep (Tn.of_below (F := fun _ => False) (bdrewN (Below.refl _ _) q)) id) HOA.out (by omega)
          have bc := HP.out.bd k c
          have bo := HP.out.bd k old
          have ik0 : (0 : Int) ≤ (k : Int) := by omega
          have ik1 : (k : Int) < (P.m : Int) := by omega
          have io0 : (0 : Int) ≤ (old : Int) := by omega
          have io1 : (old : Int) < ((P.n + 1 : Nat) : Int) := by omega
          have REJ : RowKit.Hid (y + P.cst k c - P.cst k old ≠ 0 → Rej P cp k c) := Lib.hid (fun h => LOW.out.rej (by rw [← HY.out]; omega))
          have YES : RowKit.Hid (y + P.cst k c - P.cst k old = 0 → R.cost old + (P.cst k c - P.cst k old) = 0) := Lib.hid (fun h => by rw [← HY.out]; omega)
          clear hy hkv hM
          obtain ⟨xc, hxc⟩ : ∃ xc, xc = P.cst k c := ⟨_, rfl⟩
          obtain ⟨xo, hxo⟩ : ∃ xo, xo = P.cst k old := ⟨_, rfl⟩
          rw [← hxc] at l1 bc REJ YES
          rw [← hxo] at l2 bo REJ YES
          have HXC := Lib.hid hxc
          have HXO := Lib.hid hxo
          clear hxc hxo
          go_wp2_with fail
          have hwr1 : IntKind.i64.wrap (y + xc) = y + xc := IntWalk.i64_in _ (by omega)
          have hwr2 : IntKind.i64.wrap (y + xc - xo) = y + xc - xo := IntWalk.i64_in _ (by omega)
          by_cases h0 : y + xc - xo = 0
          case neg =>
            have h01 : ((y + xc - xo) != 0) = true := by simpa using h0
            have RN := Lib.hid (NX.out (REJ.out h0))
            clear h0
            go_quiet (fail)
            rename_i nq
            clear hwr1 hwr2
            have B4 := Lib.hid (bdrewN B3.out nq)
            go_wp2_with fail
            exact ⟨⟨i + 1, by omega, by go_num, B4.out, RN.out⟩, by simp [intOf]; omega⟩
          have h01 : ((y + xc - xo) != 0) = false := by simpa using h0
          obtain ⟨L, hLn, hbk, hlts, hstop, hapart, hcirc, htot, hmk⟩ := LOW.out.yes (by rw [← HXC.out, ← HXO.out]; exact YES.out h0)
          have HBK := Lib.hid hbk
          have HLT := Lib.hid hlts
          have HST := Lib.hid hstop
          have HAP := Lib.hid hapart
          have HCI := Lib.hid hcirc
          have HTO := Lib.hid htot
          have HMK := Lib.hid hmk
          clear h0 hbk hlts hstop hapart hcirc htot hmk
          go_quiet (fail)
          rename_i nq
          clear hwr1 hwr2 h01
          have B4 := Lib.hid (bdrewN B3.out nq)
          have S4 := Lib.hid (S3.out.drewN nq)
          have T4 := Lib.hid (T3.out.drewN nq)
          have HB4 := Lib.hid (HBM.out.below (bdrewN (Below.refl _ _) nq))
          have hz4 : wo.heap.size ≤ (w2.drewN nq).heap.size := hz3
          clear l1 l2 s1 k0 B3 S3 T3 HBM hgc
          generalize w2.drewN nq = w4 at *
          have W5 := Lib.hid (row_zero (B := w4.heap.size) (Blk.new w4 #[] 3) (Nat.le_refl _))
          have B5 : RowKit.Hid (Below w4.heap.size w4 (w4.alloc (.cells #[] 3))) := Lib.hid ((Below.refl _ _).alloc (Nat.le_refl _) _)
          go_wp2_with fail
          obtain ⟨gb, hgb⟩ : ∃ gb, gb = w4.heap.size := ⟨_, rfl⟩
          obtain ⟨w5, hw5⟩ : ∃ w5, w5 = w4.alloc (.cells #[] 3) := ⟨_, rfl⟩
          rw [← hw5, ← hgb] at W5
          rw [← hw5] at B5
          rw [← hw5, ← hgb]
          have HGB : RowKit.Hid (gb = w4.heap.size) := Lib.hid hgb
          clear hgb hw5
          go_loopw [12, 13] (fun a x wr => ∃ (j : Nat) (lv : Value), j ≤ L ∧ x = .int .i64 (itr R.pre j old : Nat) ∧ a = lv ∧ wr.ownsRow gb 3 1 lv j ((xs R.pre old j).map (Value.int .i64)) ∧ Below w4.heap.size w4 wr) (fun a _ _ => L - (match a with | .slice _ n _ => n | _ => 0))
          case atStart => exact ⟨0, _, Nat.zero_le _, rfl, rfl, W5.out, B5.out⟩
          case round =>
            obtain ⟨j, lv, hjL, rfl, rfl, hrow, hb⟩ := hrel
            have R6 := Lib.hid hrow
            have B6 := Lib.hid hb
            have hz6 := hb.size
            have M6 := Lib.hid (HB4.out.below hb)
            obtain ⟨a5, c5, rfl, -⟩ := row_cell hrow
            have hgb2 : gb ≤ wr.heap.size := by have := HGB.out; omega
            have hbl2 : bb < gb := by have := HB4.out.bef.lt; have := HGB.out; omega
            clear hrow hb
            obtain ⟨hi, hi0, hi1', hi2⟩ := HI0.out
            have XS := Lib.hid (xs_succ R.pre old j)
            by_cases hltj : j < L
            · have hxi := HLT.out j hjL
              have hnex := HAP.out j hltj
              have b0 : wr.cell? ⟨bb, itr R.pre j old, none⟩ = some (.int .i64 (itr R.pre (j + 1) old : Nat)) := by
                rw [M6.out.bef.cellE (arr_get _ hxi), HBK.out j hltj]; rfl
              obtain ⟨z0, hz0⟩ : ∃ z0, z0 = itr R.pre j old := ⟨_, rfl⟩
              obtain ⟨z1, hz1'⟩ : ∃ z1, z1 = itr R.pre (j + 1) old := ⟨_, rfl⟩
              have HZ1 := Lib.hid hz1'
              rw [← hz0, ← hz1'] at b0
              rw [← hz0] at hxi hnex XS ⊢
              clear hz0 hz1'
              have hne1 : ((z0 : Int) != (c : Int)) = true := by simp; omega
              have hne2 : (z0 != c) = true := by simpa using hnex
              clear hnex
              go_wp2_with (at_builtin; go_must (refine wpList_append_own_at _ rfl (.tmp 98) (.tmp 100) 30 rfl gb 3 i0 (.int .i64 0) 1 8 Try.underlying30 hi hi0 hi1' hi2 rfl (by decide) _ j _ rfl (R6.out.alloc _) ⟨wr.heap.size, 0, none⟩ 1 1 [.int .i64 (z0 : Int)] rfl rfl (news_ wr _ 3) (one_ rfl) (by unfold maxLen; omega) (by omega) (by simp; omega) ?_))
              intro v' w7 hown hgrow _ hloc
              have T7 : RowKit.Hid (Tn (fun b => gb ≤ b) wr w7) := Lib.hid (((Tn.refl (fun b => gb ≤ b) wr).alloc (.cells #[.int .i64 (z0 : Int)] 3)).then_ (Tn.of_grown hgrow) fun b hb => .inl (row_lt R6.out b hb).1)
              have c7 : w7.cell? ⟨bb, z0, none⟩ = some (.int .i64 (z1 : Int)) := T7.out.cell b0 (by show ¬ gb ≤ bb; omega)
              have B7 : RowKit.Hid (Below w4.heap.size w4 w7) := Lib.hid (B6.out.trans (T7.out.below hz6 fun b hb => by have := HGB.out; omega))
              have R7 : RowKit.Hid (w7.ownsRow gb 3 1 v' (j + 1) ((xs R.pre old (j + 1)).map (Value.int .i64))) := Lib.hid (by rw [XS.out, List.map_append]; exact hown)
              obtain ⟨a8, c8, rfl, -⟩ := row_cell R7.out
              clear hown hgrow hloc b0 hi hi0 hi1' hi2
              go_wp2_with fail
              exact ⟨⟨j + 1, _, by omega, by rw [HZ1.out], rfl, R7.out, B7.out⟩, by simp; omega⟩
            · obtain rfl : j = L := by omega
              have hst : itr R.pre j old = c := HST.out
              rw [hst] at XS ⊢
              clear hst hltj
              go_wp2_with (at_builtin; go_must (refine wpList_append_own_at _ rfl (.tmp 102) (.tmp 104) 30 rfl gb 3 i0 (.int .i64 0) 1 8 Try.underlying30 hi hi0 hi1' hi2 rfl (by decide) _ j _ rfl (R6.out.alloc _) ⟨wr.heap.size, 0, none⟩ 1 1 [.int .i64 (c : Int)] rfl rfl (news_ wr _ 3) (one_ rfl) (by unfold maxLen; omega) (by omega) (by simp; omega) ?_))
              intro v' w7 hown hgrow _ hloc
              have T7 : RowKit.Hid (Tn (fun b => gb ≤ b) wr w7) := Lib.hid (((Tn.refl (fun b => gb ≤ b) wr).alloc (.cells #[.int .i64 (c : Int)] 3)).then_ (Tn.of_grown hgrow) fun b hb => .inl (row_lt R6.out b hb).1)
              have B7 : RowKit.Hid (Below w4.heap.size w4 w7) := Lib.hid (B6.out.trans (T7.out.below hz6 fun b hb => by have := HGB.out; omega))
              have R7 : RowKit.Hid (w7.ownsRow gb 3 1 v' (xs R.pre old (j + 1)).length ((xs R.pre old (j + 1)).map (Value.int .i64))) := Lib.hid (by rw [xs_len, XS.out, List.map_append]; exact hown)
              obtain ⟨a7, c7, rfl, hO, hob⟩ := own_of_row R7.out
              have HO := Lib.hid hO
              have HOB := Lib.hid hob
              have HL := Lib.hid (xs_len R.pre old (j + 1))
              rw [HL.out]
              have hz7 := B7.out.size
              clear hown hgrow hloc hi hi0 hi1' hi2 hO hob
              go_wp2_with fail
              have KR := Lib.hid (reverse_own a7 (xs R.pre old (j + 1)) (j + 1) c7 gb w7 HO.out HL.out.symm (by omega))
              refine KR.out.mono ?_
              rintro e w8 ⟨rfl, ho8, ht8⟩
              have hrl := row_lt R7.out
              have T8 : RowKit.Hid (Tn (fun b => gb ≤ b) w7 w8) := Lib.hid (ht8.mono fun b ⟨o, e⟩ => (hrl b (HOB.out b o e)).1)
              have B8 : RowKit.Hid (Below w4.heap.size w4 w8) := Lib.hid (B7.out.trans (T8.out.below hz7 fun b hb => by have := HGB.out; omega))
              have S8 := Lib.hid (S4.out.below B8.out)
              obtain ⟨g9, rfl, hg9, hcells⟩ := ho8.cells (by intro e; have := congrArg List.length e; simp [xs_len] at this)
              have CA : RowKit.Hid (CAt w8 s g9 (j + 1) (fun i => itr R.pre (j + 1 - 1 - i) old)) := Lib.hid ⟨fun i hi => by rw [hcells i (by rw [List.length_reverse, xs_len]; exact hi), xs_rev _ _ _ hi], by have := S4.out.lt; have := HGB.out; omega⟩
              have KA := Lib.hid (apply_any HP.out s HM.out HC.out HCI.out (by omega) w8 g9 c7 CA.out S8.out)
              clear ho8 ht8 hrl hcells KR HO HL HOB
              go_wp2_with fail
              refine KA.out.mono ?_
              rintro e w9 ⟨wq', rfl, hS9, hC9, hT9⟩
              have HFIN : RowKit.Hid (LowE P s cp k f w (.returned (.tuple #[])) w9) := Lib.hid (low_go HM.out HC.out HFP.out HCI.out HTO.out HMK.out (fun d hd hl => RJ.out d (BF.out d hd hl) (by omega)) hS9 hC9 ((T4.out.trans (Tn.of_below B8.out)).trans hT9))
              clear hS9 hC9 hT9 KA
              go_wp2_with fail
              refine bodyPost_ret (results_none rfl _ _ _) rfl ?_
              exact HFIN.out
        | some o =>
          rw [hw] at w0
          have w0' : wo.cell? ⟨s.wb, c, none⟩ = some (.int .i64 (o : Int)) := w0
          have ho1 : ((o : Int) != -1) = true := by simp
          by_cases hok : o < k
          · have hok1 : decide ((o : Int) < (k : Int)) = true := by simp; omega
            have hok2 : decide (o < k) = true := by simpa using hok
            have RN := Lib.hid (NX.out (Rej.owned ((HC.out o c).2 hw) hok))
            clear w0 hw hok hne hco
            go_wp2_with fail
            exact ⟨⟨i + 1, by omega, by go_num, B2.out, RN.out⟩, by simp [intOf]; omega⟩
          · have hok1 : decide ((o : Int) < (k : Int)) = false := by simp; omega
            have hok2 : decide (o < k) = false := by simp; omega
            clear w0 hw hok hne hco
            go_wp2_with fail
            have KP := Lib.hid (paths_any HP.out s cp wn wo (some c) (edL P k cp wn) ev w.heap.size (fun a h => by injection h with h; omega) (edges_ok HP.out HM.out HC.out) (EV.out.keep (Tn.of_below (F := fun _ => False) B2.out) (fun _ _ _ => id)) S2.out)
            refine KP.out.mono ?_
            rintro e w2 ⟨cb, bb, n, hn, rfl, hB, hcb, hbb, hb2, hend⟩
            have LOW := Lib.hid (low_of HP.out HM.out HC.out HFP.out HK.out HMEM.out HNE.out hn hend)
            have BDR := Bd.rounds (src := some c) (fun e he => ((edges_ok (first := k) HP.out HM.out HC.out).wt e he).1) (edges_ok (first := k) HP.out HM.out HC.out).len (n + 1) old
            have B3 : RowKit.Hid (Below w1.heap.size w1 w2) := Lib.hid (B2.out.trans (hb2.mono hz2))
            have S3 := Lib.hid (S2.out.below hb2)
            have HBM := Lib.hid hB
            have T3 : RowKit.Hid (Tn s.F w w2) := Lib.hid (TW.out.trans (Tn.of_below hb2))
            have hz3 := hb2.size
            obtain ⟨R, hR⟩ : ∃ R, R = rounds (edL P k cp wn) (some c) (n + 1) := ⟨_, rfl⟩
            rw [← hR] at HBM LOW BDR
            rw [← hR]
            clear hB hb2 KP hR hend s3 s4 c0 w0' e0
            obtain ⟨gk, capk, mb, hkv, hgk, hgc, hmb, hM⟩ := S3.out.cst_at hkm
            have s1 : w2.cell? ⟨s.sb, 1, none⟩ = some (.slice (some ⟨gk, 0, none⟩) P.m capk) := by have := S3.out.blk.cell 1; rw [← hkv]; exact this
            obtain ⟨y, hy⟩ : ∃ y, y = R.cost old := ⟨_, rfl⟩
            have HY := Lib.hid hy
            have k0 : w2.cell? ⟨cb, old, none⟩ = some (.int .i64 y) := by rw [hy]; exact HBM.out.cost.cellE (arr_get _ (by omega))
            rw [← hy] at BDR
            have l1 : ∀ q, (Instr.lookup 66 (.map (some mb)) (.int .i64 (c : Int)) false).run Try.prog (w2.drewN q) = .ok (.int .i64 (P.cst k c)) (w2.drewN q) := fun q => MapAt.look' (P := P) (w := w2.drewN q) (hM.keep (Tn.of_below (F := fun _ => False) (bdrewN (Below.refl _ _) q)) id) HMEM.out (by omega)
            have l2 : ∀ q, (Instr.lookup 66 (.map (some mb)) (.int .i64 (old : Int)) false).run Try.prog (w2.drewN q) = .ok (.int .i64 (P.cst k old)) (w2.drewN q) := fun q => MapAt.look' (P := P) (w := w2.drewN q) (hM.keep (Tn.of_below (F := fun _ => False) (bdrewN (Below.refl _ _) q)) id) HOA.out (by omega)
            have bc := HP.out.bd k c
            have bo := HP.out.bd k old
            have ik0 : (0 : Int) ≤ (k : Int) := by omega
            have ik1 : (k : Int) < (P.m : Int) := by omega
            have io0 : (0 : Int) ≤ (old : Int) := by omega
            have io1 : (old : Int) < ((P.n + 1 : Nat) : Int) := by omega
            have REJ : RowKit.Hid (y + P.cst k c - P.cst k old ≠ 0 → Rej P cp k c) := Lib.hid (fun h => LOW.out.rej (by rw [← HY.out]; omega))
            have YES : RowKit.Hid (y + P.cst k c - P.cst k old = 0 → R.cost old + (P.cst k c - P.cst k old) = 0) := Lib.hid (fun h => by rw [← HY.out]; omega)
            clear hy hkv hM
            obtain ⟨xc, hxc⟩ : ∃ xc, xc = P.cst k c := ⟨_, rfl⟩
            obtain ⟨xo, hxo⟩ : ∃ xo, xo = P.cst k old := ⟨_, rfl⟩
            rw [← hxc] at l1 bc REJ YES
            rw [← hxo] at l2 bo REJ YES
            have HXC := Lib.hid hxc
            have HXO := Lib.hid hxo
            clear hxc hxo
            go_wp2_with fail
            have hwr1 : IntKind.i64.wrap (y + xc) = y + xc := IntWalk.i64_in _ (by omega)
            have hwr2 : IntKind.i64.wrap (y + xc - xo) = y + xc - xo := IntWalk.i64_in _ (by omega)
            by_cases h0 : y + xc - xo = 0
            case neg =>
              have h01 : ((y + xc - xo) != 0) = true := by simpa using h0
              have RN := Lib.hid (NX.out (REJ.out h0))
              clear h0
              go_quiet (fail)
              rename_i nq
              clear hwr1 hwr2
              have B4 := Lib.hid (bdrewN B3.out nq)
              go_wp2_with fail
              exact ⟨⟨i + 1, by omega, by go_num, B4.out, RN.out⟩, by simp [intOf]; omega⟩
            have h01 : ((y + xc - xo) != 0) = false := by simpa using h0
            obtain ⟨L, hLn, hbk, hlts, hstop, hapart, hcirc, htot, hmk⟩ := LOW.out.yes (by rw [← HXC.out, ← HXO.out]; exact YES.out h0)
            have HBK := Lib.hid hbk
            have HLT := Lib.hid hlts
            have HST := Lib.hid hstop
            have HAP := Lib.hid hapart
            have HCI := Lib.hid hcirc
            have HTO := Lib.hid htot
            have HMK := Lib.hid hmk
            clear h0 hbk hlts hstop hapart hcirc htot hmk
            go_quiet (fail)
            rename_i nq
            clear hwr1 hwr2 h01
            have B4 := Lib.hid (bdrewN B3.out nq)
            have S4 := Lib.hid (S3.out.drewN nq)
            have T4 := Lib.hid (T3.out.drewN nq)
            have HB4 := Lib.hid (HBM.out.below (bdrewN (Below.refl _ _) nq))
            have hz4 : wo.heap.size ≤ (w2.drewN nq).heap.size := hz3
            clear l1 l2 s1 k0 B3 S3 T3 HBM hgc
            generalize w2.drewN nq = w4 at *
            have W5 := Lib.hid (row_zero (B := w4.heap.size) (Blk.new w4 #[] 3) (Nat.le_refl _))
            have B5 : RowKit.Hid (Below w4.heap.size w4 (w4.alloc (.cells #[] 3))) := Lib.hid ((Below.refl _ _).alloc (Nat.le_refl _) _)
            go_wp2_with fail
            obtain ⟨gb, hgb⟩ : ∃ gb, gb = w4.heap.size := ⟨_, rfl⟩
            obtain ⟨w5, hw5⟩ : ∃ w5, w5 = w4.alloc (.cells #[] 3) := ⟨_, rfl⟩
            rw [← hw5, ← hgb] at W5
            rw [← hw5] at B5
            rw [← hw5, ← hgb]
            have HGB : RowKit.Hid (gb = w4.heap.size) := Lib.hid hgb
            clear hgb hw5
            go_loopw [12, 13] (fun a x wr => ∃ (j : Nat) (lv : Value), j ≤ L ∧ x = .int .i64 (itr R.pre j old : Nat) ∧ a = lv ∧ wr.ownsRow gb 3 1 lv j ((xs R.pre old j).map (Value.int .i64)) ∧ Below w4.heap.size w4 wr) (fun a _ _ => L - (match a with | .slice _ n _ => n | _ => 0))
            case atStart => exact ⟨0, _, Nat.zero_le _, rfl, rfl, W5.out, B5.out⟩
            case round =>
              obtain ⟨j, lv, hjL, rfl, rfl, hrow, hb⟩ := hrel
              have R6 := Lib.hid hrow
              have B6 := Lib.hid hb
              have hz6 := hb.size
              have M6 := Lib.hid (HB4.out.below hb)
              obtain ⟨a5, c5, rfl, -⟩ := row_cell hrow
              have hgb2 : gb ≤ wr.heap.size := by have := HGB.out; omega
              have hbl2 : bb < gb := by have := HB4.out.bef.lt; have := HGB.out; omega
              clear hrow hb
              obtain ⟨hi, hi0, hi1', hi2⟩ := HI0.out
              have XS := Lib.hid (xs_succ R.pre old j)
              by_cases hltj : j < L
              · have hxi := HLT.out j hjL
                have hnex := HAP.out j hltj
                have b0 : wr.cell? ⟨bb, itr R.pre j old, none⟩ = some (.int .i64 (itr R.pre (j + 1) old : Nat)) := by
                  rw [M6.out.bef.cellE (arr_get _ hxi), HBK.out j hltj]; rfl
                obtain ⟨z0, hz0⟩ : ∃ z0, z0 = itr R.pre j old := ⟨_, rfl⟩
                obtain ⟨z1, hz1'⟩ : ∃ z1, z1 = itr R.pre (j + 1) old := ⟨_, rfl⟩
                have HZ1 := Lib.hid hz1'
                rw [← hz0, ← hz1'] at b0
                rw [← hz0] at hxi hnex XS ⊢
                clear hz0 hz1'
                have hne1 : ((z0 : Int) != (c : Int)) = true := by simp; omega
                have hne2 : (z0 != c) = true := by simpa using hnex
                clear hnex
                go_wp2_with (at_builtin; go_must (refine wpList_append_own_at _ rfl (.tmp 98) (.tmp 100) 30 rfl gb 3 i0 (.int .i64 0) 1 8 Try.underlying30 hi hi0 hi1' hi2 rfl (by decide) _ j _ rfl (R6.out.alloc _) ⟨wr.heap.size, 0, none⟩ 1 1 [.int .i64 (z0 : Int)] rfl rfl (news_ wr _ 3) (one_ rfl) (by unfold maxLen; omega) (by omega) (by simp; omega) ?_))
                intro v' w7 hown hgrow _ hloc
                have T7 : RowKit.Hid (Tn (fun b => gb ≤ b) wr w7) := Lib.hid (((Tn.refl (fun b => gb ≤ b) wr).alloc (.cells #[.int .i64 (z0 : Int)] 3)).then_ (Tn.of_grown hgrow) fun b hb => .inl (row_lt R6.out b hb).1)
                have c7 : w7.cell? ⟨bb, z0, none⟩ = some (.int .i64 (z1 : Int)) := T7.out.cell b0 (by show ¬ gb ≤ bb; omega)
                have B7 : RowKit.Hid (Below w4.heap.size w4 w7) := Lib.hid (B6.out.trans (T7.out.below hz6 fun b hb => by have := HGB.out; omega))
                have R7 : RowKit.Hid (w7.ownsRow gb 3 1 v' (j + 1) ((xs R.pre old (j + 1)).map (Value.int .i64))) := Lib.hid (by rw [XS.out, List.map_append]; exact hown)
                obtain ⟨a8, c8, rfl, -⟩ := row_cell R7.out
                clear hown hgrow hloc b0 hi hi0 hi1' hi2
                go_wp2_with fail
                exact ⟨⟨j + 1, _, by omega, by rw [HZ1.out], rfl, R7.out, B7.out⟩, by simp; omega⟩
              · obtain rfl : j = L := by omega
                have hst : itr R.pre j old = c := HST.out
                rw [hst] at XS ⊢
                clear hst hltj
                go_wp2_with (at_builtin; go_must (refine wpList_append_own_at _ rfl (.tmp 102) (.tmp 104) 30 rfl gb 3 i0 (.int .i64 0) 1 8 Try.underlying30 hi hi0 hi1' hi2 rfl (by decide) _ j _ rfl (R6.out.alloc _) ⟨wr.heap.size, 0, none⟩ 1 1 [.int .i64 (c : Int)] rfl rfl (news_ wr _ 3) (one_ rfl) (by unfold maxLen; omega) (by omega) (by simp; omega) ?_))
                intro v' w7 hown hgrow _ hloc
                have T7 : RowKit.Hid (Tn (fun b => gb ≤ b) wr w7) := Lib.hid (((Tn.refl (fun b => gb ≤ b) wr).alloc (.cells #[.int .i64 (c : Int)] 3)).then_ (Tn.of_grown hgrow) fun b hb => .inl (row_lt R6.out b hb).1)
                have B7 : RowKit.Hid (Below w4.heap.size w4 w7) := Lib.hid (B6.out.trans (T7.out.below hz6 fun b hb => by have := HGB.out; omega))
                have R7 : RowKit.Hid (w7.ownsRow gb 3 1 v' (xs R.pre old (j + 1)).length ((xs R.pre old (j + 1)).map (Value.int .i64))) := Lib.hid (by rw [xs_len, XS.out, List.map_append]; exact hown)
                obtain ⟨a7, c7, rfl, hO, hob⟩ := own_of_row R7.out
                have HO := Lib.hid hO
                have HOB := Lib.hid hob
                have HL := Lib.hid (xs_len R.pre old (j + 1))
                rw [HL.out]
                have hz7 := B7.out.size
                clear hown hgrow hloc hi hi0 hi1' hi2 hO hob
                go_wp2_with fail
                have KR := Lib.hid (reverse_own a7 (xs R.pre old (j + 1)) (j + 1) c7 gb w7 HO.out HL.out.symm (by omega))
                refine KR.out.mono ?_
                rintro e w8 ⟨rfl, ho8, ht8⟩
                have hrl := row_lt R7.out
                have T8 : RowKit.Hid (Tn (fun b => gb ≤ b) w7 w8) := Lib.hid (ht8.mono fun b ⟨o, e⟩ => (hrl b (HOB.out b o e)).1)
                have B8 : RowKit.Hid (Below w4.heap.size w4 w8) := Lib.hid (B7.out.trans (T8.out.below hz7 fun b hb => by have := HGB.out; omega))
                have S8 := Lib.hid (S4.out.below B8.out)
                obtain ⟨g9, rfl, hg9, hcells⟩ := ho8.cells (by intro e; have := congrArg List.length e; simp [xs_len] at this)
                have CA : RowKit.Hid (CAt w8 s g9 (j + 1) (fun i => itr R.pre (j + 1 - 1 - i) old)) := Lib.hid ⟨fun i hi => by rw [hcells i (by rw [List.length_reverse, xs_len]; exact hi), xs_rev _ _ _ hi], by have := S4.out.lt; have := HGB.out; omega⟩
                have KA := Lib.hid (apply_any HP.out s HM.out HC.out HCI.out (by omega) w8 g9 c7 CA.out S8.out)
                clear ho8 ht8 hrl hcells KR HO HL HOB
                go_wp2_with fail
                refine KA.out.mono ?_
                rintro e w9 ⟨wq', rfl, hS9, hC9, hT9⟩
                have HFIN : RowKit.Hid (LowE P s cp k f w (.returned (.tuple #[])) w9) := Lib.hid (low_go HM.out HC.out HFP.out HCI.out HTO.out HMK.out (fun d hd hl => RJ.out d (BF.out d hd hl) (by omega)) hS9 hC9 ((T4.out.trans (Tn.of_below B8.out)).trans hT9))
                clear hS9 hC9 hT9 KA
                go_wp2_with fail
                refine bodyPost_ret (results_none rfl _ _ _) rfl ?_
                exact HFIN.out
    · obtain rfl : i = (P.acc k).length := by omega
      have HFIN : RowKit.Hid (LowE P s cp k f w (.returned (.tuple #[])) wo) := Lib.hid (low_keep HM.out HC.out HFP.out HK.out (fun d hd hl => RJ.out d (by rw [List.take_length]; exact hd) hl) S2.out TW.out)
      go_wp2_with fail
      go_end0
      exact HFIN.out
end Go.Proofs.Ytpcmppamkgkdlaa
