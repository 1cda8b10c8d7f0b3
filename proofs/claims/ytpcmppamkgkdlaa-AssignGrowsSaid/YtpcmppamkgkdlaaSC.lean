/- The contract of find, by induction on the number of copies not seen. -/
import Derived.Test.YtpcmppamkgkdlaaSB
import Derived.StillTailTactics
import Derived.Deep.RegionHeld3
namespace Go.Proofs.Ytpcmppamkgkdlaa
open Go.RowKit Go.Maps

set_option maxRecDepth 100000 in
set_option maxHeartbeats 4000000 in
theorem find_any {P : Prob} (hP : Fits P) (s : SL) (xb yb zb g : Nat) (cp wn : Nat → Option Nat) (hm : Mat P cp) (hc : Con cp wn) (lim : Nat) (hwl : ∀ c j, wn c = some j → j < lim) :
    ∀ (n : Nat) (seen : Nat → Bool) (k : Nat) (w : World), cntF seen P.n < n → k < P.m → k < lim → (∀ d, cp k = some d → seen d = true) → FMem P s xb yb zb g w (ext lim cp) wn seen →
      Calls Try.prog 33 #[.int .i64 k, pt xb, pt yb, pt zb] w (FindE lim P s xb yb zb g w cp wn seen k) := by
  intro n
  induction n with
  | zero => intro seen k w h; omega
  | succ n ih =>
    intro seen k w hcnt hk hklim hown hF
    have IH := Lib.hid ih
    have HF := Lib.hid hF
    have HM := Lib.hid hm
    have HC := Lib.hid hc
    have HOW := Lib.hid hown
    have HWL := Lib.hid hwl
    have HP := Lib.hid hP
    obtain ⟨ga, capa, a2, cap2, hav, hga, hu, hI⟩ := hF.sm.acc_at hk
    have HI := Lib.hid hI
    have HAV := Lib.hid hav
    have hl1 := hP.len k
    have hm1 := hP.m
    have hn1 := hP.n
    have x0 : w.cell? ⟨xb, 0, none⟩ = some (pt s.sb) := hF.xs.cell 0
    have s0 : w.cell? ⟨s.sb, 0, none⟩ = some (.slice (some ⟨ga, 0, none⟩) P.m capa) := by have := hF.sm.blk.cell 0; rw [← hav]; exact this
    clear ih hF hm hc hown hP hI hav hwl
    go_enter Try.func33, Try.ntmps33
    go_wp2_with fail
    go_loopw [17] (fun v wr => ∃ (i : Nat) (si : Nat → Bool), i ≤ (P.acc k).length ∧ v = .int .i64 i ∧ FMem P s xb yb zb g wr (ext lim cp) wn si ∧ Tn (FF s g) w wr ∧ Look P wn seen si (P.acc k) i) (fun v _ => (P.acc k).length - (intOf v).toNat)
    case atStart => exact ⟨0, seen, by omega, rfl, HF.out, Tn.refl _ _, Look.start _ _ _ _⟩
    case round =>
      obtain ⟨i, si, hi, rfl, hF, hT, hL⟩ := hrel
      have F1 := Lib.hid hF
      have T1 := Lib.hid hT
      have L1 := Lib.hid hL
      clear hF hT hL
      by_cases hlt : i < (P.acc k).length
      · rcases HI.out with h | ⟨b, o, rfl, hb, hcl⟩
        · rw [h] at hlt; simp at hlt
        have e0 := T1.out.cell (hcl i hlt) (by show ¬ FF s g b; have := F1.out.sm.lo; have := F1.out.ng; unfold FF; omega)
        have HCL := Lib.hid hcl
        have HMEM : RowKit.Hid ((P.acc k).getD i 0 ∈ P.acc k) := Lib.hid (by rw [getD_get _ _ hlt]; exact List.getElem_mem hlt)
        have hcn := P.lt k _ HMEM.out
        have LSK := Lib.hid (fun h => L1.out.skip hlt h)
        have LLO := Lib.hid (fun s2 j (h1 : wn ((P.acc k).getD i 0) = some j) (h2 : Lost P wn (upd si ((P.acc k).getD i 0) true) s2 j) => L1.out.lost hlt h1 h2)
        obtain ⟨c, hc⟩ : ∃ c, c = (P.acc k).getD i 0 := ⟨_, rfl⟩
        rw [← hc] at e0 HMEM hcn LSK LLO
        clear hcl hc
        have y0 : wr.cell? ⟨yb, 0, none⟩ = some (.slice (some ⟨g, 0, none⟩) P.n P.n) := F1.out.ys.cell 0
        have g0 : wr.cell? ⟨g, c, none⟩ = some (.bool (si c)) := F1.out.ga.cellE (arr_get _ hcn)
        cases hsc : si c
        · rw [hsc] at g0
          have HSC := Lib.hid hsc
          have gf := F1.out.ga.frozen
          have hy : yb ≠ g := fun e => F1.out.ng.2.2.2.2.1 e.symm
          clear hsc
          have F2 := Lib.hid (F1.out.see hcn)
          have T2 : RowKit.Hid (Tn (FF s g) w (wr.setCell ⟨g, c, none⟩ (.bool true))) := Lib.hid (T1.out.setCell (p := ⟨g, c, none⟩) (.inl (.inr (.inr rfl))) _)
          go_wp2_with fail
          generalize wr.setCell ⟨g, c, none⟩ (.bool true) = w1 at *
          have x1 : w1.cell? ⟨xb, 0, none⟩ = some (pt s.sb) := F2.out.xs.cell 0
          have s4 : w1.cell? ⟨s.sb, 4, none⟩ = some (.slice (some ⟨s.wb, 0, none⟩) P.n P.n) := F2.out.sm.blk.cell 4
          have s3 : w1.cell? ⟨s.sb, 3, none⟩ = some (.slice (some ⟨s.cb, 0, none⟩) P.m P.m) := F2.out.sm.blk.cell 3
          have w4 := F2.out.sm.wn_at hcn
          have hc0 : (0 : Int) ≤ (c : Int) := by omega
          have hc1 : (c : Int) < (P.n : Int) := by omega
          cases hw : wn c with
          | none =>
            rw [hw] at w4
            have w4' : w1.cell? ⟨s.wb, c, none⟩ = some (.int .i64 (-1)) := w4
            have FND := Lib.hid ((Found.free HM.out HC.out hk HMEM.out HSC.out hw).weaken L1.out.more)
            clear w4 hw e0 g0 gf y0
            go_quiet (fail)
            rename_i nq
            have F3 := Lib.hid (F2.out.drewN nq)
            have T3 := Lib.hid (T2.out.drewN nq)
            clear x1 s4 s3 w4' F2 T2
            generalize w1.drewN nq = w2 at *
            have x1 : w2.cell? ⟨xb, 0, none⟩ = some (pt s.sb) := F3.out.xs.cell 0
            have s4 : w2.cell? ⟨s.sb, 4, none⟩ = some (.slice (some ⟨s.wb, 0, none⟩) P.n P.n) := F3.out.sm.blk.cell 4
            have s3 : w2.cell? ⟨s.sb, 3, none⟩ = some (.slice (some ⟨s.cb, 0, none⟩) P.m P.m) := F3.out.sm.blk.cell 3
            have wc := F3.out.sm.wn_at hcn
            have wf := F3.out.sm.want.frozen
            have cc := F3.out.sm.cp_at hk
            have cf := F3.out.sm.copy.frozen
            go_wp2_with fail
            have hk0 : (0 : Int) ≤ (k : Int) := by omega
            have hk1 : (k : Int) < (P.m : Int) := by omega
            have X1 := Lib.hid (F3.out.xs.set_ne ⟨s.wb, c, none⟩ (.int .i64 (k : Int)) F3.out.nx.2.1)
            have B1 := Lib.hid (F3.out.sm.blk.set_ne ⟨s.wb, c, none⟩ (.int .i64 (k : Int)) F3.out.sm.ne.2.1)
            have C1 := Lib.hid (F3.out.sm.copy.set_ne ⟨s.wb, c, none⟩ (.int .i64 (k : Int)) F3.out.sm.ne.2.2)
            have X2 := Lib.hid (X1.out.set_ne ⟨s.cb, k, none⟩ (.int .i64 (c : Int)) F3.out.nx.1)
            have B2 := Lib.hid (B1.out.set_ne ⟨s.cb, k, none⟩ (.int .i64 (c : Int)) F3.out.sm.ne.1)
            have c1 : (w2.setCell ⟨s.wb, c, none⟩ (.int .i64 (k : Int))).cell? ⟨s.cb, k, none⟩ = some (.int .i64 (oi (ext lim cp k))) := C1.out.cellE (arr_get _ hk)
            have cf1 := C1.out.frozen
            have HX1 : RowKit.Hid ((w2.setCell ⟨s.wb, c, none⟩ (.int .i64 (k : Int))).drew.cell? ⟨xb, 0, none⟩ = some (pt s.sb) ∧ (w2.setCell ⟨s.wb, c, none⟩ (.int .i64 (k : Int))).drew.cell? ⟨s.sb, 4, none⟩ = some (.slice (some ⟨s.wb, 0, none⟩) P.n P.n) ∧ (w2.setCell ⟨s.wb, c, none⟩ (.int .i64 (k : Int))).drew.cell? ⟨s.sb, 3, none⟩ = some (.slice (some ⟨s.cb, 0, none⟩) P.m P.m)) := Lib.hid ⟨X1.out.cell 0, B1.out.cell 4, B1.out.cell 3⟩
            have HX2 : RowKit.Hid (((w2.setCell ⟨s.wb, c, none⟩ (.int .i64 (k : Int))).setCell ⟨s.cb, k, none⟩ (.int .i64 (c : Int))).drew.cell? ⟨xb, 0, none⟩ = some (pt s.sb) ∧ ((w2.setCell ⟨s.wb, c, none⟩ (.int .i64 (k : Int))).setCell ⟨s.cb, k, none⟩ (.int .i64 (c : Int))).drew.cell? ⟨s.sb, 4, none⟩ = some (.slice (some ⟨s.wb, 0, none⟩) P.n P.n) ∧ ((w2.setCell ⟨s.wb, c, none⟩ (.int .i64 (k : Int))).setCell ⟨s.cb, k, none⟩ (.int .i64 (c : Int))).drew.cell? ⟨s.sb, 3, none⟩ = some (.slice (some ⟨s.cb, 0, none⟩) P.m P.m)) := Lib.hid ⟨X2.out.cell 0, B2.out.cell 4, B2.out.cell 3⟩
            go_region_held3 (fun w' => w'.cell? ⟨xb, 0, none⟩ = some (pt s.sb) ∧ w'.cell? ⟨s.sb, 4, none⟩ = some (.slice (some ⟨s.wb, 0, none⟩) P.n P.n) ∧ w'.cell? ⟨s.sb, 3, none⟩ = some (.slice (some ⟨s.cb, 0, none⟩) P.m P.m)) (first | exact ⟨x1, s4, s3⟩ | exact HX1.out | exact HX2.out) (fail)
            have F4 := Lib.hid (by have h := (F3.out.give hcn hk).drew; rw [ext_upd hklim] at h; exact h)
            have T4 : RowKit.Hid (Tn (FF s g) w ((w2.setCell ⟨s.wb, c, none⟩ (.int .i64 (k : Int))).setCell ⟨s.cb, k, none⟩ (.int .i64 (c : Int))).drew) := Lib.hid ((T3.out.setCell (p := ⟨s.wb, c, none⟩) (.inl (.inr (.inl rfl))) _).setCell (p := ⟨s.cb, k, none⟩) (.inl (.inl rfl)) _).drew
            go_wp2_with fail
            go_ret
            exact ⟨true, _, _, _, rfl, F4.out, T4.out, fun _ => FND.out, fun e => Bool.noConfusion e⟩
          | some j =>
            rw [hw] at w4
            have w4' : w1.cell? ⟨s.wb, c, none⟩ = some (.int .i64 (j : Int)) := w4
            have z0 : w1.cell? ⟨zb, 0, none⟩ = some (.func (.func 33) #[] #[pt xb, pt yb, pt zb]) := F2.out.zs.cell 0
            have hj1 : ((j : Int) == -1) = false := by simp
            have hcj := (HC.out j c).2 hw
            have hjm := (HM.out.ok hcj).1
            have hjl := HWL.out c j hw
            have HW := Lib.hid hw
            have HJ : RowKit.Hid (∀ d, cp j = some d → upd si c true d = true) := Lib.hid (fun d hd => by rw [hcj] at hd; injection hd with hd; subst hd; exact upd_eq _ _ _)
            have HCT : RowKit.Hid (cntF (upd si c true) P.n < n) := Lib.hid (by have h1 := cntF_upd HSC.out P.n hcn; have h2 := cntF_mono L1.out.more P.n; omega)
            have F2d := Lib.hid F2.out.drew
            clear w4 hw hcj e0 g0 gf y0
            refine wp_region_still_tail 17 (by kernel_rfl) (by kernel_rfl) ?_
            simp only [List.take_succ_cons, List.take_zero, List.drop_succ_cons, List.drop_zero]
            repeat still_step
            refine wpStill_nil ?_
            go_wp2_with fail
            refine (IH.out (upd si c true) j _ HCT.out hjm hjl HJ.out F2d.out).mono ?_
            rintro e w3 ⟨t, cp', wn', seen', rfl, hF3, hT3, hyes, hno⟩
            have T3 : RowKit.Hid (Tn (FF s g) w w3) := Lib.hid (T2.out.drew.trans hT3)
            have F3 := Lib.hid hF3
            clear hF3 hT3 x1 s4 s3 w4' F2 T2 z0 F2d
            cases t
            · obtain ⟨rfl, rfl, hl⟩ := hno rfl
              have L2 := Lib.hid (LLO.out seen' j HW.out hl)
              clear hyes hno hl
              go_wp2_with fail
              exact ⟨⟨i + 1, seen', by omega, by go_num, F3.out, T3.out, L2.out⟩, by simp [intOf]; omega⟩
            · have FND := Lib.hid ((Found.take HC.out hk HMEM.out HSC.out HW.out (fun d hd => L1.out.more d (HOW.out d hd)) (hyes rfl)).weaken L1.out.more)
              clear hyes hno
              obtain ⟨w2, rfl⟩ : ∃ w2, w2 = w3 := ⟨_, rfl⟩
              go_wp2_with fail
              have x1 : w2.cell? ⟨xb, 0, none⟩ = some (pt s.sb) := F3.out.xs.cell 0
              have s4 : w2.cell? ⟨s.sb, 4, none⟩ = some (.slice (some ⟨s.wb, 0, none⟩) P.n P.n) := F3.out.sm.blk.cell 4
              have s3 : w2.cell? ⟨s.sb, 3, none⟩ = some (.slice (some ⟨s.cb, 0, none⟩) P.m P.m) := F3.out.sm.blk.cell 3
              have wc := F3.out.sm.wn_at hcn
              have wf := F3.out.sm.want.frozen
              have cc := F3.out.sm.cp_at hk
              have cf := F3.out.sm.copy.frozen
              go_wp2_with fail
              have hk0 : (0 : Int) ≤ (k : Int) := by omega
              have hk1 : (k : Int) < (P.m : Int) := by omega
              have X1 := Lib.hid (F3.out.xs.set_ne ⟨s.wb, c, none⟩ (.int .i64 (k : Int)) F3.out.nx.2.1)
              have B1 := Lib.hid (F3.out.sm.blk.set_ne ⟨s.wb, c, none⟩ (.int .i64 (k : Int)) F3.out.sm.ne.2.1)
              have C1 := Lib.hid (F3.out.sm.copy.set_ne ⟨s.wb, c, none⟩ (.int .i64 (k : Int)) F3.out.sm.ne.2.2)
              have X2 := Lib.hid (X1.out.set_ne ⟨s.cb, k, none⟩ (.int .i64 (c : Int)) F3.out.nx.1)
              have B2 := Lib.hid (B1.out.set_ne ⟨s.cb, k, none⟩ (.int .i64 (c : Int)) F3.out.sm.ne.1)
              have c1 : (w2.setCell ⟨s.wb, c, none⟩ (.int .i64 (k : Int))).cell? ⟨s.cb, k, none⟩ = some (.int .i64 (oi (ext lim cp' k))) := C1.out.cellE (arr_get _ hk)
              have cf1 := C1.out.frozen
              have HX1 : RowKit.Hid ((w2.setCell ⟨s.wb, c, none⟩ (.int .i64 (k : Int))).drew.cell? ⟨xb, 0, none⟩ = some (pt s.sb) ∧ (w2.setCell ⟨s.wb, c, none⟩ (.int .i64 (k : Int))).drew.cell? ⟨s.sb, 4, none⟩ = some (.slice (some ⟨s.wb, 0, none⟩) P.n P.n) ∧ (w2.setCell ⟨s.wb, c, none⟩ (.int .i64 (k : Int))).drew.cell? ⟨s.sb, 3, none⟩ = some (.slice (some ⟨s.cb, 0, none⟩) P.m P.m)) := Lib.hid ⟨X1.out.cell 0, B1.out.cell 4, B1.out.cell 3⟩
              have HX2 : RowKit.Hid (((w2.setCell ⟨s.wb, c, none⟩ (.int .i64 (k : Int))).setCell ⟨s.cb, k, none⟩ (.int .i64 (c : Int))).drew.cell? ⟨xb, 0, none⟩ = some (pt s.sb) ∧ ((w2.setCell ⟨s.wb, c, none⟩ (.int .i64 (k : Int))).setCell ⟨s.cb, k, none⟩ (.int .i64 (c : Int))).drew.cell? ⟨s.sb, 4, none⟩ = some (.slice (some ⟨s.wb, 0, none⟩) P.n P.n) ∧ ((w2.setCell ⟨s.wb, c, none⟩ (.int .i64 (k : Int))).setCell ⟨s.cb, k, none⟩ (.int .i64 (c : Int))).drew.cell? ⟨s.sb, 3, none⟩ = some (.slice (some ⟨s.cb, 0, none⟩) P.m P.m)) := Lib.hid ⟨X2.out.cell 0, B2.out.cell 4, B2.out.cell 3⟩
              go_region_held3 (fun w' => w'.cell? ⟨xb, 0, none⟩ = some (pt s.sb) ∧ w'.cell? ⟨s.sb, 4, none⟩ = some (.slice (some ⟨s.wb, 0, none⟩) P.n P.n) ∧ w'.cell? ⟨s.sb, 3, none⟩ = some (.slice (some ⟨s.cb, 0, none⟩) P.m P.m)) (first | exact ⟨x1, s4, s3⟩ | exact HX1.out | exact HX2.out) (fail)
              have F4 := Lib.hid (by have h := (F3.out.give hcn hk).drew; rw [ext_upd hklim] at h; exact h)
              have T4 : RowKit.Hid (Tn (FF s g) w ((w2.setCell ⟨s.wb, c, none⟩ (.int .i64 (k : Int))).setCell ⟨s.cb, k, none⟩ (.int .i64 (c : Int))).drew) := Lib.hid ((T3.out.setCell (p := ⟨s.wb, c, none⟩) (.inl (.inr (.inl rfl))) _).setCell (p := ⟨s.cb, k, none⟩) (.inl (.inl rfl)) _).drew
              go_wp2_with fail
              go_ret
              exact ⟨true, _, _, _, rfl, F4.out, T4.out, fun _ => FND.out, fun e => Bool.noConfusion e⟩
        · rw [hsc] at g0
          have L2 := Lib.hid (LSK.out hsc)
          clear hsc
          go_wp2_with fail
          exact ⟨⟨i + 1, si, by omega, by go_num, F1.out, T1.out, L2.out⟩, by simp [intOf]; omega⟩
      · have hd := L1.out.done (by omega)
        have HD : RowKit.Hid (FindE lim P s xb yb zb g w cp wn seen k (.returned (.bool false)) wr) := Lib.hid ⟨false, cp, wn, si, rfl, F1.out, T1.out, fun e => Bool.noConfusion e, fun _ => ⟨rfl, rfl, hd⟩⟩
        clear hd
        go_wp2_with fail
        go_ret
        exact HD.out
end Go.Proofs.Ytpcmppamkgkdlaa
