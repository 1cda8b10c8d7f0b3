/- slices.DeleteFunc at what is said: the walk. -/
import Derived.Test.YtpdldbapagchfaaGreatDoorQ09
import Derived.Test.YtpdldbapagchfaaGreatDoorQ07
set_option linter.unusedVariables false
set_option linter.unusedSimpArgs false

namespace Go.Proofs.YtpdldbapagchfaaGreatDoor
open Go.RowKit Go.Shelf Go.Maps

theorem Tn.weak {F G : Nat → Prop} {w w' : World} (t : Tn F w w') (h : ∀ b, F b → G b) : Tn G w w' := ⟨t.os, t.tape, t.output, t.size, fun b hb hn => t.block b hb (fun hf => hn (h b hf))⟩
theorem Tn.alloc1 {F : Nat → Prop} (w : World) (o : Obj) : Tn F w (w.alloc o) := Tn.of_below ((Below.refl _ _).alloc (Nat.le_refl _) _)
set_option maxRecDepth 100000 in
set_option maxHeartbeats 8000000 in
theorem deleteS_any {pf pb B g n cap : Nat} {S F : Nat → Prop} {l : List Said} {del : Nat → Bool} {J : Nat → World → Prop} {w : World} (eg : ∀ args w, (callFunc pf args).run Tryz.prog w = .ok (.enter pf args) w) (hn : l.length = n) (hn1 : n ≤ 100000)
    (hrow : DelSt S B g n cap w [] l 0) (hgl : g < w.heap.size) (hcap : n ≤ cap) (hmx : cap ≤ maxLen) (hSg : ¬ S g) (hFg : ¬ F g) (hFS : ∀ b, S b → ¬ F b) (hFw : ∀ b, F b → b < w.heap.size) (hcall : DelC Tryz.prog pf pb S F l del J) (h0 : J 0 w)
    (halloc : ∀ j W o, J j W → J j (W.alloc o)) (hset : ∀ d, (∀ m, m < d → del m = false) → del d = true → ∀ j W o u, J j W → d * 6 ≤ o → J j (W.setCell ⟨g, o, none⟩ u)) :
    Calls Tryz.prog 72 #[.slice (some ⟨g, 0, none⟩) n cap, .func (.func pf) #[] #[.pointer (some ⟨pb, 0, none⟩)]] w fun e W' =>
      ∃ v', e = .returned v' ∧ SlOf 6 (fun b => b = g) (SaidC S) W' v' (keptD del l n) ∧ Tn (fun b => F b ∨ b = g) w W' := by
  have HROW := Lib.hid hrow
  have HFS := Lib.hid hFS
  have HFG := Lib.hid hFg
  have HFW := Lib.hid hFw
  have HSG := Lib.hid hSg
  have HCALL := Lib.hid hcall
  have HAL := Lib.hid halloc
  have HSET := Lib.hid hset
  have HN := Lib.hid hn
  have HRS : RowKit.Hid (RowS S g w l) := Lib.hid fun j hj => hrow.at (m := j) (by omega) hn (Nat.zero_le _)
  have HIX := Lib.hid (indexS_any (pb := pb) (cap := cap) eg hn hn1 HRS.out hgl hFg hFS hcall h0)
  clear hrow hFS hFg hFw hSg hcall halloc hset hn h0
  go_enter Tryz.func72, Tryz.ntmps72
  go_wp2_with fail
  refine HIX.out.mono ?_
  rintro e w1 ⟨ht1, ⟨hall, rfl, hj⟩ | ⟨d, hd, hall, hdd, rfl, hj⟩⟩
  · have HT1 := Lib.hid ht1
    have HE : RowKit.Hid (keptD del l n = l) := Lib.hid (by rw [keptD_all n hall, ← HN.out, List.take_length])
    have hdone := (HROW.out.tn ht1 HFS.out HFG.out)
    have HS : RowKit.Hid (SlOf 6 (fun b => b = g) (SaidC S) w1 (.slice (some ⟨g, 0, none⟩) n cap) l) := Lib.hid (by
      obtain ⟨css, h1, h2, h3, h4, h5⟩ := hdone
      obtain ⟨a, c', e, hc, hm, hxl, h0 | ⟨g', rfl, e2, hb, hg, hcell⟩⟩ := row_cellz h1
      · obtain ⟨_, _, rfl⟩ := h0; cases e
      injection e with e1 _ e3
      injection e1 with e1
      have e1' : g = g' := by injection e1
      subst e1' e3
      refine ⟨_, cap, by rw [HN.out], by rw [HN.out]; exact hcap, hmx, .inr ⟨g, 0, rfl, rfl, css, All2.of_get (by rw [h2, HN.out]) fun m a b => h5 m a b (Nat.zero_le _), h3, fun j u hj => ?_⟩⟩
      rw [Nat.zero_add]
      exact ⟨hcell j u hj, World.ownsRow.frozenAt h1 _⟩)
    clear ht1 hall hj hdone
    go_wp2_with fail
    go_ret
    refine ⟨_, rfl, ?_, HT1.out.weak fun b hb => .inl hb⟩
    rw [HE.out]; exact HS.out
  · have HT1 := Lib.hid ht1
    have HALL := Lib.hid hall
    have HDD := Lib.hid hdd
    have HJ1 := Lib.hid hj
    have hdl : d < l.length := by rw [HN.out]; exact hd
    have HST : RowKit.Hid (DelSt S B g n cap w1 (keptD del l (d + 1)) l (d + 1)) := Lib.hid (by
      have e1 : keptD del l (d + 1) = l.take d := by
        unfold keptD; rw [hdd, if_pos rfl, keptD_all d hall]
      obtain ⟨css, h1, h2, h3, h4, h5⟩ := HROW.out.tn ht1 HFS.out HFG.out
      rw [e1]
      refine ⟨css, h1, h2, h3, fun m a b => ?_, fun m a b c => h5 m a b (Nat.zero_le _)⟩
      rw [List.getElem_take]
      exact h5 m a (by rw [List.length_take] at b; omega) (Nat.zero_le _))
    have hk0 : (keptD del l (d + 1)).length = d := by
      have e1 : keptD del l (d + 1) = l.take d := by
        unfold keptD; rw [hdd, if_pos rfl, keptD_all d hall]
      rw [e1, List.length_take]; omega
    have HK0 := Lib.hid hk0
    have hz1 : w.heap.size ≤ w1.heap.size := ht1.size
    have HSET1 : RowKit.Hid (∀ j W o u, J j W → d * 6 ≤ o → J j (W.setCell ⟨g, o, none⟩ u)) := Lib.hid (HSET.out d hall hdd)
    have hd1 : ((d : Int) == -1) = false := by rw [beq_eq_false_iff_ne]; omega
    clear ht1 hall hdd hj hk0 HSET
    go_wp2_with fail
    clear hd1
    go_loopw [5, 6] (fun i j wr => ∃ c q : Nat, i = .int .i64 c ∧ j = .int .i64 q ∧ d + 1 ≤ q ∧ q ≤ n ∧ c = (keptD del l q).length ∧ d ≤ c ∧ c < q ∧ J q wr ∧ Tn (fun b => F b ∨ b = g) w wr ∧ DelSt S B g n cap wr (keptD del l q) l q) (fun _ j _ => n - (intOf j).toNat)
    case atStart => exact ⟨d, d + 1, rfl, by go_num, by omega, by omega, HK0.out.symm, by omega, by omega, HJ1.out, HT1.out.weak fun b hb => .inl hb, HST.out⟩
    case round =>
      obtain ⟨c, q, rfl, rfl, hq1, hq2, hc, hdc, hcq, hj, ht, hst⟩ := hrel
      have HC := Lib.hid hc
      have HJ := Lib.hid hj
      have HT := Lib.hid ht
      have HS := Lib.hid hst
      have hzr : w.heap.size ≤ wr.heap.size := ht.size
      clear hc hj ht hst
      by_cases hlt : q < n
      · have hlx : q < l.length := by rw [HN.out]; exact hlt
        obtain ⟨cs, hC, hG⟩ := HS.out.at hlt HN.out (Nat.le_refl _)
        have HCC := Lib.hid hC
        have HTHR : RowKit.Hid (wr.there g (c * 6) 6) := Lib.hid fun j hj => HS.out.there (m := c) (k := 1) (by omega) j (by omega)
        obtain ⟨sv, rfl, sa, sc, rfl, -⟩ := hC
        have HG := Lib.hid hG
        clear hG
        obtain ⟨sn, hsn⟩ : ∃ y, y = l[q].1.subs.length := ⟨_, rfl⟩
        rw [← hsn] at HG HCC
        clear hsn
        obtain ⟨y1, hy1⟩ : ∃ y, y = l[q].1.tag := ⟨_, rfl⟩
        obtain ⟨y2, hy2⟩ : ∃ y, y = l[q].1.ind := ⟨_, rfl⟩
        obtain ⟨y3, hy3⟩ : ∃ y, y = l[q].1.data := ⟨_, rfl⟩
        obtain ⟨y4, hy4⟩ : ∃ y, y = l[q].2.1 := ⟨_, rfl⟩
        obtain ⟨y5, hy5⟩ : ∃ y, y = l[q].2.2 := ⟨_, rfl⟩
        rw [← hy1, ← hy2, ← hy3, ← hy4, ← hy5] at HG HCC
        clear hy1 hy2 hy3 hy4 hy5
        obtain ⟨tb, htb⟩ : ∃ tb, tb = wr.heap.size := ⟨_, rfl⟩
        obtain ⟨W1, hW1⟩ : ∃ W1, W1 = wr.alloc (.cells #[.string y1, .string y2, .string y3, .slice sa sn sc, .int .i64 y4, .int .i64 y5] 71) := ⟨_, rfl⟩
        have T1 : RowKit.Hid (∀ F', Tn F' wr W1) := Lib.hid (fun F' => by rw [hW1]; exact Tn.alloc1 _ _)
        have X1 : RowKit.Hid (Blk W1 tb #[.string y1, .string y2, .string y3, .slice sa sn sc, .int .i64 y4, .int .i64 y5] 71) := Lib.hid (by rw [hW1, htb]; exact Blk.new _ _ _)
        have Z1 : RowKit.Hid (W1.heap.size = tb + 1) := Lib.hid (by rw [hW1, htb]; simp)
        have J1 : RowKit.Hid (J q W1) := Lib.hid (by rw [hW1]; exact HAL.out _ _ _ HJ.out)
        have C1 : RowKit.Hid (SaidC S W1 [.string y1, .string y2, .string y3, .slice sa sn sc, .int .i64 y4, .int .i64 y5] l[q]) := Lib.hid (keeps_said _ _ _ _ _ _ HCC.out (Stay.of_tn (T1.out F) (fun b hb _ => HFS.out b hb)) (fun _ h _ => h))
        have htw : w.heap.size ≤ tb := by omega
        have hgt : g < tb := by omega
        have HH := Lib.hid (HCALL.out q hlx W1 _ J1.out C1.out)
        go_wp2_with (refine wpList_load_mid rfl 71 (.tmp 24) rfl g (q * 6) rfl [.string y1, .string y2, .string y3, .slice sa sn sc, .int .i64 y4, .int .i64 y5] _ HG.out Tryz.underlying71 rfl (by kernel_rfl) ?_)
        rw [← hW1, ← htb]
        have HTB := Lib.hid htb
        clear hW1 htb
        go_wp2_with (refine wpList_load_row 71 (.tmp 7) rfl rfl rfl X1.out Tryz.underlying71 rfl (by kernel_rfl) ?_)
        refine HH.out.mono ?_
        rintro e w2 ⟨rfl, hj2, ht2⟩
        have HJ2 := Lib.hid hj2
        have HT2 := Lib.hid ht2
        obtain ⟨ca, hca⟩ : ∃ ca : Array Value, ca = #[.string y1, .string y2, .string y3, .slice sa sn sc, .int .i64 y4, .int .i64 y5] := ⟨_, rfl⟩
        have hca6 : ca.size = 6 := by rw [hca]; rfl
        have X2 : RowKit.Hid (Blk w2 tb ca 71) := Lib.hid (by rw [hca]; exact (ht2.block tb X1.out.lt (fun h => by have := HFW.out tb h; omega)).trans X1.out)
        have S2 := Lib.hid (((HS.out.tn (T1.out F) HFS.out HFG.out)).tn ht2 HFS.out HFG.out)
        have C2 : RowKit.Hid (SaidC S w2 ca.toList l[q]) := Lib.hid (by rw [hca]; exact keeps_said _ _ _ _ _ _ C1.out (Stay.of_tn ht2 (fun b hb _ => HFS.out b hb)) (fun _ h _ => h))
        have TW2 : RowKit.Hid (Tn (fun b => F b ∨ b = g) w w2) := Lib.hid ((HT.out.trans (T1.out _)).trans (ht2.weak fun b hb => .inl hb))
        have TH2 : RowKit.Hid (w2.there g (c * 6) ca.size) := Lib.hid fun j hj => S2.out.there (m := c) (k := 1) (by omega) j (by rw [hca6] at hj; omega)
        have HIS : RowKit.Hid ((Tryz.prog.info? 71).map (·.size) = some ca.size) := Lib.hid (by rw [hca6]; kernel_rfl)
        have H1C : RowKit.Hid (ca.all (·.oneCell') = true) := Lib.hid (by rw [Array.all_eq_true_iff_forall_mem]; intro u hu; exact one_said _ _ _ _ C2.out u (by simpa using hu))
        clear hca hca6 hj2 ht2 HH J1 T1 C1 HCC HG HTHR
        obtain ⟨bb, hbb⟩ : ∃ bb, bb = del q := ⟨_, rfl⟩
        rw [← hbb]
        have HBE := Lib.hid hbb
        clear hbb
        cases bb with
        | true =>
          have HKE : RowKit.Hid (keptD del l (q + 1) = keptD del l q) := Lib.hid (by rw [keptD, ← HBE.out, if_pos rfl])
          go_wp2_with fail
          refine ⟨⟨c, q + 1, rfl, by go_num, by omega, hlt, ?_, hdc, by omega, HJ2.out, TW2.out, ?_⟩, by simp [intOf]; omega⟩
          · rw [HKE.out]; exact HC.out
          · rw [HKE.out]; exact S2.out.skip
        | false =>
          have HKE : RowKit.Hid (keptD del l (q + 1) = keptD del l q ++ [l[q]]) := Lib.hid (by rw [keptD, ← HBE.out]; simp [List.getElem?_eq_getElem hlx])
          go_wp2_with (first
            | refine wpList_load_row 71 (.tmp 7) rfl rfl rfl X2.out Tryz.underlying71 rfl HIS.out ?_
            | refine wpList_store_mid rfl 71 (.tmp 33) (.tmp 32) rfl g (c * 6) ca rfl rfl TH2.out HIS.out H1C.out ?_)
          have HI3 : RowKit.Hid (J (q + 1) (w2.setCells g (c * 6) ca.toList)) := Lib.hid (setCells_inv (o0 := d * 6) (I := J (q + 1)) (fun W o u => HSET1.out (q + 1) W o u) _ _ _ HJ2.out (Nat.mul_le_mul_right 6 hdc))
          have HT3 : RowKit.Hid (Tn (fun b => F b ∨ b = g) w (w2.setCells g (c * 6) ca.toList)) := Lib.hid (TW2.out.trans ((tn_setCells _ _ _).weak fun b hb => .inr hb))
          have HS3 : RowKit.Hid (DelSt S B g n cap (w2.setCells g (c * 6) ca.toList) (keptD del l (q + 1)) l (q + 1)) := Lib.hid (by
            rw [HKE.out]
            have := S2.out.put HSG.out C2.out (by rw [← HC.out]; omega) hlt
            rw [← HC.out] at this; exact this)
          have HL3 : RowKit.Hid (c + 1 = (keptD del l (q + 1)).length) := Lib.hid (by rw [HKE.out, List.length_append, ← HC.out]; rfl)
          exact ⟨⟨c + 1, q + 1, by go_num, by go_num, by omega, hlt, HL3.out, by omega, by omega, HI3.out, HT3.out, HS3.out⟩, by simp [intOf]; omega⟩
      · obtain rfl : q = n := by omega
        have hcn : c ≤ q := by omega
        have hcl : ∀ ty, (Builtin.clear_ #[67] ty #[.slice (some ⟨g, c * 6, none⟩) (q - c) (cap - c)]).run Tryz.prog wr = .ok (.tuple #[]) (wr.setCells g (c * 6) (zeros6 (q - c))) :=
          run_clear6 wr g (c * 6) (q - c) (cap - c) (by omega) (fun j hj => (HS.out.there (m := c) (k := q - c) (by omega) j hj).1) (fun j hj => (HS.out.there (m := c) (k := q - c) (by omega) j hj).2)
        go_wp2_with (first
          | refine wpList_cut_from_at rfl (.tmp 36) (.tmp 37) 67 rfl Tryz.underlying67 (z := 6) (by kernel_rfl) g q cap rfl c rfl hcq hcap ?_
          | refine wpList_cut_to_at rfl (.tmp 39) (.tmp 40) 67 rfl Tryz.underlying67 (z := 6) (by kernel_rfl) g q cap rfl c rfl (by omega) ?_)
        go_ret
        refine ⟨_, rfl, ?_, HT.out.trans ((tn_setCells _ _ _).weak fun b hb => .inr hb)⟩
        have := HS.out.done HSG.out (zeros6 (q - c)) (by rw [zeros6_len, ← HC.out]) (by rw [← HC.out]; omega)
        rw [← HC.out] at this; exact this
end Go.Proofs.YtpdldbapagchfaaGreatDoor

/- Equal records are the same for the reference. -/
namespace Go.Proofs.YtpdldbapagchfaaGreatDoor
open Go.RowKit Go.Shelf Go.Maps
attribute [local go_sem] over_cell over_frozen

theorem range4 {w : World} {b o : Nat} {u0 u1 u2 u3 : Value} (h : w.rangeAt b o [u0, u1, u2, u3]) : w.cell? ⟨b, o, none⟩ = some u0 ∧ w.cell? ⟨b, o + 1, none⟩ = some u1 ∧ w.cell? ⟨b, o + 2, none⟩ = some u2 ∧ w.cell? ⟨b, o + 3, none⟩ = some u3 := ⟨h 0 _ rfl, h 1 _ rfl, h 2 _ rfl, h 3 _ rfl⟩
set_option maxRecDepth 100000 in
set_option maxHeartbeats 2000000 in
theorem sameRecord_any (S S' : Nat → Prop) {w : World} {u v : Value} {L : List Fld} (kd lv : Nat) (hu : FldsAt S w u L) (hv : FldsAt S' w v L) (hl : FsOk L) :
    Calls Tryz.prog 25 #[.agg #[.int .u8 kd, .int .u8 lv, u], .agg #[.int .u8 kd, .int .u8 lv, v]] w fun e w' => e = .returned (.bool true) ∧ Below w.heap.size w w' := by
  have HU := Lib.hid hu
  have HV := Lib.hid hv
  obtain ⟨ua, uc, rfl, -⟩ := hu
  obtain ⟨va, vc, rfl, -⟩ := hv
  have HL := Lib.hid hl
  obtain ⟨n, hn⟩ : ∃ n, n = L.length := ⟨_, rfl⟩
  have hl1 : n ≤ 1000 := by rw [hn]; exact hl.1
  rw [← hn] at HU HV ⊢
  have N1 := Lib.hid hn
  clear hn hl
  have HB : RowKit.Hid (∀ p q, Below w.heap.size w ((w.alloc p).alloc q)) := Lib.hid fun p q => ((Below.refl _ _).alloc (Nat.le_refl _) _).alloc (by simp) _
  go_enter Tryz.func25, Tryz.ntmps25
  go_wp2_with fail
  go_loopw [5] (fun i wr => ∃ k : Nat, k ≤ n ∧ i = .int .i64 k ∧ Below w.heap.size w wr ∧ wr.cell? ⟨w.heap.size, 2, none⟩ = some (.slice ua n uc) ∧ wr.cell? ⟨w.heap.size + 1, 2, none⟩ = some (.slice va n vc)) (fun i _ => n - (intOf i).toNat)
  case atStart => exact ⟨0, by omega, rfl, HB.out _ _, (Blk.new _ _ _).alloc _ |>.cell 2, Blk.at_new (by simp) _ _ |>.cell 2⟩
  case round =>
    obtain ⟨k, hk, rfl, hb, c3, d3⟩ := hrel
    have HBr := Lib.hid hb
    clear hb
    by_cases hlt : k < n
    · have hlx : k < L.length := by rw [← N1.out]; exact hlt
      obtain ⟨b1, o1, cap1, cs1, e1, _, _, hR1, _, hg1, _⟩ := SlOf.range (by omega) (FldsAt.keep HU.out (Stay.of_below HBr.out) (fun _ h _ => h)) hlx
      obtain ⟨b2, o2, cap2, cs2, e2, _, _, hR2, _, hg2, _⟩ := SlOf.range (by omega) (FldsAt.keep HV.out (Stay.of_below HBr.out) (fun _ h _ => h)) hlx
      have e1' : ua = some ⟨b1, o1, none⟩ := by injection e1
      have e2' : va = some ⟨b2, o2, none⟩ := by injection e2
      clear e1 e2
      subst e1' e2'
      obtain ⟨x, hx⟩ : ∃ x, x = L[k] := ⟨_, rfl⟩
      rw [← hx] at hR1 hR2
      have HF : RowKit.Hid (x.subs.length ≤ 1000) := Lib.hid (by rw [hx]; exact HL.out.2 _ (List.getElem_mem _))
      have hR1' := hR1
      have hR2' := hR2
      obtain ⟨fa, fc, rfl, -⟩ := hR1.expl
      obtain ⟨ga, gc, rfl, -⟩ := hR2.expl
      have HSF : RowKit.Hid (∀ y, Calls Tryz.prog 22 #[.agg #[.string x.tag, .string x.ind, .string x.data, .slice fa x.subs.length fc], .agg #[.string x.tag, .string x.ind, .string x.data, .slice ga x.subs.length gc]] (over wr y) fun e w' => e = .returned (.bool true) ∧ Below (over wr y).heap.size (over wr y) w') := Lib.hid fun y => by
        have := sameField_any S S' (w := over wr y) (hR1'.keep (Stay.of_below (below_over wr y)) (fun _ h _ => h)) (hR2'.keep (Stay.of_below (below_over wr y)) (fun _ h _ => h)) HF.out HF.out
        rw [decide_eq_true rfl] at this
        exact this
      obtain ⟨p0, p1, p2, p3⟩ := range4 hg1
      obtain ⟨q0, q1, q2, q3⟩ := range4 hg2
      clear hg1 hg2 hx hR1 hR2 hR1' hR2'
      obtain ⟨xn, hxn⟩ : ∃ xn, xn = x.subs.length := ⟨_, rfl⟩
      rw [← hxn] at p3 q3 HSF
      clear hxn
      go_wp2_with fail
      refine wp_region_over (by kernel_rfl) (by kernel_rfl) ?_
      repeat (first | go_big_quiet_step (first | (go_at_call 22; with_reducible exact inOver (HSF.out _))))
      refine wpQuiet_nil ?_
      rintro _ ⟨nq, rfl⟩
      have B8 : RowKit.Hid (Below w.heap.size w (over wr nq)) := Lib.hid (HBr.out.trans ((below_over wr nq).mono HBr.out.size))
      go_wp2_with fail
      exact ⟨⟨k + 1, hlt, by go_num, B8.out, (over_cell _ _ (by rw [c3]; rfl)).trans c3, (over_cell _ _ (by rw [d3]; rfl)).trans d3⟩, by simp [intOf]; omega⟩
    · go_wp2_with fail
      go_ret
      exact ⟨rfl, HBr.out⟩
theorem range6 {w : World} {b o : Nat} {u0 u1 u2 u3 u4 u5 : Value} (h : w.rangeAt b o [u0, u1, u2, u3, u4, u5]) : w.cell? ⟨b, o, none⟩ = some u0 ∧ w.cell? ⟨b, o + 1, none⟩ = some u1 ∧ w.cell? ⟨b, o + 2, none⟩ = some u2 ∧ w.cell? ⟨b, o + 3, none⟩ = some u3 ∧ w.cell? ⟨b, o + 4, none⟩ = some u4 ∧ w.cell? ⟨b, o + 5, none⟩ = some u5 := ⟨h 0 _ rfl, h 1 _ rfl, h 2 _ rfl, h 3 _ rfl, h 4 _ rfl, h 5 _ rfl⟩
theorem VerR.expl' {S : Nat → Prop} {w : World} {cs : List Value} {x : Ver} (h : VerR S w cs x) : ∃ a c, cs = [.int .i64 x.r.1, .int .i64 x.r.2, .int .i64 x.num, .int .u8 x.kind, .int .u8 x.level, .slice a x.fs.length c] ∧ FldsAt S w (.slice a x.fs.length c) x.fs := by
  obtain ⟨fv, rfl, h⟩ := h
  have h' := h
  obtain ⟨a, c, rfl, _⟩ := h; exact ⟨a, c, rfl, h'⟩
set_option maxRecDepth 100000 in
theorem neq_rec (a b : Int × Int) (W : World) : (binOp .neq 41 (.agg #[.int .i64 a.1, .int .i64 a.2]) (.agg #[.int .i64 b.1, .int .i64 b.2])).run Tryz.prog W = .ok (.bool (!decide (a = b))) W := by
  obtain ⟨c, t⟩ := a
  obtain ⟨d, u⟩ := b
  dsimp only
  go_simp
  by_cases h1 : c = d <;> by_cases h2 : t = u <;> simp [h1, h2]
set_option maxRecDepth 100000 in
theorem eql_rec (a b : Int × Int) (W : World) : (binOp .eql 41 (.agg #[.int .i64 a.1, .int .i64 a.2]) (.agg #[.int .i64 b.1, .int .i64 b.2])).run Tryz.prog W = .ok (.bool (decide (a = b))) W := by
  obtain ⟨c, t⟩ := a
  obtain ⟨d, u⟩ := b
  dsimp only
  go_simp
  by_cases h1 : c = d <;> by_cases h2 : t = u <;> simp [h1, h2]
set_option maxRecDepth 100000 in
set_option maxHeartbeats 2000000 in
theorem sameVersions_any (S S' : Nat → Prop) {w : World} {u v : Value} {L : List Ver} (hu : VersAt S w u L) (hv : VersAt S' w v L) (hl : VsOk L) :
    Calls Tryz.prog 16 #[u, v] w fun e w' => e = .returned (.bool true) ∧ Below w.heap.size w w' := by
  have HU := Lib.hid hu
  have HV := Lib.hid hv
  obtain ⟨ua, uc, rfl, -⟩ := hu
  obtain ⟨va, vc, rfl, -⟩ := hv
  have HL := Lib.hid hl
  obtain ⟨n, hn⟩ : ∃ n, n = L.length := ⟨_, rfl⟩
  have hl1 : n ≤ 1000 := by rw [hn]; exact hl.1
  rw [← hn] at HU HV ⊢
  have N1 := Lib.hid hn
  clear hn hl
  go_enter Tryz.func16, Tryz.ntmps16
  go_wp2_with fail
  go_loopw [5] (fun i wr => ∃ k : Nat, k ≤ n ∧ i = .int .i64 k ∧ Below w.heap.size w wr) (fun i _ => n - (intOf i).toNat)
  case atStart => exact ⟨0, by omega, rfl, Below.refl _ _⟩
  case round =>
    obtain ⟨k, hk, rfl, hb⟩ := hrel
    have HBr := Lib.hid hb
    clear hb
    by_cases hlt : k < n
    · have hlx : k < L.length := by rw [← N1.out]; exact hlt
      obtain ⟨b1, o1, cap1, cs1, e1, _, _, hR1, _, hg1, _⟩ := SlOf.range (by omega) (VersAt.keep HU.out (Stay.of_below HBr.out) (fun _ h _ => h)) hlx
      obtain ⟨b2, o2, cap2, cs2, e2, _, _, hR2, _, hg2, _⟩ := SlOf.range (by omega) (VersAt.keep HV.out (Stay.of_below HBr.out) (fun _ h _ => h)) hlx
      have e1' : ua = some ⟨b1, o1, none⟩ := by injection e1
      have e2' : va = some ⟨b2, o2, none⟩ := by injection e2
      clear e1 e2
      subst e1' e2'
      obtain ⟨x, hx⟩ : ∃ x, x = L[k] := ⟨_, rfl⟩
      rw [← hx] at hR1 hR2
      have HF : RowKit.Hid (FsOk x.fs) := Lib.hid (by rw [hx]; exact HL.out.2 _ (List.getElem_mem _))
      obtain ⟨fa, fc, rfl, hf1⟩ := hR1.expl'
      obtain ⟨ga, gc, rfl, hf2⟩ := hR2.expl'
      have HSF : RowKit.Hid (∀ y, Calls Tryz.prog 25 #[.agg #[.int .u8 x.kind, .int .u8 x.level, .slice fa x.fs.length fc], .agg #[.int .u8 x.kind, .int .u8 x.level, .slice ga x.fs.length gc]] (over wr y) fun e w' => e = .returned (.bool true) ∧ Below (over wr y).heap.size (over wr y) w') := Lib.hid fun y =>
        sameRecord_any S S' (w := over wr y) x.kind x.level (hf1.keep (Stay.of_below (below_over wr y)) (fun _ h _ => h)) (hf2.keep (Stay.of_below (below_over wr y)) (fun _ h _ => h)) HF.out
      obtain ⟨p0, p1, p2, p3, p4, p5⟩ := range6 hg1
      obtain ⟨q0, q1, q2, q3, q4, q5⟩ := range6 hg2
      clear hg1 hg2 hx hR1 hR2 hf1 hf2
      obtain ⟨xn, hxn⟩ : ∃ xn, xn = x.fs.length := ⟨_, rfl⟩
      rw [← hxn] at p5 q5 HSF
      clear hxn
      have hq := neq_rec x.r x.r
      rw [decide_eq_true rfl] at hq
      go_wp2_with fail
      refine wp_region_over (by kernel_rfl) (by kernel_rfl) ?_
      repeat (first | go_big_quiet_step (first | (go_at_call 25; with_reducible exact inOver (HSF.out _))))
      refine wpQuiet_nil ?_
      rintro _ ⟨nq, rfl⟩
      have B8 : RowKit.Hid (Below w.heap.size w (over wr nq)) := Lib.hid (HBr.out.trans ((below_over wr nq).mono HBr.out.size))
      clear HSF
      go_wp2_with fail
      go_quiet (fail)
      go_wp2_with fail
      exact ⟨⟨k + 1, hlt, by go_num, bdrewN B8.out _⟩, by simp [intOf]; omega⟩
    · go_wp2_with fail
      go_ret
      exact ⟨rfl, HBr.out⟩
end Go.Proofs.YtpdldbapagchfaaGreatDoor

/- The collectors: local and first. -/
namespace Go.Proofs.YtpdldbapagchfaaGreatDoor
open Go.RowKit Go.Shelf Go.Maps

theorem keptD_filter {del : Nat → Bool} {l : List Said} {p : Said → Bool} (h : ∀ j x, l[j]? = some x → del j = !p x) : ∀ j, j ≤ l.length → keptD del l j = (l.take j).filter p
  | 0, _ => by simp [keptD]
  | j + 1, hj => by
    have hx := List.getElem?_eq_getElem (show j < l.length by omega)
    unfold keptD
    rw [h j _ hx, keptD_filter h j (by omega), List.take_add_one, hx]
    simp only [Option.toList_some, List.filter_append]
    cases hp : p l[j] <;> simp [hp]
set_option maxRecDepth 100000 in
set_option maxHeartbeats 2000000 in
theorem local_any (cb : Nat) (v : Value) (h1 : v.oneCell' = true) (w : World) (hc : w.cell? ⟨cb, 0, none⟩ = some v) : Calls Tryz.prog 49 #[.pointer (some ⟨cb, 0, none⟩)] w fun e w' => e = .returned v ∧ w' = w := by
  go_enter Tryz.func49, Tryz.ntmps49
  go_wp2_with fail
  go_ret
  exact ⟨rfl, rfl⟩
/-- Does it differ from the first's record? -/
def delF (l : List Said) (r : Int × Int) (j : Nat) : Bool := match l[j]? with
  | some x => !decide (x.2 = r)
  | none => false
/-- What the closure of first knows. -/
structure FirJ (pb cb g n cap : Nat) (r : Int × Int) (W : World) : Prop where
  p : W.cell? ⟨pb, 0, none⟩ = some (.pointer (some ⟨cb, 0, none⟩))
  c : W.cell? ⟨cb, 0, none⟩ = some (.slice (some ⟨g, 0, none⟩) n cap)
  r1 : W.cell? ⟨g, 4, none⟩ = some (.int .i64 r.1)
  r2 : W.cell? ⟨g, 5, none⟩ = some (.int .i64 r.2)
theorem FirJ.below {pb cb g n cap : Nat} {r : Int × Int} {W W' : World} (h : FirJ pb cb g n cap r W) (hb : Below W.heap.size W W') : FirJ pb cb g n cap r W' :=
  ⟨Below.cellE hb h.p, Below.cellE hb h.c, Below.cellE hb h.r1, Below.cellE hb h.r2⟩
set_option maxRecDepth 100000 in
set_option maxHeartbeats 2000000 in
theorem firC_any {pb cb g n cap : Nat} {r : Int × Int} {S : Nat → Prop} {W : World} {cs : List Value} {x : Said} (hj : FirJ pb cb g n cap r W) (hn : 0 < n) (hx : SaidC S W cs x) :
    Calls Tryz.prog 73 #[.agg cs.toArray, .pointer (some ⟨pb, 0, none⟩)] W fun e W' => e = .returned (.bool (!decide (x.2 = r))) ∧ Below W.heap.size W W' := by
  obtain ⟨sv, rfl, sa, sc, rfl, -⟩ := hx
  obtain ⟨sn, hsn⟩ : ∃ y, y = x.1.subs.length := ⟨_, rfl⟩
  obtain ⟨y1, hy1⟩ : ∃ y, y = x.1.tag := ⟨_, rfl⟩
  obtain ⟨y2, hy2⟩ : ∃ y, y = x.1.ind := ⟨_, rfl⟩
  obtain ⟨y3, hy3⟩ : ∃ y, y = x.1.data := ⟨_, rfl⟩
  rw [← hsn, ← hy1, ← hy2, ← hy3]
  clear hsn hy1 hy2 hy3
  obtain ⟨xr, hxr⟩ : ∃ y, y = x.2 := ⟨_, rfl⟩
  rw [← hxr]
  clear hxr
  obtain ⟨W1, hW1⟩ : ∃ W1, W1 = W.alloc (.cells #[.string y1, .string y2, .string y3, .slice sa sn sc, .int .i64 xr.1, .int .i64 xr.2] 71) := ⟨_, rfl⟩
  have HB : RowKit.Hid (Below W.heap.size W W1) := Lib.hid (by rw [hW1]; exact (Below.refl _ _).alloc (Nat.le_refl _) _)
  have K1 : Blk W1 W.heap.size #[.string y1, .string y2, .string y3, .slice sa sn sc, .int .i64 xr.1, .int .i64 xr.2] 71 := by rw [hW1]; exact Blk.new _ _ _
  have k4 : W1.cell? ⟨W.heap.size, 4, none⟩ = some (.int .i64 xr.1) := K1.cell 4
  have k5 : W1.cell? ⟨W.heap.size, 5, none⟩ = some (.int .i64 xr.2) := K1.cell 5
  obtain ⟨j1, j2, j3, j4⟩ := hj.below HB.out
  have hq := neq_rec xr r
  have hdd : ∃ bb, bb = !decide (xr = r) := ⟨_, rfl⟩
  obtain ⟨bb, hbb⟩ := hdd
  rw [← hbb] at hq ⊢
  clear hbb K1 hj
  go_enter Tryz.func73, Tryz.ntmps73
  go_wp2_with fail
  rw [← hW1]
  clear hW1
  go_quiet (fail)
  go_wp2_with fail
  go_ret
  exact ⟨rfl, HB.out.trans (bdrewN (Below.refl _ _) _)⟩
end Go.Proofs.YtpdldbapagchfaaGreatDoor

/- The collector first, whole. -/
namespace Go.Proofs.YtpdldbapagchfaaGreatDoor
open Go.RowKit Go.Shelf Go.Maps

theorem FirJ.set {pb cb g n cap : Nat} {r : Int × Int} {W : World} (h : FirJ pb cb g n cap r W) (hp : pb ≠ g) (hc : cb ≠ g) {o : Nat} (ho : 6 ≤ o) (u : Value) : FirJ pb cb g n cap r (W.setCell ⟨g, o, none⟩ u) := by
  refine ⟨?_, ?_, ?_, ?_⟩
  · rw [World.cell?_setCell_other _ _ _ _ (by intro e; injection e with e1 _; exact hp e1.symm)]; exact h.p
  · rw [World.cell?_setCell_other _ _ _ _ (by intro e; injection e with e1 _; exact hc e1.symm)]; exact h.c
  · rw [World.cell?_setCell_other _ _ _ _ (by intro e; injection e with _ e2; omega)]; exact h.r1
  · rw [World.cell?_setCell_other _ _ _ _ (by intro e; injection e with _ e2; omega)]; exact h.r2
theorem firstDel {l : List Said} {x0 : Said} (h0 : l[0]? = some x0) : keptD (delF l x0.2) l l.length = keepFirst l := by
  rw [keptD_filter (p := fun x => decide (x.2 = x0.2)) (fun j x hx => by simp [delF, hx]) _ (Nat.le_refl _), List.take_length]
  cases l with
  | nil => simp at h0
  | cons y l => simp only [List.getElem?_cons_zero] at h0; injection h0 with h0; subst h0; rfl
set_option maxRecDepth 100000 in
set_option maxHeartbeats 2000000 in
theorem first_any {cb B g n cap : Nat} {S : Nat → Prop} {l : List Said} {w : World} (hn : l.length = n) (hn0 : 0 < n) (hn1 : n ≤ 100000) (hst : DelSt S B g n cap w [] l 0) (hc : w.cell? ⟨cb, 0, none⟩ = some (.slice (some ⟨g, 0, none⟩) n cap)) (hcg : cb ≠ g) (hSg : ¬ S g) :
    Calls Tryz.prog 50 #[.pointer (some ⟨cb, 0, none⟩)] w fun e W' => ∃ v', e = .returned v' ∧ SlOf 6 (fun b => b = g) (SaidC S) W' v' (keepFirst l) ∧ Tn (fun b => b = g) w W' := by
  obtain ⟨pb, hpb⟩ : ∃ pb, pb = w.heap.size := ⟨_, rfl⟩
  obtain ⟨hBg, hgl, hcap, hmx⟩ := hst.cells.resolve_right (by omega)
  obtain ⟨x0, hx0⟩ : ∃ x0, l[0]? = some x0 := ⟨_, List.getElem?_eq_getElem (show 0 < l.length by omega)⟩
  have HK := Lib.hid (firstDel hx0)
  obtain ⟨W1, hW1⟩ : ∃ W1, W1 = w.alloc (.cells #[.pointer (some ⟨cb, 0, none⟩)] 66) := ⟨_, rfl⟩
  have B1 : RowKit.Hid (Below w.heap.size w W1) := Lib.hid (by rw [hW1]; exact (Below.refl _ _).alloc (Nat.le_refl _) _)
  have c1 : W1.cell? ⟨cb, 0, none⟩ = some (.slice (some ⟨g, 0, none⟩) n cap) := Below.cellE B1.out hc
  have p1 : W1.cell? ⟨pb, 0, none⟩ = some (.pointer (some ⟨cb, 0, none⟩)) := by rw [hW1, hpb]; exact (Blk.new _ _ _).cell 0
  have S1 : RowKit.Hid (DelSt S B g n cap W1 [] l 0) := Lib.hid (hst.tn (Tn.of_below (F := fun _ => False) B1.out) (fun _ _ h => h) (fun h => h))
  have J1 : FirJ pb cb g n cap x0.2 W1 := by
    obtain ⟨cs, hC, hG⟩ := S1.out.at (m := 0) hn0 hn (Nat.le_refl _)
    have e0 : l[0]'(by omega) = x0 := by
      have := List.getElem?_eq_getElem (show 0 < l.length by omega)
      rw [hx0] at this; injection this with this; exact this.symm
    rw [e0] at hC
    obtain ⟨sv, rfl, -⟩ := hC
    exact ⟨p1, c1, by have := hG 4 _ rfl; simpa using this, by have := hG 5 _ rfl; simpa using this⟩
  have hpg : pb ≠ g := by omega
  have hd0 : delF l x0.2 0 = false := by simp [delF, hx0]
  have hg1 : g < W1.heap.size := by have := B1.out.size; omega
  have eg : ∀ args w, (callFunc 73 args).run Tryz.prog w = .ok (.enter 73 args) w := enters_of Tryz.func73 (by kernel_rfl) rfl
  have HD := Lib.hid (deleteS_any (pf := 73) (pb := pb) (F := fun _ => False) (del := delF l x0.2) (J := fun _ W => FirJ pb cb g n cap x0.2 W) eg hn hn1 S1.out hg1 hcap hmx hSg (fun h => h) (fun _ _ h => h) (fun _ h => h.elim)
    (fun j h W cs hj hx => (firC_any hj hn0 hx).mono fun e W' ⟨h1, h2⟩ => ⟨by rw [h1]; simp [delF, List.getElem?_eq_getElem h], hj.below h2, Tn.of_below h2⟩)
    J1 (fun _ W o h => h.below ((Below.refl _ _).alloc (Nat.le_refl _) _))
    (fun d hd hdd j W o u h ho => h.set hpg hcg (by
      have : d ≠ 0 := fun e => by subst e; rw [hd0] at hdd; cases hdd
      omega) u))
  rw [← hn] at HD
  have HE : keptD (delF l x0.2) l l.length = keepFirst l := HK.out
  rw [HE] at HD
  clear HE J1 hst hd0 eg hx0 hc
  rw [hn] at HD
  go_enter Tryz.func50, Tryz.ntmps50
  rw [hW1] at c1
  go_wp2_with fail
  rw [← hW1, ← hpb]
  refine HD.out.mono ?_
  rintro e w2 ⟨v', rfl, hs, ht⟩
  have HS := Lib.hid hs
  have HT : RowKit.Hid (Tn (fun b => b = g) w w2) := Lib.hid ((Tn.of_below (F := fun b => b = g) B1.out).trans (ht.weak fun b hb => hb.resolve_left (fun h => h)))
  obtain ⟨va, vc, rfl, -⟩ := hs
  clear ht hW1 hpb
  go_wp2_with fail
  go_ret
  exact ⟨_, rfl, HS.out, HT.out⟩
end Go.Proofs.YtpdldbapagchfaaGreatDoor
