/- The reference's Merge. -/
import Derived.Test.YtpdldbapagchfaaGreatDoorQ22
import Derived.Test.YtpdldbapagchfaaGreatDoorQ26
set_option linter.unusedVariables false
set_option linter.unusedSimpArgs false

namespace Go.Proofs.YtpdldbapagchfaaGreatDoor
open Go.RowKit Go.Shelf Go.Maps
attribute [local go_sem] over_cell over_frozen

/-- What is kept of a tag, while it is being collected. -/
def KSt (S : Nat → Prop) (N3 : Nat) (w : World) (fv rv : Value) (K : List Said) : Prop := OwnOf 48 4 N3 (FldR S) w fv (K.map (·.1)) ∧ OwnOf 41 2 N3 RecR w rv (K.map (·.2))
theorem KSt.below {S : Nat → Prop} {N3 : Nat} {w w' : World} {fv rv : Value} {K : List Said} (h : KSt S N3 w fv rv K) (hb : Below w.heap.size w w') : KSt S N3 w' fv rv K :=
  ⟨h.1.keep (Tn.of_below (F := fun _ => False) hb) (fun _ _ _ _ h => h) (fun c x hx => keeps_fld _ _ _ _ _ _ hx (Stay.of_below hb) (fun _ h _ => h)), h.2.keep (R' := RecR) (Tn.of_below (F := fun _ => False) hb) (fun _ _ _ _ h => h) (fun _ _ h => h)⟩
/-- What is kept of what has been said about a tag. -/
noncomputable def kpt (t : ByteArray) (pre : List Said) : List Said := keepP (foldS tabC) (polP t) (about t pre)
theorem kpt_nil (t : ByteArray) : kpt t [] = [] := by
  unfold kpt
  cases polP t <;> rfl
theorem KSt.nil (S : Nat → Prop) (N3 : Nat) (w : World) : KSt S N3 w (.slice none 0 0) (.slice none 0 0) [] := ⟨OwnOf.nil _ _ _ _ _, OwnOf.nil _ _ _ _ _⟩
theorem of_over {w z q : World} {n : Nat} (h : z = over (w.drewN n) q) : Below w.heap.size w z := by
  rw [h]; exact (bdrewN (Below.refl _ _) n).trans (below_over (w.drewN n) q)
theorem kpt_skip {t : ByteArray} {pre : List Said} {y : Said} (h : y.1.tag ≠ t) : kpt t (pre ++ [y]) = kpt t pre := by unfold kpt; rw [about_snoc, if_neg h]
theorem kpt_step {t : ByteArray} {pre : List Said} {y : Said} (h : y.1.tag = t) : kpt t (pre ++ [y]) = if keptB (polP t) y (kpt t pre) then kpt t pre ++ [y] else kpt t pre := by
  unfold kpt; rw [about_snoc, if_pos h, keepP_snoc]
theorem kpt_len (t : ByteArray) (pre : List Said) : (kpt t pre).length ≤ pre.length := Nat.le_trans (keepP_len _ _ _) (about_len _ _)
theorem kpt_mem {t : ByteArray} {pre : List Said} {y : Said} (h : y ∈ kpt t pre) : y ∈ pre := (List.mem_filter.1 (keepP_sub _ _ h)).1
theorem kept_at {S : Nat → Prop} {N3 : Nat} {W : World} {u7 u8 : Value} {K : List Said} {cs : List Value} {f : Fld} {x1 x2 : Int} (h1 : FldR S W cs f) (h2 : KSt S N3 W u7 u8 K) (hx : FldOk f) (hK : ∀ y ∈ K, FldOk y.1) (hn : K.length ≤ 1000000) :
    Calls Tryz.prog 37 #[.agg cs.toArray, .agg #[.int .i64 x1, .int .i64 x2], u7, u8] W fun e w' => e = .returned (.bool (keptB (polP f.tag) (f, (x1, x2)) K)) ∧ Below W.heap.size W w' := by
  have h3 : FldsAt (fun _ => True) W u7 (K.map (·.1)) := h2.1.sl.keep (S' := fun _ => True) (R' := FldR (fun _ => True)) (by omega) (fun _ _ _ => rfl) (fun c x hx => keeps_fld _ (fun _ => True) _ _ _ _ hx (fun _ _ _ => rfl) (fun _ _ _ => trivial)) (fun _ _ _ => trivial)
  exact keptR_any (S := S) (x := (f, (x1, x2))) (K := K) h1 h3 h2.2.sl hx hK hn
set_option maxRecDepth 100000 in
set_option maxHeartbeats 4000000 in
theorem rmerge_any {w : World} {v : Value} {L : List Ver} {S0 : Nat → Prop} (h : VersAt S0 w v L) (hl : LOk L) (hlt : LOk (latest L)) :
    Calls Tryz.prog 15 #[v] w fun e w' => ∃ cs, e = .returned (.agg cs.toArray) ∧ MrgR (fun _ => True) w' cs (mrgV (latest L)) ∧ Below w.heap.size w w' := by
  obtain ⟨jf, hjf, jf1, jf2, jf3⟩ := info_Fld
  obtain ⟨jr, hjr, jr1, jr2, jr3⟩ := info_Rec
  obtain ⟨W0, hW0⟩ : ∃ W0, W0 = (w.alloc (.cells #[.int .u8 0, .int .u8 0, .slice none 0 0, .slice none 0 0] 32)).alloc (.cells #[.int .u8 0, .int .u8 0, .slice none 0 0, .slice none 0 0] 32) := ⟨_, rfl⟩
  have B0 : RowKit.Hid (Below w.heap.size w W0) := Lib.hid (by rw [hW0]; exact ((Below.refl _ _).alloc (Nat.le_refl _) _).alloc (by simp) _)
  have K0 : RowKit.Hid (Blk W0 w.heap.size #[.int .u8 0, .int .u8 0, .slice none 0 0, .slice none 0 0] 32) := Lib.hid (by rw [hW0]; exact (Blk.new _ _ _).alloc _)
  have K1 : RowKit.Hid (Blk W0 (w.heap.size + 1) #[.int .u8 0, .int .u8 0, .slice none 0 0, .slice none 0 0] 32) := Lib.hid (by rw [hW0]; exact Blk.at_new (by simp) _ _)
  have HV : RowKit.Hid (VersAt (fun b => b < w.heap.size) W0 v L) := Lib.hid (VersAt.keep h (Stay.of_below B0.out) (fun _ _ h => h))
  have hz0 : W0.heap.size = w.heap.size + 2 := by rw [hW0]; simp
  have HZ0 := Lib.hid hz0
  obtain ⟨a, cap, rfl, -⟩ := h
  obtain ⟨n, hn⟩ : ∃ n, n = L.length := ⟨_, rfl⟩
  rw [← hn] at HV ⊢
  have HLT := Lib.hid (rlatestB_any (B := w.heap.size) (by omega) HV.out hl.vs)
  obtain ⟨V, hV⟩ : ∃ V, V = latest L := ⟨_, rfl⟩
  rw [← hV] at HLT hlt ⊢
  have HOK := Lib.hid hlt
  clear hl HV hn hlt hV hz0
  go_enter Tryz.func15, Tryz.ntmps15
  go_wp2_with fail
  rw [← hW0]
  clear hW0
  refine HLT.out.mono ?_
  rintro e w1 ⟨v1, rfl, hv1, hb1⟩
  obtain ⟨va, vc, rfl, -⟩ := hv1.sl
  obtain ⟨m, hm⟩ : ∃ m, m = V.length := ⟨_, rfl⟩
  rw [← hm] at hv1 ⊢
  have HM := Lib.hid hm
  have HV1 := Lib.hid hv1
  have HB1 := Lib.hid hb1
  have hb1z := hb1.size
  clear hv1 hb1 HLT hm
  have HZ0L := HZ0.out
  have k0 := Lib.hid (K0.out.below HB1.out (by omega))
  have k1 := Lib.hid (K1.out.below HB1.out (by omega))
  clear HZ0L
  by_cases h0 : m = 0
  · subst h0
    have HE : RowKit.Hid (V = []) := Lib.hid (List.eq_nil_of_length_eq_zero HM.out.symm)
    have HFB : RowKit.Hid (Below w.heap.size w w1) := Lib.hid (B0.out.trans (HB1.out.mono B0.out.size))
    go_wp2_with (first
      | refine wpList_load_row 32 (.tmp 3) rfl rfl rfl k1.out Tryz.underlying32 rfl (by kernel_rfl) ?_
      | refine wpList_store_row rfl 32 (.tmp 2) (.tmp 18) rfl w.heap.size #[.int .u8 0, .int .u8 0, .slice none 0 0, .slice none 0 0] rfl rfl 32 _ k0.out (by kernel_rfl) rfl (by simp [Value.oneCell']) ?_)
    (try simp only [Exit.inBlock, Exit.then])
    refine bodyPost_ret (results_cell_row rfl _ _ w.heap.size 32 #[.int .u8 0, .int .u8 0, .slice none 0 0, .slice none 0 0] (0, 0) _ rfl (setRow_heap _ _ _ _ _ _ k0.out) Tryz.underlying32 rfl (by kernel_rfl)) rfl ?_
    refine ⟨[.int .u8 0, .int .u8 0, .slice none 0 0, .slice none 0 0], rfl, ?_, belowS HFB.out (Nat.le_refl _)⟩
    rw [HE.out]
    exact ⟨_, _, rfl, ⟨none, 0, rfl, Nat.le_refl _, by unfold maxLen; omega, .inl rfl⟩, ⟨none, 0, rfl, Nat.le_refl _, by unfold maxLen; omega, .inl rfl⟩⟩
  · have hm0 : 0 < m := by omega
    have hd0 : decide (0 < m) = true := by simpa using hm0
    have hm1000 : m ≤ 1000 := by have := HOK.out.vs.1; have := HM.out; omega
    clear h0
    obtain ⟨S, hS⟩ : ∃ S : Nat → Prop, S = fun b => b < w.heap.size ∨ (W0.heap.size ≤ b ∧ b < w1.heap.size) := ⟨_, rfl⟩
    have HSL : RowKit.Hid (∀ b, S b → b < w.heap.size ∨ (W0.heap.size ≤ b ∧ b < w1.heap.size)) := Lib.hid (by rw [hS]; exact fun b h => h)
    have HVS : RowKit.Hid (VersAt S w1 (.slice va m vc) V) := Lib.hid (by
      rw [hS]
      exact (HV1.out.slB (by omega)).keep (S' := fun b => b < w.heap.size ∨ (W0.heap.size ≤ b ∧ b < w1.heap.size)) (R' := VerR (fun b => b < w.heap.size ∨ (W0.heap.size ≤ b ∧ b < w1.heap.size))) (by omega) (fun _ _ _ => rfl) (fun c x h => VerR.keep h (fun _ _ _ => rfl) (fun b h h' => .inl h)) (fun b h h' => .inr ⟨h, h'⟩))
    clear hS
    have hm0' : 0 < V.length := by rw [← HM.out]; exact hm0
    obtain ⟨vb, vo, cap2, cs, e1, hvS, hvl, hR, hcl, hrg, hth⟩ := SlOf.range (by omega) HVS.out hm0'
    have e2 : va = some ⟨vb, vo, none⟩ := by injection e1
    subst e2
    obtain ⟨x0, hx0⟩ : ∃ x0, x0 = V[0] := ⟨_, rfl⟩
    rw [← hx0] at hR
    obtain ⟨fv0, rfl, -⟩ := hR
    obtain ⟨-, -, -, p3, p4, -⟩ := range6 hrg
    have p3' : w1.cell? ⟨vb, vo + 3, none⟩ = some (.int .u8 x0.kind) := by simpa using p3
    have p4' : w1.cell? ⟨vb, vo + 4, none⟩ = some (.int .u8 x0.level) := by simpa using p4
    have hb3v : ¬ vb = w.heap.size + 1 := fun e => by have := HSL.out vb hvS; have := HZ0.out; omega
    obtain ⟨kd, hkd⟩ : ∃ kd, kd = x0.kind := ⟨_, rfl⟩
    obtain ⟨lv, hlv⟩ : ∃ lv, lv = x0.level := ⟨_, rfl⟩
    have HKL : RowKit.Hid (kd = kdOf V ∧ lv = lvOf V) := Lib.hid (by rw [hkd, hlv, hx0]; exact kd_at hm0')
    rw [← hkd] at p3'
    rw [← hlv] at p4'
    obtain ⟨b3, hb3⟩ : ∃ b3, b3 = w.heap.size + 1 := ⟨_, rfl⟩
    rw [← hb3] at k1 hb3v ⊢
    have HB3 := Lib.hid hb3
    clear hb3
    have hb3v' : ¬ b3 = vb := fun e => hb3v e.symm
    have K2 : RowKit.Hid (Blk (w1.setCell ⟨b3, 0, none⟩ (.int .u8 kd)) b3 #[.int .u8 kd, .int .u8 0, .slice none 0 0, .slice none 0 0] 32) := Lib.hid (k1.out.set 0 _)
    have f00 : w1.cell? ⟨b3, 0, none⟩ = some (.int .u8 0) := k1.out.cell 0
    have f01 := k1.out.frozen 0
    have f10 : (w1.setCell ⟨b3, 0, none⟩ (.int .u8 kd)).cell? ⟨b3, 1, none⟩ = some (.int .u8 0) := K2.out.cell 1
    have f11 := K2.out.frozen 1
    have p4'' : (w1.setCell ⟨b3, 0, none⟩ (.int .u8 kd)).cell? ⟨vb, vo + 4, none⟩ = some (.int .u8 lv) := ((Tn.refl (fun b => b = b3) w1).setCell (p := ⟨b3, 0, none⟩) (.inl rfl) _).cell p4' hb3v
    clear e1 hvS hvl hcl hrg hth hx0 p3 p4 hkd hlv hm0' hb3v'
    go_wp2_with fail
    obtain ⟨W3, hW3⟩ : ∃ W3, W3 = (w1.setCell ⟨b3, 0, none⟩ (.int .u8 kd)).setCell ⟨b3, 1, none⟩ (.int .u8 lv) := ⟨_, rfl⟩
    have K3 : RowKit.Hid (Blk W3 b3 #[.int .u8 kd, .int .u8 lv, .slice none 0 0, .slice none 0 0] 32) := Lib.hid (by rw [hW3]; exact K2.out.set 1 _)
    have T3 : RowKit.Hid (Tn (fun b => b = b3) w1 W3) := Lib.hid (by rw [hW3]; exact ((Tn.refl (fun b => b = b3) w1).setCell (p := ⟨b3, 0, none⟩) (.inl rfl) _).setCell (p := ⟨b3, 1, none⟩) (.inl rfl) _)
    have HZ3 : RowKit.Hid (W3.heap.size = w1.heap.size) := Lib.hid (by rw [hW3]; simp)
    have HS3 : RowKit.Hid (∀ b, S b → b < w1.heap.size ∧ b ≠ b3) := Lib.hid fun b hb => by
      have := HSL.out b hb; have := HB3.out; have := HZ0.out; omega
    have HV3 : RowKit.Hid (VersAt S W3 (.slice (some ⟨vb, vo, none⟩) m vc) V) := Lib.hid (VersAt.keep HVS.out (S' := S) (fun b hb hbl => T3.out.block b hbl (HS3.out b hb).2) (fun _ h _ => h))
    have HTG := Lib.hid (tagsR_any HV3.out HOK.out)
    rw [← hW3]
    clear hW3 f00 f01 f10 f11 p3' p4' p4''
    refine HTG.out.mono ?_
    rintro e w4 ⟨tv, rfl, htr, hb4⟩
    have B4 := Lib.hid hb4
    obtain ⟨T, hT⟩ : ∃ T, T = tagsP ltT (saidOf V) := ⟨_, rfl⟩
    rw [← hT] at htr
    obtain ⟨tn, htn⟩ : ∃ tn, tn = T.length := ⟨_, rfl⟩
    rw [← htn] at htr
    have HTN := Lib.hid htn
    have HTE := Lib.hid hT
    obtain ⟨pre, hpre⟩ : ∃ pre, pre = saidOf V := ⟨_, rfl⟩
    have HPL : RowKit.Hid (pre.length ≤ 100000) := Lib.hid (by rw [hpre]; exact said_len_le HOK.out)
    have HPK : RowKit.Hid (∀ y ∈ pre, KOk y.1) := Lib.hid (by
      rw [hpre]; intro y hy
      obtain ⟨z, hz, hy'⟩ := List.mem_flatMap.1 hy
      obtain ⟨f, hf, rfl⟩ := List.mem_map.1 hy'
      exact HOK.out.fld z hz f hf)
    have HPRE := Lib.hid hpre
    have htl : tn ≤ 100000 := by rw [htn, hT]; exact Nat.le_trans (tagsP_len _) (by rw [← hpre]; exact HPL.out)
    obtain ⟨ta, tc, rfl, -, -, -, hth⟩ := row_cellz htr
    have HTC : RowKit.Hid (∀ j t, T[j]? = some t → ∃ tb, ta = some ⟨tb, 0, none⟩ ∧ W3.heap.size ≤ tb ∧ w4.cell? ⟨tb, j, none⟩ = some (.string t)) := Lib.hid fun j t hj => by
      rcases hth with ⟨h0, _⟩ | ⟨g, e, _, hg, _, hc⟩
      · have := (List.getElem?_eq_some_iff.1 hj).1; omega
      · exact ⟨g, e, hg, hc j _ (by rw [List.getElem?_map, hj]; rfl)⟩
    have K34 : RowKit.Hid (Blk w4 b3 #[.int .u8 kd, .int .u8 lv, .slice none 0 0, .slice none 0 0] 32) := Lib.hid (K3.out.below B4.out K3.out.lt)
    have HV4 : RowKit.Hid (∀ W, Tn (fun b => b = b3) w4 W → VersAt S W (.slice (some ⟨vb, vo, none⟩) m vc) V) := Lib.hid fun W hW => VersAt.keep HV3.out (S' := S) (fun b hb hbl => (hW.block b (by have := B4.out.size; omega) (HS3.out b hb).2).trans (B4.out.block b hbl)) (fun _ h _ => h)
    obtain ⟨N2, hN2⟩ : ∃ N2, N2 = w4.heap.size := ⟨_, rfl⟩
    have HN2 := Lib.hid hN2
    have HSN : RowKit.Hid (∀ b, S b → b < N2 ∧ b ≠ b3) := Lib.hid fun b hb => by have h1 := HS3.out b hb; have := B4.out.size; have := HZ3.out; omega
    have HB3N : RowKit.Hid (b3 < W3.heap.size ∧ W3.heap.size ≤ N2) := Lib.hid (by have := K3.out.lt; have := B4.out.size; omega)
    clear htr hb4 hT htn hpre hth hN2 HTG
    go_wp2_with fail
    go_loopw [6] (fun i wr => ∃ k : Nat, k ≤ tn ∧ i = .int .i64 k ∧ Tn (fun b => b = b3) w4 wr ∧ MrgSt S N2 b3 kd lv wr (mrgTo pre T k)) (fun i _ => tn - (intOf i).toNat)
    case atStart => exact ⟨0, by omega, rfl, Tn.refl _ _, _, _, K34.out, OwnOf.nil _ _ _ _ _, OwnOf.nil _ _ _ _ _⟩
    case round =>
      obtain ⟨p, hp, rfl, ht4, hst⟩ := hrel
      have T4 := Lib.hid ht4
      have HST := Lib.hid hst
      have hwz : N2 ≤ wr.heap.size := by have := ht4.size; have := HN2.out; omega
      clear ht4 hst
      by_cases hlt : p < tn
      · obtain ⟨t, ht⟩ : ∃ t, T[p]? = some t := ⟨_, List.getElem?_eq_getElem (by rw [← HTN.out]; exact hlt)⟩
        have HT := Lib.hid ht
        obtain ⟨tb, rfl, htbN, htc⟩ := HTC.out p t ht
        have htb3 : ¬ tb = b3 := by have := HB3N.out; omega
        have HTCW : RowKit.Hid (wr.cell? ⟨tb, p, none⟩ = some (.string t)) := Lib.hid (T4.out.cell htc htb3)
        have HMS2 : RowKit.Hid (mrgTo pre T (p + 1) = mrgTo pre T p ++ kpt t pre) := Lib.hid (mrgTo_step ht)
        obtain ⟨N3, hN3⟩ : ∃ N3, N3 = wr.heap.size := ⟨_, rfl⟩
        have HN3 := Lib.hid hN3
        clear ht htc htb3 hN3
        go_wp2_with fail
        obtain ⟨wo, rfl⟩ : ∃ wo, wo = wr := ⟨_, rfl⟩
        go_loopw [7, 8, 9] (fun fv rv i wr => ∃ k : Nat, k ≤ m ∧ i = .int .i64 k ∧ Below wo.heap.size wo wr ∧ KSt S N3 wr fv rv (kpt t (saidOf (V.take k)))) (fun _ _ i _ => m - (intOf i).toNat)
        case atStart => exact ⟨0, by omega, rfl, Below.refl _ _, by
            have e : kpt t (saidOf (V.take 0)) = [] := kpt_nil t
            rw [e]; exact KSt.nil _ _ _⟩
        case round =>
          obtain ⟨k, hk, rfl, hbo, hks⟩ := hrel
          have HBO := Lib.hid hbo
          have HKS := Lib.hid hks
          have hzo : N3 ≤ wr.heap.size := by have := hbo.size; have := HN3.out; omega
          clear hbo hks
          by_cases hlk : k < m
          · have hlx : k < V.length := by rw [← HM.out]; exact hlk
            obtain ⟨x, hx⟩ : ∃ x, x = V[k] := ⟨_, rfl⟩
            obtain ⟨x1, hx1⟩ : ∃ y, y = x.r.1 := ⟨_, rfl⟩
            obtain ⟨x2, hx2⟩ : ∃ y, y = x.r.2 := ⟨_, rfl⟩
            have HX12 : RowKit.Hid (x.r = (x1, x2)) := Lib.hid (by rw [hx1, hx2])
            have HXS : RowKit.Hid (saidOf (V.take (k + 1)) = saidOf (V.take k) ++ x.fs.map (fun f => (f, x.r))) := Lib.hid (by rw [saidOf_take hlx, ← hx])
            have HXF : RowKit.Hid (∀ f ∈ x.fs, KOk f) := Lib.hid (by rw [hx]; exact HOK.out.fld _ (List.getElem_mem _))
            have hfl : x.fs.length ≤ 1000 := by rw [hx]; exact (HOK.out.vs.2 _ (List.getElem_mem _)).1
            have h4 := HV4.out wo T4.out
            obtain ⟨b, o, cap3, cs, e1, hSb, hbl, hR, hcl, hrg, hth⟩ := SlOf.range (by omega) h4 hlx
            have e2 : vb = b := by injection e1 with h; injection h with h; injection h
            have e3 : vo = o := by injection e1 with h; injection h with h; injection h
            subst e2 e3
            rw [← hx] at hR
            obtain ⟨fa, fc, rfl, hf⟩ := hR.expl'
            obtain ⟨fn, hfn⟩ : ∃ fn, fn = x.fs.length := ⟨_, rfl⟩
            rw [← hfn] at hf hrg hfl
            rw [← hx1, ← hx2] at hrg
            have HFN := Lib.hid hfn
            have HF := Lib.hid hf
            obtain ⟨q0, q1, -, -, -, q5⟩ := range6 hrg
            have HQ : RowKit.Hid (∀ W, Below wo.heap.size wo W → W.cell? ⟨vb, vo + k * 6 + 5, none⟩ = some (.slice fa fn fc) ∧ W.cell? ⟨vb, vo + k * 6, none⟩ = some (.int .i64 x1) ∧ W.cell? ⟨vb, vo + k * 6 + 1, none⟩ = some (.int .i64 x2)) := Lib.hid fun W hW => ⟨Below.cellE hW q5, Below.cellE hW q0, Below.cellE hW q1⟩
            have HPRE2 : RowKit.Hid (∀ q, q ≤ fn → (saidOf (V.take k) ++ (x.fs.take q).map (fun f => (f, x.r))).length ≤ 100000 ∧ ∀ y ∈ saidOf (V.take k) ++ (x.fs.take q).map (fun f => (f, x.r)), KOk y.1) := Lib.hid fun q hq => by
              have h2 : saidOf V = saidOf (V.take (k + 1)) ++ saidOf (V.drop (k + 1)) := by
                unfold saidOf; rw [← List.flatMap_append, List.take_append_drop]
              constructor
              · have h1 := said_len_le HOK.out
                rw [h2, List.length_append, HXS.out, List.length_append] at h1
                rw [List.length_append]
                have h3 : ((x.fs.take q).map fun f => (f, x.r)).length ≤ (x.fs.map fun f => (f, x.r)).length := by rw [List.length_map, List.length_map, List.length_take]; omega
                omega
              · intro y hy
                refine HPK.out y ?_
                rw [HPRE.out, h2, HXS.out]
                refine List.mem_append_left _ ?_
                rcases List.mem_append.1 hy with h | h
                · exact List.mem_append_left _ h
                · refine List.mem_append_right _ ?_
                  obtain ⟨f, hf, e⟩ := List.mem_map.1 h
                  exact List.mem_map.2 ⟨f, List.mem_of_mem_take hf, e⟩
            clear hx hx1 hx2 h4 e1 hSb hbl hcl hth hrg hf hfn q0 q1 q5 hlx
            go_wp2_with fail
            go_loopw [7, 8, 10] (fun fv rv i wr => ∃ q : Nat, q ≤ fn ∧ i = .int .i64 q ∧ Below wo.heap.size wo wr ∧ KSt S N3 wr fv rv (kpt t (saidOf (V.take k) ++ (x.fs.take q).map (fun f => (f, x.r))))) (fun _ _ i _ => fn - (intOf i).toNat)
            case atStart => exact ⟨0, by omega, rfl, HBO.out, by simpa using HKS.out⟩
            case round =>
              obtain ⟨q, hq, rfl, hbo, hks⟩ := hrel
              obtain ⟨pp, hpp⟩ : ∃ pp, pp = saidOf (V.take k) ++ (x.fs.take q).map (fun f => (f, x.r)) := ⟨_, rfl⟩
              have HPP := Lib.hid (HPRE2.out q hq)
              rw [← hpp] at hks HPP
              have HPE := Lib.hid hpp
              have HBJ := Lib.hid hbo
              have HKJ := Lib.hid hks
              have hzj : N3 ≤ wr.heap.size := by have := hbo.size; have := HN3.out; omega
              obtain ⟨c5, c0, c1⟩ := HQ.out wr hbo
              clear hbo hks hpp
              by_cases hqt : q < fn
              · have hqx : q < x.fs.length := by rw [← HFN.out]; exact hqt
                obtain ⟨fb, fo, fcap, fcs, e1, -, -, hRf, -, hrgf, -⟩ := SlOf.range (by omega) (FldsAt.keep HF.out (Stay.of_below HBJ.out) (fun _ h _ => h)) hqx
                have e2 : fa = some ⟨fb, fo, none⟩ := by injection e1
                clear e1
                subst e2
                obtain ⟨f, hf⟩ : ∃ f, f = x.fs[q] := ⟨_, rfl⟩
                rw [← hf] at hRf
                have HRF := Lib.hid hRf
                obtain ⟨sa, sc, rfl, -⟩ := hRf.expl
                obtain ⟨sn, hsn⟩ : ∃ y, y = f.subs.length := ⟨_, rfl⟩
                rw [← hsn] at HRF hrgf
                obtain ⟨y1, hy1⟩ : ∃ y, y = f.tag := ⟨_, rfl⟩
                obtain ⟨y2, hy2⟩ : ∃ y, y = f.ind := ⟨_, rfl⟩
                obtain ⟨y3, hy3⟩ : ∃ y, y = f.data := ⟨_, rfl⟩
                rw [← hy1, ← hy2, ← hy3] at HRF hrgf
                have HG := Lib.hid hrgf
                have HY1 := Lib.hid hy1
                have HKF : RowKit.Hid (KOk f) := Lib.hid (by rw [hf]; exact HXF.out _ (List.getElem_mem _))
                have HSE : RowKit.Hid (saidOf (V.take k) ++ (x.fs.take (q + 1)).map (fun f => (f, x.r)) = pp ++ [(f, (x1, x2))]) := Lib.hid (by
                  rw [said_step hqx, ← HPE.out, ← hf, HX12.out])
                obtain ⟨g11, hg11⟩ : ∃ g, g = wr.heap.size := ⟨_, rfl⟩
                obtain ⟨Wb, hWb⟩ : ∃ Wb, Wb = wr.alloc (.cells #[.string y1, .string y2, .string y3, .slice sa sn sc] 48) := ⟨_, rfl⟩
                have Bb : RowKit.Hid (Below wr.heap.size wr Wb) := Lib.hid (by rw [hWb]; exact (Below.refl _ _).alloc (Nat.le_refl _) _)
                have K11 : RowKit.Hid (Blk Wb g11 #[.string y1, .string y2, .string y3, .slice sa sn sc] 48) := Lib.hid (by rw [hWb, hg11]; exact Blk.new _ _ _)
                have k110 : Wb.cell? ⟨g11, 0, none⟩ = some (.string y1) := K11.out.cell 0
                have BJb : RowKit.Hid (Below wo.heap.size wo Wb) := Lib.hid (HBJ.out.trans (Bb.out.mono HBJ.out.size))
                have ctb : Wb.cell? ⟨tb, p, none⟩ = some (.string t) := Below.cellE BJb.out HTCW.out
                have HKb := Lib.hid (HKJ.out.below Bb.out)
                have hzb : wr.heap.size ≤ Wb.heap.size := Bb.out.size
                clear hrgf hsn hy1 hy2 hy3 hf hqx
                by_cases htt : y1 = t
                case neg =>
                  have hn := bl_ne' htt
                  have a1 : (y1.toList != t.toList) = true := by simpa using hn
                  have a2 : decide (y1.toList = t.toList) = false := by simpa using hn
                  have a3 : (y1.toList == t.toList) = false := by simpa using hn
                  have HNT := Lib.hid htt
                  clear htt hn
                  go_upto_region 20 with (refine wpList_load_mid rfl 48 (.tmp 65) rfl fb (fo + q * 4) rfl [.string y1, .string y2, .string y3, .slice sa sn sc] _ HG.out Tryz.underlying48 rfl (by kernel_rfl) ?_)
                  rw [← hWb, ← hg11]
                  clear hWb hg11
                  go_quiet (fail)
                  go_wp2_with fail
                  refine ⟨⟨q + 1, hqt, by go_num, bdrewN BJb.out _, ?_⟩, by simp [intOf]; omega⟩
                  rw [HSE.out, kpt_skip (by show f.tag ≠ t; rw [← HY1.out]; exact HNT.out)]
                  exact HKb.out.below (bdrewN (Below.refl _ _) _)
                subst htt
                have a1 : (y1.toList != y1.toList) = false := by simp
                have a2 : decide (y1.toList = y1.toList) = true := by simp
                have a3 : (y1.toList == y1.toList) = true := by simp
                obtain ⟨K, hK⟩ : ∃ K, K = kpt y1 pp := ⟨_, rfl⟩
                rw [← hK] at HKb
                have hkl : K.length ≤ 100000 := by rw [hK]; exact Nat.le_trans (kpt_len _ _) HPP.out.1
                obtain ⟨bb, hbb⟩ : ∃ bb, bb = keptB (polP y1) (f, (x1, x2)) K := ⟨_, rfl⟩
                have HKE : RowKit.Hid (kpt y1 (saidOf (V.take k) ++ (x.fs.take (q + 1)).map (fun f => (f, x.r))) = if bb then K ++ [(f, (x1, x2))] else K) := Lib.hid (by
                  rw [HSE.out, kpt_step HY1.out.symm, ← hK, hbb])
                have HKO : RowKit.Hid (∀ y ∈ K, FldOk y.1) := Lib.hid (by rw [hK]; exact fun y hy => (HPP.out.2 y (kpt_mem hy)).f)
                have HKC : RowKit.Hid (∀ n' q', Calls Tryz.prog 37 #[.agg #[.string y1, .string y2, .string y3, .slice sa sn sc], .agg #[.int .i64 x1, .int .i64 x2], u7, u8] (over (Wb.drewN n') q') fun e w' => e = .returned (.bool bb) ∧ Below (over (Wb.drewN n') q').heap.size (over (Wb.drewN n') q') w') := Lib.hid fun n' q' => by
                  have hW : Below Wb.heap.size Wb (over (Wb.drewN n') q') := of_over rfl
                  have h1 : FldR S (over (Wb.drewN n') q') [.string y1, .string y2, .string y3, .slice sa sn sc] f := keeps_fld _ _ _ _ _ _ HRF.out (Stay.of_below (Bb.out.trans (hW.mono hzb))) (fun _ h _ => h)
                  have h2 := HKb.out.below hW
                  have h5 := kept_at (x1 := x1) (x2 := x2) h1 h2 HKF.out.f HKO.out (by omega)
                  rw [← HY1.out] at h5
                  rw [hbb]
                  exact h5
                clear hK hbb
                go_upto_region 20 with (refine wpList_load_mid rfl 48 (.tmp 65) rfl fb (fo + q * 4) rfl [.string y1, .string y2, .string y3, .slice sa sn sc] _ HG.out Tryz.underlying48 rfl (by kernel_rfl) ?_)
                rw [← hWb, ← hg11]
                clear hWb hg11
                have cb0 : Wb.cell? ⟨vb, vo + k * 6, none⟩ = some (.int .i64 x1) := (HQ.out Wb BJb.out).2.1
                have cb1 : Wb.cell? ⟨vb, vo + k * 6 + 1, none⟩ = some (.int .i64 x2) := (HQ.out Wb BJb.out).2.2
                have k111 : Wb.cell? ⟨g11, 1, none⟩ = some (.string y2) := K11.out.cell 1
                have k112 : Wb.cell? ⟨g11, 2, none⟩ = some (.string y3) := K11.out.cell 2
                have k113 : Wb.cell? ⟨g11, 3, none⟩ = some (.slice sa sn sc) := K11.out.cell 3
                go_quiet (fail)
                go_wp2_with fail
                refine wp_region_over (by kernel_rfl) (by kernel_rfl) ?_
                repeat (first | go_big_quiet_step (first | (go_at_call 37; with_reducible exact inOver (HKC.out _ _))))
                refine wpQuiet_nil ?_
                rintro wz ⟨nq, hwz⟩
                have hbz := of_over hwz
                have BZ := Lib.hid hbz
                have BJz : RowKit.Hid (Below wo.heap.size wo wz) := Lib.hid (BJb.out.trans (hbz.mono BJb.out.size))
                have HKz := Lib.hid (HKb.out.below hbz)
                have K11z := Lib.hid (K11.out.below hbz K11.out.lt)
                have hzz : Wb.heap.size ≤ wz.heap.size := hbz.size
                clear hwz hbz HKC cb0 cb1 k110 k111 k112 k113 ctb a1 a2 a3 c5 c0 c1
                cases bb with
                | false =>
                  go_wp2_with fail
                  refine ⟨⟨q + 1, hqt, by go_num, BJz.out, ?_⟩, by simp [intOf]; omega⟩
                  rw [HKE.out]; exact HKz.out
                | true =>
                  obtain ⟨⟨cssf, rf1, rf2, rf3⟩, ⟨cssr, rr1, rr2, rr3⟩⟩ := HKz.out
                  obtain ⟨kn, hkn⟩ : ∃ kn, kn = K.length := ⟨_, rfl⟩
                  rw [List.length_map, ← hkn] at rf1 rr1
                  rw [← hkn] at hkl
                  have HKN := Lib.hid hkn
                  have RF1 := Lib.hid rf1
                  have RR1 := Lib.hid rr1
                  have RF2 := Lib.hid rf2
                  have RR2 := Lib.hid rr2
                  have RF3 := Lib.hid rf3
                  have RR3 := Lib.hid rr3
                  clear rf1 rf2 rf3 rr1 rr2 rr3 hkn
                  have hzN : N3 ≤ wz.heap.size := by omega
                  go_upto_region 24 with (first
                    | refine wpList_load_row 48 (.tmp 11) rfl rfl rfl K11z.out Tryz.underlying48 rfl (by kernel_rfl) ?_
                    | (at_builtin; go_loud (refine wpList_append_all rfl (.tmp 84) (.tmp 86) 27 rfl N3 48 jf _ 4 72 Tryz.underlying27 hjf jf1 jf2 jf3 rfl (by omega) u7 kn cssf.flatten rfl (RF1.out.alloc _) 1 [.string y1, .string y2, .string y3, .slice sa sn sc] _ rfl (src_row (row_fresh' _ (by simp) 0 _ 48 4 1 rfl (by unfold maxLen; omega) (Nat.zero_le _))) (by simp [Value.oneCell']) (by unfold maxLen; omega) (by omega) (by simp; omega) ?_); intro v5 w5 hr5 hg5 ho5; have HR5 := Lib.hid hr5; have T5 : RowKit.Hid (Tn (fun b => u7.ownBlock = some b) wz w5) := Lib.hid (((Tn.refl _ wz).alloc _).trans (Tn.of_grown hg5)); clear hr5 hg5 ho5))
                  have BJ5 : RowKit.Hid (Below wo.heap.size wo w5) := Lib.hid (by
                    have h1 := T5.out.below hzN (fun b e => row_base RF1.out b e)
                    rw [HN3.out] at h1
                    exact BJz.out.trans h1)
                  have RR5 : RowKit.Hid (w5.ownsRow N3 41 2 u8 kn cssr.flatten) := Lib.hid (T5.out.row RR1.out (fun r e e' => by
                    obtain ⟨_, ⟨e1, _⟩ | ⟨g', c', cur, e1, hg', hh, -⟩⟩ := RR1.out
                    · rw [e1] at e; cases e
                    · rw [e1] at e
                      have e2 : g' = r := by injection e
                      exact row_not (g := g') (cs := cur) (t := 41) hh (by decide) RF1.out (by rw [e2, e'])))
                  have HRG5 : RowKit.Hid (w5.rangeAt vb (vo + k * 6) [.int .i64 x1, .int .i64 x2]) := Lib.hid fun j u hu => by
                    have h1 : j < 2 := (List.getElem?_eq_some_iff.1 hu).1
                    obtain ⟨_, q0, q1⟩ := HQ.out w5 BJ5.out
                    have : j = 0 ∨ j = 1 := by omega
                    rcases this with rfl | rfl
                    · simp only [List.getElem?_cons_zero, Option.some.injEq] at hu; rw [← hu]; exact q0
                    · simp only [List.getElem?_cons_succ, List.getElem?_cons_zero, Option.some.injEq] at hu; rw [← hu]; exact q1
                  have hz5 : wz.heap.size ≤ w5.heap.size := T5.out.size
                  go_wp2_with (first
                    | refine wpList_load_mid rfl 41 (.tmp 92) rfl vb (vo + k * 6) rfl [.int .i64 x1, .int .i64 x2] _ HRG5.out Tryz.underlying41 rfl (by kernel_rfl) ?_
                    | (at_builtin; go_loud (refine wpList_append_all rfl (.tmp 88) (.tmp 94) 30 rfl N3 41 jr _ 2 16 Tryz.underlying30 hjr jr1 jr2 jr3 rfl (by omega) u8 kn cssr.flatten rfl (RR5.out.alloc _) 1 [.int .i64 x1, .int .i64 x2] _ rfl (src_row (row_fresh' _ (by simp) 0 _ 41 2 1 rfl (by unfold maxLen; omega) (Nat.zero_le _))) (by simp [Value.oneCell']) (by unfold maxLen; omega) (by omega) (by simp; omega) ?_); intro v7 w7 hr7 hg7 ho7; have HR7 := Lib.hid hr7; have T7 : RowKit.Hid (Tn (fun b => u8.ownBlock = some b) w5 w7) := Lib.hid (((Tn.refl _ w5).alloc _).trans (Tn.of_grown hg7)); clear hr7 hg7 ho7))
                  have BJ7 : RowKit.Hid (Below wo.heap.size wo w7) := Lib.hid (by
                    have h1 := T7.out.below (B := N3) (by omega) (fun b e => row_base RR5.out b e)
                    rw [HN3.out] at h1
                    exact BJ5.out.trans h1)
                  have HSK : RowKit.Hid (∀ b, S b → b < wz.heap.size → w7.heap[b]? = wz.heap[b]?) := Lib.hid fun b hb hbl => by
                    have h1 := (HSN.out b hb).1
                    have h2 := (BJ7.out.block b (by have := HN3.out; omega)).trans (BJz.out.block b (by have := HN3.out; omega)).symm
                    exact h2
                  refine ⟨⟨q + 1, hqt, by go_num, BJ7.out, ?_⟩, by simp [intOf]; omega⟩
                  rw [HKE.out]
                  refine ⟨⟨cssf ++ [[.string y1, .string y2, .string y3, .slice sa sn sc]], ?_, ?_, ?_⟩, ⟨cssr ++ [[.int .i64 x1, .int .i64 x2]], ?_, ?_, ?_⟩⟩
                  · have h1 := T7.out.row HR5.out (fun r e e' => by
                      obtain ⟨_, ⟨e1, _⟩ | ⟨g', c', cur, e1, hg', hh, -⟩⟩ := HR5.out
                      · rw [e1] at e; cases e
                      · rw [e1] at e
                        have e2 : g' = r := by injection e
                        exact row_not (g := g') (cs := cur) (t := 48) hh (by decide) RR5.out (by rw [e2, e']))
                    rw [if_pos rfl, List.length_map, List.length_append, ← HKN.out, List.flatten_append]
                    simpa using h1
                  · rw [if_pos rfl, List.map_append]
                    refine (RF2.out.mono fun c x hx => keeps_fld _ _ _ _ _ _ hx HSK.out (fun _ h _ => h)).app (All2.one ?_)
                    show FldR S w7 _ f
                    exact keeps_fld _ _ _ _ _ _ HRF.out (fun b hb hbl => (HSK.out b hb (by omega)).trans ((BZ.out.block b (by omega)).trans (Bb.out.block b hbl))) (fun _ h _ => h)
                  · intro c hc
                    rcases List.mem_append.1 hc with h | h
                    · exact RF3.out c h
                    · rw [List.mem_singleton.1 h]; rfl
                  · rw [if_pos rfl, List.length_map, List.length_append, ← HKN.out, List.flatten_append]
                    simpa using HR7.out
                  · rw [if_pos rfl, List.map_append]
                    exact (RR2.out.mono fun _ _ h => h).app (All2.one rfl)
                  · intro c hc
                    rcases List.mem_append.1 hc with h | h
                    · exact RR3.out c h
                    · rw [List.mem_singleton.1 h]; rfl
              · obtain rfl : q = fn := by omega
                have HSE : RowKit.Hid (saidOf (V.take (k + 1)) = pp) := Lib.hid (by rw [HXS.out, HPE.out, HFN.out, List.take_length])
                go_wp2_with fail
                refine ⟨⟨k + 1, hlk, by go_num, HBJ.out, ?_⟩, by simp [intOf]; omega⟩
                rw [HSE.out]; exact HKJ.out
          · obtain rfl : k = m := by omega
            have HKW : RowKit.Hid (kpt t (saidOf (V.take k)) = kpt t pre) := Lib.hid (by rw [HPRE.out, HM.out, List.take_length])
            obtain ⟨K, hK⟩ : ∃ K, K = kpt t pre := ⟨_, rfl⟩
            have HKK := HKS.out
            rw [HKW.out, ← hK] at HKK
            have hkl : K.length ≤ 100000 := by rw [hK]; exact Nat.le_trans (kpt_len _ _) HPL.out
            obtain ⟨M0, hM0⟩ : ∃ M0, M0 = mrgTo pre T p := ⟨_, rfl⟩
            have HM0L : RowKit.Hid (M0.length ≤ p * 100000) := Lib.hid (by rw [hM0]; exact mrgTo_len HPL.out T p)
            rw [← hM0, ← hK] at HMS2
            have HST2 : RowKit.Hid (MrgSt S N2 b3 kd lv wr M0) := Lib.hid (by rw [hM0]; exact HST.out.below HBO.out)
            have HKS2 := Lib.hid HKK
            clear HKK hM0 hK
            obtain ⟨fv, rv, hk3, hfo, hro⟩ := HST2.out
            obtain ⟨mq, hmq⟩ : ∃ mq, mq = M0.length := ⟨_, rfl⟩
            obtain ⟨kn, hkn⟩ : ∃ kn, kn = K.length := ⟨_, rfl⟩
            have hmql : mq ≤ 100000000000 := by
              have := HM0L.out
              have h1 : p * 100000 ≤ 100000 * 100000 := Nat.mul_le_mul_right _ (by omega)
              omega
            obtain ⟨cssf, rf1, rf2, rf3⟩ := hfo
            obtain ⟨cssr, rr1, rr2, rr3⟩ := hro
            obtain ⟨⟨kssf, kf1, kf2, kf3⟩, ⟨kssr, kr1, kr2, kr3⟩⟩ := HKS2.out
            rw [List.length_map, ← hmq] at rf1 rr1
            rw [List.length_map, ← hkn] at kf1 kr1
            rw [← hkn] at hkl
            have HMQ := Lib.hid hmq
            have HKN := Lib.hid hkn
            obtain ⟨fa, fc, rfl, -⟩ := row_cellz rf1
            obtain ⟨ra, rc, rfl, -⟩ := row_cellz rr1
            have K3 := Lib.hid hk3
            have RF1 := Lib.hid rf1
            have RR1 := Lib.hid rr1
            have RF2 := Lib.hid rf2
            have RR2 := Lib.hid rr2
            have RF3 := Lib.hid rf3
            have RR3 := Lib.hid rr3
            have KF1 := Lib.hid kf1
            have KR1 := Lib.hid kr1
            have KF2 := Lib.hid kf2
            have KR2 := Lib.hid kr2
            have KF3 := Lib.hid kf3
            have KR3 := Lib.hid kr3
            have HFO : RowKit.Hid (∀ u ∈ kssf.flatten, u.oneCell' = true) := Lib.hid (one_flat (fun c y h => one_fld S wr c y h) kf2)
            have HRO : RowKit.Hid (∀ u ∈ kssr.flatten, u.oneCell' = true) := Lib.hid (one_flat (fun c y h => one_rec wr c y h) kr2)
            have k32 : wr.cell? ⟨b3, 2, none⟩ = some (.slice fa mq fc) := K3.out.cell 2
            have hwz2 : N2 ≤ wr.heap.size := by have := HN3.out; omega
            clear hk3 rf1 rf2 rf3 rr1 rr2 rr3 kf1 kf2 kf3 kr1 kr2 kr3 hmq hkn
            go_upto_region 26 with (at_builtin; go_loud (refine wpList_append_all rfl (.tmp 98) (.tmp 99) 27 rfl N2 48 jf _ 4 72 Tryz.underlying27 hjf jf1 jf2 jf3 rfl (by omega) _ mq cssf.flatten rfl RF1.out kn kssf.flatten _ rfl (src_row KF1.out) HFO.out (by unfold maxLen; omega) (by omega) (by omega) ?_); intro v7 w7 hr7 hg7 ho7; obtain ⟨a7, c7, e7, -⟩ := row_cellz hr7; subst e7; have HR7 := Lib.hid hr7; have T7 : RowKit.Hid (Tn (fun b => (Value.slice fa mq fc).ownBlock = some b) wr w7) := Lib.hid (Tn.of_grown hg7); have K37 : RowKit.Hid (Blk w7 b3 #[.int .u8 kd, .int .u8 lv, .slice fa mq fc, .slice ra mq rc] 32) := Lib.hid (T7.out.blk K3.out (fun e => row_not K3.out (by decide) RF1.out e.symm)); have k372 : w7.cell? ⟨b3, 2, none⟩ = some (.slice fa mq fc) := K37.out.cell 2; have f372 : w7.frozen? ⟨b3, 2, none⟩ = false := K37.out.frozen 2; clear hr7 hg7 ho7)
            obtain ⟨W8, hW8⟩ : ∃ W8, W8 = w7.setCell ⟨b3, 2, none⟩ (.slice a7 (mq + kn) c7) := ⟨_, rfl⟩
            have T8 : RowKit.Hid (Tn (fun b => b = b3) w7 W8) := Lib.hid (by rw [hW8]; exact (Tn.refl (fun b => b = b3) w7).setCell (p := ⟨b3, 2, none⟩) (.inl rfl) _)
            have K38 : RowKit.Hid (Blk W8 b3 #[.int .u8 kd, .int .u8 lv, .slice a7 (mq + kn) c7, .slice ra mq rc] 32) := Lib.hid (by rw [hW8]; exact K37.out.set 2 _)
            rw [← hW8]
            clear hW8 k372 f372 k32
            have HNR : RowKit.Hid (∀ (T' : TypeId) (z n : Nat) (v : Value) (xs : List Value) (B : Nat), T' ≠ 48 → T' ≠ 32 → wr.ownsRow B T' z v n xs → W8.ownsRow B T' z v n xs) := Lib.hid fun T' z n v xs B hT1 hT2 h => by
              refine T8.out.row (T7.out.row h (fun r e e' => ?_)) (fun r e e' => row_not K3.out (fun e => hT2 e.symm) h (by rw [← e', e]))
              obtain ⟨_, ⟨e1, _⟩ | ⟨g', c', cur, e1, hg', hh, -⟩⟩ := h
              · rw [e1] at e; cases e
              · rw [e1] at e
                have e2 : g' = r := by injection e
                exact row_not (g := g') (cs := cur) (t := T') hh hT1 RF1.out (by rw [e2, e'])
            have R8 : RowKit.Hid (W8.ownsRow N2 48 4 (.slice a7 (mq + kn) c7) (mq + kn) (cssf.flatten ++ kssf.flatten)) := Lib.hid (T8.out.row HR7.out (fun r e e' => row_not K37.out (by decide) HR7.out (by rw [← e', e])))
            have RR8 : RowKit.Hid (W8.ownsRow N2 41 2 (.slice ra mq rc) mq cssr.flatten) := Lib.hid (HNR.out 41 _ _ _ _ _ (by decide) (by decide) RR1.out)
            have KR8 : RowKit.Hid (W8.ownsRow N3 41 2 u8 kn kssr.flatten) := Lib.hid (HNR.out 41 _ _ _ _ _ (by decide) (by decide) KR1.out)
            have k383 : W8.cell? ⟨b3, 3, none⟩ = some (.slice ra mq rc) := K38.out.cell 3
            have hz8 : wr.heap.size ≤ W8.heap.size := by have := T7.out.size; have := T8.out.size; omega
            go_wp2_with (at_builtin; go_loud (refine wpList_append_all rfl (.tmp 104) (.tmp 105) 30 rfl N2 41 jr _ 2 16 Tryz.underlying30 hjr jr1 jr2 jr3 rfl (by omega) _ mq cssr.flatten rfl RR8.out kn kssr.flatten _ rfl (src_row KR8.out) HRO.out (by unfold maxLen; omega) (by omega) (by omega) ?_); intro v9 w9 hr9 hg9 ho9; obtain ⟨a9, c9, e9, -⟩ := row_cellz hr9; subst e9; have HR9 := Lib.hid hr9; have T9 : RowKit.Hid (Tn (fun b => (Value.slice ra mq rc).ownBlock = some b) W8 w9) := Lib.hid (Tn.of_grown hg9); have K39 : RowKit.Hid (Blk w9 b3 #[.int .u8 kd, .int .u8 lv, .slice a7 (mq + kn) c7, .slice ra mq rc] 32) := Lib.hid (T9.out.blk K38.out (fun e => row_not K38.out (by decide) RR8.out e.symm)); have k393 : w9.cell? ⟨b3, 3, none⟩ = some (.slice ra mq rc) := K39.out.cell 3; have f393 : w9.frozen? ⟨b3, 3, none⟩ = false := K39.out.frozen 3; clear hr9 hg9 ho9)
            obtain ⟨Wf, hWf⟩ : ∃ Wf, Wf = w9.setCell ⟨b3, 3, none⟩ (.slice a9 (mq + kn) c9) := ⟨_, rfl⟩
            have T10 : RowKit.Hid (Tn (fun b => b = b3) w9 Wf) := Lib.hid (by rw [hWf]; exact (Tn.refl (fun b => b = b3) w9).setCell (p := ⟨b3, 3, none⟩) (.inl rfl) _)
            have K3F : RowKit.Hid (Blk Wf b3 #[.int .u8 kd, .int .u8 lv, .slice a7 (mq + kn) c7, .slice a9 (mq + kn) c9] 32) := Lib.hid (by rw [hWf]; exact K39.out.set 3 _)
            rw [← hWf]
            clear hWf k393 f393 k383
            have TT : RowKit.Hid (Tn (fun c => c = b3 ∨ N2 ≤ c) wr Wf) := Lib.hid (
              (((T7.out.mono fun c e => .inr (row_base RF1.out c e)).trans (T8.out.mono fun c e => .inl e)).trans (T9.out.mono fun c e => .inr (row_base RR8.out c e))).trans (T10.out.mono fun c e => .inl e))
            have TW : RowKit.Hid (Tn (fun b => b = b3) w4 Wf) := Lib.hid (by
              refine (T4.out.trans (Tn.of_below HBO.out)).then_ TT.out fun c h => ?_
              rcases h with e | e
              · exact .inl e
              · exact .inr (by have := HN2.out; omega))
            have HSK : RowKit.Hid (∀ b, S b → b < wr.heap.size → Wf.heap[b]? = wr.heap[b]?) := Lib.hid fun b hb hbl => TT.out.block b hbl (fun h => by have := HSN.out b hb; omega)
            refine ⟨⟨p + 1, hlt, by go_num, TW.out, ?_⟩, by simp [intOf]; omega⟩
            rw [HMS2.out]
            refine ⟨_, _, K3F.out, ⟨cssf ++ kssf, ?_, ?_, ?_⟩, ⟨cssr ++ kssr, ?_, ?_, ?_⟩⟩
            · have h1 := T10.out.row (T9.out.row R8.out (fun r e e' => ?_)) (fun r e e' => row_not K39.out (by decide) (T9.out.row R8.out (fun r e e' => ?_)) (by rw [← e', e]))
              · rw [List.length_map, List.length_append, ← HMQ.out, ← HKN.out, List.flatten_append]
                exact h1
              all_goals
                obtain ⟨_, ⟨e1, _⟩ | ⟨g', c', cur, e1, hg', hh, -⟩⟩ := R8.out
                · rw [e1] at e; cases e
                · rw [e1] at e
                  have e2 : g' = r := by injection e
                  exact row_not (g := g') (cs := cur) (t := 48) hh (by decide) RR8.out (by rw [e2, e'])
            · rw [List.map_append]
              exact (RF2.out.mono fun c x hx => keeps_fld _ _ _ _ _ _ hx HSK.out (fun _ h _ => h)).app (KF2.out.mono fun c x hx => keeps_fld _ _ _ _ _ _ hx HSK.out (fun _ h _ => h))
            · intro c hc
              rcases List.mem_append.1 hc with h | h
              · exact RF3.out c h
              · exact KF3.out c h
            · have h1 := T10.out.row HR9.out (fun r e e' => row_not K39.out (by decide) HR9.out (by rw [← e', e]))
              rw [List.length_map, List.length_append, ← HMQ.out, ← HKN.out, List.flatten_append]
              exact h1
            · rw [List.map_append]
              exact (RR2.out.mono fun _ _ h => h).app (KR2.out.mono fun _ _ h => h)
            · intro c hc
              rcases List.mem_append.1 hc with h | h
              · exact RR3.out c h
              · exact KR3.out c h
      · obtain rfl : p = tn := by omega
        have HMA : RowKit.Hid (mrgTo pre T p = mergeP (foldS tabC) polP (tagsP ltT (saidOf V)) V) := Lib.hid (by
          unfold mrgTo mergeP
          rw [HTN.out, List.take_length, HTE.out, HPRE.out])
        obtain ⟨fv, rv, hk3, hfo, hro⟩ := HST.out
        obtain ⟨fa, fc, rfl⟩ := hfo.expl
        obtain ⟨ra, rc, rfl⟩ := hro.expl
        have K3 := Lib.hid hk3
        have HFO := Lib.hid hfo
        have HRO := Lib.hid hro
        obtain ⟨ml, hml⟩ : ∃ ml, ml = (mrgTo pre T p).length := ⟨_, rfl⟩
        simp only [List.length_map, ← hml] at K3 HFO HRO
        have K0E : RowKit.Hid (Blk wr w.heap.size #[.int .u8 0, .int .u8 0, .slice none 0 0, .slice none 0 0] 32) := Lib.hid (by
          have := HB3.out; have := HB3N.out
          have h1 := T3.out.blk k0.out (by show ¬ w.heap.size = b3; omega)
          exact T4.out.blk (h1.below B4.out (by omega)) (by show ¬ w.heap.size = b3; omega))
        have HBE : RowKit.Hid (Below w.heap.size w wr) := Lib.hid (by
          have := HB3.out; have := HB3N.out; have := HZ0.out; have := HZ3.out; have := HN2.out
          have h1 : Below w.heap.size w w1 := B0.out.trans (HB1.out.mono (by omega))
          have h2 := h1.trans (T3.out.below (by omega) (fun c e => by omega))
          have h3 := h2.trans (B4.out.mono (by omega))
          exact h3.trans (T4.out.below (by omega) (fun c e => by omega)))
        clear hk3 hfo hro hml
        go_wp2_with (first
          | refine wpList_load_row 32 (.tmp 3) rfl rfl rfl K3.out Tryz.underlying32 rfl (by kernel_rfl) ?_
          | refine wpList_store_row rfl 32 (.tmp 2) (.tmp 108) rfl w.heap.size #[.int .u8 kd, .int .u8 lv, .slice fa ml fc, .slice ra ml rc] rfl rfl 32 _ K0E.out (by kernel_rfl) rfl (by simp [Value.oneCell']) ?_)
        (try simp only [Exit.inBlock, Exit.then])
        refine bodyPost_ret (results_cell_row rfl _ _ w.heap.size 32 #[.int .u8 kd, .int .u8 lv, .slice fa ml fc, .slice ra ml rc] (0, 0) _ rfl (setRow_heap _ _ _ _ _ _ K0E.out) Tryz.underlying32 rfl (by kernel_rfl)) rfl ?_
        refine ⟨[.int .u8 kd, .int .u8 lv, .slice fa ml fc, .slice ra ml rc], rfl, ?_, belowS HBE.out (Nat.le_refl _)⟩
        have HMV : mrgV V = ⟨kd, lv, mrgTo pre T p⟩ := by unfold mrgV; rw [← HMA.out, HKL.out.1, HKL.out.2]
        rw [HMV]
        have HSB : ∀ c, S c → c ≠ w.heap.size := fun c hc => by
          have := HSL.out c hc; have := HZ0.out; omega
        have HNB : ∀ c, N2 ≤ c → c ≠ w.heap.size := fun c hc => by
          have := HB3.out; have := HB3N.out; omega
        refine ⟨_, _, rfl, ?_, ?_⟩
        · exact (HFO.out.slB (by omega)).keep (by omega) (fun c hc _ => setRow_other _ _ _ _ (HNB c hc)) (fun cs x hx => keeps_fld _ _ _ _ _ _ hx (fun c hc _ => setRow_other _ _ _ _ (HSB c hc)) (fun _ _ _ => trivial)) (fun _ _ _ => trivial)
        · exact (HRO.out.slB (by omega)).keep (R' := RecR) (by omega) (fun c hc _ => setRow_other _ _ _ _ (HNB c hc)) (fun _ _ h => h) (fun _ _ _ => trivial)
end Go.Proofs.YtpdldbapagchfaaGreatDoor
