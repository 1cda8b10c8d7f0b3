/- What the reference keeps. -/
import Derived.Test.YtpdldbapagchfaaGreatDoorQ25
import Derived.Test.YtpdldbapagchfaaGreatDoorQ10
set_option linter.unusedVariables false
set_option linter.unusedSimpArgs false

namespace Go.Proofs.YtpdldbapagchfaaGreatDoor
open Go.RowKit Go.Shelf Go.Maps
attribute [local go_sem] over_cell over_frozen

/-- Is one of the first's record? -/
def firB (x : Said) : List Said → Bool
  | [] => true
  | y :: _ => decide (y.2 = x.2)
/-- Is one kept, behind those that are kept? -/
def keptB (p : Pol) (x : Said) (K : List Said) : Bool :=
  match p with
  | .loc => true
  | .first => firB x K
  | .all => !(K.any fun y => Alike (foldS tabC) y.1 x.1)
theorem keepP_snoc (p : Pol) (l : List Said) (x : Said) : keepP (foldS tabC) p (l ++ [x]) = if keptB p x (keepP (foldS tabC) p l) then keepP (foldS tabC) p l ++ [x] else keepP (foldS tabC) p l := by
  cases p with
  | loc => rfl
  | all =>
    show keepAll _ _ = _
    rw [keepAll_snoc]
    show _ = if (!((keepAll (foldS tabC) l).any fun y => Alike (foldS tabC) y.1 x.1)) = true then keepAll (foldS tabC) l ++ [x] else keepAll (foldS tabC) l
    cases h : (keepAll (foldS tabC) l).any fun y => Alike (foldS tabC) y.1 x.1 <;> simp
  | first =>
    cases l with
    | nil =>
      show keepFirst [x] = _
      simp [keepP, keepFirst, keptB, firB]
    | cons y l =>
      have k0 : ∀ l : List Said, keepFirst (y :: l) = (y :: l).filter fun z => decide (z.2 = y.2) := fun _ => rfl
      have e : keepP (foldS tabC) .first (y :: l) = y :: l.filter fun z => decide (z.2 = y.2) := by
        show keepFirst (y :: l) = _
        rw [k0, List.filter_cons_of_pos (by simp)]
      have e2 : keepP (foldS tabC) .first ((y :: l) ++ [x]) = (y :: l.filter fun z => decide (z.2 = y.2)) ++ [x].filter fun z => decide (z.2 = y.2) := by
        show keepFirst (y :: (l ++ [x])) = _
        rw [k0, List.filter_cons_of_pos (by simp), List.filter_append, List.cons_append]
      rw [e, e2]
      show _ = if (decide (y.2 = x.2)) = true then _ else _
      by_cases h : y.2 = x.2
      · rw [if_pos (by simpa using h), List.filter_cons_of_pos (by simp [h])]; rfl
      · rw [if_neg (by simpa using h), List.filter_cons_of_neg (by simp; exact fun e => h e.symm)]; simp
set_option maxRecDepth 100000 in
set_option maxHeartbeats 4000000 in
theorem keptR_any {S S1 S2 : Nat → Prop} {w : World} {cs : List Value} {bv rv : Value} {x : Said} {K : List Said} (hf : FldR S w cs x.1) (hb : FldsAt S1 w bv (K.map (·.1))) (hr : SlOf 2 S2 RecR w rv (K.map (·.2))) (hx : FldOk x.1) (hK : ∀ y ∈ K, FldOk y.1) (hn : K.length ≤ 1000000) :
    Calls Tryz.prog 37 #[.agg cs.toArray, .agg #[.int .i64 x.2.1, .int .i64 x.2.2], bv, rv] w fun e w' => e = .returned (.bool (keptB (polP x.1.tag) x K)) ∧ Below w.heap.size w w' := by
  have HF := Lib.hid hf
  obtain ⟨fa, fc, rfl, -⟩ := hf.expl
  have HBV := Lib.hid hb
  have HRV := Lib.hid hr
  obtain ⟨ba, bc, rfl, -⟩ := hb
  obtain ⟨ra, rc, rfl, -⟩ := hr
  obtain ⟨n, hn'⟩ : ∃ n, n = K.length := ⟨_, rfl⟩
  simp only [List.length_map, ← hn'] at HBV HRV hn ⊢
  obtain ⟨sn, hsn⟩ : ∃ sn, sn = x.1.subs.length := ⟨_, rfl⟩
  rw [← hsn] at HF ⊢
  obtain ⟨y1, hy1⟩ : ∃ y, y = x.1.tag := ⟨_, rfl⟩
  obtain ⟨y2, hy2⟩ : ∃ y, y = x.1.ind := ⟨_, rfl⟩
  obtain ⟨y3, hy3⟩ : ∃ y, y = x.1.data := ⟨_, rfl⟩
  rw [← hy1, ← hy2, ← hy3] at HF
  rw [← hy1, ← hy2, ← hy3]
  obtain ⟨r, hr⟩ : ∃ r, r = keptB (polP y1) x K := ⟨_, rfl⟩
  rw [← hr]
  obtain ⟨pi, hpi⟩ : ∃ pi, pi = polI (polP y1) := ⟨_, rfl⟩
  have HPOL := Lib.hid (fun W => policyR_any y1 W)
  rw [← hpi] at HPOL
  have HN := Lib.hid hn'
  have HKO := Lib.hid hK
  have HXO := Lib.hid hx
  obtain ⟨W1, hW1⟩ : ∃ W1, W1 = (w.alloc (.cells #[.string y1, .string y2, .string y3, .slice fa sn fc] 48)).alloc (.cells #[.int .i64 x.2.1, .int .i64 x.2.2] 41) := ⟨_, rfl⟩
  have B1 : RowKit.Hid (Below w.heap.size w W1) := Lib.hid (by rw [hW1]; exact ((Below.refl _ _).alloc (Nat.le_refl _) _).alloc (by simp) _)
  have K1 : RowKit.Hid (Blk W1 w.heap.size #[.string y1, .string y2, .string y3, .slice fa sn fc] 48) := Lib.hid (by rw [hW1]; exact (Blk.new _ _ _).alloc _)
  have K2 : RowKit.Hid (Blk W1 (w.heap.size + 1) #[.int .i64 x.2.1, .int .i64 x.2.2] 41) := Lib.hid (by rw [hW1]; exact Blk.at_new (by simp) _ _)
  have k1 : W1.cell? ⟨w.heap.size, 0, none⟩ = some (.string y1) := K1.out.cell 0
  obtain ⟨xr, hxr⟩ : ∃ xr, xr = x.2 := ⟨_, rfl⟩
  rw [← hxr] at hW1 K2 ⊢
  have HR := Lib.hid hr
  have HXR := Lib.hid hxr
  have HPI := Lib.hid hpi
  clear hK hx hf hsn hy1 hy2 hy3 hn' hr hxr hpi
  go_enter Tryz.func37, Tryz.ntmps37
  go_wp2_with fail
  rw [← hW1]
  clear hW1
  go_wp2_with fail
  refine (HPOL.out W1).mono ?_
  rintro e w1 ⟨rfl, rfl⟩
  clear k1 HPOL
  have HPIE := HPI.out
  have HRE := HR.out
  cases hp : polP y1 with
  | loc =>
    rw [hp] at HPIE HRE
    have e1 : pi = 3 := HPIE
    have HRT : RowKit.Hid (r = true) := Lib.hid (by rw [HRE]; rfl)
    clear HPIE HRE hp
    subst e1
    go_wp2_with fail
    go_ret
    exact ⟨ret_bool HRT.out.symm, B1.out⟩
  | first =>
    rw [hp] at HPIE HRE
    have e1 : pi = 1 := HPIE
    have HRT : RowKit.Hid (r = firB x K) := Lib.hid HRE
    clear HPIE HRE hp
    subst e1
    by_cases h0 : n = 0
    · subst h0
      have HRT' : RowKit.Hid (r = true) := Lib.hid (by rw [HRT.out, List.eq_nil_of_length_eq_zero HN.out.symm]; rfl)
      go_wp2_with fail
      go_quiet (fail)
      go_wp2_with fail
      go_ret
      exact ⟨ret_bool HRT'.out.symm, bdrewN B1.out _⟩
    · have hn0 : 0 < n := by omega
      have g0 : ((n : Int) == 0) = false := by simp; omega
      have g1 : (n == 0) = false := by simpa using h0
      have hlx : 0 < (K.map (·.2)).length := by rw [List.length_map, ← HN.out]; exact hn0
      obtain ⟨b, o, cap, css, e1, _, _, hR1, _, hg1, _⟩ := SlOf.range (by omega) (HRV.out.keep (R' := RecR) (w' := w1) (by omega) (Stay.of_below B1.out) (fun _ _ h => h) (fun _ h _ => h)) hlx
      have e2 : ra = some ⟨b, o, none⟩ := by injection e1
      clear e1
      subst e2
      obtain ⟨z, hz⟩ : ∃ z, z = (K.map (·.2))[0] := ⟨_, rfl⟩
      rw [← hz] at hR1
      unfold RecR at hR1
      subst hR1
      obtain ⟨p0, p1⟩ := range2 hg1
      have p0' : w1.cell? ⟨b, o, none⟩ = some (.int .i64 z.1) := by simpa using p0
      have p1' : w1.cell? ⟨b, o + 1, none⟩ = some (.int .i64 z.2) := by simpa using p1
      have hq := eql_rec z xr
      have HRT' : RowKit.Hid (r = decide (z = xr)) := Lib.hid (by
        rw [HRT.out, hz, HXR.out]
        cases K with
        | nil => simp at hlx
        | cons y K => rfl)
      obtain ⟨bb, hbb⟩ : ∃ bb, bb = decide (z = xr) := ⟨_, rfl⟩
      rw [← hbb] at hq HRT'
      have k20 : w1.cell? ⟨w.heap.size + 1, 0, none⟩ = some (.int .i64 xr.1) := K2.out.cell 0
      have k21 : w1.cell? ⟨w.heap.size + 1, 1, none⟩ = some (.int .i64 xr.2) := K2.out.cell 1
      clear hbb hz hg1 p0 p1 hlx
      go_wp2_with fail
      go_quiet (fail)
      go_wp2_with fail
      go_ret
      exact ⟨ret_bool HRT'.out.symm, bdrewN B1.out _⟩
  | all =>
    rw [hp] at HPIE HRE
    have e1 : pi = 2 := HPIE
    have HRT : RowKit.Hid (r = !(K.any fun y => Alike (foldS tabC) y.1 x.1)) := Lib.hid HRE
    clear HPIE HRE hp
    subst e1
    go_wp2_with fail
    go_loopw [9] (fun i wr => ∃ k : Nat, k ≤ n ∧ i = .int .i64 k ∧ Below w1.heap.size w1 wr ∧ ∀ j (h : j < K.length), j < k → Alike (foldS tabC) K[j].1 x.1 = false) (fun i _ => n - (intOf i).toNat)
    case atStart => exact ⟨0, by omega, rfl, Below.refl _ _, fun j _ h => by omega⟩
    case round =>
      obtain ⟨k, hk, rfl, hb, hall⟩ := hrel
      have HB := Lib.hid hb
      have HA := Lib.hid hall
      have HBW : RowKit.Hid (Below w.heap.size w wr) := Lib.hid (B1.out.trans (hb.mono B1.out.size))
      clear hb hall
      by_cases hlt : k < n
      · have hlx : k < (K.map (·.1)).length := by rw [List.length_map, ← HN.out]; exact hlt
        obtain ⟨b, o, cap, css, e1, _, _, hR1, _, hg1, _⟩ := SlOf.range (by omega) (FldsAt.keep HBV.out (Stay.of_below HBW.out) (fun _ h _ => h)) hlx
        have e2 : ba = some ⟨b, o, none⟩ := by injection e1
        clear e1
        subst e2
        have hlk : k < K.length := by rw [← HN.out]; exact hlt
        obtain ⟨z, hz⟩ : ∃ z, z = K[k] := ⟨_, rfl⟩
        have hz1 : (K.map (·.1))[k] = z.1 := by rw [hz]; simp
        rw [hz1] at hR1
        have HZR := Lib.hid hR1
        obtain ⟨za, zc, rfl, -⟩ := hR1.expl
        obtain ⟨zn, hzn⟩ : ∃ zn, zn = z.1.subs.length := ⟨_, rfl⟩
        rw [← hzn] at HZR hg1
        obtain ⟨z1, hz1'⟩ : ∃ y, y = z.1.tag := ⟨_, rfl⟩
        obtain ⟨z2, hz2'⟩ : ∃ y, y = z.1.ind := ⟨_, rfl⟩
        obtain ⟨z3, hz3'⟩ : ∃ y, y = z.1.data := ⟨_, rfl⟩
        rw [← hz1', ← hz2', ← hz3'] at HZR hg1
        obtain ⟨p0, p1, p2, p3⟩ := range4 hg1
        have HZE := Lib.hid hz
        obtain ⟨bb, hbb⟩ : ∃ bb, bb = Alike (foldS tabC) z.1 x.1 := ⟨_, rfl⟩
        have HBB := Lib.hid hbb
        have AL : RowKit.Hid (∀ q, Calls Tryz.prog 23 #[.agg #[.string z1, .string z2, .string z3, .slice za zn zc], .agg #[.string y1, .string y2, .string y3, .slice fa sn fc]] (over wr q) fun e w' => e = .returned (.bool bb) ∧ Below (over wr q).heap.size (over wr q) w') := Lib.hid fun q => by
          rw [hbb]
          have h1 : FldR S1 (over wr q) [.string z1, .string z2, .string z3, .slice za zn zc] z.1 := keeps_fld _ _ _ _ _ _ HZR.out (Stay.of_below (below_over wr q)) (fun _ h _ => h)
          have h2 : FldR S (over wr q) [.string y1, .string y2, .string y3, .slice fa sn fc] x.1 := keeps_fld _ _ _ _ _ _ HF.out (Stay.of_below (HBW.out.trans ((below_over wr q).mono HBW.out.size))) (fun _ h _ => h)
          exact alikeR_any S1 S h1 h2 (HKO.out z (by rw [hz]; exact List.getElem_mem _)) HXO.out
        have k10 : wr.cell? ⟨w.heap.size, 0, none⟩ = some (.string y1) := Below.cellE HB.out (K1.out.cell 0)
        have k11 : wr.cell? ⟨w.heap.size, 1, none⟩ = some (.string y2) := Below.cellE HB.out (K1.out.cell 1)
        have k12 : wr.cell? ⟨w.heap.size, 2, none⟩ = some (.string y3) := Below.cellE HB.out (K1.out.cell 2)
        have k13 : wr.cell? ⟨w.heap.size, 3, none⟩ = some (.slice fa sn fc) := Below.cellE HB.out (K1.out.cell 3)
        clear hz hz1 hzn hz1' hz2' hz3' hg1 hbb hlx
        go_wp2_with fail
        refine wp_region_over (by kernel_rfl) (by kernel_rfl) ?_
        repeat (first | go_big_quiet_step (first | (go_at_call 23; with_reducible exact inOver (AL.out _))))
        refine wpQuiet_nil ?_
        rintro _ ⟨nq, rfl⟩
        have HBy : RowKit.Hid (Below w1.heap.size w1 (over wr nq)) := Lib.hid (HB.out.trans ((below_over wr nq).mono HB.out.size))
        have HBz : RowKit.Hid (Below w.heap.size w (over wr nq)) := Lib.hid (HBW.out.trans ((below_over wr nq).mono HBW.out.size))
        clear p0 p1 p2 p3 k10 k11 k12 k13 AL
        cases bb with
        | true =>
          have HRF : RowKit.Hid (r = false) := Lib.hid (by
            rw [HRT.out]
            have : (K.any fun y => Alike (foldS tabC) y.1 x.1) = true := List.any_eq_true.2 ⟨z, by rw [HZE.out]; exact List.getElem_mem _, HBB.out.symm⟩
            rw [this]; rfl)
          go_wp2_with fail
          go_ret
          exact ⟨ret_bool HRF.out.symm, HBz.out⟩
        | false =>
          go_wp2_with fail
          exact ⟨⟨k + 1, hlt, by go_num, HBy.out, fun j h hj => by
            by_cases e : j = k
            · subst e; rw [← HZE.out]; exact HBB.out.symm
            · exact HA.out j h (by omega)⟩, by simp [intOf]; omega⟩
      · obtain rfl : k = n := by omega
        have HRF : RowKit.Hid (r = true) := Lib.hid (by
          rw [HRT.out]
          have : (K.any fun y => Alike (foldS tabC) y.1 x.1) = false := by
            rw [List.any_eq_false]
            intro y hy
            obtain ⟨j, hj, e⟩ := List.getElem_of_mem hy
            have h := HA.out j hj (by rw [HN.out]; exact hj)
            rw [e] at h; simp [h]
          rw [this]; rfl)
        go_wp2_with fail
        go_ret
        exact ⟨ret_bool HRF.out.symm, HBW.out⟩
end Go.Proofs.YtpdldbapagchfaaGreatDoor
