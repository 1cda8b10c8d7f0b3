/- Latest: the versions that count. -/
import Derived.Test.YtpdldbapagchfaaGreatDoorQ17
import Derived.Test.YtpdldbapagchfaaGreatDoorQ13
import Derived.Test.YtpdldbapagchfaaGreatDoorQ14
set_option linter.unusedVariables false
set_option linter.unusedSimpArgs false

namespace Go.Proofs.YtpdldbapagchfaaGreatDoor
open Go.RowKit Go.Shelf Go.Maps Go.ChangeMaps Go.Sort
attribute [local go_sem] over_cell over_frozen

def natD (n : Nat) : DataW Unit := .lit (.int .i64 (n : Int))
theorem RI_some {v : Value} {y : DataW Unit × List MemPlace} (h : RI v = some y) : ∃ c : Int, v = i64 c := by
  unfold RI at h
  split at h
  · exact ⟨_, rfl⟩
  · cases h
/-- The map of the code's first loop. -/
def FitM (f : Lit → Option (DataW Unit)) (L : List Ver) (k : Nat) : Prop := ∀ x : Int × Int, In64 x → f (klP x) = (bestF L k x).map natD
theorem FitM.start (L : List Ver) : FitM (fun _ => none) L 0 := fun x _ => rfl
theorem zeroInt (w : World) : (zeroValue 3).run Tryz.prog w = .ok (i64 0) w := by kernel_rfl
theorem bestF_lt (L : List Ver) : ∀ (k : Nat) (x : Int × Int) (n : Nat), bestF L k x = some n → n < k := fun k x n h => (bestF_some L k x n h).2.1
theorem FitM.put {f : Lit → Option (DataW Unit)} {L : List Ver} {k : Nat} (h : FitM f L k) (hr : In64 L[k]!.r) (hs : bestF L (k + 1) L[k]!.r = some k) : FitM (updL f (klP L[k]!.r) (natD k)) L (k + 1) := fun x hx => by
  unfold updL
  by_cases e : x = L[k]!.r
  · subst e; rw [if_pos rfl, hs]; rfl
  · rw [if_neg (fun h' => e (klP_inj hx hr h')), h x hx]
    have : bestF L (k + 1) x = bestF L k x := by rw [bestF, if_neg (fun h' => e h'.symm)]
    rw [this]
theorem FitM.same {f : Lit → Option (DataW Unit)} {L : List Ver} {k : Nat} (h : FitM f L k) (hs : bestF L (k + 1) L[k]!.r = bestF L k L[k]!.r) : FitM f L (k + 1) := fun x hx => by
  rw [h x hx]
  by_cases e : x = L[k]!.r
  · subst e; rw [hs]
  · have : bestF L (k + 1) x = bestF L k x := by rw [bestF, if_neg (fun h' => e h'.symm)]
    rw [this]
def RecsOk (L : List Ver) : Prop := ∀ v ∈ L, In64 v.r
/-- What the second loop takes for a record. -/
def outP (L : List Ver) (x : Int × Int) : Ver := L[(bestF L L.length x).getD 0]!
theorem outP_r {L : List Ver} {x : Int × Int} {n : Nat} (h : bestF L L.length x = some n) : (outP L x).r = x := by
  unfold outP; rw [h]; exact (bestF_some L _ x n h).1
theorem keeps_of_below {w w' : World} (h : Below w.heap.size w w') : KeepsWalks w w' := ⟨h.size, fun k o hk _ => (h.block k (heap_lt hk)).trans hk⟩
/-- What has come and is sorted is what counts. -/
theorem latest_sorted {L : List Ver} (hR : RecsOk L) {D : DataW Unit} {f : Lit → Option (DataW Unit)} (hrep : RepL D f) (hf : FitM f L L.length) {left : Lit → Bool} {xs : List (Int × Int)} (hC : ColP D left xs) (hl : left = fun _ => false) {d : List Ver} (hp : d.Perm (xs.map (outP L)))
    (hs : d.Pairwise fun a b => ltR b.r a.r = false) : d = latest L := by
  have hsome : ∀ x ∈ xs, ∃ n, bestF L L.length x = some n := fun x hx => by
    have h1 := ((hC.2.2 x (hC.2.1 x hx)).1 hx).1
    rw [hrep.has, hf x (hC.2.1 x hx)] at h1
    cases hb : bestF L L.length x with
    | none => rw [hb] at h1; cases h1
    | some n => exact ⟨n, rfl⟩
  have hrs : (xs.map (outP L)).map Ver.r = xs := by
    rw [List.map_map]
    refine (List.map_congr_left fun x hx => ?_).trans (List.map_id xs)
    obtain ⟨n, hn⟩ := hsome x hx
    exact outP_r hn
  have hnd : (d.map Ver.r).Nodup := by
    have h1 : (d.map Ver.r).Perm xs := by rw [← hrs]; exact hp.map _
    exact h1.nodup_iff.2 hC.1
  have ha : Asc d := by
    unfold Asc
    have h2 : d.Pairwise fun a b => a.r ≠ b.r := by
      unfold List.Nodup at hnd
      exact List.pairwise_map.1 hnd
    refine (hs.and h2).imp fun {a b} h => ?_
    rcases ltR_total h.1 with e | e
    · exact absurd e.symm h.2
    · exact e
  refine latest_of ha fun v => ?_
  rw [hp.mem_iff, List.mem_map]
  constructor
  · rintro ⟨x, hx, rfl⟩
    obtain ⟨n, hn⟩ := hsome x hx
    exact ⟨x, n, hn, by unfold outP; rw [hn]; rfl⟩
  · rintro ⟨x, n, hn, rfl⟩
    have h1 := bestF_some L _ x n hn
    have hx64 : In64 x := by
      rw [← h1.1]
      have : L[n]! = L[n]'(h1.2.1) := getElem!_pos L n h1.2.1
      rw [this]; exact hR _ (List.getElem_mem _)
    refine ⟨x, (hC.2.2 x hx64).2 ⟨?_, by rw [hl]⟩, by unfold outP; rw [hn]; rfl⟩
    rw [hrep.has, hf x hx64, hn]; rfl
/-- A row of versions, with what its cells hold. -/
theorem vcs_of {S : Nat → Prop} {w : World} : ∀ {css : List (List Value)} {L : List Ver}, All2 (VerR S w) css L → ∃ d : List VC, d.map VC.v = L ∧ css = d.map encV ∧ ∀ x ∈ d, FldsAt S w (.slice x.a x.n x.c) x.v.fs
  | _, _, .nil => ⟨[], rfl, rfl, by simp⟩
  | _, _, .cons (b := v) g t => by
    obtain ⟨d, h1, h2, h3⟩ := vcs_of t
    obtain ⟨a, c, rfl, hf⟩ := g.expl'
    refine ⟨⟨v, a, v.fs.length, c⟩ :: d, by simp [h1], by simp [h2, encV], fun x hx => ?_⟩
    rcases List.mem_cons.1 hx with e | e
    · subst e; exact hf
    · exact h3 x e
theorem encV_len (x : VC) : (encV x).length = 6 := rfl
theorem encV_one (x : VC) : ∀ v ∈ encV x, v.oneCell' = true := by
  intro v hv; simp [encV] at hv; rcases hv with rfl | rfl | rfl | rfl | rfl | rfl <;> rfl
theorem all2_enc {S : Nat → Prop} {w : World} : ∀ {d : List VC}, (∀ x ∈ d, FldsAt S w (.slice x.a x.n x.c) x.v.fs) → All2 (VerR S w) (d.map encV) (d.map VC.v)
  | [], _ => .nil
  | x :: d, h => .cons ⟨_, rfl, h x (by simp)⟩ (all2_enc fun y hy => h y (by simp [hy]))
theorem perm_list {d d' : Array VC} (h : PermIn 0 d.size d d') : d'.toList.Perm d.toList := by
  obtain ⟨h1, _, h3⟩ := h
  have e1 : d'.extract 0 d.size = d' := by rw [← h1]; exact Array.extract_size
  rw [e1, Array.extract_size] at h3
  exact h3
theorem sorted_list {d' : Array VC} {n : Nat} (hn : d'.size = n) (h : SortedIn (ltOf cmpV) 0 n d') : (d'.toList.map VC.v).Pairwise fun a b => ltR b.r a.r = false := by
  rw [List.pairwise_map, List.pairwise_iff_getElem]
  intro i j hi hj hij
  have hi' : i < d'.size := by simpa using hi
  have hj' : j < d'.size := by simpa using hj
  have := h i j (Nat.zero_le _) hij (by omega)
  rw [ltV, getElem!_pos d' i hi', getElem!_pos d' j hj'] at this
  simpa using this
set_option maxRecDepth 100000 in
set_option maxHeartbeats 4000000 in
theorem latest_any (S : Nat → Prop) {w : World} {v : Value} {L : List Ver} (h : VersAt S w v L) (hl : VsOk L) (hr : RecsOk L) :
    Calls Tryz.prog 17 #[v] w fun e w' => ∃ v', e = .returned v' ∧ OwnOf 43 6 w.heap.size (VerR (fun b => w.heap.size ≤ b)) w' v' (latest L) ∧ Below w.heap.size w w' := by
  obtain ⟨i0, hi, hz1, hz2, hz3⟩ := info_Ver
  have HV := Lib.hid h
  obtain ⟨a, cap, rfl, -⟩ := h
  obtain ⟨n, hn⟩ : ∃ n, n = L.length := ⟨_, rfl⟩
  have hl1 : n ≤ 1000 := by rw [hn]; exact hl.1
  rw [← hn] at HV ⊢
  have HN := Lib.hid hn
  have HL := Lib.hid hl
  have HRC := Lib.hid hr
  clear hn hl hr
  have hmk := run_makeMap (P := Tryz.prog) 83
  go_enter Tryz.func17, Tryz.ntmps17
  go_wp2_with fail
  go_loopw [14] (fun i wr => ∃ (k nn : Nat) (f : Lit → Option (DataW Unit)), k ≤ n ∧ i = .int .i64 k ∧ Below w.heap.size w wr ∧ MapF wr Tryz.prog 41 RI w.heap.size nn f ∧ nn ≤ k ∧ FitM f L k) (fun i _ => n - (intOf i).toNat)
  case atStart => exact ⟨0, 0, _, by omega, rfl, (Below.refl _ _).alloc (Nat.le_refl _) _, MapF.new w Tryz.prog 41 RI, by omega, FitM.start L⟩
  case round =>
    obtain ⟨k, nn, f, hk, rfl, hb, hmp, hnn, hft⟩ := hrel
    have HB := Lib.hid hb
    have HMP := Lib.hid hmp
    have HFT := Lib.hid hft
    clear hb hmp hft
    by_cases hlt : k < n
    · have hlx : k < L.length := by rw [← HN.out]; exact hlt
      obtain ⟨b, o, cap2, cs, e1, hSb, hbl, hR, hcl, hrg, hth⟩ := SlOf.range (by omega) (VersAt.keep HV.out (Stay.of_below HB.out) (fun _ h _ => h)) hlx
      have e2 : a = some ⟨b, o, none⟩ := by injection e1
      clear e1 hcl hth hbl hSb
      subst e2
      obtain ⟨x, hx⟩ : ∃ x, x = L[k] := ⟨_, rfl⟩
      rw [← hx] at hR
      obtain ⟨fa, fn, fc, rfl⟩ := hR.expl
      have HXE : RowKit.Hid (L[k]! = x) := Lib.hid (by rw [hx, getElem!_pos L k hlx])
      have HIN : RowKit.Hid (In64 x.r) := Lib.hid (by rw [hx]; exact HRC.out _ (List.getElem_mem _))
      have HG := Lib.hid hrg
      obtain ⟨W1, hW1⟩ : ∃ W1, W1 = wr.alloc (.cells #[.int .i64 x.r.1, .int .i64 x.r.2, .int .i64 x.num, .int .u8 x.kind, .int .u8 x.level, .slice fa fn fc] 43) := ⟨_, rfl⟩
      have M1 : MapF W1 Tryz.prog 41 RI w.heap.size nn f := by rw [hW1]; exact HMP.out.keep ((Tn.refl (fun _ => False) wr).alloc _) (fun h => h)
      obtain ⟨lv, ps, hlk, hlv⟩ := M1.look_ok keyD Tryz.underlying83 (zeroInt W1) (zd := .lit (.int .i64 0)) (zp := []) rfl (keyOfD HIN.out.1 HIN.out.2)
      have hff : f (klD x.r.1 x.r.2) = (bestF L k x.r).map natD := HFT.out x.r HIN.out
      rw [hff] at hlk hlv
      rw [hW1] at hlk
      clear hrg hR hx M1 hW1 hff
      cases hbf : bestF L k x.r with
      | none =>
        rw [hbf] at hlk hlv
        have : lv = i64 0 := RI_inv hlv
        subst this
        have HBF := Lib.hid hbf
        clear hlv hbf
        go_wp2_with (first
          | refine wpList_load_mid rfl 43 (.tmp 17) rfl b (o + k * 6) rfl [.int .i64 x.r.1, .int .i64 x.r.2, .int .i64 x.num, .int .u8 x.kind, .int .u8 x.level, .slice fa fn fc] _ HG.out Tryz.underlying43 rfl (by kernel_rfl) ?_
          | fail)
        go_quiet (fail)
        obtain ⟨W2, hW2⟩ : ∃ W2, W2 = (wr.alloc (.cells #[.int .i64 x.r.1, .int .i64 x.r.2, .int .i64 x.num, .int .u8 x.kind, .int .u8 x.level, .slice fa fn fc] 43)).drewN nq := ⟨_, rfl⟩
        rw [← hW2]
        have B2 : RowKit.Hid (Below wr.heap.size wr W2) := Lib.hid (by rw [hW2]; exact bdrewN ((Below.refl _ _).alloc (Nat.le_refl _) _) _)
        have V2 : RowKit.Hid (Blk W2 wr.heap.size #[.int .i64 x.r.1, .int .i64 x.r.2, .int .i64 x.num, .int .u8 x.kind, .int .u8 x.level, .slice fa fn fc] 43) := Lib.hid (by rw [hW2]; exact Blk.new _ _ _)
        clear hW2 hlk
        have M2 : MapF W2 Tryz.prog 41 RI w.heap.size nn f := HMP.out.keep (Tn.of_below (F := fun _ => False) B2.out) (fun h => h)
        obtain ⟨w3, hr3, hm3, hg3⟩ := M2.put keyD Tryz.underlying83 (by unfold maxLen; omega) (keyOfD HIN.out.1 HIN.out.2) (val := .int .i64 (k : Int)) (d := natD k) rfl
        have x0 : W2.cell? ⟨wr.heap.size, 0, none⟩ = some (.int .i64 x.r.1) := V2.out.cell 0
        have x1 : W2.cell? ⟨wr.heap.size, 1, none⟩ = some (.int .i64 x.r.2) := V2.out.cell 1
        have HM3 := Lib.hid hm3
        have HG3 := Lib.hid hg3
        have HF3 : RowKit.Hid (FitM (updL f (klP x.r) (natD k)) L (k + 1)) := Lib.hid (by
          have h := FitM.put HFT.out (by rw [HXE.out]; exact HIN.out) (by rw [HXE.out]; exact (by rw [bestF, if_pos (by rw [HXE.out]), HBF.out]))
          rw [HXE.out] at h; exact h)
        clear M2 hm3 hg3
        go_wp2_with fail
        refine ⟨⟨k + 1, nn + 1, _, hlt, by go_num, ?_, HM3.out, by omega, HF3.out⟩, by simp [intOf]; omega⟩
        have hz := HB.out.size
        exact HB.out.trans (below_grown (B2.out.mono hz) (by have := B2.out.size; omega) HG3.out (fun r e => by cases e; exact Nat.le_refl _))
      | some m =>
        rw [hbf] at hlk hlv
        have : lv = i64 m := RI_inv hlv
        subst this
        have HBF := Lib.hid hbf
        have hmk2 : m < k := bestF_lt L k x.r m hbf
        have hmy : m < L.length := by omega
        have hmn : m < n := by omega
        obtain ⟨b2, o2, cap3, cs2, e1, _, _, hR2, _, hrg2, _⟩ := SlOf.range (by omega) (VersAt.keep HV.out (Stay.of_below HB.out) (fun _ h _ => h)) hmy
        have e3 : b = b2 := by injection e1 with h; injection h with h; injection h
        have e4 : o = o2 := by injection e1 with h; injection h with h; injection h
        clear e1
        subst e3 e4
        obtain ⟨y, hy⟩ : ∃ y, y = L[m] := ⟨_, rfl⟩
        rw [← hy] at hR2
        obtain ⟨ga, gn, gc, rfl⟩ := hR2.expl
        obtain ⟨-, -, q2, -, -, -⟩ := range6 hrg2
        have HYE : RowKit.Hid (L[m]! = y) := Lib.hid (by rw [hy, getElem!_pos L m hmy])
        clear hlv hbf hrg2 hR2 hy hmk2
        by_cases hnum : y.num < x.num
        · have g1 : decide (x.num > y.num) = true := by simpa using hnum
          have HNU := Lib.hid hnum
          clear hnum
          go_wp2_with (first
            | refine wpList_load_mid rfl 43 (.tmp 17) rfl b (o + k * 6) rfl [.int .i64 x.r.1, .int .i64 x.r.2, .int .i64 x.num, .int .u8 x.kind, .int .u8 x.level, .slice fa fn fc] _ HG.out Tryz.underlying43 rfl (by kernel_rfl) ?_
            | fail)
          go_quiet (fail)
          obtain ⟨W2, hW2⟩ : ∃ W2, W2 = (wr.alloc (.cells #[.int .i64 x.r.1, .int .i64 x.r.2, .int .i64 x.num, .int .u8 x.kind, .int .u8 x.level, .slice fa fn fc] 43)).drewN nq := ⟨_, rfl⟩
          rw [← hW2]
          have B2 : RowKit.Hid (Below wr.heap.size wr W2) := Lib.hid (by rw [hW2]; exact bdrewN ((Below.refl _ _).alloc (Nat.le_refl _) _) _)
          have V2 : RowKit.Hid (Blk W2 wr.heap.size #[.int .i64 x.r.1, .int .i64 x.r.2, .int .i64 x.num, .int .u8 x.kind, .int .u8 x.level, .slice fa fn fc] 43) := Lib.hid (by rw [hW2]; exact Blk.new _ _ _)
          clear hW2 hlk
          have M2 : MapF W2 Tryz.prog 41 RI w.heap.size nn f := HMP.out.keep (Tn.of_below (F := fun _ => False) B2.out) (fun h => h)
          obtain ⟨w3, hr3, hm3, hg3⟩ := M2.put keyD Tryz.underlying83 (by unfold maxLen; omega) (keyOfD HIN.out.1 HIN.out.2) (val := .int .i64 (k : Int)) (d := natD k) rfl
          have x0 : W2.cell? ⟨wr.heap.size, 0, none⟩ = some (.int .i64 x.r.1) := V2.out.cell 0
          have x1 : W2.cell? ⟨wr.heap.size, 1, none⟩ = some (.int .i64 x.r.2) := V2.out.cell 1
          have HM3 := Lib.hid hm3
          have HG3 := Lib.hid hg3
          have HF3 : RowKit.Hid (FitM (updL f (klP x.r) (natD k)) L (k + 1)) := Lib.hid (by
            have h := FitM.put HFT.out (by rw [HXE.out]; exact HIN.out) (by rw [HXE.out]; exact (by rw [bestF, if_pos (by rw [HXE.out]), HBF.out]; dsimp only; rw [if_pos (by rw [HXE.out, HYE.out]; exact HNU.out)]))
            rw [HXE.out] at h; exact h)
          clear M2 hm3 hg3
          go_wp2_with fail
          refine ⟨⟨k + 1, nn + 1, _, hlt, by go_num, ?_, HM3.out, by omega, HF3.out⟩, by simp [intOf]; omega⟩
          have hz := HB.out.size
          exact HB.out.trans (below_grown (B2.out.mono hz) (by have := B2.out.size; omega) HG3.out (fun r e => by cases e; exact Nat.le_refl _))
        · have g1 : decide (x.num > y.num) = false := by simpa using hnum
          have HNU := Lib.hid hnum
          clear hnum
          go_wp2_with (first
            | refine wpList_load_mid rfl 43 (.tmp 17) rfl b (o + k * 6) rfl [.int .i64 x.r.1, .int .i64 x.r.2, .int .i64 x.num, .int .u8 x.kind, .int .u8 x.level, .slice fa fn fc] _ HG.out Tryz.underlying43 rfl (by kernel_rfl) ?_
            | fail)
          go_quiet (fail)
          go_wp2_with fail
          have hfs : FitM f L (k + 1) := HFT.out.same (by rw [bestF, if_pos rfl, HXE.out, HBF.out]; dsimp only; rw [if_neg (by rw [HYE.out]; have := HNU.out; omega)])
          exact ⟨⟨k + 1, nn, f, hlt, by go_num, bdrewN (HB.out.alloc HB.out.size _) _, HMP.out.keep (((Tn.refl (fun _ => False) wr).alloc _).drewN _) (fun h => h), by omega, hfs⟩, by simp [intOf]; omega⟩
    · obtain rfl : k = n := by omega
      obtain ⟨wo, rfl⟩ : ∃ wo, wo = wr := ⟨_, rfl⟩
      obtain ⟨D, hown, hrep⟩ := HMP.out
      have HRP := Lib.hid hrep
      have HSZ := Lib.hid hown.size_le
      have HVo : RowKit.Hid (VersAt S wo (.slice a k cap) L) := Lib.hid (VersAt.keep HV.out (Stay.of_below HB.out) (fun _ h _ => h))
      have hmbo : w.heap.size < wo.heap.size := hown.lt
      clear hrep
      go_wp2_with (first
        | (at_range; refine wpList_range_own _ rfl _ 83 rfl 41 3 keyD Tryz.underlying83 RI w.heap.size nn D rfl hown ?_; intro w0 hrg0 hg0 hs0)
        | fail)
      go_frame
      have B0 : RowKit.Hid (Below wo.heap.size wo w0) := Lib.hid ⟨hg0.os, hg0.tape, hg0.output, hg0.size, fun i hi => hg0.block i hi (by simp)⟩
      have RG0 := Lib.hid hrg0
      have HS0 := Lib.hid hs0
      clear hrg0 hg0 hown
      go_loopw [8] (fun ov wr => ∃ (left : Lit → Bool) (cnt : Nat) (xs : List (Int × Int)), wr.ranges Tryz.prog 41 RI w.heap.size wo.heap.size nn D left cnt ∧ xs.length + cnt ≤ Maps.size D ∧ ColP D left xs ∧ OwnX 43 6 (wo.heap.size + 1) VerR wr ov (xs.map (outP L)) ∧ RowKit.Below wo.heap.size wo wr ∧ wo.heap.size + 1 ≤ wr.heap.size) (fun _ wr => wr.rangeLeft w.heap.size wo.heap.size)
      case atStart => exact ⟨_, _, [], RG0.out, by simp, ColP.start D, OwnX.nil _ _ _ _ _, B0.out, RG0.out.lt⟩
      case round =>
        obtain ⟨left, cnt, xs, hrg, hcs, hC, hO, hb, hz⟩ := hrel
        have RG := Lib.hid hrg
        have HC := Lib.hid hC
        have HO := Lib.hid hO
        have HBo := Lib.hid hb
        have LE0 := Lib.hid hrg.left_eq
        clear hrg hC hO hb
        go_wp2_with (first
          | (at_next; refine wpList_next_ranges _ rfl _ rfl 41 keyD RI recV (fun c : Int => i64 c) (fun key kl hk => by obtain ⟨x, _, hx, _⟩ := keyD_inv hk; exact ⟨x, hx⟩) (fun v y hv => RI_some hv) w.heap.size wo.heap.size nn D left cnt rfl RG.out ?_ ?_)
          | fail)
        · intro hc0 hl0
          have HLL : RowKit.Hid (left = fun _ => false) := Lib.hid (by first | exact hl0 | (funext l; exact hl0 l))
          have HB2 : RowKit.Hid (RowKit.Below w.heap.size w wr) := Lib.hid (HB.out.trans (HBo.out.mono HB.out.size))
          have hzo : w.heap.size ≤ wo.heap.size := HB.out.size
          have hcs1 : xs.length ≤ 1000 := by have := HSZ.out; omega
          obtain ⟨css, hrow, hA, hzz⟩ := HO.out
          obtain ⟨d, hd1, rfl, hd3⟩ := vcs_of hA
          have hdl : d.length = xs.length := by have := congrArg List.length hd1; simpa using this
          rw [List.length_map] at hrow
          have HD1 := Lib.hid hd1
          have HD3 := Lib.hid hd3
          have HLO : RowKit.Hid (∀ d' : List VC, d'.Perm d → (d'.map VC.v).Pairwise (fun a b => ltR b.r a.r = false) → d'.map VC.v = latest L) := Lib.hid fun d' hp hs => by
            refine latest_sorted HRC.out HRP.out (by rw [← HN.out]; exact HFT.out) HC.out HLL.out ?_ hs
            rw [← HD1.out]; exact hp.map _
          clear hA hzz hd1 hd3 hc0 hl0
          have hdz : ∀ c ∈ d.map encV, c.length = 6 := fun c hc => by obtain ⟨y, _, rfl⟩ := List.mem_map.1 hc; exact encV_len y
          rcases hrow.2 with ⟨rfl, hz0⟩ | ⟨gb, cp, cur, rfl, hbase, hgb, r1, r2, r3, r4⟩
          · have hd0 : d = [] := List.eq_nil_of_length_eq_zero (by omega)
            subst hd0
            have NN := Lib.hid (AnyF.slices_SortFunc_none (P := Tryz.prog) (ρ := Tryz.sortF_ren) { Tryz.sortF with } none 0 (.func (.func 40) #[] #[]) wr)
            have HL0 : RowKit.Hid (latest L = []) := Lib.hid (HLO.out [] (List.Perm.refl _) (by simp)).symm
            clear hrow hdz
            go_wp2_with fail
            refine NN.out.mono ?_
            rintro e w2 ⟨rfl, rfl⟩
            go_wp2_with fail
            go_ret
            exact ⟨_, rfl, by rw [HL0.out]; exact OwnOf.nil _ _ _ _ _, HB2.out⟩
          · have htake : cur.toList.take (d.toArray.size * 6) = (d.toArray.toList.map encV).flatten := by
              rw [List.size_toArray, hdl]; exact r4
            have hH : HoldsK encV 6 wr gb 0 d.toArray := holdsK_row encV_len (by omega) hgb htake
            have hgl : gb < wr.heap.size := heap_lt hgb
            have eg : ∀ args w, (callFunc 40 args).run Tryz.prog w = .ok (.enter 40 args) w := enters_of Tryz.func40 (by kernel_rfl) rfl
            have SS := AnyQ.slices_SortFunc (P := Tryz.prog) (ρ := Tryz.sortF_ren) { Tryz.sortF with } 6 Tryz.isAgg43 Tryz.sizeOf43 encV encV_len encV_one cmpV swoV 40 #[] gb 0 cp d.toArray wr eg (cmpLaysV gb 0 _ wr) hH hgl (by simp; omega)
            rw [List.size_toArray, hdl] at SS
            have SS := Lib.hid SS
            have FF : RowKit.Hid (∀ (d' : Array VC) (m : Nat) (os : Array Obj), PermIn 0 xs.length d.toArray d' → SortedIn (ltOf cmpV) 0 xs.length d' → OwnOf 43 6 w.heap.size (VerR (fun b => w.heap.size ≤ b)) (sortWorldK encV 6 wr gb 0 m d' os) (.slice (some ⟨gb, 0, none⟩) xs.length cp) (latest L) ∧ RowKit.Below w.heap.size w (sortWorldK encV 6 wr gb 0 m d' os)) := Lib.hid fun d' m os hp hs => by
              have hsz : d'.size = xs.length := by rw [hp.1, List.size_toArray, hdl]
              have hp' : d'.toList.Perm d := by
                have h1 : PermIn 0 d.toArray.size d.toArray d' := by rw [List.size_toArray, hdl]; exact hp
                exact perm_list h1
              have hgr := grown_sortK (enc := encV) (k := 6) (n := m) (os := os) (w := wr) (g := gb) d'
              have e1 := HLO.out d'.toList hp' (sorted_list hsz hs)
              rw [← e1]
              have hll : (d'.toList.map VC.v).length = xs.length := by simp [hsz]
              refine ⟨⟨d'.toList.map encV, by rw [hll]; exact row_mono (rowK_sorted encV_len (by omega) hsz hbase hgb r1 r2 r3) (by omega), all2_enc fun y hy => ?_, fun c hc => by obtain ⟨y, _, rfl⟩ := List.mem_map.1 hc; exact encV_len y⟩, below_grown HB2.out HB2.out.size hgr (fun r e => by cases e; omega)⟩
              refine (HD3.out y (hp'.mem_iff.1 hy)).keep (fun b hb hbl => hgr.block b hbl (fun e => hb.2 (by injection e with e; rw [← e]; rfl))) (fun b hb _ => ?_)
              have := hb.1
              show w.heap.size ≤ b; omega
            clear hrow r1 r2 r3 r4 hgb hH eg htake hdz
            go_wp2_with fail
            refine SS.out.mono ?_
            rintro e w2 ⟨rfl, d', m, os, hp, hs, rfl⟩
            have F2 := Lib.hid (FF.out d' m os hp hs)
            clear hp hs
            go_wp2_with fail
            go_ret
            exact ⟨_, rfl, F2.out.1, F2.out.2⟩
        · intro xa xr c kl yd yp w2 cnt2 hkey hlk hv hat hrg2 hlt2 hg2 hs2 hen
          obtain ⟨x, hx64, ex, rfl⟩ := keyD_inv hkey
          have hx : x = (xa, xr) := by unfold recV at ex; simp at ex; exact Prod.ext ex.1.symm ex.2.symm
          have hhas : Maps.has D (klP x) = true := has_true_of_atKey hat
          have hf1 : f (klP x) = (bestF L L.length x).map natD := by rw [← HN.out]; exact HFT.out x hx64
          obtain ⟨m, hm⟩ : ∃ m, bestF L L.length x = some m := by
            rw [HRP.out.has, hf1] at hhas
            cases hb : bestF L L.length x with
            | none => rw [hb] at hhas; cases hhas
            | some m => exact ⟨m, rfl⟩
          have hcm : c = (m : Int) := by
            have h1 := hat (.lit (.int .i64 0))
            rw [HRP.out.at_, hf1, hm] at h1
            have h2 : RI (i64 c) = some (.lit (.int .i64 c), []) := rfl
            rw [h2, ← h1] at hv
            simp [natD] at hv
            exact hv.1
          subst hcm
          have HXM : RowKit.Hid (outP L x = L[m]!) := Lib.hid (by unfold outP; rw [hm]; rfl)
          have hml : m < L.length := bestF_lt L _ x m hm
          have hmk : m < k := by rw [HN.out]; exact hml
          have B2 : RowKit.Hid (RowKit.Below wo.heap.size wo w2) := Lib.hid (HBo.out.trans ⟨hg2.os, hg2.tape, hg2.output, hg2.size, fun i hi => hg2.block i (by omega) (by simp; omega)⟩)
          have B2' : RowKit.Hid (Tn (fun b => b = wo.heap.size) wr w2) := Lib.hid ((Tn.of_grown hg2).mono fun b h => by injection h with h; exact h.symm)
          have HO2 : RowKit.Hid (OwnX 43 6 (wo.heap.size + 1) VerR w2 u8 (xs.map (outP L))) := Lib.hid (OwnX.tn keeps_ver HO.out B2'.out (fun b h => by have : b = wo.heap.size := h; omega))
          have RG2 := Lib.hid hrg2
          have HC2 := Lib.hid (HC.out.step hx64 hlk hat)
          have HLT2 := Lib.hid hlt2
          have hw2 : wr.heap.size ≤ w2.heap.size := hg2.size
          have HLEN := Lib.hid hcs
          have hcs1 : xs.length ≤ 1000 := by have := HSZ.out; omega
          clear hkey hlk hv hat hrg2 hlt2 hg2 hs2 ex hhas hf1 hm HO RG
          obtain ⟨b, o, cap2, cs, e1, hSb, hbl, hR, hcl, hrg3, hth⟩ := SlOf.range (by omega) (VersAt.keep HVo.out (Stay.of_below B2.out) (fun _ h _ => h)) hml
          have e2 : a = some ⟨b, o, none⟩ := by injection e1
          clear e1 hcl hth hbl hSb
          subst e2
          obtain ⟨y, hy⟩ : ∃ y, y = L[m] := ⟨_, rfl⟩
          rw [← hy] at hR
          have HR := Lib.hid hR
          obtain ⟨fa, fn, fc, rfl⟩ := hR.expl
          have HYE : RowKit.Hid (outP L x = y) := Lib.hid (by rw [HXM.out, hy, getElem!_pos L m hml])
          have HFO : RowKit.Hid (FsOk y.fs) := Lib.hid (by rw [hy]; exact HL.out.2 _ (List.getElem_mem _))
          have HG := Lib.hid hrg3
          clear hrg3 hR hy
          go_wp2_with (first
            | refine wpList_load_mid rfl 43 (.tmp 52) rfl b (o + m * 6) rfl [.int .i64 y.r.1, .int .i64 y.r.2, .int .i64 y.num, .int .u8 y.kind, .int .u8 y.level, .slice fa fn fc] _ HG.out Tryz.underlying43 rfl (by kernel_rfl) ?_
            | fail)
          refine (own_any _ HR.out HFO.out).mono ?_
          rintro e w3 ⟨cs', rfl, hR', hb'⟩
          have B3 := Lib.hid hb'
          have HO3 := Lib.hid (HO2.out.below keeps_ver hb')
          have HR3 := Lib.hid hR'
          obtain ⟨ga, gn, gc, rfl⟩ := hR'.expl
          have HOL := Lib.hid (OwnOf.lt HO2.out)
          obtain ⟨css, hrow, hA, hz3⟩ := HO3.out
          rw [List.length_map] at hrow
          have HOW := Lib.hid hrow
          have HA := Lib.hid hA
          have HZ := Lib.hid hz3
          have hz5 := hb'.size
          clear hb' hR' hrow hA hz3
          go_wp2_with (first
            | (at_builtin; go_loud (refine wpList_append_all rfl (.tmp 49) (.tmp 55) 24 rfl (wo.heap.size + 1) 43 i0 _ 6 56 Tryz.underlying24 hi hz1 hz2 hz3 rfl (by omega) _ xs.length css.flatten rfl (HOW.out.alloc _) 1 [.int .i64 y.r.1, .int .i64 y.r.2, .int .i64 y.num, .int .u8 y.kind, .int .u8 y.level, .slice ga gn gc] _ rfl (src_row (row_fresh' _ (by simp) 0 _ 43 6 1 rfl (by unfold maxLen; omega) (Nat.zero_le _))) (one_ver _ _ _ _ HR3.out) (by unfold maxLen; omega) (by omega) (by simp; omega) ?_)
               intro v' w4 hr4 hg4 ho4; have HR4 := Lib.hid hr4; have HG4 := Lib.hid hg4; have HO4 := Lib.hid ho4; clear hr4 hg4 ho4))
          have B34 : RowKit.Hid (RowKit.Below (wo.heap.size + 1) w3 w4) := Lib.hid (below_grown ((RowKit.Below.refl _ _).alloc (by omega) _) (by simp; omega) HG4.out (fun r e => (HOL.out r e).1))
          have RG4 : RowKit.Hid (w4.ranges Tryz.prog 41 RI w.heap.size wo.heap.size nn D (fun z => left z && !z.sameKey (klP x)) cnt2) := Lib.hid (by
            refine (RG2.out.of_walks (keeps_of_below B3.out)).of_walks ⟨B34.out.size, fun j ob hj hw => ?_⟩
            have hl := heap_lt hj
            refine (HG4.out.block j (by simp; omega) fun e => ?_).trans ((RowKit.Below.heap_alloc _ _ _ hl).trans hj)
            obtain ⟨h0, ⟨h1, _⟩ | ⟨g', c', cur, h1, _, hh, _⟩⟩ := HOW.out
            · rw [h1] at e; cases e
            · rw [h1] at e; injection e with e; subst e; rw [hj] at hh; injection hh with hh; rw [hh] at hw; cases hw)
          go_roundw
          case rel =>
            refine ⟨_, cnt2, xs ++ [x], RG4.out, by have := HLEN.out; have := HLT2.out; simp; omega, HC2.out, ?_, (B2.out.trans (B3.out.mono (by omega))).trans (B34.out.mono (by omega)), by have := B34.out.size; omega⟩
            rw [List.map_append, List.map_singleton, HYE.out]
            exact OwnX.snoc keeps_ver (by rw [List.length_map]; exact HOW.out) HA.out HZ.out HR3.out (fun r e => (HOL.out r e).2) (by omega) rfl ((RowKit.Below.refl _ _).alloc (Nat.le_refl _) _) (by rw [List.length_map]; exact HR4.out) HG4.out HO4.out
          case measure => rw [RG4.out.left_eq, LE0.out]; exact HLT2.out
end Go.Proofs.YtpdldbapagchfaaGreatDoor

/- Merge: the first loop. -/
namespace Go.Proofs.YtpdldbapagchfaaGreatDoor
open Go.RowKit Go.Shelf Go.Maps
attribute [local go_sem] over_cell over_frozen

/-- Versions that may be merged. -/
structure LOk (L : List Ver) : Prop where
  vs : VsOk L
  recs : RecsOk L
  few : L.length ≤ 100
  fld : ∀ x ∈ L, ∀ f ∈ x.fs, KOk f
/-- Kind and level of the merged record. -/
def kdOf (V : List Ver) : Nat := match V with
  | [] => 0
  | x :: _ => x.kind
def lvOf (V : List Ver) : Nat := match V with
  | [] => 0
  | x :: _ => x.level
/-- The merged record of the versions that count. -/
noncomputable def mrgV (V : List Ver) : Mrg := ⟨kdOf V, lvOf V, mergeP (foldS tabC) polP (tagsP ltT (saidOf V)) V⟩
theorem kd_at {V : List Ver} (h : 0 < V.length) : V[0].kind = kdOf V ∧ V[0].level = lvOf V := by
  cases V with
  | nil => simp at h
  | cons x V => exact ⟨rfl, rfl⟩
theorem said_len_le {L : List Ver} (h : LOk L) : (saidOf L).length ≤ 100000 := by
  have : ∀ L : List Ver, (∀ x ∈ L, x.fs.length ≤ 1000) → (saidOf L).length ≤ L.length * 1000 := by
    intro L
    induction L with
    | nil => intro _; simp [saidOf]
    | cons x L ih =>
      intro h
      have h1 := ih fun y hy => h y (by simp [hy])
      have h2 := h x (by simp)
      have e : (saidOf (x :: L)).length = x.fs.length + (saidOf L).length := by simp [saidOf]
      rw [e, List.length_cons]; omega
  have h1 := this L fun x hx => (h.vs.2 x hx).1
  have := h.few
  omega
theorem saidOf_take {L : List Ver} {k : Nat} (hk : k < L.length) : saidOf (L.take (k + 1)) = saidOf (L.take k) ++ L[k].fs.map (fun f => (f, L[k].r)) := by
  rw [List.take_succ_eq_append_getElem hk]; unfold saidOf; rw [List.flatMap_append, List.flatMap_singleton]
theorem said_step {x : Ver} {p : List Said} {j : Nat} (hj : j < x.fs.length) : p ++ (x.fs.take (j + 1)).map (fun f => (f, x.r)) = (p ++ (x.fs.take j).map (fun f => (f, x.r))) ++ [(x.fs[j], x.r)] := by
  rw [List.take_succ_eq_append_getElem hj, List.map_append, List.append_assoc]; rfl
/-- What is known in the first loop. -/
def Mid (S : Nat → Prop) (W3 : World) (N b3 kd lv : Nat) (pre : List Said) (wr : World) (tv : Value) : Prop :=
  ∃ E, Col S N N E pre wr tv ∧ Below N W3 wr ∧ Blk wr b3 #[.int .u8 kd, .int .u8 lv, .slice none 0 0, .slice none 0 0] 32
theorem Mid.expl {S : Nat → Prop} {W3 : World} {N b3 kd lv : Nat} {pre : List Said} {wr : World} {tv : Value} (h : Mid S W3 N b3 kd lv pre wr tv) : ∃ a c, tv = .slice a (tagsO pre).length c := by
  obtain ⟨E, h1, -⟩ := h
  obtain ⟨a, c, e, -⟩ := row_cellz h1.row
  exact ⟨a, c, e⟩
theorem keepAll_len (fold : ByteArray → ByteArray) : ∀ l : List Said, (keepAll fold l).length ≤ l.length := by
  refine snoc_cases (by simp [keepAll]) fun l x ih => ?_
  rw [keepAll_snoc]
  split
  · rw [List.length_append]; omega
  · rw [List.length_append, List.length_append]; simp; omega
theorem keepP_len (fold : ByteArray → ByteArray) (p : Pol) (l : List Said) : (keepP fold p l).length ≤ l.length := by
  cases p with
  | loc => exact Nat.le_refl _
  | all => exact keepAll_len fold l
  | first =>
    cases l with
    | nil => exact Nat.le_refl _
    | cons x l => exact List.length_filter_le _ _
/-- What is merged of the first tags. -/
def mrgTo (pre : List Said) (T : List ByteArray) (k : Nat) : List Said := (T.take k).flatMap fun t => keepP (foldS tabC) (polP t) (about t pre)
theorem mrgTo_step {pre : List Said} {T : List ByteArray} {k : Nat} {t : ByteArray} (h : T[k]? = some t) : mrgTo pre T (k + 1) = mrgTo pre T k ++ keepP (foldS tabC) (polP t) (about t pre) := by
  have hk : k < T.length := (List.getElem?_eq_some_iff.1 h).1
  have e : T[k] = t := (List.getElem?_eq_some_iff.1 h).2
  unfold mrgTo
  rw [List.take_succ_eq_append_getElem hk, List.flatMap_append, List.flatMap_singleton, e]
theorem mrgTo_len {pre : List Said} {c : Nat} (hp : pre.length ≤ c) (T : List ByteArray) (k : Nat) : (mrgTo pre T k).length ≤ k * c := by
  induction k with
  | zero => exact Nat.le_trans (Nat.le_of_eq rfl) (Nat.zero_le _)
  | succ k ih =>
    rw [Nat.succ_mul]
    by_cases hk : k < T.length
    · rw [mrgTo_step (List.getElem?_eq_getElem hk), List.length_append]
      have h1 := keepP_len (foldS tabC) (polP T[k]) (about T[k] pre)
      have h2 := about_len T[k] pre
      exact Nat.add_le_add ih (Nat.le_trans h1 (Nat.le_trans h2 hp))
    · have h1 : T.take (k + 1) = T := List.take_of_length_le (by omega)
      have h2 : T.take k = T := List.take_of_length_le (by omega)
      have e : mrgTo pre T (k + 1) = mrgTo pre T k := by
        unfold mrgTo; rw [h1, h2]
      rw [e]; exact Nat.le_trans ih (Nat.le_add_right _ _)
/-- The merged record that is being made. -/
def MrgSt (S : Nat → Prop) (N2 b3 kd lv : Nat) (w : World) (M : List Said) : Prop :=
  ∃ fv rv, Blk w b3 #[.int .u8 kd, .int .u8 lv, fv, rv] 32 ∧ OwnOf 48 4 N2 (FldR S) w fv (M.map (·.1)) ∧ OwnOf 41 2 N2 RecR w rv (M.map (·.2))
theorem MrgSt.tn {S G : Nat → Prop} {N2 b3 kd lv : Nat} {w w' : World} {M : List Said} (h : MrgSt S N2 b3 kd lv w M) (t : Tn G w w') (hS : ∀ b, S b → ¬ G b) (h3 : ¬ G b3) (hN : ∀ b, N2 ≤ b → b < w.heap.size → ¬ G b) : MrgSt S N2 b3 kd lv w' M := by
  obtain ⟨fv, rv, h1, h2, h4⟩ := h
  exact ⟨fv, rv, t.blk h1 h3, h2.keep t (fun r _ a b => hN r a b) (fun c x hx => keeps_fld _ _ _ _ _ _ hx (Stay.of_tn t fun b hb _ => hS b hb) (fun _ h _ => h)), h4.keep t (fun r _ a b => hN r a b) (fun _ _ h => h)⟩
theorem MrgSt.below {S : Nat → Prop} {N2 b3 kd lv : Nat} {w w' : World} {M : List Said} (h : MrgSt S N2 b3 kd lv w M) (hb : Below w.heap.size w w') : MrgSt S N2 b3 kd lv w' M :=
  h.tn (Tn.of_below (F := fun _ => False) hb) (fun _ _ h => h) (fun h => h) (fun _ _ _ h => h)
theorem OwnOf.expl {α : Type} {T : TypeId} {z B : Nat} {R : World → List Value → α → Prop} {w : World} {v : Value} {L : List α} (h : OwnOf T z B R w v L) : ∃ a c, v = .slice a L.length c := by
  obtain ⟨css, hr, -⟩ := h
  obtain ⟨a, c, e, -⟩ := row_cellz hr
  exact ⟨a, c, e⟩
end Go.Proofs.YtpdldbapagchfaaGreatDoor
