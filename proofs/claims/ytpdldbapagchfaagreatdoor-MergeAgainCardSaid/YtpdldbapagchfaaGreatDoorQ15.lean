/- The reference's Without and Latest. -/
import Derived.Test.YtpdldbapagchfaaGreatDoorQ14
set_option linter.unusedVariables false
set_option linter.unusedSimpArgs false

namespace Go.Proofs.YtpdldbapagchfaaGreatDoor
open Go.RowKit Go.Shelf Go.Maps
attribute [local go_sem] over_cell over_frozen

theorem OwnOf.up {α : Type} {T : TypeId} {z B : Nat} {R : World → List Value → α → Prop} {w w' : World} {v : Value} {L : List α} (h : OwnOf T z B R w v L) (hb : Below w.heap.size w w') (hR : ∀ c x, R w c x → R w' c x) : OwnOf T z B R w' v L :=
  h.keep (Tn.of_below (F := fun _ => False) hb) (fun _ _ _ _ h => h) hR
/-- What lies below B stays through all that is done from B on. -/
theorem ver_low {B : Nat} {w w' : World} (hb : Below B w w') {c : List Value} {x : Ver} (h : VerR (fun b => b < B) w c x) : VerR (fun b => b < B) w' c x := h.keep (fun b h _ => hb.block b h) (fun _ h _ => h)
set_option maxRecDepth 100000 in
set_option maxHeartbeats 2000000 in
theorem rwithout_any (S : Nat → Prop) (s : Int) {w : World} {v : Value} {L : List Ver} (h : VersAt S w v L) (hl : VsOk L) :
    Calls Tryz.prog 20 #[v, .int .i64 s] w fun e w' => ∃ v', e = .returned v' ∧ OwnOf 43 6 w.heap.size (VerR (fun b => b < w.heap.size)) w' v' (without s L) ∧ Below w.heap.size w w' := by
  obtain ⟨i0, hi, hz1, hz2, hz3⟩ := info_Ver
  have HV : RowKit.Hid (VersAt (fun b => b < w.heap.size) w v L) := Lib.hid (VersAt.keep h (fun _ _ _ => rfl) (fun _ _ h => h))
  obtain ⟨a, cap, rfl, -⟩ := h
  obtain ⟨n, hn⟩ : ∃ n, n = L.length := ⟨_, rfl⟩
  have hl1 : n ≤ 1000 := by rw [hn]; exact hl.1
  rw [← hn] at HV ⊢
  have HN := Lib.hid hn
  clear hn hl
  go_enter Tryz.func20, Tryz.ntmps20
  go_wp2_with fail
  go_loopw [5, 6] (fun o i wr => ∃ k : Nat, k ≤ n ∧ i = .int .i64 k ∧ Below w.heap.size w wr ∧ OwnOf 43 6 w.heap.size (VerR (fun b => b < w.heap.size)) wr o (without s (L.take k))) (fun _ i _ => n - (intOf i).toNat)
  case atStart => exact ⟨0, by omega, rfl, Below.refl _ _, OwnOf.nil _ _ _ _ _⟩
  case round =>
    obtain ⟨k, hk, rfl, hb, hO⟩ := hrel
    have HB := Lib.hid hb
    have HO := Lib.hid hO
    clear hb hO
    by_cases hlt : k < n
    · have hlx : k < L.length := by rw [← HN.out]; exact hlt
      obtain ⟨b, o, cap2, cs, e1, hSb, hbl, hR, hcl, hrg, hth⟩ := SlOf.range (by omega) (VersAt.keep HV.out (Stay.of_below HB.out) (fun _ h _ => h)) hlx
      have e2 : a = some ⟨b, o, none⟩ := by injection e1
      clear e1 hcl hth hbl hSb
      subst e2
      obtain ⟨x, hx⟩ : ∃ x, x = L[k] := ⟨_, rfl⟩
      rw [← hx] at hR
      have HR := Lib.hid hR
      obtain ⟨fa, fn, fc, rfl⟩ := hR.expl
      have HX := Lib.hid hx
      have HG := Lib.hid hrg
      obtain ⟨p0, p1, p2, p3, p4, p5⟩ := range6 hrg
      clear hx hrg hR p1 p2 p3 p4 p5
      by_cases hs : x.r.1 = s
      · have HE : RowKit.Hid (without s (L.take (k + 1)) = without s (L.take k)) := Lib.hid (by rw [without_take s L hlx, if_neg (by rw [← HX.out]; exact fun h => h hs)]; simp)
        go_wp2_with fail
        refine ⟨⟨k + 1, hlt, by go_num, HB.out, ?_⟩, by simp [intOf]; omega⟩
        rw [HE.out]; exact HO.out
      · have hne : (x.r.1 != s) = true := by simpa using hs
        have HE : RowKit.Hid (without s (L.take (k + 1)) = without s (L.take k) ++ [x]) := Lib.hid (by rw [without_take s L hlx, if_pos (by rw [← HX.out]; exact hs), HX.out])
        clear hs
        obtain ⟨css, hr, hA, hz⟩ := HO.out
        have hm : (without s (L.take k)).length ≤ 1000 := by
          have h1 : (without s (L.take k)).length ≤ (L.take k).length := List.length_filter_le _ _
          rw [List.length_take] at h1; omega
        have HA := Lib.hid hA
        have HZ := Lib.hid hz
        have HM := Lib.hid hm
        have HOW := Lib.hid hr
        clear hA hz hr hm
        go_wp2_with (first
          | refine wpList_load_mid rfl 43 (.tmp 24) rfl b (o + k * 6) rfl [.int .i64 x.r.1, .int .i64 x.r.2, .int .i64 x.num, .int .u8 x.kind, .int .u8 x.level, .slice fa fn fc] _ HG.out Tryz.underlying43 rfl (by kernel_rfl) ?_
          | (refine wpList_append_all rfl (.tmp 21) (.tmp 26) 24 rfl w.heap.size 43 i0 _ 6 56 Tryz.underlying24 hi hz1 hz2 hz3 rfl (by omega) _ (without s (L.take k)).length css.flatten rfl (HOW.out.alloc _) 1 [.int .i64 x.r.1, .int .i64 x.r.2, .int .i64 x.num, .int .u8 x.kind, .int .u8 x.level, .slice fa fn fc] _ rfl (src_row (row_fresh wr 0 _ 43 6 1 rfl (by unfold maxLen; omega) (Nat.zero_le _))) (one_ver _ _ _ _ HR.out) (by have := HM.out; unfold maxLen; omega) (by have := HM.out; omega) (by have := HB.out.size; simp; omega) ?_; intro v' w4 hr4 hg4 ho4; have HR4 := Lib.hid hr4; have HG4 := Lib.hid hg4; clear hr4 hg4 ho4))
        have HB4 : RowKit.Hid (Below w.heap.size wr w4) := Lib.hid (below_grown ((Below.refl _ _).alloc HB.out.size _) (by have := HB.out.size; simp; omega) HG4.out (fun r e => (HO.out.lt r e).1))
        refine ⟨⟨k + 1, hlt, by go_num, HB.out.trans HB4.out, ?_⟩, by simp [intOf]; omega⟩
        rw [HE.out]
        exact OwnOf.more (c := [[.int .i64 x.r.1, .int .i64 x.r.2, .int .i64 x.num, .int .u8 x.kind, .int .u8 x.level, .slice fa fn fc]]) (by simpa using HR4.out) (HA.out.mono fun c y h => ver_low HB4.out h) (All2.one (ver_low HB4.out HR.out)) HZ.out (by simp)
    · obtain rfl : k = n := by omega
      go_wp2_with fail
      go_ret
      refine ⟨_, rfl, ?_, HB.out⟩
      have := HO.out
      rw [HN.out, List.take_length] at this
      exact this
theorem insV_at (v : Ver) : ∀ (l : List Ver) (k : Nat), k ≤ l.length → (∀ j (h : j < l.length), j < k → ltR l[j].r v.r = true) → (∀ h : k < l.length, ltR l[k].r v.r = false) → insV v l = l.take k ++ v :: l.drop k
  | [], k, hk, _, _ => by
    obtain rfl : k = 0 := by simpa using hk
    rfl
  | y :: l, 0, _, _, h => by
    have := h (by simp)
    simp at this
    simp [insV, this]
  | y :: l, k + 1, hk, h1, h2 => by
    have e := h1 0 (by simp) (by omega)
    simp at e
    unfold insV
    rw [if_pos e, insV_at v l k (by simpa using hk) (fun j h hj => h1 (j + 1) (by simpa using h) (by omega)) (fun h => h2 (by simpa using h))]
    simp
theorem insV_len (v : Ver) : ∀ l : List Ver, (insV v l).length = l.length + 1
  | [] => rfl
  | y :: l => by unfold insV; split <;> simp [insV_len v l]
theorem latTo_len (l : List Ver) : ∀ n, (latTo l n).length ≤ n
  | 0 => by simp [latTo]
  | n + 1 => by
    have := latTo_len l n
    unfold latTo; split
    · rw [insV_len]; omega
    · omega
set_option maxRecDepth 100000 in
set_option maxHeartbeats 4000000 in
theorem rlatestB_any {B : Nat} {w : World} {v : Value} {L : List Ver} (hB : B ≤ w.heap.size) (h : VersAt (fun b => b < B) w v L) (hl : VsOk L) :
    Calls Tryz.prog 18 #[v] w fun e w' => ∃ v', e = .returned v' ∧ OwnOf 43 6 w.heap.size (VerR (fun b => b < B)) w' v' (latest L) ∧ Below w.heap.size w w' := by
  obtain ⟨i0, hi, hz1, hz2, hz3⟩ := info_Ver
  have HV := Lib.hid h
  have HBB := Lib.hid hB
  clear hB
  obtain ⟨a, cap, rfl, -⟩ := h
  obtain ⟨n, hn⟩ : ∃ n, n = L.length := ⟨_, rfl⟩
  have hl1 : n ≤ 1000 := by rw [hn]; exact hl.1
  rw [← hn] at HV ⊢
  have HN := Lib.hid hn
  have HL := Lib.hid hl
  clear hn hl
  go_enter Tryz.func18, Tryz.ntmps18
  go_wp2_with fail
  go_loopw [3, 4] (fun o i wr => ∃ k : Nat, k ≤ n ∧ i = .int .i64 k ∧ Below w.heap.size w wr ∧ OwnOf 43 6 w.heap.size (VerR (fun b => b < B)) wr o (latTo L k)) (fun _ i _ => n - (intOf i).toNat)
  case atStart => exact ⟨0, by omega, rfl, Below.refl _ _, OwnOf.nil _ _ _ _ _⟩
  case round =>
    obtain ⟨k, hk, rfl, hb, hO⟩ := hrel
    have HB := Lib.hid hb
    have HO := Lib.hid hO
    clear hb hO
    by_cases hlt : k < n
    · have hlx : k < L.length := by rw [← HN.out]; exact hlt
      have HVr : RowKit.Hid (VersAt (fun b => b < B) wr (.slice a n cap) L) := Lib.hid (VersAt.keep HV.out (Stay.of_below HB.out) (fun _ h _ => h))
      go_wp2_with fail
      refine (counts_any _ k HVr.out (by rw [← HN.out]; omega) hlx).mono ?_
      rintro e w2 ⟨bb, rfl, hcnt, hb2⟩
      have B2 := Lib.hid hb2
      have HCN := Lib.hid hcnt
      have HO2 := Lib.hid (HO.out.up hb2 fun c x h => h.keep (Stay.of_below hb2) (fun _ h _ => h))
      have HB2 : RowKit.Hid (Below w.heap.size w w2) := Lib.hid (HB.out.trans (hb2.mono HB.out.size))
      have HV2 : RowKit.Hid (VersAt (fun b => b < B) w2 (.slice a n cap) L) := Lib.hid (VersAt.keep HVr.out (Stay.of_below hb2) (fun _ h _ => h))
      clear hb2 hcnt
      have HE : RowKit.Hid (latTo L (k + 1) = if bb = true then insV L[k]! (latTo L k) else latTo L k) := Lib.hid (by
        rw [latTo]
        by_cases hc : Cnt L k
        · rw [if_pos hc, if_pos (HCN.out.2 hc)]
        · rw [if_neg hc, if_neg (fun h => hc (HCN.out.1 h))])
      cases bb with
      | false =>
        go_wp2_with fail
        refine ⟨⟨k + 1, hlt, by go_num, HB2.out, ?_⟩, by simp [intOf]; omega⟩
        rw [HE.out, if_neg (by simp)]; exact HO2.out
      | true =>
        obtain ⟨M, hM⟩ : ∃ M, M = latTo L k := ⟨_, rfl⟩
        obtain ⟨m, hm⟩ : ∃ m, m = M.length := ⟨_, rfl⟩
        have hm1 : m ≤ 1000 := by have := latTo_len L k; rw [hm, hM]; omega
        rw [← hM] at HO2 HE
        have HM := Lib.hid hM
        obtain ⟨b, o, cap2, cs, e1, hSb, hbl, hR, hcl, hrg, hth⟩ := SlOf.range (by omega) HV2.out hlx
        have e2 : a = some ⟨b, o, none⟩ := by injection e1
        clear e1 hcl hth hbl hSb
        subst e2
        obtain ⟨x, hx⟩ : ∃ x, x = L[k] := ⟨_, rfl⟩
        rw [← hx] at hR
        have HX : RowKit.Hid (L[k]! = x) := Lib.hid (by rw [hx, getElem!_pos L k hlx])
        have HR := Lib.hid hR
        obtain ⟨fa, fn, fc, rfl⟩ := hR.expl
        have HG := Lib.hid hrg
        obtain ⟨p0, p1, p2, p3, p4, p5⟩ := range6 hrg
        have HSL := HO2.out.sl
        obtain ⟨oa, oc, hoe, hoc, -⟩ := HSL
        obtain ⟨css, hrow, hA, hz⟩ := HO2.out
        rw [hoe, ← hm] at hrow
        have HOE := Lib.hid hoe
        have HOW := Lib.hid hrow
        have HA := Lib.hid hA
        have HZ := Lib.hid hz
        have HCL : RowKit.Hid (css.length = m) := Lib.hid (by rw [hm]; exact hA.length)
        have HON : RowKit.Hid (∀ u ∈ css.flatten, u.oneCell' = true) := Lib.hid (one_flat (fun c y h => one_ver _ _ c y h) hA)
        have HOC : RowKit.Hid (m ≤ oc) := Lib.hid (by rw [hm]; exact hoc)
        have hoc' : m ≤ oc := HOC.out
        have HSP : RowKit.Hid (∀ ad, oa = some ad → ad.spot = none) := Lib.hid fun ad e => by
          obtain ⟨a', c', e', _, _, _, ⟨_, _, h⟩ | ⟨g, h, _⟩⟩ := row_cellz hrow
          · injection e' with e'; rw [e', h] at e; cases e
          · injection e' with e'; rw [e', h] at e; injection e with e; rw [← e]
        have HMN := Lib.hid hm
        clear hrg hR hx hA hz hrow hoc p2 p3 p4 p5 hM hm
        have HO3 : RowKit.Hid (SlOf 6 (fun b => (Value.slice oa m oc).ownBlock = some b) (VerR (fun b => b < B)) w2 (.slice oa m oc) M) := Lib.hid (by have := HO2.out.sl; rw [hoe, ← HMN.out] at this; exact this)
        rw [hoe, ← HMN.out]
        clear hoe
        go_wp2_with fail
        go_loopw [6] (fun i wx => ∃ at_ : Nat, at_ ≤ m ∧ i = .int .i64 at_ ∧ Below w2.heap.size w2 wx ∧ (∀ j (h : j < M.length), j < at_ → ltR M[j].r x.r = true)) (fun i _ => m - (intOf i).toNat)
        case atStart => exact ⟨0, by omega, rfl, Below.refl _ _, fun j _ h => by omega⟩
        case round =>
          obtain ⟨at_, hat, rfl, hbx, hlts⟩ := hrel
          have HBx := Lib.hid hbx
          have HLT := Lib.hid hlts
          clear hbx hlts
          by_cases hal : at_ < m
          · have halx : at_ < M.length := by rw [← HMN.out]; exact hal
            obtain ⟨b2, o2, cap3, cs2, e1, hS2, hbl2, hR2, hcl2, hrg2, hth2⟩ := SlOf.range (by omega) HO3.out halx
            have e2 : oa = some ⟨b2, o2, none⟩ := by injection e1
            clear e1 hcl2 hth2 hS2 hbl2
            subst e2
            obtain ⟨y, hy⟩ : ∃ y, y = M[at_] := ⟨_, rfl⟩
            rw [← hy] at hR2
            have HY := Lib.hid hy
            obtain ⟨ga, gn, gc, rfl⟩ := hR2.expl
            obtain ⟨q0, q1, -, -, -, -⟩ := range6 hrg2
            have q0' := Below.cellE HBx.out q0
            have q1' := Below.cellE HBx.out q1
            have p0' := Below.cellE HBx.out p0
            have p1' := Below.cellE HBx.out p1
            obtain ⟨lb, hlb⟩ : ∃ lb, lb = ltR y.r x.r := ⟨_, rfl⟩
            have HLB := Lib.hid hlb
            have HLR : RowKit.Hid (∀ q, Calls Tryz.prog 24 #[.agg #[.int .i64 y.r.1, .int .i64 y.r.2], .agg #[.int .i64 x.r.1, .int .i64 x.r.2]] (over wr q) fun e w' => e = .returned (.bool lb) ∧ Below (over wr q).heap.size (over wr q) w') := Lib.hid fun q => by rw [hlb]; exact lessRec_any y.r x.r _
            clear hrg2 hR2 hy hlb
            go_wp2_with fail
            refine wp_region_over (by kernel_rfl) (by kernel_rfl) ?_
            repeat (first | go_big_quiet_step (first | (go_at_call 24; with_reducible exact inOver (HLR.out _))))
            refine wpQuiet_nil ?_
            rintro _ ⟨nq, rfl⟩
            have HBy : RowKit.Hid (Below w2.heap.size w2 (over wr nq)) := Lib.hid (HBx.out.trans ((below_over wr nq).mono HBx.out.size))
            clear q0 q1 q0' q1' p0' p1' HLR
            cases lb with
            | true =>
              go_wp2_with fail
              refine ⟨⟨at_ + 1, hal, by go_num, HBy.out, fun j h hj => ?_⟩, by simp [intOf]; omega⟩
              by_cases e : j = at_
              · subst e; rw [← HY.out]; exact HLB.out.symm
              · exact HLT.out j h (by omega)
            | false =>
              have HGE : RowKit.Hid (∀ h : at_ < M.length, ltR M[at_].r x.r = false) := Lib.hid fun h => by rw [← HY.out]; exact HLB.out.symm
              obtain ⟨wz, hwz⟩ : ∃ wz, wz = over wr nq := ⟨_, rfl⟩
              rw [← hwz] at HBy ⊢
              clear hwz
              have HIN : RowKit.Hid (insV x M = M.take at_ ++ x :: M.drop at_) := Lib.hid (insV_at x M at_ (by rw [← HMN.out]; omega) HLT.out HGE.out)
              have ON : RowKit.Hid (∀ d : List (List Value), (∀ c ∈ d, c ∈ css) → ∀ u ∈ d.flatten, u.oneCell' = true) := Lib.hid fun d hd u hu => by
                obtain ⟨c, hc, hu⟩ := List.mem_flatten.1 hu
                exact HON.out u (List.mem_flatten.2 ⟨c, hd c hc, hu⟩)
              have TK := Lib.hid (flat_take (z := 6) HZ.out at_ (by rw [HCL.out]; omega))
              have DR := Lib.hid (flat_drop (z := 6) HZ.out at_ (by rw [HCL.out]; omega))
              have S0 : RowKit.Hid (Src wz 6 m css.flatten (.slice (some ⟨b2, o2, none⟩) m oc)) := Lib.hid (src_row ((Tn.of_below (F := fun _ => False) HBy.out).row HOW.out (fun _ _ h => h)))
              have G0 : RowKit.Hid (wz.rangeAt b (o + k * 6) [.int .i64 x.r.1, .int .i64 x.r.2, .int .i64 x.num, .int .u8 x.kind, .int .u8 x.level, .slice fa fn fc]) := Lib.hid fun j u hj => Below.cellE HBy.out (HG.out j u hj)
              have Z0 := HBy.out.size
              have Z1 := HB2.out.size
              have HLT' := Lib.hid HLT.out
              go_wp2_with (first
                | refine wpList_load_mid rfl 43 (.tmp 47) rfl b (o + k * 6) rfl [.int .i64 x.r.1, .int .i64 x.r.2, .int .i64 x.num, .int .u8 x.kind, .int .u8 x.level, .slice fa fn fc] _ G1.out Tryz.underlying43 rfl (by kernel_rfl) ?_
                | (refine wpList_cut_to rfl (.tmp 40) (.tmp 41) 24 rfl Tryz.underlying24 (z := 6) (by kernel_rfl) (some ⟨b2, o2, none⟩) m oc rfl at_ rfl (by omega) (by omega) ?_; intro y5 hy5; have HY5 := Lib.hid hy5; clear hy5)
                | (refine wpList_cut_from rfl (.tmp 52) (.tmp 53) 24 rfl Tryz.underlying24 (z := 6) (by kernel_rfl) (some ⟨b2, o2, none⟩) m oc rfl at_ rfl (by omega) HOC.out HSP.out ?_; intro y7 hy7; have HY7 := Lib.hid hy7; clear hy7)
                | (refine wpList_append_all rfl (.tmp 39) (.tmp 42) 24 rfl w.heap.size 43 i0 _ 6 56 Tryz.underlying24 hi hz1 hz2 hz3 rfl (by omega) _ 0 [] rfl (World.ownsRow_nil _ _ _ _) at_ (css.flatten.take (at_ * 6)) _ rfl (HY5.out _ _ S0.out) (by rw [TK.out]; exact ON.out _ (fun c hc => List.mem_of_mem_take hc)) (by unfold maxLen; omega) (by omega) (by omega) ?_
                   intro v5 w5 hr5 hg5 ho5
                   have B5 : RowKit.Hid (Below w.heap.size wz w5) := Lib.hid (below_grown (Below.refl _ _) (by omega) hg5 (fun r e => by cases e))
                   have T5 : RowKit.Hid (Below wz.heap.size wz w5) := Lib.hid (below_grown (Below.refl _ _) (by omega) hg5 (fun r e => by cases e))
                   have R5 := Lib.hid hr5
                   have G1 : RowKit.Hid (w5.rangeAt b (o + k * 6) [.int .i64 x.r.1, .int .i64 x.r.2, .int .i64 x.num, .int .u8 x.kind, .int .u8 x.level, .slice fa fn fc]) := Lib.hid fun j u hj => Below.cellE T5.out (G0.out j u hj)
                   have O5 : RowKit.Hid (∀ r, v5.ownBlock = some r → wz.heap.size ≤ r) := Lib.hid fun r e => by
                     rcases ho5 with h | h
                     · rw [h] at e; cases e
                     · rw [h] at e; injection e with e; omega
                   have Z5 := T5.out.size
                   clear hr5 hg5 ho5)
                | (refine wpList_append_all rfl (.tmp 44) (.tmp 49) 24 rfl w.heap.size 43 i0 _ 6 56 Tryz.underlying24 hi hz1 hz2 hz3 rfl (by omega) _ (0 + at_) _ rfl (R5.out.alloc _) 1 [.int .i64 x.r.1, .int .i64 x.r.2, .int .i64 x.num, .int .u8 x.kind, .int .u8 x.level, .slice fa fn fc] _ rfl (src_row (row_fresh w5 0 _ 43 6 1 rfl (by unfold maxLen; omega) (Nat.zero_le _))) (one_ver _ _ _ _ HR.out) (by unfold maxLen; omega) (by omega) (by simp; omega) ?_
                   intro v6 w6 hr6 hg6 ho6
                   have T6 : RowKit.Hid (Below wz.heap.size wz w6) := Lib.hid (below_grown (T5.out.alloc Z5 _) (by simp; omega) hg6 (fun r e => O5.out r e))
                   have R6 := Lib.hid hr6
                   have O6 : RowKit.Hid (∀ r, v6.ownBlock = some r → wz.heap.size ≤ r) := Lib.hid fun r e => by
                     rcases ho6 with h | h
                     · rw [h] at e; exact O5.out r e
                     · rw [h] at e; injection e with e; simp at e; omega
                   have S6 := Lib.hid (S0.out.below T6.out)
                   have Z6 := T6.out.size
                   clear hr6 hg6 ho6)
                | (refine wpList_append_all rfl (.tmp 51) (.tmp 54) 24 rfl w.heap.size 43 i0 _ 6 56 Tryz.underlying24 hi hz1 hz2 hz3 rfl (by omega) _ (0 + at_ + 1) _ rfl R6.out (m - at_) (css.flatten.drop (at_ * 6)) _ rfl (HY7.out _ _ S6.out) (by rw [DR.out]; exact ON.out _ (fun c hc => List.mem_of_mem_drop hc)) (by unfold maxLen; omega) (by omega) (by omega) ?_
                   intro v7 w7 hr7 hg7 ho7
                   have T7 : RowKit.Hid (Below wz.heap.size wz w7) := Lib.hid (below_grown T6.out (by omega) hg7 (fun r e => O6.out r e))
                   have R7 := Lib.hid hr7
                   clear hr7 hg7 ho7))
              have T72 : RowKit.Hid (Below w.heap.size w2 w7) := Lib.hid ((HBy.out.mono Z1).trans (T7.out.mono (by omega)))
              refine ⟨⟨k + 1, hlt, by go_num, HB2.out.trans T72.out, ?_⟩, by simp [intOf]; omega⟩
              rw [HE.out]
              simp only [if_true]
              rw [HX.out, HIN.out]
              refine ⟨css.take at_ ++ [[.int .i64 x.r.1, .int .i64 x.r.2, .int .i64 x.num, .int .u8 x.kind, .int .u8 x.level, .slice fa fn fc]] ++ css.drop at_, ?_, ?_, ?_⟩
              · have e1 : (M.take at_ ++ x :: M.drop at_).length = 0 + at_ + 1 + (m - at_) := by have := HMN.out; simp; omega
                have e2 := R7.out
                rw [TK.out, DR.out] at e2
                rw [e1]
                simpa using e2
              · have h1 := HA.out.mono (fun c y h => ver_low (T72.out.mono HBB.out) h)
                have h2 := ((h1.take at_).app (All2.one (ver_low (T72.out.mono HBB.out) HR.out))).app (h1.drop at_)
                simpa using h2
              · intro d hd
                rcases List.mem_append.1 hd with hd | hd
                · rcases List.mem_append.1 hd with hd | hd
                  · exact HZ.out d (List.mem_of_mem_take hd)
                  · rw [List.mem_singleton.1 hd]; rfl
                · exact HZ.out d (List.mem_of_mem_drop hd)
          · have HGE : RowKit.Hid (∀ h : at_ < M.length, ltR M[at_].r x.r = false) := Lib.hid fun h => by have := HMN.out; omega
            have HIN : RowKit.Hid (insV x M = M.take at_ ++ x :: M.drop at_) := Lib.hid (insV_at x M at_ (by rw [← HMN.out]; omega) HLT.out HGE.out)
            have ON : RowKit.Hid (∀ d : List (List Value), (∀ c ∈ d, c ∈ css) → ∀ u ∈ d.flatten, u.oneCell' = true) := Lib.hid fun d hd u hu => by
              obtain ⟨c, hc, hu⟩ := List.mem_flatten.1 hu
              exact HON.out u (List.mem_flatten.2 ⟨c, hd c hc, hu⟩)
            have TK := Lib.hid (flat_take (z := 6) HZ.out at_ (by rw [HCL.out]; omega))
            have DR := Lib.hid (flat_drop (z := 6) HZ.out at_ (by rw [HCL.out]; omega))
            have S0 : RowKit.Hid (Src wr 6 m css.flatten (.slice oa m oc)) := Lib.hid (src_row ((Tn.of_below (F := fun _ => False) HBx.out).row HOW.out (fun _ _ h => h)))
            have G0 : RowKit.Hid (wr.rangeAt b (o + k * 6) [.int .i64 x.r.1, .int .i64 x.r.2, .int .i64 x.num, .int .u8 x.kind, .int .u8 x.level, .slice fa fn fc]) := Lib.hid fun j u hj => Below.cellE HBx.out (HG.out j u hj)
            have Z0 := HBx.out.size
            have Z1 := HB2.out.size
            have HLT' := Lib.hid HLT.out
            go_wp2_with (first
              | refine wpList_load_mid rfl 43 (.tmp 47) rfl b (o + k * 6) rfl [.int .i64 x.r.1, .int .i64 x.r.2, .int .i64 x.num, .int .u8 x.kind, .int .u8 x.level, .slice fa fn fc] _ G1.out Tryz.underlying43 rfl (by kernel_rfl) ?_
              | (refine wpList_cut_to rfl (.tmp 40) (.tmp 41) 24 rfl Tryz.underlying24 (z := 6) (by kernel_rfl) oa m oc rfl at_ rfl (by omega) (by omega) ?_; intro y5 hy5; have HY5 := Lib.hid hy5; clear hy5)
              | (refine wpList_cut_from rfl (.tmp 52) (.tmp 53) 24 rfl Tryz.underlying24 (z := 6) (by kernel_rfl) oa m oc rfl at_ rfl (by omega) HOC.out HSP.out ?_; intro y7 hy7; have HY7 := Lib.hid hy7; clear hy7)
              | (refine wpList_append_all rfl (.tmp 39) (.tmp 42) 24 rfl w.heap.size 43 i0 _ 6 56 Tryz.underlying24 hi hz1 hz2 hz3 rfl (by omega) _ 0 [] rfl (World.ownsRow_nil _ _ _ _) at_ (css.flatten.take (at_ * 6)) _ rfl (HY5.out _ _ S0.out) (by rw [TK.out]; exact ON.out _ (fun c hc => List.mem_of_mem_take hc)) (by unfold maxLen; omega) (by omega) (by omega) ?_
                 intro v5 w5 hr5 hg5 ho5
                 have B5 : RowKit.Hid (Below w.heap.size wr w5) := Lib.hid (below_grown (Below.refl _ _) (by omega) hg5 (fun r e => by cases e))
                 have T5 : RowKit.Hid (Below wr.heap.size wr w5) := Lib.hid (below_grown (Below.refl _ _) (by omega) hg5 (fun r e => by cases e))
                 have R5 := Lib.hid hr5
                 have G1 : RowKit.Hid (w5.rangeAt b (o + k * 6) [.int .i64 x.r.1, .int .i64 x.r.2, .int .i64 x.num, .int .u8 x.kind, .int .u8 x.level, .slice fa fn fc]) := Lib.hid fun j u hj => Below.cellE T5.out (G0.out j u hj)
                 have O5 : RowKit.Hid (∀ r, v5.ownBlock = some r → wr.heap.size ≤ r) := Lib.hid fun r e => by
                   rcases ho5 with h | h
                   · rw [h] at e; cases e
                   · rw [h] at e; injection e with e; omega
                 have Z5 := T5.out.size
                 clear hr5 hg5 ho5)
              | (refine wpList_append_all rfl (.tmp 44) (.tmp 49) 24 rfl w.heap.size 43 i0 _ 6 56 Tryz.underlying24 hi hz1 hz2 hz3 rfl (by omega) _ (0 + at_) _ rfl (R5.out.alloc _) 1 [.int .i64 x.r.1, .int .i64 x.r.2, .int .i64 x.num, .int .u8 x.kind, .int .u8 x.level, .slice fa fn fc] _ rfl (src_row (row_fresh w5 0 _ 43 6 1 rfl (by unfold maxLen; omega) (Nat.zero_le _))) (one_ver _ _ _ _ HR.out) (by unfold maxLen; omega) (by omega) (by simp; omega) ?_
                 intro v6 w6 hr6 hg6 ho6
                 have T6 : RowKit.Hid (Below wr.heap.size wr w6) := Lib.hid (below_grown (T5.out.alloc Z5 _) (by simp; omega) hg6 (fun r e => O5.out r e))
                 have R6 := Lib.hid hr6
                 have O6 : RowKit.Hid (∀ r, v6.ownBlock = some r → wr.heap.size ≤ r) := Lib.hid fun r e => by
                   rcases ho6 with h | h
                   · rw [h] at e; exact O5.out r e
                   · rw [h] at e; injection e with e; simp at e; omega
                 have S6 := Lib.hid (S0.out.below T6.out)
                 have Z6 := T6.out.size
                 clear hr6 hg6 ho6)
              | (refine wpList_append_all rfl (.tmp 51) (.tmp 54) 24 rfl w.heap.size 43 i0 _ 6 56 Tryz.underlying24 hi hz1 hz2 hz3 rfl (by omega) _ (0 + at_ + 1) _ rfl R6.out (m - at_) (css.flatten.drop (at_ * 6)) _ rfl (HY7.out _ _ S6.out) (by rw [DR.out]; exact ON.out _ (fun c hc => List.mem_of_mem_drop hc)) (by unfold maxLen; omega) (by omega) (by omega) ?_
                 intro v7 w7 hr7 hg7 ho7
                 have T7 : RowKit.Hid (Below wr.heap.size wr w7) := Lib.hid (below_grown T6.out (by omega) hg7 (fun r e => O6.out r e))
                 have R7 := Lib.hid hr7
                 clear hr7 hg7 ho7))
            have T72 : RowKit.Hid (Below w.heap.size w2 w7) := Lib.hid ((HBx.out.mono Z1).trans (T7.out.mono (by omega)))
            refine ⟨⟨k + 1, hlt, by go_num, HB2.out.trans T72.out, ?_⟩, by simp [intOf]; omega⟩
            rw [HE.out]
            simp only [if_true]
            rw [HX.out, HIN.out]
            refine ⟨css.take at_ ++ [[.int .i64 x.r.1, .int .i64 x.r.2, .int .i64 x.num, .int .u8 x.kind, .int .u8 x.level, .slice fa fn fc]] ++ css.drop at_, ?_, ?_, ?_⟩
            · have e1 : (M.take at_ ++ x :: M.drop at_).length = 0 + at_ + 1 + (m - at_) := by have := HMN.out; simp; omega
              have e2 := R7.out
              rw [TK.out, DR.out] at e2
              rw [e1]
              simpa using e2
            · have h1 := HA.out.mono (fun c y h => ver_low (T72.out.mono HBB.out) h)
              have h2 := ((h1.take at_).app (All2.one (ver_low (T72.out.mono HBB.out) HR.out))).app (h1.drop at_)
              simpa using h2
            · intro d hd
              rcases List.mem_append.1 hd with hd | hd
              · rcases List.mem_append.1 hd with hd | hd
                · exact HZ.out d (List.mem_of_mem_take hd)
                · rw [List.mem_singleton.1 hd]; rfl
              · exact HZ.out d (List.mem_of_mem_drop hd)
    · obtain rfl : k = n := by omega
      go_wp2_with fail
      go_ret
      refine ⟨_, rfl, ?_, HB.out⟩
      have := HO.out
      rw [HN.out] at this
      exact this
theorem rlatest_any (S : Nat → Prop) {w : World} {v : Value} {L : List Ver} (h : VersAt S w v L) (hl : VsOk L) :
    Calls Tryz.prog 18 #[v] w fun e w' => ∃ v', e = .returned v' ∧ OwnOf 43 6 w.heap.size (VerR (fun b => b < w.heap.size)) w' v' (latest L) ∧ Below w.heap.size w w' :=
  rlatestB_any (Nat.le_refl _) (VersAt.keep h (fun _ _ _ => rfl) (fun _ _ h => h)) hl
end Go.Proofs.YtpdldbapagchfaaGreatDoor

/- Texts and tags of the reference. -/
namespace Go.Proofs.YtpdldbapagchfaaGreatDoor
open Go.RowKit Go.Shelf Go.Maps

theorem tmod_mod (a b : Int) (h0 : 0 < b) : (a.tmod b + b).tmod b = a % b := by
  have := Int.lt_tmod_of_pos a h0
  rw [Int.tmod_eq_emod_of_nonneg (by omega)]
  rw [Int.add_emod_right, Int.tmod_eq_emod]
  split
  · simp
  · have hn : (b.natAbs : Int) = b := by omega
    rw [hn, Int.sub_emod]; simp
theorem mod_any (a b : Int) (w : World) (h0 : 0 < b) (h1 : b ≤ 1000000) :
    Calls Tryz.prog 30 #[.int .i64 a, .int .i64 b] w fun e w' => e = .returned (.int .i64 (a % b)) ∧ w = w' := by
  have hb : ¬ b = 0 := by omega
  have hw : IntKind.i64.wrap (a.tmod b + b) = a.tmod b + b := by
    have := Int.tmod_lt_of_pos a h0
    have := Int.lt_tmod_of_pos a h0
    rw [IntKind.wrap_i64]; omega
  have hq := tmod_mod a b h0
  have H := Lib.hid hw
  have Q := Lib.hid hq
  clear hq
  go_enter Tryz.func30, Tryz.ntmps30
  go_wp2_with fail
  go_ret
  exact ⟨ret_int Q.out, rfl⟩
def textL : List ByteArray := [⟨#[69, 109, 109, 97]⟩, ⟨#[84, 104, 101, 32, 115, 101, 97]⟩, ⟨#[195, 156, 98, 101, 114, 32, 100, 101, 110, 32, 70, 108, 117, 195, 159]⟩, ⟨#[87, 97, 114, 32, 97, 110, 100, 32, 112, 101, 97, 99, 101]⟩, ⟨#[119, 97, 114, 32, 38, 32, 80, 69, 65, 67, 69]⟩, ⟨#[65, 117, 115, 116, 101, 110, 44, 32, 74, 97, 110, 101]⟩, ⟨#[84, 111, 108, 115, 116, 111, 121]⟩, ⟨#[49, 57, 56, 52]⟩, ⟨#[57, 55, 56, 48, 51, 48, 54, 52, 48, 54, 49, 53, 55]⟩, ⟨#[48, 51, 48, 54, 52, 48, 54, 49, 53, 50]⟩, ⟨#[76, 111, 110, 100, 111, 110]⟩, ⟨#[83, 101, 97, 32, 115, 116, 111, 114, 105, 101, 115]⟩, ⟨#[65]⟩, ⟨#[]⟩, ⟨#[69, 109, 109, 97, 32, 97, 110, 100, 32, 116, 104, 101, 32, 115, 101, 97]⟩, ⟨#[49, 57, 57, 57]⟩, ⟨#[99, 49, 57, 57, 57, 46]⟩, ⟨#[82, 105, 118, 101, 114, 115]⟩, ⟨#[79, 99, 101, 97, 110, 115, 32, 45, 45, 32, 72, 105, 115, 116, 111, 114, 121]⟩, ⟨#[112, 101, 97, 99, 101]⟩]
def textP (n : Int) : ByteArray := textL.getD (n % 20).toNat ⟨#[]⟩
theorem textP_mem (n : Int) : textP n ∈ textL := by
  have h2 : (n % 20).toNat < textL.length := by show _ < 20; omega
  unfold textP
  rw [getD_get _ _ h2]; exact List.getElem_mem _
theorem textL_small : ∀ s ∈ textL, s.size ≤ 20 := by decide +kernel
theorem textP_small (n : Int) : (textP n).size ≤ 20 := textL_small _ (textP_mem n)
set_option maxRecDepth 100000 in
set_option maxHeartbeats 1000000 in
theorem text_any (n : Int) (w : World) : Calls Tryz.prog 46 #[.int .i64 n] w fun e w' => e = .returned (.string (textP n)) ∧ Below w.heap.size w w' := by
  obtain ⟨W1, hW1⟩ : ∃ W1, W1 = w.alloc (.cells #[.string ⟨#[69, 109, 109, 97]⟩, .string ⟨#[84, 104, 101, 32, 115, 101, 97]⟩, .string ⟨#[195, 156, 98, 101, 114, 32, 100, 101, 110, 32, 70, 108, 117, 195, 159]⟩, .string ⟨#[87, 97, 114, 32, 97, 110, 100, 32, 112, 101, 97, 99, 101]⟩, .string ⟨#[119, 97, 114, 32, 38, 32, 80, 69, 65, 67, 69]⟩, .string ⟨#[65, 117, 115, 116, 101, 110, 44, 32, 74, 97, 110, 101]⟩, .string ⟨#[84, 111, 108, 115, 116, 111, 121]⟩, .string ⟨#[49, 57, 56, 52]⟩, .string ⟨#[57, 55, 56, 48, 51, 48, 54, 52, 48, 54, 49, 53, 55]⟩, .string ⟨#[48, 51, 48, 54, 52, 48, 54, 49, 53, 50]⟩, .string ⟨#[76, 111, 110, 100, 111, 110]⟩, .string ⟨#[83, 101, 97, 32, 115, 116, 111, 114, 105, 101, 115]⟩, .string ⟨#[65]⟩, .string ⟨#[]⟩, .string ⟨#[69, 109, 109, 97, 32, 97, 110, 100, 32, 116, 104, 101, 32, 115, 101, 97]⟩, .string ⟨#[49, 57, 57, 57]⟩, .string ⟨#[99, 49, 57, 57, 57, 46]⟩, .string ⟨#[82, 105, 118, 101, 114, 115]⟩, .string ⟨#[79, 99, 101, 97, 110, 115, 32, 45, 45, 32, 72, 105, 115, 116, 111, 114, 121]⟩, .string ⟨#[112, 101, 97, 99, 101]⟩] 9) := ⟨_, rfl⟩
  have B1 : RowKit.Hid (Below w.heap.size w W1) := Lib.hid (by rw [hW1]; exact (Below.refl _ _).alloc (Nat.le_refl _) _)
  obtain ⟨j, hj⟩ : ∃ j : Nat, n % 20 = j := ⟨(n % 20).toNat, by omega⟩
  have hj1 : j < 20 := by omega
  have cj : W1.cell? ⟨w.heap.size, j, none⟩ = some (.string (textP n)) := by
    have h1 : Blk W1 w.heap.size (textL.map Value.string).toArray 9 := by rw [hW1]; exact Blk.new _ _ _
    rw [h1.cell j]
    have h2 : (n % 20).toNat = j := by omega
    have h3 : j < textL.length := hj1
    unfold textP
    rw [h2, getD_get _ _ h3]
    simp [h3]
  have HJ := Lib.hid hj
  have HM := Lib.hid (fun w' => mod_any n 20 w' (by omega) (by omega))
  clear hj
  obtain ⟨s, hs⟩ : ∃ s, s = textP n := ⟨_, rfl⟩
  rw [← hs] at cj ⊢
  clear hs
  go_enter Tryz.func46, Tryz.ntmps46
  go_wp2_with fail
  rw [← hW1]
  clear hW1
  refine (HM.out _).mono ?_
  rintro e w2 ⟨rfl, rfl⟩
  rw [HJ.out]
  go_wp2_with fail
  go_ret
  exact ⟨rfl, B1.out⟩
def tagL : List ByteArray := [⟨#[48, 48, 49]⟩, ⟨#[50, 52, 53]⟩, ⟨#[49, 48, 48]⟩, ⟨#[48, 50, 48]⟩, ⟨#[54, 53, 48]⟩, ⟨#[55, 48, 48]⟩, ⟨#[50, 54, 48]⟩, ⟨#[53, 48, 48]⟩, ⟨#[57, 48, 48]⟩, ⟨#[57, 52, 57]⟩, ⟨#[48, 48, 56]⟩, ⟨#[50, 52, 54]⟩, ⟨#[54, 48, 48]⟩, ⟨#[49, 49, 48]⟩, ⟨#[52, 57, 48]⟩, ⟨#[48, 48, 51]⟩, ⟨#[57, 122, 57]⟩, ⟨#[50, 52]⟩, ⟨#[57, 57, 57]⟩, ⟨#[48]⟩]
def tagP (n : Int) : ByteArray := tagL.getD (n % 20).toNat ⟨#[]⟩
theorem tagP_mem (n : Int) : tagP n ∈ tagL := by
  have h2 : (n % 20).toNat < tagL.length := by show _ < 20; omega
  unfold tagP
  rw [getD_get _ _ h2]; exact List.getElem_mem _
theorem tagL_small : ∀ s ∈ tagL, s.size ≤ 20 := by decide +kernel
theorem tagP_small (n : Int) : (tagP n).size ≤ 20 := tagL_small _ (tagP_mem n)
set_option maxRecDepth 100000 in
set_option maxHeartbeats 1000000 in
theorem tag_any (n : Int) (w : World) : Calls Tryz.prog 45 #[.int .i64 n] w fun e w' => e = .returned (.string (tagP n)) ∧ Below w.heap.size w w' := by
  obtain ⟨W1, hW1⟩ : ∃ W1, W1 = w.alloc (.cells #[.string ⟨#[48, 48, 49]⟩, .string ⟨#[50, 52, 53]⟩, .string ⟨#[49, 48, 48]⟩, .string ⟨#[48, 50, 48]⟩, .string ⟨#[54, 53, 48]⟩, .string ⟨#[55, 48, 48]⟩, .string ⟨#[50, 54, 48]⟩, .string ⟨#[53, 48, 48]⟩, .string ⟨#[57, 48, 48]⟩, .string ⟨#[57, 52, 57]⟩, .string ⟨#[48, 48, 56]⟩, .string ⟨#[50, 52, 54]⟩, .string ⟨#[54, 48, 48]⟩, .string ⟨#[49, 49, 48]⟩, .string ⟨#[52, 57, 48]⟩, .string ⟨#[48, 48, 51]⟩, .string ⟨#[57, 122, 57]⟩, .string ⟨#[50, 52]⟩, .string ⟨#[57, 57, 57]⟩, .string ⟨#[48]⟩] 9) := ⟨_, rfl⟩
  have B1 : RowKit.Hid (Below w.heap.size w W1) := Lib.hid (by rw [hW1]; exact (Below.refl _ _).alloc (Nat.le_refl _) _)
  obtain ⟨j, hj⟩ : ∃ j : Nat, n % 20 = j := ⟨(n % 20).toNat, by omega⟩
  have hj1 : j < 20 := by omega
  have cj : W1.cell? ⟨w.heap.size, j, none⟩ = some (.string (tagP n)) := by
    have h1 : Blk W1 w.heap.size (tagL.map Value.string).toArray 9 := by rw [hW1]; exact Blk.new _ _ _
    rw [h1.cell j]
    have h2 : (n % 20).toNat = j := by omega
    have h3 : j < tagL.length := hj1
    unfold tagP
    rw [h2, getD_get _ _ h3]
    simp [h3]
  have HJ := Lib.hid hj
  have HM := Lib.hid (fun w' => mod_any n 20 w' (by omega) (by omega))
  clear hj
  obtain ⟨s, hs⟩ : ∃ s, s = tagP n := ⟨_, rfl⟩
  rw [← hs] at cj ⊢
  clear hs
  go_enter Tryz.func45, Tryz.ntmps45
  go_wp2_with fail
  rw [← hW1]
  clear hW1
  refine (HM.out _).mono ?_
  rintro e w2 ⟨rfl, rfl⟩
  rw [HJ.out]
  go_wp2_with fail
  go_ret
  exact ⟨rfl, B1.out⟩
end Go.Proofs.YtpdldbapagchfaaGreatDoor
