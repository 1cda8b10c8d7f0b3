/- The contract of cheapen: no negative circle is left. -/
import Derived.Test.YtpcmppamkgkdlaaSK
import Derived.Deep.LoopGhost
namespace Go.Proofs.Ytpcmppamkgkdlaa
open Go.RowKit Go.Shelf

set_option maxRecDepth 100000 in
set_option maxHeartbeats 4000000 in
theorem cheapen_any {P : Prob} (hP : Fits P) (s : SL) {cp wn : Nat → Option Nat} (hm : Mat P cp) (hc : Con cp wn) (w : World) (h : SM P s w cp wn) :
    Calls Try.prog 26 #[pt s.sb] w (CheapenE P s cp w) := by
  have hn1 := hP.n
  have HP := Lib.hid hP
  have HM := Lib.hid hm
  have HC := Lib.hid hc
  have H := Lib.hid h
  obtain ⟨i0, hi, hz0, hz1, hz2⟩ := info_parts info3
  have HI0 := Lib.hid (And.intro hi (And.intro hz0 (And.intro hz1 hz2)))
  clear hP hm hc h hi hz0 hz1 hz2
  go_enter Try.func26, Try.ntmps26
  go_wp2_with fail
  go_loopg [2] (P.tot cp).toNat (fun k u wr => ∃ cp' wn', SM P s wr cp' wn' ∧ Tn s.F w wr ∧ Mat P cp' ∧ Con cp' wn' ∧ Same cp cp' ∧ k = (P.tot cp').toNat)
  case atStart => exact ⟨cp, wn, H.out, Tn.refl _ _, HM.out, HC.out, Same.refl _, rfl⟩
  case round =>
    obtain ⟨wo, rfl⟩ : ∃ wo : World, wo = wr := ⟨_, rfl⟩
    obtain ⟨cq, wq, hS, hT, hm, hc, hs, hk⟩ := hrel
    have S1 := Lib.hid hS
    have T1 := Lib.hid hT
    have M1 := Lib.hid hm
    have C1 := Lib.hid hc
    have A1 := Lib.hid hs
    have K1 := Lib.hid hk
    clear hS hT hm hc hs hk
    go_wp2_with fail
    have KE := Lib.hid (edges_any HP.out s cq wq wo 0 (Nat.zero_le _) M1.out S1.out)
    refine KE.out.mono ?_
    rintro e w1 ⟨ev, rfl, hev, hb1⟩
    have EV := Lib.hid hev
    have B1 := Lib.hid hb1
    have S2 := Lib.hid (S1.out.below hb1)
    clear hev hb1 KE
    go_wp2_with fail
    have KP := Lib.hid (paths_any HP.out s cq wq w1 none (edL P 0 cq wq) ev wo.heap.size (fun a h => by cases h) (edges_ok HP.out M1.out C1.out) EV.out S2.out)
    refine KP.out.mono ?_
    rintro e w2 ⟨cb, bb, k, hk, rfl, hB, hcb, hbb, hb2, hend⟩
    have B2 : RowKit.Hid (Below wo.heap.size wo w2) := Lib.hid (B1.out.trans (hb2.mono B1.out.size))
    have S3 := Lib.hid (S2.out.below hb2)
    have HBM := Lib.hid hB
    have hz1 := B1.out.size
    clear hB hb2 KP EV
    obtain ⟨R, hR⟩ : ∃ R, R = rounds (edL P 0 cq wq) none (k + 1) := ⟨_, rfl⟩
    rw [← hR] at HBM hend ⊢
    have HRR := Lib.hid hR
    clear hR
    cases hch : R.chg with
    | none =>
      have HFIN : RowKit.Hid (CheapenE P s cp w (.returned (.tuple #[])) w2) := Lib.hid ⟨cq, wq, rfl, S3.out, T1.out.trans (Tn.of_below B2.out), M1.out, C1.out, A1.out, _, pot_of (edL_edges M1.out C1.out) M1.out C1.out k (by rw [← HRR.out]; exact hch)⟩
      rw [show oi none = -1 from rfl]
      clear hch hend
      go_wp2_with fail
      refine bodyPost_ret (results_none rfl _ _ _) rfl ?_
      exact HFIN.out
    | some v =>
      rw [show oi (some v) = (v : Int) from rfl]
      obtain rfl : k = P.n := by
        rcases hend with h | h
        · rw [hch] at h; cases h
        · omega
      obtain ⟨x0, q, hr⟩ := ring_of HP.out M1.out C1.out (by rw [← HRR.out]; exact hch)
      rw [← HRR.out] at hr
      have HR := Lib.hid hr
      have hv1 : ((v : Int) == -1) = false := by simp
      have s2 : w2.cell? ⟨s.sb, 2, none⟩ = some (.int .i64 P.n) := S3.out.blk.cell 2
      have hq0 := hr.hq
      have hqN := hr.qN
      clear hr hch hend hk
      go_wp2_with fail
      go_loop [4, 23] (fun a x => ∃ i : Nat, i ≤ P.n + 1 ∧ x = .int .i64 i ∧ a = .int .i64 (itr R.pre i v : Nat)) (fun _ x => P.n + 1 - (intOf x).toNat)
      case atStart => exact ⟨0, by omega, rfl, rfl⟩
      case round =>
        obtain ⟨i, hi, rfl, rfl⟩ := hrel
        by_cases hlt : i < P.n + 1
        · have hx := HR.out.lt i (by omega)
          have b0 : w2.cell? ⟨bb, itr R.pre i v, none⟩ = some (.int .i64 (itr R.pre (i + 1) v : Nat)) := by
            rw [HBM.out.bef.cellE (arr_get _ hx), HR.out.back i hlt]; rfl
          obtain ⟨y0, hy0⟩ : ∃ y0, y0 = itr R.pre i v := ⟨_, rfl⟩
          obtain ⟨y1, hy1⟩ : ∃ y1, y1 = itr R.pre (i + 1) v := ⟨_, rfl⟩
          have HY1 := Lib.hid hy1
          rw [← hy0, ← hy1] at b0
          rw [← hy0] at hx ⊢
          clear hy0 hy1
          go_wp2_with fail
          exact ⟨⟨i + 1, by omega, by go_num, by rw [HY1.out]⟩, by simp [intOf]; omega⟩
        · obtain rfl : i = P.n + 1 := by omega
          rw [HR.out.e0]
          have hx := HR.out.lt2 0 (by omega)
          have b0 : w2.cell? ⟨bb, x0, none⟩ = some (.int .i64 (itr R.pre 1 x0 : Nat)) := by
            have h := HBM.out.bef.cellE (arr_get (fun k => Value.int .i64 (oi (R.bef k))) hx)
            have h2 := HR.out.back2 0 (by omega)
            have e : itr R.pre 0 x0 = x0 := rfl
            rw [e] at h h2
            rw [h, h2]; rfl
          obtain ⟨y1, hy1⟩ : ∃ y1, y1 = itr R.pre 1 x0 := ⟨_, rfl⟩
          have HY1 := Lib.hid hy1
          rw [← hy1] at b0
          have hx0 : x0 < P.n + 1 := hx
          have W3 := Lib.hid (row_one (B := w2.heap.size) (Blk.new w2 #[.int .i64 (x0 : Int)] 3) (Nat.le_refl _))
          have hbl := HBM.out.bef.lt
          have b1 : (w2.alloc (.cells #[.int .i64 (x0 : Int)] 3)).cell? ⟨bb, x0, none⟩ = some (.int .i64 (y1 : Int)) := (((Below.refl w2.heap.size w2).alloc (Nat.le_refl _) _).cell (p := ⟨bb, x0, none⟩) hbl).trans b0
          clear hy1 hx hlt hi
          go_wp2_with fail
          obtain ⟨gb, hgb⟩ : ∃ gb, gb = w2.heap.size := ⟨_, rfl⟩
          obtain ⟨w3, hw3⟩ : ∃ w3, w3 = w2.alloc (.cells #[.int .i64 (x0 : Int)] 3) := ⟨_, rfl⟩
          have B3 : RowKit.Hid (Below w2.heap.size w2 w3) := Lib.hid (by rw [hw3]; exact (Below.refl _ _).alloc (Nat.le_refl _) _)
          rw [← hw3, ← hgb] at W3 ⊢
          have HGB : RowKit.Hid (gb = w2.heap.size) := Lib.hid hgb
          clear hgb hw3 b0 b1
          go_loopw [5, 6] (fun a x wr => ∃ (i : Nat) (lv : Value), 1 ≤ i ∧ i ≤ q ∧ x = .int .i64 (itr R.pre i x0 : Nat) ∧ a = lv ∧ wr.ownsRow gb 3 1 lv i ((xs R.pre x0 i).map (Value.int .i64)) ∧ Below w2.heap.size w2 wr) (fun a _ _ => q - (match a with | .slice _ n _ => n | _ => 0))
          case atStart => exact ⟨1, _, Nat.le_refl _, hq0, by rw [HY1.out], rfl, W3.out, B3.out⟩
          case round =>
            obtain ⟨i, lv, hi1, hiq, rfl, rfl, hrow, hb⟩ := hrel
            have R4 := Lib.hid hrow
            have B4 := Lib.hid hb
            have hzz := hb.size
            clear hrow hb
            obtain ⟨a5, c5, rfl, -⟩ := row_cell R4.out
            have M4 := Lib.hid (HBM.out.below B4.out)
            have hxi := HR.out.lt2 i hiq
            by_cases hlt : i < q
            · have hne : itr R.pre i x0 ≠ x0 := HR.out.apart i (by omega) hlt
              have b0 : wr.cell? ⟨bb, itr R.pre i x0, none⟩ = some (.int .i64 (itr R.pre (i + 1) x0 : Nat)) := by
                rw [M4.out.bef.cellE (arr_get _ hxi), HR.out.back2 i hlt]; rfl
              have XS := Lib.hid (xs_succ R.pre x0 i)
              obtain ⟨z0, hz0⟩ : ∃ z0, z0 = itr R.pre i x0 := ⟨_, rfl⟩
              obtain ⟨z1, hz1⟩ : ∃ z1, z1 = itr R.pre (i + 1) x0 := ⟨_, rfl⟩
              have HZ1 := Lib.hid hz1
              rw [← hz0, ← hz1] at b0
              rw [← hz0] at hxi hne XS ⊢
              clear hz0 hz1
              have hne1 : ((z0 : Int) != (x0 : Int)) = true := by simp; omega
              have hne2 : (z0 != x0) = true := by simpa using hne
              obtain ⟨hi, hi0, hi1', hi2⟩ := HI0.out
              have hgb1 := HGB.out
              have hgb2 : gb ≤ wr.heap.size := by omega
              have hbl2 : bb < gb := by have := HBM.out.bef.lt; omega
              clear hne hgb1
              go_wp2_with (at_builtin; go_must (refine wpList_append_own_at _ rfl (.tmp 43) (.tmp 45) 30 rfl gb 3 i0 (.int .i64 0) 1 8 Try.underlying30 hi hi0 hi1' hi2 rfl (by decide) _ i _ rfl (R4.out.alloc _) ⟨wr.heap.size, 0, none⟩ 1 1 [.int .i64 (z0 : Int)] rfl rfl (news_ wr _ 3) (one_ rfl) (by unfold maxLen; omega) (by omega) (by simp; omega) ?_))
              intro v' w5 hown hgrow _ hloc
              have T5 : RowKit.Hid (Tn (fun b => gb ≤ b) wr w5) := Lib.hid (((Tn.refl (fun b => gb ≤ b) wr).alloc (.cells #[.int .i64 (z0 : Int)] 3)).then_ (Tn.of_grown hgrow) fun b hb => .inl (row_lt R4.out b hb).1)
              have c5 : w5.cell? ⟨bb, z0, none⟩ = some (.int .i64 (z1 : Int)) := T5.out.cell b0 (by show ¬ gb ≤ bb; omega)
              have B5 : RowKit.Hid (Below w2.heap.size w2 w5) := Lib.hid (B4.out.trans (T5.out.below hzz fun b hb => by have := HGB.out; omega))
              have R5 : RowKit.Hid (w5.ownsRow gb 3 1 v' (i + 1) ((xs R.pre x0 (i + 1)).map (Value.int .i64))) := Lib.hid (by rw [XS.out, List.map_append]; exact hown)
              obtain ⟨a6, c6, rfl, -⟩ := row_cell R5.out
              clear hown hgrow hloc b0 hi hi0 hi1' hi2
              go_wp2_with fail
              exact ⟨⟨i + 1, _, by omega, by omega, by rw [HZ1.out], rfl, R5.out, B5.out⟩, by simp; omega⟩
            · obtain rfl : i = q := by omega
              have hcl : itr R.pre i x0 = x0 := HR.out.close
              rw [hcl]
              have hlen : i = (xs R.pre x0 i).length := (xs_len _ _ _).symm
              obtain ⟨a7, c7, hae, hO, hob⟩ := own_of_row (w := wr) (B := gb) (v := .slice a5 i c5) (D := xs R.pre x0 i) (by rw [← hlen]; exact R4.out)
              obtain ⟨rfl, rfl⟩ : a7 = a5 ∧ c7 = c5 := by injection hae with h1 h2 h3; exact ⟨h1.symm, h3.symm⟩
              have HO := Lib.hid hO
              have HL := Lib.hid hlen
              have HOB := Lib.hid hob
              clear hlen hae hO hob hcl hlt
              go_wp2_with fail
              have KR := Lib.hid (reverse_own a7 (xs R.pre x0 i) i c7 gb wr HO.out HL.out (by omega))
              refine KR.out.mono ?_
              rintro e w6 ⟨rfl, ho6, ht6⟩
              have hrl := row_lt R4.out
              have T6 : RowKit.Hid (Tn (fun b => gb ≤ b) wr w6) := Lib.hid (ht6.mono fun b ⟨o, e⟩ => (hrl b (HOB.out b o e)).1)
              have B6 : RowKit.Hid (Below w2.heap.size w2 w6) := Lib.hid (B4.out.trans (T6.out.below hzz fun b hb => by have := HGB.out; omega))
              have S6 := Lib.hid (S3.out.below B6.out)
              obtain ⟨g7, rfl, hg7, hcells⟩ := ho6.cells (by intro e; have := congrArg List.length e; simp [xs_len] at this; omega)
              have CA : RowKit.Hid (CAt w6 s g7 i (fun j => itr R.pre (i - 1 - j) x0)) := Lib.hid ⟨fun j hj => by rw [hcells j (by simp [xs_len]; exact hj), xs_rev _ _ _ hj], by have := S3.out.lt; have := HGB.out; omega⟩
              have KA := Lib.hid (apply_any HP.out s M1.out C1.out HR.out.circ (by omega) w6 g7 c7 CA.out S6.out)
              clear ho6 ht6 hrl hcells KR HO HL HOB
              go_wp2_with fail
              refine KA.out.mono ?_
              rintro e w7 ⟨wq', rfl, hS7, hC7, hT7⟩
              have S7 := Lib.hid hS7
              have C7 := Lib.hid hC7
              have T7 : RowKit.Hid (Tn s.F w w7) := Lib.hid ((T1.out.trans ((Tn.of_below B2.out).trans (Tn.of_below B6.out))).trans hT7)
              have M7 := Lib.hid (HR.out.circ.mat M1.out C1.out)
              have A7 : RowKit.Hid (Same cp (moved i (fun j => itr R.pre (i - 1 - j) x0) cq)) := Lib.hid (A1.out.trans (moved_same _ _ _))
              have KK : RowKit.Hid ((P.tot (moved i (fun j => itr R.pre (i - 1 - j) x0) cq)).toNat < gk) := Lib.hid (by
                have h1 := HR.out.neg
                have h2 := tot_nonneg HP.out (moved i (fun j => itr R.pre (i - 1 - j) x0) cq)
                rw [K1.out]; omega)
              clear hS7 hC7 hT7 KA
              go_wp2_with fail
              go_roundg (P.tot (moved i (fun j => itr R.pre (i - 1 - j) x0) cq)).toNat
              case rel => exact ⟨_, _, S7.out, T7.out, M7.out, C7.out, A7.out, rfl⟩
              case measure => exact KK.out
end Go.Proofs.Ytpcmppamkgkdlaa
