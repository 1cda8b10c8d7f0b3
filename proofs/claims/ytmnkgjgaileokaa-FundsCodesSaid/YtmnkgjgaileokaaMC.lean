import Derived.Test.YtmnkgjgaileokaaMB
import Derived.Test.YtmnkgjgaileokaaRC
import Derived.Test.YtmnkgjgaileokaaRF
import Derived.Test.YtmnkgjgaileokaaRL
import Derived.Test.YtmnkgjgaileokaaFP

/- The contract of Open. -/
namespace Go.Proofs.Ytmnkgjgaileokaa
open Go.RowKit Go.Shelf Go.Maps

/-- A list that makes funds. -/
structure GoodL (L : List Int) (n : Nat) : Prop where
  len : L.length = 5 * n
  most : n ≤ 10000
  ok : OkN L n
  ends : ∀ x ∈ (pvN L n).ids, EndAt (pvN L n).ids (pvN L n).pa x
/-- The funds of a list. -/
structure Opened (L : List Int) (n : Nat) (u : PV) : Prop where
  m : u.m = (pvN L n).m
  ids : u.ids = (pvN L n).ids
  pa : u.pa = (pvN L n).pa
  al : u.al = (pvN L n).al
  sp : u.sp = (pvN L n).sp
  en : u.en = (pvN L n).en
  kids : ∀ y ∈ (pvN L n).ids, u.kids y = (pvN L n).ids.filter fun z => (pvN L n).pa z == y
def OpenE (l : List UInt8) (w : World) (e : Ending) (w' : World) : Prop :=
  (∃ L n s, l = ints L ∧ AllIn L ∧ GoodL L n ∧ e = .returned (.tuple #[.pointer (some ⟨s.fb, 0, none⟩), .int .i64 0]) ∧ Mem w' s ∧ Opened L n s.pv ∧ (∀ b, b < w.heap.size → s.o b = .none) ∧ w.heap.size ≤ s.fb) ∨
  (e = .returned (.tuple #[.pointer none, .int .i64 11]) ∧ ∀ L n, l = ints L → AllIn L → ¬ GoodL L n)
theorem no_open {l : List UInt8} {L : List Int} {e : Ending} {w w' : World} (h : l = ints L) (hn : ∀ n, ¬ GoodL L n) (he : e = .returned (.tuple #[.pointer none, .int .i64 11])) : OpenE l w e w' :=
  .inr ⟨he, fun K n hK _ hG => by
    have : K = L := ints_inj (hK.symm.trans h)
    subst this
    exact hn n hG⟩
theorem okN_mono {L : List Int} {n : Nat} (h : OkN L n) : ∀ k, k ≤ n → OkN L k := by
  induction n with
  | zero => intro k hk; obtain rfl : k = 0 := by omega
            exact h
  | succ n ih =>
    intro k hk
    by_cases e : k = n + 1
    · subst e; exact h
    · exact ih h.1 k (by omega)
theorem no_row {L : List Int} {n k : Nat} (hl : L.length = 5 * n) (hk : k < n) (h : ¬ OkN L (k + 1)) (j : Nat) : ¬ GoodL L j := fun g => by
  have := g.len
  obtain rfl : j = n := by omega
  exact h (okN_mono g.ok (k + 1) (by omega))
theorem raw_of {s : FS} {L : List Int} {k : Nat} (hv : s.pv = pvN L k) (h : OkV (pvN L k) (lastN L k)) (hl : lastN L k ≤ 9223372036854775807) (hk : k ≤ 10000) : Raw s := by
  have h : OkV s.pv (lastN L k) := by rw [hv]; exact h
  have hlen : s.pv.ids.length = k := by rw [hv]; exact ids_len L k
  exact ⟨h.nd, fun x hx => by have := h.le x hx; omega, h.par, h.nok, by rw [show s.ids = s.pv.ids from rfl, hlen]; exact hk, h.srt⟩
theorem lastN_in {L : List Int} (h : AllIn L) : ∀ k, lastN L k ≤ 9223372036854775807
  | 0 => by show (0 : Int) ≤ _; omega
  | k + 1 => (at5_in h k 0).2
theorem opened_of {s s' : FS} {L : List Int} {n : Nat} {k : Nat} (hv : s.pv = pvN L n) (h : Lk s s' k) (hk : s.ids.length ≤ k) : Opened L n s'.pv := by
  have e : s.ids = (pvN L n).ids := congrArg PV.ids hv
  have e2 : s.pa = (pvN L n).pa := congrArg PV.pa hv
  refine ⟨h.m.trans (congrArg PV.m hv), h.ids.trans e, h.pa.trans e2, h.al.trans (congrArg PV.al hv), h.sp.trans (congrArg PV.sp hv), h.en.trans (congrArg PV.en hv), fun y hy => ?_⟩
  rw [← e] at hy ⊢
  rw [← e2]
  rw [show s'.pv.kids y = s'.kids y from rfl, h.kids y hy, List.take_of_length_le hk]
theorem putS_cells (s : FS) (x p a e f : Int) (b gn : Nat) : (s.putS x p a e f b gn).cells x = fcells x p a e f (.slice none 0 0) := by
  simp [FS.cells, FS.putS, upd]
set_option maxRecDepth 100000 in
set_option maxHeartbeats 4000000 in
theorem open_any (str : ByteArray) (w : World) (hs : str.size ≤ 1000000) : Calls Try.prog 34 #[.string str] w fun e w' => OpenE str.data.toList w e w' ∧ Below w.heap.size w w' := by
  go_enter Try.func34, Try.ntmps34
  go_wp2_with fail
  refine (creadints_any str w hs).mono ?_
  rintro e w1 ⟨hRi, hb⟩
  have B1 := Lib.hid hb
  clear hb
  rcases hRi with ⟨L, a, cap, rfl, hl, hIn, hI, hc1, hc2, -⟩ | ⟨c, rfl, hc, hno⟩
  rotate_left
  · have hq : (c != 0) = true := by simpa using hc
    have KE := Lib.hid (show OpenE str.data.toList w (.returned (.tuple #[.pointer none, .int .i64 11])) w1 from .inr ⟨rfl, fun L n h1 h2 _ => hno L h2 h1⟩)
    clear hc hno
    go_wp2_with fail
    go_ret2
    exact ⟨KE.out, B1.out⟩
  · have HL := Lib.hid hl
    have HIN := Lib.hid hIn
    have HI := Lib.hid hI
    clear hl hIn hI
    by_cases h5 : L.length % 5 = 0
    rotate_left
    · have hq : ((L.length : Int).tmod 5 != 0) = true := by rw [Int.tmod_eq_emod_of_nonneg (by omega)]; simp; omega
      have hq2 : ((L.length : Int) % 5 != 0) = true := by simp; omega
      have KE := Lib.hid (no_open (w := w) (w' := w1) HL.out (fun n g => by have := g.len; omega) rfl)
      clear h5
      go_wp2_with fail
      go_ret2
      exact ⟨KE.out, B1.out⟩
    · by_cases hbig : 10000 < L.length / 5
      · have hq2 : ((L.length : Int) % 5 != 0) = false := by simp; omega
        have hq3 : decide (10000 < (L.length : Int) / 5) = true := by simp; omega
        have KE := Lib.hid (no_open (w := w) (w' := w1) HL.out (fun n g => by have := g.len; have := g.most; omega) rfl)
        clear h5 hbig
        go_wp2_with fail
        go_ret2
        exact ⟨KE.out, B1.out⟩
      · have hq2 : ((L.length : Int) % 5 != 0) = false := by simp; omega
        have hq3 : decide (10000 < (L.length : Int) / 5) = false := by simp; omega
        obtain ⟨n, hn⟩ : ∃ n, L.length = 5 * n := ⟨L.length / 5, by omega⟩
        have hn1 : n ≤ 10000 := by omega
        have HN := Lib.hid hn
        have hnl : 5 * n ≤ L.length ∧ L.length ≤ 5 * n := by omega
        clear h5 hbig hn
        go_wp2_with fail
        refine (new_any w1).mono ?_
        rintro e w2 ⟨rfl, hM, hw⟩
        have S0 := Lib.hid (St.start hM hw)
        clear hM hw hq2 hq3
        generalize FS.new w1.heap.size = s0 at *
        go_wp2_with fail
        obtain ⟨n0, hn0⟩ : ∃ n0, n0 = w1.heap.size := ⟨_, rfl⟩
        rw [← hn0] at S0 ⊢
        have HN0 := Lib.hid hn0
        clear hn0
        go_loopw [7, 8] (fun lv i wr => ∃ (k : Nat) (s : FS), k ≤ n ∧ i = .int .i64 ((5 * k : Nat) : Int) ∧ lv = .int .i64 (lastN L k) ∧ St w1 n0 wr s (pvN L k) ∧ OkN L k) (fun _ i _ => 5 * n - (intOf i).toNat)
        case atStart => exact ⟨0, s0, by omega, rfl, rfl, S0.out, trivial⟩
        case round =>
          obtain ⟨k, s, hk, rfl, rfl, hS, hOk⟩ := hrel
          have S := Lib.hid hS
          have OK := Lib.hid hOk
          have HV := Lib.hid (okN_v HIN.out k hOk)
          clear hS hOk S0
          obtain ⟨K, hK⟩ : ∃ K, K = 5 * k := ⟨_, rfl⟩
          rw [← hK]
          by_cases hlt : k < n
          · have hLK : K + 4 < L.length := by omega
            obtain ⟨b, o, rfl, hbw, hcell⟩ : ∃ b o, a = some ⟨b, o, none⟩ ∧ b < w1.heap.size ∧ ∀ j, j < L.length → w1.cell? ⟨b, o + j, none⟩ = some (.int .i64 (L.getD j 0)) := by
              rcases HI.out with h | h
              · rw [h] at hLK; simp at hLK
              · exact h
            have hcw : ∀ j, j < L.length → wr.cell? ⟨b, o + j, none⟩ = some (.int .i64 (L.getD j 0)) := fun j hj => by
              rw [← hcell j hj]
              exact S.out.below.cell (p := ⟨b, o + j, none⟩) (by show b < n0; rw [HN0.out]; exact hbw)
            have g0 := hcw K (by omega)
            have g1 := hcw (K + 1) (by omega)
            have g2 := hcw (K + 2) (by omega)
            have g3 := hcw (K + 3) (by omega)
            have g4 := hcw (K + 4) (by omega)
            have e0 : L.getD K 0 = at5 L k 0 := by rw [hK]; rfl
            have e1 : L.getD (K + 1) 0 = at5 L k 1 := by rw [hK]; rfl
            have e2 : L.getD (K + 2) 0 = at5 L k 2 := by rw [hK]; rfl
            have e3 : L.getD (K + 3) 0 = at5 L k 3 := by rw [hK]; rfl
            have e4 : L.getD (K + 4) 0 = at5 L k 4 := by rw [hK]; rfl
            rw [e0] at g0
            rw [e1] at g1
            rw [e2] at g2
            rw [e3] at g3
            rw [e4] at g4
            have b0 := at5_in HIN.out k 0
            have b1 := at5_in HIN.out k 1
            have b2 := at5_in HIN.out k 2
            have b3 := at5_in HIN.out k 3
            have HNO := Lib.hid (fun (w' : World) h => no_open (w := w) (w' := w') (e := .returned (.tuple #[.pointer none, .int .i64 11])) HL.out (no_row HN.out hlt h) rfl)
            have HOK : RowKit.Hid (OkN L (k + 1) ↔ OkN L k ∧ rightN L k = true ∧ lastN L k < at5 L k 0 ∧ (pvN L k).m + at5 L k 2 ≤ 1000000000000000) := Lib.hid Iff.rfl
            have HPV : RowKit.Hid (pvN L (k + 1) = (pvN L k).put (at5 L k 0) (at5 L k 1) (at5 L k 2) (at5 L k 3) (at5 L k 4)) := Lib.hid rfl
            have HLA : RowKit.Hid (lastN L (k + 1) = at5 L k 0) := Lib.hid rfl
            have HRN : RowKit.Hid (rightN L k = rightB (at5 L k 0) (at5 L k 1) (at5 L k 2) (at5 L k 3) (at5 L k 4)) := Lib.hid rfl
            have HK := Lib.hid hK
            have hl9 := lastN_in HIN.out k
            have hl0 := lastN_nn k OK.out
            have S1 := Lib.hid (S.out.read (Below.refl _ wr).drew)
            have hids : s.ids.length = k := by have := ids_len L k; rw [← S.out.pv] at this; exact this
            have hmm : s.m = (pvN L k).m := congrArg PV.m S.out.pv
            have hm1 := HV.out.m1
            have hm0 := HV.out.m0
            have hle : ∀ x ∈ s.ids, x ≤ lastN L k := fun x hx => by
              have hx : x ∈ (pvN L k).ids := by rw [← S.out.pv]; exact hx
              exact (HV.out.le x hx).2
            have hle := Lib.hid hle
            rw [← hmm] at hm0 hm1 HOK
            generalize at5 L k 0 = x0 at *
            generalize at5 L k 1 = x1 at *
            generalize at5 L k 2 = x2 at *
            generalize at5 L k 3 = x3 at *
            generalize at5 L k 4 = x4 at *
            generalize lastN L k = la at *
            clear e0 e1 e2 e3 e4 hcw hcell hmm hK
            by_cases hgood : rightN L k = true ∧ la < x0
            · obtain ⟨hr, hlx⟩ := hgood
              rw [HRN.out] at hr
              have hr' := of_decide_eq_true hr
              have key := put_any (w := wr.drew) S1.out.mem x0 x1 x2 x3 x4 (fun h => by have := hle.out x0 h; omega) (by omega) (by omega) (by omega) (by omega) (by omega) (by omega) (by omega)
              rw [S.out.fb] at key
              have KEY := Lib.hid key
              have HR := Lib.hid hr
              clear key hr' hr
              have ww1 : IntKind.i64.wrap ((K : Int) + 1) = (K : Int) + 1 := IntWalk.i64_in _ (by omega)
              have v1 : 0 ≤ (K : Int) + 1 := by omega
              have u1 : ((K : Int) + 1).toNat = K + 1 := by omega
              have ww2 : IntKind.i64.wrap ((K : Int) + 2) = (K : Int) + 2 := IntWalk.i64_in _ (by omega)
              have v2 : 0 ≤ (K : Int) + 2 := by omega
              have u2 : ((K : Int) + 2).toNat = K + 2 := by omega
              have ww3 : IntKind.i64.wrap ((K : Int) + 3) = (K : Int) + 3 := IntWalk.i64_in _ (by omega)
              have v3 : 0 ≤ (K : Int) + 3 := by omega
              have u3 : ((K : Int) + 3).toNat = K + 3 := by omega
              have ww4 : IntKind.i64.wrap ((K : Int) + 4) = (K : Int) + 4 := IntWalk.i64_in _ (by omega)
              have v4 : 0 ≤ (K : Int) + 4 := by omega
              have u4 : ((K : Int) + 4).toNat = K + 4 := by omega
              have z1 : (K : Int) + 1 < (L.length : Int) := by omega
              have z2 : (K : Int) + 2 < (L.length : Int) := by omega
              have z3 : (K : Int) + 3 < (L.length : Int) := by omega
              have z4 : (K : Int) + 4 < (L.length : Int) := by omega
              go_wp2_with fail
              go_still_tail 26, (by kernel_rfl)
              go_wp2_with fail
              refine KEY.out.mono ?_
              rintro e w3 ⟨bb, gn, rfl, hM, hT, _, _⟩
              all_goals (
                clear ww1 ww2 ww3 ww4 v1 v2 v3 v4 u1 u2 u3 u4 z1 z2 z3 z4
                have S3 := Lib.hid (S1.out.step hM hT S.out.fb (show (s.putS x0 x1 x2 x3 x4 bb gn).pv = pvN L (k + 1) from by rw [HPV.out, ← S.out.pv]; rfl))
                have hF : Blk w3 gn (fcells x0 x1 x2 x3 x4 (.slice none 0 0)) 71 := by
                  have := hM.fund x0 (List.mem_append.2 (.inr (by simp)))
                  rw [show (s.putS x0 x1 x2 x3 x4 bb gn).g x0 = gn from if_pos rfl, putS_cells] at this
                  exact this
                have HF := Lib.hid hF
                have hm3 : (s.putS x0 x1 x2 x3 x4 bb gn).m = s.m + x2 := rfl
                clear hM hT
                generalize s.putS x0 x1 x2 x3 x4 bb gn = s3 at *
                have HM3 := Lib.hid hm3
                clear hm3 hF KEY S1
                go_wp2_with fail
                refine (right_any HF.out b2.1 b2.2 b3.1 b3.2).mono ?_
                rintro e w4 ⟨rfl, hb⟩
                have S4 := Lib.hid (S3.out.read hb)
                have HF4 := Lib.hid (HF.out.below hb HF.out.lt)
                rw [HR.out]
                clear hb S3 HF
                obtain ⟨q0, q1, q2, q3, q4, q5⟩ := fcellE HF4.out
                obtain ⟨d0, d1⟩ := S4.out.mem.fbc
                rw [S4.out.fb] at d0 d1
                rw [HM3.out] at d1
                have p1 : decide (x0 ≤ la) = false := by simp; omega
                by_cases hmost : s.m + x2 ≤ 1000000000000000
                · have p2 : decide (1000000000000000 < s.m + x2) = false := by simp; omega
                  have OK4 := Lib.hid (HOK.out.2 ⟨OK.out, by rw [HRN.out]; exact HR.out, hlx, hmost⟩)
                  clear hmost S
                  go_wp2_with fail
                  exact ⟨⟨k + 1, s3, by omega, vint (by rw [HK.out]; omega), by rw [HLA.out], S4.out, OK4.out⟩, by simp [intOf]; omega⟩
                · have p2 : decide (1000000000000000 < s.m + x2) = true := by simp; omega
                  have KE := Lib.hid (HNO.out w4 (fun h => hmost (HOK.out.1 h).2.2.2))
                  have B4 := Lib.hid (B1.out.trans (S4.out.below.mono (by rw [HN0.out]; exact B1.out.size)))
                  clear hmost S
                  go_wp2_with fail
                  go_ret2
                  exact ⟨KE.out, B4.out⟩)
            · have key := putb_any (w := wr.drew) S1.out.mem x0 x1 x2 x3 x4 (by omega) (by omega) (by omega)
              rw [S.out.fb] at key
              have KEY := Lib.hid key
              have hn0 : n0 ≤ wr.heap.size := by have := S.out.mem.fne; rw [S.out.fb] at this; omega
              have HNE := Lib.hid (fun h => hgood ⟨(HOK.out.1 h).2.1, (HOK.out.1 h).2.2.1⟩)
              clear key
              have ww1 : IntKind.i64.wrap ((K : Int) + 1) = (K : Int) + 1 := IntWalk.i64_in _ (by omega)
              have v1 : 0 ≤ (K : Int) + 1 := by omega
              have u1 : ((K : Int) + 1).toNat = K + 1 := by omega
              have ww2 : IntKind.i64.wrap ((K : Int) + 2) = (K : Int) + 2 := IntWalk.i64_in _ (by omega)
              have v2 : 0 ≤ (K : Int) + 2 := by omega
              have u2 : ((K : Int) + 2).toNat = K + 2 := by omega
              have ww3 : IntKind.i64.wrap ((K : Int) + 3) = (K : Int) + 3 := IntWalk.i64_in _ (by omega)
              have v3 : 0 ≤ (K : Int) + 3 := by omega
              have u3 : ((K : Int) + 3).toNat = K + 3 := by omega
              have ww4 : IntKind.i64.wrap ((K : Int) + 4) = (K : Int) + 4 := IntWalk.i64_in _ (by omega)
              have v4 : 0 ≤ (K : Int) + 4 := by omega
              have u4 : ((K : Int) + 4).toNat = K + 4 := by omega
              have z1 : (K : Int) + 1 < (L.length : Int) := by omega
              have z2 : (K : Int) + 2 < (L.length : Int) := by omega
              have z3 : (K : Int) + 3 < (L.length : Int) := by omega
              have z4 : (K : Int) + 4 < (L.length : Int) := by omega
              go_wp2_with fail
              go_still_tail 26, (by kernel_rfl)
              go_wp2_with fail
              refine KEY.out.mono ?_
              rintro e w3 ⟨gn, rfl, hF, hBB⟩
              all_goals (
                clear ww1 ww2 ww3 ww4 v1 v2 v3 v4 u1 u2 u3 u4 z1 z2 z3 z4
                have HF := Lib.hid hF
                have B3 := Lib.hid (S1.out.below.trans (hBB n0 hn0 S.out.own))
                clear hF hBB
                go_wp2_with fail
                refine (right_any HF.out b2.1 b2.2 b3.1 b3.2).mono ?_
                rintro e w4 ⟨rfl, hb⟩
                have HF4 := Lib.hid (HF.out.below hb HF.out.lt)
                have B4 := Lib.hid (B1.out.trans ((B3.out.trans (hb.mono (by have := S1.out.below.size; have := B3.out.size; have := HN0.out; omega))).mono (by rw [HN0.out]; exact B1.out.size)))
                have KE := Lib.hid (HNO.out w4 HNE.out)
                clear hb
                obtain ⟨q0, q1, q2, q3, q4, q5⟩ := fcellE HF4.out
                by_cases hr : rightB x0 x1 x2 x3 x4 = true
                · have p1 : decide (x0 ≤ la) = true := by
                    simp
                    rcases Int.lt_or_le la x0 with h | h
                    · exact absurd ⟨by rw [HRN.out]; exact hr, h⟩ hgood
                    · exact h
                  rw [hr]
                  clear hgood
                  go_wp2_with fail
                  go_ret2
                  exact ⟨KE.out, B4.out⟩
                · rw [Bool.not_eq_true] at hr
                  rw [hr]
                  clear hgood
                  go_wp2_with fail
                  go_ret2
                  exact ⟨KE.out, B4.out⟩)
          · obtain rfl : k = n := by omega
            have key := connect_any S.out.mem (raw_of S.out.pv HV.out (lastN_in HIN.out k) hn1)
            rw [S.out.fb] at key
            have KEY := Lib.hid key
            have hn0 : n0 ≤ wr.heap.size := by have := S.out.mem.fne; rw [S.out.fb] at this; omega
            have hids : s.ids.length = k := by have := ids_len L k; rw [← S.out.pv] at this; exact this
            have HIDS := Lib.hid hids
            clear key hlt hids
            go_wp2_with fail
            refine KEY.out.mono ?_
            rintro e w3 ⟨t, s', rfl, hM, hT, ht1, ht2⟩
            have B3 := Lib.hid (B1.out.trans ((S.out.below.trans (hT.below hn0 S.out.own)).mono (by rw [HN0.out]; exact B1.out.size)))
            cases t
            · have hne := ht2 rfl
              have KE := Lib.hid (no_open (w := w) (w' := w3) (e := .returned (.tuple #[.pointer none, .int .i64 11])) HL.out (fun j g => by
                have := g.len
                have hj : j = k := by have := HN.out; omega
                subst hj
                refine hne fun x hx => ?_
                have e1 : s.ids = (pvN L j).ids := congrArg PV.ids S.out.pv
                have e2 : s.pa = (pvN L j).pa := congrArg PV.pa S.out.pv
                rw [e1] at hx ⊢
                rw [e2]
                exact g.ends x hx) rfl)
              clear ht1 ht2 hne hM hT
              go_wp2_with fail
              go_ret2
              exact ⟨KE.out, B3.out⟩
            · obtain ⟨hL, hA⟩ := ht1 rfl
              have hfb : s'.fb = n0 := hL.fb.trans S.out.fb
              have KE : RowKit.Hid (OpenE str.data.toList w (.returned (.tuple #[.pointer (some ⟨n0, 0, none⟩), .int .i64 0])) w3) := Lib.hid (.inl ⟨L, k, s', HL.out, HIN.out, ⟨HN.out, hn1, OK.out, fun x hx => by
                have e1 : s.ids = (pvN L k).ids := congrArg PV.ids S.out.pv
                have e2 : s.pa = (pvN L k).pa := congrArg PV.pa S.out.pv
                rw [← e1] at hx ⊢
                rw [← e2]
                exact hA x hx⟩, by rw [hfb], hM, opened_of S.out.pv hL (Nat.le_refl _), fun b hb => hT.none b (by have := B1.out.size; have := HN0.out; omega) (S.out.own b (by have := B1.out.size; have := HN0.out; omega)), by rw [hfb, HN0.out]; exact B1.out.size⟩)
              clear ht1 ht2 hM hT hL hA
              go_wp2_with fail
              go_ret2
              exact ⟨KE.out, B3.out⟩
end Go.Proofs.Ytmnkgjgaileokaa

/- The reference's all and ends, at funds that are being opened. -/
namespace Go.Proofs.Ytmnkgjgaileokaa
open Go.RowKit

set_option maxRecDepth 100000 in
set_option maxHeartbeats 2000000 in
theorem rall_ok {w : World} {rb : Nat} {v : PV} {sl : Value} (h : RMem w rb v sl) (hs : v.m = (v.ids.map v.al).sum) (hnn : ∀ x ∈ v.ids, 0 ≤ v.al x) (hm0 : 0 ≤ v.m ∧ v.m ≤ 1000000000000000) :
    Calls Try.prog 65 #[.pointer (some ⟨rb, 0, none⟩)] w fun e w' => e = .returned (.int .i64 v.m) ∧ w = w' := by
  have hm : v.m = (v.sorted.map v.al).sum := by
    rw [hs]; exact (perm_sum ((List.mergeSort_perm v.ids leI).map v.al)).symm
  obtain ⟨a, cap, rfl, hc1, hc2⟩ := h.row.form
  have c0 : w.cell? ⟨rb, 0, none⟩ = some (.slice a v.sorted.length cap) := h.hd.cell 0
  have hz := h.hd.lt
  have HR := Lib.hid h.row
  have HNN : RowKit.Hid (∀ x ∈ v.sorted, 0 ≤ v.al x) := fun x hx => hnn x ((sorted_mem v x).1 hx)
  have hb0 := hm0
  have HB : RowKit.Hid ((v.sorted.map v.al).sum ≤ 1000000000000000) := by rw [← hm]; exact hb0.2
  rw [hm]
  clear h hm hb0 hs hnn hm0
  generalize v.sorted = S at *
  go_enter Try.func65, Try.ntmps65
  go_wp2_with fail
  go_loop [3, 4] (fun t i => ∃ k : Nat, k ≤ S.length ∧ i = .int .i64 k ∧ t = .int .i64 ((S.take k).map v.al).sum) (fun _ i => S.length - (intOf i).toNat)
  case atStart => exact ⟨0, by omega, rfl, by simp⟩
  case round =>
    obtain ⟨k, hk, rfl, rfl⟩ := hrel
    by_cases hkl : k < S.length
    · obtain ⟨g', cap', e, _, _, _, hB⟩ := HR.out.at_ k hkl
      cases e
      have b2 := hB.c2
      have hs := sum_step (g := v.al) S k hkl
      have h1 := sum_take (g := v.al) S (k + 1) HNN.out
      have h2 := sum_nonneg v.al (S.take k) (fun z hz => HNN.out z (List.mem_of_mem_take hz))
      have h3 := HNN.out _ (List.getElem_mem hkl)
      have h4 := HB.out
      rw [hs] at h1
      have HS := Lib.hid hs
      obtain ⟨A, hA⟩ : ∃ A, ((S.take k).map v.al).sum = A := ⟨_, rfl⟩
      obtain ⟨B, hB⟩ : ∃ B, v.al S[k] = B := ⟨_, rfl⟩
      rw [hA, hB] at h1 HS
      rw [hA] at h2
      rw [hB] at h3 b2
      rw [hA]
      have b5 : 0 ≤ A + B ∧ A + B ≤ 1000000000000000 := by omega
      clear hB hA hs h1 h4
      go_wp2_with fail
      go_round
      case rel => exact ⟨k + 1, by omega, by go_num, by rw [HS.out]⟩
      case measure => simp [intOf]; omega
    · obtain rfl : k = S.length := by omega
      go_wp2_with fail
      go_ret
      exact ⟨ret_int (by first | rfl | rw [List.take_length]), rfl⟩
/-- What ends returns. -/
def EndE (v : PV) (x : Int) (w : World) (e : Ending) (w' : World) : Prop := ∃ t : Bool, e = .returned (.bool t) ∧ (t = true ↔ EndAt v.ids v.pa x) ∧ w = w'
set_option maxRecDepth 100000 in
set_option maxHeartbeats 2000000 in
theorem ends_any {w : World} {rb : Nat} {v : PV} {sl : Value} (h : RMem w rb v sl) (hnd : v.sorted.Nodup) (hlen : v.ids.length ≤ 100000) (k : Nat) (hk : k < v.sorted.length) {x : Int} (hx : v.sorted[k] = x) :
    Calls Try.prog 66 #[.pointer (some ⟨rb, 0, none⟩), .int .i64 k] w (EndE v x w) := by
  have hsl : v.sorted.length = v.ids.length := sorted_len v
  have HM := Lib.hid h
  have HND := Lib.hid hnd
  have HX := Lib.hid hx
  obtain ⟨a, cap, rfl, hc1, hc2⟩ := h.row.form
  have c0 : w.cell? ⟨rb, 0, none⟩ = some (.slice a v.sorted.length cap) := h.hd.cell 0
  have hz := h.hd.lt
  have HS := Lib.hid hsl
  rw [hsl] at c0 hc1 hk
  clear h hnd hx hsl
  go_enter Try.func66, Try.ntmps66
  go_wp2_with fail
  go_loop [1, 5] (fun kv i => ∃ (n j : Nat) (y : Int), n ≤ v.ids.length + 1 ∧ i = .int .i64 n ∧ kv = .int .i64 j ∧ (∃ hj : j < v.sorted.length, v.sorted[j] = y) ∧ (EndAt v.ids v.pa x ↔ EndAt v.ids v.pa y) ∧ ∀ A, Path v.ids v.pa y A → n + A.length ≤ v.ids.length) (fun _ i => v.ids.length + 1 - (intOf i).toNat)
  case atStart => exact ⟨0, k, x, by omega, rfl, rfl, ⟨by rw [HS.out]; exact hk, HX.out⟩, Iff.rfl, fun A hA => by
    have hxm : x ∈ v.ids := (sorted_mem v x).1 (by rw [← HX.out]; exact List.getElem_mem _)
    have := hA.len hxm; omega⟩
  case round =>
    obtain ⟨n, j, y, hn, rfl, rfl, ⟨hj, hy⟩, hE, hP⟩ := hrel
    have HE := Lib.hid hE
    have HP := Lib.hid hP
    clear hE hP
    by_cases hlt : n ≤ v.ids.length
    · obtain ⟨g, cap', e, hg, _, _, hA⟩ := HM.out.row.at_ j hj
      rw [hy] at hA
      cases e
      have b1 := hA.c1
      have hym : y ∈ v.ids := (sorted_mem v y).1 (by rw [← hy]; exact List.getElem_mem hj)
      have HYM := Lib.hid hym
      have hjl : j < v.ids.length := by rw [← HS.out]; exact hj
      clear hA hy hym hj
      by_cases h0 : v.pa y = 0
      · have KE := Lib.hid (show EndE v x w (.returned (.bool true)) w from ⟨true, rfl, ⟨fun _ => HE.out.2 ⟨_, .root h0⟩, fun _ => rfl⟩, rfl⟩)
        rw [h0] at b1
        clear h0
        go_wp2_with fail
        go_ret
        exact KE.out
      · have hq : (v.pa y == 0) = false := by simpa using h0
        by_cases hp : v.pa y ∈ v.ids
        · obtain ⟨j', hj', hjy⟩ := sorted_idx hp
          have key := Lib.hid (find_yes HM.out HND.out j' hj' hjy)
          have HE2 : RowKit.Hid (EndAt v.ids v.pa x ↔ EndAt v.ids v.pa (v.pa y)) := Lib.hid (HE.out.trans (EndAt.of_par h0 hp))
          have HP2 : RowKit.Hid (∀ A, Path v.ids v.pa (v.pa y) A → n + 1 + A.length ≤ v.ids.length) := Lib.hid fun A hA => by
            have := HP.out _ (.up h0 hp hA)
            rw [List.length_cons] at this; omega
          have HJ : RowKit.Hid (∃ hj : j' < v.sorted.length, v.sorted[j'] = v.pa y) := Lib.hid ⟨hj', hjy⟩
          have hjl' : j' < v.ids.length := by rw [← HS.out]; exact hj'
          generalize v.pa y = z at *
          clear h0 hp hj' hjy
          go_wp2_with fail
          refine key.out.mono ?_
          rintro e w1 ⟨rfl, rfl⟩
          go_wp2_with fail
          exact ⟨⟨n + 1, j', z, by omega, by go_num, rfl, HJ.out, HE2.out, HP2.out⟩, by simp [intOf]; omega⟩
        · have key := Lib.hid (find_no HM.out (x := v.pa y) (fun h => hp ((sorted_mem v _).1 h)))
          have KE := Lib.hid (show EndE v x w (.returned (.bool false)) w from ⟨false, rfl, ⟨fun e => Bool.noConfusion e, fun h => by
            rcases (HE.out.1 h).par with h | h
            · exact absurd h h0
            · exact absurd h.1 hp⟩, rfl⟩)
          clear h0 hp
          go_wp2_with fail
          refine key.out.mono ?_
          rintro e w1 ⟨rfl, rfl⟩
          go_wp2_with fail
          go_ret
          exact KE.out
    · have KE := Lib.hid (show EndE v x w (.returned (.bool false)) w from ⟨false, rfl, ⟨fun e => Bool.noConfusion e, fun h => by
        obtain ⟨A, hA⟩ := HE.out.1 h
        have := HP.out A hA
        omega⟩, rfl⟩)
      go_wp2_with fail
      go_ret
      exact KE.out
end Go.Proofs.Ytmnkgjgaileokaa

/- The contract of the reference's Open. -/
namespace Go.Proofs.Ytmnkgjgaileokaa
open Go.RowKit Go.Shelf Go.Maps

def ROpenE (l : List UInt8) (w : World) (e : Ending) (w' : World) : Prop :=
  (∃ L n rb sl, l = ints L ∧ AllIn L ∧ GoodL L n ∧ e = .returned (.tuple #[.pointer (some ⟨rb, 0, none⟩), .int .i64 0]) ∧ RMem w' rb (pvN L n) sl ∧ w.heap.size ≤ rb ∧ ∀ r, sl.ownBlock = some r → w.heap.size ≤ r) ∨
  (e = .returned (.tuple #[.pointer none, .int .i64 11]) ∧ ∀ L n, l = ints L → AllIn L → ¬ GoodL L n)
theorem no_ropen {l : List UInt8} {L : List Int} {e : Ending} {w w' : World} (h : l = ints L) (hn : ∀ n, ¬ GoodL L n) (he : e = .returned (.tuple #[.pointer none, .int .i64 11])) : ROpenE l w e w' :=
  .inr ⟨he, fun K n hK _ hG => by
    have : K = L := ints_inj (hK.symm.trans h)
    subst this
    exact hn n hG⟩
/-- Where the walk stands. -/
structure RSt (n0 : Nat) (w0 wr : World) (rb : Nat) (v : PV) (sl : Value) : Prop where
  mem : RMem wr rb v sl
  bel : Below n0 w0 wr
  rb0 : n0 ≤ rb
  sl0 : ∀ r, sl.ownBlock = some r → n0 ≤ r
theorem RSt.below {n0 rb : Nat} {w0 w1 w2 : World} {v : PV} {sl : Value} (h : RSt n0 w0 w1 rb v sl) (hb : Below w1.heap.size w1 w2) : RSt n0 w0 w2 rb v sl :=
  ⟨h.mem.below hb, h.bel.trans (hb.mono (by have := h.mem.hd.lt; have := h.rb0; omega)), h.rb0, h.sl0⟩
theorem pv_step {L : List Int} {k : Nat} (hL : AllIn L) (h : OkN L (k + 1)) : (pvN L (k + 1)).sorted = (pvN L k).sorted ++ [at5 L k 0] ∧
    rowsOf (pvN L (k + 1)) ((pvN L k).sorted ++ [at5 L k 0]) = rowsOf (pvN L k) (pvN L k).sorted ++ [.int .i64 (at5 L k 0), .int .i64 (at5 L k 1), .int .i64 (at5 L k 2), .int .i64 (at5 L k 3), .int .i64 (at5 L k 4)] := by
  have h1 := (okN_v hL (k + 1) h).srt
  have h0 := (okN_v hL k h.1)
  have h2 := h0.srt
  refine ⟨by rw [h1, h2]; rfl, ?_⟩
  have hn : ∀ y ∈ (pvN L k).sorted, y ≠ at5 L k 0 := fun y hy e => by
    rw [h2] at hy
    have h3 := (h0.le y hy).2
    have h4 := h.2.2.1
    omega
  rw [rowsOf_snoc, rowsOf_congr (v := pvN L k) fun y hy => ?_]
  · congr 1
    show ([at5 L k 0, upd _ _ _ (at5 L k 0), upd _ _ _ (at5 L k 0), upd _ _ _ (at5 L k 0), upd _ _ _ (at5 L k 0)] : List Int).map (Value.int .i64) = _
    rw [upd_same, upd_same, upd_same, upd_same]; rfl
  · show [y, upd _ _ _ y, upd _ _ _ y, upd _ _ _ y, upd _ _ _ y] = (pvN L k).row5 y
    rw [upd_ne _ _ (hn y hy), upd_ne _ _ (hn y hy), upd_ne _ _ (hn y hy), upd_ne _ _ (hn y hy)]; rfl
theorem rst_step {w1 W5 w6 : World} {rb k rcap gg cap' : Nat} {ra : Option Addr} {v u : PV} {c0 c1 c2 c3 c4 : Value} {x0 : Int} (h : RSt rb w1 W5 rb v (.slice ra k rcap))
    (hg : (W5.alloc (.cells #[c0, c1, c2, c3, c4] 31)).drew.grownBy w6 (Value.slice ra k rcap).ownBlock) (hown : w6.ownsRow 0 31 5 (.slice (some ⟨gg, 0, none⟩) (k + 1) cap') (k + 1) (rowsOf v v.sorted ++ [c0, c1, c2, c3, c4]))
    (hat : (Value.slice ra k rcap).ownBlock = some gg ∨ gg = W5.heap.size + 1) (hk : v.sorted.length = k) (hu : u.sorted = v.sorted ++ [x0]) (hr : rowsOf u (v.sorted ++ [x0]) = rowsOf v v.sorted ++ [c0, c1, c2, c3, c4]) :
    RSt rb w1 (w6.setCell ⟨rb, 0, none⟩ (.slice (some ⟨gg, 0, none⟩) (k + 1) cap')) rb u (.slice (some ⟨gg, 0, none⟩) (k + 1) cap') := by
  have hrb := h.mem.hd.lt
  have hgr : rb ≤ gg := by
    rcases hat with e | e
    · exact h.sl0 gg e
    · omega
  have hne : gg ≠ rb := fun e => by
    rcases hat with e1 | e1
    · exact h.mem.ne (by rw [← e]; exact e1)
    · omega
  have hF := grow_blk5 ((h.mem.hd.alloc (.cells #[c0, c1, c2, c3, c4] 31)).drew) hg h.mem.ne
  have hB1 : Below rb w1 (W5.alloc (.cells #[c0, c1, c2, c3, c4] 31)).drew := (h.bel.alloc (by omega) _).drew
  have hB2 : Below rb w1 w6 := hB1.grown hg (by show rb ≤ (W5.alloc _).heap.size; rw [size_alloc]; omega) (fun j e => h.sl0 j e)
  refine ⟨⟨(hF.set 0 _).cast (by simp), ?_, fun e => hne (by simpa [Value.ownBlock] using e)⟩, hB2.setCell (p := ⟨rb, 0, none⟩) (Nat.le_refl _) _, Nat.le_refl _, fun r hr => ?_⟩
  rotate_left
  · have e : gg = r := by simpa [Value.ownBlock] using hr
    rw [← e]; exact hgr
  rw [hu]
  refine RRow.of_owns ?_
  rw [hr, List.length_append, hk]
  exact ownsB_same hown fun r hr => Below.heap_setCell _ ⟨rb, 0, none⟩ _ r (fun e => hne (by
    have : gg = r := by simpa [Value.ownBlock] using hr
    rw [this]; exact e))
set_option maxRecDepth 100000 in
set_option maxHeartbeats 4000000 in
theorem ropen_any (str : ByteArray) (w : World) (hs : str.size ≤ 1000000) : Calls Try.prog 35 #[.string str] w fun e w' => ROpenE str.data.toList w e w' ∧ Below w.heap.size w w' := by
  go_enter Try.func35, Try.ntmps35
  go_wp2_with fail
  refine (rreadints_any str w hs).mono ?_
  rintro e w1 ⟨hRi, hb⟩
  have B1 := Lib.hid hb
  clear hb
  rcases hRi with ⟨L, a, cap, rfl, hl, hIn, hI, hc1, hc2, -⟩ | ⟨c, rfl, hc, hno⟩
  rotate_left
  · have hq : (c != 0) = true := by simpa using hc
    have KE := Lib.hid (show ROpenE str.data.toList w (.returned (.tuple #[.pointer none, .int .i64 11])) w1 from .inr ⟨rfl, fun L n h1 h2 _ => hno L h2 h1⟩)
    clear hc hno
    go_wp2_with fail
    go_ret2
    exact ⟨KE.out, B1.out⟩
  · have HL := Lib.hid hl
    have HIN := Lib.hid hIn
    have HI := Lib.hid hI
    clear hl hIn hI
    by_cases h5 : L.length % 5 = 0
    rotate_left
    · have hq2 : ((L.length : Int) % 5 != 0) = true := by simp; omega
      have KE := Lib.hid (no_ropen (w := w) (w' := w1) HL.out (fun n g => by have := g.len; omega) rfl)
      clear h5
      go_wp2_with fail
      go_ret2
      exact ⟨KE.out, B1.out⟩
    · by_cases hbig : 10000 < L.length / 5
      · have hq2 : ((L.length : Int) % 5 != 0) = false := by simp; omega
        have hq3 : decide (10000 < (L.length : Int) / 5) = true := by simp; omega
        have KE := Lib.hid (no_ropen (w := w) (w' := w1) HL.out (fun n g => by have := g.len; have := g.most; omega) rfl)
        clear h5 hbig
        go_wp2_with fail
        go_ret2
        exact ⟨KE.out, B1.out⟩
      · have hq2 : ((L.length : Int) % 5 != 0) = false := by simp; omega
        have hq3 : decide (10000 < (L.length : Int) / 5) = false := by simp; omega
        obtain ⟨n, hn⟩ : ∃ n, L.length = 5 * n := ⟨L.length / 5, by omega⟩
        have hn1 : n ≤ 10000 := by omega
        have HN := Lib.hid hn
        have hnl : 5 * n ≤ L.length ∧ L.length ≤ 5 * n := by omega
        have S0 : RowKit.Hid (RSt w1.heap.size w1 (w1.alloc (.cells #[.slice none 0 0] 76)) w1.heap.size (pvN L 0) (.slice none 0 0)) := Lib.hid
          ⟨⟨Blk.new w1 _ 76, .inl ⟨rfl, (by show ([] : List Int).mergeSort leI = []; simp)⟩, by simp [Value.ownBlock]⟩, (Below.refl _ _).alloc (Nat.le_refl _) _, Nat.le_refl _, by simp [Value.ownBlock]⟩
        clear h5 hbig hn
        go_wp2_with fail
        obtain ⟨rb, hrb⟩ : ∃ rb, rb = w1.heap.size := ⟨_, rfl⟩
        generalize w1.alloc (.cells #[.slice none 0 0] 76) = w2 at *
        rw [← hrb] at S0 ⊢
        have HRB := Lib.hid hrb
        clear hrb hq2 hq3
        obtain ⟨i0, hi, hz0, hz1, hz2⟩ := info_parts info31
        have HI0 := Lib.hid (And.intro hi (And.intro hz0 (And.intro hz1 hz2)))
        clear hi hz0 hz1 hz2
        go_loopw [7] (fun i wr => ∃ (k : Nat) (sl : Value), k ≤ n ∧ i = .int .i64 ((5 * k : Nat) : Int) ∧ RSt rb w1 wr rb (pvN L k) sl ∧ OkN L k) (fun i _ => 5 * n - (intOf i).toNat)
        case atStart => exact ⟨0, _, by omega, rfl, S0.out, trivial⟩
        case round =>
          obtain ⟨k, sl, hk, rfl, hS, hOk⟩ := hrel
          have S := Lib.hid hS
          have OK := Lib.hid hOk
          have HV := Lib.hid (okN_v HIN.out k hOk)
          clear hS hOk S0
          obtain ⟨K, hK⟩ : ∃ K, K = 5 * k := ⟨_, rfl⟩
          rw [← hK]
          by_cases hlt : k < n
          · have hLK : K + 4 < L.length := by omega
            obtain ⟨b, o, rfl, hbw, hcell⟩ : ∃ b o, a = some ⟨b, o, none⟩ ∧ b < w1.heap.size ∧ ∀ j, j < L.length → w1.cell? ⟨b, o + j, none⟩ = some (.int .i64 (L.getD j 0)) := by
              rcases HI.out with h | h
              · rw [h] at hLK; simp at hLK
              · exact h
            have hcw : ∀ j, j < L.length → wr.cell? ⟨b, o + j, none⟩ = some (.int .i64 (L.getD j 0)) := fun j hj => by
              rw [← hcell j hj]
              exact S.out.bel.cell (p := ⟨b, o + j, none⟩) (by show b < rb; rw [HRB.out]; exact hbw)
            have g0 := hcw K (by omega)
            have g1 := hcw (K + 1) (by omega)
            have g2 := hcw (K + 2) (by omega)
            have g3 := hcw (K + 3) (by omega)
            have g4 := hcw (K + 4) (by omega)
            have e0 : L.getD K 0 = at5 L k 0 := by rw [hK]; rfl
            have e1 : L.getD (K + 1) 0 = at5 L k 1 := by rw [hK]; rfl
            have e2 : L.getD (K + 2) 0 = at5 L k 2 := by rw [hK]; rfl
            have e3 : L.getD (K + 3) 0 = at5 L k 3 := by rw [hK]; rfl
            have e4 : L.getD (K + 4) 0 = at5 L k 4 := by rw [hK]; rfl
            rw [e0] at g0
            rw [e1] at g1
            rw [e2] at g2
            rw [e3] at g3
            rw [e4] at g4
            have b0 := at5_in HIN.out k 0
            have b1 := at5_in HIN.out k 1
            have b2 := at5_in HIN.out k 2
            have b3 := at5_in HIN.out k 3
            have HNO := Lib.hid (fun (w' : World) h => no_ropen (w := w) (w' := w') (e := .returned (.tuple #[.pointer none, .int .i64 11])) HL.out (no_row HN.out hlt h) rfl)
            have HOK : RowKit.Hid (OkN L (k + 1) ↔ OkN L k ∧ rightN L k = true ∧ lastN L k < at5 L k 0 ∧ (pvN L k).m + at5 L k 2 ≤ 1000000000000000) := Lib.hid Iff.rfl
            have HRN : RowKit.Hid (rightN L k = rightB (at5 L k 0) (at5 L k 1) (at5 L k 2) (at5 L k 3) (at5 L k 4)) := Lib.hid rfl
            have HPV : RowKit.Hid (pvN L (k + 1) = (pvN L k).put (at5 L k 0) (at5 L k 1) (at5 L k 2) (at5 L k 3) (at5 L k 4)) := Lib.hid rfl
            have HK := Lib.hid hK
            have HPS := Lib.hid (fun h => pv_step (k := k) HIN.out h)
            have hbwr : b < wr.heap.size := by have := S.out.bel.size; omega
            generalize at5 L k 0 = x0 at *
            generalize at5 L k 1 = x1 at *
            generalize at5 L k 2 = x2 at *
            generalize at5 L k 3 = x3 at *
            generalize at5 L k 4 = x4 at *
            clear e0 e1 e2 e3 e4 hcw hcell hK
            have ww1 : IntKind.i64.wrap ((K : Int) + 1) = (K : Int) + 1 := IntWalk.i64_in _ (by omega)
            have v1 : 0 ≤ (K : Int) + 1 := by omega
            have u1 : ((K : Int) + 1).toNat = K + 1 := by omega
            have ww2 : IntKind.i64.wrap ((K : Int) + 2) = (K : Int) + 2 := IntWalk.i64_in _ (by omega)
            have v2 : 0 ≤ (K : Int) + 2 := by omega
            have u2 : ((K : Int) + 2).toNat = K + 2 := by omega
            have ww3 : IntKind.i64.wrap ((K : Int) + 3) = (K : Int) + 3 := IntWalk.i64_in _ (by omega)
            have v3 : 0 ≤ (K : Int) + 3 := by omega
            have u3 : ((K : Int) + 3).toNat = K + 3 := by omega
            have ww4 : IntKind.i64.wrap ((K : Int) + 4) = (K : Int) + 4 := IntWalk.i64_in _ (by omega)
            have v4 : 0 ≤ (K : Int) + 4 := by omega
            have u4 : ((K : Int) + 4).toNat = K + 4 := by omega
            have z1 : (K : Int) + 1 < (L.length : Int) := by omega
            have z2 : (K : Int) + 2 < (L.length : Int) := by omega
            have z3 : (K : Int) + 3 < (L.length : Int) := by omega
            have z4 : (K : Int) + 4 < (L.length : Int) := by omega
            go_wp2_with fail
            go_region_held3 (fun w' => w'.cell? ⟨b, o + K, none⟩ = some (.int .i64 x0) ∧ w'.cell? ⟨b, o + (K + 1), none⟩ = some (.int .i64 x1) ∧ w'.cell? ⟨b, o + (K + 2), none⟩ = some (.int .i64 x2) ∧ w'.cell? ⟨b, o + (K + 3), none⟩ = some (.int .i64 x3) ∧ w'.cell? ⟨b, o + (K + 4), none⟩ = some (.int .i64 x4)) (go_keep) (fail)
            clear ww1 ww2 ww3 ww4 v1 v2 v3 v4 u1 u2 u3 u4 z1 z2 z3 z4
            rename_i _ hHeld
            clear hHeld
            have hb5 : Below wr.heap.size wr (wr.alloc (.cells #[.int .i64 x0, .int .i64 x1, .int .i64 x2, .int .i64 x3, .int .i64 x4] 31)).drew := ((Below.refl _ wr).alloc (Nat.le_refl _) _).drew
            have S1 := Lib.hid (S.out.below hb5)
            have K1 : RowKit.Hid (Blk (wr.alloc (.cells #[.int .i64 x0, .int .i64 x1, .int .i64 x2, .int .i64 x3, .int .i64 x4] 31)).drew wr.heap.size #[.int .i64 x0, .int .i64 x1, .int .i64 x2, .int .i64 x3, .int .i64 x4] 31) := Lib.hid (Blk.new wr _ 31).drew
            have hXr : rb < wr.heap.size := S.out.mem.hd.lt
            have hXs : ∀ r, sl.ownBlock = some r → r < wr.heap.size := fun r hr => S.out.mem.row.lt hr
            have HXS := Lib.hid hXs
            clear hb5 S g0 g1 g2 g3 g4 hXs
            generalize (wr.alloc (.cells #[.int .i64 x0, .int .i64 x1, .int .i64 x2, .int .i64 x3, .int .i64 x4] 31)).drew = W at *
            generalize wr.heap.size = X at *
            have d0 : W.cell? ⟨X, 0, none⟩ = some (.int .i64 x0) := K1.out.cell 0
            have d1 : W.cell? ⟨X, 1, none⟩ = some (.int .i64 x1) := K1.out.cell 1
            have d2 : W.cell? ⟨X, 2, none⟩ = some (.int .i64 x2) := K1.out.cell 2
            have d3 : W.cell? ⟨X, 3, none⟩ = some (.int .i64 x3) := K1.out.cell 3
            have d4 : W.cell? ⟨X, 4, none⟩ = some (.int .i64 x4) := K1.out.cell 4
            go_wp2_with fail
            refine (rright_any W x0 x1 x2 x3 x4 b2.1 b2.2 b3.1 b3.2).mono ?_
            rintro e w4 ⟨rfl, hb⟩
            have S2 := Lib.hid (S1.out.below hb)
            have K2 := Lib.hid (K1.out.below hb K1.out.lt)
            have KEYA : RowKit.Hid (∀ nq, Calls Try.prog 65 #[.pointer (some ⟨rb, 0, none⟩)] (w4.drewN nq) fun e w' => e = .returned (.int .i64 (pvN L k).m) ∧ w' = w4.drewN nq) := Lib.hid fun nq =>
              (rall_ok (S2.out.mem.below (bdrewN (Below.refl _ _) nq)) HV.out.sum (fun x hx => by have := HV.out.bal x hx; have := HV.out.sp x hx; have := HV.out.en x hx; omega) ⟨HV.out.m0, HV.out.m1⟩).mono fun _ _ ⟨h1, h2⟩ => ⟨h1, h2.symm⟩
            have B4 := Lib.hid (B1.out.trans (S2.out.bel.mono (by rw [HRB.out]; exact B1.out.size)))
            clear hb S1 K1 d0 d1 d2 d3 d4
            have d0 : w4.cell? ⟨X, 0, none⟩ = some (.int .i64 x0) := K2.out.cell 0
            have d1 : w4.cell? ⟨X, 1, none⟩ = some (.int .i64 x1) := K2.out.cell 1
            have d2 : w4.cell? ⟨X, 2, none⟩ = some (.int .i64 x2) := K2.out.cell 2
            have d3 : w4.cell? ⟨X, 3, none⟩ = some (.int .i64 x3) := K2.out.cell 3
            have d4 : w4.cell? ⟨X, 4, none⟩ = some (.int .i64 x4) := K2.out.cell 4
            have hsk : (pvN L k).sorted.length = k := by rw [sorted_len, ids_len]
            obtain ⟨ra, rcap, hsl, hrc1, hrc2⟩ := S2.out.mem.row.form
            rw [hsk] at hsl hrc1
            have HSL := Lib.hid hsl
            have c0 : w4.cell? ⟨rb, 0, none⟩ = some (.slice ra k rcap) := by rw [← hsl]; exact S2.out.mem.hd.cell 0
            have hrbz := S2.out.mem.hd.lt
            have hm1 := HV.out.m1
            have hm0 := HV.out.m0
            have HSRT := Lib.hid HV.out.srt
            clear hsk hsl
            by_cases hr : rightB x0 x1 x2 x3 x4 = true
            rotate_left
            · have HNE := Lib.hid (fun h => hr (by rw [← HRN.out]; exact (HOK.out.1 h).2.1))
              rw [Bool.not_eq_true] at hr
              rw [hr]
              clear hr
              go_wp2_with fail
              go_quiet (fail)
              go_wp2_with fail
              go_ret2
              exact ⟨HNO.out _ HNE.out, bdrewN B4.out _⟩
            · have HR := Lib.hid hr
              have hrr := of_decide_eq_true hr
              rw [hr]
              clear hr
              rcases Nat.eq_zero_or_pos k with hk0 | hk0
              · have HLX : RowKit.Hid (lastN L k < x0) := Lib.hid (by rw [hk0]; show (0 : Int) < x0; omega)
                have q1 : decide (0 < (k : Int)) = false := by simp; omega
                have q1' : decide (0 < k) = false := by simp; omega
                clear hk0 hrr
                by_cases hmost : (pvN L k).m + x2 ≤ 1000000000000000
                · have p2 : decide (1000000000000000 - (pvN L k).m < x2) = false := by simp; omega
                  have OK4 := Lib.hid (HOK.out.2 ⟨OK.out, by rw [HRN.out]; exact HR.out, HLX.out, hmost⟩)
                  clear hmost
                  go_wp2_with fail
                  go_quiet ((go_at_call 65; exact Calls.quiet_of_same (KEYA.out _)))
                  go_wp2_with fail
                  rename_i nq
                  have hsk : (pvN L k).sorted.length = k := by rw [sorted_len, ids_len]
                  have S5 := Lib.hid (S2.out.below (bdrewN (Below.refl _ _) nq))
                  have K5 : RowKit.Hid (Blk (w4.drewN nq) X #[.int .i64 x0, .int .i64 x1, .int .i64 x2, .int .i64 x3, .int .i64 x4] 31) := Lib.hid (K2.out.drewN nq)
                  have HOW : RowKit.Hid ((w4.drewN nq).ownsRow 0 31 5 (.slice ra k rcap) k (rowsOf (pvN L k) (pvN L k).sorted)) := Lib.hid (by
                    have := S5.out.mem.row.owns
                    rw [hsk] at this
                    rw [← HSL.out]; exact this)
                  have HHD : RowKit.Hid (Blk (w4.drewN nq) rb #[.slice ra k rcap] 76) := Lib.hid (by have := S5.out.mem.hd; rwa [HSL.out] at this)
                  have HNE : RowKit.Hid ((Value.slice ra k rcap).ownBlock ≠ some rb) := Lib.hid (by rw [← HSL.out]; exact S5.out.mem.ne)
                  have HSO : RowKit.Hid (∀ r, (Value.slice ra k rcap).ownBlock = some r → rb ≤ r ∧ r < (w4.drewN nq).heap.size) := Lib.hid (fun r hr => by rw [← HSL.out] at hr; exact ⟨S5.out.sl0 r hr, S5.out.mem.row.lt hr⟩)
                  clear c0 d0 d1 d2 d3 d4 S2 K2 hsk KEYA
                  generalize w4.drewN nq = W5 at *
                  have c0 : W5.cell? ⟨rb, 0, none⟩ = some (.slice ra k rcap) := HHD.out.cell 0
                  have d0 : W5.cell? ⟨X, 0, none⟩ = some (.int .i64 x0) := K5.out.cell 0
                  have d1 : W5.cell? ⟨X, 1, none⟩ = some (.int .i64 x1) := K5.out.cell 1
                  have d2 : W5.cell? ⟨X, 2, none⟩ = some (.int .i64 x2) := K5.out.cell 2
                  have d3 : W5.cell? ⟨X, 3, none⟩ = some (.int .i64 x3) := K5.out.cell 3
                  have d4 : W5.cell? ⟨X, 4, none⟩ = some (.int .i64 x4) := K5.out.cell 4
                  have hz5 : rb < W5.heap.size := HHD.out.lt
                  have hz6 : X < W5.heap.size := K5.out.lt
                  obtain ⟨hi, hz0, hz1, hz2⟩ := HI0.out
                  go_region_law ((refine step_append_lies _ (by rfl) (.tmp 104) (.tmp 106) 74 (by rfl) 0 31 i0 _ 5 40 Try.underlying74 hi hz0 hz1 hz2 rfl (by omega) (.slice ra k rcap) k _ (by rfl) ((HOW.out.alloc _).drew) ⟨W5.heap.size, 0, none⟩ 1 1 [.int .i64 x0, .int .i64 x1, .int .i64 x2, .int .i64 x3, .int .i64 x4] (by rfl) (by rfl) (World.news_of_block (cs := #[.int .i64 x0, .int .i64 x1, .int .i64 x2, .int .i64 x3, .int .i64 x4]) (t := 31) (fr := (0, 0)) (heap_alloc_new W5 _)) (one5 _ _ _ _ _) (by omega) (by unfold maxLen; omega) (by omega) (by simp) (W5.heap.size + 1) (by simp) ?_; intro gg cap' w6 hown6 hgrow hat hlt6; have hF2 := grow_blk5 ((HHD.out.alloc (.cells #[.int .i64 x0, .int .i64 x1, .int .i64 x2, .int .i64 x3, .int .i64 x4] 31)).drew) hgrow HNE.out; have k0 : w6.cell? ⟨rb, 0, none⟩ = some (.slice ra k rcap) := hF2.cell 0; have kf := hF2.frozen))
                  all_goals (
                    have S6 : RowKit.Hid (RSt rb w1 (w6.setCell ⟨rb, 0, none⟩ (.slice (some ⟨gg, 0, none⟩) (k + 1) cap')) rb (pvN L (k + 1)) (.slice (some ⟨gg, 0, none⟩) (k + 1) cap')) := Lib.hid (rst_step (by have := S5.out; rwa [HSL.out] at this) hgrow hown6 hat (by rw [sorted_len, ids_len]) (HPS.out OK4.out).1 (HPS.out OK4.out).2)
                    clear hgrow hown6 hat hF2 k0 kf
                    go_wp2_with fail
                    exact ⟨⟨k + 1, _, by omega, vint (by rw [HK.out]; omega), S6.out, OK4.out⟩, by simp [intOf]; omega⟩)
                · have p2 : decide (1000000000000000 - (pvN L k).m < x2) = true := by simp; omega
                  have HNE := Lib.hid (fun h => hmost (HOK.out.1 h).2.2.2)
                  clear hmost
                  go_wp2_with fail
                  go_quiet ((go_at_call 65; exact Calls.quiet_of_same (KEYA.out _)))
                  go_wp2_with fail
                  go_ret2
                  exact ⟨HNO.out _ HNE.out, bdrewN B4.out _⟩
              · obtain ⟨j, hj⟩ : ∃ j, k = j + 1 := ⟨k - 1, by omega⟩
                have q1 : decide (0 < (k : Int)) = true := by simp; omega
                have q1' : decide (0 < k) = true := by simp; omega
                have hwj : IntKind.i64.wrap ((k : Int) - 1) = (j : Int) := by rw [hj]; rw [show ((j + 1 : Nat) : Int) - 1 = (j : Int) from by omega]; exact IntWalk.i64_in _ (by omega)
                have hj0 : (0 : Int) ≤ (j : Int) := by omega
                have hj1 : (j : Int) < (k : Int) := by omega
                have hjl : j < (pvN L k).sorted.length := by rw [sorted_len, ids_len]; omega
                obtain ⟨g, cap', e, hg, _, _, hA⟩ := S2.out.mem.row.at_ j hjl
                rw [sorted_len, ids_len] at e
                obtain rfl : some ⟨g, 0, none⟩ = ra := by rw [HSL.out] at e; injection e with e _ _; exact e.symm
                have ex : (pvN L k).sorted[j] = lastN L k := by
                  have h1 : (pvN L k).sorted[j]? = some (lastN L k) := by
                    rw [HSRT.out, hj]
                    show ((pvN L j).ids ++ [at5 L j 0])[j]? = _
                    rw [List.getElem?_append_right (by rw [ids_len]; omega), ids_len]
                    simp [lastN]
                  exact (List.getElem?_eq_some_iff.1 h1).2
                rw [ex] at hA
                have f0 := hA.c0
                have HJ := Lib.hid hj
                obtain ⟨la, hla⟩ : ∃ la, la = lastN L k := ⟨_, rfl⟩
                have HLA := Lib.hid hla
                rw [← hla] at f0
                clear e hA ex hj hk0 hjl hrr hla
                by_cases hlx : la < x0
                · have p1 : decide (x0 ≤ la) = false := by simp; omega
                  have HLX : RowKit.Hid (lastN L k < x0) := Lib.hid (by rw [← HLA.out]; exact hlx)
                  clear hlx
                  by_cases hmost : (pvN L k).m + x2 ≤ 1000000000000000
                  · have p2 : decide (1000000000000000 - (pvN L k).m < x2) = false := by simp; omega
                    have OK4 := Lib.hid (HOK.out.2 ⟨OK.out, by rw [HRN.out]; exact HR.out, HLX.out, hmost⟩)
                    clear hmost
                    go_wp2_with fail
                    go_quiet ((go_at_call 65; exact Calls.quiet_of_same (KEYA.out _)))
                    go_wp2_with fail
                    rename_i nq
                    have hsk : (pvN L k).sorted.length = k := by rw [sorted_len, ids_len]
                    have S5 := Lib.hid (S2.out.below (bdrewN (Below.refl _ _) nq))
                    have K5 : RowKit.Hid (Blk (w4.drewN nq) X #[.int .i64 x0, .int .i64 x1, .int .i64 x2, .int .i64 x3, .int .i64 x4] 31) := Lib.hid (K2.out.drewN nq)
                    have HOW : RowKit.Hid ((w4.drewN nq).ownsRow 0 31 5 (.slice (some ⟨g, 0, none⟩) k rcap) k (rowsOf (pvN L k) (pvN L k).sorted)) := Lib.hid (by
                      have := S5.out.mem.row.owns
                      rw [hsk] at this
                      rw [← HSL.out]; exact this)
                    have HHD : RowKit.Hid (Blk (w4.drewN nq) rb #[.slice (some ⟨g, 0, none⟩) k rcap] 76) := Lib.hid (by have := S5.out.mem.hd; rwa [HSL.out] at this)
                    have HNE : RowKit.Hid ((Value.slice (some ⟨g, 0, none⟩) k rcap).ownBlock ≠ some rb) := Lib.hid (by rw [← HSL.out]; exact S5.out.mem.ne)
                    have HSO : RowKit.Hid (∀ r, (Value.slice (some ⟨g, 0, none⟩) k rcap).ownBlock = some r → rb ≤ r ∧ r < (w4.drewN nq).heap.size) := Lib.hid (fun r hr => by rw [← HSL.out] at hr; exact ⟨S5.out.sl0 r hr, S5.out.mem.row.lt hr⟩)
                    clear c0 d0 d1 d2 d3 d4 S2 K2 hsk KEYA
                    generalize w4.drewN nq = W5 at *
                    have c0 : W5.cell? ⟨rb, 0, none⟩ = some (.slice (some ⟨g, 0, none⟩) k rcap) := HHD.out.cell 0
                    have d0 : W5.cell? ⟨X, 0, none⟩ = some (.int .i64 x0) := K5.out.cell 0
                    have d1 : W5.cell? ⟨X, 1, none⟩ = some (.int .i64 x1) := K5.out.cell 1
                    have d2 : W5.cell? ⟨X, 2, none⟩ = some (.int .i64 x2) := K5.out.cell 2
                    have d3 : W5.cell? ⟨X, 3, none⟩ = some (.int .i64 x3) := K5.out.cell 3
                    have d4 : W5.cell? ⟨X, 4, none⟩ = some (.int .i64 x4) := K5.out.cell 4
                    have hz5 : rb < W5.heap.size := HHD.out.lt
                    have hz6 : X < W5.heap.size := K5.out.lt
                    obtain ⟨hi, hz0, hz1, hz2⟩ := HI0.out
                    go_region_law ((refine step_append_lies _ (by rfl) (.tmp 104) (.tmp 106) 74 (by rfl) 0 31 i0 _ 5 40 Try.underlying74 hi hz0 hz1 hz2 rfl (by omega) (.slice (some ⟨g, 0, none⟩) k rcap) k _ (by rfl) ((HOW.out.alloc _).drew) ⟨W5.heap.size, 0, none⟩ 1 1 [.int .i64 x0, .int .i64 x1, .int .i64 x2, .int .i64 x3, .int .i64 x4] (by rfl) (by rfl) (World.news_of_block (cs := #[.int .i64 x0, .int .i64 x1, .int .i64 x2, .int .i64 x3, .int .i64 x4]) (t := 31) (fr := (0, 0)) (heap_alloc_new W5 _)) (one5 _ _ _ _ _) (by omega) (by unfold maxLen; omega) (by omega) (by simp) (W5.heap.size + 1) (by simp) ?_; intro gg cap' w6 hown6 hgrow hat hlt6; have hF2 := grow_blk5 ((HHD.out.alloc (.cells #[.int .i64 x0, .int .i64 x1, .int .i64 x2, .int .i64 x3, .int .i64 x4] 31)).drew) hgrow HNE.out; have k0 : w6.cell? ⟨rb, 0, none⟩ = some (.slice (some ⟨g, 0, none⟩) k rcap) := hF2.cell 0; have kf := hF2.frozen))
                    all_goals (
                      have S6 : RowKit.Hid (RSt rb w1 (w6.setCell ⟨rb, 0, none⟩ (.slice (some ⟨gg, 0, none⟩) (k + 1) cap')) rb (pvN L (k + 1)) (.slice (some ⟨gg, 0, none⟩) (k + 1) cap')) := Lib.hid (rst_step (by have := S5.out; rwa [HSL.out] at this) hgrow hown6 hat (by rw [sorted_len, ids_len]) (HPS.out OK4.out).1 (HPS.out OK4.out).2)
                      clear hgrow hown6 hat hF2 k0 kf
                      go_wp2_with fail
                      exact ⟨⟨k + 1, _, by omega, vint (by rw [HK.out]; omega), S6.out, OK4.out⟩, by simp [intOf]; omega⟩)
                  · have p2 : decide (1000000000000000 - (pvN L k).m < x2) = true := by simp; omega
                    have HNE := Lib.hid (fun h => hmost (HOK.out.1 h).2.2.2)
                    clear hmost
                    go_wp2_with fail
                    go_quiet ((go_at_call 65; exact Calls.quiet_of_same (KEYA.out _)))
                    go_wp2_with fail
                    go_ret2
                    exact ⟨HNO.out _ HNE.out, bdrewN B4.out _⟩
                · have p1 : decide (x0 ≤ la) = true := by simp; omega
                  have HNE := Lib.hid (fun h => hlx (by rw [HLA.out]; exact (HOK.out.1 h).2.2.1))
                  clear hlx
                  go_wp2_with fail
                  go_quiet (fail)
                  go_wp2_with fail
                  go_ret2
                  exact ⟨HNO.out _ HNE.out, bdrewN B4.out _⟩
          · obtain rfl : k = n := by omega
            obtain ⟨ra, rcap, hsl, hrc1, hrc2⟩ := S.out.mem.row.form
            have hsk : (pvN L k).sorted.length = k := by rw [sorted_len, ids_len]
            rw [hsk] at hsl hrc1
            have c0 : wr.cell? ⟨rb, 0, none⟩ = some (.slice ra k rcap) := by rw [← hsl]; exact S.out.mem.hd.cell 0
            have hrbz := S.out.mem.hd.lt
            have HSK := Lib.hid hsk
            have B4 := Lib.hid (B1.out.trans (S.out.bel.mono (by rw [HRB.out]; exact B1.out.size)))
            have hKL : L.length ≤ K := by omega
            have hKL2 : decide (K < L.length) = false := by simp; omega
            clear hsl hsk hlt hK
            obtain ⟨wo, rfl⟩ : ∃ wo : World, wo = wr := ⟨_, rfl⟩
            go_wp2_with fail
            go_loopw [11] (fun i wq => ∃ j : Nat, j ≤ k ∧ i = .int .i64 j ∧ wq = wo ∧ ∀ x ∈ (pvN L k).sorted.take j, EndAt (pvN L k).ids (pvN L k).pa x) (fun i _ => k - (intOf i).toNat)
            case atStart => exact ⟨0, by omega, rfl, rfl, fun x hx => by simp at hx⟩
            case round =>
              obtain ⟨j, hj, rfl, rfl, hE⟩ := hrel
              have HE := Lib.hid hE
              clear hE
              by_cases hlt : j < k
              · have hjl : j < (pvN L k).sorted.length := by rw [HSK.out]; exact hlt
                obtain ⟨x, hx⟩ : ∃ x, (pvN L k).sorted[j] = x := ⟨_, rfl⟩
                have key := Lib.hid (ends_any S.out.mem (by rw [HV.out.srt]; exact HV.out.nd) (by rw [ids_len]; omega) j hjl hx)
                have HX : RowKit.Hid ((pvN L k).sorted.take (j + 1) = (pvN L k).sorted.take j ++ [x]) := Lib.hid (by rw [List.take_succ_eq_append_getElem hjl, hx])
                have HXM : RowKit.Hid (x ∈ (pvN L k).ids) := Lib.hid ((sorted_mem _ x).1 (by rw [← hx]; exact List.getElem_mem hjl))
                clear hjl hx
                go_wp2_with fail
                refine key.out.mono ?_
                rintro e w3 ⟨t, rfl, ht, rfl⟩
                cases t
                · have KE := Lib.hid (no_ropen (w := w) (w' := wr) (e := .returned (.tuple #[.pointer none, .int .i64 11])) HL.out (fun m g => by
                    have := g.len
                    have hm : m = k := by have := HN.out; omega
                    subst hm
                    exact absurd (ht.2 (g.ends x HXM.out)) (by simp)) rfl)
                  clear ht
                  go_wp2_with fail
                  go_ret2
                  exact ⟨KE.out, B4.out⟩
                · have HT := Lib.hid (ht.1 rfl)
                  clear ht
                  go_wp2_with fail
                  have HN2 : RowKit.Hid (∀ y ∈ (pvN L k).sorted.take (j + 1), EndAt (pvN L k).ids (pvN L k).pa y) := Lib.hid fun y hy => by
                    rw [HX.out] at hy
                    rcases List.mem_append.1 hy with h | h
                    · exact HE.out y h
                    · simp at h; subst h; exact HT.out
                  exact ⟨⟨j + 1, by omega, by go_num, by first | rfl | trivial, HN2.out⟩, by simp [intOf]; omega⟩
              · obtain rfl : j = k := by omega
                have KE : RowKit.Hid (ROpenE str.data.toList w (.returned (.tuple #[.pointer (some ⟨rb, 0, none⟩), .int .i64 0])) wr) := Lib.hid (.inl ⟨L, j, rb, sl, HL.out, HIN.out, ⟨HN.out, hn1, OK.out, fun x hx => HE.out x (by
                  rw [List.take_of_length_le (by rw [HSK.out]; exact Nat.le_refl _)]; exact (sorted_mem _ x).2 hx)⟩, rfl, S.out.mem, by rw [HRB.out]; exact B1.out.size, fun r hr => Nat.le_trans (by rw [HRB.out]; exact B1.out.size) (S.out.sl0 r hr)⟩)
                clear hlt
                go_wp2_with fail
                go_ret2
                exact ⟨KE.out, B4.out⟩
end Go.Proofs.Ytmnkgjgaileokaa

/- Small laws for the codes: sizes, and that the funds opened on both sides agree. -/
namespace Go.Proofs.Ytmnkgjgaileokaa
open Go.RowKit

theorem ints_len {L : List Int} (h : AllIn L) (hl : L.length < 18446744073709551616) : (ints L).length ≤ 10 + 10 * L.length := by
  have h1 := body_len L h
  have h2 := grp_ten hl
  rw [← num_len] at h2
  unfold ints
  rw [List.length_append]; omega
theorem str_size (l : List UInt8) : (⟨l.toArray⟩ : ByteArray).size = l.length := by show l.toArray.size = _; simp
theorem enc1_size {v : PV} (h : Good v) : v.enc1.size ≤ 500010 := by
  unfold PV.enc1
  rw [str_size]
  have h1 := ints_len (code_in h) (by unfold PV.code; rw [codeOf_len, sorted_len]; have := h.len; omega)
  have h2 : v.code.length = 5 * v.ids.length := by unfold PV.code; rw [codeOf_len, sorted_len]
  have := h.len
  omega
theorem opened_good {u : PV} {L : List Int} {n : Nat} (hO : Opened L n u) (hG : GoodL L n) (hI : AllIn L) : Good u :=
  (okN_v hI n hG.ok).good (lastN_in hI n) (by rw [ids_len]; exact hG.most) hO.m hO.ids hO.pa hO.al hO.sp hO.en hO.kids hG.ends
theorem opened_ref {w : World} {u : PV} {L : List Int} {n rb : Nat} {sl : Value} (hO : Opened L n u) (hR : RMem w rb (pvN L n) sl) : RMem w rb u sl := by
  have hs : u.sorted = (pvN L n).sorted := by unfold PV.sorted; rw [hO.ids]
  refine ⟨hR.hd, ?_, hR.ne⟩
  rw [hs]
  rcases hR.row with k | ⟨g, cap, cur, h1, h2, h3, h4, h5, h6⟩
  · exact .inl k
  · refine .inr ⟨g, cap, cur, h1, h2, h3, h4, h5, fun k hk i hi => ?_⟩
    rw [h6 k hk i hi]
    unfold PV.cel PV.row5
    rw [hO.pa, hO.al, hO.sp, hO.en]
theorem opened_agree {w : World} {s : FS} {L : List Int} {n rb : Nat} {sl : Value} (hM : Mem w s) (hO : Opened L n s.pv) (hG : GoodL L n) (hI : AllIn L) (hR : RMem w rb (pvN L n) sl) :
    Calls Try.prog 24 #[.pointer (some ⟨s.fb, 0, none⟩), .pointer (some ⟨rb, 0, none⟩)] w fun e w' => e = .returned (.bool true) ∧ Below w.heap.size w w' :=
  agrees_any hM rfl (opened_good hO hG hI) (opened_ref hO hR)
/-- Bytes that lie in memory. -/
def BytesAt (w : World) (g : Nat) (l : List UInt8) : Prop := g < w.heap.size ∧ ∀ j (hj : j < l.length), w.cell? ⟨g, j, none⟩ = some (.int .u8 (l[j].toNat : Int)) ∧ w.frozen? ⟨g, j, none⟩ = false
theorem BytesAt.below {w w' : World} {g : Nat} {l : List UInt8} (h : BytesAt w g l) (hb : Below w.heap.size w w') : BytesAt w' g l :=
  ⟨by have := hb.size; have := h.1; omega, fun j hj => ⟨(hb.cell (p := ⟨g, j, none⟩) h.1).trans (h.2 j hj).1, (hb.frozen (p := ⟨g, j, none⟩) h.1).trans (h.2 j hj).2⟩⟩
theorem BytesAt.string {w : World} {g : Nat} {l : List UInt8} (h : BytesAt w g l) (cap : Nat) : (convert 57 9 (.slice (some ⟨g, 0, none⟩) l.length cap)).run Try.prog w = .ok (.string ⟨l.toArray⟩) w :=
  run_convert_bytes_back w 57 9 5 ⟨g, 0, none⟩ cap l Try.underlying57 Try.underlying5 Try.underlying9 fun j hj => by
    rw [← (h.2 j hj).1]
    by_cases h0 : j = 0 <;> simp [Addr.add, h0]
theorem BytesAt.set {w : World} {g : Nat} {l : List UInt8} (h : BytesAt w g l) {i : Nat} (hi : i < l.length) (y : UInt8) : BytesAt (w.setCell ⟨g, i, none⟩ (.int .u8 (y.toNat : Int))) g (l.set i y) := by
  refine ⟨by simpa using h.1, fun j hj => ?_⟩
  rw [List.length_set] at hj
  obtain ⟨h1, h2⟩ := h.2 j hj
  refine ⟨?_, by rw [World.frozen?_setCell]; exact h2⟩
  by_cases e : i = j
  · subst e
    rw [World.cell?_setCell_same (h := h1), List.getElem_set_self]
  · rw [World.cell?_setCell_other (h := by intro e2; injection e2 with _ e2; exact e e2), List.getElem_set_ne e]
    exact h1
theorem xor_byte (a b : Nat) : ∃ y : UInt8, bits .xor .u8 (a : Int) (b : Int) = (y.toNat : Int) := by
  refine ⟨UInt8.ofNat (bits .xor .u8 (a : Int) (b : Int)).toNat, ?_⟩
  have h : ∃ m : Nat, bits .xor .u8 (a : Int) (b : Int) = (m : Int) ∧ m < 256 := by
    refine ⟨((BitVec.ofInt 8 (a : Int)) ^^^ (BitVec.ofInt 8 (b : Int))).toNat % 256, ?_, Nat.mod_lt _ (by omega)⟩
    show IntKind.u8.wrap (((BitVec.ofInt 8 (a : Int)) ^^^ (BitVec.ofInt 8 (b : Int))).toNat : Int) = _
    generalize ((BitVec.ofInt 8 (a : Int)) ^^^ (BitVec.ofInt 8 (b : Int))).toNat = m
    unfold IntKind.wrap
    simp only [IntKind.bits, IntKind.signed]
    simp
  obtain ⟨m, h1, h2⟩ := h
  rw [h1, UInt8.toNat_ofNat']
  simp; omega
/-- Integers of a slice of our own. -/
def RowAt (w : World) (g : Nat) (l : List Int) : Prop := g < w.heap.size ∧ ∀ j (hj : j < l.length), w.cell? ⟨g, j, none⟩ = some (.int .i64 l[j]) ∧ w.frozen? ⟨g, j, none⟩ = false
theorem RowAt.below {w w' : World} {g : Nat} {l : List Int} (h : RowAt w g l) (hb : Below w.heap.size w w') : RowAt w' g l :=
  ⟨by have := hb.size; have := h.1; omega, fun j hj => ⟨(hb.cell (p := ⟨g, j, none⟩) h.1).trans (h.2 j hj).1, (hb.frozen (p := ⟨g, j, none⟩) h.1).trans (h.2 j hj).2⟩⟩
theorem RowAt.set {w : World} {g : Nat} {l : List Int} (h : RowAt w g l) (i : Nat) (y : Int) : RowAt (w.setCell ⟨g, i, none⟩ (.int .i64 y)) g (l.set i y) := by
  refine ⟨by simpa using h.1, fun j hj => ?_⟩
  rw [List.length_set] at hj
  obtain ⟨h1, h2⟩ := h.2 j hj
  refine ⟨?_, by rw [World.frozen?_setCell]; exact h2⟩
  by_cases e : i = j
  · subst e
    rw [World.cell?_setCell_same (h := h1), List.getElem_set_self]
  · rw [World.cell?_setCell_other (h := by intro e2; injection e2 with _ e2; exact e e2), List.getElem_set_ne e]
    exact h1
theorem RowAt.ints {w : World} {g : Nat} {l : List Int} (h : RowAt w g l) : IntsAt w (some ⟨g, 0, none⟩) l := .inr ⟨g, 0, rfl, h.1, fun k hk => by
  rw [getD_get _ _ hk, Nat.zero_add]; exact (h.2 k hk).1⟩
theorem row_at {w : World} {g n cap : Nat} {l : List Int} (h : w.ownsRow 0 3 1 (.slice (some ⟨g, 0, none⟩) n cap) n (l.map encZ)) : RowAt w g l := by
  rcases h.2 with ⟨h1, _⟩ | ⟨g', c, cur, h1, _, h3, _⟩
  · cases h1
  · injection h1 with h1
    injection h1 with h1
    injection h1 with h1
    subst h1
    refine ⟨heap_lt h3, fun j hj => ⟨rowE_cell h j _ (by rw [List.getElem?_map, List.getElem?_eq_getElem hj]; rfl), ?_⟩⟩
    simp [World.frozen?, h3]
set_option maxRecDepth 100000 in
/-- append onto an empty slice of our own. -/
theorem append_copy {ops : Array Oper} {rest : List Oper} {o : Oper} {a : Act} {Q : Exit → Act → World → Prop} (w : World) (hgd : o.guard = none) (s x : Operand)
    (ho : o.op = .call { callee := .builtin .append, args := #[s, x], argTypes := #[56, 56] }) (B : Nat) (hs : a.eval s = .slice (some ⟨B, 0, none⟩) 0 0) (hown : w.ownsRow 0 3 1 (.slice (some ⟨B, 0, none⟩) 0 0) 0 [])
    (C : List Int) (ao : Option Addr) (c : Nat) (hx : a.eval x = .slice ao C.length c) (hI : IntsAt w ao C) (hn : ao = none → c = 0) (hl : C.length ≤ 50000)
    (h : ∀ gm mc w', RowAt w' gm C → C.length ≤ mc → mc ≤ 9223372036854775807 → w.grownBy w' (some B) → (gm = B ∨ gm = w.heap.size) → wpList Try.prog ops Q rest (a.put o.dst (.slice (some ⟨gm, 0, none⟩) C.length mc)) w') : wpList Try.prog ops Q (o :: rest) a w := by
  obtain ⟨i0, hi, hz1, hz2, hz3⟩ := info_parts info3
  by_cases hC : C = []
  · subst hC
    refine wpList_append_fits_any w hgd s x 56 ho 0 3 i0 1 Try.underlying56 hi hz2 B 0 0 [] hs hown ao 0 c [] hx (by simp) (fun e => ⟨rfl, hn e⟩) (fun _ _ j u hj => by simp at hj) (fun u hu => by simp at hu) (Nat.le_refl _) (fun w' hw hg => ?_)
    exact h B 0 w' ⟨by
      have := hw.lt B rfl
      exact this.2, fun j hj => by simp at hj⟩ (by simp) (by omega) hg (.inl rfl)
  · rcases hI with hI | ⟨b, off, rfl, hb, hcell⟩
    · exact absurd hI hC
    · have hpos : 0 < C.length := List.length_pos_iff.2 hC
      refine wpList_append_lies w hgd s x 56 ho 0 3 i0 (.int .i64 0) 1 8 Try.underlying56 hi hz1 hz2 hz3 rfl (by omega) (.slice (some ⟨B, 0, none⟩) 0 0) 0 [] hs hown ⟨b, off, none⟩ C.length c (C.map encZ) hx (by simp) ?_ ?_ hpos (by unfold maxLen; omega) (by omega) (Nat.zero_le _) w.heap.size rfl ?_
      · intro j u hj
        rw [List.getElem?_map] at hj
        cases e : C[j]? with
        | none => rw [e] at hj; cases hj
        | some z =>
          rw [e] at hj
          injection hj with hj
          obtain ⟨hj2, hz⟩ := List.getElem?_eq_some_iff.1 e
          have := hcell j hj2
          rw [getD_get _ _ hj2, hz] at this
          rw [← hj]
          by_cases h0 : j = 0
          · subst h0; simpa [Addr.add] using this
          · simpa [Addr.add, h0] using this
      · intro u hu
        obtain ⟨z, _, rfl⟩ := List.mem_map.1 hu
        rfl
      · intro gm mc w' hw hg hat hlt
        rw [Nat.zero_add] at hw ⊢
        rw [List.nil_append] at hw
        have hcm := slice_of hw
        obtain ⟨a', cap', e, _, h3, h4⟩ := hcm
        injection e with _ _ e
        subst e
        exact h gm mc w' (row_at hw) h3 h4 hg (by
          rcases hat with e | e
          · left; injection e with e; exact e.symm
          · exact .inr e)
end Go.Proofs.Ytmnkgjgaileokaa
