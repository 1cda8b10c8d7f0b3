/- FundsTotals: the walk. -/
import Derived.Test.YtmnkgjgaileokaaFQ
namespace Go.Proofs.Ytmnkgjgaileokaa
open Go.RowKit

theorem Good.tree {v : PV} (h : Good v) : Tree v.ids v.pa v.kids := ⟨h.fix.nd, h.kid, h.par, h.deep, fun x hx => by have := h.fix.idb x hx; omega⟩
def PV.T (v : PV) (f : Int → Int) (x : Int) : Int := totF f v.kids (v.ids.length + 1) x
theorem sum_le_sum {f g : Int → Int} : ∀ ids : List Int, (∀ z ∈ ids, f z ≤ g z) → (ids.map f).sum ≤ (ids.map g).sum
  | [], _ => by simp
  | a :: l, h => by
    have := h a (by simp)
    have := sum_le_sum l fun z hz => h z (by simp [hz])
    simp only [List.map_cons, List.sum_cons]; omega
structure Money (v : PV) (f : Int → Int) : Prop where
  nn : ∀ z ∈ v.ids, 0 ≤ f z
  le : (v.ids.map f).sum ≤ 1000000000000000
theorem Good.money {v : PV} (h : Good v) : Money v v.al ∧ Money v v.sp ∧ Money v v.en := by
  have hb := h.bal.sum
  refine ⟨⟨fun z hz => ?_, hb⟩, ⟨h.fix.sp, Int.le_trans (sum_le_sum _ fun z hz => ?_) hb⟩, ⟨h.fix.en, Int.le_trans (sum_le_sum _ fun z hz => ?_) hb⟩⟩
  all_goals
    have := h.bal.le z hz
    have := h.fix.sp z hz
    have := h.fix.en z hz
    omega
theorem T_bd {v : PV} (h : Good v) {f : Int → Int} (hm : Money v f) {x : Int} (hx : x ∈ v.ids) : 0 ≤ v.T f x ∧ v.T f x ≤ 1000000000000000 :=
  ⟨totF_nn hm.nn h.fix.kin _ _ hx, Int.le_trans (totF_le h.tree hm.nn hx) hm.le⟩
theorem good_tot {v : PV} (h : Good v) : ∀ x ∈ v.ids, totF v.al v.kids (v.ids.length + 1) x ≤ 1000000000000000000 ∧ totF v.sp v.kids (v.ids.length + 1) x ≤ 1000000000000000000 ∧ totF v.en v.kids (v.ids.length + 1) x ≤ 1000000000000000000 := by
  intro x hx
  obtain ⟨h1, h2, h3⟩ := h.money
  have a := (T_bd h h1 hx).2
  have b := (T_bd h h2 hx).2
  have c := (T_bd h h3 hx).2
  unfold PV.T at a b c
  omega
theorem sum_filter (g : Int → Int) (p : Int → Bool) : ∀ l : List Int, ((l.filter p).map g).sum = (l.map fun y => if p y then g y else 0).sum
  | [] => rfl
  | a :: l => by
    rw [List.filter_cons]
    cases h : p a <;> simp [h, sum_filter g p l]
/-- The totals of those whose parent it is, as far as n. -/
def PV.kidsTo (v : PV) (f : Int → Int) (x : Int) (n : Nat) : Int := sumTo (fun c => if c ∈ v.ids then (if v.pa c = x then v.T f c else 0) else 0) n
theorem kidsTo_bd {v : PV} (h : Good v) {f : Int → Int} (hm : Money v f) (x : Int) : ∀ n : Nat, 0 ≤ v.kidsTo f x n ∧ v.kidsTo f x n ≤ n * 1000000000000000
  | 0 => by simp [PV.kidsTo, sumTo]
  | n + 1 => by
    have := kidsTo_bd h hm x n
    have e : v.kidsTo f x (n + 1) = v.kidsTo f x n + (if ((n : Int) + 1) ∈ v.ids then (if v.pa ((n : Int) + 1) = x then v.T f ((n : Int) + 1) else 0) else 0) := rfl
    rw [e]
    split
    · rename_i hc
      have := T_bd h hm hc
      split <;> omega
    · omega
theorem kidsTo_yes {v : PV} {f : Int → Int} {x : Int} {n : Nat} (h1 : ((n : Int) + 1) ∈ v.ids) (h2 : v.pa ((n : Int) + 1) = x) : v.kidsTo f x (n + 1) = v.kidsTo f x n + v.T f ((n : Int) + 1) := by
  have e : v.kidsTo f x (n + 1) = v.kidsTo f x n + (if ((n : Int) + 1) ∈ v.ids then (if v.pa ((n : Int) + 1) = x then v.T f ((n : Int) + 1) else 0) else 0) := rfl
  rw [e, if_pos h1, if_pos h2]
theorem kidsTo_no {v : PV} {f : Int → Int} {x : Int} {n : Nat} (h : ((n : Int) + 1) ∉ v.ids ∨ v.pa ((n : Int) + 1) ≠ x) : v.kidsTo f x (n + 1) = v.kidsTo f x n := by
  have e : v.kidsTo f x (n + 1) = v.kidsTo f x n + (if ((n : Int) + 1) ∈ v.ids then (if v.pa ((n : Int) + 1) = x then v.T f ((n : Int) + 1) else 0) else 0) := rfl
  rw [e]
  rcases h with h | h
  · rw [if_neg h]; omega
  · by_cases hc : ((n : Int) + 1) ∈ v.ids
    · rw [if_pos hc, if_neg h]; omega
    · rw [if_neg hc]; omega
theorem kidsTo_all {v : PV} (h : Good v) (hn : Nine v) (f : Int → Int) {x : Int} (hx : x ∈ v.ids) : f x + v.kidsTo f x 9 = v.T f x := by
  have e := nine_sum (fun c => if v.pa c = x then v.T f c else 0) v.ids h.fix.nd hn
  unfold PV.kidsTo
  rw [e]
  show _ = f x + ((v.kids x).map (totF f v.kids v.ids.length)).sum
  congr 1
  rw [h.kid x hx, sum_filter]
  congr 1
  refine List.map_congr_left fun y hy => ?_
  have : v.T f y = totF f v.kids v.ids.length y := totF_deep f _ y (h.deep y hy)
  rw [this]
  by_cases e : v.pa y = x
  · rw [if_pos e, if_pos (by simpa using e)]
  · rw [if_neg e, if_neg (by simpa using e)]
theorem fund5_in {v : PV} {x : Int} (h : x ∈ v.ids) : v.fund5 x = #[.int .i64 x, .int .i64 (v.pa x), .int .i64 (v.al x), .int .i64 (v.sp x), .int .i64 (v.en x)] := if_pos h
theorem fund5_out {v : PV} {x : Int} (h : x ∉ v.ids) : v.fund5 x = #[.int .i64 0, .int .i64 0, .int .i64 0, .int .i64 0, .int .i64 0] := if_neg h
theorem tot5_in {v : PV} {x : Int} (h : x ∈ v.ids) : v.tot5 v.ids.length x = #[.int .i64 x, .int .i64 (v.pa x), .int .i64 (v.T v.al x), .int .i64 (v.T v.sp x), .int .i64 (v.T v.en x)] := if_pos h
theorem tot5_out {v : PV} {x : Int} (h : x ∉ v.ids) : v.tot5 v.ids.length x = #[.int .i64 0, .int .i64 0, .int .i64 0, .int .i64 0, .int .i64 0] := if_neg h
attribute [local go_sem] over_cell over_frozen
theorem set3 {w : World} {b : Nat} {v0 v1 v2 v3 v4 x y z : Value} {T : TypeId} (h : Blk w b #[v0, v1, v2, v3, v4] T) : Blk (((w.setCell ⟨b, 2, none⟩ x).setCell ⟨b, 3, none⟩ y).setCell ⟨b, 4, none⟩ z) b #[v0, v1, x, y, z] T :=
  (((h.set 2 x).set 3 y).set 4 z).cast (by simp)
theorem St.setLocal {w w1 : World} {n0 : Nat} {s : FS} {v : PV} (h : St w n0 w1 s v) (a : Addr) (x : Value) (h0 : n0 ≤ a.block) (hn : s.o a.block = .none) : St w n0 (w1.setCell a x) s v :=
  ⟨h.mem.setNone a x hn, h.pv, h.fb, h.below.setCell h0 x, h.own⟩
theorem St.alloc {w w1 : World} {n0 : Nat} {s : FS} {v : PV} (h : St w n0 w1 s v) (ob : Obj) : St w n0 (w1.alloc ob) s v := h.read ((Below.refl _ _).alloc (Nat.le_refl _) _)
theorem St.new {w w1 : World} {n0 : Nat} {s : FS} {v : PV} (h : St w n0 w1 s v) : s.o w1.heap.size = .none ∧ n0 ≤ w1.heap.size := ⟨h.mem.fresh _ (Nat.le_refl _), by have := h.mem.fne; rw [h.fb] at this; omega⟩
set_option maxRecDepth 100000 in
set_option maxHeartbeats 4000000 in
theorem totalsLaw (L : List Act4) (a : Option Addr) (cap : Nat) (w : World) (h : InA w a L cap) :
    Calls Try.prog 4 #[.slice a L.length cap] w fun r w' => r = .returned (.bool true) ∧ Below w.heap.size w w' := by
  have hcap := h.cap
  have hlen := h.len
  have HI0 := Lib.hid h
  clear h
  go_enter Try.func4, Try.ntmps4
  go_wp2_with fail
  refine (sanity_any w).mono ?_
  rintro e w0 ⟨rfl, hb0⟩
  have HI := Lib.hid (HI0.out.below hb0 (Nat.le_refl _))
  have HB0 := Lib.hid hb0
  clear hb0 HI0
  go_wp2_with fail
  refine (played_any L a cap w0 HI.out).mono ?_
  rintro e w1 ⟨rfl, s, v, hS, hR⟩
  have S0 := Lib.hid hS
  have R := Lib.hid hR
  have G : RowKit.Hid (Good v) := hR.good
  have N : RowKit.Hid (Nine v) := hR.nine
  have HT := Lib.hid (good_tot G.out)
  clear hS hR
  go_wp2_with fail
  go_loopw [5] (fun i wr => ∃ k : Nat, k ≤ 9 ∧ i = .int .i64 ((k : Int) + 1) ∧ St w0 w0.heap.size wr s v) (fun i _ => 10 - (intOf i).toNat)
  case atStart => exact ⟨0, by omega, rfl, S0.out⟩
  case round =>
    obtain ⟨k, hk, rfl, hS⟩ := hrel
    have S1 := Lib.hid hS
    clear hS S0
    by_cases h9 : k < 9
    · by_cases hid : ((k : Int) + 1) ∈ v.ids
      · go_wp2_with fail
        have key := fund_st (x := (k : Int) + 1) S1.out.mem S1.out.pv (fund5_in hid) (decide_eq_true hid) (by omega) (by omega)
        rw [S1.out.fb] at key
        refine key.mono ?_
        clear key
        rintro e w2 ⟨rfl, hb⟩
        have S2 := Lib.hid (S1.out.read hb)
        clear hb S1
        have S3 := Lib.hid (S2.out.alloc (.cells #[.int .i64 ((k : Int) + 1), .int .i64 (v.pa ((k : Int) + 1)), .int .i64 (v.al ((k : Int) + 1)), .int .i64 (v.sp ((k : Int) + 1)), .int .i64 (v.en ((k : Int) + 1))] 31))
        have K3 := Lib.hid (Blk.new w2 #[.int .i64 ((k : Int) + 1), .int .i64 (v.pa ((k : Int) + 1)), .int .i64 (v.al ((k : Int) + 1)), .int .i64 (v.sp ((k : Int) + 1)), .int .i64 (v.en ((k : Int) + 1))] 31)
        have O3 := Lib.hid S2.out.new.1
        have hz3 := S2.out.new.2
        have m1 := G.out.money.1
        have m2 := G.out.money.2.1
        have m3 := G.out.money.2.2
        have i1 := m1.nn _ hid
        have i2 := m2.nn _ hid
        have i3 := m3.nn _ hid
        have j1 := Int.le_trans (le_sum v.al v.ids m1.nn hid) m1.le
        have j2 := Int.le_trans (le_sum v.sp v.ids m2.nn hid) m2.le
        have j3 := Int.le_trans (le_sum v.en v.ids m3.nn hid) m3.le
        have M1 := Lib.hid m1
        have M2 := Lib.hid m2
        have M3 := Lib.hid m3
        have E1 := Lib.hid (kidsTo_all G.out N.out v.al hid)
        have E2 := Lib.hid (kidsTo_all G.out N.out v.sp hid)
        have E3 := Lib.hid (kidsTo_all G.out N.out v.en hid)
        have ET := Lib.hid (tot5_in hid)
        clear m1 m2 m3 hid
        obtain ⟨P, hP⟩ : ∃ P, v.pa ((k : Int) + 1) = P := ⟨_, rfl⟩
        obtain ⟨A, hA⟩ : ∃ P, v.al ((k : Int) + 1) = P := ⟨_, rfl⟩
        obtain ⟨B, hB⟩ : ∃ P, v.sp ((k : Int) + 1) = P := ⟨_, rfl⟩
        obtain ⟨C, hC⟩ : ∃ P, v.en ((k : Int) + 1) = P := ⟨_, rfl⟩
        rw [hP, hA, hB, hC] at S3 K3
        rw [hA] at i1 j1 E1
        rw [hB] at i2 j2 E2
        rw [hC] at i3 j3 E3
        rw [hP] at ET
        rw [hP, hA, hB, hC]
        clear hP hA hB hC S2
        go_wp2_with fail
        generalize w2.alloc (.cells #[.int .i64 ((k : Int) + 1), .int .i64 P, .int .i64 A, .int .i64 B, .int .i64 C] 31) = W3 at *
        generalize w2.heap.size = X at *
        go_loopw [8] (fun i wr => ∃ n : Nat, n ≤ 9 ∧ i = .int .i64 ((n : Int) + 1) ∧ St w0 w0.heap.size wr s v ∧ Blk wr X #[.int .i64 ((k : Int) + 1), .int .i64 P, .int .i64 (A + v.kidsTo v.al ((k : Int) + 1) n), .int .i64 (B + v.kidsTo v.sp ((k : Int) + 1) n), .int .i64 (C + v.kidsTo v.en ((k : Int) + 1) n)] 31) (fun i _ => 10 - (intOf i).toNat)
        case atStart => exact ⟨0, by omega, rfl, S3.out, by simpa [PV.kidsTo, sumTo] using K3.out⟩
        case round =>
          obtain ⟨n, hn, rfl, hS, hK⟩ := hrel
          have S4 := Lib.hid hS
          have K4 := Lib.hid hK
          clear hS hK S3 K3
          by_cases hn9 : n < 9
          · have hc0 : ((n : Int) + 1 == 0) = false := by simp; omega
            by_cases hc : ((n : Int) + 1) ∈ v.ids
            · go_wp2_with fail
              have key := fund_st (x := (n : Int) + 1) S4.out.mem S4.out.pv (fund5_in hc) (decide_eq_true hc) (by omega) (by omega)
              rw [S4.out.fb] at key
              refine key.mono ?_
              clear key
              rintro e w5 ⟨rfl, hb⟩
              have S5 := Lib.hid (S4.out.read hb)
              have K5 := Lib.hid (K4.out.below hb K4.out.lt)
              clear hb S4 K4
              have HC := Lib.hid hc
              clear hc
              by_cases hp : v.pa ((n : Int) + 1) = (k : Int) + 1
              · have hpb : (v.pa ((n : Int) + 1) != (k : Int) + 1) = false := by simpa using hp
                have HP := Lib.hid hp
                clear hp
                go_wp2_with fail
                have S6 := Lib.hid (S5.out.alloc (.cells #[.int .i64 ((n : Int) + 1), .int .i64 (v.pa ((n : Int) + 1)), .int .i64 (v.al ((n : Int) + 1)), .int .i64 (v.sp ((n : Int) + 1)), .int .i64 (v.en ((n : Int) + 1))] 31))
                have K6 := Lib.hid (K5.out.alloc (.cells #[.int .i64 ((n : Int) + 1), .int .i64 (v.pa ((n : Int) + 1)), .int .i64 (v.al ((n : Int) + 1)), .int .i64 (v.sp ((n : Int) + 1)), .int .i64 (v.en ((n : Int) + 1))] 31))
                clear S5 K5
                generalize w5.alloc (.cells #[.int .i64 ((n : Int) + 1), .int .i64 (v.pa ((n : Int) + 1)), .int .i64 (v.al ((n : Int) + 1)), .int .i64 (v.sp ((n : Int) + 1)), .int .i64 (v.en ((n : Int) + 1))] 31) = W6 at *
                have key := total_st (x := (n : Int) + 1) S6.out.mem S6.out.pv G.out HT.out (tot5_in HC.out) (by omega) (by omega)
                rw [S6.out.fb] at key
                refine key.mono ?_
                clear key
                rintro e w7 ⟨rfl, hb⟩
                have S7 := Lib.hid (S6.out.read hb)
                have K7 := Lib.hid (K6.out.below hb K6.out.lt)
                clear hb S6 K6
                have b1 := T_bd G.out M1.out HC.out
                have b2 := T_bd G.out M2.out HC.out
                have b3 := T_bd G.out M3.out HC.out
                have d1 := kidsTo_bd G.out M1.out ((k : Int) + 1) n
                have d2 := kidsTo_bd G.out M2.out ((k : Int) + 1) n
                have d3 := kidsTo_bd G.out M3.out ((k : Int) + 1) n
                have F1 := Lib.hid (kidsTo_yes (f := v.al) HC.out HP.out)
                have F2 := Lib.hid (kidsTo_yes (f := v.sp) HC.out HP.out)
                have F3 := Lib.hid (kidsTo_yes (f := v.en) HC.out HP.out)
                obtain ⟨SA, hSA⟩ : ∃ z, v.kidsTo v.al ((k : Int) + 1) n = z := ⟨_, rfl⟩
                obtain ⟨SB, hSB⟩ : ∃ z, v.kidsTo v.sp ((k : Int) + 1) n = z := ⟨_, rfl⟩
                obtain ⟨SC, hSC⟩ : ∃ z, v.kidsTo v.en ((k : Int) + 1) n = z := ⟨_, rfl⟩
                obtain ⟨TA, hTA⟩ : ∃ z, v.T v.al ((n : Int) + 1) = z := ⟨_, rfl⟩
                obtain ⟨TB', hTB⟩ : ∃ z, v.T v.sp ((n : Int) + 1) = z := ⟨_, rfl⟩
                obtain ⟨TC, hTC⟩ : ∃ z, v.T v.en ((n : Int) + 1) = z := ⟨_, rfl⟩
                rw [hSA, hTA] at F1
                rw [hSB, hTB] at F2
                rw [hSC, hTC] at F3
                rw [hSA, hSB, hSC] at K7
                rw [hSA] at d1
                rw [hSB] at d2
                rw [hSC] at d3
                rw [hTA] at b1
                rw [hTB] at b2
                rw [hTC] at b3
                rw [hTA, hTB, hTC]
                clear hSA hSB hSC hTA hTB hTC
                have S8 := Lib.hid (S7.out.alloc (.cells #[.int .i64 ((n : Int) + 1), .int .i64 (v.pa ((n : Int) + 1)), .int .i64 TA, .int .i64 TB', .int .i64 TC] 31))
                have K8 := Lib.hid (K7.out.alloc (.cells #[.int .i64 ((n : Int) + 1), .int .i64 (v.pa ((n : Int) + 1)), .int .i64 TA, .int .i64 TB', .int .i64 TC] 31))
                have Y8 := Lib.hid (Blk.new w7 #[.int .i64 ((n : Int) + 1), .int .i64 (v.pa ((n : Int) + 1)), .int .i64 TA, .int .i64 TB', .int .i64 TC] 31)
                have hXY : X ≠ w7.heap.size := by have := K7.out.lt; omega
                clear S7 K7
                obtain ⟨c0, c1, c2, c3, c4⟩ := five K8.out
                obtain ⟨y0, y1, y2, y3, y4⟩ := five Y8.out
                have cf := K8.out.frozen
                have lx := K8.out.lt
                go_wp2_with fail
                refine ⟨⟨n + 1, by omega, by go_num, ((S8.out.setLocal _ _ hz3 O3.out).setLocal _ _ hz3 O3.out).setLocal _ _ hz3 O3.out, ?_⟩, by simp [intOf]; omega⟩
                rw [F1.out, F2.out, F3.out, ← Int.add_assoc, ← Int.add_assoc, ← Int.add_assoc]
                exact set3 K8.out
              · have hpb : (v.pa ((n : Int) + 1) != (k : Int) + 1) = true := by simpa using hp
                have HP := Lib.hid hp
                clear hp
                go_wp2_with fail
                refine ⟨⟨n + 1, by omega, by go_num, S5.out.alloc _, ?_⟩, by simp [intOf]; omega⟩
                rw [kidsTo_no (.inr HP.out), kidsTo_no (.inr HP.out), kidsTo_no (.inr HP.out)]
                exact K5.out.alloc _
            · go_wp2_with fail
              have key := fund_st (x := (n : Int) + 1) S4.out.mem S4.out.pv (fund5_out hc) (decide_eq_false hc) (by omega) (by omega)
              rw [S4.out.fb] at key
              refine key.mono ?_
              clear key
              rintro e w5 ⟨rfl, hb⟩
              have S5 := Lib.hid (S4.out.read hb)
              have K5 := Lib.hid (K4.out.below hb K4.out.lt)
              clear hb S4 K4
              go_wp2_with fail
              refine ⟨⟨n + 1, by omega, by go_num, S5.out.alloc _, ?_⟩, by simp [intOf]; omega⟩
              rw [kidsTo_no (.inl hc), kidsTo_no (.inl hc), kidsTo_no (.inl hc)]
              exact K5.out.alloc _
          · obtain rfl : n = 9 := by omega
            rw [E1.out, E2.out, E3.out] at K4
            have hTr : RowKit.Hid (∀ y, Calls Try.prog 20 #[.pointer (some ⟨w0.heap.size, 0, none⟩), .int .i64 ((k : Int) + 1)] (over wr y) fun r w' => r = .returned (.agg #[.int .i64 ((k : Int) + 1), .int .i64 P, .int .i64 (v.T v.al ((k : Int) + 1)), .int .i64 (v.T v.sp ((k : Int) + 1)), .int .i64 (v.T v.en ((k : Int) + 1))]) ∧ Below (over wr y).heap.size (over wr y) w') := fun y => by
              have h1 := S4.out.read (below_over wr y)
              have := total_st (x := (k : Int) + 1) h1.mem h1.pv G.out HT.out ET.out (by omega) (by omega)
              rwa [h1.fb] at this
            obtain ⟨c0, c1, c2, c3, c4⟩ := five K4.out
            have SS := S4
            go_wp2_with fail
            refine wp_region_over (by kernel_rfl) (by kernel_rfl) ?_
            repeat (go_big_quiet_step ((go_at_call 20; exact inOver (hTr.out _))))
            refine wpQuiet_nil ?_
            rintro _ ⟨nq, rfl⟩
            go_wp2_with fail
            exact ⟨⟨k + 1, by omega, by go_num, SS.out.read (below_over _ nq)⟩, by simp [intOf]; omega⟩
      · go_wp2_with fail
        have key := fund_st (x := (k : Int) + 1) S1.out.mem S1.out.pv (fund5_out hid) (decide_eq_false hid) (by omega) (by omega)
        rw [S1.out.fb] at key
        refine key.mono ?_
        clear key
        rintro e w2 ⟨rfl, hb⟩
        have S2 := Lib.hid (S1.out.read hb)
        clear hb S1
        have S3 := Lib.hid (S2.out.alloc (.cells #[.int .i64 0, .int .i64 0, .int .i64 0, .int .i64 0, .int .i64 0] 31))
        have K3 := Lib.hid (Blk.new w2 #[.int .i64 0, .int .i64 0, .int .i64 0, .int .i64 0, .int .i64 0] 31)
        have ET := Lib.hid (tot5_out hid)
        clear S2
        go_wp2_with fail
        generalize w2.alloc (.cells #[.int .i64 0, .int .i64 0, .int .i64 0, .int .i64 0, .int .i64 0] 31) = W3 at *
        generalize w2.heap.size = X at *
        go_loopw [8] (fun i wr => i = .int .i64 1 ∧ wr = W3) (fun i _ => 0)
        case atStart => exact ⟨rfl, rfl⟩
        case round =>
          obtain ⟨rfl, rfl⟩ := hrel
          have hTr : RowKit.Hid (∀ y, Calls Try.prog 20 #[.pointer (some ⟨w0.heap.size, 0, none⟩), .int .i64 ((k : Int) + 1)] (over wr y) fun r w' => r = .returned (.agg #[.int .i64 0, .int .i64 0, .int .i64 0, .int .i64 0, .int .i64 0]) ∧ Below (over wr y).heap.size (over wr y) w') := fun y => by
            have h1 := S3.out.read (below_over wr y)
            have := total_st (x := (k : Int) + 1) h1.mem h1.pv G.out HT.out ET.out (by omega) (by omega)
            rwa [h1.fb] at this
          obtain ⟨c0, c1, c2, c3, c4⟩ := five K3.out
          have SS := S3
          go_wp2_with fail
          refine wp_region_over (by kernel_rfl) (by kernel_rfl) ?_
          repeat (go_big_quiet_step ((go_at_call 20; exact inOver (hTr.out _))))
          refine wpQuiet_nil ?_
          rintro _ ⟨nq, rfl⟩
          go_wp2_with fail
          exact ⟨⟨k + 1, by omega, by go_num, SS.out.read (below_over _ nq)⟩, by simp [intOf]; omega⟩
    · obtain rfl : k = 9 := by omega
      have h77 : (77 : Int) ∉ v.ids := fun h => by have := N.out 77 h; omega
      have ET := Lib.hid (tot5_out h77)
      clear h77
      go_wp2_with fail
      have key := total_st (x := 77) S1.out.mem S1.out.pv G.out HT.out ET.out (by omega) (by omega)
      rw [S1.out.fb] at key
      refine key.mono ?_
      clear key
      rintro e w7 ⟨rfl, hb⟩
      have S7 := Lib.hid (S1.out.read hb)
      clear hb
      go_wp2_with fail
      go_ret
      exact ⟨rfl, HB0.out.trans (S7.out.below.mono HB0.out.size)⟩
end Go.Proofs.Ytmnkgjgaileokaa
