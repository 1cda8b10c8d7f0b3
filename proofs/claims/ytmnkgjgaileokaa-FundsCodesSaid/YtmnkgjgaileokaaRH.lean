/- The reference's Total. -/
import Derived.Test.YtmnkgjgaileokaaRG
namespace Go.Proofs.Ytmnkgjgaileokaa
open Go.RowKit

theorem totR {v : PV} (h : Good v) (f : Int → Int) : ∀ (n : Nat) (x : Int), x ∈ v.ids → totF f v.kidR n x = totF f v.kids n x
  | 0, x, _ => rfl
  | n + 1, x, hx => by
    show f x + ((v.kidR x).map (totF f v.kidR n)).sum = f x + ((v.kids x).map (totF f v.kids n)).sum
    rw [List.map_congr_left (f := totF f v.kidR n) (g := totF f v.kids n) fun y hy => totR h f n y ((kidR_mem v).1 hy).1]
    rw [perm_sum ((kidR_perm h hx).map (totF f v.kids n))]
/-- The totals of those below x, as far as place k. -/
def PV.partR (v : PV) (T : Int → Int) (x : Int) (k : Nat) : Int := (((v.sorted.take k).filter fun y => v.pa y == x).map T).sum
theorem partR_yes {v : PV} {T : Int → Int} {x : Int} {k : Nat} (hk : k < v.sorted.length) (h : v.pa v.sorted[k] = x) : v.partR T x (k + 1) = v.partR T x k + T v.sorted[k] := by
  unfold PV.partR
  rw [filter_take _ _ _ hk, if_pos (by simpa using h), List.map_append, List.sum_append]; simp
theorem partR_no {v : PV} {T : Int → Int} {x : Int} {k : Nat} (hk : k < v.sorted.length) (h : v.pa v.sorted[k] ≠ x) : v.partR T x (k + 1) = v.partR T x k := by
  unfold PV.partR
  rw [filter_take _ _ _ hk, if_neg (by simpa using h), List.append_nil]
theorem partR_all (v : PV) (T : Int → Int) (x : Int) : v.partR T x v.sorted.length = ((v.kidR x).map T).sum := by
  unfold PV.partR; rw [List.take_length]; rfl
theorem partR_bd {v : PV} {T : Int → Int} {x : Int} (h : ∀ y ∈ v.ids, 0 ≤ T y ∧ T y ≤ 1000000000000000) (hs : ((v.kidR x).map T).sum ≤ 1000000000000000) (k : Nat) : 0 ≤ v.partR T x k ∧ v.partR T x k ≤ 1000000000000000 := by
  have h1 := sum_nonneg T ((v.sorted.take k).filter fun y => v.pa y == x) fun y hy => (h y ((sorted_mem v y).1 (List.mem_of_mem_take (List.mem_filter.1 hy).1))).1
  have h2 := sum_nonneg T ((v.sorted.drop k).filter fun y => v.pa y == x) fun y hy => (h y ((sorted_mem v y).1 (List.mem_of_mem_drop (List.mem_filter.1 hy).1))).1
  have e : v.kidR x = (v.sorted.take k).filter (fun y => v.pa y == x) ++ (v.sorted.drop k).filter (fun y => v.pa y == x) := by
    unfold PV.kidR; rw [← List.filter_append, List.take_append_drop]
  rw [e, List.map_append, List.sum_append] at hs
  unfold PV.partR
  omega
structure Tots (v : PV) (TA TS TE : Int → Int) : Prop where
  a : ∀ y ∈ v.ids, 0 ≤ TA y ∧ TA y ≤ 1000000000000000
  s : ∀ y ∈ v.ids, 0 ≤ TS y ∧ TS y ≤ 1000000000000000
  e : ∀ y ∈ v.ids, 0 ≤ TE y ∧ TE y ≤ 1000000000000000
set_option maxRecDepth 100000 in
set_option maxHeartbeats 8000000 in
theorem rtot_step {v : PV} (hg : Good v) {rb : Nat} {sl : Value} {TA TS TE : Int → Int} (ht : Tots v TA TS TE) {x : Int} (hx : x ∈ v.ids) (ka : ((v.kidR x).map TA).sum ≤ 1000000000000000) (ks : ((v.kidR x).map TS).sum ≤ 1000000000000000) (ke : ((v.kidR x).map TE).sum ≤ 1000000000000000)
    (ih : ∀ y ∈ v.kidR x, ∀ w, RMem w rb v sl → Calls Try.prog 48 #[.pointer (some ⟨rb, 0, none⟩), .int .i64 y] w fun r w' => r = .returned (.agg #[.int .i64 y, .int .i64 (v.pa y), .int .i64 (TA y), .int .i64 (TS y), .int .i64 (TE y)]) ∧ Below w.heap.size w w')
    (w : World) (h : RMem w rb v sl) :
    Calls Try.prog 48 #[.pointer (some ⟨rb, 0, none⟩), .int .i64 x] w fun r w' => r = .returned (.agg #[.int .i64 x, .int .i64 (v.pa x), .int .i64 (v.al x + v.partR TA x v.sorted.length), .int .i64 (v.sp x + v.partR TS x v.sorted.length), .int .i64 (v.en x + v.partR TE x v.sorted.length)]) ∧ Below w.heap.size w w' := by
  have hb0 : Below w.heap.size w (w.alloc (.cells #[.int .i64 0, .int .i64 0, .int .i64 0, .int .i64 0, .int .i64 0] 31)) := (Below.refl _ _).alloc (Nat.le_refl _) _
  have H0 := Lib.hid (h.below hb0)
  have B0 := Lib.hid hb0
  have R0 := Lib.hid (Blk.new w #[.int .i64 0, .int .i64 0, .int .i64 0, .int .i64 0, .int .i64 0] 31)
  have HIH := Lib.hid ih
  have HT := Lib.hid ht
  have HG := Lib.hid hg
  have HX := Lib.hid hx
  obtain ⟨a, cap, rfl, hc1, hc2⟩ := h.row.form
  have hlen : v.sorted.length ≤ 10000 := by rw [sorted_len]; exact hg.len
  obtain ⟨⟨b1, b2⟩, ⟨b3, b4⟩, ⟨b5, b6⟩⟩ := hg.bd hx
  have KA := Lib.hid ka
  have KS := Lib.hid ks
  have KE := Lib.hid ke
  clear h hb0 ih ht hg hx ka ks ke
  go_enter Try.func48, Try.ntmps48
  go_wp2_with fail
  generalize w.alloc (.cells #[.int .i64 0, .int .i64 0, .int .i64 0, .int .i64 0, .int .i64 0] 31) = W0 at *
  have key := rfund_any H0.out HG.out (x := x)
  rw [fund5_in HX.out, decide_eq_true HX.out] at key
  refine key.mono ?_
  clear key
  rintro e w1 ⟨rfl, hb⟩
  have H1 := Lib.hid ((H0.out.below hb).below ((Below.refl _ w1).alloc (Nat.le_refl _) (.cells #[.int .i64 x, .int .i64 (v.pa x), .int .i64 (v.al x), .int .i64 (v.sp x), .int .i64 (v.en x)] 31)))
  have B1 := Lib.hid ((B0.out.trans (hb.mono B0.out.size)).alloc (by have := B0.out.size; have := hb.size; omega) (.cells #[.int .i64 x, .int .i64 (v.pa x), .int .i64 (v.al x), .int .i64 (v.sp x), .int .i64 (v.en x)] 31))
  have R1 := Lib.hid ((R0.out.below hb R0.out.lt).alloc (.cells #[.int .i64 x, .int .i64 (v.pa x), .int .i64 (v.al x), .int .i64 (v.sp x), .int .i64 (v.en x)] 31))
  have O1 := Lib.hid (Blk.new w1 #[.int .i64 x, .int .i64 (v.pa x), .int .i64 (v.al x), .int .i64 (v.sp x), .int .i64 (v.en x)] 31)
  have hne : w.heap.size ≠ w1.heap.size := by have := B0.out.size; have := hb.size; have := R0.out.lt; omega
  have hge : w.heap.size ≤ w1.heap.size := by have := B0.out.size; have := hb.size; omega
  have hrb : rb ≠ w1.heap.size := by have := (H0.out.below hb).hd.lt; omega
  have hgb : ∀ r, (Value.slice a v.sorted.length cap).ownBlock = some r → r ≠ w1.heap.size := fun r hr => by have := (H0.out.below hb).row.lt hr; omega
  have HGB := Lib.hid hgb
  clear hb H0 B0 R0 hgb
  go_wp2_with fail
  generalize w1.alloc (.cells #[.int .i64 x, .int .i64 (v.pa x), .int .i64 (v.al x), .int .i64 (v.sp x), .int .i64 (v.en x)] 31) = W1 at *
  generalize w1.heap.size = X at *
  go_loopw [7] (fun i wr => ∃ k : Nat, k ≤ v.sorted.length ∧ i = .int .i64 k ∧ Below w.heap.size w wr ∧ RMem wr rb v (.slice a v.sorted.length cap) ∧ Blk wr w.heap.size #[.int .i64 0, .int .i64 0, .int .i64 0, .int .i64 0, .int .i64 0] 31 ∧
    Blk wr X #[.int .i64 x, .int .i64 (v.pa x), .int .i64 (v.al x + v.partR TA x k), .int .i64 (v.sp x + v.partR TS x k), .int .i64 (v.en x + v.partR TE x k)] 31) (fun i _ => v.sorted.length - (intOf i).toNat)
  case atStart => exact ⟨0, by omega, rfl, B1.out, H1.out, R1.out, by simpa [PV.partR] using O1.out⟩
  case round =>
    obtain ⟨k, hk, rfl, hB, hH, hR, hO⟩ := hrel
    have B2 := Lib.hid hB
    have H2 := Lib.hid hH
    have R2 := Lib.hid hR
    have O2 := Lib.hid hO
    clear hB hH hR hO B1 H1 R1 O1
    have c0 : wr.cell? ⟨rb, 0, none⟩ = some (.slice a v.sorted.length cap) := H2.out.hd.cell 0
    have hz := H2.out.hd.lt
    by_cases hkl : k < v.sorted.length
    · obtain ⟨g, cap', e, hg', _, _, hA⟩ := H2.out.row.at_ k hkl
      cases e
      obtain ⟨y, hy⟩ : ∃ y, v.sorted[k] = y := ⟨_, rfl⟩
      have hyi : y ∈ v.ids := by rw [← hy]; exact (sorted_mem v _).1 (List.getElem_mem hkl)
      rw [hy] at hA
      have p0 : wr.cell? ⟨g, k * 5, none⟩ = some (.int .i64 y) := hA.c0
      have p1 : wr.cell? ⟨g, k * 5 + 1, none⟩ = some (.int .i64 (v.pa y)) := hA.c1
      have HY := Lib.hid hy
      have HYI := Lib.hid hyi
      clear hA hy hyi
      by_cases hpy : v.pa y = x
      · have hpb : (v.pa y == x) = true := by simpa using hpy
        have e1 := partR_yes (T := TA) (x := x) hkl (by rw [HY.out]; exact hpy)
        have e2 := partR_yes (T := TS) (x := x) hkl (by rw [HY.out]; exact hpy)
        have e3 := partR_yes (T := TE) (x := x) hkl (by rw [HY.out]; exact hpy)
        rw [HY.out] at e1 e2 e3
        have E1 := Lib.hid e1
        have E2 := Lib.hid e2
        have E3 := Lib.hid e3
        have d1 := partR_bd (x := x) HT.out.a KA.out k
        have d2 := partR_bd (x := x) HT.out.s KS.out k
        have d3 := partR_bd (x := x) HT.out.e KE.out k
        have f1 := HT.out.a y HYI.out
        have f2 := HT.out.s y HYI.out
        have f3 := HT.out.e y HYI.out
        have key := Lib.hid (HIH.out y ((kidR_mem v).2 ⟨HYI.out, hpy⟩) wr H2.out)
        obtain ⟨SA, hSA⟩ : ∃ z, v.partR TA x k = z := ⟨_, rfl⟩
        obtain ⟨SB, hSB⟩ : ∃ z, v.partR TS x k = z := ⟨_, rfl⟩
        obtain ⟨SC, hSC⟩ : ∃ z, v.partR TE x k = z := ⟨_, rfl⟩
        rw [hSA] at E1 d1
        rw [hSB] at E2 d2
        rw [hSC] at E3 d3
        rw [hSA, hSB, hSC] at O2
        clear e1 e2 e3 hpy hSA hSB hSC
        obtain ⟨PY, hPY⟩ : ∃ z, v.pa y = z := ⟨_, rfl⟩
        obtain ⟨UA, hUA⟩ : ∃ z, TA y = z := ⟨_, rfl⟩
        obtain ⟨UB, hUB⟩ : ∃ z, TS y = z := ⟨_, rfl⟩
        obtain ⟨UC, hUC⟩ : ∃ z, TE y = z := ⟨_, rfl⟩
        rw [hPY] at p1 hpb
        rw [hPY, hUA, hUB, hUC] at key
        rw [hUA] at E1 f1
        rw [hUB] at E2 f2
        rw [hUC] at E3 f3
        clear hPY hUA hUB hUC
        have b7 : -10 ≤ v.al x + SA ∧ v.al x + SA + UA ≤ 9000000000000000000 ∧ 0 ≤ v.al x + SA + UA := by omega
        have b8 : -10 ≤ v.sp x + SB ∧ v.sp x + SB + UB ≤ 9000000000000000000 ∧ 0 ≤ v.sp x + SB + UB := by omega
        have b9 : -10 ≤ v.en x + SC ∧ v.en x + SC + UC ≤ 9000000000000000000 ∧ 0 ≤ v.en x + SC + UC := by omega
        go_wp2_with fail
        (with_reducible refine key.out.mono ?_)
        rintro e w3 ⟨rfl, hb⟩
        have H3 := Lib.hid ((H2.out.below hb).below ((Below.refl _ w3).alloc (Nat.le_refl _) (.cells #[.int .i64 y, .int .i64 PY, .int .i64 UA, .int .i64 UB, .int .i64 UC] 31)))
        have B3 := Lib.hid ((B2.out.trans (hb.mono B2.out.size)).alloc (by have := B2.out.size; have := hb.size; omega) (.cells #[.int .i64 y, .int .i64 PY, .int .i64 UA, .int .i64 UB, .int .i64 UC] 31))
        have R3 := Lib.hid ((R2.out.below hb R2.out.lt).alloc (.cells #[.int .i64 y, .int .i64 PY, .int .i64 UA, .int .i64 UB, .int .i64 UC] 31))
        have O3 := Lib.hid ((O2.out.below hb O2.out.lt).alloc (.cells #[.int .i64 y, .int .i64 PY, .int .i64 UA, .int .i64 UB, .int .i64 UC] 31))
        have Y3 := Lib.hid (Blk.new w3 #[.int .i64 y, .int .i64 PY, .int .i64 UA, .int .i64 UB, .int .i64 UC] 31)
        have hXY : X ≠ w3.heap.size := by have := (O2.out.below hb O2.out.lt).lt; omega
        clear hb H2 B2 R2 O2 c0 hz p0 p1 hg' key
        obtain ⟨o0, o1, o2, o3, o4⟩ := five O3.out
        obtain ⟨y0, y1, y2, y3, y4⟩ := five Y3.out
        have of := O3.out.frozen
        have lx := O3.out.lt
        go_wp2_with fail
        refine ⟨⟨k + 1, by omega, by go_num, ?_, ?_, ?_, ?_⟩, by simp [intOf]; omega⟩
        · exact ((B3.out.setCell (by exact hge) _).setCell (by exact hge) _).setCell (by exact hge) _
        · have hset : ∀ (W : World) (o : Nat) (z : Value), RMem W rb v (.slice (some ⟨g, 0, none⟩) v.sorted.length cap) → RMem (W.setCell ⟨X, o, none⟩ z) rb v (.slice (some ⟨g, 0, none⟩) v.sorted.length cap) := fun W o z hW =>
            ⟨hW.hd.set_ne _ _ hrb, hW.row.same fun r hr => Below.heap_setCell _ _ _ _ (HGB.out r hr), hW.ne⟩
          exact hset _ _ _ (hset _ _ _ (hset _ _ _ H3.out))
        · exact ((R3.out.set_ne _ _ (by show w.heap.size ≠ X; exact hne)).set_ne _ _ (by show w.heap.size ≠ X; exact hne)).set_ne _ _ (by show w.heap.size ≠ X; exact hne)
        · rw [E1.out, E2.out, E3.out, ← Int.add_assoc, ← Int.add_assoc, ← Int.add_assoc]
          exact set3 O3.out
      · have hpb : (v.pa y == x) = false := by simpa using hpy
        have e1 := partR_no (T := TA) (x := x) hkl (by rw [HY.out]; exact hpy)
        have e2 := partR_no (T := TS) (x := x) hkl (by rw [HY.out]; exact hpy)
        have e3 := partR_no (T := TE) (x := x) hkl (by rw [HY.out]; exact hpy)
        have O3 := O2.out
        rw [← e1, ← e2, ← e3] at O3
        have O4 := Lib.hid O3
        clear e1 e2 e3 O3 hpy
        go_wp2_with fail
        exact ⟨⟨k + 1, by omega, by go_num, B2.out, H2.out, R2.out, O4.out⟩, by simp [intOf]; omega⟩
    · obtain rfl : k = v.sorted.length := by omega
      obtain ⟨o0, o1, o2, o3, o4⟩ := five O2.out
      obtain ⟨r0, r1, r2, r3, r4⟩ := five R2.out
      have of := R2.out.frozen
      go_wp2_with fail
      refine bodyPost_ret (v := .agg #[.int .i64 x, .int .i64 (v.pa x), .int .i64 (v.al x + v.partR TA x v.sorted.length), .int .i64 (v.sp x + v.partR TS x v.sorted.length), .int .i64 (v.en x + v.partR TE x v.sorted.length)]) ?_ rfl ⟨rfl, ?_⟩
      · simp [results, Try.results48, go_sem, r0, r1, r2, r3, r4]
      · exact ((((B2.out.setCell (by exact Nat.le_refl _) _).setCell (by exact Nat.le_refl _) _).setCell (by exact Nat.le_refl _) _).setCell (by exact Nat.le_refl _) _).setCell (by exact Nat.le_refl _) _
theorem kids_sum {v : PV} (h : Good v) {f : Int → Int} (hm : Money v f) (n : Nat) {x : Int} (hx : x ∈ v.ids) : ((v.kidR x).map (totF f v.kidR n)).sum ≤ 1000000000000000 := by
  have h1 : totF f v.kidR (n + 1) x = f x + ((v.kidR x).map (totF f v.kidR n)).sum := rfl
  rw [totR h f (n + 1) x hx] at h1
  have h2 := totF_le h.tree hm.nn (n := n + 1) hx
  have h3 := hm.le
  have h4 := hm.nn x hx
  omega
theorem totR_bd {v : PV} (h : Good v) {f : Int → Int} (hm : Money v f) (n : Nat) {x : Int} (hx : x ∈ v.ids) : 0 ≤ totF f v.kidR n x ∧ totF f v.kidR n x ≤ 1000000000000000 := by
  rw [totR h f n x hx]
  exact ⟨totF_nn hm.nn h.fix.kin n x hx, Int.le_trans (totF_le h.tree hm.nn hx) hm.le⟩
theorem rtot_kid {v : PV} (hg : Good v) {rb : Nat} {sl : Value} : ∀ (n : Nat) (x : Int), x ∈ v.ids → Deep v.kidR n x → ∀ w, RMem w rb v sl →
    Calls Try.prog 48 #[.pointer (some ⟨rb, 0, none⟩), .int .i64 x] w fun r w' => r = .returned (.agg #[.int .i64 x, .int .i64 (v.pa x), .int .i64 (totF v.al v.kidR n x), .int .i64 (totF v.sp v.kidR n x), .int .i64 (totF v.en v.kidR n x)]) ∧ Below w.heap.size w w' := by
  obtain ⟨m1, m2, m3⟩ := hg.money
  intro n
  induction n with
  | zero =>
    intro x hx hd w h
    have hk : v.kidR x = [] := hd
    have z : ∀ T : Int → Int, v.partR T x v.sorted.length = 0 := fun T => by rw [partR_all, hk]; rfl
    have key := rtot_step hg (TA := fun _ => 0) (TS := fun _ => 0) (TE := fun _ => 0) ⟨fun _ _ => by omega, fun _ _ => by omega, fun _ _ => by omega⟩ hx (by rw [hk]; simp) (by rw [hk]; simp) (by rw [hk]; simp) (fun y hy => by rw [hk] at hy; cases hy) w h
    rw [z, Int.add_zero, Int.add_zero, Int.add_zero] at key
    exact key
  | succ n ih =>
    intro x hx hd w h
    have key := rtot_step hg (TA := totF v.al v.kidR n) (TS := totF v.sp v.kidR n) (TE := totF v.en v.kidR n) ⟨fun y hy => totR_bd hg m1 n hy, fun y hy => totR_bd hg m2 n hy, fun y hy => totR_bd hg m3 n hy⟩ hx (kids_sum hg m1 n hx) (kids_sum hg m2 n hx) (kids_sum hg m3 n hx)
      (fun y hy w' hw' => ih y ((kidR_mem v).1 hy).1 (hd y hy) w' hw') w h
    rw [partR_all, partR_all, partR_all] at key
    exact key
set_option maxRecDepth 100000 in
set_option maxHeartbeats 4000000 in
theorem rtotal_any {w : World} {rb : Nat} {v : PV} {sl : Value} (h : RMem w rb v sl) (hg : Good v) {x : Int} :
    Calls Try.prog 48 #[.pointer (some ⟨rb, 0, none⟩), .int .i64 x] w fun r w' => r = .returned (.agg (v.tot5 v.ids.length x)) ∧ Below w.heap.size w w' := by
  by_cases hx : x ∈ v.ids
  · have key := rtot_kid hg v.ids.length x hx (kidR_deep hg _ x hx (hg.deep x hx)) w h
    rw [tot5_in hx]
    have e : ∀ f, totF f v.kidR v.ids.length x = v.T f x := fun f => by rw [totR hg f _ x hx]; exact (totF_deep f _ x (hg.deep x hx)).symm
    rw [e, e, e] at key
    exact key
  · rw [tot5_out hx]
    have hb0 : Below w.heap.size w (w.alloc (.cells #[.int .i64 0, .int .i64 0, .int .i64 0, .int .i64 0, .int .i64 0] 31)) := (Below.refl _ _).alloc (Nat.le_refl _) _
    have H0 := Lib.hid (h.below hb0)
    have B0 := Lib.hid hb0
    have R0 := Lib.hid (Blk.new w #[.int .i64 0, .int .i64 0, .int .i64 0, .int .i64 0, .int .i64 0] 31)
    have HG := Lib.hid hg
    have HX := Lib.hid hx
    obtain ⟨a, cap, rfl, hc1, hc2⟩ := h.row.form
    clear h hb0 hg hx
    go_enter Try.func48, Try.ntmps48
    go_wp2_with fail
    generalize w.alloc (.cells #[.int .i64 0, .int .i64 0, .int .i64 0, .int .i64 0, .int .i64 0] 31) = W0 at *
    have key := rfund_any H0.out HG.out (x := x)
    rw [fund5_out HX.out, decide_eq_false HX.out] at key
    refine key.mono ?_
    clear key
    rintro e w1 ⟨rfl, hb⟩
    have H1 := Lib.hid ((H0.out.below hb).below ((Below.refl _ w1).alloc (Nat.le_refl _) (.cells #[.int .i64 0, .int .i64 0, .int .i64 0, .int .i64 0, .int .i64 0] 31)))
    have B1 := Lib.hid ((B0.out.trans (hb.mono B0.out.size)).alloc (by have := B0.out.size; have := hb.size; omega) (.cells #[.int .i64 0, .int .i64 0, .int .i64 0, .int .i64 0, .int .i64 0] 31))
    have R1 := Lib.hid ((R0.out.below hb R0.out.lt).alloc (.cells #[.int .i64 0, .int .i64 0, .int .i64 0, .int .i64 0, .int .i64 0] 31))
    have O1 := Lib.hid (Blk.new w1 #[.int .i64 0, .int .i64 0, .int .i64 0, .int .i64 0, .int .i64 0] 31)
    have hge : w.heap.size ≤ w1.heap.size := by have := B0.out.size; have := hb.size; omega
    clear hb H0 B0 R0
    go_wp2_with fail
    generalize w1.alloc (.cells #[.int .i64 0, .int .i64 0, .int .i64 0, .int .i64 0, .int .i64 0] 31) = W1 at *
    generalize w1.heap.size = X at *
    go_loopw [7] (fun i wr => i = .int .i64 0 ∧ wr = W1) (fun _ _ => 0)
    case atStart => exact ⟨rfl, rfl⟩
    case round =>
      obtain ⟨rfl, rfl⟩ := hrel
      have c0 : wr.cell? ⟨rb, 0, none⟩ = some (.slice a v.sorted.length cap) := H1.out.hd.cell 0
      have hz := H1.out.hd.lt
      obtain ⟨o0, o1, o2, o3, o4⟩ := five O1.out
      obtain ⟨r0, r1, r2, r3, r4⟩ := five R1.out
      have of := R1.out.frozen
      by_cases hN : 0 < v.sorted.length
      all_goals
        go_wp2_with fail
        refine bodyPost_ret (v := .agg #[.int .i64 0, .int .i64 0, .int .i64 0, .int .i64 0, .int .i64 0]) ?_ rfl ⟨rfl, ?_⟩
        · simp [results, Try.results48, go_sem, r0, r1, r2, r3, r4]
        · exact ((((B1.out.setCell (by exact Nat.le_refl _) _).setCell (by exact Nat.le_refl _) _).setCell (by exact Nat.le_refl _) _).setCell (by exact Nat.le_refl _) _).setCell (by exact Nat.le_refl _) _
end Go.Proofs.Ytmnkgjgaileokaa
