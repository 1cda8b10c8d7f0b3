/- The contract of Count: the number of open days of a range. -/
import Derived.Test.YtjikgoeinilnjaaW6
namespace Go.Proofs.Ytjikgoeinilnjaa
open Go.RowKit

theorem wk7_yes {c : Cal} {f n : Int} {k : Nat} (h : c.wk (wkd (f + k)).toNat = true) : wk7 c f n (k + 1) = wk7 c f n k := by simp [wk7, opnW, h]
theorem wk7_no {c : Cal} {f n : Int} {k : Nat} (h : c.wk (wkd (f + k)).toNat = false) : wk7 c f n (k + 1) = wk7 c f n k + (n + 6 - k) / 7 := by simp [wk7, opnW, h]
theorem prd_1 {c : Cal} {f t d : Int} (h : ¬ f ≤ d) : prd c f t d = false := by simp [prd]; omega
theorem prd_2 {c : Cal} {f t d : Int} (h : ¬ d < t) : prd c f t d = false := by simp [prd]; omega
theorem prd_3 {c : Cal} {f t d : Int} {b : Bool} (h : f ≤ d) (h' : d < t) (h2 : c.wk (wkd d).toNat = b) : prd c f t d = !b := by simp [prd, h, h', opnW, h2]

set_option maxRecDepth 100000 in
set_option maxHeartbeats 2000000 in
theorem count_any (c : Cal) (a : Option Addr) (cap : Nat) (f0 t0 : Int) (w : World) (hD : IntSl w a c.days) (hl : c.days.length ≤ 1000)
    (h0 : -1000000000 ≤ f0) (h1 : f0 ≤ 1000000000) (h2 : -3000000000000 ≤ t0) (h3 : t0 ≤ 3000000000000) :
    Calls Try.prog 32 #[.agg #[.bool c.b0, .bool c.b1, .bool c.b2, .bool c.b3, .bool c.b4, .bool c.b5, .bool c.b6, .slice a c.days.length cap], .int .i64 f0, .int .i64 t0] w fun e w' =>
      e = .returned (.int .i64 (cntS c f0 t0)) ∧ Below w.heap.size w w' := by
  obtain ⟨F, hF⟩ : ∃ F, max f0 (-719162) = F := ⟨_, rfl⟩
  obtain ⟨G, hG⟩ : ∃ G, min t0 2932897 = G := ⟨_, rfl⟩
  have bF : -719162 ≤ F ∧ F ≤ 1000000000 := by omega
  have bG : -3000000000000 ≤ G ∧ G ≤ 2932897 := by omega
  by_cases hlt : F < G
  case neg =>
    have HE := Lib.hid (cntS_none (c := c) (f0 := f0) (t0 := t0) (by unfold lo hi; omega))
    go_enter Try.func32, Try.ntmps32
    go_wp2_with fail
    go_ret
    exact ⟨ret_int HE.out.symm, (Below.refl _ _).alloc (Nat.le_refl _) _⟩
  case pos =>
    have HE := Lib.hid (cntS_some (c := c) hF hG hlt)
    obtain ⟨M, hM⟩ : ∃ M, min 7 (G - F) = M := ⟨_, rfl⟩
    have bM : 1 ≤ M ∧ M ≤ 7 ∧ M ≤ G - F := by omega
    obtain ⟨m, rfl⟩ : ∃ m : Nat, M = m := ⟨M.toNat, by omega⟩
    have HS : RowKit.Hid (wk7 c F (G - F) m = wk7 c F (G - F) 7) := by
      rcases Int.lt_or_le (G - F) 7 with h | h
      · exact wk7_short _ _ _ _ (by omega) (by omega) (by omega)
      · obtain rfl : m = 7 := by omega
        rfl
    go_enter Try.func32, Try.ntmps32
    go_wp2_with fail
    go_loop [7, 23] (fun x i => ∃ k : Nat, k ≤ m ∧ i = .int .i64 k ∧ x = .int .i64 (wk7 c F (G - F) k)) (fun _ i => m - (intOf i).toNat)
    case atStart => exact ⟨0, by omega, rfl, rfl⟩
    case round =>
      obtain ⟨k, hk, rfl, rfl⟩ := hrel
      have hb7 := wk7_bd c F (G - F) k (by omega) (by omega) (by omega)
      by_cases hkm : k < m
      · have hw : 0 ≤ wkd (F + k) ∧ wkd (F + k) < 7 := by unfold wkd; omega
        have hc := c.cell a cap 43 w (wkd (F + k)).toNat (by omega)
        cases hb : c.wk (wkd (F + k)).toNat
        · have HB := Lib.hid (wk7_no (n := G - F) hb)
          rw [hb] at hc
          clear hb
          go_wp2_with (go_at_call 30; refine (weekday_any _ _).mono ?_; rintro e w' ⟨rfl, rfl⟩)
          exact ⟨⟨k + 1, by omega, by go_num, vint (by rw [HB.out]; congr 2; omega)⟩, by simp [intOf]; omega⟩
        · have HB := Lib.hid (wk7_yes (n := G - F) hb)
          rw [hb] at hc
          clear hb
          go_wp2_with (go_at_call 30; refine (weekday_any _ _).mono ?_; rintro e w' ⟨rfl, rfl⟩)
          exact ⟨⟨k + 1, by omega, by go_num, vint HB.out.symm⟩, by simp [intOf]; omega⟩
      · obtain rfl : k = m := by omega
        have hb1 : Below w.heap.size w (w.alloc (.cells (c.cells a cap) 43)) := (Below.refl _ _).alloc (Nat.le_refl _) _
        have hz : Blk (w.alloc (.cells (c.cells a cap) 43)) w.heap.size (c.cells a cap) 43 := Blk.new _ _ _
        have HB1 := Lib.hid hb1
        have HZ := Lib.hid hz
        clear hb1 hz
        go_wp2_with fail
        refine (clone_own a c.days cap _ (hD.alloc _) hl).mono ?_
        rintro e w1 ⟨⟨a1, cap1, rfl, ho1⟩, hb1⟩
        go_wp2_with fail
        refine (sort_own a1 c.days cap1 _ _ ho1 hl hb1.size).mono ?_
        rintro e w2 ⟨rfl, ho2, hb2⟩
        have e2 : c.days.length = (c.days.mergeSort fun x y => decide (x ≤ y)).length := by simp
        have hl2 : (c.days.mergeSort fun x y => decide (x ≤ y)).length ≤ 1000 := by rw [← e2]; exact hl
        have HC := Lib.hid (compact_count c F G c.days)
        generalize hS : (c.days.mergeSort fun x y => decide (x ≤ y)) = S at ho2 hl2 HC e2
        clear hS
        go_wp2_with fail
        have hb3 := hb1.trans hb2
        refine (compact_own a1 S cap1 _ _ ho2 hl2 hb3.size).mono ?_
        rintro e w3 ⟨rfl, ho3, hb4⟩
        have hb5 := hb3.trans hb4
        have hz3 := HZ.out.below hb5 (by simp)
        have hB5 := HB1.out.trans (hb5.mono (by simp))
        have hcl := compact_len S
        generalize hS : Go.Lib.compact S = K at *
        have HZ3 := Lib.hid hz3
        have HB5 := Lib.hid hB5
        have HO3 := Lib.hid ho3
        clear hS hz3 hB5 ho3 hb5 hb4 hb3 hb2 hb1 ho2 ho1 e2
        go_wp2_with fail
        have hW := wk7_bd c F (G - F) k (by omega) (by omega) (by omega)
        go_loop [7, 53] (fun x i => ∃ j : Nat, j ≤ K.length ∧ i = .int .i64 j ∧ x = .int .i64 (wk7 c F (G - F) k - cntP c F G K j)) (fun _ i => K.length - (intOf i).toNat)
        case atStart => exact ⟨0, by omega, rfl, by simp [cntP]⟩
        case round =>
          obtain ⟨j, hj, rfl, rfl⟩ := hrel
          have hb7 := cntP_bd c F G K j
          by_cases hjk : j < K.length
          · have hd : ∃ d, d = K.getD j 0 := ⟨_, rfl⟩
            obtain ⟨d, hd⟩ := hd
            have HP := Lib.hid (cntP_succ c F G K j hjk)
            obtain ⟨hcap, hnil | ⟨g, rfl, hg, hgl, hh⟩⟩ := HO3.out
            · rw [hnil] at hjk; simp at hjk
            have hcell := (hh j (by simpa using hjk)).1
            rw [getElem!_pos _ j (by simpa using hjk)] at hcell
            simp only [List.getElem_toArray, Nat.zero_add] at hcell
            rw [← getD_get K 0 hjk, ← hd] at hcell
            rw [← hd] at HP
            clear hd hh
            by_cases g1 : F ≤ d
            · by_cases g2 : d < G
              · have hw : 0 ≤ wkd d ∧ wkd d < 7 := by unfold wkd; omega
                have hwk := (HZ3.out.cell (wkd d).toNat).trans (((Blk.new w (c.cells a cap) 43).cell _).symm.trans (c.cell a cap 43 w (wkd d).toNat (by omega)))
                have g1' : decide (F ≤ d) = true := by simpa using g1
                have g2' : decide (d < G) = true := by simpa using g2
                cases hb : c.wk (wkd d).toNat
                all_goals
                  have HB := Lib.hid (prd_3 (c := c) g1 g2 hb)
                  rw [hb] at hwk
                  clear hb
                  go_wp2_with (go_at_call 30; refine (weekday_any _ _).mono ?_; rintro e w' ⟨rfl, rfl⟩)
                  exact ⟨⟨j + 1, by omega, by go_num, vint (by rw [HP.out, HB.out]; simp; try omega)⟩, by simp [intOf]; omega⟩
              · have g1' : decide (F ≤ d) = true := by simpa using g1
                have g2' : decide (d < G) = false := by simpa using g2
                have HB := Lib.hid (prd_2 (c := c) (f := F) g2)
                go_wp2_with fail
                exact ⟨⟨j + 1, by omega, by go_num, vint (by rw [HP.out, HB.out]; simp)⟩, by simp [intOf]; omega⟩
            · have g1' : decide (F ≤ d) = false := by simpa using g1
              have HB := Lib.hid (prd_1 (c := c) (t := G) g1)
              go_wp2_with fail
              exact ⟨⟨j + 1, by omega, by go_num, vint (by rw [HP.out, HB.out]; simp)⟩, by simp [intOf]; omega⟩
          · have e : j = K.length := by omega
            have HE2 := Lib.hid e
            clear e
            go_wp2_with fail
            go_ret
            refine ⟨ret_int ?_, HB5.out⟩
            rw [HE.out, HE2.out, ← HC.out, ← HS.out, cntP, List.take_length]
end Go.Proofs.Ytjikgoeinilnjaa
