/- The contract of the reference's Count: the same number. -/
import Derived.Test.YtjikgoeinilnjaaW7
namespace Go.Proofs.Ytjikgoeinilnjaa
open Go.RowKit

theorem refD_yes {c : Cal} {F G : Int} {l : List Int} {k : Nat} (hp : prd c F G (l.getD k 0) = true) (h : l.getD k 0 ∉ l.take k) : refD c F G l (k + 1) = refD c F G l k + 1 := by
  rw [refD, if_pos ⟨hp, h⟩]
theorem refD_no1 {c : Cal} {F G : Int} {l : List Int} {k : Nat} (hp : prd c F G (l.getD k 0) = false) : refD c F G l (k + 1) = refD c F G l k := by
  rw [refD, if_neg (by rw [hp]; simp)]; simp
theorem refD_no2 {c : Cal} {F G : Int} {l : List Int} {k : Nat} (h : l.getD k 0 ∈ l.take k) : refD c F G l (k + 1) = refD c F G l k := by
  rw [refD, if_neg (fun e => e.2 h)]; simp
theorem mem_take_succ {l : List Int} {j : Nat} {d : Int} (h : j < l.length) : decide (d ∈ l.take (j + 1)) = (decide (d ∈ l.take j) || decide (l.getD j 0 = d)) := by
  rw [take_succ_getD l j h, Bool.eq_iff_iff]
  simp only [List.mem_append, List.mem_singleton, decide_eq_true_eq, Bool.or_eq_true]
  constructor
  · rintro (h | h)
    · exact .inl h
    · exact .inr h.symm
  · rintro (h | h)
    · exact .inl h
    · exact .inr h.symm

set_option maxRecDepth 100000 in
set_option maxHeartbeats 2000000 in
theorem refCount_any (c : Cal) (a : Option Addr) (cap : Nat) (f0 t0 : Int) (w : World) (hD : IntSl w a c.days) (hl : c.days.length ≤ 1000)
    (h0 : -1000000000 ≤ f0) (h1 : f0 ≤ 1000000000) (h2 : -3000000000000 ≤ t0) (h3 : t0 ≤ 3000000000000) :
    Calls Try.prog 33 #[.agg #[.bool c.b0, .bool c.b1, .bool c.b2, .bool c.b3, .bool c.b4, .bool c.b5, .bool c.b6, .slice a c.days.length cap], .int .i64 f0, .int .i64 t0] w fun e w' =>
      e = .returned (.int .i64 (cntS c f0 t0)) ∧ Below w.heap.size w w' := by
  obtain ⟨F, hF⟩ : ∃ F, max f0 (-719162) = F := ⟨_, rfl⟩
  obtain ⟨G, hG⟩ : ∃ G, min t0 2932897 = G := ⟨_, rfl⟩
  have bF : -719162 ≤ F ∧ F ≤ 1000000000 := by omega
  have bG : -3000000000000 ≤ G ∧ G ≤ 2932897 := by omega
  have hb1 : Below w.heap.size w (w.alloc (.cells (c.cells a cap) 43)) := (Below.refl _ _).alloc (Nat.le_refl _) _
  have HB1 := Lib.hid hb1
  clear hb1
  by_cases hlt : F < G
  case neg =>
    have HE := Lib.hid (cntS_none (c := c) (f0 := f0) (t0 := t0) (by unfold lo hi; omega))
    go_enter Try.func33, Try.ntmps33
    go_wp2_with fail
    go_ret
    exact ⟨ret_int HE.out.symm, HB1.out⟩
  case pos =>
    have HE := Lib.hid (cntS_some (c := c) hF hG hlt)
    go_enter Try.func33, Try.ntmps33
    go_wp2_with fail
    go_loop [7, 8] (fun x i => ∃ k : Nat, k ≤ 7 ∧ i = .int .i64 k ∧ x = .int .i64 (wk7 c F (G - F) k)) (fun _ i => 7 - (intOf i).toNat)
    case atStart => exact ⟨0, by omega, rfl, rfl⟩
    case round =>
      obtain ⟨k, hk, rfl, rfl⟩ := hrel
      have hb7 := wk7_bd c F (G - F) k (by omega) (by omega) (by omega)
      by_cases hkm : k < 7
      · have hw : 0 ≤ wkd (F + k) ∧ wkd (F + k) < 7 := by unfold wkd; omega
        have hc := c.cell a cap 43 w (wkd (F + k)).toNat (by omega)
        cases hb : c.wk (wkd (F + k)).toNat
        · have HB := Lib.hid (wk7_no (n := G - F) hb)
          rw [hb] at hc
          clear hb
          go_wp2_with (go_at_call 39; refine (refWeekday_any _ _).mono ?_; rintro e w' ⟨rfl, rfl⟩)
          exact ⟨⟨k + 1, by omega, by go_num, vint (by rw [HB.out])⟩, by simp [intOf]; omega⟩
        · have HB := Lib.hid (wk7_yes (n := G - F) hb)
          rw [hb] at hc
          clear hb
          go_wp2_with (go_at_call 39; refine (refWeekday_any _ _).mono ?_; rintro e w' ⟨rfl, rfl⟩)
          exact ⟨⟨k + 1, by omega, by go_num, vint HB.out.symm⟩, by simp [intOf]; omega⟩
      · obtain rfl : k = 7 := by omega
        go_wp2_with fail
        go_loop [7, 9] (fun x i => ∃ j : Nat, j ≤ c.days.length ∧ i = .int .i64 j ∧ x = .int .i64 (wk7 c F (G - F) 7 - refD c F G c.days j)) (fun _ i => c.days.length - (intOf i).toNat)
        case atStart => exact ⟨0, by omega, rfl, by simp [refD]⟩
        case round =>
          obtain ⟨j, hj, rfl, rfl⟩ := hrel
          have hrb := refD_bd c F G c.days j
          by_cases hjk : j < c.days.length
          · obtain ⟨d, hd⟩ : ∃ d, d = c.days.getD j 0 := ⟨_, rfl⟩
            have hD2 := hD.alloc (.cells (c.cells a cap) 43)
            rcases hD2 with h | ⟨b, o, rfl, hb, hcell⟩
            · rw [h] at hjk; simp at hjk
            have hcj := hcell j hjk
            rw [← hd] at hcj
            have HC := Lib.hid hcell
            have HD := Lib.hid hd
            clear hcell hd
            go_wp2_with fail
            go_loop [11, 12] (fun x i => ∃ q : Nat, q ≤ j ∧ i = .int .i64 q ∧ x = .bool (decide (d ∈ c.days.take q))) (fun _ i => j - (intOf i).toNat)
            case atStart => exact ⟨0, by omega, rfl, by simp⟩
            case round =>
              obtain ⟨q, hq, rfl, rfl⟩ := hrel
              by_cases hqj : q < j
              · have HM := Lib.hid (mem_take_succ (l := c.days) (j := q) (d := d) (by omega))
                cases hag : decide (d ∈ c.days.take q)
                · obtain ⟨v, hv⟩ : ∃ v, v = c.days.getD q 0 := ⟨_, rfl⟩
                  have hcq := HC.out q (by omega)
                  rw [← hv] at hcq HM
                  have HV := Lib.hid hv
                  have HA := Lib.hid hag
                  clear hv hag
                  go_wp2_with fail
                  exact ⟨⟨q + 1, by omega, by go_num, vbool (by rw [HM.out, HA.out]; rw [Bool.eq_iff_iff]; simp)⟩, by simp [intOf]; omega⟩
                · have HA := Lib.hid hag
                  clear hag
                  go_wp2_with fail
                  exact ⟨⟨q + 1, by omega, by go_num, vbool (by rw [HM.out, HA.out]; rfl)⟩, by simp [intOf]; omega⟩
              · obtain rfl : q = j := by omega
                by_cases g1 : F ≤ d
                case neg =>
                  have g1' : decide (F ≤ d) = false := by simpa using g1
                  have HB := Lib.hid (prd_1 (c := c) (t := G) g1)
                  have HR : RowKit.Hid (refD c F G c.days (q + 1) = refD c F G c.days q) := refD_no1 (by rw [← HD.out]; exact HB.out)
                  go_wp2_with fail
                  exact ⟨⟨q + 1, by omega, by go_num, vint (by rw [HR.out])⟩, by simp [intOf]; omega⟩
                have g1' : decide (F ≤ d) = true := by simpa using g1
                by_cases g2 : d < G
                case neg =>
                  have g2' : decide (d < G) = false := by simpa using g2
                  have HB := Lib.hid (prd_2 (c := c) (f := F) g2)
                  have HR : RowKit.Hid (refD c F G c.days (q + 1) = refD c F G c.days q) := refD_no1 (by rw [← HD.out]; exact HB.out)
                  go_wp2_with fail
                  exact ⟨⟨q + 1, by omega, by go_num, vint (by rw [HR.out])⟩, by simp [intOf]; omega⟩
                have g2' : decide (d < G) = true := by simpa using g2
                cases hag : decide (d ∈ c.days.take q)
                · have hw : 0 ≤ wkd d ∧ wkd d < 7 := by unfold wkd; omega
                  have hwk := c.cell (some ⟨b, o, none⟩) cap 43 w (wkd d).toNat (by omega)
                  cases hb : c.wk (wkd d).toNat
                  · have HR : RowKit.Hid (refD c F G c.days (q + 1) = refD c F G c.days q + 1) := refD_yes (by rw [← HD.out, prd_3 (c := c) g1 g2 hb]; rfl) (by rw [← HD.out]; simpa using hag)
                    rw [hb] at hwk
                    clear hb
                    go_wp2_with (go_at_call 39; refine (refWeekday_any _ _).mono ?_; rintro e w' ⟨rfl, rfl⟩)
                    exact ⟨⟨q + 1, by omega, by go_num, vint (by rw [HR.out]; omega)⟩, by simp [intOf]; omega⟩
                  · have HR : RowKit.Hid (refD c F G c.days (q + 1) = refD c F G c.days q) := refD_no1 (by rw [← HD.out, prd_3 (c := c) g1 g2 hb]; rfl)
                    rw [hb] at hwk
                    clear hb
                    go_wp2_with (go_at_call 39; refine (refWeekday_any _ _).mono ?_; rintro e w' ⟨rfl, rfl⟩)
                    exact ⟨⟨q + 1, by omega, by go_num, vint (by rw [HR.out])⟩, by simp [intOf]; omega⟩
                · have HR : RowKit.Hid (refD c F G c.days (q + 1) = refD c F G c.days q) := refD_no2 (by rw [← HD.out]; simpa using hag)
                  go_wp2_with fail
                  exact ⟨⟨q + 1, by omega, by go_num, vint (by rw [HR.out])⟩, by simp [intOf]; omega⟩
          · have e : j = c.days.length := by omega
            have HE2 := Lib.hid e
            clear e
            go_wp2_with fail
            go_ret
            exact ⟨ret_int (by rw [HE.out, HE2.out]), HB1.out⟩
end Go.Proofs.Ytjikgoeinilnjaa
