/- The contract of the reference's Find: the same function of the table. -/
import Derived.Test.YtjikgoeinilnjaaW2
namespace Go.Proofs.Ytjikgoeinilnjaa
open Go.RowKit

def BestAt (L : List Rule) (s : Rule × Int) (k : Nat) (m : Int) : Prop :=
  (m = -1 ∧ s = (zr, -1)) ∨ ∃ j : Nat, j < k ∧ m = (j : Int) ∧ s = (L.getD j zr, rw3 (L.getD j zr))
theorem rw3_pos (r : Rule) : 0 ≤ rw3 r ∧ rw3 r ≤ 7 := by unfold rw3 wgt; repeat' split
                                                         all_goals omega
theorem wI_yes {r : Rule} {x y z : Int} (h0 : fitsB r.p x = true) (h1 : fitsB r.i y = true) (h2 : fitsB r.b z = true) : weightI r x y z = rw3 r := by simp [weightI, holdsB, *]
theorem wI_no0 {r : Rule} {x y z : Int} (h0 : fitsB r.p x = false) : weightI r x y z = -1 := by simp [weightI, holdsB, *]
theorem wI_no1 {r : Rule} {x y z : Int} (h0 : fitsB r.i y = false) : weightI r x y z = -1 := by simp [weightI, holdsB, *]
theorem wI_no2 {r : Rule} {x y z : Int} (h0 : fitsB r.b z = false) : weightI r x y z = -1 := by simp [weightI, holdsB, *]
theorem bestAt_stay {L : List Rule} {s : Rule × Int} {k : Nat} {m : Int} {r : Rule} {x y z : Int} (h : BestAt L s k m) (hr : weightI r x y z ≤ s.2) : BestAt L (stepF x y z s r) (k + 1) m := by
  rw [stepF_no (by omega)]
  rcases h with h | ⟨j, h, h'⟩
  · exact .inl h
  · exact .inr ⟨j, by omega, h'⟩
theorem bestAt_sec {L : List Rule} {s : Rule × Int} {k : Nat} {m : Int} (h : BestAt L s k m) : -1 ≤ s.2 := by
  rcases h with ⟨_, rfl⟩ | ⟨j, _, _, rfl⟩
  · simp
  · have := rw3_pos (L.getD j zr); simp only; omega
theorem bestAt_take {L : List Rule} {s : Rule × Int} {k : Nat} {r : Rule} {x y z : Int} (h : s.2 < weightI r x y z) (hk : L.getD k zr = r) (hw : weightI r x y z = rw3 r) : BestAt L (stepF x y z s r) (k + 1) (k : Int) := by
  rw [stepF_yes h, hw]
  exact .inr ⟨k, by omega, rfl, by rw [hk]⟩

theorem holds_val {f v : Int} {b : Bool} (h : fitsB f v = b) (w : World) :
    Calls Try.prog 25 #[.int .i64 f, .int .i64 v] w fun e w' => e = .returned (.bool b) ∧ w = w' := h ▸ holds_any f v w
attribute [local go_sem] over_cell over_frozen
set_option maxHeartbeats 2000000 in
theorem refFind_any (L : List Rule) (b o cap : Nat) (x y z : Int) (w : World) (hb : b < w.heap.size) (hL : RulesAt w b o L) (hn : L.length ≤ 1000) :
    Calls Try.prog 15 #[.slice (some ⟨b, o, none⟩) L.length cap, .int .i64 x, .int .i64 y, .int .i64 z] w fun e w' =>
      e = .returned (.tuple #[.agg (rvs (findS L x y z).1), .bool (decide (0 ≤ (findS L x y z).2))]) ∧ Below w.heap.size w w' := by
  have HL := Lib.hid hL
  clear hL
  go_enter Try.func15, Try.ntmps15
  go_wp2
  go_loopw [10, 11] (fun m i wr => ∃ (k : Nat) (n : Int), k ≤ L.length ∧ i = .int .i64 k ∧ m = .int .i64 n ∧ BestAt L (findS (L.take k) x y z) k n ∧ Below w.heap.size w wr ∧ w.heap.size + 1 ≤ wr.heap.size ∧
      Blk wr w.heap.size (rvs zr) 28) (fun _ i _ => L.length - (intOf i).toNat)
  case atStart =>
    exact ⟨0, -1, by omega, rfl, rfl, .inl ⟨rfl, rfl⟩, ((Below.refl _ _).alloc (Nat.le_refl _) _), by simp, Blk.new _ _ _⟩
  case round =>
    obtain ⟨k, n, hk, rfl, rfl, hbest, hbl, hsz, hz⟩ := hrel
    by_cases hlt : k < L.length
    · have hr := (HL.out k hlt).below hbl hb
      have hst := Lib.hid (findS_snoc L k x y z hlt)
      obtain ⟨r, hrk⟩ : ∃ r, r = L.getD k zr := ⟨_, rfl⟩
      rw [← hrk] at hr hst
      have HR := Lib.hid hrk.symm
      clear hrk
      have HB := Lib.hid hbest
      have HZ := Lib.hid hz
      generalize (findS (L.take k) x y z) = s at HB hst
      clear hbest hz
      obtain ⟨c0, c1, c2, c3, c4, c5, c6⟩ := hr
      have hlb : b < wr.heap.size := by omega
      have hs2 := bestAt_sec HB.out
      cases h0 : fitsB r.p x
      · have E := Lib.hid (wI_no0 (r := r) (x := x) (y := y) (z := z) h0)
        go_wp2_with fail
        refine wp_region_over (by kernel_rfl) (by kernel_rfl) ?_
        repeat (go_big_quiet_step (first | (go_at_call 25; first | with_reducible exact inSame (holds_val h0 _)) | (go_at_call 26; exact inOver (refWeight_any _ _))))
        refine wpQuiet_nil ?_
        rintro _ ⟨nq, rfl⟩
        go_wp2_with fail
        exact ⟨⟨k + 1, n, by omega, by go_num, rfl, by rw [hst.out]; exact bestAt_stay HB.out (by rw [E.out]; exact hs2), (hbl.alloc (by omega) _).trans (bover nq (alloc_ge _ (by omega))), over_ge _ (alloc_ge _ (by omega)), (HZ.out.alloc _).over _⟩, by simp [intOf]; omega⟩
      cases h1 : fitsB r.i y
      · have E := Lib.hid (wI_no1 (r := r) (x := x) (y := y) (z := z) h1)
        go_wp2_with fail
        refine wp_region_over (by kernel_rfl) (by kernel_rfl) ?_
        repeat (go_big_quiet_step (first | (go_at_call 25; first | with_reducible exact inSame (holds_val h0 _) | with_reducible exact inSame (holds_val h1 _)) | (go_at_call 26; exact inOver (refWeight_any _ _))))
        refine wpQuiet_nil ?_
        rintro _ ⟨nq, rfl⟩
        go_wp2_with fail
        exact ⟨⟨k + 1, n, by omega, by go_num, rfl, by rw [hst.out]; exact bestAt_stay HB.out (by rw [E.out]; exact hs2), (hbl.alloc (by omega) _).trans (bover nq (alloc_ge _ (by omega))), over_ge _ (alloc_ge _ (by omega)), (HZ.out.alloc _).over _⟩, by simp [intOf]; omega⟩
      cases h2 : fitsB r.b z
      · have E := Lib.hid (wI_no2 (r := r) (x := x) (y := y) (z := z) h2)
        go_wp2_with fail
        refine wp_region_over (by kernel_rfl) (by kernel_rfl) ?_
        repeat (go_big_quiet_step (first | (go_at_call 25; first | with_reducible exact inSame (holds_val h0 _) | with_reducible exact inSame (holds_val h1 _) | with_reducible exact inSame (holds_val h2 _)) | (go_at_call 26; exact inOver (refWeight_any _ _))))
        refine wpQuiet_nil ?_
        rintro _ ⟨nq, rfl⟩
        go_wp2_with fail
        exact ⟨⟨k + 1, n, by omega, by go_num, rfl, by rw [hst.out]; exact bestAt_stay HB.out (by rw [E.out]; exact hs2), (hbl.alloc (by omega) _).trans (bover nq (alloc_ge _ (by omega))), over_ge _ (alloc_ge _ (by omega)), (HZ.out.alloc _).over _⟩, by simp [intOf]; omega⟩
      have E := Lib.hid (wI_yes (r := r) (x := x) (y := y) (z := z) h0 h1 h2)
      have hp := rw3_pos r
      rcases HB.out with ⟨rfl, hs⟩ | ⟨j, hj, rfl, hs⟩
      · have HS := Lib.hid hs
        clear hs
        go_wp2_with fail
        refine wp_region_over (by kernel_rfl) (by kernel_rfl) ?_
        repeat (go_big_quiet_step (first | (go_at_call 25; first | with_reducible exact inSame (holds_val h0 _) | with_reducible exact inSame (holds_val h1 _) | with_reducible exact inSame (holds_val h2 _)) | (go_at_call 26; exact inOver (refWeight_any _ _))))
        refine wpQuiet_nil ?_
        rintro _ ⟨nq, rfl⟩
        go_wp2_with fail
        exact ⟨⟨k + 1, k, by omega, by go_num, rfl, by rw [hst.out]; exact bestAt_take (by rw [HS.out, E.out]; simp; omega) HR.out E.out, (hbl.alloc (by omega) _).trans (bover nq (alloc_ge _ (by omega))), over_ge _ (alloc_ge _ (by omega)), (HZ.out.alloc _).over _⟩, by simp [intOf]; omega⟩
      · have HS := Lib.hid hs
        clear hs
        have hq := (HL.out j (by omega)).below hbl hb
        generalize L.getD j zr = q at HS hq
        obtain ⟨d0, d1, d2, d3, d4, d5, d6⟩ := hq
        have hj0 : decide ((j : Int) < 0) = false := by simp
        go_wp2_with fail
        refine wp_region_over (by kernel_rfl) (by kernel_rfl) ?_
        repeat (go_big_quiet_step (first | (go_at_call 25; first | with_reducible exact inSame (holds_val h0 _) | with_reducible exact inSame (holds_val h1 _) | with_reducible exact inSame (holds_val h2 _)) | (go_at_call 26; first | with_reducible exact inOver (refWeight_any r _) | with_reducible exact inOver (refWeight_any q _))))
        refine wpQuiet_nil ?_
        rintro _ ⟨nq, rfl⟩
        go_wp2_with fail
        · have hg : rw3 q < rw3 r := by assumption
          exact ⟨⟨k + 1, k, by omega, by go_num, rfl, by rw [hst.out]; exact bestAt_take (by rw [HS.out, E.out]; exact hg) HR.out E.out, (hbl.alloc (by omega) _).trans (bover nq (alloc_ge _ (by omega))), over_ge _ (alloc_ge _ (by omega)), (HZ.out.alloc _).over _⟩, by simp [intOf]; omega⟩
        · exact ⟨⟨k + 1, j, by omega, by go_num, rfl, by rw [hst.out]; exact bestAt_stay HB.out (by rw [HS.out, E.out]; simp; omega), (hbl.alloc (by omega) _).trans (bover nq (alloc_ge _ (by omega))), over_ge _ (alloc_ge _ (by omega)), (HZ.out.alloc _).over _⟩, by simp [intOf]; omega⟩
    · obtain rfl : k = L.length := by omega
      have E : L.take L.length = L := List.take_length
      rw [E] at hbest
      obtain ⟨s, hs⟩ : ∃ s, s = findS L x y z := ⟨_, rfl⟩
      rw [← hs] at hbest
      have HS := Lib.hid hs
      obtain ⟨z0, z1, z2, z3, z4, z5, z6⟩ := RuleAt.ofBlk hz
      have zf := hz.frozen
      have HZ := Lib.hid hz
      clear E hz hs
      rcases hbest with ⟨rfl, hs⟩ | ⟨j, hj, rfl, hs⟩
      · have HS2 := Lib.hid hs
        clear hs
        go_wp2
        obtain ⟨g1, g2, g3, g4⟩ := rule_store (r := zr) HZ.out (Nat.le_refl _) hbl
        obtain ⟨q0, q1, q2, q3, q4, q5, q6⟩ := RuleAt.ofBlk g3
        refine bodyPost_ret (v := .tuple #[.agg (rvs zr), .bool false]) ?_ rfl ⟨by rw [← HS.out, HS2.out]; simp, g1⟩
        simp only [zr] at q0 q1 q2 q3 q4 q5 q6
        simp [results, Try.results15, go_sem, q0, q1, q2, q3, q4, q5, q6, rvs, zr]
      · have HS2 := Lib.hid hs
        clear hs
        have hq := (HL.out j (by omega)).below hbl hb
        generalize L.getD j zr = q at HS2 hq
        obtain ⟨d0, d1, d2, d3, d4, d5, d6⟩ := hq
        go_wp2
        obtain ⟨g1, g2, g3, g4⟩ := rule_store (r := q) HZ.out (Nat.le_refl _) hbl
        obtain ⟨q0, q1, q2, q3, q4, q5, q6⟩ := RuleAt.ofBlk g3
        have hp := rw3_pos q
        refine bodyPost_ret (v := .tuple #[.agg (rvs q), .bool true]) ?_ rfl ⟨by rw [← HS.out, HS2.out]; simp [hp], g1⟩
        simp [results, Try.results15, go_sem, q0, q1, q2, q3, q4, q5, q6, rvs]
end Go.Proofs.Ytjikgoeinilnjaa
