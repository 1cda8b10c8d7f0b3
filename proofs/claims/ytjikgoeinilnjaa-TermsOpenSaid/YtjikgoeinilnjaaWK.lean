/- TermsOpen: the walk. -/
import Derived.Test.YtjikgoeinilnjaaM2
namespace Go.Proofs.Ytjikgoeinilnjaa
open Go.RowKit

set_option maxRecDepth 100000 in
set_option maxHeartbeats 8000000 in
theorem openLaw (dd wk : Int) (a : Option Addr) (D : List Int) (cap : Nat) (n : Int) (w : World) (d0 : 0 ≤ dd) (d1 : dd ≤ 255) (h0 : 0 ≤ wk) (h1 : wk ≤ 255) (hD : U8Sl w a D) (hDl : D.length ≤ 9223372036854775807) :
    Calls Try.prog 7 #[.int .u8 dd, .agg #[.int .u8 wk, .slice a D.length cap], .int .i64 n] w fun e w' => e = .returned (.bool true) ∧ Below w.heap.size w w' := by
  have hb0 : Below w.heap.size w (w.alloc (.cells #[.int .u8 wk, .slice a D.length cap] 38)) := (Below.refl _ _).alloc (Nat.le_refl _) _
  have K := Lib.hid (Blk.new w #[.int .u8 wk, .slice a D.length cap] 38)
  have S := Lib.hid hb0
  have U := Lib.hid (hD.below hb0 (Nat.le_refl _))
  have HDl := Lib.hid hDl
  clear hb0 hD hDl
  obtain ⟨x, hx⟩ : ∃ x, x = n % 150000 - 25000 := ⟨_, rfl⟩
  have bx : -25000 ≤ x ∧ x ≤ 125000 := by omega
  have bd : 0 ≤ dd % 70 ∧ dd % 70 < 70 := by omega
  go_enter Try.func7, Try.ntmps7
  go_wp2_with fail
  generalize w.alloc (.cells #[.int .u8 wk, .slice a D.length cap] 38) = w0 at *
  refine (sanity_any _).mono ?_
  rintro e w1 ⟨rfl, hb⟩
  replace S := Lib.hid (S.out.trans (hb.mono S.out.size))
  replace K := Lib.hid (K.out.below hb K.out.lt)
  replace U := Lib.hid (U.out.below hb (Nat.le_refl _))
  clear hb
  have k0 : w1.cell? ⟨w.heap.size, 0, none⟩ = some (.int .u8 wk) := K.out.cell 0
  have k1 : w1.cell? ⟨w.heap.size, 1, none⟩ = some (.slice a D.length cap) := K.out.cell 1
  go_wp2_with fail
  refine (day_any n _).mono ?_
  rintro e w' ⟨rfl, rfl⟩
  rw [← hx]
  clear hx
  go_wp2_with fail
  refine (made_any wk a D cap x _ h0 h1 U.out HDl.out (by omega) (by omega)).mono ?_
  rintro e w2 ⟨⟨av, cv, rfl, hI⟩, hb⟩
  have hcl := calM_len wk x D
  have HW := Lib.hid (week_all wk x D)
  generalize calM wk x D = c at *
  replace S := Lib.hid (S.out.trans (hb.mono S.out.size))
  replace K := Lib.hid (K.out.below hb K.out.lt)
  have I := Lib.hid hI
  clear hb k0 k1 U hI
  obtain ⟨y, hy⟩ : ∃ y, y = dd % 70 := ⟨_, rfl⟩
  rw [← hy] at bd
  have HY := Lib.hid hy.symm
  clear hy
  obtain ⟨⟨p, b⟩, hp⟩ : ∃ q, nextS c (x + y) = q := ⟨_, rfl⟩
  have hdue : RowKit.Hid (dueS ⟨0, 0, 0, y, 0, 0, 0⟩ c x = (p, b)) := by show _ = _; rw [dueS_3 (by show ¬ y < 0; omega) (by show ¬ 10000 < y; omega)]; exact hp
  have HP := Lib.hid hp
  clear hp
  have yy : dd % 70 = y := HY.out
  go_wp2_with fail
  clear yy
  have CB := Lib.hid (Blk.new w2 (c.cells av cv) 43)
  replace K := Lib.hid (K.out.alloc (.cells (c.cells av cv) 43))
  replace I := Lib.hid (I.out.alloc (.cells (c.cells av cv) 43))
  replace S := Lib.hid (S.out.alloc S.out.size (.cells (c.cells av cv) 43))
  refine (due_val (r := ⟨0, 0, 0, y, 0, 0, 0⟩) I.out (by omega) (by omega) (by omega) hdue.out).mono ?_
  rintro e w3 ⟨rfl, hb⟩
  replace S := Lib.hid (S.out.trans (hb.mono S.out.size))
  replace K := Lib.hid (K.out.below hb K.out.lt)
  replace CB := Lib.hid (CB.out.below hb CB.out.lt)
  replace I := Lib.hid (I.out.below hb (Nat.le_refl _))
  clear hb
  obtain ⟨y0, y1, y2, y3, y4, y5, y6, y7⟩ := calCells CB.out
  have k0 : w3.cell? ⟨w.heap.size, 0, none⟩ = some (.int .u8 wk) := K.out.cell 0
  cases b
  · obtain ⟨rfl, hno⟩ := nextF_false c 400 (x + y) p HP.out
    have hno' := Lib.hid (hno (by omega))
    clear hno
    by_cases hw : wk % 128 = 127
    · have hb : (bits .and .u8 wk 127 == 127) = true := by rw [and127 wk h0 h1]; simpa using hw
      have HH := Lib.hid hw
      clear hw
      go_wp2_with fail
      go_ret
      exact ⟨rfl, S.out⟩
    · have hb : (bits .and .u8 wk 127 == 127) = false := by rw [and127 wk h0 h1]; simpa using hw
      have hlen : 0 < c.days.length := by
        rcases Nat.eq_zero_or_pos c.days.length with e | e
        · exact absurd (HW.out h0 h1 (all_closed c (x + y) (List.eq_nil_of_length_eq_zero e) (by omega) (by omega) (fun q q1 q2 => hno'.out q q1 (by omega)))) hw
        · exact e
      have hlen' : decide ((0 : Int) < (c.days.length : Int)) = true := by simp; omega
      have HH := Lib.hid hw
      clear hw
      go_wp2_with fail
      go_ret
      exact ⟨rfl, S.out⟩
  · obtain ⟨p1, p2, p3, p4⟩ := nextF_true c 400 (x + y) p HP.out
    have HO := Lib.hid p3
    have HN := Lib.hid p4
    clear p3 p4
    have g1 : decide (p < x + y) = false := by simp; omega
    have g2 : decide (x + y + 500 < p) = false := by simp; omega
    go_wp2_with fail
    refine (open_val c av cv _ _ I.out (by omega) HO.out).mono ?_
    rintro e W4 ⟨rfl, hb⟩
    replace S := Lib.hid (S.out.trans (hb.mono S.out.size))
    replace CB := Lib.hid (CB.out.below hb CB.out.lt)
    replace I := Lib.hid (I.out.below hb (Nat.le_refl _))
    clear hb y0 y1 y2 y3 y4 y5 y6 y7 k0 K
    go_wp2_with fail
    go_loopw [13] (fun i wr => ∃ k : Nat, x + y + k ≤ p ∧ i = .int .i64 (x + y + k) ∧ Below w.heap.size w wr ∧ Blk wr w2.heap.size (c.cells av cv) 43 ∧ IntSl wr av c.days) (fun i _ => (p - intOf i).toNat)
    case atStart => exact ⟨0, by omega, vint (by omega), S.out, CB.out, I.out⟩
    case round =>
      obtain ⟨k, hk, rfl, hbl, hC, hI⟩ := hrel
      clear S CB I
      have S := Lib.hid hbl
      have CB := Lib.hid hC
      have I := Lib.hid hI
      clear hbl hC hI
      by_cases hlt : x + y + (k : Int) < p
      · have hn : RowKit.Hid (openB c (x + y + k) = false) := HN.out _ (by omega) hlt
        have g3 : decide (x + y + (k : Int) < p) = true := by simpa using hlt
        obtain ⟨y0, y1, y2, y3, y4, y5, y6, y7⟩ := calCells CB.out
        go_wp2_with fail
        refine (open_val c av cv _ _ I.out (by omega) hn.out).mono ?_
        rintro e W5 ⟨rfl, hb⟩
        replace S := Lib.hid (S.out.trans (hb.mono S.out.size))
        replace CB := Lib.hid (CB.out.below hb CB.out.lt)
        replace I := Lib.hid (I.out.below hb (Nat.le_refl _))
        clear hb y0 y1 y2 y3 y4 y5 y6 y7
        go_wp2_with fail
        exact ⟨⟨k + 1, by omega, vint (by omega), S.out, CB.out, I.out⟩, by simp [intOf]; omega⟩
      · have g3 : decide (x + y + (k : Int) < p) = false := by simpa using hlt
        go_wp2_with fail
        go_ret
        exact ⟨rfl, S.out⟩
end Go.Proofs.Ytjikgoeinilnjaa
