/- TermsDue: the walk. -/
import Derived.Test.YtjikgoeinilnjaaWF
import Derived.Test.YtjikgoeinilnjaaWG
namespace Go.Proofs.Ytjikgoeinilnjaa
open Go.RowKit

theorem U8Sl.below {w w' : World} {a : Option Addr} {D : List Int} {B : Nat} (h : U8Sl w a D) (hb : Below B w w') (hB : w.heap.size ≤ B) : U8Sl w' a D := by
  obtain ⟨h0, h | ⟨b, o, rfl, hl, hc⟩⟩ := h
  · exact ⟨h0, .inl h⟩
  · exact ⟨h0, .inr ⟨b, o, rfl, by have := hb.size; omega, fun j hj => (hb.cell (p := ⟨b, o + j, none⟩) (by show b < B; omega)).trans (hc j hj)⟩⟩
theorem calM_len (wk fr : Int) (D : List Int) : (calM wk fr D).days.length ≤ 30 := by
  show (daysS fr D (min D.length 30)).length ≤ 30
  rw [daysS_len]; omega
theorem due_val {r : Rule} {c : Cal} {a : Option Addr} {cap : Nat} {d : Int} {w : World} {p : Int} {q : Bool} (hD : IntSl w a c.days) (hl : c.days.length ≤ 1000) (h0 : -100000000 ≤ d) (h1 : d ≤ 100000000) (he : dueS r c d = (p, q)) :
    Calls Try.prog 19 #[.agg #[.int .i64 r.p, .int .i64 r.i, .int .i64 r.b, .int .i64 r.d, .int .i64 r.n, .int .i64 r.f, .int .i64 r.c], .agg #[.bool c.b0, .bool c.b1, .bool c.b2, .bool c.b3, .bool c.b4, .bool c.b5, .bool c.b6, .slice a c.days.length cap], .int .i64 d] w fun e w' =>
      e = .returned (.tuple #[.int .i64 p, .bool q]) ∧ Below w.heap.size w w' := by
  have := due_any r c a cap d w hD hl h0 h1
  rw [he] at this; exact this
theorem refDue_val {r : Rule} {c : Cal} {a : Option Addr} {cap : Nat} {d : Int} {w : World} {p : Int} {q : Bool} (hD : IntSl w a c.days) (hl : c.days.length ≤ 1000) (h0 : -100000000 ≤ d) (h1 : d ≤ 100000000) (he : dueS r c d = (p, q)) :
    Calls Try.prog 20 #[.agg #[.int .i64 r.p, .int .i64 r.i, .int .i64 r.b, .int .i64 r.d, .int .i64 r.n, .int .i64 r.f, .int .i64 r.c], .agg #[.bool c.b0, .bool c.b1, .bool c.b2, .bool c.b3, .bool c.b4, .bool c.b5, .bool c.b6, .slice a c.days.length cap], .int .i64 d] w fun e w' =>
      e = .returned (.tuple #[.int .i64 p, .bool q]) ∧ Below w.heap.size w w' := by
  have := refDue_any r c a cap d w hD hl h0 h1
  rw [he] at this; exact this
set_option maxRecDepth 100000 in
set_option maxHeartbeats 4000000 in
theorem dueLaw (r : Rule) (wk : Int) (a : Option Addr) (D : List Int) (cap : Nat) (n : Int) (w : World) (h0 : 0 ≤ wk) (h1 : wk ≤ 255) (hD : U8Sl w a D) (hDl : D.length ≤ 9223372036854775807) :
    Calls Try.prog 6 #[.agg #[.int .i64 r.p, .int .i64 r.i, .int .i64 r.b, .int .i64 r.d, .int .i64 r.n, .int .i64 r.f, .int .i64 r.c], .agg #[.int .u8 wk, .slice a D.length cap], .int .i64 n] w fun e w' => e = .returned (.bool true) ∧ Below w.heap.size w w' := by
  have hb0 := below2 w (.cells #[.int .i64 r.p, .int .i64 r.i, .int .i64 r.b, .int .i64 r.d, .int .i64 r.n, .int .i64 r.f, .int .i64 r.c] 28) (.cells #[.int .u8 wk, .slice a D.length cap] 38)
  have R := Lib.hid ((Blk.new w #[.int .i64 r.p, .int .i64 r.i, .int .i64 r.b, .int .i64 r.d, .int .i64 r.n, .int .i64 r.f, .int .i64 r.c] 28).alloc (.cells #[.int .u8 wk, .slice a D.length cap] 38))
  have K := Lib.hid (Blk.at_new (w := w.alloc (.cells #[.int .i64 r.p, .int .i64 r.i, .int .i64 r.b, .int .i64 r.d, .int .i64 r.n, .int .i64 r.f, .int .i64 r.c] 28)) (n := w.heap.size + 1) (by simp) #[.int .u8 wk, .slice a D.length cap] 38)
  have S := Lib.hid hb0
  have U := Lib.hid (hD.below hb0 (Nat.le_refl _))
  have HDl := Lib.hid hDl
  clear hb0 hD hDl
  obtain ⟨x, hx⟩ : ∃ x, x = n % 150000 - 25000 := ⟨_, rfl⟩
  have bx : -25000 ≤ x ∧ x ≤ 125000 := by omega
  go_enter Try.func6, Try.ntmps6
  go_wp2_with fail
  generalize (w.alloc (.cells #[.int .i64 r.p, .int .i64 r.i, .int .i64 r.b, .int .i64 r.d, .int .i64 r.n, .int .i64 r.f, .int .i64 r.c] 28)).alloc (.cells #[.int .u8 wk, .slice a D.length cap] 38) = w0 at *
  refine (sanity_any _).mono ?_
  rintro e w1 ⟨rfl, hb⟩
  replace S := Lib.hid (S.out.trans (hb.mono S.out.size))
  replace R := Lib.hid (R.out.below hb R.out.lt)
  replace K := Lib.hid (K.out.below hb K.out.lt)
  replace U := Lib.hid (U.out.below hb (Nat.le_refl _))
  clear hb
  have k0 : w1.cell? ⟨w.heap.size + 1, 0, none⟩ = some (.int .u8 wk) := K.out.cell 0
  have k1 : w1.cell? ⟨w.heap.size + 1, 1, none⟩ = some (.slice a D.length cap) := K.out.cell 1
  go_wp2_with fail
  refine (day_any n _).mono ?_
  rintro e w' ⟨rfl, rfl⟩
  rw [← hx]
  clear hx
  go_wp2_with fail
  refine (made_any wk a D cap x _ h0 h1 U.out HDl.out (by omega) (by omega)).mono ?_
  rintro e w2 ⟨⟨av, cv, rfl, hI⟩, hb⟩
  have hcl := calM_len wk x D
  generalize calM wk x D = c at *
  replace S := Lib.hid (S.out.trans (hb.mono S.out.size))
  replace R := Lib.hid (R.out.below hb R.out.lt)
  have I := Lib.hid hI
  clear hb k0 k1 K U hI
  obtain ⟨q0, q1, q2, q3, q4, q5, q6⟩ := ruleCells R.out
  have hz := R.out.lt
  have m0 : 0 ≤ r.d % 70 ∧ r.d % 70 < 70 := by omega
  go_wp2_with (go_at_call 13; refine (mod_any _ _ _ (by omega) (by omega)).mono ?_; rintro e w' ⟨rfl, rfl⟩)
  have CB := Lib.hid ((Blk.new w2 (c.cells av cv) 43).alloc (.cells #[.int .i64 r.p, .int .i64 r.i, .int .i64 r.b, .int .i64 (r.d % 70), .int .i64 r.n, .int .i64 r.f, .int .i64 r.c] 28))
  have Q := Lib.hid (Blk.at_new (w := w2.alloc (.cells (c.cells av cv) 43)) (n := w2.heap.size + 1) (by simp) #[.int .i64 r.p, .int .i64 r.i, .int .i64 r.b, .int .i64 (r.d % 70), .int .i64 r.n, .int .i64 r.f, .int .i64 r.c] 28)
  replace R := Lib.hid ((R.out.alloc (.cells (c.cells av cv) 43)).alloc (.cells #[.int .i64 r.p, .int .i64 r.i, .int .i64 r.b, .int .i64 (r.d % 70), .int .i64 r.n, .int .i64 r.f, .int .i64 r.c] 28))
  replace I := Lib.hid ((I.out.alloc (.cells (c.cells av cv) 43)).alloc (.cells #[.int .i64 r.p, .int .i64 r.i, .int .i64 r.b, .int .i64 (r.d % 70), .int .i64 r.n, .int .i64 r.f, .int .i64 r.c] 28))
  replace S := Lib.hid ((S.out.alloc S.out.size (.cells (c.cells av cv) 43)).alloc (alloc_ge _ (by have := S.out.size; omega)) (.cells #[.int .i64 r.p, .int .i64 r.i, .int .i64 r.b, .int .i64 (r.d % 70), .int .i64 r.n, .int .i64 r.f, .int .i64 r.c] 28))
  clear q0 q1 q2 q3 q4 q5 q6 hz
  obtain ⟨W, hW⟩ : ∃ W, W = (w2.alloc (.cells (c.cells av cv) 43)).alloc (.cells #[.int .i64 r.p, .int .i64 r.i, .int .i64 r.b, .int .i64 (r.d % 70), .int .i64 r.n, .int .i64 r.f, .int .i64 r.c] 28) := ⟨_, rfl⟩
  rw [← hW] at CB Q R I S
  change Calls _ _ _ ((w2.alloc (.cells (c.cells av cv) 43)).alloc (.cells #[.int .i64 r.p, .int .i64 r.i, .int .i64 r.b, .int .i64 (r.d % 70), .int .i64 r.n, .int .i64 r.f, .int .i64 r.c] 28)) _
  rw [← hW]
  clear hW
  obtain ⟨r', hr'⟩ : ∃ r' : Rule, r' = ⟨r.p, r.i, r.b, r.d % 70, r.n, r.f, r.c⟩ := ⟨_, rfl⟩
  obtain ⟨⟨p1, p2⟩, hp⟩ : ∃ p, dueS r c x = p := ⟨_, rfl⟩
  obtain ⟨⟨s1, s2⟩, hs⟩ : ∃ p, dueS r' c x = p := ⟨_, rfl⟩
  have Q' : RowKit.Hid (Blk W (w2.heap.size + 1) (rvs r') 28) := by rw [hr']; exact Q.out
  have HP := Lib.hid hp
  have HS := Lib.hid hs
  clear hp hs hr' Q m0
  refine (due_val I.out (by omega) (by omega) (by omega) HP.out).mono ?_
  rintro e W3 ⟨rfl, hb⟩
  replace R := Lib.hid (R.out.below hb R.out.lt)
  replace CB := Lib.hid (CB.out.below hb CB.out.lt)
  replace Q' := Lib.hid (Q'.out.below hb Q'.out.lt)
  replace I := Lib.hid (I.out.below hb (Nat.le_refl _))
  replace S := Lib.hid (S.out.trans (hb.mono S.out.size))
  clear hb
  obtain ⟨q0, q1, q2, q3, q4, q5, q6⟩ := ruleCells R.out
  obtain ⟨y0, y1, y2, y3, y4, y5, y6, y7⟩ := calCells CB.out
  go_wp2_with fail
  clear q0 q1 q2 q3 q4 q5 q6 y0 y1 y2 y3 y4 y5 y6 y7
  refine (refDue_val I.out (by omega) (by omega) (by omega) HP.out).mono ?_
  rintro e W4 ⟨rfl, hb⟩
  replace R := Lib.hid (R.out.below hb R.out.lt)
  replace CB := Lib.hid (CB.out.below hb CB.out.lt)
  replace Q' := Lib.hid (Q'.out.below hb Q'.out.lt)
  replace I := Lib.hid (I.out.below hb (Nat.le_refl _))
  replace S := Lib.hid (S.out.trans (hb.mono S.out.size))
  clear hb
  obtain ⟨q0, q1, q2, q3, q4, q5, q6⟩ := ruleCells Q'.out
  obtain ⟨y0, y1, y2, y3, y4, y5, y6, y7⟩ := calCells CB.out
  go_wp2_with fail
  clear q0 q1 q2 q3 q4 q5 q6 y0 y1 y2 y3 y4 y5 y6 y7
  refine (due_val I.out (by omega) (by omega) (by omega) HS.out).mono ?_
  rintro e W5 ⟨rfl, hb⟩
  replace R := Lib.hid (R.out.below hb R.out.lt)
  replace CB := Lib.hid (CB.out.below hb CB.out.lt)
  replace Q' := Lib.hid (Q'.out.below hb Q'.out.lt)
  replace I := Lib.hid (I.out.below hb (Nat.le_refl _))
  replace S := Lib.hid (S.out.trans (hb.mono S.out.size))
  clear hb
  obtain ⟨q0, q1, q2, q3, q4, q5, q6⟩ := ruleCells Q'.out
  obtain ⟨y0, y1, y2, y3, y4, y5, y6, y7⟩ := calCells CB.out
  go_wp2_with fail
  clear q0 q1 q2 q3 q4 q5 q6 y0 y1 y2 y3 y4 y5 y6 y7
  refine (refDue_val I.out (by omega) (by omega) (by omega) HS.out).mono ?_
  rintro e W6 ⟨rfl, hb⟩
  replace R := Lib.hid (R.out.below hb R.out.lt)
  replace CB := Lib.hid (CB.out.below hb CB.out.lt)
  replace Q' := Lib.hid (Q'.out.below hb Q'.out.lt)
  replace I := Lib.hid (I.out.below hb (Nat.le_refl _))
  replace S := Lib.hid (S.out.trans (hb.mono S.out.size))
  clear hb
  go_wp2_with fail
  go_ret
  exact ⟨rfl, S.out⟩

end Go.Proofs.Ytjikgoeinilnjaa
