/- The contract of sanity: the examples of the chapter hold. -/
import Derived.Test.YtjikgoeinilnjaaWC
import Derived.Test.YtjikgoeinilnjaaW9
namespace Go.Proofs.Ytjikgoeinilnjaa
open Go.RowKit

def RB (w : World) (b : Nat) (L : List Rule) : Prop := b < w.heap.size ∧ RulesAt w b 0 L
theorem RulesAt.below {W w1 : World} {b o : Nat} {L : List Rule} (h : RulesAt W b o L) {B : Nat} (hb : Below B W w1) (hl : b < B) : RulesAt w1 b o L := fun k hk => (h k hk).below hb hl
theorem RB.over {w : World} {b : Nat} {L : List Rule} (h : RB w b L) (x : World) : RB (over w x) b L := ⟨Nat.lt_of_lt_of_le h.1 (over_size_le w x), h.2.below (below_over w x) h.1⟩
theorem RB.alloc {w : World} {b : Nat} {L : List Rule} (h : RB w b L) (o : Obj) : RB (w.alloc o) b L := ⟨by rw [size_alloc]; have := h.1; omega, h.2.below ((Below.refl _ _).alloc (Nat.le_refl _) _) h.1⟩
theorem RB.below {w w' : World} {b B : Nat} {L : List Rule} (h : RB w b L) (hb : Below B w w') (hl : b < B) : RB w' b L := ⟨Nat.lt_of_lt_of_le h.1 hb.size, h.2.below hb hl⟩
theorem ruleCells {w : World} {b : Nat} {v0 v1 v2 v3 v4 v5 v6 : Value} {T : TypeId} (h : Blk w b #[v0, v1, v2, v3, v4, v5, v6] T) :
    w.cell? ⟨b, 0, none⟩ = some v0 ∧ w.cell? ⟨b, 1, none⟩ = some v1 ∧ w.cell? ⟨b, 2, none⟩ = some v2 ∧ w.cell? ⟨b, 3, none⟩ = some v3 ∧ w.cell? ⟨b, 4, none⟩ = some v4 ∧ w.cell? ⟨b, 5, none⟩ = some v5 ∧ w.cell? ⟨b, 6, none⟩ = some v6 :=
  ⟨h.cell 0, h.cell 1, h.cell 2, h.cell 3, h.cell 4, h.cell 5, h.cell 6⟩
theorem RB.drewN {w : World} {b : Nat} {L : List Rule} (h : RB w b L) (n : Nat) : RB (w.drewN n) b L := h
theorem RB.drew {w : World} {b : Nat} {L : List Rule} (h : RB w b L) : RB w.drew b L := h
theorem find_val {L : List Rule} {b cap n : Nat} {x y z : Int} {w : World} {r : Rule} {m : Int} {t : Bool} (hB : RB w b L) (hl : L.length = n) (hn : n ≤ 1000) (he : findS L x y z = (r, m)) (ht : decide (0 ≤ m) = t) :
    Calls Try.prog 14 #[.slice (some ⟨b, 0, none⟩) n cap, .int .i64 x, .int .i64 y, .int .i64 z] w fun e w' =>
      e = .returned (.tuple #[.agg #[.int .i64 r.p, .int .i64 r.i, .int .i64 r.b, .int .i64 r.d, .int .i64 r.n, .int .i64 r.f, .int .i64 r.c], .bool t]) ∧ Below w.heap.size w w' := by
  subst hl
  exact (find_any L b 0 cap x y z w hB.1 hB.2 hn).mono fun e w' ⟨h1, h2⟩ => ⟨by rw [h1, he, ← ht]; rfl, h2⟩
theorem refFind_val {L : List Rule} {b cap n : Nat} {x y z : Int} {w : World} {r : Rule} {m : Int} {t : Bool} (hB : RB w b L) (hl : L.length = n) (hn : n ≤ 1000) (he : findS L x y z = (r, m)) (ht : decide (0 ≤ m) = t) :
    Calls Try.prog 15 #[.slice (some ⟨b, 0, none⟩) n cap, .int .i64 x, .int .i64 y, .int .i64 z] w fun e w' =>
      e = .returned (.tuple #[.agg #[.int .i64 r.p, .int .i64 r.i, .int .i64 r.b, .int .i64 r.d, .int .i64 r.n, .int .i64 r.f, .int .i64 r.c], .bool t]) ∧ Below w.heap.size w w' := by
  subst hl
  exact (refFind_any L b 0 cap x y z w hB.1 hB.2 hn).mono fun e w' ⟨h1, h2⟩ => ⟨by rw [h1, he, ← ht]; rfl, h2⟩
def L0 : List Rule := [⟨-1, -1, -1, 28, 0, 10, 50⟩, ⟨1, -1, -1, 0, 0, 0, 0⟩, ⟨-1, 2, 3, 0, 0, 0, 0⟩, ⟨1, 2, -1, 0, 0, 0, 0⟩]
theorem L0_1 : findS L0 1 2 3 = (⟨1, 2, -1, 0, 0, 0, 0⟩, 6) := by decide
theorem L0_2 : findS L0 0 2 3 = (⟨-1, 2, 3, 0, 0, 0, 0⟩, 3) := by decide
theorem L0_3 : findS L0 1 1 3 = (⟨1, -1, -1, 0, 0, 0, 0⟩, 4) := by decide
theorem L0_4 : findS L0 0 0 0 = (⟨-1, -1, -1, 28, 0, 10, 50⟩, 0) := by decide
def C0 : Cal := ⟨false, false, false, false, false, false, false, []⟩
def R0 : Rule := ⟨-1, -1, -1, 28, 0, 10, 50⟩
theorem D0 : dueS R0 C0 100 = (128, true) := by
  have h : openB C0 128 = true := by decide
  rw [dueS_3 (by decide) (by decide), nextS]; exact nextF_hit' (by omega) h
theorem F0_1 : fineS R0 C0 100 100 = 0 := fineS_0 (.inl (by decide))
theorem F0_2 : fineS R0 C0 100 103 = 30 := by decide
theorem F0_3 : fineS R0 C0 100 110 = 50 := by decide
theorem RB.made (W0 : World) (n : Nat) (hn : n = W0.heap.size) : RB (W0.alloc (.cells #[.int .i64 (-1), .int .i64 (-1), .int .i64 (-1), .int .i64 28, .int .i64 0, .int .i64 10, .int .i64 50, .int .i64 1, .int .i64 (-1), .int .i64 (-1), .int .i64 0, .int .i64 0, .int .i64 0, .int .i64 0, .int .i64 (-1), .int .i64 2, .int .i64 3, .int .i64 0, .int .i64 0, .int .i64 0, .int .i64 0, .int .i64 1, .int .i64 2, .int .i64 (-1), .int .i64 0, .int .i64 0, .int .i64 0, .int .i64 0] 28)) n L0 := by
  subst hn
  exact ⟨by rw [size_alloc]; omega, (rules_owned (L := L0) (Blk.new W0 _ 28) rfl).1⟩
theorem due_0 (w : World) : Calls Try.prog 19 #[.agg #[.int .i64 (-1), .int .i64 (-1), .int .i64 (-1), .int .i64 28, .int .i64 0, .int .i64 10, .int .i64 50], .agg #[.bool false, .bool false, .bool false, .bool false, .bool false, .bool false, .bool false, .slice none 0 0], .int .i64 100] w fun e w' => e = .returned (.tuple #[.int .i64 128, .bool true]) ∧ Below w.heap.size w w' := by
  have := due_any R0 C0 none 0 100 w (.inl rfl) (by decide) (by omega) (by omega)
  rw [D0] at this
  exact this
theorem fine_1 (w : World) : Calls Try.prog 22 #[.agg #[.int .i64 (-1), .int .i64 (-1), .int .i64 (-1), .int .i64 28, .int .i64 0, .int .i64 10, .int .i64 50], .agg #[.bool false, .bool false, .bool false, .bool false, .bool false, .bool false, .bool false, .slice none 0 0], .int .i64 100, .int .i64 100] w fun e w' => e = .returned (.int .i64 0) ∧ Below w.heap.size w w' := by
  have := fine_any R0 C0 none 0 100 100 w (.inl rfl) (by decide) (by omega) (by omega) (by omega) (by omega) (by decide)
  rw [F0_1] at this
  exact this
theorem fine_2 (w : World) : Calls Try.prog 22 #[.agg #[.int .i64 (-1), .int .i64 (-1), .int .i64 (-1), .int .i64 28, .int .i64 0, .int .i64 10, .int .i64 50], .agg #[.bool false, .bool false, .bool false, .bool false, .bool false, .bool false, .bool false, .slice none 0 0], .int .i64 100, .int .i64 103] w fun e w' => e = .returned (.int .i64 30) ∧ Below w.heap.size w w' := by
  have := fine_any R0 C0 none 0 100 103 w (.inl rfl) (by decide) (by omega) (by omega) (by omega) (by omega) (by decide)
  rw [F0_2] at this
  exact this
theorem fine_3 (w : World) : Calls Try.prog 22 #[.agg #[.int .i64 (-1), .int .i64 (-1), .int .i64 (-1), .int .i64 28, .int .i64 0, .int .i64 10, .int .i64 50], .agg #[.bool false, .bool false, .bool false, .bool false, .bool false, .bool false, .bool false, .slice none 0 0], .int .i64 100, .int .i64 110] w fun e w' => e = .returned (.int .i64 50) ∧ Below w.heap.size w w' := by
  have := fine_any R0 C0 none 0 100 110 w (.inl rfl) (by decide) (by omega) (by omega) (by omega) (by omega) (by decide)
  rw [F0_3] at this
  exact this
set_option maxRecDepth 100000 in
set_option maxHeartbeats 4000000 in
theorem sanity_any (w : World) : Calls Try.prog 11 #[] w fun e w' => e = .returned (.bool true) ∧ Below w.heap.size w w' := by
  have G : ∀ o : Obj, ∃ W, W = ((((w.alloc (.cells #[.int .i64 (-1), .int .i64 (-1), .int .i64 (-1), .int .i64 28, .int .i64 0, .int .i64 10, .int .i64 50] 28)).alloc (.cells #[.int .i64 1, .int .i64 (-1), .int .i64 (-1), .int .i64 0, .int .i64 0, .int .i64 0, .int .i64 0] 28)).alloc (.cells #[.int .i64 (-1), .int .i64 2, .int .i64 3, .int .i64 0, .int .i64 0, .int .i64 0, .int .i64 0] 28)).alloc (.cells #[.int .i64 1, .int .i64 2, .int .i64 (-1), .int .i64 0, .int .i64 0, .int .i64 0, .int .i64 0] 28)).alloc o ∧ Below w.heap.size w W ∧ Blk W w.heap.size #[.int .i64 (-1), .int .i64 (-1), .int .i64 (-1), .int .i64 28, .int .i64 0, .int .i64 10, .int .i64 50] 28 ∧ Blk W (w.heap.size + 1) #[.int .i64 1, .int .i64 (-1), .int .i64 (-1), .int .i64 0, .int .i64 0, .int .i64 0, .int .i64 0] 28 ∧ Blk W (w.heap.size + 1 + 1) #[.int .i64 (-1), .int .i64 2, .int .i64 3, .int .i64 0, .int .i64 0, .int .i64 0, .int .i64 0] 28 ∧ Blk W (w.heap.size + 1 + 1 + 1) #[.int .i64 1, .int .i64 2, .int .i64 (-1), .int .i64 0, .int .i64 0, .int .i64 0, .int .i64 0] 28 :=
    fun o => ⟨_, rfl, (((((Below.refl _ _).alloc (Nat.le_refl _) _).alloc (by simp) _).alloc (by simp; omega) _).alloc (by simp; omega) _).alloc (by simp; omega) _, ((((Blk.new _ _ _).alloc _).alloc _).alloc _).alloc _, (((Blk.at_new (by simp) _ _).alloc _).alloc _).alloc _, ((Blk.at_new (by simp) _ _).alloc _).alloc _, (Blk.at_new (by simp) _ _).alloc _⟩
  have HG := Lib.hid G
  clear G
  have HRB := RB.made ((((w.alloc (.cells #[.int .i64 (-1), .int .i64 (-1), .int .i64 (-1), .int .i64 28, .int .i64 0, .int .i64 10, .int .i64 50] 28)).alloc (.cells #[.int .i64 1, .int .i64 (-1), .int .i64 (-1), .int .i64 0, .int .i64 0, .int .i64 0, .int .i64 0] 28)).alloc (.cells #[.int .i64 (-1), .int .i64 2, .int .i64 3, .int .i64 0, .int .i64 0, .int .i64 0, .int .i64 0] 28)).alloc (.cells #[.int .i64 1, .int .i64 2, .int .i64 (-1), .int .i64 0, .int .i64 0, .int .i64 0, .int .i64 0] 28)) (w.heap.size + 1 + 1 + 1 + 1) (by simp)
  have T0 := Lib.hid HRB
  clear HRB
  go_enter Try.func11, Try.ntmps11
  go_wp2_with fail
  obtain ⟨W, hW, hb0, b1, b2, b3, b4⟩ := HG.out (.cells #[.int .i64 (-1), .int .i64 (-1), .int .i64 (-1), .int .i64 28, .int .i64 0, .int .i64 10, .int .i64 50, .int .i64 1, .int .i64 (-1), .int .i64 (-1), .int .i64 0, .int .i64 0, .int .i64 0, .int .i64 0, .int .i64 (-1), .int .i64 2, .int .i64 3, .int .i64 0, .int .i64 0, .int .i64 0, .int .i64 0, .int .i64 1, .int .i64 2, .int .i64 (-1), .int .i64 0, .int .i64 0, .int .i64 0, .int .i64 0] 28)
  rw [← hW] at T0 ⊢
  clear hW HG
  have S0 := Lib.hid hb0
  have P1_0 := Lib.hid b1
  have P2_0 := Lib.hid b2
  have P3_0 := Lib.hid b3
  have P4_0 := Lib.hid b4
  clear hb0 b1 b2 b3 b4
  with_reducible refine (find_val (L := L0) (n := 4) (T0.out) rfl (by omega) L0_1 (t := true) rfl).mono ?_
  rintro e w1 ⟨rfl, hb1⟩
  have T1 := Lib.hid ((T0.out).below hb1 (T0.out).1)
  have P1_1 := Lib.hid ((P1_0.out).below hb1 (P1_0.out).lt)
  have P2_1 := Lib.hid ((P2_0.out).below hb1 (P2_0.out).lt)
  have P3_1 := Lib.hid ((P3_0.out).below hb1 (P3_0.out).lt)
  have P4_1 := Lib.hid ((P4_0.out).below hb1 (P4_0.out).lt)
  have S1 := Lib.hid (S0.out.trans (hb1.mono S0.out.size))
  clear hb1 P1_0 P2_0 P3_0 P4_0 T0 S0
  go_wp2_with fail
  with_reducible refine (find_val (L := L0) (n := 4) (T1.out.alloc _) rfl (by omega) L0_2 (t := true) rfl).mono ?_
  rintro e w2 ⟨rfl, hb2⟩
  have T2 := Lib.hid ((T1.out.alloc _).below hb2 (T1.out.alloc _).1)
  have P1_2 := Lib.hid ((P1_1.out.alloc _).below hb2 (P1_1.out.alloc _).lt)
  have P2_2 := Lib.hid ((P2_1.out.alloc _).below hb2 (P2_1.out.alloc _).lt)
  have P3_2 := Lib.hid ((P3_1.out.alloc _).below hb2 (P3_1.out.alloc _).lt)
  have P4_2 := Lib.hid ((P4_1.out.alloc _).below hb2 (P4_1.out.alloc _).lt)
  have Q1_2 := Lib.hid ((Blk.new w1 #[.int .i64 1, .int .i64 2, .int .i64 (-1), .int .i64 0, .int .i64 0, .int .i64 0, .int .i64 0] 28).below hb2 (Blk.new w1 #[.int .i64 1, .int .i64 2, .int .i64 (-1), .int .i64 0, .int .i64 0, .int .i64 0, .int .i64 0] 28).lt)
  have S2 := Lib.hid ((S1.out.alloc S1.out.size _).trans (hb2.mono (alloc_ge _ (by have := S1.out.size; omega))))
  clear hb2 P1_1 P2_1 P3_1 P4_1 T1 S1
  go_wp2_with fail
  with_reducible refine (find_val (L := L0) (n := 4) (T2.out.alloc _) rfl (by omega) L0_3 (t := true) rfl).mono ?_
  rintro e w3 ⟨rfl, hb3⟩
  have T3 := Lib.hid ((T2.out.alloc _).below hb3 (T2.out.alloc _).1)
  have P1_3 := Lib.hid ((P1_2.out.alloc _).below hb3 (P1_2.out.alloc _).lt)
  have P2_3 := Lib.hid ((P2_2.out.alloc _).below hb3 (P2_2.out.alloc _).lt)
  have P3_3 := Lib.hid ((P3_2.out.alloc _).below hb3 (P3_2.out.alloc _).lt)
  have P4_3 := Lib.hid ((P4_2.out.alloc _).below hb3 (P4_2.out.alloc _).lt)
  have Q1_3 := Lib.hid ((Q1_2.out.alloc _).below hb3 (Q1_2.out.alloc _).lt)
  have Q2_3 := Lib.hid ((Blk.new w2 #[.int .i64 (-1), .int .i64 2, .int .i64 3, .int .i64 0, .int .i64 0, .int .i64 0, .int .i64 0] 28).below hb3 (Blk.new w2 #[.int .i64 (-1), .int .i64 2, .int .i64 3, .int .i64 0, .int .i64 0, .int .i64 0, .int .i64 0] 28).lt)
  have S3 := Lib.hid ((S2.out.alloc S2.out.size _).trans (hb3.mono (alloc_ge _ (by have := S2.out.size; omega))))
  clear hb3 P1_2 P2_2 P3_2 P4_2 Q1_2 T2 S2
  go_wp2_with fail
  with_reducible refine (find_val (L := L0) (n := 4) (T3.out.alloc _) rfl (by omega) L0_4 (t := true) rfl).mono ?_
  rintro e w4 ⟨rfl, hb4⟩
  have T4 := Lib.hid ((T3.out.alloc _).below hb4 (T3.out.alloc _).1)
  have P1_4 := Lib.hid ((P1_3.out.alloc _).below hb4 (P1_3.out.alloc _).lt)
  have P2_4 := Lib.hid ((P2_3.out.alloc _).below hb4 (P2_3.out.alloc _).lt)
  have P3_4 := Lib.hid ((P3_3.out.alloc _).below hb4 (P3_3.out.alloc _).lt)
  have P4_4 := Lib.hid ((P4_3.out.alloc _).below hb4 (P4_3.out.alloc _).lt)
  have Q1_4 := Lib.hid ((Q1_3.out.alloc _).below hb4 (Q1_3.out.alloc _).lt)
  have Q2_4 := Lib.hid ((Q2_3.out.alloc _).below hb4 (Q2_3.out.alloc _).lt)
  have Q3_4 := Lib.hid ((Blk.new w3 #[.int .i64 1, .int .i64 (-1), .int .i64 (-1), .int .i64 0, .int .i64 0, .int .i64 0, .int .i64 0] 28).below hb4 (Blk.new w3 #[.int .i64 1, .int .i64 (-1), .int .i64 (-1), .int .i64 0, .int .i64 0, .int .i64 0, .int .i64 0] 28).lt)
  have S4 := Lib.hid ((S3.out.alloc S3.out.size _).trans (hb4.mono (alloc_ge _ (by have := S3.out.size; omega))))
  clear hb4 P1_3 P2_3 P3_3 P4_3 Q1_3 Q2_3 T3 S3
  obtain ⟨c0, c1, c2, c3, c4, c5, c6⟩ := ruleCells (P1_4.out.alloc (.cells #[.int .i64 (-1), .int .i64 (-1), .int .i64 (-1), .int .i64 28, .int .i64 0, .int .i64 10, .int .i64 50] 28))
  go_wp2_with fail
  with_reducible refine (due_0 _).mono ?_
  rintro e w5 ⟨rfl, hb5⟩
  have P1_5 := Lib.hid ((P1_4.out.alloc _).below hb5 (P1_4.out.alloc _).lt)
  have P2_5 := Lib.hid ((P2_4.out.alloc _).below hb5 (P2_4.out.alloc _).lt)
  have P3_5 := Lib.hid ((P3_4.out.alloc _).below hb5 (P3_4.out.alloc _).lt)
  have P4_5 := Lib.hid ((P4_4.out.alloc _).below hb5 (P4_4.out.alloc _).lt)
  have Q1_5 := Lib.hid ((Q1_4.out.alloc _).below hb5 (Q1_4.out.alloc _).lt)
  have Q2_5 := Lib.hid ((Q2_4.out.alloc _).below hb5 (Q2_4.out.alloc _).lt)
  have Q3_5 := Lib.hid ((Q3_4.out.alloc _).below hb5 (Q3_4.out.alloc _).lt)
  have Q4_5 := Lib.hid ((Blk.new w4 #[.int .i64 (-1), .int .i64 (-1), .int .i64 (-1), .int .i64 28, .int .i64 0, .int .i64 10, .int .i64 50] 28).below hb5 (Blk.new w4 #[.int .i64 (-1), .int .i64 (-1), .int .i64 (-1), .int .i64 28, .int .i64 0, .int .i64 10, .int .i64 50] 28).lt)
  have S5 := Lib.hid ((S4.out.alloc S4.out.size _).trans (hb5.mono (alloc_ge _ (by have := S4.out.size; omega))))
  clear hb5 S4 T4 c0 c1 c2 c3 c4 c5 c6
  obtain ⟨c0, c1, c2, c3, c4, c5, c6⟩ := ruleCells P1_5.out
  obtain ⟨d0, d1, d2, d3, d4, d5, d6⟩ := ruleCells P2_5.out
  obtain ⟨e0, e1, e2, e3, e4, e5, e6⟩ := ruleCells P3_5.out
  obtain ⟨f0, f1, f2, f3, f4, f5, f6⟩ := ruleCells P4_5.out
  obtain ⟨g0, g1, g2, g3, g4, g5, g6⟩ := ruleCells Q1_5.out
  obtain ⟨h0, h1, h2, h3, h4, h5, h6⟩ := ruleCells Q2_5.out
  obtain ⟨i0, i1, i2, i3, i4, i5, i6⟩ := ruleCells Q3_5.out
  obtain ⟨j0, j1, j2, j3, j4, j5, j6⟩ := ruleCells Q4_5.out
  clear P2_5 P3_5 P4_5 Q1_5 Q2_5 Q3_5 Q4_5
  go_wp2_with fail
  with_reducible refine (fine_1 _).mono ?_
  rintro e w6 ⟨rfl, hb6⟩
  have P1_6 := Lib.hid (P1_5.out.below hb6 P1_5.out.lt)
  have S6 := Lib.hid (S5.out.trans (hb6.mono S5.out.size))
  clear hb6
  obtain ⟨c0, c1, c2, c3, c4, c5, c6⟩ := ruleCells P1_6.out
  go_wp2_with fail
  with_reducible refine (fine_2 _).mono ?_
  rintro e w7 ⟨rfl, hb7⟩
  have P1_7 := Lib.hid (P1_6.out.below hb7 P1_6.out.lt)
  have S7 := Lib.hid (S6.out.trans (hb7.mono S6.out.size))
  clear hb7
  obtain ⟨c0, c1, c2, c3, c4, c5, c6⟩ := ruleCells P1_7.out
  go_wp2_with fail
  with_reducible refine (fine_3 _).mono ?_
  rintro e w8 ⟨rfl, hb8⟩
  have P1_8 := Lib.hid (P1_7.out.below hb8 P1_7.out.lt)
  have S8 := Lib.hid (S7.out.trans (hb8.mono S7.out.size))
  clear hb8
  obtain ⟨c0, c1, c2, c3, c4, c5, c6⟩ := ruleCells P1_8.out
  go_wp2_with fail
  go_ret
  exact ⟨rfl, S8.out⟩
end Go.Proofs.Ytjikgoeinilnjaa
