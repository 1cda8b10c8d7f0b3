/- Contracts of Find, of its reference, and of fits. -/
import Derived.Test.YtjikgoeinilnjaaW1
namespace Go.Proofs.Ytjikgoeinilnjaa
open Go.RowKit

def RuleAt (w : World) (b o : Nat) (r : Rule) : Prop :=
  w.cell? ⟨b, o, none⟩ = some (.int .i64 r.p) ∧ w.cell? ⟨b, o + 1, none⟩ = some (.int .i64 r.i) ∧ w.cell? ⟨b, o + 2, none⟩ = some (.int .i64 r.b) ∧
  w.cell? ⟨b, o + 3, none⟩ = some (.int .i64 r.d) ∧ w.cell? ⟨b, o + 4, none⟩ = some (.int .i64 r.n) ∧ w.cell? ⟨b, o + 5, none⟩ = some (.int .i64 r.f) ∧ w.cell? ⟨b, o + 6, none⟩ = some (.int .i64 r.c)
def zr : Rule := ⟨0, 0, 0, 0, 0, 0, 0⟩
def RulesAt (w : World) (b o : Nat) (L : List Rule) : Prop := ∀ k, k < L.length → RuleAt w b (o + k * 7) (L.getD k zr)
def rvs (r : Rule) : Array Value := #[.int .i64 r.p, .int .i64 r.i, .int .i64 r.b, .int .i64 r.d, .int .i64 r.n, .int .i64 r.f, .int .i64 r.c]

theorem RuleAt.below {W w1 : World} {b o : Nat} {r : Rule} (h : RuleAt W b o r) {B : Nat} (hb : Below B W w1) (hl : b < B) : RuleAt w1 b o r := by
  obtain ⟨c0, c1, c2, c3, c4, c5, c6⟩ := h
  refine ⟨?_, ?_, ?_, ?_, ?_, ?_, ?_⟩ <;> (rw [hb.cell (by exact hl)]; assumption)
theorem RuleAt.ofBlk {w : World} {b : Nat} {r : Rule} {T : TypeId} (h : Blk w b (rvs r) T) : RuleAt w b 0 r :=
  ⟨h.cell 0, h.cell 1, h.cell 2, h.cell 3, h.cell 4, h.cell 5, h.cell 6⟩

abbrev st7 (w : World) (b : Nat) (r : Rule) : World := ((((((w.setCell ⟨b, 0, none⟩ (.int .i64 r.p)).setCell ⟨b, 1, none⟩ (.int .i64 r.i)).setCell ⟨b, 2, none⟩ (.int .i64 r.b)).setCell ⟨b, 3, none⟩ (.int .i64 r.d)).setCell ⟨b, 4, none⟩ (.int .i64 r.n)).setCell ⟨b, 5, none⟩ (.int .i64 r.f)).setCell ⟨b, 6, none⟩ (.int .i64 r.c)
theorem rule_store {w w0 : World} {B b : Nat} {s r : Rule} {T : TypeId} (h : Blk w b (rvs s) T) (hB : B ≤ b) (hb : Below B w0 w) :
    Below B w0 (st7 w b r) ∧ (st7 w b r).heap.size = w.heap.size ∧ Blk (st7 w b r) b (rvs r) T ∧ ∀ c ys U, c ≠ b → Blk w c ys U → Blk (st7 w b r) c ys U :=
  ⟨((((((hb.setCell (by exact hB) _).setCell (by exact hB) _).setCell (by exact hB) _).setCell (by exact hB) _).setCell (by exact hB) _).setCell (by exact hB) _).setCell (by exact hB) _,
   by simp, ((((((((h.set 0 _).set 1 _).set 2 _).set 3 _).set 4 _).set 5 _).set 6 _)).cast (by simp [rvs]), fun _ _ _ hne h => ((((((h.set_ne _ _ hne).set_ne _ _ hne).set_ne _ _ hne).set_ne _ _ hne).set_ne _ _ hne).set_ne _ _ hne).set_ne _ _ hne⟩
def stepF (a b c : Int) (s : Rule × Int) (r : Rule) : Rule × Int := if s.2 < weightI r a b c then (r, weightI r a b c) else s
def findS (L : List Rule) (a b c : Int) : Rule × Int := L.foldl (stepF a b c) (zr, -1)
theorem findS_snoc (L : List Rule) (k : Nat) (a b c : Int) (h : k < L.length) :
    findS (L.take (k + 1)) a b c = stepF a b c (findS (L.take k) a b c) (L.getD k zr) := by
  rw [List.take_succ_eq_append_getElem h, findS, List.foldl_append]
  simp [findS, List.getElem?_eq_getElem h]
theorem stepF_yes {a b c : Int} {s : Rule × Int} {r : Rule} (h : s.2 < weightI r a b c) : stepF a b c s r = (r, weightI r a b c) := by simp [stepF, h]
theorem stepF_no {a b c : Int} {s : Rule × Int} {r : Rule} (h : ¬ s.2 < weightI r a b c) : stepF a b c s r = s := by simp [stepF, h]

set_option maxHeartbeats 1000000 in
theorem find_any (L : List Rule) (b o cap : Nat) (x y z : Int) (w : World) (hb : b < w.heap.size) (hL : RulesAt w b o L) (hn : L.length ≤ 1000) :
    Calls Try.prog 14 #[.slice (some ⟨b, o, none⟩) L.length cap, .int .i64 x, .int .i64 y, .int .i64 z] w fun e w' =>
      e = .returned (.tuple #[.agg (rvs (findS L x y z).1), .bool (decide (0 ≤ (findS L x y z).2))]) ∧ Below w.heap.size w w' := by
  have HL := Lib.hid hL
  clear hL
  go_enter Try.func14, Try.ntmps14
  go_wp2
  go_loopw [11, 16] (fun m i wr => ∃ k : Nat, k ≤ L.length ∧ i = .int .i64 k ∧ m = .int .i64 (findS (L.take k) x y z).2 ∧ Below w.heap.size w wr ∧ w.heap.size + 2 ≤ wr.heap.size ∧
      Blk wr (w.heap.size + 1) (rvs (findS (L.take k) x y z).1) 28 ∧ Blk wr w.heap.size (rvs zr) 28) (fun _ i _ => L.length - (intOf i).toNat)
  case atStart =>
    exact ⟨0, by omega, rfl, rfl, ((Below.refl _ _).alloc (Nat.le_refl _) _).alloc (by simp) _, by simp, Blk.at_new (by simp) _ _, (Blk.new _ _ _).alloc _⟩
  case round =>
    obtain ⟨k, hk, rfl, rfl, hbl, hsz, hbest, hz⟩ := hrel
    by_cases hlt : k < L.length
    · have hr := HL.out k hlt
      have hst := Lib.hid (findS_snoc L k x y z hlt)
      generalize L.getD k zr = r at hr hst
      have hr1 := hr.below hbl hb
      obtain ⟨c0, c1, c2, c3, c4, c5, c6⟩ := hr1
      have Hb := Lib.hid hbest
      have Hz := Lib.hid hz
      generalize (findS (L.take k) x y z) = s at Hb hst
      clear hbest hz hr
      go_wp2_with fail
      refine (weight_any r _ _ _ _).mono ?_
      rintro e w1 ⟨rfl, hb1⟩
      have hlb : b < wr.heap.size := by omega
      have D := bcell hb1
      have Hb1 := Hb.out.below hb1 Hb.out.lt
      have Hz1 := Hz.out.below hb1 Hz.out.lt
      rw [← D.1 _ _ hlb] at c0 c1 c2 c3 c4 c5 c6
      have q0 := Hb1.cell 0
      have q1 := Hb1.cell 1
      have q2 := Hb1.cell 2
      have q3 := Hb1.cell 3
      have q4 := Hb1.cell 4
      have q5 := Hb1.cell 5
      have q6 := Hb1.cell 6
      simp only [rvs] at q0 q1 q2 q3 q4 q5 q6
      have qf := Hb1.frozen
      have HB1 := Lib.hid Hb1
      have HZ1 := Lib.hid Hz1
      clear D Hb1 Hz1 Hb Hz
      go_wp2
      · obtain ⟨g1, g2, g3, g4⟩ := rule_store (r := r) HB1.out (Nat.le_succ _) (hbl.trans (hb1.mono (by omega)))
        have E := hst.out.trans (stepF_yes (by assumption))
        refine ⟨⟨k + 1, by omega, by go_num, by rw [E], g1, ?_, by rw [E]; exact g3, g4 _ _ _ (by omega) HZ1.out⟩, by simp [intOf]; omega⟩
        rw [g2]; have := hb1.size; omega
      · have E := hst.out.trans (stepF_no (by omega))
        exact ⟨⟨k + 1, by omega, by go_num, by rw [E], hbl.trans (hb1.mono (by omega)), by have := hb1.size; omega, by rw [E]; exact HB1.out, HZ1.out⟩, by simp [intOf]; omega⟩
    · obtain rfl : k = L.length := by omega
      have E : L.take L.length = L := List.take_length
      rw [E] at hbest ⊢
      obtain ⟨s, hs⟩ : ∃ s, s = findS L x y z := ⟨_, rfl⟩
      rw [← hs] at hbest ⊢
      have HS := Lib.hid hs
      obtain ⟨q0, q1, q2, q3, q4, q5, q6⟩ := RuleAt.ofBlk hbest
      obtain ⟨z0, z1, z2, z3, z4, z5, z6⟩ := RuleAt.ofBlk hz
      have zf := hz.frozen
      have HZ := Lib.hid hz
      clear E hbest hz hs
      go_wp2
      obtain ⟨g1, g2, g3, g4⟩ := rule_store (r := s.1) HZ.out (Nat.le_refl _) hbl
      obtain ⟨q0, q1, q2, q3, q4, q5, q6⟩ := RuleAt.ofBlk g3
      refine bodyPost_ret (v := .tuple #[.agg (rvs s.1), .bool (decide (0 ≤ s.2))]) ?_ rfl ⟨by rw [HS.out], g1⟩
      simp [results, Try.results14, go_sem, q0, q1, q2, q3, q4, q5, q6, rvs]
end Go.Proofs.Ytjikgoeinilnjaa
