/- Contracts of Clone, Sort, Compact on a slice of the call's own, and of Count: the number of open days of a range. -/
import Derived.Test.YtjikgoeinilnjaaM1
namespace Go.Proofs.Ytjikgoeinilnjaa
open Go.RowKit

def OwnSl (w : World) (B : Nat) (a : Option Addr) (D : List Int) (cap : Nat) : Prop :=
  D.length ≤ cap ∧ (D = [] ∨ ∃ g, a = some ⟨g, 0, none⟩ ∧ B ≤ g ∧ g < w.heap.size ∧ Go.Sort.Holds (Value.int .i64) w g 0 D.toArray)
theorem below_ahead {B : Nat} {a w : World} (h : Below B a w) (n : Nat) : Below B a (Go.Sort.ahead w n) := ⟨h.os, h.tape, h.output, h.size, h.block⟩
theorem below_putRow {B : Nat} {a w : World} (h : Below B a w) {g : Nat} (hg : B ≤ g) (o : Nat) (d : Array Int) : Below B a (Go.Sort.putRow (Value.int .i64) w g o d) :=
  ⟨h.os, h.tape, h.output, by rw [Go.Sort.size_putRow]; exact h.size, fun k hk => by
    show (w.heap.modify g _)[k]? = _
    rw [Array.getElem?_modify, if_neg (by omega)]; exact h.block k hk⟩
theorem below_grow {B : Nat} {a w : World} (h : Below B a w) (hB : B ≤ w.heap.size) (os : Array Obj) : Below B a (Go.Sort.grow w os) :=
  ⟨h.os, h.tape, h.output, by rw [Go.Sort.size_grow]; have := h.size; omega, fun k hk => by rw [Go.Sort.heap_grow_old w os (by omega)]; exact h.block k hk⟩

theorem clone_own (a : Option Addr) (D : List Int) (cap : Nat) (w : World) (hD : IntSl w a D) (hl : D.length ≤ 1000) :
    Calls Try.prog 36 #[.slice a D.length cap] w fun e w' => (∃ a' cap', e = .returned (.slice a' D.length cap') ∧ OwnSl w' w.heap.size a' D cap') ∧ Below w.heap.size w w' := by
  rcases hD with rfl | ⟨b, o, rfl, hb, hc⟩
  · rcases a with _ | a
    · refine (Try.slices_Clone_int_nil 0 cap w).mono ?_
      rintro e w' ⟨rfl, rfl⟩
      exact ⟨⟨none, 0, rfl, by simp, .inl rfl⟩, Below.refl _ _⟩
    · refine (Try.slices_Clone_int_zero a cap w).mono ?_
      rintro e w' ⟨v', rfl, ho, _, hb⟩
      obtain ⟨_, ⟨rfl, _⟩ | ⟨g, c', cur, rfl, hg, hh, hn, _⟩⟩ := ho
      · exact ⟨⟨none, 0, rfl, by simp, .inl rfl⟩, hb⟩
      · exact ⟨⟨_, _, rfl, by simp, .inl rfl⟩, hb⟩
  · refine (Try.slices_Clone_int b o D.length cap D w (Nat.le_refl _) (by omega) hc).mono ?_
    rintro e w' ⟨v', rfl, ho, _, hb⟩
    refine ⟨?_, hb⟩
    rw [List.take_length] at ho
    obtain ⟨_, ⟨rfl, hn⟩ | ⟨g, c', cur, rfl, hg, hh, hn, hm, hcs, hx⟩⟩ := ho
    · exact ⟨none, 0, by rw [hn], by omega, .inl (List.eq_nil_of_length_eq_zero hn)⟩
    · refine ⟨_, _, rfl, hn, .inr ⟨g, rfl, hg, heap_lt hh, fun j hj => ?_⟩⟩
      have hj' : j < D.length := by simpa using hj
      have e : cur[0 + j]? = some (Value.int .i64 D[j]) := by
        have h1 := congrArg (fun l => l[j]?) hx
        simp only [Nat.mul_one, List.getElem?_map, List.getElem?_eq_getElem hj', Option.map_some] at h1
        rw [List.getElem?_take_of_lt hj'] at h1
        simpa using h1
      constructor
      · simp only [World.cell?, hh]
        rw [getElem!_pos D.toArray j hj]
        simpa using e
      · simp [World.frozen?, hh]

theorem sort_own (a : Option Addr) (D : List Int) (cap B : Nat) (w : World) (hD : OwnSl w B a D cap) (hl : D.length ≤ 1000) (hB : B ≤ w.heap.size) :
    Calls Try.prog 37 #[.slice a D.length cap] w fun e w' => e = .returned (.tuple #[]) ∧ OwnSl w' B a (D.mergeSort fun x y => decide (x ≤ y)) cap ∧ Below B w w' := by
  obtain ⟨hcap, rfl | ⟨g, rfl, hg, hgl, hh⟩⟩ := hD
  · refine (Try.slices_Sort_int_none a cap w).mono ?_
    rintro e w' ⟨rfl, rfl⟩
    exact ⟨rfl, ⟨by simp, .inl (by simp)⟩, Below.refl _ _⟩
  · refine (Try.slices_Sort_int g 0 cap D w hh hgl (by omega)).mono ?_
    rintro e w' ⟨rfl, n, os, rfl⟩
    have hs : (D.mergeSort fun x y => decide (x ≤ y)).toArray.size = D.toArray.size := by simp
    refine ⟨rfl, ⟨by simpa using hcap, .inr ⟨g, rfl, hg, by simp [Go.Sort.ahead]; omega, ?_⟩⟩, below_grow (below_putRow (below_ahead (Below.refl _ _) _) hg _ _) (by simp [Go.Sort.ahead]; omega) _⟩
    exact Go.Sort.holds_grow _ _ _ _ _ _ (by simp [Go.Sort.ahead]; omega) (Go.Sort.holds_putRow _ _ _ _ D.toArray _ hh hs)

theorem compact_len (D : List Int) : (Go.Lib.compact D).length ≤ D.length := by
  have := List.length_filter_le (Go.Lib.keeps D.toArray) (List.range D.length)
  simpa [Go.Lib.compact, Go.Lib.compactUpTo] using this
theorem compact_own (a : Option Addr) (D : List Int) (cap B : Nat) (w : World) (hD : OwnSl w B a D cap) (hl : D.length ≤ 1000) (hB : B ≤ w.heap.size) :
    Calls Try.prog 38 #[.slice a D.length cap] w fun e w' => e = .returned (.slice a (Go.Lib.compact D).length cap) ∧ OwnSl w' B a (Go.Lib.compact D) cap ∧ Below B w w' := by
  have hcl := compact_len D
  obtain ⟨hcap, rfl | ⟨g, rfl, hg, hgl, hh⟩⟩ := hD
  · refine (Try.slices_Compact_int_empty a cap w).mono ?_
    rintro e w' ⟨rfl, rfl⟩
    exact ⟨rfl, ⟨by simp [Go.Lib.compact, Go.Lib.compactUpTo], .inl (by simp [Go.Lib.compact, Go.Lib.compactUpTo])⟩, Below.refl _ _⟩
  · refine (Try.slices_Compact_int g 0 cap D w hh (by omega) hcap).mono ?_
    rintro e w' ⟨rfl, q, rfl⟩
    refine ⟨rfl, ⟨by omega, .inr ⟨g, rfl, hg, by simp [Go.Sort.ahead]; omega, ?_⟩⟩, below_putRow (below_ahead (Below.refl _ _) _) hg _ _⟩
    have hs : (Go.Lib.compact D ++ List.replicate (D.length - (Go.Lib.compact D).length) 0).toArray.size = D.toArray.size := by simp; omega
    have H := Go.Sort.holds_putRow (Value.int .i64) (Go.Sort.ahead w q) g 0 D.toArray _ hh hs
    intro j hj
    have hj' : j < (Go.Lib.compact D).length := by simpa using hj
    have := H j (by simp; omega)
    rw [getElem!_pos _ j (by simp; omega)] at this
    rw [getElem!_pos _ j hj]
    simpa [List.getElem_append_left hj'] using this

def lo (f0 : Int) : Int := max f0 (-719162)
def hi (t0 : Int) : Int := min t0 2932897
def cntS (c : Cal) (f0 t0 : Int) : Int := cntR c (lo f0) (hi t0 - lo f0).toNat
theorem cntS_none {c : Cal} {f0 t0 : Int} (h : hi t0 ≤ lo f0) : cntS c f0 t0 = 0 := by
  have : (hi t0 - lo f0).toNat = 0 := by omega
  simp [cntS, this, cntR]
theorem cntS_some {c : Cal} {f0 t0 F G : Int} (hF : max f0 (-719162) = F) (hG : min t0 2932897 = G) (h : F < G) : cntS c f0 t0 = wk7 c F (G - F) 7 - refD c F G c.days c.days.length := by
  have e1 : lo f0 = F := hF
  have e2 : hi t0 = G := hG
  have e3 : ((G - F).toNat : Int) = G - F := by omega
  have e4 : F + (G - F) = G := by omega
  rw [cntS, e1, e2, cnt_eq c F (G - F).toNat (by omega) (by rw [e3]; omega), e3, e4]
theorem wk7_bd (c : Cal) (f n : Int) (k : Nat) (h0 : 0 ≤ n) (h1 : n ≤ 4000000) (hk : k ≤ 7) : 0 ≤ wk7 c f n k ∧ wk7 c f n k ≤ 600000 * k := by
  induction k with
  | zero => simp [wk7]
  | succ k ih =>
    have := ih (by omega)
    rw [wk7]; split <;> omega
theorem refD_bd (c : Cal) (f t : Int) (l : List Int) (k : Nat) : 0 ≤ refD c f t l k ∧ refD c f t l k ≤ k := by
  induction k with
  | zero => simp [refD]
  | succ k ih => rw [refD]; split <;> omega
def cntP (c : Cal) (f t : Int) (l : List Int) (k : Nat) : Int := (((l.take k).filter (prd c f t)).length : Int)
theorem cntP_bd (c : Cal) (f t : Int) (l : List Int) (k : Nat) : 0 ≤ cntP c f t l k ∧ cntP c f t l k ≤ k := by
  unfold cntP
  have := List.length_filter_le (prd c f t) (l.take k)
  have := List.length_take_le k l
  omega
theorem cntP_succ (c : Cal) (f t : Int) (l : List Int) (k : Nat) (h : k < l.length) : cntP c f t l (k + 1) = cntP c f t l k + if prd c f t (l.getD k 0) = true then 1 else 0 := by
  rw [cntP, cntP, take_succ_getD l k h, List.filter_append]
  generalize l.getD k 0 = y
  by_cases hp : prd c f t y = true <;> simp [hp]
end Go.Proofs.Ytjikgoeinilnjaa
