/- FundsClose: the walk. -/
import Derived.Test.YtmnkgjgaileokaaFR
import Derived.Test.YtmnkgjgaileokaaFS
import Derived.Test.YtmnkgjgaileokaaTB
namespace Go.Proofs.Ytmnkgjgaileokaa
open Go.RowKit
theorem fund5_0 (v : PV) (x : Int) : v.fund5 x = #[.int .i64 (v.at0 (fun z => z) x), .int .i64 (v.at0 v.pa x), .int .i64 (v.at0 v.al x), .int .i64 (v.at0 v.sp x), .int .i64 (v.at0 v.en x)] := by
  unfold PV.at0 PV.fund5
  by_cases hx : x ∈ v.ids
  · simp only [if_pos hx]
  · simp only [if_neg hx]
theorem tot5_0 (v : PV) (x : Int) : v.tot5 v.ids.length x = #[.int .i64 (v.at0 (fun z => z) x), .int .i64 (v.at0 v.pa x), .int .i64 (v.at0 (v.T v.al) x), .int .i64 (v.at0 (v.T v.sp) x), .int .i64 (v.at0 (v.T v.en) x)] := by
  by_cases hx : x ∈ v.ids
  · rw [tot5_in hx]; unfold PV.at0; simp only [if_pos hx]
  · rw [tot5_out hx]; unfold PV.at0; simp only [if_neg hx]
/-- A table of ten rows of five integers; the rows from 1 to n are those of F. -/
def Tab (w : World) (b : Nat) (F : Int → Int × Int × Int × Int × Int) (n : Nat) : Prop :=
  ∃ arr : Array Value, Blk w b arr 46 ∧ arr.size = 50 ∧ ∀ j : Nat, 1 ≤ j → j ≤ n →
    arr[j * 5]? = some (.int .i64 (F j).1) ∧ arr[j * 5 + 1]? = some (.int .i64 (F j).2.1) ∧ arr[j * 5 + 2]? = some (.int .i64 (F j).2.2.1) ∧ arr[j * 5 + 3]? = some (.int .i64 (F j).2.2.2.1) ∧ arr[j * 5 + 4]? = some (.int .i64 (F j).2.2.2.2)
theorem Tab.below {w w' : World} {b B n : Nat} {F : Int → Int × Int × Int × Int × Int} (h : Tab w b F n) (hb : Below B w w') (hl : b < B) : Tab w' b F n := by
  obtain ⟨arr, h1, h2⟩ := h
  exact ⟨arr, h1.below hb hl, h2⟩
theorem Tab.lt {w : World} {b n : Nat} {F : Int → Int × Int × Int × Int × Int} (h : Tab w b F n) : b < w.heap.size := by
  obtain ⟨arr, h1, _⟩ := h
  exact h1.lt
abbrev put5 (w : World) (b o : Nat) (x y z u v : Int) : World := ((((w.setCell ⟨b, o, none⟩ (.int .i64 x)).setCell ⟨b, o + 1, none⟩ (.int .i64 y)).setCell ⟨b, o + 2, none⟩ (.int .i64 z)).setCell ⟨b, o + 3, none⟩ (.int .i64 u)).setCell ⟨b, o + 4, none⟩ (.int .i64 v)
theorem Tab.put {w : World} {b n : Nat} {F : Int → Int × Int × Int × Int × Int} (h : Tab w b F n) (hn : n < 9) {x y z u v : Int} (hF : F ((n : Int) + 1) = (x, y, z, u, v)) : Tab (put5 w b ((n + 1) * 5) x y z u v) b F (n + 1) := by
  obtain ⟨arr, h1, h2, h3⟩ := h
  refine ⟨_, ((((h1.set _ _).set _ _).set _ _).set _ _).set _ _, by simp [h2], fun j hj1 hj2 => ?_⟩
  by_cases e : j = n + 1
  · subst e
    have hF' : F ((n + 1 : Nat) : Int) = (x, y, z, u, v) := by rw [← hF]; rfl
    rw [hF']
    simp [Array.getElem?_setIfInBounds, h2]
    omega
  · obtain ⟨a0, a1, a2, a3, a4⟩ := h3 j hj1 (by omega)
    refine ⟨?_, ?_, ?_, ?_, ?_⟩ <;> (simp only [Array.getElem?_setIfInBounds]; repeat rw [if_neg (by omega)]) <;> assumption
theorem Tab.put_ne {w : World} {b b' o n : Nat} {F : Int → Int × Int × Int × Int × Int} {x y z u v : Int} (h : Tab w b F n) (hne : b ≠ b') : Tab (put5 w b' o x y z u v) b F n := by
  obtain ⟨arr, h1, h2⟩ := h
  exact ⟨arr, ((((h1.set_ne _ _ hne).set_ne _ _ hne).set_ne _ _ hne).set_ne _ _ hne).set_ne _ _ hne, h2⟩
theorem St.put5 {w w1 : World} {n0 : Nat} {s : FS} {v : PV} (h : St w n0 w1 s v) (b o : Nat) (x y z u q : Int) (h0 : n0 ≤ b) (hn : s.o b = .none) : St w n0 (put5 w1 b o x y z u q) s v :=
  ((((h.setLocal _ _ h0 hn).setLocal _ _ h0 hn).setLocal _ _ h0 hn).setLocal _ _ h0 hn).setLocal _ _ h0 hn
theorem Tab.cells {w : World} {b n : Nat} {F : Int → Int × Int × Int × Int × Int} (h : Tab w b F n) {j : Nat} (h1 : 1 ≤ j) (h2 : j ≤ n) {x y z u v : Int} (hF : F j = (x, y, z, u, v)) :
    w.cell? ⟨b, j * 5, none⟩ = some (.int .i64 x) ∧ w.cell? ⟨b, j * 5 + 1, none⟩ = some (.int .i64 y) ∧ w.cell? ⟨b, j * 5 + 2, none⟩ = some (.int .i64 z) ∧ w.cell? ⟨b, j * 5 + 3, none⟩ = some (.int .i64 u) ∧ w.cell? ⟨b, j * 5 + 4, none⟩ = some (.int .i64 v) := by
  obtain ⟨arr, k1, _, k3⟩ := h
  obtain ⟨a0, a1, a2, a3, a4⟩ := k3 j h1 h2
  rw [hF] at a0 a1 a2 a3 a4
  exact ⟨(k1.cell _).trans a0, (k1.cell _).trans a1, (k1.cell _).trans a2, (k1.cell _).trans a3, (k1.cell _).trans a4⟩
theorem tab0 (w : World) (b : Nat) (F : Int → Int × Int × Int × Int × Int) (h : Blk w b #[.int .i64 0, .int .i64 0, .int .i64 0, .int .i64 0, .int .i64 0, .int .i64 0, .int .i64 0, .int .i64 0, .int .i64 0, .int .i64 0, .int .i64 0, .int .i64 0, .int .i64 0, .int .i64 0, .int .i64 0, .int .i64 0, .int .i64 0, .int .i64 0, .int .i64 0, .int .i64 0, .int .i64 0, .int .i64 0, .int .i64 0, .int .i64 0, .int .i64 0, .int .i64 0, .int .i64 0, .int .i64 0, .int .i64 0, .int .i64 0, .int .i64 0, .int .i64 0, .int .i64 0, .int .i64 0, .int .i64 0, .int .i64 0, .int .i64 0, .int .i64 0, .int .i64 0, .int .i64 0, .int .i64 0, .int .i64 0, .int .i64 0, .int .i64 0, .int .i64 0, .int .i64 0, .int .i64 0, .int .i64 0, .int .i64 0, .int .i64 0] 46) : Tab w b F 0 := ⟨_, h, rfl, fun j h1 h2 => by omega⟩
theorem Tab.free {w : World} {b n : Nat} {F : Int → Int × Int × Int × Int × Int} (h : Tab w b F n) (o : Nat) (ho : o < 50) : (∃ u, w.cell? ⟨b, o, none⟩ = some u) ∧ w.frozen? ⟨b, o, none⟩ = false := by
  obtain ⟨arr, k1, k2, _⟩ := h
  refine ⟨⟨arr[o], ?_⟩, k1.frozen o⟩
  rw [k1.cell, Array.getElem?_eq_getElem (by omega)]
theorem spTo_bd {v : PV} (h : Good v) : ∀ n : Nat, 0 ≤ sumTo (v.at0 v.sp) n ∧ sumTo (v.at0 v.sp) n ≤ n * 1000000000000000
  | 0 => by simp [sumTo]
  | n + 1 => by
    have := spTo_bd h n
    obtain ⟨h1, h2, h3, h4, h5⟩ := h.at0 ((n : Int) + 1)
    simp only [sumTo]
    omega
theorem alike_code {v v' : PV} (h : Alike v v') : v'.enc1 = v.enc1 := by
  have hs : v'.sorted = v.sorted := by unfold PV.sorted; rw [h.ids]
  have hc : v'.code = v.code := by
    unfold PV.code PV.codeOf
    rw [hs, List.flatMap_def, List.flatMap_def, List.map_congr_left fun x hx => by
      have hx : x ∈ v.ids := (sorted_mem v x).1 hx
      unfold PV.row5; rw [h.pa x hx, h.al x hx, h.sp x hx, h.en x hx]]
    rfl
  unfold PV.enc1; rw [hc]
theorem field31_2 (a b c d e : Int) (w : World) : (Instr.field 31 (.agg #[.int .i64 a, .int .i64 b, .int .i64 c, .int .i64 d, .int .i64 e]) 2).run Try.prog w = .ok (.int .i64 c) w := by kernel_rfl
def PV.fF (v : PV) (x : Int) : Int × Int × Int × Int × Int := (v.at0 (fun z => z) x, v.at0 v.pa x, v.at0 v.al x, v.at0 v.sp x, v.at0 v.en x)
def PV.tF (v : PV) (x : Int) : Int × Int × Int × Int × Int := (v.at0 (fun z => z) x, v.at0 v.pa x, v.at0 (v.T v.al) x, v.at0 (v.T v.sp) x, v.at0 (v.T v.en) x)
attribute [local go_sem] over_cell over_frozen field31_2
set_option maxRecDepth 100000 in
set_option maxHeartbeats 4000000 in
theorem closeLaw (L : List Act4) (a : Option Addr) (cap : Nat) (w : World) (h : InA w a L cap) :
    Calls Try.prog 9 #[.slice a L.length cap] w fun r w' => r = .returned (.bool true) ∧ Below w.heap.size w w' := by
  have hcap := h.cap
  have hlen := h.len
  have HI0 := Lib.hid h
  clear h
  go_enter Try.func9, Try.ntmps9
  go_wp2_with fail
  refine (sanity_any w).mono ?_
  rintro e w0 ⟨rfl, hb0⟩
  have HI := Lib.hid (HI0.out.below hb0 (Nat.le_refl _))
  have HB0 := Lib.hid hb0
  clear hb0 HI0
  go_wp2_with fail
  refine (played_any L a cap w0 HI.out).mono ?_
  rintro e w1 ⟨rfl, s, v, hS, hR⟩
  have S0 := Lib.hid hS
  have G : RowKit.Hid (Good v) := hR.good
  have N : RowKit.Hid (Nine v) := hR.nine
  have HT := Lib.hid (good_tot G.out)
  clear hS hR
  go_wp2_with fail
  obtain ⟨W, hW⟩ : ∃ W, W = (w1.alloc (.cells #[.int .i64 0, .int .i64 0, .int .i64 0, .int .i64 0, .int .i64 0, .int .i64 0, .int .i64 0, .int .i64 0, .int .i64 0, .int .i64 0, .int .i64 0, .int .i64 0, .int .i64 0, .int .i64 0, .int .i64 0, .int .i64 0, .int .i64 0, .int .i64 0, .int .i64 0, .int .i64 0, .int .i64 0, .int .i64 0, .int .i64 0, .int .i64 0, .int .i64 0, .int .i64 0, .int .i64 0, .int .i64 0, .int .i64 0, .int .i64 0, .int .i64 0, .int .i64 0, .int .i64 0, .int .i64 0, .int .i64 0, .int .i64 0, .int .i64 0, .int .i64 0, .int .i64 0, .int .i64 0, .int .i64 0, .int .i64 0, .int .i64 0, .int .i64 0, .int .i64 0, .int .i64 0, .int .i64 0, .int .i64 0, .int .i64 0, .int .i64 0] 46)).alloc (.cells #[.int .i64 0, .int .i64 0, .int .i64 0, .int .i64 0, .int .i64 0, .int .i64 0, .int .i64 0, .int .i64 0, .int .i64 0, .int .i64 0, .int .i64 0, .int .i64 0, .int .i64 0, .int .i64 0, .int .i64 0, .int .i64 0, .int .i64 0, .int .i64 0, .int .i64 0, .int .i64 0, .int .i64 0, .int .i64 0, .int .i64 0, .int .i64 0, .int .i64 0, .int .i64 0, .int .i64 0, .int .i64 0, .int .i64 0, .int .i64 0, .int .i64 0, .int .i64 0, .int .i64 0, .int .i64 0, .int .i64 0, .int .i64 0, .int .i64 0, .int .i64 0, .int .i64 0, .int .i64 0, .int .i64 0, .int .i64 0, .int .i64 0, .int .i64 0, .int .i64 0, .int .i64 0, .int .i64 0, .int .i64 0, .int .i64 0, .int .i64 0] 46) := ⟨_, rfl⟩
  have S1 : RowKit.Hid (St w0 w0.heap.size W s v) := by rw [hW]; exact (S0.out.alloc _).alloc _
  have K5 : RowKit.Hid (Tab W w1.heap.size v.fF 0) := by rw [hW]; exact tab0 _ _ _ ((Blk.new w1 _ 46).alloc _)
  have K6 : RowKit.Hid (Tab W (w1.heap.size + 1) v.tF 0) := by rw [hW]; exact tab0 _ _ _ (Blk.at_new (size_alloc _ _).symm _ 46)
  have O5 := Lib.hid S0.out.new.1
  have hn0 := S0.out.new.2
  have O6 : RowKit.Hid (s.o (w1.heap.size + 1) = .none) := S0.out.mem.fresh _ (by omega)
  rw [← hW]
  clear hW S0
  obtain ⟨X, hX⟩ : ∃ X, X = w1.heap.size := ⟨_, rfl⟩
  rw [← hX] at K5 K6 O5 O6 hn0 ⊢
  clear hX
  go_loopw [7] (fun i wr => ∃ k : Nat, k ≤ 9 ∧ i = .int .i64 ((k : Int) + 1) ∧ St w0 w0.heap.size wr s v ∧ Tab wr X v.fF k ∧ Tab wr (X + 1) v.tF k) (fun i _ => 10 - (intOf i).toNat)
  case atStart => exact ⟨0, by omega, rfl, S1.out, K5.out, K6.out⟩
  case round =>
    obtain ⟨k, hk, rfl, hS, hK5, hK6⟩ := hrel
    have S2 := Lib.hid hS
    have T5 := Lib.hid hK5
    have T6 := Lib.hid hK6
    clear hS hK5 hK6 S1 K5 K6
    by_cases h9 : k < 9
    · have hf5 := fund5_0 v ((k : Int) + 1)
      have ht5 := tot5_0 v ((k : Int) + 1)
      have hF : v.fF ((k : Int) + 1) = (v.at0 (fun z => z) ((k : Int) + 1), v.at0 v.pa ((k : Int) + 1), v.at0 v.al ((k : Int) + 1), v.at0 v.sp ((k : Int) + 1), v.at0 v.en ((k : Int) + 1)) := rfl
      have hG : v.tF ((k : Int) + 1) = (v.at0 (fun z => z) ((k : Int) + 1), v.at0 v.pa ((k : Int) + 1), v.at0 (v.T v.al) ((k : Int) + 1), v.at0 (v.T v.sp) ((k : Int) + 1), v.at0 (v.T v.en) ((k : Int) + 1)) := rfl
      generalize v.at0 (fun z => z) ((k : Int) + 1) = i0 at *
      generalize v.at0 v.pa ((k : Int) + 1) = i1 at *
      generalize v.at0 v.al ((k : Int) + 1) = i2 at *
      generalize v.at0 v.sp ((k : Int) + 1) = i3 at *
      generalize v.at0 v.en ((k : Int) + 1) = i4 at *
      generalize v.at0 (v.T v.al) ((k : Int) + 1) = j2 at *
      generalize v.at0 (v.T v.sp) ((k : Int) + 1) = j3 at *
      generalize v.at0 (v.T v.en) ((k : Int) + 1) = j4 at *
      have HF5 := Lib.hid hf5
      have HT5 := Lib.hid ht5
      have HF := Lib.hid hF
      have HG := Lib.hid hG
      clear hf5 ht5 hF hG
      go_wp2_with fail
      have key := fund_st (x := (k : Int) + 1) S2.out.mem S2.out.pv HF5.out rfl (by omega) (by omega)
      rw [S2.out.fb] at key
      refine key.mono ?_
      clear key
      rintro e w2 ⟨rfl, hb⟩
      have S3 := Lib.hid (S2.out.read hb)
      have U5 := Lib.hid (T5.out.below hb T5.out.lt)
      have U6 := Lib.hid (T6.out.below hb T6.out.lt)
      clear hb S2 T5 T6
      obtain ⟨⟨u0, g0⟩, f0⟩ := U5.out.free ((k + 1) * 5) (by omega)
      obtain ⟨⟨u1, g1⟩, f1⟩ := U5.out.free ((k + 1) * 5 + 1) (by omega)
      obtain ⟨⟨u2, g2⟩, f2⟩ := U5.out.free ((k + 1) * 5 + 2) (by omega)
      obtain ⟨⟨u3, g3⟩, f3⟩ := U5.out.free ((k + 1) * 5 + 3) (by omega)
      obtain ⟨⟨u4, g4⟩, f4⟩ := U5.out.free ((k + 1) * 5 + 4) (by omega)
      go_wp2_with fail
      have S4 : RowKit.Hid (St w0 w0.heap.size (put5 w2 X ((k + 1) * 5) i0 i1 i2 i3 i4) s v) := S3.out.put5 X _ _ _ _ _ _ hn0 O5.out
      have V5 : RowKit.Hid (Tab (put5 w2 X ((k + 1) * 5) i0 i1 i2 i3 i4) X v.fF (k + 1)) := U5.out.put h9 HF.out
      have V6 : RowKit.Hid (Tab (put5 w2 X ((k + 1) * 5) i0 i1 i2 i3 i4) (X + 1) v.tF k) := U6.out.put_ne (by omega)
      clear S3 U5 U6 g0 f0 g1 f1 g2 f2 g3 f3 g4 f4
      unfold put5 at S4 V5 V6
      generalize ((((w2.setCell ⟨X, (k + 1) * 5, none⟩ (.int .i64 i0)).setCell ⟨X, (k + 1) * 5 + 1, none⟩ (.int .i64 i1)).setCell ⟨X, (k + 1) * 5 + 2, none⟩ (.int .i64 i2)).setCell ⟨X, (k + 1) * 5 + 3, none⟩ (.int .i64 i3)).setCell ⟨X, (k + 1) * 5 + 4, none⟩ (.int .i64 i4) = W4 at *
      have key := total_st (x := (k : Int) + 1) S4.out.mem S4.out.pv G.out HT.out HT5.out (by omega) (by omega)
      rw [S4.out.fb] at key
      (with_reducible refine key.mono ?_)
      clear key
      rintro e w5 ⟨rfl, hb⟩
      have S5 := Lib.hid (S4.out.read hb)
      have X5 := Lib.hid (V5.out.below hb V5.out.lt)
      have X6 := Lib.hid (V6.out.below hb V6.out.lt)
      clear hb S4 V5 V6
      obtain ⟨⟨u0, g0⟩, f0⟩ := X6.out.free ((k + 1) * 5) (by omega)
      obtain ⟨⟨u1, g1⟩, f1⟩ := X6.out.free ((k + 1) * 5 + 1) (by omega)
      obtain ⟨⟨u2, g2⟩, f2⟩ := X6.out.free ((k + 1) * 5 + 2) (by omega)
      obtain ⟨⟨u3, g3⟩, f3⟩ := X6.out.free ((k + 1) * 5 + 3) (by omega)
      obtain ⟨⟨u4, g4⟩, f4⟩ := X6.out.free ((k + 1) * 5 + 4) (by omega)
      go_wp2_with fail
      refine ⟨⟨k + 1, by omega, by go_num, ?_, ?_, ?_⟩, by simp [intOf]; omega⟩
      · exact S5.out.put5 (X + 1) _ _ _ _ _ _ (by omega) O6.out
      · exact X5.out.put_ne (by omega)
      · exact X6.out.put h9 HG.out
    · have hk9 : k = 9 := by omega
      have e10 : ((k : Int) + 1) = 10 := by omega
      rw [hk9] at T5 T6
      rw [e10]
      have hh9 : ¬ (10 : Int) < 10 := by omega
      clear hk9 e10 h9 hk
      have HC0 : RowKit.Hid (∃ c, (v.ids.map v.sp).sum = c) := ⟨_, rfl⟩
      obtain ⟨c, hc⟩ := HC0.out
      have key := close_st S2.out.mem S2.out.pv G.out hc
      rw [S2.out.fb] at key
      have HK := Lib.hid key
      have HC := Lib.hid hc
      clear key hc
      go_wp2_with fail
      refine HK.out.mono ?_
      rintro e w2 ⟨rfl, s', hM, hT, hf, hcl⟩
      have S3 := Lib.hid (S2.out.step hM hT hf rfl)
      have U5 : RowKit.Hid (Tab w2 X v.fF 9) := by obtain ⟨arr, h1, h2⟩ := T5.out; exact ⟨arr, hT.blk h1 O5.out, h2⟩
      have U6 : RowKit.Hid (Tab w2 (X + 1) v.tF 9) := by obtain ⟨arr, h1, h2⟩ := T6.out; exact ⟨arr, hT.blk h1 O6.out, h2⟩
      have P5 : RowKit.Hid (s'.o X = .none) := hT.none X T5.out.lt O5.out
      have P6 : RowKit.Hid (s'.o (X + 1) = .none) := hT.none (X + 1) T6.out.lt O6.out
      have CL := Lib.hid hcl
      clear hM hT hf hcl S2 T5 T6 O5 O6 HK
      generalize s'.pv = v' at *
      have gc := good_close G.out CL.out
      have G2 : RowKit.Hid (Good v') := gc.1
      have EI : RowKit.Hid (v'.ids = v.ids) := gc.2.1
      have N2 : RowKit.Hid (Nine v') := by unfold Nine; rw [EI.out]; exact N.out
      have HT2 := Lib.hid (good_tot G2.out)
      clear gc
      have GM := Lib.hid G.out.money
      have hcb : 0 ≤ c ∧ c ≤ 1000000000000000 := by
        rw [← HC.out]
        exact ⟨sum_nonneg _ _ GM.out.2.1.nn, GM.out.2.1.le⟩
      go_wp2_with fail
      go_loopw [8, 9] (fun sl i wr => ∃ (n : Nat) (SM : Int), n ≤ 9 ∧ i = .int .i64 ((n : Int) + 1) ∧ sl = .int .i64 SM ∧ SM = c - sumTo (v.at0 v.sp) n ∧ St w0 w0.heap.size wr s' v' ∧ Tab wr X v.fF 9 ∧ Tab wr (X + 1) v.tF 9) (fun _ i _ => 10 - (intOf i).toNat)
      case atStart => exact ⟨0, c, by omega, rfl, rfl, by simp [sumTo], S3.out, U5.out, U6.out⟩
      case round =>
        obtain ⟨n, SM, hn, rfl, rfl, hSM, hS, hK5, hK6⟩ := hrel
        have S4 := Lib.hid hS
        have T5 := Lib.hid hK5
        have T6 := Lib.hid hK6
        have HSM := Lib.hid hSM
        have bd := spTo_bd G.out n
        have bd2 : -10000000000000000 ≤ SM ∧ SM ≤ 1000000000000000 := by omega
        clear hS hK5 hK6 hSM bd S3 U5 U6
        by_cases hn9 : n < 9
        · have hsx := G.out.at0 ((n : Int) + 1)
          have HS5 : RowKit.Hid (sumTo (v.at0 v.sp) (n + 1) = sumTo (v.at0 v.sp) n + v.at0 v.sp ((n : Int) + 1)) := rfl
          by_cases hid : ((n : Int) + 1) ∈ v.ids
          · have hid2 : ((n : Int) + 1) ∈ v'.ids := by rw [EI.out]; exact hid
            have hcl := closed_al G.out CL.out _ hid
            have f1 : v'.fund5 ((n : Int) + 1) = #[.int .i64 ((n : Int) + 1), .int .i64 (v.pa ((n : Int) + 1)), .int .i64 (v'.al ((n : Int) + 1)), .int .i64 0, .int .i64 (v.en ((n : Int) + 1))] := by
              rw [fund5_in hid2, hcl.1, CL.out.pa, CL.out.en]
            have f2 : v.fF ((n : Int) + 1) = ((n : Int) + 1, v.pa ((n : Int) + 1), v.al ((n : Int) + 1), v.sp ((n : Int) + 1), v.en ((n : Int) + 1)) := by
              unfold PV.fF PV.at0; simp only [if_pos hid]
            have f3 : v.tF ((n : Int) + 1) = ((n : Int) + 1, v.pa ((n : Int) + 1), v.T v.al ((n : Int) + 1), v.T v.sp ((n : Int) + 1), v.T v.en ((n : Int) + 1)) := by
              unfold PV.tF PV.at0; simp only [if_pos hid]
            have f4 : v.at0 v.sp ((n : Int) + 1) = v.sp ((n : Int) + 1) := if_pos hid
            have bTA := T_bd G.out GM.out.1 hid
            have bTS := T_bd G.out GM.out.2.1 hid
            have ftot : v.pa ((n : Int) + 1) = 0 → v'.tot5 v'.ids.length ((n : Int) + 1) = #[.int .i64 ((n : Int) + 1), .int .i64 (v.pa ((n : Int) + 1)), .int .i64 (v.T v.al ((n : Int) + 1) - v.T v.sp ((n : Int) + 1)), .int .i64 (v'.T v'.sp ((n : Int) + 1)), .int .i64 (v'.T v'.en ((n : Int) + 1))] := fun hp => by
              rw [tot5_in hid2, CL.out.pa]
              have := closed_tot G.out CL.out hid hp
              unfold PV.T
              rw [this]
            have ffree : v.pa ((n : Int) + 1) ≠ 0 → v'.free0 ((n : Int) + 1) = 0 := fun hp => by
              unfold PV.free0 PV.free
              rw [if_pos hid2, hcl.1, hcl.2, CL.out.en]
              unfold PV.closeAl
              rw [if_neg hp]; omega
            obtain ⟨y0, y1, y2, y3, y4⟩ := T5.out.cells (j := n + 1) (by omega) (by omega) f2
            have HF1 := Lib.hid f1
            have HF2 := Lib.hid f2
            have HF3 := Lib.hid f3
            have HFT := Lib.hid ftot
            have HFF := Lib.hid ffree
            rw [f4] at hsx HS5
            have HM2 := Lib.hid hid2
            clear f1 f2 f3 f4 hcl ftot ffree hid hid2 y0 y1 y2 y3 y4
            obtain ⟨P, hP⟩ : ∃ P, v.pa ((n : Int) + 1) = P := ⟨_, rfl⟩
            obtain ⟨A, hA⟩ : ∃ P, v.al ((n : Int) + 1) = P := ⟨_, rfl⟩
            obtain ⟨B, hB⟩ : ∃ P, v.sp ((n : Int) + 1) = P := ⟨_, rfl⟩
            obtain ⟨E, hE⟩ : ∃ P, v.en ((n : Int) + 1) = P := ⟨_, rfl⟩
            obtain ⟨A', hA'⟩ : ∃ P, v'.al ((n : Int) + 1) = P := ⟨_, rfl⟩
            obtain ⟨TA, hTA⟩ : ∃ P, v.T v.al ((n : Int) + 1) = P := ⟨_, rfl⟩
            obtain ⟨TS, hTS⟩ : ∃ P, v.T v.sp ((n : Int) + 1) = P := ⟨_, rfl⟩
            obtain ⟨TX, hTX⟩ : ∃ P, v'.T v'.sp ((n : Int) + 1) = P := ⟨_, rfl⟩
            obtain ⟨TY, hTY⟩ : ∃ P, v'.T v'.en ((n : Int) + 1) = P := ⟨_, rfl⟩
            rw [hP, hE, hA'] at HF1
            rw [hP, hA, hB, hE] at HF2
            rw [hP, hTA, hTS] at HF3 HFT
            rw [hTX, hTY] at HFT
            rw [hP] at HFF
            rw [hB] at hsx HS5
            rw [hTA] at bTA
            rw [hTS] at bTS
            have bB : 0 ≤ B ∧ B ≤ 1000000000000000 := by have := hsx.s; have := hsx.le; have := hsx.sum; have := hsx.e; have := hsx.f; omega
            clear hsx hP hA hB hE hA' hTA hTS hTX hTY
            go_wp2_with fail
            have key := fund_st (x := (n : Int) + 1) S4.out.mem S4.out.pv HF1.out (decide_eq_true HM2.out) (by omega) (by omega)
            rw [S4.out.fb] at key
            refine key.mono ?_
            clear key
            rintro e w5 ⟨rfl, hb⟩
            have S5 := Lib.hid ((S4.out.read hb).alloc (.cells #[.int .i64 ((n : Int) + 1), .int .i64 P, .int .i64 A', .int .i64 0, .int .i64 E] 31))
            have V5 := Lib.hid ((T5.out.below hb T5.out.lt).below ((Below.refl _ w5).alloc (Nat.le_refl _) (.cells #[.int .i64 ((n : Int) + 1), .int .i64 P, .int .i64 A', .int .i64 0, .int .i64 E] 31)) (T5.out.below hb T5.out.lt).lt)
            have V6 := Lib.hid ((T6.out.below hb T6.out.lt).below ((Below.refl _ w5).alloc (Nat.le_refl _) (.cells #[.int .i64 ((n : Int) + 1), .int .i64 P, .int .i64 A', .int .i64 0, .int .i64 E] 31)) (T6.out.below hb T6.out.lt).lt)
            have K5 := Lib.hid (Blk.new w5 #[.int .i64 ((n : Int) + 1), .int .i64 P, .int .i64 A', .int .i64 0, .int .i64 E] 31)
            clear hb S4 T5 T6
            obtain ⟨y0, y1, y2, y3, y4⟩ := V5.out.cells (j := n + 1) (by omega) (by omega) HF2.out
            obtain ⟨x0, x1, x2, x3, x4⟩ := five K5.out
            go_wp2_with fail
            generalize w5.alloc (.cells #[.int .i64 ((n : Int) + 1), .int .i64 P, .int .i64 A', .int .i64 0, .int .i64 E] 31) = W5 at *
            generalize w5.heap.size = Y at *
            have HSM2 : RowKit.Hid (SM - B = c - sumTo (v.at0 v.sp) (n + 1)) := by unfold RowKit.Hid; have h1 := HS5.out; have h2 := HSM.out; omega
            by_cases hP : P = 0
            · subst hP
              refine wp_region_over (by kernel_rfl) (by kernel_rfl) ?_
              repeat (go_big_quiet_step (fail))
              refine wpQuiet_nil ?_
              rintro _ ⟨nq, rfl⟩
              have S6 := Lib.hid (S5.out.read (below_over W5 nq))
              have Z5 := Lib.hid (V5.out.below (below_over W5 nq) V5.out.lt)
              have Z6 := Lib.hid (V6.out.below (below_over W5 nq) V6.out.lt)
              have K6 := Lib.hid (K5.out.over nq)
              clear S5 V5 V6 K5 x0 x1 x2 x3 x4 y0 y1 y2 y3 y4
              go_wp2_with fail
              generalize over W5 nq = W6 at *
              obtain ⟨x0, x1, x2, x3, x4⟩ := five K6.out
              have hTr : RowKit.Hid (∀ y, Calls Try.prog 20 #[.pointer (some ⟨w0.heap.size, 0, none⟩), .int .i64 ((n : Int) + 1)] (over W6 y) fun r w' => r = .returned (.agg #[.int .i64 ((n : Int) + 1), .int .i64 0, .int .i64 (TA - TS), .int .i64 TX, .int .i64 TY]) ∧ Below (over W6 y).heap.size (over W6 y) w') := fun y => by
                have h1 := S6.out.read (below_over W6 y)
                have := total_st (x := (n : Int) + 1) h1.mem h1.pv G2.out HT2.out (HFT.out (by trivial)) (by omega) (by omega)
                rwa [h1.fb] at this
              obtain ⟨z0, z1, z2, z3, z4⟩ := Z6.out.cells (j := n + 1) (by omega) (by omega) HF3.out
              refine wp_region_over (by kernel_rfl) (by kernel_rfl) ?_
              repeat (first | go_big_quiet_step ((go_at_call 20; exact inOver (hTr.out _))) | quiet_step ((go_at_call 20; exact inOver (hTr.out _))))
              refine wpQuiet_nil ?_
              rintro _ ⟨nq, rfl⟩
              go_wp2_with fail
              exact ⟨⟨n + 1, SM - B, by omega, by go_num, rfl, HSM2.out, S6.out.read (below_over W6 nq), Z5.out.below (below_over W6 nq) Z5.out.lt, Z6.out.below (below_over W6 nq) Z6.out.lt⟩, by simp [intOf]; omega⟩
            · have hPb : (P != 0) = true := by simpa using hP
              have hPe : (P == 0) = false := by simpa using hP
              have hFr : RowKit.Hid (∀ y, Calls Try.prog 18 #[.pointer (some ⟨w0.heap.size, 0, none⟩), .int .i64 ((n : Int) + 1)] (over W5 y) fun r w' => r = .returned (.int .i64 0) ∧ Below (over W5 y).heap.size (over W5 y) w') := fun y => by
                have h1 := S5.out.read (below_over W5 y)
                have := free_st (x := (n : Int) + 1) h1.mem h1.pv G2.out (HFF.out hP) (by omega) (by omega)
                rwa [h1.fb] at this
              clear hP
              refine wp_region_over (by kernel_rfl) (by kernel_rfl) ?_
              repeat (go_big_quiet_step ((go_at_call 18; exact inOver (hFr.out _))))
              refine wpQuiet_nil ?_
              rintro _ ⟨nq, rfl⟩
              have S6 := Lib.hid (S5.out.read (below_over W5 nq))
              have Z5 := Lib.hid (V5.out.below (below_over W5 nq) V5.out.lt)
              have Z6 := Lib.hid (V6.out.below (below_over W5 nq) V6.out.lt)
              have K6 := Lib.hid (K5.out.over nq)
              clear S5 V5 V6 K5 x0 x1 x2 x3 x4 y0 y1 y2 y3 y4
              go_wp2_with fail
              generalize over W5 nq = W6 at *
              obtain ⟨x0, x1, x2, x3, x4⟩ := five K6.out
              refine wp_region_over (by kernel_rfl) (by kernel_rfl) ?_
              repeat (go_big_quiet_step (fail))
              refine wpQuiet_nil ?_
              rintro _ ⟨nq, rfl⟩
              go_wp2_with fail
              exact ⟨⟨n + 1, SM - B, by omega, by go_num, rfl, HSM2.out, S6.out.read (below_over W6 nq), Z5.out.below (below_over W6 nq) Z5.out.lt, Z6.out.below (below_over W6 nq) Z6.out.lt⟩, by simp [intOf]; omega⟩
          · have hid2 : ((n : Int) + 1) ∉ v'.ids := by rw [EI.out]; exact hid
            have f1 := fund5_out hid2
            have f2 : v.fF ((n : Int) + 1) = (0, 0, 0, 0, 0) := by
              unfold PV.fF PV.at0; simp only [if_neg hid]
            have f4 : v.at0 v.sp ((n : Int) + 1) = 0 := if_neg hid
            have HF1 := Lib.hid f1
            have HF2 := Lib.hid f2
            rw [f4] at HS5
            have HM2 := Lib.hid hid2
            have HSM2 : RowKit.Hid (SM = c - sumTo (v.at0 v.sp) (n + 1)) := by unfold RowKit.Hid; have h1 := HS5.out; have h2 := HSM.out; omega
            clear f1 f2 f4 hid hid2 hsx
            go_wp2_with fail
            have key := fund_st (x := (n : Int) + 1) S4.out.mem S4.out.pv HF1.out (decide_eq_false HM2.out) (by omega) (by omega)
            rw [S4.out.fb] at key
            refine key.mono ?_
            clear key
            rintro e w5 ⟨rfl, hb⟩
            have S5 := Lib.hid ((S4.out.read hb).alloc (.cells #[.int .i64 0, .int .i64 0, .int .i64 0, .int .i64 0, .int .i64 0] 31))
            have V5 := Lib.hid ((T5.out.below hb T5.out.lt).below ((Below.refl _ w5).alloc (Nat.le_refl _) (.cells #[.int .i64 0, .int .i64 0, .int .i64 0, .int .i64 0, .int .i64 0] 31)) (T5.out.below hb T5.out.lt).lt)
            have V6 := Lib.hid ((T6.out.below hb T6.out.lt).below ((Below.refl _ w5).alloc (Nat.le_refl _) (.cells #[.int .i64 0, .int .i64 0, .int .i64 0, .int .i64 0, .int .i64 0] 31)) (T6.out.below hb T6.out.lt).lt)
            have K5 := Lib.hid (Blk.new w5 #[.int .i64 0, .int .i64 0, .int .i64 0, .int .i64 0, .int .i64 0] 31)
            clear hb S4 T5 T6
            obtain ⟨y0, y1, y2, y3, y4⟩ := V5.out.cells (j := n + 1) (by omega) (by omega) HF2.out
            obtain ⟨x0, x1, x2, x3, x4⟩ := five K5.out
            go_wp2_with fail
            generalize w5.alloc (.cells #[.int .i64 0, .int .i64 0, .int .i64 0, .int .i64 0, .int .i64 0] 31) = W5 at *
            generalize w5.heap.size = Y at *
            refine wp_region_over (by kernel_rfl) (by kernel_rfl) ?_
            repeat (go_big_quiet_step (fail))
            refine wpQuiet_nil ?_
            rintro _ ⟨nq, rfl⟩
            have S6 := Lib.hid (S5.out.read (below_over W5 nq))
            have Z5 := Lib.hid (V5.out.below (below_over W5 nq) V5.out.lt)
            have Z6 := Lib.hid (V6.out.below (below_over W5 nq) V6.out.lt)
            have K6 := Lib.hid (K5.out.over nq)
            clear S5 V5 V6 K5 x0 x1 x2 x3 x4 y0 y1 y2 y3 y4
            go_wp2_with fail
            generalize over W5 nq = W6 at *
            obtain ⟨x0, x1, x2, x3, x4⟩ := five K6.out
            refine wp_region_over (by kernel_rfl) (by kernel_rfl) ?_
            repeat (go_big_quiet_step (fail))
            refine wpQuiet_nil ?_
            rintro _ ⟨nq, rfl⟩
            go_wp2_with fail
            exact ⟨⟨n + 1, SM, by omega, by go_num, rfl, HSM2.out, S6.out.read (below_over W6 nq), Z5.out.below (below_over W6 nq) Z5.out.lt, Z6.out.below (below_over W6 nq) Z6.out.lt⟩, by simp [intOf]; omega⟩
        · have hn9' : n = 9 := by omega
          have e10 : ((n : Int) + 1) = 10 := by omega
          have hz : SM = 0 := by
            rw [HSM.out, hn9', ← HC.out]
            have := nine_sum v.sp v.ids G.out.fix.nd N.out
            unfold PV.at0
            rw [this]; omega
          subst hz
          rw [e10]
          have hh9 : ¬ (10 : Int) < 10 := by omega
          clear e10 hn9' hn9 hn HSM bd2
          have key := encode_st S4.out.mem S4.out.pv G2.out
          rw [S4.out.fb] at key
          have HK := Lib.hid key
          clear key
          go_wp2_with fail
          refine HK.out.mono ?_
          rintro e w5 ⟨rfl, hb⟩
          have S5 := Lib.hid (S4.out.read hb)
          have HZ0 : RowKit.Hid ((v'.ids.map v'.sp).sum = 0) := by
            unfold RowKit.Hid
            rw [EI.out, sum_congr (g := fun _ => 0) fun z hz => (closed_al G.out CL.out z hz).1]
            have : ∀ l : List Int, (l.map fun _ => (0 : Int)).sum = 0 := fun l => by induction l with | nil => rfl | cons a l ih => simp [ih]
            exact this _
          have key := close_st S5.out.mem S5.out.pv G2.out HZ0.out
          rw [S5.out.fb] at key
          have HK2 := Lib.hid key
          clear key hb HK S4 T5 T6
          go_wp2_with fail
          refine HK2.out.mono ?_
          rintro e w6 ⟨rfl, s2, hM, hT, hf, hcl⟩
          have S6 := Lib.hid (S5.out.step hM hT hf rfl)
          have CL2 := Lib.hid hcl
          clear hM hT hf hcl S5 HK2
          generalize s2.pv = v2 at *
          have G3 : RowKit.Hid (Good v2) := (good_close G2.out CL2.out).1
          have EQ := Lib.hid (alike_code (closed_again G.out G2.out CL.out CL2.out).2)
          have key := encode_st S6.out.mem S6.out.pv G3.out
          rw [S6.out.fb, EQ.out] at key
          have HK := Lib.hid key
          clear key
          go_wp2_with fail
          refine HK.out.mono ?_
          rintro e w7 ⟨rfl, hb⟩
          have S7 := Lib.hid (S6.out.read hb)
          clear hb
          go_wp2_with fail
          go_ret
          exact ⟨rfl, HB0.out.trans (S7.out.below.mono HB0.out.size)⟩
end Go.Proofs.Ytmnkgjgaileokaa
