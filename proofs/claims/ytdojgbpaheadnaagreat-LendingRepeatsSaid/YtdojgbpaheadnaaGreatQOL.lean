/- How numbers and bytes that came in are opened. -/
import Derived.Test.YtdojgbpaheadnaaGreatRows
import Derived.Test.YtdojgbpaheadnaaGreatQRS
import Derived.ProofKit
import Derived.OpenShut
import Derived.ShutString
import Derived.ChangeOld
import Derived.Below
import Derived.Deep.Slices
import Derived.Test.YtdojgbpaheadnaaGreatQUN
set_option linter.unusedVariables false
set_option linter.unusedSimpArgs false

namespace Go.Proofs.YtdojgbpaheadnaaGreat
open Go.ChangeShapes Go.WideShapes Go.ChangeAt Go.RowKit
theorem add_eq (b o i : Nat) : (⟨b, o, none⟩ : Addr).add i = ⟨b, o + i, none⟩ := by by_cases h : i = 0 <;> simp [Addr.add, h]
theorem wf_in64 {k : Int} (h : (Lit.int .i64 k).wf = true) : I64 k := by
 simp [Lit.wf, IntKind.min, IntKind.max, IntKind.bits, IntKind.signed] at h; exact ⟨by omega, by omega⟩
theorem wf_u8 {k : Int} (h : (Lit.int .u8 k).wf = true) : 0 ≤ k ∧ k < 256 := by
 simp [Lit.wf, IntKind.min, IntKind.max, IntKind.bits, IntKind.signed] at h; omega
theorem getD_map_range {α : Type} (n : Nat) (R : Nat → α) (d : α) {k : Nat} (hk : k < n) : ((List.range n).map R).getD k d = R k := by
 rw [List.getD_eq_getElem?_getD, List.getElem?_eq_getElem (by simpa using hk)]; simp
section
variable {H : Type} {enc : TypeId × Value → H} {W : World} {base : Nat} {spare : Nat → Bool} {held : Bool}
theorem nums_of {t e : TypeId} {kd : IntKind} (ht : Tryz.prog.underlying t = some (.slice e)) (he : Tryz.prog.underlying e = some (.int kd)) (hce : Tryz.prog.cellsOf e = 1) {fuel : Nat} {cs : List Value} {x : DataW H × List MemPlace}
  (h : DataW.trod enc Tryz.prog W base spare held fuel t cs = some x) : ∃ (a : Option Addr) (M : List Int) (cap : Nat), cs = [.slice a M.length cap] ∧
   (M = [] ∨ ∃ b o, a = some ⟨b, o, none⟩ ∧ b < W.heap.size ∧ ∀ j, j < M.length → W.cell? ⟨b, o + j, none⟩ = some (.int kd (M.getD j 0))) ∧ (∀ j, j < M.length → (Lit.int kd (M.getD j 0)).wf = true) ∧ M.length ≤ cap ∧ cap ≤ 9223372036854775807 := by
 rcases Go.Deep.open_slice ht h with ⟨hcs, _⟩ | ⟨ad, len, cap, m, n, D, Pl, hcs, hb, hl, hm, hmm, _, hx⟩
 ·exact ⟨none, [], 0, hcs, .inl rfl, fun j hj => by simp at hj, by simp, by simp⟩
 ·have hcap : cap ≤ 9223372036854775807 := by unfold maxLen at hm; omega
  have hlm : len ≤ m := by rw [hmm]; split <;> omega
  rw [hce] at hx
  have each : ∀ i, i < len → ∃ r : Int, W.cells? base (ad.add (i * 1)) 1 = some [.int kd r] ∧ (Lit.int kd r).wf = true := by
   intro i hi
   obtain ⟨cs', h1, h2⟩ := hx i (by omega)
   obtain ⟨r, hr, _, h3⟩ := DataW.trod_int he h2
   exact ⟨r, by rw [h1, hr], h3⟩
  by_cases h0 : len = 0
  ·subst h0
   exact ⟨_, [], cap, hcs, .inl rfl, fun j hj => by simp at hj, by simp, hcap⟩
  ·obtain ⟨R, hR⟩ := Go.Deep.choose_lt each
   have hcell : ∀ i, i < len → W.cell? (ad.add i) = some (.int kd (R i)) := by
    intro i hi
    obtain ⟨_, _, hc⟩ := World.cells?_some (hR i hi).1
    have := hc 0 (by omega)
    simpa [Go.Deep.add_add] using this
   have hc0 := hcell 0 (by omega)
   obtain ⟨b, o, sp⟩ := ad
   have hs : sp = none := by
    have : W.cell? ((⟨b, o, sp⟩ : Addr).add 0) = some (.int kd (R 0)) := hc0
    simpa [Addr.add] using World.cell?_spot this
   subst hs
   have hbl : b < W.heap.size := by
    have := World.cells?_block (hR 0 (by omega)).1 (by omega)
    simpa [Addr.add] using this
   refine ⟨_, (List.range len).map R, cap, by simpa using hcs, .inr ⟨b, o, rfl, hbl, fun k hk => ?_⟩, fun k hk => ?_, by simpa using hl, hcap⟩
   ·have hk' : k < len := by simpa using hk
    rw [getD_map_range len R 0 hk', ← hcell k hk', add_eq]
   ·have hk' : k < len := by simpa using hk
    rw [getD_map_range len R 0 hk']
    exact (hR k hk').2
theorem u8_of {fuel : Nat} {len cap : Nat} {a : Option Addr} {x : DataW H × List MemPlace} (h : DataW.trod enc Tryz.prog W base spare held fuel 23 [.slice a len cap] = some x) : ∃ bs : List Int, bs.length = len ∧ U8 W a bs cap ∧ bs.length ≤ cap ∧ cap ≤ 9223372036854775807 := by
 obtain ⟨a', M, cap', e, g, b, l, l2⟩ := nums_of Tryz.underlying23 Tryz.underlying5 (by kernel_rfl) h
 obtain ⟨rfl, rfl, rfl⟩ : a = a' ∧ len = M.length ∧ cap = cap' := by simpa using e
 exact ⟨M, rfl, ⟨g, fun j hj => wf_u8 (b j hj), by omega⟩, l, l2⟩
end
end Go.Proofs.YtdojgbpaheadnaaGreat

/- How a row of bytes, at any place, is opened. -/
namespace Go.Proofs.YtdojgbpaheadnaaGreat
open Go.ChangeShapes Go.WideShapes Go.ChangeAt Go.RowKit
theorem len3S {α : Type} {l : List α} (h : l.length = 3) : ∃ a b c, l = [a, b, c] := by
 match l, h with
 | [a, b, c], _ => exact ⟨a, b, c, rfl⟩
section
variable {H : Type} {enc : TypeId × Value → H} {W : World} {base : Nat} {spare : Nat → Bool} {held : Bool}
theorem u8s_of {fuel : Nat} {cs : List Value} {x : DataW H × List MemPlace} (h : DataW.trod enc Tryz.prog W base spare held fuel 23 cs = some x) : ∃ (a : Option Addr) (L : List Int) (cap : Nat), cs = [.slice a L.length cap] ∧ U8 W a L cap ∧ L.length ≤ cap ∧ cap ≤ 9223372036854775807 := by
 obtain ⟨a, M, cap, e, h1, h2, h3, h4⟩ := nums_of Tryz.underlying23 Tryz.underlying5 (by kernel_rfl) h
 exact ⟨a, M, cap, e, ⟨h1, fun j hj => wf_u8 (h2 j hj), by omega⟩, h3, h4⟩
end
end Go.Proofs.YtdojgbpaheadnaaGreat

/- How the argument of the laws of the net is opened: a start. -/
namespace Go.Proofs.YtdojgbpaheadnaaGreat
open Go.ChangeShapes Go.WideShapes Go.ChangeAt Go.RowKit
theorem len7S {α : Type} {l : List α} (h : l.length = 7) : ∃ a b c d e f g, l = [a, b, c, d, e, f, g] := by
 match l, h with
 | [a, b, c, d, e, f, g], _ => exact ⟨a, b, c, d, e, f, g, rfl⟩
section
variable {H : Type} {enc : TypeId × Value → H} {W : World} {base : Nat} {spare : Nat → Bool} {held : Bool}
theorem tr_of {fuel : Nat} {cs : List Value} {x : DataW H × List MemPlace} (h : DataW.trod enc Tryz.prog W base spare held fuel 90 cs = some x) : ∃ t : Tr, cs = [.bool t.1, i64 t.2.1, i64 t.2.2] ∧ I64 t.2.2 := by
 obtain ⟨xs, n, rfl, rfl, hl, hx, hf⟩ := DataW.trod_struct Tryz.underlying90 h
 have cT : Tryz.prog.cellsOf 90 = 3 := by kernel_rfl
 have c3 : Tryz.prog.cellsOf 3 = 1 := by kernel_rfl
 have c4 : Tryz.prog.cellsOf 4 = 1 := by kernel_rfl
 rw [cT] at hl
 have h0 : DataW.trod enc Tryz.prog W base spare held n 4 ((cs.drop 0).take (Tryz.prog.cellsOf 4)) = xs[0]? := hf 0 _ rfl
 have h1 : DataW.trod enc Tryz.prog W base spare held n 3 ((cs.drop 1).take (Tryz.prog.cellsOf 3)) = xs[1]? := hf 1 _ rfl
 have h2 : DataW.trod enc Tryz.prog W base spare held n 3 ((cs.drop 2).take (Tryz.prog.cellsOf 3)) = xs[2]? := hf 2 _ rfl
 rw [c3] at h1 h2
 rw [c4] at h0
 obtain ⟨v0, v1, v2, rfl⟩ := len3S hl
 have hxl : xs.length = 3 := hx
 rw [List.getElem?_eq_getElem (by omega)] at h0 h1 h2
 obtain ⟨k0, e0, _⟩ := DataW.trod_bool Tryz.underlying4 h0
 obtain ⟨k1, e1, _, g1⟩ := DataW.trod_int Tryz.underlying3 h1
 obtain ⟨k2, e2, _, g2⟩ := DataW.trod_int Tryz.underlying3 h2
 simp at e0 e1 e2
 subst e0 e1 e2
 exact ⟨(k0, k1, k2), rfl, wf_in64 g2⟩
theorem trs_of {fuel : Nat} {cs : List Value} {x : DataW H × List MemPlace} (h : DataW.trod enc Tryz.prog W base spare held fuel 68 cs = some x) : ∃ (a : Option Addr) (S : List Tr) (cap : Nat), cs = [.slice a S.length cap] ∧ TrIn W a S ∧ (∀ t ∈ S, I64 t.2.2) ∧ S.length ≤ 9223372036854775807 := by
 rcases Go.Deep.open_slice Tryz.underlying68 h with ⟨hcs, _⟩ | ⟨ad, len, cap, m, n, D, Pl, hcs, hb, hl, hm, hmm, _, hx⟩
 ·exact ⟨none, [], 0, hcs, .inl rfl, (fun t ht => by cases ht), by simp⟩
 ·have hcap : cap ≤ 9223372036854775807 := by unfold maxLen at hm; omega
  have hlm : len ≤ m := by rw [hmm]; split <;> omega
  have cT : Tryz.prog.cellsOf 90 = 3 := by kernel_rfl
  rw [cT] at hx
  have each : ∀ i, i < len → ∃ r : Tr, W.cells? base (ad.add (i * 3)) 3 = some [.bool r.1, i64 r.2.1, i64 r.2.2] ∧ I64 r.2.2 := by
   intro i hi
   obtain ⟨cs', h1, h2⟩ := hx i (by omega)
   obtain ⟨r, rfl, h3⟩ := tr_of h2
   exact ⟨r, h1, h3⟩
  by_cases h0 : len = 0
  ·subst h0
   exact ⟨_, [], cap, hcs, .inl rfl, (fun t ht => by cases ht), by simp⟩
  ·obtain ⟨R, hR⟩ := Go.Deep.choose_lt each
   have hcell : ∀ i, i < len → ∀ j, j < 3 → W.cell? (ad.add (i * 3 + j)) = ([.bool (R i).1, i64 (R i).2.1, i64 (R i).2.2] : List Value)[j]? := by
    intro i hi j hj
    obtain ⟨_, _, hc⟩ := World.cells?_some (hR i hi).1
    have := hc j hj
    rw [show ad.add (i * 3 + j) = (ad.add (i * 3)).add j from (Go.Deep.add_add _ _ _).symm, this]
   have hc0 := hcell 0 (by omega) 0 (by omega)
   obtain ⟨b, o, sp⟩ := ad
   have hs : sp = none := by
    have : W.cell? ((⟨b, o, sp⟩ : Addr).add (0 * 3 + 0)) = some (.bool (R 0).1) := by rw [hc0]; rfl
    simpa [Addr.add] using World.cell?_spot this
   subst hs
   have hbl : b < W.heap.size := by
    have := World.cells?_block (hR 0 (by omega)).1 (by omega)
    simpa [Addr.add] using this
   refine ⟨some ⟨b, o, none⟩, (List.range len).map R, cap, by simpa using hcs, .inr ⟨b, o, rfl, hbl, fun k hk => ?_⟩, fun t ht => ?_, by simp; omega⟩
   ·have hk' : k < len := by simpa using hk
    have e : ((List.range len).map R)[k] = R k := by simp
    rw [e]
    have a0 := hcell k hk' 0 (by omega)
    have a1 := hcell k hk' 1 (by omega)
    have a2 := hcell k hk' 2 (by omega)
    rw [add_eq] at a0 a1 a2
    exact ⟨a0, by rw [Nat.add_assoc]; exact a1, by rw [Nat.add_assoc]; exact a2⟩
   ·obtain ⟨i, hi, rfl⟩ := List.mem_map.1 ht
    exact (hR i (by simpa using hi)).2
theorem start_of {fuel : Nat} {cs : List Value} {x : DataW H × List MemPlace} (h : DataW.trod enc Tryz.prog W base spare held fuel 70 cs = some x) :
  ∃ (T : Nat → List Int) (ia : Nat → Option Addr) (ic : Nat → Nat) (D : List Int) (ra : Option Addr) (rc : Nat) (A : List Int) (aa : Option Addr) (ac : Nat) (S : List Tr) (sa : Option Addr) (sc : Nat) (rr : Int),
   cs = [.slice (ia 0) (T 0).length (ic 0), .slice (ia 1) (T 1).length (ic 1), .slice (ia 2) (T 2).length (ic 2), .slice ra D.length rc, .slice aa A.length ac, .slice sa S.length sc, .int .u8 rr] ∧
   (∀ j, j < 3 → U8 W (ia j) (T j) (ic j) ∧ (T j).length ≤ ic j ∧ ic j ≤ 9223372036854775807) ∧ (U8 W ra D rc ∧ D.length ≤ rc ∧ rc ≤ 9223372036854775807) ∧ (U8 W aa A ac ∧ A.length ≤ ac ∧ ac ≤ 9223372036854775807) ∧ TrIn W sa S ∧ (∀ t ∈ S, I64 t.2.2) ∧ S.length ≤ 9223372036854775807 ∧ 0 ≤ rr ∧ rr < 256 := by
 obtain ⟨xs, n, rfl, rfl, hl, hx, hf⟩ := DataW.trod_struct Tryz.underlying70 h
 have cS : Tryz.prog.cellsOf 70 = 7 := by kernel_rfl
 have cI : Tryz.prog.cellsOf 67 = 3 := by kernel_rfl
 have cU : Tryz.prog.cellsOf 23 = 1 := by kernel_rfl
 have cT : Tryz.prog.cellsOf 68 = 1 := by kernel_rfl
 have c5 : Tryz.prog.cellsOf 5 = 1 := by kernel_rfl
 rw [cS] at hl
 obtain ⟨v0, v1, v2, v3, v4, v5, v6, rfl⟩ := len7S hl
 have h0 : DataW.trod enc Tryz.prog W base spare held n 67 (([v0, v1, v2, v3, v4, v5, v6].drop 0).take (Tryz.prog.cellsOf 67)) = xs[0]? := hf 0 _ rfl
 have h1 : DataW.trod enc Tryz.prog W base spare held n 23 (([v0, v1, v2, v3, v4, v5, v6].drop 3).take (Tryz.prog.cellsOf 23)) = xs[1]? := hf 1 _ rfl
 have h2 : DataW.trod enc Tryz.prog W base spare held n 23 (([v0, v1, v2, v3, v4, v5, v6].drop 4).take (Tryz.prog.cellsOf 23)) = xs[2]? := hf 2 _ rfl
 have h3 : DataW.trod enc Tryz.prog W base spare held n 68 (([v0, v1, v2, v3, v4, v5, v6].drop 5).take (Tryz.prog.cellsOf 68)) = xs[3]? := hf 3 _ rfl
 have h4 : DataW.trod enc Tryz.prog W base spare held n 5 (([v0, v1, v2, v3, v4, v5, v6].drop 6).take (Tryz.prog.cellsOf 5)) = xs[4]? := hf 4 _ rfl
 have hxl : xs.length = 5 := hx
 rw [List.getElem?_eq_getElem (by omega)] at h0 h1 h2 h3 h4
 rw [cI] at h0
 rw [cU] at h1 h2
 rw [cT] at h3
 rw [c5] at h4
 obtain ⟨ra, D, rc, e1, g1⟩ := u8s_of h1
 obtain ⟨aa, A, ac, e2, g2⟩ := u8s_of h2
 obtain ⟨sa, S, sc, e3, g3⟩ := trs_of h3
 obtain ⟨rr, e4, _, g4⟩ := DataW.trod_int Tryz.underlying5 h4
 obtain ⟨ys, n', e5, e6, hl', hy, hf'⟩ := DataW.trod_array Tryz.underlying67 h0
 rw [cU] at hf'
 have k0 := hf' 0 (by omega)
 have k1 := hf' 1 (by omega)
 have k2 := hf' 2 (by omega)
 have hyl : ys.length = 3 := hy
 rw [List.getElem?_eq_getElem (by omega)] at k0 k1 k2
 obtain ⟨a0, T0, c0, q0, r0⟩ := u8s_of k0
 obtain ⟨a1, T1, c1, q1, r1⟩ := u8s_of k1
 obtain ⟨a2, T2, c2, q2, r2⟩ := u8s_of k2
 simp at e1 e2 e3 e4 q0 q1 q2
 subst e1 e2 e3 e4 q0 q1 q2
 refine ⟨fun j => if j = 0 then T0 else if j = 1 then T1 else T2, fun j => if j = 0 then a0 else if j = 1 then a1 else a2, fun j => if j = 0 then c0 else if j = 1 then c1 else c2, D, ra, rc, A, aa, ac, S, sa, sc, rr, rfl, fun j hj => ?_, g1, g2, g3.1, g3.2.1, g3.2.2, wf_u8 g4⟩
 have : j = 0 ∨ j = 1 ∨ j = 2 := by omega
 rcases this with rfl | rfl | rfl
 ·exact r0
 ·exact r1
 ·exact r2
end
end Go.Proofs.YtdojgbpaheadnaaGreat
