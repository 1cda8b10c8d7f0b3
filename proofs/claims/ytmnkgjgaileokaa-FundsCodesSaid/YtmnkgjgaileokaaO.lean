/- How the arguments of the laws are opened: a slice of acts. -/
import Derived.Test.YtmnkgjgaileokaaRows
import Derived.Test.YtmnkgjgaileokaaFP
import Derived.ProofKit
import Derived.OpenShut
import Derived.ShutString
import Derived.ChangeOld
import Derived.Below
import Derived.Deep.Slices
namespace Go.Proofs.Ytmnkgjgaileokaa
open Go.ChangeShapes Go.WideShapes Go.ChangeAt Go.RowKit
theorem add_eq (b o i : Nat) : (⟨b, o, none⟩ : Addr).add i = ⟨b, o + i, none⟩ := by by_cases h : i = 0 <;> simp [Addr.add, h]
theorem len4 {α : Type} {l : List α} (h : l.length = 4) : ∃ a b c d, l = [a, b, c, d] := by
  match l, h with
  | [a, b, c, d], _ => exact ⟨a, b, c, d, rfl⟩
theorem wf_in64 {k : Int} (h : (Lit.int .i64 k).wf = true) : -9223372036854775808 ≤ k ∧ k ≤ 9223372036854775807 := by
  simp [Lit.wf, IntKind.min, IntKind.max, IntKind.bits, IntKind.signed] at h; omega
theorem wf_in8 {k : Int} (h : (Lit.int .u8 k).wf = true) : 0 ≤ k ∧ k ≤ 255 := by
  simp [Lit.wf, IntKind.min, IntKind.max, IntKind.bits, IntKind.signed] at h; omega
theorem actAt_iff {w : World} {b o : Nat} {c : Act4} : ActAt w b o c ↔ ∀ j, j < 4 → w.cell? ⟨b, o + j, none⟩ = (avs c)[j]? := by
  constructor
  · rintro ⟨c0, c1, c2, c3⟩ j hj
    have h7 : j = 0 ∨ j = 1 ∨ j = 2 ∨ j = 3 := by omega
    rcases h7 with rfl | rfl | rfl | rfl <;> assumption
  · intro h
    exact ⟨h 0 (by omega), h 1 (by omega), h 2 (by omega), h 3 (by omega)⟩
section
variable {H : Type} {enc : TypeId × Value → H} {W : World} {base : Nat} {spare : Nat → Bool} {held : Bool}
theorem act_of {fuel : Nat} {cs : List Value} {x : DataW H × List MemPlace} (h : DataW.trod enc Try.prog W base spare held fuel 27 cs = some x) : ∃ c : Act4, cs = (avs c).toList ∧ In64 c := by
  obtain ⟨xs, n, rfl, rfl, hl, hx, hf⟩ := DataW.trod_struct Try.underlying27 h
  have c27 : Try.prog.cellsOf 27 = 4 := by kernel_rfl
  have c3 : Try.prog.cellsOf 3 = 1 := by kernel_rfl
  have c5 : Try.prog.cellsOf 5 = 1 := by kernel_rfl
  rw [c27] at hl
  have h0 : DataW.trod enc Try.prog W base spare held n 5 ((cs.drop 0).take (Try.prog.cellsOf 5)) = xs[0]? := hf 0 _ rfl
  have h1 : DataW.trod enc Try.prog W base spare held n 3 ((cs.drop 1).take (Try.prog.cellsOf 3)) = xs[1]? := hf 1 _ rfl
  have h2 : DataW.trod enc Try.prog W base spare held n 3 ((cs.drop 2).take (Try.prog.cellsOf 3)) = xs[2]? := hf 2 _ rfl
  have h3 : DataW.trod enc Try.prog W base spare held n 3 ((cs.drop 3).take (Try.prog.cellsOf 3)) = xs[3]? := hf 3 _ rfl
  rw [c5] at h0
  rw [c3] at h1 h2 h3
  obtain ⟨v0, v1, v2, v3, rfl⟩ := len4 hl
  have hxl : xs.length = 4 := hx
  rw [List.getElem?_eq_getElem (by omega)] at h0 h1 h2 h3
  obtain ⟨k0, e0, _, g0⟩ := DataW.trod_int Try.underlying5 h0
  obtain ⟨k1, e1, _, g1⟩ := DataW.trod_int Try.underlying3 h1
  obtain ⟨k2, e2, _, g2⟩ := DataW.trod_int Try.underlying3 h2
  obtain ⟨k3, e3, _, g3⟩ := DataW.trod_int Try.underlying3 h3
  simp at e0 e1 e2 e3
  subst e0 e1 e2 e3
  exact ⟨⟨k0, k1, k2, k3⟩, rfl, (wf_in8 g0).1, (wf_in8 g0).2, (wf_in64 g1).1, (wf_in64 g1).2, (wf_in64 g2).1, (wf_in64 g2).2, (wf_in64 g3).1, (wf_in64 g3).2⟩
theorem inA_of {fuel len cap : Nat} {a : Option Addr} {x : DataW H × List MemPlace} (h : DataW.trod enc Try.prog W base spare held fuel 22 [.slice a len cap] = some x) : ∃ L : List Act4, L.length = len ∧ InA W a L cap := by
  rcases Go.Deep.open_slice Try.underlying22 h with ⟨hcs, _⟩ | ⟨ad, l, c, m, n, D, Pl, hcs, hb, hl, hm, hmm, _, hx⟩
  · simp at hcs
    obtain ⟨rfl, rfl, rfl⟩ := hcs
    exact ⟨[], rfl, .inl rfl, fun _ => ⟨rfl, rfl⟩, (by intro c hc; cases hc), by simp, by omega⟩
  · simp at hcs
    obtain ⟨rfl, rfl, rfl⟩ := hcs
    have hcap : cap ≤ 9223372036854775807 := by unfold maxLen at hm; omega
    have hlm : len ≤ m := by rw [hmm]; split <;> omega
    have c27 : Try.prog.cellsOf 27 = 4 := by kernel_rfl
    rw [c27] at hx
    have each : ∀ i, i < len → ∃ r : Act4, W.cells? base (ad.add (i * 4)) 4 = some (avs r).toList ∧ In64 r := by
      intro i hi
      obtain ⟨cs', h1, h2⟩ := hx i (by omega)
      obtain ⟨r, rfl, h3⟩ := act_of h2
      exact ⟨r, h1, h3⟩
    by_cases h0 : len = 0
    · subst h0
      exact ⟨[], rfl, .inl rfl, (fun h => by cases h), (by intro c hc; cases hc), by simp, hcap⟩
    · obtain ⟨R, hR⟩ := Go.Deep.choose_lt each
      have hcell : ∀ i, i < len → ∀ j, j < 4 → W.cell? (ad.add (i * 4 + j)) = (avs (R i))[j]? := by
        intro i hi j hj
        obtain ⟨_, _, hc⟩ := World.cells?_some (hR i hi).1
        have := hc j hj
        rw [show ad.add (i * 4 + j) = (ad.add (i * 4)).add j from (Go.Deep.add_add _ _ _).symm, this]; simp
      have hc0 := hcell 0 (by omega) 0 (by omega)
      obtain ⟨b, o, sp⟩ := ad
      have hs : sp = none := by
        have : W.cell? ((⟨b, o, sp⟩ : Addr).add (0 * 4 + 0)) = some (.int .u8 (R 0).k) := by rw [hc0]; rfl
        simpa [Addr.add] using World.cell?_spot this
      subst hs
      have hbl : b < W.heap.size := by
        have := World.cells?_block (hR 0 (by omega)).1 (by omega)
        simpa [Addr.add] using this
      refine ⟨(List.range len).map R, by simp, .inr ⟨b, o, rfl, hbl, fun k hk => actAt_iff.2 fun j hj => ?_⟩, (fun h => by cases h), fun c hc => ?_, by simpa using hl, hcap⟩
      · have hk' : k < len := by simpa using hk
        have e : ((List.range len).map R).getD k za = R k := by rw [getD_get _ _ hk]; simp
        rw [e, ← hcell k hk' j hj, add_eq, Nat.add_assoc]
      · obtain ⟨i, hi, rfl⟩ := List.mem_map.1 hc
        exact (hR i (by simpa using hi)).2
end
end Go.Proofs.Ytmnkgjgaileokaa
