import Derived.Test.YtmnkgjgaileokaaO
import Derived.Test.YtmnkgjgaileokaaCI
import Derived.Test.YtmnkgjgaileokaaMA

/- How the arguments of FundsBack are opened: a pair of bytes. -/
namespace Go.Proofs.Ytmnkgjgaileokaa
open Go.ChangeShapes Go.WideShapes Go.ChangeAt Go.RowKit
theorem len2 {α : Type} {l : List α} (h : l.length = 2) : ∃ a b, l = [a, b] := by
  match l, h with
  | [a, b], _ => exact ⟨a, b, rfl⟩
theorem okWide_array {P : Program} {w : World} {r : Reach} {base : Nat} {t e : TypeId} {n : Nat} {v : Value} (ht : P.underlying t = some (.array n e)) (h : Value.okWide P w r base t v) : ∃ cs, v = .agg cs ∧ cs.size = P.cellsOf t := by
  simp only [Value.okWide, ht] at h
  obtain ⟨cs, h1, h2, _⟩ := h
  exact ⟨cs, h1, h2⟩
section
variable {H : Type} {enc : TypeId × Value → H} {W : World} {base : Nat} {spare : Nat → Bool} {held : Bool}
theorem arr2_of {fuel : Nat} {cs : List Value} {x : DataW H × List MemPlace} (h : DataW.trod enc Try.prog W base spare held fuel 48 cs = some x) : ∃ a b : Int, cs = [.int .u8 a, .int .u8 b] ∧ (0 ≤ a ∧ a ≤ 255) ∧ (0 ≤ b ∧ b ≤ 255) := by
  obtain ⟨xs, n, rfl, rfl, hl, hx, hf⟩ := DataW.trod_array Try.underlying48 h
  have c48 : Try.prog.cellsOf 48 = 2 := by kernel_rfl
  have c5 : Try.prog.cellsOf 5 = 1 := by kernel_rfl
  rw [c48] at hl
  rw [c5] at hf
  have get : ∀ i, i < 2 → ∃ k : Int, (cs.drop (i * 1)).take 1 = [.int .u8 k] ∧ (0 ≤ k ∧ k ≤ 255) := by
    intro i hi
    have h1 := hf i hi
    rw [List.getElem?_eq_getElem (by omega)] at h1
    obtain ⟨k, hk, _, g⟩ := DataW.trod_int Try.underlying5 h1
    exact ⟨k, hk, wf_in8 g⟩
  obtain ⟨v0, v1, rfl⟩ := len2 hl
  clear hf h hl hx
  obtain ⟨k0, e0, g0⟩ := get 0 (by omega)
  obtain ⟨k1, e1, g1⟩ := get 1 (by omega)
  simp at e0 e1
  subst e0 e1
  exact ⟨_, _, rfl, g0, g1⟩
end
end Go.Proofs.Ytmnkgjgaileokaa

/- How the arguments of FundsCodes are opened: three small numbers, and a slice of integers. -/
namespace Go.Proofs.Ytmnkgjgaileokaa
open Go.ChangeShapes Go.WideShapes Go.ChangeAt Go.RowKit
theorem len3 {α : Type} {l : List α} (h : l.length = 3) : ∃ a b c, l = [a, b, c] := by
  match l, h with
  | [a, b, c], _ => exact ⟨a, b, c, rfl⟩
theorem wf_in16 {k : Int} (h : (Lit.int .u16 k).wf = true) : 0 ≤ k ∧ k ≤ 65535 := by
  simp [Lit.wf, IntKind.min, IntKind.max, IntKind.bits, IntKind.signed] at h; omega
section
variable {H : Type} {enc : TypeId × Value → H} {W : World} {base : Nat} {spare : Nat → Bool} {held : Bool}
theorem arr3_of {fuel : Nat} {cs : List Value} {x : DataW H × List MemPlace} (h : DataW.trod enc Try.prog W base spare held fuel 55 cs = some x) : ∃ a b c : Int, cs = [.int .u16 a, .int .u16 b, .int .u16 c] ∧ (0 ≤ a ∧ a ≤ 65535) ∧ (0 ≤ b ∧ b ≤ 65535) ∧ (0 ≤ c ∧ c ≤ 65535) := by
  obtain ⟨xs, n, rfl, rfl, hl, hx, hf⟩ := DataW.trod_array Try.underlying55 h
  have c55 : Try.prog.cellsOf 55 = 3 := by kernel_rfl
  have c54 : Try.prog.cellsOf 54 = 1 := by kernel_rfl
  rw [c55] at hl
  rw [c54] at hf
  have get : ∀ i, i < 3 → ∃ k : Int, (cs.drop (i * 1)).take 1 = [.int .u16 k] ∧ (0 ≤ k ∧ k ≤ 65535) := by
    intro i hi
    have h1 := hf i hi
    rw [List.getElem?_eq_getElem (by omega)] at h1
    obtain ⟨k, hk, _, g⟩ := DataW.trod_int Try.underlying54 h1
    exact ⟨k, hk, wf_in16 g⟩
  obtain ⟨v0, v1, v2, rfl⟩ := len3 hl
  clear hf h hl hx
  obtain ⟨k0, e0, g0⟩ := get 0 (by omega)
  obtain ⟨k1, e1, g1⟩ := get 1 (by omega)
  obtain ⟨k2, e2, g2⟩ := get 2 (by omega)
  simp at e0 e1 e2
  subst e0 e1 e2
  exact ⟨_, _, _, rfl, g0, g1, g2⟩
theorem intsAt_of {fuel len cap : Nat} {a : Option Addr} {x : DataW H × List MemPlace} (h : DataW.trod enc Try.prog W base spare held fuel 56 [.slice a len cap] = some x) : ∃ M : List Int, M.length = len ∧ IntsAt W a M ∧ AllIn M ∧ len ≤ cap ∧ cap ≤ 9223372036854775807 := by
  rcases Go.Deep.open_slice Try.underlying56 h with ⟨hcs, _⟩ | ⟨ad, l, c, m, n, D, Pl, hcs, hb, hl, hm, hmm, _, hx⟩
  · simp at hcs
    obtain ⟨rfl, rfl, rfl⟩ := hcs
    exact ⟨[], rfl, .inl rfl, (by intro c hc; cases hc), by omega, by omega⟩
  · simp at hcs
    obtain ⟨rfl, rfl, rfl⟩ := hcs
    have hcap : cap ≤ 9223372036854775807 := by unfold maxLen at hm; omega
    have hlm : len ≤ m := by rw [hmm]; split <;> omega
    have c3 : Try.prog.cellsOf 3 = 1 := by kernel_rfl
    rw [c3] at hx
    have each : ∀ i, i < len → ∃ r : Int, W.cells? base (ad.add (i * 1)) 1 = some [.int .i64 r] ∧ (-9223372036854775808 ≤ r ∧ r ≤ 9223372036854775807) := by
      intro i hi
      obtain ⟨cs', h1, h2⟩ := hx i (by omega)
      obtain ⟨r, hr, _, h3⟩ := DataW.trod_int Try.underlying3 h2
      exact ⟨r, by rw [h1, hr], wf_in64 h3⟩
    by_cases h0 : len = 0
    · subst h0
      exact ⟨[], rfl, .inl rfl, (by intro c hc; cases hc), by omega, hcap⟩
    · obtain ⟨R, hR⟩ := Go.Deep.choose_lt each
      have hcell : ∀ i, i < len → W.cell? (ad.add i) = some (.int .i64 (R i)) := by
        intro i hi
        obtain ⟨_, _, hc⟩ := World.cells?_some (hR i hi).1
        have := hc 0 (by omega)
        simpa [Go.Deep.add_add] using this
      have hc0 := hcell 0 (by omega)
      obtain ⟨b, o, sp⟩ := ad
      have hs : sp = none := by
        have : W.cell? ((⟨b, o, sp⟩ : Addr).add 0) = some (.int .i64 (R 0)) := hc0
        simpa [Addr.add] using World.cell?_spot this
      subst hs
      have hbl : b < W.heap.size := by
        have := World.cells?_block (hR 0 (by omega)).1 (by omega)
        simpa [Addr.add] using this
      refine ⟨(List.range len).map R, by simp, .inr ⟨b, o, rfl, hbl, fun k hk => ?_⟩, fun c hc => ?_, by simpa using hl, hcap⟩
      · have hk' : k < len := by simpa using hk
        have e : ((List.range len).map R).getD k 0 = R k := by rw [getD_get _ _ hk]; simp
        rw [e, ← hcell k hk', add_eq]
      · obtain ⟨i, hi, rfl⟩ := List.mem_map.1 hc
        exact (hR i (by simpa using hi)).2
end
end Go.Proofs.Ytmnkgjgaileokaa
