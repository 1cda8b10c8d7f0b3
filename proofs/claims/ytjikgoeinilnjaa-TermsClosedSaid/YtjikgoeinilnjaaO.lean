/- How the arguments of the laws are opened: a slice of rules; arrays of three integers. -/
import Derived.Test.YtjikgoeinilnjaaRows
import Derived.Test.YtjikgoeinilnjaaWE
import Derived.ProofKit
import Derived.OpenShut
import Derived.ShutString
import Derived.ChangeOld
import Derived.Below
import Derived.Deep.Slices
namespace Go.Proofs.Ytjikgoeinilnjaa
open Go.ChangeShapes Go.WideShapes Go.ChangeAt Go.RowKit
theorem len7 {α : Type} {l : List α} (h : l.length = 7) : ∃ a b c d e f g, l = [a, b, c, d, e, f, g] := by
  match l, h with
  | [a, b, c, d, e, f, g], _ => exact ⟨a, b, c, d, e, f, g, rfl⟩
theorem len3 {α : Type} {l : List α} (h : l.length = 3) : ∃ a b c, l = [a, b, c] := by
  match l, h with
  | [a, b, c], _ => exact ⟨a, b, c, rfl⟩
theorem okWide_array {P : Program} {w : World} {r : Reach} {base : Nat} {t e : TypeId} {n : Nat} {v : Value} (ht : P.underlying t = some (.array n e)) (h : Value.okWide P w r base t v) : ∃ cs, v = .agg cs ∧ cs.size = P.cellsOf t := by
  simp only [Value.okWide, ht] at h
  obtain ⟨cs, h1, h2, _⟩ := h
  exact ⟨cs, h1, h2⟩
instance : Inhabited Rule := ⟨zr⟩
section
variable {H : Type} {enc : TypeId × Value → H} {W : World} {base : Nat} {spare : Nat → Bool} {held : Bool}
theorem rule_of {fuel : Nat} {cs : List Value} {x : DataW H × List MemPlace} (h : DataW.trod enc Try.prog W base spare held fuel 28 cs = some x) : ∃ r : Rule, cs = (rvs r).toList := by
  obtain ⟨xs, n, rfl, rfl, hl, hx, hf⟩ := DataW.trod_struct Try.underlying28 h
  have c28 : Try.prog.cellsOf 28 = 7 := by kernel_rfl
  have c3 : Try.prog.cellsOf 3 = 1 := by kernel_rfl
  rw [c28] at hl
  have get : ∀ i f, (#[({ name := "Patron", type := 3, offset := 0, embedded := false, tag := "", pkgPath := "", byteOffset := 0 } : Field), { name := "Item", type := 3, offset := 1, embedded := false, tag := "", pkgPath := "", byteOffset := 8 }, { name := "Branch", type := 3, offset := 2, embedded := false, tag := "", pkgPath := "", byteOffset := 16 }, { name := "Days", type := 3, offset := 3, embedded := false, tag := "", pkgPath := "", byteOffset := 24 }, { name := "Renewals", type := 3, offset := 4, embedded := false, tag := "", pkgPath := "", byteOffset := 32 }, { name := "Fine", type := 3, offset := 5, embedded := false, tag := "", pkgPath := "", byteOffset := 40 }, { name := "Cap", type := 3, offset := 6, embedded := false, tag := "", pkgPath := "", byteOffset := 48 }] : Array Field)[i]? = some f →
      f.type = 3 → f.offset = i → ∃ k : Int, (cs.drop i).take 1 = [.int .i64 k] := by
    intro i f hfi ht ho
    have h1 := hf i f hfi
    rw [ht, ho, c3] at h1
    have hx' : i < xs.length := by
      rw [hx]; exact (Array.getElem?_eq_some_iff.1 hfi).1
    rw [List.getElem?_eq_getElem hx'] at h1
    obtain ⟨k, hk, _⟩ := DataW.trod_int Try.underlying3 h1
    exact ⟨k, hk⟩
  obtain ⟨v0, v1, v2, v3, v4, v5, v6, rfl⟩ := len7 hl
  clear hf h hl hx
  obtain ⟨k0, e0⟩ := get 0 _ rfl rfl rfl
  obtain ⟨k1, e1⟩ := get 1 _ rfl rfl rfl
  obtain ⟨k2, e2⟩ := get 2 _ rfl rfl rfl
  obtain ⟨k3, e3⟩ := get 3 _ rfl rfl rfl
  obtain ⟨k4, e4⟩ := get 4 _ rfl rfl rfl
  obtain ⟨k5, e5⟩ := get 5 _ rfl rfl rfl
  obtain ⟨k6, e6⟩ := get 6 _ rfl rfl rfl
  simp at e0 e1 e2 e3 e4 e5 e6
  subst e0 e1 e2 e3 e4 e5 e6
  exact ⟨⟨k0, k1, k2, k3, k4, k5, k6⟩, rfl⟩
theorem arr_of {fuel : Nat} {cs : List Value} {x : DataW H × List MemPlace} (h : DataW.trod enc Try.prog W base spare held fuel 23 cs = some x) : ∃ a b c : Int, cs = [.int .i64 a, .int .i64 b, .int .i64 c] := by
  obtain ⟨xs, n, rfl, rfl, hl, hx, hf⟩ := DataW.trod_array Try.underlying23 h
  have c23 : Try.prog.cellsOf 23 = 3 := by kernel_rfl
  have c3 : Try.prog.cellsOf 3 = 1 := by kernel_rfl
  rw [c23] at hl
  rw [c3] at hf
  have get : ∀ i, i < 3 → ∃ k : Int, (cs.drop (i * 1)).take 1 = [.int .i64 k] := by
    intro i hi
    have h1 := hf i hi
    rw [List.getElem?_eq_getElem (by omega)] at h1
    obtain ⟨k, hk, _⟩ := DataW.trod_int Try.underlying3 h1
    exact ⟨k, hk⟩
  obtain ⟨v0, v1, v2, rfl⟩ := len3 hl
  clear hf h hl hx
  obtain ⟨k0, e0⟩ := get 0 (by omega)
  obtain ⟨k1, e1⟩ := get 1 (by omega)
  obtain ⟨k2, e2⟩ := get 2 (by omega)
  simp at e0 e1 e2
  subst e0 e1 e2
  exact ⟨_, _, _, rfl⟩
theorem inSl_of {fuel len cap : Nat} {a : Option Addr} {x : DataW H × List MemPlace} (h : DataW.trod enc Try.prog W base spare held fuel 22 [.slice a len cap] = some x) : ∃ L : List Rule, L.length = len ∧ InSl W a L cap := by
  rcases Go.Deep.open_slice Try.underlying22 h with ⟨hcs, _⟩ | ⟨ad, l, c, m, n, D, Pl, hcs, hb, hl, hm, hmm, _, hx⟩
  · simp at hcs
    obtain ⟨rfl, rfl, rfl⟩ := hcs
    exact ⟨[], rfl, .inl ⟨rfl, rfl, rfl⟩⟩
  · simp at hcs
    obtain ⟨rfl, rfl, rfl⟩ := hcs
    have hcap : cap ≤ 9223372036854775807 := by unfold maxLen at hm; omega
    have hlm : len ≤ m := by rw [hmm]; split <;> omega
    have c28 : Try.prog.cellsOf 28 = 7 := by kernel_rfl
    rw [c28] at hx
    have each : ∀ i, i < len → ∃ r : Rule, W.cells? base (ad.add (i * 7)) 7 = some (rvs r).toList := by
      intro i hi
      obtain ⟨cs', h1, h2⟩ := hx i (by omega)
      obtain ⟨r, rfl⟩ := rule_of h2
      exact ⟨r, h1⟩
    by_cases h0 : len = 0
    · subst h0
      exact ⟨[], rfl, .inr ⟨ad, rfl, .inl rfl, hl, hcap⟩⟩
    · obtain ⟨R, hR⟩ := Go.Deep.choose_lt each
      have hcell : ∀ i, i < len → ∀ j, j < 7 → W.cell? (ad.add (i * 7 + j)) = (rvs (R i))[j]? := by
        intro i hi j hj
        obtain ⟨_, _, hc⟩ := World.cells?_some (hR i hi)
        have := hc j hj
        rw [show ad.add (i * 7 + j) = (ad.add (i * 7)).add j from (Go.Deep.add_add _ _ _).symm, this]; simp
      have hc0 := hcell 0 (by omega) 0 (by omega)
      obtain ⟨b, o, sp⟩ := ad
      have hs : sp = none := by
        have : W.cell? ((⟨b, o, sp⟩ : Addr).add (0 * 7 + 0)) = some (.int .i64 (R 0).p) := by rw [hc0]; rfl
        simpa [Addr.add] using World.cell?_spot this
      subst hs
      have hbl : b < W.heap.size := by
        have := World.cells?_block (hR 0 (by omega)) (by omega)
        simpa [Addr.add] using this
      refine ⟨(List.range len).map R, by simp, .inr ⟨_, rfl, .inr ⟨b, o, rfl, hbl, fun k hk => ruleAt_iff.2 fun j hj => ?_⟩, by simpa using hl, hcap⟩⟩
      have hk' : k < len := by simpa using hk
      have e : ((List.range len).map R).getD k zr = R k := by rw [getD_get _ _ hk]; simp
      rw [e, ← hcell k hk' j hj, add_eq, Nat.add_assoc]
end
end Go.Proofs.Ytjikgoeinilnjaa
