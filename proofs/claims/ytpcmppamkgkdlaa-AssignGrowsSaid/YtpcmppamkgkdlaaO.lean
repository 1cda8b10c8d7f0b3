/- How the arguments of the laws are opened: problems given by numbers, slices of small numbers. -/
import Derived.Test.YtpcmppamkgkdlaaRows
import Derived.Test.YtpcmppamkgkdlaaUE
import Derived.ProofKit
import Derived.OpenShut
import Derived.ShutString
import Derived.ChangeOld
import Derived.Below
import Derived.Deep.Slices
namespace Go.Proofs.Ytpcmppamkgkdlaa
open Go.ChangeShapes Go.WideShapes Go.ChangeAt Go.RowKit
theorem add_eq (b o i : Nat) : (⟨b, o, none⟩ : Addr).add i = ⟨b, o + i, none⟩ := by by_cases h : i = 0 <;> simp [Addr.add, h]
theorem wf_i8 {k : Int} (h : (Lit.int .i8 k).wf = true) : -128 ≤ k ∧ k ≤ 127 := by
  simp [Lit.wf, IntKind.min, IntKind.max, IntKind.bits, IntKind.signed] at h; omega
theorem wf_u8 {k : Int} (h : (Lit.int .u8 k).wf = true) : 0 ≤ k ∧ k < 256 := by
  simp [Lit.wf, IntKind.min, IntKind.max, IntKind.bits, IntKind.signed] at h; omega
theorem wf_u16 {k : Int} (h : (Lit.int .u16 k).wf = true) : 0 ≤ k ∧ k < 65536 := by
  simp [Lit.wf, IntKind.min, IntKind.max, IntKind.bits, IntKind.signed] at h; omega
theorem okWide_array {P : Program} {w : World} {r : Reach} {base : Nat} {t e : TypeId} {n : Nat} {v : Value} (ht : P.underlying t = some (.array n e)) (h : Value.okWide P w r base t v) : ∃ cs, v = .agg cs ∧ cs.size = P.cellsOf t := by
  simp only [Value.okWide, ht] at h
  obtain ⟨cs, h1, h2, _⟩ := h
  exact ⟨cs, h1, h2⟩
theorem okWide_struct {P : Program} {w : World} {r : Reach} {base : Nat} {t : TypeId} {fs : Array Field} {v : Value} (ht : P.underlying t = some (.struct fs)) (h : Value.okWide P w r base t v) : ∃ cs, v = .agg cs ∧ cs.size = P.cellsOf t := by
  simp only [Value.okWide, ht] at h
  obtain ⟨cs, h1, h2, _⟩ := h
  exact ⟨cs, h1, h2⟩
theorem len2 {α : Type} {l : List α} (h : l.length = 2) : ∃ a b, l = [a, b] := by
  match l, h with
  | [a, b], _ => exact ⟨a, b, rfl⟩
theorem getD_map_range {α : Type} (n : Nat) (R : Nat → α) (d : α) {k : Nat} (hk : k < n) : ((List.range n).map R).getD k d = R k := by
  rw [List.getD_eq_getElem?_getD, List.getElem?_eq_getElem (by simpa using hk)]; simp
section
variable {H : Type} {enc : TypeId × Value → H} {W : World} {base : Nat} {spare : Nat → Bool} {held : Bool}
theorem nums_of {t e : TypeId} {kd : IntKind} (ht : Try.prog.underlying t = some (.slice e)) (he : Try.prog.underlying e = some (.int kd)) (hce : Try.prog.cellsOf e = 1) {fuel : Nat} {cs : List Value} {x : DataW H × List MemPlace}
    (h : DataW.trod enc Try.prog W base spare held fuel t cs = some x) : ∃ (a : Option Addr) (M : List Int) (cap : Nat), cs = [.slice a M.length cap] ∧
      (M = [] ∨ ∃ b o, a = some ⟨b, o, none⟩ ∧ b < W.heap.size ∧ ∀ j, j < M.length → W.cell? ⟨b, o + j, none⟩ = some (.int kd (M.getD j 0))) ∧ (∀ j, j < M.length → (Lit.int kd (M.getD j 0)).wf = true) ∧ M.length ≤ 9223372036854775807 := by
  rcases Go.Deep.open_slice ht h with ⟨hcs, _⟩ | ⟨ad, len, cap, m, n, D, Pl, hcs, hb, hl, hm, hmm, _, hx⟩
  · exact ⟨none, [], 0, hcs, .inl rfl, fun j hj => by simp at hj, by simp⟩
  · have hcap : cap ≤ 9223372036854775807 := by unfold maxLen at hm; omega
    have hlm : len ≤ m := by rw [hmm]; split <;> omega
    rw [hce] at hx
    have each : ∀ i, i < len → ∃ r : Int, W.cells? base (ad.add (i * 1)) 1 = some [.int kd r] ∧ (Lit.int kd r).wf = true := by
      intro i hi
      obtain ⟨cs', h1, h2⟩ := hx i (by omega)
      obtain ⟨r, hr, _, h3⟩ := DataW.trod_int he h2
      exact ⟨r, by rw [h1, hr], h3⟩
    by_cases h0 : len = 0
    · subst h0
      exact ⟨_, [], cap, hcs, .inl rfl, fun j hj => by simp at hj, by simp⟩
    · obtain ⟨R, hR⟩ := Go.Deep.choose_lt each
      have hcell : ∀ i, i < len → W.cell? (ad.add i) = some (.int kd (R i)) := by
        intro i hi
        obtain ⟨_, _, hc⟩ := World.cells?_some (hR i hi).1
        have := hc 0 (by omega)
        simpa [Go.Deep.add_add] using this
      have hc0 := hcell 0 (by omega)
      obtain ⟨b, o, sp⟩ := ad
      have hs : sp = none := by
        have : W.cell? ((⟨b, o, sp⟩ : Addr).add 0) = some (.int kd (R 0)) := hc0
        simpa [Addr.add] using World.cell?_spot this
      subst hs
      have hbl : b < W.heap.size := by
        have := World.cells?_block (hR 0 (by omega)).1 (by omega)
        simpa [Addr.add] using this
      refine ⟨_, (List.range len).map R, cap, by simpa using hcs, .inr ⟨b, o, rfl, hbl, fun k hk => ?_⟩, fun k hk => ?_, by simp; omega⟩
      · have hk' : k < len := by simpa using hk
        rw [getD_map_range len R 0 hk', ← hcell k hk', add_eq]
      · have hk' : k < len := by simpa using hk
        rw [getD_map_range len R 0 hk']
        exact (hR k hk').2
theorem pair_of {fuel : Nat} {cs : List Value} {x : DataW H × List MemPlace} (h : DataW.trod enc Try.prog W base spare held fuel 48 cs = some x) : ∃ p : Int × Int, cs = [.int .u16 p.1, .int .u16 p.2] ∧ 0 ≤ p.1 ∧ p.1 < 65536 ∧ 0 ≤ p.2 ∧ p.2 < 65536 := by
  obtain ⟨xs, n, rfl, rfl, hl, hx, hf⟩ := DataW.trod_array Try.underlying48 h
  have c48 : Try.prog.cellsOf 48 = 2 := by kernel_rfl
  have c24 : Try.prog.cellsOf 24 = 1 := by kernel_rfl
  rw [c48] at hl
  rw [c24] at hf
  have get : ∀ i, i < 2 → ∃ k : Int, (cs.drop (i * 1)).take 1 = [.int .u16 k] ∧ (0 ≤ k ∧ k < 65536) := by
    intro i hi
    have h1 := hf i hi
    rw [List.getElem?_eq_getElem (by omega)] at h1
    obtain ⟨k, hk, _, g⟩ := DataW.trod_int Try.underlying24 h1
    exact ⟨k, hk, wf_u16 g⟩
  obtain ⟨v0, v1, rfl⟩ := len2 hl
  clear hf h hl hx
  obtain ⟨k0, e0, g0⟩ := get 0 (by omega)
  obtain ⟨k1, e1, g1⟩ := get 1 (by omega)
  simp at e0 e1
  subst e0 e1
  exact ⟨(_, _), rfl, g0.1, g0.2, g1.1, g1.2⟩
theorem pairs_of {fuel : Nat} {cs : List Value} {x : DataW H × List MemPlace} (h : DataW.trod enc Try.prog W base spare held fuel 22 cs = some x) : ∃ (a : Option Addr) (M : List (Int × Int)) (cap : Nat), cs = [.slice a M.length cap] ∧
      (M = [] ∨ ∃ b o, a = some ⟨b, o, none⟩ ∧ b < W.heap.size ∧ ∀ j, j < M.length → W.cell? ⟨b, o + j * 2, none⟩ = some (.int .u16 (M.getD j (0, 0)).1) ∧ W.cell? ⟨b, o + j * 2 + 1, none⟩ = some (.int .u16 (M.getD j (0, 0)).2)) ∧
      (∀ j, j < M.length → 0 ≤ (M.getD j (0, 0)).1 ∧ (M.getD j (0, 0)).1 < 65536 ∧ 0 ≤ (M.getD j (0, 0)).2 ∧ (M.getD j (0, 0)).2 < 65536) ∧ M.length ≤ 9223372036854775807 := by
  rcases Go.Deep.open_slice Try.underlying22 h with ⟨hcs, _⟩ | ⟨ad, len, cap, m, n, D, Pl, hcs, hb, hl, hm, hmm, _, hx⟩
  · exact ⟨none, [], 0, hcs, .inl rfl, fun j hj => by simp at hj, by simp⟩
  · have hcap : cap ≤ 9223372036854775807 := by unfold maxLen at hm; omega
    have hlm : len ≤ m := by rw [hmm]; split <;> omega
    have c48 : Try.prog.cellsOf 48 = 2 := by kernel_rfl
    rw [c48] at hx
    have each : ∀ i, i < len → ∃ p : Int × Int, W.cells? base (ad.add (i * 2)) 2 = some [.int .u16 p.1, .int .u16 p.2] ∧ 0 ≤ p.1 ∧ p.1 < 65536 ∧ 0 ≤ p.2 ∧ p.2 < 65536 := by
      intro i hi
      obtain ⟨cs', h1, h2⟩ := hx i (by omega)
      obtain ⟨p, hr, h3⟩ := pair_of h2
      exact ⟨p, by rw [h1, hr], h3⟩
    by_cases h0 : len = 0
    · subst h0
      exact ⟨_, [], cap, hcs, .inl rfl, fun j hj => by simp at hj, by simp⟩
    · obtain ⟨R, hR⟩ := Go.Deep.choose_lt each
      have hcell : ∀ i, i < len → W.cell? (ad.add (i * 2)) = some (.int .u16 (R i).1) ∧ W.cell? (ad.add (i * 2 + 1)) = some (.int .u16 (R i).2) := by
        intro i hi
        obtain ⟨_, _, hc⟩ := World.cells?_some (hR i hi).1
        have q0 := hc 0 (by omega)
        have q1 := hc 1 (by omega)
        rw [Go.Deep.add_add] at q0 q1
        exact ⟨by simpa using q0, by simpa using q1⟩
      have hc0 := (hcell 0 (by omega)).1
      obtain ⟨b, o, sp⟩ := ad
      have hs : sp = none := by
        have : W.cell? ((⟨b, o, sp⟩ : Addr).add (0 * 2)) = some (.int .u16 (R 0).1) := hc0
        simpa [Addr.add] using World.cell?_spot this
      subst hs
      have hbl : b < W.heap.size := by
        have := World.cells?_block (hR 0 (by omega)).1 (by omega)
        simpa [Addr.add] using this
      refine ⟨_, (List.range len).map R, cap, by simpa using hcs, .inr ⟨b, o, rfl, hbl, fun k hk => ?_⟩, fun k hk => ?_, by simp; omega⟩
      · have hk' : k < len := by simpa using hk
        have hh := hcell k hk'
        rw [add_eq, add_eq] at hh
        rw [getD_map_range len R (0, 0) hk']
        exact hh
      · have hk' : k < len := by simpa using hk
        rw [getD_map_range len R (0, 0) hk']
        exact (hR k hk').2
theorem arr16_of {fuel : Nat} {cs : List Value} {x : DataW H × List MemPlace} (h : DataW.trod enc Try.prog W base spare held fuel 25 cs = some x) : ∃ f : Nat → Int, ∀ i, i < 16 → cs[i]? = some (.int .u16 (f i)) ∧ 0 ≤ f i ∧ f i < 65536 := by
  obtain ⟨xs, n, rfl, rfl, hl, hx, hf⟩ := DataW.trod_array Try.underlying25 h
  have c25 : Try.prog.cellsOf 25 = 16 := by kernel_rfl
  have c24 : Try.prog.cellsOf 24 = 1 := by kernel_rfl
  rw [c25] at hl
  rw [c24] at hf
  have get : ∀ i, i < 16 → ∃ k : Int, cs[i]? = some (.int .u16 k) ∧ (0 ≤ k ∧ k < 65536) := by
    intro i hi
    have h1 := hf i hi
    rw [List.getElem?_eq_getElem (by omega)] at h1
    obtain ⟨k, hk, _, g⟩ := DataW.trod_int Try.underlying24 h1
    refine ⟨k, ?_, wf_u16 g⟩
    have e : ((cs.drop (i * 1)).take 1)[0]? = some (.int .u16 k) := by rw [hk]; rfl
    simpa using e
  obtain ⟨R, hR⟩ := Go.Deep.choose_lt get
  exact ⟨R, hR⟩
theorem prIn_of {fuel : Nat} {cs : Array Value} {x : DataW H × List MemPlace} (h : DataW.trod enc Try.prog W base spare held fuel 27 cs.toList = some x) : ∃ (wl : List (Int × Int)) (al : List Int) (f : Nat → Int), cs.size = 18 ∧ PrIn W W.heap.size cs wl al f := by
  obtain ⟨xs, n, rfl, rfl, hl, hx, hf⟩ := DataW.trod_struct Try.underlying27 h
  have c27 : Try.prog.cellsOf 27 = 18 := by kernel_rfl
  have c22 : Try.prog.cellsOf 22 = 1 := by kernel_rfl
  have c23 : Try.prog.cellsOf 23 = 1 := by kernel_rfl
  have c25 : Try.prog.cellsOf 25 = 16 := by kernel_rfl
  rw [c27] at hl
  have h0 : DataW.trod enc Try.prog W base spare held n 22 ((cs.toList.drop 0).take (Try.prog.cellsOf 22)) = xs[0]? := hf 0 _ rfl
  have h1 : DataW.trod enc Try.prog W base spare held n 23 ((cs.toList.drop 1).take (Try.prog.cellsOf 23)) = xs[1]? := hf 1 _ rfl
  have h2 : DataW.trod enc Try.prog W base spare held n 25 ((cs.toList.drop 2).take (Try.prog.cellsOf 25)) = xs[2]? := hf 2 _ rfl
  have hxl : xs.length = 3 := hx
  rw [List.getElem?_eq_getElem (by omega)] at h0 h1 h2
  rw [c22] at h0
  rw [c23] at h1
  rw [c25] at h2
  obtain ⟨a, M, cap, e0, g0, b0, l0⟩ := pairs_of h0
  obtain ⟨a', M', cap', e1, g1, b1, l1⟩ := nums_of Try.underlying23 Try.underlying5 (by kernel_rfl) h1
  obtain ⟨f, hf16⟩ := arr16_of h2
  have hsz : cs.size = 18 := by simpa using hl
  refine ⟨M, M', f, hsz, ⟨a, cap, ?_, g0⟩, b0, ⟨a', cap', ?_, g1⟩, fun j hj => wf_u8 (b1 j hj), fun i hi => ?_, l0, l1⟩
  · have : ((cs.toList.drop 0).take 1)[0]? = some (.slice a M.length cap) := by rw [e0]; rfl
    simpa using this
  · have : ((cs.toList.drop 1).take 1)[0]? = some (.slice a' M'.length cap') := by rw [e1]; rfl
    simpa using this
  · obtain ⟨q0, q1⟩ := hf16 i hi
    refine ⟨?_, q1⟩
    simpa [List.getElem?_take_of_lt hi, List.getElem?_drop] using q0
theorem i8_of {fuel : Nat} {len cap : Nat} {a : Option Addr} {x : DataW H × List MemPlace} (h : DataW.trod enc Try.prog W base spare held fuel 43 [.slice a len cap] = some x) : ∃ bs : List Int, bs.length = len ∧ I8 W a bs cap := by
  obtain ⟨a', M, cap', e, g, b, l⟩ := nums_of Try.underlying43 Try.underlying44 (by kernel_rfl) h
  obtain ⟨rfl, rfl, rfl⟩ : a = a' ∧ len = M.length ∧ cap = cap' := by simpa using e
  exact ⟨M, rfl, g, fun j hj => wf_i8 (b j hj), l⟩
end
end Go.Proofs.Ytpcmppamkgkdlaa
