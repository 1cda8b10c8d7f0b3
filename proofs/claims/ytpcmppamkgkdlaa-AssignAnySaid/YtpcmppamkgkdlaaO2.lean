/- How the arguments of the law for any numbers are opened: wants, rows of numbers. -/
import Derived.Test.YtpcmppamkgkdlaaO
import Derived.Test.YtpcmppamkgkdlaaVI
namespace Go.Proofs.Ytpcmppamkgkdlaa
open Go.ChangeShapes Go.WideShapes Go.ChangeAt Go.RowKit
section
variable {H : Type} {enc : TypeId × Value → H} {W : World} {base : Nat} {spare : Nat → Bool} {held : Bool}
/-- A slice of numbers, with its room. -/
theorem ints_of {fuel : Nat} {cs : List Value} {x : DataW H × List MemPlace} (h : DataW.trod enc Try.prog W base spare held fuel 30 cs = some x) : ∃ (a : Option Addr) (M : List Int) (cap : Nat), cs = [.slice a M.length cap] ∧ Ints W W.heap.size (.slice a M.length cap) M ∧ M.length ≤ cap ∧ cap ≤ 9223372036854775807 := by
  obtain ⟨a, M, cap, e, hc, hw, hl⟩ := nums_of Try.underlying30 Try.underlying3 (by kernel_rfl) h
  refine ⟨a, M, cap, e, ⟨a, cap, rfl, ?_⟩, ?_⟩
  · rcases hc with h | ⟨b, o, h1, h2, h3⟩
    · exact .inl h
    · exact .inr ⟨b, o, h1, h2, h3⟩
  · rcases Go.Deep.open_slice Try.underlying30 h with ⟨hcs, _⟩ | ⟨ad, len, cap', m, n, D, Pl, hcs, hb, hl, hm, hmm, _, hx⟩
    · rw [e] at hcs
      injection hcs with hcs
      injection hcs with _ h1 h2
      omega
    · rw [e] at hcs
      injection hcs with hcs
      injection hcs with _ h1 h2
      unfold maxLen at hm
      omega
theorem want_of {fuel : Nat} {cs : List Value} {x : DataW H × List MemPlace} (h : DataW.trod enc Try.prog W base spare held fuel 41 cs = some x) : ∃ (q : Wt) (a : Option Addr) (cap : Nat), cs = [.int .i64 q.1, .slice a q.2.length cap] ∧ Ints W W.heap.size (.slice a q.2.length cap) q.2 ∧ q.2.length ≤ cap ∧ cap ≤ 9223372036854775807 := by
  obtain ⟨xs, n, rfl, rfl, hl, hx, hf⟩ := DataW.trod_struct Try.underlying41 h
  have c41 : Try.prog.cellsOf 41 = 2 := by kernel_rfl
  have c3 : Try.prog.cellsOf 3 = 1 := by kernel_rfl
  have c30 : Try.prog.cellsOf 30 = 1 := by kernel_rfl
  rw [c41] at hl
  have h0 : DataW.trod enc Try.prog W base spare held n 3 ((cs.drop 0).take (Try.prog.cellsOf 3)) = xs[0]? := hf 0 _ rfl
  have h1 : DataW.trod enc Try.prog W base spare held n 30 ((cs.drop 1).take (Try.prog.cellsOf 30)) = xs[1]? := hf 1 _ rfl
  have hxl : xs.length = 2 := hx
  rw [List.getElem?_eq_getElem (by omega)] at h0 h1
  rw [c3] at h0
  rw [c30] at h1
  obtain ⟨k, hk, _, _⟩ := DataW.trod_int Try.underlying3 h0
  obtain ⟨a, M, cap, e, hI, hc⟩ := ints_of h1
  obtain ⟨v0, v1, rfl⟩ := len2 hl
  simp at hk e
  subst hk e
  exact ⟨(k, M), a, cap, rfl, hI, hc⟩
theorem wants_of {fuel : Nat} {len cap : Nat} {a : Option Addr} {x : DataW H × List MemPlace} (h : DataW.trod enc Try.prog W base spare held fuel 29 [.slice a len cap] = some x) :
    ∃ (M : List Wt) (ua : Nat → Option Addr) (uc : Nat → Nat), M.length = len ∧ WIn W a cap M ua uc := by
  rcases Go.Deep.open_slice Try.underlying29 h with ⟨hcs, _⟩ | ⟨ad, len', cap', m, n, D, Pl, hcs, hb, hl, hm, hmm, _, hx⟩
  · injection hcs with hcs
    injection hcs with h1 h2 h3
    subst h1 h2 h3
    exact ⟨[], fun _ => none, fun _ => 0, rfl, .inl rfl, fun j hj => by simp at hj, fun _ => rfl, by simp⟩
  · injection hcs with hcs
    injection hcs with h1 h2 h3
    subst h1 h2 h3
    have hcap : cap ≤ 9223372036854775807 := by unfold maxLen at hm; omega
    have hlm : len ≤ m := by rw [hmm]; split <;> omega
    have c41 : Try.prog.cellsOf 41 = 2 := by kernel_rfl
    rw [c41] at hx
    by_cases h0 : len = 0
    · subst h0
      exact ⟨[], fun _ => none, fun _ => 0, rfl, .inl rfl, fun j hj => by simp at hj, fun e => (by cases e), by simp; omega⟩
    have each : ∀ i, i < len → ∃ r : Wt × Option Addr × Nat, W.cells? base (ad.add (i * 2)) 2 = some [.int .i64 r.1.1, .slice r.2.1 r.1.2.length r.2.2] ∧ Ints W W.heap.size (.slice r.2.1 r.1.2.length r.2.2) r.1.2 ∧ r.1.2.length ≤ r.2.2 ∧ r.2.2 ≤ 9223372036854775807 := by
      intro i hi
      obtain ⟨cs', h1, h2⟩ := hx i (by omega)
      obtain ⟨q, a, cap, e, hI, hc⟩ := want_of h2
      exact ⟨(q, a, cap), by rw [h1, e], hI, hc⟩
    obtain ⟨R, hR⟩ := Go.Deep.choose_lt each
    have hcell : ∀ i, i < len → W.cell? (ad.add (i * 2)) = some (.int .i64 (R i).1.1) ∧ W.cell? (ad.add (i * 2 + 1)) = some (.slice (R i).2.1 (R i).1.2.length (R i).2.2) := by
      intro i hi
      obtain ⟨_, _, hc⟩ := World.cells?_some (hR i hi).1
      have q0 := hc 0 (by omega)
      have q1 := hc 1 (by omega)
      rw [Go.Deep.add_add] at q0 q1
      exact ⟨by simpa using q0, by simpa using q1⟩
    have hc0 := (hcell 0 (by omega)).1
    obtain ⟨b, o, sp⟩ := ad
    have hs : sp = none := by
      have : W.cell? ((⟨b, o, sp⟩ : Addr).add (0 * 2)) = some (.int .i64 (R 0).1.1) := hc0
      simpa [Addr.add] using World.cell?_spot this
    subst hs
    have hbl : b < W.heap.size := by
      have := World.cells?_block (hR 0 (by omega)).1 (by omega)
      simpa [Addr.add] using this
    refine ⟨(List.range len).map fun i => (R i).1, fun i => (R i).2.1, fun i => (R i).2.2, by simp, .inr ⟨b, o, rfl, hbl, fun k hk => ?_⟩, fun k hk => ?_, fun e => (by cases e), by simp; omega⟩
    · have hk' : k < len := by simpa using hk
      have hh := hcell k hk'
      rw [add_eq, add_eq] at hh
      rw [getD_map_range len (fun i => (R i).1) noW hk']
      exact ⟨hh.1, hh.2, (hR k hk').2.1⟩
    · have hk' : k < len := by simpa using hk
      rw [getD_map_range len (fun i => (R i).1) noW hk']
      exact (hR k hk').2.2
theorem rows_of {fuel : Nat} {len cap : Nat} {a : Option Addr} {x : DataW H × List MemPlace} (h : DataW.trod enc Try.prog W base spare held fuel 34 [.slice a len cap] = some x) :
    ∃ C : List (List Int), C.length = len ∧ Rows2 W W.heap.size (.slice a len cap) C ∧ ∀ k, ((C.getD k []).length : Int) ≤ 9223372036854775807 := by
  rcases Go.Deep.open_slice1 Try.underlying34 (by kernel_rfl) h with ⟨hcs, _⟩ | ⟨ad, len', cap', m, n, V, D, Pl, hcs, hb, hl, hm, hmm, _, hx⟩
  · injection hcs with hcs
    injection hcs with h1 h2 h3
    subst h1 h2 h3
    exact ⟨[], rfl, ⟨none, 0, rfl, .inl rfl⟩, fun k => by simp⟩
  · injection hcs with hcs
    injection hcs with h1 h2 h3
    subst h1 h2 h3
    have hlm : len ≤ m := by rw [hmm]; split <;> omega
    by_cases h0 : len = 0
    · subst h0
      exact ⟨[], rfl, ⟨_, cap, rfl, .inl rfl⟩, fun k => by simp⟩
    have each : ∀ i, i < len → ∃ l : List Int, Ints W W.heap.size (V i) l ∧ l.length ≤ 9223372036854775807 := by
      intro i hi
      obtain ⟨_, h2⟩ := hx i (by omega)
      obtain ⟨a, M, cap, e, hI, hc⟩ := ints_of h2
      injection e with e
      exact ⟨M, by rw [e]; exact hI, by omega⟩
    obtain ⟨R, hR⟩ := Go.Deep.choose_lt each
    have hc0 := (hx 0 (by omega)).1
    obtain ⟨b, o, sp⟩ := ad
    have hs : sp = none := by simpa [Addr.add] using World.cell?_spot hc0
    subst hs
    rw [add_eq] at hc0
    have hbl : b < W.heap.size := cell_lt hc0
    refine ⟨(List.range len).map R, by simp, ⟨_, cap, by simp, .inr ⟨b, o, rfl, hbl, fun k hk => ?_⟩⟩, fun k => ?_⟩
    · have hk' : k < len := by simpa using hk
      rw [getD_map_range len R [] hk']
      have := (hx k (by omega)).1
      rw [add_eq] at this
      exact ⟨V k, this, (hR k hk').1⟩
    · rcases Nat.lt_or_ge k len with hk | hk
      · rw [getD_map_range len R [] hk]; have := (hR k hk).2; omega
      · rw [List.getD_eq_getElem?_getD, List.getElem?_eq_none (by simpa using hk)]; simp
theorem ints_in {fuel : Nat} {len cap : Nat} {a : Option Addr} {x : DataW H × List MemPlace} (h : DataW.trod enc Try.prog W base spare held fuel 30 [.slice a len cap] = some x) :
    ∃ L : List Int, L.length = len ∧ Ints W W.heap.size (.slice a len cap) L ∧ (len ≤ cap ∧ cap ≤ 9223372036854775807) := by
  obtain ⟨a', M, cap', e, hI, hc⟩ := ints_of h
  obtain ⟨rfl, rfl, rfl⟩ : a = a' ∧ len = M.length ∧ cap = cap' := by simpa using e
  exact ⟨M, rfl, hI, hc⟩
end
end Go.Proofs.Ytpcmppamkgkdlaa
