/- How the further arguments of the law of growth are opened: a pair of numbers; the room of a problem's wants. -/
import Derived.Test.YtpcmppamkgkdlaaO
namespace Go.Proofs.Ytpcmppamkgkdlaa
open Go.ChangeShapes Go.WideShapes Go.ChangeAt Go.RowKit
section
variable {H : Type} {enc : TypeId × Value → H} {W : World} {base : Nat} {spare : Nat → Bool} {held : Bool}
theorem first_cap {fuel : Nat} {cs : Array Value} {x : DataW H × List MemPlace} (h : DataW.trod enc Try.prog W base spare held fuel 27 cs.toList = some x) : ∀ a n c, cs[0]? = some (.slice a n c) → n ≤ c ∧ (a = none → c = 0) := by
  obtain ⟨xs, n, rfl, rfl, hl, hx, hf⟩ := DataW.trod_struct Try.underlying27 h
  have c27 : Try.prog.cellsOf 27 = 18 := by kernel_rfl
  have c22 : Try.prog.cellsOf 22 = 1 := by kernel_rfl
  rw [c27] at hl
  have h0 : DataW.trod enc Try.prog W base spare held n 22 ((cs.toList.drop 0).take (Try.prog.cellsOf 22)) = xs[0]? := hf 0 _ rfl
  have hxl : xs.length = 3 := hx
  rw [List.getElem?_eq_getElem (by omega), c22] at h0
  intro a m c e
  have e1 : (cs.toList.drop 0).take 1 = [.slice a m c] := by
    have e2 : cs.toList[0]? = some (.slice a m c) := by simpa using e
    clear hf h0 hl hx h hxl
    rw [List.drop_zero]
    generalize cs.toList = l at e2
    cases l with
    | nil => cases e2
    | cons u l => simp only [List.getElem?_cons_zero, Option.some.injEq] at e2; rw [e2, List.take_succ_cons, List.take_zero]
  rcases Go.Deep.open_slice Try.underlying22 h0 with ⟨hcs, _⟩ | ⟨ad, len, cap', m', n', D, Pl, hcs, hb, hl', hm, hmm, _, _⟩
  · rw [e1] at hcs
    injection hcs with hcs
    injection hcs with q0 q1 q2
    subst q0 q1 q2
    exact ⟨Nat.le_refl _, fun _ => rfl⟩
  · rw [e1] at hcs
    injection hcs with hcs
    injection hcs with q0 q1 q2
    subst q0 q1 q2
    exact ⟨by omega, fun e => by cases e⟩
theorem pair16_of {fuel : Nat} {cs : Array Value} {x : DataW H × List MemPlace} (h : DataW.trod enc Try.prog W base spare held fuel 48 cs.toList = some x) : ∃ m1 m2 : Int, cs = #[.int .u16 m1, .int .u16 m2] ∧ (0 ≤ m1 ∧ m1 < 65536) ∧ (0 ≤ m2 ∧ m2 < 65536) := by
  obtain ⟨xs, n, rfl, rfl, hl, hx, hf⟩ := DataW.trod_array Try.underlying48 h
  have c48 : Try.prog.cellsOf 48 = 2 := by kernel_rfl
  have c24 : Try.prog.cellsOf 24 = 1 := by kernel_rfl
  rw [c48] at hl
  rw [c24] at hf
  have get : ∀ i, i < 2 → ∃ k : Int, cs.toList[i]? = some (.int .u16 k) ∧ (0 ≤ k ∧ k < 65536) := by
    intro i hi
    have h1 := hf i hi
    rw [List.getElem?_eq_getElem (by omega)] at h1
    obtain ⟨k, hk, _, g⟩ := DataW.trod_int Try.underlying24 h1
    refine ⟨k, ?_, wf_u16 g⟩
    have e : ((cs.toList.drop (i * 1)).take 1)[0]? = some (.int .u16 k) := by rw [hk]; rfl
    simpa using e
  obtain ⟨m1, a1, b1⟩ := get 0 (by omega)
  obtain ⟨m2, a2, b2⟩ := get 1 (by omega)
  refine ⟨m1, m2, ?_, b1, b2⟩
  obtain ⟨l⟩ := cs
  obtain ⟨u, v, rfl⟩ := len2 hl
  simp at a1 a2
  rw [a1, a2]
end
end Go.Proofs.Ytpcmppamkgkdlaa
