/- FundsCodes: the statement. The Go function returns true for every input, and nothing that was there is changed. No condition. -/
import Derived.Test.YtmnkgjgaileokaaChecked
import Derived.Test.YtmnkgjgaileokaaRows
import Derived.Test.YtmnkgjgaileokaaMO
import Derived.Test.YtmnkgjgaileokaaMD
namespace Go.Proofs.Ytmnkgjgaileokaa
open Go.ChangeShapes Go.WideShapes Go.ChangeAt Go.RowKit
open Go.ChangeMaps (open_string shut_string)
set_option linter.unusedVariables false
theorem fundsCodes_own : ownKnob Try.prog.godebug = none := by kernel_rfl
theorem fundsCodes_laidOut : laidOutB Try.prog = true := by kernel_rfl

set_option maxRecDepth 100000 in
theorem fundsCodes_lifted (os : Os) (started : os.Started) (H : Type) (enc : TypeId × Value → H) :
    ReturnsInHanded {} Try.checked os 12 .any (Rows.fundsCodesSpec.pre6 enc Try.prog Try.f12 Rows.fundsCodesRow.domain false) (Rows.fundsCodesSpec.post enc Try.prog Try.f12 false true false false) := by
  refine returnsInHanded_of_change (C := Try.checked) fundsCodes_own started (by kernel_rfl) Try.func12
    (ChangeSpec.witness6 (enc := enc) (C := Try.checked) false ⟨#[], #[.slice none 0 0, .agg #[.int .u16 0, .int .u16 0, .int .u16 0], .slice none 0 0], []⟩ 8 (by kernel_rfl) (by kernel_rfl) (by kernel_rfl) (by kernel_rfl)) ?_
  intro W base args ds gs before hval0 hW hcnd _
  have hval : ∀ (j : Nat) t v, Try.f12.params[j]? = some t → args[j]? = some v → Value.okWide Try.prog W .any base t v := hval0
  have hW' := hW
  obtain ⟨p, q, hA0, hV, rfl, hfz, hnd⟩ := hW
  have hA : DataW.TrodAll enc Try.prog W 0 (fun _ => true) true Try.f12.params.toList args.toList ds p := hA0
  rw [Try.params12] at hA hval
  obtain ⟨v0, vs0, d0, ds0, p0, q0, hargs, rfl, rfl, h0, r0⟩ := trodAll_cons hA
  obtain ⟨v1, vs1, d1, ds1, p1, q1, rfl, rfl, rfl, h1, r1⟩ := trodAll_cons r0
  obtain ⟨v2, vs2, d2, ds2, p2, q2, rfl, rfl, rfl, h2, r2⟩ := trodAll_cons r1
  obtain ⟨rfl, rfl, rfl⟩ := trodAll_nil r2
  obtain rfl : args = #[v0, v1, v2] := by cases args; simp_all
  obtain ⟨rfl, rfl⟩ := trodVars_none hV
  have k0 := h0
  have lt0 : ∀ x ∈ p0, x.block < W.heap.size := by obtain ⟨m, hm⟩ := k0; exact DataW.trod_lt m _ _ _ hm
  have k1 := h1
  have lt1 : ∀ x ∈ p1, x.block < W.heap.size := by obtain ⟨m, hm⟩ := k1; exact DataW.trod_lt m _ _ _ hm
  have k2 := h2
  have lt2 : ∀ x ∈ p2, x.block < W.heap.size := by obtain ⟨m, hm⟩ := k2; exact DataW.trod_lt m _ _ _ hm
  obtain ⟨a0, len0, cap0, rfl⟩ := okWide_slice Try.underlying22 (hval 0 22 v0 rfl rfl)
  obtain ⟨L0, rfl, i0⟩ : ∃ L : List Act4, L.length = len0 ∧ InA W a0 L cap0 := by obtain ⟨fuel, hf⟩ := h0; exact inA_of hf
  obtain ⟨x1, y1, z1, rfl, g1, f1, e1⟩ : ∃ x y z : Int, v1 = .agg #[.int .u16 x, .int .u16 y, .int .u16 z] ∧ (0 ≤ x ∧ x ≤ 65535) ∧ (0 ≤ y ∧ y ≤ 65535) ∧ (0 ≤ z ∧ z ≤ 65535) := by
    obtain ⟨cs, rfl, hsz⟩ := okWide_array Try.underlying55 (hval 1 55 v1 rfl rfl)
    obtain ⟨fuel, hf⟩ := h1
    obtain ⟨x, y, z, e, h1, h2, h3⟩ := arr3_of hf
    exact ⟨x, y, z, congrArg Value.agg (Array.toList_inj.1 e), h1, h2, h3⟩
  obtain ⟨a2, len2, cap2, rfl⟩ := okWide_slice Try.underlying56 (hval 2 56 v2 rfl rfl)
  obtain ⟨M2, rfl, i2, n2, c2, d2⟩ : ∃ M : List Int, M.length = len2 ∧ IntsAt W a2 M ∧ AllIn M ∧ len2 ≤ cap2 ∧ cap2 ≤ 9223372036854775807 := by obtain ⟨fuel, hf⟩ := h2; exact intsAt_of hf
  clear hA0 hval0
  refine (codesLaw L0 a0 cap0 x1 y1 z1 M2 a2 cap2 W i0 ⟨g1, f1, e1⟩ i2 n2 c2 d2).mono fun e W' ⟨he, bel⟩ => ?_
  subst he
  exact ⟨_, rfl, _, _, _, [], _, [], hW', trodAll_mk1 (shut_bool Try.underlying4 _), (trodAll_cons_mk (Below.trod fundsCodes_laidOut (by kernel_rfl) (of_decide_eq_true (by kernel_rfl)) k0 bel lt0) (trodAll_cons_mk (Below.trod fundsCodes_laidOut (by kernel_rfl) (of_decide_eq_true (by kernel_rfl)) k1 bel lt1) (trodAll_cons_mk (Below.trod fundsCodes_laidOut (by kernel_rfl) (of_decide_eq_true (by kernel_rfl)) k2 bel lt2) trodAll_mk0))), rfl, bel.frame _, fun h => by cases h⟩

theorem fundsCodes_over : Rows.fundsCodesRow.holds Try.pinned (OpenSpec.ofChange Rows.fundsCodesSpec) :=
  OpenClaim.holds_of_wide 12 Try.f12 rfl rfl rfl rfl rfl rfl rfl ⟨rfl, rfl, rfl, rfl, rfl⟩ rfl rfl rfl rfl rfl (by kernel_rfl) Try.func12 (by kernel_rfl)
    (of_decide_eq_true (by kernel_rfl)) (by unfold Func.isWrapper; first | (rw [if_pos (by decide +kernel)]; kernel_rfl) | (rw [if_neg (by decide +kernel)]; exact ⟨rfl, rfl⟩))
    (fun os started H enc _ => fundsCodes_lifted os started H enc)

theorem fundsCodes_holds : Rows.FundsCodesSaid := fundsCodes_over
#print axioms fundsCodes_holds
end Go.Proofs.Ytmnkgjgaileokaa
