/- LendingNil: the statement. The Go function returns true for every input, and nothing that was there is changed. No condition. -/
import Derived.Test.YtdojgbpaheadnaaGreatChecked
import Derived.Test.YtdojgbpaheadnaaGreatRows
import Derived.Test.YtdojgbpaheadnaaGreatQOM
import Derived.Test.YtdojgbpaheadnaaGreatQNW
set_option linter.unusedVariables false
set_option linter.unusedSimpArgs false

namespace Go.Proofs.YtdojgbpaheadnaaGreat
open Go.ChangeShapes Go.WideShapes Go.ChangeAt Go.RowKit
open Go.ChangeMaps (open_string shut_string)
set_option linter.unusedVariables false
theorem lendingNil_own : ownKnob Tryz.prog.godebug = none := by kernel_rfl
theorem lendingNil_laidOut : laidOutB Tryz.prog = true := by kernel_rfl

set_option maxRecDepth 100000 in
theorem lendingNil_lifted (os : Os) (started : os.Started) (H : Type) (enc : TypeId × Value → H) :
    ReturnsInHanded {} Tryz.checked os 4 .any (Rows.lendingNilSpec.pre6 enc Tryz.prog Tryz.f4 Rows.lendingNilRow.domain false) (Rows.lendingNilSpec.post enc Tryz.prog Tryz.f4 false true false false) := by
  refine returnsInHanded_of_change (C := Tryz.checked) lendingNil_own started (by kernel_rfl) Tryz.func4
    (ChangeSpec.witness6 (enc := enc) (C := Tryz.checked) false ⟨#[], #[.agg #[.int .i64 0, .int .i64 0, .int .i64 0, .string ⟨#[]⟩], .agg #[.int .i64 0, .int .i64 0]], []⟩ 8 (by kernel_rfl) (by kernel_rfl) (by kernel_rfl) (by kernel_rfl)) ?_
  intro W base args ds gs before hval0 hW hcnd _
  have hval : ∀ (j : Nat) t v, Tryz.f4.params[j]? = some t → args[j]? = some v → Value.okWide Tryz.prog W .any base t v := hval0
  have hW' := hW
  obtain ⟨p, q, hA0, hV, rfl, hfz, hnd⟩ := hW
  have hA : DataW.TrodAll enc Tryz.prog W 0 (fun _ => true) true Tryz.f4.params.toList args.toList ds p := hA0
  rw [Tryz.params4] at hA hval
  obtain ⟨v0, vs0, d0, ds0, p0, q0, hargs, rfl, rfl, h0, r0⟩ := trodAll_cons hA
  obtain ⟨v1, vs1, d1, ds1, p1, q1, rfl, rfl, rfl, h1, r1⟩ := trodAll_cons r0
  obtain ⟨rfl, rfl, rfl⟩ := trodAll_nil r1
  obtain rfl : args = #[v0, v1] := by cases args; simp_all
  obtain ⟨rfl, rfl⟩ := trodVars_none hV
  have k0 := h0
  have lt0 : ∀ x ∈ p0, x.block < W.heap.size := by obtain ⟨m, hm⟩ := k0; exact DataW.trod_lt m _ _ _ hm
  have k1 := h1
  have lt1 : ∀ x ∈ p1, x.block < W.heap.size := by obtain ⟨m, hm⟩ := k1; exact DataW.trod_lt m _ _ _ hm
  obtain ⟨m0, rfl⟩ : ∃ m : Msg, v0 = .agg (encM m) := by
    obtain ⟨cs, rfl, hsz⟩ := okWide_struct Tryz.underlying31 (hval 0 31 v0 rfl rfl)
    obtain ⟨fuel, hf⟩ := h0
    obtain ⟨r, e⟩ := msgN_of hf
    exact ⟨r, congrArg Value.agg (Array.toList_inj.1 e)⟩
  obtain ⟨x1, y1, rfl, ix1, iy1⟩ : ∃ a b : Int, v1 = .agg #[i64 a, i64 b] ∧ I64 a ∧ I64 b := by
    obtain ⟨cs, rfl, hsz⟩ := okWide_arrayN Tryz.underlying42 (hval 1 42 v1 rfl rfl)
    obtain ⟨fuel, hf⟩ := h1
    obtain ⟨a, b, e, ia, ib⟩ := pairN_of hf
    exact ⟨a, b, congrArg Value.agg (Array.toList_inj.1 e), ia, ib⟩
  clear hA0 hval0
  refine (nilLaw m0 x1 y1 ix1 iy1 W).mono fun e W' ⟨he, bel⟩ => ?_
  subst he
  exact ⟨_, rfl, _, _, _, [], _, [], hW', trodAll_mk1 (shut_bool Tryz.underlying4 _), (trodAll_cons_mk (Below.trod lendingNil_laidOut (by kernel_rfl) (of_decide_eq_true (by kernel_rfl)) k0 bel lt0) (trodAll_cons_mk (Below.trod lendingNil_laidOut (by kernel_rfl) (of_decide_eq_true (by kernel_rfl)) k1 bel lt1) trodAll_mk0)), rfl, bel.frame _, fun h => by cases h⟩

theorem lendingNil_over : Rows.lendingNilRow.holds Tryz.pinned (OpenSpec.ofChange Rows.lendingNilSpec) :=
  OpenClaim.holds_of_wide 4 Tryz.f4 rfl rfl rfl rfl rfl rfl rfl ⟨rfl, rfl, rfl, rfl, rfl⟩ rfl rfl rfl rfl rfl (by kernel_rfl) Tryz.func4 (by kernel_rfl)
    (of_decide_eq_true (by kernel_rfl)) (by unfold Func.isWrapper; first | (rw [if_pos (by decide +kernel)]; kernel_rfl) | (rw [if_neg (by decide +kernel)]; exact ⟨rfl, rfl⟩))
    (fun os started H enc _ => lendingNil_lifted os started H enc)

theorem lendingNil_holds : Rows.LendingNilSaid := lendingNil_over
#print axioms lendingNil_holds
end Go.Proofs.YtdojgbpaheadnaaGreat
