/- LendingRepeats: the statement. The Go function returns true for every input, and nothing that was there is changed. No condition. -/
import Derived.Test.YtdojgbpaheadnaaGreatChecked
import Derived.Test.YtdojgbpaheadnaaGreatRows
import Derived.Test.YtdojgbpaheadnaaGreatQOL
import Derived.Test.YtdojgbpaheadnaaGreatQUY
set_option linter.unusedVariables false
set_option linter.unusedSimpArgs false

namespace Go.Proofs.YtdojgbpaheadnaaGreat
open Go.ChangeShapes Go.WideShapes Go.ChangeAt Go.RowKit
open Go.ChangeMaps (open_string shut_string)
set_option linter.unusedVariables false
theorem lendingRepeats_own : ownKnob Tryz.prog.godebug = none := by kernel_rfl
theorem lendingRepeats_laidOut : laidOutB Tryz.prog = true := by kernel_rfl

set_option maxRecDepth 100000 in
theorem lendingRepeats_lifted (os : Os) (started : os.Started) (H : Type) (enc : TypeId × Value → H) :
  ReturnsInHanded {} Tryz.checked os 7 .any (Rows.lendingRepeatsSpec.pre6 enc Tryz.prog Tryz.f7 Rows.lendingRepeatsRow.domain false) (Rows.lendingRepeatsSpec.post enc Tryz.prog Tryz.f7 false true false false) := by
 refine returnsInHanded_of_change (C := Tryz.checked) lendingRepeats_own started (by kernel_rfl) Tryz.func7
  (ChangeSpec.witness6 (enc := enc) (C := Tryz.checked) false ⟨#[], #[.agg #[.slice none 0 0, .slice none 0 0, .slice none 0 0, .slice none 0 0, .slice none 0 0, .slice none 0 0, .int .u8 0]], []⟩ 8 (by kernel_rfl) (by kernel_rfl) (by kernel_rfl) (by kernel_rfl)) ?_
 intro W base args ds gs before hval0 hW hcnd _
 have hval : ∀ (j : Nat) t v, Tryz.f7.params[j]? = some t → args[j]? = some v → Value.okWide Tryz.prog W .any base t v := hval0
 have hW' := hW
 obtain ⟨p, q, hA0, hV, rfl, hfz, hnd⟩ := hW
 have hA : DataW.TrodAll enc Tryz.prog W 0 (fun _ => true) true Tryz.f7.params.toList args.toList ds p := hA0
 rw [Tryz.params7] at hA hval
 obtain ⟨v0, vs0, d0, ds0, p0, q0, hargs, rfl, rfl, h0, r0⟩ := trodAll_cons hA
 obtain ⟨rfl, rfl, rfl⟩ := trodAll_nil r0
 obtain rfl : args = #[v0] := by cases args; simp_all
 obtain ⟨rfl, rfl⟩ := trodVars_none hV
 have k0 := h0
 have lt0 : ∀ x ∈ p0, x.block < W.heap.size := by obtain ⟨m, hm⟩ := k0; exact DataW.trod_lt m _ _ _ hm
 obtain ⟨T0, ia0, ic0, D0, ra0, rc0, A0, aa0, ac0, S0, sa0, sc0, rr0, rfl, gT0, gD0, gA0, gS0, gI0, gl0, g00, g10⟩ : ∃ (T : Nat → List Int) (ia : Nat → Option Addr) (ic : Nat → Nat) (D : List Int) (ra : Option Addr) (rc : Nat) (A : List Int) (aa : Option Addr) (ac : Nat) (S : List Tr) (sa : Option Addr) (sc : Nat) (rr : Int),
   v0 = .agg #[.slice (ia 0) (T 0).length (ic 0), .slice (ia 1) (T 1).length (ic 1), .slice (ia 2) (T 2).length (ic 2), .slice ra D.length rc, .slice aa A.length ac, .slice sa S.length sc, .int .u8 rr] ∧
   (∀ j, j < 3 → U8 W (ia j) (T j) (ic j) ∧ (T j).length ≤ ic j ∧ ic j ≤ 9223372036854775807) ∧ (U8 W ra D rc ∧ D.length ≤ rc ∧ rc ≤ 9223372036854775807) ∧ (U8 W aa A ac ∧ A.length ≤ ac ∧ ac ≤ 9223372036854775807) ∧ TrIn W sa S ∧ (∀ t ∈ S, I64 t.2.2) ∧ S.length ≤ 9223372036854775807 ∧ 0 ≤ rr ∧ rr < 256 := by
  obtain ⟨cs, rfl, hsz⟩ := okWide_struct Tryz.underlying70 (hval 0 70 v0 rfl rfl)
  obtain ⟨fuel, hf⟩ := h0
  obtain ⟨T, ia, ic, D, ra, rc, A, aa, ac, S, sa, sc, rr, e, h⟩ := start_of hf
  exact ⟨T, ia, ic, D, ra, rc, A, aa, ac, S, sa, sc, rr, congrArg Value.agg (Array.toList_inj.1 e), h⟩
 clear hA0 hval0
 refine (repeatsLaw (S := S0) T0 ia0 ic0 gT0 D0 ra0 rc0 gD0.1 gD0.2 A0 aa0 ac0 gA0.1 gA0.2 sa0 sc0 rr0).mono fun e W' ⟨he, bel⟩ => ?_
 subst he
 exact ⟨_, rfl, _, _, _, [], _, [], hW', trodAll_mk1 (shut_bool Tryz.underlying4 _), (trodAll_cons_mk (Below.trod lendingRepeats_laidOut (by kernel_rfl) (of_decide_eq_true (by kernel_rfl)) k0 bel lt0) trodAll_mk0), rfl, bel.frame _, fun h => by cases h⟩

theorem lendingRepeats_over : Rows.lendingRepeatsRow.holds Tryz.pinned (OpenSpec.ofChange Rows.lendingRepeatsSpec) :=
 OpenClaim.holds_of_wide 7 Tryz.f7 rfl rfl rfl rfl rfl rfl rfl ⟨rfl, rfl, rfl, rfl, rfl⟩ rfl rfl rfl rfl rfl (by kernel_rfl) Tryz.func7 (by kernel_rfl)
  (of_decide_eq_true (by kernel_rfl)) (by unfold Func.isWrapper; first | (rw [if_pos (by decide +kernel)]; kernel_rfl) | (rw [if_neg (by decide +kernel)]; exact ⟨rfl, rfl⟩))
  (fun os started H enc _ => lendingRepeats_lifted os started H enc)

theorem lendingRepeats_holds : Rows.LendingRepeatsSaid := lendingRepeats_over
#print axioms lendingRepeats_holds
end Go.Proofs.YtdojgbpaheadnaaGreat
