/- LendingFinds: the statement. The Go function returns true for every input, and nothing that was there is changed. No condition. -/
import Derived.Test.YtdojgbpaheadnaaGreatChecked
import Derived.Test.YtdojgbpaheadnaaGreatRows
import Derived.Test.YtdojgbpaheadnaaGreatQOL
import Derived.Test.YtdojgbpaheadnaaGreatQUW
set_option linter.unusedVariables false
set_option linter.unusedSimpArgs false

namespace Go.Proofs.YtdojgbpaheadnaaGreat
open Go.ChangeShapes Go.WideShapes Go.ChangeAt Go.RowKit
open Go.ChangeMaps (open_string shut_string)
set_option linter.unusedVariables false
theorem lendingFinds_own : ownKnob Tryz.prog.godebug = none := by kernel_rfl
theorem lendingFinds_laidOut : laidOutB Tryz.prog = true := by kernel_rfl

set_option maxRecDepth 100000 in
theorem lendingFinds_lifted (os : Os) (started : os.Started) (H : Type) (enc : TypeId × Value → H) :
  ReturnsInHanded {} Tryz.checked os 8 .any (Rows.lendingFindsSpec.pre6 enc Tryz.prog Tryz.f8 Rows.lendingFindsRow.domain false) (Rows.lendingFindsSpec.post enc Tryz.prog Tryz.f8 false true false false) := by
 refine returnsInHanded_of_change (C := Tryz.checked) lendingFinds_own started (by kernel_rfl) Tryz.func8
  (ChangeSpec.witness6 (enc := enc) (C := Tryz.checked) false ⟨#[], #[.agg #[.slice none 0 0, .slice none 0 0, .slice none 0 0], .slice none 0 0, .agg #[.int .u8 0, .int .u8 0]], []⟩ 8 (by kernel_rfl) (by kernel_rfl) (by kernel_rfl) (by kernel_rfl)) ?_
 intro W base args ds gs before hval0 hW hcnd _
 have hval : ∀ (j : Nat) t v, Tryz.f8.params[j]? = some t → args[j]? = some v → Value.okWide Tryz.prog W .any base t v := hval0
 have hW' := hW
 obtain ⟨p, q, hA0, hV, rfl, hfz, hnd⟩ := hW
 have hA : DataW.TrodAll enc Tryz.prog W 0 (fun _ => true) true Tryz.f8.params.toList args.toList ds p := hA0
 rw [Tryz.params8] at hA hval
 obtain ⟨v0, vs0, d0, ds0, p0, q0, hargs, rfl, rfl, h0, r0⟩ := trodAll_cons hA
 obtain ⟨v1, vs1, d1, ds1, p1, q1, rfl, rfl, rfl, h1, r1⟩ := trodAll_cons r0
 obtain ⟨v2, vs2, d2, ds2, p2, q2, rfl, rfl, rfl, h2, r2⟩ := trodAll_cons r1
 obtain ⟨rfl, rfl, rfl⟩ := trodAll_nil r2
 obtain rfl : args = #[v0, v1, v2] := by cases args; simp_all
 obtain ⟨rfl, rfl⟩ := trodVars_none hV
 have k0 := h0
 have lt0 : ∀ x ∈ p0, x.block < W.heap.size := by obtain ⟨m, hm⟩ := k0; exact DataW.trod_lt m _ _ _ hm
 have k1 := h1
 have lt1 : ∀ x ∈ p1, x.block < W.heap.size := by obtain ⟨m, hm⟩ := k1; exact DataW.trod_lt m _ _ _ hm
 have k2 := h2
 have lt2 : ∀ x ∈ p2, x.block < W.heap.size := by obtain ⟨m, hm⟩ := k2; exact DataW.trod_lt m _ _ _ hm
 obtain ⟨T0, ia0, ic0, rfl, gT0⟩ : ∃ (T : Nat → List Int) (ia : Nat → Option Addr) (ic : Nat → Nat), v0 = .agg #[.slice (ia 0) (T 0).length (ic 0), .slice (ia 1) (T 1).length (ic 1), .slice (ia 2) (T 2).length (ic 2)] ∧ ∀ j, j < 3 → U8 W (ia j) (T j) (ic j) ∧ (T j).length ≤ ic j ∧ ic j ≤ 9223372036854775807 := by
  obtain ⟨cs, rfl, hsz⟩ := okWide_arrF Tryz.underlying67 (hval 0 67 v0 rfl rfl)
  obtain ⟨fuel, hf⟩ := h0
  obtain ⟨T, ia, ic, e, h⟩ := items_of hf
  exact ⟨T, ia, ic, congrArg Value.agg (Array.toList_inj.1 e), h⟩
 obtain ⟨a1, len1, cap1, rfl⟩ := okWide_slice Tryz.underlying23 (hval 1 23 v1 rfl rfl)
 obtain ⟨L1, rfl, i1, c1⟩ : ∃ L : List Int, L.length = len1 ∧ U8 W a1 L cap1 ∧ L.length ≤ cap1 ∧ cap1 ≤ 9223372036854775807 := by obtain ⟨fuel, hf⟩ := h1; exact u8_of hf
 obtain ⟨x2, y2, rfl, ix2, iy2⟩ : ∃ a b : Int, v2 = .agg #[.int .u8 a, .int .u8 b] ∧ (0 ≤ a ∧ a < 256) ∧ (0 ≤ b ∧ b < 256) := by
  obtain ⟨cs, rfl, hsz⟩ := okWide_arrF Tryz.underlying91 (hval 2 91 v2 rfl rfl)
  obtain ⟨fuel, hf⟩ := h2
  obtain ⟨a, b, e, ia, ib⟩ := bytes2_of hf
  exact ⟨a, b, congrArg Value.agg (Array.toList_inj.1 e), ia, ib⟩
 clear hA0 hval0
 refine (findsLaw T0 ia0 ic0 gT0 L1 a1 cap1 i1 c1 x2 y2 ix2 iy2).mono fun e W' ⟨he, bel⟩ => ?_
 subst he
 exact ⟨_, rfl, _, _, _, [], _, [], hW', trodAll_mk1 (shut_bool Tryz.underlying4 _), (trodAll_cons_mk (Below.trod lendingFinds_laidOut (by kernel_rfl) (of_decide_eq_true (by kernel_rfl)) k0 bel lt0) (trodAll_cons_mk (Below.trod lendingFinds_laidOut (by kernel_rfl) (of_decide_eq_true (by kernel_rfl)) k1 bel lt1) (trodAll_cons_mk (Below.trod lendingFinds_laidOut (by kernel_rfl) (of_decide_eq_true (by kernel_rfl)) k2 bel lt2) trodAll_mk0))), rfl, bel.frame _, fun h => by cases h⟩

theorem lendingFinds_over : Rows.lendingFindsRow.holds Tryz.pinned (OpenSpec.ofChange Rows.lendingFindsSpec) :=
 OpenClaim.holds_of_wide 8 Tryz.f8 rfl rfl rfl rfl rfl rfl rfl ⟨rfl, rfl, rfl, rfl, rfl⟩ rfl rfl rfl rfl rfl (by kernel_rfl) Tryz.func8 (by kernel_rfl)
  (of_decide_eq_true (by kernel_rfl)) (by unfold Func.isWrapper; first | (rw [if_pos (by decide +kernel)]; kernel_rfl) | (rw [if_neg (by decide +kernel)]; exact ⟨rfl, rfl⟩))
  (fun os started H enc _ => lendingFinds_lifted os started H enc)

theorem lendingFinds_holds : Rows.LendingFindsSaid := lendingFinds_over
#print axioms lendingFinds_holds
end Go.Proofs.YtdojgbpaheadnaaGreat
