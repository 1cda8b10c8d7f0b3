/- AssignAny: the statement. The Go function returns true for every input, and nothing that was there is changed. No condition. -/
import Derived.Test.YtpcmppamkgkdlaaChecked
import Derived.Test.YtpcmppamkgkdlaaRows
import Derived.Test.YtpcmppamkgkdlaaO2
import Derived.Test.YtpcmppamkgkdlaaVI
namespace Go.Proofs.Ytpcmppamkgkdlaa
open Go.ChangeShapes Go.WideShapes Go.ChangeAt Go.RowKit
open Go.ChangeMaps (open_string shut_string)
set_option linter.unusedVariables false
theorem assignAny_own : ownKnob Try.prog.godebug = none := by kernel_rfl
theorem assignAny_laidOut : laidOutB Try.prog = true := by kernel_rfl

set_option maxRecDepth 100000 in
theorem assignAny_lifted (os : Os) (started : os.Started) (H : Type) (enc : TypeId × Value → H) :
    ReturnsInHanded {} Try.checked os 4 .any (Rows.assignAnySpec.pre6 enc Try.prog Try.f4 Rows.assignAnyRow.domain false) (Rows.assignAnySpec.post enc Try.prog Try.f4 false true false false) := by
  refine returnsInHanded_of_change (C := Try.checked) assignAny_own started (by kernel_rfl) Try.func4
    (ChangeSpec.witness6 (enc := enc) (C := Try.checked) false ⟨#[], #[.slice none 0 0, .slice none 0 0, .slice none 0 0], []⟩ 8 (by kernel_rfl) (by kernel_rfl) (by kernel_rfl) (by kernel_rfl)) ?_
  intro W base args ds gs before hval0 hW hcnd _
  have hval : ∀ (j : Nat) t v, Try.f4.params[j]? = some t → args[j]? = some v → Value.okWide Try.prog W .any base t v := hval0
  have hW' := hW
  obtain ⟨p, q, hA0, hV, rfl, hfz, hnd⟩ := hW
  have hA : DataW.TrodAll enc Try.prog W 0 (fun _ => true) true Try.f4.params.toList args.toList ds p := hA0
  rw [Try.params4] at hA hval
  obtain ⟨v0, vs0, d0, ds0, p0, q0, hargs, rfl, rfl, h0, r0⟩ := trodAll_cons hA
  obtain ⟨v1, vs1, d1, ds1, p1, q1, rfl, rfl, rfl, h1, r1⟩ := trodAll_cons r0
  obtain ⟨v2, vs2, d2, ds2, p2, q2, rfl, rfl, rfl, h2, r2⟩ := trodAll_cons r1
  obtain ⟨rfl, rfl, rfl⟩ := trodAll_nil r2
  obtain rfl : args = #[v0, v1, v2] := by cases args; simp_all
  obtain ⟨rfl, rfl⟩ := trodVars_none hV
  have k0 := h0
  have lt0 : ∀ x ∈ p0, x.block < W.heap.size := by obtain ⟨m, hm⟩ := k0; exact DataW.trod_lt m _ _ _ hm
  have k1 := h1
  have lt1 : ∀ x ∈ p1, x.block < W.heap.size := by obtain ⟨m, hm⟩ := k1; exact DataW.trod_lt m _ _ _ hm
  have k2 := h2
  have lt2 : ∀ x ∈ p2, x.block < W.heap.size := by obtain ⟨m, hm⟩ := k2; exact DataW.trod_lt m _ _ _ hm
  obtain ⟨a0, len0, cap0, rfl⟩ := okWide_slice Try.underlying29 (hval 0 29 v0 rfl rfl)
  obtain ⟨L0, ua0, uc0, rfl, i0⟩ : ∃ (L : List Wt) (ua : Nat → Option Addr) (uc : Nat → Nat), L.length = len0 ∧ WIn W a0 cap0 L ua uc := by obtain ⟨fuel, hf⟩ := h0; exact wants_of hf
  obtain ⟨a1, len1, cap1, rfl⟩ := okWide_slice Try.underlying30 (hval 1 30 v1 rfl rfl)
  obtain ⟨L1, rfl, i1, c1⟩ : ∃ L : List Int, L.length = len1 ∧ Ints W W.heap.size (.slice a1 len1 cap1) L ∧ (len1 ≤ cap1 ∧ cap1 ≤ 9223372036854775807) := by obtain ⟨fuel, hf⟩ := h1; exact ints_in hf
  obtain ⟨a2, len2, cap2, rfl⟩ := okWide_slice Try.underlying34 (hval 2 34 v2 rfl rfl)
  obtain ⟨C2, rfl, i2, c2⟩ : ∃ C : List (List Int), C.length = len2 ∧ Rows2 W W.heap.size (.slice a2 len2 cap2) C ∧ ∀ k, ((C.getD k []).length : Int) ≤ 9223372036854775807 := by obtain ⟨fuel, hf⟩ := h2; exact rows_of hf
  clear hA0 hval0
  refine (anyLaw L0 L1 C2 W a0 a1 a2 cap0 cap1 cap2 ua0 uc0 i0 i1 c1 i2 c2).mono fun e W' ⟨he, bel⟩ => ?_
  subst he
  exact ⟨_, rfl, _, _, _, [], _, [], hW', trodAll_mk1 (shut_bool Try.underlying4 _), (trodAll_cons_mk (Below.trod assignAny_laidOut (by kernel_rfl) (of_decide_eq_true (by kernel_rfl)) k0 bel lt0) (trodAll_cons_mk (Below.trod assignAny_laidOut (by kernel_rfl) (of_decide_eq_true (by kernel_rfl)) k1 bel lt1) (trodAll_cons_mk (Below.trod assignAny_laidOut (by kernel_rfl) (of_decide_eq_true (by kernel_rfl)) k2 bel lt2) trodAll_mk0))), rfl, bel.frame _, fun h => by cases h⟩

theorem assignAny_over : Rows.assignAnyRow.holds Try.pinned (OpenSpec.ofChange Rows.assignAnySpec) :=
  OpenClaim.holds_of_wide 4 Try.f4 rfl rfl rfl rfl rfl rfl rfl ⟨rfl, rfl, rfl, rfl, rfl⟩ rfl rfl rfl rfl rfl (by kernel_rfl) Try.func4 (by kernel_rfl)
    (of_decide_eq_true (by kernel_rfl)) (by unfold Func.isWrapper; first | (rw [if_pos (by decide +kernel)]; kernel_rfl) | (rw [if_neg (by decide +kernel)]; exact ⟨rfl, rfl⟩))
    (fun os started H enc _ => assignAny_lifted os started H enc)

theorem assignAny_holds : Rows.AssignAnySaid := assignAny_over
#print axioms assignAny_holds
end Go.Proofs.Ytpcmppamkgkdlaa
