/- AssignGrows: the statement. The Go function returns true for every input, and nothing that was there is changed. No condition. -/
import Derived.Test.YtpcmppamkgkdlaaChecked
import Derived.Test.YtpcmppamkgkdlaaRows
import Derived.Test.YtpcmppamkgkdlaaO4
import Derived.Test.YtpcmppamkgkdlaaGW
namespace Go.Proofs.Ytpcmppamkgkdlaa
open Go.ChangeShapes Go.WideShapes Go.ChangeAt Go.RowKit
open Go.ChangeMaps (open_string shut_string)
set_option linter.unusedVariables false
theorem assignGrows_own : ownKnob Try.prog.godebug = none := by kernel_rfl
theorem assignGrows_laidOut : laidOutB Try.prog = true := by kernel_rfl

set_option maxRecDepth 100000 in
theorem assignGrows_lifted (os : Os) (started : os.Started) (H : Type) (enc : TypeId × Value → H) :
    ReturnsInHanded {} Try.checked os 8 .any (Rows.assignGrowsSpec.pre6 enc Try.prog Try.f8 Rows.assignGrowsRow.domain false) (Rows.assignGrowsSpec.post enc Try.prog Try.f8 false true false false) := by
  refine returnsInHanded_of_change (C := Try.checked) assignGrows_own started (by kernel_rfl) Try.func8
    (ChangeSpec.witness6 (enc := enc) (C := Try.checked) false ⟨#[], #[.agg #[.slice none 0 0, .slice none 0 0, .int .u16 0, .int .u16 0, .int .u16 0, .int .u16 0, .int .u16 0, .int .u16 0, .int .u16 0, .int .u16 0, .int .u16 0, .int .u16 0, .int .u16 0, .int .u16 0, .int .u16 0, .int .u16 0, .int .u16 0, .int .u16 0], .agg #[.int .u16 0, .int .u16 0], .int .u8 0], []⟩ 8 (by kernel_rfl) (by kernel_rfl) (by kernel_rfl) (by kernel_rfl)) ?_
  intro W base args ds gs before hval0 hW hcnd _
  have hval : ∀ (j : Nat) t v, Try.f8.params[j]? = some t → args[j]? = some v → Value.okWide Try.prog W .any base t v := hval0
  have hW' := hW
  obtain ⟨p, q, hA0, hV, rfl, hfz, hnd⟩ := hW
  have hA : DataW.TrodAll enc Try.prog W 0 (fun _ => true) true Try.f8.params.toList args.toList ds p := hA0
  rw [Try.params8] at hA hval
  obtain ⟨v0, vs0, d0, ds0, p0, q0, hargs, rfl, rfl, h0, r0⟩ := trodAll_cons hA
  obtain ⟨v1, vs1, d1, ds1, p1, q1, rfl, rfl, rfl, h1, r1⟩ := trodAll_cons r0
  obtain ⟨v2, vs2, d2, ds2, p2, q2, rfl, rfl, rfl, h2, r2⟩ := trodAll_cons r1
  obtain ⟨rfl, rfl, rfl⟩ := trodAll_nil r2
  obtain rfl : args = #[v0, v1, v2] := by cases args; simp_all
  obtain ⟨rfl, rfl⟩ := trodVars_none hV
  have k0 := h0
  have lt0 : ∀ x ∈ p0, x.block < W.heap.size := by obtain ⟨m, hm⟩ := k0; exact DataW.trod_lt m _ _ _ hm
  have k1 := h1
  have lt1 : ∀ x ∈ p1, x.block < W.heap.size := by obtain ⟨m, hm⟩ := k1; exact DataW.trod_lt m _ _ _ hm
  have k2 := h2
  have lt2 : ∀ x ∈ p2, x.block < W.heap.size := by obtain ⟨m, hm⟩ := k2; exact DataW.trod_lt m _ _ _ hm
  obtain ⟨cs0, rfl, sz0⟩ := okWide_struct Try.underlying27 (hval 0 27 v0 rfl rfl)
  obtain ⟨wl0, al0, f0, n0, i0⟩ : ∃ (wl : List (Int × Int)) (al : List Int) (f : Nat → Int), cs0.size = 18 ∧ PrIn W W.heap.size cs0 wl al f := by obtain ⟨fuel, hf⟩ := h0; exact prIn_of hf
  have cap0 : ∀ a n c, cs0[0]? = some (.slice a n c) → n ≤ c ∧ (a = none → c = 0) := by obtain ⟨fuel, hf⟩ := h0; exact first_cap hf
  obtain ⟨cs1, rfl, sz1⟩ := okWide_array Try.underlying48 (hval 1 48 v1 rfl rfl)
  obtain ⟨x1, y1, rfl, ix1, iy1⟩ : ∃ m1 m2 : Int, cs1 = #[.int .u16 m1, .int .u16 m2] ∧ (0 ≤ m1 ∧ m1 < 65536) ∧ (0 ≤ m2 ∧ m2 < 65536) := by obtain ⟨fuel, hf⟩ := h1; exact pair16_of hf
  obtain ⟨x2, rfl, rfl, rfl, wf2⟩ := open_int Try.underlying5 (hval 2 5 v2 rfl rfl) h2
  clear hA0 hval0
  refine (growsLaw cs0 wl0 al0 f0 x1 y1 x2 W i0 n0 ix1 iy1 (by have := wf_u8 wf2; omega) cap0).mono fun e W' ⟨he, bel⟩ => ?_
  subst he
  exact ⟨_, rfl, _, _, _, [], _, [], hW', trodAll_mk1 (shut_bool Try.underlying4 _), (trodAll_cons_mk (Below.trod assignGrows_laidOut (by kernel_rfl) (of_decide_eq_true (by kernel_rfl)) k0 bel lt0) (trodAll_cons_mk (Below.trod assignGrows_laidOut (by kernel_rfl) (of_decide_eq_true (by kernel_rfl)) k1 bel lt1) (trodAll_cons_mk (Below.trod assignGrows_laidOut (by kernel_rfl) (of_decide_eq_true (by kernel_rfl)) k2 bel lt2) trodAll_mk0))), rfl, bel.frame _, fun h => by cases h⟩

theorem assignGrows_over : Rows.assignGrowsRow.holds Try.pinned (OpenSpec.ofChange Rows.assignGrowsSpec) :=
  OpenClaim.holds_of_wide 8 Try.f8 rfl rfl rfl rfl rfl rfl rfl ⟨rfl, rfl, rfl, rfl, rfl⟩ rfl rfl rfl rfl rfl (by kernel_rfl) Try.func8 (by kernel_rfl)
    (of_decide_eq_true (by kernel_rfl)) (by unfold Func.isWrapper; first | (rw [if_pos (by decide +kernel)]; kernel_rfl) | (rw [if_neg (by decide +kernel)]; exact ⟨rfl, rfl⟩))
    (fun os started H enc _ => assignGrows_lifted os started H enc)

theorem assignGrows_holds : Rows.AssignGrowsSaid := assignGrows_over
#print axioms assignGrows_holds
end Go.Proofs.Ytpcmppamkgkdlaa
