/- MergeAgain: the tied card. The Go function returns true for every input, and nothing that was there is changed. The only condition: the package-level variables that the row lists hold what the card ties to the program's text. -/
import Derived.Test.YtpdldbapagchfaaGreatDoorCards
import Derived.Test.YtpdldbapagchfaaGreatDoorTie
import Derived.Test.YtpdldbapagchfaaGreatDoorQ28
import Derived.Test.YtpdldbapagchfaaGreatDoorQLG7
import Derived.Deep.DeepHandedRow
import Derived.Lay
set_option linter.unusedVariables false
set_option linter.unusedSimpArgs false

namespace Go.Proofs.YtpdldbapagchfaaGreatDoor
open Go.ChangeShapes Go.WideShapes Go.ChangeAt Go.RowKit
theorem mergeAgain_own : ownKnob Tryz.prog.godebug = none := by kernel_rfl
theorem mergeAgain_laidOut : laidOutB Tryz.prog = true := by kernel_rfl
set_option maxRecDepth 100000 in
theorem mergeAgain_contract (H : Type) (enc : TypeId × Value → H) (W : World) (base : Nat) (args : Array Value) (ds gs : List (DataW H)) (before : List MemPlace)
    (hval : ∀ (j : Nat) t v, Tryz.f9.params[j]? = some t → args[j]? = some v → Value.okWide Tryz.prog W .any base t v)
    (hW : DataW.Whole enc Tryz.prog Tryz.f9.params.toList Rows.mergeAgainSpec.vars false W args.toList ds gs before) :
    Calls Tryz.prog 9 args W fun e W' => ∃ v, e = .returned v ∧ Rows.mergeAgainSpec.post enc Tryz.prog Tryz.f9 false true false false W args v W' := by
  have hW' := hW
  obtain ⟨p, q, hA0, hV, rfl, hfz, hnd⟩ := hW
  have hA : DataW.TrodAll enc Tryz.prog W 0 (fun _ => true) true Tryz.f9.params.toList args.toList ds p := hA0
  rw [Tryz.params9] at hA hval
  obtain ⟨v0, vs0, d0, ds0, p0, q0, hargs, rfl, rfl, h0, r0⟩ := trodAll_cons hA
  obtain ⟨rfl, rfl, rfl⟩ := trodAll_nil r0
  obtain rfl : args = #[v0] := by cases args; simp_all
  obtain ⟨rfl, rfl⟩ := trodVars_none hV
  have k0 := h0
  obtain ⟨a0, len0, cap0, rfl⟩ := okWide_slice Tryz.underlying22 (hval 0 22 v0 rfl rfl)
  obtain ⟨L0, s0, ok0⟩ : ∃ L : List SaidI, SlOf 4 (fun _ => True) (SaidR (fun _ => True)) W (.slice a0 len0 cap0) L ∧ SOk L := by
    obtain ⟨fuel, hf⟩ := h0
    exact saids_of hf (frozen_sub hfz fun y hy => by simp [hy])
  clear hA0
  refine (againLaw _ s0 ok0).mono fun e W' ⟨he, bel⟩ => ?_
  subst he
  exact ⟨_, rfl, _, _, _, [], _, [], hW', trodAll_mk1 (shut_bool Tryz.underlying4 _), (trodAll_cons_mk (Below.trod mergeAgain_laidOut (by kernel_rfl) (of_decide_eq_true (by kernel_rfl)) k0 bel (by obtain ⟨m, hm⟩ := k0; exact DataW.trod_lt m _ _ _ hm)) trodAll_mk0), rfl, bel.frame _, fun h => by cases h⟩
noncomputable def mergeAgain_world (os : Os) : World := World.laidAll Tryz.prog os Rows.mergeAgainRow.laid
theorem mergeAgain_met (os : Os) : laidMet Tryz.prog Rows.mergeAgainRow.laid ((mergeAgain_world os).forCall (fun _ _ => 0) ⟨#[], #[.slice none 0 0], []⟩).memory := laidMet_laidAll _ (by kernel_rfl) (by kernel_rfl)
theorem mergeAgain_reads (os : Os) {H : Type} (enc : TypeId × Value → H) : ∃ places, DataW.whole enc Tryz.prog ((mergeAgain_world os).forCall (fun _ _ => 0) ⟨#[], #[.slice none 0 0], []⟩).memory Tryz.f9.params.toList Rows.mergeAgainSpec.vars false (#[.slice none 0 0] : Array Value).toList 8 = some ([.nil], [], places) := ⟨[], by kernel_rfl⟩
set_option maxRecDepth 100000 in
theorem mergeAgain_lifted (os : Os) (started : os.Started) (H : Type) (enc : TypeId × Value → H) (F : Stop.Interp) :
    ReturnsInHanded {} Tryz.checked os 9 .any ((OpenSpec.ofChange Rows.mergeAgainSpec).preRow enc Tryz.prog Tryz.f9 Rows.mergeAgainRow.domain false Rows.mergeAgainRow.laid) (((OpenSpec.ofChange Rows.mergeAgainSpec).at F).post enc Tryz.prog Tryz.f9 false true false false) := by
  obtain ⟨places, hx⟩ := mergeAgain_reads os enc
  refine returnsInHanded_of_row (C := Tryz.checked) (s := OpenSpec.ofChange Rows.mergeAgainSpec) mergeAgain_own started (by kernel_rfl) Tryz.func9
    (witness_row_at (enc := enc) (C := Tryz.checked) false (mergeAgain_world os) #[.slice none 0 0] rfl (by kernel_rfl) (by kernel_rfl) (by kernel_rfl)
      (OpenSpec.preRow_of_cond 8 hx (by kernel_rfl) (fun k hk => by cases hk) (by kernel_rfl) (mergeAgain_met os))) ?_
  intro W base args ds gs before hval hW _ _ _ _ _ _
  exact mergeAgain_contract H enc W base args ds gs before hval hW
theorem mergeAgain_said : Rows.MergeAgainSaid :=
  OpenClaim.holds_of_cond 9 Tryz.f9 rfl rfl rfl rfl rfl rfl rfl ⟨rfl, rfl, rfl, rfl, rfl⟩ rfl rfl rfl rfl rfl (by kernel_rfl) Tryz.func9 (by kernel_rfl)
    (of_decide_eq_true (by kernel_rfl)) (by unfold Func.isWrapper; first | (rw [if_pos (by decide +kernel)]; kernel_rfl) | (rw [if_neg (by decide +kernel)]; exact ⟨rfl, rfl⟩))
    (fun os started H enc _ F => by rw [OpenClaim.pre_eq_preRow]; exact mergeAgain_lifted os started H enc F)
theorem mergeAgain_plain (f : FuncId) (fn : Func) (hf : Tryz.pinned.checked.prog.funcNamed "pinakes/pinakeslaw07.MergeAgain" = some f) (hfn : Tryz.pinned.checked.prog.funcs[f]? = some fn) :
    false = Tryz.pinned.checked.prog.looks [] ∧ ∀ (j : Nat) t, fn.params[j]? = some t → Tryz.pinned.checked.prog.wantsStandIn t = false := by
  obtain rfl : f = 9 := Option.some.inj ((show Tryz.prog.funcNamed "pinakes/pinakeslaw07.MergeAgain" = some 9 by kernel_rfl).symm.trans hf) |>.symm
  obtain rfl : fn = Tryz.f9 := (Option.some.inj (Tryz.func9.symm.trans hfn)).symm
  refine ⟨by kernel_rfl, fun j t ht => ?_⟩
  rw [Tryz.params9] at ht
  have hm := Array.mem_of_getElem? ht
  simp only [List.mem_toArray, List.mem_cons, List.not_mem_nil, or_false] at hm
  subst hm
  exact (show Tryz.prog.wantsStandIn 22 = false by kernel_rfl)
theorem mergeAgain_card : Rows.MergeAgainCardSaid :=
  Claim7.holds_tied_plain_at .later [] _ _ _ _ mergeAgain_said (fun _ h => by cases h) (by kernel_rfl) (fun _ h => by cases h) mergeAgain_row_tie rfl ⟨rfl, rfl⟩ (by kernel_rfl) rfl mergeAgain_plain (by kernel_rfl)
#print axioms mergeAgain_card
end Go.Proofs.YtpdldbapagchfaaGreatDoor
