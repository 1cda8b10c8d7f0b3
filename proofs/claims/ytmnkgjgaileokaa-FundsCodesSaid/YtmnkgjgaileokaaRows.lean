/-
  No cell of these rows narrows 'for every input' (looked for: loops, veiled, ifaces, maps, wideKeys, modest, calm, conditions, laid).
  DERIVED. THE GIVEN ROWS OF THIS SEAT. 10 by the template 'for every input the law returns true; each argument reads behind the call as it read before'; 0 by the template 'total and deterministic' (their statements: YtmnkgjgaileokaaTotals.lean).
  GIVEN WITH THE SEED: the statements are not yours to turn. If you find one false, say at which input.
  Laid BY PROGRAM, IN A SANDBOX (cutbox-rows.mjs): the forced cells as the released guide's own fill.sh prints them over the translation a7d08f6c1e21de6e… (all of the seat's roots in one cut). By AI agents, Wed Nov 11 2026. No macro, syntax, notation, axiom, sorry.
-/
import Derived.Test.YtmnkgjgaileokaaChecked
import GoSem.Claim
import GoSem.ClaimJoined
import GoSem.ClaimMapViews
import Derived.JoinedTies
import Derived.KernelRfl
namespace Go.Proofs.Ytmnkgjgaileokaa
/- THE CELL 'sum', in the pinned program and in every row, IS THE sha256 OF THE DUMP (.gsa) THAT YtmnkgjgaileokaaProg.lean LOADS. Nothing in Lean hashes anything: it is a label: what it is worth is what the hold of that sum in a sandbox is worth. -/
noncomputable def Try.pinned : Pinned := { name := "ytmnkgjgaileokaa", sum := "a7d08f6c1e21de6e4b27d51c799926ce63aa15c4f27e1d0e00257cb8827a61cd", checked := Try.checked }
namespace Rows
def none {H : Type} : Left H := { results := [], args := [] }

/-- 'pinakeslaw23.FundsAdd': WHATEVER THE INPUT: true; the input reads as it did. -/
def fundsAddSpec : ChangeSpec := { name := "fundsAdd", fn := fun _ => fun
  | [d] => { results := [.lit (.bool true)], args := [d] }
  | _ => none }
def fundsAddRow : OpenClaim := { program := "ytmnkgjgaileokaa", sum := "a7d08f6c1e21de6e4b27d51c799926ce63aa15c4f27e1d0e00257cb8827a61cd", func := "pinakes/pinakeslaw23.FundsAdd", spec := "fundsAdd", unfollowed := true, recurses := true, apart := false }
def FundsAddSaid : Prop := fundsAddRow.holds Try.pinned (OpenSpec.ofChange fundsAddSpec)

/-- ITS FALSE NEIGHBOUR: 'it returns false'. Refute it at one input. -/
def fundsAddWrong : ChangeSpec := { name := "fundsAdd", fn := fun _ => fun
  | [d] => { results := [.lit (.bool false)], args := [d] }
  | _ => none }
def FundsAddWrongFalsely : Prop := fundsAddRow.holds Try.pinned (OpenSpec.ofChange fundsAddWrong)

/-- 'pinakeslaw23.FundsTotals': WHATEVER THE INPUT: true; the input reads as it did. -/
def fundsTotalsSpec : ChangeSpec := { name := "fundsTotals", fn := fun _ => fun
  | [d] => { results := [.lit (.bool true)], args := [d] }
  | _ => none }
def fundsTotalsRow : OpenClaim := { program := "ytmnkgjgaileokaa", sum := "a7d08f6c1e21de6e4b27d51c799926ce63aa15c4f27e1d0e00257cb8827a61cd", func := "pinakes/pinakeslaw23.FundsTotals", spec := "fundsTotals", unfollowed := true, recurses := true, apart := false }
def FundsTotalsSaid : Prop := fundsTotalsRow.holds Try.pinned (OpenSpec.ofChange fundsTotalsSpec)

/-- ITS FALSE NEIGHBOUR: 'it returns false'. Refute it at one input. -/
def fundsTotalsWrong : ChangeSpec := { name := "fundsTotals", fn := fun _ => fun
  | [d] => { results := [.lit (.bool false)], args := [d] }
  | _ => none }
def FundsTotalsWrongFalsely : Prop := fundsTotalsRow.holds Try.pinned (OpenSpec.ofChange fundsTotalsWrong)

/-- 'pinakeslaw23.FundsLimits': WHATEVER THE INPUT: true; the input reads as it did. -/
def fundsLimitsSpec : ChangeSpec := { name := "fundsLimits", fn := fun _ => fun
  | [d1, d2] => { results := [.lit (.bool true)], args := [d1, d2] }
  | _ => none }
def fundsLimitsRow : OpenClaim := { program := "ytmnkgjgaileokaa", sum := "a7d08f6c1e21de6e4b27d51c799926ce63aa15c4f27e1d0e00257cb8827a61cd", func := "pinakes/pinakeslaw23.FundsLimits", spec := "fundsLimits", unfollowed := true, recurses := true, apart := false }
def FundsLimitsSaid : Prop := fundsLimitsRow.holds Try.pinned (OpenSpec.ofChange fundsLimitsSpec)

/-- ITS FALSE NEIGHBOUR: 'it returns false'. Refute it at one input. -/
def fundsLimitsWrong : ChangeSpec := { name := "fundsLimits", fn := fun _ => fun
  | [d1, d2] => { results := [.lit (.bool false)], args := [d1, d2] }
  | _ => none }
def FundsLimitsWrongFalsely : Prop := fundsLimitsRow.holds Try.pinned (OpenSpec.ofChange fundsLimitsWrong)

/-- 'pinakeslaw23.FundsPlay': WHATEVER THE INPUT: true; the input reads as it did. -/
def fundsPlaySpec : ChangeSpec := { name := "fundsPlay", fn := fun _ => fun
  | [d] => { results := [.lit (.bool true)], args := [d] }
  | _ => none }
def fundsPlayRow : OpenClaim := { program := "ytmnkgjgaileokaa", sum := "a7d08f6c1e21de6e4b27d51c799926ce63aa15c4f27e1d0e00257cb8827a61cd", func := "pinakes/pinakeslaw23.FundsPlay", spec := "fundsPlay", inPlace := ["internal/abi.NoEscape"], unfollowed := true, recurses := true, apart := false }
def FundsPlaySaid : Prop := fundsPlayRow.holds Try.pinned (OpenSpec.ofChange fundsPlaySpec)

/-- ITS FALSE NEIGHBOUR: 'it returns false'. Refute it at one input. -/
def fundsPlayWrong : ChangeSpec := { name := "fundsPlay", fn := fun _ => fun
  | [d] => { results := [.lit (.bool false)], args := [d] }
  | _ => none }
def FundsPlayWrongFalsely : Prop := fundsPlayRow.holds Try.pinned (OpenSpec.ofChange fundsPlayWrong)

/-- 'pinakeslaw23.FundsAny': WHATEVER THE INPUT: true; the input reads as it did. -/
def fundsAnySpec : ChangeSpec := { name := "fundsAny", fn := fun _ => fun
  | [d] => { results := [.lit (.bool true)], args := [d] }
  | _ => none }
def fundsAnyRow : OpenClaim := { program := "ytmnkgjgaileokaa", sum := "a7d08f6c1e21de6e4b27d51c799926ce63aa15c4f27e1d0e00257cb8827a61cd", func := "pinakes/pinakeslaw23.FundsAny", spec := "fundsAny", inPlace := ["internal/abi.NoEscape"], unfollowed := true, recurses := true, apart := false }
def FundsAnySaid : Prop := fundsAnyRow.holds Try.pinned (OpenSpec.ofChange fundsAnySpec)

/-- ITS FALSE NEIGHBOUR: 'it returns false'. Refute it at one input. -/
def fundsAnyWrong : ChangeSpec := { name := "fundsAny", fn := fun _ => fun
  | [d] => { results := [.lit (.bool false)], args := [d] }
  | _ => none }
def FundsAnyWrongFalsely : Prop := fundsAnyRow.holds Try.pinned (OpenSpec.ofChange fundsAnyWrong)

/-- 'pinakeslaw23.FundsErrors': WHATEVER THE INPUT: true; the input reads as it did. -/
def fundsErrorsSpec : ChangeSpec := { name := "fundsErrors", fn := fun _ => fun
  | [d] => { results := [.lit (.bool true)], args := [d] }
  | _ => none }
def fundsErrorsRow : OpenClaim := { program := "ytmnkgjgaileokaa", sum := "a7d08f6c1e21de6e4b27d51c799926ce63aa15c4f27e1d0e00257cb8827a61cd", func := "pinakes/pinakeslaw23.FundsErrors", spec := "fundsErrors", inPlace := ["internal/abi.NoEscape"], unfollowed := true, recurses := true, apart := false }
def FundsErrorsSaid : Prop := fundsErrorsRow.holds Try.pinned (OpenSpec.ofChange fundsErrorsSpec)

/-- ITS FALSE NEIGHBOUR: 'it returns false'. Refute it at one input. -/
def fundsErrorsWrong : ChangeSpec := { name := "fundsErrors", fn := fun _ => fun
  | [d] => { results := [.lit (.bool false)], args := [d] }
  | _ => none }
def FundsErrorsWrongFalsely : Prop := fundsErrorsRow.holds Try.pinned (OpenSpec.ofChange fundsErrorsWrong)

/-- 'pinakeslaw23.FundsClose': WHATEVER THE INPUT: true; the input reads as it did. -/
def fundsCloseSpec : ChangeSpec := { name := "fundsClose", fn := fun _ => fun
  | [d] => { results := [.lit (.bool true)], args := [d] }
  | _ => none }
def fundsCloseRow : OpenClaim := { program := "ytmnkgjgaileokaa", sum := "a7d08f6c1e21de6e4b27d51c799926ce63aa15c4f27e1d0e00257cb8827a61cd", func := "pinakes/pinakeslaw23.FundsClose", spec := "fundsClose", inPlace := ["internal/abi.NoEscape"], unfollowed := true, recurses := true, apart := false }
def FundsCloseSaid : Prop := fundsCloseRow.holds Try.pinned (OpenSpec.ofChange fundsCloseSpec)

/-- ITS FALSE NEIGHBOUR: 'it returns false'. Refute it at one input. -/
def fundsCloseWrong : ChangeSpec := { name := "fundsClose", fn := fun _ => fun
  | [d] => { results := [.lit (.bool false)], args := [d] }
  | _ => none }
def FundsCloseWrongFalsely : Prop := fundsCloseRow.holds Try.pinned (OpenSpec.ofChange fundsCloseWrong)

/-- 'pinakeslaw23.FundsBack': WHATEVER THE INPUT: true; the input reads as it did. -/
def fundsBackSpec : ChangeSpec := { name := "fundsBack", fn := fun _ => fun
  | [d1, d2, d3] => { results := [.lit (.bool true)], args := [d1, d2, d3] }
  | _ => none }
def fundsBackRow : OpenClaim := { program := "ytmnkgjgaileokaa", sum := "a7d08f6c1e21de6e4b27d51c799926ce63aa15c4f27e1d0e00257cb8827a61cd", func := "pinakes/pinakeslaw23.FundsBack", spec := "fundsBack", inPlace := ["internal/abi.NoEscape"], unfollowed := true, recurses := true, apart := false }
def FundsBackSaid : Prop := fundsBackRow.holds Try.pinned (OpenSpec.ofChange fundsBackSpec)

/-- ITS FALSE NEIGHBOUR: 'it returns false'. Refute it at one input. -/
def fundsBackWrong : ChangeSpec := { name := "fundsBack", fn := fun _ => fun
  | [d1, d2, d3] => { results := [.lit (.bool false)], args := [d1, d2, d3] }
  | _ => none }
def FundsBackWrongFalsely : Prop := fundsBackRow.holds Try.pinned (OpenSpec.ofChange fundsBackWrong)

/-- 'pinakeslaw23.FundsNone': WHATEVER THE INPUT: true; the input reads as it did. -/
def fundsNoneSpec : ChangeSpec := { name := "fundsNone", fn := fun _ => fun
  | [d] => { results := [.lit (.bool true)], args := [d] }
  | _ => none }
def fundsNoneRow : OpenClaim := { program := "ytmnkgjgaileokaa", sum := "a7d08f6c1e21de6e4b27d51c799926ce63aa15c4f27e1d0e00257cb8827a61cd", func := "pinakes/pinakeslaw23.FundsNone", spec := "fundsNone", inPlace := ["internal/abi.NoEscape"], unfollowed := true, recurses := true, apart := false }
def FundsNoneSaid : Prop := fundsNoneRow.holds Try.pinned (OpenSpec.ofChange fundsNoneSpec)

/-- ITS FALSE NEIGHBOUR: 'it returns false'. Refute it at one input. -/
def fundsNoneWrong : ChangeSpec := { name := "fundsNone", fn := fun _ => fun
  | [d] => { results := [.lit (.bool false)], args := [d] }
  | _ => none }
def FundsNoneWrongFalsely : Prop := fundsNoneRow.holds Try.pinned (OpenSpec.ofChange fundsNoneWrong)

/-- 'pinakeslaw23.FundsCodes': WHATEVER THE INPUT: true; the input reads as it did. -/
def fundsCodesSpec : ChangeSpec := { name := "fundsCodes", fn := fun _ => fun
  | [d1, d2, d3] => { results := [.lit (.bool true)], args := [d1, d2, d3] }
  | _ => none }
def fundsCodesRow : OpenClaim := { program := "ytmnkgjgaileokaa", sum := "a7d08f6c1e21de6e4b27d51c799926ce63aa15c4f27e1d0e00257cb8827a61cd", func := "pinakes/pinakeslaw23.FundsCodes", spec := "fundsCodes", inPlace := ["internal/abi.NoEscape"], unfollowed := true, recurses := true, apart := false }
def FundsCodesSaid : Prop := fundsCodesRow.holds Try.pinned (OpenSpec.ofChange fundsCodesSpec)

/-- ITS FALSE NEIGHBOUR: 'it returns false'. Refute it at one input. -/
def fundsCodesWrong : ChangeSpec := { name := "fundsCodes", fn := fun _ => fun
  | [d1, d2, d3] => { results := [.lit (.bool false)], args := [d1, d2, d3] }
  | _ => none }
def FundsCodesWrongFalsely : Prop := fundsCodesRow.holds Try.pinned (OpenSpec.ofChange fundsCodesWrong)

/- THE SECOND FORM. 'bulk': how many values and letters a reading holds, each counted each time it is reached (what is shared counts as often as it is met; a slice's spare places count too). A statement '..UptoSaid' is the law's where the arguments, and the package variables that the reading takes, are together of bulk at most 1048576: NARROWER than '..Said'. Prove '..Said' where nothing that the law and all that it calls make is longer than what came in: it says more and counts as full. Else prove '..UptoSaid'. A law counts once. -/
mutual
def uptoBulk {H : Type} : DataW H → Nat
  | .lit (.string bytes) => bytes.length + 1
  | .lit _ => 1
  | .nil => 1
  | .ptr d => uptoBulk d + 1
  | .slice elems spare => uptoBulkAll elems + uptoBulkAll spare + 1
  | .agg parts => uptoBulkAll parts + 1
  | .iface _ d => uptoBulk d + 1
  | .map entries => uptoBulkEntries entries + 1
  | .held _ => 1
def uptoBulkAll {H : Type} : List (DataW H) → Nat
  | [] => 0
  | d :: r => uptoBulk d + uptoBulkAll r
def uptoBulkEntries {H : Type} : List (Lit × DataW H) → Nat
  | [] => 0
  | x :: r => uptoBulkEntry x + uptoBulkEntries r
def uptoBulkEntry {H : Type} : Lit × DataW H → Nat
  | (.string bytes, d) => bytes.length + uptoBulk d + 1
  | (_, d) => uptoBulk d + 1
 end
def uptoSmall : (H : Type) → List (DataW H) → Bool := fun _ ds => decide (uptoBulkAll ds ≤ 1048576)
def OpenSpec.upto (s : _root_.Go.ChangeSpec) : _root_.Go.OpenSpec := { _root_.Go.OpenSpec.ofChange s with cond := some uptoSmall }

/-- 'pinakeslaw23.FundsAdd', WHERE WHAT IT READS IS OF BULK AT MOST 1048576: true; the input reads as it did. -/
def fundsAddUptoRow : OpenClaim := { program := "ytmnkgjgaileokaa", sum := "a7d08f6c1e21de6e4b27d51c799926ce63aa15c4f27e1d0e00257cb8827a61cd", func := "pinakes/pinakeslaw23.FundsAdd", spec := "fundsAdd", unfollowed := true, recurses := true, apart := false, narrowed := true }
def FundsAddUptoSaid : Prop := fundsAddUptoRow.holds Try.pinned (OpenSpec.upto fundsAddSpec)

/-- 'pinakeslaw23.FundsTotals', WHERE WHAT IT READS IS OF BULK AT MOST 1048576: true; the input reads as it did. -/
def fundsTotalsUptoRow : OpenClaim := { program := "ytmnkgjgaileokaa", sum := "a7d08f6c1e21de6e4b27d51c799926ce63aa15c4f27e1d0e00257cb8827a61cd", func := "pinakes/pinakeslaw23.FundsTotals", spec := "fundsTotals", unfollowed := true, recurses := true, apart := false, narrowed := true }
def FundsTotalsUptoSaid : Prop := fundsTotalsUptoRow.holds Try.pinned (OpenSpec.upto fundsTotalsSpec)

/-- 'pinakeslaw23.FundsLimits', WHERE WHAT IT READS IS OF BULK AT MOST 1048576: true; the input reads as it did. -/
def fundsLimitsUptoRow : OpenClaim := { program := "ytmnkgjgaileokaa", sum := "a7d08f6c1e21de6e4b27d51c799926ce63aa15c4f27e1d0e00257cb8827a61cd", func := "pinakes/pinakeslaw23.FundsLimits", spec := "fundsLimits", unfollowed := true, recurses := true, apart := false, narrowed := true }
def FundsLimitsUptoSaid : Prop := fundsLimitsUptoRow.holds Try.pinned (OpenSpec.upto fundsLimitsSpec)

/-- 'pinakeslaw23.FundsPlay', WHERE WHAT IT READS IS OF BULK AT MOST 1048576: true; the input reads as it did. -/
def fundsPlayUptoRow : OpenClaim := { program := "ytmnkgjgaileokaa", sum := "a7d08f6c1e21de6e4b27d51c799926ce63aa15c4f27e1d0e00257cb8827a61cd", func := "pinakes/pinakeslaw23.FundsPlay", spec := "fundsPlay", inPlace := ["internal/abi.NoEscape"], unfollowed := true, recurses := true, apart := false, narrowed := true }
def FundsPlayUptoSaid : Prop := fundsPlayUptoRow.holds Try.pinned (OpenSpec.upto fundsPlaySpec)

/-- 'pinakeslaw23.FundsAny', WHERE WHAT IT READS IS OF BULK AT MOST 1048576: true; the input reads as it did. -/
def fundsAnyUptoRow : OpenClaim := { program := "ytmnkgjgaileokaa", sum := "a7d08f6c1e21de6e4b27d51c799926ce63aa15c4f27e1d0e00257cb8827a61cd", func := "pinakes/pinakeslaw23.FundsAny", spec := "fundsAny", inPlace := ["internal/abi.NoEscape"], unfollowed := true, recurses := true, apart := false, narrowed := true }
def FundsAnyUptoSaid : Prop := fundsAnyUptoRow.holds Try.pinned (OpenSpec.upto fundsAnySpec)

/-- 'pinakeslaw23.FundsErrors', WHERE WHAT IT READS IS OF BULK AT MOST 1048576: true; the input reads as it did. -/
def fundsErrorsUptoRow : OpenClaim := { program := "ytmnkgjgaileokaa", sum := "a7d08f6c1e21de6e4b27d51c799926ce63aa15c4f27e1d0e00257cb8827a61cd", func := "pinakes/pinakeslaw23.FundsErrors", spec := "fundsErrors", inPlace := ["internal/abi.NoEscape"], unfollowed := true, recurses := true, apart := false, narrowed := true }
def FundsErrorsUptoSaid : Prop := fundsErrorsUptoRow.holds Try.pinned (OpenSpec.upto fundsErrorsSpec)

/-- 'pinakeslaw23.FundsClose', WHERE WHAT IT READS IS OF BULK AT MOST 1048576: true; the input reads as it did. -/
def fundsCloseUptoRow : OpenClaim := { program := "ytmnkgjgaileokaa", sum := "a7d08f6c1e21de6e4b27d51c799926ce63aa15c4f27e1d0e00257cb8827a61cd", func := "pinakes/pinakeslaw23.FundsClose", spec := "fundsClose", inPlace := ["internal/abi.NoEscape"], unfollowed := true, recurses := true, apart := false, narrowed := true }
def FundsCloseUptoSaid : Prop := fundsCloseUptoRow.holds Try.pinned (OpenSpec.upto fundsCloseSpec)

/-- 'pinakeslaw23.FundsBack', WHERE WHAT IT READS IS OF BULK AT MOST 1048576: true; the input reads as it did. -/
def fundsBackUptoRow : OpenClaim := { program := "ytmnkgjgaileokaa", sum := "a7d08f6c1e21de6e4b27d51c799926ce63aa15c4f27e1d0e00257cb8827a61cd", func := "pinakes/pinakeslaw23.FundsBack", spec := "fundsBack", inPlace := ["internal/abi.NoEscape"], unfollowed := true, recurses := true, apart := false, narrowed := true }
def FundsBackUptoSaid : Prop := fundsBackUptoRow.holds Try.pinned (OpenSpec.upto fundsBackSpec)

/-- 'pinakeslaw23.FundsNone', WHERE WHAT IT READS IS OF BULK AT MOST 1048576: true; the input reads as it did. -/
def fundsNoneUptoRow : OpenClaim := { program := "ytmnkgjgaileokaa", sum := "a7d08f6c1e21de6e4b27d51c799926ce63aa15c4f27e1d0e00257cb8827a61cd", func := "pinakes/pinakeslaw23.FundsNone", spec := "fundsNone", inPlace := ["internal/abi.NoEscape"], unfollowed := true, recurses := true, apart := false, narrowed := true }
def FundsNoneUptoSaid : Prop := fundsNoneUptoRow.holds Try.pinned (OpenSpec.upto fundsNoneSpec)

/-- 'pinakeslaw23.FundsCodes', WHERE WHAT IT READS IS OF BULK AT MOST 1048576: true; the input reads as it did. -/
def fundsCodesUptoRow : OpenClaim := { program := "ytmnkgjgaileokaa", sum := "a7d08f6c1e21de6e4b27d51c799926ce63aa15c4f27e1d0e00257cb8827a61cd", func := "pinakes/pinakeslaw23.FundsCodes", spec := "fundsCodes", inPlace := ["internal/abi.NoEscape"], unfollowed := true, recurses := true, apart := false, narrowed := true }
def FundsCodesUptoSaid : Prop := fundsCodesUptoRow.holds Try.pinned (OpenSpec.upto fundsCodesSpec)

end Rows
end Go.Proofs.Ytmnkgjgaileokaa
