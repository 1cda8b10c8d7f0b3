/-
  No cell of these rows narrows 'for every input' (looked for: loops, veiled, ifaces, maps, wideKeys, modest, calm, conditions, laid).
  DERIVED. THE GIVEN ROWS OF THIS SEAT. 9 by the template 'for every input the law returns true; each argument reads behind the call as it read before'; 0 by the template 'total and deterministic' (their statements: YtpcmppamkgkdlaaTotals.lean).
  GIVEN WITH THE SEED: the statements are not yours to turn. If you find one false, say at which input.
  Laid BY PROGRAM, IN A SANDBOX (cutbox-rows.mjs): the forced cells as the released guide's own fill.sh prints them over the translation a99aec375997ffcc… (all of the seat's roots in one cut). By AI agents, Wed Nov 11 2026. No macro, syntax, notation, axiom, sorry.
-/
import Derived.Test.YtpcmppamkgkdlaaChecked
import GoSem.Claim
import GoSem.ClaimJoined
import GoSem.ClaimMapViews
import Derived.JoinedTies
import Derived.KernelRfl
namespace Go.Proofs.Ytpcmppamkgkdlaa
/- THE CELL 'sum', in the pinned program and in every row, IS THE sha256 OF THE DUMP (.gsa) THAT YtpcmppamkgkdlaaProg.lean LOADS. Nothing in Lean hashes anything: it is a label: what it is worth is what the hold of that sum in a sandbox is worth. -/
noncomputable def Try.pinned : Pinned := { name := "ytpcmppamkgkdlaa", sum := "a99aec375997ffcc0f8491afdf4b1c169535c7f502279905c286ec5ac7b5210c", checked := Try.checked }
namespace Rows
def none {H : Type} : Left H := { results := [], args := [] }

/-- 'pinakeslaw17.AssignExact': WHATEVER THE INPUT: true; the input reads as it did. -/
def assignExactSpec : ChangeSpec := { name := "assignExact", fn := fun _ => fun
  | [d] => { results := [.lit (.bool true)], args := [d] }
  | _ => none }
def assignExactRow : OpenClaim := { program := "ytpcmppamkgkdlaa", sum := "a99aec375997ffcc0f8491afdf4b1c169535c7f502279905c286ec5ac7b5210c", func := "pinakes/pinakeslaw17.AssignExact", spec := "assignExact", unfollowed := true, recurses := true, apart := false }
def AssignExactSaid : Prop := assignExactRow.holds Try.pinned (OpenSpec.ofChange assignExactSpec)

/-- ITS FALSE NEIGHBOUR: 'it returns false'. Refute it at one input. -/
def assignExactWrong : ChangeSpec := { name := "assignExact", fn := fun _ => fun
  | [d] => { results := [.lit (.bool false)], args := [d] }
  | _ => none }
def AssignExactWrongFalsely : Prop := assignExactRow.holds Try.pinned (OpenSpec.ofChange assignExactWrong)

/-- 'pinakeslaw17.AssignAny': WHATEVER THE INPUT: true; the input reads as it did. -/
def assignAnySpec : ChangeSpec := { name := "assignAny", fn := fun _ => fun
  | [d1, d2, d3] => { results := [.lit (.bool true)], args := [d1, d2, d3] }
  | _ => none }
def assignAnyRow : OpenClaim := { program := "ytpcmppamkgkdlaa", sum := "a99aec375997ffcc0f8491afdf4b1c169535c7f502279905c286ec5ac7b5210c", func := "pinakes/pinakeslaw17.AssignAny", spec := "assignAny", unfollowed := true, recurses := true, apart := false }
def AssignAnySaid : Prop := assignAnyRow.holds Try.pinned (OpenSpec.ofChange assignAnySpec)

/-- ITS FALSE NEIGHBOUR: 'it returns false'. Refute it at one input. -/
def assignAnyWrong : ChangeSpec := { name := "assignAny", fn := fun _ => fun
  | [d1, d2, d3] => { results := [.lit (.bool false)], args := [d1, d2, d3] }
  | _ => none }
def AssignAnyWrongFalsely : Prop := assignAnyRow.holds Try.pinned (OpenSpec.ofChange assignAnyWrong)

/-- 'pinakeslaw17.AssignCosts': WHATEVER THE INPUT: true; the input reads as it did. -/
def assignCostsSpec : ChangeSpec := { name := "assignCosts", fn := fun _ => fun
  | [d1, d2] => { results := [.lit (.bool true)], args := [d1, d2] }
  | _ => none }
def assignCostsRow : OpenClaim := { program := "ytpcmppamkgkdlaa", sum := "a99aec375997ffcc0f8491afdf4b1c169535c7f502279905c286ec5ac7b5210c", func := "pinakes/pinakeslaw17.AssignCosts", spec := "assignCosts", unfollowed := true, recurses := true, apart := false }
def AssignCostsSaid : Prop := assignCostsRow.holds Try.pinned (OpenSpec.ofChange assignCostsSpec)

/-- ITS FALSE NEIGHBOUR: 'it returns false'. Refute it at one input. -/
def assignCostsWrong : ChangeSpec := { name := "assignCosts", fn := fun _ => fun
  | [d1, d2] => { results := [.lit (.bool false)], args := [d1, d2] }
  | _ => none }
def AssignCostsWrongFalsely : Prop := assignCostsRow.holds Try.pinned (OpenSpec.ofChange assignCostsWrong)

/-- 'pinakeslaw17.AssignServes': WHATEVER THE INPUT: true; the input reads as it did. -/
def assignServesSpec : ChangeSpec := { name := "assignServes", fn := fun _ => fun
  | [d] => { results := [.lit (.bool true)], args := [d] }
  | _ => none }
def assignServesRow : OpenClaim := { program := "ytpcmppamkgkdlaa", sum := "a99aec375997ffcc0f8491afdf4b1c169535c7f502279905c286ec5ac7b5210c", func := "pinakes/pinakeslaw17.AssignServes", spec := "assignServes", unfollowed := true, recurses := true, apart := false }
def AssignServesSaid : Prop := assignServesRow.holds Try.pinned (OpenSpec.ofChange assignServesSpec)

/-- ITS FALSE NEIGHBOUR: 'it returns false'. Refute it at one input. -/
def assignServesWrong : ChangeSpec := { name := "assignServes", fn := fun _ => fun
  | [d] => { results := [.lit (.bool false)], args := [d] }
  | _ => none }
def AssignServesWrongFalsely : Prop := assignServesRow.holds Try.pinned (OpenSpec.ofChange assignServesWrong)

/-- 'pinakeslaw17.AssignCheap': WHATEVER THE INPUT: true; the input reads as it did. -/
def assignCheapSpec : ChangeSpec := { name := "assignCheap", fn := fun _ => fun
  | [d] => { results := [.lit (.bool true)], args := [d] }
  | _ => none }
def assignCheapRow : OpenClaim := { program := "ytpcmppamkgkdlaa", sum := "a99aec375997ffcc0f8491afdf4b1c169535c7f502279905c286ec5ac7b5210c", func := "pinakes/pinakeslaw17.AssignCheap", spec := "assignCheap", unfollowed := true, recurses := true, apart := false }
def AssignCheapSaid : Prop := assignCheapRow.holds Try.pinned (OpenSpec.ofChange assignCheapSpec)

/-- ITS FALSE NEIGHBOUR: 'it returns false'. Refute it at one input. -/
def assignCheapWrong : ChangeSpec := { name := "assignCheap", fn := fun _ => fun
  | [d] => { results := [.lit (.bool false)], args := [d] }
  | _ => none }
def AssignCheapWrongFalsely : Prop := assignCheapRow.holds Try.pinned (OpenSpec.ofChange assignCheapWrong)

/-- 'pinakeslaw17.AssignGrows': WHATEVER THE INPUT: true; the input reads as it did. -/
def assignGrowsSpec : ChangeSpec := { name := "assignGrows", fn := fun _ => fun
  | [d1, d2, d3] => { results := [.lit (.bool true)], args := [d1, d2, d3] }
  | _ => none }
def assignGrowsRow : OpenClaim := { program := "ytpcmppamkgkdlaa", sum := "a99aec375997ffcc0f8491afdf4b1c169535c7f502279905c286ec5ac7b5210c", func := "pinakes/pinakeslaw17.AssignGrows", spec := "assignGrows", unfollowed := true, recurses := true, apart := false }
def AssignGrowsSaid : Prop := assignGrowsRow.holds Try.pinned (OpenSpec.ofChange assignGrowsSpec)

/-- ITS FALSE NEIGHBOUR: 'it returns false'. Refute it at one input. -/
def assignGrowsWrong : ChangeSpec := { name := "assignGrows", fn := fun _ => fun
  | [d1, d2, d3] => { results := [.lit (.bool false)], args := [d1, d2, d3] }
  | _ => none }
def AssignGrowsWrongFalsely : Prop := assignGrowsRow.holds Try.pinned (OpenSpec.ofChange assignGrowsWrong)

/-- 'pinakeslaw17.AssignApart': WHATEVER THE INPUT: true; the input reads as it did. -/
def assignApartSpec : ChangeSpec := { name := "assignApart", fn := fun _ => fun
  | [d] => { results := [.lit (.bool true)], args := [d] }
  | _ => none }
def assignApartRow : OpenClaim := { program := "ytpcmppamkgkdlaa", sum := "a99aec375997ffcc0f8491afdf4b1c169535c7f502279905c286ec5ac7b5210c", func := "pinakes/pinakeslaw17.AssignApart", spec := "assignApart", unfollowed := true, recurses := true, apart := false }
def AssignApartSaid : Prop := assignApartRow.holds Try.pinned (OpenSpec.ofChange assignApartSpec)

/-- ITS FALSE NEIGHBOUR: 'it returns false'. Refute it at one input. -/
def assignApartWrong : ChangeSpec := { name := "assignApart", fn := fun _ => fun
  | [d] => { results := [.lit (.bool false)], args := [d] }
  | _ => none }
def AssignApartWrongFalsely : Prop := assignApartRow.holds Try.pinned (OpenSpec.ofChange assignApartWrong)

/-- 'pinakeslaw17.AssignOrder': WHATEVER THE INPUT: true; the input reads as it did. -/
def assignOrderSpec : ChangeSpec := { name := "assignOrder", fn := fun _ => fun
  | [d1, d2] => { results := [.lit (.bool true)], args := [d1, d2] }
  | _ => none }
def assignOrderRow : OpenClaim := { program := "ytpcmppamkgkdlaa", sum := "a99aec375997ffcc0f8491afdf4b1c169535c7f502279905c286ec5ac7b5210c", func := "pinakes/pinakeslaw17.AssignOrder", spec := "assignOrder", unfollowed := true, recurses := true, apart := false }
def AssignOrderSaid : Prop := assignOrderRow.holds Try.pinned (OpenSpec.ofChange assignOrderSpec)

/-- ITS FALSE NEIGHBOUR: 'it returns false'. Refute it at one input. -/
def assignOrderWrong : ChangeSpec := { name := "assignOrder", fn := fun _ => fun
  | [d1, d2] => { results := [.lit (.bool false)], args := [d1, d2] }
  | _ => none }
def AssignOrderWrongFalsely : Prop := assignOrderRow.holds Try.pinned (OpenSpec.ofChange assignOrderWrong)

/-- 'pinakeslaw17.AssignMany': WHATEVER THE INPUT: true; the input reads as it did. -/
def assignManySpec : ChangeSpec := { name := "assignMany", fn := fun _ => fun
  | [d1, d2] => { results := [.lit (.bool true)], args := [d1, d2] }
  | _ => none }
def assignManyRow : OpenClaim := { program := "ytpcmppamkgkdlaa", sum := "a99aec375997ffcc0f8491afdf4b1c169535c7f502279905c286ec5ac7b5210c", func := "pinakes/pinakeslaw17.AssignMany", spec := "assignMany", unfollowed := true, recurses := true, apart := false }
def AssignManySaid : Prop := assignManyRow.holds Try.pinned (OpenSpec.ofChange assignManySpec)

/-- ITS FALSE NEIGHBOUR: 'it returns false'. Refute it at one input. -/
def assignManyWrong : ChangeSpec := { name := "assignMany", fn := fun _ => fun
  | [d1, d2] => { results := [.lit (.bool false)], args := [d1, d2] }
  | _ => none }
def AssignManyWrongFalsely : Prop := assignManyRow.holds Try.pinned (OpenSpec.ofChange assignManyWrong)

/- THE SECOND FORM. 'bulk': how many values and letters a reading holds, each counted each time it is reached (what is shared counts as often as it is met; a slice's spare places count too). A statement '..UptoSaid' is the law's where the arguments, and the package variables that the reading takes, are together of bulk at most 1048576: NARROWER than '..Said'. Prove '..Said' where nothing that the law and all that it calls make is longer than what came in: it says more and counts as full. Else prove '..UptoSaid'. A law counts once. -/
mutual
def uptoBulk {H : Type} : DataW H → Nat
  | .lit (.string bytes) => bytes.length + 1
  | .lit _ => 1
  | .nil => 1
  | .ptr d => uptoBulk d + 1
  | .slice elems spare => uptoBulkAll elems + uptoBulkAll spare + 1
  | .agg parts => uptoBulkAll parts + 1
  | .iface _ d => uptoBulk d + 1
  | .map entries => uptoBulkEntries entries + 1
  | .held _ => 1
def uptoBulkAll {H : Type} : List (DataW H) → Nat
  | [] => 0
  | d :: r => uptoBulk d + uptoBulkAll r
def uptoBulkEntries {H : Type} : List (Lit × DataW H) → Nat
  | [] => 0
  | x :: r => uptoBulkEntry x + uptoBulkEntries r
def uptoBulkEntry {H : Type} : Lit × DataW H → Nat
  | (.string bytes, d) => bytes.length + uptoBulk d + 1
  | (_, d) => uptoBulk d + 1
 end
def uptoSmall : (H : Type) → List (DataW H) → Bool := fun _ ds => decide (uptoBulkAll ds ≤ 1048576)
def OpenSpec.upto (s : _root_.Go.ChangeSpec) : _root_.Go.OpenSpec := { _root_.Go.OpenSpec.ofChange s with cond := some uptoSmall }

/-- 'pinakeslaw17.AssignExact', WHERE WHAT IT READS IS OF BULK AT MOST 1048576: true; the input reads as it did. -/
def assignExactUptoRow : OpenClaim := { program := "ytpcmppamkgkdlaa", sum := "a99aec375997ffcc0f8491afdf4b1c169535c7f502279905c286ec5ac7b5210c", func := "pinakes/pinakeslaw17.AssignExact", spec := "assignExact", unfollowed := true, recurses := true, apart := false, narrowed := true }
def AssignExactUptoSaid : Prop := assignExactUptoRow.holds Try.pinned (OpenSpec.upto assignExactSpec)

/-- 'pinakeslaw17.AssignAny', WHERE WHAT IT READS IS OF BULK AT MOST 1048576: true; the input reads as it did. -/
def assignAnyUptoRow : OpenClaim := { program := "ytpcmppamkgkdlaa", sum := "a99aec375997ffcc0f8491afdf4b1c169535c7f502279905c286ec5ac7b5210c", func := "pinakes/pinakeslaw17.AssignAny", spec := "assignAny", unfollowed := true, recurses := true, apart := false, narrowed := true }
def AssignAnyUptoSaid : Prop := assignAnyUptoRow.holds Try.pinned (OpenSpec.upto assignAnySpec)

/-- 'pinakeslaw17.AssignCosts', WHERE WHAT IT READS IS OF BULK AT MOST 1048576: true; the input reads as it did. -/
def assignCostsUptoRow : OpenClaim := { program := "ytpcmppamkgkdlaa", sum := "a99aec375997ffcc0f8491afdf4b1c169535c7f502279905c286ec5ac7b5210c", func := "pinakes/pinakeslaw17.AssignCosts", spec := "assignCosts", unfollowed := true, recurses := true, apart := false, narrowed := true }
def AssignCostsUptoSaid : Prop := assignCostsUptoRow.holds Try.pinned (OpenSpec.upto assignCostsSpec)

/-- 'pinakeslaw17.AssignServes', WHERE WHAT IT READS IS OF BULK AT MOST 1048576: true; the input reads as it did. -/
def assignServesUptoRow : OpenClaim := { program := "ytpcmppamkgkdlaa", sum := "a99aec375997ffcc0f8491afdf4b1c169535c7f502279905c286ec5ac7b5210c", func := "pinakes/pinakeslaw17.AssignServes", spec := "assignServes", unfollowed := true, recurses := true, apart := false, narrowed := true }
def AssignServesUptoSaid : Prop := assignServesUptoRow.holds Try.pinned (OpenSpec.upto assignServesSpec)

/-- 'pinakeslaw17.AssignCheap', WHERE WHAT IT READS IS OF BULK AT MOST 1048576: true; the input reads as it did. -/
def assignCheapUptoRow : OpenClaim := { program := "ytpcmppamkgkdlaa", sum := "a99aec375997ffcc0f8491afdf4b1c169535c7f502279905c286ec5ac7b5210c", func := "pinakes/pinakeslaw17.AssignCheap", spec := "assignCheap", unfollowed := true, recurses := true, apart := false, narrowed := true }
def AssignCheapUptoSaid : Prop := assignCheapUptoRow.holds Try.pinned (OpenSpec.upto assignCheapSpec)

/-- 'pinakeslaw17.AssignGrows', WHERE WHAT IT READS IS OF BULK AT MOST 1048576: true; the input reads as it did. -/
def assignGrowsUptoRow : OpenClaim := { program := "ytpcmppamkgkdlaa", sum := "a99aec375997ffcc0f8491afdf4b1c169535c7f502279905c286ec5ac7b5210c", func := "pinakes/pinakeslaw17.AssignGrows", spec := "assignGrows", unfollowed := true, recurses := true, apart := false, narrowed := true }
def AssignGrowsUptoSaid : Prop := assignGrowsUptoRow.holds Try.pinned (OpenSpec.upto assignGrowsSpec)

/-- 'pinakeslaw17.AssignApart', WHERE WHAT IT READS IS OF BULK AT MOST 1048576: true; the input reads as it did. -/
def assignApartUptoRow : OpenClaim := { program := "ytpcmppamkgkdlaa", sum := "a99aec375997ffcc0f8491afdf4b1c169535c7f502279905c286ec5ac7b5210c", func := "pinakes/pinakeslaw17.AssignApart", spec := "assignApart", unfollowed := true, recurses := true, apart := false, narrowed := true }
def AssignApartUptoSaid : Prop := assignApartUptoRow.holds Try.pinned (OpenSpec.upto assignApartSpec)

/-- 'pinakeslaw17.AssignOrder', WHERE WHAT IT READS IS OF BULK AT MOST 1048576: true; the input reads as it did. -/
def assignOrderUptoRow : OpenClaim := { program := "ytpcmppamkgkdlaa", sum := "a99aec375997ffcc0f8491afdf4b1c169535c7f502279905c286ec5ac7b5210c", func := "pinakes/pinakeslaw17.AssignOrder", spec := "assignOrder", unfollowed := true, recurses := true, apart := false, narrowed := true }
def AssignOrderUptoSaid : Prop := assignOrderUptoRow.holds Try.pinned (OpenSpec.upto assignOrderSpec)

/-- 'pinakeslaw17.AssignMany', WHERE WHAT IT READS IS OF BULK AT MOST 1048576: true; the input reads as it did. -/
def assignManyUptoRow : OpenClaim := { program := "ytpcmppamkgkdlaa", sum := "a99aec375997ffcc0f8491afdf4b1c169535c7f502279905c286ec5ac7b5210c", func := "pinakes/pinakeslaw17.AssignMany", spec := "assignMany", unfollowed := true, recurses := true, apart := false, narrowed := true }
def AssignManyUptoSaid : Prop := assignManyUptoRow.holds Try.pinned (OpenSpec.upto assignManySpec)

end Rows
end Go.Proofs.Ytpcmppamkgkdlaa
