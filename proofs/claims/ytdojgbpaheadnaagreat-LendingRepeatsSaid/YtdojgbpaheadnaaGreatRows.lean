/-
  No cell of these rows narrows 'for every input' (looked for: loops, veiled, ifaces, maps, wideKeys, modest, calm, conditions, laid).
  DERIVED. THE GIVEN ROWS OF THIS SEAT. 6 by the template 'for every input the law returns true; each argument reads behind the call as it read before'; 0 by the template 'total and deterministic' (their statements: YtdojgbpaheadnaaGreatTotals.lean).
  GIVEN WITH THE SEED: the statements are not yours to turn. If you find one false, say at which input.
  Laid BY PROGRAM, IN A SANDBOX (cutbox-rows.mjs): the forced cells as the released guide's own fill.sh prints them over the translation c0f2ce8eeab248a7… (all of the seat's roots in one cut). By AI agents, Wed Nov 11 2026. No macro, syntax, notation, axiom, sorry.
-/
import Derived.Test.YtdojgbpaheadnaaGreatChecked
import GoSem.Claim
import GoSem.ClaimJoined
import GoSem.ClaimMapViews
import Derived.JoinedTies
import Derived.KernelRfl
namespace Go.Proofs.YtdojgbpaheadnaaGreat
/- THE CELL 'sum', in the pinned program and in every row, IS THE sha256 OF THE DUMP (.gsa) THAT YtdojgbpaheadnaaGreatProg.lean LOADS. Nothing in Lean hashes anything: it is a label: what it is worth is what the hold of that sum in a sandbox is worth. -/
noncomputable def Tryz.pinned : Pinned := { name := "ytdojgbpaheadnaagreat", sum := "c0f2ce8eeab248a7876f8839247d054ea9954fb6bba314d5249960f471be93da", checked := Tryz.checked }
namespace Rows
def none {H : Type} : Left H := { results := [], args := [] }

/-- 'pinakeslaw21.LendingBroker': WHATEVER THE INPUT: true; the input reads as it did. -/
def lendingBrokerSpec : ChangeSpec := { name := "lendingBroker", fn := fun _ => fun
  | [d1, d2] => { results := [.lit (.bool true)], args := [d1, d2] }
  | _ => none }
def lendingBrokerRow : OpenClaim := { program := "ytdojgbpaheadnaagreat", sum := "c0f2ce8eeab248a7876f8839247d054ea9954fb6bba314d5249960f471be93da", func := "pinakes/pinakeslaw21.LendingBroker", spec := "lendingBroker", inPlace := ["internal/abi.NoEscape", "slices.overlaps[int]"], unfollowed := true, recurses := true, plainKeys := false, apart := false }
def LendingBrokerSaid : Prop := lendingBrokerRow.holds Tryz.pinned (OpenSpec.ofChange lendingBrokerSpec)

/-- ITS FALSE NEIGHBOUR: 'it returns false'. Refute it at one input. -/
def lendingBrokerWrong : ChangeSpec := { name := "lendingBroker", fn := fun _ => fun
  | [d1, d2] => { results := [.lit (.bool false)], args := [d1, d2] }
  | _ => none }
def LendingBrokerWrongFalsely : Prop := lendingBrokerRow.holds Tryz.pinned (OpenSpec.ofChange lendingBrokerWrong)

/-- 'pinakeslaw21.LendingNil': WHATEVER THE INPUT: true; the input reads as it did. -/
def lendingNilSpec : ChangeSpec := { name := "lendingNil", fn := fun _ => fun
  | [d1, d2] => { results := [.lit (.bool true)], args := [d1, d2] }
  | _ => none }
def lendingNilRow : OpenClaim := { program := "ytdojgbpaheadnaagreat", sum := "c0f2ce8eeab248a7876f8839247d054ea9954fb6bba314d5249960f471be93da", func := "pinakes/pinakeslaw21.LendingNil", spec := "lendingNil", inPlace := ["internal/abi.NoEscape", "slices.overlaps[int]"], unfollowed := true, recurses := true, plainKeys := false, apart := false }
def LendingNilSaid : Prop := lendingNilRow.holds Tryz.pinned (OpenSpec.ofChange lendingNilSpec)

/-- ITS FALSE NEIGHBOUR: 'it returns false'. Refute it at one input. -/
def lendingNilWrong : ChangeSpec := { name := "lendingNil", fn := fun _ => fun
  | [d1, d2] => { results := [.lit (.bool false)], args := [d1, d2] }
  | _ => none }
def LendingNilWrongFalsely : Prop := lendingNilRow.holds Tryz.pinned (OpenSpec.ofChange lendingNilWrong)

/-- 'pinakeslaw21.LendingEnds': WHATEVER THE INPUT: true; the input reads as it did. -/
def lendingEndsSpec : ChangeSpec := { name := "lendingEnds", fn := fun _ => fun
  | [d] => { results := [.lit (.bool true)], args := [d] }
  | _ => none }
def lendingEndsRow : OpenClaim := { program := "ytdojgbpaheadnaagreat", sum := "c0f2ce8eeab248a7876f8839247d054ea9954fb6bba314d5249960f471be93da", func := "pinakes/pinakeslaw21.LendingEnds", spec := "lendingEnds", inPlace := ["internal/abi.NoEscape", "slices.overlaps[int]"], unfollowed := true, recurses := true, plainKeys := false, apart := false }
def LendingEndsSaid : Prop := lendingEndsRow.holds Tryz.pinned (OpenSpec.ofChange lendingEndsSpec)

/-- ITS FALSE NEIGHBOUR: 'it returns false'. Refute it at one input. -/
def lendingEndsWrong : ChangeSpec := { name := "lendingEnds", fn := fun _ => fun
  | [d] => { results := [.lit (.bool false)], args := [d] }
  | _ => none }
def LendingEndsWrongFalsely : Prop := lendingEndsRow.holds Tryz.pinned (OpenSpec.ofChange lendingEndsWrong)

/-- 'pinakeslaw21.LendingPlaces': WHATEVER THE INPUT: true; the input reads as it did. -/
def lendingPlacesSpec : ChangeSpec := { name := "lendingPlaces", fn := fun _ => fun
  | [d] => { results := [.lit (.bool true)], args := [d] }
  | _ => none }
def lendingPlacesRow : OpenClaim := { program := "ytdojgbpaheadnaagreat", sum := "c0f2ce8eeab248a7876f8839247d054ea9954fb6bba314d5249960f471be93da", func := "pinakes/pinakeslaw21.LendingPlaces", spec := "lendingPlaces", inPlace := ["internal/abi.NoEscape", "slices.overlaps[int]"], unfollowed := true, recurses := true, plainKeys := false, apart := false }
def LendingPlacesSaid : Prop := lendingPlacesRow.holds Tryz.pinned (OpenSpec.ofChange lendingPlacesSpec)

/-- ITS FALSE NEIGHBOUR: 'it returns false'. Refute it at one input. -/
def lendingPlacesWrong : ChangeSpec := { name := "lendingPlaces", fn := fun _ => fun
  | [d] => { results := [.lit (.bool false)], args := [d] }
  | _ => none }
def LendingPlacesWrongFalsely : Prop := lendingPlacesRow.holds Tryz.pinned (OpenSpec.ofChange lendingPlacesWrong)

/-- 'pinakeslaw21.LendingRepeats': WHATEVER THE INPUT: true; the input reads as it did. -/
def lendingRepeatsSpec : ChangeSpec := { name := "lendingRepeats", fn := fun _ => fun
  | [d] => { results := [.lit (.bool true)], args := [d] }
  | _ => none }
def lendingRepeatsRow : OpenClaim := { program := "ytdojgbpaheadnaagreat", sum := "c0f2ce8eeab248a7876f8839247d054ea9954fb6bba314d5249960f471be93da", func := "pinakes/pinakeslaw21.LendingRepeats", spec := "lendingRepeats", inPlace := ["internal/abi.NoEscape", "slices.overlaps[int]"], unfollowed := true, recurses := true, plainKeys := false, apart := false }
def LendingRepeatsSaid : Prop := lendingRepeatsRow.holds Tryz.pinned (OpenSpec.ofChange lendingRepeatsSpec)

/-- ITS FALSE NEIGHBOUR: 'it returns false'. Refute it at one input. -/
def lendingRepeatsWrong : ChangeSpec := { name := "lendingRepeats", fn := fun _ => fun
  | [d] => { results := [.lit (.bool false)], args := [d] }
  | _ => none }
def LendingRepeatsWrongFalsely : Prop := lendingRepeatsRow.holds Tryz.pinned (OpenSpec.ofChange lendingRepeatsWrong)

/-- 'pinakeslaw21.LendingFinds': WHATEVER THE INPUT: true; the input reads as it did. -/
def lendingFindsSpec : ChangeSpec := { name := "lendingFinds", fn := fun _ => fun
  | [d1, d2, d3] => { results := [.lit (.bool true)], args := [d1, d2, d3] }
  | _ => none }
def lendingFindsRow : OpenClaim := { program := "ytdojgbpaheadnaagreat", sum := "c0f2ce8eeab248a7876f8839247d054ea9954fb6bba314d5249960f471be93da", func := "pinakes/pinakeslaw21.LendingFinds", spec := "lendingFinds", inPlace := ["internal/abi.NoEscape", "slices.overlaps[int]"], unfollowed := true, recurses := true, plainKeys := false, apart := false }
def LendingFindsSaid : Prop := lendingFindsRow.holds Tryz.pinned (OpenSpec.ofChange lendingFindsSpec)

/-- ITS FALSE NEIGHBOUR: 'it returns false'. Refute it at one input. -/
def lendingFindsWrong : ChangeSpec := { name := "lendingFinds", fn := fun _ => fun
  | [d1, d2, d3] => { results := [.lit (.bool false)], args := [d1, d2, d3] }
  | _ => none }
def LendingFindsWrongFalsely : Prop := lendingFindsRow.holds Tryz.pinned (OpenSpec.ofChange lendingFindsWrong)

/- THE SECOND FORM. 'bulk': how many values and letters a reading holds, each counted each time it is reached (what is shared counts as often as it is met; a slice's spare places count too). A statement '..UptoSaid' is the law's where the arguments, and the package variables that the reading takes, are together of bulk at most 1048576: NARROWER than '..Said'. Prove '..Said' where nothing that the law and all that it calls make is longer than what came in: it says more and counts as full. Else prove '..UptoSaid'. A law counts once. -/
mutual
def uptoBulk {H : Type} : DataW H → Nat
  | .lit (.string bytes) => bytes.length + 1
  | .lit _ => 1
  | .nil => 1
  | .ptr d => uptoBulk d + 1
  | .slice elems spare => uptoBulkAll elems + uptoBulkAll spare + 1
  | .agg parts => uptoBulkAll parts + 1
  | .iface _ d => uptoBulk d + 1
  | .map entries => uptoBulkEntries entries + 1
  | .held _ => 1
def uptoBulkAll {H : Type} : List (DataW H) → Nat
  | [] => 0
  | d :: r => uptoBulk d + uptoBulkAll r
def uptoBulkEntries {H : Type} : List (Lit × DataW H) → Nat
  | [] => 0
  | x :: r => uptoBulkEntry x + uptoBulkEntries r
def uptoBulkEntry {H : Type} : Lit × DataW H → Nat
  | (.string bytes, d) => bytes.length + uptoBulk d + 1
  | (_, d) => uptoBulk d + 1
 end
def uptoSmall : (H : Type) → List (DataW H) → Bool := fun _ ds => decide (uptoBulkAll ds ≤ 1048576)
def OpenSpec.upto (s : _root_.Go.ChangeSpec) : _root_.Go.OpenSpec := { _root_.Go.OpenSpec.ofChange s with cond := some uptoSmall }

/-- 'pinakeslaw21.LendingBroker', WHERE WHAT IT READS IS OF BULK AT MOST 1048576: true; the input reads as it did. -/
def lendingBrokerUptoRow : OpenClaim := { program := "ytdojgbpaheadnaagreat", sum := "c0f2ce8eeab248a7876f8839247d054ea9954fb6bba314d5249960f471be93da", func := "pinakes/pinakeslaw21.LendingBroker", spec := "lendingBroker", inPlace := ["internal/abi.NoEscape", "slices.overlaps[int]"], unfollowed := true, recurses := true, plainKeys := false, apart := false, narrowed := true }
def LendingBrokerUptoSaid : Prop := lendingBrokerUptoRow.holds Tryz.pinned (OpenSpec.upto lendingBrokerSpec)

/-- 'pinakeslaw21.LendingNil', WHERE WHAT IT READS IS OF BULK AT MOST 1048576: true; the input reads as it did. -/
def lendingNilUptoRow : OpenClaim := { program := "ytdojgbpaheadnaagreat", sum := "c0f2ce8eeab248a7876f8839247d054ea9954fb6bba314d5249960f471be93da", func := "pinakes/pinakeslaw21.LendingNil", spec := "lendingNil", inPlace := ["internal/abi.NoEscape", "slices.overlaps[int]"], unfollowed := true, recurses := true, plainKeys := false, apart := false, narrowed := true }
def LendingNilUptoSaid : Prop := lendingNilUptoRow.holds Tryz.pinned (OpenSpec.upto lendingNilSpec)

/-- 'pinakeslaw21.LendingEnds', WHERE WHAT IT READS IS OF BULK AT MOST 1048576: true; the input reads as it did. -/
def lendingEndsUptoRow : OpenClaim := { program := "ytdojgbpaheadnaagreat", sum := "c0f2ce8eeab248a7876f8839247d054ea9954fb6bba314d5249960f471be93da", func := "pinakes/pinakeslaw21.LendingEnds", spec := "lendingEnds", inPlace := ["internal/abi.NoEscape", "slices.overlaps[int]"], unfollowed := true, recurses := true, plainKeys := false, apart := false, narrowed := true }
def LendingEndsUptoSaid : Prop := lendingEndsUptoRow.holds Tryz.pinned (OpenSpec.upto lendingEndsSpec)

/-- 'pinakeslaw21.LendingPlaces', WHERE WHAT IT READS IS OF BULK AT MOST 1048576: true; the input reads as it did. -/
def lendingPlacesUptoRow : OpenClaim := { program := "ytdojgbpaheadnaagreat", sum := "c0f2ce8eeab248a7876f8839247d054ea9954fb6bba314d5249960f471be93da", func := "pinakes/pinakeslaw21.LendingPlaces", spec := "lendingPlaces", inPlace := ["internal/abi.NoEscape", "slices.overlaps[int]"], unfollowed := true, recurses := true, plainKeys := false, apart := false, narrowed := true }
def LendingPlacesUptoSaid : Prop := lendingPlacesUptoRow.holds Tryz.pinned (OpenSpec.upto lendingPlacesSpec)

/-- 'pinakeslaw21.LendingRepeats', WHERE WHAT IT READS IS OF BULK AT MOST 1048576: true; the input reads as it did. -/
def lendingRepeatsUptoRow : OpenClaim := { program := "ytdojgbpaheadnaagreat", sum := "c0f2ce8eeab248a7876f8839247d054ea9954fb6bba314d5249960f471be93da", func := "pinakes/pinakeslaw21.LendingRepeats", spec := "lendingRepeats", inPlace := ["internal/abi.NoEscape", "slices.overlaps[int]"], unfollowed := true, recurses := true, plainKeys := false, apart := false, narrowed := true }
def LendingRepeatsUptoSaid : Prop := lendingRepeatsUptoRow.holds Tryz.pinned (OpenSpec.upto lendingRepeatsSpec)

/-- 'pinakeslaw21.LendingFinds', WHERE WHAT IT READS IS OF BULK AT MOST 1048576: true; the input reads as it did. -/
def lendingFindsUptoRow : OpenClaim := { program := "ytdojgbpaheadnaagreat", sum := "c0f2ce8eeab248a7876f8839247d054ea9954fb6bba314d5249960f471be93da", func := "pinakes/pinakeslaw21.LendingFinds", spec := "lendingFinds", inPlace := ["internal/abi.NoEscape", "slices.overlaps[int]"], unfollowed := true, recurses := true, plainKeys := false, apart := false, narrowed := true }
def LendingFindsUptoSaid : Prop := lendingFindsUptoRow.holds Tryz.pinned (OpenSpec.upto lendingFindsSpec)

end Rows
end Go.Proofs.YtdojgbpaheadnaaGreat
