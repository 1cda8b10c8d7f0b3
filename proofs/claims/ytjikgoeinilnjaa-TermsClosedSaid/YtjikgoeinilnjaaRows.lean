/-
  No cell of these rows narrows 'for every input' (looked for: loops, veiled, ifaces, maps, wideKeys, modest, calm, conditions, laid).
  DERIVED. THE GIVEN ROWS OF THIS SEAT. 8 by the template 'for every input the law returns true; each argument reads behind the call as it read before'; 0 by the template 'total and deterministic' (their statements: YtjikgoeinilnjaaTotals.lean).
  GIVEN WITH THE SEED: the statements are not yours to turn. If you find one false, say at which input.
  Laid BY PROGRAM, IN A SANDBOX (cutbox-rows.mjs): the forced cells as the released guide's own fill.sh prints them over the translation 4749aafeb34e39c4… (all of the seat's roots in one cut). By AI agents, Wed Nov 11 2026. No macro, syntax, notation, axiom, sorry.
-/
import Derived.Test.YtjikgoeinilnjaaChecked
import GoSem.Claim
import GoSem.ClaimJoined
import GoSem.ClaimMapViews
import Derived.JoinedTies
import Derived.KernelRfl
namespace Go.Proofs.Ytjikgoeinilnjaa
/- THE CELL 'sum', in the pinned program and in every row, IS THE sha256 OF THE DUMP (.gsa) THAT YtjikgoeinilnjaaProg.lean LOADS. Nothing in Lean hashes anything: it is a label: what it is worth is what the hold of that sum in a sandbox is worth. -/
noncomputable def Try.pinned : Pinned := { name := "ytjikgoeinilnjaa", sum := "4749aafeb34e39c4df19dae2a57ab0e41bc9050aade86c9933bbafc783af2e9b", checked := Try.checked }
namespace Rows
def none {H : Type} : Left H := { results := [], args := [] }

/-- 'pinakeslaw15.TermsFind': WHATEVER THE INPUT: true; the input reads as it did. -/
def termsFindSpec : ChangeSpec := { name := "termsFind", fn := fun _ => fun
  | [d1, d2, d3] => { results := [.lit (.bool true)], args := [d1, d2, d3] }
  | _ => none }
def termsFindRow : OpenClaim := { program := "ytjikgoeinilnjaa", sum := "4749aafeb34e39c4df19dae2a57ab0e41bc9050aade86c9933bbafc783af2e9b", func := "pinakes/pinakeslaw15.TermsFind", spec := "termsFind", recurses := true, apart := false }
def TermsFindSaid : Prop := termsFindRow.holds Try.pinned (OpenSpec.ofChange termsFindSpec)

/-- ITS FALSE NEIGHBOUR: 'it returns false'. Refute it at one input. -/
def termsFindWrong : ChangeSpec := { name := "termsFind", fn := fun _ => fun
  | [d1, d2, d3] => { results := [.lit (.bool false)], args := [d1, d2, d3] }
  | _ => none }
def TermsFindWrongFalsely : Prop := termsFindRow.holds Try.pinned (OpenSpec.ofChange termsFindWrong)

/-- 'pinakeslaw15.TermsBest': WHATEVER THE INPUT: true; the input reads as it did. -/
def termsBestSpec : ChangeSpec := { name := "termsBest", fn := fun _ => fun
  | [d1, d2] => { results := [.lit (.bool true)], args := [d1, d2] }
  | _ => none }
def termsBestRow : OpenClaim := { program := "ytjikgoeinilnjaa", sum := "4749aafeb34e39c4df19dae2a57ab0e41bc9050aade86c9933bbafc783af2e9b", func := "pinakes/pinakeslaw15.TermsBest", spec := "termsBest", recurses := true, apart := false }
def TermsBestSaid : Prop := termsBestRow.holds Try.pinned (OpenSpec.ofChange termsBestSpec)

/-- ITS FALSE NEIGHBOUR: 'it returns false'. Refute it at one input. -/
def termsBestWrong : ChangeSpec := { name := "termsBest", fn := fun _ => fun
  | [d1, d2] => { results := [.lit (.bool false)], args := [d1, d2] }
  | _ => none }
def TermsBestWrongFalsely : Prop := termsBestRow.holds Try.pinned (OpenSpec.ofChange termsBestWrong)

/-- 'pinakeslaw15.TermsAppend': WHATEVER THE INPUT: true; the input reads as it did. -/
def termsAppendSpec : ChangeSpec := { name := "termsAppend", fn := fun _ => fun
  | [d1, d2, d3] => { results := [.lit (.bool true)], args := [d1, d2, d3] }
  | _ => none }
def termsAppendRow : OpenClaim := { program := "ytjikgoeinilnjaa", sum := "4749aafeb34e39c4df19dae2a57ab0e41bc9050aade86c9933bbafc783af2e9b", func := "pinakes/pinakeslaw15.TermsAppend", spec := "termsAppend", recurses := true, apart := false }
def TermsAppendSaid : Prop := termsAppendRow.holds Try.pinned (OpenSpec.ofChange termsAppendSpec)

/-- ITS FALSE NEIGHBOUR: 'it returns false'. Refute it at one input. -/
def termsAppendWrong : ChangeSpec := { name := "termsAppend", fn := fun _ => fun
  | [d1, d2, d3] => { results := [.lit (.bool false)], args := [d1, d2, d3] }
  | _ => none }
def TermsAppendWrongFalsely : Prop := termsAppendRow.holds Try.pinned (OpenSpec.ofChange termsAppendWrong)

/-- 'pinakeslaw15.TermsDue': WHATEVER THE INPUT: true; the input reads as it did. -/
def termsDueSpec : ChangeSpec := { name := "termsDue", fn := fun _ => fun
  | [d1, d2, d3] => { results := [.lit (.bool true)], args := [d1, d2, d3] }
  | _ => none }
def termsDueRow : OpenClaim := { program := "ytjikgoeinilnjaa", sum := "4749aafeb34e39c4df19dae2a57ab0e41bc9050aade86c9933bbafc783af2e9b", func := "pinakes/pinakeslaw15.TermsDue", spec := "termsDue", recurses := true, apart := false }
def TermsDueSaid : Prop := termsDueRow.holds Try.pinned (OpenSpec.ofChange termsDueSpec)

/-- ITS FALSE NEIGHBOUR: 'it returns false'. Refute it at one input. -/
def termsDueWrong : ChangeSpec := { name := "termsDue", fn := fun _ => fun
  | [d1, d2, d3] => { results := [.lit (.bool false)], args := [d1, d2, d3] }
  | _ => none }
def TermsDueWrongFalsely : Prop := termsDueRow.holds Try.pinned (OpenSpec.ofChange termsDueWrong)

/-- 'pinakeslaw15.TermsOpen': WHATEVER THE INPUT: true; the input reads as it did. -/
def termsOpenSpec : ChangeSpec := { name := "termsOpen", fn := fun _ => fun
  | [d1, d2, d3] => { results := [.lit (.bool true)], args := [d1, d2, d3] }
  | _ => none }
def termsOpenRow : OpenClaim := { program := "ytjikgoeinilnjaa", sum := "4749aafeb34e39c4df19dae2a57ab0e41bc9050aade86c9933bbafc783af2e9b", func := "pinakes/pinakeslaw15.TermsOpen", spec := "termsOpen", recurses := true, apart := false }
def TermsOpenSaid : Prop := termsOpenRow.holds Try.pinned (OpenSpec.ofChange termsOpenSpec)

/-- ITS FALSE NEIGHBOUR: 'it returns false'. Refute it at one input. -/
def termsOpenWrong : ChangeSpec := { name := "termsOpen", fn := fun _ => fun
  | [d1, d2, d3] => { results := [.lit (.bool false)], args := [d1, d2, d3] }
  | _ => none }
def TermsOpenWrongFalsely : Prop := termsOpenRow.holds Try.pinned (OpenSpec.ofChange termsOpenWrong)

/-- 'pinakeslaw15.TermsFine': WHATEVER THE INPUT: true; the input reads as it did. -/
def termsFineSpec : ChangeSpec := { name := "termsFine", fn := fun _ => fun
  | [d1, d2, d3] => { results := [.lit (.bool true)], args := [d1, d2, d3] }
  | _ => none }
def termsFineRow : OpenClaim := { program := "ytjikgoeinilnjaa", sum := "4749aafeb34e39c4df19dae2a57ab0e41bc9050aade86c9933bbafc783af2e9b", func := "pinakes/pinakeslaw15.TermsFine", spec := "termsFine", recurses := true, apart := false }
def TermsFineSaid : Prop := termsFineRow.holds Try.pinned (OpenSpec.ofChange termsFineSpec)

/-- ITS FALSE NEIGHBOUR: 'it returns false'. Refute it at one input. -/
def termsFineWrong : ChangeSpec := { name := "termsFine", fn := fun _ => fun
  | [d1, d2, d3] => { results := [.lit (.bool false)], args := [d1, d2, d3] }
  | _ => none }
def TermsFineWrongFalsely : Prop := termsFineRow.holds Try.pinned (OpenSpec.ofChange termsFineWrong)

/-- 'pinakeslaw15.TermsGrows': WHATEVER THE INPUT: true; the input reads as it did. -/
def termsGrowsSpec : ChangeSpec := { name := "termsGrows", fn := fun _ => fun
  | [d1, d2, d3] => { results := [.lit (.bool true)], args := [d1, d2, d3] }
  | _ => none }
def termsGrowsRow : OpenClaim := { program := "ytjikgoeinilnjaa", sum := "4749aafeb34e39c4df19dae2a57ab0e41bc9050aade86c9933bbafc783af2e9b", func := "pinakes/pinakeslaw15.TermsGrows", spec := "termsGrows", recurses := true, apart := false }
def TermsGrowsSaid : Prop := termsGrowsRow.holds Try.pinned (OpenSpec.ofChange termsGrowsSpec)

/-- ITS FALSE NEIGHBOUR: 'it returns false'. Refute it at one input. -/
def termsGrowsWrong : ChangeSpec := { name := "termsGrows", fn := fun _ => fun
  | [d1, d2, d3] => { results := [.lit (.bool false)], args := [d1, d2, d3] }
  | _ => none }
def TermsGrowsWrongFalsely : Prop := termsGrowsRow.holds Try.pinned (OpenSpec.ofChange termsGrowsWrong)

/-- 'pinakeslaw15.TermsClosed': WHATEVER THE INPUT: true; the input reads as it did. -/
def termsClosedSpec : ChangeSpec := { name := "termsClosed", fn := fun _ => fun
  | [d1, d2, d3] => { results := [.lit (.bool true)], args := [d1, d2, d3] }
  | _ => none }
def termsClosedRow : OpenClaim := { program := "ytjikgoeinilnjaa", sum := "4749aafeb34e39c4df19dae2a57ab0e41bc9050aade86c9933bbafc783af2e9b", func := "pinakes/pinakeslaw15.TermsClosed", spec := "termsClosed", recurses := true, apart := false }
def TermsClosedSaid : Prop := termsClosedRow.holds Try.pinned (OpenSpec.ofChange termsClosedSpec)

/-- ITS FALSE NEIGHBOUR: 'it returns false'. Refute it at one input. -/
def termsClosedWrong : ChangeSpec := { name := "termsClosed", fn := fun _ => fun
  | [d1, d2, d3] => { results := [.lit (.bool false)], args := [d1, d2, d3] }
  | _ => none }
def TermsClosedWrongFalsely : Prop := termsClosedRow.holds Try.pinned (OpenSpec.ofChange termsClosedWrong)

/- THE SECOND FORM. 'bulk': how many values and letters a reading holds, each counted each time it is reached (what is shared counts as often as it is met; a slice's spare places count too). A statement '..UptoSaid' is the law's where the arguments, and the package variables that the reading takes, are together of bulk at most 1048576: NARROWER than '..Said'. Prove '..Said' where nothing that the law and all that it calls make is longer than what came in: it says more and counts as full. Else prove '..UptoSaid'. A law counts once. -/
mutual
def uptoBulk {H : Type} : DataW H → Nat
  | .lit (.string bytes) => bytes.length + 1
  | .lit _ => 1
  | .nil => 1
  | .ptr d => uptoBulk d + 1
  | .slice elems spare => uptoBulkAll elems + uptoBulkAll spare + 1
  | .agg parts => uptoBulkAll parts + 1
  | .iface _ d => uptoBulk d + 1
  | .map entries => uptoBulkEntries entries + 1
  | .held _ => 1
def uptoBulkAll {H : Type} : List (DataW H) → Nat
  | [] => 0
  | d :: r => uptoBulk d + uptoBulkAll r
def uptoBulkEntries {H : Type} : List (Lit × DataW H) → Nat
  | [] => 0
  | x :: r => uptoBulkEntry x + uptoBulkEntries r
def uptoBulkEntry {H : Type} : Lit × DataW H → Nat
  | (.string bytes, d) => bytes.length + uptoBulk d + 1
  | (_, d) => uptoBulk d + 1
 end
def uptoSmall : (H : Type) → List (DataW H) → Bool := fun _ ds => decide (uptoBulkAll ds ≤ 1048576)
def OpenSpec.upto (s : _root_.Go.ChangeSpec) : _root_.Go.OpenSpec := { _root_.Go.OpenSpec.ofChange s with cond := some uptoSmall }

/-- 'pinakeslaw15.TermsFind', WHERE WHAT IT READS IS OF BULK AT MOST 1048576: true; the input reads as it did. -/
def termsFindUptoRow : OpenClaim := { program := "ytjikgoeinilnjaa", sum := "4749aafeb34e39c4df19dae2a57ab0e41bc9050aade86c9933bbafc783af2e9b", func := "pinakes/pinakeslaw15.TermsFind", spec := "termsFind", recurses := true, apart := false, narrowed := true }
def TermsFindUptoSaid : Prop := termsFindUptoRow.holds Try.pinned (OpenSpec.upto termsFindSpec)

/-- 'pinakeslaw15.TermsBest', WHERE WHAT IT READS IS OF BULK AT MOST 1048576: true; the input reads as it did. -/
def termsBestUptoRow : OpenClaim := { program := "ytjikgoeinilnjaa", sum := "4749aafeb34e39c4df19dae2a57ab0e41bc9050aade86c9933bbafc783af2e9b", func := "pinakes/pinakeslaw15.TermsBest", spec := "termsBest", recurses := true, apart := false, narrowed := true }
def TermsBestUptoSaid : Prop := termsBestUptoRow.holds Try.pinned (OpenSpec.upto termsBestSpec)

/-- 'pinakeslaw15.TermsAppend', WHERE WHAT IT READS IS OF BULK AT MOST 1048576: true; the input reads as it did. -/
def termsAppendUptoRow : OpenClaim := { program := "ytjikgoeinilnjaa", sum := "4749aafeb34e39c4df19dae2a57ab0e41bc9050aade86c9933bbafc783af2e9b", func := "pinakes/pinakeslaw15.TermsAppend", spec := "termsAppend", recurses := true, apart := false, narrowed := true }
def TermsAppendUptoSaid : Prop := termsAppendUptoRow.holds Try.pinned (OpenSpec.upto termsAppendSpec)

/-- 'pinakeslaw15.TermsDue', WHERE WHAT IT READS IS OF BULK AT MOST 1048576: true; the input reads as it did. -/
def termsDueUptoRow : OpenClaim := { program := "ytjikgoeinilnjaa", sum := "4749aafeb34e39c4df19dae2a57ab0e41bc9050aade86c9933bbafc783af2e9b", func := "pinakes/pinakeslaw15.TermsDue", spec := "termsDue", recurses := true, apart := false, narrowed := true }
def TermsDueUptoSaid : Prop := termsDueUptoRow.holds Try.pinned (OpenSpec.upto termsDueSpec)

/-- 'pinakeslaw15.TermsOpen', WHERE WHAT IT READS IS OF BULK AT MOST 1048576: true; the input reads as it did. -/
def termsOpenUptoRow : OpenClaim := { program := "ytjikgoeinilnjaa", sum := "4749aafeb34e39c4df19dae2a57ab0e41bc9050aade86c9933bbafc783af2e9b", func := "pinakes/pinakeslaw15.TermsOpen", spec := "termsOpen", recurses := true, apart := false, narrowed := true }
def TermsOpenUptoSaid : Prop := termsOpenUptoRow.holds Try.pinned (OpenSpec.upto termsOpenSpec)

/-- 'pinakeslaw15.TermsFine', WHERE WHAT IT READS IS OF BULK AT MOST 1048576: true; the input reads as it did. -/
def termsFineUptoRow : OpenClaim := { program := "ytjikgoeinilnjaa", sum := "4749aafeb34e39c4df19dae2a57ab0e41bc9050aade86c9933bbafc783af2e9b", func := "pinakes/pinakeslaw15.TermsFine", spec := "termsFine", recurses := true, apart := false, narrowed := true }
def TermsFineUptoSaid : Prop := termsFineUptoRow.holds Try.pinned (OpenSpec.upto termsFineSpec)

/-- 'pinakeslaw15.TermsGrows', WHERE WHAT IT READS IS OF BULK AT MOST 1048576: true; the input reads as it did. -/
def termsGrowsUptoRow : OpenClaim := { program := "ytjikgoeinilnjaa", sum := "4749aafeb34e39c4df19dae2a57ab0e41bc9050aade86c9933bbafc783af2e9b", func := "pinakes/pinakeslaw15.TermsGrows", spec := "termsGrows", recurses := true, apart := false, narrowed := true }
def TermsGrowsUptoSaid : Prop := termsGrowsUptoRow.holds Try.pinned (OpenSpec.upto termsGrowsSpec)

/-- 'pinakeslaw15.TermsClosed', WHERE WHAT IT READS IS OF BULK AT MOST 1048576: true; the input reads as it did. -/
def termsClosedUptoRow : OpenClaim := { program := "ytjikgoeinilnjaa", sum := "4749aafeb34e39c4df19dae2a57ab0e41bc9050aade86c9933bbafc783af2e9b", func := "pinakes/pinakeslaw15.TermsClosed", spec := "termsClosed", recurses := true, apart := false, narrowed := true }
def TermsClosedUptoSaid : Prop := termsClosedUptoRow.holds Try.pinned (OpenSpec.upto termsClosedSpec)

end Rows
end Go.Proofs.Ytjikgoeinilnjaa
