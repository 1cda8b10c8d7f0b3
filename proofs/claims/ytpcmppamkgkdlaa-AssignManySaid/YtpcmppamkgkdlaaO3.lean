/- How bytes that came in are opened. -/
import Derived.Test.YtpcmppamkgkdlaaO
import Derived.Test.YtpcmppamkgkdlaaVP
namespace Go.Proofs.Ytpcmppamkgkdlaa
open Go.ChangeShapes Go.WideShapes Go.ChangeAt Go.RowKit
section
variable {H : Type} {enc : TypeId × Value → H} {W : World} {base : Nat} {spare : Nat → Bool} {held : Bool}
theorem u8_of {fuel : Nat} {len cap : Nat} {a : Option Addr} {x : DataW H × List MemPlace} (h : DataW.trod enc Try.prog W base spare held fuel 23 [.slice a len cap] = some x) : ∃ bs : List Int, bs.length = len ∧ U8 W a bs cap := by
  obtain ⟨a', M, cap', e, g, b, l⟩ := nums_of Try.underlying23 Try.underlying5 (by kernel_rfl) h
  obtain ⟨rfl, rfl, rfl⟩ : a = a' ∧ len = M.length ∧ cap = cap' := by simpa using e
  exact ⟨M, rfl, g, fun j hj => wf_u8 (b j hj), l⟩
end
end Go.Proofs.Ytpcmppamkgkdlaa
