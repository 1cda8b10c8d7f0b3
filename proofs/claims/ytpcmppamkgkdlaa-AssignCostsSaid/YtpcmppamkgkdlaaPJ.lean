/- Want by want the least copy: the least list. -/
import Derived.Test.YtpcmppamkgkdlaaPI
namespace Go.Proofs.Ytpcmppamkgkdlaa

/-- No assignment that costs as much is less at the wants before one. -/
def Lex (P : Prob) (cp : Nat → Option Nat) (k : Nat) : Prop :=
  ∀ q, Mat P q → Same cp q → P.tot q = P.tot cp → ∀ k' c d, k' < k → (∀ j, j < k' → q j = cp j) → cp k' = some c → q k' = some d → c ≤ d

/-- No assignment that costs as much, and agrees before a want, gives it this copy. -/
def Rej (P : Prob) (cp : Nat → Option Nat) (k d : Nat) : Prop :=
  ∀ q, Mat P q → Same cp q → P.tot q = P.tot cp → (∀ j, j < k → q j = cp j) → q k ≠ some d

theorem Lex.zero (P cp) : Lex P cp 0 := fun _ _ _ _ _ _ _ h => absurd h (Nat.not_lt_zero _)

theorem Lex.next {P : Prob} {cp cp' : Nat → Option Nat} {k : Nat} (h : Lex P cp k) (ha : ∀ j, j < k → cp' j = cp j) (hs : Same cp cp') (ht : P.tot cp' = P.tot cp)
    (hn : ∀ c d, cp' k = some c → d ∈ P.acc k → d < c → Rej P cp k d) : Lex P cp' (k + 1) := by
  intro q hq hsq htq k' c d hk hag hc hd
  have hs' : Same cp q := hs.trans hsq
  have ht' : P.tot q = P.tot cp := htq.trans ht
  have hag' : ∀ j, j < k' → q j = cp j := fun j hj => (hag j hj).trans (ha j (by omega))
  rcases Nat.lt_or_ge k' k with g | g
  · exact h q hq hs' ht' k' c d g hag' ((ha k' g).symm.trans hc) hd
  · obtain rfl : k' = k := by omega
    rcases Nat.lt_or_ge d c with hlt | hge
    · exact absurd hd (hn c d hc (hq.ok hd).2 hlt q hq hs' ht' hag')
    · exact hge

theorem Rej.owned {P : Prob} {cp : Nat → Option Nat} {k o d : Nat} (ho : cp o = some d) (hlt : o < k) : Rej P cp k d := fun q hq _ _ hag e => by
  have := hq.inj ((hag o hlt).trans ho) e
  omega

theorem Best.of {P : Prob} {cp wn : Nat → Option Nat} {f : Nat → Int} (hm : Mat P cp) (hc : Con cp wn) (hg : Greedy P cp) (hf : Pot P 0 cp wn f) (hl : Lex P cp P.m) : Best P cp where
  mat := hm
  greedy := hg
  cheap := fun hq hs => hf.cheap hm hc hq hs
  least := fun {q} hq hs ht {k c d} hag hk hqk => hl q hq hs ht k c d (hm.ok hk).1 hag hk hqk

/-- What is served want by want is served greedily. -/
theorem Greedy.of {P : Prob} {cp : Nat → Option Nat} (hm : Mat P cp)
    (hn : ∀ k, k < P.m → cp k = none → ∀ q, Mat P q → (∀ j, j < k → (cp j).isSome → (q j).isSome) → q k = none) : Greedy P cp := fun k hk => by
  constructor
  · intro h; exact ⟨cp, hm, fun _ _ h => h, h⟩
  · rintro ⟨q, h1, h2, h3⟩
    cases e : cp k with
    | some c => rfl
    | none => rw [hn k hk e q h1 h2] at h3; cases h3
end Go.Proofs.Ytpcmppamkgkdlaa
