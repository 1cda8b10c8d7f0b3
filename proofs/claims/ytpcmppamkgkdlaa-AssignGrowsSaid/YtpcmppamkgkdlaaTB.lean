/- The costs of lists: what Cost computes; its contract. -/
import Derived.Test.YtpcmppamkgkdlaaRE
namespace Go.Proofs.Ytpcmppamkgkdlaa
open Go.RowKit Go.Maps

def okAt (P : Prob) (l : List Int) (k : Nat) : Bool := decide (l.getD k 0 = -1) || (decide (0 ≤ l.getD k 0) && (P.acc k).contains (l.getD k 0).toNat && !((l.take k).contains (l.getD k 0)))
def okB (P : Prob) (l : List Int) : Nat → Bool
  | 0 => true
  | k + 1 => okB P l k && okAt P l k
def oneL (P : Prob) (l : List Int) (k : Nat) : Int := if l.getD k 0 = -1 then 0 else P.cst k (l.getD k 0).toNat
def sumL (P : Prob) (l : List Int) (k : Nat) : Int := sumN (oneL P l) k
def costF (P : Prob) (l : List Int) : Int × Bool := if l.length = P.m ∧ okB P l P.m = true then (sumL P l P.m, true) else (0, false)
theorem okB_false {P : Prob} {l : List Int} {k : Nat} (h : okAt P l k = false) : ∀ m, k < m → okB P l m = false
  | m + 1, hm => by
    rw [okB]
    by_cases e : k = m
    · subst e; rw [h, Bool.and_false]
    · rw [okB_false h m (by omega), Bool.false_and]
theorem costF_no {P : Prob} {l : List Int} {k : Nat} (h : okAt P l k = false) (hk : k < P.m) : costF P l = (0, false) := if_neg fun e => by rw [okB_false h P.m hk] at e; exact absurd e.2 (by simp)
theorem costF_len {P : Prob} {l : List Int} (h : l.length ≠ P.m) : costF P l = (0, false) := if_neg fun e => h e.1
theorem costF_yes {P : Prob} {l : List Int} (h : l.length = P.m) (h2 : okB P l P.m = true) : costF P l = (sumL P l P.m, true) := if_pos ⟨h, h2⟩
theorem sumL_bd {P : Prob} (hb : ∀ k c, 0 ≤ P.cst k c ∧ P.cst k c ≤ 1000000) (l : List Int) : ∀ k, 0 ≤ sumL P l k ∧ sumL P l k ≤ 1000000 * k
  | 0 => by simp [sumL, sumN]
  | k + 1 => by
    have ih := sumL_bd hb l k
    have : 0 ≤ oneL P l k ∧ oneL P l k ≤ 1000000 := by
      unfold oneL
      split
      · omega
      · exact hb _ _
    unfold sumL at *
    simp only [sumN]; omega
def CostE (P : Prob) (l : List Int) (w : World) (e : Ending) (w' : World) : Prop := e = .returned (.tuple #[.int .i64 (costF P l).1, .bool (costF P l).2]) ∧ Below w.heap.size w w'

/-! A map of what is used -/
structure RepB (D : DataW Unit) (S : List Int) : Prop where
  isMap : IsMap D
  at_ : ∀ x z, D.atKey (.int .i64 x) z = if x ∈ S then .lit (.bool true) else z
theorem repB_nil : RepB (.map []) [] := ⟨Maps.isMap_empty, by intro x z; simp [DataW.atKey]⟩
theorem repB_put {D : DataW Unit} {S : List Int} {x : Int} (h : RepB D S) (h0 : -9223372036854775808 ≤ x) (h1 : x ≤ 9223372036854775807) : RepB (D.put (.int .i64 x) (.lit (.bool true))) (S ++ [x]) := by
  refine ⟨h.isMap.put _ _, fun y z => ?_⟩
  by_cases e : y = x
  · subst e
    rw [Maps.atKey_put_same h.isMap (isKey64 h0 h1), if_pos (by simp)]
  · rw [Maps.atKey_put_other (by intro e'; injection e' with _ e'; exact e e'), h.at_]
    by_cases hy : y ∈ S
    · rw [if_pos hy, if_pos (by simp [hy])]
    · rw [if_neg hy, if_neg (by simp [hy, e])]
theorem zero4 (w : World) : (zeroValue 4).run Try.prog w = .ok (.bool false) w := by kernel_rfl
theorem plainElem_bool_inv {P : Program} {e : TypeId} (he : P.underlying e = some .bool) {v : Value} {z : DataW Unit × List MemPlace} (h : plainElem P e v = some z) : ∃ b, v = .bool b ∧ z = (.lit (.bool b), []) := by
  unfold plainElem at h
  split at h
  · cases h; exact ⟨_, rfl, rfl⟩
  · rename_i hq; rw [he] at hq; cases hq
  · rename_i hq; rw [he] at hq; cases hq
  · cases h
theorem litb_eq {a b : Bool} (h : (DataW.lit (Lit.bool a) : DataW Unit) = .lit (.bool b)) : a = b := by injection h with h; injection h
theorem lookB {w : World} {b n : Nat} {D : DataW Unit} {S : List Int} (h : w.ownsMap (H := Unit) Try.prog 3 (plainElem Try.prog 4) b n D) (hr : RepB D S) (x : Int) (h0 : -9223372036854775808 ≤ x) (h1 : x ≤ 9223372036854775807) :
    (Instr.lookup 65 (.map (some b)) (.int .i64 x) false).run Try.prog w = .ok (.bool (decide (x ∈ S))) w := by
  obtain ⟨v, ps, hrun, hv⟩ := h.lookup key3 Try.underlying65 (zero4 w) (zd := .lit (.bool false)) (zp := []) (plainElem_bool Try.underlying4 false) (keyOf3 h0 h1)
  rw [hr.at_] at hv
  rw [hrun]
  obtain ⟨t, rfl, he⟩ := plainElem_bool_inv Try.underlying4 hv
  have he := congrArg Prod.fst he
  by_cases hx : x ∈ S
  · have he' : (if x ∈ S then (DataW.lit (Lit.bool true) : DataW Unit) else .lit (.bool false)) = .lit (.bool t) := he
    rw [if_pos hx] at he'
    rw [← litb_eq he', decide_eq_true hx]
  · have he' : (if x ∈ S then (DataW.lit (Lit.bool true) : DataW Unit) else .lit (.bool false)) = .lit (.bool t) := he
    rw [if_neg hx] at he'
    rw [← litb_eq he', decide_eq_false hx]
end Go.Proofs.Ytpcmppamkgkdlaa
