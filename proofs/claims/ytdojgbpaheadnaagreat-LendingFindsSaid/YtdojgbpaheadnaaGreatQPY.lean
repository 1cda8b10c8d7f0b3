/- LendingFinds, plainly: the lender that the law looks for is the one that lends. -/
import Derived.Test.YtdojgbpaheadnaaGreatQUL
import Derived.Test.YtdojgbpaheadnaaGreatQPT
set_option linter.unusedVariables false
set_option linter.unusedSimpArgs false

namespace Go.Proofs.YtdojgbpaheadnaaGreat

def kOf (X : Int) : Int := if X = 3 then 0 else if X = 4 then 1 else 2
theorem rotF_ids (x : Int) (k : Nat) (h : x % 3 = k) : rotF x = idsN k ∧ kOf (rotF x) = k := by
 have hk : k = 0 ∨ k = 1 ∨ k = 2 := by omega
 unfold rotF idsN kOf
 rcases hk with rfl | rfl | rfl
 ·have h : x % 3 = 0 := h
  simp [h]
 ·have h : x % 3 = 1 := h
  simp [h]
 ·have h : x % 3 = 2 := h
  simp [h]
def okX (init : Int → List Int) (t X : Int) : Bool := !decide (X = 1) && decide (t ∈ init X)
def turned (rota : List Int) (r : Int) : List Int := rota.drop (rotK rota.length 1 r) ++ rota.take (rotK rota.length 1 r)
theorem who_find (init : Int → List Int) (rota : List Int) (r t : Int) : whoL init rota 1 r t = (turned rota r).find? (okX init t) := by
 unfold whoL rotOf turned
 generalize rota.drop (rotK rota.length 1 r) ++ rota.take (rotK rota.length 1 r) = l
 induction l with
 | nil => rfl
 | cons x l ih =>
  rw [List.filter_cons]
  by_cases h : x = 1
  ·rw [if_neg (by simp [h]), ih, List.find?_cons]
   have : okX init t x = false := by unfold okX; simp [h]
   rw [this]
  ·rw [if_pos (by simp [h]), List.find?_cons, List.find?_cons, ih]
   have : okX init t x = decide (t ∈ init x) := by unfold okX; simp [h]
   rw [this]
theorem rotK_small {n : Nat} {r : Int} (hn : 0 < n) (h1 : 1 ≤ r) (h6 : r ≤ 6) : (rotK n 1 r : Int) = (1 + r) % n ∧ rotK n 1 r < n := by
 have hw : wr64 (1 + r) = 1 + r := by unfold wr64; rw [IntKind.wrap_i64]; omega
 unfold rotK
 rw [hw]
 have h2 : 0 ≤ (1 + r) % (n : Int) := Int.emod_nonneg _ (by omega)
 have h3 : (1 + r) % (n : Int) < n := Int.emod_lt_of_pos _ (by omega)
 constructor
 ·exact Int.toNat_of_nonneg h2
 ·omega
theorem turned_len {rota : List Int} {r : Int} (h1 : 1 ≤ r) (h6 : r ≤ 6) : (turned rota r).length = rota.length := by
 unfold turned
 rw [List.length_append, List.length_drop, List.length_take]
 rcases Nat.eq_zero_or_pos rota.length with h | h
 ·omega
 ·have := (rotK_small h h1 h6).2
  omega
theorem turned_at {rota : List Int} {r : Int} (h1 : 1 ≤ r) (h6 : r ≤ 6) {i : Nat} (hi : i < rota.length) : ∃ j : Nat, j < rota.length ∧ (1 + r + i) % (rota.length : Int) = j ∧ (turned rota r)[i]? = rota[j]? := by
 have hn : 0 < rota.length := by omega
 obtain ⟨k1, k2⟩ := rotK_small hn h1 h6
 obtain ⟨K, hK⟩ : ∃ K, K = rotK rota.length 1 r := ⟨_, rfl⟩
 rw [← hK] at k1 k2
 have hmod : (1 + r + i) % (rota.length : Int) = ((K + i) % rota.length : Nat) := by
  rw [Int.add_emod (1 + r) i, ← k1]
  rw [show ((i : Int) % (rota.length : Int)) = ((i % rota.length : Nat) : Int) from rfl]
  rw [show ((K : Int) + ((i % rota.length : Nat) : Int)) = ((K + i % rota.length : Nat) : Int) by omega]
  rw [show (((K + i % rota.length : Nat) : Int) % (rota.length : Int)) = (((K + i % rota.length) % rota.length : Nat) : Int) from rfl]
  rw [Nat.mod_eq_of_lt hi]
 refine ⟨(K + i) % rota.length, Nat.mod_lt _ hn, hmod, ?_⟩
 unfold turned
 rw [← hK]
 by_cases h : i < rota.length - K
 ·rw [List.getElem?_append_left (by rw [List.length_drop]; exact h), List.getElem?_drop, Nat.mod_eq_of_lt (by omega)]
 ·rw [List.getElem?_append_right (by rw [List.length_drop]; omega), List.length_drop, List.getElem?_take_of_lt (by omega)]
  congr 1
  rw [show K + i = rota.length + (i - (rota.length - K)) by omega, Nat.add_mod_left, Nat.mod_eq_of_lt (by omega)]
def wantN (init : Int → List Int) (rota : List Int) (r t : Int) (i : Nat) : Int := match ((turned rota r).take i).find? (okX init t) with
 | none => -1
 | some X => kOf X
theorem wantN_zero (init : Int → List Int) (rota : List Int) (r t : Int) : wantN init rota r t 0 = -1 := by unfold wantN; simp
theorem kOf_nonneg (X : Int) : 0 ≤ kOf X := by unfold kOf; split <;> (try split) <;> omega
theorem wantN_neg {init : Int → List Int} {rota : List Int} {r t : Int} {i : Nat} : wantN init rota r t i < 0 ↔ ((turned rota r).take i).find? (okX init t) = none := by
 unfold wantN
 cases h : ((turned rota r).take i).find? (okX init t) with
 | none => simp
 | some X => have := kOf_nonneg X; simp; omega
theorem wantN_succ {init : Int → List Int} {rota : List Int} {r t X : Int} {i : Nat} (hn : wantN init rota r t i < 0) (hX : (turned rota r)[i]? = some X) : wantN init rota r t (i + 1) = if okX init t X then kOf X else -1 := by
 have h1 := wantN_neg.1 hn
 unfold wantN
 rw [List.take_add_one, hX, List.find?_append, h1]
 simp only [Option.toList_some, List.find?_cons, List.find?_nil, Option.none_or]
 by_cases h : okX init t X = true
 ·rw [h]; rfl
 ·have h : okX init t X = false := by simpa using h
  rw [h]; rfl
theorem wantN_stop {init : Int → List Int} {rota : List Int} {r t : Int} {i : Nat} (hn : ¬ wantN init rota r t i < 0) : ∃ X, whoL init rota 1 r t = some X ∧ wantN init rota r t i = kOf X := by
 cases h : ((turned rota r).take i).find? (okX init t) with
 | none => exact absurd (wantN_neg.2 h) hn
 | some X =>
  refine ⟨X, ?_, by unfold wantN; rw [h]⟩
  rw [who_find, ← List.take_append_drop i (turned rota r), List.find?_append, h]; rfl
theorem wantN_all {init : Int → List Int} {rota : List Int} {r t : Int} (h1 : 1 ≤ r) (h6 : r ≤ 6) (hn : wantN init rota r t rota.length < 0) : whoL init rota 1 r t = none := by
 have h := wantN_neg.1 hn
 rw [List.take_of_length_le (by rw [turned_len h1 h6]; omega)] at h
 rw [who_find, h]
end Go.Proofs.YtdojgbpaheadnaaGreat
