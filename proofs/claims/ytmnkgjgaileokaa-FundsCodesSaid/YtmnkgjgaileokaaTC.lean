/- Plain laws of the codes of numbers. -/
import Derived.Test.YtmnkgjgaileokaaLib
namespace Go.Proofs.Ytmnkgjgaileokaa

/-- The groups of seven bits of a number, with whether there are more behind. -/
def grp (n : Nat) : List (Fin 128 × Bool) :=
  if n / 128 = 0 then [(⟨n % 128, Nat.mod_lt _ (by omega)⟩, false)] else (⟨n % 128, Nat.mod_lt _ (by omega)⟩, true) :: grp (n / 128)
termination_by n
decreasing_by omega
theorem grp_last {n : Nat} (h : n / 128 = 0) : grp n = [(⟨n % 128, Nat.mod_lt _ (by omega)⟩, false)] := by rw [grp, if_pos h]
theorem grp_more {n : Nat} (h : n / 128 ≠ 0) : grp n = (⟨n % 128, Nat.mod_lt _ (by omega)⟩, true) :: grp (n / 128) := by rw [grp, if_neg h]
theorem grp_len : ∀ (k n : Nat), n < 128 ^ (k + 1) → (grp n).length ≤ k + 1
  | 0, n, h => by rw [grp_last (by omega)]; simp
  | k + 1, n, h => by
    by_cases h0 : n / 128 = 0
    · rw [grp_last h0]; simp
    · rw [grp_more h0]
      have : n < 128 ^ (k + 1) * 128 := by rw [← Nat.pow_succ]; exact h
      have := grp_len k (n / 128) (by omega)
      simp only [List.length_cons]; omega
theorem grp_pos (n : Nat) : 1 ≤ (grp n).length := by
  by_cases h : n / 128 = 0
  · rw [grp_last h]; simp
  · rw [grp_more h]; simp
theorem grp_ten {n : Nat} (h : n < 18446744073709551616) : (grp n).length ≤ 10 := grp_len 9 n (by omega)
def grpVal (x : Fin 128 × Bool) : Nat := if x.2 then x.1.val + 128 else x.1.val
def grpByte (x : Fin 128 × Bool) : UInt8 := UInt8.ofNat (grpVal x)
theorem grpVal_lt (x : Fin 128 × Bool) : grpVal x < 256 := by
  unfold grpVal
  have := x.1.isLt
  split <;> omega
theorem grpByte_val (x : Fin 128 × Bool) : (grpByte x).toNat = grpVal x := by
  unfold grpByte
  rw [UInt8.toNat_ofNat']
  exact Nat.mod_eq_of_lt (grpVal_lt x)
/-- The code of a number. -/
def num (n : Nat) : List UInt8 := (grp n).map grpByte
theorem num_small {n : Nat} (h : n < 128) : num n = [UInt8.ofNat n] := by
  unfold num
  rw [grp_last (by omega)]
  simp [grpByte, grpVal, Nat.mod_eq_of_lt h]
theorem num_great {n : Nat} (h : ¬ n < 128) : num n = UInt8.ofNat (n % 128 + 128) :: num (n / 128) := by
  unfold num
  rw [grp_more (by omega)]
  simp [grpByte, grpVal]
theorem num_len (n : Nat) : (num n).length = (grp n).length := by simp [num]
/-- The number of an integer. -/
def sig (n : Int) : Nat := if 0 ≤ n then (2 * n).toNat else (2 * (-1 - n) + 1).toNat
theorem sig_lt {n : Int} (h0 : -9223372036854775808 ≤ n) (h1 : n ≤ 9223372036854775807) : sig n < 18446744073709551616 := by
  unfold sig; split <;> omega
def body (l : List Int) : List UInt8 := l.flatMap fun n => num (sig n)
def ints (l : List Int) : List UInt8 := num l.length ++ body l
theorem body_len : ∀ l : List Int, (∀ n ∈ l, -9223372036854775808 ≤ n ∧ n ≤ 9223372036854775807) → (body l).length ≤ 10 * l.length
  | [], _ => by simp [body]
  | a :: l, h => by
    have h1 := body_len l fun n hn => h n (by simp [hn])
    have h2 := grp_ten (sig_lt (h a (by simp)).1 (h a (by simp)).2)
    have e : body (a :: l) = num (sig a) ++ body l := by simp [body]
    rw [e, List.length_append, num_len, List.length_cons]
    omega
theorem body_snoc (l : List Int) (a : Int) : body (l ++ [a]) = body l ++ num (sig a) := by simp [body]
end Go.Proofs.Ytmnkgjgaileokaa
