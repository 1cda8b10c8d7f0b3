/- Plain laws of the codes of numbers. -/
import Derived.Test.YtdojgbpaheadnaaGreatQLib
set_option linter.unusedVariables false
set_option linter.unusedSimpArgs false

namespace Go.Proofs.YtdojgbpaheadnaaGreat

def grp (n : Nat) : List (Fin 128 × Bool) :=
 if n / 128 = 0 then [(⟨n % 128, Nat.mod_lt _ (by omega)⟩, false)] else (⟨n % 128, Nat.mod_lt _ (by omega)⟩, true) :: grp (n / 128)
termination_by n
decreasing_by omega
theorem grp_last {n : Nat} (h : n / 128 = 0) : grp n = [(⟨n % 128, Nat.mod_lt _ (by omega)⟩, false)] := by rw [grp, if_pos h]
theorem grp_more {n : Nat} (h : n / 128 ≠ 0) : grp n = (⟨n % 128, Nat.mod_lt _ (by omega)⟩, true) :: grp (n / 128) := by rw [grp, if_neg h]
theorem grp_len : ∀ (k n : Nat), n < 128 ^ (k + 1) → (grp n).length ≤ k + 1
 | 0, n, h => by rw [grp_last (by omega)]; simp
 | k + 1, n, h => by
  by_cases h0 : n / 128 = 0
  ·rw [grp_last h0]; simp
  ·rw [grp_more h0]
   have : n < 128 ^ (k + 1) * 128 := by rw [← Nat.pow_succ]; exact h
   have := grp_len k (n / 128) (by omega)
   simp only [List.length_cons]; omega
theorem grp_pos (n : Nat) : 1 ≤ (grp n).length := by
 by_cases h : n / 128 = 0
 ·rw [grp_last h]; simp
 ·rw [grp_more h]; simp
theorem grp_ten {n : Nat} (h : n < 18446744073709551616) : (grp n).length ≤ 10 := grp_len 9 n (by omega)
def grpVal (x : Fin 128 × Bool) : Nat := if x.2 then x.1.val + 128 else x.1.val
def grpByte (x : Fin 128 × Bool) : UInt8 := UInt8.ofNat (grpVal x)
theorem grpVal_lt (x : Fin 128 × Bool) : grpVal x < 256 := by
 unfold grpVal
 have := x.1.isLt
 split <;> omega
theorem grpByte_val (x : Fin 128 × Bool) : (grpByte x).toNat = grpVal x := by
 unfold grpByte
 rw [UInt8.toNat_ofNat']
 exact Nat.mod_eq_of_lt (grpVal_lt x)
def num (n : Nat) : List UInt8 := (grp n).map grpByte
theorem num_small {n : Nat} (h : n < 128) : num n = [UInt8.ofNat n] := by
 unfold num
 rw [grp_last (by omega)]
 simp [grpByte, grpVal, Nat.mod_eq_of_lt h]
theorem num_great {n : Nat} (h : ¬ n < 128) : num n = UInt8.ofNat (n % 128 + 128) :: num (n / 128) := by
 unfold num
 rw [grp_more (by omega)]
 simp [grpByte, grpVal]
theorem num_len (n : Nat) : (num n).length = (grp n).length := by simp [num]
def sig (n : Int) : Nat := if 0 ≤ n then (2 * n).toNat else (2 * (-1 - n) + 1).toNat
theorem sig_lt {n : Int} (h0 : -9223372036854775808 ≤ n) (h1 : n ≤ 9223372036854775807) : sig n < 18446744073709551616 := by
 unfold sig; split <;> omega
def body (l : List Int) : List UInt8 := l.flatMap fun n => num (sig n)
def ints (l : List Int) : List UInt8 := num l.length ++ body l
theorem body_len : ∀ l : List Int, (∀ n ∈ l, -9223372036854775808 ≤ n ∧ n ≤ 9223372036854775807) → (body l).length ≤ 10 * l.length
 | [], _ => by simp [body]
 | a :: l, h => by
  have h1 := body_len l fun n hn => h n (by simp [hn])
  have h2 := grp_ten (sig_lt (h a (by simp)).1 (h a (by simp)).2)
  have e : body (a :: l) = num (sig a) ++ body l := by simp [body]
  rw [e, List.length_append, num_len, List.length_cons]
  omega
theorem body_snoc (l : List Int) (a : Int) : body (l ++ [a]) = body l ++ num (sig a) := by simp [body]
end Go.Proofs.YtdojgbpaheadnaaGreat

/- Plain laws of reading numbers: a number's code is not the beginning of another one's; what a sequence of bytes stands for. -/
namespace Go.Proofs.YtdojgbpaheadnaaGreat

theorem ofNat_eq {a b : Nat} (ha : a < 256) (hb : b < 256) (h : UInt8.ofNat a = UInt8.ofNat b) : a = b := by
 have := congrArg UInt8.toNat h
 rw [UInt8.toNat_ofNat', UInt8.toNat_ofNat'] at this
 rwa [Nat.mod_eq_of_lt ha, Nat.mod_eq_of_lt hb] at this
theorem num_inj : ∀ (k m n : Nat) (r t : List UInt8), m ≤ k → num m ++ r = num n ++ t → m = n ∧ r = t := by
 intro k
 induction k using Nat.strongRecOn with
 | ind k ih =>
  intro m n r t hk h
  by_cases hm : m < 128 <;> by_cases hn : n < 128
  ·rw [num_small hm, num_small hn] at h
   simp only [List.cons_append, List.nil_append, List.cons.injEq] at h
   exact ⟨ofNat_eq (by omega) (by omega) h.1, h.2⟩
  ·rw [num_small hm, num_great hn] at h
   simp only [List.cons_append, List.nil_append, List.cons.injEq] at h
   have := ofNat_eq (by omega) (by omega) h.1
   omega
  ·rw [num_great hm, num_small hn] at h
   simp only [List.cons_append, List.nil_append, List.cons.injEq] at h
   have := ofNat_eq (by omega) (by omega) h.1
   omega
  ·rw [num_great hm, num_great hn] at h
   simp only [List.cons_append, List.cons.injEq] at h
   have h1 := ofNat_eq (by omega) (by omega) h.1
   obtain ⟨h2, h3⟩ := ih (m / 128) (by omega) (m / 128) (n / 128) r t (Nat.le_refl _) h.2
   exact ⟨by omega, h3⟩
theorem num_pre {m n : Nat} {r t : List UInt8} (h : num m ++ r = num n ++ t) : m = n ∧ r = t := num_inj m m n r t (Nat.le_refl _) h
def val : List UInt8 → Nat
 | [] => 0
 | b :: l => b.toNat % 128 + 128 * val l
theorem val_snoc : ∀ (l : List UInt8) (b : UInt8), val (l ++ [b]) = val l + b.toNat % 128 * 128 ^ l.length
 | [], b => by simp [val]
 | a :: l, b => by
  simp only [List.cons_append, val, val_snoc l b, List.length_cons, Nat.pow_succ]
  rw [Nat.mul_add, Nat.add_assoc]
  congr 2
  rw [Nat.mul_comm 128, Nat.mul_assoc]
theorem val_lt : ∀ l : List UInt8, val l < 128 ^ l.length
 | [] => by simp [val]
 | a :: l => by
  have := val_lt l
  simp only [val, List.length_cons, Nat.pow_succ]
  omega
def Mores (l : List UInt8) : Prop := ∀ b ∈ l, 128 ≤ b.toNat
theorem Mores.snoc {l : List UInt8} {b : UInt8} (h : Mores l) (hb : 128 ≤ b.toNat) : Mores (l ++ [b]) := fun x hx => by
 rcases List.mem_append.1 hx with h1 | h1
 ·exact h x h1
 ·simp at h1; subst h1; exact hb
theorem val_num : ∀ (k n : Nat), n ≤ k → val (num n) = n := by
 intro k
 induction k using Nat.strongRecOn with
 | ind k ih =>
  intro n hk
  by_cases hn : n < 128
  ·rw [num_small hn]
   simp only [val, UInt8.toNat_ofNat']
   omega
  ·rw [num_great hn]
   simp only [val, UInt8.toNat_ofNat', ih (n / 128) (by omega) (n / 128) (Nat.le_refl _)]
   omega
theorem num_form : ∀ (k n : Nat), n ≤ k → ∃ (l : List UInt8) (b : UInt8), num n = l ++ [b] ∧ Mores l ∧ b.toNat < 128 ∧ (l = [] ∨ b.toNat ≠ 0) := by
 intro k
 induction k using Nat.strongRecOn with
 | ind k ih =>
  intro n hk
  by_cases hn : n < 128
  ·refine ⟨[], UInt8.ofNat n, num_small hn, fun x hx => by simp at hx, ?_, .inl rfl⟩
   rw [UInt8.toNat_ofNat']; omega
  ·obtain ⟨l, b, h1, h2, h3, h4⟩ := ih (n / 128) (by omega) (n / 128) (Nat.le_refl _)
   refine ⟨UInt8.ofNat (n % 128 + 128) :: l, b, by rw [num_great hn, h1]; rfl, ?_, h3, .inr ?_⟩
   ·intro x hx
    rcases List.mem_cons.1 hx with rfl | hx
    ·rw [UInt8.toNat_ofNat']; omega
    ·exact h2 x hx
   ·rcases h4 with h4 | h4
    ·subst h4
     have : val (num (n / 128)) = n / 128 := val_num _ _ (Nat.le_refl _)
     rw [h1] at this
     simp only [List.nil_append, val] at this
     omega
    ·exact h4
theorem num_val : ∀ (l : List UInt8) (b : UInt8), Mores l → b.toNat < 128 → (l = [] ∨ b.toNat ≠ 0) → num (val (l ++ [b])) = l ++ [b] ∧ (l ≠ [] → 128 ^ l.length ≤ val (l ++ [b]))
 | [], b, _, hb, _ => by
  simp only [List.nil_append, val]
  refine ⟨?_, fun h => absurd rfl h⟩
  rw [num_small (by omega)]
  congr 1
  apply UInt8.toNat_inj.1
  rw [UInt8.toNat_ofNat']; omega
 | a :: l, b, hm, hb, h0 => by
  have ha : 128 ≤ a.toNat := hm a (by simp)
  have ha2 := a.toNat_lt
  have hb0 : b.toNat ≠ 0 := by
   rcases h0 with h0 | h0
   ·simp at h0
   ·exact h0
  obtain ⟨h1, h2⟩ := num_val l b (fun x hx => hm x (by simp [hx])) hb (.inr hb0)
  have hpos : 128 ^ l.length ≤ val (l ++ [b]) := by
   rcases l with _ | ⟨c, l⟩
   ·simp [val]; omega
   ·exact h2 (by simp)
  have hpp : 0 < 128 ^ l.length := Nat.pow_pos (by omega)
  have e : val (a :: l ++ [b]) = a.toNat % 128 + 128 * val (l ++ [b]) := rfl
  have hg : ¬ val (a :: l ++ [b]) < 128 := by rw [e]; omega
  refine ⟨?_, fun _ => ?_⟩
  ·rw [num_great hg]
   have e1 : val (a :: l ++ [b]) / 128 = val (l ++ [b]) := by rw [e]; omega
   have e2 : val (a :: l ++ [b]) % 128 = a.toNat % 128 := by rw [e]; omega
   rw [e1, e2, h1]
   show _ :: (l ++ [b]) = a :: (l ++ [b])
   congr 1
   apply UInt8.toNat_inj.1
   rw [UInt8.toNat_ofNat']; omega
  ·rw [e, List.length_cons, Nat.pow_succ]; omega
def RdR (l : List UInt8) (v : Nat) (k : Nat) (c : Int) : Prop :=
 (c = 0 ∧ v < 18446744073709551616 ∧ k = (num v).length ∧ ∃ r, l = num v ++ r) ∨ ((c = 10 ∨ c = 11) ∧ v = 0 ∧ k = 0 ∧ ∀ v r, v < 18446744073709551616 → l ≠ num v ++ r)
theorem mores_num {l : List UInt8} {i : Nat} (hm : Mores (l.take i)) {v : Nat} {r : List UInt8} (h : l = num v ++ r) : i < (num v).length := by
 obtain ⟨p, b, h1, h2, h3, h4⟩ := num_form v v (Nat.le_refl _)
 rcases Nat.lt_or_ge i (num v).length with h5 | h5
 ·exact h5
 ·exfalso
  have : b ∈ l.take i := by
   rw [h, List.take_append]
   refine List.mem_append_left _ ?_
   rw [List.take_of_length_le h5, h1]
   simp
  have := hm b this
  omega
theorem less_num {l : List UInt8} {i : Nat} (hi : i < l.length) (hb : l[i].toNat < 128) {v : Nat} {r : List UInt8} (h : l = num v ++ r) : (num v).length ≤ i + 1 := by
 obtain ⟨p, b, h1, h2, h3, h4⟩ := num_form v v (Nat.le_refl _)
 rw [h1, List.length_append, List.length_singleton]
 rcases Nat.lt_or_ge i p.length with h5 | h5
 ·exfalso
  have : l[i] ∈ p := by
   have e : l[i] = p[i] := by
    have : l = p ++ ([b] ++ r) := by rw [h, h1, List.append_assoc]
    subst this
    rw [List.getElem_append_left h5]
   rw [e]; exact List.getElem_mem h5
  have := h2 _ this
  omega
 ·omega
theorem rd_yes {l : List UInt8} {i : Nat} (hi : i < l.length) (hm : Mores (l.take i)) (hb : l[i].toNat < 128) (h0 : i = 0 ∨ l[i].toNat ≠ 0) (h9 : i < 9 ∨ (i = 9 ∧ l[i].toNat ≤ 1)) :
  RdR l (val (l.take (i + 1))) (i + 1) 0 ∧ num (val (l.take (i + 1))) = l.take (i + 1) := by
 have hlen : (l.take i).length = i := by rw [List.length_take]; omega
 have e : l.take (i + 1) = l.take i ++ [l[i]] := List.take_succ_eq_append_getElem hi
 obtain ⟨h1, h2⟩ := num_val (l.take i) l[i] hm hb (by
  rcases h0 with h | h
  ·left; subst h; rfl
  ·exact .inr h)
 rw [← e] at h1
 refine ⟨.inl ⟨rfl, ?_, ?_, l.drop (i + 1), ?_⟩, h1⟩
 ·rw [e, val_snoc, hlen]
  have := val_lt (l.take i)
  rw [hlen] at this
  rcases h9 with h9 | ⟨rfl, h9⟩
  ·have h3 : 128 ^ i ≤ 128 ^ 8 := Nat.pow_le_pow_right (by omega) (by omega)
   have h4 : l[i].toNat % 128 * 128 ^ i ≤ 127 * 128 ^ i := Nat.mul_le_mul_right _ (by omega)
   have : (128 : Nat) ^ 8 = 72057594037927936 := by decide
   omega
  ·have h4 : l[9].toNat % 128 * 128 ^ 9 ≤ 1 * 128 ^ 9 := Nat.mul_le_mul_right _ (by omega)
   have : (128 : Nat) ^ 9 = 9223372036854775808 := by decide
   omega
 ·rw [h1, List.length_take]; omega
 ·rw [h1, List.take_append_drop]
theorem rd_no {l : List UInt8} {i : Nat} (hi : i < l.length) (hm : Mores (l.take i)) (hb : l[i].toNat < 128) (h0 : ¬ ((i = 0 ∨ l[i].toNat ≠ 0) ∧ (i < 9 ∨ (i = 9 ∧ l[i].toNat ≤ 1)))) (v : Nat) (r : List UInt8) (hv : v < 18446744073709551616) : l ≠ num v ++ r := fun h => by
 have h1 := mores_num hm h
 have h2 := less_num hi hb h
 have hl : (num v).length = i + 1 := by omega
 have e : num v = l.take i ++ [l[i]] := by
  rw [← List.take_succ_eq_append_getElem hi, h, List.take_append, ← hl]; simp
 obtain ⟨p, b, f1, f2, f3, f4⟩ := num_form v v (Nat.le_refl _)
 have hlen : (l.take i).length = i := by rw [List.length_take]; omega
 rw [e] at f1
 obtain ⟨g1, g2⟩ := List.append_inj' f1 rfl
 simp at g2
 subst g1 g2
 have hten := grp_ten hv
 rw [← num_len, hl] at hten
 refine h0 ⟨?_, ?_⟩
 ·rcases f4 with f4 | f4
  ·left; rw [f4] at hlen; simpa using hlen.symm
  ·exact .inr f4
 ·rcases Nat.lt_or_ge i 9 with h9 | h9
  ·exact .inl h9
  ·obtain rfl : i = 9 := by omega
   refine .inr ⟨rfl, ?_⟩
   have hvv := val_num v v (Nat.le_refl _)
   rw [e, val_snoc, hlen] at hvv
   have : (128 : Nat) ^ 9 = 9223372036854775808 := by decide
   rw [this] at hvv
   omega
theorem rd_end {l : List UInt8} {i : Nat} (hm : Mores (l.take i)) (hi : l.length ≤ i ∨ i = 10) (v : Nat) (r : List UInt8) (hv : v < 18446744073709551616) : l ≠ num v ++ r := fun h => by
 have h1 := mores_num hm h
 have hten := grp_ten hv
 rw [← num_len] at hten
 have : (num v).length ≤ l.length := by rw [h, List.length_append]; omega
 rcases hi with hi | hi <;> omega
theorem RdR.size {l : List UInt8} {v k : Nat} {c : Int} (h : RdR l v k c) : k ≤ l.length ∧ k ≤ 10 ∧ v < 18446744073709551616 := by
 rcases h with ⟨_, h1, h2, r, h3⟩ | ⟨_, h1, h2, _⟩
 ·have := grp_ten h1
  rw [← num_len] at this
  rw [h3, List.length_append]; omega
 ·omega
def uns (n : Nat) : Int := if n % 2 = 0 then (n / 2 : Nat) else -1 - (n / 2 : Nat)
theorem uns_sig (n : Int) : uns (sig n) = n := by
 unfold uns sig
 split <;> split <;> omega
theorem sig_uns (n : Nat) : sig (uns n) = n := by
 unfold uns sig
 split <;> split <;> omega
theorem uns_in {n : Nat} (h : n < 18446744073709551616) : -9223372036854775808 ≤ uns n ∧ uns n ≤ 9223372036854775807 := by
 unfold uns; split <;> omega
def AllIn (L : List Int) : Prop := ∀ n ∈ L, -9223372036854775808 ≤ n ∧ n ≤ 9223372036854775807
structure Begun (l : List UInt8) (many : Nat) (done : List Int) (left : List UInt8) : Prop where
 eq : l = num many ++ body done ++ left
 le : done.length ≤ many
 in_ : AllIn done
theorem body_cons (a : Int) (L : List Int) : body (a :: L) = num (sig a) ++ body L := by simp [body]
theorem begun_of : ∀ (done L : List Int) (left : List UInt8), done.length ≤ L.length → body done ++ left = body L → L.take done.length = done ∧ left = body (L.drop done.length)
 | [], L, left, _, h => by simp [body] at h; simp [h, body]
 | a :: done, [], left, hl, _ => by simp at hl
 | a :: done, b :: L, left, hl, h => by
  rw [body_cons, body_cons, List.append_assoc] at h
  obtain ⟨h1, h2⟩ := num_pre h
  obtain ⟨h3, h4⟩ := begun_of done L left (by simpa using hl) h2
  refine ⟨?_, h4⟩
  rw [List.length_cons, List.take_succ_cons, h3, ← uns_sig a, h1, uns_sig]
theorem Begun.is {l left : List UInt8} {many : Nat} {done L : List Int} (h : Begun l many done left) (e : l = ints L) : many = L.length ∧ L.take done.length = done ∧ left = body (L.drop done.length) := by
 have h1 := h.eq
 rw [e, ints, List.append_assoc] at h1
 obtain ⟨h2, h3⟩ := num_pre h1
 subst h2
 exact ⟨rfl, begun_of done L left h.le h3.symm⟩
theorem Begun.start {l : List UInt8} {many : Nat} {left : List UInt8} (h : l = num many ++ left) : Begun l many [] left := ⟨by simp [h, body], by simp, fun n hn => by simp at hn⟩
theorem Begun.step {l left : List UInt8} {many : Nat} {done : List Int} (h : Begun l many done left) (hl : done.length < many) {v : Nat} {r : List UInt8} (hv : v < 18446744073709551616) (e : left = num v ++ r) : Begun l many (done ++ [uns v]) r :=
 ⟨by rw [body_snoc, sig_uns, h.eq, e]; simp, by simp; omega, fun n hn => by
  rcases List.mem_append.1 hn with h1 | h1
  ·exact h.in_ n h1
  ·simp at h1; subst h1; exact uns_in hv⟩
theorem Begun.fail {l left : List UInt8} {many : Nat} {done : List Int} (h : Begun l many done left) (hl : done.length < many) (hno : ∀ v r, v < 18446744073709551616 → left ≠ num v ++ r) (L : List Int) (hL : AllIn L) : l ≠ ints L := fun e => by
 obtain ⟨h1, h2, h3⟩ := h.is e
 have hd : done.length < L.length := by omega
 rw [List.drop_eq_getElem_cons hd, body_cons] at h3
 have := hL L[done.length] (List.getElem_mem hd)
 exact hno _ _ (sig_lt this.1 this.2) h3
theorem Begun.more {l left : List UInt8} {many : Nat} {done : List Int} (h : Begun l many done left) (hl : ¬ done.length < many) (hne : left ≠ []) (L : List Int) : l ≠ ints L := fun e => by
 obtain ⟨h1, h2, h3⟩ := h.is e
 have := h.le
 rw [List.drop_of_length_le (by omega)] at h3
 exact hne h3
theorem Begun.done {l : List UInt8} {many : Nat} {done : List Int} (h : Begun l many done []) (hl : ¬ done.length < many) : l = ints done := by
 have := h.le
 have e : many = done.length := by omega
 rw [h.eq, e]; simp [ints]
theorem no_ints {l : List UInt8} (hno : ∀ v r, v < 18446744073709551616 → l ≠ num v ++ r) (L : List Int) (hb : l.length < 18446744073709551616) : l ≠ ints L := fun e => by
 refine hno L.length (body L) ?_ e
 have : L.length ≤ (body L).length := by
  clear e
  induction L with
  | nil => simp
  | cons a L ih => rw [body_cons, List.length_append, List.length_cons, num_len]; have := grp_pos (sig a); omega
 have : l.length = (num L.length).length + (body L).length := by rw [e, ints, List.length_append]
 omega
theorem Begun.len {l left : List UInt8} {many : Nat} {done : List Int} (h : Begun l many done left) : done.length + left.length < l.length := by
 have : done.length ≤ (body done).length := by
  generalize done = L
  induction L with
  | nil => simp
  | cons a L ih => rw [body_cons, List.length_append, List.length_cons, num_len]; have := grp_pos (sig a); omega
 have h2 := grp_pos many
 rw [← num_len] at h2
 have := congrArg List.length h.eq
 simp only [List.length_append] at this
 omega
theorem ints_inj {L K : List Int} (h : ints L = ints K) : L = K := by
 unfold ints at h
 obtain ⟨h1, h2⟩ := num_pre h
 have := begun_of L K [] (by omega) (by simpa using h2)
 rw [← this.1, h1, List.take_length]
end Go.Proofs.YtdojgbpaheadnaaGreat

/- Lending, plainly: messages, and what a lender does with them. -/
namespace Go.Proofs.YtdojgbpaheadnaaGreat

structure Msg where
 frm : Int
 to : Int
 num : Int
 text : List UInt8
def I64 (n : Int) : Prop := -9223372036854775808 ≤ n ∧ n ≤ 9223372036854775807
abbrev Q4 := Int × Int × Int × Int
def q4 (q : Q4) : List Int := [q.1, q.2.1, q.2.2.1, q.2.2.2]
def Q4.ok (q : Q4) : Prop := I64 q.1 ∧ I64 q.2.1 ∧ I64 q.2.2.1 ∧ I64 q.2.2.2
theorem q4_inj {p q : Q4} (h : q4 p = q4 q) : p = q := by
 obtain ⟨a, b, c, d⟩ := p
 obtain ⟨a', b', c', d'⟩ := q
 simp only [q4, List.cons.injEq, and_true] at h
 obtain ⟨h1, h2, h3, h4⟩ := h
 subst h1 h2 h3 h4; rfl
theorem q4_all {q : Q4} : AllIn (q4 q) ↔ q.ok := by
 constructor
 ·intro h
  exact ⟨h _ (by simp [q4]), h _ (by simp [q4]), h _ (by simp [q4]), h _ (by simp [q4])⟩
 ·rintro ⟨h1, h2, h3, h4⟩ n hn
  simp only [q4, List.mem_cons, List.not_mem_nil, or_false] at hn
  rcases hn with rfl | rfl | rfl | rfl
  ·exact h1
  ·exact h2
  ·exact h3
  ·exact h4
open Classical in
noncomputable def dec (s : List UInt8) : Option Q4 := if h : ∃ q : Q4, q.ok ∧ s = ints (q4 q) then some (Classical.choose h) else none
theorem dec_some {s : List UInt8} {q : Q4} : dec s = some q ↔ q.ok ∧ s = ints (q4 q) := by
 unfold dec
 constructor
 ·intro h
  split at h
  ·rename_i hx
   injection h with h
   have := Classical.choose_spec hx
   rw [h] at this; exact this
  ·cases h
 ·rintro ⟨h1, h2⟩
  have hx : ∃ q : Q4, q.ok ∧ s = ints (q4 q) := ⟨q, h1, h2⟩
  rw [dif_pos hx]
  have hc := Classical.choose_spec hx
  have : q4 (Classical.choose hx) = q4 q := ints_inj (hc.2.symm.trans h2)
  rw [q4_inj this]
theorem dec_ints {q : Q4} (h : q.ok) : dec (ints (q4 q)) = some q := dec_some.2 ⟨h, rfl⟩
theorem dec_none {s : List UInt8} : dec s = none ↔ ∀ q : Q4, q.ok → s ≠ ints (q4 q) := by
 constructor
 ·intro h q hq e
  rw [dec_some.2 ⟨hq, e⟩] at h; cases h
 ·intro h
  cases hd : dec s with
  | none => rfl
  | some q => obtain ⟨h1, h2⟩ := dec_some.1 hd; exact absurd h2 (h q h1)
def txt (k a r v : Int) : List UInt8 := ints [k, a, r, v]

def ins (x : Int) (l : List Int) : List Int := l.takeWhile (· < x) ++ x :: l.dropWhile (· < x)
def pos (x : Int) (l : List Int) : Nat := (l.takeWhile (· < x)).length
theorem pos_le (x : Int) : ∀ l : List Int, pos x l ≤ l.length
 | [] => Nat.le_refl _
 | y :: l => by
  have := pos_le x l
  unfold pos at this ⊢
  rw [List.takeWhile_cons]
  split <;> simp <;> omega
theorem take_pos (x : Int) : ∀ l : List Int, l.take (pos x l) = l.takeWhile (· < x)
 | [] => rfl
 | y :: l => by
  unfold pos
  by_cases h : y < x
  ·simp only [List.takeWhile_cons, h, decide_true, if_true, List.length_cons, List.take_succ_cons]
   rw [show (List.takeWhile (fun z => decide (z < x)) l).length = pos x l from rfl, take_pos x l]
  ·simp [h]
theorem drop_pos (x : Int) : ∀ l : List Int, l.drop (pos x l) = l.dropWhile (· < x)
 | [] => rfl
 | y :: l => by
  unfold pos
  by_cases h : y < x
  ·simp only [List.takeWhile_cons, h, decide_true, if_true, List.length_cons, List.drop_succ_cons, List.dropWhile_cons]
   rw [show (List.takeWhile (fun z => decide (z < x)) l).length = pos x l from rfl, drop_pos x l]
  ·simp [h]
theorem ins_eq (x : Int) (l : List Int) : ins x l = l.take (pos x l) ++ x :: l.drop (pos x l) := by rw [take_pos, drop_pos]; rfl
theorem ins_len (x : Int) (l : List Int) : (ins x l).length = l.length + 1 := by
 rw [ins_eq]
 have := pos_le x l
 simp; omega

structure Deal where
 a : Int
 r : Int
 t : Int
 st : Nat
def kd : Nat → Int
 | 1 => 4
 | 2 => 3
 | 3 => 8
 | 4 => 10
 | _ => 12
structure Len where
 id : Int
 sent : Int
 here : List Int
 L : List Deal
def hit (a r : Int) (d : Deal) : Bool := decide (d.a = a) && decide (d.r = r)
def at_ (L : List Deal) (a r : Int) : Option Deal := L.find? (hit a r)
def setSt (L : List Deal) (a r : Int) (st : Nat) : List Deal := L.map fun d => if hit a r d then { d with st := st } else d
def mesg (id sent to k a r v : Int) : Msg := ⟨id, to, sent + 1, txt k a r v⟩
def Len.send (s : Len) (to k a r : Int) : Len × List Msg := ({ s with sent := s.sent + 1 }, [mesg s.id s.sent to k a r 0])
def Len.deal (s : Len) (a r v : Int) : Len :=
 if v ∈ s.here then { s with here := s.here.erase v, L := s.L ++ [⟨a, r, v, 2⟩] } else { s with L := s.L ++ [⟨a, r, v, 1⟩] }
def ans (k : Int) : Option (Nat × Nat) := if k = 7 then some (2, 3) else if k = 9 then some (3, 4) else if k = 11 then some (4, 5) else none
noncomputable def Len.take (s : Len) (m : Msg) : Len × List Msg :=
 match dec m.text with
 | none => (s, [])
 | some (k, a, r, v) =>
  if m.to ≠ s.id then (s, [])
  else if k = 2 ∧ m.frm = 0 then
   match at_ s.L a r with
   | none => (s.deal a r v).send 0 (if v ∈ s.here then 3 else 4) a r
   | some d => s.send 0 (if d.st = 1 then 4 else 3) a r
  else match at_ s.L a r with
   | none => (s, [])
   | some d =>
    match ans k with
    | none => (s, [])
    | some (p, q) =>
     if m.frm ≠ a ∨ d.st ≠ p ∧ d.st ≠ q then (s, [])
     else ({ s with here := if d.st = 4 ∧ q = 5 then ins d.t s.here else s.here, L := setSt s.L a r q } : Len).send a (kd q) a r
end Go.Proofs.YtdojgbpaheadnaaGreat

/- Lending, plainly: what an asker does. -/
namespace Go.Proofs.YtdojgbpaheadnaaGreat

structure Rq where
 n : Int
 t : Int
 st : Int
 l : Int
structure Asr where
 id : Int
 cap : Int
 sent : Int
 L : List Rq
def rq (L : List Rq) (n : Int) : Option Rq := L.find? fun q => decide (q.n = n)
def insQ (q : Rq) (L : List Rq) : List Rq := (L.takeWhile fun x => decide (x.n < q.n)) ++ q :: L.dropWhile fun x => decide (x.n < q.n)
def setQ (q : Rq) (L : List Rq) : List Rq := L.map fun x => if x.n = q.n then q else x
def many (L : List Rq) : Nat := L.countP fun q => decide (q.st ≠ 7)
def Asr.tell (s : Asr) (q : Rq) (k : Int) : Asr × List Msg :=
 if k = 0 then (s, []) else ({ s with sent := s.sent + 1 }, [if k = 1 then mesg s.id s.sent 0 1 s.id q.n q.t else mesg s.id s.sent q.l k s.id q.n 0])
def Asr.ask (s : Asr) (n t : Int) : (Asr × List Msg) × Int :=
 if n < 1 ∨ t < 1 then ((s, []), 1)
 else if (rq s.L n).isSome then ((s, []), 22)
 else if s.cap ≤ many s.L then ((s, []), 63)
 else (({ s with L := insQ ⟨n, t, 1, 0⟩ s.L } : Asr).tell ⟨n, t, 1, 0⟩ 1, 0)
def Asr.ret (s : Asr) (n : Int) : (Asr × List Msg) × Int :=
 match rq s.L n with
 | none => ((s, []), 32)
 | some q => if q.st ≠ 4 then ((s, []), 50) else (({ s with L := setQ { q with st := 5 } s.L } : Asr).tell { q with st := 5 } 11, 0)
def stp (k : Int) : Option (Int × Int × Int) :=
 if k = 5 then some (1, 2, 7) else if k = 6 then some (1, 7, 0) else if k = 8 then some (2, 3, 9) else if k = 10 then some (3, 4, 0) else if k = 12 then some (5, 6, 0) else none
noncomputable def Asr.take (s : Asr) (m : Msg) : Asr × List Msg :=
 match dec m.text with
 | none => (s, [])
 | some (k, a, r, v) =>
  if m.to ≠ s.id ∨ a ≠ s.id then (s, [])
  else match rq s.L r with
   | none => (s, [])
   | some x =>
    match stp k with
    | none => (s, [])
    | some (p, q, z) =>
     if x.st ≠ p ∨ m.frm ≠ (if x.st = 1 then 0 else x.l) then (s, [])
     else ({ s with L := setQ { x with st := q, l := if k = 5 then v else x.l } s.L } : Asr).tell { x with st := q, l := if k = 5 then v else x.l } z
def agn (st : Int) : Int := if st = 1 then 1 else if st = 2 then 7 else if st = 3 then 9 else if st = 5 then 11 else 0
def tickL : Asr → List Rq → Asr × List Msg
 | s, [] => (s, [])
 | s, q :: L => ((tickL (s.tell q (agn q.st)).1 L).1, (s.tell q (agn q.st)).2 ++ (tickL (s.tell q (agn q.st)).1 L).2)
def Asr.tick (s : Asr) : Asr × List Msg := tickL s s.L
def Asr.state (s : Asr) (n : Int) : Int := match rq s.L n with | some q => q.st | none => 0
def Asr.here (s : Asr) : List Int := ((s.L.filter fun q => decide (q.st = 4)).map Rq.t).mergeSort fun x y => decide (x ≤ y)
def SortedQ (L : List Rq) : Prop := L.Pairwise fun a b => a.n < b.n

theorem rq_some {L : List Rq} {n : Int} {q : Rq} (h : rq L n = some q) : q ∈ L ∧ q.n = n := ⟨List.mem_of_find?_eq_some h, by simpa using List.find?_some h⟩
theorem rq_mem {L : List Rq} (h : SortedQ L) {q : Rq} (hq : q ∈ L) : rq L q.n = some q := by
 induction L with
 | nil => cases hq
 | cons x L ih =>
  unfold SortedQ at h ih
  rw [List.pairwise_cons] at h
  unfold rq
  rw [List.find?_cons]
  rcases List.mem_cons.1 hq with rfl | hq
  ·simp
  ·have := h.1 q hq
   rw [show decide (x.n = q.n) = false by simp; omega]
   exact ih h.2 hq
theorem rq_app (L M : List Rq) (n : Int) : rq (L ++ M) n = (rq L n).or (rq M n) := by unfold rq; rw [List.find?_append]
theorem rq_none {L : List Rq} {n : Int} : rq L n = none ↔ ∀ q ∈ L, q.n ≠ n := by unfold rq; simp
theorem rq_ins {L : List Rq} {q : Rq} (hn : rq L q.n = none) (k : Int) : rq (insQ q L) k = if k = q.n then some q else rq L k := by
 have hx := rq_none.1 hn
 have e : L = (L.takeWhile fun x => decide (x.n < q.n)) ++ L.dropWhile fun x => decide (x.n < q.n) := (List.takeWhile_append_dropWhile ..).symm
 unfold insQ
 rw [rq_app]
 by_cases hk : k = q.n
 ·subst hk
  rw [if_pos rfl]
  have h1 : rq (L.takeWhile fun x => decide (x.n < q.n)) q.n = none := rq_none.2 fun y hy => hx y ((List.takeWhile_sublist _).subset hy)
  rw [h1]
  simp [rq]
 ·rw [if_neg hk]
  conv => rhs; rw [e, rq_app]
  congr 1
  unfold rq
  rw [List.find?_cons, show decide (q.n = k) = false by simp; omega]
theorem ins_sortedQ {L : List Rq} {q : Rq} (h : SortedQ L) (hn : rq L q.n = none) : SortedQ (insQ q L) := by
 induction L with
 | nil => simp [insQ, SortedQ]
 | cons x L ih =>
  have hx := rq_none.1 hn
  unfold SortedQ at h ih ⊢
  rw [List.pairwise_cons] at h
  have hn' : rq L q.n = none := rq_none.2 fun y hy => hx y (by simp [hy])
  unfold insQ
  by_cases hl : x.n < q.n
  ·simp only [List.takeWhile_cons, List.dropWhile_cons, hl, decide_true, if_true, List.cons_append]
   rw [List.pairwise_cons]
   refine ⟨fun y hy => ?_, ih h.2 hn'⟩
   rcases List.mem_append.1 hy with hy | hy
   ·exact h.1 y ((List.takeWhile_sublist _).subset hy)
   ·rcases List.mem_cons.1 hy with rfl | hy
    ·exact hl
    ·exact h.1 y ((List.dropWhile_sublist _).subset hy)
  ·simp only [List.takeWhile_cons, List.dropWhile_cons, hl, decide_false, Bool.false_eq_true, if_false, List.nil_append]
   have h1 := hx x (by simp)
   rw [List.pairwise_cons]
   refine ⟨fun y hy => ?_, List.pairwise_cons.2 h⟩
   rcases List.mem_cons.1 hy with rfl | hy
   ·omega
   ·have := h.1 y hy; omega
theorem ins_lenQ (q : Rq) (L : List Rq) : (insQ q L).length = L.length + 1 := by
 unfold insQ
 have := congrArg List.length (List.takeWhile_append_dropWhile (p := fun x : Rq => decide (x.n < q.n)) (l := L))
 rw [List.length_append] at this
 rw [List.length_append, List.length_cons]; omega
theorem ins_memQ {q y : Rq} {L : List Rq} : y ∈ insQ q L ↔ y = q ∨ y ∈ L := by
 unfold insQ
 conv => rhs; rw [← List.takeWhile_append_dropWhile (p := fun x : Rq => decide (x.n < q.n)) (l := L)]
 simp only [List.mem_append, List.mem_cons]
 constructor
 ·rintro (h | h | h)
  ·exact .inr (.inl h)
  ·exact .inl h
  ·exact .inr (.inr h)
 ·rintro (h | h | h)
  ·exact .inr (.inl h)
  ·exact .inl h
  ·exact .inr (.inr h)
theorem rq_set (q : Rq) (k : Int) : ∀ L : List Rq, rq (setQ q L) k = (rq L k).map fun x => if x.n = q.n then q else x
 | [] => rfl
 | x :: L => by
  have ih := rq_set q k L
  unfold rq setQ at ih ⊢
  rw [List.map_cons, List.find?_cons, List.find?_cons]
  have e : decide ((if x.n = q.n then q else x).n = k) = decide (x.n = k) := by
   by_cases h : x.n = q.n
   ·rw [if_pos h, h]
   ·rw [if_neg h]
  rw [e]
  cases decide (x.n = k) with
  | true => rfl
  | false => exact ih
theorem rq_set' {L : List Rq} {q x : Rq} (hx : rq L q.n = some x) (k : Int) : rq (setQ q L) k = if k = q.n then some q else rq L k := by
 rw [rq_set]
 by_cases hk : k = q.n
 ·subst hk
  rw [if_pos rfl, hx]
  simp [(rq_some hx).2]
 ·rw [if_neg hk]
  cases hr : rq L k with
  | none => rfl
  | some y =>
   have := (rq_some hr).2
   simp only [Option.map_some]
   rw [if_neg (by omega)]
theorem set_sortedQ {L : List Rq} {q : Rq} (h : SortedQ L) : SortedQ (setQ q L) := by
 unfold SortedQ setQ at *
 rw [List.pairwise_map]
 refine h.imp fun {a b} hab => ?_
 have e : ∀ x : Rq, (if x.n = q.n then q else x).n = x.n := fun x => by
  split
  ·rename_i h; exact h.symm
  ·rfl
 rw [e, e]; exact hab
theorem set_memQ {q y : Rq} {L : List Rq} (h : y ∈ setQ q L) : y = q ∨ y ∈ L := by
 unfold setQ at h
 obtain ⟨x, hx, rfl⟩ := List.mem_map.1 h
 split
 ·exact .inl rfl
 ·exact .inr hx
theorem set_lenQ (q : Rq) (L : List Rq) : (setQ q L).length = L.length := by simp [setQ]
end Go.Proofs.YtdojgbpaheadnaaGreat

/- Lending, plainly: what a broker does. -/
namespace Go.Proofs.YtdojgbpaheadnaaGreat

structure Cs where
 a : Int
 r : Int
 t : Int
 left : List Int
 g : Bool
structure Brk where
 id : Int
 sent : Int
 rota : List Int
 L : List Cs
def csHit (a r : Int) (c : Cs) : Bool := decide (c.a = a) && decide (c.r = r)
def cs (L : List Cs) (a r : Int) : Option Cs := L.find? (csHit a r)
def csLt (a r : Int) (c : Cs) : Bool := decide (c.a < a) || (decide (c.a = a) && decide (c.r < r))
def insC (c : Cs) (L : List Cs) : List Cs := L.takeWhile (csLt c.a c.r) ++ c :: L.dropWhile (csLt c.a c.r)
def setC (c : Cs) (L : List Cs) : List Cs := L.map fun x => if csHit c.a c.r x then c else x
def wr64 (x : Int) : Int := IntKind.i64.wrap x
def rotK (n : Nat) (a r : Int) : Nat := (wr64 (a + r) % (n : Int)).toNat
def rotOf (rota : List Int) (a r : Int) : List Int := (rota.drop (rotK rota.length a r) ++ rota.take (rotK rota.length a r)).filter fun x => !decide (x = a)
def Cs.opn (c : Cs) : Bool := !c.g && !c.left.isEmpty
def Brk.tell (s : Brk) (c : Cs) : Brk × List Msg :=
 ({ s with sent := s.sent + 1 }, [match c.left with
  | [] => mesg s.id s.sent c.a 6 c.a c.r 0
  | x :: _ => if c.g then mesg s.id s.sent c.a 5 c.a c.r x else mesg s.id s.sent x 2 c.a c.r c.t])
noncomputable def Brk.take (s : Brk) (m : Msg) : Brk × List Msg :=
 match dec m.text with
 | none => (s, [])
 | some (k, a, r, v) =>
  if m.to ≠ s.id then (s, [])
  else match cs s.L a r with
   | none => if k = 1 ∧ m.frm = a then ({ s with L := insC ⟨a, r, v, rotOf s.rota a r, false⟩ s.L } : Brk).tell ⟨a, r, v, rotOf s.rota a r, false⟩ else (s, [])
   | some c =>
    if k = 1 ∧ m.frm = a then (if c.opn then (s, []) else s.tell c)
    else if c.opn ∧ c.left.head? = some m.frm then
     if k = 3 then ({ s with L := setC { c with g := true } s.L } : Brk).tell { c with g := true }
     else if k = 4 then ({ s with L := setC { c with left := c.left.tail } s.L } : Brk).tell { c with left := c.left.tail }
     else (s, [])
    else (s, [])
def tickB : Brk → List Cs → Brk × List Msg
 | s, [] => (s, [])
 | s, c :: L => if c.opn then ((tickB (s.tell c).1 L).1, (s.tell c).2 ++ (tickB (s.tell c).1 L).2) else tickB s L
def Brk.tick (s : Brk) : Brk × List Msg := tickB s s.L
def csBefore (x y : Cs) : Prop := x.a < y.a ∨ x.a = y.a ∧ x.r < y.r
def SortedC (L : List Cs) : Prop := L.Pairwise csBefore

theorem csHit_iff {a r : Int} {c : Cs} : csHit a r c = true ↔ c.a = a ∧ c.r = r := by simp [csHit]
theorem csLt_iff {a r : Int} {c : Cs} : csLt a r c = true ↔ c.a < a ∨ c.a = a ∧ c.r < r := by simp [csLt]
theorem cs_some {L : List Cs} {a r : Int} {c : Cs} (h : cs L a r = some c) : c ∈ L ∧ c.a = a ∧ c.r = r := ⟨List.mem_of_find?_eq_some h, csHit_iff.1 (List.find?_some h)⟩
theorem cs_mem {L : List Cs} (h : SortedC L) {c : Cs} (hc : c ∈ L) : cs L c.a c.r = some c := by
 induction L with
 | nil => cases hc
 | cons x L ih =>
  unfold SortedC at h ih
  rw [List.pairwise_cons] at h
  unfold cs
  rw [List.find?_cons]
  rcases List.mem_cons.1 hc with rfl | hc
  ·simp [csHit]
  ·have := h.1 c hc
   unfold csBefore at this
   rw [show csHit c.a c.r x = false by rw [Bool.eq_false_iff]; intro e; rw [csHit_iff] at e; omega]
   exact ih h.2 hc
theorem cs_none {L : List Cs} {a r : Int} : cs L a r = none ↔ ∀ c ∈ L, ¬ (c.a = a ∧ c.r = r) := by
 unfold cs
 rw [List.find?_eq_none]
 constructor
 ·intro h c hc e; exact h c hc (csHit_iff.2 e)
 ·intro h c hc e; exact h c hc (csHit_iff.1 e)
theorem ins_memC {c y : Cs} {L : List Cs} : y ∈ insC c L ↔ y = c ∨ y ∈ L := by
 unfold insC
 conv => rhs; rw [← List.takeWhile_append_dropWhile (p := csLt c.a c.r) (l := L)]
 simp only [List.mem_append, List.mem_cons]
 constructor
 ·rintro (h | h | h)
  ·exact .inr (.inl h)
  ·exact .inl h
  ·exact .inr (.inr h)
 ·rintro (h | h | h)
  ·exact .inr (.inl h)
  ·exact .inl h
  ·exact .inr (.inr h)
theorem ins_sortedC {L : List Cs} {c : Cs} (h : SortedC L) (hn : cs L c.a c.r = none) : SortedC (insC c L) := by
 induction L with
 | nil => simp [insC, SortedC]
 | cons x L ih =>
  have hx := cs_none.1 hn
  unfold SortedC at h ih ⊢
  rw [List.pairwise_cons] at h
  have hn' : cs L c.a c.r = none := cs_none.2 fun y hy => hx y (by simp [hy])
  unfold insC
  by_cases hl : csLt c.a c.r x = true
  ·simp only [List.takeWhile_cons, List.dropWhile_cons, hl, if_true, List.cons_append]
   rw [List.pairwise_cons]
   rw [csLt_iff] at hl
   refine ⟨fun y hy => ?_, ih h.2 hn'⟩
   rcases List.mem_append.1 hy with hy | hy
   ·exact h.1 y ((List.takeWhile_sublist _).subset hy)
   ·rcases List.mem_cons.1 hy with rfl | hy
    ·exact hl
    ·exact h.1 y ((List.dropWhile_sublist _).subset hy)
  ·have hl' : csLt c.a c.r x = false := by simpa using hl
   simp only [List.takeWhile_cons, List.dropWhile_cons, hl', Bool.false_eq_true, if_false, List.nil_append]
   have h1 := hx x (by simp)
   rw [csLt_iff] at hl
   refine List.pairwise_cons.2 ⟨fun y hy => ?_, List.pairwise_cons.2 h⟩
   unfold csBefore
   rcases List.mem_cons.1 hy with rfl | hy
   ·omega
   ·have := h.1 y hy; unfold csBefore at this; omega
theorem cs_app (L M : List Cs) (a r : Int) : cs (L ++ M) a r = (cs L a r).or (cs M a r) := by unfold cs; rw [List.find?_append]
theorem cs_ins {L : List Cs} {c : Cs} (hn : cs L c.a c.r = none) (a r : Int) : cs (insC c L) a r = if a = c.a ∧ r = c.r then some c else cs L a r := by
 have hx := cs_none.1 hn
 have e : L = L.takeWhile (csLt c.a c.r) ++ L.dropWhile (csLt c.a c.r) := (List.takeWhile_append_dropWhile ..).symm
 unfold insC
 rw [cs_app]
 by_cases hk : a = c.a ∧ r = c.r
 ·obtain ⟨rfl, rfl⟩ := hk
  rw [if_pos ⟨rfl, rfl⟩]
  have h1 : cs (L.takeWhile (csLt c.a c.r)) c.a c.r = none := cs_none.2 fun y hy => hx y ((List.takeWhile_sublist _).subset hy)
  rw [h1]
  simp [cs, csHit]
 ·rw [if_neg hk]
  conv => rhs; rw [e, cs_app]
  congr 1
  unfold cs
  rw [List.find?_cons, show csHit a r c = false by rw [Bool.eq_false_iff]; intro h; rw [csHit_iff] at h; omega]
theorem cs_set (c : Cs) (a r : Int) : ∀ L : List Cs, cs (setC c L) a r = (cs L a r).map fun x => if csHit c.a c.r x then c else x
 | [] => rfl
 | x :: L => by
  have ih := cs_set c a r L
  unfold cs setC at ih ⊢
  rw [List.map_cons, List.find?_cons, List.find?_cons]
  have e : csHit a r (if csHit c.a c.r x then c else x) = csHit a r x := by
   by_cases h : csHit c.a c.r x = true
   ·rw [if_pos h]; rw [csHit_iff] at h; unfold csHit; rw [h.1, h.2]
   ·rw [if_neg h]
  rw [e]
  cases csHit a r x with
  | true => rfl
  | false => exact ih
theorem cs_set' {L : List Cs} {c x : Cs} (hx : cs L c.a c.r = some x) (a r : Int) : cs (setC c L) a r = if a = c.a ∧ r = c.r then some c else cs L a r := by
 rw [cs_set]
 by_cases hk : a = c.a ∧ r = c.r
 ·obtain ⟨rfl, rfl⟩ := hk
  rw [if_pos ⟨rfl, rfl⟩, hx, Option.map_some, if_pos (csHit_iff.2 (cs_some hx).2)]
 ·rw [if_neg hk]
  cases hr : cs L a r with
  | none => rfl
  | some y =>
   have := (cs_some hr).2
   rw [Option.map_some, if_neg]
   intro h; rw [csHit_iff] at h; omega
theorem set_key (c x : Cs) : (if csHit c.a c.r x then c else x).a = x.a ∧ (if csHit c.a c.r x then c else x).r = x.r := by
 by_cases h : csHit c.a c.r x = true
 ·rw [if_pos h]; rw [csHit_iff] at h; exact ⟨h.1.symm, h.2.symm⟩
 ·rw [if_neg h]; exact ⟨rfl, rfl⟩
theorem set_sortedC {L : List Cs} {c : Cs} (h : SortedC L) : SortedC (setC c L) := by
 unfold SortedC setC at *
 rw [List.pairwise_map]
 refine h.imp fun {x y} hxy => ?_
 unfold csBefore at *
 rw [(set_key c x).1, (set_key c x).2, (set_key c y).1, (set_key c y).2]; exact hxy
theorem set_memC {c y : Cs} {L : List Cs} (h : y ∈ setC c L) : y = c ∨ y ∈ L := by
 unfold setC at h
 obtain ⟨x, hx, rfl⟩ := List.mem_map.1 h
 split
 ·exact .inl rfl
 ·exact .inr hx
theorem ins_lenC (c : Cs) (L : List Cs) : (insC c L).length = L.length + 1 := by
 unfold insC
 have := congrArg List.length (List.takeWhile_append_dropWhile (p := csLt c.a c.r) (l := L))
 rw [List.length_append] at this
 rw [List.length_append, List.length_cons]; omega
theorem set_lenC (c : Cs) (L : List Cs) : (setC c L).length = L.length := by simp [setC]
theorem rotK_lt {n : Nat} (a r : Int) (h : 0 < n) : rotK n a r < n := by
 unfold rotK
 have h1 := Int.emod_lt_of_pos (wr64 (a + r)) (show (0 : Int) < n by omega)
 have h2 := Int.emod_nonneg (wr64 (a + r)) (show (n : Int) ≠ 0 by omega)
 omega
theorem rot_len (rota : List Int) (a r : Int) : (rotOf rota a r).length ≤ rota.length := by
 unfold rotOf
 refine Nat.le_trans (List.length_filter_le _ _) ?_
 rw [List.length_append, List.length_drop, List.length_take]; omega
theorem rot_mem {rota : List Int} {a r x : Int} (h : x ∈ rotOf rota a r) : x ∈ rota := by
 unfold rotOf at h
 have h := (List.mem_filter.1 h).1
 rcases List.mem_append.1 h with h | h
 ·exact List.mem_of_mem_drop h
 ·exact List.mem_of_mem_take h
end Go.Proofs.YtdojgbpaheadnaaGreat

/- Lending, plainly: what the reference's lists come to. -/
namespace Go.Proofs.YtdojgbpaheadnaaGreat

theorem ins_perm (x : Int) (l : List Int) : (ins x l).Perm (x :: l) := by
 have e : l = l.takeWhile (· < x) ++ l.dropWhile (· < x) := (List.takeWhile_append_dropWhile ..).symm
 unfold ins
 refine List.perm_middle.trans ?_
 rw [← e]
theorem ins_inOrder {x : Int} : ∀ {l : List Int}, l.Pairwise (· ≤ ·) → (ins x l).Pairwise (· ≤ ·)
 | [], _ => by simp [ins]
 | y :: l, h => by
  rw [List.pairwise_cons] at h
  have ih := ins_inOrder (x := x) h.2
  unfold ins at ih ⊢
  by_cases hl : y < x
  ·simp only [List.takeWhile_cons, List.dropWhile_cons, hl, decide_true, if_true, List.cons_append]
   rw [List.pairwise_cons]
   refine ⟨fun z hz => ?_, ih⟩
   have hz := (ins_perm x l).mem_iff.1 hz
   rcases List.mem_cons.1 hz with rfl | hz
   ·omega
   ·exact h.1 z hz
  ·simp only [List.takeWhile_cons, List.dropWhile_cons, hl, decide_false, Bool.false_eq_true, if_false, List.nil_append]
   refine List.pairwise_cons.2 ⟨fun z hz => ?_, List.pairwise_cons.2 h⟩
   rcases List.mem_cons.1 hz with rfl | hz
   ·omega
   ·have := h.1 z hz; omega
theorem perm_sorted {l m : List Int} (hl : l.Pairwise (· ≤ ·)) (hm : m.Pairwise (· ≤ ·)) (hp : l.Perm m) : l = m :=
 List.Perm.eq_of_pairwise (le := fun x y : Int => x ≤ y) (fun a b _ _ h1 h2 => Int.le_antisymm h1 h2) hl hm hp
theorem sorted_ms (D : List Int) : (D.mergeSort fun x y => decide (x ≤ y)).Pairwise (· ≤ ·) := by
 have := List.pairwise_mergeSort (le := fun x y : Int => decide (x ≤ y)) (fun a b c h1 h2 => by simp at *; omega) (fun a b => by simp; omega) D
 simpa using this
def insAll (D : List Int) : List Int := D.foldl (fun l x => ins x l) []
theorem insAll_snoc (D : List Int) (x : Int) : insAll (D ++ [x]) = ins x (insAll D) := by unfold insAll; rw [List.foldl_append]; rfl
theorem fold_ins : ∀ (D l : List Int), l.Pairwise (· ≤ ·) → (D.foldl (fun l x => ins x l) l).Pairwise (· ≤ ·) ∧ (D.foldl (fun l x => ins x l) l).Perm (D ++ l)
 | [], l, h => ⟨h, .refl _⟩
 | x :: D, l, h => by
  obtain ⟨h1, h2⟩ := fold_ins D (ins x l) (ins_inOrder h)
  refine ⟨h1, h2.trans (((ins_perm x l).append_left D).trans ?_)⟩
  exact List.perm_middle
theorem insAll_eq (D : List Int) : insAll D = D.mergeSort fun x y => decide (x ≤ y) := by
 obtain ⟨h1, h2⟩ := fold_ins D [] List.Pairwise.nil
 rw [List.append_nil] at h2
 exact perm_sorted h1 (sorted_ms D) (h2.trans (List.mergeSort_perm _ _).symm)
theorem insAll_len (D : List Int) : (insAll D).length = D.length := by rw [insAll_eq]; exact List.length_mergeSort _
theorem erase_at {v : Int} : ∀ {l : List Int} {i : Nat}, i < l.length → l[i]? = some v → (∀ j, j < i → l[j]? ≠ some v) → l.erase v = l.take i ++ l.drop (i + 1)
 | y :: l, 0, _, h, _ => by
  obtain rfl : y = v := by simpa using h
  simp
 | y :: l, i + 1, hi, h, hn => by
  have hy : y ≠ v := by simpa using hn 0 (by omega)
  have ih := erase_at (l := l) (i := i) (by simpa using hi) (by simpa using h) (fun j hj => by simpa using hn (j + 1) (by omega))
  rw [List.erase_cons_tail (by simpa using hy), ih]
  simp
end Go.Proofs.YtdojgbpaheadnaaGreat

/- What the laws' example comes to, plainly. -/
namespace Go.Proofs.YtdojgbpaheadnaaGreat

theorem decT {k a r v : Int} (h : Q4.ok (k, a, r, v)) : dec (txt k a r v) = some (k, a, r, v) := dec_ints (q := (k, a, r, v)) h
def Sm (x : Int) : Prop := -1000 ≤ x ∧ x ≤ 1000
instance (x : Int) : Decidable (Sm x) := inferInstanceAs (Decidable (_ ∧ _))
theorem okS {k a r v : Int} (h : Sm k ∧ Sm a ∧ Sm r ∧ Sm v) : Q4.ok (k, a, r, v) := by
 obtain ⟨h1, h2, h3, h4⟩ := h
 unfold Sm at h1 h2 h3 h4
 exact ⟨⟨by dsimp only; omega, by dsimp only; omega⟩, ⟨by dsimp only; omega, by dsimp only; omega⟩, ⟨by dsimp only; omega, by dsimp only; omega⟩, ⟨by dsimp only; omega, by dsimp only; omega⟩⟩
theorem az1 : (⟨2, 1, 0, []⟩ : Asr).ask 5 9 = ((⟨2, 1, 1, [⟨5, 9, 1, 0⟩]⟩, [mesg 2 0 0 1 2 5 9]), 0) := rfl
theorem az2 : (⟨2, 1, 1, [⟨5, 9, 1, 0⟩]⟩ : Asr).ask 6 9 = ((⟨2, 1, 1, [⟨5, 9, 1, 0⟩]⟩, []), 63) := rfl
theorem bz1 : (⟨0, 0, [3, 4], []⟩ : Brk).take (mesg 2 0 0 1 2 5 9) = (⟨0, 1, [3, 4], [⟨2, 5, 9, [4, 3], false⟩]⟩, [mesg 0 0 4 2 2 5 9]) := by
 unfold Brk.take
 rw [show (mesg 2 0 0 1 2 5 9).text = txt 1 2 5 9 from rfl, decT (okS (by decide))]
 rfl
theorem lz1 : (⟨4, 0, [9], []⟩ : Len).take (mesg 0 0 4 2 2 5 9) = (⟨4, 1, [], [⟨2, 5, 9, 2⟩]⟩, [mesg 4 0 0 3 2 5 0]) := by
 unfold Len.take
 rw [show (mesg 0 0 4 2 2 5 9).text = txt 2 2 5 9 from rfl, decT (okS (by decide))]
 rfl
theorem bz2 : (⟨0, 1, [3, 4], [⟨2, 5, 9, [4, 3], false⟩]⟩ : Brk).take (mesg 4 0 0 3 2 5 0) = (⟨0, 2, [3, 4], [⟨2, 5, 9, [4, 3], true⟩]⟩, [mesg 0 1 2 5 2 5 4]) := by
 unfold Brk.take
 rw [show (mesg 4 0 0 3 2 5 0).text = txt 3 2 5 0 from rfl, decT (okS (by decide))]
 rfl
theorem az3 : (⟨2, 1, 1, [⟨5, 9, 1, 0⟩]⟩ : Asr).take (mesg 0 1 2 5 2 5 4) = (⟨2, 1, 2, [⟨5, 9, 2, 4⟩]⟩, [mesg 2 1 4 7 2 5 0]) := by
 unfold Asr.take
 rw [show (mesg 0 1 2 5 2 5 4).text = txt 5 2 5 4 from rfl, decT (okS (by decide))]
 rfl
theorem lz2 : (⟨4, 1, [], [⟨2, 5, 9, 2⟩]⟩ : Len).take (mesg 2 1 4 7 2 5 0) = (⟨4, 2, [], [⟨2, 5, 9, 3⟩]⟩, [mesg 4 1 2 8 2 5 0]) := by
 unfold Len.take
 rw [show (mesg 2 1 4 7 2 5 0).text = txt 7 2 5 0 from rfl, decT (okS (by decide))]
 rfl
theorem az4 : (⟨2, 1, 2, [⟨5, 9, 2, 4⟩]⟩ : Asr).take (mesg 4 1 2 8 2 5 0) = (⟨2, 1, 3, [⟨5, 9, 3, 4⟩]⟩, [mesg 2 2 4 9 2 5 0]) := by
 unfold Asr.take
 rw [show (mesg 4 1 2 8 2 5 0).text = txt 8 2 5 0 from rfl, decT (okS (by decide))]
 rfl
theorem lz3 : (⟨4, 2, [], [⟨2, 5, 9, 3⟩]⟩ : Len).take (mesg 2 2 4 9 2 5 0) = (⟨4, 3, [], [⟨2, 5, 9, 4⟩]⟩, [mesg 4 2 2 10 2 5 0]) := by
 unfold Len.take
 rw [show (mesg 2 2 4 9 2 5 0).text = txt 9 2 5 0 from rfl, decT (okS (by decide))]
 rfl
theorem az5 : (⟨2, 1, 3, [⟨5, 9, 3, 4⟩]⟩ : Asr).take (mesg 4 2 2 10 2 5 0) = (⟨2, 1, 3, [⟨5, 9, 4, 4⟩]⟩, []) := by
 unfold Asr.take
 rw [show (mesg 4 2 2 10 2 5 0).text = txt 10 2 5 0 from rfl, decT (okS (by decide))]
 rfl
theorem az6 : (⟨2, 1, 3, [⟨5, 9, 4, 4⟩]⟩ : Asr).ret 5 = ((⟨2, 1, 4, [⟨5, 9, 5, 4⟩]⟩, [mesg 2 3 4 11 2 5 0]), 0) := rfl
theorem lz4 : (⟨4, 3, [], [⟨2, 5, 9, 4⟩]⟩ : Len).take (mesg 2 3 4 11 2 5 0) = (⟨4, 4, [9], [⟨2, 5, 9, 5⟩]⟩, [mesg 4 3 2 12 2 5 0]) := by
 unfold Len.take
 rw [show (mesg 2 3 4 11 2 5 0).text = txt 11 2 5 0 from rfl, decT (okS (by decide))]
 rfl
theorem az7 : (⟨2, 1, 4, [⟨5, 9, 5, 4⟩]⟩ : Asr).take (mesg 4 3 2 12 2 5 0) = (⟨2, 1, 4, [⟨5, 9, 6, 4⟩]⟩, []) := by
 unfold Asr.take
 rw [show (mesg 4 3 2 12 2 5 0).text = txt 12 2 5 0 from rfl, decT (okS (by decide))]
 rfl
theorem hz0 : (⟨2, 1, 3, [⟨5, 9, 4, 4⟩]⟩ : Asr).here = [9] := by simp [Asr.here]
theorem hz1 : (⟨2, 1, 4, [⟨5, 9, 6, 4⟩]⟩ : Asr).here = [] := by simp [Asr.here]
end Go.Proofs.YtdojgbpaheadnaaGreat

/- The broker's tick, plainly. -/
namespace Go.Proofs.YtdojgbpaheadnaaGreat
theorem tellB (s : Brk) (c : Cs) : ∃ m, s.tell c = ({ s with sent := s.sent + 1 }, [m]) := ⟨_, rfl⟩
theorem tickB_snoc (c : Cs) : ∀ (A : List Cs) (s : Brk), tickB s (A ++ [c]) = if c.opn then (((tickB s A).1.tell c).1, (tickB s A).2 ++ ((tickB s A).1.tell c).2) else tickB s A
 | [], s => by
  by_cases h : c.opn = true <;> simp [tickB, h]
 | x :: A, s => by
  have i1 := tickB_snoc c A s
  have i2 := tickB_snoc c A (s.tell x).1
  by_cases h : c.opn = true
  ·rw [if_pos h] at i1 i2 ⊢
   by_cases hx : x.opn = true
   ·simp only [List.cons_append, tickB, if_pos hx, i2, List.append_assoc]
   ·simp only [List.cons_append, tickB, if_neg hx, i1]
  ·rw [if_neg h] at i1 i2 ⊢
   by_cases hx : x.opn = true
   ·simp only [List.cons_append, tickB, if_pos hx, i2]
   ·simp only [List.cons_append, tickB, if_neg hx, i1]
theorem tickB_same : ∀ (A : List Cs) (s : Brk), ∃ j : Int, (tickB s A).1 = { s with sent := s.sent + j } ∧ 0 ≤ j ∧ j ≤ A.length ∧ (tickB s A).2.length ≤ A.length
 | [], s => ⟨0, by simp [tickB], by omega, by simp, by simp [tickB]⟩
 | x :: A, s => by
  by_cases hx : x.opn = true
  ·obtain ⟨m, hm⟩ := tellB s x
   obtain ⟨j, h1, h2, h3, h4⟩ := tickB_same A (s.tell x).1
   refine ⟨j + 1, ?_, by omega, by rw [List.length_cons]; omega, ?_⟩
   ·simp only [tickB, if_pos hx]
    rw [h1, hm]
    exact congrArg (fun z => ({ s with sent := z } : Brk)) (show s.sent + 1 + j = s.sent + (j + 1) by omega)
   ·simp only [tickB, if_pos hx, List.length_append, List.length_cons]
    rw [hm] at h4 ⊢
    simp at h4 ⊢; omega
  ·obtain ⟨j, h1, h2, h3, h4⟩ := tickB_same A s
   refine ⟨j, ?_, h2, by rw [List.length_cons]; omega, ?_⟩
   ·simp only [tickB, if_neg hx, h1]
   ·simp only [tickB, if_neg hx, List.length_cons]; omega
theorem opn_iff {c : Cs} : c.opn = true ↔ c.g = false ∧ c.left ≠ [] := by
 unfold Cs.opn
 cases c.g <;> cases c.left <;> simp
end Go.Proofs.YtdojgbpaheadnaaGreat
