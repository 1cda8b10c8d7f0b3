import Derived.Test.YtmnkgjgaileokaaTC
import Derived.Test.YtmnkgjgaileokaaProg
import Derived.WalkKit
import Derived.WalkSpells
import Derived.WalkLawsBesides
import Derived.Laws.IdiomStrings
import Derived.Laws.BitsLemmas
import Derived.Outline

/- Plain laws of reading numbers: a number's code is not the beginning of another one's; what a sequence of bytes stands for. -/
namespace Go.Proofs.Ytmnkgjgaileokaa

theorem ofNat_eq {a b : Nat} (ha : a < 256) (hb : b < 256) (h : UInt8.ofNat a = UInt8.ofNat b) : a = b := by
  have := congrArg UInt8.toNat h
  rw [UInt8.toNat_ofNat', UInt8.toNat_ofNat'] at this
  rwa [Nat.mod_eq_of_lt ha, Nat.mod_eq_of_lt hb] at this
theorem num_inj : ∀ (k m n : Nat) (r t : List UInt8), m ≤ k → num m ++ r = num n ++ t → m = n ∧ r = t := by
  intro k
  induction k using Nat.strongRecOn with
  | ind k ih =>
    intro m n r t hk h
    by_cases hm : m < 128 <;> by_cases hn : n < 128
    · rw [num_small hm, num_small hn] at h
      simp only [List.cons_append, List.nil_append, List.cons.injEq] at h
      exact ⟨ofNat_eq (by omega) (by omega) h.1, h.2⟩
    · rw [num_small hm, num_great hn] at h
      simp only [List.cons_append, List.nil_append, List.cons.injEq] at h
      have := ofNat_eq (by omega) (by omega) h.1
      omega
    · rw [num_great hm, num_small hn] at h
      simp only [List.cons_append, List.nil_append, List.cons.injEq] at h
      have := ofNat_eq (by omega) (by omega) h.1
      omega
    · rw [num_great hm, num_great hn] at h
      simp only [List.cons_append, List.cons.injEq] at h
      have h1 := ofNat_eq (by omega) (by omega) h.1
      obtain ⟨h2, h3⟩ := ih (m / 128) (by omega) (m / 128) (n / 128) r t (Nat.le_refl _) h.2
      exact ⟨by omega, h3⟩
theorem num_pre {m n : Nat} {r t : List UInt8} (h : num m ++ r = num n ++ t) : m = n ∧ r = t := num_inj m m n r t (Nat.le_refl _) h
/-- What bytes stand for. -/
def val : List UInt8 → Nat
  | [] => 0
  | b :: l => b.toNat % 128 + 128 * val l
theorem val_snoc : ∀ (l : List UInt8) (b : UInt8), val (l ++ [b]) = val l + b.toNat % 128 * 128 ^ l.length
  | [], b => by simp [val]
  | a :: l, b => by
    simp only [List.cons_append, val, val_snoc l b, List.length_cons, Nat.pow_succ]
    rw [Nat.mul_add, Nat.add_assoc]
    congr 2
    rw [Nat.mul_comm 128, Nat.mul_assoc]
theorem val_lt : ∀ l : List UInt8, val l < 128 ^ l.length
  | [] => by simp [val]
  | a :: l => by
    have := val_lt l
    simp only [val, List.length_cons, Nat.pow_succ]
    omega
/-- All bytes but the last say that there are more. -/
def Mores (l : List UInt8) : Prop := ∀ b ∈ l, 128 ≤ b.toNat
theorem Mores.snoc {l : List UInt8} {b : UInt8} (h : Mores l) (hb : 128 ≤ b.toNat) : Mores (l ++ [b]) := fun x hx => by
  rcases List.mem_append.1 hx with h1 | h1
  · exact h x h1
  · simp at h1; subst h1; exact hb
theorem val_num : ∀ (k n : Nat), n ≤ k → val (num n) = n := by
  intro k
  induction k using Nat.strongRecOn with
  | ind k ih =>
    intro n hk
    by_cases hn : n < 128
    · rw [num_small hn]
      simp only [val, UInt8.toNat_ofNat']
      omega
    · rw [num_great hn]
      simp only [val, UInt8.toNat_ofNat', ih (n / 128) (by omega) (n / 128) (Nat.le_refl _)]
      omega
theorem num_form : ∀ (k n : Nat), n ≤ k → ∃ (l : List UInt8) (b : UInt8), num n = l ++ [b] ∧ Mores l ∧ b.toNat < 128 ∧ (l = [] ∨ b.toNat ≠ 0) := by
  intro k
  induction k using Nat.strongRecOn with
  | ind k ih =>
    intro n hk
    by_cases hn : n < 128
    · refine ⟨[], UInt8.ofNat n, num_small hn, fun x hx => by simp at hx, ?_, .inl rfl⟩
      rw [UInt8.toNat_ofNat']; omega
    · obtain ⟨l, b, h1, h2, h3, h4⟩ := ih (n / 128) (by omega) (n / 128) (Nat.le_refl _)
      refine ⟨UInt8.ofNat (n % 128 + 128) :: l, b, by rw [num_great hn, h1]; rfl, ?_, h3, .inr ?_⟩
      · intro x hx
        rcases List.mem_cons.1 hx with rfl | hx
        · rw [UInt8.toNat_ofNat']; omega
        · exact h2 x hx
      · rcases h4 with h4 | h4
        · subst h4
          have : val (num (n / 128)) = n / 128 := val_num _ _ (Nat.le_refl _)
          rw [h1] at this
          simp only [List.nil_append, val] at this
          omega
        · exact h4
/-- Bytes of the form are a number's code. -/
theorem num_val : ∀ (l : List UInt8) (b : UInt8), Mores l → b.toNat < 128 → (l = [] ∨ b.toNat ≠ 0) → num (val (l ++ [b])) = l ++ [b] ∧ (l ≠ [] → 128 ^ l.length ≤ val (l ++ [b]))
  | [], b, _, hb, _ => by
    simp only [List.nil_append, val]
    refine ⟨?_, fun h => absurd rfl h⟩
    rw [num_small (by omega)]
    congr 1
    apply UInt8.toNat_inj.1
    rw [UInt8.toNat_ofNat']; omega
  | a :: l, b, hm, hb, h0 => by
    have ha : 128 ≤ a.toNat := hm a (by simp)
    have ha2 := a.toNat_lt
    have hb0 : b.toNat ≠ 0 := by
      rcases h0 with h0 | h0
      · simp at h0
      · exact h0
    obtain ⟨h1, h2⟩ := num_val l b (fun x hx => hm x (by simp [hx])) hb (.inr hb0)
    have hpos : 128 ^ l.length ≤ val (l ++ [b]) := by
      rcases l with _ | ⟨c, l⟩
      · simp [val]; omega
      · exact h2 (by simp)
    have hpp : 0 < 128 ^ l.length := Nat.pow_pos (by omega)
    have e : val (a :: l ++ [b]) = a.toNat % 128 + 128 * val (l ++ [b]) := rfl
    have hg : ¬ val (a :: l ++ [b]) < 128 := by rw [e]; omega
    refine ⟨?_, fun _ => ?_⟩
    · rw [num_great hg]
      have e1 : val (a :: l ++ [b]) / 128 = val (l ++ [b]) := by rw [e]; omega
      have e2 : val (a :: l ++ [b]) % 128 = a.toNat % 128 := by rw [e]; omega
      rw [e1, e2, h1]
      show _ :: (l ++ [b]) = a :: (l ++ [b])
      congr 1
      apply UInt8.toNat_inj.1
      rw [UInt8.toNat_ofNat']; omega
    · rw [e, List.length_cons, Nat.pow_succ]; omega
/-- The number at the beginning of bytes, and the size of its code (0 and 0 with an error). -/
def RdR (l : List UInt8) (v : Nat) (k : Nat) (c : Int) : Prop :=
  (c = 0 ∧ v < 18446744073709551616 ∧ k = (num v).length ∧ ∃ r, l = num v ++ r) ∨ ((c = 10 ∨ c = 11) ∧ v = 0 ∧ k = 0 ∧ ∀ v r, v < 18446744073709551616 → l ≠ num v ++ r)
theorem mores_num {l : List UInt8} {i : Nat} (hm : Mores (l.take i)) {v : Nat} {r : List UInt8} (h : l = num v ++ r) : i < (num v).length := by
  obtain ⟨p, b, h1, h2, h3, h4⟩ := num_form v v (Nat.le_refl _)
  rcases Nat.lt_or_ge i (num v).length with h5 | h5
  · exact h5
  · exfalso
    have : b ∈ l.take i := by
      rw [h, List.take_append]
      refine List.mem_append_left _ ?_
      rw [List.take_of_length_le h5, h1]
      simp
    have := hm b this
    omega
theorem less_num {l : List UInt8} {i : Nat} (hi : i < l.length) (hb : l[i].toNat < 128) {v : Nat} {r : List UInt8} (h : l = num v ++ r) : (num v).length ≤ i + 1 := by
  obtain ⟨p, b, h1, h2, h3, h4⟩ := num_form v v (Nat.le_refl _)
  rw [h1, List.length_append, List.length_singleton]
  rcases Nat.lt_or_ge i p.length with h5 | h5
  · exfalso
    have : l[i] ∈ p := by
      have e : l[i] = p[i] := by
        have : l = p ++ ([b] ++ r) := by rw [h, h1, List.append_assoc]
        subst this
        rw [List.getElem_append_left h5]
      rw [e]; exact List.getElem_mem h5
    have := h2 _ this
    omega
  · omega
theorem rd_yes {l : List UInt8} {i : Nat} (hi : i < l.length) (hm : Mores (l.take i)) (hb : l[i].toNat < 128) (h0 : i = 0 ∨ l[i].toNat ≠ 0) (h9 : i < 9 ∨ (i = 9 ∧ l[i].toNat ≤ 1)) :
    RdR l (val (l.take (i + 1))) (i + 1) 0 ∧ num (val (l.take (i + 1))) = l.take (i + 1) := by
  have hlen : (l.take i).length = i := by rw [List.length_take]; omega
  have e : l.take (i + 1) = l.take i ++ [l[i]] := List.take_succ_eq_append_getElem hi
  obtain ⟨h1, h2⟩ := num_val (l.take i) l[i] hm hb (by
    rcases h0 with h | h
    · left; subst h; rfl
    · exact .inr h)
  rw [← e] at h1
  refine ⟨.inl ⟨rfl, ?_, ?_, l.drop (i + 1), ?_⟩, h1⟩
  · rw [e, val_snoc, hlen]
    have := val_lt (l.take i)
    rw [hlen] at this
    rcases h9 with h9 | ⟨rfl, h9⟩
    · have h3 : 128 ^ i ≤ 128 ^ 8 := Nat.pow_le_pow_right (by omega) (by omega)
      have h4 : l[i].toNat % 128 * 128 ^ i ≤ 127 * 128 ^ i := Nat.mul_le_mul_right _ (by omega)
      have : (128 : Nat) ^ 8 = 72057594037927936 := by decide
      omega
    · have h4 : l[9].toNat % 128 * 128 ^ 9 ≤ 1 * 128 ^ 9 := Nat.mul_le_mul_right _ (by omega)
      have : (128 : Nat) ^ 9 = 9223372036854775808 := by decide
      omega
  · rw [h1, List.length_take]; omega
  · rw [h1, List.take_append_drop]
theorem rd_no {l : List UInt8} {i : Nat} (hi : i < l.length) (hm : Mores (l.take i)) (hb : l[i].toNat < 128) (h0 : ¬ ((i = 0 ∨ l[i].toNat ≠ 0) ∧ (i < 9 ∨ (i = 9 ∧ l[i].toNat ≤ 1)))) (v : Nat) (r : List UInt8) (hv : v < 18446744073709551616) : l ≠ num v ++ r := fun h => by
  have h1 := mores_num hm h
  have h2 := less_num hi hb h
  have hl : (num v).length = i + 1 := by omega
  have e : num v = l.take i ++ [l[i]] := by
    rw [← List.take_succ_eq_append_getElem hi, h, List.take_append, ← hl]; simp
  obtain ⟨p, b, f1, f2, f3, f4⟩ := num_form v v (Nat.le_refl _)
  have hlen : (l.take i).length = i := by rw [List.length_take]; omega
  rw [e] at f1
  obtain ⟨g1, g2⟩ := List.append_inj' f1 rfl
  simp at g2
  subst g1 g2
  have hten := grp_ten hv
  rw [← num_len, hl] at hten
  refine h0 ⟨?_, ?_⟩
  · rcases f4 with f4 | f4
    · left; rw [f4] at hlen; simpa using hlen.symm
    · exact .inr f4
  · rcases Nat.lt_or_ge i 9 with h9 | h9
    · exact .inl h9
    · obtain rfl : i = 9 := by omega
      refine .inr ⟨rfl, ?_⟩
      have hvv := val_num v v (Nat.le_refl _)
      rw [e, val_snoc, hlen] at hvv
      have : (128 : Nat) ^ 9 = 9223372036854775808 := by decide
      rw [this] at hvv
      omega
theorem rd_end {l : List UInt8} {i : Nat} (hm : Mores (l.take i)) (hi : l.length ≤ i ∨ i = 10) (v : Nat) (r : List UInt8) (hv : v < 18446744073709551616) : l ≠ num v ++ r := fun h => by
  have h1 := mores_num hm h
  have hten := grp_ten hv
  rw [← num_len] at hten
  have : (num v).length ≤ l.length := by rw [h, List.length_append]; omega
  rcases hi with hi | hi <;> omega
theorem RdR.size {l : List UInt8} {v k : Nat} {c : Int} (h : RdR l v k c) : k ≤ l.length ∧ k ≤ 10 ∧ v < 18446744073709551616 := by
  rcases h with ⟨_, h1, h2, r, h3⟩ | ⟨_, h1, h2, _⟩
  · have := grp_ten h1
    rw [← num_len] at this
    rw [h3, List.length_append]; omega
  · omega
/-- The integer of a number. -/
def uns (n : Nat) : Int := if n % 2 = 0 then (n / 2 : Nat) else -1 - (n / 2 : Nat)
theorem uns_sig (n : Int) : uns (sig n) = n := by
  unfold uns sig
  split <;> split <;> omega
theorem sig_uns (n : Nat) : sig (uns n) = n := by
  unfold uns sig
  split <;> split <;> omega
theorem uns_in {n : Nat} (h : n < 18446744073709551616) : -9223372036854775808 ≤ uns n ∧ uns n ≤ 9223372036854775807 := by
  unfold uns; split <;> omega
def AllIn (L : List Int) : Prop := ∀ n ∈ L, -9223372036854775808 ≤ n ∧ n ≤ 9223372036854775807
/-- What the beginning of a code says. -/
structure Begun (l : List UInt8) (many : Nat) (done : List Int) (left : List UInt8) : Prop where
  eq : l = num many ++ body done ++ left
  le : done.length ≤ many
  in_ : AllIn done
theorem body_cons (a : Int) (L : List Int) : body (a :: L) = num (sig a) ++ body L := by simp [body]
theorem begun_of : ∀ (done L : List Int) (left : List UInt8), done.length ≤ L.length → body done ++ left = body L → L.take done.length = done ∧ left = body (L.drop done.length)
  | [], L, left, _, h => by simp [body] at h; simp [h, body]
  | a :: done, [], left, hl, _ => by simp at hl
  | a :: done, b :: L, left, hl, h => by
    rw [body_cons, body_cons, List.append_assoc] at h
    obtain ⟨h1, h2⟩ := num_pre h
    obtain ⟨h3, h4⟩ := begun_of done L left (by simpa using hl) h2
    refine ⟨?_, h4⟩
    rw [List.length_cons, List.take_succ_cons, h3, ← uns_sig a, h1, uns_sig]
theorem Begun.is {l left : List UInt8} {many : Nat} {done L : List Int} (h : Begun l many done left) (e : l = ints L) : many = L.length ∧ L.take done.length = done ∧ left = body (L.drop done.length) := by
  have h1 := h.eq
  rw [e, ints, List.append_assoc] at h1
  obtain ⟨h2, h3⟩ := num_pre h1
  subst h2
  exact ⟨rfl, begun_of done L left h.le h3.symm⟩
theorem Begun.start {l : List UInt8} {many : Nat} {left : List UInt8} (h : l = num many ++ left) : Begun l many [] left := ⟨by simp [h, body], by simp, fun n hn => by simp at hn⟩
theorem Begun.step {l left : List UInt8} {many : Nat} {done : List Int} (h : Begun l many done left) (hl : done.length < many) {v : Nat} {r : List UInt8} (hv : v < 18446744073709551616) (e : left = num v ++ r) : Begun l many (done ++ [uns v]) r :=
  ⟨by rw [body_snoc, sig_uns, h.eq, e]; simp, by simp; omega, fun n hn => by
    rcases List.mem_append.1 hn with h1 | h1
    · exact h.in_ n h1
    · simp at h1; subst h1; exact uns_in hv⟩
theorem Begun.fail {l left : List UInt8} {many : Nat} {done : List Int} (h : Begun l many done left) (hl : done.length < many) (hno : ∀ v r, v < 18446744073709551616 → left ≠ num v ++ r) (L : List Int) (hL : AllIn L) : l ≠ ints L := fun e => by
  obtain ⟨h1, h2, h3⟩ := h.is e
  have hd : done.length < L.length := by omega
  rw [List.drop_eq_getElem_cons hd, body_cons] at h3
  have := hL L[done.length] (List.getElem_mem hd)
  exact hno _ _ (sig_lt this.1 this.2) h3
theorem Begun.more {l left : List UInt8} {many : Nat} {done : List Int} (h : Begun l many done left) (hl : ¬ done.length < many) (hne : left ≠ []) (L : List Int) : l ≠ ints L := fun e => by
  obtain ⟨h1, h2, h3⟩ := h.is e
  have := h.le
  rw [List.drop_of_length_le (by omega)] at h3
  exact hne h3
theorem Begun.done {l : List UInt8} {many : Nat} {done : List Int} (h : Begun l many done []) (hl : ¬ done.length < many) : l = ints done := by
  have := h.le
  have e : many = done.length := by omega
  rw [h.eq, e]; simp [ints]
theorem no_ints {l : List UInt8} (hno : ∀ v r, v < 18446744073709551616 → l ≠ num v ++ r) (L : List Int) (hb : l.length < 18446744073709551616) : l ≠ ints L := fun e => by
  refine hno L.length (body L) ?_ e
  have : L.length ≤ (body L).length := by
    clear e
    induction L with
    | nil => simp
    | cons a L ih => rw [body_cons, List.length_append, List.length_cons, num_len]; have := grp_pos (sig a); omega
  have : l.length = (num L.length).length + (body L).length := by rw [e, ints, List.length_append]
  omega
theorem Begun.len {l left : List UInt8} {many : Nat} {done : List Int} (h : Begun l many done left) : done.length + left.length < l.length := by
  have : done.length ≤ (body done).length := by
    generalize done = L
    induction L with
    | nil => simp
    | cons a L ih => rw [body_cons, List.length_append, List.length_cons, num_len]; have := grp_pos (sig a); omega
  have h2 := grp_pos many
  rw [← num_len] at h2
  have := congrArg List.length h.eq
  simp only [List.length_append] at this
  omega
theorem ints_inj {L K : List Int} (h : ints L = ints K) : L = K := by
  unfold ints at h
  obtain ⟨h1, h2⟩ := num_pre h
  have := begun_of L K [] (by omega) (by simpa using h2)
  rw [← this.1, h1, List.take_length]
end Go.Proofs.Ytmnkgjgaileokaa

/- The contract of codec.ReadNumber. -/
namespace Go.Proofs.Ytmnkgjgaileokaa
open Go.RowKit

/-- What a reading returns. -/
def RdE (s : ByteArray) (e : Ending) : Prop := ∃ (v k : Nat) (c : Int), e = .returned (.tuple #[.int .u64 (v : Int), .int .i64 (k : Int), .int .i64 c]) ∧ RdR s.data.toList v k c
theorem bytes_made (t : ByteArray) (w : World) (ht : t.size ≤ maxLen) : ∃ cap w1, (convert 9 57 (.string t)).run Try.prog w = .ok (.slice (some ⟨w.heap.size, 0, none⟩) t.size cap) w1 ∧ t.size ≤ cap ∧ cap ≤ maxLen ∧ Below w.heap.size w w1 ∧ w1.heap.size = w.heap.size + 1 ∧
    (∃ cells : Array Value, ∃ f, w1.heap[w.heap.size]? = some (.cells cells 5 f) ∧ cells.size = cap) ∧
    (∀ j (hj : j < t.data.size), w1.cell? ⟨w.heap.size, j, none⟩ = some (.int .u8 (t.data[j].toNat : Int))) ∧ ∀ o, o < t.size → w1.frozen? ⟨w.heap.size, o, none⟩ = false := by
  have hg := grownCap_ge w t.size 0 5
  have hsz : (bytesRow t (grownCap w t.size 0 5)).size = grownCap w t.size 0 5 := by
    simp only [bytesRow, Array.size_append, Array.size_map, Array.size_replicate]
    show t.size + _ = _
    omega
  have hh : ∀ o : Obj, (w.drew.alloc o).heap[w.heap.size]? = some o := fun o => by
    show (w.heap.push o)[w.heap.size]? = _
    simp
  refine ⟨_, _, run_bytes_of_string w 9 57 5 t Try.underlying9 Try.underlying57 Try.underlying5, hg, ?_, ((Below.refl _ w).drew).alloc (Nat.le_refl _) _, ?_, ⟨_, _, hh _, hsz⟩, ?_, ?_⟩
  · exact grownCap_le_maxLen w t.size 0 5 ht
  · show (w.heap.push _).size = _; simp
  · intro j hj
    have := bytesRow_at t (grownCap w t.size 0 5) j hj
    unfold World.cell?
    simp only [hh]
    exact this
  · intro o ho
    unfold World.frozen?
    simp only [hh, hsz]
    have : ¬ grownCap w t.size 0 5 ≤ o := by omega
    simp [this]
set_option maxRecDepth 100000 in
theorem wrap64u (n : Int) : IntKind.u64.wrap n = n % 18446744073709551616 := by unfold IntKind.wrap; simp only [IntKind.bits, IntKind.signed]; rfl
theorem wraps64u (n : Int) (h0 : 0 ≤ n) (h1 : n < 2 ^ 64) : IntKind.u64.wrap n = n := by rw [wrap64u]; omega
theorem pow7 (k : Nat) : (2 : Nat) ^ (7 * k) = 128 ^ k := by rw [Nat.pow_mul]
/-- A further group. -/
theorem or_group (m k : Nat) (b : UInt8) (hm : m < 18446744073709551616) : ∃ m' : Nat, bits .or .u64 (m : Int) (IntKind.u64.wrap ((b.toNat : Int) % 128 * 2 ^ (7 * k))) = (m' : Int) ∧ m' < 18446744073709551616 ∧
    (m < 128 ^ k → (k < 9 ∨ (k = 9 ∧ b.toNat ≤ 1)) → m' = m + b.toNat % 128 * 128 ^ k) := by
  have e0 : ((b.toNat : Int) % 128 * 2 ^ (7 * k)) = ((b.toNat % 128 * 128 ^ k : Nat) : Int) := by
    rw [← pow7]; push_cast; rfl
  rw [e0]
  have e1 : IntKind.u64.wrap ((b.toNat % 128 * 128 ^ k : Nat) : Int) = ((b.toNat % 128 * 128 ^ k % 18446744073709551616 : Nat) : Int) := by rw [wrap64u]; generalize b.toNat % 128 * 128 ^ k = x; omega
  rw [e1]
  have hx : b.toNat % 128 * 128 ^ k % 18446744073709551616 < 2 ^ 64 := Nat.mod_lt _ (by omega)
  have hb := (bits_nat .u64 64 (by decide) wraps64u m (b.toNat % 128 * 128 ^ k % 18446744073709551616) (by omega) hx).2
  refine ⟨m ||| (b.toNat % 128 * 128 ^ k % 18446744073709551616), hb, ?_, fun h1 h2 => ?_⟩
  · have := @Nat.or_lt_two_pow m (b.toNat % 128 * 128 ^ k % 18446744073709551616) 64 (by omega) hx
    omega
  · have hlt : b.toNat % 128 * 128 ^ k < 18446744073709551616 := by
      rcases h2 with h2 | ⟨rfl, h2⟩
      · have h3 : 128 ^ k ≤ 128 ^ 8 := Nat.pow_le_pow_right (by omega) (by omega)
        have h4 : b.toNat % 128 * 128 ^ k ≤ 127 * 128 ^ k := Nat.mul_le_mul_right _ (by omega)
        have : (128 : Nat) ^ 8 = 72057594037927936 := by decide
        omega
      · have h4 : b.toNat % 128 * 128 ^ 9 ≤ 1 * 128 ^ 9 := Nat.mul_le_mul_right _ (by omega)
        have : (128 : Nat) ^ 9 = 9223372036854775808 := by decide
        omega
    rw [Nat.mod_eq_of_lt hlt, ← pow7]
    have := Nat.two_pow_add_eq_or_of_lt (i := 7 * k) (b := m) (by rw [pow7]; exact h1) (b.toNat % 128)
    rw [Nat.or_comm, Nat.mul_comm, ← this]
    omega
theorem rd_step {l : List UInt8} {k m : Nat} (hk : k < l.length) (hm6 : m < 18446744073709551616) (hm : k < 10 → m = val (l.take k)) (hM : Mores (l.take k)) (h10 : k < 10) :
    ∃ m' : Nat, bits .or .u64 (m : Int) (IntKind.u64.wrap ((l[k].toNat : Int) % 128 * 2 ^ (7 * k))) = (m' : Int) ∧ m' < 18446744073709551616 ∧
      (((k = 0 ∨ l[k].toNat ≠ 0) ∧ (k < 9 ∨ (k = 9 ∧ l[k].toNat ≤ 1))) → l[k].toNat < 128 → RdR l m' (k + 1) 0) ∧
      (¬ ((k = 0 ∨ l[k].toNat ≠ 0) ∧ (k < 9 ∨ (k = 9 ∧ l[k].toNat ≤ 1))) → l[k].toNat < 128 → ∀ v r, v < 18446744073709551616 → l ≠ num v ++ r) ∧
      (128 ≤ l[k].toNat → Mores (l.take (k + 1)) ∧ (k + 1 < 10 → m' = val (l.take (k + 1)))) := by
  have hl : (l.take k).length = k := by rw [List.length_take]; omega
  have hv := val_lt (l.take k)
  rw [hl, ← hm h10] at hv
  have e : l.take (k + 1) = l.take k ++ [l[k]] := List.take_succ_eq_append_getElem hk
  have hval : val (l.take (k + 1)) = m + l[k].toNat % 128 * 128 ^ k := by rw [e, val_snoc, hl, ← hm h10]
  obtain ⟨m', h1, h2, h3⟩ := or_group m k l[k] hm6
  refine ⟨m', h1, h2, fun h hb => ?_, fun h hb => rd_no hk hM hb h, fun hb => ⟨by rw [e]; exact hM.snoc hb, fun h => by rw [hval]; exact h3 hv (.inl (by omega))⟩⟩
  rw [h3 hv h.2, ← hval]
  exact (rd_yes hk hM hb h.1 h.2).1
theorem dlen (s : ByteArray) : s.data.toList.length = s.size := by simp
theorem take_cell (s : ByteArray) (n k : Nat) (h : k < (s.extract 0 n).data.size) (hs : k < s.data.toList.length) : (s.extract 0 n).data[k] = s.data.toList[k] := by
  simp [ByteArray.data_extract, Array.getElem_extract]
set_option maxRecDepth 100000 in
set_option maxHeartbeats 1000000 in
theorem crd_any (s : ByteArray) (w : World) (hs : s.size ≤ 1000000000) : Calls Try.prog 86 #[.string s] w fun e w' => RdE s e ∧ Below w.heap.size w w' := by
  by_cases h10 : s.size ≤ 10
  · obtain ⟨cap, w1, hrun, hc1, hc2, hb, hz, _, hcell, _⟩ := bytes_made s w (by unfold maxLen; omega)
    have HC : RowKit.Hid (∀ j (hj : j < s.size), w1.cell? ⟨w.heap.size, j, none⟩ = some (.int .u8 ((s.data.toList[j]'(by rw [dlen]; exact hj)).toNat : Int))) := Lib.hid fun j hj => hcell j hj
    have HB := Lib.hid hb
    have hc3 : cap ≤ 9223372036854775807 := by unfold maxLen at hc2; omega
    clear hcell hb hz hc2
    go_enter Try.func86, Try.ntmps86
    go_wp2_with fail
    go_loopw [5, 15] (fun n i wr => ∃ k m : Nat, k ≤ s.size ∧ i = .int .i64 k ∧ n = .int .u64 m ∧ wr = w1 ∧ m < 18446744073709551616 ∧ (k < 10 → m = val (s.data.toList.take k)) ∧ Mores (s.data.toList.take k)) (fun _ i _ => 10 - (intOf i).toNat)
    case atStart => exact ⟨0, 0, by omega, rfl, rfl, rfl, by omega, fun _ => by simp [val], fun x hx => by simp at hx⟩
    case round =>
      obtain ⟨k, m, hk, rfl, rfl, rfl, hm6, hm, hM⟩ := hrel
      have HM := Lib.hid hm
      have HMM := Lib.hid hM
      clear hm hM
      by_cases hlt : k < s.size
      · have hcl := HC.out k hlt
        have hkl : k < s.data.toList.length := by rw [dlen]; omega
        obtain ⟨m', hor, hm7, hY, hN, hS⟩ := rd_step hkl hm6 HM.out HMM.out (by omega)
        have HY := Lib.hid hY
        have HN := Lib.hid hN
        have HS := Lib.hid hS
        clear hY hN hS
        generalize s.data.toList[k] = b at *
        have hb := b.toNat_lt
        by_cases hb7 : 128 ≤ b.toNat
        · go_wp2_with fail
          exact ⟨⟨k + 1, m', by omega, by go_num, by first | rfl | trivial, by first | rfl | trivial, hm7, fun h => (HS.out hb7).2 h, (HS.out hb7).1⟩, by simp [intOf]; omega⟩
        · by_cases hg : (k = 0 ∨ b.toNat ≠ 0) ∧ (k < 9 ∨ (k = 9 ∧ b.toNat ≤ 1))
          · have key := Lib.hid (HY.out hg (by omega))
            obtain ⟨g1, g2⟩ := hg
            have q1 : (decide (0 < (k : Int)) && ((b.toNat : Int) == 0)) = false := by simp; omega
            rcases Nat.lt_or_ge k 9 with h9 | h9
            · rcases Nat.lt_or_ge 0 k with h0 | h0
              rotate_left
              · have q3 : ((k : Int) == 9) = false := by simp; omega
                go_wp2_with fail
                go_ret3
                exact ⟨⟨m', k + 1, 0, rfl, key.out⟩, HB.out⟩
              · have q2 : ((b.toNat : Int) == 0) = false := by simp; omega
                have q3 : ((k : Int) == 9) = false := by simp; omega
                go_wp2_with fail
                go_ret3
                exact ⟨⟨m', k + 1, 0, rfl, key.out⟩, HB.out⟩
            · have q1 : ((k : Int) == 9) = true := by simp; omega
              have q2 : ((b.toNat : Int) == 0) = false := by simp; omega
              have q3 : (b.toNat : Int) ≤ 1 := by omega
              have q4 : 0 < k := by omega
              clear g1 g2
              go_wp2_with fail
              go_ret3
              exact ⟨⟨m', k + 1, 0, rfl, key.out⟩, HB.out⟩
          · have key := Lib.hid (HN.out hg (by omega))
            rcases Nat.eq_zero_or_pos b.toNat with h0 | h0
            · have q0 : 0 < k := by omega
              have q2 : ((b.toNat : Int) == 0) = true := by simp; omega
              clear hg
              go_wp2_with fail
              go_ret3
              exact ⟨⟨0, 0, 11, rfl, .inr ⟨.inr rfl, rfl, rfl, key.out⟩⟩, HB.out⟩
            · have q1 : ((k : Int) == 9) = true := by simp; omega
              have q2 : ((b.toNat : Int) == 0) = false := by simp; omega
              have q3 : 1 < (b.toNat : Int) := by omega
              have q4 : 0 < k := by omega
              clear hg
              go_wp2_with fail
              go_ret3
              exact ⟨⟨0, 0, 11, rfl, .inr ⟨.inr rfl, rfl, rfl, key.out⟩⟩, HB.out⟩
      · obtain rfl : k = s.size := by omega
        have key := Lib.hid (rd_end HMM.out (by rw [dlen]; omega))
        by_cases h9 : s.size < 10
        · go_wp2_with fail
          go_ret3
          exact ⟨⟨0, 0, 10, rfl, .inr ⟨.inl rfl, rfl, rfl, key.out⟩⟩, HB.out⟩
        · go_wp2_with fail
          go_ret3
          exact ⟨⟨0, 0, 11, rfl, .inr ⟨.inr rfl, rfl, rfl, key.out⟩⟩, HB.out⟩
  · have ht : (s.extract 0 10).size = 10 := by rw [ByteArray.size_extract]; omega
    obtain ⟨cap, w1, hrun, hc1, hc2, hb, hz, _, hcell, _⟩ := bytes_made (s.extract 0 10) w (by unfold maxLen; omega)
    have HC : RowKit.Hid (∀ j (hj : j < 10), w1.cell? ⟨w.heap.size, j, none⟩ = some (.int .u8 ((s.data.toList[j]'(by rw [dlen]; omega)).toNat : Int))) := Lib.hid fun j hj => by
      have h1 : j < (s.extract 0 10).data.size := by show j < (s.extract 0 10).size; omega
      rw [hcell j h1, take_cell s 10 j h1 (by rw [dlen]; omega)]
    have HB := Lib.hid hb
    have hc3 : cap ≤ 9223372036854775807 := by unfold maxLen at hc2; omega
    rw [ht] at hrun hc1
    clear hcell hb hz hc2 ht
    go_enter Try.func86, Try.ntmps86
    go_wp2_with fail
    go_loopw [5, 15] (fun n i wr => ∃ k m : Nat, k ≤ 10 ∧ i = .int .i64 k ∧ n = .int .u64 m ∧ wr = w1 ∧ m < 18446744073709551616 ∧ (k < 10 → m = val (s.data.toList.take k)) ∧ Mores (s.data.toList.take k)) (fun _ i _ => 10 - (intOf i).toNat)
    case atStart => exact ⟨0, 0, by omega, rfl, rfl, rfl, by omega, fun _ => by simp [val], fun x hx => by simp at hx⟩
    case round =>
      obtain ⟨k, m, hk, rfl, rfl, rfl, hm6, hm, hM⟩ := hrel
      have HM := Lib.hid hm
      have HMM := Lib.hid hM
      clear hm hM
      by_cases hlt : k < 10
      · have hcl := HC.out k hlt
        have hkl : k < s.data.toList.length := by rw [dlen]; omega
        obtain ⟨m', hor, hm7, hY, hN, hS⟩ := rd_step hkl hm6 HM.out HMM.out (by omega)
        have HY := Lib.hid hY
        have HN := Lib.hid hN
        have HS := Lib.hid hS
        clear hY hN hS
        generalize s.data.toList[k] = b at *
        have hb := b.toNat_lt
        by_cases hb7 : 128 ≤ b.toNat
        · go_wp2_with fail
          exact ⟨⟨k + 1, m', by omega, by go_num, by first | rfl | trivial, by first | rfl | trivial, hm7, fun h => (HS.out hb7).2 h, (HS.out hb7).1⟩, by simp [intOf]; omega⟩
        · by_cases hg : (k = 0 ∨ b.toNat ≠ 0) ∧ (k < 9 ∨ (k = 9 ∧ b.toNat ≤ 1))
          · have key := Lib.hid (HY.out hg (by omega))
            obtain ⟨g1, g2⟩ := hg
            have q1 : (decide (0 < (k : Int)) && ((b.toNat : Int) == 0)) = false := by simp; omega
            rcases Nat.lt_or_ge k 9 with h9 | h9
            · rcases Nat.lt_or_ge 0 k with h0 | h0
              rotate_left
              · have q3 : ((k : Int) == 9) = false := by simp; omega
                go_wp2_with fail
                go_ret3
                exact ⟨⟨m', k + 1, 0, rfl, key.out⟩, HB.out⟩
              · have q2 : ((b.toNat : Int) == 0) = false := by simp; omega
                have q3 : ((k : Int) == 9) = false := by simp; omega
                go_wp2_with fail
                go_ret3
                exact ⟨⟨m', k + 1, 0, rfl, key.out⟩, HB.out⟩
            · have q1 : ((k : Int) == 9) = true := by simp; omega
              have q2 : ((b.toNat : Int) == 0) = false := by simp; omega
              have q3 : (b.toNat : Int) ≤ 1 := by omega
              have q4 : 0 < k := by omega
              clear g1 g2
              go_wp2_with fail
              go_ret3
              exact ⟨⟨m', k + 1, 0, rfl, key.out⟩, HB.out⟩
          · have key := Lib.hid (HN.out hg (by omega))
            rcases Nat.eq_zero_or_pos b.toNat with h0 | h0
            · have q0 : 0 < k := by omega
              have q2 : ((b.toNat : Int) == 0) = true := by simp; omega
              clear hg
              go_wp2_with fail
              go_ret3
              exact ⟨⟨0, 0, 11, rfl, .inr ⟨.inr rfl, rfl, rfl, key.out⟩⟩, HB.out⟩
            · have q1 : ((k : Int) == 9) = true := by simp; omega
              have q2 : ((b.toNat : Int) == 0) = false := by simp; omega
              have q3 : 1 < (b.toNat : Int) := by omega
              have q4 : 0 < k := by omega
              clear hg
              go_wp2_with fail
              go_ret3
              exact ⟨⟨0, 0, 11, rfl, .inr ⟨.inr rfl, rfl, rfl, key.out⟩⟩, HB.out⟩
      · obtain rfl : k = 10 := by omega
        have key := Lib.hid (rd_end HMM.out (by rw [dlen]; omega))
        go_wp2_with fail
        go_ret3
        exact ⟨⟨0, 0, 11, rfl, .inr ⟨.inr rfl, rfl, rfl, key.out⟩⟩, HB.out⟩
end Go.Proofs.Ytmnkgjgaileokaa

/- The contracts of codec's Unsigned, input.number and ReadInts. -/
namespace Go.Proofs.Ytmnkgjgaileokaa
open Go.RowKit

theorem xor64 (a : Nat) (ha : a < 9223372036854775808) : bits .xor .i64 (a : Int) 0 = a ∧ bits .xor .i64 (a : Int) (-1) = -1 - a := by
  have h0 : BitVec.ofInt 64 (a : Int) = BitVec.ofNat 64 a := by
    apply BitVec.eq_of_toNat_eq
    simp
  constructor
  · show IntKind.i64.wrap (((BitVec.ofInt 64 (a : Int)) ^^^ (BitVec.ofInt 64 0)).toNat : Int) = a
    rw [h0, show BitVec.ofInt 64 0 = 0#64 from rfl, BitVec.xor_zero, BitVec.toNat_ofNat, Nat.mod_eq_of_lt (by omega), IntKind.wrap_i64]
    omega
  · show IntKind.i64.wrap (((BitVec.ofInt 64 (a : Int)) ^^^ (BitVec.ofInt 64 (-1))).toNat : Int) = -1 - a
    rw [h0, show BitVec.ofInt 64 (-1) = BitVec.allOnes 64 from rfl, BitVec.xor_allOnes, BitVec.toNat_not, BitVec.toNat_ofNat, Nat.mod_eq_of_lt (by omega), IntKind.wrap_i64]
    omega
set_option maxRecDepth 100000 in
theorem unsigned_any (n : Nat) (w : World) (h : n < 18446744073709551616) : Calls Try.prog 79 #[.int .u64 (n : Int)] w fun e w' => e = .returned (.int .i64 (uns n)) ∧ w = w' := by
  have hand : bits .and .u64 (n : Int) 1 = ((n % 2 : Nat) : Int) := by
    have := (bits_nat .u64 64 (by decide) wraps64u n 1 (by omega) (by omega)).1
    rw [Nat.and_one_is_mod] at this
    exact this
  have HU : uns n = if n % 2 = 0 then ((n / 2 : Nat) : Int) else -1 - ((n / 2 : Nat) : Int) := rfl
  have hx := xor64 (n / 2) (by omega)
  have e2 : ((n / 2 : Nat) : Int) = (n : Int) / 2 := by omega
  rcases Nat.mod_two_eq_zero_or_one n with h2 | h2
  · rw [h2] at hand
    rw [if_pos h2] at HU
    rw [HU]
    have HX := Lib.hid hx.1
    rw [e2] at HX
    clear HU h2 hx e2
    go_enter Try.func79, Try.ntmps79
    go_wp2
    go_ret
    exact ⟨ret_int (by rw [HX.out]; omega), rfl⟩
  · rw [h2] at hand
    rw [if_neg (by omega)] at HU
    rw [HU]
    have HX := Lib.hid hx.2
    rw [e2] at HX
    clear HU h2 hx e2
    go_enter Try.func79, Try.ntmps79
    go_wp2
    go_ret
    exact ⟨ret_int (by rw [HX.out]; omega), rfl⟩
/-- The reader's two cells: what is left, and the first error. -/
def InAt (w : World) (b : Nat) (s : ByteArray) (c : Int) : Prop := Blk w b #[.string s, .int .i64 c] 107
/-- What a reading leaves: the number, and the rest, or an error. -/
def NumE (s : ByteArray) (b : Nat) (w : World) (e : Ending) (w' : World) : Prop :=
  ∃ (v k : Nat) (c : Int), e = .returned (.int .u64 (v : Int)) ∧ RdR s.data.toList v k c ∧ InAt w' b (s.extract k s.size) c ∧ Below b w w' ∧ ∀ i, b < i → i < w.heap.size → w'.heap[i]? = w.heap[i]?
set_option maxRecDepth 100000 in
set_option maxHeartbeats 1000000 in
theorem number_in {w : World} {b : Nat} {s : ByteArray} (h : InAt w b s 0) (hs : s.size ≤ 1000000000) : Calls Try.prog 78 #[.pointer (some ⟨b, 0, none⟩)] w (NumE s b w) := by
  have H := Lib.hid h
  have c0 := Blk.cell h 0
  have c1 := Blk.cell h 1
  have hf := Blk.frozen h
  have hlt := Blk.lt h
  simp at c0 c1
  clear h
  go_enter Try.func78, Try.ntmps78
  go_wp2_with fail
  refine (crd_any s w hs).mono ?_
  rintro e w1 ⟨⟨v, k, c, rfl, hR⟩, hb⟩
  have H1 := Lib.hid (Blk.below H.out hb hlt)
  have c0 := Blk.cell H1.out 0
  have c1 := Blk.cell H1.out 1
  have hf := Blk.frozen H1.out
  have HB := Lib.hid hb
  simp at c0 c1
  have hz := hR.size
  have hkl : k ≤ s.size := by have := hz.1; rw [dlen] at this; exact this
  have hk10 := hz.2.1
  have hv := hz.2.2
  have HR := Lib.hid hR
  clear hb hR hz
  go_wp2_with fail
  go_ret
  have h2 := (Blk.set (Blk.set H1.out 0 (.string (s.extract k s.size))) 1 (.int .i64 c))
  refine ⟨v, k, c, rfl, HR.out, by simpa [InAt] using h2, ((HB.out.mono (Nat.le_of_lt hlt)).setCell (p := ⟨b, 0, none⟩) (Nat.le_refl _) _).setCell (p := ⟨b, 1, none⟩) (Nat.le_refl _) _, fun i hi hi2 => ?_⟩
  have hne : i ≠ b := by omega
  exact ((Below.heap_setCell _ ⟨b, 1, none⟩ _ i hne).trans (Below.heap_setCell _ ⟨b, 0, none⟩ _ i hne)).trans (HB.out.block i hi2)
end Go.Proofs.Ytmnkgjgaileokaa
