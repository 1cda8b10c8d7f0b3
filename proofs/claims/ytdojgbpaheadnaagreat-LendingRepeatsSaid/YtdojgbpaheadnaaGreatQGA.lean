/- The contract of codec.ReadNumber. -/
import Derived.Test.YtdojgbpaheadnaaGreatQP
import Derived.Test.YtdojgbpaheadnaaGreatProg
import Derived.WalkKit
import Derived.WalkSpells
import Derived.WalkLawsBesides
import Derived.Laws.IdiomStrings
import Derived.Laws.BitsLemmas
import Derived.Outline
set_option linter.unusedVariables false
set_option linter.unusedSimpArgs false

namespace Go.Proofs.YtdojgbpaheadnaaGreat
open Go.RowKit

def RdE (s : ByteArray) (e : Ending) : Prop := ∃ (v k : Nat) (c : Int), e = .returned (.tuple #[.int .u64 (v : Int), .int .i64 (k : Int), .int .i64 c]) ∧ RdR s.data.toList v k c
theorem bytes_made (t : ByteArray) (w : World) (ht : t.size ≤ maxLen) : ∃ cap w1, (convert 9 23 (.string t)).run Tryz.prog w = .ok (.slice (some ⟨w.heap.size, 0, none⟩) t.size cap) w1 ∧ t.size ≤ cap ∧ cap ≤ maxLen ∧ Below w.heap.size w w1 ∧ w1.heap.size = w.heap.size + 1 ∧
  (∃ cells : Array Value, ∃ f, w1.heap[w.heap.size]? = some (.cells cells 5 f) ∧ cells.size = cap) ∧
  (∀ j (hj : j < t.data.size), w1.cell? ⟨w.heap.size, j, none⟩ = some (.int .u8 (t.data[j].toNat : Int))) ∧ ∀ o, o < t.size → w1.frozen? ⟨w.heap.size, o, none⟩ = false := by
 have hg := grownCap_ge w t.size 0 5
 have hsz : (bytesRow t (grownCap w t.size 0 5)).size = grownCap w t.size 0 5 := by
  simp only [bytesRow, Array.size_append, Array.size_map, Array.size_replicate]
  show t.size + _ = _
  omega
 have hh : ∀ o : Obj, (w.drew.alloc o).heap[w.heap.size]? = some o := fun o => by
  show (w.heap.push o)[w.heap.size]? = _
  simp
 refine ⟨_, _, run_bytes_of_string w 9 23 5 t Tryz.underlying9 Tryz.underlying23 Tryz.underlying5, hg, ?_, ((Below.refl _ w).drew).alloc (Nat.le_refl _) _, ?_, ⟨_, _, hh _, hsz⟩, ?_, ?_⟩
 ·exact grownCap_le_maxLen w t.size 0 5 ht
 ·show (w.heap.push _).size = _; simp
 ·intro j hj
  have := bytesRow_at t (grownCap w t.size 0 5) j hj
  unfold World.cell?
  simp only [hh]
  exact this
 ·intro o ho
  unfold World.frozen?
  simp only [hh, hsz]
  have : ¬ grownCap w t.size 0 5 ≤ o := by omega
  simp [this]
set_option maxRecDepth 100000 in
theorem wrap64u (n : Int) : IntKind.u64.wrap n = n % 18446744073709551616 := by unfold IntKind.wrap; simp only [IntKind.bits, IntKind.signed]; rfl
theorem wraps64u (n : Int) (h0 : 0 ≤ n) (h1 : n < 2 ^ 64) : IntKind.u64.wrap n = n := by rw [wrap64u]; omega
theorem pow7 (k : Nat) : (2 : Nat) ^ (7 * k) = 128 ^ k := by rw [Nat.pow_mul]
theorem or_group (m k : Nat) (b : UInt8) (hm : m < 18446744073709551616) : ∃ m' : Nat, bits .or .u64 (m : Int) (IntKind.u64.wrap ((b.toNat : Int) % 128 * 2 ^ (7 * k))) = (m' : Int) ∧ m' < 18446744073709551616 ∧
  (m < 128 ^ k → (k < 9 ∨ (k = 9 ∧ b.toNat ≤ 1)) → m' = m + b.toNat % 128 * 128 ^ k) := by
 have e0 : ((b.toNat : Int) % 128 * 2 ^ (7 * k)) = ((b.toNat % 128 * 128 ^ k : Nat) : Int) := by
  rw [← pow7]; push_cast; rfl
 rw [e0]
 have e1 : IntKind.u64.wrap ((b.toNat % 128 * 128 ^ k : Nat) : Int) = ((b.toNat % 128 * 128 ^ k % 18446744073709551616 : Nat) : Int) := by rw [wrap64u]; generalize b.toNat % 128 * 128 ^ k = x; omega
 rw [e1]
 have hx : b.toNat % 128 * 128 ^ k % 18446744073709551616 < 2 ^ 64 := Nat.mod_lt _ (by omega)
 have hb := (bits_nat .u64 64 (by decide) wraps64u m (b.toNat % 128 * 128 ^ k % 18446744073709551616) (by omega) hx).2
 refine ⟨m ||| (b.toNat % 128 * 128 ^ k % 18446744073709551616), hb, ?_, fun h1 h2 => ?_⟩
 ·have := @Nat.or_lt_two_pow m (b.toNat % 128 * 128 ^ k % 18446744073709551616) 64 (by omega) hx
  omega
 ·have hlt : b.toNat % 128 * 128 ^ k < 18446744073709551616 := by
   rcases h2 with h2 | ⟨rfl, h2⟩
   ·have h3 : 128 ^ k ≤ 128 ^ 8 := Nat.pow_le_pow_right (by omega) (by omega)
    have h4 : b.toNat % 128 * 128 ^ k ≤ 127 * 128 ^ k := Nat.mul_le_mul_right _ (by omega)
    have : (128 : Nat) ^ 8 = 72057594037927936 := by decide
    omega
   ·have h4 : b.toNat % 128 * 128 ^ 9 ≤ 1 * 128 ^ 9 := Nat.mul_le_mul_right _ (by omega)
    have : (128 : Nat) ^ 9 = 9223372036854775808 := by decide
    omega
  rw [Nat.mod_eq_of_lt hlt, ← pow7]
  have := Nat.two_pow_add_eq_or_of_lt (i := 7 * k) (b := m) (by rw [pow7]; exact h1) (b.toNat % 128)
  rw [Nat.or_comm, Nat.mul_comm, ← this]
  omega
theorem rd_step {l : List UInt8} {k m : Nat} (hk : k < l.length) (hm6 : m < 18446744073709551616) (hm : k < 10 → m = val (l.take k)) (hM : Mores (l.take k)) (h10 : k < 10) :
  ∃ m' : Nat, bits .or .u64 (m : Int) (IntKind.u64.wrap ((l[k].toNat : Int) % 128 * 2 ^ (7 * k))) = (m' : Int) ∧ m' < 18446744073709551616 ∧
   (((k = 0 ∨ l[k].toNat ≠ 0) ∧ (k < 9 ∨ (k = 9 ∧ l[k].toNat ≤ 1))) → l[k].toNat < 128 → RdR l m' (k + 1) 0) ∧
   (¬ ((k = 0 ∨ l[k].toNat ≠ 0) ∧ (k < 9 ∨ (k = 9 ∧ l[k].toNat ≤ 1))) → l[k].toNat < 128 → ∀ v r, v < 18446744073709551616 → l ≠ num v ++ r) ∧
   (128 ≤ l[k].toNat → Mores (l.take (k + 1)) ∧ (k + 1 < 10 → m' = val (l.take (k + 1)))) := by
 have hl : (l.take k).length = k := by rw [List.length_take]; omega
 have hv := val_lt (l.take k)
 rw [hl, ← hm h10] at hv
 have e : l.take (k + 1) = l.take k ++ [l[k]] := List.take_succ_eq_append_getElem hk
 have hval : val (l.take (k + 1)) = m + l[k].toNat % 128 * 128 ^ k := by rw [e, val_snoc, hl, ← hm h10]
 obtain ⟨m', h1, h2, h3⟩ := or_group m k l[k] hm6
 refine ⟨m', h1, h2, fun h hb => ?_, fun h hb => rd_no hk hM hb h, fun hb => ⟨by rw [e]; exact hM.snoc hb, fun h => by rw [hval]; exact h3 hv (.inl (by omega))⟩⟩
 rw [h3 hv h.2, ← hval]
 exact (rd_yes hk hM hb h.1 h.2).1
theorem dlen (s : ByteArray) : s.data.toList.length = s.size := by simp
theorem take_cell (s : ByteArray) (n k : Nat) (h : k < (s.extract 0 n).data.size) (hs : k < s.data.toList.length) : (s.extract 0 n).data[k] = s.data.toList[k] := by
 simp [ByteArray.data_extract, Array.getElem_extract]
set_option maxRecDepth 100000 in
set_option maxHeartbeats 1000000 in
theorem crd_any (s : ByteArray) (w : World) (hs : s.size ≤ 1000000000) : Calls Tryz.prog 132 #[.string s] w fun e w' => RdE s e ∧ Below w.heap.size w w' := by
 by_cases h10 : s.size ≤ 10
 ·obtain ⟨cap, w1, hrun, hc1, hc2, hb, hz, _, hcell, _⟩ := bytes_made s w (by unfold maxLen; omega)
  have HC : Hid (∀ j (hj : j < s.size), w1.cell? ⟨w.heap.size, j, none⟩ = some (.int .u8 ((s.data.toList[j]'(by rw [dlen]; exact hj)).toNat : Int))) := Lib.hid fun j hj => hcell j hj
  have HB := Lib.hid hb
  have hc3 : cap ≤ 9223372036854775807 := by unfold maxLen at hc2; omega
  clear hcell hb hz hc2
  go_enter Tryz.func132, Tryz.ntmps132
  go_wp2_with fail
  go_loopw [5, 15] (fun n i wr => ∃ k m : Nat, k ≤ s.size ∧ i = .int .i64 k ∧ n = .int .u64 m ∧ wr = w1 ∧ m < 18446744073709551616 ∧ (k < 10 → m = val (s.data.toList.take k)) ∧ Mores (s.data.toList.take k)) (fun _ i _ => 10 - (intOf i).toNat)
  case atStart => exact ⟨0, 0, by omega, rfl, rfl, rfl, by omega, fun _ => by simp [val], fun x hx => by simp at hx⟩
  case round =>
   obtain ⟨k, m, hk, rfl, rfl, rfl, hm6, hm, hM⟩ := hrel
   have HM := Lib.hid hm
   have HMM := Lib.hid hM
   clear hm hM
   by_cases hlt : k < s.size
   ·have hcl := HC.out k hlt
    have hkl : k < s.data.toList.length := by rw [dlen]; omega
    obtain ⟨m', hor, hm7, hY, hN, hS⟩ := rd_step hkl hm6 HM.out HMM.out (by omega)
    have HY := Lib.hid hY
    have HN := Lib.hid hN
    have HS := Lib.hid hS
    clear hY hN hS
    generalize s.data.toList[k] = b at *
    have hb := b.toNat_lt
    by_cases hb7 : 128 ≤ b.toNat
    ·go_wp2_with fail
     exact ⟨⟨k + 1, m', by omega, by go_num, by first | rfl | trivial, by first | rfl | trivial, hm7, fun h => (HS.out hb7).2 h, (HS.out hb7).1⟩, by simp [intOf]; omega⟩
    ·by_cases hg : (k = 0 ∨ b.toNat ≠ 0) ∧ (k < 9 ∨ (k = 9 ∧ b.toNat ≤ 1))
     ·have key := Lib.hid (HY.out hg (by omega))
      obtain ⟨g1, g2⟩ := hg
      have q1 : (decide (0 < (k : Int)) && ((b.toNat : Int) == 0)) = false := by simp; omega
      rcases Nat.lt_or_ge k 9 with h9 | h9
      ·rcases Nat.lt_or_ge 0 k with h0 | h0
       rotate_left
       ·have q3 : ((k : Int) == 9) = false := by simp; omega
        go_wp2_with fail
        go_ret3
        exact ⟨⟨m', k + 1, 0, rfl, key.out⟩, HB.out⟩
       ·have q2 : ((b.toNat : Int) == 0) = false := by simp; omega
        have q3 : ((k : Int) == 9) = false := by simp; omega
        go_wp2_with fail
        go_ret3
        exact ⟨⟨m', k + 1, 0, rfl, key.out⟩, HB.out⟩
      ·have q1 : ((k : Int) == 9) = true := by simp; omega
       have q2 : ((b.toNat : Int) == 0) = false := by simp; omega
       have q3 : (b.toNat : Int) ≤ 1 := by omega
       have q4 : 0 < k := by omega
       clear g1 g2
       go_wp2_with fail
       go_ret3
       exact ⟨⟨m', k + 1, 0, rfl, key.out⟩, HB.out⟩
     ·have key := Lib.hid (HN.out hg (by omega))
      rcases Nat.eq_zero_or_pos b.toNat with h0 | h0
      ·have q0 : 0 < k := by omega
       have q2 : ((b.toNat : Int) == 0) = true := by simp; omega
       clear hg
       go_wp2_with fail
       go_ret3
       exact ⟨⟨0, 0, 11, rfl, .inr ⟨.inr rfl, rfl, rfl, key.out⟩⟩, HB.out⟩
      ·have q1 : ((k : Int) == 9) = true := by simp; omega
       have q2 : ((b.toNat : Int) == 0) = false := by simp; omega
       have q3 : 1 < (b.toNat : Int) := by omega
       have q4 : 0 < k := by omega
       clear hg
       go_wp2_with fail
       go_ret3
       exact ⟨⟨0, 0, 11, rfl, .inr ⟨.inr rfl, rfl, rfl, key.out⟩⟩, HB.out⟩
   ·obtain rfl : k = s.size := by omega
    have key := Lib.hid (rd_end HMM.out (by rw [dlen]; omega))
    by_cases h9 : s.size < 10
    ·go_wp2_with fail
     go_ret3
     exact ⟨⟨0, 0, 10, rfl, .inr ⟨.inl rfl, rfl, rfl, key.out⟩⟩, HB.out⟩
    ·go_wp2_with fail
     go_ret3
     exact ⟨⟨0, 0, 11, rfl, .inr ⟨.inr rfl, rfl, rfl, key.out⟩⟩, HB.out⟩
 ·have ht : (s.extract 0 10).size = 10 := by rw [ByteArray.size_extract]; omega
  obtain ⟨cap, w1, hrun, hc1, hc2, hb, hz, _, hcell, _⟩ := bytes_made (s.extract 0 10) w (by unfold maxLen; omega)
  have HC : Hid (∀ j (hj : j < 10), w1.cell? ⟨w.heap.size, j, none⟩ = some (.int .u8 ((s.data.toList[j]'(by rw [dlen]; omega)).toNat : Int))) := Lib.hid fun j hj => by
   have h1 : j < (s.extract 0 10).data.size := by show j < (s.extract 0 10).size; omega
   rw [hcell j h1, take_cell s 10 j h1 (by rw [dlen]; omega)]
  have HB := Lib.hid hb
  have hc3 : cap ≤ 9223372036854775807 := by unfold maxLen at hc2; omega
  rw [ht] at hrun hc1
  clear hcell hb hz hc2 ht
  go_enter Tryz.func132, Tryz.ntmps132
  go_wp2_with fail
  go_loopw [5, 15] (fun n i wr => ∃ k m : Nat, k ≤ 10 ∧ i = .int .i64 k ∧ n = .int .u64 m ∧ wr = w1 ∧ m < 18446744073709551616 ∧ (k < 10 → m = val (s.data.toList.take k)) ∧ Mores (s.data.toList.take k)) (fun _ i _ => 10 - (intOf i).toNat)
  case atStart => exact ⟨0, 0, by omega, rfl, rfl, rfl, by omega, fun _ => by simp [val], fun x hx => by simp at hx⟩
  case round =>
   obtain ⟨k, m, hk, rfl, rfl, rfl, hm6, hm, hM⟩ := hrel
   have HM := Lib.hid hm
   have HMM := Lib.hid hM
   clear hm hM
   by_cases hlt : k < 10
   ·have hcl := HC.out k hlt
    have hkl : k < s.data.toList.length := by rw [dlen]; omega
    obtain ⟨m', hor, hm7, hY, hN, hS⟩ := rd_step hkl hm6 HM.out HMM.out (by omega)
    have HY := Lib.hid hY
    have HN := Lib.hid hN
    have HS := Lib.hid hS
    clear hY hN hS
    generalize s.data.toList[k] = b at *
    have hb := b.toNat_lt
    by_cases hb7 : 128 ≤ b.toNat
    ·go_wp2_with fail
     exact ⟨⟨k + 1, m', by omega, by go_num, by first | rfl | trivial, by first | rfl | trivial, hm7, fun h => (HS.out hb7).2 h, (HS.out hb7).1⟩, by simp [intOf]; omega⟩
    ·by_cases hg : (k = 0 ∨ b.toNat ≠ 0) ∧ (k < 9 ∨ (k = 9 ∧ b.toNat ≤ 1))
     ·have key := Lib.hid (HY.out hg (by omega))
      obtain ⟨g1, g2⟩ := hg
      have q1 : (decide (0 < (k : Int)) && ((b.toNat : Int) == 0)) = false := by simp; omega
      rcases Nat.lt_or_ge k 9 with h9 | h9
      ·rcases Nat.lt_or_ge 0 k with h0 | h0
       rotate_left
       ·have q3 : ((k : Int) == 9) = false := by simp; omega
        go_wp2_with fail
        go_ret3
        exact ⟨⟨m', k + 1, 0, rfl, key.out⟩, HB.out⟩
       ·have q2 : ((b.toNat : Int) == 0) = false := by simp; omega
        have q3 : ((k : Int) == 9) = false := by simp; omega
        go_wp2_with fail
        go_ret3
        exact ⟨⟨m', k + 1, 0, rfl, key.out⟩, HB.out⟩
      ·have q1 : ((k : Int) == 9) = true := by simp; omega
       have q2 : ((b.toNat : Int) == 0) = false := by simp; omega
       have q3 : (b.toNat : Int) ≤ 1 := by omega
       have q4 : 0 < k := by omega
       clear g1 g2
       go_wp2_with fail
       go_ret3
       exact ⟨⟨m', k + 1, 0, rfl, key.out⟩, HB.out⟩
     ·have key := Lib.hid (HN.out hg (by omega))
      rcases Nat.eq_zero_or_pos b.toNat with h0 | h0
      ·have q0 : 0 < k := by omega
       have q2 : ((b.toNat : Int) == 0) = true := by simp; omega
       clear hg
       go_wp2_with fail
       go_ret3
       exact ⟨⟨0, 0, 11, rfl, .inr ⟨.inr rfl, rfl, rfl, key.out⟩⟩, HB.out⟩
      ·have q1 : ((k : Int) == 9) = true := by simp; omega
       have q2 : ((b.toNat : Int) == 0) = false := by simp; omega
       have q3 : 1 < (b.toNat : Int) := by omega
       have q4 : 0 < k := by omega
       clear hg
       go_wp2_with fail
       go_ret3
       exact ⟨⟨0, 0, 11, rfl, .inr ⟨.inr rfl, rfl, rfl, key.out⟩⟩, HB.out⟩
   ·obtain rfl : k = 10 := by omega
    have key := Lib.hid (rd_end HMM.out (by rw [dlen]; omega))
    go_wp2_with fail
    go_ret3
    exact ⟨⟨0, 0, 11, rfl, .inr ⟨.inr rfl, rfl, rfl, key.out⟩⟩, HB.out⟩
end Go.Proofs.YtdojgbpaheadnaaGreat

/- The contracts of codec's Unsigned, input.number and ReadInts. -/
namespace Go.Proofs.YtdojgbpaheadnaaGreat
open Go.RowKit

theorem xor64 (a : Nat) (ha : a < 9223372036854775808) : bits .xor .i64 (a : Int) 0 = a ∧ bits .xor .i64 (a : Int) (-1) = -1 - a := by
 have h0 : BitVec.ofInt 64 (a : Int) = BitVec.ofNat 64 a := by
  apply BitVec.eq_of_toNat_eq
  simp
 constructor
 ·show IntKind.i64.wrap (((BitVec.ofInt 64 (a : Int)) ^^^ (BitVec.ofInt 64 0)).toNat : Int) = a
  rw [h0, show BitVec.ofInt 64 0 = 0#64 from rfl, BitVec.xor_zero, BitVec.toNat_ofNat, Nat.mod_eq_of_lt (by omega), IntKind.wrap_i64]
  omega
 ·show IntKind.i64.wrap (((BitVec.ofInt 64 (a : Int)) ^^^ (BitVec.ofInt 64 (-1))).toNat : Int) = -1 - a
  rw [h0, show BitVec.ofInt 64 (-1) = BitVec.allOnes 64 from rfl, BitVec.xor_allOnes, BitVec.toNat_not, BitVec.toNat_ofNat, Nat.mod_eq_of_lt (by omega), IntKind.wrap_i64]
  omega
set_option maxRecDepth 100000 in
theorem unsigned_any (n : Nat) (w : World) (h : n < 18446744073709551616) : Calls Tryz.prog 108 #[.int .u64 (n : Int)] w fun e w' => e = .returned (.int .i64 (uns n)) ∧ w = w' := by
 have hand : bits .and .u64 (n : Int) 1 = ((n % 2 : Nat) : Int) := by
  have := (bits_nat .u64 64 (by decide) wraps64u n 1 (by omega) (by omega)).1
  rw [Nat.and_one_is_mod] at this
  exact this
 have HU : uns n = if n % 2 = 0 then ((n / 2 : Nat) : Int) else -1 - ((n / 2 : Nat) : Int) := rfl
 have hx := xor64 (n / 2) (by omega)
 have e2 : ((n / 2 : Nat) : Int) = (n : Int) / 2 := by omega
 rcases Nat.mod_two_eq_zero_or_one n with h2 | h2
 ·rw [h2] at hand
  rw [if_pos h2] at HU
  rw [HU]
  have HX := Lib.hid hx.1
  rw [e2] at HX
  clear HU h2 hx e2
  go_enter Tryz.func108, Tryz.ntmps108
  go_wp2
  go_ret
  exact ⟨ret_int (by rw [HX.out]; omega), rfl⟩
 ·rw [h2] at hand
  rw [if_neg (by omega)] at HU
  rw [HU]
  have HX := Lib.hid hx.2
  rw [e2] at HX
  clear HU h2 hx e2
  go_enter Tryz.func108, Tryz.ntmps108
  go_wp2
  go_ret
  exact ⟨ret_int (by rw [HX.out]; omega), rfl⟩
def InAt (w : World) (b : Nat) (s : ByteArray) (c : Int) : Prop := Blk w b #[.string s, .int .i64 c] 215
def NumE (s : ByteArray) (b : Nat) (w : World) (e : Ending) (w' : World) : Prop :=
 ∃ (v k : Nat) (c : Int), e = .returned (.int .u64 (v : Int)) ∧ RdR s.data.toList v k c ∧ InAt w' b (s.extract k s.size) c ∧ Below b w w' ∧ ∀ i, b < i → i < w.heap.size → w'.heap[i]? = w.heap[i]?
set_option maxRecDepth 100000 in
set_option maxHeartbeats 1000000 in
theorem number_in {w : World} {b : Nat} {s : ByteArray} (h : InAt w b s 0) (hs : s.size ≤ 1000000000) : Calls Tryz.prog 107 #[.pointer (some ⟨b, 0, none⟩)] w (NumE s b w) := by
 have H := Lib.hid h
 have c0 := Blk.cell h 0
 have c1 := Blk.cell h 1
 have hf := Blk.frozen h
 have hlt := Blk.lt h
 simp at c0 c1
 clear h
 go_enter Tryz.func107, Tryz.ntmps107
 go_wp2_with fail
 refine (crd_any s w hs).mono ?_
 rintro e w1 ⟨⟨v, k, c, rfl, hR⟩, hb⟩
 have H1 := Lib.hid (Blk.below H.out hb hlt)
 have c0 := Blk.cell H1.out 0
 have c1 := Blk.cell H1.out 1
 have hf := Blk.frozen H1.out
 have HB := Lib.hid hb
 simp at c0 c1
 have hz := hR.size
 have hkl : k ≤ s.size := by have := hz.1; rw [dlen] at this; exact this
 have hk10 := hz.2.1
 have hv := hz.2.2
 have HR := Lib.hid hR
 clear hb hR hz
 go_wp2_with fail
 go_ret
 have h2 := (Blk.set (Blk.set H1.out 0 (.string (s.extract k s.size))) 1 (.int .i64 c))
 refine ⟨v, k, c, rfl, HR.out, by simpa [InAt] using h2, ((HB.out.mono (Nat.le_of_lt hlt)).setCell (p := ⟨b, 0, none⟩) (Nat.le_refl _) _).setCell (p := ⟨b, 1, none⟩) (Nat.le_refl _) _, fun i hi hi2 => ?_⟩
 have hne : i ≠ b := by omega
 exact ((Below.heap_setCell _ ⟨b, 1, none⟩ _ i hne).trans (Below.heap_setCell _ ⟨b, 0, none⟩ _ i hne)).trans (HB.out.block i hi2)
end Go.Proofs.YtdojgbpaheadnaaGreat
