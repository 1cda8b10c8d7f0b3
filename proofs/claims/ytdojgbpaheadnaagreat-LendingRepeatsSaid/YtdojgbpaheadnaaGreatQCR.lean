/- The contracts of the reference's Signed, Number and Ints. -/
import Derived.Test.YtdojgbpaheadnaaGreatQCB
import Derived.Laws.IdiomStrings
set_option linter.unusedVariables false
set_option linter.unusedSimpArgs false

namespace Go.Proofs.YtdojgbpaheadnaaGreat
open Go.RowKit Go.Shelf Go.Maps

set_option maxRecDepth 100000 in
theorem rsigned_any (n : Int) (w : World) (h0 : -9223372036854775808 ≤ n) (h1 : n ≤ 9223372036854775807) : Calls Tryz.prog 83 #[.int .i64 n] w fun e w' => e = .returned (.int .u64 (sig n : Int)) ∧ w = w' := by
 by_cases hn : 0 ≤ n
 ·have e : (sig n : Int) = 2 * n := by unfold sig; rw [if_pos hn]; omega
  rw [e]
  go_enter Tryz.func83, Tryz.ntmps83
  go_wp2
  go_ret
  exact ⟨ret_int (by first | rfl | omega), rfl⟩
 ·have e : (sig n : Int) = 2 * (-1 - n) + 1 := by unfold sig; rw [if_neg hn]; omega
  rw [e]
  go_enter Tryz.func83, Tryz.ntmps83
  go_wp2
  go_ret
  exact ⟨ret_int (by first | rfl | omega), rfl⟩
theorem bytes1 (w : World) (b : Nat) (hb : b < 256) (g : Nat) (h : w.cell? ⟨g, 0, none⟩ = some (.int .u8 (b : Int))) : (convert 23 9 (.slice (some ⟨g, 0, none⟩) 1 1)).run Tryz.prog w = .ok (.string ⟨#[UInt8.ofNat b]⟩) w := by
 have := run_convert_bytes_back w 23 9 5 ⟨g, 0, none⟩ 1 [UInt8.ofNat b] Tryz.underlying23 Tryz.underlying5 Tryz.underlying9 (fun j hj => by
  obtain rfl : j = 0 := by simpa using hj
  have e : (UInt8.ofNat b).toNat = b := by rw [UInt8.toNat_ofNat']; exact Nat.mod_eq_of_lt hb
  have e2 : (⟨g, 0, none⟩ : Addr).add 0 = ⟨g, 0, none⟩ := by simp [Addr.add]
  rw [e2, h]
  simp only [List.getElem_cons_zero]
  rw [e])
 exact this
set_option maxRecDepth 100000 in
set_option maxHeartbeats 4000000 in
theorem rnumber_small (n : Nat) (w : World) (hs : n < 128) : Calls Tryz.prog 82 #[.int .u64 (n : Int)] w fun e w' => e = .returned (.string ⟨(num n).toArray⟩) ∧ Below w.heap.size w w' := by
 have e : num n = [UInt8.ofNat n] := num_small hs
 rw [e]
 have hcv := bytes1 (w.alloc (.cells #[.int .u8 (n : Int)] 5)) n (by omega) w.heap.size (by simp)
 have hd : decide ((n : Int) < 128) = true := by simp; omega
 go_enter Tryz.func82, Tryz.ntmps82
 go_wp2
 go_ret
 exact ⟨rfl, (Below.refl _ _).alloc (Nat.le_refl _) _⟩
set_option maxRecDepth 100000 in
set_option maxHeartbeats 4000000 in
theorem rnumber_great (n : Nat) (w : World) (hs : ¬ n < 128) (hn : n < 18446744073709551616)
  (ih : ∀ w, Calls Tryz.prog 82 #[.int .u64 (((n / 128 : Nat)) : Int)] w fun e w' => e = .returned (.string ⟨(num (n / 128)).toArray⟩) ∧ Below w.heap.size w w') :
  Calls Tryz.prog 82 #[.int .u64 (n : Int)] w fun e w' => e = .returned (.string ⟨(num n).toArray⟩) ∧ Below w.heap.size w w' := by
 have e : num n = UInt8.ofNat (n % 128 + 128) :: num (n / 128) := num_great hs
 rw [e]
 have e1 : ((n / 128 : Nat) : Int) = (n : Int) / 128 := by omega
 rw [e1] at ih
 have HIH := Lib.hid ih
 obtain ⟨R, hR⟩ : ∃ R, n % 128 = R := ⟨_, rfl⟩
 have hRl : R < 128 := by omega
 rw [hR]
 have hr : (n : Int).tmod 128 = (R : Int) := by rw [Int.tmod_eq_emod_of_nonneg (by omega)]; omega
 have hw1 : IntKind.u64.wrap ((R : Int) + 128) = (R : Int) + 128 := by simp [IntKind.wrap, IntKind.bits, IntKind.signed]; omega
 have hw2 : IntKind.u8.wrap ((R : Int) + 128) = (R : Int) + 128 := by simp [IntKind.wrap, IntKind.bits, IntKind.signed]; omega
 have hw3 : IntKind.u64.wrap ((n : Int) / 128) = (n : Int) / 128 := by simp [IntKind.wrap, IntKind.bits, IntKind.signed]; omega
 have hcv : ∀ (w : World) (g : Nat), w.cell? ⟨g, 0, none⟩ = some (.int .u8 ((R : Int) + 128)) → (convert 23 9 (.slice (some ⟨g, 0, none⟩) 1 1)).run Tryz.prog w = .ok (.string ⟨#[UInt8.ofNat (R + 128)]⟩) w := fun w g hg =>
  bytes1 w (R + 128) (by omega) g (by rw [hg]; congr 1)
 have hd : decide ((n : Int) < 128) = false := by simp; omega
 have hq : 0 ≤ (n : Int) / 128 := by omega
 have hlen := grp_ten (n := n / 128) (by omega)
 rw [← num_len] at hlen
 have hcat : ∀ w : World, (Op.stringOp .add ⟨#[UInt8.ofNat (R + 128)]⟩ ⟨(num (n / 128)).toArray⟩).run Tryz.prog w = .ok (.string ⟨(UInt8.ofNat (R + 128) :: num (n / 128)).toArray⟩) w := fun w => by
  have := run_string_add_lists (P := Tryz.prog) (w := w) [UInt8.ofNat (R + 128)] (num (n / 128)) (by simp) (by omega)
  simpa using this
 obtain ⟨T, hT⟩ : ∃ T : ByteArray, T = ⟨(num (n / 128)).toArray⟩ := ⟨_, rfl⟩
 have hTs : T.size ≤ 10 := by rw [hT]; show (num (n / 128)).toArray.size ≤ 10; simpa using hlen
 have hTi : (T.size : Int) ≤ 10 := by omega
 rw [← hT] at hcat HIH
 have hsz : (⟨#[UInt8.ofNat (R + 128)]⟩ : ByteArray).size = 1 := rfl
 have hif : (⟨#[UInt8.ofNat (R + 128)]⟩ : ByteArray).size + T.size ≤ 9223372036854775807 := by omega
 have HC : Hid ((⟨#[UInt8.ofNat R + 128]⟩ : ByteArray) ++ T = ⟨(UInt8.ofNat (R + 128) :: num (n / 128)).toArray⟩) := Lib.hid (by
  rw [hT, UInt8.ofNat_add]
  apply ByteArray.ext
  simp)
 clear ih e e1 hR hlen hT
 go_enter Tryz.func82, Tryz.ntmps82
 go_wp2_with fail
 go_region_with (go_at_call 82; refine (HIH.out _).mono ?_; rintro e w1 ⟨rfl, hb⟩; obtain ⟨hcc, hcf⟩ := bcell hb; have hzz := hb.size)
 ·go_wp2_with fail
  go_ret
  exact ⟨congrArg (fun x => Ending.returned (.string x)) HC.out, (((Below.refl w.heap.size w).alloc (Nat.le_refl _) _).drew).trans (hb.mono (by simp))⟩
 ·go_wp2_with fail
  go_ret
  exact ⟨congrArg (fun x => Ending.returned (.string x)) HC.out, (((Below.refl w.heap.size w).alloc (Nat.le_refl _) _).drew).trans (hb.mono (by simp))⟩
 ·go_wp2_with fail
  go_ret
  exact ⟨congrArg (fun x => Ending.returned (.string x)) HC.out, (((Below.refl w.heap.size w).drew).trans (hb.mono (by simp))).alloc (by simpa using hzz) _⟩
theorem rnumber_all : ∀ (f n : Nat), n < 128 ^ (f + 1) → n < 18446744073709551616 → ∀ w, Calls Tryz.prog 82 #[.int .u64 (n : Int)] w fun e w' => e = .returned (.string ⟨(num n).toArray⟩) ∧ Below w.heap.size w w'
 | 0, n, h, _, w => rnumber_small n w (by simpa using h)
 | f + 1, n, h, hn, w => by
  by_cases hs : n < 128
  ·exact rnumber_small n w hs
  ·refine rnumber_great n w hs hn (rnumber_all f (n / 128) ?_ (by omega))
   have : n < 128 ^ (f + 1) * 128 := by rw [← Nat.pow_succ]; exact h
   omega
theorem rnumber_any (n : Nat) (w : World) (hn : n < 18446744073709551616) : Calls Tryz.prog 82 #[.int .u64 (n : Int)] w fun e w' => e = .returned (.string ⟨(num n).toArray⟩) ∧ Below w.heap.size w w' :=
 rnumber_all 9 n (by omega) hn w
def pre (L : List Int) (k : Nat) : ByteArray := ⟨(num L.length ++ body (L.take k)).toArray⟩
theorem pre_size (L : List Int) (hl : L.length < 18446744073709551616) (h : ∀ n ∈ L, -9223372036854775808 ≤ n ∧ n ≤ 9223372036854775807) (k : Nat) (hk : k ≤ L.length) : (pre L k).size ≤ 10 + 10 * k := by
 show (num L.length ++ body (L.take k)).toArray.size ≤ _
 have h1 := grp_ten hl
 have h2 := body_len (L.take k) fun n hn => h n (List.mem_of_mem_take hn)
 rw [List.length_take] at h2
 simp only [List.size_toArray, List.length_append, num_len]
 omega
theorem pre_succ (L : List Int) (k : Nat) (hk : k < L.length) : pre L k ++ (⟨(num (sig L[k])).toArray⟩ : ByteArray) = pre L (k + 1) := by
 unfold pre
 rw [List.take_succ_eq_append_getElem hk, body_snoc]
 apply ByteArray.ext
 simp
set_option maxRecDepth 100000 in
set_option maxHeartbeats 4000000 in
theorem rints_any (L : List Int) (a : Option Addr) (cap : Nat) (w : World) (hI : IntsAt w a L) (hl : L.length ≤ 1000000) (hc1 : L.length ≤ cap) (hc2 : cap ≤ 9223372036854775807) (hin : ∀ n ∈ L, -9223372036854775808 ≤ n ∧ n ≤ 9223372036854775807) :
  Calls Tryz.prog 51 #[.slice a L.length cap] w fun e w' => e = .returned (.string ⟨(ints L).toArray⟩) ∧ Below w.heap.size w w' := by
 have HI := Lib.hid hI
 have HN := Lib.hid hin
 have hw0 : IntKind.u64.wrap (L.length : Int) = (L.length : Int) := by simp [IntKind.wrap, IntKind.bits, IntKind.signed]; omega
 have hp0 : (⟨(num L.length).toArray⟩ : ByteArray) = pre L 0 := by simp [pre, body]
 clear hI hin
 go_enter Tryz.func51, Tryz.ntmps51
 go_wp2_with fail
 refine (rnumber_any L.length w (by omega)).mono ?_
 rintro e w1 ⟨rfl, hb⟩
 rw [hp0]
 have B1 := Lib.hid hb
 clear hb hp0
 go_wp2_with fail
 go_loopw [3, 4] (fun l i wr => ∃ k : Nat, k ≤ L.length ∧ i = .int .i64 k ∧ l = .string (pre L k) ∧ Below w.heap.size w wr) (fun _ i _ => L.length - (intOf i).toNat)
 case atStart => exact ⟨0, by omega, rfl, rfl, B1.out⟩
 case round =>
  obtain ⟨k, hk, rfl, rfl, hB⟩ := hrel
  have B3 := Lib.hid hB
  clear hB
  by_cases hlt : k < L.length
  ·rcases HI.out.below B3.out (Nat.le_refl _) with h3 | ⟨b, o, rfl, hbw, hcell⟩
   ·subst h3; simp at hlt
   ·have hcl := hcell k hlt
    rw [getD_get _ _ hlt] at hcl
    have hx := HN.out L[k] (List.getElem_mem hlt)
    have HS := Lib.hid (pre_succ L k hlt)
    have hz1 := pre_size L (by omega) HN.out k (by omega)
    have hz2 : (⟨(num (sig L[k])).toArray⟩ : ByteArray).size ≤ 10 := by
     have := grp_ten (sig_lt hx.1 hx.2); show (num (sig L[k])).toArray.size ≤ 10; simpa [num_len] using this
    have hsl := sig_lt hx.1 hx.2
    generalize L[k] = x at *
    clear hcell
    go_wp2_with fail
    refine (rsigned_any x wr hx.1 hx.2).mono ?_
    rintro e w2 ⟨rfl, rfl⟩
    go_wp2_with fail
    refine (rnumber_any (sig x) wr hsl).mono ?_
    rintro e w3 ⟨rfl, hb3⟩
    have B4 := Lib.hid (B3.out.trans (hb3.mono B3.out.size))
    clear hb3 hcl
    obtain ⟨T, hT⟩ : ∃ T : ByteArray, T = ⟨(num (sig x)).toArray⟩ := ⟨_, rfl⟩
    obtain ⟨A, hA⟩ : ∃ A : ByteArray, A = pre L k := ⟨_, rfl⟩
    rw [← hT] at hz2 HS
    rw [← hA] at hz1 HS
    rw [← hT, ← hA]
    have hif : A.size + T.size ≤ 9223372036854775807 := by omega
    clear hT hA
    go_wp2_with fail
    exact ⟨⟨k + 1, by omega, by go_num, by rw [HS.out], B4.out⟩, by simp [intOf]; omega⟩
  ·obtain rfl : k = L.length := by omega
   go_wp2_with fail
   go_ret
   refine ⟨?_, B3.out⟩
   show Ending.returned (.string (pre L L.length)) = _
   unfold pre ints
   rw [List.take_length]
end Go.Proofs.YtdojgbpaheadnaaGreat
