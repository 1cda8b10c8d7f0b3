/- The contracts of strings.Builder.WriteString and of what it calls, at this program (the cut leaves out the code behind copyCheck's test). -/
import Derived.Test.YtdojgbpaheadnaaGreatQShelf
import Derived.Test.YtdojgbpaheadnaaGreatQCN
set_option linter.unusedVariables false
set_option linter.unusedSimpArgs false

namespace Go.Proofs.YtdojgbpaheadnaaGreat
open Go.RowKit Go.Shelf Go.Maps

theorem info100 : (Tryz.prog.info? 235).map (·.size) = some 2 := by kernel_rfl
theorem lies100 : liesAt Tryz.prog Tryz.prog.depth 235 (2 / Tryz.prog.cellsOf 235) 0 235 1 = true := by kernel_rfl
set_option maxRecDepth 100000 in
set_option maxHeartbeats 1000000 in
theorem check_used (b : Nat) (w : World) (h0 : w.cell? ⟨b, 0, none⟩ = some (.pointer (some ⟨b, 0, none⟩))) :
  Calls Tryz.prog 146 #[.pointer (some ⟨b, 0, none⟩)] w fun e w' => e = .returned (.tuple #[]) ∧ w' = w := by
 obtain ⟨j, hj, _⟩ := Option.map_eq_some_iff.1 info100
 go_enter Tryz.func146, Tryz.ntmps146
 go_wp2
 rw [Lib.run_neq_ptr_same w _ Tryz.underlying233 hj]
 go_wp2
 go_end0
 exact ⟨rfl, rfl⟩
set_option maxRecDepth 100000 in
set_option maxHeartbeats 1000000 in
theorem check_fresh (b : Nat) (w : World) (h0 : w.cell? ⟨b, 0, none⟩ = some (.pointer none)) (hsh : w.shape? b = some (235, 2)) (hfz : w.frozen? ⟨b, 0, none⟩ = false) :
  Calls Tryz.prog 146 #[.pointer (some ⟨b, 0, none⟩)] w fun e w' => e = .returned (.tuple #[]) ∧ w' = w.setCell ⟨b, 0, none⟩ (.pointer (some ⟨b, 0, none⟩)) := by
 obtain ⟨j, hj, hjs⟩ := Option.map_eq_some_iff.1 info100
 go_enter Tryz.func146, Tryz.ntmps146
 go_wp2
 rw [Lib.run_to_unsafe w ⟨b, 0, none⟩ Tryz.underlying233 Tryz.underlying262 hj (by rw [hjs]; decide) hsh (Nat.zero_lt_succ 1)]
 simp only [Result.andThen]
 rw [Oper.upon_value]
 go_wp2
 rw [run_callFunc_extern Tryz.func153 (by kernel_rfl) (by kernel_rfl) (by kernel_rfl) (e := Extern.AbiNoEscape.same) (by kernel_rfl)]
 rw [Lib.run_noEscape]
 simp only [Result.andThen]
 rw [Oper.upon_value]
 go_wp2
 rw [Lib.run_from_unsafe w ⟨b, 0, none⟩ Tryz.underlying262 Tryz.underlying233 hj hsh lies100]
 simp only [Result.andThen]
 rw [Oper.upon_value]
 go_wp2
 go_end0
 exact ⟨rfl, rfl⟩
theorem check_any (B b : Nat) (bs : List Value) (w : World) (h : Lib.IsBuilder 235 5 B b bs w) :
  Calls Tryz.prog 146 #[.pointer (some ⟨b, 0, none⟩)] w fun e w' => e = .returned (.tuple #[]) ∧ Lib.BuilderAt 235 5 B b (.pointer (some ⟨b, 0, none⟩)) bs w' ∧ Below B w w' := by
 rcases h with h | h
 ·refine (check_fresh b w h.cell0 h.shape h.frozen0).mono ?_
  rintro e w' ⟨rfl, rfl⟩
  exact ⟨rfl, h.used _, (Below.refl B w).setCell (p := ⟨b, 0, none⟩) h.1 _⟩
 ·refine (check_used b w h.cell0).mono ?_
  rintro e w' ⟨rfl, rfl⟩
  exact ⟨rfl, h, Below.refl B _⟩
set_option maxRecDepth 100000 in
set_option maxHeartbeats 1000000 in
theorem write_any (B b : Nat) (bs : List Value) (s : ByteArray) (w : World) (h : Lib.IsBuilder 235 5 B b bs w) (hlen : bs.length + s.size ≤ 140737488355328) (hBw : B ≤ w.heap.size) :
  Calls Tryz.prog 126 #[.pointer (some ⟨b, 0, none⟩), .string s] w fun e w' => e = .returned (.tuple #[.int .i64 s.size, .nilIface]) ∧ Lib.BuilderAt 235 5 B b (.pointer (some ⟨b, 0, none⟩)) (bs ++ Lib.strCells s) w' ∧ Below B w w' := by
 obtain ⟨i0, hi, hz0, hz1, hz2⟩ := info_parts info5
 go_enter Tryz.func126, Tryz.ntmps126
 go_wp2_with (go_at_call 146; refine (check_any B b bs _ h).mono ?_)
 rintro e w1 ⟨rfl, ⟨hB, v, hbk, hown, hne⟩, hb1⟩
 have c0 : w1.cell? ⟨b, 0, none⟩ = some (.pointer (some ⟨b, 0, none⟩)) := by rw [Lib.cell_of_heap hbk]; rfl
 have c1 : w1.cell? ⟨b, 1, none⟩ = some v := by rw [Lib.cell_of_heap hbk]; rfl
 go_wp2_with (at_builtin; refine Lib.wpList_append_own_string _ rfl _ _ 23 9 rfl B 5 i0 Tryz.underlying23 Tryz.underlying9 hi hz0 hz1 hz2 _ _ _ rfl hown s rfl ?c3 ?c4 ?c5 ?_)
 case c3 => unfold maxLen; omega
 case c4 => omega
 case c5 => have := hb1.size; omega
 intro v' w2 hown' hgrow _
 have hb2 : w2.heap[b]? = some (.cells #[.pointer (some ⟨b, 0, none⟩), v] 235 (0, 0)) := by
  rw [hgrow.block b (heap_lt hbk) (fun e => hne e.symm)]
  exact hbk
 have d0 : w2.cell? ⟨b, 0, none⟩ = some (.pointer (some ⟨b, 0, none⟩)) := by rw [Lib.cell_of_heap hb2]; rfl
 have d1 : w2.cell? ⟨b, 1, none⟩ = some v := by rw [Lib.cell_of_heap hb2]; rfl
 have f1 : w2.frozen? ⟨b, 1, none⟩ = false := Lib.frozen_of_heap hb2 1
 obtain ⟨ao, n', cap, rfl⟩ : ∃ ao n' cap, v' = .slice ao n' cap := by
  rcases hown'.2 with ⟨hv, _⟩ | ⟨g, cap, cur, hv, _⟩
  ·exact ⟨_, _, _, hv⟩
  ·exact ⟨_, _, _, hv⟩
 go_wp2
 go_ret2
 refine ⟨rfl, ?_, ?_⟩
 ·exact Lib.BuilderAt.put (T := 235) (e := 5) hB hb2 (bs' := bs ++ Lib.strCells s) (by simpa [Lib.strCells_length] using hown') (by decide)
 ·exact (hb1.grown hgrow (by have := hb1.size; omega) (fun k hk => (hown.lt k hk).1)).setCell (p := ⟨b, 1, none⟩) hB _
end Go.Proofs.YtdojgbpaheadnaaGreat

/- The contracts of codec.Signed and codec.Ints. -/
namespace Go.Proofs.YtdojgbpaheadnaaGreat
open Go.RowKit Go.Shelf Go.Maps

theorem u64_wrap (a : Int) : IntKind.u64.wrap a = a % 18446744073709551616 := by
 simp [IntKind.wrap, IntKind.bits, IntKind.signed]
theorem xor_ofNat (a b : Nat) (ha : a < 18446744073709551616) (hb : b < 18446744073709551616) : bits .xor .u64 (a : Int) (b : Int) = ((a ^^^ b : Nat) : Int) := by
 unfold bits
 dsimp only
 have h1 : BitVec.ofInt IntKind.u64.bits (a : Int) = BitVec.ofNat 64 a := by
  apply BitVec.eq_of_toNat_eq
  simp [IntKind.bits]
 have h2 : BitVec.ofInt IntKind.u64.bits (b : Int) = BitVec.ofNat 64 b := by
  apply BitVec.eq_of_toNat_eq
  simp [IntKind.bits]
 have h3 : a ^^^ b < 2 ^ 64 := Nat.xor_lt_two_pow (by omega) (by omega)
 rw [h1, h2, u64_wrap]
 have h4 : ((BitVec.ofNat 64 a) ^^^ (BitVec.ofNat 64 b)).toNat = a ^^^ b := by
  rw [BitVec.toNat_xor, BitVec.toNat_ofNat, BitVec.toNat_ofNat, Nat.mod_eq_of_lt (by omega), Nat.mod_eq_of_lt (by omega)]
 show ((((BitVec.ofNat 64 a) ^^^ (BitVec.ofNat 64 b)).toNat : Nat) : Int) % _ = _
 rw [h4]
 omega
theorem xor_ones (a : Nat) (ha : a < 18446744073709551616) : a ^^^ 18446744073709551615 = 18446744073709551615 - a := by
 have h : (BitVec.ofNat 64 a ^^^ BitVec.allOnes 64).toNat = (~~~ (BitVec.ofNat 64 a)).toNat := by rw [BitVec.xor_allOnes]
 rw [BitVec.toNat_xor, BitVec.toNat_not, BitVec.toNat_ofNat, BitVec.toNat_allOnes, Nat.mod_eq_of_lt (by omega)] at h
 simpa using h
theorem signed_pos {n : Int} (h0 : 0 ≤ n) (h1 : n ≤ 9223372036854775807) : bits .xor .u64 (n * 2) (n / 9223372036854775808) = (sig n : Int) := by
 have e : n / 9223372036854775808 = ((0 : Nat) : Int) := by omega
 have e2 : n * 2 = (((n * 2).toNat : Nat) : Int) := by omega
 rw [e, e2, xor_ofNat _ _ (by omega) (by omega), Nat.xor_zero]
 unfold sig; rw [if_pos h0]; omega
theorem signed_neg {n : Int} (h0 : -9223372036854775808 ≤ n) (h1 : n < 0) : bits .xor .u64 (IntKind.u64.wrap (IntKind.u64.wrap n * 2)) (IntKind.u64.wrap (n / 9223372036854775808)) = (sig n : Int) := by
 have e : IntKind.u64.wrap (n / 9223372036854775808) = ((18446744073709551615 : Nat) : Int) := by rw [u64_wrap]; omega
 have e2 : IntKind.u64.wrap (IntKind.u64.wrap n * 2) = (((2 * n + 18446744073709551616).toNat : Nat) : Int) := by rw [u64_wrap, u64_wrap]; omega
 rw [e, e2, xor_ofNat _ _ (by omega) (by omega), xor_ones _ (by omega)]
 unfold sig; rw [if_neg (by omega)]; omega
set_option maxRecDepth 100000 in
theorem signed_any (n : Int) (w : World) (h0 : -9223372036854775808 ≤ n) (h1 : n ≤ 9223372036854775807) : Calls Tryz.prog 128 #[.int .i64 n] w fun e w' => e = .returned (.int .u64 (sig n : Int)) ∧ w = w' := by
 by_cases hn : 0 ≤ n
 ·go_enter Tryz.func128, Tryz.ntmps128
  go_wp2
  go_ret
  exact ⟨ret_int (signed_pos hn h1), rfl⟩
 ·go_enter Tryz.func128, Tryz.ntmps128
  go_wp2
  go_ret
  exact ⟨ret_int (signed_neg h0 (by omega)), rfl⟩
def IntsAt (w : World) (a : Option Addr) (L : List Int) : Prop := L = [] ∨ ∃ b o, a = some ⟨b, o, none⟩ ∧ b < w.heap.size ∧ ∀ k, k < L.length → w.cell? ⟨b, o + k, none⟩ = some (.int .i64 (L.getD k 0))
theorem IntsAt.below {w w' : World} {a : Option Addr} {L : List Int} {B : Nat} (h : IntsAt w a L) (hb : Below B w w') (hB : w.heap.size ≤ B) : IntsAt w' a L := by
 rcases h with h | ⟨b, o, h1, h2, h3⟩
 ·exact .inl h
 ·exact .inr ⟨b, o, h1, by have := hb.size; omega, fun k hk => (hb.cell (p := ⟨b, o + k, none⟩) (by show b < B; omega)).trans (h3 k hk)⟩
theorem ownsB_same {w w' : World} {B : Nat} {e : TypeId} {z n : Nat} {v : Value} {xs : List Value} (h : w.ownsRow B e z v n xs) (hk : ∀ r, v.ownBlock = some r → w'.heap[r]? = w.heap[r]?) : w'.ownsRow B e z v n xs := by
 obtain ⟨h0, ⟨h1, h2⟩ | ⟨g, c, cur, h1, h2, h3, h4⟩⟩ := h
 ·exact ⟨h0, .inl ⟨h1, h2⟩⟩
 ·exact ⟨h0, .inr ⟨g, c, cur, h1, h2, (hk g (by rw [h1]; rfl)).trans h3, h4⟩⟩
theorem builder_below {B b : Nat} {bs : List Value} {w w' : World} (h : Lib.IsBuilder 235 5 B b bs w) (hb : Below w.heap.size w w') : Lib.IsBuilder 235 5 B b bs w' := by
 have key : ∀ p, Lib.BuilderAt 235 5 B b p bs w → Lib.BuilderAt 235 5 B b p bs w' := by
  rintro p ⟨h1, v, h2, h3, h4⟩
  exact ⟨h1, v, (hb.block b (heap_lt h2)).trans h2, ownsB_same h3 fun r hr => hb.block r (h3.lt r hr).2, h4⟩
 rcases h with h | h
 ·exact .inl (key _ h)
 ·exact .inr (key _ h)
theorem strCells_mk (l : List UInt8) : Lib.strCells ⟨l.toArray⟩ = Lib.byteCells l := by simp [Lib.strCells, Lib.byteCells]
theorem byteCells_app (l m : List UInt8) : Lib.byteCells l ++ Lib.byteCells m = Lib.byteCells (l ++ m) := by simp [Lib.byteCells]
theorem byteCells_len (l : List UInt8) : (Lib.byteCells l).length = l.length := by simp [Lib.byteCells]
set_option maxRecDepth 100000 in
set_option maxHeartbeats 1000000 in
theorem ints_any (L : List Int) (a : Option Addr) (cap : Nat) (w : World) (h : IntsAt w a L) (hl : L.length ≤ 1000000000000) (hc : L.length ≤ cap) (hc2 : cap ≤ 9223372036854775807) (hin : ∀ n ∈ L, -9223372036854775808 ≤ n ∧ n ≤ 9223372036854775807) :
  Calls Tryz.prog 99 #[.slice a L.length cap] w fun e w' => e = .returned (.string ⟨(ints L).toArray⟩) ∧ Below w.heap.size w w' := by
 have S0 := Lib.hid (Lib.fresh_isBuilder 235 5 w)
 have B0 := Lib.hid ((Below.refl _ w).alloc (Nat.le_refl _) (.cells #[.pointer none, .slice none 0 0] 235))
 have HI := Lib.hid h
 have HN := Lib.hid hin
 clear h hin
 go_enter Tryz.func99, Tryz.ntmps99
 go_wp2_with fail
 refine (number_any L.length (by omega) _).mono ?_
 rintro e w1 ⟨rfl, hb⟩
 have S1 := Lib.hid (builder_below S0.out hb)
 have B1 := Lib.hid (B0.out.trans (hb.mono B0.out.size))
 clear hb S0 B0
 have hnl := grp_ten (n := L.length) (by omega)
 rw [← num_len] at hnl
 obtain ⟨c0, hc0⟩ : ∃ c, num L.length = c := ⟨_, rfl⟩
 have HC0 := Lib.hid hc0
 rw [hc0] at hnl
 rw [hc0]
 clear hc0
 go_wp2_with fail
 refine (write_any w.heap.size w.heap.size [] ⟨c0.toArray⟩ w1 S1.out (by show 0 + c0.toArray.size ≤ _; simp; omega) B1.out.size).mono ?_
 rintro e w2 ⟨rfl, hS, hb⟩
 have S2 : Hid (Lib.IsBuilder 235 5 w.heap.size w.heap.size (Lib.byteCells (c0 ++ body (L.take 0))) w2) := by
  rw [strCells_mk] at hS
  have e : c0 ++ body (L.take 0) = c0 := by simp [body]
  rw [e]
  exact Or.inr (by simpa using hS)
 have B2 := Lib.hid (B1.out.trans hb)
 clear hS hb S1 B1
 go_wp2_with fail
 go_loopw [13] (fun i wr => ∃ k : Nat, k ≤ L.length ∧ i = .int .i64 k ∧ Below w.heap.size w wr ∧ Lib.IsBuilder 235 5 w.heap.size w.heap.size (Lib.byteCells (c0 ++ body (L.take k))) wr) (fun i _ => L.length - (intOf i).toNat)
 case atStart => exact ⟨0, by omega, rfl, B2.out, S2.out⟩
 case round =>
  obtain ⟨k, hk, rfl, hB, hS⟩ := hrel
  have B3 := Lib.hid hB
  have S3 := Lib.hid hS
  clear hB hS S2 B2
  by_cases hlt : k < L.length
  ·have h3 := HI.out.below B3.out (Nat.le_refl _)
   rcases h3 with h3 | ⟨b, o, rfl, hbw, hcell⟩
   ·subst h3; simp at hlt
   ·have hcl := hcell k hlt
    rw [getD_get _ _ hlt] at hcl
    have hin := HN.out L[k] (List.getElem_mem hlt)
    have hsn := body_snoc (L.take k) L[k]
    rw [← List.take_succ_eq_append_getElem hlt] at hsn
    have HSN := Lib.hid hsn
    have hbl := body_len (L.take k) fun n hn => HN.out n (List.mem_of_mem_take hn)
    rw [List.length_take, Nat.min_eq_left (by omega)] at hbl
    generalize L[k] = x at *
    clear hcell hsn hbw
    have hxl := grp_ten (sig_lt hin.1 hin.2)
    rw [← num_len] at hxl
    go_wp2_with fail
    refine (signed_any x _ hin.1 hin.2).mono ?_
    rintro e w3 ⟨rfl, rfl⟩
    clear hcl
    go_wp2_with fail
    refine (number_any (sig x) (sig_lt hin.1 hin.2) _).mono ?_
    rintro e w4 ⟨rfl, hb⟩
    have S4 := Lib.hid (builder_below S3.out hb)
    have B4 := Lib.hid (B3.out.trans (hb.mono B3.out.size))
    clear hb S3 B3
    go_wp2_with fail
    refine (write_any w.heap.size w.heap.size _ ⟨(num (sig x)).toArray⟩ w4 S4.out (by rw [byteCells_len, List.length_append]; show _ + (num (sig x)).toArray.size ≤ _; simp; omega) B4.out.size).mono ?_
    rintro e w5 ⟨rfl, hS, hb⟩
    have S5 : Hid (Lib.IsBuilder 235 5 w.heap.size w.heap.size (Lib.byteCells (c0 ++ body (L.take (k + 1)))) w5) := by
     rw [strCells_mk, byteCells_app, List.append_assoc, ← HSN.out] at hS
     exact Or.inr hS
    have B5 := Lib.hid (B4.out.trans hb)
    clear hS hb S4 B4
    go_wp2_with fail
    exact ⟨⟨k + 1, by omega, by go_num, B5.out, S5.out⟩, by simp [intOf]; omega⟩
  ·obtain rfl : k = L.length := by omega
   rw [List.take_length] at S3
   go_wp2_with fail
   refine (Tryz.Builder_String_any w.heap.size w.heap.size _ _ S3.out B3.out.size).mono ?_
   rintro e w6 ⟨rfl, hb⟩
   go_wp2_with fail
   go_ret
   refine ⟨?_, B3.out.trans hb⟩
   rw [ints, HC0.out]; rfl
end Go.Proofs.YtdojgbpaheadnaaGreat

/- Rows of numbers as slices. -/
namespace Go.Proofs.YtdojgbpaheadnaaGreat
open Go.RowKit Go.Shelf Go.Maps

abbrev encZ (x : Int) : Value := .int .i64 x
theorem slice_of {w : World} {B n : Nat} {v : Value} {L : List Int} (h : w.ownsRow B 3 1 v n (L.map encZ)) : ∃ a cap, v = .slice a L.length cap ∧ IntsAt w a L ∧ L.length ≤ cap ∧ cap ≤ 9223372036854775807 := by
 have hl : L.length = n := by have := h.1; simpa using this
 have h' := h
 rcases h.2 with ⟨rfl, e⟩ | ⟨g, cap, cur, rfl, _, h1, h2, h3, _⟩
 ·have : L = [] := List.eq_nil_of_length_eq_zero (by omega)
  subst this
  exact ⟨none, 0, rfl, .inl rfl, by simp, by omega⟩
 ·refine ⟨some ⟨g, 0, none⟩, cap, by rw [hl], .inr ⟨g, 0, rfl, heap_lt h1, fun k hk => ?_⟩, by omega, by unfold maxLen at h3; omega⟩
  have := rowE_cell h' k (.int .i64 (L.getD k 0)) (by rw [List.getElem?_map, List.getElem?_eq_getElem hk, getD_get _ _ hk]; rfl)
  simpa using this
theorem info3 : (Tryz.prog.info? 3).map (fun i => (i.zero, i.size, i.bytes)) = some (some (.int .i64 0), 1, 8) := by kernel_rfl
theorem news1 (w : World) (v : Value) (T : TypeId) : ∀ (j : Nat) (u : Value), [v][j]? = some u → (w.alloc (.cells #[v] T)).cell? (Addr.add ⟨w.heap.size, 0, none⟩ j) = some u := by
 intro j u hj
 match j, hj with
 | 0, hj => simp at hj; subst hj; simp [Addr.add]
theorem own_some {w : World} {B : Nat} {e : TypeId} {z n : Nat} {v : Value} {xs : List Value} (h : w.ownsRow B e z v (n + 1) xs) : ∃ g c, v = .slice (some ⟨g, 0, none⟩) (n + 1) c := by
 obtain ⟨h0, ⟨_, h1⟩ | ⟨g, c, cur, q1, _⟩⟩ := h
 ·omega
 ·exact ⟨g, c, q1⟩
theorem one_ {v : Value} (h : v.oneCell' = true) : ∀ u ∈ [v], u.oneCell' = true := by simp [h]
theorem ints1 (D : List Int) : ∀ u ∈ D.map (Value.int .i64), u.oneCell' = true := by
 intro u hu
 obtain ⟨d, _, rfl⟩ := List.mem_map.1 hu
 rfl
theorem grow_blk' {w w' : World} {i : Nat} {row : Option Nat} {xs : Array Value} {T : TypeId} (k : Blk w i xs T) (hg : w.grownBy w' row) (hne : some i ≠ row) : Blk w' i xs T := by
 unfold Blk; rw [hg.block i k.lt hne]; exact k
end Go.Proofs.YtdojgbpaheadnaaGreat
