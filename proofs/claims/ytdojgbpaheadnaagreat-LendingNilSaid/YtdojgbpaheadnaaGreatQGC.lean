/- The contract of codec.ReadInts. -/
import Derived.Test.YtdojgbpaheadnaaGreatQGA
import Derived.Test.YtdojgbpaheadnaaGreatQCB
import Derived.Deep.RegionHeld3
import Derived.Deep.AppendLies
import Derived.Test.YtdojgbpaheadnaaGreatQCR
set_option linter.unusedVariables false
set_option linter.unusedSimpArgs false

namespace Go.Proofs.YtdojgbpaheadnaaGreat
open Go.RowKit Go.Shelf Go.Maps

/-- What the reading of a list returns: the list in memory, or an error. -/
def RiE (l : List UInt8) (e : Ending) (w' : World) : Prop :=
  (∃ L a cap, e = .returned (.tuple #[.slice a L.length cap, .int .i64 0]) ∧ l = ints L ∧ AllIn L ∧ IntsAt w' a L ∧ L.length ≤ cap ∧ cap ≤ 9223372036854775807 ∧ (a = none → cap = 0)) ∨
  (∃ c : Int, e = .returned (.tuple #[.slice none 0 0, .int .i64 c]) ∧ c ≠ 0 ∧ ∀ L, AllIn L → l ≠ ints L)
theorem slice_of2 {w : World} {B n : Nat} {v : Value} {L : List Int} (h : w.ownsRow B 3 1 v n (L.map encZ)) : ∃ a cap, v = .slice a L.length cap ∧ IntsAt w a L ∧ L.length ≤ cap ∧ cap ≤ 9223372036854775807 ∧ (a = none → cap = 0) := by
  obtain ⟨a, cap, h1, h2, h3, h4⟩ := slice_of h
  refine ⟨a, cap, h1, h2, h3, h4, fun e => ?_⟩
  rcases h.2 with ⟨h5, _⟩ | ⟨g, c, cur, h5, _⟩
  · rw [h1] at h5; injection h5
  · rw [h1, e] at h5; injection h5 with h5; cases h5
theorem RdR.fail {l : List UInt8} {m k : Nat} {c : Int} (h : RdR l m k c) (hc : c ≠ 0) : (c = 10 ∨ c = 11) ∧ k = 0 ∧ m = 0 ∧ ∀ v r, v < 18446744073709551616 → l ≠ num v ++ r := by
  rcases h with ⟨h1, _⟩ | ⟨h1, h2, h3, h4⟩
  · exact absurd h1 hc
  · exact ⟨h1, h3, h2, h4⟩
theorem RdR.good {s : ByteArray} {m k : Nat} {c : Int} (h : RdR s.data.toList m k c) (hc : c = 0) : m < 18446744073709551616 ∧ 1 ≤ k ∧ s.data.toList = num m ++ (s.extract k s.size).data.toList := by
  rcases h with ⟨_, h2, h3, r, h4⟩ | ⟨h1, _⟩
  · refine ⟨h2, by rw [h3, num_len]; exact grp_pos m, ?_⟩
    have e : (s.extract k s.size).data.toList = s.data.toList.drop k := by
      have h1 : (s.extract k s.size).data.toList = List.take (s.size - k) (s.data.toList.drop k) := by simp [ByteArray.data_extract, Array.toList_extract]
      rw [h1, List.take_of_length_le (by rw [List.length_drop, dlen]; omega)]
    rw [e, h3]
    conv => lhs; rw [h4]
    rw [h4, List.drop_left]
  · omega
theorem ext_size (s : ByteArray) (k : Nat) (h : k ≤ s.size) : (s.extract k s.size).size = s.size - k := by rw [ByteArray.size_extract]; omega
/-- What has been read. -/
def Mid (l : List UInt8) (m : Nat) (done : List Int) (t : ByteArray) (c : Int) : Prop :=
  t.size ≤ 1000000 ∧ AllIn done ∧ ((c = 0 ∧ Begun l m done t.data.toList) ∨ ((c = 10 ∨ c = 11) ∧ ∀ L, AllIn L → l ≠ ints L))
theorem Mid.next {l : List UInt8} {m : Nat} {done : List Int} {t : ByteArray} {v k : Nat} {c : Int} (h : Mid l m done t 0) (hl : done.length < m) (hR : RdR t.data.toList v k c) : Mid l m (done ++ [uns v]) (t.extract k t.size) c := by
  obtain ⟨h1, h2, h3 | h3⟩ := h
  · have hz := hR.size
    rw [dlen] at hz
    refine ⟨by rw [ext_size _ _ hz.1]; omega, fun n hn => ?_, ?_⟩
    · rcases List.mem_append.1 hn with h4 | h4
      · exact h2 n h4
      · simp at h4; subst h4; exact uns_in hz.2.2
    · by_cases hc : c = 0
      · obtain ⟨g1, g2, g3⟩ := hR.good hc
        exact .inl ⟨hc, h3.2.step hl g1 g3⟩
      · obtain ⟨g1, _, _, g2⟩ := hR.fail hc
        exact .inr ⟨g1, fun L hL => h3.2.fail hl g2 L hL⟩
  · omega
theorem Mid.first {s : ByteArray} {m k : Nat} {c : Int} (hs : s.size ≤ 1000000) (hR : RdR s.data.toList m k c) : Mid s.data.toList m [] (s.extract k s.size) c := by
  have hz := hR.size
  rw [dlen] at hz
  refine ⟨by rw [ext_size _ _ hz.1]; omega, fun n hn => by simp at hn, ?_⟩
  by_cases hc : c = 0
  · obtain ⟨g1, g2, g3⟩ := hR.good hc
    exact .inl ⟨hc, Begun.start g3⟩
  · obtain ⟨g1, _, _, g2⟩ := hR.fail hc
    exact .inr ⟨g1, fun L _ => no_ints g2 L (by rw [dlen]; omega)⟩
theorem Mid.len {l : List UInt8} {m : Nat} {done : List Int} {t : ByteArray} (h : Mid l m done t 0) (hl : l.length ≤ 1000000) : done.length < 1000000 := by
  obtain ⟨_, _, h3 | h3⟩ := h
  · have := h3.2.len; omega
  · omega
theorem one1 (x : Int) : ∀ u ∈ [Value.int .i64 x], u.oneCell' = true := by intro u hu; simp at hu; subst hu; rfl
set_option maxRecDepth 100000 in
set_option maxHeartbeats 1000000 in
theorem creadints_any (s : ByteArray) (w : World) (hs : s.size ≤ 1000000) : Calls Tryz.prog 84 #[.string s] w fun e w' => RiE s.data.toList e w' ∧ Below w.heap.size w w' := by
  have I0 : RowKit.Hid (InAt (w.alloc (.cells #[.string s, .int .i64 0] 215)) w.heap.size s 0) := Lib.hid (Blk.new w _ 215)
  have B0 := Lib.hid ((Below.refl _ w).alloc (Nat.le_refl _) (.cells #[.string s, .int .i64 0] 215))
  have hz0 : w.heap.size < (w.alloc (.cells #[.string s, .int .i64 0] 215)).heap.size := by rw [size_alloc]; omega
  obtain ⟨i0, hi, hz1, hz2, hz3⟩ := info_parts info3
  go_enter Tryz.func84, Tryz.ntmps84
  go_wp2_with fail
  generalize w.alloc (.cells #[.string s, .int .i64 0] 215) = w1 at *
  refine (number_in I0.out (by omega)).mono ?_
  rintro e w2 ⟨m, k, c, rfl, hR, hI, hB, hk⟩
  have hm := hR.size.2.2
  have MD := Lib.hid (Mid.first hs hR)
  have I2 := Lib.hid hI
  have B2 := Lib.hid (B0.out.trans hB)
  have R2 := Lib.hid (World.ownsRow_nil w2 (w.heap.size + 1) 3 1)
  clear hR hI hB hk B0 I0
  generalize s.extract k s.size = t at *
  go_wp2_with fail
  go_loopw [6, 7] (fun v i wr => ∃ (done : List Int) (t : ByteArray) (c : Int), i = .int .u64 (done.length : Int) ∧ done.length ≤ 1000000 ∧ Mid s.data.toList m done t c ∧ InAt wr w.heap.size t c ∧ Below w.heap.size w wr ∧ wr.ownsRow (w.heap.size + 1) 3 1 v done.length (done.map encZ)) (fun _ i _ => 1000001 - (intOf i).toNat)
  case atStart => exact ⟨[], t, c, rfl, by simp, MD.out, I2.out, B2.out, R2.out⟩
  case round =>
    obtain ⟨done, t, c, rfl, hlen, hMd, hI, hB, hrow⟩ := hrel
    have M3 := Lib.hid hMd
    have I3 := Lib.hid hI
    have B3 := Lib.hid hB
    have R3 := Lib.hid hrow
    have c0 := Blk.cell hI 0
    have c1 := Blk.cell hI 1
    have hlt := Blk.lt hI
    have hf := Blk.frozen hI
    simp at c0 c1
    clear hMd hI hB hrow MD I2 B2 R2
    obtain ⟨n, hn⟩ : ∃ n, done.length = n := ⟨_, rfl⟩
    have HN := Lib.hid hn
    rw [hn] at hlen R3
    rw [hn]
    clear hn
    by_cases hgo : n < m ∧ c = 0
    · obtain ⟨hnm, rfl⟩ := hgo
      have hlen2 : n < 1000000 := by have := M3.out.len (by rw [dlen]; exact hs); rw [HN.out] at this; exact this
      go_wp2_with fail
      refine (number_in I3.out (by have := M3.out.1; omega)).mono ?_
      rintro e w4 ⟨v, k, c, rfl, hR, hI, hB, hk⟩
      have hv := hR.size.2.2
      have M4 := Lib.hid (M3.out.next (by rw [HN.out]; exact hnm) hR)
      have I4 := Lib.hid hI
      have B4 := Lib.hid (B3.out.trans hB)
      have R4 := Lib.hid (ownsB_same R3.out fun r hr => hk r (by have := (R3.out.lt r hr).1; omega) (R3.out.lt r hr).2)
      clear hR hI hB hk M3 I3 B3 R3 c0 c1 hf hlt
      generalize t.extract k t.size = t4 at *
      go_wp2_with fail
      refine (unsigned_any v _ hv).mono ?_
      rintro e w5 ⟨rfl, rfl⟩
      have hB4 := B4.out.size
      generalize uns v = x at *
      go_wp2_with (at_builtin; go_must (refine wpList_append_lies _ rfl (.tmp 25) (.tmp 29) 25 rfl (w.heap.size + 1) 3 i0 (.int .i64 0) 1 8 Tryz.underlying25 hi hz1 hz2 hz3 rfl (by omega) u6 n _ (by rfl) (R4.out.alloc _) ⟨w4.heap.size, 0, none⟩ 1 1 [.int .i64 x] (by rfl) (by rfl) (news1 w4 _ 3) (one1 x) (by omega) (by unfold maxLen; omega) (by omega) (by simp; have := Blk.lt I4.out; omega) (w4.heap.size + 1) (by simp) ?_; intro gg cap' w6 hown6 hgrow hat hlt5))
      have hne : some w.heap.size ≠ u6.ownBlock := fun e => by have := (R4.out.lt _ e.symm).1; omega
      have I6 := Lib.hid (grow_blk' (Blk.alloc I4.out (.cells #[.int .i64 x] 3)) hgrow hne)
      have B6 := Lib.hid ((B4.out.alloc hB4 (.cells #[.int .i64 x] 3)).grown hgrow (by rw [size_alloc]; omega) (fun j e => by have := (R4.out.lt _ e).1; omega))
      have R6 : RowKit.Hid (w6.ownsRow (w.heap.size + 1) 3 1 (.slice (some ⟨gg, 0, none⟩) (n + 1) cap') (n + 1) ((done ++ [x]).map encZ)) := by
        rw [List.map_append]; exact hown6
      clear R4 B4 I4 hne hown6 hgrow hat hlt5
      go_wp2_with fail
      refine ⟨⟨done ++ [x], t4, c, ?_, ?_, M4.out, I6.out, B6.out, ?_⟩, ?_⟩
      · rw [List.length_append, List.length_singleton, HN.out]; go_num
      · rw [List.length_append, List.length_singleton, HN.out]; omega
      · rw [List.length_append, List.length_singleton, HN.out]; exact R6.out
      · simp [intOf]; omega
    · obtain ⟨h1, h2, h3⟩ := M3.out
      rcases h3 with ⟨rfl, h3⟩ | ⟨h3, h4⟩
      · have hnm : ¬ n < m := fun h => hgo ⟨h, rfl⟩
        have H3 := Lib.hid h3
        have H2 := Lib.hid h2
        have h3' : ∀ L, AllIn L → t.data.toList ≠ [] → s.data.toList ≠ ints L := fun L _ hne => h3.more (by rw [HN.out]; exact hnm) hne L
        clear h3 h2 hgo
        by_cases he : t.data.toList = []
        · have key := Lib.hid (Begun.done (by have := H3.out; rwa [he] at this) (by rw [HN.out]; exact hnm))
          rw [← ByteArray.toList_eq] at he
          have he1 : (!t.toList.isEmpty) = false := by rw [he]; rfl
          obtain ⟨a, cap, hv, hI', hc1, hc2, hc9⟩ := slice_of2 R3.out
          have KE := Lib.hid (show RiE s.data.toList (.returned (.tuple #[u6, .int .i64 0])) wr from .inl ⟨done, a, cap, by rw [hv], key.out, H2.out, hI', hc1, hc2, hc9⟩)
          clear hv hI' he hc9
          go_wp2_with fail
          go_ret2
          exact ⟨KE.out, B3.out⟩
        · have key := Lib.hid (fun L hL => h3' L hL he)
          rw [← ByteArray.toList_eq] at he
          have he1 : (!t.toList.isEmpty) = true := by simpa using he
          clear he h3'
          go_wp2_with fail
          go_quiet (fail)
          go_wp2_with fail
          go_ret2
          exact ⟨.inr ⟨11, rfl, by omega, key.out⟩, bdrewN (B3.out.setCell (p := ⟨w.heap.size, 1, none⟩) (Nat.le_refl _) _) _⟩
      · have key := Lib.hid h4
        have hc0 : (c == 0) = false := by simp; omega
        have hc1 : (c != 0) = true := by simp; omega
        have hcne : c ≠ 0 := by omega
        have HCN := Lib.hid hcne
        clear h2 h4 hgo h3 hcne
        by_cases hnm : n < m
        all_goals
          go_wp2_with fail
          go_quiet (fail)
          go_wp2_with fail
          go_ret2
          exact ⟨.inr ⟨c, rfl, HCN.out, key.out⟩, bdrewN B3.out _⟩
end Go.Proofs.YtdojgbpaheadnaaGreat

/- The contracts of the reference's ReadNumber and Unsigned. -/
namespace Go.Proofs.YtdojgbpaheadnaaGreat
open Go.RowKit Go.Shelf Go.Maps

theorem rd_step2 {l : List UInt8} {k m f : Nat} (hk : k < l.length) (hm : m = val (l.take k) % 18446744073709551616) (hf : f = 128 ^ k % 18446744073709551616) :
    ∃ m' f' : Nat, IntKind.u64.wrap ((m : Int) + IntKind.u64.wrap ((l[k].toNat : Int) % 128 * (f : Int))) = (m' : Int) ∧ IntKind.u64.wrap ((f : Int) * 128) = (f' : Int) ∧ m' = val (l.take (k + 1)) % 18446744073709551616 ∧ f' = 128 ^ (k + 1) % 18446744073709551616 := by
  refine ⟨_, _, ?_, ?_, rfl, rfl⟩
  · have e : l.take (k + 1) = l.take k ++ [l[k]] := List.take_succ_eq_append_getElem hk
    have hl : (l.take k).length = k := by rw [List.length_take]; omega
    rw [e, val_snoc, hl, hm, hf, wrap64u, wrap64u]
    have e1 : (l[k].toNat : Int) % 128 * ((128 ^ k % 18446744073709551616 : Nat) : Int) = ((l[k].toNat % 128 * (128 ^ k % 18446744073709551616) : Nat) : Int) := by rw [Int.natCast_mul]; rfl
    rw [e1]
    have e2 : l[k].toNat % 128 * 128 ^ k % 18446744073709551616 = l[k].toNat % 128 * (128 ^ k % 18446744073709551616) % 18446744073709551616 := (Nat.mul_mod_mod _ _ _).symm
    generalize val (l.take k) = x at *
    generalize l[k].toNat % 128 * (128 ^ k % 18446744073709551616) = y at *
    generalize l[k].toNat % 128 * 128 ^ k = z at *
    omega
  · rw [hf, wrap64u, Nat.pow_succ]
    generalize 128 ^ k = x
    omega
theorem rd_same {l : List UInt8} {k m' : Nat} (hk : k < l.length) (hm : m' = val (l.take (k + 1)) % 18446744073709551616) (hM : Mores (l.take k)) (hb : l[k].toNat < 128) (hne : num m' ≠ l.take (k + 1)) (v : Nat) (r : List UInt8) (hv : v < 18446744073709551616) : l ≠ num v ++ r := fun h => by
  have h1 := mores_num hM h
  have h2 := less_num hk hb h
  have hl : (num v).length = k + 1 := by omega
  have e : l.take (k + 1) = num v := by
    conv => lhs; rw [h]
    rw [← hl, List.take_left]
  rw [e, val_num v v (Nat.le_refl _), Nat.mod_eq_of_lt hv] at hm
  exact hne (by rw [hm, e])
theorem rd_same_yes {l : List UInt8} {k m' : Nat} (hk : k < l.length) (hm : m' = val (l.take (k + 1)) % 18446744073709551616) (he : num m' = l.take (k + 1)) : RdR l m' (k + 1) 0 :=
  .inl ⟨rfl, by rw [hm]; exact Nat.mod_lt _ (by omega), by rw [he, List.length_take]; omega, l.drop (k + 1), by rw [he, List.take_append_drop]⟩
theorem mores_step {l : List UInt8} {k : Nat} (hk : k < l.length) (hM : Mores (l.take k)) (hb : 128 ≤ l[k].toNat) : Mores (l.take (k + 1)) := by
  rw [List.take_succ_eq_append_getElem hk]; exact hM.snoc hb
theorem str_eq_take (l : List UInt8) (s : ByteArray) (k : Nat) : (l == (s.extract 0 k).toList) = decide (l = s.data.toList.take k) := by
  have h : (s.extract 0 k).data.toList = s.data.toList.take k := by simp [ByteArray.data_extract, Array.toList_extract]
  rw [ByteArray.toList_eq, h]
  rw [Bool.eq_iff_iff]; simp
set_option maxRecDepth 100000 in
set_option maxHeartbeats 2000000 in
theorem rrd_any (s : ByteArray) (w : World) (hs : s.size ≤ 1000000000) : Calls Tryz.prog 110 #[.string s] w fun e w' => RdE s e ∧ Below w.heap.size w w' := by
  go_enter Tryz.func110, Tryz.ntmps110
  go_wp2_with fail
  go_loop [5, 6, 7] (fun n f i => ∃ k m g : Nat, k ≤ s.size ∧ k ≤ 10 ∧ i = .int .i64 k ∧ n = .int .u64 m ∧ f = .int .u64 g ∧ m = val (s.data.toList.take k) % 18446744073709551616 ∧ g = 128 ^ k % 18446744073709551616 ∧ Mores (s.data.toList.take k)) (fun _ _ i => 10 - (intOf i).toNat)
  case atStart => exact ⟨0, 0, 1, by omega, by omega, rfl, rfl, rfl, by simp [val], by simp, fun x hx => by simp at hx⟩
  case round =>
    obtain ⟨k, m, g, hk, hk10, rfl, rfl, rfl, hm, hg, hM⟩ := hrel
    by_cases hgo : k < s.size ∧ k < 10
    · obtain ⟨hlt, h10⟩ := hgo
      have hkl : k < s.data.toList.length := by rw [dlen]; omega
      obtain ⟨b, hb⟩ : ∃ b, s.data.toList[k] = b := ⟨_, rfl⟩
      obtain ⟨m', g', h1, h2, h3, h4⟩ := rd_step2 hkl hm hg
      have HT := Lib.hid (fun h => mores_step hkl hM h)
      have HY := Lib.hid (fun h => rd_same_yes hkl h3 h)
      have HN := Lib.hid (fun h1 h2 => rd_same hkl h3 hM h1 h2)
      rw [hb] at h1 HT HN
      have hidx : s[k]'hlt = b := by rw [← hb]; rfl
      have hm7 : m' < 18446744073709551616 := by rw [h3]; exact Nat.mod_lt _ (by omega)
      have hm6 : m < 18446744073709551616 := by rw [hm]; exact Nat.mod_lt _ (by omega)
      have hg6 : g < 18446744073709551616 := by rw [hg]; exact Nat.mod_lt _ (by omega)
      have H3 := Lib.hid h3
      have H4 := Lib.hid h4
      have hbl := b.toNat_lt
      clear h3 h4 hM hm hg hkl hb
      by_cases hb7 : 128 ≤ b.toNat
      · have hM2 := Lib.hid (HT.out hb7)
        go_wp2_with fail
        exact ⟨⟨k + 1, m', g', by omega, by omega, by go_num, by first | rfl | trivial, by first | rfl | trivial, H3.out, H4.out, hM2.out⟩, by simp [intOf]; omega⟩
      · by_cases he : num m' = s.data.toList.take (k + 1)
        · have hq := str_eq_take (num m') s (k + 1)
          rw [decide_eq_true he] at hq
          have key := Lib.hid (HY.out he)
          clear he
          go_wp2_with fail
          refine (rnumber_any m' w hm7).mono ?_
          rintro e w1 ⟨rfl, hb⟩
          have B1 := Lib.hid hb
          clear hb
          go_wp2_with fail
          go_ret3
          exact ⟨⟨m', k + 1, 0, rfl, key.out⟩, B1.out⟩
        · have hq := str_eq_take (num m') s (k + 1)
          rw [decide_eq_false he] at hq
          have key := Lib.hid (HN.out (by omega) he)
          clear he
          go_wp2_with fail
          refine (rnumber_any m' w hm7).mono ?_
          rintro e w1 ⟨rfl, hb⟩
          have B1 := Lib.hid hb
          clear hb
          go_wp2_with fail
          go_ret3
          exact ⟨⟨0, 0, 11, rfl, .inr ⟨.inr rfl, rfl, rfl, key.out⟩⟩, B1.out⟩
    · have key := Lib.hid (rd_end hM (by rw [dlen]; omega))
      clear hm hg hM
      by_cases h10 : k < 10
      · have hks : k = s.size := by omega
        have hs10 : s.size < 10 := by omega
        clear hgo
        subst hks
        go_wp2_with fail
        go_ret3
        exact ⟨⟨0, 0, 10, rfl, .inr ⟨.inl rfl, rfl, rfl, key.out⟩⟩, Below.refl _ _⟩
      · have hs10 : ¬ s.size < 10 := by omega
        clear hgo
        by_cases hks : k < s.size
        all_goals
          go_wp2_with fail
          go_ret3
          exact ⟨⟨0, 0, 11, rfl, .inr ⟨.inr rfl, rfl, rfl, key.out⟩⟩, Below.refl _ _⟩
set_option maxRecDepth 100000 in
theorem runsigned_any (n : Nat) (w : World) (h : n < 18446744073709551616) : Calls Tryz.prog 111 #[.int .u64 (n : Int)] w fun e w' => e = .returned (.int .i64 (uns n)) ∧ w = w' := by
  have HU : uns n = if n % 2 = 0 then ((n / 2 : Nat) : Int) else -1 - ((n / 2 : Nat) : Int) := rfl
  have e2 : ((n / 2 : Nat) : Int) = (n : Int) / 2 := by omega
  rcases Nat.mod_two_eq_zero_or_one n with h2 | h2
  · rw [if_pos h2, e2] at HU
    rw [HU]
    have hq : ((n : Int) % 2 == 0) = true := by simp; omega
    clear HU h2 e2
    go_enter Tryz.func111, Tryz.ntmps111
    go_wp2
    go_ret
    exact ⟨ret_int (by omega), rfl⟩
  · rw [if_neg (by omega), e2] at HU
    rw [HU]
    have hq : ((n : Int) % 2 == 0) = false := by simp; omega
    clear HU h2 e2
    go_enter Tryz.func111, Tryz.ntmps111
    go_wp2
    go_ret
    exact ⟨ret_int (by omega), rfl⟩
end Go.Proofs.YtdojgbpaheadnaaGreat

/- The contract of the reference's ReadInts. -/
namespace Go.Proofs.YtdojgbpaheadnaaGreat
open Go.RowKit Go.Shelf Go.Maps

theorem ext_drop (s : ByteArray) (a : Nat) : (s.extract a s.size).data.toList = s.data.toList.drop a := by
  have h1 : (s.extract a s.size).data.toList = List.take (s.size - a) (s.data.toList.drop a) := by simp [ByteArray.data_extract, Array.toList_extract]
  rw [h1, List.take_of_length_le (by rw [List.length_drop, dlen]; omega)]
theorem begun_next {l : List UInt8} {m a v k : Nat} {done : List Int} (h : Begun l m done (l.drop a)) (hl : done.length < m) (hR : RdR (l.drop a) v k 0) : Begun l m (done ++ [uns v]) (l.drop (a + k)) ∧ 1 ≤ k := by
  rcases hR with ⟨_, h2, h3, r, h4⟩ | ⟨h1, _⟩
  · have e : l.drop (a + k) = r := by rw [← List.drop_drop, h4, h3, List.drop_left]
    rw [e]
    exact ⟨h.step hl h2 h4, by rw [h3, num_len]; exact grp_pos v⟩
  · omega
set_option maxRecDepth 100000 in
set_option maxHeartbeats 1000000 in
theorem rreadints_any (s : ByteArray) (w : World) (hs : s.size ≤ 1000000) : Calls Tryz.prog 87 #[.string s] w fun e w' => RiE s.data.toList e w' ∧ Below w.heap.size w w' := by
  obtain ⟨i0, hi, hz1, hz2, hz3⟩ := info_parts info3
  go_enter Tryz.func87, Tryz.ntmps87
  go_wp2_with fail
  refine (rrd_any s w (by omega)).mono ?_
  rintro e w1 ⟨⟨m, k, c, rfl, hR⟩, hb⟩
  have hm := hR.size.2.2
  have hkz : k ≤ s.size := by have := hR.size.1; rwa [dlen] at this
  have HR := Lib.hid hR
  have B1 := Lib.hid hb
  clear hR hb
  by_cases hc : c = 0
  · subst hc
    have BG : RowKit.Hid (Begun s.data.toList m [] (s.data.toList.drop k)) := Lib.hid (by
      have := (HR.out.good rfl).2.2
      rw [ext_drop] at this
      exact Begun.start this)
    have R1 := Lib.hid (World.ownsRow_nil w1 w.heap.size 3 1)
    go_wp2_with fail
    go_loopw [5, 7, 8] (fun at_ v i wr => ∃ (done : List Int) (a : Nat), i = .int .u64 (done.length : Int) ∧ at_ = .int .i64 (a : Int) ∧ done.length ≤ 1000000 ∧ a ≤ s.size ∧ Begun s.data.toList m done (s.data.toList.drop a) ∧ Below w.heap.size w wr ∧ wr.ownsRow w.heap.size 3 1 v done.length (done.map encZ)) (fun _ _ i _ => 1000001 - (intOf i).toNat)
    case atStart => exact ⟨[], k, rfl, rfl, by simp, hkz, BG.out, B1.out, R1.out⟩
    case round =>
      obtain ⟨done, a, rfl, rfl, hlen, ha, hBg, hB, hrow⟩ := hrel
      have G3 := Lib.hid hBg
      have B3 := Lib.hid hB
      have R3 := Lib.hid hrow
      clear hBg hB hrow BG B1 R1 HR
      obtain ⟨n, hn⟩ : ∃ n, done.length = n := ⟨_, rfl⟩
      have HN := Lib.hid hn
      rw [hn] at hlen R3
      rw [hn]
      clear hn
      have hes : (s.extract a s.size).size = s.size - a := ext_size s a ha
      have hes2 : (s.extract a s.size).size ≤ 1000000000 := by omega
      clear hes
      by_cases hgo : n < m
      · have hlen2 : n < 1000000 := by
          have := G3.out.len
          rw [HN.out, dlen] at this
          omega
        go_wp2_with fail
        refine (rrd_any (s.extract a s.size) wr hes2).mono ?_
        rintro e w4 ⟨⟨v, j, c, rfl, hR⟩, hb⟩
        rw [ext_drop] at hR
        have hv := hR.size.2.2
        have hj : a + j ≤ s.size := by have := hR.size.1; rw [List.length_drop, dlen] at this; omega
        have hj10 := hR.size.2.1
        have B4 := Lib.hid (B3.out.trans (hb.mono B3.out.size))
        have R4 := Lib.hid (ownsB_same R3.out fun r hr => hb.block r (R3.out.lt r hr).2)
        have HR := Lib.hid hR
        clear hR hb B3 R3 hes2
        by_cases hc : c = 0
        · subst hc
          have key := begun_next G3.out (by rw [HN.out]; exact hgo) HR.out
          have G4 := Lib.hid key.1
          clear key G3 HR
          go_wp2_with fail
          refine (runsigned_any v _ hv).mono ?_
          rintro e w5 ⟨rfl, rfl⟩
          have hB4 := B4.out.size
          generalize uns v = x at *
          go_wp2_with (at_builtin; go_must (refine wpList_append_lies _ rfl (.tmp 40) (.tmp 43) 25 rfl w.heap.size 3 i0 (.int .i64 0) 1 8 Tryz.underlying25 hi hz1 hz2 hz3 rfl (by omega) u7 n _ (by rfl) (R4.out.alloc _) ⟨w4.heap.size, 0, none⟩ 1 1 [.int .i64 x] (by rfl) (by rfl) (news1 w4 _ 3) (one1 x) (by omega) (by unfold maxLen; omega) (by omega) (by simp; omega) (w4.heap.size + 1) (by simp) ?_; intro gg cap' w6 hown6 hgrow hat hlt5))
          have B6 := Lib.hid ((B4.out.alloc hB4 (.cells #[.int .i64 x] 3)).grown hgrow (by rw [size_alloc]; omega) (fun j e => (R4.out.lt _ e).1))
          have R6 : RowKit.Hid (w6.ownsRow w.heap.size 3 1 (.slice (some ⟨gg, 0, none⟩) (n + 1) cap') (n + 1) ((done ++ [x]).map encZ)) := by
            rw [List.map_append]; exact hown6
          clear R4 B4 hown6 hgrow hat hlt5
          go_wp2_with fail
          refine ⟨⟨done ++ [x], a + j, ?_, by go_num, ?_, hj, G4.out, B6.out, ?_⟩, ?_⟩
          · rw [List.length_append, List.length_singleton, HN.out]; go_num
          · rw [List.length_append, List.length_singleton, HN.out]; omega
          · rw [List.length_append, List.length_singleton, HN.out]; exact R6.out
          · simp [intOf]; omega
        · have hq : (c != 0) = true := by simpa using hc
          have key := Lib.hid (G3.out.fail (by rw [HN.out]; exact hgo) (HR.out.fail hc).2.2.2)
          have HC := Lib.hid hc
          clear hc G3 HR
          go_wp2_with fail
          go_ret2
          exact ⟨.inr ⟨c, rfl, HC.out, key.out⟩, B4.out⟩
      · by_cases hend : a < s.size
        · have key := Lib.hid (G3.out.more (by rw [HN.out]; exact hgo) (fun e => by
            have := congrArg List.length e
            rw [List.length_drop, dlen, List.length_nil] at this
            omega))
          clear G3 R3
          go_wp2_with fail
          go_ret2
          exact ⟨.inr ⟨11, rfl, by omega, fun L _ => key.out L⟩, B3.out⟩
        · have key := Lib.hid (Begun.done (by have := G3.out; rwa [List.drop_of_length_le (by rw [dlen]; omega)] at this) (by rw [HN.out]; exact hgo))
          have H2 := Lib.hid G3.out.in_
          obtain ⟨ad, cap, hv, hI', hc1, hc2, hc9⟩ := slice_of2 R3.out
          have KE := Lib.hid (show RiE s.data.toList (.returned (.tuple #[u7, .int .i64 0])) wr from .inl ⟨done, ad, cap, by rw [hv], key.out, H2.out, hI', hc1, hc2, hc9⟩)
          clear hv hI' G3 R3 hc9
          go_wp2_with fail
          go_ret2
          exact ⟨KE.out, B3.out⟩
  · have hq : (c != 0) = true := by simpa using hc
    have key := Lib.hid (fun L (_ : AllIn L) => no_ints (HR.out.fail hc).2.2.2 L (by rw [dlen]; omega))
    have HC := Lib.hid hc
    clear hc HR
    go_wp2_with fail
    go_ret2
    exact ⟨.inr ⟨c, rfl, HC.out, key.out⟩, B1.out⟩
end Go.Proofs.YtdojgbpaheadnaaGreat
