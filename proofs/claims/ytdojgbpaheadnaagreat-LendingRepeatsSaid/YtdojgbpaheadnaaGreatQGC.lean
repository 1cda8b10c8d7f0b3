/- The contract of codec.ReadInts. -/
import Derived.Test.YtdojgbpaheadnaaGreatQGA
import Derived.Test.YtdojgbpaheadnaaGreatQCB
import Derived.Deep.RegionHeld3
import Derived.Deep.AppendLies
set_option linter.unusedVariables false
set_option linter.unusedSimpArgs false

namespace Go.Proofs.YtdojgbpaheadnaaGreat
open Go.RowKit Go.Shelf Go.Maps

def RiE (l : List UInt8) (e : Ending) (w' : World) : Prop :=
 (∃ L a cap, e = .returned (.tuple #[.slice a L.length cap, .int .i64 0]) ∧ l = ints L ∧ AllIn L ∧ IntsAt w' a L ∧ L.length ≤ cap ∧ cap ≤ 9223372036854775807 ∧ (a = none → cap = 0)) ∨
 (∃ c : Int, e = .returned (.tuple #[.slice none 0 0, .int .i64 c]) ∧ c ≠ 0 ∧ ∀ L, AllIn L → l ≠ ints L)
theorem slice_of2 {w : World} {B n : Nat} {v : Value} {L : List Int} (h : w.ownsRow B 3 1 v n (L.map encZ)) : ∃ a cap, v = .slice a L.length cap ∧ IntsAt w a L ∧ L.length ≤ cap ∧ cap ≤ 9223372036854775807 ∧ (a = none → cap = 0) := by
 obtain ⟨a, cap, h1, h2, h3, h4⟩ := slice_of h
 refine ⟨a, cap, h1, h2, h3, h4, fun e => ?_⟩
 rcases h.2 with ⟨h5, _⟩ | ⟨g, c, cur, h5, _⟩
 ·rw [h1] at h5; injection h5
 ·rw [h1, e] at h5; injection h5 with h5; cases h5
theorem RdR.fail {l : List UInt8} {m k : Nat} {c : Int} (h : RdR l m k c) (hc : c ≠ 0) : (c = 10 ∨ c = 11) ∧ k = 0 ∧ m = 0 ∧ ∀ v r, v < 18446744073709551616 → l ≠ num v ++ r := by
 rcases h with ⟨h1, _⟩ | ⟨h1, h2, h3, h4⟩
 ·exact absurd h1 hc
 ·exact ⟨h1, h3, h2, h4⟩
theorem RdR.good {s : ByteArray} {m k : Nat} {c : Int} (h : RdR s.data.toList m k c) (hc : c = 0) : m < 18446744073709551616 ∧ 1 ≤ k ∧ s.data.toList = num m ++ (s.extract k s.size).data.toList := by
 rcases h with ⟨_, h2, h3, r, h4⟩ | ⟨h1, _⟩
 ·refine ⟨h2, by rw [h3, num_len]; exact grp_pos m, ?_⟩
  have e : (s.extract k s.size).data.toList = s.data.toList.drop k := by
   have h1 : (s.extract k s.size).data.toList = List.take (s.size - k) (s.data.toList.drop k) := by simp [ByteArray.data_extract, Array.toList_extract]
   rw [h1, List.take_of_length_le (by rw [List.length_drop, dlen]; omega)]
  rw [e, h3]
  conv => lhs; rw [h4]
  rw [h4, List.drop_left]
 ·omega
theorem ext_size (s : ByteArray) (k : Nat) (h : k ≤ s.size) : (s.extract k s.size).size = s.size - k := by rw [ByteArray.size_extract]; omega
def Mid (l : List UInt8) (m : Nat) (done : List Int) (t : ByteArray) (c : Int) : Prop :=
 t.size ≤ 1000000 ∧ AllIn done ∧ ((c = 0 ∧ Begun l m done t.data.toList) ∨ ((c = 10 ∨ c = 11) ∧ ∀ L, AllIn L → l ≠ ints L))
theorem Mid.next {l : List UInt8} {m : Nat} {done : List Int} {t : ByteArray} {v k : Nat} {c : Int} (h : Mid l m done t 0) (hl : done.length < m) (hR : RdR t.data.toList v k c) : Mid l m (done ++ [uns v]) (t.extract k t.size) c := by
 obtain ⟨h1, h2, h3 | h3⟩ := h
 ·have hz := hR.size
  rw [dlen] at hz
  refine ⟨by rw [ext_size _ _ hz.1]; omega, fun n hn => ?_, ?_⟩
  ·rcases List.mem_append.1 hn with h4 | h4
   ·exact h2 n h4
   ·simp at h4; subst h4; exact uns_in hz.2.2
  ·by_cases hc : c = 0
   ·obtain ⟨g1, g2, g3⟩ := hR.good hc
    exact .inl ⟨hc, h3.2.step hl g1 g3⟩
   ·obtain ⟨g1, _, _, g2⟩ := hR.fail hc
    exact .inr ⟨g1, fun L hL => h3.2.fail hl g2 L hL⟩
 ·omega
theorem Mid.first {s : ByteArray} {m k : Nat} {c : Int} (hs : s.size ≤ 1000000) (hR : RdR s.data.toList m k c) : Mid s.data.toList m [] (s.extract k s.size) c := by
 have hz := hR.size
 rw [dlen] at hz
 refine ⟨by rw [ext_size _ _ hz.1]; omega, fun n hn => by simp at hn, ?_⟩
 by_cases hc : c = 0
 ·obtain ⟨g1, g2, g3⟩ := hR.good hc
  exact .inl ⟨hc, Begun.start g3⟩
 ·obtain ⟨g1, _, _, g2⟩ := hR.fail hc
  exact .inr ⟨g1, fun L _ => no_ints g2 L (by rw [dlen]; omega)⟩
theorem Mid.len {l : List UInt8} {m : Nat} {done : List Int} {t : ByteArray} (h : Mid l m done t 0) (hl : l.length ≤ 1000000) : done.length < 1000000 := by
 obtain ⟨_, _, h3 | h3⟩ := h
 ·have := h3.2.len; omega
 ·omega
theorem one1 (x : Int) : ∀ u ∈ [Value.int .i64 x], u.oneCell' = true := by intro u hu; simp at hu; subst hu; rfl
set_option maxRecDepth 100000 in
set_option maxHeartbeats 1000000 in
theorem creadints_any (s : ByteArray) (w : World) (hs : s.size ≤ 1000000) : Calls Tryz.prog 84 #[.string s] w fun e w' => RiE s.data.toList e w' ∧ Below w.heap.size w w' := by
 have I0 : Hid (InAt (w.alloc (.cells #[.string s, .int .i64 0] 215)) w.heap.size s 0) := Lib.hid (Blk.new w _ 215)
 have B0 := Lib.hid ((Below.refl _ w).alloc (Nat.le_refl _) (.cells #[.string s, .int .i64 0] 215))
 have hz0 : w.heap.size < (w.alloc (.cells #[.string s, .int .i64 0] 215)).heap.size := by rw [size_alloc]; omega
 obtain ⟨i0, hi, hz1, hz2, hz3⟩ := info_parts info3
 go_enter Tryz.func84, Tryz.ntmps84
 go_wp2_with fail
 generalize w.alloc (.cells #[.string s, .int .i64 0] 215) = w1 at *
 refine (number_in I0.out (by omega)).mono ?_
 rintro e w2 ⟨m, k, c, rfl, hR, hI, hB, hk⟩
 have hm := hR.size.2.2
 have MD := Lib.hid (Mid.first hs hR)
 have I2 := Lib.hid hI
 have B2 := Lib.hid (B0.out.trans hB)
 have R2 := Lib.hid (World.ownsRow_nil w2 (w.heap.size + 1) 3 1)
 clear hR hI hB hk B0 I0
 generalize s.extract k s.size = t at *
 go_wp2_with fail
 go_loopw [6, 7] (fun v i wr => ∃ (done : List Int) (t : ByteArray) (c : Int), i = .int .u64 (done.length : Int) ∧ done.length ≤ 1000000 ∧ Mid s.data.toList m done t c ∧ InAt wr w.heap.size t c ∧ Below w.heap.size w wr ∧ wr.ownsRow (w.heap.size + 1) 3 1 v done.length (done.map encZ)) (fun _ i _ => 1000001 - (intOf i).toNat)
 case atStart => exact ⟨[], t, c, rfl, by simp, MD.out, I2.out, B2.out, R2.out⟩
 case round =>
  obtain ⟨done, t, c, rfl, hlen, hMd, hI, hB, hrow⟩ := hrel
  have M3 := Lib.hid hMd
  have I3 := Lib.hid hI
  have B3 := Lib.hid hB
  have R3 := Lib.hid hrow
  have c0 := Blk.cell hI 0
  have c1 := Blk.cell hI 1
  have hlt := Blk.lt hI
  have hf := Blk.frozen hI
  simp at c0 c1
  clear hMd hI hB hrow MD I2 B2 R2
  obtain ⟨n, hn⟩ : ∃ n, done.length = n := ⟨_, rfl⟩
  have HN := Lib.hid hn
  rw [hn] at hlen R3
  rw [hn]
  clear hn
  by_cases hgo : n < m ∧ c = 0
  ·obtain ⟨hnm, rfl⟩ := hgo
   have hlen2 : n < 1000000 := by have := M3.out.len (by rw [dlen]; exact hs); rw [HN.out] at this; exact this
   go_wp2_with fail
   refine (number_in I3.out (by have := M3.out.1; omega)).mono ?_
   rintro e w4 ⟨v, k, c, rfl, hR, hI, hB, hk⟩
   have hv := hR.size.2.2
   have M4 := Lib.hid (M3.out.next (by rw [HN.out]; exact hnm) hR)
   have I4 := Lib.hid hI
   have B4 := Lib.hid (B3.out.trans hB)
   have R4 := Lib.hid (ownsB_same R3.out fun r hr => hk r (by have := (R3.out.lt r hr).1; omega) (R3.out.lt r hr).2)
   clear hR hI hB hk M3 I3 B3 R3 c0 c1 hf hlt
   generalize t.extract k t.size = t4 at *
   go_wp2_with fail
   refine (unsigned_any v _ hv).mono ?_
   rintro e w5 ⟨rfl, rfl⟩
   have hB4 := B4.out.size
   generalize uns v = x at *
   go_wp2_with (at_builtin; go_must (refine wpList_append_lies _ rfl (.tmp 25) (.tmp 29) 25 rfl (w.heap.size + 1) 3 i0 (.int .i64 0) 1 8 Tryz.underlying25 hi hz1 hz2 hz3 rfl (by omega) u6 n _ (by rfl) (R4.out.alloc _) ⟨w4.heap.size, 0, none⟩ 1 1 [.int .i64 x] (by rfl) (by rfl) (news1 w4 _ 3) (one1 x) (by omega) (by unfold maxLen; omega) (by omega) (by simp; have := Blk.lt I4.out; omega) (w4.heap.size + 1) (by simp) ?_; intro gg cap' w6 hown6 hgrow hat hlt5))
   have hne : some w.heap.size ≠ u6.ownBlock := fun e => by have := (R4.out.lt _ e.symm).1; omega
   have I6 := Lib.hid (grow_blk' (Blk.alloc I4.out (.cells #[.int .i64 x] 3)) hgrow hne)
   have B6 := Lib.hid ((B4.out.alloc hB4 (.cells #[.int .i64 x] 3)).grown hgrow (by rw [size_alloc]; omega) (fun j e => by have := (R4.out.lt _ e).1; omega))
   have R6 : Hid (w6.ownsRow (w.heap.size + 1) 3 1 (.slice (some ⟨gg, 0, none⟩) (n + 1) cap') (n + 1) ((done ++ [x]).map encZ)) := by
    rw [List.map_append]; exact hown6
   clear R4 B4 I4 hne hown6 hgrow hat hlt5
   go_wp2_with fail
   refine ⟨⟨done ++ [x], t4, c, ?_, ?_, M4.out, I6.out, B6.out, ?_⟩, ?_⟩
   ·rw [List.length_append, List.length_singleton, HN.out]; go_num
   ·rw [List.length_append, List.length_singleton, HN.out]; omega
   ·rw [List.length_append, List.length_singleton, HN.out]; exact R6.out
   ·simp [intOf]; omega
  ·obtain ⟨h1, h2, h3⟩ := M3.out
   rcases h3 with ⟨rfl, h3⟩ | ⟨h3, h4⟩
   ·have hnm : ¬ n < m := fun h => hgo ⟨h, rfl⟩
    have H3 := Lib.hid h3
    have H2 := Lib.hid h2
    have h3' : ∀ L, AllIn L → t.data.toList ≠ [] → s.data.toList ≠ ints L := fun L _ hne => h3.more (by rw [HN.out]; exact hnm) hne L
    clear h3 h2 hgo
    by_cases he : t.data.toList = []
    ·have key := Lib.hid (Begun.done (by have := H3.out; rwa [he] at this) (by rw [HN.out]; exact hnm))
     rw [← ByteArray.toList_eq] at he
     have he1 : (!t.toList.isEmpty) = false := by rw [he]; rfl
     obtain ⟨a, cap, hv, hI', hc1, hc2, hc9⟩ := slice_of2 R3.out
     have KE := Lib.hid (show RiE s.data.toList (.returned (.tuple #[u6, .int .i64 0])) wr from .inl ⟨done, a, cap, by rw [hv], key.out, H2.out, hI', hc1, hc2, hc9⟩)
     clear hv hI' he hc9
     go_wp2_with fail
     go_ret2
     exact ⟨KE.out, B3.out⟩
    ·have key := Lib.hid (fun L hL => h3' L hL he)
     rw [← ByteArray.toList_eq] at he
     have he1 : (!t.toList.isEmpty) = true := by simpa using he
     clear he h3'
     go_wp2_with fail
     go_quiet (fail)
     go_wp2_with fail
     go_ret2
     exact ⟨.inr ⟨11, rfl, by omega, key.out⟩, bdrewN (B3.out.setCell (p := ⟨w.heap.size, 1, none⟩) (Nat.le_refl _) _) _⟩
   ·have key := Lib.hid h4
    have hc0 : (c == 0) = false := by simp; omega
    have hc1 : (c != 0) = true := by simp; omega
    have hcne : c ≠ 0 := by omega
    have HCN := Lib.hid hcne
    clear h2 h4 hgo h3 hcne
    by_cases hnm : n < m
    all_goals
     go_wp2_with fail
     go_quiet (fail)
     go_wp2_with fail
     go_ret2
     exact ⟨.inr ⟨c, rfl, HCN.out, key.out⟩, bdrewN B3.out _⟩
end Go.Proofs.YtdojgbpaheadnaaGreat
