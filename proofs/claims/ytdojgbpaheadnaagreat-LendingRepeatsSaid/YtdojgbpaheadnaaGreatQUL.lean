/- The library of the law at its start. -/
import Derived.Test.YtdojgbpaheadnaaGreatQUN
import Derived.Deep.CutBlock
set_option linter.unusedVariables false
set_option linter.unusedSimpArgs false

namespace Go.Proofs.YtdojgbpaheadnaaGreat
open Go.RowKit Go.Shelf Go.Maps Go.ChangeMaps

def rotF (x : Int) : Int := if x % 3 = 0 then 3 else if x % 3 = 1 then 4 else 1
def rotL (l : List Int) : List Int := (l.take 6).map rotF
theorem infoPL : (Tryz.prog.info? 44).map (fun i => (i.zero, i.size, i.bytes)) = some (some (.pointer none), 1, 8) := by kernel_rfl
theorem info_partsPL : ∃ i, Tryz.prog.info? 44 = some i ∧ i.zero = some (.pointer none) ∧ i.size = 1 ∧ i.bytes = 8 := by
 have h := infoPL
 cases hq : Tryz.prog.info? 44 with
 | none => rw [hq] at h; simp at h
 | some i => rw [hq] at h; simp at h; exact ⟨i, rfl, h.1, h.2.1, h.2.2⟩
theorem wpAnyH_apartVNNV {P : Program} {md : Region.Mode} {ops : Array Oper} {Q : Exit → Act → World → Prop} {S : World → Prop} {fuel : Nat} {L : Array Bool} {a : Act} {w : World} {a1 : Value → Nat → Nat → Value → Act} (F : Value → World → Prop)
  (take : ∀ R : Act → World → Prop, (∀ x y z u w', F u w' → R (a1 x y z u) w') → wpAnyH P md ops (only R) S fuel L a w) (rest : ∀ x y z u w', F u w' → Q .normal (a1 x y z u) w') : wpAnyH P md ops Q S fuel L a w :=
 wpAnyH_mono (fun _ _ _ h => nomatch h.1) (fun ⟨_, _, h⟩ => nomatch h.1) (fun _ _ h => h.2) fuel L a w (take (Q .normal) rest)
theorem rotL_is (D : List Int) : ∀ x ∈ rotL D, IsL x := fun x hx => by
 unfold rotL at hx
 obtain ⟨y, -, rfl⟩ := List.mem_map.1 hx
 unfold rotF IsL
 split
 ·exact .inl rfl
 ·split
  ·exact .inr (.inl rfl)
  ·exact .inr (.inr rfl)
set_option maxRecDepth 100000 in
set_option maxHeartbeats 16000000 in
theorem begin_any {w : World} {S : List Tr} {sv : Value} {Ps : Nat → Prop} (T : Nat → List Int) (ia : Nat → Option Addr) (ic : Nat → Nat) (hT : ∀ j, j < 3 → U8 w (ia j) (T j) (ic j) ∧ (T j).length ≤ ic j ∧ ic j ≤ 9223372036854775807)
  (D : List Int) (ra : Option Addr) (rc : Nat) (hR : U8 w ra D rc) (hrc : D.length ≤ rc ∧ rc ≤ 9223372036854775807) (hs : SlOf 3 Ps TrR w sv S) (hl : S.length ≤ 1000000) :
  Calls Tryz.prog 33 #[.agg #[.slice (ia 0) (T 0).length (ic 0), .slice (ia 1) (T 1).length (ic 1), .slice (ia 2) (T 2).length (ic 2)], .slice ra D.length rc, sv] w fun e w' => ∃ g : Lg, e = .returned (.pointer (some ⟨g.xb, 0, none⟩)) ∧ g.B0 = w.heap.size ∧
   LibM g (fun _ _ => False) w' 0 S [] 0 (Lb.start (rotL D) (srt (ttl (T 0))) (srt (ttl (T 1))) (srt (ttl (T 2)))) ∧ Below w.heap.size w w' := by
 obtain ⟨i0, hi, hz1, hz2, hz3⟩ := info_parts info3
 have hblen := hR.len
 have HT := Lib.hid hT
 have HR := Lib.hid hR
 have HS := Lib.hid hs
 obtain ⟨w1, hw1⟩ : ∃ w1, w1 = w.alloc (.cells #[.slice (ia 0) (T 0).length (ic 0), .slice (ia 1) (T 1).length (ic 1), .slice (ia 2) (T 2).length (ic 2)] 67) := ⟨_, rfl⟩
 have B1 : Hid (Below w.heap.size w w1) := Lib.hid (by rw [hw1]; exact (Below.refl _ _).alloc (Nat.le_refl _) _)
 have I1 : Hid (Blk w1 w.heap.size #[.slice (ia 0) (T 0).length (ic 0), .slice (ia 1) (T 1).length (ic 1), .slice (ia 2) (T 2).length (ic 2)] 67) := Lib.hid (by rw [hw1]; exact Blk.new _ _ _)
 have S1 : Hid (SlOf 3 Ps TrR w1 sv S) := Lib.hid (hs.keep (by omega) (Stay.of_below B1.out) (fun _ _ h => h) (fun _ h _ => h))
 have HW1 := Lib.hid hw1
 clear hT hR hs hw1
 go_enter Tryz.func33, Tryz.ntmps33
 go_wp2_with fail
 rw [← HW1.out]
 refine (nnew_any 5 S1.out hl).mono ?_
 rintro e w2 ⟨nb, sc, rfl, hN, hb2⟩
 have N2 := Lib.hid (netA_in hN)
 have B2 := Lib.hid hb2
 obtain ⟨w3, hw3⟩ : ∃ w3, w3 = w2.alloc (.cells #[.slice none 0 0, .pointer none, .slice none 0 0, .pointer (some ⟨nb, 0, none⟩), i64 0] 78) := ⟨_, rfl⟩
 have HW3 := Lib.hid hw3
 clear hN hb2
 have X3 : Hid (Blk w3 w2.heap.size #[.slice none 0 0, .pointer none, .slice none 0 0, .pointer (some ⟨nb, 0, none⟩), i64 0] 78) := Lib.hid (by rw [hw3]; exact Blk.new _ _ _)
 have Z3 : w3.heap.size = w2.heap.size + 1 := by rw [hw3, size_alloc]
 have B3 : Hid (Below w2.heap.size w2 w3) := Lib.hid (by rw [hw3]; exact (Below.refl _ _).alloc (Nat.le_refl _) _)
 have HZ3 := Lib.hid Z3
 clear hw3 Z3
 go_wp2_with fail
 rw [← HW3.out]
 refine (newAsker_any 1 4 (i64_small (by omega)) (i64_small (by omega)) w3).mono ?_
 rintro e w4 ⟨rfl, hA1, hb4⟩
 have A1 := Lib.hid (asrA_in hA1)
 have B4 := Lib.hid hb4
 obtain ⟨a1, ha1⟩ : ∃ a1, a1 = w3.heap.size := ⟨_, rfl⟩
 rw [← ha1]
 have HA1 := Lib.hid ha1
 clear hA1 hb4 ha1
 go_wp2_with fail
 refine (newAsker_any 2 3 (i64_small (by omega)) (i64_small (by omega)) w4).mono ?_
 rintro e w5 ⟨rfl, hA2, hb5⟩
 have A2 := Lib.hid (asrA_in hA2)
 have B5 := Lib.hid hb5
 obtain ⟨a2, ha2⟩ : ∃ a2, a2 = w4.heap.size := ⟨_, rfl⟩
 rw [← ha2]
 have HA2 := Lib.hid ha2
 clear hA2 hb5 ha2
 obtain ⟨w6, hw6⟩ : ∃ w6, w6 = w5.alloc (.cells #[.pointer (some ⟨a1, 0, none⟩), .pointer (some ⟨a2, 0, none⟩)] 43) := ⟨_, rfl⟩
 have B6 : Hid (Below w5.heap.size w5 w6) := Lib.hid (by rw [hw6]; exact (Below.refl _ _).alloc (Nat.le_refl _) _)
 have AB6 : Hid (Blk w6 w5.heap.size #[.pointer (some ⟨a1, 0, none⟩), .pointer (some ⟨a2, 0, none⟩)] 43) := Lib.hid (by rw [hw6]; exact Blk.new _ _ _)
 have X6 : Hid (Blk w6 w2.heap.size #[.slice none 0 0, .pointer none, .slice none 0 0, .pointer (some ⟨nb, 0, none⟩), i64 0] 78) := Lib.hid (((X3.out.below B4.out X3.out.lt).below B5.out (Nat.lt_of_lt_of_le X3.out.lt B4.out.size)).below B6.out (Nat.lt_of_lt_of_le X3.out.lt (Nat.le_trans B4.out.size B5.out.size)))
 have x0 := X6.out.cell 0
 have fx0 := X6.out.frozen 0
 have HW6 := Lib.hid hw6
 clear hw6
 go_upto_block 0 with (rw [← HW6.out])
 obtain ⟨w7, hw7⟩ : ∃ w7, w7 = w6.setCell ⟨w2.heap.size, 0, none⟩ (.slice (some ⟨w5.heap.size, 0, none⟩) 2 2) := ⟨_, rfl⟩
 have X7 : Hid (Blk w7 w2.heap.size #[.slice (some ⟨w5.heap.size, 0, none⟩) 2 2, .pointer none, .slice none 0 0, .pointer (some ⟨nb, 0, none⟩), i64 0] 78) := Lib.hid (by rw [hw7]; exact (X6.out.set 0 _).cast rfl)
 have T7 : Hid (Tn (fun j => j = w2.heap.size) w6 w7) := Lib.hid (by rw [hw7]; exact (Tn.refl (fun j => j = w2.heap.size) w6).setCell (p := ⟨w2.heap.size, 0, none⟩) (.inl rfl) _)
 have Z7 : Hid (w7.heap.size = w6.heap.size) := Lib.hid (by rw [hw7]; simp)
 rw [← hw7]
 clear hw7 x0 fx0
 have C7 : Hid (Below w.heap.size w w7) := Lib.hid (by
  have b2 := B1.out.trans (B2.out.mono B1.out.size)
  have b3 := b2.trans (B3.out.mono b2.size)
  have b4 := b3.trans (B4.out.mono b3.size)
  have b5 := b4.trans (B5.out.mono b4.size)
  have b6 := b5.trans (B6.out.mono b5.size)
  exact b6.trans (T7.out.below b6.size (fun j e => by rw [e]; exact b2.size)))
 go_cut [8, 9] from 22 to 42 (fun s8 s9 W => ∃ v, s8 = v ∧ W.ownsRow w7.heap.size 3 1 v (rotL D).length ((rotL D).map (Value.int .i64)) ∧ Below w7.heap.size w7 W)
 case first =>
  go_wp2_with fail
  go_loopw [8, 9] (fun v i wr => ∃ (k : Nat), k ≤ D.length ∧ k ≤ 6 ∧ i = .int .i64 k ∧ wr.ownsRow w7.heap.size 3 1 v ((D.take k).map rotF).length (((D.take k).map rotF).map (Value.int .i64)) ∧ Below w7.heap.size w7 wr) (fun _ i _ => 6 - (intOf i).toNat)
  case atStart => exact ⟨0, Nat.zero_le _, by omega, rfl, World.ownsRow_nil _ _ _ _, Below.refl _ _⟩
  case round =>
   obtain ⟨k, hk, hk5, rfl, hr, hb⟩ := hrel
   have R := Lib.hid hr
   have BB := Lib.hid hb
   clear hr hb
   by_cases hgo : k < D.length ∧ k < 6
   ·obtain ⟨hlt, h8⟩ := hgo
    obtain ⟨b2, o2, rfl, hbl2, hcell⟩ := ((HR.out.below C7.out (Nat.le_refl _)).below BB.out (Nat.le_refl _)).at_.resolve_left (fun e => by rw [e] at hlt; simp at hlt)
    have hc := hcell k hlt
    have hbd := HR.out.bd k hlt
    obtain ⟨y, hy⟩ : ∃ y, y = D.getD k 0 := ⟨_, rfl⟩
    have HY := Lib.hid hy
    rw [← hy] at hc hbd
    obtain ⟨E, hE⟩ : ∃ E, E = (D.take k).map rotF := ⟨_, rfl⟩
    have hE6 : E.length ≤ 6 := by rw [hE]; simp; omega
    rw [← hE] at R
    have DD := Lib.hid hE
    obtain ⟨va, vc, rfl, -⟩ := row_cellz R.out
    clear hcell hy hE
    have h3 : y % 3 = 0 ∨ y % 3 = 1 ∨ y % 3 = 2 := by omega
    rcases h3 with h3 | h3 | h3
    ·skip
     skip
     have F3 : rotF y = 3 := by unfold rotF; rw [h3]; rfl
     have N1 : Hid (Blk ((wr.alloc (.cells #[i64 3, i64 4, i64 1] 3)).alloc (.cells #[i64 3] 3)) (wr.heap.size + 1) #[i64 3] 3) := Lib.hid (Blk.at_new (by rw [size_alloc]) _ _)
     have R1 : Hid (((wr.alloc (.cells #[i64 3, i64 4, i64 1] 3)).alloc (.cells #[i64 3] 3)).ownsRow w7.heap.size 3 1 (.slice va E.length vc) E.length (E.map (Value.int .i64))) := Lib.hid ((R.out.alloc _).alloc _)
     have B1 : Hid (Below w7.heap.size w7 ((wr.alloc (.cells #[i64 3, i64 4, i64 1] 3)).alloc (.cells #[i64 3] 3))) := Lib.hid ((BB.out.alloc BB.out.size _).alloc (by rw [size_alloc]; exact Nat.le_trans BB.out.size (Nat.le_succ _)) _)
     have FF := Lib.hid F3
     clear F3
     go_wp2_with (first
      | (refine wpList_append_all rfl (.tmp 32) (.tmp 41) 25 rfl w7.heap.size 3 i0 (.int .i64 0) 1 8 Tryz.underlying25 hi hz1 hz2 hz3 rfl (by omega) _ E.length (E.map (Value.int .i64)) rfl R1.out 1 [i64 3] _ rfl (.inr ⟨_, _, rfl, rfl, blk_news N1.out⟩) (fun u hu => by simp at hu; rw [hu]; rfl) (by unfold maxLen; omega) (by omega) B1.out.size ?_
         intro v6 w6 hown6 hg6 hat6
         have B6 : Hid (Below w7.heap.size w7 w6) := Lib.hid (B1.out.grown hg6 B1.out.size (fun j e => (row_lt R1.out j e).1))
         have R6 : Hid (w6.ownsRow w7.heap.size 3 1 v6 (E ++ [3]).length ((E ++ [3]).map (Value.int .i64))) := Lib.hid (by rw [List.length_append, List.map_append]; exact hown6)
         clear hown6 hg6 hat6))
     go_roundw
     case rel =>
      refine ⟨k + 1, hlt, h8, by go_num, ?_, B6.out⟩
      have h1 := R6.out
      have e : E ++ [3] = (D.take (k + 1)).map rotF := by rw [← take_snocK rotF D k hlt, ← FF.out, DD.out, HY.out, getD_get _ _ hlt]
      rw [e] at h1
      exact h1
     case measure => simp [intOf]; omega
    ·skip
     skip
     have F3 : rotF y = 4 := by unfold rotF; rw [h3]; rfl
     have N1 : Hid (Blk ((wr.alloc (.cells #[i64 3, i64 4, i64 1] 3)).alloc (.cells #[i64 4] 3)) (wr.heap.size + 1) #[i64 4] 3) := Lib.hid (Blk.at_new (by rw [size_alloc]) _ _)
     have R1 : Hid (((wr.alloc (.cells #[i64 3, i64 4, i64 1] 3)).alloc (.cells #[i64 4] 3)).ownsRow w7.heap.size 3 1 (.slice va E.length vc) E.length (E.map (Value.int .i64))) := Lib.hid ((R.out.alloc _).alloc _)
     have B1 : Hid (Below w7.heap.size w7 ((wr.alloc (.cells #[i64 3, i64 4, i64 1] 3)).alloc (.cells #[i64 4] 3))) := Lib.hid ((BB.out.alloc BB.out.size _).alloc (by rw [size_alloc]; exact Nat.le_trans BB.out.size (Nat.le_succ _)) _)
     have FF := Lib.hid F3
     clear F3
     go_wp2_with (first
      | (refine wpList_append_all rfl (.tmp 32) (.tmp 41) 25 rfl w7.heap.size 3 i0 (.int .i64 0) 1 8 Tryz.underlying25 hi hz1 hz2 hz3 rfl (by omega) _ E.length (E.map (Value.int .i64)) rfl R1.out 1 [i64 4] _ rfl (.inr ⟨_, _, rfl, rfl, blk_news N1.out⟩) (fun u hu => by simp at hu; rw [hu]; rfl) (by unfold maxLen; omega) (by omega) B1.out.size ?_
         intro v6 w6 hown6 hg6 hat6
         have B6 : Hid (Below w7.heap.size w7 w6) := Lib.hid (B1.out.grown hg6 B1.out.size (fun j e => (row_lt R1.out j e).1))
         have R6 : Hid (w6.ownsRow w7.heap.size 3 1 v6 (E ++ [4]).length ((E ++ [4]).map (Value.int .i64))) := Lib.hid (by rw [List.length_append, List.map_append]; exact hown6)
         clear hown6 hg6 hat6))
     go_roundw
     case rel =>
      refine ⟨k + 1, hlt, h8, by go_num, ?_, B6.out⟩
      have h1 := R6.out
      have e : E ++ [4] = (D.take (k + 1)).map rotF := by rw [← take_snocK rotF D k hlt, ← FF.out, DD.out, HY.out, getD_get _ _ hlt]
      rw [e] at h1
      exact h1
     case measure => simp [intOf]; omega
    ·skip
     skip
     have F3 : rotF y = 1 := by unfold rotF; rw [h3]; rfl
     have N1 : Hid (Blk ((wr.alloc (.cells #[i64 3, i64 4, i64 1] 3)).alloc (.cells #[i64 1] 3)) (wr.heap.size + 1) #[i64 1] 3) := Lib.hid (Blk.at_new (by rw [size_alloc]) _ _)
     have R1 : Hid (((wr.alloc (.cells #[i64 3, i64 4, i64 1] 3)).alloc (.cells #[i64 1] 3)).ownsRow w7.heap.size 3 1 (.slice va E.length vc) E.length (E.map (Value.int .i64))) := Lib.hid ((R.out.alloc _).alloc _)
     have B1 : Hid (Below w7.heap.size w7 ((wr.alloc (.cells #[i64 3, i64 4, i64 1] 3)).alloc (.cells #[i64 1] 3))) := Lib.hid ((BB.out.alloc BB.out.size _).alloc (by rw [size_alloc]; exact Nat.le_trans BB.out.size (Nat.le_succ _)) _)
     have FF := Lib.hid F3
     clear F3
     go_wp2_with (first
      | (refine wpList_append_all rfl (.tmp 32) (.tmp 41) 25 rfl w7.heap.size 3 i0 (.int .i64 0) 1 8 Tryz.underlying25 hi hz1 hz2 hz3 rfl (by omega) _ E.length (E.map (Value.int .i64)) rfl R1.out 1 [i64 1] _ rfl (.inr ⟨_, _, rfl, rfl, blk_news N1.out⟩) (fun u hu => by simp at hu; rw [hu]; rfl) (by unfold maxLen; omega) (by omega) B1.out.size ?_
         intro v6 w6 hown6 hg6 hat6
         have B6 : Hid (Below w7.heap.size w7 w6) := Lib.hid (B1.out.grown hg6 B1.out.size (fun j e => (row_lt R1.out j e).1))
         have R6 : Hid (w6.ownsRow w7.heap.size 3 1 v6 (E ++ [1]).length ((E ++ [1]).map (Value.int .i64))) := Lib.hid (by rw [List.length_append, List.map_append]; exact hown6)
         clear hown6 hg6 hat6))
     go_roundw
     case rel =>
      refine ⟨k + 1, hlt, h8, by go_num, ?_, B6.out⟩
      have h1 := R6.out
      have e : E ++ [1] = (D.take (k + 1)).map rotF := by rw [← take_snocK rotF D k hlt, ← FF.out, DD.out, HY.out, getD_get _ _ hlt]
      rw [e] at h1
      exact h1
     case measure => simp [intOf]; omega
   ·have hend : k = D.length ∨ (k < D.length ∧ k = 6) := by omega
    have fin : (D.take k).map rotF = rotL D := by
     unfold rotL
     rcases hend with rfl | ⟨-, rfl⟩
     ·rw [List.take_of_length_le (Nat.le_refl _), List.take_of_length_le hk5]
     ·rfl
    have FF := Lib.hid fin
    clear hgo fin
    rcases hend with rfl | ⟨hlt0, rfl⟩
    ·go_wp2_with fail
     go_meet
     case rel => exact ⟨_, rfl, FF.out ▸ R.out, BB.out⟩
    ·go_wp2_with fail
     go_meet
     case rel => exact ⟨_, rfl, FF.out ▸ R.out, BB.out⟩
 case rest =>
  obtain ⟨rv, rfl, hrow, hbw⟩ := hcut
  obtain ⟨w8, hw8⟩ : ∃ w8, w8 = wc := ⟨_, rfl⟩
  subst hw8
  have R8 := Lib.hid hrow
  have B8 := Lib.hid hbw
  have hrl : (rotL D).length ≤ 6 := by unfold rotL; simp; omega
  have hrI : ∀ x ∈ rotL D, IsL x := fun x hx => by
   unfold rotL at hx
   obtain ⟨y, -, rfl⟩ := List.mem_map.1 hx
   unfold rotF IsL
   split
   ·exact .inl rfl
   ·split
    ·exact .inr (.inl rfl)
    ·exact .inr (.inr rfl)
  have HRI := Lib.hid hrI
  clear hrow hbw hrI
  go_wp2_with fail
  refine (newBroker_any 0 (i64_small (by omega)) (rotL D) (by omega) (fun x hx => (HRI.out x hx).i64) _ w7.heap.size w8 R8.out).mono ?_
  rintro e w9 ⟨bb, rv2, o, rfl, hBm, hb9⟩
  have BM := Lib.hid (brkA_in hBm)
  have B9 := Lib.hid hb9
  have hxlt : w2.heap.size < w8.heap.size := Nat.lt_of_lt_of_le X7.out.lt B8.out.size
  have X9 : Hid (Blk w9 w2.heap.size #[.slice (some ⟨w5.heap.size, 0, none⟩) 2 2, .pointer none, .slice none 0 0, .pointer (some ⟨nb, 0, none⟩), i64 0] 78) := Lib.hid ((X7.out.below B8.out X7.out.lt).below B9.out hxlt)
  have x1 := X9.out.cell 1
  have fx1 := X9.out.frozen 1
  clear hBm hb9 hxlt
  go_upto_block 2 with fail
  obtain ⟨wE, hwE⟩ : ∃ wE, wE = (w9.setCell ⟨w2.heap.size, 1, none⟩ (.pointer (some ⟨bb, 0, none⟩))).alloc (.cells #[.int .i64 3, .int .i64 4, .int .i64 1] 92) := ⟨_, rfl⟩
  have ZE : wE.heap.size = w9.heap.size + 1 := by rw [hwE, size_alloc]; simp
  have XE : Hid (Blk wE w2.heap.size #[.slice (some ⟨w5.heap.size, 0, none⟩) 2 2, .pointer (some ⟨bb, 0, none⟩), .slice none 0 0, .pointer (some ⟨nb, 0, none⟩), i64 0] 78) := Lib.hid (by rw [hwE]; exact ((X9.out.set 1 _).cast rfl).alloc _)
  have IE : Hid (Blk wE w9.heap.size #[.int .i64 3, .int .i64 4, .int .i64 1] 92) := Lib.hid (by rw [hwE]; exact Blk.at_new (by simp) _ _)
  have TE : Hid (Tn (fun j => j = w2.heap.size) w9 wE) := Lib.hid (by rw [hwE]; exact ((Tn.refl (fun j => j = w2.heap.size) w9).setCell (p := ⟨w2.heap.size, 1, none⟩) (.inl rfl) _).alloc _)
  have HZE := Lib.hid ZE
  rw [← hwE]
  clear hwE x1 fx1 ZE
  have C9 : Hid (Below w.heap.size w w9) := Lib.hid (by
   have b8 := C7.out.trans (B8.out.mono C7.out.size)
   exact b8.trans (B9.out.mono b8.size))
  have G2 : Hid (w.heap.size < w2.heap.size) := Lib.hid (by have := I1.out.lt; have := B2.out.size; omega)
  have CE : Hid (Below w.heap.size w wE) := Lib.hid (C9.out.trans (TE.out.below C9.out.size (fun j e => by rw [e]; exact Nat.le_of_lt G2.out)))
  have ITE : Hid (Blk wE w.heap.size #[.slice (ia 0) (T 0).length (ic 0), .slice (ia 1) (T 1).length (ic 1), .slice (ia 2) (T 2).length (ic 2)] 67) := Lib.hid (by
   have b27 : Below w1.heap.size w1 w7 := by
    have b3 := B2.out.trans (B3.out.mono B2.out.size)
    have b4 := b3.trans (B4.out.mono b3.size)
    have b5 := b4.trans (B5.out.mono b4.size)
    have b6 := b5.trans (B6.out.mono b5.size)
    exact b6.trans (T7.out.below b6.size (fun j e => by rw [e]; exact B2.out.size))
   have b8 := b27.trans (B8.out.mono b27.size)
   have b9 := b8.trans (B9.out.mono b8.size)
   have bE := b9.trans (TE.out.below b9.size (fun j e => by rw [e]; exact B2.out.size))
   exact I1.out.below bE I1.out.lt)
  go_wp2_with fail
  go_loopw [11] (fun i wr => ∃ (k : Nat) (ps : List (Nat × Nat × Nat)) (lv : Value), k ≤ 3 ∧ i = .int .i64 k ∧ ps.length = k ∧ LInv T wE w2.heap.size (.slice (some ⟨w5.heap.size, 0, none⟩) 2 2) (.pointer (some ⟨bb, 0, none⟩)) (.pointer (some ⟨nb, 0, none⟩)) ps lv wr) (fun i _ => 3 - (intOf i).toNat)
  case atStart => exact ⟨0, [], .slice none 0 0, by omega, rfl, rfl, XE.out, World.ownsRow_nil _ _ _ _, fun j p h => (by simp at h), List.Pairwise.nil, Tn.refl _ _⟩
  case round =>
   obtain ⟨k, ps, lv, hk3, rfl, hpk, hinv⟩ := hrel
   have LI := Lib.hid hinv
   have PK := Lib.hid hpk
   clear hinv hpk
   by_cases hgo : k < 3
   ·have hgi : decide ((k : Int) < 3) = true := by simp; omega
    have BW : Hid (Below w.heap.size w wr) := Lib.hid (CE.out.trans (LI.out.tn.below CE.out.size (fun j e => by rw [e]; exact Nat.le_of_lt G2.out)))
    have cid : wr.cell? ⟨w9.heap.size, k, none⟩ = some (i64 (idsN k)) := LI.out.tn.cell ((IE.out.cell k).trans (by
     have : k = 0 ∨ k = 1 ∨ k = 2 := by omega
     rcases this with rfl | rfl | rfl <;> rfl)) (fun e => by have e : w9.heap.size = w2.heap.size := e; have := X9.out.lt; omega)
    have cit : wr.cell? ⟨w.heap.size, k, none⟩ = some (.slice (ia k) (T k).length (ic k)) := LI.out.tn.cell ((ITE.out.cell k).trans (by
     have : k = 0 ∨ k = 1 ∨ k = 2 := by omega
     rcases this with rfl | rfl | rfl <;> rfl)) (fun e => by have e : w.heap.size = w2.heap.size := e; have := G2.out; omega)
    have cxl := LI.out.blk.cell 2
    obtain ⟨S', hS'⟩ : ∃ S' : World → Prop, S' = fun W => W.cell? ⟨w2.heap.size, 2, none⟩ = some lv ∧ W.cell? ⟨w9.heap.size, k, none⟩ = some (i64 (idsN k)) ∧ W.cell? ⟨w.heap.size, k, none⟩ = some (.slice (ia k) (T k).length (ic k)) := ⟨_, rfl⟩
    have LDD : Hid (∀ W, S' W → W.cell? ⟨w2.heap.size, 2, none⟩ = some lv ∧ W.cell? ⟨w9.heap.size, k, none⟩ = some (i64 (idsN k)) ∧ W.cell? ⟨w.heap.size, k, none⟩ = some (.slice (ia k) (T k).length (ic k))) := Lib.hid (by rw [hS']; exact fun W h => h)
    have xlt : w2.heap.size < wE.heap.size := by have := X9.out.lt; have := HZE.out; omega
    have ilt : w9.heap.size < wE.heap.size := by have := HZE.out; omega
    have tlt : w.heap.size < wE.heap.size := by have := G2.out; omega
    have UU : Hid (∀ W, Tn (fun j => wE.heap.size ≤ j) wr W → S' W) := Lib.hid (by
     rw [hS']
     exact fun W hb => ⟨hb.cell cxl (fun e => absurd xlt (Nat.not_lt.2 e)), hb.cell cid (fun e => absurd ilt (Nat.not_lt.2 e)), hb.cell cit (fun e => absurd tlt (Nat.not_lt.2 e))⟩)
    have UT : Hid (U8 wr.drew (ia k) (T k) (ic k)) := Lib.hid (((HT.out k hgo).1.below BW.out (Nat.le_refl _)).below (bdrewN (Below.refl _ _) 1) (Nat.le_refl _))
    have htl : (ttl (T k)).length ≤ 5 := by unfold ttl; simp; omega
    have XLT := Lib.hid xlt
    have g3 : (k : Int) < 3 := by omega
    obtain ⟨iL, hiL, hzL1, hzL2, hzL3⟩ := info_partsPL
    have t0 : Tn (fun j => wE.heap.size ≤ j) wr wr.drew := (Tn.refl _ _).drewN 1
    have hHeld := UU.out wr.drew t0
    clear hS' cxl cid cit xlt ilt tlt t0
    go_wp2_with fail
    refine wp_region_sp 16 S' (by kernel_rfl) (by kernel_rfl) ?_
    simp only [List.take_succ_cons, List.take_zero]
    apply wpAnyH_apartVNNV (fun u W => ∃ (b lo hi : Nat) (W4 : World), Below wr.heap.size wr W4 ∧ InA (lenA lo b ⟨idsN k, 0, srt (ttl (T k)), []⟩) lo hi W4 ∧ wr.heap.size ≤ lo ∧ W.ownsRow wE.heap.size 44 1 u (ps.length + 1) (ps.map lptr ++ [.pointer (some ⟨b, 0, none⟩)]) ∧ W4.grownBy W lv.ownBlock ∧ (u.ownBlock = lv.ownBlock ∨ u.ownBlock = some W4.heap.size))
    case take =>
     intro R hR
     refine tk 0 (v := ?_) rfl hHeld ?_ ?_; rotate_left
     ·(intro w hSw; (obtain ⟨c1, c2, c3⟩ := LDD.out w hSw); go_simp; try (with_reducible rfl))
     try simp only [gZ]
     refine tk 1 (v := ?_) rfl hHeld ?_ ?_; rotate_left
     ·(intro w hSw; (obtain ⟨c1, c2, c3⟩ := LDD.out w hSw); go_simp; try (with_reducible rfl))
     try simp only [gZ]
     refine tk 2 (v := ?_) rfl hHeld ?_ ?_; rotate_left
     ·(intro w hSw; (obtain ⟨c1, c2, c3⟩ := LDD.out w hSw); go_simp; try (with_reducible rfl))
     try simp only [gZ]
     refine tk 3 (v := ?_) rfl hHeld ?_ ?_; rotate_left
     ·(intro w hSw; (obtain ⟨c1, c2, c3⟩ := LDD.out w hSw); go_simp; try (with_reducible rfl))
     try simp only [gZ]
     refine tk 4 (v := ?_) rfl hHeld ?_ ?_; rotate_left
     ·(intro w hSw; (obtain ⟨c1, c2, c3⟩ := LDD.out w hSw); go_simp; try (with_reducible rfl))
     try simp only [gZ]
     refine tk 5 (v := ?_) rfl hHeld ?_ ?_; rotate_left
     ·(intro w hSw; (obtain ⟨c1, c2, c3⟩ := LDD.out w hSw); go_simp; try (with_reducible rfl))
     try simp only [gZ]
     refine tk 6 (v := ?_) rfl hHeld ?_ ?_; rotate_left
     ·(intro w hSw; (obtain ⟨c1, c2, c3⟩ := LDD.out w hSw); go_simp; try (with_reducible rfl))
     try simp only [gZ]
     refine tk 7 (v := ?_) rfl hHeld ?_ ?_; rotate_left
     ·(intro w hSw; (obtain ⟨c1, c2, c3⟩ := LDD.out w hSw); go_simp; try (with_reducible rfl))
     try simp only [gZ]
     refine tk 8 (v := ?_) rfl hHeld ?_ ?_; rotate_left
     ·(intro w hSw; (obtain ⟨c1, c2, c3⟩ := LDD.out w hSw); go_simp; try (with_reducible rfl))
     try simp only [gZ]
     refine tk 9 (v := ?_) rfl hHeld ?_ ?_; rotate_left
     ·(intro w hSw; (obtain ⟨c1, c2, c3⟩ := LDD.out w hSw); go_simp; try (with_reducible rfl))
     try simp only [gZ]
     refine tk 10 (v := ?_) rfl hHeld ?_ ?_; rotate_left
     ·(intro w hSw; (obtain ⟨c1, c2, c3⟩ := LDD.out w hSw); go_simp; try (with_reducible rfl))
     try simp only [gZ]
     refine wpAnyH_one (i := 11) rfl (by kernel_rfl) (by rfl) ?_
     go_simp
     refine (titles_any (T k) (ia k) (ic k) _ UT.out (HT.out k hgo).2).mono ?_
     rintro e W2 ⟨v1, rfl, hr1, hb1⟩
     have R1 := Lib.hid hr1
     have Q1 : Hid (Below wr.heap.size wr W2) := Lib.hid ((bdrewN (Below.refl _ _) 1).trans hb1)
     clear hr1 hb1
     have hHeld := UU.out W2 (Tn.of_below Q1.out)
     refine ⟨hHeld, ?_⟩
     refine wpAnyH_one (i := 12) rfl (by kernel_rfl) (by rfl) ?_
     go_simp
     refine (new_any (idsN k) (i64_small (by unfold idsN; split <;> (try split) <;> omega)) (ttl (T k)) (by omega) v1 _ W2 R1.out).mono ?_
     rintro e W3 ⟨b, hv, rfl, hM, hb3⟩
     have M3 := Lib.hid (lenA_in hM)
     have Q3 : Hid (Below wr.heap.size wr W3) := Lib.hid (Q1.out.trans (hb3.mono Q1.out.size))
     clear hM hb3
     have hHeld := UU.out W3 (Tn.of_below Q3.out)
     refine ⟨hHeld, ?_⟩
     refine wpAnyH_one (i := 13) rfl (by kernel_rfl) (by rfl) ?_
     go_simp
     obtain ⟨W4, hW4⟩ : ∃ W4, W4 = W3.alloc (.cells #[.pointer (some ⟨b, 0, none⟩)] 44) := ⟨_, rfl⟩
     rw [← hW4]
     have Q4 : Hid (Below wr.heap.size wr W4) := Lib.hid (by rw [hW4]; exact Q3.out.alloc Q3.out.size _)
     have N4 : Hid (Blk W4 W3.heap.size #[.pointer (some ⟨b, 0, none⟩)] 44) := Lib.hid (by rw [hW4]; exact Blk.new _ _ _)
     have M4 := Lib.hid (M3.out.up (w' := W4) (n := W3.heap.size) (by rw [hW4]; exact (Below.refl _ _).alloc (Nat.le_refl _) _) (Nat.le_refl _))
     obtain ⟨n3, hn3⟩ : ∃ n3, n3 = W3.heap.size := ⟨_, rfl⟩
     rw [← hn3] at N4 ⊢
     clear hW4 hn3
     have hHeld := UU.out W4 (Tn.of_below Q4.out)
     refine ⟨hHeld, ?_⟩
     refine wpAnyH_one (i := 14) rfl (by kernel_rfl) (by rfl) ?_
     simp only [List.getElem_toArray, List.getElem_cons_succ, List.getElem_cons_zero]
     have hpl : ps.length ≤ 3 := by have := PK.out; omega
     refine wp_append_all (.tmp 57) (.tmp 66) 75 rfl wE.heap.size 44 iL _ 1 8 Tryz.underlying75 hiL hzL1 hzL2 hzL3 rfl (by omega) lv ps.length (ps.map lptr) rfl ((Tn.of_below (F := fun _ => False) Q4.out).row LI.out.row (fun _ _ h => h)) 1 [.pointer (some ⟨b, 0, none⟩)] _ rfl (.inr ⟨_, _, rfl, rfl, blk_news N4.out⟩) (fun u hu => by simp at hu; rw [hu]; rfl) (by unfold maxLen; omega) (by omega) (Nat.le_trans LI.out.tn.size Q4.out.size) ?_
     intro v' W5 hr5 hg5 ho5
     have t5 : Tn (fun j => wE.heap.size ≤ j) wr W5 := (Tn.of_below Q4.out).trans ((Tn.of_grown hg5).mono fun j e => (row_lt LI.out.row j e).1)
     have hHeld := UU.out W5 t5
     refine ⟨hHeld, ?_⟩
     refine tk 15 (v := ?_) rfl hHeld ?_ ?_; rotate_left
     ·(intro w hSw; clear hSw; go_simp; try (with_reducible rfl))
     try simp only [gZ]
     exact wpAnyH_done (by kernel_rfl) ⟨rfl, hR v1 b n3 v' W5 ⟨b, _, _, W4, Q4.out, M4.out, Q1.out.size, hr5, hg5, ho5⟩⟩ _
    case rest =>
     rintro x y z u W ⟨b, lo, hi', W4, h1, h2, h3, h4, h5, h6⟩
     obtain ⟨gu, cu, rfl⟩ : ∃ gu cu, u = .slice (some ⟨gu, 0, none⟩) (ps.length + 1) cu := by
      obtain ⟨-, ⟨-, hz⟩ | ⟨gb, c', cur, e, -⟩⟩ := h4
      ·omega
      ·exact ⟨gb, c', e⟩
     have H1 := Lib.hid h1
     have H2 := Lib.hid h2
     have H3 := Lib.hid h3
     have H4 := Lib.hid h4
     have H5 := Lib.hid h5
     have H6 := Lib.hid h6
     have b5 : Blk W w2.heap.size #[.slice (some ⟨w5.heap.size, 0, none⟩) 2 2, .pointer (some ⟨bb, 0, none⟩), lv, .pointer (some ⟨nb, 0, none⟩), i64 0] 78 := (Tn.of_grown h5).blk (LI.out.blk.below h1 LI.out.blk.lt) fun e => by have := (row_lt LI.out.row _ e).1; have := XLT.out; omega
     have c2 := b5.cell 2
     have f2 := b5.frozen 2
     clear h1 h2 h3 h4 h5 h6 b5
     simp only [endN, List.drop_succ_cons, List.drop_zero, Act.put, List.setIfInBounds_toArray, List.set_cons_zero, List.set_cons_succ]
     go_wp2_with fail
     go_roundw
     case rel =>
      refine ⟨k + 1, ps ++ [(b, lo, hi')], .slice (some ⟨gu, 0, none⟩) (ps.length + 1) cu, hgo, by go_num, by rw [List.length_append, PK.out]; rfl, ?_⟩
      refine LI.out.step XLT.out H1.out ?_ H3.out H4.out H5.out H6.out
      rw [PK.out]; exact H2.out
     case measure => simp [intOf]; omega
   ·obtain rfl : k = 3 := by omega
    have K9 := TE.out.trans LI.out.tn
    have K7 : Tn (fun j => j = w2.heap.size) w7 wr := (Tn.of_below B8.out).trans ((Tn.of_below B9.out).trans K9)
    have K6 := T7.out.trans K7
    have K5 : Tn (fun j => j = w2.heap.size) w5 wr := (Tn.of_below B6.out).trans K6
    have K4 : Tn (fun j => j = w2.heap.size) w4 wr := (Tn.of_below B5.out).trans K5
    have K3 : Tn (fun j => j = w2.heap.size) w3 wr := (Tn.of_below B4.out).trans K4
    have K2 : Tn (fun j => j = w2.heap.size) w2 wr := (Tn.of_below B3.out).trans K3
    have z1 := B1.out.size
    have z2 := B2.out.size
    have z3 := HZ3.out
    have z4 := B4.out.size
    have z5 := B5.out.size
    have z6 := AB6.out.lt
    have z7 := Z7.out
    have z8 := B8.out.size
    have z9 := B9.out.size
    have zE := HZE.out
    have hN := N2.out.tn K2 (fun k e => .inr (by omega))
    have hA1 := A1.out.tn K4 (fun k e => .inl (by omega))
    have hA2 := A2.out.tn K5 (fun k e => .inl (by omega))
    have hAB := K6.blk AB6.out (fun e => by have e : w5.heap.size = w2.heap.size := e; omega)
    have hBR := BM.out.tn K9 (fun k e => .inl (by omega))
    have ha1 := HA1.out
    have ha2 := HA2.out
    subst ha1 ha2
    have FIN := Lib.hid (LibM.begin (B0 := w.heap.size) (n1 := w1.heap.size) (n2 := w3.heap.size) (s4 := w4.heap.size) (s5 := w5.heap.size) (s8 := w8.heap.size) (s9 := w9.heap.size) (D := rotL D) (S := S) LI.out PK.out z1 z2 (by omega) z5 (by omega) z9 (by omega) (by omega) (by omega) hN hA1 hA2 hAB hBR)
    have BFIN : Hid (Below w.heap.size w wr) := Lib.hid (CE.out.trans (LI.out.tn.below CE.out.size (fun j e => by rw [e]; exact Nat.le_of_lt G2.out)))
    clear K9 K7 K6 K5 K4 K3 K2 z1 z2 z3 z4 z5 z6 z7 z8 z9 zE hN hA1 hA2 hAB hBR
    go_wp2_with fail
    go_ret
    obtain ⟨g, h1, h2, h3⟩ := FIN.out
    exact ⟨g, by rw [h1]; rfl, h2, h3, BFIN.out⟩
end Go.Proofs.YtdojgbpaheadnaaGreat
