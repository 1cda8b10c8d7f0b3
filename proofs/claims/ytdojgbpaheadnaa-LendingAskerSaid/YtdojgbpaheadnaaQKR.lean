/- The reference reads four numbers: the list lies in new memory. -/
import Derived.Test.YtdojgbpaheadnaaQKD
set_option linter.unusedVariables false
set_option linter.unusedSimpArgs false

namespace Go.Proofs.Ytdojgbpaheadnaa
open Go.RowKit Go.Shelf Go.Maps

/-- What the reading of a list returns: the list in new memory, or an error. -/
def RiE2 (B : Nat) (l : List UInt8) (e : Ending) (w' : World) : Prop :=
  (∃ L a cap, e = .returned (.tuple #[.slice a L.length cap, .int .i64 0]) ∧ l = ints L ∧ AllIn L ∧ IntsAt w' a L ∧ L.length ≤ cap ∧ cap ≤ 9223372036854775807 ∧ (a = none → cap = 0) ∧ ∀ b o, a = some ⟨b, o, none⟩ → B ≤ b) ∨
  (∃ c : Int, e = .returned (.tuple #[.slice none 0 0, .int .i64 c]) ∧ c ≠ 0 ∧ ∀ L, AllIn L → l ≠ ints L)
set_option maxRecDepth 100000 in
set_option maxHeartbeats 1000000 in
theorem rreadints2_any (s : ByteArray) (w : World) (hs : s.size ≤ 1000000) : Calls Try.prog 69 #[.string s] w fun e w' => RiE2 w.heap.size s.data.toList e w' ∧ Below w.heap.size w w' := by
  obtain ⟨i0, hi, hz1, hz2, hz3⟩ := info_parts info3
  go_enter Try.func69, Try.ntmps69
  go_wp2_with fail
  refine (rrd_any s w (by omega)).mono ?_
  rintro e w1 ⟨⟨m, k, c, rfl, hR⟩, hb⟩
  have hm := hR.size.2.2
  have hkz : k ≤ s.size := by have := hR.size.1; rwa [dlen] at this
  have HR := Lib.hid hR
  have B1 := Lib.hid hb
  clear hR hb
  by_cases hc : c = 0
  · subst hc
    have BG : RowKit.Hid (Begun s.data.toList m [] (s.data.toList.drop k)) := Lib.hid (by
      have := (HR.out.good rfl).2.2
      rw [ext_drop] at this
      exact Begun.start this)
    have R1 := Lib.hid (World.ownsRow_nil w1 w.heap.size 3 1)
    go_wp2_with fail
    go_loopw [5, 7, 8] (fun at_ v i wr => ∃ (done : List Int) (a : Nat), i = .int .u64 (done.length : Int) ∧ at_ = .int .i64 (a : Int) ∧ done.length ≤ 1000000 ∧ a ≤ s.size ∧ Begun s.data.toList m done (s.data.toList.drop a) ∧ Below w.heap.size w wr ∧ wr.ownsRow w.heap.size 3 1 v done.length (done.map encZ)) (fun _ _ i _ => 1000001 - (intOf i).toNat)
    case atStart => exact ⟨[], k, rfl, rfl, by simp, hkz, BG.out, B1.out, R1.out⟩
    case round =>
      obtain ⟨done, a, rfl, rfl, hlen, ha, hBg, hB, hrow⟩ := hrel
      have G3 := Lib.hid hBg
      have B3 := Lib.hid hB
      have R3 := Lib.hid hrow
      clear hBg hB hrow BG B1 R1 HR
      obtain ⟨n, hn⟩ : ∃ n, done.length = n := ⟨_, rfl⟩
      have HN := Lib.hid hn
      rw [hn] at hlen R3
      rw [hn]
      clear hn
      have hes : (s.extract a s.size).size = s.size - a := ext_size s a ha
      have hes2 : (s.extract a s.size).size ≤ 1000000000 := by omega
      clear hes
      by_cases hgo : n < m
      · have hlen2 : n < 1000000 := by
          have := G3.out.len
          rw [HN.out, dlen] at this
          omega
        go_wp2_with fail
        refine (rrd_any (s.extract a s.size) wr hes2).mono ?_
        rintro e w4 ⟨⟨v, j, c, rfl, hR⟩, hb⟩
        rw [ext_drop] at hR
        have hv := hR.size.2.2
        have hj : a + j ≤ s.size := by have := hR.size.1; rw [List.length_drop, dlen] at this; omega
        have hj10 := hR.size.2.1
        have B4 := Lib.hid (B3.out.trans (hb.mono B3.out.size))
        have R4 := Lib.hid (ownsB_same R3.out fun r hr => hb.block r (R3.out.lt r hr).2)
        have HR := Lib.hid hR
        clear hR hb B3 R3 hes2
        by_cases hc : c = 0
        · subst hc
          have key := begun_next G3.out (by rw [HN.out]; exact hgo) HR.out
          have G4 := Lib.hid key.1
          clear key G3 HR
          go_wp2_with fail
          refine (runsigned_any v _ hv).mono ?_
          rintro e w5 ⟨rfl, rfl⟩
          have hB4 := B4.out.size
          generalize uns v = x at *
          go_wp2_with (at_builtin; go_must (refine wpList_append_lies _ rfl (.tmp 40) (.tmp 43) 25 rfl w.heap.size 3 i0 (.int .i64 0) 1 8 Try.underlying25 hi hz1 hz2 hz3 rfl (by omega) u7 n _ (by rfl) (R4.out.alloc _) ⟨w4.heap.size, 0, none⟩ 1 1 [.int .i64 x] (by rfl) (by rfl) (news1 w4 _ 3) (one1 x) (by omega) (by unfold maxLen; omega) (by omega) (by simp; omega) (w4.heap.size + 1) (by simp) ?_; intro gg cap' w6 hown6 hgrow hat hlt5))
          have B6 := Lib.hid ((B4.out.alloc hB4 (.cells #[.int .i64 x] 3)).grown hgrow (by rw [size_alloc]; omega) (fun j e => (R4.out.lt _ e).1))
          have R6 : RowKit.Hid (w6.ownsRow w.heap.size 3 1 (.slice (some ⟨gg, 0, none⟩) (n + 1) cap') (n + 1) ((done ++ [x]).map encZ)) := by
            rw [List.map_append]; exact hown6
          clear R4 B4 hown6 hgrow hat hlt5
          go_wp2_with fail
          refine ⟨⟨done ++ [x], a + j, ?_, by go_num, ?_, hj, G4.out, B6.out, ?_⟩, ?_⟩
          · rw [List.length_append, List.length_singleton, HN.out]; go_num
          · rw [List.length_append, List.length_singleton, HN.out]; omega
          · rw [List.length_append, List.length_singleton, HN.out]; exact R6.out
          · simp [intOf]; omega
        · have hq : (c != 0) = true := by simpa using hc
          have key := Lib.hid (G3.out.fail (by rw [HN.out]; exact hgo) (HR.out.fail hc).2.2.2)
          have HC := Lib.hid hc
          clear hc G3 HR
          go_wp2_with fail
          go_ret2
          exact ⟨.inr ⟨c, rfl, HC.out, key.out⟩, B4.out⟩
      · by_cases hend : a < s.size
        · have key := Lib.hid (G3.out.more (by rw [HN.out]; exact hgo) (fun e => by
            have := congrArg List.length e
            rw [List.length_drop, dlen, List.length_nil] at this
            omega))
          clear G3 R3
          go_wp2_with fail
          go_ret2
          exact ⟨.inr ⟨11, rfl, by omega, fun L _ => key.out L⟩, B3.out⟩
        · have key := Lib.hid (Begun.done (by have := G3.out; rwa [List.drop_of_length_le (by rw [dlen]; omega)] at this) (by rw [HN.out]; exact hgo))
          have H2 := Lib.hid G3.out.in_
          obtain ⟨ad, cap, hv, hI', hc1, hc2, hc9⟩ := slice_of2 R3.out
          obtain ⟨a9, cap9, hv9, -, -, -, h9⟩ := row_cellz R3.out
          have NW : ∀ b o, ad = some ⟨b, o, none⟩ → w.heap.size ≤ b := fun b o e => by
            rw [hv] at hv9
            injection hv9 with e1 _ _
            rcases h9 with ⟨_, _, h9⟩ | ⟨g, h9, _, h10, _⟩
            · rw [e, h9] at e1; cases e1
            · rw [e, h9] at e1; injection e1 with e1; injection e1 with e1 _ _; rw [e1]; exact h10
          have KE := Lib.hid (show RiE2 w.heap.size s.data.toList (.returned (.tuple #[u7, .int .i64 0])) wr from .inl ⟨done, ad, cap, by rw [hv], key.out, H2.out, hI', hc1, hc2, hc9, NW⟩)
          clear hv hI' G3 R3 hc9 NW h9 hv9
          go_wp2_with fail
          go_ret2
          exact ⟨KE.out, B3.out⟩
  · have hq : (c != 0) = true := by simpa using hc
    have key := Lib.hid (fun L (_ : AllIn L) => no_ints (HR.out.fail hc).2.2.2 L (by rw [dlen]; omega))
    have HC := Lib.hid hc
    clear hc HR
    go_wp2_with fail
    go_ret2
    exact ⟨.inr ⟨c, rfl, HC.out, key.out⟩, B1.out⟩
/-- What reading four numbers yields. -/
def ReadE2 (B : Nat) (s : List UInt8) (e : Ending) (w' : World) : Prop :=
  (∃ q b o cap, dec s = some q ∧ e = .returned (.tuple #[.slice (some ⟨b, o, none⟩) 4 cap, .bool true]) ∧ B ≤ b ∧ 4 ≤ cap ∧ cap ≤ 9223372036854775807 ∧ w'.cell? ⟨b, o, none⟩ = some (i64 q.1) ∧ w'.cell? ⟨b, o + 1, none⟩ = some (i64 q.2.1) ∧ w'.cell? ⟨b, o + 2, none⟩ = some (i64 q.2.2.1) ∧ w'.cell? ⟨b, o + 3, none⟩ = some (i64 q.2.2.2)) ∨
  dec s = none ∧ ∃ a n cap, e = .returned (.tuple #[.slice a n cap, .bool false])
set_option maxRecDepth 100000 in
theorem read2_any (x : List UInt8) (w : World) (hs : x.length ≤ 1000000) : Calls Try.prog 46 #[strV x] w fun e w' => ReadE2 w.heap.size x e w' ∧ Below w.heap.size w w' := by
  have HS : (⟨x.toArray⟩ : ByteArray).size ≤ 1000000 := by show x.toArray.size ≤ _; simpa using hs
  go_enter Try.func46, Try.ntmps46
  go_wp2_with fail
  refine (rreadints2_any ⟨x.toArray⟩ w HS).mono ?_
  rintro e w2 ⟨hR, hb⟩
  have HB := Lib.hid hb
  clear hb
  rcases hR with ⟨L, a, cap, rfl, hx, hin, hI, hc1, hc2, hc3, hnw⟩ | ⟨c, rfl, hc, hno⟩
  · by_cases hl : L.length = 4
    · obtain ⟨q, rfl⟩ := list4 hl
      have HD := Lib.hid (dec_some.2 ⟨q4_all.1 hin, hx⟩)
      have h4 : (q4 q).length = 4 := rfl
      obtain ⟨k, d, r, v⟩ := q
      rcases hI with h | ⟨b', o, rfl, hb', hc⟩
      · cases h
      have c0 : w2.cell? ⟨b', o, none⟩ = some (i64 k) := hc 0 (by rw [h4]; omega)
      have c1 : w2.cell? ⟨b', o + 1, none⟩ = some (i64 d) := hc 1 (by rw [h4]; omega)
      have c2 : w2.cell? ⟨b', o + 2, none⟩ = some (i64 r) := hc 2 (by rw [h4]; omega)
      have c3 : w2.cell? ⟨b', o + 3, none⟩ = some (i64 v) := hc 3 (by rw [h4]; omega)
      have F : RowKit.Hid (ReadE2 w.heap.size x (.returned (.tuple #[.slice (some ⟨b', o, none⟩) 4 cap, .bool true])) w2) := Lib.hid (.inl ⟨_, _, _, _, HD.out, rfl, hnw _ _ rfl, hc1, hc2, c0, c1, c2, c3⟩)
      clear c0 c1 c2 c3 hc hx hin
      rw [h4]
      go_wp2_with fail
      go_ret2
      exact ⟨F.out, HB.out⟩
    · have e2 : ((L.length : Int) == 4) = false := by simp; omega
      have hn : dec x = none := dec_none.2 fun q _ e => hl (by rw [show x = ints L from hx] at e; rw [ints_inj e]; rfl)
      have F : RowKit.Hid (∀ a n cap, ReadE2 w.heap.size x (.returned (.tuple #[.slice a n cap, .bool false])) w2) := Lib.hid fun a n cap => .inr ⟨hn, _, _, _, rfl⟩
      have e1 : ¬ ((L.length : Int) = 4) := by omega
      clear hx hin hI hn
      go_wp2_with fail
      go_ret2
      exact ⟨F.out _ _ _, HB.out⟩
  · have hn : dec x = none := dec_none.2 fun q hq => hno _ (q4_all.2 hq)
    have F : RowKit.Hid (∀ a n cap, ReadE2 w.heap.size x (.returned (.tuple #[.slice a n cap, .bool false])) w2) := Lib.hid fun a n cap => .inr ⟨hn, _, _, _, rfl⟩
    clear hn hno
    go_wp2_with fail
    go_ret2
    exact ⟨F.out _ _ _, HB.out⟩
end Go.Proofs.Ytdojgbpaheadnaa
