/- The reference's texts and letters; its lender in memory. -/
import Derived.Test.YtdojgbpaheadnaaGreatQRX
import Derived.Test.YtdojgbpaheadnaaGreatQLG
set_option linter.unusedVariables false
set_option linter.unusedSimpArgs false

namespace Go.Proofs.YtdojgbpaheadnaaGreat
open Go.RowKit Go.Shelf Go.Maps

theorem text_any (k a r v : Int) (w : World) (hk : I64 k) (ha : I64 a) (hr : I64 r) (hv : I64 v) :
    Calls Tryz.prog 13 #[i64 k, i64 a, i64 r, i64 v] w fun e w' => e = .returned (strV (txt k a r v)) ∧ Below w.heap.size w w' := by
  have HQ : RowKit.Hid (Q4.ok (k, a, r, v)) := Lib.hid ⟨hk, ha, hr, hv⟩
  clear hk ha hr hv
  go_enter Tryz.func13, Tryz.ntmps13
  go_wp2_with fail
  refine (rints_any [k, a, r, v] (some ⟨w.heap.size, 0, none⟩) 4 (w.alloc (.cells #[i64 k, i64 a, i64 r, i64 v] 3)) (intsAt4 w k a r v _) (by simp) (by simp) (by omega) (q4_all.2 HQ.out)).mono ?_
  rintro e w1 ⟨rfl, hb⟩
  have B1 : RowKit.Hid (Below w.heap.size w w1) := Lib.hid (((Below.refl w.heap.size w).alloc (Nat.le_refl _) _).trans (hb.mono (by simp)))
  clear hb
  go_wp2_with fail
  go_ret
  exact ⟨rfl, B1.out⟩
/-- What reading four numbers yields. -/
def ReadE (s : List UInt8) (e : Ending) (w' : World) : Prop :=
  (∃ q b o cap, dec s = some q ∧ e = .returned (.tuple #[.slice (some ⟨b, o, none⟩) 4 cap, .bool true]) ∧ 4 ≤ cap ∧ cap ≤ 9223372036854775807 ∧ w'.cell? ⟨b, o, none⟩ = some (i64 q.1) ∧ w'.cell? ⟨b, o + 1, none⟩ = some (i64 q.2.1) ∧ w'.cell? ⟨b, o + 2, none⟩ = some (i64 q.2.2.1) ∧ w'.cell? ⟨b, o + 3, none⟩ = some (i64 q.2.2.2)) ∨
  dec s = none ∧ ∃ a n cap, e = .returned (.tuple #[.slice a n cap, .bool false])
set_option maxRecDepth 100000 in
theorem read_any (x : List UInt8) (w : World) (hs : x.length ≤ 1000000) : Calls Tryz.prog 55 #[strV x] w fun e w' => ReadE x e w' ∧ Below w.heap.size w w' := by
  have HS : (⟨x.toArray⟩ : ByteArray).size ≤ 1000000 := by show x.toArray.size ≤ _; simpa using hs
  go_enter Tryz.func55, Tryz.ntmps55
  go_wp2_with fail
  refine (rreadints_any ⟨x.toArray⟩ w HS).mono ?_
  rintro e w2 ⟨hR, hb⟩
  have HB := Lib.hid hb
  clear hb
  rcases hR with ⟨L, a, cap, rfl, hx, hin, hI, hc1, hc2, hc3⟩ | ⟨c, rfl, hc, hno⟩
  · by_cases hl : L.length = 4
    · obtain ⟨q, rfl⟩ := list4 hl
      have HD := Lib.hid (dec_some.2 ⟨q4_all.1 hin, hx⟩)
      have h4 : (q4 q).length = 4 := rfl
      obtain ⟨k, d, r, v⟩ := q
      rcases hI with h | ⟨b', o, rfl, hb', hc⟩
      · cases h
      have c0 : w2.cell? ⟨b', o, none⟩ = some (i64 k) := hc 0 (by rw [h4]; omega)
      have c1 : w2.cell? ⟨b', o + 1, none⟩ = some (i64 d) := hc 1 (by rw [h4]; omega)
      have c2 : w2.cell? ⟨b', o + 2, none⟩ = some (i64 r) := hc 2 (by rw [h4]; omega)
      have c3 : w2.cell? ⟨b', o + 3, none⟩ = some (i64 v) := hc 3 (by rw [h4]; omega)
      have F : RowKit.Hid (ReadE x (.returned (.tuple #[.slice (some ⟨b', o, none⟩) 4 cap, .bool true])) w2) := Lib.hid (.inl ⟨_, _, _, _, HD.out, rfl, hc1, hc2, c0, c1, c2, c3⟩)
      clear c0 c1 c2 c3 hc hx hin
      rw [h4]
      go_wp2_with fail
      go_ret2
      exact ⟨F.out, HB.out⟩
    · have e2 : ((L.length : Int) == 4) = false := by simp; omega
      have hn : dec x = none := dec_none.2 fun q _ e => hl (by rw [show x = ints L from hx] at e; rw [ints_inj e]; rfl)
      have F : RowKit.Hid (∀ a n cap, ReadE x (.returned (.tuple #[.slice a n cap, .bool false])) w2) := Lib.hid fun a n cap => .inr ⟨hn, _, _, _, rfl⟩
      have e1 : ¬ ((L.length : Int) = 4) := by omega
      clear hx hin hI hn
      go_wp2_with fail
      go_ret2
      exact ⟨F.out _ _ _, HB.out⟩
  · have hn : dec x = none := dec_none.2 fun q hq => hno _ (q4_all.2 hq)
    have F : RowKit.Hid (∀ a n cap, ReadE x (.returned (.tuple #[.slice a n cap, .bool false])) w2) := Lib.hid fun a n cap => .inr ⟨hn, _, _, _, rfl⟩
    clear hn hno
    go_wp2_with fail
    go_ret2
    exact ⟨F.out _ _ _, HB.out⟩
set_option maxRecDepth 100000 in
set_option maxHeartbeats 4000000 in
theorem rsend_any (b : Nat) (id sent to k a r t st : Int) (w : World) (h0 : w.cell? ⟨b, 0, none⟩ = some (i64 id)) (h1 : w.cell? ⟨b, 1, none⟩ = some (i64 sent)) (hf : w.frozen? ⟨b, 1, none⟩ = false) (hs : 0 ≤ sent ∧ sent < 1000000000)
    (hk : I64 k) (ha : I64 a) (hr : I64 r) :
    Calls Tryz.prog 77 #[.pointer (some ⟨b, 0, none⟩), i64 to, i64 k, .agg #[i64 a, i64 r, i64 t, i64 st]] w (SendE b id sent to k a r 0 w) := by
  have hbl := cell_lt h0
  have HQ : RowKit.Hid (I64 k ∧ I64 a ∧ I64 r) := Lib.hid ⟨hk, ha, hr⟩
  clear hk ha hr
  have hwr : IntKind.i64.wrap (sent + 1) = sent + 1 := by rw [IntKind.wrap_i64]; omega
  go_enter Tryz.func77, Tryz.ntmps77
  go_wp2_with fail
  obtain ⟨w0, hw0⟩ : ∃ w0, w0 = w.setCell ⟨b, 1, none⟩ (i64 (sent + 1)) := ⟨_, rfl⟩
  obtain ⟨W1, hW1⟩ : ∃ W1, W1 = w0.alloc (.cells #[i64 a, i64 r, i64 t, i64 st] 168) := ⟨_, rfl⟩
  have hz0 : w0.heap.size = w.heap.size := by rw [hw0]; simp
  have W0 := Lib.hid hw0
  have a0 : W1.cell? ⟨b, 0, none⟩ = some (i64 id) := by
    rw [hW1]; refine Below.cellE ((Below.refl w0.heap.size w0).alloc (Nat.le_refl _) _) ?_; rw [hw0]; exact (World.cell?_setCell_other (h := fun e => by injection e with _ e _; cases e) ..).trans h0
  have a1 : W1.cell? ⟨b, 1, none⟩ = some (i64 (sent + 1)) := by
    rw [hW1]; refine Below.cellE ((Below.refl w0.heap.size w0).alloc (Nat.le_refl _) _) ?_; rw [hw0]; exact World.cell?_setCell_same (h := h1) ..
  have DB : RowKit.Hid (Blk W1 w.heap.size #[i64 a, i64 r, i64 t, i64 st] 168) := Lib.hid (by rw [hW1]; exact Blk.at_new hz0.symm _ _)
  have B0 : RowKit.Hid (Below w0.heap.size w0 W1) := Lib.hid (by rw [hW1]; exact (Below.refl _ _).alloc (Nat.le_refl _) _)
  rw [← hw0, ← hW1]
  have hz1 : w.heap.size ≤ W1.heap.size := by rw [hW1, size_alloc]; omega
  obtain ⟨S, hS⟩ : ∃ S : World → Prop, S = fun W => Below W1.heap.size W1 W := ⟨_, rfl⟩
  have LD : RowKit.Hid (∀ W, S W → W.cell? ⟨b, 0, none⟩ = some (i64 id) ∧ W.cell? ⟨b, 1, none⟩ = some (i64 (sent + 1)) ∧ W.cell? ⟨w.heap.size, 0, none⟩ = some (i64 a) ∧ W.cell? ⟨w.heap.size, 1, none⟩ = some (i64 r)) := Lib.hid (by
    rw [hS]; intro W h; exact ⟨Below.cellE h a0, Below.cellE h a1, Below.cellE h (DB.out.cell 0), Below.cellE h (DB.out.cell 1)⟩)
  have SS : RowKit.Hid (∀ W, S W → Below W1.heap.size W1 W) := Lib.hid (by rw [hS]; exact fun W h => h)
  have UU : RowKit.Hid (∀ W, Below W1.heap.size W1 W → S W) := Lib.hid (by rw [hS]; exact fun W h => h)
  have hHeld := UU.out _ (Below.refl W1.heap.size W1).drew
  clear hS hW1 hw0 a0 a1 h0 h1 hf hwr hs
  refine wp_region_held_drew (S := S) (by kernel_rfl) hHeld (fun _ => ?_)
  apply wpAnyH_apart1 (fun g W => W1.heap.size ≤ g ∧ Blk W g (encM ⟨id, to, sent + 1, txt k a r 0⟩) 31 ∧ Below W1.heap.size W1 W)
  case take =>
    intro R hR
    refine wpAnyH_take (i := 0) (v := ?_) rfl (by kernel_rfl) (by kernel_rfl) (by kernel_rfl) (fun _ _ _ h => only_panic h) (Or.inl ⟨by rfl, ?_⟩) hHeld ?_
    rotate_left
    · (intro w hSw; obtain ⟨l0, l1, l2, l3⟩ := LD.out w hSw; go_simp; try (with_reducible rfl))
    try simp only [gA, gB, gC, Act.put, gD, gE, gF]
    refine wpAnyH_take (i := 1) (v := ?_) rfl (by kernel_rfl) (by kernel_rfl) (by kernel_rfl) (fun _ _ _ h => only_panic h) (Or.inl ⟨by rfl, ?_⟩) hHeld ?_
    rotate_left
    · (intro w hSw; obtain ⟨l0, l1, l2, l3⟩ := LD.out w hSw; go_simp; try (with_reducible rfl))
    try simp only [gA, gB, gC, Act.put, gD, gE, gF]
    refine wpAnyH_take (i := 2) (v := ?_) rfl (by kernel_rfl) (by kernel_rfl) (by kernel_rfl) (fun _ _ _ h => only_panic h) (Or.inl ⟨by rfl, ?_⟩) hHeld ?_
    rotate_left
    · (intro w hSw; obtain ⟨l0, l1, l2, l3⟩ := LD.out w hSw; go_simp; try (with_reducible rfl))
    try simp only [gA, gB, gC, Act.put, gD, gE, gF]
    refine wpAnyH_take (i := 3) (v := ?_) rfl (by kernel_rfl) (by kernel_rfl) (by kernel_rfl) (fun _ _ _ h => only_panic h) (Or.inl ⟨by rfl, ?_⟩) hHeld ?_
    rotate_left
    · (intro w hSw; obtain ⟨l0, l1, l2, l3⟩ := LD.out w hSw; go_simp; try (with_reducible rfl))
    try simp only [gA, gB, gC, Act.put, gD, gE, gF]
    refine wpAnyH_take (i := 4) (v := ?_) rfl (by kernel_rfl) (by kernel_rfl) (by kernel_rfl) (fun _ _ _ h => only_panic h) (Or.inl ⟨by rfl, ?_⟩) hHeld ?_
    rotate_left
    · (intro w hSw; obtain ⟨l0, l1, l2, l3⟩ := LD.out w hSw; go_simp; try (with_reducible rfl))
    try simp only [gA, gB, gC, Act.put, gD, gE, gF]
    refine wpAnyH_take (i := 5) (v := ?_) rfl (by kernel_rfl) (by kernel_rfl) (by kernel_rfl) (fun _ _ _ h => only_panic h) (Or.inl ⟨by rfl, ?_⟩) hHeld ?_
    rotate_left
    · (intro w hSw; obtain ⟨l0, l1, l2, l3⟩ := LD.out w hSw; go_simp; try (with_reducible rfl))
    try simp only [gA, gB, gC, Act.put, gD, gE, gF]
    refine wpAnyH_take (i := 6) (v := ?_) rfl (by kernel_rfl) (by kernel_rfl) (by kernel_rfl) (fun _ _ _ h => only_panic h) (Or.inl ⟨by rfl, ?_⟩) hHeld ?_
    rotate_left
    · (intro w hSw; obtain ⟨l0, l1, l2, l3⟩ := LD.out w hSw; go_simp; try (with_reducible rfl))
    try simp only [gA, gB, gC, Act.put, gD, gE, gF]
    refine wpAnyH_take (i := 7) (v := ?_) rfl (by kernel_rfl) (by kernel_rfl) (by kernel_rfl) (fun _ _ _ h => only_panic h) (Or.inl ⟨by rfl, ?_⟩) hHeld ?_
    rotate_left
    · (intro w hSw; obtain ⟨l0, l1, l2, l3⟩ := LD.out w hSw; go_simp; try (with_reducible rfl))
    try simp only [gA, gB, gC, Act.put, gD, gE, gF]
    refine wpAnyH_take (i := 8) (v := ?_) rfl (by kernel_rfl) (by kernel_rfl) (by kernel_rfl) (fun _ _ _ h => only_panic h) (Or.inl ⟨by rfl, ?_⟩) hHeld ?_
    rotate_left
    · (intro w hSw; obtain ⟨l0, l1, l2, l3⟩ := LD.out w hSw; go_simp; try (with_reducible rfl))
    try simp only [gA, gB, gC, Act.put, gD, gE, gF]
    refine wpAnyH_take (i := 9) (v := ?_) rfl (by kernel_rfl) (by kernel_rfl) (by kernel_rfl) (fun _ _ _ h => only_panic h) (Or.inl ⟨by rfl, ?_⟩) hHeld ?_
    rotate_left
    · (intro w hSw; obtain ⟨l0, l1, l2, l3⟩ := LD.out w hSw; go_simp; try (with_reducible rfl))
    try simp only [gA, gB, gC, Act.put, gD, gE, gF]
    refine wpAnyH_take (i := 10) (v := ?_) rfl (by kernel_rfl) (by kernel_rfl) (by kernel_rfl) (fun _ _ _ h => only_panic h) (Or.inl ⟨by rfl, ?_⟩) hHeld ?_
    rotate_left
    · (intro w hSw; obtain ⟨l0, l1, l2, l3⟩ := LD.out w hSw; go_simp; try (with_reducible rfl))
    try simp only [gA, gB, gC, Act.put, gD, gE, gF]
    refine wpAnyH_take (i := 11) (v := ?_) rfl (by kernel_rfl) (by kernel_rfl) (by kernel_rfl) (fun _ _ _ h => only_panic h) (Or.inl ⟨by rfl, ?_⟩) hHeld ?_
    rotate_left
    · (intro w hSw; obtain ⟨l0, l1, l2, l3⟩ := LD.out w hSw; go_simp; try (with_reducible rfl))
    try simp only [gA, gB, gC, Act.put, gD, gE, gF]
    refine wpAnyH_take (i := 12) (v := ?_) rfl (by kernel_rfl) (by kernel_rfl) (by kernel_rfl) (fun _ _ _ h => only_panic h) (Or.inl ⟨by rfl, ?_⟩) hHeld ?_
    rotate_left
    · (intro w hSw; obtain ⟨l0, l1, l2, l3⟩ := LD.out w hSw; go_simp; try (with_reducible rfl))
    try simp only [gA, gB, gC, Act.put, gD, gE, gF]
    refine wpAnyH_take (i := 13) (v := ?_) rfl (by kernel_rfl) (by kernel_rfl) (by kernel_rfl) (fun _ _ _ h => only_panic h) (Or.inl ⟨by rfl, ?_⟩) hHeld ?_
    rotate_left
    · (intro w hSw; obtain ⟨l0, l1, l2, l3⟩ := LD.out w hSw; go_simp; try (with_reducible rfl))
    try simp only [gA, gB, gC, Act.put, gD, gE, gF]
    refine wpAnyH_one (i := 14) rfl (by kernel_rfl) (by rfl) ?_
    go_simp
    refine (text_any k a r 0 _ HQ.out.1 HQ.out.2.1 HQ.out.2.2 ⟨by omega, by omega⟩).mono ?_
    rintro e W3 ⟨rfl, hb⟩
    have B3 := Lib.hid ((Below.refl W1.heap.size W1).drew.trans hb)
    have hHeld := UU.out _ B3.out
    clear hb
    refine ⟨hHeld, ?_⟩
    refine wpAnyH_take (i := 15) (v := ?_) rfl (by kernel_rfl) (by kernel_rfl) (by kernel_rfl) (fun _ _ _ h => only_panic h) (Or.inl ⟨by rfl, ?_⟩) hHeld ?_
    rotate_left
    · (intro w hSw; clear hSw; go_simp; try (with_reducible rfl))
    try simp only [gA, gB, gC, Act.put, gD, gE, gF]
    refine wpAnyH_one (i := 16) rfl (by kernel_rfl) (by rfl) ?_
    go_simp
    obtain ⟨W4, hW4⟩ : ∃ W4, W4 = W3.alloc (.cells #[i64 id, i64 to, i64 (sent + 1), strV (txt k a r 0)] 31) := ⟨_, rfl⟩
    have M4 : RowKit.Hid (Blk W4 W3.heap.size (encM ⟨id, to, sent + 1, txt k a r 0⟩) 31) := Lib.hid (by rw [hW4]; exact Blk.new _ _ _)
    have B4 : RowKit.Hid (Below W1.heap.size W1 W4) := Lib.hid (by rw [hW4]; exact B3.out.alloc B3.out.size _)
    have hz3 := B3.out.size
    obtain ⟨g, hg⟩ : ∃ g, g = W3.heap.size := ⟨_, rfl⟩
    rw [← hg] at M4 hz3
    rw [← hW4, ← hg]
    clear hW4 hg
    have hHeld := UU.out _ B4.out
    refine ⟨hHeld, ?_⟩
    refine wpAnyH_take (i := 17) (v := ?_) rfl (by kernel_rfl) (by kernel_rfl) (by kernel_rfl) (fun _ _ _ h => only_panic h) (Or.inl ⟨by rfl, ?_⟩) hHeld ?_
    rotate_left
    · (intro w hSw; clear hSw; go_simp; try (with_reducible rfl))
    try simp only [gA, gB, gC, Act.put, gD, gE, gF]
    exact wpAnyH_done (by kernel_rfl) ⟨rfl, hR _ _ ⟨hz3, M4.out, B4.out⟩⟩ _
  case rest =>
    rintro g W ⟨hg, hM, hB⟩
    have F : RowKit.Hid (SendE b id sent to k a r 0 w (.returned (.slice (some ⟨g, 0, none⟩) 1 1)) W) := Lib.hid ⟨g, rfl, by omega, hM, by rw [← W0.out]; exact (B0.out.trans (hB.mono B0.out.size)).mono (by omega)⟩
    go_wp2_with fail
    go_ret
    exact F.out
end Go.Proofs.YtdojgbpaheadnaaGreat

/- The reference reads four numbers: the list lies in new memory. -/
namespace Go.Proofs.YtdojgbpaheadnaaGreat
open Go.RowKit Go.Shelf Go.Maps

/-- What the reading of a list returns: the list in new memory, or an error. -/
def RiE2 (B : Nat) (l : List UInt8) (e : Ending) (w' : World) : Prop :=
  (∃ L a cap, e = .returned (.tuple #[.slice a L.length cap, .int .i64 0]) ∧ l = ints L ∧ AllIn L ∧ IntsAt w' a L ∧ L.length ≤ cap ∧ cap ≤ 9223372036854775807 ∧ (a = none → cap = 0) ∧ ∀ b o, a = some ⟨b, o, none⟩ → B ≤ b) ∨
  (∃ c : Int, e = .returned (.tuple #[.slice none 0 0, .int .i64 c]) ∧ c ≠ 0 ∧ ∀ L, AllIn L → l ≠ ints L)
set_option maxRecDepth 100000 in
set_option maxHeartbeats 1000000 in
theorem rreadints2_any (s : ByteArray) (w : World) (hs : s.size ≤ 1000000) : Calls Tryz.prog 87 #[.string s] w fun e w' => RiE2 w.heap.size s.data.toList e w' ∧ Below w.heap.size w w' := by
  obtain ⟨i0, hi, hz1, hz2, hz3⟩ := info_parts info3
  go_enter Tryz.func87, Tryz.ntmps87
  go_wp2_with fail
  refine (rrd_any s w (by omega)).mono ?_
  rintro e w1 ⟨⟨m, k, c, rfl, hR⟩, hb⟩
  have hm := hR.size.2.2
  have hkz : k ≤ s.size := by have := hR.size.1; rwa [dlen] at this
  have HR := Lib.hid hR
  have B1 := Lib.hid hb
  clear hR hb
  by_cases hc : c = 0
  · subst hc
    have BG : RowKit.Hid (Begun s.data.toList m [] (s.data.toList.drop k)) := Lib.hid (by
      have := (HR.out.good rfl).2.2
      rw [ext_drop] at this
      exact Begun.start this)
    have R1 := Lib.hid (World.ownsRow_nil w1 w.heap.size 3 1)
    go_wp2_with fail
    go_loopw [5, 7, 8] (fun at_ v i wr => ∃ (done : List Int) (a : Nat), i = .int .u64 (done.length : Int) ∧ at_ = .int .i64 (a : Int) ∧ done.length ≤ 1000000 ∧ a ≤ s.size ∧ Begun s.data.toList m done (s.data.toList.drop a) ∧ Below w.heap.size w wr ∧ wr.ownsRow w.heap.size 3 1 v done.length (done.map encZ)) (fun _ _ i _ => 1000001 - (intOf i).toNat)
    case atStart => exact ⟨[], k, rfl, rfl, by simp, hkz, BG.out, B1.out, R1.out⟩
    case round =>
      obtain ⟨done, a, rfl, rfl, hlen, ha, hBg, hB, hrow⟩ := hrel
      have G3 := Lib.hid hBg
      have B3 := Lib.hid hB
      have R3 := Lib.hid hrow
      clear hBg hB hrow BG B1 R1 HR
      obtain ⟨n, hn⟩ : ∃ n, done.length = n := ⟨_, rfl⟩
      have HN := Lib.hid hn
      rw [hn] at hlen R3
      rw [hn]
      clear hn
      have hes : (s.extract a s.size).size = s.size - a := ext_size s a ha
      have hes2 : (s.extract a s.size).size ≤ 1000000000 := by omega
      clear hes
      by_cases hgo : n < m
      · have hlen2 : n < 1000000 := by
          have := G3.out.len
          rw [HN.out, dlen] at this
          omega
        go_wp2_with fail
        refine (rrd_any (s.extract a s.size) wr hes2).mono ?_
        rintro e w4 ⟨⟨v, j, c, rfl, hR⟩, hb⟩
        rw [ext_drop] at hR
        have hv := hR.size.2.2
        have hj : a + j ≤ s.size := by have := hR.size.1; rw [List.length_drop, dlen] at this; omega
        have hj10 := hR.size.2.1
        have B4 := Lib.hid (B3.out.trans (hb.mono B3.out.size))
        have R4 := Lib.hid (ownsB_same R3.out fun r hr => hb.block r (R3.out.lt r hr).2)
        have HR := Lib.hid hR
        clear hR hb B3 R3 hes2
        by_cases hc : c = 0
        · subst hc
          have key := begun_next G3.out (by rw [HN.out]; exact hgo) HR.out
          have G4 := Lib.hid key.1
          clear key G3 HR
          go_wp2_with fail
          refine (runsigned_any v _ hv).mono ?_
          rintro e w5 ⟨rfl, rfl⟩
          have hB4 := B4.out.size
          generalize uns v = x at *
          go_wp2_with (at_builtin; go_must (refine wpList_append_lies _ rfl (.tmp 40) (.tmp 43) 25 rfl w.heap.size 3 i0 (.int .i64 0) 1 8 Tryz.underlying25 hi hz1 hz2 hz3 rfl (by omega) u7 n _ (by rfl) (R4.out.alloc _) ⟨w4.heap.size, 0, none⟩ 1 1 [.int .i64 x] (by rfl) (by rfl) (news1 w4 _ 3) (one1 x) (by omega) (by unfold maxLen; omega) (by omega) (by simp; omega) (w4.heap.size + 1) (by simp) ?_; intro gg cap' w6 hown6 hgrow hat hlt5))
          have B6 := Lib.hid ((B4.out.alloc hB4 (.cells #[.int .i64 x] 3)).grown hgrow (by rw [size_alloc]; omega) (fun j e => (R4.out.lt _ e).1))
          have R6 : RowKit.Hid (w6.ownsRow w.heap.size 3 1 (.slice (some ⟨gg, 0, none⟩) (n + 1) cap') (n + 1) ((done ++ [x]).map encZ)) := by
            rw [List.map_append]; exact hown6
          clear R4 B4 hown6 hgrow hat hlt5
          go_wp2_with fail
          refine ⟨⟨done ++ [x], a + j, ?_, by go_num, ?_, hj, G4.out, B6.out, ?_⟩, ?_⟩
          · rw [List.length_append, List.length_singleton, HN.out]; go_num
          · rw [List.length_append, List.length_singleton, HN.out]; omega
          · rw [List.length_append, List.length_singleton, HN.out]; exact R6.out
          · simp [intOf]; omega
        · have hq : (c != 0) = true := by simpa using hc
          have key := Lib.hid (G3.out.fail (by rw [HN.out]; exact hgo) (HR.out.fail hc).2.2.2)
          have HC := Lib.hid hc
          clear hc G3 HR
          go_wp2_with fail
          go_ret2
          exact ⟨.inr ⟨c, rfl, HC.out, key.out⟩, B4.out⟩
      · by_cases hend : a < s.size
        · have key := Lib.hid (G3.out.more (by rw [HN.out]; exact hgo) (fun e => by
            have := congrArg List.length e
            rw [List.length_drop, dlen, List.length_nil] at this
            omega))
          clear G3 R3
          go_wp2_with fail
          go_ret2
          exact ⟨.inr ⟨11, rfl, by omega, fun L _ => key.out L⟩, B3.out⟩
        · have key := Lib.hid (Begun.done (by have := G3.out; rwa [List.drop_of_length_le (by rw [dlen]; omega)] at this) (by rw [HN.out]; exact hgo))
          have H2 := Lib.hid G3.out.in_
          obtain ⟨ad, cap, hv, hI', hc1, hc2, hc9⟩ := slice_of2 R3.out
          obtain ⟨a9, cap9, hv9, -, -, -, h9⟩ := row_cellz R3.out
          have NW : ∀ b o, ad = some ⟨b, o, none⟩ → w.heap.size ≤ b := fun b o e => by
            rw [hv] at hv9
            injection hv9 with e1 _ _
            rcases h9 with ⟨_, _, h9⟩ | ⟨g, h9, _, h10, _⟩
            · rw [e, h9] at e1; cases e1
            · rw [e, h9] at e1; injection e1 with e1; injection e1 with e1 _ _; rw [e1]; exact h10
          have KE := Lib.hid (show RiE2 w.heap.size s.data.toList (.returned (.tuple #[u7, .int .i64 0])) wr from .inl ⟨done, ad, cap, by rw [hv], key.out, H2.out, hI', hc1, hc2, hc9, NW⟩)
          clear hv hI' G3 R3 hc9 NW h9 hv9
          go_wp2_with fail
          go_ret2
          exact ⟨KE.out, B3.out⟩
  · have hq : (c != 0) = true := by simpa using hc
    have key := Lib.hid (fun L (_ : AllIn L) => no_ints (HR.out.fail hc).2.2.2 L (by rw [dlen]; omega))
    have HC := Lib.hid hc
    clear hc HR
    go_wp2_with fail
    go_ret2
    exact ⟨.inr ⟨c, rfl, HC.out, key.out⟩, B1.out⟩
/-- What reading four numbers yields. -/
def ReadE2 (B : Nat) (s : List UInt8) (e : Ending) (w' : World) : Prop :=
  (∃ q b o cap, dec s = some q ∧ e = .returned (.tuple #[.slice (some ⟨b, o, none⟩) 4 cap, .bool true]) ∧ B ≤ b ∧ 4 ≤ cap ∧ cap ≤ 9223372036854775807 ∧ w'.cell? ⟨b, o, none⟩ = some (i64 q.1) ∧ w'.cell? ⟨b, o + 1, none⟩ = some (i64 q.2.1) ∧ w'.cell? ⟨b, o + 2, none⟩ = some (i64 q.2.2.1) ∧ w'.cell? ⟨b, o + 3, none⟩ = some (i64 q.2.2.2)) ∨
  dec s = none ∧ ∃ a n cap, e = .returned (.tuple #[.slice a n cap, .bool false])
set_option maxRecDepth 100000 in
theorem read2_any (x : List UInt8) (w : World) (hs : x.length ≤ 1000000) : Calls Tryz.prog 55 #[strV x] w fun e w' => ReadE2 w.heap.size x e w' ∧ Below w.heap.size w w' := by
  have HS : (⟨x.toArray⟩ : ByteArray).size ≤ 1000000 := by show x.toArray.size ≤ _; simpa using hs
  go_enter Tryz.func55, Tryz.ntmps55
  go_wp2_with fail
  refine (rreadints2_any ⟨x.toArray⟩ w HS).mono ?_
  rintro e w2 ⟨hR, hb⟩
  have HB := Lib.hid hb
  clear hb
  rcases hR with ⟨L, a, cap, rfl, hx, hin, hI, hc1, hc2, hc3, hnw⟩ | ⟨c, rfl, hc, hno⟩
  · by_cases hl : L.length = 4
    · obtain ⟨q, rfl⟩ := list4 hl
      have HD := Lib.hid (dec_some.2 ⟨q4_all.1 hin, hx⟩)
      have h4 : (q4 q).length = 4 := rfl
      obtain ⟨k, d, r, v⟩ := q
      rcases hI with h | ⟨b', o, rfl, hb', hc⟩
      · cases h
      have c0 : w2.cell? ⟨b', o, none⟩ = some (i64 k) := hc 0 (by rw [h4]; omega)
      have c1 : w2.cell? ⟨b', o + 1, none⟩ = some (i64 d) := hc 1 (by rw [h4]; omega)
      have c2 : w2.cell? ⟨b', o + 2, none⟩ = some (i64 r) := hc 2 (by rw [h4]; omega)
      have c3 : w2.cell? ⟨b', o + 3, none⟩ = some (i64 v) := hc 3 (by rw [h4]; omega)
      have F : RowKit.Hid (ReadE2 w.heap.size x (.returned (.tuple #[.slice (some ⟨b', o, none⟩) 4 cap, .bool true])) w2) := Lib.hid (.inl ⟨_, _, _, _, HD.out, rfl, hnw _ _ rfl, hc1, hc2, c0, c1, c2, c3⟩)
      clear c0 c1 c2 c3 hc hx hin
      rw [h4]
      go_wp2_with fail
      go_ret2
      exact ⟨F.out, HB.out⟩
    · have e2 : ((L.length : Int) == 4) = false := by simp; omega
      have hn : dec x = none := dec_none.2 fun q _ e => hl (by rw [show x = ints L from hx] at e; rw [ints_inj e]; rfl)
      have F : RowKit.Hid (∀ a n cap, ReadE2 w.heap.size x (.returned (.tuple #[.slice a n cap, .bool false])) w2) := Lib.hid fun a n cap => .inr ⟨hn, _, _, _, rfl⟩
      have e1 : ¬ ((L.length : Int) = 4) := by omega
      clear hx hin hI hn
      go_wp2_with fail
      go_ret2
      exact ⟨F.out _ _ _, HB.out⟩
  · have hn : dec x = none := dec_none.2 fun q hq => hno _ (q4_all.2 hq)
    have F : RowKit.Hid (∀ a n cap, ReadE2 w.heap.size x (.returned (.tuple #[.slice a n cap, .bool false])) w2) := Lib.hid fun a n cap => .inr ⟨hn, _, _, _, rfl⟩
    clear hn hno
    go_wp2_with fail
    go_ret2
    exact ⟨F.out _ _ _, HB.out⟩
end Go.Proofs.YtdojgbpaheadnaaGreat
