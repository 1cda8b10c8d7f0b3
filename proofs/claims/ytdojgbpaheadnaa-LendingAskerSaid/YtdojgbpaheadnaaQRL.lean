/- The reference's texts and letters; its lender in memory. -/
import Derived.Test.YtdojgbpaheadnaaQRX
import Derived.Test.YtdojgbpaheadnaaQLG
set_option linter.unusedVariables false
set_option linter.unusedSimpArgs false

namespace Go.Proofs.Ytdojgbpaheadnaa
open Go.RowKit Go.Shelf Go.Maps

theorem text_any (k a r v : Int) (w : World) (hk : I64 k) (ha : I64 a) (hr : I64 r) (hv : I64 v) :
    Calls Try.prog 10 #[i64 k, i64 a, i64 r, i64 v] w fun e w' => e = .returned (strV (txt k a r v)) ∧ Below w.heap.size w w' := by
  have HQ : RowKit.Hid (Q4.ok (k, a, r, v)) := Lib.hid ⟨hk, ha, hr, hv⟩
  clear hk ha hr hv
  go_enter Try.func10, Try.ntmps10
  go_wp2_with fail
  refine (rints_any [k, a, r, v] (some ⟨w.heap.size, 0, none⟩) 4 (w.alloc (.cells #[i64 k, i64 a, i64 r, i64 v] 3)) (intsAt4 w k a r v _) (by simp) (by simp) (by omega) (q4_all.2 HQ.out)).mono ?_
  rintro e w1 ⟨rfl, hb⟩
  have B1 : RowKit.Hid (Below w.heap.size w w1) := Lib.hid (((Below.refl w.heap.size w).alloc (Nat.le_refl _) _).trans (hb.mono (by simp)))
  clear hb
  go_wp2_with fail
  go_ret
  exact ⟨rfl, B1.out⟩
/-- What reading four numbers yields. -/
def ReadE (s : List UInt8) (e : Ending) (w' : World) : Prop :=
  (∃ q b o cap, dec s = some q ∧ e = .returned (.tuple #[.slice (some ⟨b, o, none⟩) 4 cap, .bool true]) ∧ 4 ≤ cap ∧ cap ≤ 9223372036854775807 ∧ w'.cell? ⟨b, o, none⟩ = some (i64 q.1) ∧ w'.cell? ⟨b, o + 1, none⟩ = some (i64 q.2.1) ∧ w'.cell? ⟨b, o + 2, none⟩ = some (i64 q.2.2.1) ∧ w'.cell? ⟨b, o + 3, none⟩ = some (i64 q.2.2.2)) ∨
  dec s = none ∧ ∃ a n cap, e = .returned (.tuple #[.slice a n cap, .bool false])
set_option maxRecDepth 100000 in
theorem read_any (x : List UInt8) (w : World) (hs : x.length ≤ 1000000) : Calls Try.prog 46 #[strV x] w fun e w' => ReadE x e w' ∧ Below w.heap.size w w' := by
  have HS : (⟨x.toArray⟩ : ByteArray).size ≤ 1000000 := by show x.toArray.size ≤ _; simpa using hs
  go_enter Try.func46, Try.ntmps46
  go_wp2_with fail
  refine (rreadints_any ⟨x.toArray⟩ w HS).mono ?_
  rintro e w2 ⟨hR, hb⟩
  have HB := Lib.hid hb
  clear hb
  rcases hR with ⟨L, a, cap, rfl, hx, hin, hI, hc1, hc2, hc3⟩ | ⟨c, rfl, hc, hno⟩
  · by_cases hl : L.length = 4
    · obtain ⟨q, rfl⟩ := list4 hl
      have HD := Lib.hid (dec_some.2 ⟨q4_all.1 hin, hx⟩)
      have h4 : (q4 q).length = 4 := rfl
      obtain ⟨k, d, r, v⟩ := q
      rcases hI with h | ⟨b', o, rfl, hb', hc⟩
      · cases h
      have c0 : w2.cell? ⟨b', o, none⟩ = some (i64 k) := hc 0 (by rw [h4]; omega)
      have c1 : w2.cell? ⟨b', o + 1, none⟩ = some (i64 d) := hc 1 (by rw [h4]; omega)
      have c2 : w2.cell? ⟨b', o + 2, none⟩ = some (i64 r) := hc 2 (by rw [h4]; omega)
      have c3 : w2.cell? ⟨b', o + 3, none⟩ = some (i64 v) := hc 3 (by rw [h4]; omega)
      have F : RowKit.Hid (ReadE x (.returned (.tuple #[.slice (some ⟨b', o, none⟩) 4 cap, .bool true])) w2) := Lib.hid (.inl ⟨_, _, _, _, HD.out, rfl, hc1, hc2, c0, c1, c2, c3⟩)
      clear c0 c1 c2 c3 hc hx hin
      rw [h4]
      go_wp2_with fail
      go_ret2
      exact ⟨F.out, HB.out⟩
    · have e2 : ((L.length : Int) == 4) = false := by simp; omega
      have hn : dec x = none := dec_none.2 fun q _ e => hl (by rw [show x = ints L from hx] at e; rw [ints_inj e]; rfl)
      have F : RowKit.Hid (∀ a n cap, ReadE x (.returned (.tuple #[.slice a n cap, .bool false])) w2) := Lib.hid fun a n cap => .inr ⟨hn, _, _, _, rfl⟩
      have e1 : ¬ ((L.length : Int) = 4) := by omega
      clear hx hin hI hn
      go_wp2_with fail
      go_ret2
      exact ⟨F.out _ _ _, HB.out⟩
  · have hn : dec x = none := dec_none.2 fun q hq => hno _ (q4_all.2 hq)
    have F : RowKit.Hid (∀ a n cap, ReadE x (.returned (.tuple #[.slice a n cap, .bool false])) w2) := Lib.hid fun a n cap => .inr ⟨hn, _, _, _, rfl⟩
    clear hn hno
    go_wp2_with fail
    go_ret2
    exact ⟨F.out _ _ _, HB.out⟩
set_option maxRecDepth 100000 in
set_option maxHeartbeats 4000000 in
theorem rsend_any (b : Nat) (id sent to k a r t st : Int) (w : World) (h0 : w.cell? ⟨b, 0, none⟩ = some (i64 id)) (h1 : w.cell? ⟨b, 1, none⟩ = some (i64 sent)) (hf : w.frozen? ⟨b, 1, none⟩ = false) (hs : 0 ≤ sent ∧ sent < 1000000000)
    (hk : I64 k) (ha : I64 a) (hr : I64 r) :
    Calls Try.prog 48 #[.pointer (some ⟨b, 0, none⟩), i64 to, i64 k, .agg #[i64 a, i64 r, i64 t, i64 st]] w (SendE b id sent to k a r 0 w) := by
  have hbl := cell_lt h0
  have HQ : RowKit.Hid (I64 k ∧ I64 a ∧ I64 r) := Lib.hid ⟨hk, ha, hr⟩
  clear hk ha hr
  have hwr : IntKind.i64.wrap (sent + 1) = sent + 1 := by rw [IntKind.wrap_i64]; omega
  go_enter Try.func48, Try.ntmps48
  go_wp2_with fail
  obtain ⟨w0, hw0⟩ : ∃ w0, w0 = w.setCell ⟨b, 1, none⟩ (i64 (sent + 1)) := ⟨_, rfl⟩
  obtain ⟨W1, hW1⟩ : ∃ W1, W1 = w0.alloc (.cells #[i64 a, i64 r, i64 t, i64 st] 93) := ⟨_, rfl⟩
  have hz0 : w0.heap.size = w.heap.size := by rw [hw0]; simp
  have W0 := Lib.hid hw0
  have a0 : W1.cell? ⟨b, 0, none⟩ = some (i64 id) := by
    rw [hW1]; refine Below.cellE ((Below.refl w0.heap.size w0).alloc (Nat.le_refl _) _) ?_; rw [hw0]; exact (World.cell?_setCell_other (h := fun e => by injection e with _ e _; cases e) ..).trans h0
  have a1 : W1.cell? ⟨b, 1, none⟩ = some (i64 (sent + 1)) := by
    rw [hW1]; refine Below.cellE ((Below.refl w0.heap.size w0).alloc (Nat.le_refl _) _) ?_; rw [hw0]; exact World.cell?_setCell_same (h := h1) ..
  have DB : RowKit.Hid (Blk W1 w.heap.size #[i64 a, i64 r, i64 t, i64 st] 93) := Lib.hid (by rw [hW1]; exact Blk.at_new hz0.symm _ _)
  have B0 : RowKit.Hid (Below w0.heap.size w0 W1) := Lib.hid (by rw [hW1]; exact (Below.refl _ _).alloc (Nat.le_refl _) _)
  rw [← hw0, ← hW1]
  have hz1 : w.heap.size ≤ W1.heap.size := by rw [hW1, size_alloc]; omega
  obtain ⟨S, hS⟩ : ∃ S : World → Prop, S = fun W => Below W1.heap.size W1 W := ⟨_, rfl⟩
  have LD : RowKit.Hid (∀ W, S W → W.cell? ⟨b, 0, none⟩ = some (i64 id) ∧ W.cell? ⟨b, 1, none⟩ = some (i64 (sent + 1)) ∧ W.cell? ⟨w.heap.size, 0, none⟩ = some (i64 a) ∧ W.cell? ⟨w.heap.size, 1, none⟩ = some (i64 r)) := Lib.hid (by
    rw [hS]; intro W h; exact ⟨Below.cellE h a0, Below.cellE h a1, Below.cellE h (DB.out.cell 0), Below.cellE h (DB.out.cell 1)⟩)
  have SS : RowKit.Hid (∀ W, S W → Below W1.heap.size W1 W) := Lib.hid (by rw [hS]; exact fun W h => h)
  have UU : RowKit.Hid (∀ W, Below W1.heap.size W1 W → S W) := Lib.hid (by rw [hS]; exact fun W h => h)
  have hHeld := UU.out _ (Below.refl W1.heap.size W1).drew
  clear hS hW1 hw0 a0 a1 h0 h1 hf hwr hs
  refine wp_region_held_drew (S := S) (by kernel_rfl) hHeld (fun _ => ?_)
  apply wpAnyH_apart1 (fun g W => W1.heap.size ≤ g ∧ Blk W g (encM ⟨id, to, sent + 1, txt k a r 0⟩) 31 ∧ Below W1.heap.size W1 W)
  case take =>
    intro R hR
    refine wpAnyH_take (i := 0) (v := ?_) rfl (by kernel_rfl) (by kernel_rfl) (by kernel_rfl) (fun _ _ _ h => only_panic h) (Or.inl ⟨by rfl, ?_⟩) hHeld ?_
    rotate_left
    · (intro w hSw; obtain ⟨l0, l1, l2, l3⟩ := LD.out w hSw; go_simp; try (with_reducible rfl))
    try simp only [List.getElem_toArray, List.getElem_cons_succ, List.getElem_cons_zero, Act.put, List.setIfInBounds_toArray, List.set_cons_zero, List.set_cons_succ]
    refine wpAnyH_take (i := 1) (v := ?_) rfl (by kernel_rfl) (by kernel_rfl) (by kernel_rfl) (fun _ _ _ h => only_panic h) (Or.inl ⟨by rfl, ?_⟩) hHeld ?_
    rotate_left
    · (intro w hSw; obtain ⟨l0, l1, l2, l3⟩ := LD.out w hSw; go_simp; try (with_reducible rfl))
    try simp only [List.getElem_toArray, List.getElem_cons_succ, List.getElem_cons_zero, Act.put, List.setIfInBounds_toArray, List.set_cons_zero, List.set_cons_succ]
    refine wpAnyH_take (i := 2) (v := ?_) rfl (by kernel_rfl) (by kernel_rfl) (by kernel_rfl) (fun _ _ _ h => only_panic h) (Or.inl ⟨by rfl, ?_⟩) hHeld ?_
    rotate_left
    · (intro w hSw; obtain ⟨l0, l1, l2, l3⟩ := LD.out w hSw; go_simp; try (with_reducible rfl))
    try simp only [List.getElem_toArray, List.getElem_cons_succ, List.getElem_cons_zero, Act.put, List.setIfInBounds_toArray, List.set_cons_zero, List.set_cons_succ]
    refine wpAnyH_take (i := 3) (v := ?_) rfl (by kernel_rfl) (by kernel_rfl) (by kernel_rfl) (fun _ _ _ h => only_panic h) (Or.inl ⟨by rfl, ?_⟩) hHeld ?_
    rotate_left
    · (intro w hSw; obtain ⟨l0, l1, l2, l3⟩ := LD.out w hSw; go_simp; try (with_reducible rfl))
    try simp only [List.getElem_toArray, List.getElem_cons_succ, List.getElem_cons_zero, Act.put, List.setIfInBounds_toArray, List.set_cons_zero, List.set_cons_succ]
    refine wpAnyH_take (i := 4) (v := ?_) rfl (by kernel_rfl) (by kernel_rfl) (by kernel_rfl) (fun _ _ _ h => only_panic h) (Or.inl ⟨by rfl, ?_⟩) hHeld ?_
    rotate_left
    · (intro w hSw; obtain ⟨l0, l1, l2, l3⟩ := LD.out w hSw; go_simp; try (with_reducible rfl))
    try simp only [List.getElem_toArray, List.getElem_cons_succ, List.getElem_cons_zero, Act.put, List.setIfInBounds_toArray, List.set_cons_zero, List.set_cons_succ]
    refine wpAnyH_take (i := 5) (v := ?_) rfl (by kernel_rfl) (by kernel_rfl) (by kernel_rfl) (fun _ _ _ h => only_panic h) (Or.inl ⟨by rfl, ?_⟩) hHeld ?_
    rotate_left
    · (intro w hSw; obtain ⟨l0, l1, l2, l3⟩ := LD.out w hSw; go_simp; try (with_reducible rfl))
    try simp only [List.getElem_toArray, List.getElem_cons_succ, List.getElem_cons_zero, Act.put, List.setIfInBounds_toArray, List.set_cons_zero, List.set_cons_succ]
    refine wpAnyH_take (i := 6) (v := ?_) rfl (by kernel_rfl) (by kernel_rfl) (by kernel_rfl) (fun _ _ _ h => only_panic h) (Or.inl ⟨by rfl, ?_⟩) hHeld ?_
    rotate_left
    · (intro w hSw; obtain ⟨l0, l1, l2, l3⟩ := LD.out w hSw; go_simp; try (with_reducible rfl))
    try simp only [List.getElem_toArray, List.getElem_cons_succ, List.getElem_cons_zero, Act.put, List.setIfInBounds_toArray, List.set_cons_zero, List.set_cons_succ]
    refine wpAnyH_take (i := 7) (v := ?_) rfl (by kernel_rfl) (by kernel_rfl) (by kernel_rfl) (fun _ _ _ h => only_panic h) (Or.inl ⟨by rfl, ?_⟩) hHeld ?_
    rotate_left
    · (intro w hSw; obtain ⟨l0, l1, l2, l3⟩ := LD.out w hSw; go_simp; try (with_reducible rfl))
    try simp only [List.getElem_toArray, List.getElem_cons_succ, List.getElem_cons_zero, Act.put, List.setIfInBounds_toArray, List.set_cons_zero, List.set_cons_succ]
    refine wpAnyH_take (i := 8) (v := ?_) rfl (by kernel_rfl) (by kernel_rfl) (by kernel_rfl) (fun _ _ _ h => only_panic h) (Or.inl ⟨by rfl, ?_⟩) hHeld ?_
    rotate_left
    · (intro w hSw; obtain ⟨l0, l1, l2, l3⟩ := LD.out w hSw; go_simp; try (with_reducible rfl))
    try simp only [List.getElem_toArray, List.getElem_cons_succ, List.getElem_cons_zero, Act.put, List.setIfInBounds_toArray, List.set_cons_zero, List.set_cons_succ]
    refine wpAnyH_take (i := 9) (v := ?_) rfl (by kernel_rfl) (by kernel_rfl) (by kernel_rfl) (fun _ _ _ h => only_panic h) (Or.inl ⟨by rfl, ?_⟩) hHeld ?_
    rotate_left
    · (intro w hSw; obtain ⟨l0, l1, l2, l3⟩ := LD.out w hSw; go_simp; try (with_reducible rfl))
    try simp only [List.getElem_toArray, List.getElem_cons_succ, List.getElem_cons_zero, Act.put, List.setIfInBounds_toArray, List.set_cons_zero, List.set_cons_succ]
    refine wpAnyH_take (i := 10) (v := ?_) rfl (by kernel_rfl) (by kernel_rfl) (by kernel_rfl) (fun _ _ _ h => only_panic h) (Or.inl ⟨by rfl, ?_⟩) hHeld ?_
    rotate_left
    · (intro w hSw; obtain ⟨l0, l1, l2, l3⟩ := LD.out w hSw; go_simp; try (with_reducible rfl))
    try simp only [List.getElem_toArray, List.getElem_cons_succ, List.getElem_cons_zero, Act.put, List.setIfInBounds_toArray, List.set_cons_zero, List.set_cons_succ]
    refine wpAnyH_take (i := 11) (v := ?_) rfl (by kernel_rfl) (by kernel_rfl) (by kernel_rfl) (fun _ _ _ h => only_panic h) (Or.inl ⟨by rfl, ?_⟩) hHeld ?_
    rotate_left
    · (intro w hSw; obtain ⟨l0, l1, l2, l3⟩ := LD.out w hSw; go_simp; try (with_reducible rfl))
    try simp only [List.getElem_toArray, List.getElem_cons_succ, List.getElem_cons_zero, Act.put, List.setIfInBounds_toArray, List.set_cons_zero, List.set_cons_succ]
    refine wpAnyH_take (i := 12) (v := ?_) rfl (by kernel_rfl) (by kernel_rfl) (by kernel_rfl) (fun _ _ _ h => only_panic h) (Or.inl ⟨by rfl, ?_⟩) hHeld ?_
    rotate_left
    · (intro w hSw; obtain ⟨l0, l1, l2, l3⟩ := LD.out w hSw; go_simp; try (with_reducible rfl))
    try simp only [List.getElem_toArray, List.getElem_cons_succ, List.getElem_cons_zero, Act.put, List.setIfInBounds_toArray, List.set_cons_zero, List.set_cons_succ]
    refine wpAnyH_take (i := 13) (v := ?_) rfl (by kernel_rfl) (by kernel_rfl) (by kernel_rfl) (fun _ _ _ h => only_panic h) (Or.inl ⟨by rfl, ?_⟩) hHeld ?_
    rotate_left
    · (intro w hSw; obtain ⟨l0, l1, l2, l3⟩ := LD.out w hSw; go_simp; try (with_reducible rfl))
    try simp only [List.getElem_toArray, List.getElem_cons_succ, List.getElem_cons_zero, Act.put, List.setIfInBounds_toArray, List.set_cons_zero, List.set_cons_succ]
    refine wpAnyH_one (i := 14) rfl (by kernel_rfl) (by rfl) ?_
    go_simp
    refine (text_any k a r 0 _ HQ.out.1 HQ.out.2.1 HQ.out.2.2 ⟨by omega, by omega⟩).mono ?_
    rintro e W3 ⟨rfl, hb⟩
    have B3 := Lib.hid ((Below.refl W1.heap.size W1).drew.trans hb)
    have hHeld := UU.out _ B3.out
    clear hb
    refine ⟨hHeld, ?_⟩
    refine wpAnyH_take (i := 15) (v := ?_) rfl (by kernel_rfl) (by kernel_rfl) (by kernel_rfl) (fun _ _ _ h => only_panic h) (Or.inl ⟨by rfl, ?_⟩) hHeld ?_
    rotate_left
    · (intro w hSw; clear hSw; go_simp; try (with_reducible rfl))
    try simp only [List.getElem_toArray, List.getElem_cons_succ, List.getElem_cons_zero, Act.put, List.setIfInBounds_toArray, List.set_cons_zero, List.set_cons_succ]
    refine wpAnyH_one (i := 16) rfl (by kernel_rfl) (by rfl) ?_
    go_simp
    obtain ⟨W4, hW4⟩ : ∃ W4, W4 = W3.alloc (.cells #[i64 id, i64 to, i64 (sent + 1), strV (txt k a r 0)] 31) := ⟨_, rfl⟩
    have M4 : RowKit.Hid (Blk W4 W3.heap.size (encM ⟨id, to, sent + 1, txt k a r 0⟩) 31) := Lib.hid (by rw [hW4]; exact Blk.new _ _ _)
    have B4 : RowKit.Hid (Below W1.heap.size W1 W4) := Lib.hid (by rw [hW4]; exact B3.out.alloc B3.out.size _)
    have hz3 := B3.out.size
    obtain ⟨g, hg⟩ : ∃ g, g = W3.heap.size := ⟨_, rfl⟩
    rw [← hg] at M4 hz3
    rw [← hW4, ← hg]
    clear hW4 hg
    have hHeld := UU.out _ B4.out
    refine ⟨hHeld, ?_⟩
    refine wpAnyH_take (i := 17) (v := ?_) rfl (by kernel_rfl) (by kernel_rfl) (by kernel_rfl) (fun _ _ _ h => only_panic h) (Or.inl ⟨by rfl, ?_⟩) hHeld ?_
    rotate_left
    · (intro w hSw; clear hSw; go_simp; try (with_reducible rfl))
    try simp only [List.getElem_toArray, List.getElem_cons_succ, List.getElem_cons_zero, Act.put, List.setIfInBounds_toArray, List.set_cons_zero, List.set_cons_succ]
    exact wpAnyH_done (by kernel_rfl) ⟨rfl, hR _ _ ⟨hz3, M4.out, B4.out⟩⟩ _
  case rest =>
    rintro g W ⟨hg, hM, hB⟩
    have F : RowKit.Hid (SendE b id sent to k a r 0 w (.returned (.slice (some ⟨g, 0, none⟩) 1 1)) W) := Lib.hid ⟨g, rfl, by omega, hM, by rw [← W0.out]; exact (B0.out.trans (hB.mono B0.out.size)).mono (by omega)⟩
    go_wp2_with fail
    go_ret
    exact F.out
end Go.Proofs.Ytdojgbpaheadnaa
