/- The reference's broker takes a message. -/
import Derived.Test.YtdojgbpaheadnaaGreatQHDa
import Derived.Test.YtdojgbpaheadnaaGreatQHDb
import Derived.Test.YtdojgbpaheadnaaGreatQHDc
import Derived.Test.YtdojgbpaheadnaaGreatQHDd
import Derived.Test.YtdojgbpaheadnaaGreatQHDe
set_option linter.unusedVariables false
set_option linter.unusedSimpArgs false

namespace Go.Proofs.YtdojgbpaheadnaaGreat
open Go.RowKit Go.Shelf Go.Maps

set_option maxRecDepth 100000 in
set_option maxHeartbeats 16000000 in
theorem rbtake_any (B rb N : Nat) (s : Brk) (rv lv : Value) (G : List CsN) (m : Msg) (w : World) (h : RBM w B rb s rv lv G N) (hN : N < 9000) (ht : m.text.length ≤ 1000000) :
    Calls Tryz.prog 17 #[.pointer (some ⟨rb, 0, none⟩), .agg (encM m)] w (RBTakeE B rb N s rv lv m w) := by
  obtain ⟨f, t, nn, y⟩ := m
  cases hd : dec y with
  | none =>
    have FN : RowKit.Hid (∀ W, Below w.heap.size w W → RBTakeE B rb N s rv lv ⟨f, t, nn, y⟩ w (.returned (.slice none 0 0)) W) := Lib.hid fun W hW =>
      ⟨_, lv, G, rfl, by rw [bTake_none (.inl hd)]; rfl, by rw [bTake_none (.inl hd)]; exact (h.up hW).mono (by omega) (by omega), Tn.of_below hW, fun k h => .inl h⟩
    have HN := Lib.hid hd
    clear h hd
    go_enter Tryz.func17, Tryz.ntmps17
    unfold encM
    go_wp2_with fail
    obtain ⟨mb, hmb⟩ : ∃ mb, mb = w.heap.size := ⟨_, rfl⟩
    obtain ⟨w1, hw1⟩ : ∃ w1, w1 = w.alloc (.cells #[i64 f, i64 t, i64 nn, strV y] 31) := ⟨_, rfl⟩
    have MB : RowKit.Hid (Blk w1 mb #[i64 f, i64 t, i64 nn, strV y] 31) := Lib.hid (by rw [hw1, hmb]; exact Blk.new _ _ _)
    have B1 : RowKit.Hid (Below w.heap.size w w1) := Lib.hid (by rw [hw1]; exact (Below.refl _ _).alloc (Nat.le_refl _) _)
    rw [← hw1, ← hmb]
    clear hw1 hmb
    have m3 : w1.cell? ⟨mb, 3, none⟩ = some (strV y) := MB.out.cell 3
    go_wp2_with fail
    refine (read2_any y w1 ht).mono ?_
    rintro e w2 ⟨hR, hb⟩
    have MB2 := Lib.hid (MB.out.below hb MB.out.lt)
    have B2 := Lib.hid (B1.out.trans (hb.mono B1.out.size))
    clear hb m3 MB B1
    rcases hR with ⟨q, b', o, cap, hd, -⟩ | ⟨hd, va, vn, vc, rfl⟩
    · rw [HN.out] at hd; cases hd
    · clear hd
      go_wp2_with fail
      go_quiet (fail)
      go_wp2_with fail
      go_ret
      exact FN.out _ (bdrewN B2.out _)
  | some q =>
    obtain ⟨k, a, r, v⟩ := q
    by_cases hto : t = s.id
    · subst hto
      cases hcs : cs s.L a r with
      | none =>
        by_cases hask : k = 1 ∧ f = a
        · exact rbtake_a B rb N s rv lv G f nn y k a r v w h hN ht hd hcs hask
        · exact rbtake_b B rb N s rv lv G f nn y k a r v w h hN ht hd hcs hask
      | some x =>
        by_cases ho : x.opn = true
        · by_cases h3 : k = 3
          · exact rbtake_c B rb N s rv lv G f nn y k a r v w h hN ht hd hcs ho h3
          · by_cases h4 : k = 4
            · exact rbtake_d B rb N s rv lv G f nn y k a r v w h hN ht hd hcs ho h4
            · exact rbtake_e B rb N s rv lv G f nn y k a r v w h hN ht hd hcs fun _ => ⟨h3, h4⟩
        · exact rbtake_e B rb N s rv lv G f nn y k a r v w h hN ht hd hcs fun e => absurd e ho
    · have FN : RowKit.Hid (∀ W, Below w.heap.size w W → RBTakeE B rb N s rv lv ⟨f, t, nn, y⟩ w (.returned (.slice none 0 0)) W) := Lib.hid fun W hW =>
        ⟨_, lv, G, rfl, by rw [bTake_none (.inr hto)]; rfl, by rw [bTake_none (.inr hto)]; exact (h.up hW).mono (by omega) (by omega), Tn.of_below hW, fun k h => .inl h⟩
      have HD := Lib.hid hd
      have H0 := Lib.hid h
      have hbl := h.blk.lt
      have hto' : (t != s.id) = true := by simpa using hto
      clear h hto hd
      go_enter Tryz.func17, Tryz.ntmps17
      unfold encM
      go_wp2_with fail
      obtain ⟨mb, hmb⟩ : ∃ mb, mb = w.heap.size := ⟨_, rfl⟩
      obtain ⟨w1, hw1⟩ : ∃ w1, w1 = w.alloc (.cells #[i64 f, i64 t, i64 nn, strV y] 31) := ⟨_, rfl⟩
      have MB : RowKit.Hid (Blk w1 mb #[i64 f, i64 t, i64 nn, strV y] 31) := Lib.hid (by rw [hw1, hmb]; exact Blk.new _ _ _)
      have B1 : RowKit.Hid (Below w.heap.size w w1) := Lib.hid (by rw [hw1]; exact (Below.refl _ _).alloc (Nat.le_refl _) _)
      rw [← hw1, ← hmb]
      clear hw1 hmb
      have m3 : w1.cell? ⟨mb, 3, none⟩ = some (strV y) := MB.out.cell 3
      go_wp2_with fail
      refine (read2_any y w1 ht).mono ?_
      rintro e w2 ⟨hR, hb⟩
      have MB2 := Lib.hid (MB.out.below hb MB.out.lt)
      have B2 := Lib.hid (B1.out.trans (hb.mono B1.out.size))
      clear hb m3 MB B1
      have M2 := Lib.hid (H0.out.up B2.out)
      have m1 : w2.cell? ⟨mb, 1, none⟩ = some (i64 t) := MB2.out.cell 1
      have i0 : w2.cell? ⟨rb, 0, none⟩ = some (i64 s.id) := M2.out.blk.cell 0
      rcases hR with ⟨q, b', o, cap, hd, rfl, hnb, hc1, hc2, -⟩ | ⟨hd, va, vn, vc, rfl⟩
      · clear hd
        go_wp2_with fail
        go_quiet (fail)
        go_wp2_with fail
        go_ret
        exact FN.out _ (bdrewN B2.out _)
      · rw [HD.out] at hd; cases hd
end Go.Proofs.YtdojgbpaheadnaaGreat
