/- An asker sends a copy back. -/
import Derived.Test.YtdojgbpaheadnaaGreatQAD
set_option linter.unusedVariables false
set_option linter.unusedSimpArgs false

namespace Go.Proofs.YtdojgbpaheadnaaGreat
open Go.RowKit Go.Shelf Go.Maps Go.ChangeMaps

set_option maxRecDepth 100000 in
set_option maxHeartbeats 4000000 in
theorem return_any (B b N : Nat) (s : Asr) (mv : Value) (n : Int) (w : World) (h : AMem w B b s mv N) (hB : B ≤ w.heap.size) (hN : N < 90000) (hn : I64 n) :
    Calls Tryz.prog 21 #[.pointer (some ⟨b, 0, none⟩), i64 n] w (AskE B b N s mv (s.ret n) w) := by
  have H := Lib.hid h
  have HB := Lib.hid hB
  have HN := Lib.hid hn
  have c3 : w.cell? ⟨b, 3, none⟩ = some mv := h.blk.cell 3
  have hlk := (h.look hn).1
  unfold rqV at hlk
  have hbl := h.blk.lt
  have HL := Lib.hid h.len
  have FN : RowKit.Hid (∀ c, s.ret n = ((s, []), c) → ∀ W, Below w.heap.size w W → AskE B b N s mv (s.ret n) w (.returned (.tuple #[.slice none 0 0, i64 c])) W) := Lib.hid fun c e W hW =>
    ⟨_, mv, by rw [e], by rw [e]; rfl, by rw [e]; exact (H.out.up hW).mono (Nat.le_succ _) (by omega), Tn.of_below hW, fun k h => .inl h⟩
  clear h hn hB
  cases hq : rq s.L n with
  | none =>
    rw [hq] at hlk
    have F := Lib.hid (FN.out 32 (by unfold Asr.ret; rw [hq]))
    clear hq
    go_enter Tryz.func21, Tryz.ntmps21
    go_wp2_with fail
    go_ret2
    exact F.out _ ((Below.refl _ _).alloc (Nat.le_refl _) _)
  | some q =>
    rw [rqAt_some hq, hq] at hlk
    obtain ⟨hqm, hqn⟩ := rq_some hq
    by_cases hst : q.st = 4
    · obtain ⟨mb, rfl⟩ : ∃ mb, mv = .map (some mb) := by
        rcases H.out.map with ⟨_, h⟩ | ⟨mb, _, _, h, _⟩
        · rw [h] at hq; cases hq
        · exact ⟨mb, h⟩
      have hmb := (H.out.own_lt (.inr rfl : OwnA b (.map (some mb)) mb)).2
      subst hqn
      have HQ := Lib.hid (H.out.ids.2.2 q hqm)
      have RES : RowKit.Hid (s.ret q.n = (({ s with L := setQ { q with st := 5 } s.L } : Asr).tell { q with st := 5 } 11, 0)) := Lib.hid (by
        unfold Asr.ret; rw [hq]; dsimp only; rw [if_neg (by rw [hst]; simp)])
      have HQQ := Lib.hid hq
      rw [hst] at hlk
      obtain ⟨g, hg⟩ : ∃ g, g = w.heap.size := ⟨_, rfl⟩
      obtain ⟨w1, hw1⟩ : ∃ w1, w1 = w.alloc (.cells #[i64 q.t, i64 5, i64 q.l] 130) := ⟨_, rfl⟩
      have G1 : RowKit.Hid (Blk w1 g #[i64 q.t, i64 5, i64 q.l] 130) := Lib.hid (by rw [hw1, hg]; exact Blk.new _ _ _)
      have B1 : RowKit.Hid (Below w.heap.size w w1) := Lib.hid (by rw [hw1]; exact (Below.refl _ _).alloc (Nat.le_refl _) _)
      have M1 := Lib.hid (H.out.up B1.out)
      have HG := Lib.hid hg
      have HW := Lib.hid hw1
      clear hq hst hqm hw1 hg
      go_enter Tryz.func21, Tryz.ntmps21
      go_wp2_with fail
      rw [← HG.out, ← HW.out]
      obtain ⟨S, hS⟩ : ∃ S : World → Prop, S = fun W => ∃ n, W = w1.drewN n := ⟨_, rfl⟩
      have LDD : RowKit.Hid (∀ W, S W → W.cell? ⟨b, 3, none⟩ = some (.map (some mb))) := Lib.hid (by rw [hS]; rintro W ⟨n, rfl⟩; exact M1.out.blk.cell 3)
      have LDB : RowKit.Hid (∀ W, S W → Blk W g #[i64 q.t, i64 5, i64 q.l] 130) := Lib.hid (by rw [hS]; rintro W ⟨n, rfl⟩; exact G1.out.drewN n)
      have SS : RowKit.Hid (∀ W, S W → ∃ n, W = w1.drewN n) := Lib.hid (by rw [hS]; exact fun W h => h)
      have hHeld : S w1.drew := by rw [hS]; exact ⟨1, rfl⟩
      clear hS c3 hlk
      refine wp_region_sp 6 S (by kernel_rfl) (by kernel_rfl) ?_
      simp only [List.take_succ_cons, List.take_zero]
      apply wpAnyH_apart S
      case take =>
        intro R hR
        refine wpAnyH_take (i := 0) (v := ?_) rfl (by kernel_rfl) (by kernel_rfl) (by kernel_rfl) (fun _ _ _ h => only_panic h) (Or.inl ⟨by rfl, ?_⟩) hHeld ?_
        rotate_left
        · (intro w hSw; have l0 := LDD.out w hSw; go_simp; try (with_reducible rfl))
        try simp only [gA, gB, gC, Act.put, gD, gE, gF]
        refine wpAnyH_take (i := 1) (v := ?_) rfl (by kernel_rfl) (by kernel_rfl) (by kernel_rfl) (fun _ _ _ h => only_panic h) (Or.inl ⟨by rfl, ?_⟩) hHeld ?_
        rotate_left
        · (intro w hSw; have l0 := LDD.out w hSw; go_simp; try (with_reducible rfl))
        try simp only [gA, gB, gC, Act.put, gD, gE, gF]
        refine wpAnyH_take (i := 2) (v := ?_) rfl (by kernel_rfl) (by kernel_rfl) (by kernel_rfl) (fun _ _ _ h => only_panic h) (Or.inl ⟨by rfl, ?_⟩) hHeld ?_
        rotate_left
        · (intro w hSw; have l0 := LDD.out w hSw; go_simp; try (with_reducible rfl))
        try simp only [gA, gB, gC, Act.put, gD, gE, gF]
        refine wpAnyH_take (i := 3) (v := ?_) rfl (by kernel_rfl) (by kernel_rfl) (by kernel_rfl) (fun _ _ _ h => only_panic h) (Or.inl ⟨by rfl, ?_⟩) hHeld ?_
        rotate_left
        · (intro w hSw; have l0 := LDD.out w hSw; go_simp; try (with_reducible rfl))
        try simp only [gA, gB, gC, Act.put, gD, gE, gF]
        refine wpAnyH_take (i := 4) (v := ?_) rfl (by kernel_rfl) (by kernel_rfl) (by kernel_rfl) (fun _ _ _ h => only_panic h) (Or.inl ⟨by rfl, ?_⟩) hHeld ?_
        rotate_left
        · (intro w hSw; have l0 := LDD.out w hSw; go_simp; try (with_reducible rfl))
        try simp only [gA, gB, gC, Act.put, gD, gE, gF]
        refine wpAnyH_take (i := 5) (v := .agg #[i64 q.t, i64 5, i64 q.l]) rfl (by kernel_rfl) (by kernel_rfl) (by kernel_rfl) (fun _ _ _ h => only_panic h) ?_ hHeld ?_
        · exact yields_row (.tmp 6) (by rfl) rfl rfl LDB.out Tryz.underlying130 rfl (by kernel_rfl)
        try simp only [gA, gB, gC, Act.put, gD, gE, gF]
        exact wpAnyH_done (by kernel_rfl) ⟨rfl, hR _ hHeld⟩ _
      intro W hW
      obtain ⟨n1, rfl⟩ := SS.out W hW
      have hx : rq s.L ({ q with st := 5 } : Rq).n = some q := HQQ.out
      obtain ⟨w5, hrun, hM5, hT5⟩ := (M1.out.drewN n1).put (q := { q with st := 5 }) (L' := setQ { q with st := 5 } s.L) (rq_set' hx) (set_sortedQ M1.out.inOrder) (fun y hy => by
        rcases set_memQ hy with rfl | hy
        · exact ⟨HQ.out.1, HQ.out.2.1, by dsimp only; omega, by dsimp only; omega, HQ.out.2.2.2.2⟩
        · exact M1.out.ids.2.2 y hy) HQ.out.1 (by rw [set_lenQ]; have := M1.out.len.1; omega) (by omega)
      have hrun' : (Instr.mapUpdate 53 (.map (some mb)) (i64 q.n) (.agg #[i64 q.t, i64 5, i64 q.l])).run Tryz.prog (w1.drewN n1) = .ok () w5 := hrun
      have M5 := Lib.hid hM5
      have T5 : RowKit.Hid (Tn (OwnA b (.map (some mb))) w w5) := Lib.hid ((Tn.of_below (bdrewN B1.out n1)).trans (hT5.mono fun k hk => .inr (by rw [hk])))
      simp only [endN, List.drop_succ_cons, List.drop_zero, Act.put, List.setIfInBounds_toArray, List.set_cons_zero, List.set_cons_succ]
      clear hHeld hW SS LDD LDB S hrun hM5 hT5
      go_wp2_with fail
      refine (tell_any B b (N + 1) { s with L := setQ { q with st := 5 } s.L } (.map (some mb)) q.n 11 { q with st := 5 } w5 M5.out (Nat.le_trans HB.out T5.out.size) ((rq_set' (q := { q with st := 5 }) hx q.n).trans (if_pos rfl)) (by have := M1.out.sent.2; show s.sent < 1000 * ((N + 1 : Nat) : Int); omega) HQ.out.1 ⟨by omega, by omega⟩).mono ?_
      rintro e w6 ⟨v6, rfl, hm6, hM6, hT6⟩
      have F : RowKit.Hid (AskE B b N s (.map (some mb)) (s.ret q.n) w (.returned (.tuple #[v6, i64 0])) w6) := Lib.hid (by
        rw [RES.out]
        exact ⟨v6, _, rfl, hm6.mono T5.out.size, hM6, T5.out.trans (hT6.mono fun k hk => .inl hk), fun k hk => .inl hk⟩)
      clear hm6 hM6 hT6 hrun'
      go_wp2_with fail
      go_ret2
      exact F.out
    · have F := Lib.hid (FN.out 50 (by unfold Asr.ret; rw [hq]; dsimp only; rw [if_pos hst]))
      have hst2 : (q.st != 4) = true := by simp [hst]
      clear hq hqm
      go_enter Tryz.func21, Tryz.ntmps21
      go_wp2_with fail
      go_ret2
      exact F.out _ ((Below.refl _ _).alloc (Nat.le_refl _) _)
end Go.Proofs.YtdojgbpaheadnaaGreat
