/- The reference's asker: Return, Here, new. -/
import Derived.Test.YtdojgbpaheadnaaQKA
import Derived.Test.YtdojgbpaheadnaaQAC
import Derived.Test.YtdojgbpaheadnaaQRN
set_option linter.unusedVariables false
set_option linter.unusedSimpArgs false

namespace Go.Proofs.Ytdojgbpaheadnaa
open Go.RowKit Go.Shelf Go.Maps

def RAskE (B rb N : Nat) (s : Asr) (lv : Value) (r : (Asr × List Msg) × Int) (w : World) (e : Ending) (w' : World) : Prop :=
  ∃ v lv', e = .returned (.tuple #[v, i64 r.2]) ∧ MsgsAt w' w.heap.size v r.1.2 ∧ RAM w' B rb r.1.1 lv' (N + 1) ∧ Tn (OwnRA rb lv) w w' ∧ ∀ k, OwnRA rb lv' k → OwnRA rb lv k ∨ w.heap.size ≤ k
theorem rask_none {B rb N : Nat} {s : Asr} {lv : Value} {r : (Asr × List Msg) × Int} {w : World} (h : RAM w B rb s lv N) (hN : N < 9000) {c : Int} (hr : r = ((s, []), c)) {W : World} (hW : Below w.heap.size w W) : RAskE B rb N s lv r w (.returned (.tuple #[.slice none 0 0, i64 c])) W := by
  subst hr
  exact ⟨_, lv, rfl, rfl, (h.up hW).mono (by omega) (by omega), Tn.of_below hW, fun k hk => .inl hk⟩
theorem msgs_new (w : World) (m : Msg) {B : Nat} (hB : B ≤ w.heap.size) : MsgsAt (w.alloc (.cells (encM m) 31)) B (.slice (some ⟨w.heap.size, 0, none⟩) 1 1) [m] := ⟨_, hB, rfl, Blk.new _ _ _⟩
set_option maxRecDepth 100000 in
set_option maxHeartbeats 4000000 in
theorem rret_any (B rb N : Nat) (s : Asr) (lv : Value) (n : Int) (w : World) (h : RAM w B rb s lv N) (hN : N < 9000) :
    Calls Try.prog 23 #[.pointer (some ⟨rb, 0, none⟩), i64 n] w (RAskE B rb N s lv (s.ret n) w) := by
  obtain ⟨la, lcap, hlv, ld1, ld2, -, hlc⟩ := row_cellz h.reqs
  have hlcap : lcap ≤ 9223372036854775807 := by unfold maxLen at ld2; omega
  have H := Lib.hid h
  have HLV := Lib.hid hlv
  have HLC := Lib.hid hlc
  have hbl := h.blk.lt
  have c3 : w.cell? ⟨rb, 3, none⟩ = some (.slice la s.L.length lcap) := (h.blk.cell 3).trans (congrArg some hlv)
  clear h ld2 hlc hlv
  go_enter Try.func23, Try.ntmps23
  go_wp2_with fail
  refine (rfind_any B rb N s lv n w H.out).mono ?_
  rintro e w1 ⟨rfl, ⟨rfl, hn⟩ | ⟨j, q, rfl, hj, hq, hqn⟩⟩
  · have F := Lib.hid (rask_none H.out hN (r := s.ret n) (c := 32) (by unfold Asr.ret; rw [hn]) (Below.refl _ w1))
    clear hn
    go_wp2_with fail
    go_ret2
    exact F.out
  · have hlt := (List.getElem?_eq_some_iff.1 hj).1
    obtain ⟨g, rfl, -⟩ := HLC.out.resolve_left (fun h => by omega)
    have HD := Lib.hid hj
    have HQ := Lib.hid hq
    have hj0 : ¬ (j : Int) < 0 := by omega
    obtain ⟨d0, d1, d2, d3⟩ := H.out.req hj HLV.out
    by_cases hst : q.st = 4
    · have HT : RowKit.Hid (s.ret n = (({ s with L := setQ { q with st := 5 } s.L } : Asr).tell { q with st := 5 } 11, 0)) := Lib.hid (by unfold Asr.ret; rw [hq]; dsimp only; rw [if_neg (by rw [hst]; simp)])
      rw [hst] at d2
      clear hj hq hqn
      obtain ⟨hn0, ht0, -, -, hl0⟩ := H.out.ids.2.2 q (List.mem_of_getElem? HD.out)
      obtain ⟨M2, T2⟩ := H.out.change (q' := { q with st := 5 }) (i := 2) (v := i64 5) HD.out rfl HLV.out (by omega) rfl ⟨hn0, ht0, by dsimp only; omega, by dsimp only; omega, hl0⟩
      have fd := World.ownsRow.frozenAt (HLV.out ▸ H.out.reqs) (j * 4 + 2)
      go_wp2_with fail
      obtain ⟨w2, hw2⟩ : ∃ w2, w2 = w1.setCell ⟨g, j * 4 + 2, none⟩ (i64 5) := ⟨_, rfl⟩
      rw [← hw2] at M2 T2 ⊢
      have M2 := Lib.hid (M2.mono (Nat.le_succ N) (by omega))
      have T2 := Lib.hid T2
      have HJ : RowKit.Hid ((setQ { q with st := 5 } s.L)[j]? = some { q with st := 5 }) := Lib.hid (by
        rw [setQ_at (q' := { q with st := 5 }) H.out.inOrder HD.out rfl, List.getElem?_set_self hlt])
      have HL2 : RowKit.Hid ((setQ { q with st := 5 } s.L).length = s.L.length) := Lib.hid (set_lenQ _ _)
      clear hw2 fd d0 d1 d2 d3 c3
      obtain ⟨S, hS⟩ : ∃ S : World → Prop, S = fun W => RAM W B rb { s with L := setQ { q with st := 5 } s.L } lv (N + 1) ∨ RAM W B rb { s with L := setQ { q with st := 5 } s.L, sent := s.sent + 1 } lv (N + 1) := ⟨_, rfl⟩
      have LD : RowKit.Hid (∀ W, S W → W.cell? ⟨rb, 3, none⟩ = some (.slice (some ⟨g, 0, none⟩) s.L.length lcap) ∧ W.cell? ⟨g, j * 4, none⟩ = some (i64 q.n) ∧ W.cell? ⟨g, j * 4 + 1, none⟩ = some (i64 q.t) ∧ W.cell? ⟨g, j * 4 + 2, none⟩ = some (i64 5) ∧ W.cell? ⟨g, j * 4 + 3, none⟩ = some (i64 q.l)) := Lib.hid (by
        rw [hS]
        rintro W (h | h)
        · exact ⟨(h.blk.cell 3).trans (congrArg some HLV.out), h.req HJ.out HLV.out⟩
        · exact ⟨(h.blk.cell 3).trans (congrArg some HLV.out), h.req HJ.out HLV.out⟩)
      have UU : RowKit.Hid (∀ W, RAM W B rb { s with L := setQ { q with st := 5 } s.L } lv (N + 1) → S W) := Lib.hid (by rw [hS]; exact fun W h => .inl h)
      have UV : RowKit.Hid (∀ W, RAM W B rb { s with L := setQ { q with st := 5 } s.L, sent := s.sent + 1 } lv (N + 1) → S W) := Lib.hid (by rw [hS]; exact fun W h => .inr h)
      have hHeld := UU.out _ (M2.out.up (Below.refl w2.heap.size w2).drew)
      clear hS
      obtain ⟨⟨mf, mt, mn, mx⟩, hm⟩ : ∃ m, m = rmsg { s with L := setQ { q with st := 5 } s.L } q.l 11 { q with st := 5 } := ⟨_, rfl⟩
      have HMM := Lib.hid hm
      have HM : RowKit.Hid (s.ret n = (({ s with L := setQ { q with st := 5 } s.L, sent := s.sent + 1 }, [⟨mf, mt, mn, mx⟩]), 0)) := Lib.hid (by rw [HT.out, hm]; rfl)
      clear hm
      refine wp_region_held_drew (S := S) (by kernel_rfl) hHeld (fun _ => ?_)
      apply wpAnyH_apart1 (fun g W => RAskE B rb N s lv (s.ret n) w1 (.returned (.tuple #[.slice (some ⟨g, 0, none⟩) 1 1, i64 0])) W)
      case take =>
        intro R hR
        refine wpAnyH_take (i := 0) (v := ?_) rfl (by kernel_rfl) (by kernel_rfl) (by kernel_rfl) (fun _ _ _ h => only_panic h) (Or.inl ⟨by rfl, ?_⟩) hHeld ?_
        rotate_left
        · (intro w hSw; obtain ⟨l0, l1, l2, l3, l4⟩ := LD.out w hSw; go_simp; try (with_reducible rfl))
        try simp only [List.getElem_toArray, List.getElem_cons_succ, List.getElem_cons_zero, Act.put, List.setIfInBounds_toArray, List.set_cons_zero, List.set_cons_succ]
        refine wpAnyH_take (i := 1) (v := ?_) rfl (by kernel_rfl) (by kernel_rfl) (by kernel_rfl) (fun _ _ _ h => only_panic h) (Or.inl ⟨by rfl, ?_⟩) hHeld ?_
        rotate_left
        · (intro w hSw; obtain ⟨l0, l1, l2, l3, l4⟩ := LD.out w hSw; go_simp; try (with_reducible rfl))
        try simp only [List.getElem_toArray, List.getElem_cons_succ, List.getElem_cons_zero, Act.put, List.setIfInBounds_toArray, List.set_cons_zero, List.set_cons_succ]
        refine wpAnyH_take (i := 2) (v := ?_) rfl (by kernel_rfl) (by kernel_rfl) (by kernel_rfl) (fun _ _ _ h => only_panic h) (Or.inl ⟨by rfl, ?_⟩) hHeld ?_
        rotate_left
        · (intro w hSw; obtain ⟨l0, l1, l2, l3, l4⟩ := LD.out w hSw; go_simp; try (with_reducible rfl))
        try simp only [List.getElem_toArray, List.getElem_cons_succ, List.getElem_cons_zero, Act.put, List.setIfInBounds_toArray, List.set_cons_zero, List.set_cons_succ]
        refine wpAnyH_take (i := 3) (v := ?_) rfl (by kernel_rfl) (by kernel_rfl) (by kernel_rfl) (fun _ _ _ h => only_panic h) (Or.inl ⟨by rfl, ?_⟩) hHeld ?_
        rotate_left
        · (intro w hSw; obtain ⟨l0, l1, l2, l3, l4⟩ := LD.out w hSw; go_simp; try (with_reducible rfl))
        try simp only [List.getElem_toArray, List.getElem_cons_succ, List.getElem_cons_zero, Act.put, List.setIfInBounds_toArray, List.set_cons_zero, List.set_cons_succ]
        refine wpAnyH_take (i := 4) (v := ?_) rfl (by kernel_rfl) (by kernel_rfl) (by kernel_rfl) (fun _ _ _ h => only_panic h) (Or.inl ⟨by rfl, ?_⟩) hHeld ?_
        rotate_left
        · (intro w hSw; obtain ⟨l0, l1, l2, l3, l4⟩ := LD.out w hSw; go_simp; try (with_reducible rfl))
        try simp only [List.getElem_toArray, List.getElem_cons_succ, List.getElem_cons_zero, Act.put, List.setIfInBounds_toArray, List.set_cons_zero, List.set_cons_succ]
        refine wpAnyH_take (i := 5) (v := ?_) rfl (by kernel_rfl) (by kernel_rfl) (by kernel_rfl) (fun _ _ _ h => only_panic h) (Or.inl ⟨by rfl, ?_⟩) hHeld ?_
        rotate_left
        · (intro w hSw; obtain ⟨l0, l1, l2, l3, l4⟩ := LD.out w hSw; go_simp; try (with_reducible rfl))
        try simp only [List.getElem_toArray, List.getElem_cons_succ, List.getElem_cons_zero, Act.put, List.setIfInBounds_toArray, List.set_cons_zero, List.set_cons_succ]
        refine wpAnyH_take (i := 6) (v := ?_) rfl (by kernel_rfl) (by kernel_rfl) (by kernel_rfl) (fun _ _ _ h => only_panic h) (Or.inl ⟨by rfl, ?_⟩) hHeld ?_
        rotate_left
        · (intro w hSw; obtain ⟨l0, l1, l2, l3, l4⟩ := LD.out w hSw; go_simp; try (with_reducible rfl))
        try simp only [List.getElem_toArray, List.getElem_cons_succ, List.getElem_cons_zero, Act.put, List.setIfInBounds_toArray, List.set_cons_zero, List.set_cons_succ]
        refine wpAnyH_take (i := 7) (v := ?_) rfl (by kernel_rfl) (by kernel_rfl) (by kernel_rfl) (fun _ _ _ h => only_panic h) (Or.inl ⟨by rfl, ?_⟩) hHeld ?_
        rotate_left
        · (intro w hSw; obtain ⟨l0, l1, l2, l3, l4⟩ := LD.out w hSw; go_simp; try (with_reducible rfl))
        try simp only [List.getElem_toArray, List.getElem_cons_succ, List.getElem_cons_zero, Act.put, List.setIfInBounds_toArray, List.set_cons_zero, List.set_cons_succ]
        refine wpAnyH_take (i := 8) (v := ?_) rfl (by kernel_rfl) (by kernel_rfl) (by kernel_rfl) (fun _ _ _ h => only_panic h) (Or.inl ⟨by rfl, ?_⟩) hHeld ?_
        rotate_left
        · (intro w hSw; obtain ⟨l0, l1, l2, l3, l4⟩ := LD.out w hSw; go_simp; try (with_reducible rfl))
        try simp only [List.getElem_toArray, List.getElem_cons_succ, List.getElem_cons_zero, Act.put, List.setIfInBounds_toArray, List.set_cons_zero, List.set_cons_succ]
        refine wpAnyH_take (i := 9) (v := ?_) rfl (by kernel_rfl) (by kernel_rfl) (by kernel_rfl) (fun _ _ _ h => only_panic h) (Or.inl ⟨by rfl, ?_⟩) hHeld ?_
        rotate_left
        · (intro w hSw; obtain ⟨l0, l1, l2, l3, l4⟩ := LD.out w hSw; go_simp; try (with_reducible rfl))
        try simp only [List.getElem_toArray, List.getElem_cons_succ, List.getElem_cons_zero, Act.put, List.setIfInBounds_toArray, List.set_cons_zero, List.set_cons_succ]
        refine wpAnyH_take (i := 10) (v := ?_) rfl (by kernel_rfl) (by kernel_rfl) (by kernel_rfl) (fun _ _ _ h => only_panic h) (Or.inl ⟨by rfl, ?_⟩) hHeld ?_
        rotate_left
        · (intro w hSw; obtain ⟨l0, l1, l2, l3, l4⟩ := LD.out w hSw; go_simp; try (with_reducible rfl))
        try simp only [List.getElem_toArray, List.getElem_cons_succ, List.getElem_cons_zero, Act.put, List.setIfInBounds_toArray, List.set_cons_zero, List.set_cons_succ]
        refine wpAnyH_take (i := 11) (v := ?_) rfl (by kernel_rfl) (by kernel_rfl) (by kernel_rfl) (fun _ _ _ h => only_panic h) (Or.inl ⟨by rfl, ?_⟩) hHeld ?_
        rotate_left
        · (intro w hSw; obtain ⟨l0, l1, l2, l3, l4⟩ := LD.out w hSw; go_simp; try (with_reducible rfl))
        try simp only [List.getElem_toArray, List.getElem_cons_succ, List.getElem_cons_zero, Act.put, List.setIfInBounds_toArray, List.set_cons_zero, List.set_cons_succ]
        refine wpAnyH_take (i := 12) (v := ?_) rfl (by kernel_rfl) (by kernel_rfl) (by kernel_rfl) (fun _ _ _ h => only_panic h) (Or.inl ⟨by rfl, ?_⟩) hHeld ?_
        rotate_left
        · (intro w hSw; obtain ⟨l0, l1, l2, l3, l4⟩ := LD.out w hSw; go_simp; try (with_reducible rfl))
        try simp only [List.getElem_toArray, List.getElem_cons_succ, List.getElem_cons_zero, Act.put, List.setIfInBounds_toArray, List.set_cons_zero, List.set_cons_succ]
        refine wpAnyH_take (i := 13) (v := ?_) rfl (by kernel_rfl) (by kernel_rfl) (by kernel_rfl) (fun _ _ _ h => only_panic h) (Or.inl ⟨by rfl, ?_⟩) hHeld ?_
        rotate_left
        · (intro w hSw; obtain ⟨l0, l1, l2, l3, l4⟩ := LD.out w hSw; go_simp; try (with_reducible rfl))
        try simp only [List.getElem_toArray, List.getElem_cons_succ, List.getElem_cons_zero, Act.put, List.setIfInBounds_toArray, List.set_cons_zero, List.set_cons_succ]
        refine wpAnyH_take (i := 14) (v := ?_) rfl (by kernel_rfl) (by kernel_rfl) (by kernel_rfl) (fun _ _ _ h => only_panic h) (Or.inl ⟨by rfl, ?_⟩) hHeld ?_
        rotate_left
        · (intro w hSw; obtain ⟨l0, l1, l2, l3, l4⟩ := LD.out w hSw; go_simp; try (with_reducible rfl))
        try simp only [List.getElem_toArray, List.getElem_cons_succ, List.getElem_cons_zero, Act.put, List.setIfInBounds_toArray, List.set_cons_zero, List.set_cons_succ]
        refine wpAnyH_take (i := 15) (v := ?_) rfl (by kernel_rfl) (by kernel_rfl) (by kernel_rfl) (fun _ _ _ h => only_panic h) (Or.inl ⟨by rfl, ?_⟩) hHeld ?_
        rotate_left
        · (intro w hSw; obtain ⟨l0, l1, l2, l3, l4⟩ := LD.out w hSw; go_simp; try (with_reducible rfl))
        try simp only [List.getElem_toArray, List.getElem_cons_succ, List.getElem_cons_zero, Act.put, List.setIfInBounds_toArray, List.set_cons_zero, List.set_cons_succ]
        refine wpAnyH_one (i := 16) rfl (by kernel_rfl) (by rfl) ?_
        go_simp
        have key := rsendA (M2.out.up (Below.refl w2.heap.size w2).drew) (by have := H.out.sent.2; show s.sent < 1000 * ((N + 1 : Nat) : Int); omega) q.l 11 { q with st := 5 } ⟨by omega, by omega⟩ hn0 ht0
        rw [← HMM.out, show encM ⟨mf, mt, mn, mx⟩ = #[i64 mf, i64 mt, i64 mn, strV mx] from rfl] at key
        refine key.mono ?_
        clear key
        rintro e w3 ⟨rfl, hM3, hT3⟩
        have M3 := Lib.hid hM3
        have T3 : RowKit.Hid (Tn (OwnRA rb lv) w1 w3) := Lib.hid ((T2.out.mono fun k hk => .inr hk).trans ((Tn.of_below (Below.refl w2.heap.size w2).drew).trans (hT3.mono fun k hk => .inl hk)))
        clear hM3 hT3
        refine ⟨UV.out _ M3.out, ?_⟩
        refine wpAnyH_one (i := 17) rfl (by kernel_rfl) (by rfl) ?_
        go_simp
        obtain ⟨w4, hw4⟩ : ∃ w4, w4 = w3.alloc (.cells #[i64 mf, i64 mt, i64 mn, strV mx] 31) := ⟨_, rfl⟩
        obtain ⟨g4, hg4⟩ : ∃ g4, g4 = w3.heap.size := ⟨_, rfl⟩
        have B4 : RowKit.Hid (Below w3.heap.size w3 w4) := Lib.hid (by rw [hw4]; exact (Below.refl _ _).alloc (Nat.le_refl _) _)
        have F : RowKit.Hid (RAskE B rb N s lv (s.ret n) w1 (.returned (.tuple #[.slice (some ⟨g4, 0, none⟩) 1 1, i64 0])) w4) := Lib.hid (by
          rw [HM.out]
          exact ⟨_, lv, rfl, by rw [hw4, hg4]; exact msgs_new w3 ⟨mf, mt, mn, mx⟩ T3.out.size, M3.out.up B4.out, T3.out.trans (Tn.of_below B4.out), fun k hk => .inl hk⟩)
        rw [← hw4, ← hg4]
        clear hw4 hg4
        have hHeld := UV.out _ (M3.out.up B4.out)
        refine ⟨hHeld, ?_⟩
        refine wpAnyH_take (i := 18) (v := ?_) rfl (by kernel_rfl) (by kernel_rfl) (by kernel_rfl) (fun _ _ _ h => only_panic h) (Or.inl ⟨by rfl, ?_⟩) hHeld ?_
        rotate_left
        · (intro w hSw; clear hSw; go_simp; try (with_reducible rfl))
        try simp only [List.getElem_toArray, List.getElem_cons_succ, List.getElem_cons_zero, Act.put, List.setIfInBounds_toArray, List.set_cons_zero, List.set_cons_succ]
        refine wpAnyH_take (i := 19) (v := ?_) rfl (by kernel_rfl) (by kernel_rfl) (by kernel_rfl) (fun _ _ _ h => only_panic h) (Or.inl ⟨by rfl, ?_⟩) hHeld ?_
        rotate_left
        · (intro w hSw; clear hSw; go_simp; try (with_reducible rfl))
        try simp only [List.getElem_toArray, List.getElem_cons_succ, List.getElem_cons_zero, Act.put, List.setIfInBounds_toArray, List.set_cons_zero, List.set_cons_succ]
        exact wpAnyH_done (by kernel_rfl) ⟨rfl, hR _ _ F.out⟩ _
      case rest =>
        rintro g4 W hF
        have F := Lib.hid hF
        clear hF
        go_wp2_with fail
        go_ret2
        exact F.out
    · have F := Lib.hid (rask_none H.out hN (r := s.ret n) (c := 50) (by unfold Asr.ret; rw [hq]; dsimp only; rw [if_pos hst]) (Below.refl _ w1))
      clear hj hq hqn
      go_wp2_with fail
      go_ret2
      exact F.out
set_option maxRecDepth 100000 in
theorem rnewA_any (id cap : Int) (hid : I64 id) (hcap : I64 cap) (w : World) :
    Calls Try.prog 19 #[i64 id, i64 cap] w fun e w' => e = .returned (.pointer (some ⟨w.heap.size, 0, none⟩)) ∧ RAM w' w.heap.size w.heap.size ⟨id, cap, 0, []⟩ (.slice none 0 0) 0 ∧ Below w.heap.size w w' := by
  have B2 : RowKit.Hid (Below w.heap.size w (w.alloc (.cells #[i64 id, i64 cap, i64 0, .slice none 0 0] 102))) := Lib.hid ((Below.refl _ _).alloc (Nat.le_refl _) _)
  have M2 : RowKit.Hid (RAM (w.alloc (.cells #[i64 id, i64 cap, i64 0, .slice none 0 0] 102)) w.heap.size w.heap.size ⟨id, cap, 0, []⟩ (.slice none 0 0) 0) := Lib.hid
    ⟨Blk.new _ _ _, World.ownsRow_nil _ _ _ _, by simp [Value.ownBlock], Nat.le_refl _, ⟨by dsimp only; omega, by dsimp only; omega⟩, ⟨hid, hcap, fun q hq => by cases hq⟩, List.Pairwise.nil, ⟨Nat.le_refl _, by omega⟩⟩
  go_enter Try.func19, Try.ntmps19
  go_wp2_with fail
  go_ret
  exact ⟨rfl, M2.out, B2.out⟩
end Go.Proofs.Ytdojgbpaheadnaa

/- The reference's asker: what is here. -/
namespace Go.Proofs.Ytdojgbpaheadnaa
open Go.RowKit Go.Shelf Go.Maps

def hereL (L : List Rq) : List Int := (L.filter fun q => decide (q.st = 4)).map Rq.t
theorem hereL_len (L : List Rq) : (hereL L).length ≤ L.length := by unfold hereL; rw [List.length_map]; exact List.length_filter_le _ _
theorem hereL_snoc (L : List Rq) (q : Rq) : hereL (L ++ [q]) = hereL L ++ if q.st = 4 then [q.t] else [] := by
  unfold hereL
  rw [List.filter_append, List.map_append]
  by_cases h : q.st = 4 <;> simp [h]
set_option maxRecDepth 100000 in
set_option maxHeartbeats 4000000 in
theorem rhereA_any (B rb N : Nat) (s : Asr) (lv : Value) (w : World) (h : RAM w B rb s lv N) :
    Calls Try.prog 32 #[.pointer (some ⟨rb, 0, none⟩)] w fun e w' => ∃ v, e = .returned v ∧ w'.ownsRow w.heap.size 3 1 v s.here.length (s.here.map (Value.int .i64)) ∧ Below w.heap.size w w' := by
  obtain ⟨la, lcap, hlv, ld1, ld2, -, hlc⟩ := row_cellz h.reqs
  have hlcap : lcap ≤ 9223372036854775807 := by unfold maxLen at ld2; omega
  have H := Lib.hid h
  have HLV := Lib.hid hlv
  have HLC := Lib.hid hlc
  have hbl := h.blk.lt
  have HLN : RowKit.Hid (s.L.length ≤ 10000) := Lib.hid (by have := h.len; omega)
  clear h ld2 hlc hlv
  go_enter Try.func32, Try.ntmps32
  go_wp2_with fail
  go_loopw [3, 4] (fun v i wr => ∃ (k : Nat) (lv2 : Value), k ≤ s.L.length ∧ i = .int .i64 k ∧ lv2 = v ∧ wr.ownsRow w.heap.size 3 1 lv2 (insAll (hereL (s.L.take k))).length ((insAll (hereL (s.L.take k))).map (Value.int .i64)) ∧ Below w.heap.size w wr) (fun _ i _ => s.L.length - (intOf i).toNat)
  case atStart => exact ⟨0, _, Nat.zero_le _, rfl, rfl, World.ownsRow_nil _ _ _ _, Below.refl _ _⟩
  case round =>
    obtain ⟨k, v, hk, rfl, rfl, hr, hb⟩ := hrel
    have R := Lib.hid hr
    have BB := Lib.hid hb
    clear hr hb
    obtain ⟨va, vc, hv, -⟩ := row_cellz R.out
    have c3 : wr.cell? ⟨rb, 3, none⟩ = some (.slice la s.L.length lcap) := ((H.out.up BB.out).blk.cell 3).trans (congrArg some HLV.out)
    by_cases hlt : k < s.L.length
    · obtain ⟨g, rfl, -⟩ := HLC.out.resolve_left (fun h => by omega)
      obtain ⟨d, hd⟩ : ∃ d, s.L[k]? = some d := ⟨_, List.getElem?_eq_getElem hlt⟩
      obtain ⟨-, d1, d2, -⟩ := (H.out.up BB.out).req hd HLV.out
      have HS : RowKit.Hid (hereL (s.L.take (k + 1)) = hereL (s.L.take k) ++ if d.st = 4 then [d.t] else []) := Lib.hid (by
        rw [← hereL_snoc, List.take_add_one, hd]; rfl)
      have HN2 : RowKit.Hid ((insAll (hereL (s.L.take k))).length ≤ 100000) := Lib.hid (by
        rw [insAll_len]; have := hereL_len (s.L.take k); rw [List.length_take] at this; have := HLN.out; omega)
      clear hd hv
      obtain ⟨H0, hH0⟩ : ∃ H0, H0 = insAll (hereL (s.L.take k)) := ⟨_, rfl⟩
      rw [← hH0] at R HN2
      by_cases h4 : d.st = 4
      · have HI : RowKit.Hid (insAll (hereL (s.L.take (k + 1))) = ins d.t H0) := Lib.hid (by
          rw [HS.out, if_pos h4, insAll_snoc, hH0])
        rw [h4] at d2
        clear hH0
        go_wp2_with fail
        refine (insert_any d.t R.out HN2.out).mono ?_
        rintro e w2 ⟨v2, rfl, hr2, hb2⟩
        have R2 : RowKit.Hid (w2.ownsRow w.heap.size 3 1 v2 (insAll (hereL (s.L.take (k + 1)))).length ((insAll (hereL (s.L.take (k + 1)))).map (Value.int .i64))) := Lib.hid (by rw [HI.out]; exact row_mono hr2 BB.out.size)
        have B2 : RowKit.Hid (Below w.heap.size w w2) := Lib.hid (BB.out.trans (hb2.mono BB.out.size))
        clear hr2 hb2 d1 d2 c3
        go_wp2_with fail
        exact ⟨⟨k + 1, _, hlt, by go_num, rfl, R2.out, B2.out⟩, by simp [intOf]; omega⟩
      · have HI : RowKit.Hid (insAll (hereL (s.L.take (k + 1))) = H0) := Lib.hid (by
          rw [HS.out, if_neg h4, List.append_nil, hH0])
        have h4' : (d.st == 4) = false := by simpa using h4
        clear hH0 h4
        go_wp2_with fail
        exact ⟨⟨k + 1, _, hlt, by go_num, rfl, by rw [HI.out]; exact R.out, BB.out⟩, by simp [intOf]; omega⟩
    · have hk2 : k = s.L.length := by omega
      subst hk2
      have R3 : RowKit.Hid (wr.ownsRow w.heap.size 3 1 v s.here.length (s.here.map (Value.int .i64))) := Lib.hid (by
        have := R.out
        rw [List.take_length, insAll_eq] at this; exact this)
      clear hv
      go_wp2_with fail
      go_ret
      exact ⟨_, rfl, R3.out, BB.out⟩
end Go.Proofs.Ytdojgbpaheadnaa
