/- The reference's asker takes a message. -/
import Derived.Test.YtdojgbpaheadnaaQKR
set_option linter.unusedVariables false
set_option linter.unusedSimpArgs false

namespace Go.Proofs.Ytdojgbpaheadnaa
open Go.RowKit Go.Shelf Go.Maps

def RTakeAE (B rb N : Nat) (s : Asr) (lv : Value) (m : Msg) (w : World) (e : Ending) (w' : World) : Prop :=
  ∃ v, e = .returned v ∧ MsgsAt w' w.heap.size v (s.take m).2 ∧ RAM w' B rb (s.take m).1 lv (N + 1) ∧ Tn (OwnRA rb lv) w w'
theorem atake_none {s : Asr} {m : Msg} (h : dec m.text = none ∨ (∃ k a r v, dec m.text = some (k, a, r, v) ∧ (m.to ≠ s.id ∨ a ≠ s.id ∨ rq s.L r = none))) : s.take m = (s, []) := by
  unfold Asr.take
  rcases h with h | ⟨k, a, r, v, hd, h⟩
  · rw [h]
  · rw [hd]
    dsimp only
    by_cases h1 : m.to ≠ s.id ∨ a ≠ s.id
    · rw [if_pos h1]
    · rw [if_neg h1, (h.resolve_left fun e => h1 (.inl e)).resolve_left fun e => h1 (.inr e)]
theorem atake_some {s : Asr} {m : Msg} {k r v : Int} {x : Rq} (hd : dec m.text = some (k, s.id, r, v)) (hto : m.to = s.id) (hq : rq s.L r = some x) : s.take m =
    match stp k with
      | none => (s, [])
      | some (p, q, z) =>
        if x.st ≠ p ∨ m.frm ≠ (if x.st = 1 then 0 else x.l) then (s, [])
        else ({ s with L := setQ { x with st := q, l := if k = 5 then v else x.l } s.L } : Asr).tell { x with st := q, l := if k = 5 then v else x.l } z := by
  unfold Asr.take
  rw [hd]
  dsimp only
  rw [if_neg (by rw [hto]; simp), hq]
  cases stp k <;> rfl
theorem setQ_twice {q1 q2 : Rq} (h : q1.n = q2.n) (L : List Rq) : setQ q2 (setQ q1 L) = setQ q2 L := by
  unfold setQ
  rw [List.map_map]
  refine List.map_congr_left fun x _ => ?_
  show (if (if x.n = q1.n then q1 else x).n = q2.n then q2 else if x.n = q1.n then q1 else x) = _
  by_cases e : x.n = q1.n
  · rw [if_pos e, if_pos h, if_pos (e.trans h)]
  · rw [if_neg e]
set_option maxRecDepth 100000 in
set_option maxHeartbeats 8000000 in
theorem rtakeA_any (B rb N : Nat) (s : Asr) (lv : Value) (m : Msg) (w : World) (h : RAM w B rb s lv N) (hN : N < 9000) (ht : m.text.length ≤ 1000000) :
    Calls Try.prog 28 #[.pointer (some ⟨rb, 0, none⟩), .agg (encM m)] w (RTakeAE B rb N s lv m w) := by
  have H0 := Lib.hid h
  obtain ⟨f, t, n, y⟩ := m
  have FN : RowKit.Hid (s.take ⟨f, t, n, y⟩ = (s, []) → ∀ W, Below w.heap.size w W → RTakeAE B rb N s lv ⟨f, t, n, y⟩ w (.returned (.slice none 0 0)) W) := Lib.hid fun e W hW =>
    ⟨_, rfl, by rw [e]; rfl, by rw [e]; exact (H0.out.up hW).mono (by omega) (by omega), Tn.of_below hW⟩
  obtain ⟨la, lcap, hlv, ld1, ld2, lxl, hlc⟩ := row_cellz h.reqs
  have hlcap : lcap ≤ 9223372036854775807 := by unfold maxLen at ld2; omega
  have hLl : s.L.length ≤ 10000 := by have := h.len; omega
  have HLV := Lib.hid hlv
  have HLC := Lib.hid hlc
  have hbl := h.blk.lt
  clear h ld2 lxl hlc hlv
  go_enter Try.func28, Try.ntmps28
  unfold encM
  go_wp2_with fail
  obtain ⟨mb, hmb⟩ : ∃ mb, mb = w.heap.size := ⟨_, rfl⟩
  obtain ⟨w1, hw1⟩ : ∃ w1, w1 = w.alloc (.cells #[i64 f, i64 t, i64 n, strV y] 31) := ⟨_, rfl⟩
  have MB : RowKit.Hid (Blk w1 mb #[i64 f, i64 t, i64 n, strV y] 31) := Lib.hid (by rw [hw1, hmb]; exact Blk.new _ _ _)
  have B1 : RowKit.Hid (Below w.heap.size w w1) := Lib.hid (by rw [hw1]; exact (Below.refl _ _).alloc (Nat.le_refl _) _)
  have HMB := Lib.hid hmb
  rw [← hw1, ← hmb]
  clear hw1 hmb
  have m3 : w1.cell? ⟨mb, 3, none⟩ = some (strV y) := MB.out.cell 3
  go_wp2_with fail
  refine (read2_any y w1 ht).mono ?_
  rintro e w2 ⟨hR, hb⟩
  have HZ1 : RowKit.Hid (w.heap.size ≤ w1.heap.size) := Lib.hid B1.out.size
  have MB2 := Lib.hid (MB.out.below hb MB.out.lt)
  have B2 := Lib.hid (B1.out.trans (hb.mono B1.out.size))
  clear hb m3 MB B1
  have M2 := Lib.hid (H0.out.up B2.out)
  have m0 : w2.cell? ⟨mb, 0, none⟩ = some (i64 f) := MB2.out.cell 0
  have m1 : w2.cell? ⟨mb, 1, none⟩ = some (i64 t) := MB2.out.cell 1
  have i0 : w2.cell? ⟨rb, 0, none⟩ = some (i64 s.id) := M2.out.blk.cell 0
  rcases hR with ⟨⟨k, a, r, v⟩, b', o, cap, hd, rfl, hnb, hc1, hc2, c0, c1, c2, c4⟩ | ⟨hd, va, vn, vc, rfl⟩
  · have HD := Lib.hid hd
    dsimp only at c0 c1 c2 c4
    clear hd
    by_cases hto : t = s.id
    · subst hto
      by_cases ha : a = s.id
      · subst ha
        have RC : RowKit.Hid (w2.cell? ⟨b', o, none⟩ = some (i64 k) ∧ w2.cell? ⟨b', o + 1, none⟩ = some (i64 s.id) ∧ w2.cell? ⟨b', o + 2, none⟩ = some (i64 r) ∧ w2.cell? ⟨b', o + 3, none⟩ = some (i64 v)) := Lib.hid ⟨c0, c1, c2, c4⟩
        go_wp2_with fail
        go_quiet (fail)
        go_wp2_with fail
        obtain ⟨w3a, hw3⟩ : ∃ w3a, w3a = w2.drewN nq := ⟨_, rfl⟩
        have M3 : RowKit.Hid (RAM w3a B rb s lv N) := Lib.hid (by rw [hw3]; exact M2.out.up (bdrewN (Below.refl _ _) nq))
        have MB3 : RowKit.Hid (Blk w3a mb #[i64 f, i64 s.id, i64 n, strV y] 31) := Lib.hid (by rw [hw3]; exact MB2.out.drewN nq)
        have R3 : RowKit.Hid (w3a.cell? ⟨b', o, none⟩ = some (i64 k) ∧ w3a.cell? ⟨b', o + 1, none⟩ = some (i64 s.id) ∧ w3a.cell? ⟨b', o + 2, none⟩ = some (i64 r) ∧ w3a.cell? ⟨b', o + 3, none⟩ = some (i64 v)) := Lib.hid (by rw [hw3]; exact RC.out)
        have B3 : RowKit.Hid (Below w.heap.size w w3a) := Lib.hid (by rw [hw3]; exact bdrewN B2.out nq)
        rw [← hw3]
        clear hw3 c0 c1 c2 c4 i0 m0 m1 M2 MB2 RC B2
        refine (rfind_any B rb N s lv r w3a M3.out).mono ?_
        rintro e w3 ⟨rfl, ⟨rfl, hq⟩ | ⟨j, x, rfl, hj, hq, hqn⟩⟩
        · have F := Lib.hid (FN.out (atake_none (.inr ⟨k, s.id, r, v, HD.out, .inr (.inr hq)⟩)))
          clear hq
          go_wp2_with fail
          go_ret
          exact F.out _ B3.out
        · have hlt := (List.getElem?_eq_some_iff.1 hj).1
          obtain ⟨g, rfl, hgo, -⟩ := HLC.out.resolve_left (fun h => by omega)
          have hgw := (H0.out.own_lt (.inr hgo)).2
          have hz1 := HZ1.out
          have hbg : ¬ b' = g := by omega
          have hgb : ¬ g = b' := by omega
          have HJ := Lib.hid hj
          clear hgo hz1
          have FT := Lib.hid (atake_some (m := ⟨f, s.id, n, y⟩) HD.out rfl hq)
          have hj0 : ¬ (j : Int) < 0 := by omega
          obtain ⟨d0, d1, d2, d3⟩ := M3.out.req hj HLV.out
          have c3 : w3.cell? ⟨rb, 3, none⟩ = some (.slice (some ⟨g, 0, none⟩) s.L.length lcap) := (M3.out.blk.cell 3).trans (congrArg some HLV.out)
          have m0 : w3.cell? ⟨mb, 0, none⟩ = some (i64 f) := MB3.out.cell 0
          obtain ⟨c0, -, -, c4⟩ := R3.out
          clear hj hq hqn
          by_cases k5 : k = 5
          · subst k5
            by_cases hfr : f = 0
            · by_cases hst : x.st = 1
              · have HT : RowKit.Hid (s.take ⟨f, s.id, n, y⟩ = ({ s with L := setQ ⟨x.n, x.t, 2, v⟩ s.L } : Asr).tell ⟨x.n, x.t, 2, v⟩ 7) := Lib.hid (by rw [FT.out]; simp [stp, hst, hfr])
                have HV := Lib.hid (dec_some.1 HD.out).1.2.2.2
                rw [hst] at d2
                rw [hfr] at m0
                clear hfr hst
                have fd := World.ownsRow.frozenAt (HLV.out ▸ M3.out.reqs) (j * 4 + 2)
                have fd3 := World.ownsRow.frozenAt (HLV.out ▸ M3.out.reqs) (j * 4 + 3)
                go_wp2_with fail
                go_quiet (fail)
                go_wp2_with fail
                obtain ⟨w5, hw5⟩ : ∃ w5, w5 = ((w3.drewN nq).setCell ⟨g, j * 4 + 2, none⟩ (i64 2)).setCell ⟨g, j * 4 + 3, none⟩ (i64 v) := ⟨_, rfl⟩
                obtain ⟨hn0, ht0, -, -, hl0⟩ := M3.out.ids.2.2 x (List.mem_of_getElem? HJ.out)
                have MQ := M3.out.up (bdrewN (Below.refl _ _) nq)
                obtain ⟨M4, T4⟩ := MQ.change (q' := { x with st := 2 }) (i := 2) (v := i64 2) HJ.out rfl HLV.out (by omega) rfl ⟨hn0, ht0, by dsimp only; omega, by dsimp only; omega, hl0⟩
                have HJ4 : (setQ { x with st := 2 } s.L)[j]? = some { x with st := 2 } := by
                  rw [setQ_at (q' := { x with st := 2 }) M3.out.inOrder HJ.out rfl, List.getElem?_set_self hlt]
                obtain ⟨M5, T5⟩ := M4.change (q' := ⟨x.n, x.t, 2, v⟩) (i := 3) (v := i64 v) HJ4 rfl HLV.out (by omega) rfl ⟨hn0, ht0, by dsimp only; omega, by dsimp only; omega, HV.out⟩
                have e2 : setQ (⟨x.n, x.t, 2, v⟩ : Rq) (setQ { x with st := 2 } s.L) = setQ ⟨x.n, x.t, 2, v⟩ s.L := setQ_twice (q1 := { x with st := 2 }) (q2 := ⟨x.n, x.t, 2, v⟩) rfl s.L
                have HJ5 : RowKit.Hid ((setQ (⟨x.n, x.t, 2, v⟩ : Rq) s.L)[j]? = some ⟨x.n, x.t, 2, v⟩) := Lib.hid (by
                  rw [setQ_at (q' := ⟨x.n, x.t, 2, v⟩) M3.out.inOrder HJ.out rfl, List.getElem?_set_self hlt])
                have T5 : RowKit.Hid (Tn (OwnRA rb lv) w (((w3.drewN nq).setCell ⟨g, j * 4 + 2, none⟩ (i64 2)).setCell ⟨g, j * 4 + 3, none⟩ (i64 v))) := Lib.hid (((Tn.of_below (bdrewN B3.out nq)).trans (T4.mono fun k hk => .inr hk)).trans (T5.mono fun k hk => .inr hk))
                have M5 : RAM (((w3.drewN nq).setCell ⟨g, j * 4 + 2, none⟩ (i64 2)).setCell ⟨g, j * 4 + 3, none⟩ (i64 v)) B rb { s with L := setQ ⟨x.n, x.t, 2, v⟩ s.L } lv N := by rw [← e2]; exact M5
                rw [← hw5] at M5 T5 ⊢
                have M5 := Lib.hid (M5.mono (Nat.le_succ N) (by omega))
                clear hw5 fd fd3 d0 d1 d2 d3 c3 c0 c4 MQ hl0 M4 T4 HJ4 e2
                obtain ⟨S, hS⟩ : ∃ S : World → Prop, S = fun W => RAM W B rb { s with L := (setQ ⟨x.n, x.t, 2, v⟩ s.L) } lv (N + 1) ∨ RAM W B rb { s with L := (setQ ⟨x.n, x.t, 2, v⟩ s.L), sent := s.sent + 1 } lv (N + 1) := ⟨_, rfl⟩
                have LD : RowKit.Hid (∀ W, S W → W.cell? ⟨g, j * 4, none⟩ = some (i64 ((⟨x.n, x.t, 2, v⟩ : Rq)).n) ∧ W.cell? ⟨g, j * 4 + 1, none⟩ = some (i64 ((⟨x.n, x.t, 2, v⟩ : Rq)).t) ∧ W.cell? ⟨g, j * 4 + 2, none⟩ = some (i64 ((⟨x.n, x.t, 2, v⟩ : Rq)).st) ∧ W.cell? ⟨g, j * 4 + 3, none⟩ = some (i64 ((⟨x.n, x.t, 2, v⟩ : Rq)).l)) := Lib.hid (by
                  rw [hS]
                  rintro W (h | h)
                  · exact h.req HJ5.out HLV.out
                  · exact h.req HJ5.out HLV.out)
                have UU : RowKit.Hid (∀ W, RAM W B rb { s with L := (setQ ⟨x.n, x.t, 2, v⟩ s.L) } lv (N + 1) → S W) := Lib.hid (by rw [hS]; exact fun W h => .inl h)
                have UV : RowKit.Hid (∀ W, RAM W B rb { s with L := (setQ ⟨x.n, x.t, 2, v⟩ s.L), sent := s.sent + 1 } lv (N + 1) → S W) := Lib.hid (by rw [hS]; exact fun W h => .inr h)
                have hHeld := UU.out _ (M5.out.up (Below.refl w5.heap.size w5).drew)
                clear hS
                obtain ⟨⟨mf, mt, mn, mx⟩, hm⟩ : ∃ m, m = rmsg { s with L := (setQ ⟨x.n, x.t, 2, v⟩ s.L) } ((⟨x.n, x.t, 2, v⟩ : Rq)).l 7 (⟨x.n, x.t, 2, v⟩ : Rq) := ⟨_, rfl⟩
                have HMM := Lib.hid hm
                have HM : RowKit.Hid (s.take ⟨f, s.id, n, y⟩ = ({ s with L := (setQ ⟨x.n, x.t, 2, v⟩ s.L), sent := s.sent + 1 }, [⟨mf, mt, mn, mx⟩])) := Lib.hid (by rw [HT.out, hm]; rfl)
                clear hm
                dsimp only at LD HMM
                refine wp_region_held_drew (S := S) (by kernel_rfl) hHeld (fun _ => ?_)
                apply wpAnyH_apart1 (fun g W => RTakeAE B rb N s lv ⟨f, s.id, n, y⟩ w (.returned (.slice (some ⟨g, 0, none⟩) 1 1)) W)
                case take =>
                  intro R hR
                  refine wpAnyH_take (i := 0) (v := ?_) rfl (by kernel_rfl) (by kernel_rfl) (by kernel_rfl) (fun _ _ _ h => only_panic h) (Or.inl ⟨by rfl, ?_⟩) hHeld ?_
                  rotate_left
                  · (intro w hSw; obtain ⟨l1, l2, l3, l4⟩ := LD.out w hSw; go_simp; try (with_reducible rfl))
                  try simp only [List.getElem_toArray, List.getElem_cons_succ, List.getElem_cons_zero, Act.put, List.setIfInBounds_toArray, List.set_cons_zero, List.set_cons_succ]
                  refine wpAnyH_take (i := 1) (v := ?_) rfl (by kernel_rfl) (by kernel_rfl) (by kernel_rfl) (fun _ _ _ h => only_panic h) (Or.inl ⟨by rfl, ?_⟩) hHeld ?_
                  rotate_left
                  · (intro w hSw; obtain ⟨l1, l2, l3, l4⟩ := LD.out w hSw; go_simp; try (with_reducible rfl))
                  try simp only [List.getElem_toArray, List.getElem_cons_succ, List.getElem_cons_zero, Act.put, List.setIfInBounds_toArray, List.set_cons_zero, List.set_cons_succ]
                  refine wpAnyH_take (i := 2) (v := ?_) rfl (by kernel_rfl) (by kernel_rfl) (by kernel_rfl) (fun _ _ _ h => only_panic h) (Or.inl ⟨by rfl, ?_⟩) hHeld ?_
                  rotate_left
                  · (intro w hSw; obtain ⟨l1, l2, l3, l4⟩ := LD.out w hSw; go_simp; try (with_reducible rfl))
                  try simp only [List.getElem_toArray, List.getElem_cons_succ, List.getElem_cons_zero, Act.put, List.setIfInBounds_toArray, List.set_cons_zero, List.set_cons_succ]
                  refine wpAnyH_take (i := 3) (v := ?_) rfl (by kernel_rfl) (by kernel_rfl) (by kernel_rfl) (fun _ _ _ h => only_panic h) (Or.inl ⟨by rfl, ?_⟩) hHeld ?_
                  rotate_left
                  · (intro w hSw; obtain ⟨l1, l2, l3, l4⟩ := LD.out w hSw; go_simp; try (with_reducible rfl))
                  try simp only [List.getElem_toArray, List.getElem_cons_succ, List.getElem_cons_zero, Act.put, List.setIfInBounds_toArray, List.set_cons_zero, List.set_cons_succ]
                  refine wpAnyH_take (i := 4) (v := ?_) rfl (by kernel_rfl) (by kernel_rfl) (by kernel_rfl) (fun _ _ _ h => only_panic h) (Or.inl ⟨by rfl, ?_⟩) hHeld ?_
                  rotate_left
                  · (intro w hSw; obtain ⟨l1, l2, l3, l4⟩ := LD.out w hSw; go_simp; try (with_reducible rfl))
                  try simp only [List.getElem_toArray, List.getElem_cons_succ, List.getElem_cons_zero, Act.put, List.setIfInBounds_toArray, List.set_cons_zero, List.set_cons_succ]
                  refine wpAnyH_take (i := 5) (v := ?_) rfl (by kernel_rfl) (by kernel_rfl) (by kernel_rfl) (fun _ _ _ h => only_panic h) (Or.inl ⟨by rfl, ?_⟩) hHeld ?_
                  rotate_left
                  · (intro w hSw; obtain ⟨l1, l2, l3, l4⟩ := LD.out w hSw; go_simp; try (with_reducible rfl))
                  try simp only [List.getElem_toArray, List.getElem_cons_succ, List.getElem_cons_zero, Act.put, List.setIfInBounds_toArray, List.set_cons_zero, List.set_cons_succ]
                  refine wpAnyH_take (i := 6) (v := ?_) rfl (by kernel_rfl) (by kernel_rfl) (by kernel_rfl) (fun _ _ _ h => only_panic h) (Or.inl ⟨by rfl, ?_⟩) hHeld ?_
                  rotate_left
                  · (intro w hSw; obtain ⟨l1, l2, l3, l4⟩ := LD.out w hSw; go_simp; try (with_reducible rfl))
                  try simp only [List.getElem_toArray, List.getElem_cons_succ, List.getElem_cons_zero, Act.put, List.setIfInBounds_toArray, List.set_cons_zero, List.set_cons_succ]
                  refine wpAnyH_take (i := 7) (v := ?_) rfl (by kernel_rfl) (by kernel_rfl) (by kernel_rfl) (fun _ _ _ h => only_panic h) (Or.inl ⟨by rfl, ?_⟩) hHeld ?_
                  rotate_left
                  · (intro w hSw; obtain ⟨l1, l2, l3, l4⟩ := LD.out w hSw; go_simp; try (with_reducible rfl))
                  try simp only [List.getElem_toArray, List.getElem_cons_succ, List.getElem_cons_zero, Act.put, List.setIfInBounds_toArray, List.set_cons_zero, List.set_cons_succ]
                  refine wpAnyH_one (i := 8) rfl (by kernel_rfl) (by rfl) ?_
                  go_simp
                  have key := rsendA (M5.out.up (Below.refl w5.heap.size w5).drew) (by have := H0.out.sent.2; show s.sent < 1000 * ((N + 1 : Nat) : Int); omega) ((⟨x.n, x.t, 2, v⟩ : Rq)).l 7 (⟨x.n, x.t, 2, v⟩ : Rq) ⟨by omega, by omega⟩ hn0 ht0
                  dsimp only at key
                  rw [← HMM.out, show encM ⟨mf, mt, mn, mx⟩ = #[i64 mf, i64 mt, i64 mn, strV mx] from rfl] at key
                  refine key.mono ?_
                  clear key
                  rintro e w6 ⟨rfl, hM6, hT6⟩
                  have M6 := Lib.hid hM6
                  have T6 : RowKit.Hid (Tn (OwnRA rb lv) w w6) := Lib.hid (T5.out.trans ((Tn.of_below (Below.refl w5.heap.size w5).drew).trans (hT6.mono fun k hk => .inl hk)))
                  clear hM6 hT6
                  refine ⟨UV.out _ M6.out, ?_⟩
                  refine wpAnyH_one (i := 9) rfl (by kernel_rfl) (by rfl) ?_
                  go_simp
                  obtain ⟨w7, hw7⟩ : ∃ w7, w7 = w6.alloc (.cells #[i64 mf, i64 mt, i64 mn, strV mx] 31) := ⟨_, rfl⟩
                  obtain ⟨g4, hg4⟩ : ∃ g4, g4 = w6.heap.size := ⟨_, rfl⟩
                  have B7 : RowKit.Hid (Below w6.heap.size w6 w7) := Lib.hid (by rw [hw7]; exact (Below.refl _ _).alloc (Nat.le_refl _) _)
                  have F : RowKit.Hid (RTakeAE B rb N s lv ⟨f, s.id, n, y⟩ w (.returned (.slice (some ⟨g4, 0, none⟩) 1 1)) w7) := Lib.hid
                    ⟨_, rfl, by rw [HM.out, hw7, hg4]; exact msgs_new w6 ⟨mf, mt, mn, mx⟩ T6.out.size, by rw [HM.out]; exact M6.out.up B7.out, T6.out.trans (Tn.of_below B7.out)⟩
                  rw [← hw7, ← hg4]
                  clear hw7 hg4
                  have hHeld := UV.out _ (M6.out.up B7.out)
                  refine ⟨hHeld, ?_⟩
                  refine wpAnyH_take (i := 10) (v := ?_) rfl (by kernel_rfl) (by kernel_rfl) (by kernel_rfl) (fun _ _ _ h => only_panic h) (Or.inl ⟨by rfl, ?_⟩) hHeld ?_
                  rotate_left
                  · (intro w hSw; clear hSw; go_simp; try (with_reducible rfl))
                  try simp only [List.getElem_toArray, List.getElem_cons_succ, List.getElem_cons_zero, Act.put, List.setIfInBounds_toArray, List.set_cons_zero, List.set_cons_succ]
                  exact wpAnyH_done (by kernel_rfl) ⟨rfl, hR _ _ F.out⟩ _
                case rest =>
                  rintro g4 W hF
                  have F := Lib.hid hF
                  clear hF
                  go_wp2_with fail
                  go_ret
                  exact F.out
              · have F := Lib.hid (FN.out (by rw [FT.out]; simp [stp, hst]))
                have e1 : (x.st == 1) = false := by simpa using hst
                rw [hfr] at m0
                clear hst hfr
                go_wp2_with fail
                go_quiet (fail)
                go_wp2_with fail
                go_ret
                exact F.out _ (bdrewN B3.out _)
            · have F := Lib.hid (FN.out (by
                rw [FT.out]
                by_cases hst : x.st = 1 <;> simp [stp, hst, hfr]))
              have e1 : (f == 0) = false := by simpa using hfr
              clear hfr
              go_wp2_with fail
              go_quiet (fail)
              go_wp2_with fail
              go_ret
              exact F.out _ (bdrewN B3.out _)
          · by_cases k6 : k = 6
            · subst k6
              by_cases hfr : f = 0
              · by_cases hst : x.st = 1
                · clear k5
                  rw [hfr] at m0
                  have HT : RowKit.Hid (s.take ⟨f, s.id, n, y⟩ = ({ s with L := setQ { x with st := 7 } s.L }, [])) := Lib.hid (by rw [FT.out]; simp [stp, hst, hfr, Asr.tell])
                  rw [hst] at d2
                  clear hfr hst
                  have fd := World.ownsRow.frozenAt (HLV.out ▸ M3.out.reqs) (j * 4 + 2)
                  go_wp2_with fail
                  go_quiet (fail)
                  go_wp2_with fail
                  obtain ⟨w5, hw5⟩ : ∃ w5, w5 = (w3.drewN nq).setCell ⟨g, j * 4 + 2, none⟩ (i64 7) := ⟨_, rfl⟩
                  obtain ⟨hn0, ht0, -, -, hl0⟩ := M3.out.ids.2.2 x (List.mem_of_getElem? HJ.out)
                  have MQ := M3.out.up (bdrewN (Below.refl _ _) nq)
                  obtain ⟨M5, T5⟩ := MQ.change (q' := { x with st := 7 }) (i := 2) (v := i64 7) HJ.out rfl HLV.out (by omega) rfl ⟨hn0, ht0, by dsimp only; omega, by dsimp only; omega, hl0⟩
                  have T5 : RowKit.Hid (Tn (OwnRA rb lv) w (w3.drewN nq |>.setCell ⟨g, j * 4 + 2, none⟩ (i64 7))) := Lib.hid ((Tn.of_below (bdrewN B3.out nq)).trans (T5.mono fun k hk => .inr hk))
                  rw [← hw5] at M5 T5 ⊢
                  have M5 := Lib.hid (M5.mono (Nat.le_succ N) (by omega))
                  have F : RowKit.Hid (RTakeAE B rb N s lv ⟨f, s.id, n, y⟩ w (.returned (.slice none 0 0)) w5) := Lib.hid
                    ⟨_, rfl, by rw [HT.out]; rfl, by rw [HT.out]; exact M5.out, T5.out⟩
                  go_ret
                  exact F.out
                · have F := Lib.hid (FN.out (by rw [FT.out]; simp [stp, hst]))
                  have e1 : (x.st == 1) = false := by simpa using hst
                  rw [hfr] at m0
                  clear hst hfr k5
                  go_wp2_with fail
                  go_quiet (fail)
                  go_wp2_with fail
                  go_ret
                  exact F.out _ (bdrewN B3.out _)
              · have F := Lib.hid (FN.out (by
                  rw [FT.out]
                  by_cases hst : x.st = 1 <;> simp [stp, hst, hfr]))
                have e1 : (f == 0) = false := by simpa using hfr
                clear hfr k5
                go_wp2_with fail
                go_quiet (fail)
                go_wp2_with fail
                go_ret
                exact F.out _ (bdrewN B3.out _)
            · by_cases k8 : k = 8 ∨ k = 10 ∨ k = 12
              · by_cases hfr : f = x.l
                · rw [hfr] at m0
                  clear k5 k6
                  rcases k8 with rfl | rfl | rfl
                  · by_cases hst : x.st = 2
                    · skip
                      have HT : RowKit.Hid (s.take ⟨f, s.id, n, y⟩ = ({ s with L := setQ { x with st := 3 } s.L } : Asr).tell { x with st := 3 } 9) := Lib.hid (by rw [FT.out]; simp [stp, hst, hfr])
                      rw [hst] at d2
                      clear hfr hst
                      have fd := World.ownsRow.frozenAt (HLV.out ▸ M3.out.reqs) (j * 4 + 2)
                      go_wp2_with fail
                      go_quiet (fail)
                      go_wp2_with fail
                      obtain ⟨w5, hw5⟩ : ∃ w5, w5 = (w3.drewN nq).setCell ⟨g, j * 4 + 2, none⟩ (i64 3) := ⟨_, rfl⟩
                      obtain ⟨hn0, ht0, -, -, hl0⟩ := M3.out.ids.2.2 x (List.mem_of_getElem? HJ.out)
                      have MQ := M3.out.up (bdrewN (Below.refl _ _) nq)
                      obtain ⟨M5, T5⟩ := MQ.change (q' := { x with st := 3 }) (i := 2) (v := i64 3) HJ.out rfl HLV.out (by omega) rfl ⟨hn0, ht0, by dsimp only; omega, by dsimp only; omega, hl0⟩
                      have T5 : RowKit.Hid (Tn (OwnRA rb lv) w (w3.drewN nq |>.setCell ⟨g, j * 4 + 2, none⟩ (i64 3))) := Lib.hid ((Tn.of_below (bdrewN B3.out nq)).trans (T5.mono fun k hk => .inr hk))
                      rw [← hw5] at M5 T5 ⊢
                      have M5 := Lib.hid (M5.mono (Nat.le_succ N) (by omega))
                      have HJ5 : RowKit.Hid ((setQ { x with st := 3 } s.L)[j]? = some { x with st := 3 }) := Lib.hid (by
                        rw [setQ_at (q' := { x with st := 3 }) M3.out.inOrder HJ.out rfl, List.getElem?_set_self hlt])
                      clear hw5 fd d0 d1 d2 d3 c3 MQ hl0
                      obtain ⟨S, hS⟩ : ∃ S : World → Prop, S = fun W => RAM W B rb { s with L := (setQ { x with st := 3 } s.L) } lv (N + 1) ∨ RAM W B rb { s with L := (setQ { x with st := 3 } s.L), sent := s.sent + 1 } lv (N + 1) := ⟨_, rfl⟩
                      have LD : RowKit.Hid (∀ W, S W → W.cell? ⟨g, j * 4, none⟩ = some (i64 (({ x with st := 3 } : Rq)).n) ∧ W.cell? ⟨g, j * 4 + 1, none⟩ = some (i64 (({ x with st := 3 } : Rq)).t) ∧ W.cell? ⟨g, j * 4 + 2, none⟩ = some (i64 (({ x with st := 3 } : Rq)).st) ∧ W.cell? ⟨g, j * 4 + 3, none⟩ = some (i64 (({ x with st := 3 } : Rq)).l)) := Lib.hid (by
                        rw [hS]
                        rintro W (h | h)
                        · exact h.req HJ5.out HLV.out
                        · exact h.req HJ5.out HLV.out)
                      have UU : RowKit.Hid (∀ W, RAM W B rb { s with L := (setQ { x with st := 3 } s.L) } lv (N + 1) → S W) := Lib.hid (by rw [hS]; exact fun W h => .inl h)
                      have UV : RowKit.Hid (∀ W, RAM W B rb { s with L := (setQ { x with st := 3 } s.L), sent := s.sent + 1 } lv (N + 1) → S W) := Lib.hid (by rw [hS]; exact fun W h => .inr h)
                      have hHeld := UU.out _ (M5.out.up (Below.refl w5.heap.size w5).drew)
                      clear hS
                      obtain ⟨⟨mf, mt, mn, mx⟩, hm⟩ : ∃ m, m = rmsg { s with L := (setQ { x with st := 3 } s.L) } (({ x with st := 3 } : Rq)).l 9 ({ x with st := 3 } : Rq) := ⟨_, rfl⟩
                      have HMM := Lib.hid hm
                      have HM : RowKit.Hid (s.take ⟨f, s.id, n, y⟩ = ({ s with L := (setQ { x with st := 3 } s.L), sent := s.sent + 1 }, [⟨mf, mt, mn, mx⟩])) := Lib.hid (by rw [HT.out, hm]; rfl)
                      clear hm
                      dsimp only at LD HMM
                      refine wp_region_held_drew (S := S) (by kernel_rfl) hHeld (fun _ => ?_)
                      apply wpAnyH_apart1 (fun g W => RTakeAE B rb N s lv ⟨f, s.id, n, y⟩ w (.returned (.slice (some ⟨g, 0, none⟩) 1 1)) W)
                      case take =>
                        intro R hR
                        refine wpAnyH_take (i := 0) (v := ?_) rfl (by kernel_rfl) (by kernel_rfl) (by kernel_rfl) (fun _ _ _ h => only_panic h) (Or.inl ⟨by rfl, ?_⟩) hHeld ?_
                        rotate_left
                        · (intro w hSw; obtain ⟨l1, l2, l3, l4⟩ := LD.out w hSw; go_simp; try (with_reducible rfl))
                        try simp only [List.getElem_toArray, List.getElem_cons_succ, List.getElem_cons_zero, Act.put, List.setIfInBounds_toArray, List.set_cons_zero, List.set_cons_succ]
                        refine wpAnyH_take (i := 1) (v := ?_) rfl (by kernel_rfl) (by kernel_rfl) (by kernel_rfl) (fun _ _ _ h => only_panic h) (Or.inl ⟨by rfl, ?_⟩) hHeld ?_
                        rotate_left
                        · (intro w hSw; obtain ⟨l1, l2, l3, l4⟩ := LD.out w hSw; go_simp; try (with_reducible rfl))
                        try simp only [List.getElem_toArray, List.getElem_cons_succ, List.getElem_cons_zero, Act.put, List.setIfInBounds_toArray, List.set_cons_zero, List.set_cons_succ]
                        refine wpAnyH_take (i := 2) (v := ?_) rfl (by kernel_rfl) (by kernel_rfl) (by kernel_rfl) (fun _ _ _ h => only_panic h) (Or.inl ⟨by rfl, ?_⟩) hHeld ?_
                        rotate_left
                        · (intro w hSw; obtain ⟨l1, l2, l3, l4⟩ := LD.out w hSw; go_simp; try (with_reducible rfl))
                        try simp only [List.getElem_toArray, List.getElem_cons_succ, List.getElem_cons_zero, Act.put, List.setIfInBounds_toArray, List.set_cons_zero, List.set_cons_succ]
                        refine wpAnyH_take (i := 3) (v := ?_) rfl (by kernel_rfl) (by kernel_rfl) (by kernel_rfl) (fun _ _ _ h => only_panic h) (Or.inl ⟨by rfl, ?_⟩) hHeld ?_
                        rotate_left
                        · (intro w hSw; obtain ⟨l1, l2, l3, l4⟩ := LD.out w hSw; go_simp; try (with_reducible rfl))
                        try simp only [List.getElem_toArray, List.getElem_cons_succ, List.getElem_cons_zero, Act.put, List.setIfInBounds_toArray, List.set_cons_zero, List.set_cons_succ]
                        refine wpAnyH_take (i := 4) (v := ?_) rfl (by kernel_rfl) (by kernel_rfl) (by kernel_rfl) (fun _ _ _ h => only_panic h) (Or.inl ⟨by rfl, ?_⟩) hHeld ?_
                        rotate_left
                        · (intro w hSw; obtain ⟨l1, l2, l3, l4⟩ := LD.out w hSw; go_simp; try (with_reducible rfl))
                        try simp only [List.getElem_toArray, List.getElem_cons_succ, List.getElem_cons_zero, Act.put, List.setIfInBounds_toArray, List.set_cons_zero, List.set_cons_succ]
                        refine wpAnyH_take (i := 5) (v := ?_) rfl (by kernel_rfl) (by kernel_rfl) (by kernel_rfl) (fun _ _ _ h => only_panic h) (Or.inl ⟨by rfl, ?_⟩) hHeld ?_
                        rotate_left
                        · (intro w hSw; obtain ⟨l1, l2, l3, l4⟩ := LD.out w hSw; go_simp; try (with_reducible rfl))
                        try simp only [List.getElem_toArray, List.getElem_cons_succ, List.getElem_cons_zero, Act.put, List.setIfInBounds_toArray, List.set_cons_zero, List.set_cons_succ]
                        refine wpAnyH_take (i := 6) (v := ?_) rfl (by kernel_rfl) (by kernel_rfl) (by kernel_rfl) (fun _ _ _ h => only_panic h) (Or.inl ⟨by rfl, ?_⟩) hHeld ?_
                        rotate_left
                        · (intro w hSw; obtain ⟨l1, l2, l3, l4⟩ := LD.out w hSw; go_simp; try (with_reducible rfl))
                        try simp only [List.getElem_toArray, List.getElem_cons_succ, List.getElem_cons_zero, Act.put, List.setIfInBounds_toArray, List.set_cons_zero, List.set_cons_succ]
                        refine wpAnyH_take (i := 7) (v := ?_) rfl (by kernel_rfl) (by kernel_rfl) (by kernel_rfl) (fun _ _ _ h => only_panic h) (Or.inl ⟨by rfl, ?_⟩) hHeld ?_
                        rotate_left
                        · (intro w hSw; obtain ⟨l1, l2, l3, l4⟩ := LD.out w hSw; go_simp; try (with_reducible rfl))
                        try simp only [List.getElem_toArray, List.getElem_cons_succ, List.getElem_cons_zero, Act.put, List.setIfInBounds_toArray, List.set_cons_zero, List.set_cons_succ]
                        refine wpAnyH_one (i := 8) rfl (by kernel_rfl) (by rfl) ?_
                        go_simp
                        have key := rsendA (M5.out.up (Below.refl w5.heap.size w5).drew) (by have := H0.out.sent.2; show s.sent < 1000 * ((N + 1 : Nat) : Int); omega) (({ x with st := 3 } : Rq)).l 9 ({ x with st := 3 } : Rq) ⟨by omega, by omega⟩ hn0 ht0
                        dsimp only at key
                        rw [← HMM.out, show encM ⟨mf, mt, mn, mx⟩ = #[i64 mf, i64 mt, i64 mn, strV mx] from rfl] at key
                        refine key.mono ?_
                        clear key
                        rintro e w6 ⟨rfl, hM6, hT6⟩
                        have M6 := Lib.hid hM6
                        have T6 : RowKit.Hid (Tn (OwnRA rb lv) w w6) := Lib.hid (T5.out.trans ((Tn.of_below (Below.refl w5.heap.size w5).drew).trans (hT6.mono fun k hk => .inl hk)))
                        clear hM6 hT6
                        refine ⟨UV.out _ M6.out, ?_⟩
                        refine wpAnyH_one (i := 9) rfl (by kernel_rfl) (by rfl) ?_
                        go_simp
                        obtain ⟨w7, hw7⟩ : ∃ w7, w7 = w6.alloc (.cells #[i64 mf, i64 mt, i64 mn, strV mx] 31) := ⟨_, rfl⟩
                        obtain ⟨g4, hg4⟩ : ∃ g4, g4 = w6.heap.size := ⟨_, rfl⟩
                        have B7 : RowKit.Hid (Below w6.heap.size w6 w7) := Lib.hid (by rw [hw7]; exact (Below.refl _ _).alloc (Nat.le_refl _) _)
                        have F : RowKit.Hid (RTakeAE B rb N s lv ⟨f, s.id, n, y⟩ w (.returned (.slice (some ⟨g4, 0, none⟩) 1 1)) w7) := Lib.hid
                          ⟨_, rfl, by rw [HM.out, hw7, hg4]; exact msgs_new w6 ⟨mf, mt, mn, mx⟩ T6.out.size, by rw [HM.out]; exact M6.out.up B7.out, T6.out.trans (Tn.of_below B7.out)⟩
                        rw [← hw7, ← hg4]
                        clear hw7 hg4
                        have hHeld := UV.out _ (M6.out.up B7.out)
                        refine ⟨hHeld, ?_⟩
                        refine wpAnyH_take (i := 10) (v := ?_) rfl (by kernel_rfl) (by kernel_rfl) (by kernel_rfl) (fun _ _ _ h => only_panic h) (Or.inl ⟨by rfl, ?_⟩) hHeld ?_
                        rotate_left
                        · (intro w hSw; clear hSw; go_simp; try (with_reducible rfl))
                        try simp only [List.getElem_toArray, List.getElem_cons_succ, List.getElem_cons_zero, Act.put, List.setIfInBounds_toArray, List.set_cons_zero, List.set_cons_succ]
                        exact wpAnyH_done (by kernel_rfl) ⟨rfl, hR _ _ F.out⟩ _
                      case rest =>
                        rintro g4 W hF
                        have F := Lib.hid hF
                        clear hF
                        go_wp2_with fail
                        go_ret
                        exact F.out
                    · have F := Lib.hid (FN.out (by rw [FT.out]; simp [stp, hst]))
                      have e1 : (x.st == 2) = false := by simpa using hst
                      clear hst hfr
                      go_wp2_with fail
                      go_quiet (fail)
                      go_wp2_with fail
                      go_ret
                      exact F.out _ (bdrewN B3.out _)
                  · by_cases hst : x.st = 3
                    · skip
                      have HT : RowKit.Hid (s.take ⟨f, s.id, n, y⟩ = ({ s with L := setQ { x with st := 4 } s.L }, [])) := Lib.hid (by rw [FT.out]; simp [stp, hst, hfr, Asr.tell])
                      rw [hst] at d2
                      clear hfr hst
                      have fd := World.ownsRow.frozenAt (HLV.out ▸ M3.out.reqs) (j * 4 + 2)
                      go_wp2_with fail
                      go_quiet (fail)
                      go_wp2_with fail
                      obtain ⟨w5, hw5⟩ : ∃ w5, w5 = (w3.drewN nq).setCell ⟨g, j * 4 + 2, none⟩ (i64 4) := ⟨_, rfl⟩
                      obtain ⟨hn0, ht0, -, -, hl0⟩ := M3.out.ids.2.2 x (List.mem_of_getElem? HJ.out)
                      have MQ := M3.out.up (bdrewN (Below.refl _ _) nq)
                      obtain ⟨M5, T5⟩ := MQ.change (q' := { x with st := 4 }) (i := 2) (v := i64 4) HJ.out rfl HLV.out (by omega) rfl ⟨hn0, ht0, by dsimp only; omega, by dsimp only; omega, hl0⟩
                      have T5 : RowKit.Hid (Tn (OwnRA rb lv) w (w3.drewN nq |>.setCell ⟨g, j * 4 + 2, none⟩ (i64 4))) := Lib.hid ((Tn.of_below (bdrewN B3.out nq)).trans (T5.mono fun k hk => .inr hk))
                      rw [← hw5] at M5 T5 ⊢
                      have M5 := Lib.hid (M5.mono (Nat.le_succ N) (by omega))
                      have F : RowKit.Hid (RTakeAE B rb N s lv ⟨f, s.id, n, y⟩ w (.returned (.slice none 0 0)) w5) := Lib.hid
                        ⟨_, rfl, by rw [HT.out]; rfl, by rw [HT.out]; exact M5.out, T5.out⟩
                      go_ret
                      exact F.out
                    · have F := Lib.hid (FN.out (by rw [FT.out]; simp [stp, hst]))
                      have e1 : (x.st == 3) = false := by simpa using hst
                      clear hst hfr
                      go_wp2_with fail
                      go_quiet (fail)
                      go_wp2_with fail
                      go_ret
                      exact F.out _ (bdrewN B3.out _)
                  · by_cases hst : x.st = 5
                    · skip
                      have HT : RowKit.Hid (s.take ⟨f, s.id, n, y⟩ = ({ s with L := setQ { x with st := 6 } s.L }, [])) := Lib.hid (by rw [FT.out]; simp [stp, hst, hfr, Asr.tell])
                      rw [hst] at d2
                      clear hfr hst
                      have fd := World.ownsRow.frozenAt (HLV.out ▸ M3.out.reqs) (j * 4 + 2)
                      go_wp2_with fail
                      go_quiet (fail)
                      go_wp2_with fail
                      obtain ⟨w5, hw5⟩ : ∃ w5, w5 = (w3.drewN nq).setCell ⟨g, j * 4 + 2, none⟩ (i64 6) := ⟨_, rfl⟩
                      obtain ⟨hn0, ht0, -, -, hl0⟩ := M3.out.ids.2.2 x (List.mem_of_getElem? HJ.out)
                      have MQ := M3.out.up (bdrewN (Below.refl _ _) nq)
                      obtain ⟨M5, T5⟩ := MQ.change (q' := { x with st := 6 }) (i := 2) (v := i64 6) HJ.out rfl HLV.out (by omega) rfl ⟨hn0, ht0, by dsimp only; omega, by dsimp only; omega, hl0⟩
                      have T5 : RowKit.Hid (Tn (OwnRA rb lv) w (w3.drewN nq |>.setCell ⟨g, j * 4 + 2, none⟩ (i64 6))) := Lib.hid ((Tn.of_below (bdrewN B3.out nq)).trans (T5.mono fun k hk => .inr hk))
                      rw [← hw5] at M5 T5 ⊢
                      have M5 := Lib.hid (M5.mono (Nat.le_succ N) (by omega))
                      have F : RowKit.Hid (RTakeAE B rb N s lv ⟨f, s.id, n, y⟩ w (.returned (.slice none 0 0)) w5) := Lib.hid
                        ⟨_, rfl, by rw [HT.out]; rfl, by rw [HT.out]; exact M5.out, T5.out⟩
                      go_ret
                      exact F.out
                    · have F := Lib.hid (FN.out (by rw [FT.out]; simp [stp, hst]))
                      have e1 : (x.st == 5) = false := by simpa using hst
                      clear hst hfr
                      go_wp2_with fail
                      go_quiet (fail)
                      go_wp2_with fail
                      go_ret
                      exact F.out _ (bdrewN B3.out _)
                · have e1 : (f == x.l) = false := by simpa using hfr
                  have F := Lib.hid (FN.out (by
                    rw [FT.out]
                    rcases k8 with rfl | rfl | rfl
                    · by_cases hst : x.st = 2 <;> simp [stp, hst, hfr]
                    · by_cases hst : x.st = 3 <;> simp [stp, hst, hfr]
                    · by_cases hst : x.st = 5 <;> simp [stp, hst, hfr]))
                  clear hfr k5 k6
                  rcases k8 with rfl | rfl | rfl
                  · skip
                    go_wp2_with fail
                    go_quiet (fail)
                    go_wp2_with fail
                    go_ret
                    exact F.out _ (bdrewN B3.out _)
                  · skip
                    go_wp2_with fail
                    go_quiet (fail)
                    go_wp2_with fail
                    go_ret
                    exact F.out _ (bdrewN B3.out _)
                  · skip
                    go_wp2_with fail
                    go_quiet (fail)
                    go_wp2_with fail
                    go_ret
                    exact F.out _ (bdrewN B3.out _)
              · have k8' : k ≠ 8 ∧ k ≠ 10 ∧ k ≠ 12 := ⟨fun e => k8 (.inl e), fun e => k8 (.inr (.inl e)), fun e => k8 (.inr (.inr e))⟩
                have F := Lib.hid (FN.out (by rw [FT.out]; simp [stp, k5, k6, k8'.1, k8'.2.1, k8'.2.2]))
                have e5 : (k == 5) = false := by simpa using k5
                have e6 : (k == 6) = false := by simpa using k6
                have e8 : (k == 8) = false := by simpa using k8'.1
                have e10 : (k == 10) = false := by simpa using k8'.2.1
                have e12 : (k == 12) = false := by simpa using k8'.2.2
                clear k5 k6 k8 k8'
                go_wp2_with fail
                go_quiet (fail)
                go_wp2_with fail
                go_ret
                exact F.out _ (bdrewN B3.out _)
      · have F := Lib.hid (FN.out (atake_none (.inr ⟨k, a, r, v, HD.out, .inr (.inl ha)⟩)))
        have ha' : (a != s.id) = true := by simpa using ha
        clear ha
        go_wp2_with fail
        go_quiet (fail)
        go_wp2_with fail
        go_ret
        exact F.out _ (bdrewN B2.out _)
    · have F := Lib.hid (FN.out (atake_none (.inr ⟨k, a, r, v, HD.out, .inl hto⟩)))
      have hto' : (t != s.id) = true := by simpa using hto
      clear hto
      go_wp2_with fail
      go_quiet (fail)
      go_wp2_with fail
      go_ret
      exact F.out _ (bdrewN B2.out _)
  · have F := Lib.hid (FN.out (atake_none (.inl hd)))
    clear hd
    go_wp2_with fail
    go_quiet (fail)
    go_wp2_with fail
    go_ret
    exact F.out _ (bdrewN B2.out _)
end Go.Proofs.Ytdojgbpaheadnaa
