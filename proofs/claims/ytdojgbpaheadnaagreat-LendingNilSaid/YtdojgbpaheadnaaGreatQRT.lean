/- The reference's lender takes a message. -/
import Derived.Test.YtdojgbpaheadnaaGreatQRN
set_option linter.unusedVariables false
set_option linter.unusedSimpArgs false

namespace Go.Proofs.YtdojgbpaheadnaaGreat
open Go.RowKit Go.Shelf Go.Maps

def RTakeE (B rb N : Nat) (s : Len) (cv lv : Value) (m : Msg) (w : World) (e : Ending) (w' : World) : Prop :=
  ∃ v cv' lv', e = .returned v ∧ MsgsAt w' w.heap.size v (s.take m).2 ∧ RLM w' B rb (s.take m).1 cv' lv' (N + 2) ∧ Tn (OwnR rb cv lv) w w' ∧ ∀ k, OwnR rb cv' lv' k → OwnR rb cv lv k ∨ w.heap.size ≤ k
theorem take_want {s : Len} {m : Msg} {a r v : Int} (hd : dec m.text = some (2, a, r, v)) (hto : m.to = s.id) (hf : m.frm = 0) : s.take m =
    match at_ s.L a r with
      | none => (s.deal a r v).send 0 (if v ∈ s.here then 3 else 4) a r
      | some d => s.send 0 (if d.st = 1 then 4 else 3) a r := by
  unfold Len.take
  rw [hd]
  dsimp only
  rw [if_neg (by rw [hto]; simp), if_pos ⟨rfl, hf⟩]
  cases at_ s.L a r <;> rfl
theorem take_none {s : Len} {m : Msg} (h : dec m.text = none ∨ m.to ≠ s.id) : s.take m = (s, []) := by
  unfold Len.take
  cases hd : dec m.text with
  | none => rfl
  | some q =>
    obtain ⟨k, a, r, v⟩ := q
    dsimp only
    rcases h with h | h
    · rw [hd] at h; cases h
    · rw [if_pos h]
theorem rtake_send {B rb N N1 : Nat} {s s1 : Len} {cv lv cv7 lv7 : Value} {m : Msg} {to K a r : Int} {w w7 w' : World} {e : Ending} (hT : s.take m = s1.send to K a r) (M7 : RLM w7 B rb s1 cv7 lv7 N1) (hN1 : N1 ≤ N + 1) (hN : N < 8000) (T7 : Tn (OwnR rb cv lv) w w7)
    (O7 : ∀ k, OwnR rb cv7 lv7 k → OwnR rb cv lv k ∨ w.heap.size ≤ k) (hS : SendE rb s1.id s1.sent to K a r 0 w7 e w') : RTakeE B rb N s cv lv m w e w' := by
  obtain ⟨g, rfl, hg, hM, hb⟩ := hS
  obtain ⟨M8, T8⟩ := M7.sent1 (by omega) hb
  exact ⟨_, cv7, lv7, rfl, by rw [hT]; exact ⟨g, Nat.le_trans T7.size hg, rfl, hM⟩, by rw [hT]; exact M8.mono (by omega) (by omega), T7.then_ T8 fun k hk => O7 k (.inl hk), O7⟩
/-- What the search for a deal has found. -/
def FoundAt (L : List Deal) (a r : Int) (j : Nat) (q : Int) : Prop :=
  (q = -1 ∧ ∀ p, p < j → ∀ d, L[p]? = some d → ¬ (d.a = a ∧ d.r = r)) ∨ ∃ p d, p < j ∧ q = (p : Nat) ∧ L[p]? = some d ∧ d.a = a ∧ d.r = r
theorem FoundAt.step {L : List Deal} {a r : Int} {j : Nat} {q : Int} {d : Deal} (h : FoundAt L a r j q) (hd : L[j]? = some d) (hn : ¬ (d.a = a ∧ d.r = r)) : FoundAt L a r (j + 1) q := by
  rcases h with ⟨h1, h2⟩ | ⟨p, e, h1, h2⟩
  · refine .inl ⟨h1, fun p hp e he => ?_⟩
    rcases (by omega : p < j ∨ p = j) with h3 | rfl
    · exact h2 p h3 e he
    · rw [hd] at he; injection he with he; subst he; exact hn
  · exact .inr ⟨p, e, by omega, h2⟩
set_option maxRecDepth 100000 in
set_option maxHeartbeats 8000000 in
theorem rTake_any (B rb N : Nat) (s : Len) (cv lv : Value) (m : Msg) (w : World) (h : RLM w B rb s cv lv N) (hB : B ≤ w.heap.size) (hN : N < 8000) (ht : m.text.length ≤ 1000000) :
    Calls Tryz.prog 32 #[.pointer (some ⟨rb, 0, none⟩), .agg (encM m)] w (RTakeE B rb N s cv lv m w) := by
  have H := Lib.hid h
  have HB := Lib.hid hB
  obtain ⟨f, t, n, x⟩ := m
  have HM : RowKit.Hid (∃ mm : Msg, mm = ⟨f, t, n, x⟩) := Lib.hid ⟨_, rfl⟩
  obtain ⟨mm, hmm⟩ := HM.out
  have FN : RowKit.Hid (s.take ⟨f, t, n, x⟩ = (s, []) → ∀ W, Below w.heap.size w W → RTakeE B rb N s cv lv ⟨f, t, n, x⟩ w (.returned (.slice none 0 0)) W) := Lib.hid fun e W hW =>
    ⟨_, cv, lv, rfl, by rw [e]; rfl, by rw [e]; exact (H.out.up hW).mono (by omega) (by omega), Tn.of_below hW, fun k h => .inl h⟩
  obtain ⟨la, lcap, hlv, ld1, ld2, lxl, hlc⟩ := row_cellz h.deals
  have hlcap : lcap ≤ 9223372036854775807 := by unfold maxLen at ld2; omega
  have hLl : s.L.length ≤ 10000 := by have := h.len; omega
  have HLV := Lib.hid hlv
  have HLC := Lib.hid hlc
  have hbl := h.blk.lt
  clear h hB hmm HM ld2 lxl hlc hlv
  go_enter Tryz.func32, Tryz.ntmps32
  unfold encM
  go_wp2_with fail
  obtain ⟨mb, hmb⟩ : ∃ mb, mb = w.heap.size := ⟨_, rfl⟩
  obtain ⟨w1, hw1⟩ : ∃ w1, w1 = w.alloc (.cells #[i64 f, i64 t, i64 n, strV x] 31) := ⟨_, rfl⟩
  have MB : RowKit.Hid (Blk w1 mb #[i64 f, i64 t, i64 n, strV x] 31) := Lib.hid (by rw [hw1, hmb]; exact Blk.new _ _ _)
  have B1 : RowKit.Hid (Below w.heap.size w w1) := Lib.hid (by rw [hw1]; exact (Below.refl _ _).alloc (Nat.le_refl _) _)
  have HMB := Lib.hid hmb
  rw [← hw1, ← hmb]
  clear hw1 hmb
  have m3 : w1.cell? ⟨mb, 3, none⟩ = some (strV x) := MB.out.cell 3
  go_wp2_with fail
  refine (read_any x w1 ht).mono ?_
  rintro e w2 ⟨hR, hb⟩
  have MB2 := Lib.hid (MB.out.below hb MB.out.lt)
  have B2 := Lib.hid (B1.out.trans (hb.mono B1.out.size))
  clear hb m3 MB B1
  have M2 := Lib.hid (H.out.up B2.out)
  have m0 : w2.cell? ⟨mb, 0, none⟩ = some (i64 f) := MB2.out.cell 0
  have m1 : w2.cell? ⟨mb, 1, none⟩ = some (i64 t) := MB2.out.cell 1
  have i0 : w2.cell? ⟨rb, 0, none⟩ = some (i64 s.id) := M2.out.blk.cell 0
  have c3 : w2.cell? ⟨rb, 3, none⟩ = some (.slice la s.L.length lcap) := (M2.out.blk.cell 3).trans (congrArg some HLV.out)
  rcases hR with ⟨⟨k, a, r, v⟩, b', o, cap, hd, rfl, hc1, hc2, c0, c1, c2, c4⟩ | ⟨hd, va, vn, vc, rfl⟩
  · have HD := Lib.hid hd
    dsimp only at c0 c1 c2 c4
    clear hd
    by_cases hto : t = s.id
    · subst hto
      have RC : RowKit.Hid (w2.cell? ⟨b', o, none⟩ = some (i64 k) ∧ w2.cell? ⟨b', o + 1, none⟩ = some (i64 a) ∧ w2.cell? ⟨b', o + 2, none⟩ = some (i64 r) ∧ w2.cell? ⟨b', o + 3, none⟩ = some (i64 v)) := Lib.hid ⟨c0, c1, c2, c4⟩
      go_wp2_with fail
      go_quiet (fail)
      go_wp2_with fail
      go_loopw [7, 8] (fun kk i wr => (∃ n, wr = w2.drewN n) ∧ ∃ j : Nat, j ≤ s.L.length ∧ i = .int .i64 j ∧ ∃ q : Int, kk = .int .i64 q ∧ FoundAt s.L a r j q) (fun _ i _ => s.L.length - (intOf i).toNat)
      case atStart => exact ⟨⟨_, rfl⟩, 0, Nat.zero_le _, rfl, _, rfl, .inl ⟨rfl, fun p hp => absurd hp (Nat.not_lt_zero _)⟩⟩
      case round =>
        obtain ⟨⟨n3, hn3⟩, j, hj, rfl, q, rfl, hq⟩ := hrel
        have HQ := Lib.hid hq
        have M3 : RowKit.Hid (RLM wr B rb s cv lv N) := Lib.hid (hn3 ▸ M2.out.up (bdrewN (Below.refl _ _) n3))
        have MB3 : RowKit.Hid (Blk wr mb #[i64 f, i64 s.id, i64 n, strV x] 31) := Lib.hid (hn3 ▸ MB2.out.drewN n3)
        have R3 : RowKit.Hid (wr.cell? ⟨b', o, none⟩ = some (i64 k) ∧ wr.cell? ⟨b', o + 1, none⟩ = some (i64 a) ∧ wr.cell? ⟨b', o + 2, none⟩ = some (i64 r) ∧ wr.cell? ⟨b', o + 3, none⟩ = some (i64 v)) := Lib.hid (hn3 ▸ RC.out)
        have B3 : RowKit.Hid (Below w.heap.size w wr) := Lib.hid (hn3 ▸ bdrewN B2.out n3)
        have HN3 := Lib.hid hn3
        clear c0 c1 c2 c4 c3 i0 m0 m1 hq hn3
        have c3 : wr.cell? ⟨rb, 3, none⟩ = some (.slice la s.L.length lcap) := (M3.out.blk.cell 3).trans (congrArg some HLV.out)
        obtain ⟨c0, c1, c2, c4⟩ := R3.out
        have m0 : wr.cell? ⟨mb, 0, none⟩ = some (i64 f) := MB3.out.cell 0
        by_cases hlt : j < s.L.length
        · obtain ⟨g, rfl, -⟩ := HLC.out.resolve_left (fun h => by omega)
          obtain ⟨d, hd⟩ : ∃ d, s.L[j]? = some d := ⟨_, List.getElem?_eq_getElem hlt⟩
          obtain ⟨d0, d1, d2, d3⟩ := M3.out.deal hd HLV.out
          have HD2 := Lib.hid hd
          clear hd
          by_cases h1 : d.a = a
          · by_cases h2 : d.r = r
            · go_wp2_with fail
              go_quiet (fail)
              go_wp2_with fail
              refine ⟨⟨⟨_, by rw [HN3.out, drewN_add]⟩, j + 1, hlt, by go_num, _, rfl, .inr ⟨j, d, by omega, rfl, HD2.out, h1, h2⟩⟩, by simp [intOf]; omega⟩
            · go_wp2_with fail
              go_quiet (fail)
              go_wp2_with fail
              refine ⟨⟨⟨_, by rw [HN3.out, drewN_add]⟩, j + 1, hlt, by go_num, _, rfl, HQ.out.step HD2.out fun h => h2 h.2⟩, by simp [intOf]; omega⟩
          · go_wp2_with fail
            go_quiet (fail)
            go_wp2_with fail
            refine ⟨⟨⟨_, by rw [HN3.out, drewN_add]⟩, j + 1, hlt, by go_num, _, rfl, HQ.out.step HD2.out fun h => h1 h.1⟩, by simp [intOf]; omega⟩
        · have hk2 : j = s.L.length := by omega
          subst hk2
          rcases HQ.out with ⟨rfl, hmiss⟩ | ⟨p, d, hp, rfl, hd, hda, hdr⟩
          · have HAT : RowKit.Hid (at_ s.L a r = none) := Lib.hid (at_miss fun j d hj => hmiss j (List.getElem?_eq_some_iff.1 hj).1 d hj)
            clear hmiss
            by_cases hw : k = 2 ∧ f = 0
            · obtain ⟨rfl, rfl⟩ := hw
              obtain ⟨S5, hS5⟩ : ∃ S : World → Prop, S = fun W => ∃ n, W = wr.drewN n := ⟨_, rfl⟩
              have LD5 : RowKit.Hid (∀ W, S5 W → W.cell? ⟨b', o + 1, none⟩ = some (i64 a) ∧ W.cell? ⟨b', o + 2, none⟩ = some (i64 r) ∧ W.cell? ⟨b', o + 3, none⟩ = some (i64 v)) := Lib.hid (by rw [hS5]; rintro W ⟨n, rfl⟩; exact ⟨R3.out.2.1, R3.out.2.2.1, R3.out.2.2.2⟩)
              have SS5 : RowKit.Hid (∀ W, S5 W → ∃ n, W = wr.drewN n) := Lib.hid (by rw [hS5]; exact fun W h => h)
              have hHeld : S5 wr.drew := by rw [hS5]; exact ⟨1, rfl⟩
              have HI := Lib.hid (dec_some.1 HD.out).1
              clear hS5
              go_wp2_with fail
              refine wp_region_sp 10 S5 (by kernel_rfl) (by kernel_rfl) ?_
              simp only [List.take_succ_cons, List.take_zero]
              apply wpAnyH_apart S5
              case take =>
                intro R hR
                refine wpAnyH_take (i := 0) (v := ?_) rfl (by kernel_rfl) (by kernel_rfl) (by kernel_rfl) (fun _ _ _ h => only_panic h) (Or.inl ⟨by rfl, ?_⟩) hHeld ?_
                rotate_left
                · (intro w hSw; obtain ⟨l1, l2, l3⟩ := LD5.out w hSw; go_simp; try (with_reducible rfl))
                try simp only [gA, gB, gC, Act.put, gD, gE, gF]
                refine wpAnyH_take (i := 1) (v := ?_) rfl (by kernel_rfl) (by kernel_rfl) (by kernel_rfl) (fun _ _ _ h => only_panic h) (Or.inl ⟨by rfl, ?_⟩) hHeld ?_
                rotate_left
                · (intro w hSw; obtain ⟨l1, l2, l3⟩ := LD5.out w hSw; go_simp; try (with_reducible rfl))
                try simp only [gA, gB, gC, Act.put, gD, gE, gF]
                refine wpAnyH_take (i := 2) (v := ?_) rfl (by kernel_rfl) (by kernel_rfl) (by kernel_rfl) (fun _ _ _ h => only_panic h) (Or.inl ⟨by rfl, ?_⟩) hHeld ?_
                rotate_left
                · (intro w hSw; obtain ⟨l1, l2, l3⟩ := LD5.out w hSw; go_simp; try (with_reducible rfl))
                try simp only [gA, gB, gC, Act.put, gD, gE, gF]
                refine wpAnyH_take (i := 3) (v := ?_) rfl (by kernel_rfl) (by kernel_rfl) (by kernel_rfl) (fun _ _ _ h => only_panic h) (Or.inl ⟨by rfl, ?_⟩) hHeld ?_
                rotate_left
                · (intro w hSw; obtain ⟨l1, l2, l3⟩ := LD5.out w hSw; go_simp; try (with_reducible rfl))
                try simp only [gA, gB, gC, Act.put, gD, gE, gF]
                refine wpAnyH_take (i := 4) (v := ?_) rfl (by kernel_rfl) (by kernel_rfl) (by kernel_rfl) (fun _ _ _ h => only_panic h) (Or.inl ⟨by rfl, ?_⟩) hHeld ?_
                rotate_left
                · (intro w hSw; obtain ⟨l1, l2, l3⟩ := LD5.out w hSw; go_simp; try (with_reducible rfl))
                try simp only [gA, gB, gC, Act.put, gD, gE, gF]
                refine wpAnyH_take (i := 5) (v := ?_) rfl (by kernel_rfl) (by kernel_rfl) (by kernel_rfl) (fun _ _ _ h => only_panic h) (Or.inl ⟨by rfl, ?_⟩) hHeld ?_
                rotate_left
                · (intro w hSw; obtain ⟨l1, l2, l3⟩ := LD5.out w hSw; go_simp; try (with_reducible rfl))
                try simp only [gA, gB, gC, Act.put, gD, gE, gF]
                refine wpAnyH_take (i := 6) (v := ?_) rfl (by kernel_rfl) (by kernel_rfl) (by kernel_rfl) (fun _ _ _ h => only_panic h) (Or.inl ⟨by rfl, ?_⟩) hHeld ?_
                rotate_left
                · (intro w hSw; obtain ⟨l1, l2, l3⟩ := LD5.out w hSw; go_simp; try (with_reducible rfl))
                try simp only [gA, gB, gC, Act.put, gD, gE, gF]
                refine wpAnyH_take (i := 7) (v := ?_) rfl (by kernel_rfl) (by kernel_rfl) (by kernel_rfl) (fun _ _ _ h => only_panic h) (Or.inl ⟨by rfl, ?_⟩) hHeld ?_
                rotate_left
                · (intro w hSw; obtain ⟨l1, l2, l3⟩ := LD5.out w hSw; go_simp; try (with_reducible rfl))
                try simp only [gA, gB, gC, Act.put, gD, gE, gF]
                refine wpAnyH_take (i := 8) (v := ?_) rfl (by kernel_rfl) (by kernel_rfl) (by kernel_rfl) (fun _ _ _ h => only_panic h) (Or.inl ⟨by rfl, ?_⟩) hHeld ?_
                rotate_left
                · (intro w hSw; obtain ⟨l1, l2, l3⟩ := LD5.out w hSw; go_simp; try (with_reducible rfl))
                try simp only [gA, gB, gC, Act.put, gD, gE, gF]
                refine wpAnyH_take (i := 9) (v := ?_) rfl (by kernel_rfl) (by kernel_rfl) (by kernel_rfl) (fun _ _ _ h => only_panic h) (Or.inl ⟨by rfl, ?_⟩) hHeld ?_
                rotate_left
                · (intro w hSw; obtain ⟨l1, l2, l3⟩ := LD5.out w hSw; go_simp; try (with_reducible rfl))
                try simp only [gA, gB, gC, Act.put, gD, gE, gF]
                exact wpAnyH_done (by kernel_rfl) ⟨rfl, hR _ hHeld⟩ _
              intro W hW
              obtain ⟨n5, rfl⟩ := SS5.out W hW
              simp only [endN, List.drop_succ_cons, List.drop_zero, Act.put, List.setIfInBounds_toArray, List.set_cons_zero, List.set_cons_succ]
              have M5 : RowKit.Hid (RLM (wr.drewN n5) B rb s cv lv N) := Lib.hid (M3.out.up (bdrewN (Below.refl _ _) n5))
              have B5 : RowKit.Hid (Below w.heap.size w (wr.drewN n5)) := Lib.hid (bdrewN B3.out n5)
              clear hHeld hW SS5 LD5 S5
              go_wp2_with fail
              refine (rdeal_any B rb N s cv lv a r v (wr.drewN n5) M5.out (Nat.le_trans HB.out B5.out.size) (by omega) HI.out.2.1 HI.out.2.2.1 HI.out.2.2.2 HAT.out).mono ?_
              rintro e w6 ⟨rfl, cv6, lv6, hM6, hT6, hO6⟩
              have M6 := Lib.hid hM6
              have T6 : RowKit.Hid (Tn (OwnR rb cv lv) w w6) := Lib.hid ((Tn.of_below B5.out).trans hT6)
              have O6 : RowKit.Hid (∀ k, OwnR rb cv6 lv6 k → OwnR rb cv lv k ∨ w.heap.size ≤ k) := Lib.hid fun k hk => (hO6 k hk).imp id fun h => Nat.le_trans B5.out.size h
              clear hM6 hT6 hO6 c0 c1 c2 c4 c3 m0
              rcases at_ways (s := s) a r v with ⟨hv, hde⟩ | ⟨hv, hde⟩
              · have HT : RowKit.Hid (s.take ⟨0, s.id, n, x⟩ = (s.deal a r v).send 0 3 a r) := Lib.hid (by rw [take_want HD.out rfl rfl, HAT.out]; show (s.deal a r v).send 0 (if v ∈ s.here then 3 else 4) a r = _; rw [if_pos hv])
                have hLd : (s.deal a r v).L[s.L.length]? = some ⟨a, r, v, 2⟩ := by rw [hde]; simp
                have hLe : (s.deal a r v).L.length = s.L.length + 1 := by rw [hde]; simp
                have hid : (s.deal a r v).id = s.id ∧ (s.deal a r v).sent = s.sent := by rw [hde]; exact ⟨rfl, rfl⟩
                obtain ⟨la6, cap6, hlv6, q1, q2, q3, q4⟩ := row_cellz M6.out.deals
                rw [hLe] at hlv6 q1 q4
                obtain ⟨g6, rfl, -⟩ := q4.resolve_left (fun h => by omega)
                obtain ⟨d0, d1, d2, d3⟩ := M6.out.deal hLd hlv6
                dsimp only at d0 d1 d2 d3
                have c3 : w6.cell? ⟨rb, 3, none⟩ = some (.slice (some ⟨g6, 0, none⟩) (s.L.length + 1) cap6) := (M6.out.blk.cell 3).trans (congrArg some hlv6)
                have q2' : cap6 ≤ 9223372036854775807 := by unfold maxLen at q2; omega
                have hsn : 0 ≤ s.sent ∧ s.sent < 1000000000 := by have := H.out.sent; omega
                have k0 : w6.cell? ⟨rb, 0, none⟩ = some (i64 s.id) := (M6.out.blk.cell 0).trans (by rw [hid.1]; rfl)
                have k1 : w6.cell? ⟨rb, 1, none⟩ = some (i64 s.sent) := (M6.out.blk.cell 1).trans (by rw [hid.2]; rfl)
                have RS := Lib.hid (rsend_any rb s.id s.sent 0 3 a r v 2 w6 k0 k1 (M6.out.blk.frozen 1) hsn ⟨by omega, by omega⟩ HI.out.2.1 HI.out.2.2.1)
                have HID := Lib.hid hid
                clear hde hLd hLe hid hlv6 q2 q3 q4 k0 k1 hsn hv
                go_wp2_with fail
                refine RS.out.mono ?_
                rintro e w7 hS7
                have F : RowKit.Hid (RTakeE B rb N s cv lv ⟨0, s.id, n, x⟩ w e w7) := Lib.hid (rtake_send HT.out M6.out (by omega) hN T6.out O6.out (by rw [HID.out.1, HID.out.2]; exact hS7))
                obtain ⟨g7, rfl, -⟩ := hS7
                go_wp2_with fail
                go_ret
                exact F.out
              · have HT : RowKit.Hid (s.take ⟨0, s.id, n, x⟩ = (s.deal a r v).send 0 4 a r) := Lib.hid (by rw [take_want HD.out rfl rfl, HAT.out]; show (s.deal a r v).send 0 (if v ∈ s.here then 3 else 4) a r = _; rw [if_neg hv])
                have hLd : (s.deal a r v).L[s.L.length]? = some ⟨a, r, v, 1⟩ := by rw [hde]; simp
                have hLe : (s.deal a r v).L.length = s.L.length + 1 := by rw [hde]; simp
                have hid : (s.deal a r v).id = s.id ∧ (s.deal a r v).sent = s.sent := by rw [hde]; exact ⟨rfl, rfl⟩
                obtain ⟨la6, cap6, hlv6, q1, q2, q3, q4⟩ := row_cellz M6.out.deals
                rw [hLe] at hlv6 q1 q4
                obtain ⟨g6, rfl, -⟩ := q4.resolve_left (fun h => by omega)
                obtain ⟨d0, d1, d2, d3⟩ := M6.out.deal hLd hlv6
                dsimp only at d0 d1 d2 d3
                have c3 : w6.cell? ⟨rb, 3, none⟩ = some (.slice (some ⟨g6, 0, none⟩) (s.L.length + 1) cap6) := (M6.out.blk.cell 3).trans (congrArg some hlv6)
                have q2' : cap6 ≤ 9223372036854775807 := by unfold maxLen at q2; omega
                have hsn : 0 ≤ s.sent ∧ s.sent < 1000000000 := by have := H.out.sent; omega
                have k0 : w6.cell? ⟨rb, 0, none⟩ = some (i64 s.id) := (M6.out.blk.cell 0).trans (by rw [hid.1]; rfl)
                have k1 : w6.cell? ⟨rb, 1, none⟩ = some (i64 s.sent) := (M6.out.blk.cell 1).trans (by rw [hid.2]; rfl)
                have RS := Lib.hid (rsend_any rb s.id s.sent 0 4 a r v 1 w6 k0 k1 (M6.out.blk.frozen 1) hsn ⟨by omega, by omega⟩ HI.out.2.1 HI.out.2.2.1)
                have HID := Lib.hid hid
                clear hde hLd hLe hid hlv6 q2 q3 q4 k0 k1 hsn hv
                go_wp2_with fail
                refine RS.out.mono ?_
                rintro e w7 hS7
                have F : RowKit.Hid (RTakeE B rb N s cv lv ⟨0, s.id, n, x⟩ w e w7) := Lib.hid (rtake_send HT.out M6.out (by omega) hN T6.out O6.out (by rw [HID.out.1, HID.out.2]; exact hS7))
                obtain ⟨g7, rfl, -⟩ := hS7
                go_wp2_with fail
                go_ret
                exact F.out
            · have hX : RowKit.Hid (s.take ⟨f, s.id, n, x⟩ = (s, [])) := Lib.hid (by rw [take_other HD.out rfl hw, HAT.out])
              have F := Lib.hid (FN.out hX.out)
              by_cases hk2 : k = 2
              · have hf0 : ¬ f = 0 := fun e => hw ⟨hk2, e⟩
                clear hw
                subst hk2
                go_wp2_with fail
                go_quiet (fail)
                go_wp2_with fail
                go_ret
                exact F.out _ (bdrewN B3.out _)
              · clear hw
                go_wp2_with fail
                go_quiet (fail)
                go_wp2_with fail
                go_ret
                exact F.out _ (bdrewN B3.out _)
          · obtain ⟨da, dr, dt, ds⟩ := d
            dsimp only at hda hdr
            subst hda hdr
            obtain ⟨g, rfl, -⟩ := HLC.out.resolve_left (fun h => by omega)
            have HAT := Lib.hid (rat_hit (d := ⟨da, dr, dt, ds⟩) ⟨rfl, rfl⟩ 0 H.out.keys hd).1
            have HDD := Lib.hid hd
            obtain ⟨d0, d1, d2, d3⟩ := M3.out.deal hd HLV.out
            dsimp only at d0 d1 d2 d3
            have DST : RowKit.Hid (1 ≤ ds ∧ ds ≤ 5) := Lib.hid (H.out.ids.2 _ (List.mem_of_getElem? hd)).2.2.2
            clear hd
            by_cases hw : k = 2 ∧ f = 0
            · obtain ⟨rfl, rfl⟩ := hw
              by_cases hst : ds = 1
              · subst hst
                have HT : RowKit.Hid (s.take ⟨0, s.id, n, x⟩ = s.send 0 4 da dr) := Lib.hid (by rw [take_want HD.out rfl rfl, HAT.out]; rfl)
                have HI := Lib.hid (dec_some.1 HD.out).1
                have hsn : 0 ≤ s.sent ∧ s.sent < 1000000000 := by have := H.out.sent; omega
                have RS := Lib.hid (rsend_any rb s.id s.sent 0 4 da dr dt 1 wr (M3.out.blk.cell 0) (M3.out.blk.cell 1) (M3.out.blk.frozen 1) hsn ⟨by omega, by omega⟩ HI.out.2.1 HI.out.2.2.1)
                clear hsn
                go_wp2_with fail
                refine RS.out.mono ?_
                rintro e w7 hS7
                have F : RowKit.Hid (RTakeE B rb N s cv lv ⟨0, s.id, n, x⟩ w e w7) := Lib.hid (rtake_send HT.out M3.out (by omega) hN (Tn.of_below B3.out) (fun k hk => .inl hk) hS7)
                obtain ⟨g7, rfl, -⟩ := hS7
                go_wp2_with fail
                go_ret
                exact F.out
              · have HT : RowKit.Hid (s.take ⟨0, s.id, n, x⟩ = s.send 0 3 da dr) := Lib.hid (by rw [take_want HD.out rfl rfl, HAT.out]; show s.send 0 (if ds = 1 then 4 else 3) da dr = _; rw [if_neg hst])
                have HI := Lib.hid (dec_some.1 HD.out).1
                have hsn : 0 ≤ s.sent ∧ s.sent < 1000000000 := by have := H.out.sent; omega
                have RS := Lib.hid (rsend_any rb s.id s.sent 0 3 da dr dt ds wr (M3.out.blk.cell 0) (M3.out.blk.cell 1) (M3.out.blk.frozen 1) hsn ⟨by omega, by omega⟩ HI.out.2.1 HI.out.2.2.1)
                clear hsn
                go_wp2_with fail
                refine RS.out.mono ?_
                rintro e w7 hS7
                have F : RowKit.Hid (RTakeE B rb N s cv lv ⟨0, s.id, n, x⟩ w e w7) := Lib.hid (rtake_send HT.out M3.out (by omega) hN (Tn.of_below B3.out) (fun k hk => .inl hk) hS7)
                obtain ⟨g7, rfl, -⟩ := hS7
                go_wp2_with fail
                go_ret
                exact F.out
            · have HTO := Lib.hid (take_other (m := ⟨f, s.id, n, x⟩) HD.out rfl hw)
              by_cases hfa : f = da
              · subst hfa
                have nil : RowKit.Hid ((ans k = none ∨ ∀ p q, ans k = some (p, q) → ds ≠ p ∧ ds ≠ q) → ∀ W, Below w.heap.size w W → RTakeE B rb N s cv lv ⟨f, s.id, n, x⟩ w (.returned (.slice none 0 0)) W) := Lib.hid fun hn => FN.out (by
                  rw [HTO.out, HAT.out]
                  dsimp only
                  cases ha : ans k with
                  | none => rfl
                  | some y =>
                    obtain ⟨p', q'⟩ := y
                    dsimp only
                    rcases hn with hn | hn
                    · rw [hn] at ha; cases ha
                    · rw [if_pos (.inr (hn p' q' ha))])
                have yes : RowKit.Hid (∀ p' q' : Nat, ans k = some (p', q') → ds = p' ∨ ds = q' → s.take ⟨f, s.id, n, x⟩ = ({ s with here := if ds = 4 ∧ q' = 5 then ins dt s.here else s.here, L := setSt s.L f dr q' } : Len).send f (kd q') f dr) := Lib.hid fun p' q' ha hx => by
                  rw [HTO.out, HAT.out]
                  dsimp only
                  rw [ha]
                  dsimp only
                  rw [if_neg]
                  rintro (h | ⟨h1, h2⟩)
                  · exact h rfl
                  · exact hx.elim h1 h2
                clear HTO
                by_cases hk7 : k = 7
                · subst hk7
                  clear hw
                  by_cases hs2 : ds = 2
                  · subst hs2
                    have HT : RowKit.Hid (s.take ⟨f, s.id, n, x⟩ = ({ s with here := s.here, L := setSt s.L f dr 3 } : Len).send f 8 f dr) := Lib.hid (yes.out 2 3 (by simp [ans]) (by omega))
                    have fd := World.ownsRow.frozenAt (HLV.out ▸ M3.out.deals) (p * 4 + 3)
                    have HI := Lib.hid (dec_some.1 HD.out).1
                    go_wp2_with fail
                    go_quiet (fail)
                    go_wp2_with fail
                    obtain ⟨w7, hw7⟩ : ∃ w7, w7 = (wr.drewN nq).setCell ⟨g, p * 4 + 3, none⟩ (.int .i64 3) := ⟨_, rfl⟩
                    obtain ⟨M7, T7⟩ := (M3.out.up (bdrewN (Below.refl _ _) nq)).state (q := 3) (a := f) (r := dr) HDD.out ⟨rfl, rfl⟩ HLV.out ⟨by omega, by omega⟩
                    have M7 : RowKit.Hid (RLM w7 B rb { s with here := s.here, L := setSt s.L f dr 3 } cv lv N) := Lib.hid (by rw [hw7]; exact M7)
                    have T7 : RowKit.Hid (Tn (OwnR rb cv lv) w w7) := Lib.hid (by rw [hw7]; exact (Tn.of_below (bdrewN B3.out nq)).then_ T7 fun k hk => .inl (.inr (.inr hk)))
                    rw [← hw7]
                    clear hw7 fd
                    have O7 : RowKit.Hid (∀ k, OwnR rb cv lv k → OwnR rb cv lv k ∨ w.heap.size ≤ k) := Lib.hid fun k hk => .inl hk
                    have hL7 : (setSt s.L f dr 3)[p]? = some ⟨f, dr, dt, 3⟩ := by
                      rw [(rat_hit (d := ⟨f, dr, dt, _⟩) ⟨rfl, rfl⟩ 3 H.out.keys HDD.out).2, List.getElem?_set_self (List.getElem?_eq_some_iff.1 HDD.out).1]
                    have DC := Lib.hid (M7.out.deal hL7 HLV.out)
                    clear hL7
                    obtain ⟨S8, hS8⟩ : ∃ S : World → Prop, S = fun W => ∃ n, W = w7.drewN n := ⟨_, rfl⟩
                    have LD8 : RowKit.Hid (∀ W, S8 W → W.cell? ⟨g, p * 4, none⟩ = some (i64 f) ∧ W.cell? ⟨g, p * 4 + 1, none⟩ = some (i64 dr) ∧ W.cell? ⟨g, p * 4 + 2, none⟩ = some (i64 dt) ∧ W.cell? ⟨g, p * 4 + 3, none⟩ = some (i64 3)) := Lib.hid (by rw [hS8]; rintro W ⟨n, rfl⟩; exact DC.out)
                    have SS8 : RowKit.Hid (∀ W, S8 W → ∃ n, W = w7.drewN n) := Lib.hid (by rw [hS8]; exact fun W h => h)
                    have hHeld : S8 w7.drew := by rw [hS8]; exact ⟨1, rfl⟩
                    clear hS8
                    refine wp_region_sp 8 S8 (by kernel_rfl) (by kernel_rfl) ?_
                    simp only [List.take_succ_cons, List.take_zero]
                    apply wpAnyH_apart S8
                    case take =>
                      intro R hR
                      refine wpAnyH_take (i := 0) (v := ?_) rfl (by kernel_rfl) (by kernel_rfl) (by kernel_rfl) (fun _ _ _ h => only_panic h) (Or.inl ⟨by rfl, ?_⟩) hHeld ?_
                      rotate_left
                      · (intro w hSw; obtain ⟨l0, l1, l2, l3⟩ := LD8.out w hSw; go_simp; try (with_reducible rfl))
                      try simp only [gA, gB, gC, Act.put, gD, gE, gF]
                      refine wpAnyH_take (i := 1) (v := ?_) rfl (by kernel_rfl) (by kernel_rfl) (by kernel_rfl) (fun _ _ _ h => only_panic h) (Or.inl ⟨by rfl, ?_⟩) hHeld ?_
                      rotate_left
                      · (intro w hSw; obtain ⟨l0, l1, l2, l3⟩ := LD8.out w hSw; go_simp; try (with_reducible rfl))
                      try simp only [gA, gB, gC, Act.put, gD, gE, gF]
                      refine wpAnyH_take (i := 2) (v := ?_) rfl (by kernel_rfl) (by kernel_rfl) (by kernel_rfl) (fun _ _ _ h => only_panic h) (Or.inl ⟨by rfl, ?_⟩) hHeld ?_
                      rotate_left
                      · (intro w hSw; obtain ⟨l0, l1, l2, l3⟩ := LD8.out w hSw; go_simp; try (with_reducible rfl))
                      try simp only [gA, gB, gC, Act.put, gD, gE, gF]
                      refine wpAnyH_take (i := 3) (v := ?_) rfl (by kernel_rfl) (by kernel_rfl) (by kernel_rfl) (fun _ _ _ h => only_panic h) (Or.inl ⟨by rfl, ?_⟩) hHeld ?_
                      rotate_left
                      · (intro w hSw; obtain ⟨l0, l1, l2, l3⟩ := LD8.out w hSw; go_simp; try (with_reducible rfl))
                      try simp only [gA, gB, gC, Act.put, gD, gE, gF]
                      refine wpAnyH_take (i := 4) (v := ?_) rfl (by kernel_rfl) (by kernel_rfl) (by kernel_rfl) (fun _ _ _ h => only_panic h) (Or.inl ⟨by rfl, ?_⟩) hHeld ?_
                      rotate_left
                      · (intro w hSw; obtain ⟨l0, l1, l2, l3⟩ := LD8.out w hSw; go_simp; try (with_reducible rfl))
                      try simp only [gA, gB, gC, Act.put, gD, gE, gF]
                      refine wpAnyH_take (i := 5) (v := ?_) rfl (by kernel_rfl) (by kernel_rfl) (by kernel_rfl) (fun _ _ _ h => only_panic h) (Or.inl ⟨by rfl, ?_⟩) hHeld ?_
                      rotate_left
                      · (intro w hSw; obtain ⟨l0, l1, l2, l3⟩ := LD8.out w hSw; go_simp; try (with_reducible rfl))
                      try simp only [gA, gB, gC, Act.put, gD, gE, gF]
                      refine wpAnyH_take (i := 6) (v := ?_) rfl (by kernel_rfl) (by kernel_rfl) (by kernel_rfl) (fun _ _ _ h => only_panic h) (Or.inl ⟨by rfl, ?_⟩) hHeld ?_
                      rotate_left
                      · (intro w hSw; obtain ⟨l0, l1, l2, l3⟩ := LD8.out w hSw; go_simp; try (with_reducible rfl))
                      try simp only [gA, gB, gC, Act.put, gD, gE, gF]
                      refine wpAnyH_take (i := 7) (v := ?_) rfl (by kernel_rfl) (by kernel_rfl) (by kernel_rfl) (fun _ _ _ h => only_panic h) (Or.inl ⟨by rfl, ?_⟩) hHeld ?_
                      rotate_left
                      · (intro w hSw; obtain ⟨l0, l1, l2, l3⟩ := LD8.out w hSw; go_simp; try (with_reducible rfl))
                      try simp only [gA, gB, gC, Act.put, gD, gE, gF]
                      exact wpAnyH_done (by kernel_rfl) ⟨rfl, hR _ hHeld⟩ _
                    intro W hW
                    obtain ⟨n8, rfl⟩ := SS8.out W hW
                    simp only [endN, List.drop_succ_cons, List.drop_zero, Act.put, List.setIfInBounds_toArray, List.set_cons_zero, List.set_cons_succ]
                    have M8 := Lib.hid (M7.out.up (bdrewN (Below.refl _ _) n8))
                    have T8 : RowKit.Hid (Tn (OwnR rb cv lv) w (w7.drewN n8)) := Lib.hid (T7.out.trans (Tn.of_below (bdrewN (Below.refl _ _) n8)))
                    have hsn : 0 ≤ s.sent ∧ s.sent < 1000000000 := by have := H.out.sent; omega
                    have RS := Lib.hid (rsend_any rb s.id s.sent f 8 f dr dt 3 (w7.drewN n8) (M8.out.blk.cell 0) (M8.out.blk.cell 1) (M8.out.blk.frozen 1) hsn ⟨by omega, by omega⟩ HI.out.2.1 HI.out.2.2.1)
                    clear hHeld hW SS8 LD8 S8 hsn
                    go_wp2_with fail
                    refine RS.out.mono ?_
                    rintro e w9 hS9
                    have F : RowKit.Hid (RTakeE B rb N s cv lv ⟨f, s.id, n, x⟩ w e w9) := Lib.hid (rtake_send HT.out M8.out (by omega) hN T8.out O7.out hS9)
                    obtain ⟨g9, rfl, -⟩ := hS9
                    go_wp2_with fail
                    go_ret
                    exact F.out
                  · by_cases hs3 : ds = 3
                    · subst hs3
                      have HT : RowKit.Hid (s.take ⟨f, s.id, n, x⟩ = ({ s with here := s.here, L := setSt s.L f dr 3 } : Len).send f 8 f dr) := Lib.hid (yes.out 2 3 (by simp [ans]) (by omega))
                      have fd := World.ownsRow.frozenAt (HLV.out ▸ M3.out.deals) (p * 4 + 3)
                      have HI := Lib.hid (dec_some.1 HD.out).1
                      go_wp2_with fail
                      go_quiet (fail)
                      go_wp2_with fail
                      obtain ⟨w7, hw7⟩ : ∃ w7, w7 = (wr.drewN nq).setCell ⟨g, p * 4 + 3, none⟩ (.int .i64 3) := ⟨_, rfl⟩
                      obtain ⟨M7, T7⟩ := (M3.out.up (bdrewN (Below.refl _ _) nq)).state (q := 3) (a := f) (r := dr) HDD.out ⟨rfl, rfl⟩ HLV.out ⟨by omega, by omega⟩
                      have M7 : RowKit.Hid (RLM w7 B rb { s with here := s.here, L := setSt s.L f dr 3 } cv lv N) := Lib.hid (by rw [hw7]; exact M7)
                      have T7 : RowKit.Hid (Tn (OwnR rb cv lv) w w7) := Lib.hid (by rw [hw7]; exact (Tn.of_below (bdrewN B3.out nq)).then_ T7 fun k hk => .inl (.inr (.inr hk)))
                      rw [← hw7]
                      clear hw7 fd
                      have O7 : RowKit.Hid (∀ k, OwnR rb cv lv k → OwnR rb cv lv k ∨ w.heap.size ≤ k) := Lib.hid fun k hk => .inl hk
                      have hL7 : (setSt s.L f dr 3)[p]? = some ⟨f, dr, dt, 3⟩ := by
                        rw [(rat_hit (d := ⟨f, dr, dt, _⟩) ⟨rfl, rfl⟩ 3 H.out.keys HDD.out).2, List.getElem?_set_self (List.getElem?_eq_some_iff.1 HDD.out).1]
                      have DC := Lib.hid (M7.out.deal hL7 HLV.out)
                      clear hL7
                      obtain ⟨S8, hS8⟩ : ∃ S : World → Prop, S = fun W => ∃ n, W = w7.drewN n := ⟨_, rfl⟩
                      have LD8 : RowKit.Hid (∀ W, S8 W → W.cell? ⟨g, p * 4, none⟩ = some (i64 f) ∧ W.cell? ⟨g, p * 4 + 1, none⟩ = some (i64 dr) ∧ W.cell? ⟨g, p * 4 + 2, none⟩ = some (i64 dt) ∧ W.cell? ⟨g, p * 4 + 3, none⟩ = some (i64 3)) := Lib.hid (by rw [hS8]; rintro W ⟨n, rfl⟩; exact DC.out)
                      have SS8 : RowKit.Hid (∀ W, S8 W → ∃ n, W = w7.drewN n) := Lib.hid (by rw [hS8]; exact fun W h => h)
                      have hHeld : S8 w7.drew := by rw [hS8]; exact ⟨1, rfl⟩
                      clear hS8
                      refine wp_region_sp 8 S8 (by kernel_rfl) (by kernel_rfl) ?_
                      simp only [List.take_succ_cons, List.take_zero]
                      apply wpAnyH_apart S8
                      case take =>
                        intro R hR
                        refine wpAnyH_take (i := 0) (v := ?_) rfl (by kernel_rfl) (by kernel_rfl) (by kernel_rfl) (fun _ _ _ h => only_panic h) (Or.inl ⟨by rfl, ?_⟩) hHeld ?_
                        rotate_left
                        · (intro w hSw; obtain ⟨l0, l1, l2, l3⟩ := LD8.out w hSw; go_simp; try (with_reducible rfl))
                        try simp only [gA, gB, gC, Act.put, gD, gE, gF]
                        refine wpAnyH_take (i := 1) (v := ?_) rfl (by kernel_rfl) (by kernel_rfl) (by kernel_rfl) (fun _ _ _ h => only_panic h) (Or.inl ⟨by rfl, ?_⟩) hHeld ?_
                        rotate_left
                        · (intro w hSw; obtain ⟨l0, l1, l2, l3⟩ := LD8.out w hSw; go_simp; try (with_reducible rfl))
                        try simp only [gA, gB, gC, Act.put, gD, gE, gF]
                        refine wpAnyH_take (i := 2) (v := ?_) rfl (by kernel_rfl) (by kernel_rfl) (by kernel_rfl) (fun _ _ _ h => only_panic h) (Or.inl ⟨by rfl, ?_⟩) hHeld ?_
                        rotate_left
                        · (intro w hSw; obtain ⟨l0, l1, l2, l3⟩ := LD8.out w hSw; go_simp; try (with_reducible rfl))
                        try simp only [gA, gB, gC, Act.put, gD, gE, gF]
                        refine wpAnyH_take (i := 3) (v := ?_) rfl (by kernel_rfl) (by kernel_rfl) (by kernel_rfl) (fun _ _ _ h => only_panic h) (Or.inl ⟨by rfl, ?_⟩) hHeld ?_
                        rotate_left
                        · (intro w hSw; obtain ⟨l0, l1, l2, l3⟩ := LD8.out w hSw; go_simp; try (with_reducible rfl))
                        try simp only [gA, gB, gC, Act.put, gD, gE, gF]
                        refine wpAnyH_take (i := 4) (v := ?_) rfl (by kernel_rfl) (by kernel_rfl) (by kernel_rfl) (fun _ _ _ h => only_panic h) (Or.inl ⟨by rfl, ?_⟩) hHeld ?_
                        rotate_left
                        · (intro w hSw; obtain ⟨l0, l1, l2, l3⟩ := LD8.out w hSw; go_simp; try (with_reducible rfl))
                        try simp only [gA, gB, gC, Act.put, gD, gE, gF]
                        refine wpAnyH_take (i := 5) (v := ?_) rfl (by kernel_rfl) (by kernel_rfl) (by kernel_rfl) (fun _ _ _ h => only_panic h) (Or.inl ⟨by rfl, ?_⟩) hHeld ?_
                        rotate_left
                        · (intro w hSw; obtain ⟨l0, l1, l2, l3⟩ := LD8.out w hSw; go_simp; try (with_reducible rfl))
                        try simp only [gA, gB, gC, Act.put, gD, gE, gF]
                        refine wpAnyH_take (i := 6) (v := ?_) rfl (by kernel_rfl) (by kernel_rfl) (by kernel_rfl) (fun _ _ _ h => only_panic h) (Or.inl ⟨by rfl, ?_⟩) hHeld ?_
                        rotate_left
                        · (intro w hSw; obtain ⟨l0, l1, l2, l3⟩ := LD8.out w hSw; go_simp; try (with_reducible rfl))
                        try simp only [gA, gB, gC, Act.put, gD, gE, gF]
                        refine wpAnyH_take (i := 7) (v := ?_) rfl (by kernel_rfl) (by kernel_rfl) (by kernel_rfl) (fun _ _ _ h => only_panic h) (Or.inl ⟨by rfl, ?_⟩) hHeld ?_
                        rotate_left
                        · (intro w hSw; obtain ⟨l0, l1, l2, l3⟩ := LD8.out w hSw; go_simp; try (with_reducible rfl))
                        try simp only [gA, gB, gC, Act.put, gD, gE, gF]
                        exact wpAnyH_done (by kernel_rfl) ⟨rfl, hR _ hHeld⟩ _
                      intro W hW
                      obtain ⟨n8, rfl⟩ := SS8.out W hW
                      simp only [endN, List.drop_succ_cons, List.drop_zero, Act.put, List.setIfInBounds_toArray, List.set_cons_zero, List.set_cons_succ]
                      have M8 := Lib.hid (M7.out.up (bdrewN (Below.refl _ _) n8))
                      have T8 : RowKit.Hid (Tn (OwnR rb cv lv) w (w7.drewN n8)) := Lib.hid (T7.out.trans (Tn.of_below (bdrewN (Below.refl _ _) n8)))
                      have hsn : 0 ≤ s.sent ∧ s.sent < 1000000000 := by have := H.out.sent; omega
                      have RS := Lib.hid (rsend_any rb s.id s.sent f 8 f dr dt 3 (w7.drewN n8) (M8.out.blk.cell 0) (M8.out.blk.cell 1) (M8.out.blk.frozen 1) hsn ⟨by omega, by omega⟩ HI.out.2.1 HI.out.2.2.1)
                      clear hHeld hW SS8 LD8 S8 hsn
                      go_wp2_with fail
                      refine RS.out.mono ?_
                      rintro e w9 hS9
                      have F : RowKit.Hid (RTakeE B rb N s cv lv ⟨f, s.id, n, x⟩ w e w9) := Lib.hid (rtake_send HT.out M8.out (by omega) hN T8.out O7.out hS9)
                      obtain ⟨g9, rfl, -⟩ := hS9
                      go_wp2_with fail
                      go_ret
                      exact F.out
                    · have F := Lib.hid (nil.out (.inr fun p' q' h => (by obtain ⟨h1, h2⟩ : 2 = p' ∧ 3 = q' := (by simpa [ans] using h); omega)))
                      have hds : ds = 1 ∨ ds = 4 ∨ ds = 5 := by have := DST.out; omega
                      clear DST hs2 hs3
                      rcases hds with rfl | rfl | rfl
                      all_goals
                        go_wp2_with fail
                        go_quiet (fail)
                        go_wp2_with fail
                        go_ret
                        exact F.out _ (bdrewN B3.out _)
                · by_cases hk9 : k = 9
                  · subst hk9
                    clear hw hk7
                    by_cases hs2 : ds = 3
                    · subst hs2
                      have HT : RowKit.Hid (s.take ⟨f, s.id, n, x⟩ = ({ s with here := s.here, L := setSt s.L f dr 4 } : Len).send f 10 f dr) := Lib.hid (yes.out 3 4 (by simp [ans]) (by omega))
                      have fd := World.ownsRow.frozenAt (HLV.out ▸ M3.out.deals) (p * 4 + 3)
                      have HI := Lib.hid (dec_some.1 HD.out).1
                      go_wp2_with fail
                      go_quiet (fail)
                      go_wp2_with fail
                      obtain ⟨w7, hw7⟩ : ∃ w7, w7 = (wr.drewN nq).setCell ⟨g, p * 4 + 3, none⟩ (.int .i64 4) := ⟨_, rfl⟩
                      obtain ⟨M7, T7⟩ := (M3.out.up (bdrewN (Below.refl _ _) nq)).state (q := 4) (a := f) (r := dr) HDD.out ⟨rfl, rfl⟩ HLV.out ⟨by omega, by omega⟩
                      have M7 : RowKit.Hid (RLM w7 B rb { s with here := s.here, L := setSt s.L f dr 4 } cv lv N) := Lib.hid (by rw [hw7]; exact M7)
                      have T7 : RowKit.Hid (Tn (OwnR rb cv lv) w w7) := Lib.hid (by rw [hw7]; exact (Tn.of_below (bdrewN B3.out nq)).then_ T7 fun k hk => .inl (.inr (.inr hk)))
                      rw [← hw7]
                      clear hw7 fd
                      have O7 : RowKit.Hid (∀ k, OwnR rb cv lv k → OwnR rb cv lv k ∨ w.heap.size ≤ k) := Lib.hid fun k hk => .inl hk
                      have hL7 : (setSt s.L f dr 4)[p]? = some ⟨f, dr, dt, 4⟩ := by
                        rw [(rat_hit (d := ⟨f, dr, dt, _⟩) ⟨rfl, rfl⟩ 4 H.out.keys HDD.out).2, List.getElem?_set_self (List.getElem?_eq_some_iff.1 HDD.out).1]
                      have DC := Lib.hid (M7.out.deal hL7 HLV.out)
                      clear hL7
                      obtain ⟨S8, hS8⟩ : ∃ S : World → Prop, S = fun W => ∃ n, W = w7.drewN n := ⟨_, rfl⟩
                      have LD8 : RowKit.Hid (∀ W, S8 W → W.cell? ⟨g, p * 4, none⟩ = some (i64 f) ∧ W.cell? ⟨g, p * 4 + 1, none⟩ = some (i64 dr) ∧ W.cell? ⟨g, p * 4 + 2, none⟩ = some (i64 dt) ∧ W.cell? ⟨g, p * 4 + 3, none⟩ = some (i64 4)) := Lib.hid (by rw [hS8]; rintro W ⟨n, rfl⟩; exact DC.out)
                      have SS8 : RowKit.Hid (∀ W, S8 W → ∃ n, W = w7.drewN n) := Lib.hid (by rw [hS8]; exact fun W h => h)
                      have hHeld : S8 w7.drew := by rw [hS8]; exact ⟨1, rfl⟩
                      clear hS8
                      refine wp_region_sp 8 S8 (by kernel_rfl) (by kernel_rfl) ?_
                      simp only [List.take_succ_cons, List.take_zero]
                      apply wpAnyH_apart S8
                      case take =>
                        intro R hR
                        refine wpAnyH_take (i := 0) (v := ?_) rfl (by kernel_rfl) (by kernel_rfl) (by kernel_rfl) (fun _ _ _ h => only_panic h) (Or.inl ⟨by rfl, ?_⟩) hHeld ?_
                        rotate_left
                        · (intro w hSw; obtain ⟨l0, l1, l2, l3⟩ := LD8.out w hSw; go_simp; try (with_reducible rfl))
                        try simp only [gA, gB, gC, Act.put, gD, gE, gF]
                        refine wpAnyH_take (i := 1) (v := ?_) rfl (by kernel_rfl) (by kernel_rfl) (by kernel_rfl) (fun _ _ _ h => only_panic h) (Or.inl ⟨by rfl, ?_⟩) hHeld ?_
                        rotate_left
                        · (intro w hSw; obtain ⟨l0, l1, l2, l3⟩ := LD8.out w hSw; go_simp; try (with_reducible rfl))
                        try simp only [gA, gB, gC, Act.put, gD, gE, gF]
                        refine wpAnyH_take (i := 2) (v := ?_) rfl (by kernel_rfl) (by kernel_rfl) (by kernel_rfl) (fun _ _ _ h => only_panic h) (Or.inl ⟨by rfl, ?_⟩) hHeld ?_
                        rotate_left
                        · (intro w hSw; obtain ⟨l0, l1, l2, l3⟩ := LD8.out w hSw; go_simp; try (with_reducible rfl))
                        try simp only [gA, gB, gC, Act.put, gD, gE, gF]
                        refine wpAnyH_take (i := 3) (v := ?_) rfl (by kernel_rfl) (by kernel_rfl) (by kernel_rfl) (fun _ _ _ h => only_panic h) (Or.inl ⟨by rfl, ?_⟩) hHeld ?_
                        rotate_left
                        · (intro w hSw; obtain ⟨l0, l1, l2, l3⟩ := LD8.out w hSw; go_simp; try (with_reducible rfl))
                        try simp only [gA, gB, gC, Act.put, gD, gE, gF]
                        refine wpAnyH_take (i := 4) (v := ?_) rfl (by kernel_rfl) (by kernel_rfl) (by kernel_rfl) (fun _ _ _ h => only_panic h) (Or.inl ⟨by rfl, ?_⟩) hHeld ?_
                        rotate_left
                        · (intro w hSw; obtain ⟨l0, l1, l2, l3⟩ := LD8.out w hSw; go_simp; try (with_reducible rfl))
                        try simp only [gA, gB, gC, Act.put, gD, gE, gF]
                        refine wpAnyH_take (i := 5) (v := ?_) rfl (by kernel_rfl) (by kernel_rfl) (by kernel_rfl) (fun _ _ _ h => only_panic h) (Or.inl ⟨by rfl, ?_⟩) hHeld ?_
                        rotate_left
                        · (intro w hSw; obtain ⟨l0, l1, l2, l3⟩ := LD8.out w hSw; go_simp; try (with_reducible rfl))
                        try simp only [gA, gB, gC, Act.put, gD, gE, gF]
                        refine wpAnyH_take (i := 6) (v := ?_) rfl (by kernel_rfl) (by kernel_rfl) (by kernel_rfl) (fun _ _ _ h => only_panic h) (Or.inl ⟨by rfl, ?_⟩) hHeld ?_
                        rotate_left
                        · (intro w hSw; obtain ⟨l0, l1, l2, l3⟩ := LD8.out w hSw; go_simp; try (with_reducible rfl))
                        try simp only [gA, gB, gC, Act.put, gD, gE, gF]
                        refine wpAnyH_take (i := 7) (v := ?_) rfl (by kernel_rfl) (by kernel_rfl) (by kernel_rfl) (fun _ _ _ h => only_panic h) (Or.inl ⟨by rfl, ?_⟩) hHeld ?_
                        rotate_left
                        · (intro w hSw; obtain ⟨l0, l1, l2, l3⟩ := LD8.out w hSw; go_simp; try (with_reducible rfl))
                        try simp only [gA, gB, gC, Act.put, gD, gE, gF]
                        exact wpAnyH_done (by kernel_rfl) ⟨rfl, hR _ hHeld⟩ _
                      intro W hW
                      obtain ⟨n8, rfl⟩ := SS8.out W hW
                      simp only [endN, List.drop_succ_cons, List.drop_zero, Act.put, List.setIfInBounds_toArray, List.set_cons_zero, List.set_cons_succ]
                      have M8 := Lib.hid (M7.out.up (bdrewN (Below.refl _ _) n8))
                      have T8 : RowKit.Hid (Tn (OwnR rb cv lv) w (w7.drewN n8)) := Lib.hid (T7.out.trans (Tn.of_below (bdrewN (Below.refl _ _) n8)))
                      have hsn : 0 ≤ s.sent ∧ s.sent < 1000000000 := by have := H.out.sent; omega
                      have RS := Lib.hid (rsend_any rb s.id s.sent f 10 f dr dt 4 (w7.drewN n8) (M8.out.blk.cell 0) (M8.out.blk.cell 1) (M8.out.blk.frozen 1) hsn ⟨by omega, by omega⟩ HI.out.2.1 HI.out.2.2.1)
                      clear hHeld hW SS8 LD8 S8 hsn
                      go_wp2_with fail
                      refine RS.out.mono ?_
                      rintro e w9 hS9
                      have F : RowKit.Hid (RTakeE B rb N s cv lv ⟨f, s.id, n, x⟩ w e w9) := Lib.hid (rtake_send HT.out M8.out (by omega) hN T8.out O7.out hS9)
                      obtain ⟨g9, rfl, -⟩ := hS9
                      go_wp2_with fail
                      go_ret
                      exact F.out
                    · by_cases hs3 : ds = 4
                      · subst hs3
                        have HT : RowKit.Hid (s.take ⟨f, s.id, n, x⟩ = ({ s with here := s.here, L := setSt s.L f dr 4 } : Len).send f 10 f dr) := Lib.hid (yes.out 3 4 (by simp [ans]) (by omega))
                        have fd := World.ownsRow.frozenAt (HLV.out ▸ M3.out.deals) (p * 4 + 3)
                        have HI := Lib.hid (dec_some.1 HD.out).1
                        go_wp2_with fail
                        go_quiet (fail)
                        go_wp2_with fail
                        obtain ⟨w7, hw7⟩ : ∃ w7, w7 = (wr.drewN nq).setCell ⟨g, p * 4 + 3, none⟩ (.int .i64 4) := ⟨_, rfl⟩
                        obtain ⟨M7, T7⟩ := (M3.out.up (bdrewN (Below.refl _ _) nq)).state (q := 4) (a := f) (r := dr) HDD.out ⟨rfl, rfl⟩ HLV.out ⟨by omega, by omega⟩
                        have M7 : RowKit.Hid (RLM w7 B rb { s with here := s.here, L := setSt s.L f dr 4 } cv lv N) := Lib.hid (by rw [hw7]; exact M7)
                        have T7 : RowKit.Hid (Tn (OwnR rb cv lv) w w7) := Lib.hid (by rw [hw7]; exact (Tn.of_below (bdrewN B3.out nq)).then_ T7 fun k hk => .inl (.inr (.inr hk)))
                        rw [← hw7]
                        clear hw7 fd
                        have O7 : RowKit.Hid (∀ k, OwnR rb cv lv k → OwnR rb cv lv k ∨ w.heap.size ≤ k) := Lib.hid fun k hk => .inl hk
                        have hL7 : (setSt s.L f dr 4)[p]? = some ⟨f, dr, dt, 4⟩ := by
                          rw [(rat_hit (d := ⟨f, dr, dt, _⟩) ⟨rfl, rfl⟩ 4 H.out.keys HDD.out).2, List.getElem?_set_self (List.getElem?_eq_some_iff.1 HDD.out).1]
                        have DC := Lib.hid (M7.out.deal hL7 HLV.out)
                        clear hL7
                        obtain ⟨S8, hS8⟩ : ∃ S : World → Prop, S = fun W => ∃ n, W = w7.drewN n := ⟨_, rfl⟩
                        have LD8 : RowKit.Hid (∀ W, S8 W → W.cell? ⟨g, p * 4, none⟩ = some (i64 f) ∧ W.cell? ⟨g, p * 4 + 1, none⟩ = some (i64 dr) ∧ W.cell? ⟨g, p * 4 + 2, none⟩ = some (i64 dt) ∧ W.cell? ⟨g, p * 4 + 3, none⟩ = some (i64 4)) := Lib.hid (by rw [hS8]; rintro W ⟨n, rfl⟩; exact DC.out)
                        have SS8 : RowKit.Hid (∀ W, S8 W → ∃ n, W = w7.drewN n) := Lib.hid (by rw [hS8]; exact fun W h => h)
                        have hHeld : S8 w7.drew := by rw [hS8]; exact ⟨1, rfl⟩
                        clear hS8
                        refine wp_region_sp 8 S8 (by kernel_rfl) (by kernel_rfl) ?_
                        simp only [List.take_succ_cons, List.take_zero]
                        apply wpAnyH_apart S8
                        case take =>
                          intro R hR
                          refine wpAnyH_take (i := 0) (v := ?_) rfl (by kernel_rfl) (by kernel_rfl) (by kernel_rfl) (fun _ _ _ h => only_panic h) (Or.inl ⟨by rfl, ?_⟩) hHeld ?_
                          rotate_left
                          · (intro w hSw; obtain ⟨l0, l1, l2, l3⟩ := LD8.out w hSw; go_simp; try (with_reducible rfl))
                          try simp only [gA, gB, gC, Act.put, gD, gE, gF]
                          refine wpAnyH_take (i := 1) (v := ?_) rfl (by kernel_rfl) (by kernel_rfl) (by kernel_rfl) (fun _ _ _ h => only_panic h) (Or.inl ⟨by rfl, ?_⟩) hHeld ?_
                          rotate_left
                          · (intro w hSw; obtain ⟨l0, l1, l2, l3⟩ := LD8.out w hSw; go_simp; try (with_reducible rfl))
                          try simp only [gA, gB, gC, Act.put, gD, gE, gF]
                          refine wpAnyH_take (i := 2) (v := ?_) rfl (by kernel_rfl) (by kernel_rfl) (by kernel_rfl) (fun _ _ _ h => only_panic h) (Or.inl ⟨by rfl, ?_⟩) hHeld ?_
                          rotate_left
                          · (intro w hSw; obtain ⟨l0, l1, l2, l3⟩ := LD8.out w hSw; go_simp; try (with_reducible rfl))
                          try simp only [gA, gB, gC, Act.put, gD, gE, gF]
                          refine wpAnyH_take (i := 3) (v := ?_) rfl (by kernel_rfl) (by kernel_rfl) (by kernel_rfl) (fun _ _ _ h => only_panic h) (Or.inl ⟨by rfl, ?_⟩) hHeld ?_
                          rotate_left
                          · (intro w hSw; obtain ⟨l0, l1, l2, l3⟩ := LD8.out w hSw; go_simp; try (with_reducible rfl))
                          try simp only [gA, gB, gC, Act.put, gD, gE, gF]
                          refine wpAnyH_take (i := 4) (v := ?_) rfl (by kernel_rfl) (by kernel_rfl) (by kernel_rfl) (fun _ _ _ h => only_panic h) (Or.inl ⟨by rfl, ?_⟩) hHeld ?_
                          rotate_left
                          · (intro w hSw; obtain ⟨l0, l1, l2, l3⟩ := LD8.out w hSw; go_simp; try (with_reducible rfl))
                          try simp only [gA, gB, gC, Act.put, gD, gE, gF]
                          refine wpAnyH_take (i := 5) (v := ?_) rfl (by kernel_rfl) (by kernel_rfl) (by kernel_rfl) (fun _ _ _ h => only_panic h) (Or.inl ⟨by rfl, ?_⟩) hHeld ?_
                          rotate_left
                          · (intro w hSw; obtain ⟨l0, l1, l2, l3⟩ := LD8.out w hSw; go_simp; try (with_reducible rfl))
                          try simp only [gA, gB, gC, Act.put, gD, gE, gF]
                          refine wpAnyH_take (i := 6) (v := ?_) rfl (by kernel_rfl) (by kernel_rfl) (by kernel_rfl) (fun _ _ _ h => only_panic h) (Or.inl ⟨by rfl, ?_⟩) hHeld ?_
                          rotate_left
                          · (intro w hSw; obtain ⟨l0, l1, l2, l3⟩ := LD8.out w hSw; go_simp; try (with_reducible rfl))
                          try simp only [gA, gB, gC, Act.put, gD, gE, gF]
                          refine wpAnyH_take (i := 7) (v := ?_) rfl (by kernel_rfl) (by kernel_rfl) (by kernel_rfl) (fun _ _ _ h => only_panic h) (Or.inl ⟨by rfl, ?_⟩) hHeld ?_
                          rotate_left
                          · (intro w hSw; obtain ⟨l0, l1, l2, l3⟩ := LD8.out w hSw; go_simp; try (with_reducible rfl))
                          try simp only [gA, gB, gC, Act.put, gD, gE, gF]
                          exact wpAnyH_done (by kernel_rfl) ⟨rfl, hR _ hHeld⟩ _
                        intro W hW
                        obtain ⟨n8, rfl⟩ := SS8.out W hW
                        simp only [endN, List.drop_succ_cons, List.drop_zero, Act.put, List.setIfInBounds_toArray, List.set_cons_zero, List.set_cons_succ]
                        have M8 := Lib.hid (M7.out.up (bdrewN (Below.refl _ _) n8))
                        have T8 : RowKit.Hid (Tn (OwnR rb cv lv) w (w7.drewN n8)) := Lib.hid (T7.out.trans (Tn.of_below (bdrewN (Below.refl _ _) n8)))
                        have hsn : 0 ≤ s.sent ∧ s.sent < 1000000000 := by have := H.out.sent; omega
                        have RS := Lib.hid (rsend_any rb s.id s.sent f 10 f dr dt 4 (w7.drewN n8) (M8.out.blk.cell 0) (M8.out.blk.cell 1) (M8.out.blk.frozen 1) hsn ⟨by omega, by omega⟩ HI.out.2.1 HI.out.2.2.1)
                        clear hHeld hW SS8 LD8 S8 hsn
                        go_wp2_with fail
                        refine RS.out.mono ?_
                        rintro e w9 hS9
                        have F : RowKit.Hid (RTakeE B rb N s cv lv ⟨f, s.id, n, x⟩ w e w9) := Lib.hid (rtake_send HT.out M8.out (by omega) hN T8.out O7.out hS9)
                        obtain ⟨g9, rfl, -⟩ := hS9
                        go_wp2_with fail
                        go_ret
                        exact F.out
                      · have F := Lib.hid (nil.out (.inr fun p' q' h => (by obtain ⟨h1, h2⟩ : 3 = p' ∧ 4 = q' := (by simpa [ans] using h); omega)))
                        have hds : ds = 1 ∨ ds = 2 ∨ ds = 5 := by have := DST.out; omega
                        clear DST hs2 hs3
                        rcases hds with rfl | rfl | rfl
                        all_goals
                          go_wp2_with fail
                          go_quiet (fail)
                          go_wp2_with fail
                          go_ret
                          exact F.out _ (bdrewN B3.out _)
                  · by_cases hk11 : k = 11
                    · subst hk11
                      clear hw hk7 hk9
                      by_cases hs2 : ds = 4
                      · subst hs2
                        have HT : RowKit.Hid (s.take ⟨f, s.id, n, x⟩ = ({ s with here := ins dt s.here, L := setSt s.L f dr 5 } : Len).send f 12 f dr) := Lib.hid (yes.out 4 5 (by simp [ans]) (by omega))
                        have HI := Lib.hid (dec_some.1 HD.out).1
                        go_wp2_with fail
                        go_quiet (fail)
                        go_wp2_with fail
                        obtain ⟨w5, hw5⟩ : ∃ w5, w5 = wr.drewN nq := ⟨_, rfl⟩
                        have M5 : RowKit.Hid (RLM w5 B rb s cv lv (N + 1)) := Lib.hid (by rw [hw5]; exact (M3.out.up (bdrewN (Below.refl _ _) nq)).mono (by omega) (by omega))
                        have B5 : RowKit.Hid (Below w.heap.size w w5) := Lib.hid (by rw [hw5]; exact bdrewN B3.out nq)
                        rw [← hw5]
                        clear hw5 d0 d1 d2 d3 c0 c1 c2 c4 c3 m0
                        obtain ⟨ca, ccap, hcv, -⟩ := row_cellz M5.out.cop
                        have HCV := Lib.hid hcv
                        have hhl : s.here.length ≤ 100000 := by have := M5.out.len.2.1; omega
                        clear hcv
                        obtain ⟨S6, hS6⟩ : ∃ S : World → Prop, S = fun W => Below w5.heap.size w5 W := ⟨_, rfl⟩
                        have LD6 : RowKit.Hid (∀ W, S6 W → W.cell? ⟨rb, 2, none⟩ = some (.slice ca s.here.length ccap) ∧ W.cell? ⟨g, p * 4 + 2, none⟩ = some (i64 dt)) := Lib.hid (by
                          rw [hS6]; intro W hW; exact ⟨Below.cellE hW ((M5.out.blk.cell 2).trans (congrArg some HCV.out)), ((M5.out.up hW).deal HDD.out HLV.out).2.2.1⟩)
                        have UU6 : RowKit.Hid (∀ W, Below w5.heap.size w5 W → S6 W) := Lib.hid (by rw [hS6]; exact fun W h => h)
                        have hHeld := UU6.out _ (Below.refl w5.heap.size w5).drew
                        clear hS6
                        refine wp_region_sp 12 S6 (by kernel_rfl) (by kernel_rfl) ?_
                        simp only [List.take_succ_cons, List.take_zero]
                        apply wpAnyH_apartV (fun u W => W.ownsRow w5.heap.size 3 1 u (ins dt s.here).length ((ins dt s.here).map (Value.int .i64)) ∧ Below w5.heap.size w5 W)
                        case take =>
                          intro R hR
                          refine wpAnyH_take (i := 0) (v := ?_) rfl (by kernel_rfl) (by kernel_rfl) (by kernel_rfl) (fun _ _ _ h => only_panic h) (Or.inl ⟨by rfl, ?_⟩) hHeld ?_
                          rotate_left
                          · (intro w hSw; obtain ⟨l0, l1⟩ := LD6.out w hSw; go_simp; try (with_reducible rfl))
                          try simp only [gA, gB, gC, Act.put, gD, gE, gF]
                          refine wpAnyH_take (i := 1) (v := ?_) rfl (by kernel_rfl) (by kernel_rfl) (by kernel_rfl) (fun _ _ _ h => only_panic h) (Or.inl ⟨by rfl, ?_⟩) hHeld ?_
                          rotate_left
                          · (intro w hSw; obtain ⟨l0, l1⟩ := LD6.out w hSw; go_simp; try (with_reducible rfl))
                          try simp only [gA, gB, gC, Act.put, gD, gE, gF]
                          refine wpAnyH_take (i := 2) (v := ?_) rfl (by kernel_rfl) (by kernel_rfl) (by kernel_rfl) (fun _ _ _ h => only_panic h) (Or.inl ⟨by rfl, ?_⟩) hHeld ?_
                          rotate_left
                          · (intro w hSw; obtain ⟨l0, l1⟩ := LD6.out w hSw; go_simp; try (with_reducible rfl))
                          try simp only [gA, gB, gC, Act.put, gD, gE, gF]
                          refine wpAnyH_take (i := 3) (v := ?_) rfl (by kernel_rfl) (by kernel_rfl) (by kernel_rfl) (fun _ _ _ h => only_panic h) (Or.inl ⟨by rfl, ?_⟩) hHeld ?_
                          rotate_left
                          · (intro w hSw; obtain ⟨l0, l1⟩ := LD6.out w hSw; go_simp; try (with_reducible rfl))
                          try simp only [gA, gB, gC, Act.put, gD, gE, gF]
                          refine wpAnyH_take (i := 4) (v := ?_) rfl (by kernel_rfl) (by kernel_rfl) (by kernel_rfl) (fun _ _ _ h => only_panic h) (Or.inl ⟨by rfl, ?_⟩) hHeld ?_
                          rotate_left
                          · (intro w hSw; obtain ⟨l0, l1⟩ := LD6.out w hSw; go_simp; try (with_reducible rfl))
                          try simp only [gA, gB, gC, Act.put, gD, gE, gF]
                          refine wpAnyH_take (i := 5) (v := ?_) rfl (by kernel_rfl) (by kernel_rfl) (by kernel_rfl) (fun _ _ _ h => only_panic h) (Or.inl ⟨by rfl, ?_⟩) hHeld ?_
                          rotate_left
                          · (intro w hSw; obtain ⟨l0, l1⟩ := LD6.out w hSw; go_simp; try (with_reducible rfl))
                          try simp only [gA, gB, gC, Act.put, gD, gE, gF]
                          refine wpAnyH_take (i := 6) (v := ?_) rfl (by kernel_rfl) (by kernel_rfl) (by kernel_rfl) (fun _ _ _ h => only_panic h) (Or.inl ⟨by rfl, ?_⟩) hHeld ?_
                          rotate_left
                          · (intro w hSw; obtain ⟨l0, l1⟩ := LD6.out w hSw; go_simp; try (with_reducible rfl))
                          try simp only [gA, gB, gC, Act.put, gD, gE, gF]
                          refine wpAnyH_take (i := 7) (v := ?_) rfl (by kernel_rfl) (by kernel_rfl) (by kernel_rfl) (fun _ _ _ h => only_panic h) (Or.inl ⟨by rfl, ?_⟩) hHeld ?_
                          rotate_left
                          · (intro w hSw; obtain ⟨l0, l1⟩ := LD6.out w hSw; go_simp; try (with_reducible rfl))
                          try simp only [gA, gB, gC, Act.put, gD, gE, gF]
                          refine wpAnyH_take (i := 8) (v := ?_) rfl (by kernel_rfl) (by kernel_rfl) (by kernel_rfl) (fun _ _ _ h => only_panic h) (Or.inl ⟨by rfl, ?_⟩) hHeld ?_
                          rotate_left
                          · (intro w hSw; obtain ⟨l0, l1⟩ := LD6.out w hSw; go_simp; try (with_reducible rfl))
                          try simp only [gA, gB, gC, Act.put, gD, gE, gF]
                          refine wpAnyH_one (i := 9) rfl (by kernel_rfl) (by rfl) ?_
                          go_simp
                          refine (insert_any dt (HCV.out ▸ (M5.out.up (Below.refl w5.heap.size w5).drew).cop) hhl).mono ?_
                          rintro e W9 ⟨v9, rfl, hr9, hb9⟩
                          have B9 : RowKit.Hid (Below w5.heap.size w5 W9) := Lib.hid ((Below.refl w5.heap.size w5).drew.trans hb9)
                          have R9 := Lib.hid hr9
                          have hHeld := UU6.out _ B9.out
                          clear hr9 hb9
                          refine ⟨hHeld, ?_⟩
                          refine wpAnyH_take (i := 10) (v := ?_) rfl (by kernel_rfl) (by kernel_rfl) (by kernel_rfl) (fun _ _ _ h => only_panic h) (Or.inl ⟨by rfl, ?_⟩) hHeld ?_
                          rotate_left
                          · (intro w hSw; clear hSw; go_simp; try (with_reducible rfl))
                          try simp only [gA, gB, gC, Act.put, gD, gE, gF]
                          refine wpAnyH_take (i := 11) (v := ?_) rfl (by kernel_rfl) (by kernel_rfl) (by kernel_rfl) (fun _ _ _ h => only_panic h) (Or.inl ⟨by rfl, ?_⟩) hHeld ?_
                          rotate_left
                          · (intro w hSw; clear hSw; go_simp; try (with_reducible rfl))
                          try simp only [gA, gB, gC, Act.put, gD, gE, gF]
                          exact wpAnyH_done (by kernel_rfl) ⟨rfl, hR _ _ ⟨R9.out, B9.out⟩⟩ _
                        rintro u W ⟨hu, hb⟩
                        obtain ⟨M6, T6⟩ := M5.out.copies hb hu (by rw [ins_len]; have := H.out.len.2.1; omega)
                        have bW := M5.out.blk.below hb M5.out.blk.lt
                        have f2 := bW.frozen 2
                        have hbW := bW.lt
                        have cW : W.cell? ⟨rb, 2, none⟩ = some cv := bW.cell 2
                        have R6 : RowKit.Hid (∀ k, u.ownBlock = some k → w.heap.size ≤ k) := Lib.hid fun k hk => Nat.le_trans B5.out.size (row_lt hu k hk).1
                        obtain ⟨ua, uc, rfl, -⟩ := row_cellz hu
                        obtain ⟨M7, T7⟩ := M6.state (q := 5) (a := f) (r := dr) HDD.out ⟨rfl, rfl⟩ HLV.out ⟨by omega, by omega⟩
                        have d3 := (M6.deal HDD.out HLV.out).2.2.2
                        have fd := World.ownsRow.frozenAt (HLV.out ▸ M6.deals) (p * 4 + 3)
                        obtain ⟨w7, hw7⟩ : ∃ w7, w7 = (W.setCell ⟨rb, 2, none⟩ (.slice ua (ins dt s.here).length uc)).setCell ⟨g, p * 4 + 3, none⟩ (.int .i64 5) := ⟨_, rfl⟩
                        have M7 : RowKit.Hid (RLM w7 B rb { s with here := ins dt s.here, L := setSt s.L f dr 5 } (.slice ua (ins dt s.here).length uc) lv (N + 1)) := Lib.hid (by rw [hw7]; exact M7)
                        have T7 : RowKit.Hid (Tn (OwnR rb cv lv) w w7) := Lib.hid (by
                          rw [hw7]
                          exact ((Tn.of_below B5.out).then_ T6 fun k hk => .inl (.inl hk)).then_ T7 fun k hk => .inl (.inr (.inr hk)))
                        have O7 : RowKit.Hid (∀ k, OwnR rb (.slice ua (ins dt s.here).length uc) lv k → OwnR rb cv lv k ∨ w.heap.size ≤ k) := Lib.hid fun k hk => by
                          rcases hk with hk | hk | hk
                          · exact .inl (.inl hk)
                          · exact .inr (R6.out k hk)
                          · exact .inl (.inr (.inr hk))
                        clear hu hb bW M6 T6 UU6 LD6 hHeld
                        simp only [endN, List.drop_succ_cons, List.drop_zero, Act.put, List.setIfInBounds_toArray, List.set_cons_zero, List.set_cons_succ]
                        go_wp2_with fail
                        rw [← hw7]
                        clear hw7 fd d3 cW f2 hbW
                        have hL7 : (setSt s.L f dr 5)[p]? = some ⟨f, dr, dt, 5⟩ := by
                          rw [(rat_hit (d := ⟨f, dr, dt, _⟩) ⟨rfl, rfl⟩ 5 H.out.keys HDD.out).2, List.getElem?_set_self (List.getElem?_eq_some_iff.1 HDD.out).1]
                        have DC := Lib.hid (M7.out.deal hL7 HLV.out)
                        clear hL7
                        obtain ⟨S8, hS8⟩ : ∃ S : World → Prop, S = fun W => ∃ n, W = w7.drewN n := ⟨_, rfl⟩
                        have LD8 : RowKit.Hid (∀ W, S8 W → W.cell? ⟨g, p * 4, none⟩ = some (i64 f) ∧ W.cell? ⟨g, p * 4 + 1, none⟩ = some (i64 dr) ∧ W.cell? ⟨g, p * 4 + 2, none⟩ = some (i64 dt) ∧ W.cell? ⟨g, p * 4 + 3, none⟩ = some (i64 5)) := Lib.hid (by rw [hS8]; rintro W ⟨n, rfl⟩; exact DC.out)
                        have SS8 : RowKit.Hid (∀ W, S8 W → ∃ n, W = w7.drewN n) := Lib.hid (by rw [hS8]; exact fun W h => h)
                        have hHeld : S8 w7.drew := by rw [hS8]; exact ⟨1, rfl⟩
                        clear hS8
                        refine wp_region_sp 8 S8 (by kernel_rfl) (by kernel_rfl) ?_
                        simp only [List.take_succ_cons, List.take_zero]
                        apply wpAnyH_apart S8
                        case take =>
                          intro R hR
                          refine wpAnyH_take (i := 0) (v := ?_) rfl (by kernel_rfl) (by kernel_rfl) (by kernel_rfl) (fun _ _ _ h => only_panic h) (Or.inl ⟨by rfl, ?_⟩) hHeld ?_
                          rotate_left
                          · (intro w hSw; obtain ⟨l0, l1, l2, l3⟩ := LD8.out w hSw; go_simp; try (with_reducible rfl))
                          try simp only [gA, gB, gC, Act.put, gD, gE, gF]
                          refine wpAnyH_take (i := 1) (v := ?_) rfl (by kernel_rfl) (by kernel_rfl) (by kernel_rfl) (fun _ _ _ h => only_panic h) (Or.inl ⟨by rfl, ?_⟩) hHeld ?_
                          rotate_left
                          · (intro w hSw; obtain ⟨l0, l1, l2, l3⟩ := LD8.out w hSw; go_simp; try (with_reducible rfl))
                          try simp only [gA, gB, gC, Act.put, gD, gE, gF]
                          refine wpAnyH_take (i := 2) (v := ?_) rfl (by kernel_rfl) (by kernel_rfl) (by kernel_rfl) (fun _ _ _ h => only_panic h) (Or.inl ⟨by rfl, ?_⟩) hHeld ?_
                          rotate_left
                          · (intro w hSw; obtain ⟨l0, l1, l2, l3⟩ := LD8.out w hSw; go_simp; try (with_reducible rfl))
                          try simp only [gA, gB, gC, Act.put, gD, gE, gF]
                          refine wpAnyH_take (i := 3) (v := ?_) rfl (by kernel_rfl) (by kernel_rfl) (by kernel_rfl) (fun _ _ _ h => only_panic h) (Or.inl ⟨by rfl, ?_⟩) hHeld ?_
                          rotate_left
                          · (intro w hSw; obtain ⟨l0, l1, l2, l3⟩ := LD8.out w hSw; go_simp; try (with_reducible rfl))
                          try simp only [gA, gB, gC, Act.put, gD, gE, gF]
                          refine wpAnyH_take (i := 4) (v := ?_) rfl (by kernel_rfl) (by kernel_rfl) (by kernel_rfl) (fun _ _ _ h => only_panic h) (Or.inl ⟨by rfl, ?_⟩) hHeld ?_
                          rotate_left
                          · (intro w hSw; obtain ⟨l0, l1, l2, l3⟩ := LD8.out w hSw; go_simp; try (with_reducible rfl))
                          try simp only [gA, gB, gC, Act.put, gD, gE, gF]
                          refine wpAnyH_take (i := 5) (v := ?_) rfl (by kernel_rfl) (by kernel_rfl) (by kernel_rfl) (fun _ _ _ h => only_panic h) (Or.inl ⟨by rfl, ?_⟩) hHeld ?_
                          rotate_left
                          · (intro w hSw; obtain ⟨l0, l1, l2, l3⟩ := LD8.out w hSw; go_simp; try (with_reducible rfl))
                          try simp only [gA, gB, gC, Act.put, gD, gE, gF]
                          refine wpAnyH_take (i := 6) (v := ?_) rfl (by kernel_rfl) (by kernel_rfl) (by kernel_rfl) (fun _ _ _ h => only_panic h) (Or.inl ⟨by rfl, ?_⟩) hHeld ?_
                          rotate_left
                          · (intro w hSw; obtain ⟨l0, l1, l2, l3⟩ := LD8.out w hSw; go_simp; try (with_reducible rfl))
                          try simp only [gA, gB, gC, Act.put, gD, gE, gF]
                          refine wpAnyH_take (i := 7) (v := ?_) rfl (by kernel_rfl) (by kernel_rfl) (by kernel_rfl) (fun _ _ _ h => only_panic h) (Or.inl ⟨by rfl, ?_⟩) hHeld ?_
                          rotate_left
                          · (intro w hSw; obtain ⟨l0, l1, l2, l3⟩ := LD8.out w hSw; go_simp; try (with_reducible rfl))
                          try simp only [gA, gB, gC, Act.put, gD, gE, gF]
                          exact wpAnyH_done (by kernel_rfl) ⟨rfl, hR _ hHeld⟩ _
                        intro W hW
                        obtain ⟨n8, rfl⟩ := SS8.out W hW
                        simp only [endN, List.drop_succ_cons, List.drop_zero, Act.put, List.setIfInBounds_toArray, List.set_cons_zero, List.set_cons_succ]
                        have M8 := Lib.hid (M7.out.up (bdrewN (Below.refl _ _) n8))
                        have T8 : RowKit.Hid (Tn (OwnR rb cv lv) w (w7.drewN n8)) := Lib.hid (T7.out.trans (Tn.of_below (bdrewN (Below.refl _ _) n8)))
                        have hsn : 0 ≤ s.sent ∧ s.sent < 1000000000 := by have := H.out.sent; omega
                        have RS := Lib.hid (rsend_any rb s.id s.sent f 12 f dr dt 5 (w7.drewN n8) (M8.out.blk.cell 0) (M8.out.blk.cell 1) (M8.out.blk.frozen 1) hsn ⟨by omega, by omega⟩ HI.out.2.1 HI.out.2.2.1)
                        clear hHeld hW SS8 LD8 S8 hsn
                        go_wp2_with fail
                        refine RS.out.mono ?_
                        rintro e w9 hS9
                        have F : RowKit.Hid (RTakeE B rb N s cv lv ⟨f, s.id, n, x⟩ w e w9) := Lib.hid (rtake_send HT.out M8.out (by omega) hN T8.out O7.out hS9)
                        obtain ⟨g9, rfl, -⟩ := hS9
                        go_wp2_with fail
                        go_ret
                        exact F.out
                      · by_cases hs3 : ds = 5
                        · subst hs3
                          have HT : RowKit.Hid (s.take ⟨f, s.id, n, x⟩ = ({ s with here := s.here, L := setSt s.L f dr 5 } : Len).send f 12 f dr) := Lib.hid (yes.out 4 5 (by simp [ans]) (by omega))
                          have fd := World.ownsRow.frozenAt (HLV.out ▸ M3.out.deals) (p * 4 + 3)
                          have HI := Lib.hid (dec_some.1 HD.out).1
                          go_wp2_with fail
                          go_quiet (fail)
                          go_wp2_with fail
                          obtain ⟨w7, hw7⟩ : ∃ w7, w7 = (wr.drewN nq).setCell ⟨g, p * 4 + 3, none⟩ (.int .i64 5) := ⟨_, rfl⟩
                          obtain ⟨M7, T7⟩ := (M3.out.up (bdrewN (Below.refl _ _) nq)).state (q := 5) (a := f) (r := dr) HDD.out ⟨rfl, rfl⟩ HLV.out ⟨by omega, by omega⟩
                          have M7 : RowKit.Hid (RLM w7 B rb { s with here := s.here, L := setSt s.L f dr 5 } cv lv N) := Lib.hid (by rw [hw7]; exact M7)
                          have T7 : RowKit.Hid (Tn (OwnR rb cv lv) w w7) := Lib.hid (by rw [hw7]; exact (Tn.of_below (bdrewN B3.out nq)).then_ T7 fun k hk => .inl (.inr (.inr hk)))
                          rw [← hw7]
                          clear hw7 fd
                          have O7 : RowKit.Hid (∀ k, OwnR rb cv lv k → OwnR rb cv lv k ∨ w.heap.size ≤ k) := Lib.hid fun k hk => .inl hk
                          have hL7 : (setSt s.L f dr 5)[p]? = some ⟨f, dr, dt, 5⟩ := by
                            rw [(rat_hit (d := ⟨f, dr, dt, _⟩) ⟨rfl, rfl⟩ 5 H.out.keys HDD.out).2, List.getElem?_set_self (List.getElem?_eq_some_iff.1 HDD.out).1]
                          have DC := Lib.hid (M7.out.deal hL7 HLV.out)
                          clear hL7
                          obtain ⟨S8, hS8⟩ : ∃ S : World → Prop, S = fun W => ∃ n, W = w7.drewN n := ⟨_, rfl⟩
                          have LD8 : RowKit.Hid (∀ W, S8 W → W.cell? ⟨g, p * 4, none⟩ = some (i64 f) ∧ W.cell? ⟨g, p * 4 + 1, none⟩ = some (i64 dr) ∧ W.cell? ⟨g, p * 4 + 2, none⟩ = some (i64 dt) ∧ W.cell? ⟨g, p * 4 + 3, none⟩ = some (i64 5)) := Lib.hid (by rw [hS8]; rintro W ⟨n, rfl⟩; exact DC.out)
                          have SS8 : RowKit.Hid (∀ W, S8 W → ∃ n, W = w7.drewN n) := Lib.hid (by rw [hS8]; exact fun W h => h)
                          have hHeld : S8 w7.drew := by rw [hS8]; exact ⟨1, rfl⟩
                          clear hS8
                          refine wp_region_sp 8 S8 (by kernel_rfl) (by kernel_rfl) ?_
                          simp only [List.take_succ_cons, List.take_zero]
                          apply wpAnyH_apart S8
                          case take =>
                            intro R hR
                            refine wpAnyH_take (i := 0) (v := ?_) rfl (by kernel_rfl) (by kernel_rfl) (by kernel_rfl) (fun _ _ _ h => only_panic h) (Or.inl ⟨by rfl, ?_⟩) hHeld ?_
                            rotate_left
                            · (intro w hSw; obtain ⟨l0, l1, l2, l3⟩ := LD8.out w hSw; go_simp; try (with_reducible rfl))
                            try simp only [gA, gB, gC, Act.put, gD, gE, gF]
                            refine wpAnyH_take (i := 1) (v := ?_) rfl (by kernel_rfl) (by kernel_rfl) (by kernel_rfl) (fun _ _ _ h => only_panic h) (Or.inl ⟨by rfl, ?_⟩) hHeld ?_
                            rotate_left
                            · (intro w hSw; obtain ⟨l0, l1, l2, l3⟩ := LD8.out w hSw; go_simp; try (with_reducible rfl))
                            try simp only [gA, gB, gC, Act.put, gD, gE, gF]
                            refine wpAnyH_take (i := 2) (v := ?_) rfl (by kernel_rfl) (by kernel_rfl) (by kernel_rfl) (fun _ _ _ h => only_panic h) (Or.inl ⟨by rfl, ?_⟩) hHeld ?_
                            rotate_left
                            · (intro w hSw; obtain ⟨l0, l1, l2, l3⟩ := LD8.out w hSw; go_simp; try (with_reducible rfl))
                            try simp only [gA, gB, gC, Act.put, gD, gE, gF]
                            refine wpAnyH_take (i := 3) (v := ?_) rfl (by kernel_rfl) (by kernel_rfl) (by kernel_rfl) (fun _ _ _ h => only_panic h) (Or.inl ⟨by rfl, ?_⟩) hHeld ?_
                            rotate_left
                            · (intro w hSw; obtain ⟨l0, l1, l2, l3⟩ := LD8.out w hSw; go_simp; try (with_reducible rfl))
                            try simp only [gA, gB, gC, Act.put, gD, gE, gF]
                            refine wpAnyH_take (i := 4) (v := ?_) rfl (by kernel_rfl) (by kernel_rfl) (by kernel_rfl) (fun _ _ _ h => only_panic h) (Or.inl ⟨by rfl, ?_⟩) hHeld ?_
                            rotate_left
                            · (intro w hSw; obtain ⟨l0, l1, l2, l3⟩ := LD8.out w hSw; go_simp; try (with_reducible rfl))
                            try simp only [gA, gB, gC, Act.put, gD, gE, gF]
                            refine wpAnyH_take (i := 5) (v := ?_) rfl (by kernel_rfl) (by kernel_rfl) (by kernel_rfl) (fun _ _ _ h => only_panic h) (Or.inl ⟨by rfl, ?_⟩) hHeld ?_
                            rotate_left
                            · (intro w hSw; obtain ⟨l0, l1, l2, l3⟩ := LD8.out w hSw; go_simp; try (with_reducible rfl))
                            try simp only [gA, gB, gC, Act.put, gD, gE, gF]
                            refine wpAnyH_take (i := 6) (v := ?_) rfl (by kernel_rfl) (by kernel_rfl) (by kernel_rfl) (fun _ _ _ h => only_panic h) (Or.inl ⟨by rfl, ?_⟩) hHeld ?_
                            rotate_left
                            · (intro w hSw; obtain ⟨l0, l1, l2, l3⟩ := LD8.out w hSw; go_simp; try (with_reducible rfl))
                            try simp only [gA, gB, gC, Act.put, gD, gE, gF]
                            refine wpAnyH_take (i := 7) (v := ?_) rfl (by kernel_rfl) (by kernel_rfl) (by kernel_rfl) (fun _ _ _ h => only_panic h) (Or.inl ⟨by rfl, ?_⟩) hHeld ?_
                            rotate_left
                            · (intro w hSw; obtain ⟨l0, l1, l2, l3⟩ := LD8.out w hSw; go_simp; try (with_reducible rfl))
                            try simp only [gA, gB, gC, Act.put, gD, gE, gF]
                            exact wpAnyH_done (by kernel_rfl) ⟨rfl, hR _ hHeld⟩ _
                          intro W hW
                          obtain ⟨n8, rfl⟩ := SS8.out W hW
                          simp only [endN, List.drop_succ_cons, List.drop_zero, Act.put, List.setIfInBounds_toArray, List.set_cons_zero, List.set_cons_succ]
                          have M8 := Lib.hid (M7.out.up (bdrewN (Below.refl _ _) n8))
                          have T8 : RowKit.Hid (Tn (OwnR rb cv lv) w (w7.drewN n8)) := Lib.hid (T7.out.trans (Tn.of_below (bdrewN (Below.refl _ _) n8)))
                          have hsn : 0 ≤ s.sent ∧ s.sent < 1000000000 := by have := H.out.sent; omega
                          have RS := Lib.hid (rsend_any rb s.id s.sent f 12 f dr dt 5 (w7.drewN n8) (M8.out.blk.cell 0) (M8.out.blk.cell 1) (M8.out.blk.frozen 1) hsn ⟨by omega, by omega⟩ HI.out.2.1 HI.out.2.2.1)
                          clear hHeld hW SS8 LD8 S8 hsn
                          go_wp2_with fail
                          refine RS.out.mono ?_
                          rintro e w9 hS9
                          have F : RowKit.Hid (RTakeE B rb N s cv lv ⟨f, s.id, n, x⟩ w e w9) := Lib.hid (rtake_send HT.out M8.out (by omega) hN T8.out O7.out hS9)
                          obtain ⟨g9, rfl, -⟩ := hS9
                          go_wp2_with fail
                          go_ret
                          exact F.out
                        · have F := Lib.hid (nil.out (.inr fun p' q' h => (by obtain ⟨h1, h2⟩ : 4 = p' ∧ 5 = q' := (by simpa [ans] using h); omega)))
                          have hds : ds = 1 ∨ ds = 2 ∨ ds = 3 := by have := DST.out; omega
                          clear DST hs2 hs3
                          rcases hds with rfl | rfl | rfl
                          all_goals
                            go_wp2_with fail
                            go_quiet (fail)
                            go_wp2_with fail
                            go_ret
                            exact F.out _ (bdrewN B3.out _)
                    · have F := Lib.hid (nil.out (.inl (by simp [ans, hk7, hk9, hk11])))
                      by_cases hk2 : k = 2
                      · subst hk2
                        have hf0 : ¬ f = 0 := fun e => hw ⟨rfl, e⟩
                        clear hw hk7 hk9 hk11
                        go_wp2_with fail
                        go_quiet (fail)
                        go_wp2_with fail
                        go_ret
                        exact F.out _ (bdrewN B3.out _)
                      · clear hw
                        go_wp2_with fail
                        go_quiet (fail)
                        go_wp2_with fail
                        go_ret
                        exact F.out _ (bdrewN B3.out _)
              · have hX : RowKit.Hid (s.take ⟨f, s.id, n, x⟩ = (s, [])) := Lib.hid (by
                  rw [HTO.out, HAT.out]
                  dsimp only
                  cases ans k with
                  | none => rfl
                  | some y => obtain ⟨p', q'⟩ := y; dsimp only; rw [if_pos (.inl hfa)])
                have F := Lib.hid (FN.out hX.out)
                have hfb : (f != da) = true := by simpa using hfa
                clear HTO
                by_cases hk2 : k = 2
                · have hf0 : ¬ f = 0 := fun e => hw ⟨hk2, e⟩
                  clear hw
                  subst hk2
                  go_wp2_with fail
                  go_quiet (fail)
                  go_wp2_with fail
                  go_ret
                  exact F.out _ (bdrewN B3.out _)
                · clear hw
                  go_wp2_with fail
                  go_quiet (fail)
                  go_wp2_with fail
                  go_ret
                  exact F.out _ (bdrewN B3.out _)
    · have F := Lib.hid (FN.out (take_none (.inr hto)))
      go_wp2_with fail
      go_quiet (fail)
      go_wp2_with fail
      go_ret
      exact F.out _ (bdrewN B2.out _)
  · have F := Lib.hid (FN.out (take_none (.inl hd)))
    go_wp2_with fail
    go_quiet (fail)
    go_wp2_with fail
    go_ret
    exact F.out _ (bdrewN B2.out _)
end Go.Proofs.YtdojgbpaheadnaaGreat
