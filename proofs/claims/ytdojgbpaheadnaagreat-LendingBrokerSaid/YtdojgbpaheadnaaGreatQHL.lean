/- A broker ticks. -/
import Derived.Test.YtdojgbpaheadnaaGreatQHF
import Derived.Test.YtdojgbpaheadnaaGreatQHE
import Derived.Test.YtdojgbpaheadnaaGreatQBN
set_option linter.unusedVariables false
set_option linter.unusedSimpArgs false

namespace Go.Proofs.YtdojgbpaheadnaaGreat
open Go.RowKit Go.Shelf Go.Maps Go.ChangeMaps

theorem gcs_mem : ∀ {G : List CsG}, SortedC (G.map (·.c)) → ∀ {x : CsG}, x ∈ G → gcs G x.c.a x.c.r = some x
  | [], _, x, hx => by cases hx
  | y :: G, h, x, hx => by
    unfold SortedC at h
    rw [List.map_cons, List.pairwise_cons] at h
    unfold gcs
    rw [List.find?_cons]
    rcases List.mem_cons.1 hx with rfl | hx
    · simp [csHit]
    · have := h.1 x.c (List.mem_map.2 ⟨x, hx, rfl⟩)
      unfold csBefore at this
      rw [show csHit x.c.a x.c.r y.c = false by rw [Bool.eq_false_iff]; intro e; rw [csHit_iff] at e; omega]
      exact gcs_mem h.2 hx
theorem takeG {s : Brk} {G : List CsG} (h : s.L = G.map (·.c)) {k : Nat} {x : CsG} (hk : G[k]? = some x) : s.L.take (k + 1) = s.L.take k ++ [x.c] := by
  have : s.L[k]? = some x.c := by rw [h, List.getElem?_map, hk]; rfl
  rw [List.take_add_one, this]; rfl
theorem pcells_get : ∀ (L : List PairI) (k : Nat) (x : PairI), L[k]? = some x → (pcells L)[k * 2]? = some (i64 x.1) ∧ (pcells L)[k * 2 + 1]? = some (i64 x.2)
  | [], k, x, h => by simp at h
  | y :: L, 0, x, h => by
    obtain rfl : y = x := by simpa using h
    exact ⟨rfl, rfl⟩
  | y :: L, k + 1, x, h => by
    have ih := pcells_get L k x (by simpa using h)
    unfold pcells at ih ⊢
    rw [List.flatMap_cons, List.getElem?_append_right (by simp; omega), List.getElem?_append_right (by simp; omega)]
    have e1 : (k + 1) * 2 - [i64 y.1, i64 y.2].length = k * 2 := by simp; omega
    have e2 : (k + 1) * 2 + 1 - [i64 y.1, i64 y.2].length = k * 2 + 1 := by simp; omega
    rw [e1, e2]; exact ih
theorem mapC_nil0 (W : World) (b : Nat) : (binOp .eql 26 (.pointer (some ⟨b, 0, none⟩)) (.pointer none)).run Tryz.prog W = .ok (.bool false) W := by kernel_rfl
set_option maxRecDepth 100000 in
set_option maxHeartbeats 8000000 in
theorem bTick_any (B b N : Nat) (s : Brk) (rv mv : Value) (G : List CsG) (o : Nat → Nat) (w : World) (h : BMem w B b s rv mv G o N) (hN : N < 900) :
    Calls Tryz.prog 18 #[.pointer (some ⟨b, 0, none⟩)] w fun e w' => ∃ v, e = .returned v ∧ MRow w' w.heap.size v s.tick.2 ∧ BMem w' B b s.tick.1 rv mv G o (N + 1) ∧ Tn (fun k => k = b) w w' := by
  obtain ⟨i0, hi, hz1, hz2, hz3⟩ := info_partsM
  obtain ⟨mvo, rfl⟩ : ∃ mvo, mv = .map mvo := by
    rcases h.map with ⟨e, _⟩ | ⟨mb, _, _, e, _⟩
    · exact ⟨_, e⟩
    · exact ⟨_, e⟩
  have H := Lib.hid h
  have c3 : w.cell? ⟨b, 3, none⟩ = some (.map mvo) := h.blk.cell 3
  have hbl := h.blk.lt
  have SA := Lib.hid (sortedC_any h)
  have hl1 := h.len.1
  have hs0 := h.sent.1
  have hs1 := h.sent.2
  have HLG : RowKit.Hid (s.L.length = G.length) := Lib.hid (by rw [h.gs, List.length_map])
  clear h
  go_enter Tryz.func18, Tryz.ntmps18
  go_wp2_with fail
  refine (keysC_any mvo w).mono ?_
  rintro e w1 ⟨rfl, hw1⟩
  rw [← hw1] at SA
  have B1 : RowKit.Hid (Below w.heap.size w w1) := Lib.hid (by rw [hw1]; exact (Below.refl _ _).alloc (Nat.le_refl _) _)
  have hz : w1.heap.size = w.heap.size + 1 := by rw [hw1]; exact size_alloc _ _
  have HZ := Lib.hid hz
  clear hw1 hz
  go_wp2_with fail
  refine SA.out.mono ?_
  rintro e w2 ⟨v14, rfl, hrow, hb⟩
  rw [HLG.out] at hrow
  have R2 := Lib.hid hrow
  have B2 : RowKit.Hid (Below w.heap.size w w2) := Lib.hid (B1.out.trans ⟨hb.os, hb.tape, hb.output, hb.size, fun i hi => hb.block i (by omega)⟩)
  obtain ⟨a14, c14, rfl, hc1, hc2, -, hcells⟩ := row_cellz hrow
  have hc14 : c14 ≤ 9223372036854775807 := by unfold maxLen at hc2; omega
  have HC := Lib.hid hcells
  have M2 := Lib.hid (H.out.up B2.out)
  have h2z : w.heap.size < w2.heap.size := by have := hb.size; have := HZ.out; omega
  clear hrow hb hcells SA B1 hc1 hc2
  go_wp2_with fail
  go_loopw [3, 16] (fun u i wr => ∃ (k : Nat) (lo : Value), k ≤ G.length ∧ i = .int .i64 k ∧ lo = u ∧ MRow wr w2.heap.size lo (tickB s (s.L.take k)).2 ∧ BMem wr B b (tickB s (s.L.take k)).1 rv (.map mvo) G o (N + 1) ∧ Tn (fun k => k = b) w wr ∧ Tn (fun k => k = b ∨ w2.heap.size ≤ k) w2 wr) (fun _ i _ => G.length - (intOf i).toNat)
  case atStart => exact ⟨0, _, Nat.zero_le _, rfl, rfl, MRow.nil _ _, M2.out.mono (Nat.le_succ _) (by omega), Tn.of_below B2.out, Tn.refl _ _⟩
  case round =>
    obtain ⟨k, lo, hk, rfl, rfl, hrow, hM, hT, hT2⟩ := hrel
    have RW := Lib.hid hrow
    have M3 := Lib.hid hM
    have T3 := Lib.hid hT
    have T32 := Lib.hid hT2
    clear hrow hM hT hT2 M2
    obtain ⟨j, hsame, hj0, hj1, hmany⟩ := tickB_same (s.L.take k) s
    have hlen : (s.L.take k).length ≤ k := by rw [List.length_take]; omega
    by_cases hlt : k < G.length
    · obtain ⟨x, hx⟩ : ∃ x, G[k]? = some x := ⟨_, List.getElem?_eq_getElem hlt⟩
      have hxG : x ∈ G := List.mem_of_getElem? hx
      have HX : RowKit.Hid (gcs G x.c.a x.c.r = some x) := Lib.hid (gcs_mem (by rw [← H.out.gs]; exact H.out.inOrder) hxG)
      obtain ⟨g, rfl, go, hgB, hgl, hgc⟩ := HC.out.resolve_left (fun h => by omega)
      have hpx : (s.L.map prC)[k]? = some (x.c.a, x.c.r) := by rw [H.out.gs, List.map_map, List.getElem?_map, hx]; rfl
      obtain ⟨p0, p1⟩ := pcells_get _ k _ hpx
      have hng : ¬ (g = b ∨ w2.heap.size ≤ g) := by have := B2.out; rintro (e | e) <;> omega
      have g0 : wr.cell? ⟨g, k * 2, none⟩ = some (i64 x.c.a) := T32.out.cell (hgc _ _ p0) hng
      have g1 : wr.cell? ⟨g, k * 2 + 1, none⟩ = some (i64 x.c.r) := T32.out.cell (hgc _ _ p1) hng
      have hsnoc := tickB_snoc x.c (s.L.take k) s
      rw [← takeG H.out.gs hx] at hsnoc
      obtain ⟨sk, hsk⟩ : ∃ sk, sk = tickB s (s.L.take k) := ⟨_, rfl⟩
      rw [← hsk] at RW M3 hsnoc hsame hmany
      have hsl : sk.1.sent < 1000 * ((N + 1 : Nat) : Int) := by rw [hsame]; dsimp only; omega
      have hml : sk.2.length ≤ 1000 := by omega
      obtain ⟨hxk, -, hxl⟩ := M3.out.cases_ x hxG
      have hI := H.out.ids.2.2.2 x.c (by rw [H.out.gs]; exact List.mem_map.2 ⟨x, hxG, rfl⟩)
      have HI := Lib.hid (And.intro hI.1 hI.2.1)
      have XK := Lib.hid hxk
      obtain ⟨va, vc, rfl, -⟩ := row_cellz RW.out
      obtain ⟨w4, hw4⟩ : ∃ w4, w4 = wr.alloc (.cells #[i64 x.c.a, i64 x.c.r] 106) := ⟨_, rfl⟩
      obtain ⟨db, hdb⟩ : ∃ db, db = wr.heap.size := ⟨_, rfl⟩
      have D4 : RowKit.Hid (Blk w4 db #[i64 x.c.a, i64 x.c.r] 106) := Lib.hid (by rw [hw4, hdb]; exact Blk.new _ _ _)
      have B4 : RowKit.Hid (Below wr.heap.size wr w4) := Lib.hid (by rw [hw4]; exact (Below.refl _ _).alloc (Nat.le_refl _) _)
      have HW4 := Lib.hid hw4
      have HDB := Lib.hid hdb
      clear hsk hsame hx hxG hj0 hj1 hmany hlen hpx p0 p1 hng hgc hgB hgl go hxk hxl hI hw4 hdb
      go_wp2_with fail
      rw [← HW4.out, ← HDB.out]
      obtain ⟨S, hS⟩ : ∃ S : World → Prop, S = fun W => ∃ n, W = w4.drewN n := ⟨_, rfl⟩
      have M4 := Lib.hid (M3.out.up B4.out)
      have LD : RowKit.Hid (∀ W, S W → W.cell? ⟨b, 3, none⟩ = some (.map mvo) ∧ W.cell? ⟨db, 0, none⟩ = some (i64 x.c.a) ∧ W.cell? ⟨db, 1, none⟩ = some (i64 x.c.r) ∧ (Instr.lookup 56 (.map mvo) (.agg #[i64 x.c.a, i64 x.c.r]) false).run Tryz.prog W = .ok (.pointer (some ⟨x.k, 0, none⟩)) W) := Lib.hid (by
        rw [hS]; rintro W ⟨n, rfl⟩
        refine ⟨M4.out.blk.cell 3, D4.out.cell 0, D4.out.cell 1, ?_⟩
        have := (M4.out.up (bdrewN (Below.refl _ _) n)).look HI.out.1 HI.out.2
        rw [HX.out] at this; exact this)
      have SS : RowKit.Hid (∀ W, S W → ∃ n, W = w4.drewN n) := Lib.hid (by rw [hS]; exact fun W h => h)
      have hHeld : S w4.drew := by rw [hS]; exact ⟨1, rfl⟩
      clear hS g0 g1
      refine wp_region_held_drew (S := S) (by kernel_rfl) hHeld (fun _ => ?_)
      apply wpAnyH_apart S
      case take =>
        intro R hR
        refine wpAnyH_take (i := 0) (v := ?_) rfl (by kernel_rfl) (by kernel_rfl) (by kernel_rfl) (fun _ _ _ h => only_panic h) (Or.inl ⟨by rfl, ?_⟩) hHeld ?_
        rotate_left
        · (intro w hSw; have l0 := (LD.out w hSw).1; go_simp; try (with_reducible rfl))
        try simp only [gA, gB, gC, Act.put, gD, gE, gF]
        refine wpAnyH_take (i := 1) (v := ?_) rfl (by kernel_rfl) (by kernel_rfl) (by kernel_rfl) (fun _ _ _ h => only_panic h) (Or.inl ⟨by rfl, ?_⟩) hHeld ?_
        rotate_left
        · (intro w hSw; have l0 := (LD.out w hSw).1; go_simp; try (with_reducible rfl))
        try simp only [gA, gB, gC, Act.put, gD, gE, gF]
        refine wpAnyH_take (i := 2) (v := ?_) rfl (by kernel_rfl) (by kernel_rfl) (by kernel_rfl) (fun _ _ _ h => only_panic h) (Or.inl ⟨by rfl, ?_⟩) hHeld ?_
        rotate_left
        · (intro w hSw; have l0 := (LD.out w hSw).1; go_simp; try (with_reducible rfl))
        try simp only [gA, gB, gC, Act.put, gD, gE, gF]
        refine wpAnyH_take (i := 3) (v := ?_) rfl (by kernel_rfl) (by kernel_rfl) (by kernel_rfl) (fun _ _ _ h => only_panic h) (Or.inl ⟨by rfl, ?_⟩) hHeld ?_
        rotate_left
        · (intro w hSw; have l0 := (LD.out w hSw).1; go_simp; try (with_reducible rfl))
        try simp only [gA, gB, gC, Act.put, gD, gE, gF]
        refine wpAnyH_take (i := 4) (v := ?_) rfl (by kernel_rfl) (by kernel_rfl) (by kernel_rfl) (fun _ _ _ h => only_panic h) (Or.inl ⟨by rfl, ?_⟩) hHeld ?_
        rotate_left
        · (intro w hSw; obtain ⟨-, l1, l2, -⟩ := LD.out w hSw; go_simp; try (with_reducible rfl))
        try simp only [gA, gB, gC, Act.put, gD, gE, gF]
        refine wpAnyH_take (i := 5) (v := ?_) rfl (by kernel_rfl) (by kernel_rfl) (by kernel_rfl) (fun _ _ _ h => only_panic h) (Or.inl ⟨by rfl, ?_⟩) hHeld ?_
        rotate_left
        · (intro w hSw; have l0 := (LD.out w hSw).2.2.2; go_simp; try (with_reducible rfl))
        try simp only [gA, gB, gC, Act.put, gD, gE, gF]
        refine wpAnyH_take (i := 6) (v := ?_) rfl (by kernel_rfl) (by kernel_rfl) (by kernel_rfl) (fun _ _ _ h => only_panic h) (Or.inl ⟨by rfl, ?_⟩) hHeld ?_
        rotate_left
        · (intro w hSw; clear hSw; go_simp; try (with_reducible rfl))
        try simp only [gA, gB, gC, Act.put, gD, gE, gF]
        exact wpAnyH_done (by kernel_rfl) ⟨rfl, hR _ hHeld⟩ _
      intro w5 hW
      obtain ⟨n5, hn5⟩ := SS.out w5 hW
      have B5 : RowKit.Hid (Below wr.heap.size wr w5) := Lib.hid (hn5 ▸ bdrewN B4.out n5)
      have D5 : RowKit.Hid (Blk w5 db #[i64 x.c.a, i64 x.c.r] 106) := Lib.hid (hn5 ▸ D4.out.drewN n5)
      clear hn5 hW SS LD hHeld M4 D4 B4
      have M5 := Lib.hid (M3.out.up B5.out)
      have X5 := Lib.hid (XK.out.below B5.out XK.out.lt)
      have T5 := Lib.hid (T3.out.trans (Tn.of_below (F := fun k => k = b) B5.out))
      have T52 := Lib.hid (T32.out.trans (Tn.of_below (F := fun k => k = b ∨ w2.heap.size ≤ k) B5.out))
      have RW5 : RowKit.Hid (MRow w5 w2.heap.size (.slice va sk.2.length vc) sk.2) := Lib.hid (ownsB_same RW.out fun r hr => B5.out.block r (row_lt RW.out r hr).2)
      have d0 : w5.cell? ⟨db, 0, none⟩ = some (i64 x.c.a) := D5.out.cell 0
      have d1 : w5.cell? ⟨db, 1, none⟩ = some (i64 x.c.r) := D5.out.cell 1
      obtain ⟨n, hn⟩ : ∃ n, n = x.c.left.length := ⟨_, rfl⟩
      have k1 : w5.cell? ⟨x.k, 1, none⟩ = some (.slice x.la n x.lc) := by rw [hn]; exact X5.out.cell 1
      have k2 : w5.cell? ⟨x.k, 2, none⟩ = some (.bool x.c.g) := X5.out.cell 2
      clear M3 T3 T32 RW B5
      by_cases ho : x.c.opn = true
      · rw [if_pos ho] at hsnoc
        obtain ⟨⟨mf, mt, mn, mx⟩, hm⟩ := tellB sk.1 x.c
        have SN : RowKit.Hid (tickB s (s.L.take (k + 1)) = ((sk.1.tell x.c).1, sk.2 ++ [⟨mf, mt, mn, mx⟩])) := Lib.hid (by rw [hsnoc, hm])
        have HM := Lib.hid hm
        obtain ⟨ho1, ho2⟩ := opn_iff.1 ho
        have hn0 : 0 < n := by rw [hn]; exact List.length_pos_iff.2 ho2
        have hn1 : (n : Int) > 0 := by omega
        rw [ho1] at k2
        clear ho ho1 ho2 hsnoc hm hn
        go_wp2_with fail
        refine (bTell_any B b (N + 1) sk.1 rv (.map mvo) G o x x.c.a x.c.r w5 M5.out HX.out hsl).mono ?_
        rintro e w6 ⟨v6, rfl, hm6, hM6, hT6⟩
        rw [HM.out] at hm6
        obtain ⟨g6, hg6, rfl, hb6⟩ := hm6
        have M6 := Lib.hid hM6
        have N6 := Lib.hid hb6
        have T6 := Lib.hid (T5.out.trans hT6)
        have T62 := Lib.hid (T52.out.trans (hT6.mono fun k hk => .inl hk))
        have RW6 : RowKit.Hid (MRow w6 w2.heap.size (.slice va sk.2.length vc) sk.2) := Lib.hid (hT6.row RW5.out fun r hr e => by have := (row_lt RW5.out r hr).1; omega)
        have hz6 := T62.out.size
        clear hM6 hT6 hb6 d0 d1 k1 k2 M5 T5 T52 RW5
        go_wp2_with (first
          | (refine wpList_append_all rfl (.tmp 39) (.tmp 42) 38 rfl w2.heap.size 31 i0 _ 4 40 Tryz.underlying38 hi hz1 hz2 hz3 rfl (by omega) _ sk.2.length (mcells sk.2) rfl RW6.out 1 (encM ⟨mf, mt, mn, mx⟩).toList _ rfl (.inr ⟨_, _, rfl, rfl, blk_news N6.out⟩) (enc_one _) (by unfold maxLen; omega) (by omega) hz6 ?_
             intro v7 w7 hown7 hg7 hat7
             have R7 : RowKit.Hid (MRow w7 w2.heap.size v7 (sk.2 ++ [⟨mf, mt, mn, mx⟩])) := Lib.hid (by
               unfold MRow
               rw [mcells_app, List.length_append]
               have e : mcells [⟨mf, mt, mn, mx⟩] = (encM ⟨mf, mt, mn, mx⟩).toList := by simp [mcells]
               rw [e]; exact hown7)
             have TG : RowKit.Hid (Tn (fun j => (Value.slice va sk.2.length vc).ownBlock = some j) w6 w7) := Lib.hid ((Tn.of_grown hg7).mono fun k hk => hk)
             clear hown7 hg7 hat7))
        have hu : ∀ j, (Value.slice va sk.2.length vc).ownBlock = some j → w2.heap.size ≤ j := fun j hj => (row_lt RW6.out j hj).1
        have M7 := Lib.hid (M6.out.keep TG.out fun j hj => by
          rcases Nat.eq_zero_or_pos (o j) with h0 | h0
          · exact h0
          · have h1 := (H.out.olt j (by omega)).2
            have := hu j hj; omega)
        have T7 : RowKit.Hid (Tn (fun k => k = b) w w7) := Lib.hid (T6.out.then_ TG.out fun j hj => .inr (by have := hu j hj; omega))
        have T72 : RowKit.Hid (Tn (fun k => k = b ∨ w2.heap.size ≤ k) w2 w7) := Lib.hid (T62.out.then_ TG.out fun j hj => .inl (.inr (hu j hj)))
        exact ⟨⟨k + 1, _, hlt, by go_num, rfl, by rw [SN.out]; exact R7.out, by rw [SN.out]; exact M7.out, T7.out, T72.out⟩, by simp [intOf]; omega⟩
      · rw [if_neg ho] at hsnoc
        have SN := Lib.hid hsnoc
        clear hsnoc
        by_cases hg : x.c.g = true
        · rw [hg] at k2
          clear ho hg hn
          go_wp2_with fail
          exact ⟨⟨k + 1, _, hlt, by go_num, rfl, by rw [SN.out]; exact RW5.out, by rw [SN.out]; exact M5.out, T5.out, T52.out⟩, by simp [intOf]; omega⟩
        · have hg0 : x.c.g = false := by simpa using hg
          have hn0 : n = 0 := by
            rw [hn]
            cases hl : x.c.left with
            | nil => rfl
            | cons y l => exact absurd (opn_iff.2 ⟨hg0, by rw [hl]; simp⟩) ho
          rw [hg0] at k2
          rw [hn0] at k1
          clear ho hg hg0 hn hn0
          go_wp2_with fail
          exact ⟨⟨k + 1, _, hlt, by go_num, rfl, by rw [SN.out]; exact RW5.out, by rw [SN.out]; exact M5.out, T5.out, T52.out⟩, by simp [intOf]; omega⟩
    · have hk2 : k = G.length := by omega
      have e1 : tickB s (s.L.take k) = s.tick := by rw [List.take_of_length_le (by rw [HLG.out]; omega)]; rfl
      rw [e1] at RW M3
      subst hk2
      clear e1 hsame hj0 hj1 hmany hk
      go_wp2_with fail
      go_ret
      exact ⟨_, rfl, row_mono RW.out (by omega), M3.out, T3.out⟩
end Go.Proofs.YtdojgbpaheadnaaGreat
