/- The reference's asker ticks. -/
import Derived.Test.YtdojgbpaheadnaaQKE
set_option linter.unusedVariables false
set_option linter.unusedSimpArgs false

namespace Go.Proofs.Ytdojgbpaheadnaa
open Go.RowKit Go.Shelf Go.Maps

set_option maxRecDepth 100000 in
set_option maxHeartbeats 8000000 in
theorem rtickA_any (B rb N : Nat) (s : Asr) (lv : Value) (w : World) (h : RAM w B rb s lv N) (hN : N < 9000) (hL : s.L.length < 1000) :
    Calls Try.prog 25 #[.pointer (some ⟨rb, 0, none⟩)] w fun e w' => ∃ v, e = .returned v ∧ MRow w' w.heap.size v s.tick.2 ∧ RAM w' B rb s.tick.1 lv (N + 1) ∧ Tn (fun k => k = rb) w w' := by
  obtain ⟨i0, hi, hz1, hz2, hz3⟩ := info_partsM
  obtain ⟨la, lcap, hlv, ld1, ld2, lxl, hlc⟩ := row_cellz h.reqs
  have hlcap : lcap ≤ 9223372036854775807 := by unfold maxLen at ld2; omega
  have H := Lib.hid h
  have HLV := Lib.hid hlv
  have HLC := Lib.hid hlc
  have hbl := h.blk.lt
  have hs0 := h.sent.1
  have hs1 := h.sent.2
  clear h ld2 lxl hlc hlv
  go_enter Try.func25, Try.ntmps25
  go_wp2_with fail
  go_loopw [3, 4] (fun o i wr => ∃ (k : Nat) (lo : Value), k ≤ s.L.length ∧ i = .int .i64 k ∧ lo = o ∧ MRow wr w.heap.size lo (tickL s (s.L.take k)).2 ∧ RAM wr B rb (tickL s (s.L.take k)).1 lv (N + 1) ∧ Tn (fun k => k = rb) w wr) (fun _ i _ => s.L.length - (intOf i).toNat)
  case atStart => exact ⟨0, _, Nat.zero_le _, rfl, rfl, MRow.nil _ _, H.out.mono (Nat.le_succ _) (by omega), Tn.refl _ _⟩
  case round =>
    obtain ⟨k, o, hk, rfl, rfl, hrow, hM, hT⟩ := hrel
    have RW := Lib.hid hrow
    have M3 := Lib.hid hM
    have T3 := Lib.hid hT
    clear hrow hM hT
    obtain ⟨hsame, hsid, hscap, hs2, hs3, hmany⟩ := tickL_same (s.L.take k) s
    have c3 : wr.cell? ⟨rb, 3, none⟩ = some (.slice la s.L.length lcap) := (M3.out.blk.cell 3).trans (congrArg some HLV.out)
    by_cases hlt : k < s.L.length
    · obtain ⟨g, rfl, -⟩ := HLC.out.resolve_left (fun h => by omega)
      obtain ⟨q, hq⟩ : ∃ q, s.L[k]? = some q := ⟨_, List.getElem?_eq_getElem hlt⟩
      have hqm : q ∈ s.L := List.mem_of_getElem? hq
      obtain ⟨d0, d1, d2, d3⟩ := M3.out.req (by rw [hsame]; exact hq) HLV.out
      have HQ := Lib.hid (H.out.ids.2.2 q hqm)
      have hlen : (s.L.take k).length ≤ k := by rw [List.length_take]; omega
      have hsnoc := tickL_snoc q (s.L.take k) s
      rw [show s.L.take k ++ [q] = s.L.take (k + 1) from by rw [List.take_add_one, hq]; rfl] at hsnoc
      obtain ⟨sk, hsk⟩ : ∃ sk, sk = tickL s (s.L.take k) := ⟨_, rfl⟩
      rw [← hsk] at RW M3 hsnoc hs2 hs3 hmany
      have SN := Lib.hid hsnoc
      have hsl : sk.1.sent < 1000 * ((N + 1 : Nat) : Int) := by omega
      have hml : sk.2.length ≤ 1000 := by omega
      obtain ⟨va, vc, rfl, -⟩ := row_cellz RW.out
      obtain ⟨w4, hw4⟩ : ∃ w4, w4 = wr.alloc (.cells #[i64 q.n, i64 q.t, i64 q.st, i64 q.l] 107) := ⟨_, rfl⟩
      have B4 : RowKit.Hid (Below wr.heap.size wr w4) := Lib.hid (by rw [hw4]; exact (Below.refl _ _).alloc (Nat.le_refl _) _)
      have M4 := Lib.hid (M3.out.up B4.out)
      clear hsk hsnoc hsame hsid hscap hq hqm
      by_cases hst : q.st = 1
      · skip
        rw [hst] at d2
        have key := rsendA M4.out hsl 0 1 q ⟨by omega, by omega⟩ HQ.out.1 HQ.out.2.1
        obtain ⟨⟨mf, mt, mn, mx⟩, hm⟩ : ∃ m, m = rmsg sk.1 0 1 q := ⟨_, rfl⟩
        have SM : RowKit.Hid (tickL s (s.L.take (k + 1)) = ({ sk.1 with sent := sk.1.sent + 1 }, sk.2 ++ [⟨mf, mt, mn, mx⟩])) := Lib.hid (by
          rw [SN.out, hm, hst]; rfl)
        rw [← hm, show encM ⟨mf, mt, mn, mx⟩ = #[i64 mf, i64 mt, i64 mn, strV mx] from rfl, hst] at key
        have KEY := Lib.hid key
        rw [hst] at hw4
        have HW4 := Lib.hid hw4
        clear hm key hst hw4
        go_wp2_with fail
        rw [← HW4.out]
        refine KEY.out.mono ?_
        rintro e w5 ⟨rfl, hM5, hT5⟩
        have M5 := Lib.hid hM5
        have T5 : RowKit.Hid (Tn (fun k => k = rb) w w5) := Lib.hid ((T3.out.trans (Tn.of_below B4.out)).trans hT5)
        have RW5 : RowKit.Hid (w5.ownsRow w.heap.size 31 4 (.slice va sk.2.length vc) sk.2.length (mcells sk.2)) := Lib.hid (hT5.row (ownsB_same RW.out fun r hr => B4.out.block r (row_lt RW.out r hr).2) fun r hr e => by have := (row_lt RW.out r hr).1; have := hbl; omega)
        clear hM5 hT5 KEY HW4
        have hz5 := T5.out.size
        have N5 : RowKit.Hid (Blk (w5.alloc (.cells #[i64 mf, i64 mt, i64 mn, strV mx] 31)) w5.heap.size #[i64 mf, i64 mt, i64 mn, strV mx] 31) := Lib.hid (Blk.new _ _ _)
        have R5 := Lib.hid (RW5.out.alloc (.cells #[i64 mf, i64 mt, i64 mn, strV mx] 31))
        go_wp2_with (refine wpList_append_all rfl (.tmp 26) (.tmp 30) 38 rfl w.heap.size 31 i0 _ 4 40 Try.underlying38 hi hz1 hz2 hz3 rfl (by omega) _ sk.2.length (mcells sk.2) rfl R5.out 1 (encM ⟨mf, mt, mn, mx⟩).toList _ rfl (.inr ⟨_, _, rfl, rfl, blk_news N5.out⟩) (enc_one _) (by unfold maxLen; omega) (by omega) (by rw [size_alloc]; omega) ?_; intro v6 w6 hown6 hg6 hat6; have B6 : RowKit.Hid (Tn (fun j => (Value.slice va sk.2.length vc).ownBlock = some j) w5 w6) := Lib.hid ((Tn.of_below ((Below.refl _ _).alloc (Nat.le_refl _) _)).trans (Tn.of_grown hg6)); have R6 : RowKit.Hid (MRow w6 w.heap.size v6 (sk.2 ++ [⟨mf, mt, mn, mx⟩])) := Lib.hid (by unfold MRow; rw [List.length_append, mcells_app]; simpa [mcells] using hown6); clear hown6 hg6 hat6)
        have M6 := Lib.hid (M5.out.keep B6.out fun j h1 h2 => by
          have := (row_lt RW5.out j h1).1
          rcases h2 with rfl | h2
          · omega
          · have := (H.out.own_lt (.inr h2)).2; omega)
        have T6 : RowKit.Hid (Tn (fun k => k = rb) w w6) := Lib.hid (T5.out.then_ B6.out fun j hj => .inr (row_lt RW5.out j hj).1)
        exact ⟨⟨k + 1, _, hlt, by go_num, rfl, by rw [SM.out]; exact R6.out, by rw [SM.out]; exact M6.out, T6.out⟩, by simp [intOf]; omega⟩
      · by_cases h2 : q.st = 2
        · have hst := h2
          clear h2
          rw [hst] at d2
          have key := rsendA M4.out hsl q.l 7 q ⟨by omega, by omega⟩ HQ.out.1 HQ.out.2.1
          obtain ⟨⟨mf, mt, mn, mx⟩, hm⟩ : ∃ m, m = rmsg sk.1 q.l 7 q := ⟨_, rfl⟩
          have SM : RowKit.Hid (tickL s (s.L.take (k + 1)) = ({ sk.1 with sent := sk.1.sent + 1 }, sk.2 ++ [⟨mf, mt, mn, mx⟩])) := Lib.hid (by
            rw [SN.out, hm, hst]; rfl)
          rw [← hm, show encM ⟨mf, mt, mn, mx⟩ = #[i64 mf, i64 mt, i64 mn, strV mx] from rfl, hst] at key
          have KEY := Lib.hid key
          rw [hst] at hw4
          have HW4 := Lib.hid hw4
          clear hm key hst hw4
          go_wp2_with fail
          rw [← HW4.out]
          refine KEY.out.mono ?_
          rintro e w5 ⟨rfl, hM5, hT5⟩
          have M5 := Lib.hid hM5
          have T5 : RowKit.Hid (Tn (fun k => k = rb) w w5) := Lib.hid ((T3.out.trans (Tn.of_below B4.out)).trans hT5)
          have RW5 : RowKit.Hid (w5.ownsRow w.heap.size 31 4 (.slice va sk.2.length vc) sk.2.length (mcells sk.2)) := Lib.hid (hT5.row (ownsB_same RW.out fun r hr => B4.out.block r (row_lt RW.out r hr).2) fun r hr e => by have := (row_lt RW.out r hr).1; have := hbl; omega)
          clear hM5 hT5 KEY HW4
          have hz5 := T5.out.size
          have N5 : RowKit.Hid (Blk (w5.alloc (.cells #[i64 mf, i64 mt, i64 mn, strV mx] 31)) w5.heap.size #[i64 mf, i64 mt, i64 mn, strV mx] 31) := Lib.hid (Blk.new _ _ _)
          have R5 := Lib.hid (RW5.out.alloc (.cells #[i64 mf, i64 mt, i64 mn, strV mx] 31))
          go_wp2_with (refine wpList_append_all rfl (.tmp 34) (.tmp 40) 38 rfl w.heap.size 31 i0 _ 4 40 Try.underlying38 hi hz1 hz2 hz3 rfl (by omega) _ sk.2.length (mcells sk.2) rfl R5.out 1 (encM ⟨mf, mt, mn, mx⟩).toList _ rfl (.inr ⟨_, _, rfl, rfl, blk_news N5.out⟩) (enc_one _) (by unfold maxLen; omega) (by omega) (by rw [size_alloc]; omega) ?_; intro v6 w6 hown6 hg6 hat6; have B6 : RowKit.Hid (Tn (fun j => (Value.slice va sk.2.length vc).ownBlock = some j) w5 w6) := Lib.hid ((Tn.of_below ((Below.refl _ _).alloc (Nat.le_refl _) _)).trans (Tn.of_grown hg6)); have R6 : RowKit.Hid (MRow w6 w.heap.size v6 (sk.2 ++ [⟨mf, mt, mn, mx⟩])) := Lib.hid (by unfold MRow; rw [List.length_append, mcells_app]; simpa [mcells] using hown6); clear hown6 hg6 hat6)
          have M6 := Lib.hid (M5.out.keep B6.out fun j h1 h2 => by
            have := (row_lt RW5.out j h1).1
            rcases h2 with rfl | h2
            · omega
            · have := (H.out.own_lt (.inr h2)).2; omega)
          have T6 : RowKit.Hid (Tn (fun k => k = rb) w w6) := Lib.hid (T5.out.then_ B6.out fun j hj => .inr (row_lt RW5.out j hj).1)
          exact ⟨⟨k + 1, _, hlt, by go_num, rfl, by rw [SM.out]; exact R6.out, by rw [SM.out]; exact M6.out, T6.out⟩, by simp [intOf]; omega⟩
        · by_cases h3 : q.st = 3
          · have hst := h3
            clear h2 h3
            rw [hst] at d2
            have key := rsendA M4.out hsl q.l 9 q ⟨by omega, by omega⟩ HQ.out.1 HQ.out.2.1
            obtain ⟨⟨mf, mt, mn, mx⟩, hm⟩ : ∃ m, m = rmsg sk.1 q.l 9 q := ⟨_, rfl⟩
            have SM : RowKit.Hid (tickL s (s.L.take (k + 1)) = ({ sk.1 with sent := sk.1.sent + 1 }, sk.2 ++ [⟨mf, mt, mn, mx⟩])) := Lib.hid (by
              rw [SN.out, hm, hst]; rfl)
            rw [← hm, show encM ⟨mf, mt, mn, mx⟩ = #[i64 mf, i64 mt, i64 mn, strV mx] from rfl, hst] at key
            have KEY := Lib.hid key
            rw [hst] at hw4
            have HW4 := Lib.hid hw4
            clear hm key hst hw4
            go_wp2_with fail
            rw [← HW4.out]
            refine KEY.out.mono ?_
            rintro e w5 ⟨rfl, hM5, hT5⟩
            have M5 := Lib.hid hM5
            have T5 : RowKit.Hid (Tn (fun k => k = rb) w w5) := Lib.hid ((T3.out.trans (Tn.of_below B4.out)).trans hT5)
            have RW5 : RowKit.Hid (w5.ownsRow w.heap.size 31 4 (.slice va sk.2.length vc) sk.2.length (mcells sk.2)) := Lib.hid (hT5.row (ownsB_same RW.out fun r hr => B4.out.block r (row_lt RW.out r hr).2) fun r hr e => by have := (row_lt RW.out r hr).1; have := hbl; omega)
            clear hM5 hT5 KEY HW4
            have hz5 := T5.out.size
            have N5 : RowKit.Hid (Blk (w5.alloc (.cells #[i64 mf, i64 mt, i64 mn, strV mx] 31)) w5.heap.size #[i64 mf, i64 mt, i64 mn, strV mx] 31) := Lib.hid (Blk.new _ _ _)
            have R5 := Lib.hid (RW5.out.alloc (.cells #[i64 mf, i64 mt, i64 mn, strV mx] 31))
            go_wp2_with (refine wpList_append_all rfl (.tmp 44) (.tmp 50) 38 rfl w.heap.size 31 i0 _ 4 40 Try.underlying38 hi hz1 hz2 hz3 rfl (by omega) _ sk.2.length (mcells sk.2) rfl R5.out 1 (encM ⟨mf, mt, mn, mx⟩).toList _ rfl (.inr ⟨_, _, rfl, rfl, blk_news N5.out⟩) (enc_one _) (by unfold maxLen; omega) (by omega) (by rw [size_alloc]; omega) ?_; intro v6 w6 hown6 hg6 hat6; have B6 : RowKit.Hid (Tn (fun j => (Value.slice va sk.2.length vc).ownBlock = some j) w5 w6) := Lib.hid ((Tn.of_below ((Below.refl _ _).alloc (Nat.le_refl _) _)).trans (Tn.of_grown hg6)); have R6 : RowKit.Hid (MRow w6 w.heap.size v6 (sk.2 ++ [⟨mf, mt, mn, mx⟩])) := Lib.hid (by unfold MRow; rw [List.length_append, mcells_app]; simpa [mcells] using hown6); clear hown6 hg6 hat6)
            have M6 := Lib.hid (M5.out.keep B6.out fun j h1 h2 => by
              have := (row_lt RW5.out j h1).1
              rcases h2 with rfl | h2
              · omega
              · have := (H.out.own_lt (.inr h2)).2; omega)
            have T6 : RowKit.Hid (Tn (fun k => k = rb) w w6) := Lib.hid (T5.out.then_ B6.out fun j hj => .inr (row_lt RW5.out j hj).1)
            exact ⟨⟨k + 1, _, hlt, by go_num, rfl, by rw [SM.out]; exact R6.out, by rw [SM.out]; exact M6.out, T6.out⟩, by simp [intOf]; omega⟩
          · by_cases h5 : q.st = 5
            · have hst := h5
              clear h2 h3 h5
              rw [hst] at d2
              have key := rsendA M4.out hsl q.l 11 q ⟨by omega, by omega⟩ HQ.out.1 HQ.out.2.1
              obtain ⟨⟨mf, mt, mn, mx⟩, hm⟩ : ∃ m, m = rmsg sk.1 q.l 11 q := ⟨_, rfl⟩
              have SM : RowKit.Hid (tickL s (s.L.take (k + 1)) = ({ sk.1 with sent := sk.1.sent + 1 }, sk.2 ++ [⟨mf, mt, mn, mx⟩])) := Lib.hid (by
                rw [SN.out, hm, hst]; rfl)
              rw [← hm, show encM ⟨mf, mt, mn, mx⟩ = #[i64 mf, i64 mt, i64 mn, strV mx] from rfl, hst] at key
              have KEY := Lib.hid key
              rw [hst] at hw4
              have HW4 := Lib.hid hw4
              clear hm key hst hw4
              go_wp2_with fail
              rw [← HW4.out]
              refine KEY.out.mono ?_
              rintro e w5 ⟨rfl, hM5, hT5⟩
              have M5 := Lib.hid hM5
              have T5 : RowKit.Hid (Tn (fun k => k = rb) w w5) := Lib.hid ((T3.out.trans (Tn.of_below B4.out)).trans hT5)
              have RW5 : RowKit.Hid (w5.ownsRow w.heap.size 31 4 (.slice va sk.2.length vc) sk.2.length (mcells sk.2)) := Lib.hid (hT5.row (ownsB_same RW.out fun r hr => B4.out.block r (row_lt RW.out r hr).2) fun r hr e => by have := (row_lt RW.out r hr).1; have := hbl; omega)
              clear hM5 hT5 KEY HW4
              have hz5 := T5.out.size
              have N5 : RowKit.Hid (Blk (w5.alloc (.cells #[i64 mf, i64 mt, i64 mn, strV mx] 31)) w5.heap.size #[i64 mf, i64 mt, i64 mn, strV mx] 31) := Lib.hid (Blk.new _ _ _)
              have R5 := Lib.hid (RW5.out.alloc (.cells #[i64 mf, i64 mt, i64 mn, strV mx] 31))
              go_wp2_with (refine wpList_append_all rfl (.tmp 54) (.tmp 60) 38 rfl w.heap.size 31 i0 _ 4 40 Try.underlying38 hi hz1 hz2 hz3 rfl (by omega) _ sk.2.length (mcells sk.2) rfl R5.out 1 (encM ⟨mf, mt, mn, mx⟩).toList _ rfl (.inr ⟨_, _, rfl, rfl, blk_news N5.out⟩) (enc_one _) (by unfold maxLen; omega) (by omega) (by rw [size_alloc]; omega) ?_; intro v6 w6 hown6 hg6 hat6; have B6 : RowKit.Hid (Tn (fun j => (Value.slice va sk.2.length vc).ownBlock = some j) w5 w6) := Lib.hid ((Tn.of_below ((Below.refl _ _).alloc (Nat.le_refl _) _)).trans (Tn.of_grown hg6)); have R6 : RowKit.Hid (MRow w6 w.heap.size v6 (sk.2 ++ [⟨mf, mt, mn, mx⟩])) := Lib.hid (by unfold MRow; rw [List.length_append, mcells_app]; simpa [mcells] using hown6); clear hown6 hg6 hat6)
              have M6 := Lib.hid (M5.out.keep B6.out fun j h1 h2 => by
                have := (row_lt RW5.out j h1).1
                rcases h2 with rfl | h2
                · omega
                · have := (H.out.own_lt (.inr h2)).2; omega)
              have T6 : RowKit.Hid (Tn (fun k => k = rb) w w6) := Lib.hid (T5.out.then_ B6.out fun j hj => .inr (row_lt RW5.out j hj).1)
              exact ⟨⟨k + 1, _, hlt, by go_num, rfl, by rw [SM.out]; exact R6.out, by rw [SM.out]; exact M6.out, T6.out⟩, by simp [intOf]; omega⟩
            · have e1 : (q.st == 1) = false := by simpa using hst
              have e2 : (q.st == 2) = false := by simpa using h2
              have e3 : (q.st == 3) = false := by simpa using h3
              have e5 : (q.st == 5) = false := by simpa using h5
              have SM : RowKit.Hid (tickL s (s.L.take (k + 1)) = sk) := Lib.hid (by
                rw [SN.out, show agn q.st = 0 by simp [agn, hst, h2, h3, h5]]
                show (sk.1, sk.2 ++ []) = sk
                rw [List.append_nil])
              have T4 := Lib.hid (T3.out.trans (Tn.of_below B4.out))
              have RW4 : RowKit.Hid (MRow w4 w.heap.size (.slice va sk.2.length vc) sk.2) := Lib.hid (ownsB_same RW.out fun r hr => B4.out.block r (row_lt RW.out r hr).2)
              clear hst h2 h3 h5
              go_wp2_with fail
              rw [← hw4]
              exact ⟨⟨k + 1, _, hlt, by go_num, rfl, by rw [SM.out]; exact RW4.out, by rw [SM.out]; exact M4.out, T4.out⟩, by simp [intOf]; omega⟩
    · have hk2 : k = s.L.length := by omega
      subst hk2
      rw [List.take_length] at RW M3
      clear hsame hsid hscap hs2 hs3 hmany
      go_wp2_with fail
      go_ret
      exact ⟨_, rfl, RW.out, M3.out, T3.out⟩
end Go.Proofs.Ytdojgbpaheadnaa
