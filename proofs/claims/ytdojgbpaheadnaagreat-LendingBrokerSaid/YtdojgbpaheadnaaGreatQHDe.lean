/- The reference's broker takes a message: the others. -/
import Derived.Test.YtdojgbpaheadnaaGreatQHE
set_option linter.unusedVariables false
set_option linter.unusedSimpArgs false

namespace Go.Proofs.YtdojgbpaheadnaaGreat
open Go.RowKit Go.Shelf Go.Maps

set_option maxRecDepth 100000 in
set_option maxHeartbeats 16000000 in
theorem rbtake_e (B rb N : Nat) (s : Brk) (rv lv : Value) (G : List CsN) (f nn : Int) (y : List UInt8) (k a r v : Int) (w : World) (h : RBM w B rb s rv lv G N) (hN : N < 9000) (ht : y.length ≤ 1000000) (hd0 : dec y = some (k, a, r, v)) {x : Cs} (hcs : cs s.L a r = some x) (hnk : x.opn = true → ¬ k = 3 ∧ ¬ k = 4) :
    Calls Tryz.prog 17 #[.pointer (some ⟨rb, 0, none⟩), .agg (encM ⟨f, s.id, nn, y⟩)] w (RBTakeE B rb N s rv lv ⟨f, s.id, nn, y⟩ w) := by
  have HCS := Lib.hid hcs
  have HNK := Lib.hid hnk
  clear hcs hnk
  obtain ⟨i0, hi, hz1, hz2, hz3⟩ := info_partsC
  have H0 := Lib.hid h
  have FN : RowKit.Hid (s.take ⟨f, s.id, nn, y⟩ = (s, []) → ∀ W, Below w.heap.size w W → RBTakeE B rb N s rv lv ⟨f, s.id, nn, y⟩ w (.returned (.slice none 0 0)) W) := Lib.hid fun e W hW =>
    ⟨_, lv, G, rfl, by rw [e]; rfl, by rw [e]; exact (H0.out.up hW).mono (by omega) (by omega), Tn.of_below hW, fun k h => .inl h⟩
  obtain ⟨la, lcap, hlv, ld1, ld2, lxl, hlc⟩ := row_cellz h.row
  have hlcap : lcap ≤ 9223372036854775807 := by unfold maxLen at ld2; omega
  have hLl : G.length ≤ 10000 := by have := h.len; omega
  have HLV := Lib.hid hlv
  have HLC := Lib.hid hlc
  have hbl := h.blk.lt
  clear h ld2 lxl hlc hlv
  go_enter Tryz.func17, Tryz.ntmps17
  unfold encM
  go_wp2_with fail
  obtain ⟨mb, hmb⟩ : ∃ mb, mb = w.heap.size := ⟨_, rfl⟩
  obtain ⟨w1, hw1⟩ : ∃ w1, w1 = w.alloc (.cells #[i64 f, i64 s.id, i64 nn, strV y] 31) := ⟨_, rfl⟩
  have MB : RowKit.Hid (Blk w1 mb #[i64 f, i64 s.id, i64 nn, strV y] 31) := Lib.hid (by rw [hw1, hmb]; exact Blk.new _ _ _)
  have B1 : RowKit.Hid (Below w.heap.size w w1) := Lib.hid (by rw [hw1]; exact (Below.refl _ _).alloc (Nat.le_refl _) _)
  have HMB := Lib.hid hmb
  rw [← hw1, ← hmb]
  clear hw1 hmb
  have m3 : w1.cell? ⟨mb, 3, none⟩ = some (strV y) := MB.out.cell 3
  go_wp2_with fail
  refine (read2_any y w1 ht).mono ?_
  rintro e w2 ⟨hR, hb⟩
  have HZ1 : RowKit.Hid (w.heap.size ≤ w1.heap.size) := Lib.hid B1.out.size
  have MB2 := Lib.hid (MB.out.below hb MB.out.lt)
  have B2 := Lib.hid (B1.out.trans (hb.mono B1.out.size))
  clear hb m3 MB B1
  have M2 := Lib.hid (H0.out.up B2.out)
  have m1 : w2.cell? ⟨mb, 1, none⟩ = some (i64 s.id) := MB2.out.cell 1
  have i0 : w2.cell? ⟨rb, 0, none⟩ = some (i64 s.id) := M2.out.blk.cell 0
  rcases hR with ⟨⟨k', a', r', v'⟩, b', o, cap, hd, rfl, hnb, hc1, hc2, c0, c1, c2, c4⟩ | ⟨hd, va, vn, vc, rfl⟩
  · rw [hd0] at hd
    injection hd with hd
    injection hd with hd1 hd
    injection hd with hd2 hd
    injection hd with hd3 hd4
    subst hd1 hd2 hd3 hd4
    have HD := Lib.hid hd0
    dsimp only at c0 c1 c2 c4
    clear hd0
    skip
    · skip
      have RC : RowKit.Hid (w2.cell? ⟨b', o, none⟩ = some (i64 k) ∧ w2.cell? ⟨b', o + 1, none⟩ = some (i64 a) ∧ w2.cell? ⟨b', o + 2, none⟩ = some (i64 r) ∧ w2.cell? ⟨b', o + 3, none⟩ = some (i64 v)) := Lib.hid ⟨c0, c1, c2, c4⟩
      have FT := Lib.hid (bTake_some (m := ⟨f, s.id, nn, y⟩) HD.out rfl)
      go_wp2_with fail
      go_quiet (fail)
      go_upto_region 4 with fail
      go_step
      go_step
      go_step
      go_step
      go_step
      go_step
      go_step
      go_step
      go_cut [7] from 27 to 77 (fun s7 W => (∃ q, W = w2.drewN q) ∧ s7 = .int .i64 ((posC a r s.L : Nat) : Int))
      case first =>
        go_wp2_with fail
        go_loopw [7] (fun i wr => (∃ q, wr = w2.drewN q) ∧ ∃ j : Nat, j ≤ posC a r s.L ∧ i = .int .i64 j) (fun i _ => s.L.length - (intOf i).toNat)
        case atStart => exact ⟨⟨_, rfl⟩, 0, Nat.zero_le _, rfl⟩
        case round =>
          obtain ⟨⟨q3, hq3⟩, j, hj, rfl⟩ := hrel
          have M3 : RowKit.Hid (RBM wr B rb s rv lv G N) := Lib.hid (hq3 ▸ M2.out.up (bdrewN (Below.refl _ _) q3))
          have R3 : RowKit.Hid (wr.cell? ⟨b', o, none⟩ = some (i64 k) ∧ wr.cell? ⟨b', o + 1, none⟩ = some (i64 a) ∧ wr.cell? ⟨b', o + 2, none⟩ = some (i64 r) ∧ wr.cell? ⟨b', o + 3, none⟩ = some (i64 v)) := Lib.hid (hq3 ▸ RC.out)
          have HQ3 := Lib.hid hq3
          clear c0 c1 c2 c4 i0 m1 hq3
          have c3 : wr.cell? ⟨rb, 3, none⟩ = some (.slice la G.length lcap) := (M3.out.blk.cell 3).trans (congrArg some HLV.out)
          obtain ⟨-, c1, c2, -⟩ := R3.out
          have hGL : G.length = s.L.length := by rw [M3.out.gs, List.length_map]
          have hpl := posC_le a r s.L
          by_cases hlt : j < G.length
          · obtain ⟨g, rfl, hgo⟩ := HLC.out.resolve_left (fun h => by omega)
            clear hgo
            obtain ⟨⟨x, n⟩, hx⟩ : ∃ x, G[j]? = some x := ⟨_, List.getElem?_eq_getElem hlt⟩
            have hxL : s.L[j]? = some x := by rw [M3.out.gs, List.getElem?_map, hx]; rfl
            obtain ⟨d0, d1, -, -, -⟩ := M3.out.case_ hx HLV.out
            dsimp only at d0 d1
            have hst := posC_step hj hxL
            have hjm : (s.L.length - j : Nat) ≥ 1 := by omega
            clear hx hxL hGL
            by_cases h1 : x.a < a
            · have hj1 := hst.1 (csLt_iff.2 (.inl h1))
              clear hst
              go_wp2_with fail
              go_quiet (fail)
              go_wp2_with fail
              exact ⟨⟨⟨_, by rw [HQ3.out, drewN_add]⟩, j + 1, hj1, by go_num⟩, by simp [intOf]; omega⟩
            · by_cases h2 : x.a = a
              · rw [h2] at d0
                by_cases h3 : x.r < r
                · have hj1 := hst.1 (csLt_iff.2 (.inr ⟨h2, h3⟩))
                  clear hst h1 h2
                  go_wp2_with fail
                  go_quiet (fail)
                  go_wp2_with fail
                  exact ⟨⟨⟨_, by rw [HQ3.out, drewN_add]⟩, j + 1, hj1, by go_num⟩, by simp [intOf]; omega⟩
                · have hjp := Lib.hid (hst.2 (by rw [Bool.eq_false_iff]; intro e; rw [csLt_iff] at e; omega))
                  have e3 : decide (x.r < r) = false := by simpa using h3
                  clear hst h1 h2 h3
                  go_wp2_with fail
                  go_quiet (fail)
                  go_wp2_with fail
                  go_meet
                  case rel => exact ⟨⟨_, by rw [HQ3.out, drewN_add]⟩, by rw [← hjp.out]⟩
              · have hjp := Lib.hid (hst.2 (by rw [Bool.eq_false_iff]; intro e; rw [csLt_iff] at e; omega))
                have e2 : (x.a == a) = false := by simpa using h2
                have e1 : decide (x.a < a) = false := by simpa using h1
                clear hst h2 h1
                go_wp2_with fail
                go_quiet (fail)
                go_wp2_with fail
                go_meet
                case rel => exact ⟨⟨_, by rw [HQ3.out, drewN_add]⟩, by rw [← hjp.out]⟩
          · have hjp : RowKit.Hid (j = posC a r s.L) := Lib.hid (by omega)
            clear hGL hpl
            go_wp2_with fail
            go_quiet (fail)
            go_wp2_with fail
            go_meet
            case rel => exact ⟨⟨_, by rw [HQ3.out, drewN_add]⟩, by rw [← hjp.out]⟩
      case rest =>
        obtain ⟨⟨q3, hq3⟩, rfl⟩ := hcut
        obtain ⟨wr, hwr⟩ : ∃ wr, wr = wc := ⟨_, rfl⟩
        rw [← hwr]
        rw [← hwr] at hq3
        clear hwr wc
        obtain ⟨j, hjp⟩ : ∃ j, j = posC a r s.L := ⟨_, rfl⟩
        rw [← hjp]
        have HJP := Lib.hid hjp
        have hpl := posC_le a r s.L
        have hGL : G.length = s.L.length := by rw [M2.out.gs, List.length_map]
        have hjG : j ≤ G.length := by omega
        have HGL := Lib.hid hGL
        have RR : RowKit.Hid (wr.cell? ⟨b', o, none⟩ = some (i64 k) ∧ wr.cell? ⟨b', o + 1, none⟩ = some (i64 a) ∧ wr.cell? ⟨b', o + 2, none⟩ = some (i64 r) ∧ wr.cell? ⟨b', o + 3, none⟩ = some (i64 v)) := Lib.hid (hq3 ▸ RC.out)
        have MR : RowKit.Hid (RBM wr B rb s rv lv G N) := Lib.hid (hq3 ▸ M2.out.up (bdrewN (Below.refl _ _) q3))
        have HQ3 := Lib.hid hq3
        clear c0 c1 c2 c4 i0 m1 hq3 hjp hpl hGL
        have c3 : wr.cell? ⟨rb, 3, none⟩ = some (.slice la G.length lcap) := (MR.out.blk.cell 3).trans (congrArg some HLV.out)
        obtain ⟨-, c1, c2, -⟩ := RR.out
        go_wp2_with fail
        go_cut [8] from 78 to 112 (fun s8 W => (∃ q, W = w2.drewN q) ∧ s8 = .bool (cs s.L a r).isSome)
        case first =>
          by_cases hlt : j < G.length
          · obtain ⟨g, rfl, hgo⟩ := HLC.out.resolve_left (fun h => by omega)
            clear hgo
            obtain ⟨⟨x, n⟩, hx⟩ : ∃ x, G[j]? = some x := ⟨_, List.getElem?_eq_getElem hlt⟩
            have hxL : s.L[j]? = some x := by rw [MR.out.gs, List.getElem?_map, hx]; rfl
            obtain ⟨d0, d1, -, -, -⟩ := MR.out.case_ hx HLV.out
            dsimp only at d0 d1
            have hcs := cs_at (a := a) (r := r) MR.out.inOrder
            rw [← HJP.out, hxL] at hcs
            dsimp only at hcs
            clear hx hxL
            by_cases h2 : x.a = a
            · rw [h2] at d0
              by_cases h4 : x.r = r
              · have E : RowKit.Hid ((cs s.L a r).isSome = true) := Lib.hid (by rw [hcs, if_pos ⟨h2, h4⟩]; rfl)
                rw [h4] at d1
                clear hcs h2 h4
                go_quiet (fail)
                go_wp2_with fail
                go_meet
                case rel => exact ⟨⟨_, by rw [HQ3.out, drewN_add]⟩, by rw [E.out]⟩
              · have E : RowKit.Hid ((cs s.L a r).isSome = false) := Lib.hid (by rw [hcs, if_neg (fun e => h4 e.2)]; rfl)
                have e4 : (x.r == r) = false := by simpa using h4
                clear hcs h2 h4
                go_quiet (fail)
                go_wp2_with fail
                go_meet
                case rel => exact ⟨⟨_, by rw [HQ3.out, drewN_add]⟩, by rw [E.out]⟩
            · have E : RowKit.Hid ((cs s.L a r).isSome = false) := Lib.hid (by rw [hcs, if_neg (fun e => h2 e.1)]; rfl)
              have e2 : (x.a == a) = false := by simpa using h2
              clear hcs h2
              go_quiet (fail)
              go_wp2_with fail
              go_meet
              case rel => exact ⟨⟨_, by rw [HQ3.out, drewN_add]⟩, by rw [E.out]⟩
          · have E : RowKit.Hid ((cs s.L a r).isSome = false) := Lib.hid (by
              rw [cs_at MR.out.inOrder, ← HJP.out, List.getElem?_eq_none (by have := HGL.out; omega)]; rfl)
            go_quiet (fail)
            go_wp2_with fail
            go_meet
            case rel => exact ⟨⟨_, by rw [HQ3.out, drewN_add]⟩, by rw [E.out]⟩
        case rest =>
          obtain ⟨⟨q4, hq4⟩, hs8⟩ := hcut
          have M3 : RowKit.Hid (RBM wc B rb s rv lv G N) := Lib.hid (hq4 ▸ M2.out.up (bdrewN (Below.refl _ _) q4))
          have MB3 : RowKit.Hid (Blk wc mb #[i64 f, i64 s.id, i64 nn, strV y] 31) := Lib.hid (hq4 ▸ MB2.out.drewN q4)
          have R3 : RowKit.Hid (wc.cell? ⟨b', o, none⟩ = some (i64 k) ∧ wc.cell? ⟨b', o + 1, none⟩ = some (i64 a) ∧ wc.cell? ⟨b', o + 2, none⟩ = some (i64 r) ∧ wc.cell? ⟨b', o + 3, none⟩ = some (i64 v)) := Lib.hid (hq4 ▸ RC.out)
          have B3 : RowKit.Hid (Below w.heap.size w wc) := Lib.hid (hq4 ▸ bdrewN B2.out q4)
          clear c3 c1 c2 hq4 HQ3 RR MR
          have c3 : wc.cell? ⟨rb, 3, none⟩ = some (.slice la G.length lcap) := (M3.out.blk.cell 3).trans (congrArg some HLV.out)
          obtain ⟨c0, c1, c2, c4⟩ := R3.out
          have m0 : wc.cell? ⟨mb, 0, none⟩ = some (i64 f) := MB3.out.cell 0
          have hcs := HCS.out
          rw [hcs, Option.isSome_some] at hs8
          subst hs8
          have hcs2 := cs_at (a := a) (r := r) M3.out.inOrder
          rw [← HJP.out, hcs] at hcs2
          obtain ⟨z, hz⟩ : ∃ z, s.L[j]? = some z := by
            cases hz : s.L[j]? with
            | none => rw [hz] at hcs2; cases hcs2
            | some z => exact ⟨z, rfl⟩
          rw [hz] at hcs2
          dsimp only at hcs2
          have hza : z.a = a ∧ z.r = r := by
            by_cases hza : z.a = a ∧ z.r = r
            · exact hza
            · rw [if_neg hza] at hcs2; cases hcs2
          rw [if_pos hza] at hcs2
          injection hcs2 with hcs2
          subst hcs2
          obtain ⟨rfl, rfl⟩ := hza
          have HCX := Lib.hid hcs
          have hjl : j < G.length := by have := (List.getElem?_eq_some_iff.1 hz).1; have := HGL.out; omega
          obtain ⟨g, rfl, -⟩ := HLC.out.resolve_left (fun h => by omega)
          obtain ⟨n, hx⟩ : ∃ n, G[j]? = some (x, n) := by
            rw [M3.out.gs, List.getElem?_map] at hz
            cases hx : G[j]? with
            | none => rw [hx] at hz; cases hz
            | some p => rw [hx] at hz; injection hz with hz; exact ⟨p.2, by rw [← show p.1 = x from hz]⟩
          obtain ⟨d0, d1, d2, d3, d4⟩ := M3.out.case_ hx HLV.out
          dsimp only at d0 d1 d2 d3 d4
          have HX := Lib.hid hx
          clear hcs hx hz
          have hcs : cs s.L x.a x.r = some x := HCX.out
          have HT : RowKit.Hid (s.take ⟨f, s.id, nn, y⟩ = if k = 1 ∧ f = x.a then (if x.opn then (s, []) else s.tell x) else if x.opn ∧ x.left.head? = some f then if k = 3 then ({ s with L := setC { x with g := true } s.L } : Brk).tell { x with g := true } else if k = 4 then ({ s with L := setC { x with left := x.left.tail } s.L } : Brk).tell { x with left := x.left.tail } else (s, []) else (s, [])) := Lib.hid (by have := FT.out; rw [hcs] at this; exact this)
          clear hcs
          by_cases ho : x.opn = true
          · have hd0 := dn_opn ho
            have HO := Lib.hid ho
            rw [hd0] at d4
            clear hd0
            obtain ⟨h3, h4⟩ := HNK.out ho
            clear ho
            by_cases hask : k = 1 ∧ f = x.a
            · have F := Lib.hid (FN.out (by rw [HT.out, if_pos hask, if_pos HO.out]))
              obtain ⟨rfl, rfl⟩ := hask
              go_wp2_with fail
              go_quiet (fail)
              go_wp2_with fail
              go_ret
              exact F.out _ (bdrewN B3.out _)
            · have F := Lib.hid (FN.out (by
                rw [HT.out, if_neg hask]
                by_cases e : x.opn = true ∧ x.left.head? = some f
                · rw [if_pos e, if_neg h3, if_neg h4]
                · rw [if_neg e]))
              have e3 : (k != 3) = true := by simpa using h3
              have e4 : (k != 4) = true := by simpa using h4
              clear h3 h4
              by_cases hk1 : k = 1
              · subst hk1
                have efa : (f == x.a) = false := by
                  have : ¬ f = x.a := fun e => hask ⟨rfl, e⟩
                  simpa using this
                clear hask
                go_wp2_with fail
                go_quiet (fail)
                go_wp2_with fail
                go_quiet (fail)
                go_wp2_with fail
                go_ret
                exact F.out _ (bdrewN (bdrewN B3.out _) _)
              · have ek1 : (k == 1) = false := by simpa using hk1
                clear hask hk1
                go_wp2_with fail
                go_quiet (fail)
                go_wp2_with fail
                go_quiet (fail)
                go_wp2_with fail
                go_ret
                exact F.out _ (bdrewN (bdrewN B3.out _) _)
          · have hd0 := (dn_not (by simpa using ho)).1
            obtain ⟨D, hD⟩ : ∃ D, D = dn x := ⟨_, rfl⟩
            rw [← hD] at d4 hd0
            have HO := Lib.hid ho
            clear hD ho
            by_cases hask : k = 1 ∧ f = x.a
            · have HT1 : RowKit.Hid (s.take ⟨f, s.id, nn, y⟩ = s.tell x) := Lib.hid (by rw [HT.out, if_pos hask, if_neg HO.out])
              clear HT
              have HT := HT1
              clear HT1
              obtain ⟨rfl, rfl⟩ := hask
              go_wp2_with fail
              go_quiet (fail)
              go_wp2_with fail
              generalize hW4 : World.drewN _ _ = W4
              have D4 : RowKit.Hid (Below wc.heap.size wc W4) := Lib.hid (by rw [← hW4]; exact bdrewN (Below.refl _ _) _)
              have B4 : RowKit.Hid (Below w.heap.size w W4) := Lib.hid (B3.out.trans (D4.out.mono B3.out.size))
              have M4 : RowKit.Hid (RBM W4 B rb s rv lv G (N + 1)) := Lib.hid ((M3.out.up D4.out).mono (Nat.le_succ N) (by omega))
              clear hW4
              refine (rnow_any B rb (N + 1) s rv lv G j (x, n) _ M4.out HX.out (by have := H0.out.sent.2; show s.sent < 1000 * ((N + 1 : Nat) : Int); omega)).mono ?_
              have T4 : RowKit.Hid (Tn (OwnRB rb rv lv) w W4) := Lib.hid (Tn.of_below B4.out)
              rintro e w11 ⟨v11, rfl, hm11, hM11, hT11⟩
              have F : RowKit.Hid (RBTakeE B rb N s rv lv ⟨x.a, s.id, nn, y⟩ w (.returned v11) w11) := Lib.hid (by
                refine ⟨v11, lv, G, rfl, ?_, ?_, T4.out.trans (hT11.mono fun k hk => .inl hk), fun k hk => .inl hk⟩
                · rw [HT.out]; exact hm11.mono T4.out.size
                · rw [HT.out]; exact hM11)
              clear hm11 hM11 hT11
              go_wp2_with fail
              go_ret
              exact F.out
            · have F := Lib.hid (FN.out (by
                rw [HT.out, if_neg hask]
                rw [if_neg (fun e => HO.out e.1)]))
              by_cases hk1 : k = 1
              · subst hk1
                have efa : (f == x.a) = false := by
                  have : ¬ f = x.a := fun e => hask ⟨rfl, e⟩
                  simpa using this
                clear hask
                go_wp2_with fail
                go_quiet (fail)
                go_wp2_with fail
                go_quiet (fail)
                go_wp2_with fail
                go_ret
                exact F.out _ (bdrewN (bdrewN B3.out _) _)
              · have ek1 : (k == 1) = false := by simpa using hk1
                clear hask hk1
                go_wp2_with fail
                go_quiet (fail)
                go_wp2_with fail
                go_quiet (fail)
                go_wp2_with fail
                go_ret
                exact F.out _ (bdrewN (bdrewN B3.out _) _)
  · rw [hd] at hd0; cases hd0
end Go.Proofs.YtdojgbpaheadnaaGreat
