/- The reference's broker takes a message: a new case. -/
import Derived.Test.YtdojgbpaheadnaaGreatQHE
set_option linter.unusedVariables false
set_option linter.unusedSimpArgs false

namespace Go.Proofs.YtdojgbpaheadnaaGreat
open Go.RowKit Go.Shelf Go.Maps

set_option maxRecDepth 100000 in
set_option maxHeartbeats 16000000 in
theorem rbtake_a (B rb N : Nat) (s : Brk) (rv lv : Value) (G : List CsN) (f nn : Int) (y : List UInt8) (k a r v : Int) (w : World) (h : RBM w B rb s rv lv G N) (hN : N < 9000) (ht : y.length ≤ 1000000) (hd0 : dec y = some (k, a, r, v)) (hcs : cs s.L a r = none) (hask : k = 1 ∧ f = a) :
    Calls Tryz.prog 17 #[.pointer (some ⟨rb, 0, none⟩), .agg (encM ⟨f, s.id, nn, y⟩)] w (RBTakeE B rb N s rv lv ⟨f, s.id, nn, y⟩ w) := by
  have HCS := Lib.hid hcs
  have HK := Lib.hid hask
  clear hcs hask
  obtain ⟨i0, hi, hz1, hz2, hz3⟩ := info_partsC
  have H0 := Lib.hid h
  have FN : RowKit.Hid (s.take ⟨f, s.id, nn, y⟩ = (s, []) → ∀ W, Below w.heap.size w W → RBTakeE B rb N s rv lv ⟨f, s.id, nn, y⟩ w (.returned (.slice none 0 0)) W) := Lib.hid fun e W hW =>
    ⟨_, lv, G, rfl, by rw [e]; rfl, by rw [e]; exact (H0.out.up hW).mono (by omega) (by omega), Tn.of_below hW, fun k h => .inl h⟩
  obtain ⟨la, lcap, hlv, ld1, ld2, lxl, hlc⟩ := row_cellz h.row
  have hlcap : lcap ≤ 9223372036854775807 := by unfold maxLen at ld2; omega
  have hLl : G.length ≤ 10000 := by have := h.len; omega
  have HLV := Lib.hid hlv
  have HLC := Lib.hid hlc
  have hbl := h.blk.lt
  clear h ld2 lxl hlc hlv
  go_enter Tryz.func17, Tryz.ntmps17
  unfold encM
  go_wp2_with fail
  obtain ⟨mb, hmb⟩ : ∃ mb, mb = w.heap.size := ⟨_, rfl⟩
  obtain ⟨w1, hw1⟩ : ∃ w1, w1 = w.alloc (.cells #[i64 f, i64 s.id, i64 nn, strV y] 31) := ⟨_, rfl⟩
  have MB : RowKit.Hid (Blk w1 mb #[i64 f, i64 s.id, i64 nn, strV y] 31) := Lib.hid (by rw [hw1, hmb]; exact Blk.new _ _ _)
  have B1 : RowKit.Hid (Below w.heap.size w w1) := Lib.hid (by rw [hw1]; exact (Below.refl _ _).alloc (Nat.le_refl _) _)
  have HMB := Lib.hid hmb
  rw [← hw1, ← hmb]
  clear hw1 hmb
  have m3 : w1.cell? ⟨mb, 3, none⟩ = some (strV y) := MB.out.cell 3
  go_wp2_with fail
  refine (read2_any y w1 ht).mono ?_
  rintro e w2 ⟨hR, hb⟩
  have HZ1 : RowKit.Hid (w.heap.size ≤ w1.heap.size) := Lib.hid B1.out.size
  have MB2 := Lib.hid (MB.out.below hb MB.out.lt)
  have B2 := Lib.hid (B1.out.trans (hb.mono B1.out.size))
  clear hb m3 MB B1
  have M2 := Lib.hid (H0.out.up B2.out)
  have m1 : w2.cell? ⟨mb, 1, none⟩ = some (i64 s.id) := MB2.out.cell 1
  have i0 : w2.cell? ⟨rb, 0, none⟩ = some (i64 s.id) := M2.out.blk.cell 0
  rcases hR with ⟨⟨k', a', r', v'⟩, b', o, cap, hd, rfl, hnb, hc1, hc2, c0, c1, c2, c4⟩ | ⟨hd, va, vn, vc, rfl⟩
  · rw [hd0] at hd
    injection hd with hd
    injection hd with hd1 hd
    injection hd with hd2 hd
    injection hd with hd3 hd4
    subst hd1 hd2 hd3 hd4
    have HD := Lib.hid hd0
    dsimp only at c0 c1 c2 c4
    clear hd0
    skip
    · skip
      have RC : RowKit.Hid (w2.cell? ⟨b', o, none⟩ = some (i64 k) ∧ w2.cell? ⟨b', o + 1, none⟩ = some (i64 a) ∧ w2.cell? ⟨b', o + 2, none⟩ = some (i64 r) ∧ w2.cell? ⟨b', o + 3, none⟩ = some (i64 v)) := Lib.hid ⟨c0, c1, c2, c4⟩
      have FT := Lib.hid (bTake_some (m := ⟨f, s.id, nn, y⟩) HD.out rfl)
      go_wp2_with fail
      go_quiet (fail)
      go_upto_region 4 with fail
      go_step
      go_step
      go_step
      go_step
      go_step
      go_step
      go_step
      go_step
      go_cut [7] from 27 to 77 (fun s7 W => (∃ q, W = w2.drewN q) ∧ s7 = .int .i64 ((posC a r s.L : Nat) : Int))
      case first =>
        go_wp2_with fail
        go_loopw [7] (fun i wr => (∃ q, wr = w2.drewN q) ∧ ∃ j : Nat, j ≤ posC a r s.L ∧ i = .int .i64 j) (fun i _ => s.L.length - (intOf i).toNat)
        case atStart => exact ⟨⟨_, rfl⟩, 0, Nat.zero_le _, rfl⟩
        case round =>
          obtain ⟨⟨q3, hq3⟩, j, hj, rfl⟩ := hrel
          have M3 : RowKit.Hid (RBM wr B rb s rv lv G N) := Lib.hid (hq3 ▸ M2.out.up (bdrewN (Below.refl _ _) q3))
          have R3 : RowKit.Hid (wr.cell? ⟨b', o, none⟩ = some (i64 k) ∧ wr.cell? ⟨b', o + 1, none⟩ = some (i64 a) ∧ wr.cell? ⟨b', o + 2, none⟩ = some (i64 r) ∧ wr.cell? ⟨b', o + 3, none⟩ = some (i64 v)) := Lib.hid (hq3 ▸ RC.out)
          have HQ3 := Lib.hid hq3
          clear c0 c1 c2 c4 i0 m1 hq3
          have c3 : wr.cell? ⟨rb, 3, none⟩ = some (.slice la G.length lcap) := (M3.out.blk.cell 3).trans (congrArg some HLV.out)
          obtain ⟨-, c1, c2, -⟩ := R3.out
          have hGL : G.length = s.L.length := by rw [M3.out.gs, List.length_map]
          have hpl := posC_le a r s.L
          by_cases hlt : j < G.length
          · obtain ⟨g, rfl, hgo⟩ := HLC.out.resolve_left (fun h => by omega)
            clear hgo
            obtain ⟨⟨x, n⟩, hx⟩ : ∃ x, G[j]? = some x := ⟨_, List.getElem?_eq_getElem hlt⟩
            have hxL : s.L[j]? = some x := by rw [M3.out.gs, List.getElem?_map, hx]; rfl
            obtain ⟨d0, d1, -, -, -⟩ := M3.out.case_ hx HLV.out
            dsimp only at d0 d1
            have hst := posC_step hj hxL
            have hjm : (s.L.length - j : Nat) ≥ 1 := by omega
            clear hx hxL hGL
            by_cases h1 : x.a < a
            · have hj1 := hst.1 (csLt_iff.2 (.inl h1))
              clear hst
              go_wp2_with fail
              go_quiet (fail)
              go_wp2_with fail
              exact ⟨⟨⟨_, by rw [HQ3.out, drewN_add]⟩, j + 1, hj1, by go_num⟩, by simp [intOf]; omega⟩
            · by_cases h2 : x.a = a
              · rw [h2] at d0
                by_cases h3 : x.r < r
                · have hj1 := hst.1 (csLt_iff.2 (.inr ⟨h2, h3⟩))
                  clear hst h1 h2
                  go_wp2_with fail
                  go_quiet (fail)
                  go_wp2_with fail
                  exact ⟨⟨⟨_, by rw [HQ3.out, drewN_add]⟩, j + 1, hj1, by go_num⟩, by simp [intOf]; omega⟩
                · have hjp := Lib.hid (hst.2 (by rw [Bool.eq_false_iff]; intro e; rw [csLt_iff] at e; omega))
                  have e3 : decide (x.r < r) = false := by simpa using h3
                  clear hst h1 h2 h3
                  go_wp2_with fail
                  go_quiet (fail)
                  go_wp2_with fail
                  go_meet
                  case rel => exact ⟨⟨_, by rw [HQ3.out, drewN_add]⟩, by rw [← hjp.out]⟩
              · have hjp := Lib.hid (hst.2 (by rw [Bool.eq_false_iff]; intro e; rw [csLt_iff] at e; omega))
                have e2 : (x.a == a) = false := by simpa using h2
                have e1 : decide (x.a < a) = false := by simpa using h1
                clear hst h2 h1
                go_wp2_with fail
                go_quiet (fail)
                go_wp2_with fail
                go_meet
                case rel => exact ⟨⟨_, by rw [HQ3.out, drewN_add]⟩, by rw [← hjp.out]⟩
          · have hjp : RowKit.Hid (j = posC a r s.L) := Lib.hid (by omega)
            clear hGL hpl
            go_wp2_with fail
            go_quiet (fail)
            go_wp2_with fail
            go_meet
            case rel => exact ⟨⟨_, by rw [HQ3.out, drewN_add]⟩, by rw [← hjp.out]⟩
      case rest =>
        obtain ⟨⟨q3, hq3⟩, rfl⟩ := hcut
        obtain ⟨wr, hwr⟩ : ∃ wr, wr = wc := ⟨_, rfl⟩
        rw [← hwr]
        rw [← hwr] at hq3
        clear hwr wc
        obtain ⟨j, hjp⟩ : ∃ j, j = posC a r s.L := ⟨_, rfl⟩
        rw [← hjp]
        have HJP := Lib.hid hjp
        have hpl := posC_le a r s.L
        have hGL : G.length = s.L.length := by rw [M2.out.gs, List.length_map]
        have hjG : j ≤ G.length := by omega
        have HGL := Lib.hid hGL
        have RR : RowKit.Hid (wr.cell? ⟨b', o, none⟩ = some (i64 k) ∧ wr.cell? ⟨b', o + 1, none⟩ = some (i64 a) ∧ wr.cell? ⟨b', o + 2, none⟩ = some (i64 r) ∧ wr.cell? ⟨b', o + 3, none⟩ = some (i64 v)) := Lib.hid (hq3 ▸ RC.out)
        have MR : RowKit.Hid (RBM wr B rb s rv lv G N) := Lib.hid (hq3 ▸ M2.out.up (bdrewN (Below.refl _ _) q3))
        have HQ3 := Lib.hid hq3
        clear c0 c1 c2 c4 i0 m1 hq3 hjp hpl hGL
        have c3 : wr.cell? ⟨rb, 3, none⟩ = some (.slice la G.length lcap) := (MR.out.blk.cell 3).trans (congrArg some HLV.out)
        obtain ⟨-, c1, c2, -⟩ := RR.out
        go_wp2_with fail
        go_cut [8] from 78 to 112 (fun s8 W => (∃ q, W = w2.drewN q) ∧ s8 = .bool (cs s.L a r).isSome)
        case first =>
          by_cases hlt : j < G.length
          · obtain ⟨g, rfl, hgo⟩ := HLC.out.resolve_left (fun h => by omega)
            clear hgo
            obtain ⟨⟨x, n⟩, hx⟩ : ∃ x, G[j]? = some x := ⟨_, List.getElem?_eq_getElem hlt⟩
            have hxL : s.L[j]? = some x := by rw [MR.out.gs, List.getElem?_map, hx]; rfl
            obtain ⟨d0, d1, -, -, -⟩ := MR.out.case_ hx HLV.out
            dsimp only at d0 d1
            have hcs := cs_at (a := a) (r := r) MR.out.inOrder
            rw [← HJP.out, hxL] at hcs
            dsimp only at hcs
            clear hx hxL
            by_cases h2 : x.a = a
            · rw [h2] at d0
              by_cases h4 : x.r = r
              · have E : RowKit.Hid ((cs s.L a r).isSome = true) := Lib.hid (by rw [hcs, if_pos ⟨h2, h4⟩]; rfl)
                rw [h4] at d1
                clear hcs h2 h4
                go_quiet (fail)
                go_wp2_with fail
                go_meet
                case rel => exact ⟨⟨_, by rw [HQ3.out, drewN_add]⟩, by rw [E.out]⟩
              · have E : RowKit.Hid ((cs s.L a r).isSome = false) := Lib.hid (by rw [hcs, if_neg (fun e => h4 e.2)]; rfl)
                have e4 : (x.r == r) = false := by simpa using h4
                clear hcs h2 h4
                go_quiet (fail)
                go_wp2_with fail
                go_meet
                case rel => exact ⟨⟨_, by rw [HQ3.out, drewN_add]⟩, by rw [E.out]⟩
            · have E : RowKit.Hid ((cs s.L a r).isSome = false) := Lib.hid (by rw [hcs, if_neg (fun e => h2 e.1)]; rfl)
              have e2 : (x.a == a) = false := by simpa using h2
              clear hcs h2
              go_quiet (fail)
              go_wp2_with fail
              go_meet
              case rel => exact ⟨⟨_, by rw [HQ3.out, drewN_add]⟩, by rw [E.out]⟩
          · have E : RowKit.Hid ((cs s.L a r).isSome = false) := Lib.hid (by
              rw [cs_at MR.out.inOrder, ← HJP.out, List.getElem?_eq_none (by have := HGL.out; omega)]; rfl)
            go_quiet (fail)
            go_wp2_with fail
            go_meet
            case rel => exact ⟨⟨_, by rw [HQ3.out, drewN_add]⟩, by rw [E.out]⟩
        case rest =>
          obtain ⟨⟨q4, hq4⟩, hs8⟩ := hcut
          have M3 : RowKit.Hid (RBM wc B rb s rv lv G N) := Lib.hid (hq4 ▸ M2.out.up (bdrewN (Below.refl _ _) q4))
          have MB3 : RowKit.Hid (Blk wc mb #[i64 f, i64 s.id, i64 nn, strV y] 31) := Lib.hid (hq4 ▸ MB2.out.drewN q4)
          have R3 : RowKit.Hid (wc.cell? ⟨b', o, none⟩ = some (i64 k) ∧ wc.cell? ⟨b', o + 1, none⟩ = some (i64 a) ∧ wc.cell? ⟨b', o + 2, none⟩ = some (i64 r) ∧ wc.cell? ⟨b', o + 3, none⟩ = some (i64 v)) := Lib.hid (hq4 ▸ RC.out)
          have B3 : RowKit.Hid (Below w.heap.size w wc) := Lib.hid (hq4 ▸ bdrewN B2.out q4)
          clear c3 c1 c2 hq4 HQ3 RR MR
          have c3 : wc.cell? ⟨rb, 3, none⟩ = some (.slice la G.length lcap) := (M3.out.blk.cell 3).trans (congrArg some HLV.out)
          obtain ⟨c0, c1, c2, c4⟩ := R3.out
          have m0 : wc.cell? ⟨mb, 0, none⟩ = some (i64 f) := MB3.out.cell 0
          rw [HCS.out, Option.isSome_none] at hs8
          subst hs8
          have hask := HK.out
          clear HK
          obtain ⟨rfl, rfl⟩ := hask
          obtain ⟨c, hc⟩ : ∃ c : Cs, c = ⟨f, r, v, rotOf s.rota f r, false⟩ := ⟨_, rfl⟩
          obtain ⟨G1, hG1⟩ : ∃ G1, G1 = G.take j ++ (c, 0) :: G.drop j := ⟨_, rfl⟩
          obtain ⟨CE, hCE⟩ : ∃ CE, CE = (ccells G).take (j * 5) ++ ([i64 f, i64 r, i64 v, i64 0, i64 0] ++ (ccells G).drop (j * 5)) := ⟨_, rfl⟩
          have HT : RowKit.Hid (s.take ⟨f, s.id, nn, y⟩ = ({ s with L := insC c s.L } : Brk).tell c) := Lib.hid (by
            have := FT.out
            rw [HCS.out] at this
            rw [this, hc]; exact if_pos ⟨rfl, rfl⟩)
          have I4 := (dec_some.1 HD.out).1
          have hci : cs s.L c.a c.r = none := by rw [hc]; exact HCS.out
          have INS : RowKit.Hid (insC c s.L = G1.map (·.1) ∧ (∀ p ∈ G1, FitN s.rota p) ∧ (∀ x ∈ insC c s.L, I64 x.a ∧ I64 x.r ∧ I64 x.t) ∧ SortedC (insC c s.L) ∧ G1.length = G.length + 1 ∧ G1[j]? = some (c, 0) ∧ c.g = false) := Lib.hid (by
            refine ⟨?_, fun p hp => ?_, fun x hx => ?_, ins_sortedC M3.out.inOrder hci, ?_, ?_, by rw [hc]⟩
            · rw [hG1, insN_map, ← M3.out.gs, HJP.out, insC_at, hc]
            · rw [hG1] at hp
              rcases List.mem_append.1 hp with hp | hp
              · exact M3.out.fit p (List.mem_of_mem_take hp)
              · rcases List.mem_cons.1 hp with rfl | hp
                · rw [hc]; exact ⟨rfl, Nat.zero_le _, fun e => by cases e⟩
                · exact M3.out.fit p (List.mem_of_mem_drop hp)
            · rcases ins_memC.1 hx with rfl | hx
              · rw [hc]; exact ⟨I4.2.1, I4.2.2.1, I4.2.2.2⟩
              · exact M3.out.ids.2.2.2 x hx
            · rw [hG1]; exact insN_len G j c hjG
            · rw [hG1]; exact insN_get G j c hjG)
          have HCE : RowKit.Hid (CE = (ccells G1).set (5 * j + 4) (i64 0)) := Lib.hid (by rw [hCE, hG1, ← ccells_ins G j c hjG, hc])
          have CE2 := Lib.hid hCE
          have HXC : RowKit.Hid ((ccells G).length = G.length * 5) := Lib.hid (ccells_len G)
          clear hc hG1 hCE hci I4
          rcases HLC.out with ⟨hG0, rfl, rfl⟩ | ⟨g, rfl, -, -, hgl, hcc⟩
          · have hE : ccells G = [] := List.eq_nil_of_length_eq_zero (by rw [HXC.out, hG0])
            have hj0 : j = 0 := by omega
            subst hj0
            have ON : RowKit.Hid (∀ u ∈ [i64 f, i64 r, i64 v, i64 0, i64 0] ++ [], u.oneCell' = true) := Lib.hid fun u hu => by simp at hu; rcases hu with rfl | rfl | rfl | rfl | rfl <;> rfl
            have SR : RowKit.Hid (∀ W, Below w.heap.size w W → Src W 5 0 [] (.slice none 0 0)) := Lib.hid fun _ _ => .inl ⟨0, rfl, rfl, rfl⟩
            have ST : RowKit.Hid (∀ W, Below w.heap.size w W → Src W 5 0 ((ccells G).take (0 * 5)) (.slice none 0 0)) := Lib.hid fun _ _ => by rw [Nat.zero_mul, List.take_zero]; exact .inl ⟨0, rfl, rfl, rfl⟩
            have E1 : RowKit.Hid (0 + 0 + (1 + 0) = G1.length) := Lib.hid (by rw [INS.out.2.2.2.2.1, hG0])
            have E2 : RowKit.Hid ([] ++ (ccells G).take (0 * 5) ++ ([i64 f, i64 r, i64 v, i64 0, i64 0] ++ []) = CE) := Lib.hid (by rw [CE2.out, hE]; rfl)
            have HLV0 : RowKit.Hid (lv = .slice none 0 0) := Lib.hid (by rw [HLV.out, hG0])
            rw [hG0] at c3
            clear hG0 hE
            go_wp2_with fail
            go_quiet (fail)
            go_wp2_with fail
            generalize hW4 : World.drewN _ _ = W4
            have D4 : RowKit.Hid (Below wc.heap.size wc W4) := Lib.hid (by rw [← hW4]; exact bdrewN (Below.refl _ _) _)
            have B4 : RowKit.Hid (Below w.heap.size w W4) := Lib.hid (B3.out.trans (D4.out.mono B3.out.size))
            have M4 : RowKit.Hid (RBM W4 B rb s rv lv G (N + 1)) := Lib.hid ((M3.out.up D4.out).mono (Nat.le_succ N) (by omega))
            clear hW4
            obtain ⟨S, hS⟩ : ∃ S : World → Prop, S = fun W => Below W4.heap.size W4 W := ⟨_, rfl⟩
            have LD : RowKit.Hid (∀ W, S W → W.cell? ⟨rb, 3, none⟩ = some (.slice none 0 0) ∧ W.cell? ⟨b', o + 1, none⟩ = some (i64 f) ∧ W.cell? ⟨b', o + 2, none⟩ = some (i64 r) ∧ W.cell? ⟨b', o + 3, none⟩ = some (i64 v)) := Lib.hid (by
              rw [hS]; exact fun W h => ⟨((M4.out.up h).blk.cell 3).trans (congrArg some HLV0.out), Below.cellE h (Below.cellE D4.out c1), Below.cellE h (Below.cellE D4.out c2), Below.cellE h (Below.cellE D4.out c4)⟩)
            have UU : RowKit.Hid (∀ W, Below W4.heap.size W4 W → S W) := Lib.hid (by rw [hS]; exact fun W h => h)
            have hHeld := UU.out _ (Below.refl W4.heap.size W4).drew
            clear hS
            refine wp_region_held_drew (S := S) (by kernel_rfl) hHeld (fun _ => ?_)
            apply wpAnyH_apartV (fun u W => W.ownsRow W4.heap.size 119 5 u (1 + 0) ([i64 f, i64 r, i64 v, i64 0, i64 0] ++ []) ∧ Below W4.heap.size W4 W)
            case take =>
              intro R hR
              refine wpAnyH_take (i := 0) (v := ?_) rfl (by kernel_rfl) (by kernel_rfl) (by kernel_rfl) (fun _ _ _ h => only_panic h) (Or.inl ⟨by rfl, ?_⟩) hHeld ?_
              rotate_left
              · (intro w hSw; obtain ⟨-, l1, l2, l3⟩ := LD.out w hSw; go_simp; try (with_reducible rfl))
              try simp only [gA, gB, gC, Act.put, gD, gE, gF]
              refine wpAnyH_take (i := 1) (v := ?_) rfl (by kernel_rfl) (by kernel_rfl) (by kernel_rfl) (fun _ _ _ h => only_panic h) (Or.inl ⟨by rfl, ?_⟩) hHeld ?_
              rotate_left
              · (intro w hSw; obtain ⟨-, l1, l2, l3⟩ := LD.out w hSw; go_simp; try (with_reducible rfl))
              try simp only [gA, gB, gC, Act.put, gD, gE, gF]
              refine wpAnyH_take (i := 2) (v := ?_) rfl (by kernel_rfl) (by kernel_rfl) (by kernel_rfl) (fun _ _ _ h => only_panic h) (Or.inl ⟨by rfl, ?_⟩) hHeld ?_
              rotate_left
              · (intro w hSw; obtain ⟨-, l1, l2, l3⟩ := LD.out w hSw; go_simp; try (with_reducible rfl))
              try simp only [gA, gB, gC, Act.put, gD, gE, gF]
              refine wpAnyH_take (i := 3) (v := ?_) rfl (by kernel_rfl) (by kernel_rfl) (by kernel_rfl) (fun _ _ _ h => only_panic h) (Or.inl ⟨by rfl, ?_⟩) hHeld ?_
              rotate_left
              · (intro w hSw; obtain ⟨-, l1, l2, l3⟩ := LD.out w hSw; go_simp; try (with_reducible rfl))
              try simp only [gA, gB, gC, Act.put, gD, gE, gF]
              refine wpAnyH_take (i := 4) (v := ?_) rfl (by kernel_rfl) (by kernel_rfl) (by kernel_rfl) (fun _ _ _ h => only_panic h) (Or.inl ⟨by rfl, ?_⟩) hHeld ?_
              rotate_left
              · (intro w hSw; obtain ⟨-, l1, l2, l3⟩ := LD.out w hSw; go_simp; try (with_reducible rfl))
              try simp only [gA, gB, gC, Act.put, gD, gE, gF]
              refine wpAnyH_take (i := 5) (v := ?_) rfl (by kernel_rfl) (by kernel_rfl) (by kernel_rfl) (fun _ _ _ h => only_panic h) (Or.inl ⟨by rfl, ?_⟩) hHeld ?_
              rotate_left
              · (intro w hSw; obtain ⟨-, l1, l2, l3⟩ := LD.out w hSw; go_simp; try (with_reducible rfl))
              try simp only [gA, gB, gC, Act.put, gD, gE, gF]
              refine wpAnyH_take (i := 6) (v := ?_) rfl (by kernel_rfl) (by kernel_rfl) (by kernel_rfl) (fun _ _ _ h => only_panic h) (Or.inl ⟨by rfl, ?_⟩) hHeld ?_
              rotate_left
              · (intro w hSw; obtain ⟨-, l1, l2, l3⟩ := LD.out w hSw; go_simp; try (with_reducible rfl))
              try simp only [gA, gB, gC, Act.put, gD, gE, gF]
              refine wpAnyH_take (i := 7) (v := ?_) rfl (by kernel_rfl) (by kernel_rfl) (by kernel_rfl) (fun _ _ _ h => only_panic h) (Or.inl ⟨by rfl, ?_⟩) hHeld ?_
              rotate_left
              · (intro w hSw; obtain ⟨-, l1, l2, l3⟩ := LD.out w hSw; go_simp; try (with_reducible rfl))
              try simp only [gA, gB, gC, Act.put, gD, gE, gF]
              refine wpAnyH_take (i := 8) (v := ?_) rfl (by kernel_rfl) (by kernel_rfl) (by kernel_rfl) (fun _ _ _ h => only_panic h) (Or.inl ⟨by rfl, ?_⟩) hHeld ?_
              rotate_left
              · (intro w hSw; obtain ⟨-, l1, l2, l3⟩ := LD.out w hSw; go_simp; try (with_reducible rfl))
              try simp only [gA, gB, gC, Act.put, gD, gE, gF]
              refine wpAnyH_take (i := 9) (v := ?_) rfl (by kernel_rfl) (by kernel_rfl) (by kernel_rfl) (fun _ _ _ h => only_panic h) (Or.inl ⟨by rfl, ?_⟩) hHeld ?_
              rotate_left
              · (intro w hSw; clear hSw; go_simp; try (with_reducible rfl))
              try simp only [gA, gB, gC, Act.put, gD, gE, gF]
              refine wpAnyH_take (i := 11) (v := ?_) rfl (by kernel_rfl) (by kernel_rfl) (by kernel_rfl) (fun _ _ _ h => only_panic h) (Or.inl ⟨by rfl, ?_⟩) hHeld ?_
              rotate_left
              · (intro w hSw; have l0 := (LD.out w hSw).1; go_simp; try (with_reducible rfl))
              try simp only [gA, gB, gC, Act.put, gD, gE, gF]
              refine wpAnyH_take (i := 12) (v := ?_) rfl (by kernel_rfl) (by kernel_rfl) (by kernel_rfl) (fun _ _ _ h => only_panic h) (Or.inl ⟨by rfl, ?_⟩) hHeld ?_
              rotate_left
              · (intro w hSw; have l0 := (LD.out w hSw).1; go_simp; try (with_reducible rfl))
              try simp only [gA, gB, gC, Act.put, gD, gE, gF]
              refine wpAnyH_take (i := 13) (v := ?_) rfl (by kernel_rfl) (by kernel_rfl) (by kernel_rfl) (fun _ _ _ h => only_panic h) (Or.inl ⟨by rfl, ?_⟩) hHeld ?_
              rotate_left
              · (intro w hSw; have l0 := (LD.out w hSw).1; go_simp; try (with_reducible rfl))
              try simp only [gA, gB, gC, Act.put, gD, gE, gF]
              refine wpAnyH_take (i := 14) (v := ?_) rfl (by kernel_rfl) (by kernel_rfl) (by kernel_rfl) (fun _ _ _ h => only_panic h) (Or.inl ⟨by rfl, ?_⟩) hHeld ?_
              rotate_left
              · (intro w hSw; have l0 := (LD.out w hSw).1; go_simp; try (with_reducible rfl))
              try simp only [gA, gB, gC, Act.put, gD, gE, gF]
              refine wpAnyH_take (i := 15) (v := ?_) rfl (by kernel_rfl) (by kernel_rfl) (by kernel_rfl) (fun _ _ _ h => only_panic h) (Or.inl ⟨by rfl, ?_⟩) hHeld ?_
              rotate_left
              · (intro w hSw; have l0 := (LD.out w hSw).1; go_simp; try (with_reducible rfl))
              try simp only [gA, gB, gC, Act.put, gD, gE, gF]
              refine wpAnyH_take (i := 16) (v := ?_) rfl (by kernel_rfl) (by kernel_rfl) (by kernel_rfl) (fun _ _ _ h => only_panic h) (Or.inl ⟨by rfl, ?_⟩) hHeld ?_
              rotate_left
              · (intro w hSw; clear hSw; go_simp; skip; try (with_reducible rfl))
              try simp only [gA, gB, gC, Act.put, gD, gE, gF]
              refine wpAnyH_one (i := 10) rfl (by kernel_rfl) (by rfl) ?_
              go_simp
              obtain ⟨W5, hW5⟩ : ∃ W5, W5 = (W4.alloc (.cells #[i64 f, i64 r, i64 v, i64 0, i64 0] 119)).drew := ⟨_, rfl⟩
              have B5 : RowKit.Hid (Below W4.heap.size W4 W5) := Lib.hid (by rw [hW5]; exact ((Below.refl _ _).alloc (Nat.le_refl _) _).drew)
              have R5 : RowKit.Hid (W5.ownsRow W4.heap.size 119 5 (.slice (some ⟨W4.heap.size, 0, none⟩) 1 1) 1 [i64 f, i64 r, i64 v, i64 0, i64 0]) := Lib.hid (by rw [hW5]; exact row_fresh W4 _ #[i64 f, i64 r, i64 v, i64 0, i64 0] 119 5 1 rfl (by unfold maxLen; omega) (Nat.le_refl _))
              rw [← hW5]
              clear hW5
              refine ⟨UU.out _ B5.out, ?_⟩
              refine wpAnyH_one (i := 17) rfl (by kernel_rfl) (by rfl) ?_
              refine wp_append_all (.tmp 137) (.tmp 143) 100 rfl W4.heap.size 119 i0 _ 5 40 Tryz.underlying100 hi hz1 hz2 hz3 rfl (by omega) _ 1 [i64 f, i64 r, i64 v, i64 0, i64 0] rfl R5.out 0 [] _ rfl (SR.out W5 (B4.out.trans (B5.out.mono B4.out.size))) (fun u hu => ON.out u (List.mem_append_right _ hu)) (by unfold maxLen; omega) (by omega) B5.out.size ?_
              intro v6 W6 hown hg hat
              have B6 : RowKit.Hid (Below W4.heap.size W4 W6) := Lib.hid (B5.out.grown hg B5.out.size (fun j e => (row_lt R5.out j e).1))
              have R6 := Lib.hid hown
              have hHeld := UU.out _ B6.out
              clear hown hg hat
              refine ⟨hHeld, ?_⟩
              refine wpAnyH_take (i := 18) (v := ?_) rfl (by kernel_rfl) (by kernel_rfl) (by kernel_rfl) (fun _ _ _ h => only_panic h) (Or.inl ⟨by rfl, ?_⟩) hHeld ?_
              rotate_left
              · (intro w hSw; clear hSw; go_simp; try (with_reducible rfl))
              try simp only [gA, gB, gC, Act.put, gD, gE, gF]
              exact wpAnyH_done (by kernel_rfl) ⟨rfl, hR _ _ ⟨R6.out, B6.out⟩⟩ _
            case rest =>
              rintro u W ⟨hu, hb⟩
              have B6 : RowKit.Hid (Below W4.heap.size W4 W) := Lib.hid hb
              have M6 := Lib.hid (M4.out.up B6.out)
              have U6 := Lib.hid hu
              obtain ⟨ua, uc, rfl, -⟩ := row_cellz hu
              have c3 : W.cell? ⟨rb, 3, none⟩ = some (.slice none 0 0) := (M6.out.blk.cell 3).trans (congrArg some HLV0.out)
              have hz6 := B6.out.size
              have hrW : rb < W.heap.size := M6.out.blk.lt
              have Z4 : RowKit.Hid (W4.heap.size ≤ W.heap.size) := Lib.hid hz6
              have D6 : RowKit.Hid (Below wc.heap.size wc W) := Lib.hid (D4.out.trans (B6.out.mono D4.out.size))
              clear hu hb c0 c1 c2 c4 m0
              go_wp2_with (first
                | (refine wpList_append_all rfl (.tmp 146) (.tmp 152) 100 rfl W.heap.size 119 i0 _ 5 40 Tryz.underlying100 hi hz1 hz2 hz3 rfl (by omega) _ 0 [] rfl (row_fresh W _ #[] 119 5 0 rfl (by omega) (Nat.le_refl _)) 0 ((ccells G).take (0 * 5)) _ rfl (ST.out _ ((B4.out.trans (B6.out.mono B4.out.size)).trans (((Below.refl W.heap.size W).alloc (Nat.le_refl _) _).mono (Nat.le_trans B4.out.size hz6)))) (fun u hu => ccells_one _ u (List.mem_of_mem_take hu)) (by unfold maxLen; omega) (by omega) (by simp) ?_
                   intro v7 w7 hown7 hg7 hat7
                   have B7 : RowKit.Hid (Below W.heap.size W w7) := Lib.hid (((Below.refl W.heap.size W).alloc (Nat.le_refl _) _).grown hg7 (by simp) (fun j e => by have := own_ge e; omega))
                   have S7 := Lib.hid hown7
                   clear hown7 hg7 hat7)
                | (refine wpList_append_all rfl (.tmp 153) (.tmp 154) 100 rfl W.heap.size 119 i0 _ 5 40 Tryz.underlying100 hi hz1 hz2 hz3 rfl (by omega) v7 _ _ rfl S7.out _ _ (.slice ua (1 + 0) uc) rfl ((src_row U6.out).below B7.out) ON.out (by unfold maxLen; omega) (by omega) B7.out.size ?_
                   intro v8 w8 hown8 hg8 hat8
                   have B8 : RowKit.Hid (Below W.heap.size W w8) := Lib.hid (B7.out.grown hg8 B7.out.size (fun j e => (row_lt S7.out j e).1))
                   have S8 : RowKit.Hid (w8.ownsRow W.heap.size 119 5 v8 G1.length CE) := Lib.hid (by
                     have e1 : 0 + 0 + (1 + 0) = G1.length := E1.out
                     have e2 : [] ++ (ccells G).take (0 * 5) ++ ([i64 f, i64 r, i64 v, i64 0, i64 0] ++ []) = CE := E2.out
                     rw [← e1, ← e2]; exact hown8)
                   obtain ⟨a8, cap8, hv8, -⟩ := row_cellz S8.out
                   have HV8 := Lib.hid hv8
                   obtain ⟨M9, T9⟩ := (M3.out.up D6.out).newL B8.out S8.out (L' := insC c s.L) INS.out.1 INS.out.2.1 INS.out.2.2.1 INS.out.2.2.2.1 (by rw [INS.out.2.2.2.2.1]; have := M3.out.len.1; omega) (by omega)
                   have M9 := Lib.hid M9
                   have T9 : RowKit.Hid (Tn (fun k => k = rb) w (w8.setCell ⟨rb, 3, none⟩ v8)) := Lib.hid ((Tn.of_below (B3.out.trans (D6.out.mono B3.out.size))).trans T9)
                   have bb := M6.out.blk.below B8.out M6.out.blk.lt
                   have f8 := bb.frozen 3
                   have c8 : w8.cell? ⟨rb, 3, none⟩ = some (.slice none 0 0) := (bb.cell 3).trans (congrArg some HLV0.out)
                   have l8 := bb.lt
                   have OW : RowKit.Hid (∀ k, v8.ownBlock = some k → w.heap.size ≤ k) := Lib.hid fun k hk => Nat.le_trans (Nat.le_trans B4.out.size Z4.out) (row_lt S8.out k hk).1
                   subst hv8
                   clear hown8 hg8 hat8 bb))
              refine (rsettle_any B rb (N + 1) { s with L := insC c s.L } rv (.slice a8 G1.length cap8) G1 0 c 0 _ (by have := M9.out; rw [HCE.out] at this; exact this) INS.out.2.2.2.2.2.1 INS.out.2.2.2.2.2.2).mono ?_
              rintro e w10 ⟨rfl, hM10, hT10⟩
              have M10 := Lib.hid hM10
              have T10 : RowKit.Hid (Tn (fun k => k = rb) w w10) := Lib.hid (T9.out.then_ hT10 fun k hk => .inr (OW.out k hk))
              clear hM10 hT10 c8 f8 l8 c3
              go_wp2_with fail
              refine (rnow_any B rb (N + 1) { s with L := insC c s.L } rv (.slice a8 G1.length cap8) G1 0 (c, 0) w10 M10.out INS.out.2.2.2.2.2.1 (by have := H0.out.sent.2; show s.sent < 1000 * ((N + 1 : Nat) : Int); omega)).mono ?_
              rintro e w11 ⟨v11, rfl, hm11, hM11, hT11⟩
              have T11 : RowKit.Hid (Tn (OwnRB rb rv lv) w w11) := Lib.hid ((T10.out.then_ hT11 (fun k hk => Or.inl hk)).mono fun k hk => Or.inl hk)
              have F : RowKit.Hid (RBTakeE B rb N s rv lv ⟨f, s.id, nn, y⟩ w (.returned v11) w11) := Lib.hid (by
                refine ⟨v11, .slice a8 G1.length cap8, G1, rfl, ?_, ?_, T11.out, fun k hk => ?_⟩
                · rw [HT.out]; exact hm11.mono T10.out.size
                · rw [HT.out]; exact hM11
                · rcases hk with hk | hk | hk
                  · exact .inl (.inl hk)
                  · exact .inl (.inr (.inl hk))
                  · exact .inr (OW.out k hk))
              clear hm11 hM11 hT11
              go_wp2_with fail
              go_ret
              exact F.out
          · have HC := Lib.hid hcc
            have ST : RowKit.Hid (∀ W, Below w.heap.size w W → Src W 5 j ((ccells G).take (j * 5)) (.slice (some ⟨g, 0, none⟩) j lcap)) := Lib.hid fun W hW => src_take HXC.out hjG (news_same hW hgl HC.out)
            by_cases hce : lcap = j
            · have hjl : j = G.length := by omega
              subst hjl
              subst hce
              have ON : RowKit.Hid (∀ u ∈ [i64 f, i64 r, i64 v, i64 0, i64 0] ++ [], u.oneCell' = true) := Lib.hid fun u hu => by simp at hu; rcases hu with rfl | rfl | rfl | rfl | rfl <;> rfl
              have E2 : RowKit.Hid ([] ++ (ccells G).take (G.length * 5) ++ ([i64 f, i64 r, i64 v, i64 0, i64 0] ++ []) = CE) := Lib.hid (by rw [CE2.out, List.drop_of_length_le (by rw [HXC.out]; exact Nat.le_refl _)]; simp)
              have E1 : RowKit.Hid (0 + G.length + (1 + 0) = G1.length) := Lib.hid (by rw [INS.out.2.2.2.2.1]; omega)
              clear hcc hgl
              go_wp2_with fail
              go_quiet (fail)
              go_wp2_with fail
              generalize hW4 : World.drewN _ _ = W4
              have D4 : RowKit.Hid (Below wc.heap.size wc W4) := Lib.hid (by rw [← hW4]; exact bdrewN (Below.refl _ _) _)
              have B4 : RowKit.Hid (Below w.heap.size w W4) := Lib.hid (B3.out.trans (D4.out.mono B3.out.size))
              have M4 : RowKit.Hid (RBM W4 B rb s rv lv G (N + 1)) := Lib.hid ((M3.out.up D4.out).mono (Nat.le_succ N) (by omega))
              clear hW4
              obtain ⟨S, hS⟩ : ∃ S : World → Prop, S = fun W => Below W4.heap.size W4 W := ⟨_, rfl⟩
              have LD : RowKit.Hid (∀ W, S W → W.cell? ⟨rb, 3, none⟩ = some (.slice (some ⟨g, 0, none⟩) G.length G.length) ∧ W.cell? ⟨b', o + 1, none⟩ = some (i64 f) ∧ W.cell? ⟨b', o + 2, none⟩ = some (i64 r) ∧ W.cell? ⟨b', o + 3, none⟩ = some (i64 v)) := Lib.hid (by
                rw [hS]; exact fun W h => ⟨((M4.out.up h).blk.cell 3).trans (congrArg some HLV.out), Below.cellE h (Below.cellE D4.out c1), Below.cellE h (Below.cellE D4.out c2), Below.cellE h (Below.cellE D4.out c4)⟩)
              have UU : RowKit.Hid (∀ W, Below W4.heap.size W4 W → S W) := Lib.hid (by rw [hS]; exact fun W h => h)
              have hHeld := UU.out _ (Below.refl W4.heap.size W4).drew
              clear hS
              refine wp_region_held_drew (S := S) (by kernel_rfl) hHeld (fun _ => ?_)
              apply wpAnyH_apartV (fun u W => W.ownsRow W4.heap.size 119 5 u (1 + 0) ([i64 f, i64 r, i64 v, i64 0, i64 0] ++ []) ∧ Below W4.heap.size W4 W)
              case take =>
                intro R hR
                refine wpAnyH_take (i := 0) (v := ?_) rfl (by kernel_rfl) (by kernel_rfl) (by kernel_rfl) (fun _ _ _ h => only_panic h) (Or.inl ⟨by rfl, ?_⟩) hHeld ?_
                rotate_left
                · (intro w hSw; obtain ⟨-, l1, l2, l3⟩ := LD.out w hSw; go_simp; try (with_reducible rfl))
                try simp only [gA, gB, gC, Act.put, gD, gE, gF]
                refine wpAnyH_take (i := 1) (v := ?_) rfl (by kernel_rfl) (by kernel_rfl) (by kernel_rfl) (fun _ _ _ h => only_panic h) (Or.inl ⟨by rfl, ?_⟩) hHeld ?_
                rotate_left
                · (intro w hSw; obtain ⟨-, l1, l2, l3⟩ := LD.out w hSw; go_simp; try (with_reducible rfl))
                try simp only [gA, gB, gC, Act.put, gD, gE, gF]
                refine wpAnyH_take (i := 2) (v := ?_) rfl (by kernel_rfl) (by kernel_rfl) (by kernel_rfl) (fun _ _ _ h => only_panic h) (Or.inl ⟨by rfl, ?_⟩) hHeld ?_
                rotate_left
                · (intro w hSw; obtain ⟨-, l1, l2, l3⟩ := LD.out w hSw; go_simp; try (with_reducible rfl))
                try simp only [gA, gB, gC, Act.put, gD, gE, gF]
                refine wpAnyH_take (i := 3) (v := ?_) rfl (by kernel_rfl) (by kernel_rfl) (by kernel_rfl) (fun _ _ _ h => only_panic h) (Or.inl ⟨by rfl, ?_⟩) hHeld ?_
                rotate_left
                · (intro w hSw; obtain ⟨-, l1, l2, l3⟩ := LD.out w hSw; go_simp; try (with_reducible rfl))
                try simp only [gA, gB, gC, Act.put, gD, gE, gF]
                refine wpAnyH_take (i := 4) (v := ?_) rfl (by kernel_rfl) (by kernel_rfl) (by kernel_rfl) (fun _ _ _ h => only_panic h) (Or.inl ⟨by rfl, ?_⟩) hHeld ?_
                rotate_left
                · (intro w hSw; obtain ⟨-, l1, l2, l3⟩ := LD.out w hSw; go_simp; try (with_reducible rfl))
                try simp only [gA, gB, gC, Act.put, gD, gE, gF]
                refine wpAnyH_take (i := 5) (v := ?_) rfl (by kernel_rfl) (by kernel_rfl) (by kernel_rfl) (fun _ _ _ h => only_panic h) (Or.inl ⟨by rfl, ?_⟩) hHeld ?_
                rotate_left
                · (intro w hSw; obtain ⟨-, l1, l2, l3⟩ := LD.out w hSw; go_simp; try (with_reducible rfl))
                try simp only [gA, gB, gC, Act.put, gD, gE, gF]
                refine wpAnyH_take (i := 6) (v := ?_) rfl (by kernel_rfl) (by kernel_rfl) (by kernel_rfl) (fun _ _ _ h => only_panic h) (Or.inl ⟨by rfl, ?_⟩) hHeld ?_
                rotate_left
                · (intro w hSw; obtain ⟨-, l1, l2, l3⟩ := LD.out w hSw; go_simp; try (with_reducible rfl))
                try simp only [gA, gB, gC, Act.put, gD, gE, gF]
                refine wpAnyH_take (i := 7) (v := ?_) rfl (by kernel_rfl) (by kernel_rfl) (by kernel_rfl) (fun _ _ _ h => only_panic h) (Or.inl ⟨by rfl, ?_⟩) hHeld ?_
                rotate_left
                · (intro w hSw; obtain ⟨-, l1, l2, l3⟩ := LD.out w hSw; go_simp; try (with_reducible rfl))
                try simp only [gA, gB, gC, Act.put, gD, gE, gF]
                refine wpAnyH_take (i := 8) (v := ?_) rfl (by kernel_rfl) (by kernel_rfl) (by kernel_rfl) (fun _ _ _ h => only_panic h) (Or.inl ⟨by rfl, ?_⟩) hHeld ?_
                rotate_left
                · (intro w hSw; obtain ⟨-, l1, l2, l3⟩ := LD.out w hSw; go_simp; try (with_reducible rfl))
                try simp only [gA, gB, gC, Act.put, gD, gE, gF]
                refine wpAnyH_take (i := 9) (v := ?_) rfl (by kernel_rfl) (by kernel_rfl) (by kernel_rfl) (fun _ _ _ h => only_panic h) (Or.inl ⟨by rfl, ?_⟩) hHeld ?_
                rotate_left
                · (intro w hSw; clear hSw; go_simp; try (with_reducible rfl))
                try simp only [gA, gB, gC, Act.put, gD, gE, gF]
                refine wpAnyH_take (i := 11) (v := ?_) rfl (by kernel_rfl) (by kernel_rfl) (by kernel_rfl) (fun _ _ _ h => only_panic h) (Or.inl ⟨by rfl, ?_⟩) hHeld ?_
                rotate_left
                · (intro w hSw; have l0 := (LD.out w hSw).1; go_simp; try (with_reducible rfl))
                try simp only [gA, gB, gC, Act.put, gD, gE, gF]
                refine wpAnyH_take (i := 12) (v := ?_) rfl (by kernel_rfl) (by kernel_rfl) (by kernel_rfl) (fun _ _ _ h => only_panic h) (Or.inl ⟨by rfl, ?_⟩) hHeld ?_
                rotate_left
                · (intro w hSw; have l0 := (LD.out w hSw).1; go_simp; try (with_reducible rfl))
                try simp only [gA, gB, gC, Act.put, gD, gE, gF]
                refine wpAnyH_take (i := 13) (v := ?_) rfl (by kernel_rfl) (by kernel_rfl) (by kernel_rfl) (fun _ _ _ h => only_panic h) (Or.inl ⟨by rfl, ?_⟩) hHeld ?_
                rotate_left
                · (intro w hSw; have l0 := (LD.out w hSw).1; go_simp; try (with_reducible rfl))
                try simp only [gA, gB, gC, Act.put, gD, gE, gF]
                refine wpAnyH_take (i := 14) (v := ?_) rfl (by kernel_rfl) (by kernel_rfl) (by kernel_rfl) (fun _ _ _ h => only_panic h) (Or.inl ⟨by rfl, ?_⟩) hHeld ?_
                rotate_left
                · (intro w hSw; have l0 := (LD.out w hSw).1; go_simp; try (with_reducible rfl))
                try simp only [gA, gB, gC, Act.put, gD, gE, gF]
                refine wpAnyH_take (i := 15) (v := ?_) rfl (by kernel_rfl) (by kernel_rfl) (by kernel_rfl) (fun _ _ _ h => only_panic h) (Or.inl ⟨by rfl, ?_⟩) hHeld ?_
                rotate_left
                · (intro w hSw; have l0 := (LD.out w hSw).1; go_simp; try (with_reducible rfl))
                try simp only [gA, gB, gC, Act.put, gD, gE, gF]
                refine wpAnyH_take (i := 16) (v := ?_) rfl (by kernel_rfl) (by kernel_rfl) (by kernel_rfl) (fun _ _ _ h => only_panic h) (Or.inl ⟨by rfl, ?_⟩) hHeld ?_
                rotate_left
                · (intro w hSw; clear hSw; go_simp; skip; try (with_reducible rfl))
                try simp only [gA, gB, gC, Act.put, gD, gE, gF]
                refine wpAnyH_one (i := 10) rfl (by kernel_rfl) (by rfl) ?_
                go_simp
                obtain ⟨W5, hW5⟩ : ∃ W5, W5 = (W4.alloc (.cells #[i64 f, i64 r, i64 v, i64 0, i64 0] 119)).drew := ⟨_, rfl⟩
                have B5 : RowKit.Hid (Below W4.heap.size W4 W5) := Lib.hid (by rw [hW5]; exact ((Below.refl _ _).alloc (Nat.le_refl _) _).drew)
                have R5 : RowKit.Hid (W5.ownsRow W4.heap.size 119 5 (.slice (some ⟨W4.heap.size, 0, none⟩) 1 1) 1 [i64 f, i64 r, i64 v, i64 0, i64 0]) := Lib.hid (by rw [hW5]; exact row_fresh W4 _ #[i64 f, i64 r, i64 v, i64 0, i64 0] 119 5 1 rfl (by unfold maxLen; omega) (Nat.le_refl _))
                rw [← hW5]
                clear hW5
                refine ⟨UU.out _ B5.out, ?_⟩
                refine wpAnyH_one (i := 17) rfl (by kernel_rfl) (by rfl) ?_
                refine wp_append_all (.tmp 137) (.tmp 143) 100 rfl W4.heap.size 119 i0 _ 5 40 Tryz.underlying100 hi hz1 hz2 hz3 rfl (by omega) _ 1 [i64 f, i64 r, i64 v, i64 0, i64 0] rfl R5.out 0 [] _ rfl ((fun W _ => .inr ⟨_, _, rfl, rfl, fun j u hu => by simp at hu⟩) W5 (B4.out.trans (B5.out.mono B4.out.size))) (fun u hu => ON.out u (List.mem_append_right _ hu)) (by unfold maxLen; omega) (by omega) B5.out.size ?_
                intro v6 W6 hown hg hat
                have B6 : RowKit.Hid (Below W4.heap.size W4 W6) := Lib.hid (B5.out.grown hg B5.out.size (fun j e => (row_lt R5.out j e).1))
                have R6 := Lib.hid hown
                have hHeld := UU.out _ B6.out
                clear hown hg hat
                refine ⟨hHeld, ?_⟩
                refine wpAnyH_take (i := 18) (v := ?_) rfl (by kernel_rfl) (by kernel_rfl) (by kernel_rfl) (fun _ _ _ h => only_panic h) (Or.inl ⟨by rfl, ?_⟩) hHeld ?_
                rotate_left
                · (intro w hSw; clear hSw; go_simp; try (with_reducible rfl))
                try simp only [gA, gB, gC, Act.put, gD, gE, gF]
                exact wpAnyH_done (by kernel_rfl) ⟨rfl, hR _ _ ⟨R6.out, B6.out⟩⟩ _
              case rest =>
                rintro u W ⟨hu, hb⟩
                have B6 : RowKit.Hid (Below W4.heap.size W4 W) := Lib.hid hb
                have M6 := Lib.hid (M4.out.up B6.out)
                have U6 := Lib.hid hu
                obtain ⟨ua, uc, rfl, -⟩ := row_cellz hu
                have c3 : W.cell? ⟨rb, 3, none⟩ = some (.slice (some ⟨g, 0, none⟩) G.length G.length) := (M6.out.blk.cell 3).trans (congrArg some HLV.out)
                have hz6 := B6.out.size
                have hrW : rb < W.heap.size := M6.out.blk.lt
                have Z4 : RowKit.Hid (W4.heap.size ≤ W.heap.size) := Lib.hid hz6
                have D6 : RowKit.Hid (Below wc.heap.size wc W) := Lib.hid (D4.out.trans (B6.out.mono D4.out.size))
                clear hu hb c0 c1 c2 c4 m0
                go_wp2_with (first
                  | (refine wpList_append_all rfl (.tmp 146) (.tmp 152) 100 rfl W.heap.size 119 i0 _ 5 40 Tryz.underlying100 hi hz1 hz2 hz3 rfl (by omega) _ 0 [] rfl (row_fresh W _ #[] 119 5 0 rfl (by omega) (Nat.le_refl _)) G.length ((ccells G).take (G.length * 5)) _ rfl (ST.out _ ((B4.out.trans (B6.out.mono B4.out.size)).trans (((Below.refl W.heap.size W).alloc (Nat.le_refl _) _).mono (Nat.le_trans B4.out.size hz6)))) (fun u hu => ccells_one _ u (List.mem_of_mem_take hu)) (by unfold maxLen; omega) (by omega) (by simp) ?_
                     intro v7 w7 hown7 hg7 hat7
                     have B7 : RowKit.Hid (Below W.heap.size W w7) := Lib.hid (((Below.refl W.heap.size W).alloc (Nat.le_refl _) _).grown hg7 (by simp) (fun j e => by have := own_ge e; omega))
                     have S7 := Lib.hid hown7
                     clear hown7 hg7 hat7)
                  | (refine wpList_append_all rfl (.tmp 153) (.tmp 154) 100 rfl W.heap.size 119 i0 _ 5 40 Tryz.underlying100 hi hz1 hz2 hz3 rfl (by omega) v7 _ _ rfl S7.out _ _ (.slice ua (1 + 0) uc) rfl ((src_row U6.out).below B7.out) ON.out (by unfold maxLen; omega) (by omega) B7.out.size ?_
                     intro v8 w8 hown8 hg8 hat8
                     have B8 : RowKit.Hid (Below W.heap.size W w8) := Lib.hid (B7.out.grown hg8 B7.out.size (fun j e => (row_lt S7.out j e).1))
                     have S8 : RowKit.Hid (w8.ownsRow W.heap.size 119 5 v8 G1.length CE) := Lib.hid (by
                       have e1 : 0 + G.length + (1 + 0) = G1.length := E1.out
                       have e2 : [] ++ (ccells G).take (G.length * 5) ++ ([i64 f, i64 r, i64 v, i64 0, i64 0] ++ []) = CE := E2.out
                       rw [← e1, ← e2]; exact hown8)
                     obtain ⟨a8, cap8, hv8, -⟩ := row_cellz S8.out
                     have HV8 := Lib.hid hv8
                     obtain ⟨M9, T9⟩ := (M3.out.up D6.out).newL B8.out S8.out (L' := insC c s.L) INS.out.1 INS.out.2.1 INS.out.2.2.1 INS.out.2.2.2.1 (by rw [INS.out.2.2.2.2.1]; have := M3.out.len.1; omega) (by omega)
                     have M9 := Lib.hid M9
                     have T9 : RowKit.Hid (Tn (fun k => k = rb) w (w8.setCell ⟨rb, 3, none⟩ v8)) := Lib.hid ((Tn.of_below (B3.out.trans (D6.out.mono B3.out.size))).trans T9)
                     have bb := M6.out.blk.below B8.out M6.out.blk.lt
                     have f8 := bb.frozen 3
                     have c8 : w8.cell? ⟨rb, 3, none⟩ = some (.slice (some ⟨g, 0, none⟩) G.length G.length) := (bb.cell 3).trans (congrArg some HLV.out)
                     have l8 := bb.lt
                     have OW : RowKit.Hid (∀ k, v8.ownBlock = some k → w.heap.size ≤ k) := Lib.hid fun k hk => Nat.le_trans (Nat.le_trans B4.out.size Z4.out) (row_lt S8.out k hk).1
                     subst hv8
                     clear hown8 hg8 hat8 bb))
                refine (rsettle_any B rb (N + 1) { s with L := insC c s.L } rv (.slice a8 G1.length cap8) G1 G.length c 0 _ (by have := M9.out; rw [HCE.out] at this; exact this) INS.out.2.2.2.2.2.1 INS.out.2.2.2.2.2.2).mono ?_
                rintro e w10 ⟨rfl, hM10, hT10⟩
                have M10 := Lib.hid hM10
                have T10 : RowKit.Hid (Tn (fun k => k = rb) w w10) := Lib.hid (T9.out.then_ hT10 fun k hk => .inr (OW.out k hk))
                clear hM10 hT10 c8 f8 l8 c3
                go_wp2_with fail
                refine (rnow_any B rb (N + 1) { s with L := insC c s.L } rv (.slice a8 G1.length cap8) G1 G.length (c, 0) w10 M10.out INS.out.2.2.2.2.2.1 (by have := H0.out.sent.2; show s.sent < 1000 * ((N + 1 : Nat) : Int); omega)).mono ?_
                rintro e w11 ⟨v11, rfl, hm11, hM11, hT11⟩
                have T11 : RowKit.Hid (Tn (OwnRB rb rv lv) w w11) := Lib.hid ((T10.out.then_ hT11 (fun k hk => Or.inl hk)).mono fun k hk => Or.inl hk)
                have F : RowKit.Hid (RBTakeE B rb N s rv lv ⟨f, s.id, nn, y⟩ w (.returned v11) w11) := Lib.hid (by
                  refine ⟨v11, .slice a8 G1.length cap8, G1, rfl, ?_, ?_, T11.out, fun k hk => ?_⟩
                  · rw [HT.out]; exact hm11.mono T10.out.size
                  · rw [HT.out]; exact hM11
                  · rcases hk with hk | hk | hk
                    · exact .inl (.inl hk)
                    · exact .inl (.inr (.inl hk))
                    · exact .inr (OW.out k hk))
                clear hm11 hM11 hT11
                go_wp2_with fail
                go_ret
                exact F.out
            · have SR : RowKit.Hid (∀ W, Below w.heap.size w W → Src W 5 (G.length - j) ((ccells G).drop (j * 5)) (.slice (some ⟨g, j * 5, none⟩) (G.length - j) (lcap - j))) := Lib.hid fun W hW => src_drop rfl HXC.out hjG (news_same hW hgl HC.out)
              have ON : RowKit.Hid (∀ u ∈ [i64 f, i64 r, i64 v, i64 0, i64 0] ++ (ccells G).drop (j * 5), u.oneCell' = true) := Lib.hid fun u hu => by
                rcases List.mem_append.1 hu with hu | hu
                · simp at hu; rcases hu with rfl | rfl | rfl | rfl | rfl <;> rfl
                · exact ccells_one _ u (List.mem_of_mem_drop hu)
              have E1 : RowKit.Hid (0 + j + (1 + (G.length - j)) = G1.length) := Lib.hid (by rw [INS.out.2.2.2.2.1]; omega)
              have E2 : RowKit.Hid ([] ++ (ccells G).take (j * 5) ++ ([i64 f, i64 r, i64 v, i64 0, i64 0] ++ (ccells G).drop (j * 5)) = CE) := Lib.hid (by rw [CE2.out, List.nil_append])
              clear hcc hgl
              go_wp2_with fail
              go_quiet (fail)
              go_wp2_with fail
              generalize hW4 : World.drewN _ _ = W4
              have D4 : RowKit.Hid (Below wc.heap.size wc W4) := Lib.hid (by rw [← hW4]; exact bdrewN (Below.refl _ _) _)
              have B4 : RowKit.Hid (Below w.heap.size w W4) := Lib.hid (B3.out.trans (D4.out.mono B3.out.size))
              have M4 : RowKit.Hid (RBM W4 B rb s rv lv G (N + 1)) := Lib.hid ((M3.out.up D4.out).mono (Nat.le_succ N) (by omega))
              clear hW4
              obtain ⟨S, hS⟩ : ∃ S : World → Prop, S = fun W => Below W4.heap.size W4 W := ⟨_, rfl⟩
              have LD : RowKit.Hid (∀ W, S W → W.cell? ⟨rb, 3, none⟩ = some (.slice (some ⟨g, 0, none⟩) G.length lcap) ∧ W.cell? ⟨b', o + 1, none⟩ = some (i64 f) ∧ W.cell? ⟨b', o + 2, none⟩ = some (i64 r) ∧ W.cell? ⟨b', o + 3, none⟩ = some (i64 v)) := Lib.hid (by
                rw [hS]; exact fun W h => ⟨((M4.out.up h).blk.cell 3).trans (congrArg some HLV.out), Below.cellE h (Below.cellE D4.out c1), Below.cellE h (Below.cellE D4.out c2), Below.cellE h (Below.cellE D4.out c4)⟩)
              have UU : RowKit.Hid (∀ W, Below W4.heap.size W4 W → S W) := Lib.hid (by rw [hS]; exact fun W h => h)
              have hHeld := UU.out _ (Below.refl W4.heap.size W4).drew
              clear hS
              refine wp_region_held_drew (S := S) (by kernel_rfl) hHeld (fun _ => ?_)
              apply wpAnyH_apartV (fun u W => W.ownsRow W4.heap.size 119 5 u (1 + (G.length - j)) ([i64 f, i64 r, i64 v, i64 0, i64 0] ++ ((ccells G).drop (j * 5))) ∧ Below W4.heap.size W4 W)
              case take =>
                intro R hR
                refine wpAnyH_take (i := 0) (v := ?_) rfl (by kernel_rfl) (by kernel_rfl) (by kernel_rfl) (fun _ _ _ h => only_panic h) (Or.inl ⟨by rfl, ?_⟩) hHeld ?_
                rotate_left
                · (intro w hSw; obtain ⟨-, l1, l2, l3⟩ := LD.out w hSw; go_simp; try (with_reducible rfl))
                try simp only [gA, gB, gC, Act.put, gD, gE, gF]
                refine wpAnyH_take (i := 1) (v := ?_) rfl (by kernel_rfl) (by kernel_rfl) (by kernel_rfl) (fun _ _ _ h => only_panic h) (Or.inl ⟨by rfl, ?_⟩) hHeld ?_
                rotate_left
                · (intro w hSw; obtain ⟨-, l1, l2, l3⟩ := LD.out w hSw; go_simp; try (with_reducible rfl))
                try simp only [gA, gB, gC, Act.put, gD, gE, gF]
                refine wpAnyH_take (i := 2) (v := ?_) rfl (by kernel_rfl) (by kernel_rfl) (by kernel_rfl) (fun _ _ _ h => only_panic h) (Or.inl ⟨by rfl, ?_⟩) hHeld ?_
                rotate_left
                · (intro w hSw; obtain ⟨-, l1, l2, l3⟩ := LD.out w hSw; go_simp; try (with_reducible rfl))
                try simp only [gA, gB, gC, Act.put, gD, gE, gF]
                refine wpAnyH_take (i := 3) (v := ?_) rfl (by kernel_rfl) (by kernel_rfl) (by kernel_rfl) (fun _ _ _ h => only_panic h) (Or.inl ⟨by rfl, ?_⟩) hHeld ?_
                rotate_left
                · (intro w hSw; obtain ⟨-, l1, l2, l3⟩ := LD.out w hSw; go_simp; try (with_reducible rfl))
                try simp only [gA, gB, gC, Act.put, gD, gE, gF]
                refine wpAnyH_take (i := 4) (v := ?_) rfl (by kernel_rfl) (by kernel_rfl) (by kernel_rfl) (fun _ _ _ h => only_panic h) (Or.inl ⟨by rfl, ?_⟩) hHeld ?_
                rotate_left
                · (intro w hSw; obtain ⟨-, l1, l2, l3⟩ := LD.out w hSw; go_simp; try (with_reducible rfl))
                try simp only [gA, gB, gC, Act.put, gD, gE, gF]
                refine wpAnyH_take (i := 5) (v := ?_) rfl (by kernel_rfl) (by kernel_rfl) (by kernel_rfl) (fun _ _ _ h => only_panic h) (Or.inl ⟨by rfl, ?_⟩) hHeld ?_
                rotate_left
                · (intro w hSw; obtain ⟨-, l1, l2, l3⟩ := LD.out w hSw; go_simp; try (with_reducible rfl))
                try simp only [gA, gB, gC, Act.put, gD, gE, gF]
                refine wpAnyH_take (i := 6) (v := ?_) rfl (by kernel_rfl) (by kernel_rfl) (by kernel_rfl) (fun _ _ _ h => only_panic h) (Or.inl ⟨by rfl, ?_⟩) hHeld ?_
                rotate_left
                · (intro w hSw; obtain ⟨-, l1, l2, l3⟩ := LD.out w hSw; go_simp; try (with_reducible rfl))
                try simp only [gA, gB, gC, Act.put, gD, gE, gF]
                refine wpAnyH_take (i := 7) (v := ?_) rfl (by kernel_rfl) (by kernel_rfl) (by kernel_rfl) (fun _ _ _ h => only_panic h) (Or.inl ⟨by rfl, ?_⟩) hHeld ?_
                rotate_left
                · (intro w hSw; obtain ⟨-, l1, l2, l3⟩ := LD.out w hSw; go_simp; try (with_reducible rfl))
                try simp only [gA, gB, gC, Act.put, gD, gE, gF]
                refine wpAnyH_take (i := 8) (v := ?_) rfl (by kernel_rfl) (by kernel_rfl) (by kernel_rfl) (fun _ _ _ h => only_panic h) (Or.inl ⟨by rfl, ?_⟩) hHeld ?_
                rotate_left
                · (intro w hSw; obtain ⟨-, l1, l2, l3⟩ := LD.out w hSw; go_simp; try (with_reducible rfl))
                try simp only [gA, gB, gC, Act.put, gD, gE, gF]
                refine wpAnyH_take (i := 9) (v := ?_) rfl (by kernel_rfl) (by kernel_rfl) (by kernel_rfl) (fun _ _ _ h => only_panic h) (Or.inl ⟨by rfl, ?_⟩) hHeld ?_
                rotate_left
                · (intro w hSw; clear hSw; go_simp; try (with_reducible rfl))
                try simp only [gA, gB, gC, Act.put, gD, gE, gF]
                refine wpAnyH_take (i := 11) (v := ?_) rfl (by kernel_rfl) (by kernel_rfl) (by kernel_rfl) (fun _ _ _ h => only_panic h) (Or.inl ⟨by rfl, ?_⟩) hHeld ?_
                rotate_left
                · (intro w hSw; have l0 := (LD.out w hSw).1; go_simp; try (with_reducible rfl))
                try simp only [gA, gB, gC, Act.put, gD, gE, gF]
                refine wpAnyH_take (i := 12) (v := ?_) rfl (by kernel_rfl) (by kernel_rfl) (by kernel_rfl) (fun _ _ _ h => only_panic h) (Or.inl ⟨by rfl, ?_⟩) hHeld ?_
                rotate_left
                · (intro w hSw; have l0 := (LD.out w hSw).1; go_simp; try (with_reducible rfl))
                try simp only [gA, gB, gC, Act.put, gD, gE, gF]
                refine wpAnyH_take (i := 13) (v := ?_) rfl (by kernel_rfl) (by kernel_rfl) (by kernel_rfl) (fun _ _ _ h => only_panic h) (Or.inl ⟨by rfl, ?_⟩) hHeld ?_
                rotate_left
                · (intro w hSw; have l0 := (LD.out w hSw).1; go_simp; try (with_reducible rfl))
                try simp only [gA, gB, gC, Act.put, gD, gE, gF]
                refine wpAnyH_take (i := 14) (v := ?_) rfl (by kernel_rfl) (by kernel_rfl) (by kernel_rfl) (fun _ _ _ h => only_panic h) (Or.inl ⟨by rfl, ?_⟩) hHeld ?_
                rotate_left
                · (intro w hSw; have l0 := (LD.out w hSw).1; go_simp; try (with_reducible rfl))
                try simp only [gA, gB, gC, Act.put, gD, gE, gF]
                refine wpAnyH_take (i := 15) (v := ?_) rfl (by kernel_rfl) (by kernel_rfl) (by kernel_rfl) (fun _ _ _ h => only_panic h) (Or.inl ⟨by rfl, ?_⟩) hHeld ?_
                rotate_left
                · (intro w hSw; have l0 := (LD.out w hSw).1; go_simp; try (with_reducible rfl))
                try simp only [gA, gB, gC, Act.put, gD, gE, gF]
                refine wpAnyH_take (i := 16) (v := ?_) rfl (by kernel_rfl) (by kernel_rfl) (by kernel_rfl) (fun _ _ _ h => only_panic h) (Or.inl ⟨by rfl, ?_⟩) hHeld ?_
                rotate_left
                · (intro w hSw; clear hSw; go_simp; skip; try (with_reducible rfl))
                try simp only [gA, gB, gC, Act.put, gD, gE, gF]
                refine wpAnyH_one (i := 10) rfl (by kernel_rfl) (by rfl) ?_
                go_simp
                obtain ⟨W5, hW5⟩ : ∃ W5, W5 = (W4.alloc (.cells #[i64 f, i64 r, i64 v, i64 0, i64 0] 119)).drew := ⟨_, rfl⟩
                have B5 : RowKit.Hid (Below W4.heap.size W4 W5) := Lib.hid (by rw [hW5]; exact ((Below.refl _ _).alloc (Nat.le_refl _) _).drew)
                have R5 : RowKit.Hid (W5.ownsRow W4.heap.size 119 5 (.slice (some ⟨W4.heap.size, 0, none⟩) 1 1) 1 [i64 f, i64 r, i64 v, i64 0, i64 0]) := Lib.hid (by rw [hW5]; exact row_fresh W4 _ #[i64 f, i64 r, i64 v, i64 0, i64 0] 119 5 1 rfl (by unfold maxLen; omega) (Nat.le_refl _))
                rw [← hW5]
                clear hW5
                refine ⟨UU.out _ B5.out, ?_⟩
                refine wpAnyH_one (i := 17) rfl (by kernel_rfl) (by rfl) ?_
                refine wp_append_all (.tmp 137) (.tmp 143) 100 rfl W4.heap.size 119 i0 _ 5 40 Tryz.underlying100 hi hz1 hz2 hz3 rfl (by omega) _ 1 [i64 f, i64 r, i64 v, i64 0, i64 0] rfl R5.out (G.length - j) ((ccells G).drop (j * 5)) _ rfl (SR.out W5 (B4.out.trans (B5.out.mono B4.out.size))) (fun u hu => ON.out u (List.mem_append_right _ hu)) (by unfold maxLen; omega) (by omega) B5.out.size ?_
                intro v6 W6 hown hg hat
                have B6 : RowKit.Hid (Below W4.heap.size W4 W6) := Lib.hid (B5.out.grown hg B5.out.size (fun j e => (row_lt R5.out j e).1))
                have R6 := Lib.hid hown
                have hHeld := UU.out _ B6.out
                clear hown hg hat
                refine ⟨hHeld, ?_⟩
                refine wpAnyH_take (i := 18) (v := ?_) rfl (by kernel_rfl) (by kernel_rfl) (by kernel_rfl) (fun _ _ _ h => only_panic h) (Or.inl ⟨by rfl, ?_⟩) hHeld ?_
                rotate_left
                · (intro w hSw; clear hSw; go_simp; try (with_reducible rfl))
                try simp only [gA, gB, gC, Act.put, gD, gE, gF]
                exact wpAnyH_done (by kernel_rfl) ⟨rfl, hR _ _ ⟨R6.out, B6.out⟩⟩ _
              case rest =>
                rintro u W ⟨hu, hb⟩
                have B6 : RowKit.Hid (Below W4.heap.size W4 W) := Lib.hid hb
                have M6 := Lib.hid (M4.out.up B6.out)
                have U6 := Lib.hid hu
                obtain ⟨ua, uc, rfl, -⟩ := row_cellz hu
                have c3 : W.cell? ⟨rb, 3, none⟩ = some (.slice (some ⟨g, 0, none⟩) G.length lcap) := (M6.out.blk.cell 3).trans (congrArg some HLV.out)
                have hz6 := B6.out.size
                have hrW : rb < W.heap.size := M6.out.blk.lt
                have Z4 : RowKit.Hid (W4.heap.size ≤ W.heap.size) := Lib.hid hz6
                have D6 : RowKit.Hid (Below wc.heap.size wc W) := Lib.hid (D4.out.trans (B6.out.mono D4.out.size))
                clear hu hb c0 c1 c2 c4 m0
                go_wp2_with (first
                  | (refine wpList_append_all rfl (.tmp 146) (.tmp 152) 100 rfl W.heap.size 119 i0 _ 5 40 Tryz.underlying100 hi hz1 hz2 hz3 rfl (by omega) _ 0 [] rfl (row_fresh W _ #[] 119 5 0 rfl (by omega) (Nat.le_refl _)) j ((ccells G).take (j * 5)) _ rfl (ST.out _ ((B4.out.trans (B6.out.mono B4.out.size)).trans (((Below.refl W.heap.size W).alloc (Nat.le_refl _) _).mono (Nat.le_trans B4.out.size hz6)))) (fun u hu => ccells_one _ u (List.mem_of_mem_take hu)) (by unfold maxLen; omega) (by omega) (by simp) ?_
                     intro v7 w7 hown7 hg7 hat7
                     have B7 : RowKit.Hid (Below W.heap.size W w7) := Lib.hid (((Below.refl W.heap.size W).alloc (Nat.le_refl _) _).grown hg7 (by simp) (fun j e => by have := own_ge e; omega))
                     have S7 := Lib.hid hown7
                     clear hown7 hg7 hat7)
                  | (refine wpList_append_all rfl (.tmp 153) (.tmp 154) 100 rfl W.heap.size 119 i0 _ 5 40 Tryz.underlying100 hi hz1 hz2 hz3 rfl (by omega) v7 _ _ rfl S7.out _ _ (.slice ua (1 + (G.length - j)) uc) rfl ((src_row U6.out).below B7.out) ON.out (by unfold maxLen; omega) (by omega) B7.out.size ?_
                     intro v8 w8 hown8 hg8 hat8
                     have B8 : RowKit.Hid (Below W.heap.size W w8) := Lib.hid (B7.out.grown hg8 B7.out.size (fun j e => (row_lt S7.out j e).1))
                     have S8 : RowKit.Hid (w8.ownsRow W.heap.size 119 5 v8 G1.length CE) := Lib.hid (by
                       have e1 : 0 + j + (1 + (G.length - j)) = G1.length := E1.out
                       have e2 : [] ++ (ccells G).take (j * 5) ++ ([i64 f, i64 r, i64 v, i64 0, i64 0] ++ ((ccells G).drop (j * 5))) = CE := E2.out
                       rw [← e1, ← e2]; exact hown8)
                     obtain ⟨a8, cap8, hv8, -⟩ := row_cellz S8.out
                     have HV8 := Lib.hid hv8
                     obtain ⟨M9, T9⟩ := (M3.out.up D6.out).newL B8.out S8.out (L' := insC c s.L) INS.out.1 INS.out.2.1 INS.out.2.2.1 INS.out.2.2.2.1 (by rw [INS.out.2.2.2.2.1]; have := M3.out.len.1; omega) (by omega)
                     have M9 := Lib.hid M9
                     have T9 : RowKit.Hid (Tn (fun k => k = rb) w (w8.setCell ⟨rb, 3, none⟩ v8)) := Lib.hid ((Tn.of_below (B3.out.trans (D6.out.mono B3.out.size))).trans T9)
                     have bb := M6.out.blk.below B8.out M6.out.blk.lt
                     have f8 := bb.frozen 3
                     have c8 : w8.cell? ⟨rb, 3, none⟩ = some (.slice (some ⟨g, 0, none⟩) G.length lcap) := (bb.cell 3).trans (congrArg some HLV.out)
                     have l8 := bb.lt
                     have OW : RowKit.Hid (∀ k, v8.ownBlock = some k → w.heap.size ≤ k) := Lib.hid fun k hk => Nat.le_trans (Nat.le_trans B4.out.size Z4.out) (row_lt S8.out k hk).1
                     subst hv8
                     clear hown8 hg8 hat8 bb))
                refine (rsettle_any B rb (N + 1) { s with L := insC c s.L } rv (.slice a8 G1.length cap8) G1 j c 0 _ (by have := M9.out; rw [HCE.out] at this; exact this) INS.out.2.2.2.2.2.1 INS.out.2.2.2.2.2.2).mono ?_
                rintro e w10 ⟨rfl, hM10, hT10⟩
                have M10 := Lib.hid hM10
                have T10 : RowKit.Hid (Tn (fun k => k = rb) w w10) := Lib.hid (T9.out.then_ hT10 fun k hk => .inr (OW.out k hk))
                clear hM10 hT10 c8 f8 l8 c3
                go_wp2_with fail
                refine (rnow_any B rb (N + 1) { s with L := insC c s.L } rv (.slice a8 G1.length cap8) G1 j (c, 0) w10 M10.out INS.out.2.2.2.2.2.1 (by have := H0.out.sent.2; show s.sent < 1000 * ((N + 1 : Nat) : Int); omega)).mono ?_
                rintro e w11 ⟨v11, rfl, hm11, hM11, hT11⟩
                have T11 : RowKit.Hid (Tn (OwnRB rb rv lv) w w11) := Lib.hid ((T10.out.then_ hT11 (fun k hk => Or.inl hk)).mono fun k hk => Or.inl hk)
                have F : RowKit.Hid (RBTakeE B rb N s rv lv ⟨f, s.id, nn, y⟩ w (.returned v11) w11) := Lib.hid (by
                  refine ⟨v11, .slice a8 G1.length cap8, G1, rfl, ?_, ?_, T11.out, fun k hk => ?_⟩
                  · rw [HT.out]; exact hm11.mono T10.out.size
                  · rw [HT.out]; exact hM11
                  · rcases hk with hk | hk | hk
                    · exact .inl (.inl hk)
                    · exact .inl (.inr (.inl hk))
                    · exact .inr (OW.out k hk))
                clear hm11 hM11 hT11
                go_wp2_with fail
                go_ret
                exact F.out
  · rw [hd] at hd0; cases hd0
end Go.Proofs.YtdojgbpaheadnaaGreat
