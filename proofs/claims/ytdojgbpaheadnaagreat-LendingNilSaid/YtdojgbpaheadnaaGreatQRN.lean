/- The reference's lender makes a deal. -/
import Derived.Test.YtdojgbpaheadnaaGreatQRM
import Derived.Test.YtdojgbpaheadnaaGreatQRNa
set_option linter.unusedVariables false
set_option linter.unusedSimpArgs false

namespace Go.Proofs.YtdojgbpaheadnaaGreat
open Go.RowKit Go.Shelf Go.Maps

def RDealE (B rb N : Nat) (s : Len) (cv lv : Value) (a r v : Int) (w : World) (e : Ending) (w' : World) : Prop :=
  e = .returned (.tuple #[]) ∧ ∃ cv' lv', RLM w' B rb (s.deal a r v) cv' lv' (N + 1) ∧ Tn (OwnR rb cv lv) w w' ∧ ∀ k, OwnR rb cv' lv' k → OwnR rb cv lv k ∨ w.heap.size ≤ k
theorem at_ways {s : Len} (a r v : Int) : (v ∈ s.here ∧ s.deal a r v = { s with here := s.here.erase v, L := s.L ++ [⟨a, r, v, 2⟩] }) ∨ (v ∉ s.here ∧ s.deal a r v = { s with L := s.L ++ [⟨a, r, v, 1⟩] }) := by
  unfold Len.deal
  by_cases h : v ∈ s.here
  · exact .inl ⟨h, if_pos h⟩
  · exact .inr ⟨h, if_neg h⟩
set_option maxRecDepth 100000 in
set_option maxHeartbeats 4000000 in
theorem rdeal_any (B rb N : Nat) (s : Len) (cv lv : Value) (a r v : Int) (w : World) (h : RLM w B rb s cv lv N) (hB : B ≤ w.heap.size) (hN : N < 9000) (ha : I64 a) (hr : I64 r) (hv : I64 v) (hn : at_ s.L a r = none) :
    Calls Tryz.prog 76 #[.pointer (some ⟨rb, 0, none⟩), i64 a, i64 r, i64 v] w (RDealE B rb N s cv lv a r v w) := by
  have H := Lib.hid h
  have HB := Lib.hid hB
  have HI := Lib.hid (And.intro ha (And.intro hr hv))
  have HN0 := Lib.hid hn
  obtain ⟨i0, hi, hz1, hz2, hz3⟩ := info_partsD
  obtain ⟨i1, hj, hj1, hj2, hj3⟩ := info_parts info3
  obtain ⟨ca, cap, hcv, hc1, hc2, hxl, hc⟩ := row_cellz h.cop
  obtain ⟨la, lcap, hlv, ld1, ld2, lxl, -⟩ := row_cellz h.deals
  have hcap : cap ≤ 9223372036854775807 := by unfold maxLen at hc2; omega
  have hlen : s.here.length ≤ 100000 := by have := h.len; omega
  have hLl : s.L.length ≤ 10000 := by have := h.len; omega
  have HC := Lib.hid hc
  have HX := Lib.hid hxl
  have HCV := Lib.hid hcv
  have HLV := Lib.hid hlv
  have hbl := h.blk.lt
  clear h hc hc2 hxl lxl hB ha hr hv hn hlv
  go_enter Tryz.func76, Tryz.ntmps76
  go_wp2_with fail
  obtain ⟨db, hdb⟩ : ∃ db, db = w.heap.size := ⟨_, rfl⟩
  obtain ⟨w1, hw1⟩ : ∃ w1, w1 = w.alloc (.cells #[.int .i64 a, .int .i64 r, .int .i64 v, .int .i64 1] 168) := ⟨_, rfl⟩
  have D1 : RowKit.Hid (Blk w1 db #[i64 a, i64 r, i64 v, i64 1] 168) := Lib.hid (by rw [hw1, hdb]; exact Blk.new _ _ _)
  have B1 : RowKit.Hid (Below w.heap.size w w1) := Lib.hid (by rw [hw1]; exact (Below.refl _ _).alloc (Nat.le_refl _) _)
  have M1 := Lib.hid (H.out.up B1.out)
  have HDB : RowKit.Hid (w.heap.size ≤ db ∧ db < w1.heap.size) := Lib.hid ⟨by omega, by rw [hw1, hdb]; simp⟩
  rw [← hw1, ← hdb]
  clear hw1 hdb
  have c2 : w1.cell? ⟨rb, 2, none⟩ = some (.slice ca s.here.length cap) := hcv ▸ M1.out.blk.cell 2
  clear hcv
  go_loopw [9] (fun i wr => wr = w1 ∧ ∃ k : Nat, k ≤ s.here.length ∧ i = .int .i64 k ∧ ∀ j, j < k → s.here[j]? ≠ some v) (fun i _ => s.here.length - (intOf i).toNat)
  case atStart => exact ⟨rfl, 0, Nat.zero_le _, rfl, fun j hj => absurd hj (Nat.not_lt_zero _)⟩
  case round =>
    obtain ⟨hwr, k, hk, rfl, hno⟩ := hrel
    rw [hwr]
    clear hwr
    have HNO := Lib.hid hno
    clear hno
    by_cases hlt : k < s.here.length
    · obtain ⟨g, rfl, -, hgB, hgl, hc⟩ := HC.out.resolve_left (fun h => by omega)
      have hgc : w1.cell? ⟨g, k, none⟩ = some (i64 s.here[k]) := B1.out.cell (p := ⟨g, k, none⟩) hgl ▸ hc k _ (by simp [hlt])
      have HG := Lib.hid hc
      obtain ⟨y, hy⟩ : ∃ y, y = s.here[k] := ⟨_, rfl⟩
      rw [← hy] at hgc
      have HY : RowKit.Hid (s.here[k]? = some y) := Lib.hid (by rw [hy]; simp [hlt])
      clear hc hy
      by_cases hyx : y = v
      · subst hyx
        have HE : RowKit.Hid (s.here.erase y = s.here.take k ++ s.here.drop (k + 1)) := Lib.hid (erase_at hlt HY.out HNO.out)
        have HM : RowKit.Hid (s.deal a r y = { s with here := s.here.erase y, L := s.L ++ [⟨a, r, y, 2⟩] }) := Lib.hid ((at_ways (s := s) a r y).resolve_right fun h => h.1 (List.mem_of_getElem? HY.out)).2
        have d3 := D1.out.cell 3
        have fd := D1.out.frozen 3
        have hdl := HDB.out.2
        obtain ⟨w2, hw2⟩ : ∃ w2, w2 = w1.setCell ⟨db, 3, none⟩ (i64 2) := ⟨_, rfl⟩
        have T2 : RowKit.Hid (Tn (fun k => k = db) w1 w2) := Lib.hid (by rw [hw2]; exact (Tn.refl (fun k => k = db) w1).setCell (p := ⟨db, 3, none⟩) (.inl rfl) _)
        have M2 : RowKit.Hid (RLM w2 B rb s cv lv N) := Lib.hid (M1.out.keep T2.out fun k hk ho => by have := (H.out.own_lt ho).2; have := HDB.out.1; omega)
        have D2 : RowKit.Hid (Blk w2 db #[i64 a, i64 r, i64 y, i64 2] 168) := Lib.hid (by rw [hw2]; exact (D1.out.set 3 _).cast rfl)
        have hgl2 : g < w2.heap.size := Nat.lt_of_lt_of_le hgl (Nat.le_trans B1.out.size T2.out.size)
        have G2 : RowKit.Hid (∀ j u, (s.here.map (Value.int .i64))[j]? = some u → w2.cell? ⟨g, j, none⟩ = some u) := Lib.hid fun j u hu => T2.out.cell (Below.cellE B1.out (HG.out j u hu)) (by have := HDB.out.1; show ¬ g = db; omega)
        have DM : RowKit.Hid (db < w2.heap.size) := Lib.hid D2.out.lt
        obtain ⟨S6, hS6⟩ : ∃ S : World → Prop, S = fun W => Below w2.heap.size w2 W := ⟨_, rfl⟩
        have LD6 : RowKit.Hid (∀ W, S6 W → W.cell? ⟨rb, 2, none⟩ = some (.slice (some ⟨g, 0, none⟩) s.here.length cap)) := Lib.hid (by
          rw [hS6]; intro W hW; exact Below.cellE hW ((M2.out.blk.cell 2).trans (congrArg some HCV.out)))
        have UU6 : RowKit.Hid (∀ W, Below w2.heap.size w2 W → S6 W) := Lib.hid (by rw [hS6]; exact fun W h => h)
        have hHeld := UU6.out _ (Below.refl w2.heap.size w2).drew
        clear hS6
        go_wp2_with fail
        rw [← hw2]
        clear hw2 d3 fd hgc
        have hwk : IntKind.i64.wrap ((k : Int) + 1) = ((k + 1 : Nat) : Int) := by rw [IntKind.wrap_i64]; omega
        by_cases hce : cap = k + 1
        · subst hce
          refine wp_region_sp 19 S6 (by kernel_rfl) (by kernel_rfl) ?_
          simp only [List.take_succ_cons, List.take_zero]
          apply wpAnyH_apartVV (fun u W => W.ownsRow w2.heap.size 3 1 u (s.here.erase y).length ((s.here.erase y).map (Value.int .i64)) ∧ Below w2.heap.size w2 W)
          case take =>
            intro R hR
            refine wpAnyH_take (i := 0) (v := ?_) rfl (by kernel_rfl) (by kernel_rfl) (by kernel_rfl) (fun _ _ _ h => only_panic h) (Or.inl ⟨by rfl, ?_⟩) hHeld ?_
            rotate_left
            · (intro w hSw; have l0 := LD6.out w hSw; go_simp; try (with_reducible rfl))
            try simp only [gA, gB, gC, Act.put, gD, gE, gF]
            refine wpAnyH_take (i := 2) (v := ?_) rfl (by kernel_rfl) (by kernel_rfl) (by kernel_rfl) (fun _ _ _ h => only_panic h) (Or.inl ⟨by rfl, ?_⟩) hHeld ?_
            rotate_left
            · (intro w hSw; have l0 := LD6.out w hSw; go_simp; try (with_reducible rfl))
            try simp only [gA, gB, gC, Act.put, gD, gE, gF]
            refine wpAnyH_take (i := 3) (v := ?_) rfl (by kernel_rfl) (by kernel_rfl) (by kernel_rfl) (fun _ _ _ h => only_panic h) (Or.inl ⟨by rfl, ?_⟩) hHeld ?_
            rotate_left
            · (intro w hSw; have l0 := LD6.out w hSw; go_simp; try (with_reducible rfl))
            try simp only [gA, gB, gC, Act.put, gD, gE, gF]
            refine wpAnyH_take (i := 4) (v := ?_) rfl (by kernel_rfl) (by kernel_rfl) (by kernel_rfl) (fun _ _ _ h => only_panic h) (Or.inl ⟨by rfl, ?_⟩) hHeld ?_
            rotate_left
            · (intro w hSw; have l0 := LD6.out w hSw; go_simp; try (with_reducible rfl))
            try simp only [gA, gB, gC, Act.put, gD, gE, gF]
            refine wpAnyH_take (i := 5) (v := ?_) rfl (by kernel_rfl) (by kernel_rfl) (by kernel_rfl) (fun _ _ _ h => only_panic h) (Or.inl ⟨by rfl, ?_⟩) hHeld ?_
            rotate_left
            · (intro w hSw; have l0 := LD6.out w hSw; go_simp; try (with_reducible rfl))
            try simp only [gA, gB, gC, Act.put, gD, gE, gF]
            refine wpAnyH_take (i := 6) (v := ?_) rfl (by kernel_rfl) (by kernel_rfl) (by kernel_rfl) (fun _ _ _ h => only_panic h) (Or.inl ⟨by rfl, ?_⟩) hHeld ?_
            rotate_left
            · (intro w hSw; have l0 := LD6.out w hSw; go_simp; try (with_reducible rfl))
            try simp only [gA, gB, gC, Act.put, gD, gE, gF]
            refine wpAnyH_take (i := 7) (v := ?_) rfl (by kernel_rfl) (by kernel_rfl) (by kernel_rfl) (fun _ _ _ h => only_panic h) (Or.inl ⟨by rfl, ?_⟩) hHeld ?_
            rotate_left
            · (intro w hSw; clear hSw; go_simp; rw [if_pos (by omega)]; try (with_reducible rfl))
            try simp only [gA, gB, gC, Act.put, gD, gE, gF]
            refine wpAnyH_take (i := 9) (v := ?_) rfl (by kernel_rfl) (by kernel_rfl) (by kernel_rfl) (fun _ _ _ h => only_panic h) (Or.inl ⟨by rfl, ?_⟩) hHeld ?_
            rotate_left
            · (intro w hSw; have l0 := LD6.out w hSw; go_simp; try (with_reducible rfl))
            try simp only [gA, gB, gC, Act.put, gD, gE, gF]
            refine wpAnyH_take (i := 10) (v := ?_) rfl (by kernel_rfl) (by kernel_rfl) (by kernel_rfl) (fun _ _ _ h => only_panic h) (Or.inl ⟨by rfl, ?_⟩) hHeld ?_
            rotate_left
            · (intro w hSw; have l0 := LD6.out w hSw; go_simp; try (with_reducible rfl))
            try simp only [gA, gB, gC, Act.put, gD, gE, gF]
            refine wpAnyH_take (i := 11) (v := ?_) rfl (by kernel_rfl) (by kernel_rfl) (by kernel_rfl) (fun _ _ _ h => only_panic h) (Or.inl ⟨by rfl, ?_⟩) hHeld ?_
            rotate_left
            · (intro w hSw; have l0 := LD6.out w hSw; go_simp; try (with_reducible rfl))
            try simp only [gA, gB, gC, Act.put, gD, gE, gF]
            refine wpAnyH_take (i := 12) (v := ?_) rfl (by kernel_rfl) (by kernel_rfl) (by kernel_rfl) (fun _ _ _ h => only_panic h) (Or.inl ⟨by rfl, ?_⟩) hHeld ?_
            rotate_left
            · (intro w hSw; have l0 := LD6.out w hSw; go_simp; try (with_reducible rfl))
            try simp only [gA, gB, gC, Act.put, gD, gE, gF]
            refine wpAnyH_take (i := 13) (v := ?_) rfl (by kernel_rfl) (by kernel_rfl) (by kernel_rfl) (fun _ _ _ h => only_panic h) (Or.inl ⟨by rfl, ?_⟩) hHeld ?_
            rotate_left
            · (intro w hSw; have l0 := LD6.out w hSw; go_simp; try (with_reducible rfl))
            try simp only [gA, gB, gC, Act.put, gD, gE, gF]
            refine wpAnyH_take (i := 14) (v := ?_) rfl (by kernel_rfl) (by kernel_rfl) (by kernel_rfl) (fun _ _ _ h => only_panic h) (Or.inl ⟨by rfl, ?_⟩) hHeld ?_
            rotate_left
            · (intro w hSw; clear hSw; go_simp; try (with_reducible rfl))
            try simp only [gA, gB, gC, Act.put, gD, gE, gF]
            refine wpAnyH_take (i := 15) (v := ?_) rfl (by kernel_rfl) (by kernel_rfl) (by kernel_rfl) (fun _ _ _ h => only_panic h) (Or.inl ⟨by rfl, ?_⟩) hHeld ?_
            rotate_left
            · (intro w hSw; clear hSw; go_simp; rw [if_pos (by omega)]; try (with_reducible rfl))
            try simp only [gA, gB, gC, Act.put, gD, gE, gF]
            refine wpAnyH_one (i := 1) rfl (by kernel_rfl) (by rfl) ?_
            go_simp
            obtain ⟨W7, hW7⟩ : ∃ W7, W7 = (w2.alloc (.cells #[] 3)).drew := ⟨_, rfl⟩
            have B7 : RowKit.Hid (Below w2.heap.size w2 W7) := Lib.hid (by rw [hW7]; exact ((Below.refl _ _).alloc (Nat.le_refl _) _).drew)
            have R7 : RowKit.Hid (W7.ownsRow w2.heap.size 3 1 (.slice (some ⟨w2.heap.size, 0, none⟩) 0 0) 0 []) := Lib.hid (by rw [hW7]; exact row_fresh w2 _ #[] 3 1 0 rfl (by omega) (Nat.le_refl _))
            rw [← hW7]
            clear hW7
            refine ⟨UU6.out _ B7.out, ?_⟩
            refine wpAnyH_one (i := 8) rfl (by kernel_rfl) (by rfl) ?_
            refine wp_append_all (.tmp 34) (.tmp 40) 25 rfl w2.heap.size 3 i1 (.int .i64 0) 1 8 Tryz.underlying25 hj hj1 hj2 hj3 rfl (by omega) _ 0 [] rfl R7.out k ((s.here.map (Value.int .i64)).take (k * 1)) _ rfl (src_take HX.out hk (news_same B7.out hgl2 G2.out)) (fun u hu => ints1 _ u (List.mem_of_mem_take hu)) (by unfold maxLen; omega) (by omega) B7.out.size ?_
            intro v8 W8 hown8 hg8 hat8
            have B8 : RowKit.Hid (Below w2.heap.size w2 W8) := Lib.hid (B7.out.grown hg8 B7.out.size (fun j e => (row_lt R7.out j e).1))
            have R8 := Lib.hid hown8
            clear hown8 hg8 hat8
            refine ⟨UU6.out _ B8.out, ?_⟩
            refine wpAnyH_one (i := 16) rfl (by kernel_rfl) (by rfl) ?_
            refine wp_append_all (.tmp 41) (.tmp 48) 25 rfl w2.heap.size 3 i1 (.int .i64 0) 1 8 Tryz.underlying25 hj hj1 hj2 hj3 rfl (by omega) v8 _ _ rfl R8.out (s.here.length - (k + 1)) ((s.here.map (Value.int .i64)).drop ((k + 1) * 1)) _ rfl (src_none' HX.out (by omega) (by omega) _ _) (fun u hu => ints1 _ u (List.mem_of_mem_drop hu)) (by unfold maxLen; omega) (by omega) B8.out.size ?_
            intro v9 W9 hown9 hg9 hat9
            have B9 : RowKit.Hid (Below w2.heap.size w2 W9) := Lib.hid (B8.out.grown hg9 B8.out.size (fun j e => (row_lt R8.out j e).1))
            have R9 : RowKit.Hid (W9.ownsRow w2.heap.size 3 1 v9 (s.here.erase y).length ((s.here.erase y).map (Value.int .i64))) := Lib.hid (by
              have e1 : 0 + k + (s.here.length - (k + 1)) = (s.here.erase y).length := by rw [HE.out, List.length_append, List.length_take, List.length_drop]; omega
              have e2 : [] ++ (s.here.map (Value.int .i64)).take (k * 1) ++ (s.here.map (Value.int .i64)).drop ((k + 1) * 1) = (s.here.erase y).map (Value.int .i64) := by
                rw [HE.out, Nat.mul_one, Nat.mul_one, List.map_append, List.map_take, List.map_drop]; rfl
              rw [← e1, ← e2]; exact hown9)
            have hHeld := UU6.out _ B9.out
            clear hown9 hg9 hat9
            refine ⟨hHeld, ?_⟩
            refine wpAnyH_take (i := 17) (v := ?_) rfl (by kernel_rfl) (by kernel_rfl) (by kernel_rfl) (fun _ _ _ h => only_panic h) (Or.inl ⟨by rfl, ?_⟩) hHeld ?_
            rotate_left
            · (intro w hSw; clear hSw; go_simp; try (with_reducible rfl))
            try simp only [gA, gB, gC, Act.put, gD, gE, gF]
            refine wpAnyH_take (i := 18) (v := ?_) rfl (by kernel_rfl) (by kernel_rfl) (by kernel_rfl) (fun _ _ _ h => only_panic h) (Or.inl ⟨by rfl, ?_⟩) hHeld ?_
            rotate_left
            · (intro w hSw; clear hSw; go_simp; try (with_reducible rfl))
            try simp only [gA, gB, gC, Act.put, gD, gE, gF]
            exact wpAnyH_done (by kernel_rfl) ⟨rfl, hR v8 v9 _ ⟨R9.out, B9.out⟩⟩ _
          case rest =>
            rintro x8 u W ⟨hu, hb⟩
            have hel : (s.here.erase y).length ≤ 1000 + N := Nat.le_trans (List.length_erase_le ..) M2.out.len.2.1
            obtain ⟨M5, T5⟩ := M2.out.copies hb hu hel
            have M5 := Lib.hid M5
            have bW := M2.out.blk.below hb M2.out.blk.lt
            have f2 := bW.frozen 2
            have hbW := bW.lt
            have cW : W.cell? ⟨rb, 2, none⟩ = some cv := bW.cell 2
            have R5 : RowKit.Hid (∀ k, u.ownBlock = some k → w.heap.size ≤ k) := Lib.hid fun k hk => Nat.le_trans (Nat.le_trans B1.out.size T2.out.size) (row_lt hu k hk).1
            obtain ⟨ua, uc, rfl, -⟩ := row_cellz hu
            obtain ⟨w5, hw5⟩ : ∃ w5, w5 = W.setCell ⟨rb, 2, none⟩ (.slice ua (s.here.erase y).length uc) := ⟨_, rfl⟩
            have D5 : RowKit.Hid (Blk w5 db #[i64 a, i64 r, i64 y, i64 2] 168) := Lib.hid (by rw [hw5]; exact (D2.out.below hb DM.out).set_ne _ _ (by have := (H.out.own_lt (.inl rfl : OwnR rb cv lv rb)).2; have := HDB.out.1; show db ≠ rb; omega))
            have T5 : RowKit.Hid (Tn (OwnR rb cv lv) w w5) := Lib.hid (by
              rw [hw5]
              refine ((Tn.of_below B1.out).then_ T2.out fun k hk => .inr ?_).then_ T5 fun k hk => .inl (.inl hk)
              have := HDB.out.1
              omega)
            rw [← hw5] at M5
            have HM := HM
            have HD := HM
            have O5 : RowKit.Hid (∀ k, OwnR rb (.slice ua (s.here.erase y).length uc) lv k → OwnR rb cv lv k ∨ w.heap.size ≤ k) := Lib.hid fun k hk => by
              rcases hk with hk | hk | hk
              · exact .inl (.inl hk)
              · exact .inr (R5.out k hk)
              · exact .inl (.inr (.inr hk))
            have DNE : RowKit.Hid (lv.ownBlock ≠ some db) := Lib.hid fun e => by have := (row_lt H.out.deals db e).2; have := HDB.out.1; omega
            clear hu hb bW hel
            simp only [endN, List.drop_succ_cons, List.drop_zero, Act.put, List.setIfInBounds_toArray, List.set_cons_zero, List.set_cons_succ]
            go_wp2_with fail
            rw [← hw5]
            clear hw5 cW f2 hbW
            obtain ⟨S7, hS7⟩ : ∃ S : World → Prop, S = fun W => Tn (fun k => lv.ownBlock = some k) w5 W := ⟨_, rfl⟩
            have LD7 : RowKit.Hid (∀ W, S7 W → W.cell? ⟨rb, 3, none⟩ = some (.slice la s.L.length lcap)) := Lib.hid (by
              rw [hS7]; intro W hW; exact (hW.cell ((M5.out.blk.cell 3).trans (congrArg some HLV.out)) M5.out.ne2))
            have LB7 : RowKit.Hid (∀ W, S7 W → Blk W db #[i64 a, i64 r, i64 y, i64 2] 168) := Lib.hid (by
              rw [hS7]; intro W hW; exact hW.blk D5.out DNE.out)
            have SS7 : RowKit.Hid (∀ W, S7 W → Tn (fun k => lv.ownBlock = some k) w5 W) := Lib.hid (by rw [hS7]; exact fun W h => h)
            have UU7 : RowKit.Hid (∀ W, Tn (fun k => lv.ownBlock = some k) w5 W → S7 W) := Lib.hid (by rw [hS7]; exact fun W h => h)
            have hHeld := UU7.out _ (Tn.refl _ w5).drew
            clear hS7
            refine wp_region_sp 10 S7 (by kernel_rfl) (by kernel_rfl) ?_
            simp only [List.take_succ_cons, List.take_zero]
            apply wpAnyH_apartV (fun u W => W.ownsRow B 168 4 u (s.L.length + 1) (dcells s.L ++ dcell ⟨a, r, y, 2⟩) ∧ Tn (fun k => lv.ownBlock = some k) w5 W ∧ (u.ownBlock = lv.ownBlock ∨ ∀ k, u.ownBlock = some k → w5.heap.size ≤ k))
            case take =>
              intro R hR
              refine wpAnyH_take (i := 0) (v := ?_) rfl (by kernel_rfl) (by kernel_rfl) (by kernel_rfl) (fun _ _ _ h => only_panic h) (Or.inl ⟨by rfl, ?_⟩) hHeld ?_
              rotate_left
              · (intro w hSw; have l0 := LD7.out w hSw; go_simp; try (with_reducible rfl))
              try simp only [gA, gB, gC, Act.put, gD, gE, gF]
              refine wpAnyH_take (i := 1) (v := ?_) rfl (by kernel_rfl) (by kernel_rfl) (by kernel_rfl) (fun _ _ _ h => only_panic h) (Or.inl ⟨by rfl, ?_⟩) hHeld ?_
              rotate_left
              · (intro w hSw; have l0 := LD7.out w hSw; go_simp; try (with_reducible rfl))
              try simp only [gA, gB, gC, Act.put, gD, gE, gF]
              refine wpAnyH_take (i := 2) (v := ?_) rfl (by kernel_rfl) (by kernel_rfl) (by kernel_rfl) (fun _ _ _ h => only_panic h) (Or.inl ⟨by rfl, ?_⟩) hHeld ?_
              rotate_left
              · (intro w hSw; have l0 := LD7.out w hSw; go_simp; try (with_reducible rfl))
              try simp only [gA, gB, gC, Act.put, gD, gE, gF]
              refine wpAnyH_take (i := 3) (v := ?_) rfl (by kernel_rfl) (by kernel_rfl) (by kernel_rfl) (fun _ _ _ h => only_panic h) (Or.inl ⟨by rfl, ?_⟩) hHeld ?_
              rotate_left
              · (intro w hSw; have l0 := LD7.out w hSw; go_simp; try (with_reducible rfl))
              try simp only [gA, gB, gC, Act.put, gD, gE, gF]
              refine wpAnyH_take (i := 4) (v := ?_) rfl (by kernel_rfl) (by kernel_rfl) (by kernel_rfl) (fun _ _ _ h => only_panic h) (Or.inl ⟨by rfl, ?_⟩) hHeld ?_
              rotate_left
              · (intro w hSw; have l0 := LD7.out w hSw; go_simp; try (with_reducible rfl))
              try simp only [gA, gB, gC, Act.put, gD, gE, gF]
              refine wpAnyH_take (i := 5) (v := .agg #[i64 a, i64 r, i64 y, i64 2]) rfl (by kernel_rfl) (by kernel_rfl) (by kernel_rfl) (fun _ _ _ h => only_panic h) ?_ hHeld ?_
              · exact yields_row (.tmp 8) (by rfl) rfl rfl LB7.out Tryz.underlying168 rfl (by kernel_rfl)
              try simp only [gA, gB, gC, Act.put, gD, gE, gF]
              refine wpAnyH_one (i := 6) rfl (by kernel_rfl) (by rfl) ?_
              go_simp
              obtain ⟨W2, hW2⟩ : ∃ W2, W2 = (w5.alloc (.cells #[i64 a, i64 r, i64 y, i64 2] 168)).drew := ⟨_, rfl⟩
              have B2 : RowKit.Hid (Below w5.heap.size w5 W2) := Lib.hid (by rw [hW2]; exact ((Below.refl _ _).alloc (Nat.le_refl _) _).drew)
              have N2 : RowKit.Hid (Blk W2 w5.heap.size #[i64 a, i64 r, i64 y, i64 2] 168) := Lib.hid (by rw [hW2]; exact (Blk.new w5 _ _).drew)
              have R2 : RowKit.Hid (W2.ownsRow B 168 4 (.slice la s.L.length lcap) s.L.length (dcells s.L)) := Lib.hid (by rw [← HLV.out]; exact (Tn.of_below (F := fun _ => False) B2.out).row M5.out.deals fun _ _ => id)
              rw [← hW2]
              clear hW2
              refine ⟨UU7.out _ (Tn.of_below B2.out), ?_⟩
              refine wpAnyH_one (i := 7) rfl (by kernel_rfl) (by rfl) ?_
              refine wp_append_all (.tmp 56) (.tmp 58) 163 rfl B 168 i0 _ 4 32 Tryz.underlying163 hi hz1 hz2 hz3 rfl (by omega) (.slice la s.L.length lcap) s.L.length (dcells s.L) rfl R2.out 1 (dcell ⟨a, r, y, 2⟩) (.slice (some ⟨w5.heap.size, 0, none⟩) 1 1) rfl (.inr ⟨_, _, rfl, rfl, blk_news N2.out⟩) (fun u hu => dcells_one [⟨a, r, y, 2⟩] u (by simpa [dcells] using hu)) (by unfold maxLen; omega) (by omega) (Nat.le_trans HB.out (Nat.le_trans T5.out.size B2.out.size)) ?_
              intro u W3 hu hg hat
              have T3 : RowKit.Hid (Tn (fun k => lv.ownBlock = some k) w5 W3) := Lib.hid ((Tn.of_below B2.out).trans ((Tn.of_grown hg).mono fun k hk => by rw [HLV.out]; exact hk))
              have A3 : RowKit.Hid (u.ownBlock = lv.ownBlock ∨ ∀ k, u.ownBlock = some k → w5.heap.size ≤ k) := Lib.hid (by
                rcases hat with h1 | h1
                · exact .inl (by rw [h1, HLV.out])
                · exact .inr fun k hk => by rw [h1] at hk; injection hk with hk; rw [← hk]; exact B2.out.size)
              have U3 := Lib.hid hu
              have hHeld := UU7.out _ T3.out
              clear hu hg hat
              refine ⟨hHeld, ?_⟩
              refine wpAnyH_take (i := 8) (v := ?_) rfl (by kernel_rfl) (by kernel_rfl) (by kernel_rfl) (fun _ _ _ h => only_panic h) (Or.inl ⟨by rfl, ?_⟩) hHeld ?_
              rotate_left
              · (intro w hSw; clear hSw; go_simp; try (with_reducible rfl))
              try simp only [gA, gB, gC, Act.put, gD, gE, gF]
              refine wpAnyH_take (i := 9) (v := ?_) rfl (by kernel_rfl) (by kernel_rfl) (by kernel_rfl) (fun _ _ _ h => only_panic h) (Or.inl ⟨by rfl, ?_⟩) hHeld ?_
              rotate_left
              · (intro w hSw; clear hSw; go_simp; try (with_reducible rfl))
              try simp only [gA, gB, gC, Act.put, gD, gE, gF]
              exact wpAnyH_done (by kernel_rfl) ⟨rfl, hR _ _ ⟨U3.out, T3.out, A3.out⟩⟩ _
            case rest =>
              rintro u W ⟨hu, ht, hat⟩
              obtain ⟨M6, T6⟩ := M5.out.more (d := ⟨a, r, y, 2⟩) ht hu hat (by omega) ⟨HI.out.1, HI.out.2.1, HI.out.2.2, by dsimp only; omega, by dsimp only; omega⟩ HN0.out
              have b6 := ht.blk M5.out.blk M5.out.ne2
              obtain ⟨ua, uc, rfl, -⟩ := row_cellz hu
              have f6 := b6.frozen 3
              have hb6 := b6.lt
              have c6 : W.cell? ⟨rb, 3, none⟩ = some lv := b6.cell 3
              have F : RowKit.Hid (RDealE B rb N s cv lv a r y w (.returned (.tuple #[])) (W.setCell ⟨rb, 3, none⟩ (.slice ua (s.L.length + 1) uc))) := Lib.hid ⟨rfl, _, _, by rw [HD.out]; exact M6, T5.out.then_ T6 O5.out, fun k hk => by
                rcases hk with hk | hk | hk
                · exact .inl (.inl hk)
                · exact O5.out k (.inr (.inl hk))
                · rcases hat with h1 | h1
                  · exact .inl (.inr (.inr (by rw [← h1]; exact hk)))
                  · exact .inr (Nat.le_trans T5.out.size (h1 k hk))⟩
              clear M6 T6 b6 hu ht hat
              simp only [endN, List.drop_succ_cons, List.drop_zero, Act.put, List.setIfInBounds_toArray, List.set_cons_zero, List.set_cons_succ]
              go_wp2_with fail
              refine bodyPost_ret (results_none rfl _ _ _) rfl ?_
              exact F.out
        · skip
          refine wp_region_sp 19 S6 (by kernel_rfl) (by kernel_rfl) ?_
          simp only [List.take_succ_cons, List.take_zero]
          apply wpAnyH_apartVV (fun u W => W.ownsRow w2.heap.size 3 1 u (s.here.erase y).length ((s.here.erase y).map (Value.int .i64)) ∧ Below w2.heap.size w2 W)
          case take =>
            intro R hR
            refine wpAnyH_take (i := 0) (v := ?_) rfl (by kernel_rfl) (by kernel_rfl) (by kernel_rfl) (fun _ _ _ h => only_panic h) (Or.inl ⟨by rfl, ?_⟩) hHeld ?_
            rotate_left
            · (intro w hSw; have l0 := LD6.out w hSw; go_simp; try (with_reducible rfl))
            try simp only [gA, gB, gC, Act.put, gD, gE, gF]
            refine wpAnyH_take (i := 2) (v := ?_) rfl (by kernel_rfl) (by kernel_rfl) (by kernel_rfl) (fun _ _ _ h => only_panic h) (Or.inl ⟨by rfl, ?_⟩) hHeld ?_
            rotate_left
            · (intro w hSw; have l0 := LD6.out w hSw; go_simp; try (with_reducible rfl))
            try simp only [gA, gB, gC, Act.put, gD, gE, gF]
            refine wpAnyH_take (i := 3) (v := ?_) rfl (by kernel_rfl) (by kernel_rfl) (by kernel_rfl) (fun _ _ _ h => only_panic h) (Or.inl ⟨by rfl, ?_⟩) hHeld ?_
            rotate_left
            · (intro w hSw; have l0 := LD6.out w hSw; go_simp; try (with_reducible rfl))
            try simp only [gA, gB, gC, Act.put, gD, gE, gF]
            refine wpAnyH_take (i := 4) (v := ?_) rfl (by kernel_rfl) (by kernel_rfl) (by kernel_rfl) (fun _ _ _ h => only_panic h) (Or.inl ⟨by rfl, ?_⟩) hHeld ?_
            rotate_left
            · (intro w hSw; have l0 := LD6.out w hSw; go_simp; try (with_reducible rfl))
            try simp only [gA, gB, gC, Act.put, gD, gE, gF]
            refine wpAnyH_take (i := 5) (v := ?_) rfl (by kernel_rfl) (by kernel_rfl) (by kernel_rfl) (fun _ _ _ h => only_panic h) (Or.inl ⟨by rfl, ?_⟩) hHeld ?_
            rotate_left
            · (intro w hSw; have l0 := LD6.out w hSw; go_simp; try (with_reducible rfl))
            try simp only [gA, gB, gC, Act.put, gD, gE, gF]
            refine wpAnyH_take (i := 6) (v := ?_) rfl (by kernel_rfl) (by kernel_rfl) (by kernel_rfl) (fun _ _ _ h => only_panic h) (Or.inl ⟨by rfl, ?_⟩) hHeld ?_
            rotate_left
            · (intro w hSw; have l0 := LD6.out w hSw; go_simp; try (with_reducible rfl))
            try simp only [gA, gB, gC, Act.put, gD, gE, gF]
            refine wpAnyH_take (i := 7) (v := ?_) rfl (by kernel_rfl) (by kernel_rfl) (by kernel_rfl) (fun _ _ _ h => only_panic h) (Or.inl ⟨by rfl, ?_⟩) hHeld ?_
            rotate_left
            · (intro w hSw; clear hSw; go_simp; rw [if_pos (by omega)]; try (with_reducible rfl))
            try simp only [gA, gB, gC, Act.put, gD, gE, gF]
            refine wpAnyH_take (i := 9) (v := ?_) rfl (by kernel_rfl) (by kernel_rfl) (by kernel_rfl) (fun _ _ _ h => only_panic h) (Or.inl ⟨by rfl, ?_⟩) hHeld ?_
            rotate_left
            · (intro w hSw; have l0 := LD6.out w hSw; go_simp; try (with_reducible rfl))
            try simp only [gA, gB, gC, Act.put, gD, gE, gF]
            refine wpAnyH_take (i := 10) (v := ?_) rfl (by kernel_rfl) (by kernel_rfl) (by kernel_rfl) (fun _ _ _ h => only_panic h) (Or.inl ⟨by rfl, ?_⟩) hHeld ?_
            rotate_left
            · (intro w hSw; have l0 := LD6.out w hSw; go_simp; try (with_reducible rfl))
            try simp only [gA, gB, gC, Act.put, gD, gE, gF]
            refine wpAnyH_take (i := 11) (v := ?_) rfl (by kernel_rfl) (by kernel_rfl) (by kernel_rfl) (fun _ _ _ h => only_panic h) (Or.inl ⟨by rfl, ?_⟩) hHeld ?_
            rotate_left
            · (intro w hSw; have l0 := LD6.out w hSw; go_simp; try (with_reducible rfl))
            try simp only [gA, gB, gC, Act.put, gD, gE, gF]
            refine wpAnyH_take (i := 12) (v := ?_) rfl (by kernel_rfl) (by kernel_rfl) (by kernel_rfl) (fun _ _ _ h => only_panic h) (Or.inl ⟨by rfl, ?_⟩) hHeld ?_
            rotate_left
            · (intro w hSw; have l0 := LD6.out w hSw; go_simp; try (with_reducible rfl))
            try simp only [gA, gB, gC, Act.put, gD, gE, gF]
            refine wpAnyH_take (i := 13) (v := ?_) rfl (by kernel_rfl) (by kernel_rfl) (by kernel_rfl) (fun _ _ _ h => only_panic h) (Or.inl ⟨by rfl, ?_⟩) hHeld ?_
            rotate_left
            · (intro w hSw; have l0 := LD6.out w hSw; go_simp; try (with_reducible rfl))
            try simp only [gA, gB, gC, Act.put, gD, gE, gF]
            refine wpAnyH_take (i := 14) (v := ?_) rfl (by kernel_rfl) (by kernel_rfl) (by kernel_rfl) (fun _ _ _ h => only_panic h) (Or.inl ⟨by rfl, ?_⟩) hHeld ?_
            rotate_left
            · (intro w hSw; clear hSw; go_simp; try (with_reducible rfl))
            try simp only [gA, gB, gC, Act.put, gD, gE, gF]
            refine wpAnyH_take (i := 15) (v := ?_) rfl (by kernel_rfl) (by kernel_rfl) (by kernel_rfl) (fun _ _ _ h => only_panic h) (Or.inl ⟨by rfl, ?_⟩) hHeld ?_
            rotate_left
            · (intro w hSw; clear hSw; go_simp; rw [if_pos (by omega)]; try (with_reducible rfl))
            try simp only [gA, gB, gC, Act.put, gD, gE, gF]
            refine wpAnyH_one (i := 1) rfl (by kernel_rfl) (by rfl) ?_
            go_simp
            obtain ⟨W7, hW7⟩ : ∃ W7, W7 = (w2.alloc (.cells #[] 3)).drew := ⟨_, rfl⟩
            have B7 : RowKit.Hid (Below w2.heap.size w2 W7) := Lib.hid (by rw [hW7]; exact ((Below.refl _ _).alloc (Nat.le_refl _) _).drew)
            have R7 : RowKit.Hid (W7.ownsRow w2.heap.size 3 1 (.slice (some ⟨w2.heap.size, 0, none⟩) 0 0) 0 []) := Lib.hid (by rw [hW7]; exact row_fresh w2 _ #[] 3 1 0 rfl (by omega) (Nat.le_refl _))
            rw [← hW7]
            clear hW7
            refine ⟨UU6.out _ B7.out, ?_⟩
            refine wpAnyH_one (i := 8) rfl (by kernel_rfl) (by rfl) ?_
            refine wp_append_all (.tmp 34) (.tmp 40) 25 rfl w2.heap.size 3 i1 (.int .i64 0) 1 8 Tryz.underlying25 hj hj1 hj2 hj3 rfl (by omega) _ 0 [] rfl R7.out k ((s.here.map (Value.int .i64)).take (k * 1)) _ rfl (src_take HX.out hk (news_same B7.out hgl2 G2.out)) (fun u hu => ints1 _ u (List.mem_of_mem_take hu)) (by unfold maxLen; omega) (by omega) B7.out.size ?_
            intro v8 W8 hown8 hg8 hat8
            have B8 : RowKit.Hid (Below w2.heap.size w2 W8) := Lib.hid (B7.out.grown hg8 B7.out.size (fun j e => (row_lt R7.out j e).1))
            have R8 := Lib.hid hown8
            clear hown8 hg8 hat8
            refine ⟨UU6.out _ B8.out, ?_⟩
            refine wpAnyH_one (i := 16) rfl (by kernel_rfl) (by rfl) ?_
            refine wp_append_all (.tmp 41) (.tmp 48) 25 rfl w2.heap.size 3 i1 (.int .i64 0) 1 8 Tryz.underlying25 hj hj1 hj2 hj3 rfl (by omega) v8 _ _ rfl R8.out (s.here.length - (k + 1)) ((s.here.map (Value.int .i64)).drop ((k + 1) * 1)) _ rfl (src_drop' (by omega) HX.out (by omega) (news_same B8.out hgl2 G2.out) rfl) (fun u hu => ints1 _ u (List.mem_of_mem_drop hu)) (by unfold maxLen; omega) (by omega) B8.out.size ?_
            intro v9 W9 hown9 hg9 hat9
            have B9 : RowKit.Hid (Below w2.heap.size w2 W9) := Lib.hid (B8.out.grown hg9 B8.out.size (fun j e => (row_lt R8.out j e).1))
            have R9 : RowKit.Hid (W9.ownsRow w2.heap.size 3 1 v9 (s.here.erase y).length ((s.here.erase y).map (Value.int .i64))) := Lib.hid (by
              have e1 : 0 + k + (s.here.length - (k + 1)) = (s.here.erase y).length := by rw [HE.out, List.length_append, List.length_take, List.length_drop]; omega
              have e2 : [] ++ (s.here.map (Value.int .i64)).take (k * 1) ++ (s.here.map (Value.int .i64)).drop ((k + 1) * 1) = (s.here.erase y).map (Value.int .i64) := by
                rw [HE.out, Nat.mul_one, Nat.mul_one, List.map_append, List.map_take, List.map_drop]; rfl
              rw [← e1, ← e2]; exact hown9)
            have hHeld := UU6.out _ B9.out
            clear hown9 hg9 hat9
            refine ⟨hHeld, ?_⟩
            refine wpAnyH_take (i := 17) (v := ?_) rfl (by kernel_rfl) (by kernel_rfl) (by kernel_rfl) (fun _ _ _ h => only_panic h) (Or.inl ⟨by rfl, ?_⟩) hHeld ?_
            rotate_left
            · (intro w hSw; clear hSw; go_simp; try (with_reducible rfl))
            try simp only [gA, gB, gC, Act.put, gD, gE, gF]
            refine wpAnyH_take (i := 18) (v := ?_) rfl (by kernel_rfl) (by kernel_rfl) (by kernel_rfl) (fun _ _ _ h => only_panic h) (Or.inl ⟨by rfl, ?_⟩) hHeld ?_
            rotate_left
            · (intro w hSw; clear hSw; go_simp; try (with_reducible rfl))
            try simp only [gA, gB, gC, Act.put, gD, gE, gF]
            exact wpAnyH_done (by kernel_rfl) ⟨rfl, hR v8 v9 _ ⟨R9.out, B9.out⟩⟩ _
          case rest =>
            rintro x8 u W ⟨hu, hb⟩
            have hel : (s.here.erase y).length ≤ 1000 + N := Nat.le_trans (List.length_erase_le ..) M2.out.len.2.1
            obtain ⟨M5, T5⟩ := M2.out.copies hb hu hel
            have M5 := Lib.hid M5
            have bW := M2.out.blk.below hb M2.out.blk.lt
            have f2 := bW.frozen 2
            have hbW := bW.lt
            have cW : W.cell? ⟨rb, 2, none⟩ = some cv := bW.cell 2
            have R5 : RowKit.Hid (∀ k, u.ownBlock = some k → w.heap.size ≤ k) := Lib.hid fun k hk => Nat.le_trans (Nat.le_trans B1.out.size T2.out.size) (row_lt hu k hk).1
            obtain ⟨ua, uc, rfl, -⟩ := row_cellz hu
            obtain ⟨w5, hw5⟩ : ∃ w5, w5 = W.setCell ⟨rb, 2, none⟩ (.slice ua (s.here.erase y).length uc) := ⟨_, rfl⟩
            have D5 : RowKit.Hid (Blk w5 db #[i64 a, i64 r, i64 y, i64 2] 168) := Lib.hid (by rw [hw5]; exact (D2.out.below hb DM.out).set_ne _ _ (by have := (H.out.own_lt (.inl rfl : OwnR rb cv lv rb)).2; have := HDB.out.1; show db ≠ rb; omega))
            have T5 : RowKit.Hid (Tn (OwnR rb cv lv) w w5) := Lib.hid (by
              rw [hw5]
              refine ((Tn.of_below B1.out).then_ T2.out fun k hk => .inr ?_).then_ T5 fun k hk => .inl (.inl hk)
              have := HDB.out.1
              omega)
            rw [← hw5] at M5
            have HM := HM
            have HD := HM
            have O5 : RowKit.Hid (∀ k, OwnR rb (.slice ua (s.here.erase y).length uc) lv k → OwnR rb cv lv k ∨ w.heap.size ≤ k) := Lib.hid fun k hk => by
              rcases hk with hk | hk | hk
              · exact .inl (.inl hk)
              · exact .inr (R5.out k hk)
              · exact .inl (.inr (.inr hk))
            have DNE : RowKit.Hid (lv.ownBlock ≠ some db) := Lib.hid fun e => by have := (row_lt H.out.deals db e).2; have := HDB.out.1; omega
            clear hu hb bW hel
            simp only [endN, List.drop_succ_cons, List.drop_zero, Act.put, List.setIfInBounds_toArray, List.set_cons_zero, List.set_cons_succ]
            go_wp2_with fail
            rw [← hw5]
            clear hw5 cW f2 hbW
            obtain ⟨S7, hS7⟩ : ∃ S : World → Prop, S = fun W => Tn (fun k => lv.ownBlock = some k) w5 W := ⟨_, rfl⟩
            have LD7 : RowKit.Hid (∀ W, S7 W → W.cell? ⟨rb, 3, none⟩ = some (.slice la s.L.length lcap)) := Lib.hid (by
              rw [hS7]; intro W hW; exact (hW.cell ((M5.out.blk.cell 3).trans (congrArg some HLV.out)) M5.out.ne2))
            have LB7 : RowKit.Hid (∀ W, S7 W → Blk W db #[i64 a, i64 r, i64 y, i64 2] 168) := Lib.hid (by
              rw [hS7]; intro W hW; exact hW.blk D5.out DNE.out)
            have SS7 : RowKit.Hid (∀ W, S7 W → Tn (fun k => lv.ownBlock = some k) w5 W) := Lib.hid (by rw [hS7]; exact fun W h => h)
            have UU7 : RowKit.Hid (∀ W, Tn (fun k => lv.ownBlock = some k) w5 W → S7 W) := Lib.hid (by rw [hS7]; exact fun W h => h)
            have hHeld := UU7.out _ (Tn.refl _ w5).drew
            clear hS7
            refine wp_region_sp 10 S7 (by kernel_rfl) (by kernel_rfl) ?_
            simp only [List.take_succ_cons, List.take_zero]
            apply wpAnyH_apartV (fun u W => W.ownsRow B 168 4 u (s.L.length + 1) (dcells s.L ++ dcell ⟨a, r, y, 2⟩) ∧ Tn (fun k => lv.ownBlock = some k) w5 W ∧ (u.ownBlock = lv.ownBlock ∨ ∀ k, u.ownBlock = some k → w5.heap.size ≤ k))
            case take =>
              intro R hR
              refine wpAnyH_take (i := 0) (v := ?_) rfl (by kernel_rfl) (by kernel_rfl) (by kernel_rfl) (fun _ _ _ h => only_panic h) (Or.inl ⟨by rfl, ?_⟩) hHeld ?_
              rotate_left
              · (intro w hSw; have l0 := LD7.out w hSw; go_simp; try (with_reducible rfl))
              try simp only [gA, gB, gC, Act.put, gD, gE, gF]
              refine wpAnyH_take (i := 1) (v := ?_) rfl (by kernel_rfl) (by kernel_rfl) (by kernel_rfl) (fun _ _ _ h => only_panic h) (Or.inl ⟨by rfl, ?_⟩) hHeld ?_
              rotate_left
              · (intro w hSw; have l0 := LD7.out w hSw; go_simp; try (with_reducible rfl))
              try simp only [gA, gB, gC, Act.put, gD, gE, gF]
              refine wpAnyH_take (i := 2) (v := ?_) rfl (by kernel_rfl) (by kernel_rfl) (by kernel_rfl) (fun _ _ _ h => only_panic h) (Or.inl ⟨by rfl, ?_⟩) hHeld ?_
              rotate_left
              · (intro w hSw; have l0 := LD7.out w hSw; go_simp; try (with_reducible rfl))
              try simp only [gA, gB, gC, Act.put, gD, gE, gF]
              refine wpAnyH_take (i := 3) (v := ?_) rfl (by kernel_rfl) (by kernel_rfl) (by kernel_rfl) (fun _ _ _ h => only_panic h) (Or.inl ⟨by rfl, ?_⟩) hHeld ?_
              rotate_left
              · (intro w hSw; have l0 := LD7.out w hSw; go_simp; try (with_reducible rfl))
              try simp only [gA, gB, gC, Act.put, gD, gE, gF]
              refine wpAnyH_take (i := 4) (v := ?_) rfl (by kernel_rfl) (by kernel_rfl) (by kernel_rfl) (fun _ _ _ h => only_panic h) (Or.inl ⟨by rfl, ?_⟩) hHeld ?_
              rotate_left
              · (intro w hSw; have l0 := LD7.out w hSw; go_simp; try (with_reducible rfl))
              try simp only [gA, gB, gC, Act.put, gD, gE, gF]
              refine wpAnyH_take (i := 5) (v := .agg #[i64 a, i64 r, i64 y, i64 2]) rfl (by kernel_rfl) (by kernel_rfl) (by kernel_rfl) (fun _ _ _ h => only_panic h) ?_ hHeld ?_
              · exact yields_row (.tmp 8) (by rfl) rfl rfl LB7.out Tryz.underlying168 rfl (by kernel_rfl)
              try simp only [gA, gB, gC, Act.put, gD, gE, gF]
              refine wpAnyH_one (i := 6) rfl (by kernel_rfl) (by rfl) ?_
              go_simp
              obtain ⟨W2, hW2⟩ : ∃ W2, W2 = (w5.alloc (.cells #[i64 a, i64 r, i64 y, i64 2] 168)).drew := ⟨_, rfl⟩
              have B2 : RowKit.Hid (Below w5.heap.size w5 W2) := Lib.hid (by rw [hW2]; exact ((Below.refl _ _).alloc (Nat.le_refl _) _).drew)
              have N2 : RowKit.Hid (Blk W2 w5.heap.size #[i64 a, i64 r, i64 y, i64 2] 168) := Lib.hid (by rw [hW2]; exact (Blk.new w5 _ _).drew)
              have R2 : RowKit.Hid (W2.ownsRow B 168 4 (.slice la s.L.length lcap) s.L.length (dcells s.L)) := Lib.hid (by rw [← HLV.out]; exact (Tn.of_below (F := fun _ => False) B2.out).row M5.out.deals fun _ _ => id)
              rw [← hW2]
              clear hW2
              refine ⟨UU7.out _ (Tn.of_below B2.out), ?_⟩
              refine wpAnyH_one (i := 7) rfl (by kernel_rfl) (by rfl) ?_
              refine wp_append_all (.tmp 56) (.tmp 58) 163 rfl B 168 i0 _ 4 32 Tryz.underlying163 hi hz1 hz2 hz3 rfl (by omega) (.slice la s.L.length lcap) s.L.length (dcells s.L) rfl R2.out 1 (dcell ⟨a, r, y, 2⟩) (.slice (some ⟨w5.heap.size, 0, none⟩) 1 1) rfl (.inr ⟨_, _, rfl, rfl, blk_news N2.out⟩) (fun u hu => dcells_one [⟨a, r, y, 2⟩] u (by simpa [dcells] using hu)) (by unfold maxLen; omega) (by omega) (Nat.le_trans HB.out (Nat.le_trans T5.out.size B2.out.size)) ?_
              intro u W3 hu hg hat
              have T3 : RowKit.Hid (Tn (fun k => lv.ownBlock = some k) w5 W3) := Lib.hid ((Tn.of_below B2.out).trans ((Tn.of_grown hg).mono fun k hk => by rw [HLV.out]; exact hk))
              have A3 : RowKit.Hid (u.ownBlock = lv.ownBlock ∨ ∀ k, u.ownBlock = some k → w5.heap.size ≤ k) := Lib.hid (by
                rcases hat with h1 | h1
                · exact .inl (by rw [h1, HLV.out])
                · exact .inr fun k hk => by rw [h1] at hk; injection hk with hk; rw [← hk]; exact B2.out.size)
              have U3 := Lib.hid hu
              have hHeld := UU7.out _ T3.out
              clear hu hg hat
              refine ⟨hHeld, ?_⟩
              refine wpAnyH_take (i := 8) (v := ?_) rfl (by kernel_rfl) (by kernel_rfl) (by kernel_rfl) (fun _ _ _ h => only_panic h) (Or.inl ⟨by rfl, ?_⟩) hHeld ?_
              rotate_left
              · (intro w hSw; clear hSw; go_simp; try (with_reducible rfl))
              try simp only [gA, gB, gC, Act.put, gD, gE, gF]
              refine wpAnyH_take (i := 9) (v := ?_) rfl (by kernel_rfl) (by kernel_rfl) (by kernel_rfl) (fun _ _ _ h => only_panic h) (Or.inl ⟨by rfl, ?_⟩) hHeld ?_
              rotate_left
              · (intro w hSw; clear hSw; go_simp; try (with_reducible rfl))
              try simp only [gA, gB, gC, Act.put, gD, gE, gF]
              exact wpAnyH_done (by kernel_rfl) ⟨rfl, hR _ _ ⟨U3.out, T3.out, A3.out⟩⟩ _
            case rest =>
              rintro u W ⟨hu, ht, hat⟩
              obtain ⟨M6, T6⟩ := M5.out.more (d := ⟨a, r, y, 2⟩) ht hu hat (by omega) ⟨HI.out.1, HI.out.2.1, HI.out.2.2, by dsimp only; omega, by dsimp only; omega⟩ HN0.out
              have b6 := ht.blk M5.out.blk M5.out.ne2
              obtain ⟨ua, uc, rfl, -⟩ := row_cellz hu
              have f6 := b6.frozen 3
              have hb6 := b6.lt
              have c6 : W.cell? ⟨rb, 3, none⟩ = some lv := b6.cell 3
              have F : RowKit.Hid (RDealE B rb N s cv lv a r y w (.returned (.tuple #[])) (W.setCell ⟨rb, 3, none⟩ (.slice ua (s.L.length + 1) uc))) := Lib.hid ⟨rfl, _, _, by rw [HD.out]; exact M6, T5.out.then_ T6 O5.out, fun k hk => by
                rcases hk with hk | hk | hk
                · exact .inl (.inl hk)
                · exact O5.out k (.inr (.inl hk))
                · rcases hat with h1 | h1
                  · exact .inl (.inr (.inr (by rw [← h1]; exact hk)))
                  · exact .inr (Nat.le_trans T5.out.size (h1 k hk))⟩
              clear M6 T6 b6 hu ht hat
              simp only [endN, List.drop_succ_cons, List.drop_zero, Act.put, List.setIfInBounds_toArray, List.set_cons_zero, List.set_cons_succ]
              go_wp2_with fail
              refine bodyPost_ret (results_none rfl _ _ _) rfl ?_
              exact F.out
      · go_wp2_with fail
        refine ⟨⟨trivial, k + 1, hlt, by go_num, fun j hj e => ?_⟩, by simp [intOf]; omega⟩
        rcases (by omega : j < k ∨ j = k) with h1 | rfl
        · exact HNO.out j h1 e
        · rw [HY.out] at e; injection e with e; exact hyx e
    · have hk2 : k = s.here.length := by omega
      subst hk2
      have hnm : v ∉ s.here := fun hm => by
        obtain ⟨j, hj, e⟩ := List.getElem_of_mem hm
        exact HNO.out j hj (by rw [List.getElem?_eq_getElem hj, e])
      have HD := Lib.hid ((at_ways (s := s) a r v).resolve_left fun h => hnm h.1).2
      obtain ⟨w5, hw5⟩ : ∃ w5, w5 = w1 := ⟨_, rfl⟩
      have M5 : RowKit.Hid (RLM w5 B rb s cv lv N) := Lib.hid (hw5 ▸ M1.out)
      have D5 : RowKit.Hid (Blk w5 db #[i64 a, i64 r, i64 v, i64 1] 168) := Lib.hid (hw5 ▸ D1.out)
      have T5 : RowKit.Hid (Tn (OwnR rb cv lv) w w5) := Lib.hid (Tn.of_below (hw5 ▸ B1.out))
      have O5 : RowKit.Hid (∀ k, OwnR rb cv lv k → OwnR rb cv lv k ∨ w.heap.size ≤ k) := Lib.hid fun k hk => .inl hk
      have DNE : RowKit.Hid (lv.ownBlock ≠ some db) := Lib.hid fun e => by have := (row_lt H.out.deals db e).2; have := HDB.out.1; omega
      clear hnm hk hlt
      go_wp2_with fail
      rw [← hw5]
      clear hw5 c2
      obtain ⟨S7, hS7⟩ : ∃ S : World → Prop, S = fun W => Tn (fun k => lv.ownBlock = some k) w5 W := ⟨_, rfl⟩
      have LD7 : RowKit.Hid (∀ W, S7 W → W.cell? ⟨rb, 3, none⟩ = some (.slice la s.L.length lcap)) := Lib.hid (by
        rw [hS7]; intro W hW; exact (hW.cell ((M5.out.blk.cell 3).trans (congrArg some HLV.out)) M5.out.ne2))
      have LB7 : RowKit.Hid (∀ W, S7 W → Blk W db #[i64 a, i64 r, i64 v, i64 1] 168) := Lib.hid (by
        rw [hS7]; intro W hW; exact hW.blk D5.out DNE.out)
      have SS7 : RowKit.Hid (∀ W, S7 W → Tn (fun k => lv.ownBlock = some k) w5 W) := Lib.hid (by rw [hS7]; exact fun W h => h)
      have UU7 : RowKit.Hid (∀ W, Tn (fun k => lv.ownBlock = some k) w5 W → S7 W) := Lib.hid (by rw [hS7]; exact fun W h => h)
      have hHeld := UU7.out _ (Tn.refl _ w5).drew
      clear hS7
      refine wp_region_sp 10 S7 (by kernel_rfl) (by kernel_rfl) ?_
      simp only [List.take_succ_cons, List.take_zero]
      apply wpAnyH_apartV (fun u W => W.ownsRow B 168 4 u (s.L.length + 1) (dcells s.L ++ dcell ⟨a, r, v, 1⟩) ∧ Tn (fun k => lv.ownBlock = some k) w5 W ∧ (u.ownBlock = lv.ownBlock ∨ ∀ k, u.ownBlock = some k → w5.heap.size ≤ k))
      case take =>
        intro R hR
        refine wpAnyH_take (i := 0) (v := ?_) rfl (by kernel_rfl) (by kernel_rfl) (by kernel_rfl) (fun _ _ _ h => only_panic h) (Or.inl ⟨by rfl, ?_⟩) hHeld ?_
        rotate_left
        · (intro w hSw; have l0 := LD7.out w hSw; go_simp; try (with_reducible rfl))
        try simp only [gA, gB, gC, Act.put, gD, gE, gF]
        refine wpAnyH_take (i := 1) (v := ?_) rfl (by kernel_rfl) (by kernel_rfl) (by kernel_rfl) (fun _ _ _ h => only_panic h) (Or.inl ⟨by rfl, ?_⟩) hHeld ?_
        rotate_left
        · (intro w hSw; have l0 := LD7.out w hSw; go_simp; try (with_reducible rfl))
        try simp only [gA, gB, gC, Act.put, gD, gE, gF]
        refine wpAnyH_take (i := 2) (v := ?_) rfl (by kernel_rfl) (by kernel_rfl) (by kernel_rfl) (fun _ _ _ h => only_panic h) (Or.inl ⟨by rfl, ?_⟩) hHeld ?_
        rotate_left
        · (intro w hSw; have l0 := LD7.out w hSw; go_simp; try (with_reducible rfl))
        try simp only [gA, gB, gC, Act.put, gD, gE, gF]
        refine wpAnyH_take (i := 3) (v := ?_) rfl (by kernel_rfl) (by kernel_rfl) (by kernel_rfl) (fun _ _ _ h => only_panic h) (Or.inl ⟨by rfl, ?_⟩) hHeld ?_
        rotate_left
        · (intro w hSw; have l0 := LD7.out w hSw; go_simp; try (with_reducible rfl))
        try simp only [gA, gB, gC, Act.put, gD, gE, gF]
        refine wpAnyH_take (i := 4) (v := ?_) rfl (by kernel_rfl) (by kernel_rfl) (by kernel_rfl) (fun _ _ _ h => only_panic h) (Or.inl ⟨by rfl, ?_⟩) hHeld ?_
        rotate_left
        · (intro w hSw; have l0 := LD7.out w hSw; go_simp; try (with_reducible rfl))
        try simp only [gA, gB, gC, Act.put, gD, gE, gF]
        refine wpAnyH_take (i := 5) (v := .agg #[i64 a, i64 r, i64 v, i64 1]) rfl (by kernel_rfl) (by kernel_rfl) (by kernel_rfl) (fun _ _ _ h => only_panic h) ?_ hHeld ?_
        · exact yields_row (.tmp 8) (by rfl) rfl rfl LB7.out Tryz.underlying168 rfl (by kernel_rfl)
        try simp only [gA, gB, gC, Act.put, gD, gE, gF]
        refine wpAnyH_one (i := 6) rfl (by kernel_rfl) (by rfl) ?_
        go_simp
        obtain ⟨W2, hW2⟩ : ∃ W2, W2 = (w5.alloc (.cells #[i64 a, i64 r, i64 v, i64 1] 168)).drew := ⟨_, rfl⟩
        have B2 : RowKit.Hid (Below w5.heap.size w5 W2) := Lib.hid (by rw [hW2]; exact ((Below.refl _ _).alloc (Nat.le_refl _) _).drew)
        have N2 : RowKit.Hid (Blk W2 w5.heap.size #[i64 a, i64 r, i64 v, i64 1] 168) := Lib.hid (by rw [hW2]; exact (Blk.new w5 _ _).drew)
        have R2 : RowKit.Hid (W2.ownsRow B 168 4 (.slice la s.L.length lcap) s.L.length (dcells s.L)) := Lib.hid (by rw [← HLV.out]; exact (Tn.of_below (F := fun _ => False) B2.out).row M5.out.deals fun _ _ => id)
        rw [← hW2]
        clear hW2
        refine ⟨UU7.out _ (Tn.of_below B2.out), ?_⟩
        refine wpAnyH_one (i := 7) rfl (by kernel_rfl) (by rfl) ?_
        refine wp_append_all (.tmp 56) (.tmp 58) 163 rfl B 168 i0 _ 4 32 Tryz.underlying163 hi hz1 hz2 hz3 rfl (by omega) (.slice la s.L.length lcap) s.L.length (dcells s.L) rfl R2.out 1 (dcell ⟨a, r, v, 1⟩) (.slice (some ⟨w5.heap.size, 0, none⟩) 1 1) rfl (.inr ⟨_, _, rfl, rfl, blk_news N2.out⟩) (fun u hu => dcells_one [⟨a, r, v, 1⟩] u (by simpa [dcells] using hu)) (by unfold maxLen; omega) (by omega) (Nat.le_trans HB.out (Nat.le_trans T5.out.size B2.out.size)) ?_
        intro u W3 hu hg hat
        have T3 : RowKit.Hid (Tn (fun k => lv.ownBlock = some k) w5 W3) := Lib.hid ((Tn.of_below B2.out).trans ((Tn.of_grown hg).mono fun k hk => by rw [HLV.out]; exact hk))
        have A3 : RowKit.Hid (u.ownBlock = lv.ownBlock ∨ ∀ k, u.ownBlock = some k → w5.heap.size ≤ k) := Lib.hid (by
          rcases hat with h1 | h1
          · exact .inl (by rw [h1, HLV.out])
          · exact .inr fun k hk => by rw [h1] at hk; injection hk with hk; rw [← hk]; exact B2.out.size)
        have U3 := Lib.hid hu
        have hHeld := UU7.out _ T3.out
        clear hu hg hat
        refine ⟨hHeld, ?_⟩
        refine wpAnyH_take (i := 8) (v := ?_) rfl (by kernel_rfl) (by kernel_rfl) (by kernel_rfl) (fun _ _ _ h => only_panic h) (Or.inl ⟨by rfl, ?_⟩) hHeld ?_
        rotate_left
        · (intro w hSw; clear hSw; go_simp; try (with_reducible rfl))
        try simp only [gA, gB, gC, Act.put, gD, gE, gF]
        refine wpAnyH_take (i := 9) (v := ?_) rfl (by kernel_rfl) (by kernel_rfl) (by kernel_rfl) (fun _ _ _ h => only_panic h) (Or.inl ⟨by rfl, ?_⟩) hHeld ?_
        rotate_left
        · (intro w hSw; clear hSw; go_simp; try (with_reducible rfl))
        try simp only [gA, gB, gC, Act.put, gD, gE, gF]
        exact wpAnyH_done (by kernel_rfl) ⟨rfl, hR _ _ ⟨U3.out, T3.out, A3.out⟩⟩ _
      case rest =>
        rintro u W ⟨hu, ht, hat⟩
        obtain ⟨M6, T6⟩ := M5.out.more (d := ⟨a, r, v, 1⟩) ht hu hat (by omega) ⟨HI.out.1, HI.out.2.1, HI.out.2.2, by dsimp only; omega, by dsimp only; omega⟩ HN0.out
        have b6 := ht.blk M5.out.blk M5.out.ne2
        obtain ⟨ua, uc, rfl, -⟩ := row_cellz hu
        have f6 := b6.frozen 3
        have hb6 := b6.lt
        have c6 : W.cell? ⟨rb, 3, none⟩ = some lv := b6.cell 3
        have F : RowKit.Hid (RDealE B rb N s cv lv a r v w (.returned (.tuple #[])) (W.setCell ⟨rb, 3, none⟩ (.slice ua (s.L.length + 1) uc))) := Lib.hid ⟨rfl, _, _, by rw [HD.out]; exact M6, T5.out.then_ T6 O5.out, fun k hk => by
          rcases hk with hk | hk | hk
          · exact .inl (.inl hk)
          · exact O5.out k (.inr (.inl hk))
          · rcases hat with h1 | h1
            · exact .inl (.inr (.inr (by rw [← h1]; exact hk)))
            · exact .inr (Nat.le_trans T5.out.size (h1 k hk))⟩
        clear M6 T6 b6 hu ht hat
        simp only [endN, List.drop_succ_cons, List.drop_zero, Act.put, List.setIfInBounds_toArray, List.set_cons_zero, List.set_cons_succ]
        go_wp2_with fail
        refine bodyPost_ret (results_none rfl _ _ _) rfl ?_
        exact F.out
end Go.Proofs.YtdojgbpaheadnaaGreat

/- The reference's lender: how its deals change. -/
namespace Go.Proofs.YtdojgbpaheadnaaGreat
open Go.RowKit Go.Shelf Go.Maps

def Keys (L : List Deal) : Prop := L.Pairwise fun x y => ¬ (x.a = y.a ∧ x.r = y.r)
theorem setSt_none {a r : Int} {q : Nat} : ∀ {L : List Deal}, (∀ d ∈ L, ¬ (d.a = a ∧ d.r = r)) → setSt L a r q = L
  | [], _ => rfl
  | x :: L, h => by
    have ih := setSt_none (q := q) (L := L) fun d hd => h d (by simp [hd])
    unfold setSt at ih ⊢
    rw [List.map_cons, ih, if_neg fun e => h x (by simp) (hit_iff.1 e)]
theorem rat_hit {a r : Int} {d : Deal} (hh : d.a = a ∧ d.r = r) (q : Nat) : ∀ {L : List Deal} {j : Nat}, Keys L → L[j]? = some d → at_ L a r = some d ∧ setSt L a r q = L.set j { d with st := q }
  | [], j, _, h => by simp at h
  | x :: L, 0, hk, h => by
    obtain rfl : x = d := by simpa using h
    unfold Keys at hk
    rw [List.pairwise_cons] at hk
    refine ⟨by unfold at_; rw [List.find?_cons, hit_iff.2 hh], ?_⟩
    have := setSt_none (a := a) (r := r) (q := q) (L := L) fun d hd e => hk.1 d hd ⟨by rw [hh.1, e.1], by rw [hh.2, e.2]⟩
    unfold setSt at this ⊢
    rw [List.map_cons, this, if_pos (hit_iff.2 hh)]; rfl
  | x :: L, j + 1, hk, h => by
    unfold Keys at hk
    rw [List.pairwise_cons] at hk
    have hm : L[j]? = some d := by simpa using h
    have hx : ¬ (x.a = a ∧ x.r = r) := fun e => hk.1 d (List.mem_of_getElem? hm) ⟨by rw [hh.1, e.1], by rw [hh.2, e.2]⟩
    obtain ⟨h1, h2⟩ := rat_hit hh q (L := L) (j := j) hk.2 hm
    have hf : hit a r x = false := by rw [Bool.eq_false_iff]; intro e; exact hx (hit_iff.1 e)
    refine ⟨by unfold at_ at h1 ⊢; rw [List.find?_cons, hf]; exact h1, ?_⟩
    unfold setSt at h2 ⊢
    rw [List.map_cons, h2, hf]; rfl
theorem at_miss {a r : Int} {L : List Deal} (h : ∀ (j : Nat) d, L[j]? = some d → ¬ (d.a = a ∧ d.r = r)) : at_ L a r = none := by
  unfold at_
  rw [List.find?_eq_none]
  intro d hd e
  obtain ⟨j, hj, rfl⟩ := List.getElem_of_mem hd
  exact h j L[j] (by simp) (hit_iff.1 e)
theorem dcells_set (q : Nat) (d : Deal) : ∀ (L : List Deal) (j : Nat), L[j]? = some d → dcells (L.set j { d with st := q }) = (dcells L).set (4 * j + 3) (i64 (q : Int))
  | [], j, h => by simp at h
  | x :: L, 0, h => by
    obtain rfl : x = d := by simpa using h
    rfl
  | x :: L, j + 1, h => by
    have ih := dcells_set q d L j (by simpa using h)
    unfold dcells at ih ⊢
    rw [List.set_cons_succ, List.flatMap_cons, ih, List.flatMap_cons, List.set_append_right _ _ (by simp [dcell]; omega)]
    congr 2
theorem setSt_keys {L : List Deal} (h : Keys L) (a r : Int) (q : Nat) : Keys (setSt L a r q) := by
  unfold Keys setSt at *
  rw [List.pairwise_map]
  refine h.imp fun {x y} hxy => ?_
  have e : ∀ z : Deal, (if hit a r z then { z with st := q } else z).a = z.a ∧ (if hit a r z then { z with st := q } else z).r = z.r := fun z => by split <;> exact ⟨rfl, rfl⟩
  rw [(e x).1, (e x).2, (e y).1, (e y).2]; exact hxy
theorem setSt_len (L : List Deal) (a r : Int) (q : Nat) : (setSt L a r q).length = L.length := by simp [setSt]
theorem setSt_mem {L : List Deal} {a r : Int} {q : Nat} {y : Deal} (h : y ∈ setSt L a r q) : ∃ x ∈ L, y.a = x.a ∧ y.r = x.r ∧ y.t = x.t ∧ (y.st = x.st ∨ y.st = q) := by
  unfold setSt at h
  obtain ⟨x, hx, rfl⟩ := List.mem_map.1 h
  refine ⟨x, hx, ?_⟩
  split
  · exact ⟨rfl, rfl, rfl, .inr rfl⟩
  · exact ⟨rfl, rfl, rfl, .inl rfl⟩
section
variable {w : World} {B rb N : Nat} {s : Len} {cv lv : Value}
/-- A deal's state. -/
theorem RLM.state (h : RLM w B rb s cv lv N) {j g q : Nat} {d : Deal} {a r : Int} {n cap : Nat} (hj : s.L[j]? = some d) (hh : d.a = a ∧ d.r = r) (hlv : lv = .slice (some ⟨g, 0, none⟩) n cap) (hq : 1 ≤ q ∧ q ≤ 5) :
    RLM (w.setCell ⟨g, j * 4 + 3, none⟩ (i64 (q : Int))) B rb { s with L := setSt s.L a r q } cv lv N ∧ Tn (fun k => lv.ownBlock = some k) w (w.setCell ⟨g, j * 4 + 3, none⟩ (i64 (q : Int))) := by
  rw [Nat.mul_comm j 4]
  have hg : lv.ownBlock = some g := by rw [hlv]; rfl
  have t : Tn (fun k => lv.ownBlock = some k) w (w.setCell ⟨g, 4 * j + 3, none⟩ (i64 (q : Int))) := (Tn.refl (fun k => lv.ownBlock = some k) w).setCell (p := ⟨g, 4 * j + 3, none⟩) (.inl hg) _
  have hs := (rat_hit hh q h.keys hj).2
  have hd : (w.setCell ⟨g, 4 * j + 3, none⟩ (i64 (q : Int))).ownsRow B 168 4 lv s.L.length ((dcells s.L).set (4 * j + 3) (i64 (q : Int))) := by
    have h1 := h.deals
    obtain ⟨a', c', e', _⟩ := row_cellz h1
    rw [hlv] at e' h1 ⊢
    injection e' with _ e2 e3
    subst e2
    exact (h1.stored _ _).1
  refine ⟨⟨t.blk h.blk h.ne2, t.row h.cop fun k hk e => h.ne3 k hk e, ?_, h.ne1, h.ne2, h.ne3, h.lo, h.sent, ⟨by show (setSt s.L a r q).length ≤ N; rw [setSt_len]; exact h.len.1, h.len.2⟩, ⟨h.ids.1, fun y hy => ?_⟩, setSt_keys h.keys a r q⟩, t⟩
  · show (w.setCell ⟨g, 4 * j + 3, none⟩ (i64 (q : Int))).ownsRow B 168 4 lv (setSt s.L a r q).length (dcells (setSt s.L a r q))
    rw [setSt_len, hs, dcells_set q d s.L j hj]; exact hd
  · obtain ⟨x, hx, e1, e2, e3, e4⟩ := setSt_mem hy
    have := h.ids.2 x hx
    rw [e1, e2, e3]
    exact ⟨this.1, this.2.1, this.2.2.1, by rcases e4 with e4 | e4 <;> rw [e4] <;> omega, by rcases e4 with e4 | e4 <;> rw [e4] <;> omega⟩
/-- A message has been sent. -/
theorem RLM.sent1 {w' : World} (h : RLM w B rb s cv lv N) (hN : N < 10000) (hb : Below w.heap.size (w.setCell ⟨rb, 1, none⟩ (i64 (s.sent + 1))) w') : RLM w' B rb { s with sent := s.sent + 1 } cv lv (N + 1) ∧ Tn (fun k => k = rb) w w' := by
  have t1 : Tn (fun k => k = rb) w (w.setCell ⟨rb, 1, none⟩ (i64 (s.sent + 1))) := (Tn.refl (fun k => k = rb) w).setCell (p := ⟨rb, 1, none⟩) (.inl rfl) _
  have hz : (w.setCell ⟨rb, 1, none⟩ (i64 (s.sent + 1))).heap.size = w.heap.size := by simp
  have t : Tn (fun k => k = rb) w w' := t1.trans (Tn.of_below (by rw [hz]; exact hb))
  have hs := h.sent
  exact ⟨⟨(((h.blk.set 1 (i64 (s.sent + 1))).below hb h.blk.lt).cast rfl), t.row h.cop fun k hk e => h.ne1 (by rw [hk, e]), t.row h.deals fun k hk e => h.ne2 (by rw [hk, e]), h.ne1, h.ne2, h.ne3, h.lo, ⟨by show 0 ≤ s.sent + 1; omega, by show s.sent + 1 ≤ ((N + 1 : Nat) : Int); omega⟩, ⟨by have := h.len.1; show s.L.length ≤ N + 1; omega, by have := h.len.2.1; show s.here.length ≤ 1000 + (N + 1); omega, by omega⟩, h.ids, h.keys⟩, t⟩
/-- A deal's cells. -/
theorem RLM.deal (h : RLM w B rb s cv lv N) {j g : Nat} {d : Deal} {n cap : Nat} (hj : s.L[j]? = some d) (hlv : lv = .slice (some ⟨g, 0, none⟩) n cap) :
    w.cell? ⟨g, j * 4, none⟩ = some (i64 d.a) ∧ w.cell? ⟨g, j * 4 + 1, none⟩ = some (i64 d.r) ∧ w.cell? ⟨g, j * 4 + 2, none⟩ = some (i64 d.t) ∧ w.cell? ⟨g, j * 4 + 3, none⟩ = some (i64 (d.st : Int)) := by
  obtain ⟨a', c', e', _, _, _, ⟨h0, _, h1⟩ | ⟨g', h1, _, _, _, hc⟩⟩ := row_cellz h.deals
  · subst h1; rw [hlv] at e'; cases e'
  · subst h1; rw [hlv] at e'; injection e' with e'; injection e' with e'; injection e' with e'; subst e'
    rw [Nat.mul_comm j 4]
    have := fun i hi => dcells_get s.L j i d hj hi
    exact ⟨hc _ _ (this 0 (by omega)), hc _ _ (this 1 (by omega)), hc _ _ (this 2 (by omega)), hc _ _ (this 3 (by omega))⟩
end
end Go.Proofs.YtdojgbpaheadnaaGreat
