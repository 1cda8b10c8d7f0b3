/- Problems given by numbers: the walk of Lists. -/
import Derived.Test.YtpcmppamkgkdlaaUB
namespace Go.Proofs.Ytpcmppamkgkdlaa
open Go.RowKit

set_option maxRecDepth 100000 in
set_option maxHeartbeats 8000000 in
theorem lists_any (cells : Array Value) (wl : List (Int × Int)) (al : List Int) (cs : Nat → Int) (m : Nat) (w : World) (B : Nat) (hp : PrIn w B cells wl al cs) (hB : B ≤ w.heap.size) (hm : m ≤ 100) :
    Calls Try.prog 13 #[.agg cells, .int .i64 m] w (ListsE wl al m w) := by
  have HP := Lib.hid hp
  obtain ⟨aw, cw, hc0, -⟩ := hp.c0
  obtain ⟨aa, ca, hc1, -⟩ := hp.c1
  have hlw := hp.len
  obtain ⟨i3, hi, hi0, hi1, hi2⟩ := info_parts info3
  have HI := Lib.hid (And.intro hi (And.intro hi0 (And.intro hi1 hi2)))
  obtain ⟨i41, hk, hk0, hk1, hk2⟩ := info_parts info41
  have HK := Lib.hid (And.intro hk (And.intro hk0 (And.intro hk1 hk2)))
  clear hk hk0 hk1 hk2
  have HC0 := Lib.hid hc0
  have HC1 := Lib.hid hc1
  clear hp hi hi0 hi1 hi2 hc0 hc1
  go_enter Try.func13, Try.ntmps13
  go_wp2_with fail
  obtain ⟨pb, hpb⟩ : ∃ pb, pb = w.heap.size := ⟨_, rfl⟩
  obtain ⟨W1, hW1⟩ : ∃ W1, W1 = w.alloc (.cells cells 27) := ⟨_, rfl⟩
  have PB : RowKit.Hid (Blk W1 pb cells 27) := Lib.hid (by rw [hW1, hpb]; exact Blk.new _ _ _)
  have B1 : RowKit.Hid (Below w.heap.size w W1) := Lib.hid (by rw [hW1]; exact (Below.refl _ _).alloc (Nat.le_refl _) _)
  have HS : RowKit.Hid (W1.heap.size = pb + 1 ∧ pb = w.heap.size) := Lib.hid ⟨by rw [hW1, hpb]; simp, hpb⟩
  rw [← hW1, ← hpb]
  have PA : RowKit.Hid (∀ W', Below W1.heap.size W1 W' → W'.cell? ⟨pb, 0, none⟩ = some (.slice aw wl.length cw) ∧ W'.cell? ⟨pb, 1, none⟩ = some (.slice aa al.length ca)) := Lib.hid fun W' hb =>
    ⟨(hb.cell (p := ⟨pb, 0, none⟩) PB.out.lt).trans (PB.out.cellE HC0.out), (hb.cell (p := ⟨pb, 1, none⟩) PB.out.lt).trans (PB.out.cellE HC1.out)⟩
  clear hW1 hpb
  go_loopw [7, 8] (fun v x wr => ∃ (k : Nat) (lv : Value), k ≤ al.length ∧ k ≤ m ∧ x = .int .i64 k ∧ lv = v ∧ Below W1.heap.size W1 wr ∧ wr.ownsRow W1.heap.size 3 1 lv k ((atL al k).map (Value.int .i64))) (fun _ x _ => m - (intOf x).toNat)
  case atStart => exact ⟨0, _, by omega, by omega, rfl, rfl, Below.refl _ _, World.ownsRow_nil _ _ _ _⟩
  case round =>
    obtain ⟨k, lv, hk1, hk2, rfl, rfl, hb, hrow⟩ := hrel
    have BB := Lib.hid hb
    have RR := Lib.hid hrow
    have hz := hb.size
    obtain ⟨p0, p1⟩ := PA.out _ hb
    clear hb hrow
    by_cases hlt : k < al.length ∧ k < m
    · have d1 : decide ((k : Int) < (al.length : Int)) = true := by simp; omega
      have d2 : decide ((k : Int) < (m : Int)) = true := by simp; omega
      have d3 : decide (k < al.length) = true := by simp; omega
      have d4 : decide (k < m) = true := by simp; omega
      obtain ⟨a', c', hcc, hI⟩ := HP.out.c1
      obtain ⟨rfl, rfl⟩ : a' = aa ∧ c' = ca := by rw [HC1.out] at hcc; injection hcc with hcc; injection hcc with h1 h2 h3; exact ⟨h1.symm, h3.symm⟩
      rcases hI with h | ⟨b, o, rfl, hbB, hcl⟩
      · rw [h] at hlt; simp at hlt
      have e0 := (BB.out.cell (p := ⟨b, o + k, none⟩) (by show b < W1.heap.size; have := HS.out; omega)).trans ((B1.out.cell (p := ⟨b, o + k, none⟩) (by show b < w.heap.size; omega)).trans (hcl k hlt.1))
      have bd := HP.out.a0 k hlt.1
      have AS := Lib.hid (atL_succ hlt.1)
      obtain ⟨y, hy⟩ : ∃ y, y = al.getD k 0 := ⟨_, rfl⟩
      rw [← hy] at e0 bd AS
      have HCL := Lib.hid hcl
      obtain ⟨hi, hi0, hi1, hi2⟩ := HI.out
      have hlt1 := hlt.1
      have hlt2 := hlt.2
      clear hcl hy hcc hlt
      go_wp2_with (at_builtin; go_must (refine wpList_append_own_at _ rfl (.tmp 24) (.tmp 32) 30 rfl W1.heap.size 3 i3 (.int .i64 0) 1 8 Try.underlying30 hi hi0 hi1 hi2 rfl (by decide) _ k _ rfl (RR.out.alloc _) ⟨wr.heap.size, 0, none⟩ 1 1 [.int .i64 (y % 4)] rfl rfl (news_ wr _ 3) (one_ rfl) (by unfold maxLen; omega) (by omega) (by simp; omega) ?_))
      intro v' w5 hown hgrow _ _
      have R5 : RowKit.Hid (w5.ownsRow W1.heap.size 3 1 v' (k + 1) ((atL al (k + 1)).map (Value.int .i64))) := Lib.hid (by rw [AS.out, List.map_append]; exact hown)
      have B5 : RowKit.Hid (Below W1.heap.size W1 w5) := Lib.hid (BB.out.trans ((((Tn.refl (fun b => W1.heap.size ≤ b) wr).alloc (.cells #[.int .i64 (y % 4)] 3)).then_ (Tn.of_grown hgrow) fun x e => .inl (row_lt RR.out x e).1).below hz fun _ h => h))
      clear hown hgrow hi hi0 hi1 hi2 RR
      go_wp2_with fail
      exact ⟨⟨k + 1, _, by omega, by omega, by go_num, rfl, B5.out, R5.out⟩, by simp [intOf]; omega⟩
    · have AE := Lib.hid (atL_end hk1 hk2 hlt)
      have AL := Lib.hid (atL_len hk1)
      have dd : decide ((k : Int) < (al.length : Int)) = false ∨ (decide ((k : Int) < (al.length : Int)) = true ∧ decide ((k : Int) < (m : Int)) = false ∧ decide (k < m) = false) := by
        by_cases h1 : k < al.length
        · exact .inr ⟨by simp; omega, by simp; omega, by simp; omega⟩
        · exact .inl (by simp; omega)
      obtain ⟨w2, rfl⟩ : ∃ w2 : World, w2 = wr := ⟨_, rfl⟩
      have AT : RowKit.Hid (Ints w2 w2.heap.size lv (atL al m)) := Lib.hid (by
        rw [← AE.out]
        obtain ⟨a7, c7, he, hO, _⟩ := own_of_row (w := w2) (B := W1.heap.size) (v := lv) (D := atL al k) (by rw [AL.out]; exact RR.out)
        rw [he]
        exact hO.ints.ints fun b _ hb => hb)
      clear hlt AE AL RR
      have d3 : decide (k < al.length) = decide ((k : Int) < (al.length : Int)) := by simp
      rcases dd with d1 | ⟨d1, d2, d4⟩
      all_goals
        rw [d1] at d3
        go_wp2_with fail
        clear hk1 hk2 d1 d3 p1 p0 hlw
        go_loopw [6, 9] (fun v x wr => ∃ (k : Nat) (lw : Value) (ps : List (Int × Value)), k ≤ wl.length ∧ k ≤ m ∧ x = .int .i64 k ∧ lw = v ∧ WB w2 wr lw ps (wantsL wl k)) (fun _ x _ => m - (intOf x).toNat)
        case atStart => exact ⟨0, _, [], by omega, by omega, rfl, rfl, WB.start _⟩
        case round =>
          obtain ⟨wo, rfl⟩ : ∃ wo : World, wo = wr := ⟨_, rfl⟩
          obtain ⟨k, lw, ps, hk1, hk2, rfl, rfl, hW⟩ := hrel
          have WW := Lib.hid hW
          have BW : RowKit.Hid (Below W1.heap.size W1 wo) := Lib.hid (BB.out.trans (hW.bel.mono hz))
          have hzo : w2.heap.size ≤ wo.heap.size := hW.bel.size
          obtain ⟨p0, p1⟩ := PA.out _ BW.out
          clear hW
          by_cases hlt : k < wl.length ∧ k < m
          · have d1 : decide ((k : Int) < (wl.length : Int)) = true := by simp; omega
            have d2 : decide ((k : Int) < (m : Int)) = true := by simp; omega
            have d3 : decide (k < wl.length) = true := by simp; omega
            have d4 : decide (k < m) = true := by simp; omega
            obtain ⟨a', c', hcc, hI⟩ := HP.out.c0
            obtain ⟨rfl, rfl⟩ : a' = aw ∧ c' = cw := by rw [HC0.out] at hcc; injection hcc with hcc; injection hcc with h1 h2 h3; exact ⟨h1.symm, h3.symm⟩
            rcases hI with h | ⟨b, o, rfl, hbB, hcl⟩
            · rw [h] at hlt; simp at hlt
            obtain ⟨f0, f1⟩ := hcl k hlt.1
            have bw : ∀ W', Below W1.heap.size W1 W' → ∀ i v, w.cell? ⟨b, i, none⟩ = some v → W'.cell? ⟨b, i, none⟩ = some v := fun W' hb i v hv =>
              (hb.cell (p := ⟨b, i, none⟩) (by show b < W1.heap.size; have := HS.out; omega)).trans ((B1.out.cell (p := ⟨b, i, none⟩) (by show b < w.heap.size; omega)).trans hv)
            have e0 := bw _ BW.out _ _ f0
            have bd := HP.out.w0 k hlt.1
            have WS := Lib.hid (wantsL_succ hlt.1)
            have WL := Lib.hid (wantsL_len (Nat.le_of_lt hlt.1))
            have HBW := Lib.hid bw
            obtain ⟨⟨x, y⟩, hxy⟩ : ∃ q, q = wl.getD k (0, 0) := ⟨_, rfl⟩
            rw [← hxy] at e0 f1 f0 bd WS
            have e0' : wo.cell? ⟨b, o + k * 2, none⟩ = some (.int .u16 x) := e0
            have F0 := Lib.hid f0
            have F1 := Lib.hid f1
            obtain ⟨bx0, bx1, by0, by1⟩ := bd
            have bx0' : 0 ≤ x := bx0
            have bx1' : x < 65536 := bx1
            have by0' : 0 ≤ y := by0
            have by1' : y < 65536 := by1
            have HCL := Lib.hid hcl
            have hlt1 := hlt.1
            have hlt2 := hlt.2
            clear hcl hcc hxy e0 f0 f1 bw hlt bx0 bx1 by0 by1
            go_wp2_with fail
            obtain ⟨bx, hbx⟩ : ∃ bx, bx = wo.heap.size := ⟨_, rfl⟩
            obtain ⟨wb, hwb⟩ : ∃ wb, wb = wo.alloc (.cells #[.int .i64 (x % 4), .slice none 0 0] 41) := ⟨_, rfl⟩
            have XB : RowKit.Hid (Blk wb bx #[.int .i64 (x % 4), .slice none 0 0] 41) := Lib.hid (by rw [hwb, hbx]; exact Blk.new _ _ _)
            have BB2 : RowKit.Hid (Below wo.heap.size wo wb) := Lib.hid (by rw [hwb]; exact (Below.refl _ _).alloc (Nat.le_refl _) _)
            have HBX : RowKit.Hid (bx = wo.heap.size ∧ wb.heap.size = bx + 1) := Lib.hid ⟨hbx, by rw [hwb, hbx]; simp⟩
            rw [← hwb, ← hbx]
            clear hwb hbx
            go_loopw [11] (fun z wr => ∃ (c : Nat) (lx : Value), c ≤ 16 ∧ z = .int .i64 c ∧ Blk wr bx #[.int .i64 (x % 4), lx] 41 ∧ wr.ownsRow (bx + 1) 3 1 lx (bitsU y c).length ((bitsU y c).map (Value.int .i64)) ∧ Below wo.heap.size wo wr) (fun z _ => 16 - (intOf z).toNat)
            case atStart => exact ⟨0, _, by omega, rfl, XB.out, World.ownsRow_nil _ _ _ _, BB2.out⟩
            case round =>
              obtain ⟨c, lx, hc, rfl, hX, hrow, hb⟩ := hrel
              have X3 := Lib.hid hX
              have R3 := Lib.hid hrow
              have B3 := Lib.hid hb
              have hz3 := hb.size
              obtain ⟨p0, p1⟩ := PA.out wr (BW.out.trans (hb.mono BW.out.size))
              have f1 := HBW.out wr (BW.out.trans (hb.mono BW.out.size)) _ _ F1.out
              have f1' : wr.cell? ⟨b, o + k * 2 + 1, none⟩ = some (.int .u16 y) := f1
              have x1 : wr.cell? ⟨bx, 1, none⟩ = some lx := hX.cell 1
              have xf := hX.frozen
              have hbl := bitsU_len y c
              have hxl := hX.lt
              clear hX hrow hb f1
              by_cases hlc : c < 16
              · have hab := and_bit by0' by1' c
                have BY := Lib.hid (fun h => bitsU_yes (y := y) (n := c) h)
                have BN := Lib.hid (fun h => bitsU_no (y := y) (n := c) h)
                obtain ⟨q, hq⟩ : ∃ q, q = y / 2 ^ c % 2 := ⟨_, rfl⟩
                rw [← hq] at hab
                have HQ := Lib.hid hq
                have hqb : 0 ≤ q ∧ q < 2 := by omega
                clear hq
                by_cases hq1 : q = 1
                · have hq2 : (q == 1) = true := by simpa using hq1
                  have BY2 := Lib.hid (BY.out (by unfold bitB; rw [← HQ.out]; simpa using hq1))
                  clear hq1
                  obtain ⟨hi, hi0, hi1, hi2⟩ := HI.out
                  go_wp2_with (at_builtin; go_must (refine wpList_append_own_at _ rfl (.tmp 70) (.tmp 72) 30 rfl (bx + 1) 3 i3 (.int .i64 0) 1 8 Try.underlying30 hi hi0 hi1 hi2 rfl (by decide) _ (bitsU y c).length _ rfl (R3.out.alloc _) ⟨wr.heap.size, 0, none⟩ 1 1 [.int .i64 (c : Int)] rfl rfl (news_ wr _ 3) (one_ rfl) (by unfold maxLen; omega) (by omega) (by simp; omega) ?_))
                  intro v' w5 hown hgrow _ _
                  obtain ⟨a8, c8, rfl, -⟩ := row_cell hown
                  have X5 : RowKit.Hid (Blk w5 bx #[.int .i64 (x % 4), lx] 41) := Lib.hid ((Tn.of_grown hgrow).blk (X3.out.alloc _) (fun e => by have := (row_lt R3.out bx e).1; omega))
                  have y1 : w5.cell? ⟨bx, 1, none⟩ = some lx := X5.out.cell 1
                  have yf := X5.out.frozen
                  have X6 : RowKit.Hid (Blk (w5.setCell ⟨bx, 1, none⟩ (.slice a8 ((bitsU y c).length + 1) c8)) bx #[.int .i64 (x % 4), (.slice a8 ((bitsU y c).length + 1) c8)] 41) := Lib.hid ((X5.out.set 1 (.slice a8 ((bitsU y c).length + 1) c8)).cast (by simp))
                  have R6 : RowKit.Hid ((w5.setCell ⟨bx, 1, none⟩ (.slice a8 ((bitsU y c).length + 1) c8)).ownsRow (bx + 1) 3 1 (.slice a8 ((bitsU y c).length + 1) c8) (bitsU y (c + 1)).length ((bitsU y (c + 1)).map (Value.int .i64))) := Lib.hid (((Tn.refl (fun b => b = bx) w5).setCell (p := ⟨bx, 1, none⟩) (.inl rfl) (.slice a8 ((bitsU y c).length + 1) c8)).row (by rw [BY2.out, List.map_append, List.length_append]; exact hown) (fun r hr e => by have := (row_lt hown r hr).1; omega))
                  have B6 : RowKit.Hid (Below wo.heap.size wo (w5.setCell ⟨bx, 1, none⟩ (.slice a8 ((bitsU y c).length + 1) c8))) := Lib.hid ((B3.out.trans ((((Tn.refl (fun b => wo.heap.size ≤ b) wr).alloc (.cells #[.int .i64 (c : Int)] 3)).then_ (Tn.of_grown hgrow) fun z e => .inl (by have := (row_lt R3.out z e).1; have := HBX.out; omega)).below hz3 fun _ h => h)).setCell (by show wo.heap.size ≤ bx; have := HBX.out; omega) _)
                  clear hown hgrow hi hi0 hi1 hi2 x1 xf
                  go_wp2_with fail
                  exact ⟨⟨c + 1, _, by omega, by go_num, X6.out, R6.out, B6.out⟩, by simp [intOf]; omega⟩
                · have hq2 : (q == 1) = false := by simpa using hq1
                  have BN2 := Lib.hid (BN.out (by unfold bitB; rw [← HQ.out]; simpa using hq1))
                  have R4 : RowKit.Hid (wr.ownsRow (bx + 1) 3 1 lx (bitsU y (c + 1)).length ((bitsU y (c + 1)).map (Value.int .i64))) := Lib.hid (by rw [BN2.out]; exact R3.out)
                  clear hq1
                  go_wp2_with fail
                  exact ⟨⟨c + 1, lx, by omega, by go_num, X3.out, R4.out, B3.out⟩, by simp [intOf]; omega⟩
              · obtain rfl : c = 16 := by omega
                have f0 := HBW.out wr (BW.out.trans (B3.out.mono BW.out.size)) _ _ F0.out
                have f0' : wr.cell? ⟨b, o + k * 2, none⟩ = some (.int .u16 x) := f0
                have xm0 : 0 ≤ x % 16 ∧ x % 16 < 16 := by omega
                clear f0
                have L16 : RowKit.Hid ((bitsU y 16).length ≤ 16) := Lib.hid hbl
                obtain ⟨hi, hi0, hi1, hi2⟩ := HI.out
                by_cases h7 : x % 16 = 7
                · have e7 : ((x % 16) == 7) = true := by simpa using h7
                  have e7' : copU x y = bitsU y 16 ++ bitsU y 16 ++ [-1, 99] := by simp [copU, h7]
                  have CU := Lib.hid e7'
                  obtain ⟨D, hD⟩ : ∃ D, D = bitsU y 16 := ⟨_, rfl⟩
                  rw [← hD] at CU R3 L16 hbl
                  obtain ⟨n, hn⟩ : ∃ n, n = D.length := ⟨_, rfl⟩
                  rw [← hn] at R3 L16 hbl
                  have HN := Lib.hid hn
                  obtain ⟨a6, c6, rfl, -⟩ := row_cell R3.out
                  clear h7 e7' hD hn
                  go_wp2_with (at_builtin; go_must (refine wpList_append_self rfl (.tmp 84) (.tmp 86) 30 rfl (bx + 1) 3 i3 (.int .i64 0) 8 Try.underlying30 hi hi0 hi1 hi2 rfl _ n _ rfl R3.out rfl (ints1 D) (by unfold maxLen; omega) (by omega) (by omega) ?_))
                  intro v' w5 hown hgrow
                  obtain ⟨a8, c8, rfl, -⟩ := row_cell hown
                  have X5 : RowKit.Hid (Blk w5 bx #[.int .i64 (x % 4), .slice a6 n c6] 41) := Lib.hid ((Tn.of_grown hgrow).blk X3.out (fun e => by have := (row_lt R3.out bx e).1; omega))
                  have B5 : RowKit.Hid (Below wo.heap.size wo w5) := Lib.hid (B3.out.trans ((Tn.of_grown hgrow).below hz3 fun z e => by have := (row_lt R3.out z e).1; have := HBX.out; omega))
                  have R5 := Lib.hid hown
                  have y1 : w5.cell? ⟨bx, 1, none⟩ = some (.slice a6 n c6) := X5.out.cell 1
                  have yf := X5.out.frozen
                  clear hown hgrow x1 xf
                  have X6 : RowKit.Hid (Blk (w5.setCell ⟨bx, 1, none⟩ (.slice a8 (n + n) c8)) bx #[.int .i64 (x % 4), (.slice a8 (n + n) c8)] 41) := Lib.hid ((X5.out.set 1 (.slice a8 (n + n) c8)).cast (by simp))
                  have R6 : RowKit.Hid ((w5.setCell ⟨bx, 1, none⟩ (.slice a8 (n + n) c8)).ownsRow (bx + 1) 3 1 (.slice a8 (n + n) c8) (n + n) (D.map (Value.int .i64) ++ D.map (Value.int .i64))) := Lib.hid (((Tn.refl (fun b => b = bx) w5).setCell (p := ⟨bx, 1, none⟩) (.inl rfl) (.slice a8 (n + n) c8)).row R5.out (fun r hr e => by have := (row_lt R5.out r hr).1; omega))
                  have B6 : RowKit.Hid (Below wo.heap.size wo (w5.setCell ⟨bx, 1, none⟩ (.slice a8 (n + n) c8))) := Lib.hid (B5.out.setCell (by show wo.heap.size ≤ bx; have := HBX.out; omega) _)
                  have hz5 := B5.out.size
                  have hx5 : bx < w5.heap.size := X5.out.lt
                  have NN8 : RowKit.Hid (∀ j u, [Value.int .i64 (-1), .int .i64 99][j]? = some u → ((w5.setCell ⟨bx, 1, none⟩ (.slice a8 (n + n) c8)).alloc (.cells #[.int .i64 (-1), .int .i64 99] 3)).cell? ((⟨w5.heap.size, 0, none⟩ : Addr).add j) = some u) := Lib.hid (by
                    have h := news2 (w5.setCell ⟨bx, 1, none⟩ (.slice a8 (n + n) c8)) (.int .i64 (-1)) (.int .i64 99) 3
                    rwa [show (w5.setCell ⟨bx, 1, none⟩ (.slice a8 (n + n) c8)).heap.size = w5.heap.size by simp] at h)
                  go_wp2_with (at_builtin; go_must (refine wpList_append_own_at _ rfl (.tmp 90) (.tmp 91) 30 rfl (bx + 1) 3 i3 (.int .i64 0) 1 8 Try.underlying30 hi hi0 hi1 hi2 rfl (by decide) _ (n + n) _ rfl (R6.out.alloc _) ⟨w5.heap.size, 0, none⟩ 2 2 [.int .i64 (-1), .int .i64 99] rfl rfl ?_ (two_ rfl rfl) (by unfold maxLen; omega) (by omega) (by simp; omega) ?_))
                  exact NN8.out
                  intro v' w7 hown hgrow _ _
                  obtain ⟨a9, c9, rfl, -⟩ := row_cell hown
                  have X7 : RowKit.Hid (Blk w7 bx #[.int .i64 (x % 4), .slice a8 (n + n) c8] 41) := Lib.hid ((Tn.of_grown hgrow).blk (X6.out.alloc _) (fun e => by have := (row_lt R6.out bx e).1; omega))
                  have B7 : RowKit.Hid (Below wo.heap.size wo w7) := Lib.hid (B6.out.trans ((((Tn.refl (fun b => wo.heap.size ≤ b) (w5.setCell ⟨bx, 1, none⟩ (.slice a8 (n + n) c8))).alloc (.cells #[.int .i64 (-1), .int .i64 99] 3)).then_ (Tn.of_grown hgrow) fun z e => .inl (by have := (row_lt R6.out z e).1; have := HBX.out; omega)).below (by simpa using hz5) fun _ h => h))
                  have R7 := Lib.hid hown
                  have y7 : w7.cell? ⟨bx, 1, none⟩ = some (.slice a8 (n + n) c8) := X7.out.cell 1
                  have yf7 := X7.out.frozen
                  have X8 : RowKit.Hid (Blk (w7.setCell ⟨bx, 1, none⟩ (.slice a9 (n + n + 2) c9)) bx #[.int .i64 (x % 4), (.slice a9 (n + n + 2) c9)] 41) := Lib.hid ((X7.out.set 1 (.slice a9 (n + n + 2) c9)).cast (by simp))
                  have R8 : RowKit.Hid ((w7.setCell ⟨bx, 1, none⟩ (.slice a9 (n + n + 2) c9)).ownsRow (bx + 1) 3 1 (.slice a9 (n + n + 2) c9) (copU x y).length ((copU x y).map (Value.int .i64))) := Lib.hid (by
                    have := (((Tn.refl (fun b => b = bx) w7).setCell (p := ⟨bx, 1, none⟩) (.inl rfl) (.slice a9 (n + n + 2) c9)).row R7.out (fun r hr e => by have := (row_lt R7.out r hr).1; omega))
                    rw [CU.out]
                    simpa [← HN.out, Nat.add_assoc] using this)
                  have B8 : RowKit.Hid (Below wo.heap.size wo (w7.setCell ⟨bx, 1, none⟩ (.slice a9 (n + n + 2) c9))) := Lib.hid (B7.out.setCell (by show wo.heap.size ≤ bx; have := HBX.out; omega) _)
                  clear hown hgrow y1 yf hi hi0 hi1 hi2
                  have y70 : w7.cell? ⟨bx, 0, none⟩ = some (.int .i64 (x % 4)) := X7.out.cell 0
                  have y9 : (w7.setCell ⟨bx, 1, none⟩ (.slice a9 (n + n + 2) c9)).cell? ⟨bx, 1, none⟩ = some (.slice a9 (n + n + 2) c9) := X8.out.cell 1
                  have HO : RowKit.Hid (IntsIn ((w7.setCell ⟨bx, 1, none⟩ (.slice a9 (n + n + 2) c9)).alloc (.cells #[.int .i64 (x % 4), .slice a9 (n + n + 2) c9] 41)) (fun b => wo.heap.size ≤ b) (.slice a9 (n + n + 2) c9) (copU x y)) := Lib.hid (by
                    obtain ⟨a5, c5, he, hO, _⟩ := own_of_row (D := copU x y) R8.out
                    have h := hO.ints.keep (S' := fun b => wo.heap.size ≤ b) ((Tn.refl (fun _ => False) (w7.setCell ⟨bx, 1, none⟩ (.slice a9 (n + n + 2) c9))).alloc (.cells #[.int .i64 (x % 4), .slice a9 (n + n + 2) c9] 41)) (fun _ _ _ => id) (fun b h _ => by have := h.1; have := HBX.out; omega)
                    rwa [← he] at h)
                  have RW : RowKit.Hid ((w7.setCell ⟨bx, 1, none⟩ (.slice a9 (n + n + 2) c9)).ownsRow w2.heap.size 41 2 lw k (encW ps)) := Lib.hid (by
                    have h := WW.out.row
                    rw [WL.out] at h
                    exact (Tn.of_below (F := fun _ => False) B8.out).row h (fun _ _ => id))
                  have ek : (w7.setCell ⟨bx, 1, none⟩ (.slice a9 (n + n + 2) c9)).heap.size = w7.heap.size := by simp
                  have NN : RowKit.Hid (∀ j u, [Value.int .i64 (x % 4), .slice a9 (n + n + 2) c9][j]? = some u → ((w7.setCell ⟨bx, 1, none⟩ (.slice a9 (n + n + 2) c9)).alloc (.cells #[.int .i64 (x % 4), .slice a9 (n + n + 2) c9] 41)).cell? ((⟨w7.heap.size, 0, none⟩ : Addr).add j) = some u) := Lib.hid (by
                    have h := news2 (w7.setCell ⟨bx, 1, none⟩ (.slice a9 (n + n + 2) c9)) (.int .i64 (x % 4)) (.slice a9 (n + n + 2) c9) 41
                    rwa [ek] at h)
                  have hzz := B8.out.size
                  rw [ek] at hzz
                  obtain ⟨hk, hk0, hk1, hk2⟩ := HK.out
                  clear ek
                  go_wp2_with (at_builtin; go_must (refine wpList_append_lies _ rfl (.tmp 94) (.tmp 96) 29 rfl w2.heap.size 41 i41 (.agg #[.int .i64 0, .slice none 0 0]) 2 32 Try.underlying29 hk hk0 hk1 hk2 rfl (by omega) _ k _ rfl (RW.out.alloc _) ⟨w7.heap.size, 0, none⟩ 1 1 [.int .i64 (x % 4), .slice a9 (n + n + 2) c9] rfl rfl NN.out (two_ rfl rfl) (by omega) (by unfold maxLen; omega) (by omega) (by simp; omega) (w7.heap.size + 1) (by simp) ?_))
                  intro gg cap' w9 hown hgrow hat hlt9
                  have R9 : RowKit.Hid (WB w2 w9 (.slice (some ⟨gg, 0, none⟩) (k + 1) cap') (ps ++ [(x % 4, .slice a9 (n + n + 2) c9)]) (wantsL wl (k + 1))) := Lib.hid (by
                    have h := WW.out.step (p := x % 4) (u := .slice a9 (n + n + 2) c9) (l := copU x y) (g := gg) (cap := cap') (W1 := (w7.setCell ⟨bx, 1, none⟩ (.slice a9 (n + n + 2) c9)).alloc (.cells #[.int .i64 (x % 4), .slice a9 (n + n + 2) c9] 41)) (B8.out.alloc B8.out.size _) (by rw [WL.out]; exact hown) hgrow (by simpa using hat) HO.out
                    rw [WL.out] at h
                    rw [WS.out]
                    exact h)
                  clear hown hgrow hat hlt9 hk hk0 hk1 hk2
                  go_wp2_with fail
                  exact ⟨⟨k + 1, _, _, by omega, by omega, by go_num, rfl, R9.out⟩, by simp [intOf]; omega⟩
                · have e7 : ((x % 16) == 7) = false := by simpa using h7
                  have R8 : RowKit.Hid (wr.ownsRow (bx + 1) 3 1 lx (copU x y).length ((copU x y).map (Value.int .i64))) := Lib.hid (by rw [show copU x y = bitsU y 16 by simp [copU, h7]]; exact R3.out)
                  obtain ⟨a9, c9, rfl, -⟩ := row_cell R8.out
                  obtain ⟨n, hn⟩ : ∃ n, n = (copU x y).length := ⟨_, rfl⟩
                  have RN := Lib.hid hn
                  rw [← hn] at X3 x1
                  clear hi hi0 hi1 hi2 h7 hn
                  have y8 : wr.cell? ⟨bx, 0, none⟩ = some (.int .i64 (x % 4)) := X3.out.cell 0
                  have y9 : wr.cell? ⟨bx, 1, none⟩ = some (.slice a9 n c9) := X3.out.cell 1
                  have HO : RowKit.Hid (IntsIn (wr.alloc (.cells #[.int .i64 (x % 4), .slice a9 n c9] 41)) (fun b => wo.heap.size ≤ b) (.slice a9 n c9) (copU x y)) := Lib.hid (by
                    obtain ⟨a5, c5, he, hO, _⟩ := own_of_row (v := .slice a9 n c9) (D := copU x y) (by rw [RN.out]; exact R8.out)
                    have h := hO.ints.keep (S' := fun b => wo.heap.size ≤ b) ((Tn.refl (fun _ => False) wr).alloc (.cells #[.int .i64 (x % 4), .slice a9 n c9] 41)) (fun _ _ _ => id) (fun b h _ => by have := h.1; have := HBX.out; omega)
                    rwa [← he] at h)
                  have RW : RowKit.Hid (wr.ownsRow w2.heap.size 41 2 lw k (encW ps)) := Lib.hid (by
                    have h := WW.out.row
                    rw [WL.out] at h
                    exact (Tn.of_below (F := fun _ => False) B3.out).row h (fun _ _ => id))
                  have NN : RowKit.Hid (∀ j u, [Value.int .i64 (x % 4), .slice a9 n c9][j]? = some u → (wr.alloc (.cells #[.int .i64 (x % 4), .slice a9 n c9] 41)).cell? ((⟨wr.heap.size, 0, none⟩ : Addr).add j) = some u) := Lib.hid (by
                    have h := news2 wr (.int .i64 (x % 4)) (.slice a9 n c9) 41
                    exact h)
                  have hzz := B3.out.size
                  obtain ⟨hk, hk0, hk1, hk2⟩ := HK.out
                  go_wp2_with (at_builtin; go_must (refine wpList_append_lies _ rfl (.tmp 94) (.tmp 96) 29 rfl w2.heap.size 41 i41 (.agg #[.int .i64 0, .slice none 0 0]) 2 32 Try.underlying29 hk hk0 hk1 hk2 rfl (by omega) _ k _ rfl (RW.out.alloc _) ⟨wr.heap.size, 0, none⟩ 1 1 [.int .i64 (x % 4), .slice a9 n c9] rfl rfl NN.out (two_ rfl rfl) (by omega) (by unfold maxLen; omega) (by omega) (by simp; omega) (wr.heap.size + 1) (by simp) ?_))
                  intro gg cap' w9 hown hgrow hat hlt9
                  have R9 : RowKit.Hid (WB w2 w9 (.slice (some ⟨gg, 0, none⟩) (k + 1) cap') (ps ++ [(x % 4, .slice a9 n c9)]) (wantsL wl (k + 1))) := Lib.hid (by
                    have h := WW.out.step (p := x % 4) (u := .slice a9 n c9) (l := copU x y) (g := gg) (cap := cap') (W1 := wr.alloc (.cells #[.int .i64 (x % 4), .slice a9 n c9] 41)) (B3.out.alloc B3.out.size _) (by rw [WL.out]; exact hown) hgrow (by simpa using hat) HO.out
                    rw [WL.out] at h
                    rw [WS.out]
                    exact h)
                  clear hown hgrow hat hlt9 hk hk0 hk1 hk2
                  go_wp2_with fail
                  exact ⟨⟨k + 1, _, _, by omega, by omega, by go_num, rfl, R9.out⟩, by simp [intOf]; omega⟩
          · have WE := Lib.hid (wantsL_end hk1 hk2 hlt)
            have dd : decide ((k : Int) < (wl.length : Int)) = false ∨ (decide ((k : Int) < (wl.length : Int)) = true ∧ decide ((k : Int) < (m : Int)) = false ∧ decide (k < m) = false) := by
              by_cases h1 : k < wl.length
              · exact .inr ⟨by simp; omega, by simp; omega, by simp; omega⟩
              · exact .inl (by simp; omega)
            have d3 : decide (k < wl.length) = decide ((k : Int) < (wl.length : Int)) := by simp
            have FIN : RowKit.Hid (ListsE wl al m w (.returned (.tuple #[lw, lv])) wo) := Lib.hid ⟨lw, lv, w2, ps, rfl, by rw [← WE.out]; exact WW.out, by have := HS.out; omega, AT.out.below WW.out.bel (Nat.le_refl _), B1.out.trans (BW.out.mono (by have := HS.out; omega))⟩
            clear hlt
            rcases dd with d1 | ⟨d1, d2, d4⟩
            · rw [d1] at d3
              go_wp2_with fail
              go_ret2
              exact FIN.out
            · rw [d1] at d3
              go_wp2_with fail
              go_ret2
              exact FIN.out
end Go.Proofs.Ytpcmppamkgkdlaa
