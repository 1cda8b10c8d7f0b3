/- The walk of LendingLender. -/
import Derived.Test.YtdojgbpaheadnaaQLX
import Derived.Test.YtdojgbpaheadnaaQSN
import Derived.Test.YtdojgbpaheadnaaQRV
set_option linter.unusedVariables false
set_option linter.unusedSimpArgs false

namespace Go.Proofs.Ytdojgbpaheadnaa
open Go.RowKit Go.Shelf Go.Maps

/-- The two lenders side by side; x: a block that neither owns. -/
def BothX (B b rb k x : Nat) (w : World) : Prop :=
  ∃ s hv mv cv lv B1 B2, LMem w B1 b s hv mv 0 ∧ RLM w B2 rb s cv lv (2 * k) ∧ (∀ j, OwnL b hv mv j → OwnR rb cv lv j → False) ∧ s.sent ≤ k ∧ B ≤ B1 ∧ B ≤ B2 ∧ ¬ OwnL b hv mv x ∧ ¬ OwnR rb cv lv x
def Both (B b rb k : Nat) (w : World) : Prop :=
  ∃ s hv mv cv lv B1 B2, LMem w B1 b s hv mv 0 ∧ RLM w B2 rb s cv lv (2 * k) ∧ (∀ j, OwnL b hv mv j → OwnR rb cv lv j → False) ∧ s.sent ≤ k ∧ B ≤ B1 ∧ B ≤ B2
theorem Both.new {B b rb k x : Nat} {w w' : World} (h : Both B b rb k w) (hb : Below w.heap.size w w') (hx : w.heap.size ≤ x) : BothX B b rb k x w' := by
  obtain ⟨s, hv, mv, cv, lv, B1, B2, h1, h2, h3, h4, h5, h6⟩ := h
  exact ⟨s, hv, mv, cv, lv, B1, B2, h1.up hb, h2.up hb, h3, h4, h5, h6, fun e => by have := (h1.own_lt e).2; omega, fun e => by have := (h2.own_lt e).2; omega⟩
theorem BothX.up {B b rb k x : Nat} {w w' : World} (h : BothX B b rb k x w) (hb : Below w.heap.size w w') : BothX B b rb k x w' := by
  obtain ⟨s, hv, mv, cv, lv, B1, B2, h1, h2, h3⟩ := h
  exact ⟨s, hv, mv, cv, lv, B1, B2, h1.up hb, h2.up hb, h3⟩
theorem BothX.set {B b rb k x : Nat} {w w' : World} (h : BothX B b rb k x w) (t : Tn (fun j => j = x) w w') : BothX B b rb k x w' := by
  obtain ⟨s, hv, mv, cv, lv, B1, B2, h1, h2, h3, h4, h5, h6, h7, h8⟩ := h
  exact ⟨s, hv, mv, cv, lv, B1, B2, h1.keep t (fun j hj ho => h7 (by rw [← show j = x from hj]; exact ho)), h2.keep t (fun j hj ho => h8 (by rw [← show j = x from hj]; exact ho)), h3, h4, h5, h6, h7, h8⟩
theorem tn_setRow (w : World) (g : Nat) (cs : Array Value) : Tn (fun j => j = g) w (w.setRow g cs) :=
  ⟨rfl, rfl, rfl, by show _ ≤ (w.heap.modify g _).size; rw [Array.size_modify]; exact Nat.le_refl _, fun k _ hn => setRow_other _ _ _ _ (by omega)⟩
theorem encM_all (m : Msg) : (encM m).all (·.oneCell') = true := by unfold encM strV; simp [Value.oneCell']
theorem encM_inf (m : Msg) : (Try.prog.info? 31).map (·.size) = some (encM m).size := by
  rw [show (encM m).size = 4 from rfl]; kernel_rfl
set_option maxRecDepth 100000 in
set_option maxHeartbeats 30000000 in
theorem lenderLaw (L : List Act6) (bs : List Int) (a a2 : Option Addr) (cap cap2 : Nat) (w : World) (h : InA6 w a L cap) (h2 : U8 w a2 bs cap2) (hc2 : bs.length ≤ cap2 ∧ cap2 ≤ 9223372036854775807) :
    Calls Try.prog 3 #[.slice a L.length cap, .slice a2 bs.length cap2] w fun r w' => r = .returned (.bool true) ∧ Below w.heap.size w w' := by
  obtain ⟨i0, hi, hz1, hz2, hz3⟩ := info_parts info3
  have hcap := h.cap
  have hlen := h.len
  have hblen := h2.len
  have HA0 := Lib.hid h
  have HU0 := Lib.hid h2
  clear h h2
  go_enter Try.func3, Try.ntmps3
  go_wp2_with fail
  refine (sanity_any w).mono ?_
  rintro e w0 ⟨rfl, hb0⟩
  have HA := Lib.hid (HA0.out.below hb0 (Nat.le_refl _))
  have HU := Lib.hid (HU0.out.below hb0 (Nat.le_refl _))
  have B0 := Lib.hid hb0
  clear hb0 HA0 HU0
  go_wp2_with fail
  go_loopw [6, 7] (fun v i wr => ∃ (k : Nat) (D : List Int) (lv2 : Value), k ≤ bs.length ∧ k ≤ 8 ∧ i = .int .i64 k ∧ D.length = k ∧ lv2 = v ∧ wr.ownsRow w0.heap.size 3 1 lv2 D.length (D.map (Value.int .i64)) ∧ Below w0.heap.size w0 wr) (fun _ i _ => 8 - (intOf i).toNat)
  case atStart => exact ⟨0, [], _, Nat.zero_le _, by omega, rfl, rfl, rfl, World.ownsRow_nil _ _ _ _, Below.refl _ _⟩
  case round =>
    obtain ⟨k, D, v, hk, hk8, rfl, hDk, rfl, hr, hb⟩ := hrel
    have R := Lib.hid hr
    have BB := Lib.hid hb
    have HD := Lib.hid hDk
    clear hr hb hDk
    by_cases hgo : k < bs.length ∧ k < 8
    · obtain ⟨hlt, h8⟩ := hgo
      obtain ⟨b2, o2, rfl, hbl2, hcell⟩ := (HU.out.below BB.out (Nat.le_refl _)).at_.resolve_left (fun e => by rw [e] at hlt; simp at hlt)
      have hc := hcell k hlt
      have hbd := HU.out.bd k hlt
      obtain ⟨y, hy⟩ : ∃ y, y = bs.getD k 0 := ⟨_, rfl⟩
      rw [← hy] at hc hbd
      obtain ⟨va, vc, rfl, -⟩ := row_cellz R.out
      have N1 : RowKit.Hid (Blk (wr.alloc (.cells #[i64 (y % 5)] 3)) wr.heap.size #[i64 (y % 5)] 3) := Lib.hid (Blk.new _ _ _)
      have R1 : RowKit.Hid ((wr.alloc (.cells #[i64 (y % 5)] 3)).ownsRow w0.heap.size 3 1 (.slice va D.length vc) D.length (D.map (Value.int .i64))) := Lib.hid (R.out.alloc _)
      have B1 : RowKit.Hid (Below w0.heap.size w0 (wr.alloc (.cells #[i64 (y % 5)] 3))) := Lib.hid (BB.out.alloc BB.out.size _)
      have hD8 : D.length ≤ 8 := by have := HD.out; omega
      clear hcell hy
      go_wp2_with (refine wpList_append_all rfl (.tmp 26) (.tmp 33) 25 rfl w0.heap.size 3 i0 (.int .i64 0) 1 8 Try.underlying25 hi hz1 hz2 hz3 rfl (by omega) _ D.length (D.map (Value.int .i64)) rfl R1.out 1 [i64 (y % 5)] _ rfl (.inr ⟨_, _, rfl, rfl, blk_news N1.out⟩) (fun u hu => by simp at hu; rw [hu]; rfl) (by unfold maxLen; omega) (by omega) B1.out.size ?_; intro v6 w6 hown6 hg6 hat6; have B6 : RowKit.Hid (Below w0.heap.size w0 w6) := Lib.hid (B1.out.grown hg6 B1.out.size (fun j e => (row_lt R1.out j e).1)); have R6 : RowKit.Hid (w6.ownsRow w0.heap.size 3 1 v6 (D ++ [y % 5]).length ((D ++ [y % 5]).map (Value.int .i64))) := Lib.hid (by rw [List.length_append, List.map_append]; exact hown6); clear hown6 hg6 hat6)
      exact ⟨⟨k + 1, D ++ [y % 5], _, hlt, h8, by go_num, by rw [List.length_append, HD.out]; rfl, rfl, R6.out, B6.out⟩, by simp [intOf]; omega⟩
    · have hend : k = bs.length ∨ (k < bs.length ∧ k = 8) := by omega
      clear hgo
      rcases hend with rfl | ⟨hlt0, rfl⟩
      · skip
        obtain ⟨wl, hwl⟩ : ∃ wl, wl = wr := ⟨_, rfl⟩
        subst hwl
        have hD8 : D.length ≤ 8 := by have := HD.out; omega
        go_wp2_with fail
        refine (new_any 3 ⟨by omega, by omega⟩ D (by omega) _ _ wl R.out).mono ?_
        rintro e w1 ⟨b, hv0, rfl, hM, hb⟩
        have M1 := Lib.hid hM
        have T1 := Lib.hid hb
        have R1 := Lib.hid ((Tn.of_below (F := fun _ => False) hb).row R.out fun _ _ => id)
        clear hM hb
        go_wp2_with fail
        refine (rnew_any 3 ⟨by omega, by omega⟩ D (by omega) _ _ w1 R1.out).mono ?_
        rintro e w2 ⟨rb, cv0, rfl, hRM, hb⟩
        have BO : RowKit.Hid (Both w0.heap.size b rb 0 w2) := Lib.hid
          ⟨_, _, _, _, _, _, _, M1.out.up hb, hRM, fun j h1 h2 => by have := (M1.out.own_lt h1).2; have := (hRM.own_lt h2).1; omega, by simp, BB.out.size, Nat.le_trans BB.out.size T1.out.size⟩
        have B2 : RowKit.Hid (Below w0.heap.size w0 w2) := Lib.hid (BB.out.trans ((T1.out.trans (hb.mono T1.out.size)).mono BB.out.size))
        clear hRM hb M1 T1 R1 BB R
        go_wp2_with fail
        go_loopw [10] (fun i wr => ∃ k : Nat, k ≤ L.length ∧ k ≤ 60 ∧ i = .int .i64 k ∧ Both w0.heap.size b rb k wr ∧ Below w0.heap.size w0 wr) (fun i _ => 60 - (intOf i).toNat)
        case atStart => exact ⟨0, Nat.zero_le _, by omega, rfl, BO.out, B2.out⟩
        case round =>
          obtain ⟨k, hk, hk6, rfl, hBo, hb⟩ := hrel
          have BO := Lib.hid hBo
          have BB := Lib.hid hb
          clear hBo hb B2
          by_cases hgo : k < L.length ∧ k < 60
          · obtain ⟨hlt, h6⟩ := hgo
            obtain ⟨ba, oa, rfl, hbal, hact⟩ := (HA.out.below BB.out (Nat.le_refl _)).get k hlt
            obtain ⟨c, hc⟩ : ∃ c, c = L[k] := ⟨_, rfl⟩
            rw [← hc] at hact
            have AC := Lib.hid hact
            obtain ⟨a0, a1, a2, a3, a4, a5⟩ := hact
            clear hc
            go_wp2_with fail
            refine (message_any c.k c.f c.t c.a c.r c.v 3 _ ⟨by omega, by omega⟩).mono ?_
            rintro e w4 ⟨m, rfl, hmt, hmf, hb4⟩
            have hmd := hb4.size
            have NB : RowKit.Hid (Blk (w4.alloc (.cells #[i64 0, i64 0, i64 0, .string { data := #[] }] 31)) w4.heap.size #[i64 0, i64 0, i64 0, .string { data := #[] }] 31) := Lib.hid (Blk.new _ _ _)
            obtain ⟨w5, hw5⟩ : ∃ w5, w5 = (w4.alloc (.cells #[i64 0, i64 0, i64 0, .string { data := #[] }] 31)).setRow w4.heap.size (encM m) := ⟨_, rfl⟩
            have K5 : Below w4.heap.size w4 w5 := by rw [hw5]; exact belowS ((Below.refl _ _).alloc (Nat.le_refl _) _) (Nat.le_refl _)
            obtain ⟨vb, hvb⟩ : ∃ vb, vb = w4.heap.size := ⟨_, rfl⟩
            have V5 : RowKit.Hid (Blk w5 vb (encM m) 31) := Lib.hid (by rw [hw5, hvb]; exact setRow_heap _ _ _ _ _ _ NB.out)
            have Bo4 : Both w0.heap.size b rb k w4 := by
              obtain ⟨s, hv, mv, cv, lv, C1, C2, h1, h2, h3⟩ := BO.out
              exact ⟨s, hv, mv, cv, lv, C1, C2, h1.up hb4, h2.up hb4, h3⟩
            have BO5 : RowKit.Hid (BothX w0.heap.size b rb k vb w5) := Lib.hid (Bo4.new K5 (Nat.le_of_eq hvb.symm))
            have B5 : RowKit.Hid (Below w0.heap.size w0 w5) := Lib.hid ((BB.out.trans (hb4.mono BB.out.size)).trans (K5.mono (Nat.le_trans BB.out.size hb4.size)))
            have A5 : RowKit.Hid (Act6At w5 ba (oa + k * 6) c) := Lib.hid ((AC.out.below hb4 hbal).below K5 (Nat.lt_of_lt_of_le hbal hb4.size))
            have hba5 : ba < w5.heap.size := Nat.lt_of_lt_of_le hbal (Nat.le_trans hb4.size K5.size)
            have HW5 := Lib.hid hw5
            have HVB := Lib.hid hvb
            have HMT := Lib.hid hmt
            have HZ4 : RowKit.Hid (w0.heap.size ≤ w4.heap.size) := Lib.hid (Nat.le_trans BB.out.size hb4.size)
            clear hb4 hmt hmf hmd K5 Bo4 hw5 hvb a0 a1 a2 a3 a4 a5 hbal BO BB
            have a5 := A5.out.2.2.2.2.2
            have a0 := A5.out.1
            by_cases h5 : (c.v.tmod 5 != 0) = true
            · skip
              go_wp2_with (refine wpList_store_row rfl 31 (.tmp 11) (.tmp 55) rfl w4.heap.size (encM m) rfl rfl 31 _ NB.out (encM_inf m) rfl (encM_all m) ?_; rw [← HW5.out, ← HVB.out])
              obtain ⟨w6, hw6⟩ : ∃ w6, w6 = w5.alloc (.cells #[i64 2, i64 2, i64 7, i64 9, i64 11] 3) := ⟨_, rfl⟩
              obtain ⟨kb, hkb⟩ : ∃ kb, kb = w5.heap.size := ⟨_, rfl⟩
              have KB : RowKit.Hid (Blk w6 kb #[i64 2, i64 2, i64 7, i64 9, i64 11] 3) := Lib.hid (by rw [hw6, hkb]; exact Blk.new _ _ _)
              have D6 : Below w5.heap.size w5 w6 := by rw [hw6]; exact (Below.refl _ _).alloc (Nat.le_refl _) _
              have V6 := Lib.hid (V5.out.below D6 V5.out.lt)
              have BO6 := Lib.hid (BO5.out.up D6)
              have B6 : RowKit.Hid (Below w0.heap.size w0 w6) := Lib.hid (B5.out.trans (D6.mono B5.out.size))
              have A6 := Lib.hid (A5.out.below D6 hba5)
              rw [← hw6, ← hkb]
              clear hw6 hkb D6 V5 BO5 B5 A5 NB HW5 a5 a0 h5
              refine (mod_any c.k 5 w6 (by omega) (by omega)).mono ?_
              rintro e w7 ⟨rfl, rfl⟩
              obtain ⟨j, hj, hj5⟩ : ∃ j : Nat, c.k % 5 = (j : Int) ∧ j < 5 := ⟨(c.k % 5).toNat, by omega, by omega⟩
              obtain ⟨K, hK, hKs⟩ : ∃ K : Int, w6.cell? ⟨kb, j, none⟩ = some (i64 K) ∧ (K = 2 ∨ K = 7 ∨ K = 9 ∨ K = 11) := by
                rcases (by omega : j = 0 ∨ j = 1 ∨ j = 2 ∨ j = 3 ∨ j = 4) with rfl | rfl | rfl | rfl | rfl
                · exact ⟨2, KB.out.cell 0, by omega⟩
                · exact ⟨2, KB.out.cell 1, by omega⟩
                · exact ⟨7, KB.out.cell 2, by omega⟩
                · exact ⟨9, KB.out.cell 3, by omega⟩
                · exact ⟨11, KB.out.cell 4, by omega⟩
              have HK := Lib.hid hKs
              have a3 := A6.out.2.2.2.1
              rw [hj]
              clear hj hKs
              go_wp2_with fail
              refine (mod_any c.a 2 w6 (by omega) (by omega)).mono ?_
              rintro e w7 ⟨rfl, rfl⟩
              obtain ⟨A, hA⟩ : ∃ A, A = 1 + c.a % 2 := ⟨_, rfl⟩
              have HA2 : RowKit.Hid (A = 1 ∨ A = 2) := Lib.hid (by omega)
              go_wp2_with fail
              rw [← hA]
              clear hA hK a3
              obtain ⟨S, hS⟩ : ∃ S : World → Prop, S = fun W => Below w6.heap.size w6 W := ⟨_, rfl⟩
              have LD : RowKit.Hid (∀ W, S W → W.cell? ⟨ba, oa + k * 6 + 1, none⟩ = some (i64 c.f) ∧ W.cell? ⟨ba, oa + k * 6 + 4, none⟩ = some (i64 c.r)) := Lib.hid (by
                rw [hS]; exact fun W h => ⟨Below.cellE h A6.out.2.1, Below.cellE h A6.out.2.2.2.2.1⟩)
              have SS : RowKit.Hid (∀ W, S W → Below w6.heap.size w6 W) := Lib.hid (by rw [hS]; exact fun W h => h)
              have UU : RowKit.Hid (∀ W, Below w6.heap.size w6 W → S W) := Lib.hid (by rw [hS]; exact fun W h => h)
              have hHeld := UU.out _ (Below.refl w6.heap.size w6).drew
              obtain ⟨X, hX⟩ : ∃ X, X = txt K A (1 + c.r % 3) (c.f % 5) := ⟨_, rfl⟩
              have HX := Lib.hid hX
              have HXL : RowKit.Hid (X.length ≤ 50) := Lib.hid (by
                rw [hX]; refine txt_short ⟨⟨?_, ?_⟩, ⟨?_, ?_⟩, ⟨?_, ?_⟩, ⟨?_, ?_⟩⟩ <;> dsimp only <;> (have := HK.out; have := HA2.out; omega))
              have hwr : IntKind.i64.wrap (1 + c.r % 3) = 1 + c.r % 3 := by rw [IntKind.wrap_i64]; omega
              clear hS hX
              refine wp_region_sp 18 S (by kernel_rfl) (by kernel_rfl) ?_
              simp only [List.take_succ_cons, List.take_zero]
              apply wpAnyH_apart (fun W => Below w6.heap.size w6 W)
              case take =>
                intro R hR
                refine wpAnyH_take (i := 0) (v := ?_) rfl (by kernel_rfl) (by kernel_rfl) (by kernel_rfl) (fun _ _ _ h => only_panic h) (Or.inl ⟨by rfl, ?_⟩) hHeld ?_
                rotate_left
                · (intro w hSw; obtain ⟨l0, l1⟩ := LD.out w hSw; go_simp; try (with_reducible rfl))
                try simp only [List.getElem_toArray, List.getElem_cons_succ, List.getElem_cons_zero, Act.put, List.setIfInBounds_toArray, List.set_cons_zero, List.set_cons_succ]
                refine wpAnyH_take (i := 1) (v := ?_) rfl (by kernel_rfl) (by kernel_rfl) (by kernel_rfl) (fun _ _ _ h => only_panic h) (Or.inl ⟨by rfl, ?_⟩) hHeld ?_
                rotate_left
                · (intro w hSw; obtain ⟨l0, l1⟩ := LD.out w hSw; go_simp; try (with_reducible rfl))
                try simp only [List.getElem_toArray, List.getElem_cons_succ, List.getElem_cons_zero, Act.put, List.setIfInBounds_toArray, List.set_cons_zero, List.set_cons_succ]
                refine wpAnyH_take (i := 2) (v := ?_) rfl (by kernel_rfl) (by kernel_rfl) (by kernel_rfl) (fun _ _ _ h => only_panic h) (Or.inl ⟨by rfl, ?_⟩) hHeld ?_
                rotate_left
                · (intro w hSw; obtain ⟨l0, l1⟩ := LD.out w hSw; go_simp; try (with_reducible rfl))
                try simp only [List.getElem_toArray, List.getElem_cons_succ, List.getElem_cons_zero, Act.put, List.setIfInBounds_toArray, List.set_cons_zero, List.set_cons_succ]
                refine wpAnyH_take (i := 3) (v := ?_) rfl (by kernel_rfl) (by kernel_rfl) (by kernel_rfl) (fun _ _ _ h => only_panic h) (Or.inl ⟨by rfl, ?_⟩) hHeld ?_
                rotate_left
                · (intro w hSw; obtain ⟨l0, l1⟩ := LD.out w hSw; go_simp; try (with_reducible rfl))
                try simp only [List.getElem_toArray, List.getElem_cons_succ, List.getElem_cons_zero, Act.put, List.setIfInBounds_toArray, List.set_cons_zero, List.set_cons_succ]
                refine wpAnyH_take (i := 4) (v := ?_) rfl (by kernel_rfl) (by kernel_rfl) (by kernel_rfl) (fun _ _ _ h => only_panic h) (Or.inl ⟨by rfl, ?_⟩) hHeld ?_
                rotate_left
                · (intro w hSw; obtain ⟨l0, l1⟩ := LD.out w hSw; go_simp; try (with_reducible rfl))
                try simp only [List.getElem_toArray, List.getElem_cons_succ, List.getElem_cons_zero, Act.put, List.setIfInBounds_toArray, List.set_cons_zero, List.set_cons_succ]
                refine wpAnyH_take (i := 5) (v := ?_) rfl (by kernel_rfl) (by kernel_rfl) (by kernel_rfl) (fun _ _ _ h => only_panic h) (Or.inl ⟨by rfl, ?_⟩) hHeld ?_
                rotate_left
                · (intro w hSw; obtain ⟨l0, l1⟩ := LD.out w hSw; go_simp; try (with_reducible rfl))
                try simp only [List.getElem_toArray, List.getElem_cons_succ, List.getElem_cons_zero, Act.put, List.setIfInBounds_toArray, List.set_cons_zero, List.set_cons_succ]
                refine wpAnyH_take (i := 6) (v := ?_) rfl (by kernel_rfl) (by kernel_rfl) (by kernel_rfl) (fun _ _ _ h => only_panic h) (Or.inl ⟨by rfl, ?_⟩) hHeld ?_
                rotate_left
                · (intro w hSw; obtain ⟨l0, l1⟩ := LD.out w hSw; go_simp; try (with_reducible rfl))
                try simp only [List.getElem_toArray, List.getElem_cons_succ, List.getElem_cons_zero, Act.put, List.setIfInBounds_toArray, List.set_cons_zero, List.set_cons_succ]
                refine wpAnyH_take (i := 7) (v := ?_) rfl (by kernel_rfl) (by kernel_rfl) (by kernel_rfl) (fun _ _ _ h => only_panic h) (Or.inl ⟨by rfl, ?_⟩) hHeld ?_
                rotate_left
                · (intro w hSw; obtain ⟨l0, l1⟩ := LD.out w hSw; go_simp; try (with_reducible rfl))
                try simp only [List.getElem_toArray, List.getElem_cons_succ, List.getElem_cons_zero, Act.put, List.setIfInBounds_toArray, List.set_cons_zero, List.set_cons_succ]
                refine wpAnyH_take (i := 10) (v := ?_) rfl (by kernel_rfl) (by kernel_rfl) (by kernel_rfl) (fun _ _ _ h => only_panic h) (Or.inl ⟨by rfl, ?_⟩) hHeld ?_
                rotate_left
                · (intro w hSw; obtain ⟨l0, l1⟩ := LD.out w hSw; go_simp; try (with_reducible rfl))
                try simp only [List.getElem_toArray, List.getElem_cons_succ, List.getElem_cons_zero, Act.put, List.setIfInBounds_toArray, List.set_cons_zero, List.set_cons_succ]
                refine wpAnyH_take (i := 11) (v := ?_) rfl (by kernel_rfl) (by kernel_rfl) (by kernel_rfl) (fun _ _ _ h => only_panic h) (Or.inl ⟨by rfl, ?_⟩) hHeld ?_
                rotate_left
                · (intro w hSw; obtain ⟨l0, l1⟩ := LD.out w hSw; go_simp; try (with_reducible rfl))
                try simp only [List.getElem_toArray, List.getElem_cons_succ, List.getElem_cons_zero, Act.put, List.setIfInBounds_toArray, List.set_cons_zero, List.set_cons_succ]
                refine wpAnyH_take (i := 12) (v := ?_) rfl (by kernel_rfl) (by kernel_rfl) (by kernel_rfl) (fun _ _ _ h => only_panic h) (Or.inl ⟨by rfl, ?_⟩) hHeld ?_
                rotate_left
                · (intro w hSw; obtain ⟨l0, l1⟩ := LD.out w hSw; go_simp; try (with_reducible rfl))
                try simp only [List.getElem_toArray, List.getElem_cons_succ, List.getElem_cons_zero, Act.put, List.setIfInBounds_toArray, List.set_cons_zero, List.set_cons_succ]
                refine wpAnyH_take (i := 13) (v := ?_) rfl (by kernel_rfl) (by kernel_rfl) (by kernel_rfl) (fun _ _ _ h => only_panic h) (Or.inl ⟨by rfl, ?_⟩) hHeld ?_
                rotate_left
                · (intro w hSw; obtain ⟨l0, l1⟩ := LD.out w hSw; go_simp; try (with_reducible rfl))
                try simp only [List.getElem_toArray, List.getElem_cons_succ, List.getElem_cons_zero, Act.put, List.setIfInBounds_toArray, List.set_cons_zero, List.set_cons_succ]
                refine wpAnyH_take (i := 14) (v := ?_) rfl (by kernel_rfl) (by kernel_rfl) (by kernel_rfl) (fun _ _ _ h => only_panic h) (Or.inl ⟨by rfl, ?_⟩) hHeld ?_
                rotate_left
                · (intro w hSw; obtain ⟨l0, l1⟩ := LD.out w hSw; go_simp; try (with_reducible rfl))
                try simp only [List.getElem_toArray, List.getElem_cons_succ, List.getElem_cons_zero, Act.put, List.setIfInBounds_toArray, List.set_cons_zero, List.set_cons_succ]
                refine wpAnyH_one (i := 8) rfl (by kernel_rfl) (by rfl) ?_
                go_simp
                refine (mod_any c.r 3 _ (by omega) (by omega)).mono ?_
                rintro e W1 ⟨rfl, rfl⟩
                refine ⟨hHeld, ?_⟩
                refine wpAnyH_take (i := 9) (v := ?_) rfl (by kernel_rfl) (by kernel_rfl) (by kernel_rfl) (fun _ _ _ h => only_panic h) (Or.inl ⟨by rfl, ?_⟩) hHeld ?_
                rotate_left
                · (intro w hSw; clear hSw; go_simp; try (with_reducible rfl))
                try simp only [List.getElem_toArray, List.getElem_cons_succ, List.getElem_cons_zero, Act.put, List.setIfInBounds_toArray, List.set_cons_zero, List.set_cons_succ]
                refine wpAnyH_one (i := 15) rfl (by kernel_rfl) (by rfl) ?_
                go_simp
                refine (mod_any c.f 5 _ (by omega) (by omega)).mono ?_
                rintro e W1 ⟨rfl, rfl⟩
                refine ⟨hHeld, ?_⟩
                refine wpAnyH_one (i := 16) rfl (by kernel_rfl) (by rfl) ?_
                go_simp
                refine (text_any K A (1 + c.r % 3) (c.f % 5) _ ⟨by have := HK.out; omega, by have := HK.out; omega⟩ ⟨by have := HA2.out; omega, by have := HA2.out; omega⟩ ⟨by omega, by omega⟩ ⟨by omega, by omega⟩).mono ?_
                rw [← HX.out]
                rintro e W3 ⟨rfl, hb⟩
                have B3 := Lib.hid ((Below.refl w6.heap.size w6).drew.trans hb)
                have hHeld := UU.out _ B3.out
                clear hb
                refine ⟨hHeld, ?_⟩
                refine wpAnyH_take (i := 17) (v := ?_) rfl (by kernel_rfl) (by kernel_rfl) (by kernel_rfl) (fun _ _ _ h => only_panic h) (Or.inl ⟨by rfl, ?_⟩) hHeld ?_
                rotate_left
                · (intro w hSw; clear hSw; go_simp; try (with_reducible rfl))
                try simp only [List.getElem_toArray, List.getElem_cons_succ, List.getElem_cons_zero, Act.put, List.setIfInBounds_toArray, List.set_cons_zero, List.set_cons_succ]
                exact wpAnyH_done (by kernel_rfl) ⟨rfl, hR _ B3.out⟩ _
              rintro W hW
              have V7 := Lib.hid (V6.out.below hW V6.out.lt)
              obtain ⟨w7, hw7⟩ : ∃ w7, w7 = W.setRow vb (encM ⟨A, 3, 0, X⟩) := ⟨_, rfl⟩
              have V7' : RowKit.Hid (Blk w7 vb (encM ⟨A, 3, 0, X⟩) 31) := Lib.hid (by rw [hw7]; exact setRow_heap _ _ _ _ _ _ V7.out)
              have T7 : Tn (fun j => j = vb) W w7 := by rw [hw7]; exact tn_setRow _ _ _
              have BO7 := Lib.hid ((BO6.out.up hW).set T7)
              have hvl : w0.heap.size ≤ vb := by rw [HVB.out]; exact HZ4.out
              have B7 : RowKit.Hid (Below w0.heap.size w0 w7) := Lib.hid ((B6.out.trans (hW.mono B6.out.size)).trans (T7.below (Nat.le_trans B6.out.size hW.size) fun j hj => by rw [hj]; exact hvl))
              have HW7 := Lib.hid hw7
              have f7 : w7.frozen? ⟨vb, 0, none⟩ = false := V7'.out.frozen 0
              have c7 : w7.cell? ⟨vb, 0, none⟩ = some (i64 A) := V7'.out.cell 0
              have l7 : vb < w7.heap.size := V7'.out.lt
              clear hW T7 hw7 hHeld LD SS UU V6 BO6 B6 hwr
              simp only [endN, List.drop_succ_cons, List.drop_zero, Act.put, List.setIfInBounds_toArray, List.set_cons_zero, List.set_cons_succ]
              by_cases hK2 : K = 2
              · subst hK2
                go_wp2_with (refine wpList_store_row rfl 31 (.tmp 11) (.tmp 97) rfl vb (encM ⟨A, 3, 0, X⟩) rfl rfl 31 _ V7.out (encM_inf _) rfl (encM_all _) ?_; rw [← HW7.out])
                obtain ⟨w8, hw8⟩ : ∃ w8, w8 = w7.setCell ⟨vb, 0, none⟩ (i64 0) := ⟨_, rfl⟩
                obtain ⟨m8, hm8⟩ : ∃ m8 : Msg, m8 = ⟨0, 3, 0, X⟩ := ⟨_, rfl⟩
                have V8 : RowKit.Hid (Blk w8 vb (encM m8) 31) := Lib.hid (by rw [hw8, hm8]; exact (V7'.out.set 0 (i64 0)).cast rfl)
                have T8 : Tn (fun j => j = vb) w7 w8 := by rw [hw8]; exact (Tn.refl (fun j => j = vb) w7).setCell (p := ⟨vb, 0, none⟩) (.inl rfl) _
                have BO8 := Lib.hid (BO7.out.set T8)
                have B8 : RowKit.Hid (Below w0.heap.size w0 w8) := Lib.hid (B7.out.trans (T8.below B7.out.size fun j hj => by rw [hj]; exact hvl))
                have HT8 : RowKit.Hid (m8.text.length ≤ 1000) := Lib.hid (by rw [hm8]; have := HXL.out; dsimp only; omega)
                rw [← hw8]
                clear hw8 hm8 T8 f7 c7 l7 BO7 B7 V7 V7' HW7
                obtain ⟨s, hv, mv, cv, lv, C1, C2, hM, hR, hd, hs, hC1, hC2, hx1, hx2⟩ := BO8.out
                have M := Lib.hid hM
                have R8 := Lib.hid hR
                have D8 := Lib.hid hd
                have X1 := Lib.hid hx1
                have X2 := Lib.hid hx2
                have CC : RowKit.Hid (w0.heap.size ≤ C1 ∧ w0.heap.size ≤ C2) := Lib.hid ⟨hC1, hC2⟩
                have HS := Lib.hid hs
                clear hM hR hd hC1 hC2 hx1 hx2 hs BO8
                obtain ⟨S, hS⟩ : ∃ S : World → Prop, S = fun W => Blk W vb (encM m8) 31 := ⟨_, rfl⟩
                have LB : RowKit.Hid (∀ W, S W → Blk W vb (encM m8) 31) := Lib.hid (by rw [hS]; exact fun W h => h)
                have UU : RowKit.Hid (∀ W, Blk W vb (encM m8) 31 → S W) := Lib.hid (by rw [hS]; exact fun W h => h)
                have hHeld : S w8.drew := UU.out _ V8.out.drew
                clear hS
                refine wp_region_held_drew (S := S) (by kernel_rfl) hHeld (fun _ => ?_)
                apply wpAnyH_apartV4 (fun W => Both w0.heap.size b rb (k + 1) W ∧ Below w0.heap.size w0 W)
                case take =>
                  intro R hR
                  refine wpAnyH_take (i := 0) (v := ?_) rfl (by kernel_rfl) (by kernel_rfl) (by kernel_rfl) (fun _ _ _ h => only_panic h) (Or.inl ⟨by rfl, ?_⟩) hHeld ?_
                  rotate_left
                  · (intro w hSw; clear hSw; go_simp; try (with_reducible rfl))
                  try simp only [List.getElem_toArray, List.getElem_cons_succ, List.getElem_cons_zero, Act.put, List.setIfInBounds_toArray, List.set_cons_zero, List.set_cons_succ]
                  refine wpAnyH_take (i := 3) (v := ?_) rfl (by kernel_rfl) (by kernel_rfl) (by kernel_rfl) (fun _ _ _ h => only_panic h) (Or.inl ⟨by rfl, ?_⟩) hHeld ?_
                  rotate_left
                  · (intro w hSw; clear hSw; go_simp; try (with_reducible rfl))
                  try simp only [List.getElem_toArray, List.getElem_cons_succ, List.getElem_cons_zero, Act.put, List.setIfInBounds_toArray, List.set_cons_zero, List.set_cons_succ]
                  refine wpAnyH_take (i := 1) (v := .agg (encM m8)) rfl (by kernel_rfl) (by kernel_rfl) (by kernel_rfl) (fun _ _ _ h => only_panic h) ?_ hHeld ?_
                  · exact yields_row (.tmp 11) (by rfl) rfl rfl LB.out Try.underlying31 rfl (encM_inf m8)
                  try simp only [List.getElem_toArray, List.getElem_cons_succ, List.getElem_cons_zero, Act.put, List.setIfInBounds_toArray, List.set_cons_zero, List.set_cons_succ]
                  refine wpAnyH_take (i := 4) (v := .agg (encM m8)) rfl (by kernel_rfl) (by kernel_rfl) (by kernel_rfl) (fun _ _ _ h => only_panic h) ?_ hHeld ?_
                  · exact yields_row (.tmp 11) (by rfl) rfl rfl LB.out Try.underlying31 rfl (encM_inf m8)
                  try simp only [List.getElem_toArray, List.getElem_cons_succ, List.getElem_cons_zero, Act.put, List.setIfInBounds_toArray, List.set_cons_zero, List.set_cons_succ]
                  refine wpAnyH_one (i := 2) rfl (by kernel_rfl) (by rfl) ?_
                  go_simp
                  have MD := M.out.up (Below.refl w8.heap.size w8).drew
                  have RD := R8.out.up (Below.refl w8.heap.size w8).drew
                  refine (take_any C1 b s hv mv m8 w8.drew MD (Nat.le_trans M.out.lo (Nat.le_of_lt M.out.blk.lt)) (by have := HS.out; omega) (by have := HT8.out; omega)).mono ?_
                  rintro e W1 ⟨v1, hv1, mv1, rfl, hm1, hM1, hT1, hO1⟩
                  have RK := RD.keep hT1 fun j h1 h2 => D8.out j h1 h2
                  have hHeld := UU.out _ (hT1.blk V8.out.drew X1.out)
                  refine ⟨hHeld, ?_⟩
                  refine wpAnyH_one (i := 5) rfl (by kernel_rfl) (by rfl) ?_
                  go_simp
                  refine (rTake_any C2 rb (2 * k) s cv lv m8 W1 RK (Nat.le_trans RK.lo (Nat.le_of_lt RK.blk.lt)) (by omega) (by have := HT8.out; omega)).mono ?_
                  rintro e W2 ⟨v2, cv2, lv2, rfl, hm2, hR2, hT2, hO2⟩
                  have hz1 : w8.heap.size ≤ W1.heap.size := hT1.size
                  have MK := hM1.keep hT2 fun j h1 h2 => by
                    rcases hO1 j h2 with h3 | h3
                    · exact D8.out j h3 h1
                    · have := (R8.out.own_lt h1).2
                      have h3' : w8.heap.size ≤ j := h3
                      omega
                  have hHeld := UU.out _ (hT2.blk (LB.out _ hHeld) X2.out)
                  have hS1 : MSl W2 v1 (s.take m8).2 := hm1.sl.tn hT2 fun g n c e1 h1 => by
                    rcases hq : (s.take m8).2 with _ | ⟨x, _ | ⟨y, l⟩⟩
                    · rw [hq] at hm1; rw [show v1 = _ from hm1] at e1; cases e1
                    · rw [hq] at hm1
                      obtain ⟨g', hg', e2, _⟩ := hm1
                      rw [e2] at e1; injection e1 with e1; injection e1 with e1; injection e1 with e1; subst e1
                      have := (R8.out.own_lt h1).2
                      have h3' : w8.heap.size ≤ g' := hg'
                      omega
                    · rw [hq] at hm1; exact hm1.elim
                  have SM := Lib.hid (msame_any v1 v2 (s.take m8).2 W2 hS1 hm2.sl (by have := (s.take_len m8).2.2; omega))
                  have D2 : RowKit.Hid (∀ j, OwnL b hv1 mv1 j → OwnR rb cv2 lv2 j → False) := Lib.hid fun j h1 h2 => by
                    rcases hO2 j h2 with h3 | h3
                    · rcases hO1 j h1 with h4 | h4
                      · exact D8.out j h4 h3
                      · have := (R8.out.own_lt h3).2
                        have h4' : w8.heap.size ≤ j := h4
                        omega
                    · have := (hM1.own_lt h1).2; omega
                  have T2 : RowKit.Hid (Below w0.heap.size w0 W2) := Lib.hid (B8.out.trans (((Below.refl w8.heap.size w8).drew.mono B8.out.size).trans ((hT1.below (B := w0.heap.size) B8.out.size fun j hj => Nat.le_trans CC.out.1 (M.out.own_lt hj).1).trans (hT2.below (B := w0.heap.size) (Nat.le_trans B8.out.size hz1) fun j hj => Nat.le_trans CC.out.2 (R8.out.own_lt hj).1))))
                  have M2 := Lib.hid MK
                  have R2 := Lib.hid (hR2.mono (N' := 2 * (k + 1)) (by omega) (by omega))
                  obtain ⟨s1, hs1⟩ : ∃ s1, s1 = (s.take m8).1 := ⟨_, rfl⟩
                  have HS1 : RowKit.Hid (s1.sent ≤ k + 1) := Lib.hid (by rw [hs1]; have := (s.take_len m8).1; have := HS.out; omega)
                  rw [← hs1] at M2 R2
                  clear hS1 MK RK hM1 hR2 hT1 hT2 hO1 hO2 hm1 hm2 MD RD hz1 hs1
                  refine ⟨hHeld, ?_⟩
                  refine wpAnyH_one (i := 6) rfl (by kernel_rfl) (by rfl) ?_
                  go_simp
                  refine SM.out.mono ?_
                  rintro e W3 ⟨rfl, hb3⟩
                  have M3 := Lib.hid (M2.out.up hb3)
                  have R3 := Lib.hid (R2.out.up hb3)
                  have T3 : RowKit.Hid (Below w0.heap.size w0 W3) := Lib.hid (T2.out.trans (hb3.mono T2.out.size))
                  have hHeld := UU.out _ ((LB.out _ hHeld).below hb3 (LB.out _ hHeld).lt)
                  clear hb3 SM
                  refine ⟨hHeld, ?_⟩
                  refine wpAnyH_take (i := 7) (v := ?_) rfl (by kernel_rfl) (by kernel_rfl) (by kernel_rfl) (fun _ _ _ h => only_panic h) (Or.inl ⟨by rfl, ?_⟩) hHeld ?_
                  rotate_left
                  · (intro w hSw; clear hSw; go_simp; try (with_reducible rfl))
                  try simp only [List.getElem_toArray, List.getElem_cons_succ, List.getElem_cons_zero, Act.put, List.setIfInBounds_toArray, List.set_cons_zero, List.set_cons_succ]
                  refine wpAnyH_take (i := 8) (v := ?_) rfl (by kernel_rfl) (by kernel_rfl) (by kernel_rfl) (fun _ _ _ h => only_panic h) (Or.inl ⟨by rfl, ?_⟩) hHeld ?_
                  rotate_left
                  · (intro w hSw; clear hSw; go_simp; try (with_reducible rfl))
                  try simp only [List.getElem_toArray, List.getElem_cons_succ, List.getElem_cons_zero, Act.put, List.setIfInBounds_toArray, List.set_cons_zero, List.set_cons_succ]
                  refine wpAnyH_take (i := 9) (v := ?_) rfl (by kernel_rfl) (by kernel_rfl) (by kernel_rfl) (fun _ _ _ h => only_panic h) (Or.inl ⟨by rfl, ?_⟩) hHeld ?_
                  rotate_left
                  · (intro w hSw; clear hSw; go_simp; try (with_reducible rfl))
                  try simp only [List.getElem_toArray, List.getElem_cons_succ, List.getElem_cons_zero, Act.put, List.setIfInBounds_toArray, List.set_cons_zero, List.set_cons_succ]
                  refine wpAnyH_take (i := 11) (v := ?_) rfl (by kernel_rfl) (by kernel_rfl) (by kernel_rfl) (fun _ _ _ h => only_panic h) (Or.inl ⟨by rfl, ?_⟩) hHeld ?_
                  rotate_left
                  · (intro w hSw; clear hSw; go_simp; try (with_reducible rfl))
                  try simp only [List.getElem_toArray, List.getElem_cons_succ, List.getElem_cons_zero, Act.put, List.setIfInBounds_toArray, List.set_cons_zero, List.set_cons_succ]
                  refine wpAnyH_one (i := 10) rfl (by kernel_rfl) (by rfl) ?_
                  go_simp
                  refine (here_any C1 b 0 s1 hv1 mv1 W3 M3.out (by have := M3.out.len; have := HS1.out; omega)).mono ?_
                  rintro e W4 ⟨v3, rfl, hr4, hb4⟩
                  have Q4 := Lib.hid hr4
                  have R4 := Lib.hid (R3.out.up hb4)
                  have M4 := Lib.hid (M3.out.up hb4)
                  have T4 : RowKit.Hid (Below w0.heap.size w0 W4) := Lib.hid (T3.out.trans (hb4.mono T3.out.size))
                  have hHeld := UU.out _ ((LB.out _ hHeld).below hb4 (LB.out _ hHeld).lt)
                  clear hr4 hb4
                  refine ⟨hHeld, ?_⟩
                  refine wpAnyH_one (i := 12) rfl (by kernel_rfl) (by rfl) ?_
                  go_simp
                  refine (rHere_any C2 rb (2 * (k + 1)) s1 cv2 lv2 W4 R4.out).mono ?_
                  rintro e W5 ⟨v4, rfl, hr5, hb5⟩
                  have IS := Lib.hid (isame_any v3 v4 s1.here W5 ((Tn.of_below (F := fun _ => False) hb5).row Q4.out fun _ _ => id) hr5 (by have := M3.out.len; have := HS1.out; omega))
                  have R5 := Lib.hid (R4.out.up hb5)
                  have M5 := Lib.hid (M4.out.up hb5)
                  have T5 : RowKit.Hid (Below w0.heap.size w0 W5) := Lib.hid (T4.out.trans (hb5.mono T4.out.size))
                  have hHeld := UU.out _ ((LB.out _ hHeld).below hb5 (LB.out _ hHeld).lt)
                  clear hr5 hb5
                  refine ⟨hHeld, ?_⟩
                  refine wpAnyH_one (i := 13) rfl (by kernel_rfl) (by rfl) ?_
                  go_simp
                  refine IS.out.mono ?_
                  rintro e W6 ⟨rfl, hb6⟩
                  have FB : RowKit.Hid (Both w0.heap.size b rb (k + 1) W6 ∧ Below w0.heap.size w0 W6) := Lib.hid
                    ⟨⟨s1, hv1, mv1, cv2, lv2, C1, C2, M5.out.up hb6, R5.out.up hb6, D2.out, by have := HS1.out; omega, CC.out.1, CC.out.2⟩, T5.out.trans (hb6.mono T5.out.size)⟩
                  have hHeld := UU.out _ ((LB.out _ hHeld).below hb6 (LB.out _ hHeld).lt)
                  clear hb6 IS
                  refine ⟨hHeld, ?_⟩
                  refine wpAnyH_take (i := 14) (v := ?_) rfl (by kernel_rfl) (by kernel_rfl) (by kernel_rfl) (fun _ _ _ h => only_panic h) (Or.inl ⟨by rfl, ?_⟩) hHeld ?_
                  rotate_left
                  · (intro w hSw; clear hSw; go_simp; try (with_reducible rfl))
                  try simp only [List.getElem_toArray, List.getElem_cons_succ, List.getElem_cons_zero, Act.put, List.setIfInBounds_toArray, List.set_cons_zero, List.set_cons_succ]
                  refine wpAnyH_take (i := 15) (v := ?_) rfl (by kernel_rfl) (by kernel_rfl) (by kernel_rfl) (fun _ _ _ h => only_panic h) (Or.inl ⟨by rfl, ?_⟩) hHeld ?_
                  rotate_left
                  · (intro w hSw; clear hSw; go_simp; try (with_reducible rfl))
                  try simp only [List.getElem_toArray, List.getElem_cons_succ, List.getElem_cons_zero, Act.put, List.setIfInBounds_toArray, List.set_cons_zero, List.set_cons_succ]
                  refine wpAnyH_take (i := 16) (v := ?_) rfl (by kernel_rfl) (by kernel_rfl) (by kernel_rfl) (fun _ _ _ h => only_panic h) (Or.inl ⟨by rfl, ?_⟩) hHeld ?_
                  rotate_left
                  · (intro w hSw; clear hSw; go_simp; try (with_reducible rfl))
                  try simp only [List.getElem_toArray, List.getElem_cons_succ, List.getElem_cons_zero, Act.put, List.setIfInBounds_toArray, List.set_cons_zero, List.set_cons_succ]
                  refine wpAnyH_take (i := 17) (v := ?_) rfl (by kernel_rfl) (by kernel_rfl) (by kernel_rfl) (fun _ _ _ h => only_panic h) (Or.inl ⟨by rfl, ?_⟩) hHeld ?_
                  rotate_left
                  · (intro w hSw; clear hSw; go_simp; try (with_reducible rfl))
                  try simp only [List.getElem_toArray, List.getElem_cons_succ, List.getElem_cons_zero, Act.put, List.setIfInBounds_toArray, List.set_cons_zero, List.set_cons_succ]
                  refine wpAnyH_one (i := 18) rfl (by kernel_rfl) (by rfl) ?_
                  go_simp
                  refine (tick_any b W6).mono ?_
                  rintro e W7 ⟨rfl, rfl⟩
                  refine ⟨hHeld, ?_⟩
                  refine wpAnyH_take (i := 19) (v := ?_) rfl (by kernel_rfl) (by kernel_rfl) (by kernel_rfl) (fun _ _ _ h => only_panic h) (Or.inl ⟨by rfl, ?_⟩) hHeld ?_
                  rotate_left
                  · (intro w hSw; clear hSw; go_simp; try (with_reducible rfl))
                  try simp only [List.getElem_toArray, List.getElem_cons_succ, List.getElem_cons_zero, Act.put, List.setIfInBounds_toArray, List.set_cons_zero, List.set_cons_succ]
                  refine wpAnyH_take (i := 20) (v := ?_) rfl (by kernel_rfl) (by kernel_rfl) (by kernel_rfl) (fun _ _ _ h => only_panic h) (Or.inl ⟨by rfl, ?_⟩) hHeld ?_
                  rotate_left
                  · (intro w hSw; clear hSw; go_simp; try (with_reducible rfl))
                  try simp only [List.getElem_toArray, List.getElem_cons_succ, List.getElem_cons_zero, Act.put, List.setIfInBounds_toArray, List.set_cons_zero, List.set_cons_succ]
                  refine wpAnyH_take (i := 21) (v := ?_) rfl (by kernel_rfl) (by kernel_rfl) (by kernel_rfl) (fun _ _ _ h => only_panic h) (Or.inl ⟨by rfl, ?_⟩) hHeld ?_
                  rotate_left
                  · (intro w hSw; clear hSw; go_simp; try (with_reducible rfl))
                  try simp only [List.getElem_toArray, List.getElem_cons_succ, List.getElem_cons_zero, Act.put, List.setIfInBounds_toArray, List.set_cons_zero, List.set_cons_succ]
                  exact wpAnyH_done (by kernel_rfl) ⟨rfl, hR v1 v2 v3 v4 _ FB.out⟩ _
                case rest =>
                  rintro x y z u W ⟨hB, hb⟩
                  have BN := Lib.hid hB
                  have TN := Lib.hid hb
                  clear hB hb
                  go_wp2_with fail
                  exact ⟨⟨k + 1, hlt, h6, by go_num, BN.out, TN.out⟩, by simp [intOf]; omega⟩
              · have eK : (K == 2) = false := by simpa using hK2
                obtain ⟨m8, hm8⟩ : ∃ m8 : Msg, m8 = ⟨A, 3, 0, X⟩ := ⟨_, rfl⟩
                obtain ⟨w8, hw8⟩ : ∃ w8, w8 = w7 := ⟨_, rfl⟩
                subst hw8
                clear hK2
                go_wp2_with (refine wpList_store_row rfl 31 (.tmp 11) (.tmp 97) rfl vb (encM ⟨A, 3, 0, X⟩) rfl rfl 31 _ V7.out (encM_inf _) rfl (encM_all _) ?_; rw [← HW7.out])
                have V8 : RowKit.Hid (Blk w8 vb (encM m8) 31) := Lib.hid (by rw [hm8]; exact V7'.out)
                have BO8 := BO7
                have B8 := B7
                have HT8 : RowKit.Hid (m8.text.length ≤ 1000) := Lib.hid (by rw [hm8]; have := HXL.out; dsimp only; omega)
                clear hm8 f7 c7 l7 BO7 B7 V7 V7' HW7 eK
                obtain ⟨s, hv, mv, cv, lv, C1, C2, hM, hR, hd, hs, hC1, hC2, hx1, hx2⟩ := BO8.out
                have M := Lib.hid hM
                have R8 := Lib.hid hR
                have D8 := Lib.hid hd
                have X1 := Lib.hid hx1
                have X2 := Lib.hid hx2
                have CC : RowKit.Hid (w0.heap.size ≤ C1 ∧ w0.heap.size ≤ C2) := Lib.hid ⟨hC1, hC2⟩
                have HS := Lib.hid hs
                clear hM hR hd hC1 hC2 hx1 hx2 hs BO8
                obtain ⟨S, hS⟩ : ∃ S : World → Prop, S = fun W => Blk W vb (encM m8) 31 := ⟨_, rfl⟩
                have LB : RowKit.Hid (∀ W, S W → Blk W vb (encM m8) 31) := Lib.hid (by rw [hS]; exact fun W h => h)
                have UU : RowKit.Hid (∀ W, Blk W vb (encM m8) 31 → S W) := Lib.hid (by rw [hS]; exact fun W h => h)
                have hHeld : S w8.drew := UU.out _ V8.out.drew
                clear hS
                refine wp_region_held_drew (S := S) (by kernel_rfl) hHeld (fun _ => ?_)
                apply wpAnyH_apartV4 (fun W => Both w0.heap.size b rb (k + 1) W ∧ Below w0.heap.size w0 W)
                case take =>
                  intro R hR
                  refine wpAnyH_take (i := 0) (v := ?_) rfl (by kernel_rfl) (by kernel_rfl) (by kernel_rfl) (fun _ _ _ h => only_panic h) (Or.inl ⟨by rfl, ?_⟩) hHeld ?_
                  rotate_left
                  · (intro w hSw; clear hSw; go_simp; try (with_reducible rfl))
                  try simp only [List.getElem_toArray, List.getElem_cons_succ, List.getElem_cons_zero, Act.put, List.setIfInBounds_toArray, List.set_cons_zero, List.set_cons_succ]
                  refine wpAnyH_take (i := 3) (v := ?_) rfl (by kernel_rfl) (by kernel_rfl) (by kernel_rfl) (fun _ _ _ h => only_panic h) (Or.inl ⟨by rfl, ?_⟩) hHeld ?_
                  rotate_left
                  · (intro w hSw; clear hSw; go_simp; try (with_reducible rfl))
                  try simp only [List.getElem_toArray, List.getElem_cons_succ, List.getElem_cons_zero, Act.put, List.setIfInBounds_toArray, List.set_cons_zero, List.set_cons_succ]
                  refine wpAnyH_take (i := 1) (v := .agg (encM m8)) rfl (by kernel_rfl) (by kernel_rfl) (by kernel_rfl) (fun _ _ _ h => only_panic h) ?_ hHeld ?_
                  · exact yields_row (.tmp 11) (by rfl) rfl rfl LB.out Try.underlying31 rfl (encM_inf m8)
                  try simp only [List.getElem_toArray, List.getElem_cons_succ, List.getElem_cons_zero, Act.put, List.setIfInBounds_toArray, List.set_cons_zero, List.set_cons_succ]
                  refine wpAnyH_take (i := 4) (v := .agg (encM m8)) rfl (by kernel_rfl) (by kernel_rfl) (by kernel_rfl) (fun _ _ _ h => only_panic h) ?_ hHeld ?_
                  · exact yields_row (.tmp 11) (by rfl) rfl rfl LB.out Try.underlying31 rfl (encM_inf m8)
                  try simp only [List.getElem_toArray, List.getElem_cons_succ, List.getElem_cons_zero, Act.put, List.setIfInBounds_toArray, List.set_cons_zero, List.set_cons_succ]
                  refine wpAnyH_one (i := 2) rfl (by kernel_rfl) (by rfl) ?_
                  go_simp
                  have MD := M.out.up (Below.refl w8.heap.size w8).drew
                  have RD := R8.out.up (Below.refl w8.heap.size w8).drew
                  refine (take_any C1 b s hv mv m8 w8.drew MD (Nat.le_trans M.out.lo (Nat.le_of_lt M.out.blk.lt)) (by have := HS.out; omega) (by have := HT8.out; omega)).mono ?_
                  rintro e W1 ⟨v1, hv1, mv1, rfl, hm1, hM1, hT1, hO1⟩
                  have RK := RD.keep hT1 fun j h1 h2 => D8.out j h1 h2
                  have hHeld := UU.out _ (hT1.blk V8.out.drew X1.out)
                  refine ⟨hHeld, ?_⟩
                  refine wpAnyH_one (i := 5) rfl (by kernel_rfl) (by rfl) ?_
                  go_simp
                  refine (rTake_any C2 rb (2 * k) s cv lv m8 W1 RK (Nat.le_trans RK.lo (Nat.le_of_lt RK.blk.lt)) (by omega) (by have := HT8.out; omega)).mono ?_
                  rintro e W2 ⟨v2, cv2, lv2, rfl, hm2, hR2, hT2, hO2⟩
                  have hz1 : w8.heap.size ≤ W1.heap.size := hT1.size
                  have MK := hM1.keep hT2 fun j h1 h2 => by
                    rcases hO1 j h2 with h3 | h3
                    · exact D8.out j h3 h1
                    · have := (R8.out.own_lt h1).2
                      have h3' : w8.heap.size ≤ j := h3
                      omega
                  have hHeld := UU.out _ (hT2.blk (LB.out _ hHeld) X2.out)
                  have hS1 : MSl W2 v1 (s.take m8).2 := hm1.sl.tn hT2 fun g n c e1 h1 => by
                    rcases hq : (s.take m8).2 with _ | ⟨x, _ | ⟨y, l⟩⟩
                    · rw [hq] at hm1; rw [show v1 = _ from hm1] at e1; cases e1
                    · rw [hq] at hm1
                      obtain ⟨g', hg', e2, _⟩ := hm1
                      rw [e2] at e1; injection e1 with e1; injection e1 with e1; injection e1 with e1; subst e1
                      have := (R8.out.own_lt h1).2
                      have h3' : w8.heap.size ≤ g' := hg'
                      omega
                    · rw [hq] at hm1; exact hm1.elim
                  have SM := Lib.hid (msame_any v1 v2 (s.take m8).2 W2 hS1 hm2.sl (by have := (s.take_len m8).2.2; omega))
                  have D2 : RowKit.Hid (∀ j, OwnL b hv1 mv1 j → OwnR rb cv2 lv2 j → False) := Lib.hid fun j h1 h2 => by
                    rcases hO2 j h2 with h3 | h3
                    · rcases hO1 j h1 with h4 | h4
                      · exact D8.out j h4 h3
                      · have := (R8.out.own_lt h3).2
                        have h4' : w8.heap.size ≤ j := h4
                        omega
                    · have := (hM1.own_lt h1).2; omega
                  have T2 : RowKit.Hid (Below w0.heap.size w0 W2) := Lib.hid (B8.out.trans (((Below.refl w8.heap.size w8).drew.mono B8.out.size).trans ((hT1.below (B := w0.heap.size) B8.out.size fun j hj => Nat.le_trans CC.out.1 (M.out.own_lt hj).1).trans (hT2.below (B := w0.heap.size) (Nat.le_trans B8.out.size hz1) fun j hj => Nat.le_trans CC.out.2 (R8.out.own_lt hj).1))))
                  have M2 := Lib.hid MK
                  have R2 := Lib.hid (hR2.mono (N' := 2 * (k + 1)) (by omega) (by omega))
                  obtain ⟨s1, hs1⟩ : ∃ s1, s1 = (s.take m8).1 := ⟨_, rfl⟩
                  have HS1 : RowKit.Hid (s1.sent ≤ k + 1) := Lib.hid (by rw [hs1]; have := (s.take_len m8).1; have := HS.out; omega)
                  rw [← hs1] at M2 R2
                  clear hS1 MK RK hM1 hR2 hT1 hT2 hO1 hO2 hm1 hm2 MD RD hz1 hs1
                  refine ⟨hHeld, ?_⟩
                  refine wpAnyH_one (i := 6) rfl (by kernel_rfl) (by rfl) ?_
                  go_simp
                  refine SM.out.mono ?_
                  rintro e W3 ⟨rfl, hb3⟩
                  have M3 := Lib.hid (M2.out.up hb3)
                  have R3 := Lib.hid (R2.out.up hb3)
                  have T3 : RowKit.Hid (Below w0.heap.size w0 W3) := Lib.hid (T2.out.trans (hb3.mono T2.out.size))
                  have hHeld := UU.out _ ((LB.out _ hHeld).below hb3 (LB.out _ hHeld).lt)
                  clear hb3 SM
                  refine ⟨hHeld, ?_⟩
                  refine wpAnyH_take (i := 7) (v := ?_) rfl (by kernel_rfl) (by kernel_rfl) (by kernel_rfl) (fun _ _ _ h => only_panic h) (Or.inl ⟨by rfl, ?_⟩) hHeld ?_
                  rotate_left
                  · (intro w hSw; clear hSw; go_simp; try (with_reducible rfl))
                  try simp only [List.getElem_toArray, List.getElem_cons_succ, List.getElem_cons_zero, Act.put, List.setIfInBounds_toArray, List.set_cons_zero, List.set_cons_succ]
                  refine wpAnyH_take (i := 8) (v := ?_) rfl (by kernel_rfl) (by kernel_rfl) (by kernel_rfl) (fun _ _ _ h => only_panic h) (Or.inl ⟨by rfl, ?_⟩) hHeld ?_
                  rotate_left
                  · (intro w hSw; clear hSw; go_simp; try (with_reducible rfl))
                  try simp only [List.getElem_toArray, List.getElem_cons_succ, List.getElem_cons_zero, Act.put, List.setIfInBounds_toArray, List.set_cons_zero, List.set_cons_succ]
                  refine wpAnyH_take (i := 9) (v := ?_) rfl (by kernel_rfl) (by kernel_rfl) (by kernel_rfl) (fun _ _ _ h => only_panic h) (Or.inl ⟨by rfl, ?_⟩) hHeld ?_
                  rotate_left
                  · (intro w hSw; clear hSw; go_simp; try (with_reducible rfl))
                  try simp only [List.getElem_toArray, List.getElem_cons_succ, List.getElem_cons_zero, Act.put, List.setIfInBounds_toArray, List.set_cons_zero, List.set_cons_succ]
                  refine wpAnyH_take (i := 11) (v := ?_) rfl (by kernel_rfl) (by kernel_rfl) (by kernel_rfl) (fun _ _ _ h => only_panic h) (Or.inl ⟨by rfl, ?_⟩) hHeld ?_
                  rotate_left
                  · (intro w hSw; clear hSw; go_simp; try (with_reducible rfl))
                  try simp only [List.getElem_toArray, List.getElem_cons_succ, List.getElem_cons_zero, Act.put, List.setIfInBounds_toArray, List.set_cons_zero, List.set_cons_succ]
                  refine wpAnyH_one (i := 10) rfl (by kernel_rfl) (by rfl) ?_
                  go_simp
                  refine (here_any C1 b 0 s1 hv1 mv1 W3 M3.out (by have := M3.out.len; have := HS1.out; omega)).mono ?_
                  rintro e W4 ⟨v3, rfl, hr4, hb4⟩
                  have Q4 := Lib.hid hr4
                  have R4 := Lib.hid (R3.out.up hb4)
                  have M4 := Lib.hid (M3.out.up hb4)
                  have T4 : RowKit.Hid (Below w0.heap.size w0 W4) := Lib.hid (T3.out.trans (hb4.mono T3.out.size))
                  have hHeld := UU.out _ ((LB.out _ hHeld).below hb4 (LB.out _ hHeld).lt)
                  clear hr4 hb4
                  refine ⟨hHeld, ?_⟩
                  refine wpAnyH_one (i := 12) rfl (by kernel_rfl) (by rfl) ?_
                  go_simp
                  refine (rHere_any C2 rb (2 * (k + 1)) s1 cv2 lv2 W4 R4.out).mono ?_
                  rintro e W5 ⟨v4, rfl, hr5, hb5⟩
                  have IS := Lib.hid (isame_any v3 v4 s1.here W5 ((Tn.of_below (F := fun _ => False) hb5).row Q4.out fun _ _ => id) hr5 (by have := M3.out.len; have := HS1.out; omega))
                  have R5 := Lib.hid (R4.out.up hb5)
                  have M5 := Lib.hid (M4.out.up hb5)
                  have T5 : RowKit.Hid (Below w0.heap.size w0 W5) := Lib.hid (T4.out.trans (hb5.mono T4.out.size))
                  have hHeld := UU.out _ ((LB.out _ hHeld).below hb5 (LB.out _ hHeld).lt)
                  clear hr5 hb5
                  refine ⟨hHeld, ?_⟩
                  refine wpAnyH_one (i := 13) rfl (by kernel_rfl) (by rfl) ?_
                  go_simp
                  refine IS.out.mono ?_
                  rintro e W6 ⟨rfl, hb6⟩
                  have FB : RowKit.Hid (Both w0.heap.size b rb (k + 1) W6 ∧ Below w0.heap.size w0 W6) := Lib.hid
                    ⟨⟨s1, hv1, mv1, cv2, lv2, C1, C2, M5.out.up hb6, R5.out.up hb6, D2.out, by have := HS1.out; omega, CC.out.1, CC.out.2⟩, T5.out.trans (hb6.mono T5.out.size)⟩
                  have hHeld := UU.out _ ((LB.out _ hHeld).below hb6 (LB.out _ hHeld).lt)
                  clear hb6 IS
                  refine ⟨hHeld, ?_⟩
                  refine wpAnyH_take (i := 14) (v := ?_) rfl (by kernel_rfl) (by kernel_rfl) (by kernel_rfl) (fun _ _ _ h => only_panic h) (Or.inl ⟨by rfl, ?_⟩) hHeld ?_
                  rotate_left
                  · (intro w hSw; clear hSw; go_simp; try (with_reducible rfl))
                  try simp only [List.getElem_toArray, List.getElem_cons_succ, List.getElem_cons_zero, Act.put, List.setIfInBounds_toArray, List.set_cons_zero, List.set_cons_succ]
                  refine wpAnyH_take (i := 15) (v := ?_) rfl (by kernel_rfl) (by kernel_rfl) (by kernel_rfl) (fun _ _ _ h => only_panic h) (Or.inl ⟨by rfl, ?_⟩) hHeld ?_
                  rotate_left
                  · (intro w hSw; clear hSw; go_simp; try (with_reducible rfl))
                  try simp only [List.getElem_toArray, List.getElem_cons_succ, List.getElem_cons_zero, Act.put, List.setIfInBounds_toArray, List.set_cons_zero, List.set_cons_succ]
                  refine wpAnyH_take (i := 16) (v := ?_) rfl (by kernel_rfl) (by kernel_rfl) (by kernel_rfl) (fun _ _ _ h => only_panic h) (Or.inl ⟨by rfl, ?_⟩) hHeld ?_
                  rotate_left
                  · (intro w hSw; clear hSw; go_simp; try (with_reducible rfl))
                  try simp only [List.getElem_toArray, List.getElem_cons_succ, List.getElem_cons_zero, Act.put, List.setIfInBounds_toArray, List.set_cons_zero, List.set_cons_succ]
                  refine wpAnyH_take (i := 17) (v := ?_) rfl (by kernel_rfl) (by kernel_rfl) (by kernel_rfl) (fun _ _ _ h => only_panic h) (Or.inl ⟨by rfl, ?_⟩) hHeld ?_
                  rotate_left
                  · (intro w hSw; clear hSw; go_simp; try (with_reducible rfl))
                  try simp only [List.getElem_toArray, List.getElem_cons_succ, List.getElem_cons_zero, Act.put, List.setIfInBounds_toArray, List.set_cons_zero, List.set_cons_succ]
                  refine wpAnyH_one (i := 18) rfl (by kernel_rfl) (by rfl) ?_
                  go_simp
                  refine (tick_any b W6).mono ?_
                  rintro e W7 ⟨rfl, rfl⟩
                  refine ⟨hHeld, ?_⟩
                  refine wpAnyH_take (i := 19) (v := ?_) rfl (by kernel_rfl) (by kernel_rfl) (by kernel_rfl) (fun _ _ _ h => only_panic h) (Or.inl ⟨by rfl, ?_⟩) hHeld ?_
                  rotate_left
                  · (intro w hSw; clear hSw; go_simp; try (with_reducible rfl))
                  try simp only [List.getElem_toArray, List.getElem_cons_succ, List.getElem_cons_zero, Act.put, List.setIfInBounds_toArray, List.set_cons_zero, List.set_cons_succ]
                  refine wpAnyH_take (i := 20) (v := ?_) rfl (by kernel_rfl) (by kernel_rfl) (by kernel_rfl) (fun _ _ _ h => only_panic h) (Or.inl ⟨by rfl, ?_⟩) hHeld ?_
                  rotate_left
                  · (intro w hSw; clear hSw; go_simp; try (with_reducible rfl))
                  try simp only [List.getElem_toArray, List.getElem_cons_succ, List.getElem_cons_zero, Act.put, List.setIfInBounds_toArray, List.set_cons_zero, List.set_cons_succ]
                  refine wpAnyH_take (i := 21) (v := ?_) rfl (by kernel_rfl) (by kernel_rfl) (by kernel_rfl) (fun _ _ _ h => only_panic h) (Or.inl ⟨by rfl, ?_⟩) hHeld ?_
                  rotate_left
                  · (intro w hSw; clear hSw; go_simp; try (with_reducible rfl))
                  try simp only [List.getElem_toArray, List.getElem_cons_succ, List.getElem_cons_zero, Act.put, List.setIfInBounds_toArray, List.set_cons_zero, List.set_cons_succ]
                  exact wpAnyH_done (by kernel_rfl) ⟨rfl, hR v1 v2 v3 v4 _ FB.out⟩ _
                case rest =>
                  rintro x y z u W ⟨hB, hb⟩
                  have BN := Lib.hid hB
                  have TN := Lib.hid hb
                  clear hB hb
                  go_wp2_with fail
                  exact ⟨⟨k + 1, hlt, h6, by go_num, BN.out, TN.out⟩, by simp [intOf]; omega⟩
            · have h5 : (c.v.tmod 5 != 0) = false := by simpa using h5
              go_wp2_with (refine wpList_store_row rfl 31 (.tmp 11) (.tmp 55) rfl w4.heap.size (encM m) rfl rfl 31 _ NB.out (encM_inf m) rfl (encM_all m) ?_; rw [← HW5.out, ← HVB.out])
              obtain ⟨w6, hw6⟩ : ∃ w6, w6 = w5.alloc (.cells #[i64 2, i64 2, i64 7, i64 9, i64 11] 3) := ⟨_, rfl⟩
              obtain ⟨kb, hkb⟩ : ∃ kb, kb = w5.heap.size := ⟨_, rfl⟩
              have KB : RowKit.Hid (Blk w6 kb #[i64 2, i64 2, i64 7, i64 9, i64 11] 3) := Lib.hid (by rw [hw6, hkb]; exact Blk.new _ _ _)
              have D6 : Below w5.heap.size w5 w6 := by rw [hw6]; exact (Below.refl _ _).alloc (Nat.le_refl _) _
              have V6 := Lib.hid (V5.out.below D6 V5.out.lt)
              have BO6 := Lib.hid (BO5.out.up D6)
              have B6 : RowKit.Hid (Below w0.heap.size w0 w6) := Lib.hid (B5.out.trans (D6.mono B5.out.size))
              have A6 := Lib.hid (A5.out.below D6 hba5)
              rw [← hw6, ← hkb]
              clear hw6 hkb D6 V5 BO5 B5 A5 NB HW5 a5 a0 h5
              obtain ⟨m8, hm8⟩ : ∃ m8, m8 = m := ⟨_, rfl⟩
              obtain ⟨w8, hw8⟩ : ∃ w8, w8 = w6 := ⟨_, rfl⟩
              subst hm8 hw8
              have V8 := V6
              have BO8 := BO6
              have B8 := B6
              have HT8 : RowKit.Hid (m8.text.length ≤ 1000) := Lib.hid (Nat.le_trans HMT.out (by omega))
              clear V6 BO6 B6 KB A6
              obtain ⟨s, hv, mv, cv, lv, C1, C2, hM, hR, hd, hs, hC1, hC2, hx1, hx2⟩ := BO8.out
              have M := Lib.hid hM
              have R8 := Lib.hid hR
              have D8 := Lib.hid hd
              have X1 := Lib.hid hx1
              have X2 := Lib.hid hx2
              have CC : RowKit.Hid (w0.heap.size ≤ C1 ∧ w0.heap.size ≤ C2) := Lib.hid ⟨hC1, hC2⟩
              have HS := Lib.hid hs
              clear hM hR hd hC1 hC2 hx1 hx2 hs BO8
              obtain ⟨S, hS⟩ : ∃ S : World → Prop, S = fun W => Blk W vb (encM m8) 31 := ⟨_, rfl⟩
              have LB : RowKit.Hid (∀ W, S W → Blk W vb (encM m8) 31) := Lib.hid (by rw [hS]; exact fun W h => h)
              have UU : RowKit.Hid (∀ W, Blk W vb (encM m8) 31 → S W) := Lib.hid (by rw [hS]; exact fun W h => h)
              have hHeld : S w8.drew := UU.out _ V8.out.drew
              clear hS
              refine wp_region_held_drew (S := S) (by kernel_rfl) hHeld (fun _ => ?_)
              apply wpAnyH_apartV4 (fun W => Both w0.heap.size b rb (k + 1) W ∧ Below w0.heap.size w0 W)
              case take =>
                intro R hR
                refine wpAnyH_take (i := 0) (v := ?_) rfl (by kernel_rfl) (by kernel_rfl) (by kernel_rfl) (fun _ _ _ h => only_panic h) (Or.inl ⟨by rfl, ?_⟩) hHeld ?_
                rotate_left
                · (intro w hSw; clear hSw; go_simp; try (with_reducible rfl))
                try simp only [List.getElem_toArray, List.getElem_cons_succ, List.getElem_cons_zero, Act.put, List.setIfInBounds_toArray, List.set_cons_zero, List.set_cons_succ]
                refine wpAnyH_take (i := 3) (v := ?_) rfl (by kernel_rfl) (by kernel_rfl) (by kernel_rfl) (fun _ _ _ h => only_panic h) (Or.inl ⟨by rfl, ?_⟩) hHeld ?_
                rotate_left
                · (intro w hSw; clear hSw; go_simp; try (with_reducible rfl))
                try simp only [List.getElem_toArray, List.getElem_cons_succ, List.getElem_cons_zero, Act.put, List.setIfInBounds_toArray, List.set_cons_zero, List.set_cons_succ]
                refine wpAnyH_take (i := 1) (v := .agg (encM m8)) rfl (by kernel_rfl) (by kernel_rfl) (by kernel_rfl) (fun _ _ _ h => only_panic h) ?_ hHeld ?_
                · exact yields_row (.tmp 11) (by rfl) rfl rfl LB.out Try.underlying31 rfl (encM_inf m8)
                try simp only [List.getElem_toArray, List.getElem_cons_succ, List.getElem_cons_zero, Act.put, List.setIfInBounds_toArray, List.set_cons_zero, List.set_cons_succ]
                refine wpAnyH_take (i := 4) (v := .agg (encM m8)) rfl (by kernel_rfl) (by kernel_rfl) (by kernel_rfl) (fun _ _ _ h => only_panic h) ?_ hHeld ?_
                · exact yields_row (.tmp 11) (by rfl) rfl rfl LB.out Try.underlying31 rfl (encM_inf m8)
                try simp only [List.getElem_toArray, List.getElem_cons_succ, List.getElem_cons_zero, Act.put, List.setIfInBounds_toArray, List.set_cons_zero, List.set_cons_succ]
                refine wpAnyH_one (i := 2) rfl (by kernel_rfl) (by rfl) ?_
                go_simp
                have MD := M.out.up (Below.refl w8.heap.size w8).drew
                have RD := R8.out.up (Below.refl w8.heap.size w8).drew
                refine (take_any C1 b s hv mv m8 w8.drew MD (Nat.le_trans M.out.lo (Nat.le_of_lt M.out.blk.lt)) (by have := HS.out; omega) (by have := HT8.out; omega)).mono ?_
                rintro e W1 ⟨v1, hv1, mv1, rfl, hm1, hM1, hT1, hO1⟩
                have RK := RD.keep hT1 fun j h1 h2 => D8.out j h1 h2
                have hHeld := UU.out _ (hT1.blk V8.out.drew X1.out)
                refine ⟨hHeld, ?_⟩
                refine wpAnyH_one (i := 5) rfl (by kernel_rfl) (by rfl) ?_
                go_simp
                refine (rTake_any C2 rb (2 * k) s cv lv m8 W1 RK (Nat.le_trans RK.lo (Nat.le_of_lt RK.blk.lt)) (by omega) (by have := HT8.out; omega)).mono ?_
                rintro e W2 ⟨v2, cv2, lv2, rfl, hm2, hR2, hT2, hO2⟩
                have hz1 : w8.heap.size ≤ W1.heap.size := hT1.size
                have MK := hM1.keep hT2 fun j h1 h2 => by
                  rcases hO1 j h2 with h3 | h3
                  · exact D8.out j h3 h1
                  · have := (R8.out.own_lt h1).2
                    have h3' : w8.heap.size ≤ j := h3
                    omega
                have hHeld := UU.out _ (hT2.blk (LB.out _ hHeld) X2.out)
                have hS1 : MSl W2 v1 (s.take m8).2 := hm1.sl.tn hT2 fun g n c e1 h1 => by
                  rcases hq : (s.take m8).2 with _ | ⟨x, _ | ⟨y, l⟩⟩
                  · rw [hq] at hm1; rw [show v1 = _ from hm1] at e1; cases e1
                  · rw [hq] at hm1
                    obtain ⟨g', hg', e2, _⟩ := hm1
                    rw [e2] at e1; injection e1 with e1; injection e1 with e1; injection e1 with e1; subst e1
                    have := (R8.out.own_lt h1).2
                    have h3' : w8.heap.size ≤ g' := hg'
                    omega
                  · rw [hq] at hm1; exact hm1.elim
                have SM := Lib.hid (msame_any v1 v2 (s.take m8).2 W2 hS1 hm2.sl (by have := (s.take_len m8).2.2; omega))
                have D2 : RowKit.Hid (∀ j, OwnL b hv1 mv1 j → OwnR rb cv2 lv2 j → False) := Lib.hid fun j h1 h2 => by
                  rcases hO2 j h2 with h3 | h3
                  · rcases hO1 j h1 with h4 | h4
                    · exact D8.out j h4 h3
                    · have := (R8.out.own_lt h3).2
                      have h4' : w8.heap.size ≤ j := h4
                      omega
                  · have := (hM1.own_lt h1).2; omega
                have T2 : RowKit.Hid (Below w0.heap.size w0 W2) := Lib.hid (B8.out.trans (((Below.refl w8.heap.size w8).drew.mono B8.out.size).trans ((hT1.below (B := w0.heap.size) B8.out.size fun j hj => Nat.le_trans CC.out.1 (M.out.own_lt hj).1).trans (hT2.below (B := w0.heap.size) (Nat.le_trans B8.out.size hz1) fun j hj => Nat.le_trans CC.out.2 (R8.out.own_lt hj).1))))
                have M2 := Lib.hid MK
                have R2 := Lib.hid (hR2.mono (N' := 2 * (k + 1)) (by omega) (by omega))
                obtain ⟨s1, hs1⟩ : ∃ s1, s1 = (s.take m8).1 := ⟨_, rfl⟩
                have HS1 : RowKit.Hid (s1.sent ≤ k + 1) := Lib.hid (by rw [hs1]; have := (s.take_len m8).1; have := HS.out; omega)
                rw [← hs1] at M2 R2
                clear hS1 MK RK hM1 hR2 hT1 hT2 hO1 hO2 hm1 hm2 MD RD hz1 hs1
                refine ⟨hHeld, ?_⟩
                refine wpAnyH_one (i := 6) rfl (by kernel_rfl) (by rfl) ?_
                go_simp
                refine SM.out.mono ?_
                rintro e W3 ⟨rfl, hb3⟩
                have M3 := Lib.hid (M2.out.up hb3)
                have R3 := Lib.hid (R2.out.up hb3)
                have T3 : RowKit.Hid (Below w0.heap.size w0 W3) := Lib.hid (T2.out.trans (hb3.mono T2.out.size))
                have hHeld := UU.out _ ((LB.out _ hHeld).below hb3 (LB.out _ hHeld).lt)
                clear hb3 SM
                refine ⟨hHeld, ?_⟩
                refine wpAnyH_take (i := 7) (v := ?_) rfl (by kernel_rfl) (by kernel_rfl) (by kernel_rfl) (fun _ _ _ h => only_panic h) (Or.inl ⟨by rfl, ?_⟩) hHeld ?_
                rotate_left
                · (intro w hSw; clear hSw; go_simp; try (with_reducible rfl))
                try simp only [List.getElem_toArray, List.getElem_cons_succ, List.getElem_cons_zero, Act.put, List.setIfInBounds_toArray, List.set_cons_zero, List.set_cons_succ]
                refine wpAnyH_take (i := 8) (v := ?_) rfl (by kernel_rfl) (by kernel_rfl) (by kernel_rfl) (fun _ _ _ h => only_panic h) (Or.inl ⟨by rfl, ?_⟩) hHeld ?_
                rotate_left
                · (intro w hSw; clear hSw; go_simp; try (with_reducible rfl))
                try simp only [List.getElem_toArray, List.getElem_cons_succ, List.getElem_cons_zero, Act.put, List.setIfInBounds_toArray, List.set_cons_zero, List.set_cons_succ]
                refine wpAnyH_take (i := 9) (v := ?_) rfl (by kernel_rfl) (by kernel_rfl) (by kernel_rfl) (fun _ _ _ h => only_panic h) (Or.inl ⟨by rfl, ?_⟩) hHeld ?_
                rotate_left
                · (intro w hSw; clear hSw; go_simp; try (with_reducible rfl))
                try simp only [List.getElem_toArray, List.getElem_cons_succ, List.getElem_cons_zero, Act.put, List.setIfInBounds_toArray, List.set_cons_zero, List.set_cons_succ]
                refine wpAnyH_take (i := 11) (v := ?_) rfl (by kernel_rfl) (by kernel_rfl) (by kernel_rfl) (fun _ _ _ h => only_panic h) (Or.inl ⟨by rfl, ?_⟩) hHeld ?_
                rotate_left
                · (intro w hSw; clear hSw; go_simp; try (with_reducible rfl))
                try simp only [List.getElem_toArray, List.getElem_cons_succ, List.getElem_cons_zero, Act.put, List.setIfInBounds_toArray, List.set_cons_zero, List.set_cons_succ]
                refine wpAnyH_one (i := 10) rfl (by kernel_rfl) (by rfl) ?_
                go_simp
                refine (here_any C1 b 0 s1 hv1 mv1 W3 M3.out (by have := M3.out.len; have := HS1.out; omega)).mono ?_
                rintro e W4 ⟨v3, rfl, hr4, hb4⟩
                have Q4 := Lib.hid hr4
                have R4 := Lib.hid (R3.out.up hb4)
                have M4 := Lib.hid (M3.out.up hb4)
                have T4 : RowKit.Hid (Below w0.heap.size w0 W4) := Lib.hid (T3.out.trans (hb4.mono T3.out.size))
                have hHeld := UU.out _ ((LB.out _ hHeld).below hb4 (LB.out _ hHeld).lt)
                clear hr4 hb4
                refine ⟨hHeld, ?_⟩
                refine wpAnyH_one (i := 12) rfl (by kernel_rfl) (by rfl) ?_
                go_simp
                refine (rHere_any C2 rb (2 * (k + 1)) s1 cv2 lv2 W4 R4.out).mono ?_
                rintro e W5 ⟨v4, rfl, hr5, hb5⟩
                have IS := Lib.hid (isame_any v3 v4 s1.here W5 ((Tn.of_below (F := fun _ => False) hb5).row Q4.out fun _ _ => id) hr5 (by have := M3.out.len; have := HS1.out; omega))
                have R5 := Lib.hid (R4.out.up hb5)
                have M5 := Lib.hid (M4.out.up hb5)
                have T5 : RowKit.Hid (Below w0.heap.size w0 W5) := Lib.hid (T4.out.trans (hb5.mono T4.out.size))
                have hHeld := UU.out _ ((LB.out _ hHeld).below hb5 (LB.out _ hHeld).lt)
                clear hr5 hb5
                refine ⟨hHeld, ?_⟩
                refine wpAnyH_one (i := 13) rfl (by kernel_rfl) (by rfl) ?_
                go_simp
                refine IS.out.mono ?_
                rintro e W6 ⟨rfl, hb6⟩
                have FB : RowKit.Hid (Both w0.heap.size b rb (k + 1) W6 ∧ Below w0.heap.size w0 W6) := Lib.hid
                  ⟨⟨s1, hv1, mv1, cv2, lv2, C1, C2, M5.out.up hb6, R5.out.up hb6, D2.out, by have := HS1.out; omega, CC.out.1, CC.out.2⟩, T5.out.trans (hb6.mono T5.out.size)⟩
                have hHeld := UU.out _ ((LB.out _ hHeld).below hb6 (LB.out _ hHeld).lt)
                clear hb6 IS
                refine ⟨hHeld, ?_⟩
                refine wpAnyH_take (i := 14) (v := ?_) rfl (by kernel_rfl) (by kernel_rfl) (by kernel_rfl) (fun _ _ _ h => only_panic h) (Or.inl ⟨by rfl, ?_⟩) hHeld ?_
                rotate_left
                · (intro w hSw; clear hSw; go_simp; try (with_reducible rfl))
                try simp only [List.getElem_toArray, List.getElem_cons_succ, List.getElem_cons_zero, Act.put, List.setIfInBounds_toArray, List.set_cons_zero, List.set_cons_succ]
                refine wpAnyH_take (i := 15) (v := ?_) rfl (by kernel_rfl) (by kernel_rfl) (by kernel_rfl) (fun _ _ _ h => only_panic h) (Or.inl ⟨by rfl, ?_⟩) hHeld ?_
                rotate_left
                · (intro w hSw; clear hSw; go_simp; try (with_reducible rfl))
                try simp only [List.getElem_toArray, List.getElem_cons_succ, List.getElem_cons_zero, Act.put, List.setIfInBounds_toArray, List.set_cons_zero, List.set_cons_succ]
                refine wpAnyH_take (i := 16) (v := ?_) rfl (by kernel_rfl) (by kernel_rfl) (by kernel_rfl) (fun _ _ _ h => only_panic h) (Or.inl ⟨by rfl, ?_⟩) hHeld ?_
                rotate_left
                · (intro w hSw; clear hSw; go_simp; try (with_reducible rfl))
                try simp only [List.getElem_toArray, List.getElem_cons_succ, List.getElem_cons_zero, Act.put, List.setIfInBounds_toArray, List.set_cons_zero, List.set_cons_succ]
                refine wpAnyH_take (i := 17) (v := ?_) rfl (by kernel_rfl) (by kernel_rfl) (by kernel_rfl) (fun _ _ _ h => only_panic h) (Or.inl ⟨by rfl, ?_⟩) hHeld ?_
                rotate_left
                · (intro w hSw; clear hSw; go_simp; try (with_reducible rfl))
                try simp only [List.getElem_toArray, List.getElem_cons_succ, List.getElem_cons_zero, Act.put, List.setIfInBounds_toArray, List.set_cons_zero, List.set_cons_succ]
                refine wpAnyH_one (i := 18) rfl (by kernel_rfl) (by rfl) ?_
                go_simp
                refine (tick_any b W6).mono ?_
                rintro e W7 ⟨rfl, rfl⟩
                refine ⟨hHeld, ?_⟩
                refine wpAnyH_take (i := 19) (v := ?_) rfl (by kernel_rfl) (by kernel_rfl) (by kernel_rfl) (fun _ _ _ h => only_panic h) (Or.inl ⟨by rfl, ?_⟩) hHeld ?_
                rotate_left
                · (intro w hSw; clear hSw; go_simp; try (with_reducible rfl))
                try simp only [List.getElem_toArray, List.getElem_cons_succ, List.getElem_cons_zero, Act.put, List.setIfInBounds_toArray, List.set_cons_zero, List.set_cons_succ]
                refine wpAnyH_take (i := 20) (v := ?_) rfl (by kernel_rfl) (by kernel_rfl) (by kernel_rfl) (fun _ _ _ h => only_panic h) (Or.inl ⟨by rfl, ?_⟩) hHeld ?_
                rotate_left
                · (intro w hSw; clear hSw; go_simp; try (with_reducible rfl))
                try simp only [List.getElem_toArray, List.getElem_cons_succ, List.getElem_cons_zero, Act.put, List.setIfInBounds_toArray, List.set_cons_zero, List.set_cons_succ]
                refine wpAnyH_take (i := 21) (v := ?_) rfl (by kernel_rfl) (by kernel_rfl) (by kernel_rfl) (fun _ _ _ h => only_panic h) (Or.inl ⟨by rfl, ?_⟩) hHeld ?_
                rotate_left
                · (intro w hSw; clear hSw; go_simp; try (with_reducible rfl))
                try simp only [List.getElem_toArray, List.getElem_cons_succ, List.getElem_cons_zero, Act.put, List.setIfInBounds_toArray, List.set_cons_zero, List.set_cons_succ]
                exact wpAnyH_done (by kernel_rfl) ⟨rfl, hR v1 v2 v3 v4 _ FB.out⟩ _
              case rest =>
                rintro x y z u W ⟨hB, hb⟩
                have BN := Lib.hid hB
                have TN := Lib.hid hb
                clear hB hb
                go_wp2_with fail
                exact ⟨⟨k + 1, hlt, h6, by go_num, BN.out, TN.out⟩, by simp [intOf]; omega⟩
          · have hend : k = L.length ∨ (k < L.length ∧ k = 60) := by omega
            have FZ : RowKit.Hid (Below w.heap.size w wr) := Lib.hid (B0.out.trans (BB.out.mono B0.out.size))
            clear hgo
            rcases hend with rfl | ⟨hlt, rfl⟩
            · go_wp2_with fail
              go_ret
              exact ⟨rfl, FZ.out⟩
            · go_wp2_with fail
              go_ret
              exact ⟨rfl, FZ.out⟩
      · skip
        obtain ⟨wl, hwl⟩ : ∃ wl, wl = wr := ⟨_, rfl⟩
        subst hwl
        have hD8 : D.length ≤ 8 := by have := HD.out; omega
        go_wp2_with fail
        refine (new_any 3 ⟨by omega, by omega⟩ D (by omega) _ _ wl R.out).mono ?_
        rintro e w1 ⟨b, hv0, rfl, hM, hb⟩
        have M1 := Lib.hid hM
        have T1 := Lib.hid hb
        have R1 := Lib.hid ((Tn.of_below (F := fun _ => False) hb).row R.out fun _ _ => id)
        clear hM hb
        go_wp2_with fail
        refine (rnew_any 3 ⟨by omega, by omega⟩ D (by omega) _ _ w1 R1.out).mono ?_
        rintro e w2 ⟨rb, cv0, rfl, hRM, hb⟩
        have BO : RowKit.Hid (Both w0.heap.size b rb 0 w2) := Lib.hid
          ⟨_, _, _, _, _, _, _, M1.out.up hb, hRM, fun j h1 h2 => by have := (M1.out.own_lt h1).2; have := (hRM.own_lt h2).1; omega, by simp, BB.out.size, Nat.le_trans BB.out.size T1.out.size⟩
        have B2 : RowKit.Hid (Below w0.heap.size w0 w2) := Lib.hid (BB.out.trans ((T1.out.trans (hb.mono T1.out.size)).mono BB.out.size))
        clear hRM hb M1 T1 R1 BB R
        go_wp2_with fail
        go_loopw [10] (fun i wr => ∃ k : Nat, k ≤ L.length ∧ k ≤ 60 ∧ i = .int .i64 k ∧ Both w0.heap.size b rb k wr ∧ Below w0.heap.size w0 wr) (fun i _ => 60 - (intOf i).toNat)
        case atStart => exact ⟨0, Nat.zero_le _, by omega, rfl, BO.out, B2.out⟩
        case round =>
          obtain ⟨k, hk, hk6, rfl, hBo, hb⟩ := hrel
          have BO := Lib.hid hBo
          have BB := Lib.hid hb
          clear hBo hb B2
          by_cases hgo : k < L.length ∧ k < 60
          · obtain ⟨hlt, h6⟩ := hgo
            obtain ⟨ba, oa, rfl, hbal, hact⟩ := (HA.out.below BB.out (Nat.le_refl _)).get k hlt
            obtain ⟨c, hc⟩ : ∃ c, c = L[k] := ⟨_, rfl⟩
            rw [← hc] at hact
            have AC := Lib.hid hact
            obtain ⟨a0, a1, a2, a3, a4, a5⟩ := hact
            clear hc
            go_wp2_with fail
            refine (message_any c.k c.f c.t c.a c.r c.v 3 _ ⟨by omega, by omega⟩).mono ?_
            rintro e w4 ⟨m, rfl, hmt, hmf, hb4⟩
            have hmd := hb4.size
            have NB : RowKit.Hid (Blk (w4.alloc (.cells #[i64 0, i64 0, i64 0, .string { data := #[] }] 31)) w4.heap.size #[i64 0, i64 0, i64 0, .string { data := #[] }] 31) := Lib.hid (Blk.new _ _ _)
            obtain ⟨w5, hw5⟩ : ∃ w5, w5 = (w4.alloc (.cells #[i64 0, i64 0, i64 0, .string { data := #[] }] 31)).setRow w4.heap.size (encM m) := ⟨_, rfl⟩
            have K5 : Below w4.heap.size w4 w5 := by rw [hw5]; exact belowS ((Below.refl _ _).alloc (Nat.le_refl _) _) (Nat.le_refl _)
            obtain ⟨vb, hvb⟩ : ∃ vb, vb = w4.heap.size := ⟨_, rfl⟩
            have V5 : RowKit.Hid (Blk w5 vb (encM m) 31) := Lib.hid (by rw [hw5, hvb]; exact setRow_heap _ _ _ _ _ _ NB.out)
            have Bo4 : Both w0.heap.size b rb k w4 := by
              obtain ⟨s, hv, mv, cv, lv, C1, C2, h1, h2, h3⟩ := BO.out
              exact ⟨s, hv, mv, cv, lv, C1, C2, h1.up hb4, h2.up hb4, h3⟩
            have BO5 : RowKit.Hid (BothX w0.heap.size b rb k vb w5) := Lib.hid (Bo4.new K5 (Nat.le_of_eq hvb.symm))
            have B5 : RowKit.Hid (Below w0.heap.size w0 w5) := Lib.hid ((BB.out.trans (hb4.mono BB.out.size)).trans (K5.mono (Nat.le_trans BB.out.size hb4.size)))
            have A5 : RowKit.Hid (Act6At w5 ba (oa + k * 6) c) := Lib.hid ((AC.out.below hb4 hbal).below K5 (Nat.lt_of_lt_of_le hbal hb4.size))
            have hba5 : ba < w5.heap.size := Nat.lt_of_lt_of_le hbal (Nat.le_trans hb4.size K5.size)
            have HW5 := Lib.hid hw5
            have HVB := Lib.hid hvb
            have HMT := Lib.hid hmt
            have HZ4 : RowKit.Hid (w0.heap.size ≤ w4.heap.size) := Lib.hid (Nat.le_trans BB.out.size hb4.size)
            clear hb4 hmt hmf hmd K5 Bo4 hw5 hvb a0 a1 a2 a3 a4 a5 hbal BO BB
            have a5 := A5.out.2.2.2.2.2
            have a0 := A5.out.1
            by_cases h5 : (c.v.tmod 5 != 0) = true
            · skip
              go_wp2_with (refine wpList_store_row rfl 31 (.tmp 11) (.tmp 55) rfl w4.heap.size (encM m) rfl rfl 31 _ NB.out (encM_inf m) rfl (encM_all m) ?_; rw [← HW5.out, ← HVB.out])
              obtain ⟨w6, hw6⟩ : ∃ w6, w6 = w5.alloc (.cells #[i64 2, i64 2, i64 7, i64 9, i64 11] 3) := ⟨_, rfl⟩
              obtain ⟨kb, hkb⟩ : ∃ kb, kb = w5.heap.size := ⟨_, rfl⟩
              have KB : RowKit.Hid (Blk w6 kb #[i64 2, i64 2, i64 7, i64 9, i64 11] 3) := Lib.hid (by rw [hw6, hkb]; exact Blk.new _ _ _)
              have D6 : Below w5.heap.size w5 w6 := by rw [hw6]; exact (Below.refl _ _).alloc (Nat.le_refl _) _
              have V6 := Lib.hid (V5.out.below D6 V5.out.lt)
              have BO6 := Lib.hid (BO5.out.up D6)
              have B6 : RowKit.Hid (Below w0.heap.size w0 w6) := Lib.hid (B5.out.trans (D6.mono B5.out.size))
              have A6 := Lib.hid (A5.out.below D6 hba5)
              rw [← hw6, ← hkb]
              clear hw6 hkb D6 V5 BO5 B5 A5 NB HW5 a5 a0 h5
              refine (mod_any c.k 5 w6 (by omega) (by omega)).mono ?_
              rintro e w7 ⟨rfl, rfl⟩
              obtain ⟨j, hj, hj5⟩ : ∃ j : Nat, c.k % 5 = (j : Int) ∧ j < 5 := ⟨(c.k % 5).toNat, by omega, by omega⟩
              obtain ⟨K, hK, hKs⟩ : ∃ K : Int, w6.cell? ⟨kb, j, none⟩ = some (i64 K) ∧ (K = 2 ∨ K = 7 ∨ K = 9 ∨ K = 11) := by
                rcases (by omega : j = 0 ∨ j = 1 ∨ j = 2 ∨ j = 3 ∨ j = 4) with rfl | rfl | rfl | rfl | rfl
                · exact ⟨2, KB.out.cell 0, by omega⟩
                · exact ⟨2, KB.out.cell 1, by omega⟩
                · exact ⟨7, KB.out.cell 2, by omega⟩
                · exact ⟨9, KB.out.cell 3, by omega⟩
                · exact ⟨11, KB.out.cell 4, by omega⟩
              have HK := Lib.hid hKs
              have a3 := A6.out.2.2.2.1
              rw [hj]
              clear hj hKs
              go_wp2_with fail
              refine (mod_any c.a 2 w6 (by omega) (by omega)).mono ?_
              rintro e w7 ⟨rfl, rfl⟩
              obtain ⟨A, hA⟩ : ∃ A, A = 1 + c.a % 2 := ⟨_, rfl⟩
              have HA2 : RowKit.Hid (A = 1 ∨ A = 2) := Lib.hid (by omega)
              go_wp2_with fail
              rw [← hA]
              clear hA hK a3
              obtain ⟨S, hS⟩ : ∃ S : World → Prop, S = fun W => Below w6.heap.size w6 W := ⟨_, rfl⟩
              have LD : RowKit.Hid (∀ W, S W → W.cell? ⟨ba, oa + k * 6 + 1, none⟩ = some (i64 c.f) ∧ W.cell? ⟨ba, oa + k * 6 + 4, none⟩ = some (i64 c.r)) := Lib.hid (by
                rw [hS]; exact fun W h => ⟨Below.cellE h A6.out.2.1, Below.cellE h A6.out.2.2.2.2.1⟩)
              have SS : RowKit.Hid (∀ W, S W → Below w6.heap.size w6 W) := Lib.hid (by rw [hS]; exact fun W h => h)
              have UU : RowKit.Hid (∀ W, Below w6.heap.size w6 W → S W) := Lib.hid (by rw [hS]; exact fun W h => h)
              have hHeld := UU.out _ (Below.refl w6.heap.size w6).drew
              obtain ⟨X, hX⟩ : ∃ X, X = txt K A (1 + c.r % 3) (c.f % 5) := ⟨_, rfl⟩
              have HX := Lib.hid hX
              have HXL : RowKit.Hid (X.length ≤ 50) := Lib.hid (by
                rw [hX]; refine txt_short ⟨⟨?_, ?_⟩, ⟨?_, ?_⟩, ⟨?_, ?_⟩, ⟨?_, ?_⟩⟩ <;> dsimp only <;> (have := HK.out; have := HA2.out; omega))
              have hwr : IntKind.i64.wrap (1 + c.r % 3) = 1 + c.r % 3 := by rw [IntKind.wrap_i64]; omega
              clear hS hX
              refine wp_region_sp 18 S (by kernel_rfl) (by kernel_rfl) ?_
              simp only [List.take_succ_cons, List.take_zero]
              apply wpAnyH_apart (fun W => Below w6.heap.size w6 W)
              case take =>
                intro R hR
                refine wpAnyH_take (i := 0) (v := ?_) rfl (by kernel_rfl) (by kernel_rfl) (by kernel_rfl) (fun _ _ _ h => only_panic h) (Or.inl ⟨by rfl, ?_⟩) hHeld ?_
                rotate_left
                · (intro w hSw; obtain ⟨l0, l1⟩ := LD.out w hSw; go_simp; try (with_reducible rfl))
                try simp only [List.getElem_toArray, List.getElem_cons_succ, List.getElem_cons_zero, Act.put, List.setIfInBounds_toArray, List.set_cons_zero, List.set_cons_succ]
                refine wpAnyH_take (i := 1) (v := ?_) rfl (by kernel_rfl) (by kernel_rfl) (by kernel_rfl) (fun _ _ _ h => only_panic h) (Or.inl ⟨by rfl, ?_⟩) hHeld ?_
                rotate_left
                · (intro w hSw; obtain ⟨l0, l1⟩ := LD.out w hSw; go_simp; try (with_reducible rfl))
                try simp only [List.getElem_toArray, List.getElem_cons_succ, List.getElem_cons_zero, Act.put, List.setIfInBounds_toArray, List.set_cons_zero, List.set_cons_succ]
                refine wpAnyH_take (i := 2) (v := ?_) rfl (by kernel_rfl) (by kernel_rfl) (by kernel_rfl) (fun _ _ _ h => only_panic h) (Or.inl ⟨by rfl, ?_⟩) hHeld ?_
                rotate_left
                · (intro w hSw; obtain ⟨l0, l1⟩ := LD.out w hSw; go_simp; try (with_reducible rfl))
                try simp only [List.getElem_toArray, List.getElem_cons_succ, List.getElem_cons_zero, Act.put, List.setIfInBounds_toArray, List.set_cons_zero, List.set_cons_succ]
                refine wpAnyH_take (i := 3) (v := ?_) rfl (by kernel_rfl) (by kernel_rfl) (by kernel_rfl) (fun _ _ _ h => only_panic h) (Or.inl ⟨by rfl, ?_⟩) hHeld ?_
                rotate_left
                · (intro w hSw; obtain ⟨l0, l1⟩ := LD.out w hSw; go_simp; try (with_reducible rfl))
                try simp only [List.getElem_toArray, List.getElem_cons_succ, List.getElem_cons_zero, Act.put, List.setIfInBounds_toArray, List.set_cons_zero, List.set_cons_succ]
                refine wpAnyH_take (i := 4) (v := ?_) rfl (by kernel_rfl) (by kernel_rfl) (by kernel_rfl) (fun _ _ _ h => only_panic h) (Or.inl ⟨by rfl, ?_⟩) hHeld ?_
                rotate_left
                · (intro w hSw; obtain ⟨l0, l1⟩ := LD.out w hSw; go_simp; try (with_reducible rfl))
                try simp only [List.getElem_toArray, List.getElem_cons_succ, List.getElem_cons_zero, Act.put, List.setIfInBounds_toArray, List.set_cons_zero, List.set_cons_succ]
                refine wpAnyH_take (i := 5) (v := ?_) rfl (by kernel_rfl) (by kernel_rfl) (by kernel_rfl) (fun _ _ _ h => only_panic h) (Or.inl ⟨by rfl, ?_⟩) hHeld ?_
                rotate_left
                · (intro w hSw; obtain ⟨l0, l1⟩ := LD.out w hSw; go_simp; try (with_reducible rfl))
                try simp only [List.getElem_toArray, List.getElem_cons_succ, List.getElem_cons_zero, Act.put, List.setIfInBounds_toArray, List.set_cons_zero, List.set_cons_succ]
                refine wpAnyH_take (i := 6) (v := ?_) rfl (by kernel_rfl) (by kernel_rfl) (by kernel_rfl) (fun _ _ _ h => only_panic h) (Or.inl ⟨by rfl, ?_⟩) hHeld ?_
                rotate_left
                · (intro w hSw; obtain ⟨l0, l1⟩ := LD.out w hSw; go_simp; try (with_reducible rfl))
                try simp only [List.getElem_toArray, List.getElem_cons_succ, List.getElem_cons_zero, Act.put, List.setIfInBounds_toArray, List.set_cons_zero, List.set_cons_succ]
                refine wpAnyH_take (i := 7) (v := ?_) rfl (by kernel_rfl) (by kernel_rfl) (by kernel_rfl) (fun _ _ _ h => only_panic h) (Or.inl ⟨by rfl, ?_⟩) hHeld ?_
                rotate_left
                · (intro w hSw; obtain ⟨l0, l1⟩ := LD.out w hSw; go_simp; try (with_reducible rfl))
                try simp only [List.getElem_toArray, List.getElem_cons_succ, List.getElem_cons_zero, Act.put, List.setIfInBounds_toArray, List.set_cons_zero, List.set_cons_succ]
                refine wpAnyH_take (i := 10) (v := ?_) rfl (by kernel_rfl) (by kernel_rfl) (by kernel_rfl) (fun _ _ _ h => only_panic h) (Or.inl ⟨by rfl, ?_⟩) hHeld ?_
                rotate_left
                · (intro w hSw; obtain ⟨l0, l1⟩ := LD.out w hSw; go_simp; try (with_reducible rfl))
                try simp only [List.getElem_toArray, List.getElem_cons_succ, List.getElem_cons_zero, Act.put, List.setIfInBounds_toArray, List.set_cons_zero, List.set_cons_succ]
                refine wpAnyH_take (i := 11) (v := ?_) rfl (by kernel_rfl) (by kernel_rfl) (by kernel_rfl) (fun _ _ _ h => only_panic h) (Or.inl ⟨by rfl, ?_⟩) hHeld ?_
                rotate_left
                · (intro w hSw; obtain ⟨l0, l1⟩ := LD.out w hSw; go_simp; try (with_reducible rfl))
                try simp only [List.getElem_toArray, List.getElem_cons_succ, List.getElem_cons_zero, Act.put, List.setIfInBounds_toArray, List.set_cons_zero, List.set_cons_succ]
                refine wpAnyH_take (i := 12) (v := ?_) rfl (by kernel_rfl) (by kernel_rfl) (by kernel_rfl) (fun _ _ _ h => only_panic h) (Or.inl ⟨by rfl, ?_⟩) hHeld ?_
                rotate_left
                · (intro w hSw; obtain ⟨l0, l1⟩ := LD.out w hSw; go_simp; try (with_reducible rfl))
                try simp only [List.getElem_toArray, List.getElem_cons_succ, List.getElem_cons_zero, Act.put, List.setIfInBounds_toArray, List.set_cons_zero, List.set_cons_succ]
                refine wpAnyH_take (i := 13) (v := ?_) rfl (by kernel_rfl) (by kernel_rfl) (by kernel_rfl) (fun _ _ _ h => only_panic h) (Or.inl ⟨by rfl, ?_⟩) hHeld ?_
                rotate_left
                · (intro w hSw; obtain ⟨l0, l1⟩ := LD.out w hSw; go_simp; try (with_reducible rfl))
                try simp only [List.getElem_toArray, List.getElem_cons_succ, List.getElem_cons_zero, Act.put, List.setIfInBounds_toArray, List.set_cons_zero, List.set_cons_succ]
                refine wpAnyH_take (i := 14) (v := ?_) rfl (by kernel_rfl) (by kernel_rfl) (by kernel_rfl) (fun _ _ _ h => only_panic h) (Or.inl ⟨by rfl, ?_⟩) hHeld ?_
                rotate_left
                · (intro w hSw; obtain ⟨l0, l1⟩ := LD.out w hSw; go_simp; try (with_reducible rfl))
                try simp only [List.getElem_toArray, List.getElem_cons_succ, List.getElem_cons_zero, Act.put, List.setIfInBounds_toArray, List.set_cons_zero, List.set_cons_succ]
                refine wpAnyH_one (i := 8) rfl (by kernel_rfl) (by rfl) ?_
                go_simp
                refine (mod_any c.r 3 _ (by omega) (by omega)).mono ?_
                rintro e W1 ⟨rfl, rfl⟩
                refine ⟨hHeld, ?_⟩
                refine wpAnyH_take (i := 9) (v := ?_) rfl (by kernel_rfl) (by kernel_rfl) (by kernel_rfl) (fun _ _ _ h => only_panic h) (Or.inl ⟨by rfl, ?_⟩) hHeld ?_
                rotate_left
                · (intro w hSw; clear hSw; go_simp; try (with_reducible rfl))
                try simp only [List.getElem_toArray, List.getElem_cons_succ, List.getElem_cons_zero, Act.put, List.setIfInBounds_toArray, List.set_cons_zero, List.set_cons_succ]
                refine wpAnyH_one (i := 15) rfl (by kernel_rfl) (by rfl) ?_
                go_simp
                refine (mod_any c.f 5 _ (by omega) (by omega)).mono ?_
                rintro e W1 ⟨rfl, rfl⟩
                refine ⟨hHeld, ?_⟩
                refine wpAnyH_one (i := 16) rfl (by kernel_rfl) (by rfl) ?_
                go_simp
                refine (text_any K A (1 + c.r % 3) (c.f % 5) _ ⟨by have := HK.out; omega, by have := HK.out; omega⟩ ⟨by have := HA2.out; omega, by have := HA2.out; omega⟩ ⟨by omega, by omega⟩ ⟨by omega, by omega⟩).mono ?_
                rw [← HX.out]
                rintro e W3 ⟨rfl, hb⟩
                have B3 := Lib.hid ((Below.refl w6.heap.size w6).drew.trans hb)
                have hHeld := UU.out _ B3.out
                clear hb
                refine ⟨hHeld, ?_⟩
                refine wpAnyH_take (i := 17) (v := ?_) rfl (by kernel_rfl) (by kernel_rfl) (by kernel_rfl) (fun _ _ _ h => only_panic h) (Or.inl ⟨by rfl, ?_⟩) hHeld ?_
                rotate_left
                · (intro w hSw; clear hSw; go_simp; try (with_reducible rfl))
                try simp only [List.getElem_toArray, List.getElem_cons_succ, List.getElem_cons_zero, Act.put, List.setIfInBounds_toArray, List.set_cons_zero, List.set_cons_succ]
                exact wpAnyH_done (by kernel_rfl) ⟨rfl, hR _ B3.out⟩ _
              rintro W hW
              have V7 := Lib.hid (V6.out.below hW V6.out.lt)
              obtain ⟨w7, hw7⟩ : ∃ w7, w7 = W.setRow vb (encM ⟨A, 3, 0, X⟩) := ⟨_, rfl⟩
              have V7' : RowKit.Hid (Blk w7 vb (encM ⟨A, 3, 0, X⟩) 31) := Lib.hid (by rw [hw7]; exact setRow_heap _ _ _ _ _ _ V7.out)
              have T7 : Tn (fun j => j = vb) W w7 := by rw [hw7]; exact tn_setRow _ _ _
              have BO7 := Lib.hid ((BO6.out.up hW).set T7)
              have hvl : w0.heap.size ≤ vb := by rw [HVB.out]; exact HZ4.out
              have B7 : RowKit.Hid (Below w0.heap.size w0 w7) := Lib.hid ((B6.out.trans (hW.mono B6.out.size)).trans (T7.below (Nat.le_trans B6.out.size hW.size) fun j hj => by rw [hj]; exact hvl))
              have HW7 := Lib.hid hw7
              have f7 : w7.frozen? ⟨vb, 0, none⟩ = false := V7'.out.frozen 0
              have c7 : w7.cell? ⟨vb, 0, none⟩ = some (i64 A) := V7'.out.cell 0
              have l7 : vb < w7.heap.size := V7'.out.lt
              clear hW T7 hw7 hHeld LD SS UU V6 BO6 B6 hwr
              simp only [endN, List.drop_succ_cons, List.drop_zero, Act.put, List.setIfInBounds_toArray, List.set_cons_zero, List.set_cons_succ]
              by_cases hK2 : K = 2
              · subst hK2
                go_wp2_with (refine wpList_store_row rfl 31 (.tmp 11) (.tmp 97) rfl vb (encM ⟨A, 3, 0, X⟩) rfl rfl 31 _ V7.out (encM_inf _) rfl (encM_all _) ?_; rw [← HW7.out])
                obtain ⟨w8, hw8⟩ : ∃ w8, w8 = w7.setCell ⟨vb, 0, none⟩ (i64 0) := ⟨_, rfl⟩
                obtain ⟨m8, hm8⟩ : ∃ m8 : Msg, m8 = ⟨0, 3, 0, X⟩ := ⟨_, rfl⟩
                have V8 : RowKit.Hid (Blk w8 vb (encM m8) 31) := Lib.hid (by rw [hw8, hm8]; exact (V7'.out.set 0 (i64 0)).cast rfl)
                have T8 : Tn (fun j => j = vb) w7 w8 := by rw [hw8]; exact (Tn.refl (fun j => j = vb) w7).setCell (p := ⟨vb, 0, none⟩) (.inl rfl) _
                have BO8 := Lib.hid (BO7.out.set T8)
                have B8 : RowKit.Hid (Below w0.heap.size w0 w8) := Lib.hid (B7.out.trans (T8.below B7.out.size fun j hj => by rw [hj]; exact hvl))
                have HT8 : RowKit.Hid (m8.text.length ≤ 1000) := Lib.hid (by rw [hm8]; have := HXL.out; dsimp only; omega)
                rw [← hw8]
                clear hw8 hm8 T8 f7 c7 l7 BO7 B7 V7 V7' HW7
                obtain ⟨s, hv, mv, cv, lv, C1, C2, hM, hR, hd, hs, hC1, hC2, hx1, hx2⟩ := BO8.out
                have M := Lib.hid hM
                have R8 := Lib.hid hR
                have D8 := Lib.hid hd
                have X1 := Lib.hid hx1
                have X2 := Lib.hid hx2
                have CC : RowKit.Hid (w0.heap.size ≤ C1 ∧ w0.heap.size ≤ C2) := Lib.hid ⟨hC1, hC2⟩
                have HS := Lib.hid hs
                clear hM hR hd hC1 hC2 hx1 hx2 hs BO8
                obtain ⟨S, hS⟩ : ∃ S : World → Prop, S = fun W => Blk W vb (encM m8) 31 := ⟨_, rfl⟩
                have LB : RowKit.Hid (∀ W, S W → Blk W vb (encM m8) 31) := Lib.hid (by rw [hS]; exact fun W h => h)
                have UU : RowKit.Hid (∀ W, Blk W vb (encM m8) 31 → S W) := Lib.hid (by rw [hS]; exact fun W h => h)
                have hHeld : S w8.drew := UU.out _ V8.out.drew
                clear hS
                refine wp_region_held_drew (S := S) (by kernel_rfl) hHeld (fun _ => ?_)
                apply wpAnyH_apartV4 (fun W => Both w0.heap.size b rb (k + 1) W ∧ Below w0.heap.size w0 W)
                case take =>
                  intro R hR
                  refine wpAnyH_take (i := 0) (v := ?_) rfl (by kernel_rfl) (by kernel_rfl) (by kernel_rfl) (fun _ _ _ h => only_panic h) (Or.inl ⟨by rfl, ?_⟩) hHeld ?_
                  rotate_left
                  · (intro w hSw; clear hSw; go_simp; try (with_reducible rfl))
                  try simp only [List.getElem_toArray, List.getElem_cons_succ, List.getElem_cons_zero, Act.put, List.setIfInBounds_toArray, List.set_cons_zero, List.set_cons_succ]
                  refine wpAnyH_take (i := 3) (v := ?_) rfl (by kernel_rfl) (by kernel_rfl) (by kernel_rfl) (fun _ _ _ h => only_panic h) (Or.inl ⟨by rfl, ?_⟩) hHeld ?_
                  rotate_left
                  · (intro w hSw; clear hSw; go_simp; try (with_reducible rfl))
                  try simp only [List.getElem_toArray, List.getElem_cons_succ, List.getElem_cons_zero, Act.put, List.setIfInBounds_toArray, List.set_cons_zero, List.set_cons_succ]
                  refine wpAnyH_take (i := 1) (v := .agg (encM m8)) rfl (by kernel_rfl) (by kernel_rfl) (by kernel_rfl) (fun _ _ _ h => only_panic h) ?_ hHeld ?_
                  · exact yields_row (.tmp 11) (by rfl) rfl rfl LB.out Try.underlying31 rfl (encM_inf m8)
                  try simp only [List.getElem_toArray, List.getElem_cons_succ, List.getElem_cons_zero, Act.put, List.setIfInBounds_toArray, List.set_cons_zero, List.set_cons_succ]
                  refine wpAnyH_take (i := 4) (v := .agg (encM m8)) rfl (by kernel_rfl) (by kernel_rfl) (by kernel_rfl) (fun _ _ _ h => only_panic h) ?_ hHeld ?_
                  · exact yields_row (.tmp 11) (by rfl) rfl rfl LB.out Try.underlying31 rfl (encM_inf m8)
                  try simp only [List.getElem_toArray, List.getElem_cons_succ, List.getElem_cons_zero, Act.put, List.setIfInBounds_toArray, List.set_cons_zero, List.set_cons_succ]
                  refine wpAnyH_one (i := 2) rfl (by kernel_rfl) (by rfl) ?_
                  go_simp
                  have MD := M.out.up (Below.refl w8.heap.size w8).drew
                  have RD := R8.out.up (Below.refl w8.heap.size w8).drew
                  refine (take_any C1 b s hv mv m8 w8.drew MD (Nat.le_trans M.out.lo (Nat.le_of_lt M.out.blk.lt)) (by have := HS.out; omega) (by have := HT8.out; omega)).mono ?_
                  rintro e W1 ⟨v1, hv1, mv1, rfl, hm1, hM1, hT1, hO1⟩
                  have RK := RD.keep hT1 fun j h1 h2 => D8.out j h1 h2
                  have hHeld := UU.out _ (hT1.blk V8.out.drew X1.out)
                  refine ⟨hHeld, ?_⟩
                  refine wpAnyH_one (i := 5) rfl (by kernel_rfl) (by rfl) ?_
                  go_simp
                  refine (rTake_any C2 rb (2 * k) s cv lv m8 W1 RK (Nat.le_trans RK.lo (Nat.le_of_lt RK.blk.lt)) (by omega) (by have := HT8.out; omega)).mono ?_
                  rintro e W2 ⟨v2, cv2, lv2, rfl, hm2, hR2, hT2, hO2⟩
                  have hz1 : w8.heap.size ≤ W1.heap.size := hT1.size
                  have MK := hM1.keep hT2 fun j h1 h2 => by
                    rcases hO1 j h2 with h3 | h3
                    · exact D8.out j h3 h1
                    · have := (R8.out.own_lt h1).2
                      have h3' : w8.heap.size ≤ j := h3
                      omega
                  have hHeld := UU.out _ (hT2.blk (LB.out _ hHeld) X2.out)
                  have hS1 : MSl W2 v1 (s.take m8).2 := hm1.sl.tn hT2 fun g n c e1 h1 => by
                    rcases hq : (s.take m8).2 with _ | ⟨x, _ | ⟨y, l⟩⟩
                    · rw [hq] at hm1; rw [show v1 = _ from hm1] at e1; cases e1
                    · rw [hq] at hm1
                      obtain ⟨g', hg', e2, _⟩ := hm1
                      rw [e2] at e1; injection e1 with e1; injection e1 with e1; injection e1 with e1; subst e1
                      have := (R8.out.own_lt h1).2
                      have h3' : w8.heap.size ≤ g' := hg'
                      omega
                    · rw [hq] at hm1; exact hm1.elim
                  have SM := Lib.hid (msame_any v1 v2 (s.take m8).2 W2 hS1 hm2.sl (by have := (s.take_len m8).2.2; omega))
                  have D2 : RowKit.Hid (∀ j, OwnL b hv1 mv1 j → OwnR rb cv2 lv2 j → False) := Lib.hid fun j h1 h2 => by
                    rcases hO2 j h2 with h3 | h3
                    · rcases hO1 j h1 with h4 | h4
                      · exact D8.out j h4 h3
                      · have := (R8.out.own_lt h3).2
                        have h4' : w8.heap.size ≤ j := h4
                        omega
                    · have := (hM1.own_lt h1).2; omega
                  have T2 : RowKit.Hid (Below w0.heap.size w0 W2) := Lib.hid (B8.out.trans (((Below.refl w8.heap.size w8).drew.mono B8.out.size).trans ((hT1.below (B := w0.heap.size) B8.out.size fun j hj => Nat.le_trans CC.out.1 (M.out.own_lt hj).1).trans (hT2.below (B := w0.heap.size) (Nat.le_trans B8.out.size hz1) fun j hj => Nat.le_trans CC.out.2 (R8.out.own_lt hj).1))))
                  have M2 := Lib.hid MK
                  have R2 := Lib.hid (hR2.mono (N' := 2 * (k + 1)) (by omega) (by omega))
                  obtain ⟨s1, hs1⟩ : ∃ s1, s1 = (s.take m8).1 := ⟨_, rfl⟩
                  have HS1 : RowKit.Hid (s1.sent ≤ k + 1) := Lib.hid (by rw [hs1]; have := (s.take_len m8).1; have := HS.out; omega)
                  rw [← hs1] at M2 R2
                  clear hS1 MK RK hM1 hR2 hT1 hT2 hO1 hO2 hm1 hm2 MD RD hz1 hs1
                  refine ⟨hHeld, ?_⟩
                  refine wpAnyH_one (i := 6) rfl (by kernel_rfl) (by rfl) ?_
                  go_simp
                  refine SM.out.mono ?_
                  rintro e W3 ⟨rfl, hb3⟩
                  have M3 := Lib.hid (M2.out.up hb3)
                  have R3 := Lib.hid (R2.out.up hb3)
                  have T3 : RowKit.Hid (Below w0.heap.size w0 W3) := Lib.hid (T2.out.trans (hb3.mono T2.out.size))
                  have hHeld := UU.out _ ((LB.out _ hHeld).below hb3 (LB.out _ hHeld).lt)
                  clear hb3 SM
                  refine ⟨hHeld, ?_⟩
                  refine wpAnyH_take (i := 7) (v := ?_) rfl (by kernel_rfl) (by kernel_rfl) (by kernel_rfl) (fun _ _ _ h => only_panic h) (Or.inl ⟨by rfl, ?_⟩) hHeld ?_
                  rotate_left
                  · (intro w hSw; clear hSw; go_simp; try (with_reducible rfl))
                  try simp only [List.getElem_toArray, List.getElem_cons_succ, List.getElem_cons_zero, Act.put, List.setIfInBounds_toArray, List.set_cons_zero, List.set_cons_succ]
                  refine wpAnyH_take (i := 8) (v := ?_) rfl (by kernel_rfl) (by kernel_rfl) (by kernel_rfl) (fun _ _ _ h => only_panic h) (Or.inl ⟨by rfl, ?_⟩) hHeld ?_
                  rotate_left
                  · (intro w hSw; clear hSw; go_simp; try (with_reducible rfl))
                  try simp only [List.getElem_toArray, List.getElem_cons_succ, List.getElem_cons_zero, Act.put, List.setIfInBounds_toArray, List.set_cons_zero, List.set_cons_succ]
                  refine wpAnyH_take (i := 9) (v := ?_) rfl (by kernel_rfl) (by kernel_rfl) (by kernel_rfl) (fun _ _ _ h => only_panic h) (Or.inl ⟨by rfl, ?_⟩) hHeld ?_
                  rotate_left
                  · (intro w hSw; clear hSw; go_simp; try (with_reducible rfl))
                  try simp only [List.getElem_toArray, List.getElem_cons_succ, List.getElem_cons_zero, Act.put, List.setIfInBounds_toArray, List.set_cons_zero, List.set_cons_succ]
                  refine wpAnyH_take (i := 11) (v := ?_) rfl (by kernel_rfl) (by kernel_rfl) (by kernel_rfl) (fun _ _ _ h => only_panic h) (Or.inl ⟨by rfl, ?_⟩) hHeld ?_
                  rotate_left
                  · (intro w hSw; clear hSw; go_simp; try (with_reducible rfl))
                  try simp only [List.getElem_toArray, List.getElem_cons_succ, List.getElem_cons_zero, Act.put, List.setIfInBounds_toArray, List.set_cons_zero, List.set_cons_succ]
                  refine wpAnyH_one (i := 10) rfl (by kernel_rfl) (by rfl) ?_
                  go_simp
                  refine (here_any C1 b 0 s1 hv1 mv1 W3 M3.out (by have := M3.out.len; have := HS1.out; omega)).mono ?_
                  rintro e W4 ⟨v3, rfl, hr4, hb4⟩
                  have Q4 := Lib.hid hr4
                  have R4 := Lib.hid (R3.out.up hb4)
                  have M4 := Lib.hid (M3.out.up hb4)
                  have T4 : RowKit.Hid (Below w0.heap.size w0 W4) := Lib.hid (T3.out.trans (hb4.mono T3.out.size))
                  have hHeld := UU.out _ ((LB.out _ hHeld).below hb4 (LB.out _ hHeld).lt)
                  clear hr4 hb4
                  refine ⟨hHeld, ?_⟩
                  refine wpAnyH_one (i := 12) rfl (by kernel_rfl) (by rfl) ?_
                  go_simp
                  refine (rHere_any C2 rb (2 * (k + 1)) s1 cv2 lv2 W4 R4.out).mono ?_
                  rintro e W5 ⟨v4, rfl, hr5, hb5⟩
                  have IS := Lib.hid (isame_any v3 v4 s1.here W5 ((Tn.of_below (F := fun _ => False) hb5).row Q4.out fun _ _ => id) hr5 (by have := M3.out.len; have := HS1.out; omega))
                  have R5 := Lib.hid (R4.out.up hb5)
                  have M5 := Lib.hid (M4.out.up hb5)
                  have T5 : RowKit.Hid (Below w0.heap.size w0 W5) := Lib.hid (T4.out.trans (hb5.mono T4.out.size))
                  have hHeld := UU.out _ ((LB.out _ hHeld).below hb5 (LB.out _ hHeld).lt)
                  clear hr5 hb5
                  refine ⟨hHeld, ?_⟩
                  refine wpAnyH_one (i := 13) rfl (by kernel_rfl) (by rfl) ?_
                  go_simp
                  refine IS.out.mono ?_
                  rintro e W6 ⟨rfl, hb6⟩
                  have FB : RowKit.Hid (Both w0.heap.size b rb (k + 1) W6 ∧ Below w0.heap.size w0 W6) := Lib.hid
                    ⟨⟨s1, hv1, mv1, cv2, lv2, C1, C2, M5.out.up hb6, R5.out.up hb6, D2.out, by have := HS1.out; omega, CC.out.1, CC.out.2⟩, T5.out.trans (hb6.mono T5.out.size)⟩
                  have hHeld := UU.out _ ((LB.out _ hHeld).below hb6 (LB.out _ hHeld).lt)
                  clear hb6 IS
                  refine ⟨hHeld, ?_⟩
                  refine wpAnyH_take (i := 14) (v := ?_) rfl (by kernel_rfl) (by kernel_rfl) (by kernel_rfl) (fun _ _ _ h => only_panic h) (Or.inl ⟨by rfl, ?_⟩) hHeld ?_
                  rotate_left
                  · (intro w hSw; clear hSw; go_simp; try (with_reducible rfl))
                  try simp only [List.getElem_toArray, List.getElem_cons_succ, List.getElem_cons_zero, Act.put, List.setIfInBounds_toArray, List.set_cons_zero, List.set_cons_succ]
                  refine wpAnyH_take (i := 15) (v := ?_) rfl (by kernel_rfl) (by kernel_rfl) (by kernel_rfl) (fun _ _ _ h => only_panic h) (Or.inl ⟨by rfl, ?_⟩) hHeld ?_
                  rotate_left
                  · (intro w hSw; clear hSw; go_simp; try (with_reducible rfl))
                  try simp only [List.getElem_toArray, List.getElem_cons_succ, List.getElem_cons_zero, Act.put, List.setIfInBounds_toArray, List.set_cons_zero, List.set_cons_succ]
                  refine wpAnyH_take (i := 16) (v := ?_) rfl (by kernel_rfl) (by kernel_rfl) (by kernel_rfl) (fun _ _ _ h => only_panic h) (Or.inl ⟨by rfl, ?_⟩) hHeld ?_
                  rotate_left
                  · (intro w hSw; clear hSw; go_simp; try (with_reducible rfl))
                  try simp only [List.getElem_toArray, List.getElem_cons_succ, List.getElem_cons_zero, Act.put, List.setIfInBounds_toArray, List.set_cons_zero, List.set_cons_succ]
                  refine wpAnyH_take (i := 17) (v := ?_) rfl (by kernel_rfl) (by kernel_rfl) (by kernel_rfl) (fun _ _ _ h => only_panic h) (Or.inl ⟨by rfl, ?_⟩) hHeld ?_
                  rotate_left
                  · (intro w hSw; clear hSw; go_simp; try (with_reducible rfl))
                  try simp only [List.getElem_toArray, List.getElem_cons_succ, List.getElem_cons_zero, Act.put, List.setIfInBounds_toArray, List.set_cons_zero, List.set_cons_succ]
                  refine wpAnyH_one (i := 18) rfl (by kernel_rfl) (by rfl) ?_
                  go_simp
                  refine (tick_any b W6).mono ?_
                  rintro e W7 ⟨rfl, rfl⟩
                  refine ⟨hHeld, ?_⟩
                  refine wpAnyH_take (i := 19) (v := ?_) rfl (by kernel_rfl) (by kernel_rfl) (by kernel_rfl) (fun _ _ _ h => only_panic h) (Or.inl ⟨by rfl, ?_⟩) hHeld ?_
                  rotate_left
                  · (intro w hSw; clear hSw; go_simp; try (with_reducible rfl))
                  try simp only [List.getElem_toArray, List.getElem_cons_succ, List.getElem_cons_zero, Act.put, List.setIfInBounds_toArray, List.set_cons_zero, List.set_cons_succ]
                  refine wpAnyH_take (i := 20) (v := ?_) rfl (by kernel_rfl) (by kernel_rfl) (by kernel_rfl) (fun _ _ _ h => only_panic h) (Or.inl ⟨by rfl, ?_⟩) hHeld ?_
                  rotate_left
                  · (intro w hSw; clear hSw; go_simp; try (with_reducible rfl))
                  try simp only [List.getElem_toArray, List.getElem_cons_succ, List.getElem_cons_zero, Act.put, List.setIfInBounds_toArray, List.set_cons_zero, List.set_cons_succ]
                  refine wpAnyH_take (i := 21) (v := ?_) rfl (by kernel_rfl) (by kernel_rfl) (by kernel_rfl) (fun _ _ _ h => only_panic h) (Or.inl ⟨by rfl, ?_⟩) hHeld ?_
                  rotate_left
                  · (intro w hSw; clear hSw; go_simp; try (with_reducible rfl))
                  try simp only [List.getElem_toArray, List.getElem_cons_succ, List.getElem_cons_zero, Act.put, List.setIfInBounds_toArray, List.set_cons_zero, List.set_cons_succ]
                  exact wpAnyH_done (by kernel_rfl) ⟨rfl, hR v1 v2 v3 v4 _ FB.out⟩ _
                case rest =>
                  rintro x y z u W ⟨hB, hb⟩
                  have BN := Lib.hid hB
                  have TN := Lib.hid hb
                  clear hB hb
                  go_wp2_with fail
                  exact ⟨⟨k + 1, hlt, h6, by go_num, BN.out, TN.out⟩, by simp [intOf]; omega⟩
              · have eK : (K == 2) = false := by simpa using hK2
                obtain ⟨m8, hm8⟩ : ∃ m8 : Msg, m8 = ⟨A, 3, 0, X⟩ := ⟨_, rfl⟩
                obtain ⟨w8, hw8⟩ : ∃ w8, w8 = w7 := ⟨_, rfl⟩
                subst hw8
                clear hK2
                go_wp2_with (refine wpList_store_row rfl 31 (.tmp 11) (.tmp 97) rfl vb (encM ⟨A, 3, 0, X⟩) rfl rfl 31 _ V7.out (encM_inf _) rfl (encM_all _) ?_; rw [← HW7.out])
                have V8 : RowKit.Hid (Blk w8 vb (encM m8) 31) := Lib.hid (by rw [hm8]; exact V7'.out)
                have BO8 := BO7
                have B8 := B7
                have HT8 : RowKit.Hid (m8.text.length ≤ 1000) := Lib.hid (by rw [hm8]; have := HXL.out; dsimp only; omega)
                clear hm8 f7 c7 l7 BO7 B7 V7 V7' HW7 eK
                obtain ⟨s, hv, mv, cv, lv, C1, C2, hM, hR, hd, hs, hC1, hC2, hx1, hx2⟩ := BO8.out
                have M := Lib.hid hM
                have R8 := Lib.hid hR
                have D8 := Lib.hid hd
                have X1 := Lib.hid hx1
                have X2 := Lib.hid hx2
                have CC : RowKit.Hid (w0.heap.size ≤ C1 ∧ w0.heap.size ≤ C2) := Lib.hid ⟨hC1, hC2⟩
                have HS := Lib.hid hs
                clear hM hR hd hC1 hC2 hx1 hx2 hs BO8
                obtain ⟨S, hS⟩ : ∃ S : World → Prop, S = fun W => Blk W vb (encM m8) 31 := ⟨_, rfl⟩
                have LB : RowKit.Hid (∀ W, S W → Blk W vb (encM m8) 31) := Lib.hid (by rw [hS]; exact fun W h => h)
                have UU : RowKit.Hid (∀ W, Blk W vb (encM m8) 31 → S W) := Lib.hid (by rw [hS]; exact fun W h => h)
                have hHeld : S w8.drew := UU.out _ V8.out.drew
                clear hS
                refine wp_region_held_drew (S := S) (by kernel_rfl) hHeld (fun _ => ?_)
                apply wpAnyH_apartV4 (fun W => Both w0.heap.size b rb (k + 1) W ∧ Below w0.heap.size w0 W)
                case take =>
                  intro R hR
                  refine wpAnyH_take (i := 0) (v := ?_) rfl (by kernel_rfl) (by kernel_rfl) (by kernel_rfl) (fun _ _ _ h => only_panic h) (Or.inl ⟨by rfl, ?_⟩) hHeld ?_
                  rotate_left
                  · (intro w hSw; clear hSw; go_simp; try (with_reducible rfl))
                  try simp only [List.getElem_toArray, List.getElem_cons_succ, List.getElem_cons_zero, Act.put, List.setIfInBounds_toArray, List.set_cons_zero, List.set_cons_succ]
                  refine wpAnyH_take (i := 3) (v := ?_) rfl (by kernel_rfl) (by kernel_rfl) (by kernel_rfl) (fun _ _ _ h => only_panic h) (Or.inl ⟨by rfl, ?_⟩) hHeld ?_
                  rotate_left
                  · (intro w hSw; clear hSw; go_simp; try (with_reducible rfl))
                  try simp only [List.getElem_toArray, List.getElem_cons_succ, List.getElem_cons_zero, Act.put, List.setIfInBounds_toArray, List.set_cons_zero, List.set_cons_succ]
                  refine wpAnyH_take (i := 1) (v := .agg (encM m8)) rfl (by kernel_rfl) (by kernel_rfl) (by kernel_rfl) (fun _ _ _ h => only_panic h) ?_ hHeld ?_
                  · exact yields_row (.tmp 11) (by rfl) rfl rfl LB.out Try.underlying31 rfl (encM_inf m8)
                  try simp only [List.getElem_toArray, List.getElem_cons_succ, List.getElem_cons_zero, Act.put, List.setIfInBounds_toArray, List.set_cons_zero, List.set_cons_succ]
                  refine wpAnyH_take (i := 4) (v := .agg (encM m8)) rfl (by kernel_rfl) (by kernel_rfl) (by kernel_rfl) (fun _ _ _ h => only_panic h) ?_ hHeld ?_
                  · exact yields_row (.tmp 11) (by rfl) rfl rfl LB.out Try.underlying31 rfl (encM_inf m8)
                  try simp only [List.getElem_toArray, List.getElem_cons_succ, List.getElem_cons_zero, Act.put, List.setIfInBounds_toArray, List.set_cons_zero, List.set_cons_succ]
                  refine wpAnyH_one (i := 2) rfl (by kernel_rfl) (by rfl) ?_
                  go_simp
                  have MD := M.out.up (Below.refl w8.heap.size w8).drew
                  have RD := R8.out.up (Below.refl w8.heap.size w8).drew
                  refine (take_any C1 b s hv mv m8 w8.drew MD (Nat.le_trans M.out.lo (Nat.le_of_lt M.out.blk.lt)) (by have := HS.out; omega) (by have := HT8.out; omega)).mono ?_
                  rintro e W1 ⟨v1, hv1, mv1, rfl, hm1, hM1, hT1, hO1⟩
                  have RK := RD.keep hT1 fun j h1 h2 => D8.out j h1 h2
                  have hHeld := UU.out _ (hT1.blk V8.out.drew X1.out)
                  refine ⟨hHeld, ?_⟩
                  refine wpAnyH_one (i := 5) rfl (by kernel_rfl) (by rfl) ?_
                  go_simp
                  refine (rTake_any C2 rb (2 * k) s cv lv m8 W1 RK (Nat.le_trans RK.lo (Nat.le_of_lt RK.blk.lt)) (by omega) (by have := HT8.out; omega)).mono ?_
                  rintro e W2 ⟨v2, cv2, lv2, rfl, hm2, hR2, hT2, hO2⟩
                  have hz1 : w8.heap.size ≤ W1.heap.size := hT1.size
                  have MK := hM1.keep hT2 fun j h1 h2 => by
                    rcases hO1 j h2 with h3 | h3
                    · exact D8.out j h3 h1
                    · have := (R8.out.own_lt h1).2
                      have h3' : w8.heap.size ≤ j := h3
                      omega
                  have hHeld := UU.out _ (hT2.blk (LB.out _ hHeld) X2.out)
                  have hS1 : MSl W2 v1 (s.take m8).2 := hm1.sl.tn hT2 fun g n c e1 h1 => by
                    rcases hq : (s.take m8).2 with _ | ⟨x, _ | ⟨y, l⟩⟩
                    · rw [hq] at hm1; rw [show v1 = _ from hm1] at e1; cases e1
                    · rw [hq] at hm1
                      obtain ⟨g', hg', e2, _⟩ := hm1
                      rw [e2] at e1; injection e1 with e1; injection e1 with e1; injection e1 with e1; subst e1
                      have := (R8.out.own_lt h1).2
                      have h3' : w8.heap.size ≤ g' := hg'
                      omega
                    · rw [hq] at hm1; exact hm1.elim
                  have SM := Lib.hid (msame_any v1 v2 (s.take m8).2 W2 hS1 hm2.sl (by have := (s.take_len m8).2.2; omega))
                  have D2 : RowKit.Hid (∀ j, OwnL b hv1 mv1 j → OwnR rb cv2 lv2 j → False) := Lib.hid fun j h1 h2 => by
                    rcases hO2 j h2 with h3 | h3
                    · rcases hO1 j h1 with h4 | h4
                      · exact D8.out j h4 h3
                      · have := (R8.out.own_lt h3).2
                        have h4' : w8.heap.size ≤ j := h4
                        omega
                    · have := (hM1.own_lt h1).2; omega
                  have T2 : RowKit.Hid (Below w0.heap.size w0 W2) := Lib.hid (B8.out.trans (((Below.refl w8.heap.size w8).drew.mono B8.out.size).trans ((hT1.below (B := w0.heap.size) B8.out.size fun j hj => Nat.le_trans CC.out.1 (M.out.own_lt hj).1).trans (hT2.below (B := w0.heap.size) (Nat.le_trans B8.out.size hz1) fun j hj => Nat.le_trans CC.out.2 (R8.out.own_lt hj).1))))
                  have M2 := Lib.hid MK
                  have R2 := Lib.hid (hR2.mono (N' := 2 * (k + 1)) (by omega) (by omega))
                  obtain ⟨s1, hs1⟩ : ∃ s1, s1 = (s.take m8).1 := ⟨_, rfl⟩
                  have HS1 : RowKit.Hid (s1.sent ≤ k + 1) := Lib.hid (by rw [hs1]; have := (s.take_len m8).1; have := HS.out; omega)
                  rw [← hs1] at M2 R2
                  clear hS1 MK RK hM1 hR2 hT1 hT2 hO1 hO2 hm1 hm2 MD RD hz1 hs1
                  refine ⟨hHeld, ?_⟩
                  refine wpAnyH_one (i := 6) rfl (by kernel_rfl) (by rfl) ?_
                  go_simp
                  refine SM.out.mono ?_
                  rintro e W3 ⟨rfl, hb3⟩
                  have M3 := Lib.hid (M2.out.up hb3)
                  have R3 := Lib.hid (R2.out.up hb3)
                  have T3 : RowKit.Hid (Below w0.heap.size w0 W3) := Lib.hid (T2.out.trans (hb3.mono T2.out.size))
                  have hHeld := UU.out _ ((LB.out _ hHeld).below hb3 (LB.out _ hHeld).lt)
                  clear hb3 SM
                  refine ⟨hHeld, ?_⟩
                  refine wpAnyH_take (i := 7) (v := ?_) rfl (by kernel_rfl) (by kernel_rfl) (by kernel_rfl) (fun _ _ _ h => only_panic h) (Or.inl ⟨by rfl, ?_⟩) hHeld ?_
                  rotate_left
                  · (intro w hSw; clear hSw; go_simp; try (with_reducible rfl))
                  try simp only [List.getElem_toArray, List.getElem_cons_succ, List.getElem_cons_zero, Act.put, List.setIfInBounds_toArray, List.set_cons_zero, List.set_cons_succ]
                  refine wpAnyH_take (i := 8) (v := ?_) rfl (by kernel_rfl) (by kernel_rfl) (by kernel_rfl) (fun _ _ _ h => only_panic h) (Or.inl ⟨by rfl, ?_⟩) hHeld ?_
                  rotate_left
                  · (intro w hSw; clear hSw; go_simp; try (with_reducible rfl))
                  try simp only [List.getElem_toArray, List.getElem_cons_succ, List.getElem_cons_zero, Act.put, List.setIfInBounds_toArray, List.set_cons_zero, List.set_cons_succ]
                  refine wpAnyH_take (i := 9) (v := ?_) rfl (by kernel_rfl) (by kernel_rfl) (by kernel_rfl) (fun _ _ _ h => only_panic h) (Or.inl ⟨by rfl, ?_⟩) hHeld ?_
                  rotate_left
                  · (intro w hSw; clear hSw; go_simp; try (with_reducible rfl))
                  try simp only [List.getElem_toArray, List.getElem_cons_succ, List.getElem_cons_zero, Act.put, List.setIfInBounds_toArray, List.set_cons_zero, List.set_cons_succ]
                  refine wpAnyH_take (i := 11) (v := ?_) rfl (by kernel_rfl) (by kernel_rfl) (by kernel_rfl) (fun _ _ _ h => only_panic h) (Or.inl ⟨by rfl, ?_⟩) hHeld ?_
                  rotate_left
                  · (intro w hSw; clear hSw; go_simp; try (with_reducible rfl))
                  try simp only [List.getElem_toArray, List.getElem_cons_succ, List.getElem_cons_zero, Act.put, List.setIfInBounds_toArray, List.set_cons_zero, List.set_cons_succ]
                  refine wpAnyH_one (i := 10) rfl (by kernel_rfl) (by rfl) ?_
                  go_simp
                  refine (here_any C1 b 0 s1 hv1 mv1 W3 M3.out (by have := M3.out.len; have := HS1.out; omega)).mono ?_
                  rintro e W4 ⟨v3, rfl, hr4, hb4⟩
                  have Q4 := Lib.hid hr4
                  have R4 := Lib.hid (R3.out.up hb4)
                  have M4 := Lib.hid (M3.out.up hb4)
                  have T4 : RowKit.Hid (Below w0.heap.size w0 W4) := Lib.hid (T3.out.trans (hb4.mono T3.out.size))
                  have hHeld := UU.out _ ((LB.out _ hHeld).below hb4 (LB.out _ hHeld).lt)
                  clear hr4 hb4
                  refine ⟨hHeld, ?_⟩
                  refine wpAnyH_one (i := 12) rfl (by kernel_rfl) (by rfl) ?_
                  go_simp
                  refine (rHere_any C2 rb (2 * (k + 1)) s1 cv2 lv2 W4 R4.out).mono ?_
                  rintro e W5 ⟨v4, rfl, hr5, hb5⟩
                  have IS := Lib.hid (isame_any v3 v4 s1.here W5 ((Tn.of_below (F := fun _ => False) hb5).row Q4.out fun _ _ => id) hr5 (by have := M3.out.len; have := HS1.out; omega))
                  have R5 := Lib.hid (R4.out.up hb5)
                  have M5 := Lib.hid (M4.out.up hb5)
                  have T5 : RowKit.Hid (Below w0.heap.size w0 W5) := Lib.hid (T4.out.trans (hb5.mono T4.out.size))
                  have hHeld := UU.out _ ((LB.out _ hHeld).below hb5 (LB.out _ hHeld).lt)
                  clear hr5 hb5
                  refine ⟨hHeld, ?_⟩
                  refine wpAnyH_one (i := 13) rfl (by kernel_rfl) (by rfl) ?_
                  go_simp
                  refine IS.out.mono ?_
                  rintro e W6 ⟨rfl, hb6⟩
                  have FB : RowKit.Hid (Both w0.heap.size b rb (k + 1) W6 ∧ Below w0.heap.size w0 W6) := Lib.hid
                    ⟨⟨s1, hv1, mv1, cv2, lv2, C1, C2, M5.out.up hb6, R5.out.up hb6, D2.out, by have := HS1.out; omega, CC.out.1, CC.out.2⟩, T5.out.trans (hb6.mono T5.out.size)⟩
                  have hHeld := UU.out _ ((LB.out _ hHeld).below hb6 (LB.out _ hHeld).lt)
                  clear hb6 IS
                  refine ⟨hHeld, ?_⟩
                  refine wpAnyH_take (i := 14) (v := ?_) rfl (by kernel_rfl) (by kernel_rfl) (by kernel_rfl) (fun _ _ _ h => only_panic h) (Or.inl ⟨by rfl, ?_⟩) hHeld ?_
                  rotate_left
                  · (intro w hSw; clear hSw; go_simp; try (with_reducible rfl))
                  try simp only [List.getElem_toArray, List.getElem_cons_succ, List.getElem_cons_zero, Act.put, List.setIfInBounds_toArray, List.set_cons_zero, List.set_cons_succ]
                  refine wpAnyH_take (i := 15) (v := ?_) rfl (by kernel_rfl) (by kernel_rfl) (by kernel_rfl) (fun _ _ _ h => only_panic h) (Or.inl ⟨by rfl, ?_⟩) hHeld ?_
                  rotate_left
                  · (intro w hSw; clear hSw; go_simp; try (with_reducible rfl))
                  try simp only [List.getElem_toArray, List.getElem_cons_succ, List.getElem_cons_zero, Act.put, List.setIfInBounds_toArray, List.set_cons_zero, List.set_cons_succ]
                  refine wpAnyH_take (i := 16) (v := ?_) rfl (by kernel_rfl) (by kernel_rfl) (by kernel_rfl) (fun _ _ _ h => only_panic h) (Or.inl ⟨by rfl, ?_⟩) hHeld ?_
                  rotate_left
                  · (intro w hSw; clear hSw; go_simp; try (with_reducible rfl))
                  try simp only [List.getElem_toArray, List.getElem_cons_succ, List.getElem_cons_zero, Act.put, List.setIfInBounds_toArray, List.set_cons_zero, List.set_cons_succ]
                  refine wpAnyH_take (i := 17) (v := ?_) rfl (by kernel_rfl) (by kernel_rfl) (by kernel_rfl) (fun _ _ _ h => only_panic h) (Or.inl ⟨by rfl, ?_⟩) hHeld ?_
                  rotate_left
                  · (intro w hSw; clear hSw; go_simp; try (with_reducible rfl))
                  try simp only [List.getElem_toArray, List.getElem_cons_succ, List.getElem_cons_zero, Act.put, List.setIfInBounds_toArray, List.set_cons_zero, List.set_cons_succ]
                  refine wpAnyH_one (i := 18) rfl (by kernel_rfl) (by rfl) ?_
                  go_simp
                  refine (tick_any b W6).mono ?_
                  rintro e W7 ⟨rfl, rfl⟩
                  refine ⟨hHeld, ?_⟩
                  refine wpAnyH_take (i := 19) (v := ?_) rfl (by kernel_rfl) (by kernel_rfl) (by kernel_rfl) (fun _ _ _ h => only_panic h) (Or.inl ⟨by rfl, ?_⟩) hHeld ?_
                  rotate_left
                  · (intro w hSw; clear hSw; go_simp; try (with_reducible rfl))
                  try simp only [List.getElem_toArray, List.getElem_cons_succ, List.getElem_cons_zero, Act.put, List.setIfInBounds_toArray, List.set_cons_zero, List.set_cons_succ]
                  refine wpAnyH_take (i := 20) (v := ?_) rfl (by kernel_rfl) (by kernel_rfl) (by kernel_rfl) (fun _ _ _ h => only_panic h) (Or.inl ⟨by rfl, ?_⟩) hHeld ?_
                  rotate_left
                  · (intro w hSw; clear hSw; go_simp; try (with_reducible rfl))
                  try simp only [List.getElem_toArray, List.getElem_cons_succ, List.getElem_cons_zero, Act.put, List.setIfInBounds_toArray, List.set_cons_zero, List.set_cons_succ]
                  refine wpAnyH_take (i := 21) (v := ?_) rfl (by kernel_rfl) (by kernel_rfl) (by kernel_rfl) (fun _ _ _ h => only_panic h) (Or.inl ⟨by rfl, ?_⟩) hHeld ?_
                  rotate_left
                  · (intro w hSw; clear hSw; go_simp; try (with_reducible rfl))
                  try simp only [List.getElem_toArray, List.getElem_cons_succ, List.getElem_cons_zero, Act.put, List.setIfInBounds_toArray, List.set_cons_zero, List.set_cons_succ]
                  exact wpAnyH_done (by kernel_rfl) ⟨rfl, hR v1 v2 v3 v4 _ FB.out⟩ _
                case rest =>
                  rintro x y z u W ⟨hB, hb⟩
                  have BN := Lib.hid hB
                  have TN := Lib.hid hb
                  clear hB hb
                  go_wp2_with fail
                  exact ⟨⟨k + 1, hlt, h6, by go_num, BN.out, TN.out⟩, by simp [intOf]; omega⟩
            · have h5 : (c.v.tmod 5 != 0) = false := by simpa using h5
              go_wp2_with (refine wpList_store_row rfl 31 (.tmp 11) (.tmp 55) rfl w4.heap.size (encM m) rfl rfl 31 _ NB.out (encM_inf m) rfl (encM_all m) ?_; rw [← HW5.out, ← HVB.out])
              obtain ⟨w6, hw6⟩ : ∃ w6, w6 = w5.alloc (.cells #[i64 2, i64 2, i64 7, i64 9, i64 11] 3) := ⟨_, rfl⟩
              obtain ⟨kb, hkb⟩ : ∃ kb, kb = w5.heap.size := ⟨_, rfl⟩
              have KB : RowKit.Hid (Blk w6 kb #[i64 2, i64 2, i64 7, i64 9, i64 11] 3) := Lib.hid (by rw [hw6, hkb]; exact Blk.new _ _ _)
              have D6 : Below w5.heap.size w5 w6 := by rw [hw6]; exact (Below.refl _ _).alloc (Nat.le_refl _) _
              have V6 := Lib.hid (V5.out.below D6 V5.out.lt)
              have BO6 := Lib.hid (BO5.out.up D6)
              have B6 : RowKit.Hid (Below w0.heap.size w0 w6) := Lib.hid (B5.out.trans (D6.mono B5.out.size))
              have A6 := Lib.hid (A5.out.below D6 hba5)
              rw [← hw6, ← hkb]
              clear hw6 hkb D6 V5 BO5 B5 A5 NB HW5 a5 a0 h5
              obtain ⟨m8, hm8⟩ : ∃ m8, m8 = m := ⟨_, rfl⟩
              obtain ⟨w8, hw8⟩ : ∃ w8, w8 = w6 := ⟨_, rfl⟩
              subst hm8 hw8
              have V8 := V6
              have BO8 := BO6
              have B8 := B6
              have HT8 : RowKit.Hid (m8.text.length ≤ 1000) := Lib.hid (Nat.le_trans HMT.out (by omega))
              clear V6 BO6 B6 KB A6
              obtain ⟨s, hv, mv, cv, lv, C1, C2, hM, hR, hd, hs, hC1, hC2, hx1, hx2⟩ := BO8.out
              have M := Lib.hid hM
              have R8 := Lib.hid hR
              have D8 := Lib.hid hd
              have X1 := Lib.hid hx1
              have X2 := Lib.hid hx2
              have CC : RowKit.Hid (w0.heap.size ≤ C1 ∧ w0.heap.size ≤ C2) := Lib.hid ⟨hC1, hC2⟩
              have HS := Lib.hid hs
              clear hM hR hd hC1 hC2 hx1 hx2 hs BO8
              obtain ⟨S, hS⟩ : ∃ S : World → Prop, S = fun W => Blk W vb (encM m8) 31 := ⟨_, rfl⟩
              have LB : RowKit.Hid (∀ W, S W → Blk W vb (encM m8) 31) := Lib.hid (by rw [hS]; exact fun W h => h)
              have UU : RowKit.Hid (∀ W, Blk W vb (encM m8) 31 → S W) := Lib.hid (by rw [hS]; exact fun W h => h)
              have hHeld : S w8.drew := UU.out _ V8.out.drew
              clear hS
              refine wp_region_held_drew (S := S) (by kernel_rfl) hHeld (fun _ => ?_)
              apply wpAnyH_apartV4 (fun W => Both w0.heap.size b rb (k + 1) W ∧ Below w0.heap.size w0 W)
              case take =>
                intro R hR
                refine wpAnyH_take (i := 0) (v := ?_) rfl (by kernel_rfl) (by kernel_rfl) (by kernel_rfl) (fun _ _ _ h => only_panic h) (Or.inl ⟨by rfl, ?_⟩) hHeld ?_
                rotate_left
                · (intro w hSw; clear hSw; go_simp; try (with_reducible rfl))
                try simp only [List.getElem_toArray, List.getElem_cons_succ, List.getElem_cons_zero, Act.put, List.setIfInBounds_toArray, List.set_cons_zero, List.set_cons_succ]
                refine wpAnyH_take (i := 3) (v := ?_) rfl (by kernel_rfl) (by kernel_rfl) (by kernel_rfl) (fun _ _ _ h => only_panic h) (Or.inl ⟨by rfl, ?_⟩) hHeld ?_
                rotate_left
                · (intro w hSw; clear hSw; go_simp; try (with_reducible rfl))
                try simp only [List.getElem_toArray, List.getElem_cons_succ, List.getElem_cons_zero, Act.put, List.setIfInBounds_toArray, List.set_cons_zero, List.set_cons_succ]
                refine wpAnyH_take (i := 1) (v := .agg (encM m8)) rfl (by kernel_rfl) (by kernel_rfl) (by kernel_rfl) (fun _ _ _ h => only_panic h) ?_ hHeld ?_
                · exact yields_row (.tmp 11) (by rfl) rfl rfl LB.out Try.underlying31 rfl (encM_inf m8)
                try simp only [List.getElem_toArray, List.getElem_cons_succ, List.getElem_cons_zero, Act.put, List.setIfInBounds_toArray, List.set_cons_zero, List.set_cons_succ]
                refine wpAnyH_take (i := 4) (v := .agg (encM m8)) rfl (by kernel_rfl) (by kernel_rfl) (by kernel_rfl) (fun _ _ _ h => only_panic h) ?_ hHeld ?_
                · exact yields_row (.tmp 11) (by rfl) rfl rfl LB.out Try.underlying31 rfl (encM_inf m8)
                try simp only [List.getElem_toArray, List.getElem_cons_succ, List.getElem_cons_zero, Act.put, List.setIfInBounds_toArray, List.set_cons_zero, List.set_cons_succ]
                refine wpAnyH_one (i := 2) rfl (by kernel_rfl) (by rfl) ?_
                go_simp
                have MD := M.out.up (Below.refl w8.heap.size w8).drew
                have RD := R8.out.up (Below.refl w8.heap.size w8).drew
                refine (take_any C1 b s hv mv m8 w8.drew MD (Nat.le_trans M.out.lo (Nat.le_of_lt M.out.blk.lt)) (by have := HS.out; omega) (by have := HT8.out; omega)).mono ?_
                rintro e W1 ⟨v1, hv1, mv1, rfl, hm1, hM1, hT1, hO1⟩
                have RK := RD.keep hT1 fun j h1 h2 => D8.out j h1 h2
                have hHeld := UU.out _ (hT1.blk V8.out.drew X1.out)
                refine ⟨hHeld, ?_⟩
                refine wpAnyH_one (i := 5) rfl (by kernel_rfl) (by rfl) ?_
                go_simp
                refine (rTake_any C2 rb (2 * k) s cv lv m8 W1 RK (Nat.le_trans RK.lo (Nat.le_of_lt RK.blk.lt)) (by omega) (by have := HT8.out; omega)).mono ?_
                rintro e W2 ⟨v2, cv2, lv2, rfl, hm2, hR2, hT2, hO2⟩
                have hz1 : w8.heap.size ≤ W1.heap.size := hT1.size
                have MK := hM1.keep hT2 fun j h1 h2 => by
                  rcases hO1 j h2 with h3 | h3
                  · exact D8.out j h3 h1
                  · have := (R8.out.own_lt h1).2
                    have h3' : w8.heap.size ≤ j := h3
                    omega
                have hHeld := UU.out _ (hT2.blk (LB.out _ hHeld) X2.out)
                have hS1 : MSl W2 v1 (s.take m8).2 := hm1.sl.tn hT2 fun g n c e1 h1 => by
                  rcases hq : (s.take m8).2 with _ | ⟨x, _ | ⟨y, l⟩⟩
                  · rw [hq] at hm1; rw [show v1 = _ from hm1] at e1; cases e1
                  · rw [hq] at hm1
                    obtain ⟨g', hg', e2, _⟩ := hm1
                    rw [e2] at e1; injection e1 with e1; injection e1 with e1; injection e1 with e1; subst e1
                    have := (R8.out.own_lt h1).2
                    have h3' : w8.heap.size ≤ g' := hg'
                    omega
                  · rw [hq] at hm1; exact hm1.elim
                have SM := Lib.hid (msame_any v1 v2 (s.take m8).2 W2 hS1 hm2.sl (by have := (s.take_len m8).2.2; omega))
                have D2 : RowKit.Hid (∀ j, OwnL b hv1 mv1 j → OwnR rb cv2 lv2 j → False) := Lib.hid fun j h1 h2 => by
                  rcases hO2 j h2 with h3 | h3
                  · rcases hO1 j h1 with h4 | h4
                    · exact D8.out j h4 h3
                    · have := (R8.out.own_lt h3).2
                      have h4' : w8.heap.size ≤ j := h4
                      omega
                  · have := (hM1.own_lt h1).2; omega
                have T2 : RowKit.Hid (Below w0.heap.size w0 W2) := Lib.hid (B8.out.trans (((Below.refl w8.heap.size w8).drew.mono B8.out.size).trans ((hT1.below (B := w0.heap.size) B8.out.size fun j hj => Nat.le_trans CC.out.1 (M.out.own_lt hj).1).trans (hT2.below (B := w0.heap.size) (Nat.le_trans B8.out.size hz1) fun j hj => Nat.le_trans CC.out.2 (R8.out.own_lt hj).1))))
                have M2 := Lib.hid MK
                have R2 := Lib.hid (hR2.mono (N' := 2 * (k + 1)) (by omega) (by omega))
                obtain ⟨s1, hs1⟩ : ∃ s1, s1 = (s.take m8).1 := ⟨_, rfl⟩
                have HS1 : RowKit.Hid (s1.sent ≤ k + 1) := Lib.hid (by rw [hs1]; have := (s.take_len m8).1; have := HS.out; omega)
                rw [← hs1] at M2 R2
                clear hS1 MK RK hM1 hR2 hT1 hT2 hO1 hO2 hm1 hm2 MD RD hz1 hs1
                refine ⟨hHeld, ?_⟩
                refine wpAnyH_one (i := 6) rfl (by kernel_rfl) (by rfl) ?_
                go_simp
                refine SM.out.mono ?_
                rintro e W3 ⟨rfl, hb3⟩
                have M3 := Lib.hid (M2.out.up hb3)
                have R3 := Lib.hid (R2.out.up hb3)
                have T3 : RowKit.Hid (Below w0.heap.size w0 W3) := Lib.hid (T2.out.trans (hb3.mono T2.out.size))
                have hHeld := UU.out _ ((LB.out _ hHeld).below hb3 (LB.out _ hHeld).lt)
                clear hb3 SM
                refine ⟨hHeld, ?_⟩
                refine wpAnyH_take (i := 7) (v := ?_) rfl (by kernel_rfl) (by kernel_rfl) (by kernel_rfl) (fun _ _ _ h => only_panic h) (Or.inl ⟨by rfl, ?_⟩) hHeld ?_
                rotate_left
                · (intro w hSw; clear hSw; go_simp; try (with_reducible rfl))
                try simp only [List.getElem_toArray, List.getElem_cons_succ, List.getElem_cons_zero, Act.put, List.setIfInBounds_toArray, List.set_cons_zero, List.set_cons_succ]
                refine wpAnyH_take (i := 8) (v := ?_) rfl (by kernel_rfl) (by kernel_rfl) (by kernel_rfl) (fun _ _ _ h => only_panic h) (Or.inl ⟨by rfl, ?_⟩) hHeld ?_
                rotate_left
                · (intro w hSw; clear hSw; go_simp; try (with_reducible rfl))
                try simp only [List.getElem_toArray, List.getElem_cons_succ, List.getElem_cons_zero, Act.put, List.setIfInBounds_toArray, List.set_cons_zero, List.set_cons_succ]
                refine wpAnyH_take (i := 9) (v := ?_) rfl (by kernel_rfl) (by kernel_rfl) (by kernel_rfl) (fun _ _ _ h => only_panic h) (Or.inl ⟨by rfl, ?_⟩) hHeld ?_
                rotate_left
                · (intro w hSw; clear hSw; go_simp; try (with_reducible rfl))
                try simp only [List.getElem_toArray, List.getElem_cons_succ, List.getElem_cons_zero, Act.put, List.setIfInBounds_toArray, List.set_cons_zero, List.set_cons_succ]
                refine wpAnyH_take (i := 11) (v := ?_) rfl (by kernel_rfl) (by kernel_rfl) (by kernel_rfl) (fun _ _ _ h => only_panic h) (Or.inl ⟨by rfl, ?_⟩) hHeld ?_
                rotate_left
                · (intro w hSw; clear hSw; go_simp; try (with_reducible rfl))
                try simp only [List.getElem_toArray, List.getElem_cons_succ, List.getElem_cons_zero, Act.put, List.setIfInBounds_toArray, List.set_cons_zero, List.set_cons_succ]
                refine wpAnyH_one (i := 10) rfl (by kernel_rfl) (by rfl) ?_
                go_simp
                refine (here_any C1 b 0 s1 hv1 mv1 W3 M3.out (by have := M3.out.len; have := HS1.out; omega)).mono ?_
                rintro e W4 ⟨v3, rfl, hr4, hb4⟩
                have Q4 := Lib.hid hr4
                have R4 := Lib.hid (R3.out.up hb4)
                have M4 := Lib.hid (M3.out.up hb4)
                have T4 : RowKit.Hid (Below w0.heap.size w0 W4) := Lib.hid (T3.out.trans (hb4.mono T3.out.size))
                have hHeld := UU.out _ ((LB.out _ hHeld).below hb4 (LB.out _ hHeld).lt)
                clear hr4 hb4
                refine ⟨hHeld, ?_⟩
                refine wpAnyH_one (i := 12) rfl (by kernel_rfl) (by rfl) ?_
                go_simp
                refine (rHere_any C2 rb (2 * (k + 1)) s1 cv2 lv2 W4 R4.out).mono ?_
                rintro e W5 ⟨v4, rfl, hr5, hb5⟩
                have IS := Lib.hid (isame_any v3 v4 s1.here W5 ((Tn.of_below (F := fun _ => False) hb5).row Q4.out fun _ _ => id) hr5 (by have := M3.out.len; have := HS1.out; omega))
                have R5 := Lib.hid (R4.out.up hb5)
                have M5 := Lib.hid (M4.out.up hb5)
                have T5 : RowKit.Hid (Below w0.heap.size w0 W5) := Lib.hid (T4.out.trans (hb5.mono T4.out.size))
                have hHeld := UU.out _ ((LB.out _ hHeld).below hb5 (LB.out _ hHeld).lt)
                clear hr5 hb5
                refine ⟨hHeld, ?_⟩
                refine wpAnyH_one (i := 13) rfl (by kernel_rfl) (by rfl) ?_
                go_simp
                refine IS.out.mono ?_
                rintro e W6 ⟨rfl, hb6⟩
                have FB : RowKit.Hid (Both w0.heap.size b rb (k + 1) W6 ∧ Below w0.heap.size w0 W6) := Lib.hid
                  ⟨⟨s1, hv1, mv1, cv2, lv2, C1, C2, M5.out.up hb6, R5.out.up hb6, D2.out, by have := HS1.out; omega, CC.out.1, CC.out.2⟩, T5.out.trans (hb6.mono T5.out.size)⟩
                have hHeld := UU.out _ ((LB.out _ hHeld).below hb6 (LB.out _ hHeld).lt)
                clear hb6 IS
                refine ⟨hHeld, ?_⟩
                refine wpAnyH_take (i := 14) (v := ?_) rfl (by kernel_rfl) (by kernel_rfl) (by kernel_rfl) (fun _ _ _ h => only_panic h) (Or.inl ⟨by rfl, ?_⟩) hHeld ?_
                rotate_left
                · (intro w hSw; clear hSw; go_simp; try (with_reducible rfl))
                try simp only [List.getElem_toArray, List.getElem_cons_succ, List.getElem_cons_zero, Act.put, List.setIfInBounds_toArray, List.set_cons_zero, List.set_cons_succ]
                refine wpAnyH_take (i := 15) (v := ?_) rfl (by kernel_rfl) (by kernel_rfl) (by kernel_rfl) (fun _ _ _ h => only_panic h) (Or.inl ⟨by rfl, ?_⟩) hHeld ?_
                rotate_left
                · (intro w hSw; clear hSw; go_simp; try (with_reducible rfl))
                try simp only [List.getElem_toArray, List.getElem_cons_succ, List.getElem_cons_zero, Act.put, List.setIfInBounds_toArray, List.set_cons_zero, List.set_cons_succ]
                refine wpAnyH_take (i := 16) (v := ?_) rfl (by kernel_rfl) (by kernel_rfl) (by kernel_rfl) (fun _ _ _ h => only_panic h) (Or.inl ⟨by rfl, ?_⟩) hHeld ?_
                rotate_left
                · (intro w hSw; clear hSw; go_simp; try (with_reducible rfl))
                try simp only [List.getElem_toArray, List.getElem_cons_succ, List.getElem_cons_zero, Act.put, List.setIfInBounds_toArray, List.set_cons_zero, List.set_cons_succ]
                refine wpAnyH_take (i := 17) (v := ?_) rfl (by kernel_rfl) (by kernel_rfl) (by kernel_rfl) (fun _ _ _ h => only_panic h) (Or.inl ⟨by rfl, ?_⟩) hHeld ?_
                rotate_left
                · (intro w hSw; clear hSw; go_simp; try (with_reducible rfl))
                try simp only [List.getElem_toArray, List.getElem_cons_succ, List.getElem_cons_zero, Act.put, List.setIfInBounds_toArray, List.set_cons_zero, List.set_cons_succ]
                refine wpAnyH_one (i := 18) rfl (by kernel_rfl) (by rfl) ?_
                go_simp
                refine (tick_any b W6).mono ?_
                rintro e W7 ⟨rfl, rfl⟩
                refine ⟨hHeld, ?_⟩
                refine wpAnyH_take (i := 19) (v := ?_) rfl (by kernel_rfl) (by kernel_rfl) (by kernel_rfl) (fun _ _ _ h => only_panic h) (Or.inl ⟨by rfl, ?_⟩) hHeld ?_
                rotate_left
                · (intro w hSw; clear hSw; go_simp; try (with_reducible rfl))
                try simp only [List.getElem_toArray, List.getElem_cons_succ, List.getElem_cons_zero, Act.put, List.setIfInBounds_toArray, List.set_cons_zero, List.set_cons_succ]
                refine wpAnyH_take (i := 20) (v := ?_) rfl (by kernel_rfl) (by kernel_rfl) (by kernel_rfl) (fun _ _ _ h => only_panic h) (Or.inl ⟨by rfl, ?_⟩) hHeld ?_
                rotate_left
                · (intro w hSw; clear hSw; go_simp; try (with_reducible rfl))
                try simp only [List.getElem_toArray, List.getElem_cons_succ, List.getElem_cons_zero, Act.put, List.setIfInBounds_toArray, List.set_cons_zero, List.set_cons_succ]
                refine wpAnyH_take (i := 21) (v := ?_) rfl (by kernel_rfl) (by kernel_rfl) (by kernel_rfl) (fun _ _ _ h => only_panic h) (Or.inl ⟨by rfl, ?_⟩) hHeld ?_
                rotate_left
                · (intro w hSw; clear hSw; go_simp; try (with_reducible rfl))
                try simp only [List.getElem_toArray, List.getElem_cons_succ, List.getElem_cons_zero, Act.put, List.setIfInBounds_toArray, List.set_cons_zero, List.set_cons_succ]
                exact wpAnyH_done (by kernel_rfl) ⟨rfl, hR v1 v2 v3 v4 _ FB.out⟩ _
              case rest =>
                rintro x y z u W ⟨hB, hb⟩
                have BN := Lib.hid hB
                have TN := Lib.hid hb
                clear hB hb
                go_wp2_with fail
                exact ⟨⟨k + 1, hlt, h6, by go_num, BN.out, TN.out⟩, by simp [intOf]; omega⟩
          · have hend : k = L.length ∨ (k < L.length ∧ k = 60) := by omega
            have FZ : RowKit.Hid (Below w.heap.size w wr) := Lib.hid (B0.out.trans (BB.out.mono B0.out.size))
            clear hgo
            rcases hend with rfl | ⟨hlt, rfl⟩
            · go_wp2_with fail
              go_ret
              exact ⟨rfl, FZ.out⟩
            · go_wp2_with fail
              go_ret
              exact ⟨rfl, FZ.out⟩
end Go.Proofs.Ytdojgbpaheadnaa
