/- Problems given by numbers: what Costs and Lists make. -/
import Derived.Test.YtpcmppamkgkdlaaTD
namespace Go.Proofs.Ytpcmppamkgkdlaa
open Go.RowKit

/-- The costs of ways between four branches. -/
def rowC (cs : Nat → Int) (a n : Nat) : List Int := (List.range n).map fun b => cs (4 * a + b) % 12
def costsU (cs : Nat → Int) (n : Nat) : List (List Int) := (List.range n).map fun a => rowC cs a 4
def costsM (cs : Nat → Int) : List (List Int) := costsU cs 4
theorem rowC_succ (cs : Nat → Int) (a n : Nat) : rowC cs a (n + 1) = rowC cs a n ++ [cs (4 * a + n) % 12] := by simp [rowC, List.range_succ]
theorem costsU_succ (cs : Nat → Int) (n : Nat) : costsU cs (n + 1) = costsU cs n ++ [rowC cs n 4] := by simp [costsU, List.range_succ]
/-- Rows that are collected in new memory. -/
structure RB (w0 W : World) (lv : Value) (us : List Value) (C : List (List Int)) : Prop where
  row : W.ownsRow w0.heap.size 30 1 lv C.length us
  el : ∀ j, j < C.length → ∃ u, us[j]? = some u ∧ IntsIn W (fun b => w0.heap.size ≤ b ∧ lv.ownBlock ≠ some b) u (C.getD j [])
  bel : Below w0.heap.size w0 W
theorem RB.start (w : World) : RB w w (.slice none 0 0) [] [] := ⟨World.ownsRow_nil _ _ _ _, fun j hj => by simp at hj, Below.refl _ _⟩
theorem RB.step {w0 W W1 W2 : World} {lv u : Value} {us : List Value} {C : List (List Int)} {l : List Int} {g cap : Nat} (h : RB w0 W lv us C) (hb : Below W.heap.size W W1)
    (hr : W2.ownsRow w0.heap.size 30 1 (.slice (some ⟨g, 0, none⟩) (C.length + 1) cap) (C.length + 1) (us ++ [u])) (hg : W1.grownBy W2 lv.ownBlock) (hat : lv.ownBlock = some g ∨ g = W1.heap.size)
    (hu : IntsIn W1 (fun b => W.heap.size ≤ b) u l) : RB w0 W2 (.slice (some ⟨g, 0, none⟩) (C.length + 1) cap) (us ++ [u]) (C ++ [l]) := by
  have lus : us.length = C.length := by have := h.row.1; omega
  have t : Tn (fun b => lv.ownBlock = some b) W W2 := (Tn.of_below hb).then_ (Tn.of_grown hg) fun b e => .inl e
  have hgl : ∀ b, b < W1.heap.size → (Value.slice (some ⟨g, 0, none⟩) (C.length + 1) cap).ownBlock = some b → lv.ownBlock = some b := fun b hb e => by
    obtain rfl : g = b := by injection e
    rcases hat with h | h
    · exact h
    · omega
  refine ⟨by simpa using hr, fun j hj => ?_, h.bel.trans (t.below h.bel.size fun b e => (row_lt h.row b e).1)⟩
  rcases Nat.lt_or_ge j C.length with hlt | hge
  · obtain ⟨x, hx, hI⟩ := h.el j hlt
    refine ⟨x, by rw [List.getElem?_append_left (by omega)]; exact hx, ?_⟩
    have e : (C ++ [l]).getD j [] = C.getD j [] := by simp [List.getD_eq_getElem?_getD, List.getElem?_append_left hlt]
    rw [e]
    exact hI.keep t (fun b ⟨_, h2⟩ _ => h2) fun b ⟨h1, h2⟩ hb' => ⟨h1, fun e => h2 (hgl b (by have := hb.size; omega) e)⟩
  · have hj' : j = C.length := by simp at hj; omega
    subst hj'
    refine ⟨u, by rw [← lus]; simp, ?_⟩
    have e : (C ++ [l]).getD C.length [] = l := by simp [List.getD_eq_getElem?_getD]
    rw [e]
    exact hu.keep (Tn.of_grown hg) (fun b h1 _ e => by have := (row_lt h.row b e).2; omega) fun b h1 hb' => ⟨by have := h.bel.size; omega, fun e => by
      have := (row_lt h.row b (hgl b hb' e)).2; omega⟩
theorem RB.done {w0 W : World} {lv : Value} {us : List Value} {C : List (List Int)} (h : RB w0 W lv us C) : Rows2 W W.heap.size lv C := by
  obtain ⟨a, cap, e, h0⟩ := row_cell h.row
  refine ⟨a, cap, e, ?_⟩
  rcases h0 with h0 | ⟨g, rfl, _, hc⟩
  · exact .inl (List.eq_nil_of_length_eq_zero h0)
  · rcases Nat.eq_zero_or_pos C.length with hz | hz
    · exact .inl (List.eq_nil_of_length_eq_zero hz)
    · refine .inr ⟨g, 0, rfl, ?_, fun j hj => ?_⟩
      · obtain ⟨u, hu, _⟩ := h.el 0 hz
        exact cell_lt (hc 0 u hu)
      · obtain ⟨u, hu, hI⟩ := h.el j hj
        exact ⟨u, by rw [Nat.zero_add]; exact hc j u hu, hI.ints fun b _ hb => hb⟩
def CostsE (cs : Nat → Int) (w : World) (e : Ending) (w' : World) : Prop := ∃ v, e = .returned v ∧ Rows2 w' w'.heap.size v (costsM cs) ∧ Below w.heap.size w w'
/-- The same, and what is returned lies in new memory. -/
def CostsO (cs : Nat → Int) (w : World) (e : Ending) (w' : World) : Prop := ∃ v us W1, e = .returned v ∧ RB W1 w' v us (costsM cs) ∧ Below w.heap.size w w' ∧ w.heap.size ≤ W1.heap.size
set_option maxRecDepth 100000 in
set_option maxHeartbeats 4000000 in
theorem costs_own (cells : Array Value) (cs : Nat → Int) (w : World) (hcs : ∀ i, i < 16 → cells[2 + i]? = some (.int .u16 (cs i)) ∧ 0 ≤ cs i ∧ cs i < 65536) :
    Calls Try.prog 15 #[.agg cells] w (CostsO cs w) := by
  have HCS := Lib.hid hcs
  obtain ⟨i3, hi, hi0, hi1, hi2⟩ := info_parts info3
  obtain ⟨i30, hj, hj0, hj1, hj2⟩ := info_parts info30
  have HI := Lib.hid (And.intro hi (And.intro hi0 (And.intro hi1 hi2)))
  have HJ := Lib.hid (And.intro hj (And.intro hj0 (And.intro hj1 hj2)))
  clear hcs hi hi0 hi1 hi2 hj hj0 hj1 hj2
  go_enter Try.func15, Try.ntmps15
  go_wp2_with fail
  obtain ⟨pb, hpb⟩ : ∃ pb, pb = w.heap.size := ⟨_, rfl⟩
  obtain ⟨W1, hW1⟩ : ∃ W1, W1 = w.alloc (.cells cells 27) := ⟨_, rfl⟩
  have PB : RowKit.Hid (Blk W1 pb cells 27) := Lib.hid (by rw [hW1, hpb]; exact Blk.new _ _ _)
  have B1 : RowKit.Hid (Below w.heap.size w W1) := Lib.hid (by rw [hW1]; exact (Below.refl _ _).alloc (Nat.le_refl _) _)
  have HS : RowKit.Hid (W1.heap.size = pb + 1 ∧ pb = w.heap.size) := Lib.hid ⟨by rw [hW1, hpb]; simp, hpb⟩
  rw [← hW1, ← hpb]
  clear hW1 hpb
  go_loopw [3, 4] (fun v x wr => ∃ (a : Nat) (lv : Value) (us : List Value), a ≤ 4 ∧ x = .int .i64 a ∧ lv = v ∧ RB W1 wr lv us (costsU cs a)) (fun _ x _ => 4 - (intOf x).toNat)
  case atStart => exact ⟨0, _, [], by omega, rfl, rfl, RB.start _⟩
  case round =>
    obtain ⟨wo, rfl⟩ : ∃ wo : World, wo = wr := ⟨_, rfl⟩
    obtain ⟨a, lv, us, ha, rfl, rfl, hR⟩ := hrel
    have RR := Lib.hid hR
    have hz := hR.bel.size
    clear hR
    by_cases hlt : a < 4
    · have d1 : decide ((a : Int) < 4) = true := by simp; omega
      have d2 : decide (a < 4) = true := by simpa using hlt
      go_wp2_with fail
      go_loopw [5, 6] (fun v x wr => ∃ (b : Nat) (lw : Value), b ≤ 4 ∧ x = .int .i64 b ∧ lw = v ∧ Below wo.heap.size wo wr ∧ wr.ownsRow wo.heap.size 3 1 lw b ((rowC cs a b).map (Value.int .i64))) (fun _ x _ => 4 - (intOf x).toNat)
      case atStart => exact ⟨0, _, by omega, rfl, rfl, Below.refl _ _, World.ownsRow_nil _ _ _ _⟩
      case round =>
        obtain ⟨b, lw, hb, rfl, rfl, hB, hrow⟩ := hrel
        have BB := Lib.hid hB
        have R2 := Lib.hid hrow
        have hz2 := hB.size
        clear hB hrow
        by_cases hlb : b < 4
        · obtain ⟨q0, q1, q2⟩ := HCS.out (4 * a + b) (by omega)
          have c0 : wr.cell? ⟨pb, 2 + (4 * a + b), none⟩ = some (.int .u16 (cs (4 * a + b))) := by
            have h1 : W1.cell? ⟨pb, 2 + (4 * a + b), none⟩ = some (.int .u16 (cs (4 * a + b))) := PB.out.cellE q0
            have h2 := (RR.out.bel.cell (p := ⟨pb, 2 + (4 * a + b), none⟩) (by show pb < W1.heap.size; have := HS.out; omega)).trans h1
            exact (BB.out.cell (p := ⟨pb, 2 + (4 * a + b), none⟩) (by show pb < wo.heap.size; have := HS.out; omega)).trans h2
          have RS := Lib.hid (rowC_succ cs a b)
          obtain ⟨y, hy⟩ : ∃ y, y = cs (4 * a + b) := ⟨_, rfl⟩
          rw [← hy] at c0 q1 q2 RS
          have hfa : (0 : Int) ≤ ((4 * a + b : Nat) : Int) := by omega
          obtain ⟨hi, hi0, hi1, hi2⟩ := HI.out
          clear hy q0
          go_wp2_with (at_builtin; go_must (refine wpList_append_own_at _ rfl (.tmp 15) (.tmp 25) 30 rfl wo.heap.size 3 i3 (.int .i64 0) 1 8 Try.underlying30 hi hi0 hi1 hi2 rfl (by decide) _ b _ rfl (R2.out.alloc _) ⟨wr.heap.size, 0, none⟩ 1 1 [.int .i64 (y % 12)] rfl rfl (news_ wr _ 3) (one_ rfl) (by unfold maxLen; omega) (by omega) (by simp; omega) ?_))
          intro v' w5 hown hgrow _ _
          have R5 : RowKit.Hid (w5.ownsRow wo.heap.size 3 1 v' (b + 1) ((rowC cs a (b + 1)).map (Value.int .i64))) := Lib.hid (by rw [RS.out, List.map_append]; exact hown)
          have B5 : RowKit.Hid (Below wo.heap.size wo w5) := Lib.hid (BB.out.trans ((((Tn.refl (fun b => wo.heap.size ≤ b) wr).alloc (.cells #[.int .i64 (y % 12)] 3)).then_ (Tn.of_grown hgrow) fun x e => .inl (row_lt R2.out x e).1).below hz2 fun _ h => h))
          clear hown hgrow hi hi0 hi1 hi2 R2
          go_wp2_with fail
          exact ⟨⟨b + 1, _, by omega, by go_num, rfl, B5.out, R5.out⟩, by simp [intOf]; omega⟩
        · obtain rfl : b = 4 := by omega
          have hlC : (costsU cs a).length = a := by simp [costsU]
          have HLC := Lib.hid hlC
          have CS := Lib.hid (costsU_succ cs a)
          have R3 := RR.out.row
          rw [hlC] at R3
          have hrlen : (rowC cs a 4).length = 4 := by simp [rowC]
          obtain ⟨a7, c7, rfl, hO, hob⟩ := own_of_row (w := wr) (B := wo.heap.size) (D := rowC cs a 4) (by rw [hrlen]; exact R2.out)
          rw [hrlen]
          have HO : RowKit.Hid (IntsIn (wr.alloc (.cells #[.slice a7 4 c7] 30)) (fun b => wo.heap.size ≤ b) (.slice a7 4 c7) (rowC cs a 4)) := Lib.hid (by
            have := hO.ints.keep (S' := fun b => wo.heap.size ≤ b) ((Tn.refl (fun _ => False) wr).alloc (.cells #[.slice a7 4 c7] 30)) (fun _ _ _ => id) (fun b h _ => h.1)
            rwa [hrlen] at this)
          have RW : RowKit.Hid (wr.ownsRow W1.heap.size 30 1 lv a us) := Lib.hid ((Tn.of_below' (F := fun b => wo.heap.size ≤ b) BB.out fun b h _ => h).row R3 fun r hr e => by have := (row_lt R3 r hr).2; omega)
          obtain ⟨hj, hj0, hj1, hj2⟩ := HJ.out
          clear hlC hrlen hO hob R3 R2 hb hlb
          go_wp2_with (at_builtin; go_must (refine wpList_append_lies _ rfl (.tmp 27) (.tmp 29) 34 rfl W1.heap.size 30 i30 (.slice none 0 0) 1 24 Try.underlying34 hj hj0 hj1 hj2 rfl (by omega) _ a _ rfl (RW.out.alloc _) ⟨wr.heap.size, 0, none⟩ 1 1 [.slice a7 4 c7] rfl rfl (news_ wr _ 30) (one_ rfl) (by omega) (by unfold maxLen; omega) (by omega) (by simp; omega) (wr.heap.size + 1) (by simp) ?_))
          intro gg cap' w5 hown hgrow hat hlt5
          have R5 : RowKit.Hid (RB W1 w5 (.slice (some ⟨gg, 0, none⟩) (a + 1) cap') (us ++ [.slice a7 4 c7]) (costsU cs (a + 1))) := Lib.hid (by
            have h := RR.out.step (l := rowC cs a 4) (g := gg) (cap := cap') (W1 := wr.alloc (.cells #[.slice a7 4 c7] 30)) (BB.out.alloc hz2 _) (by rw [HLC.out]; exact hown) hgrow (by rw [size_alloc]; exact hat) HO.out
            rw [HLC.out, ← CS.out] at h
            exact h)
          clear hown hgrow hat hlt5 hj hj0 hj1 hj2
          go_wp2_with fail
          exact ⟨⟨a + 1, _, _, by omega, by go_num, rfl, R5.out⟩, by simp [intOf]; omega⟩
    · obtain rfl : a = 4 := by omega
      have HFIN : RowKit.Hid (CostsO cs w (.returned lv) wo) := Lib.hid ⟨lv, us, W1, rfl, RR.out, B1.out.trans (RR.out.bel.mono (by have := HS.out; omega)), by have := HS.out; omega⟩
      go_wp2_with fail
      go_ret
      exact HFIN.out
theorem costs_any (cells : Array Value) (cs : Nat → Int) (w : World) (hcs : ∀ i, i < 16 → cells[2 + i]? = some (.int .u16 (cs i)) ∧ 0 ≤ cs i ∧ cs i < 65536) :
    Calls Try.prog 15 #[.agg cells] w (CostsE cs w) := (costs_own cells cs w hcs).mono fun _ _ ⟨v, _, _, e, h, hb, _⟩ => ⟨v, e, h.done, hb⟩
end Go.Proofs.Ytpcmppamkgkdlaa
