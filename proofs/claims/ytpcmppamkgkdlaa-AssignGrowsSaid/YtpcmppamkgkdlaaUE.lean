/- The law of costs: both add up the same. -/
import Derived.Test.YtpcmppamkgkdlaaUC
import Derived.Test.YtpcmppamkgkdlaaUD
namespace Go.Proofs.Ytpcmppamkgkdlaa
open Go.RowKit

/-- A whole problem is read. -/
theorem wpList_load27 {ops : Array Oper} {rest : List Oper} {o : Oper} {a : Act} {W : World} {Q : Exit → Act → World → Prop} (x : Operand) (hgd : o.guard = none) (ho : o.op = .load 27 x) {pb : Nat} {cells : Array Value}
    (hx : a.eval x = .pointer (some ⟨pb, 0, none⟩)) (h : Blk W pb cells 27) (hs : cells.size = 18) (k : wpList Try.prog ops Q rest (a.put o.dst (.agg cells)) W) : wpList Try.prog ops Q (o :: rest) a W :=
  wpList_plain hgd fun _ hK => by
    unfold Oper.wp execOp
    simp only [ho, hx, Instr.loadAt, Instr.sureAddr, Sem.run_bind, Sem.run_pure, Result.andThen_ok, run_loadVar_row W pb 27 27 cells (0, 0) _ h Try.underlying27 rfl (by rw [hs]; kernel_rfl)]
    exact hK _ _ k
theorem PrIn.below {w w' : World} {B : Nat} {cells : Array Value} {wl : List (Int × Int)} {al : List Int} {cs : Nat → Int} (h : PrIn w B cells wl al cs) (hb : Below B w w') : PrIn w' B cells wl al cs := by
  obtain ⟨⟨a, c, h0, h1⟩, h2, ⟨a', c', h3, h4⟩, h5, h6, h7⟩ := h
  refine ⟨⟨a, c, h0, h1.imp id ?_⟩, h2, ⟨a', c', h3, h4.imp id ?_⟩, h5, h6, h7⟩
  · rintro ⟨b, o, e, hB, hc⟩
    exact ⟨b, o, e, hB, fun j hj => ⟨(hb.cell (p := ⟨b, o + j * 2, none⟩) hB).trans (hc j hj).1, (hb.cell (p := ⟨b, o + j * 2 + 1, none⟩) hB).trans (hc j hj).2⟩⟩
  · rintro ⟨b, o, e, hB, hc⟩
    exact ⟨b, o, e, hB, fun j hj => (hb.cell (p := ⟨b, o + j, none⟩) hB).trans (hc j hj)⟩
/-- Small numbers that came in. -/
structure I8 (w : World) (a : Option Addr) (bs : List Int) (cap : Nat) : Prop where
  at_ : bs = [] ∨ ∃ b o, a = some ⟨b, o, none⟩ ∧ b < w.heap.size ∧ ∀ j, j < bs.length → w.cell? ⟨b, o + j, none⟩ = some (.int .i8 (bs.getD j 0))
  bd : ∀ j, j < bs.length → -128 ≤ bs.getD j 0 ∧ bs.getD j 0 ≤ 127
  len : bs.length ≤ 9223372036854775807
def cpI (bs : List Int) (k : Nat) : Int := if k < bs.length then (bs.getD k 0).tmod 16 - 2 else -1
def cpL (bs : List Int) (m : Nat) : List Int := (List.range m).map (cpI bs)
theorem cpL_succ (bs : List Int) (m : Nat) : cpL bs (m + 1) = cpL bs m ++ [cpI bs m] := by simp [cpL, List.range_succ]
theorem cpL_len (bs : List Int) (m : Nat) : (cpL bs m).length = m := by simp [cpL]
theorem tmod16 (x : Int) : -15 ≤ x.tmod 16 ∧ x.tmod 16 ≤ 15 := by
  rcases Int.le_total 0 x with h | h
  · rw [Int.tmod_eq_emod_of_nonneg h]; omega
  · have e : x.tmod 16 = -((-x).tmod 16) := by rw [Int.neg_tmod]; omega
    rw [e, Int.tmod_eq_emod_of_nonneg (by omega : 0 ≤ -x)]; omega
theorem cpI_bd (bs : List Int) (k : Nat) : -17 ≤ cpI bs k ∧ cpI bs k ≤ 13 := by
  unfold cpI
  split
  · have := tmod16 (bs.getD k 0); omega
  · omega
theorem copU_len (x y : Int) : (copU x y).length ≤ 34 := by
  have := bitsU_len y 16
  unfold copU; split
  · simp; omega
  · omega
theorem wantsL_cop (wl : List (Int × Int)) (m k : Nat) : ((wantsL wl m).getD k noW).2.length ≤ 1000 := by
  rcases Nat.lt_or_ge k (wantsL wl m).length with h | h
  · rw [List.getD_eq_getElem?_getD, List.getElem?_eq_getElem h]
    simp only [wantsL, List.getElem_map, Option.getD_some, wantU]
    have := copU_len ((wl.take m)[k]'(by simpa [wantsL] using h)).1 ((wl.take m)[k]'(by simpa [wantsL] using h)).2
    omega
  · rw [List.getD_eq_getElem?_getD, List.getElem?_eq_none h]; simp [noW]
theorem wantsL_le (wl : List (Int × Int)) (m : Nat) : (wantsL wl m).length ≤ m := by simp [wantsL]; omega
theorem atL_le (al : List Int) (m : Nat) : (atL al m).length ≤ m := by simp [atL]; omega
theorem costsM_row (cs : Nat → Int) (k : Nat) : (((costsM cs).getD k []).length : Int) ≤ 9223372036854775807 := by
  rcases Nat.lt_or_ge k 4 with h | h
  · rw [List.getD_eq_getElem?_getD, List.getElem?_eq_getElem (by simp [costsM, costsU]; omega)]; simp [costsM, costsU, rowC]
  · rw [List.getD_eq_getElem?_getD, List.getElem?_eq_none (by simp [costsM, costsU]; omega)]; simp
theorem list_bd {l : List Int} {p : Int → Prop} (h : ∀ x ∈ l, p x) {i : Nat} (hi : i < l.length) : p (l.getD i 0) := by
  rw [List.getD_eq_getElem?_getD, List.getElem?_eq_getElem hi]; exact h _ (List.getElem_mem hi)
def cpAll (bs : List Int) (m : Nat) : List Int := if bs.length % 8 = 7 then cpL bs m ++ [-1] else cpL bs m
theorem cpAll_bd (bs : List Int) (m : Nat) : ∀ x ∈ cpAll bs m, -17 ≤ x ∧ x ≤ 13 := by
  have h : ∀ x ∈ cpL bs m, -17 ≤ x ∧ x ≤ 13 := fun x hx => by
    obtain ⟨k, _, rfl⟩ := List.mem_map.1 hx
    exact cpI_bd bs k
  intro x hx
  unfold cpAll at hx
  split at hx
  · rcases List.mem_append.1 hx with h' | h'
    · exact h x h'
    · simp at h'; omega
  · exact h x hx
theorem cpAll_len (bs : List Int) (m : Nat) : (cpAll bs m).length ≤ m + 1 := by
  unfold cpAll; split
  · simp [cpL_len]
  · rw [cpL_len]; omega
set_option maxRecDepth 100000 in
set_option maxHeartbeats 8000000 in
theorem costsLaw (cells : Array Value) (wl : List (Int × Int)) (al : List Int) (cs : Nat → Int) (bs : List Int) (ba : Option Addr) (bcap : Nat) (w : World) (hp : PrIn w w.heap.size cells wl al cs) (hcs : cells.size = 18) (hb : I8 w ba bs bcap) :
    Calls Try.prog 5 #[.agg cells, .slice ba bs.length bcap] w fun e w' => e = .returned (.bool true) ∧ Below w.heap.size w w' := by
  have HP := Lib.hid hp
  have HB := Lib.hid hb
  have HS := Lib.hid hcs
  have hbl := hb.len
  obtain ⟨i3, hi, hi0, hi1, hi2⟩ := info_parts info3
  have HI := Lib.hid (And.intro hi (And.intro hi0 (And.intro hi1 hi2)))
  clear hp hb hcs hi hi0 hi1 hi2
  go_enter Try.func5, Try.ntmps5
  go_wp2_with fail
  obtain ⟨pb, hpb⟩ : ∃ pb, pb = w.heap.size := ⟨_, rfl⟩
  obtain ⟨W1, hW1⟩ : ∃ W1, W1 = w.alloc (.cells cells 27) := ⟨_, rfl⟩
  have PB : RowKit.Hid (Blk W1 pb cells 27) := Lib.hid (by rw [hW1, hpb]; exact Blk.new _ _ _)
  have B1 : RowKit.Hid (Below w.heap.size w W1) := Lib.hid (by rw [hW1]; exact (Below.refl _ _).alloc (Nat.le_refl _) _)
  have HZ : RowKit.Hid (W1.heap.size = pb + 1 ∧ pb = w.heap.size) := Lib.hid ⟨by rw [hW1, hpb]; simp, hpb⟩
  rw [← hW1, ← hpb]
  clear hW1 hpb
  refine (sanity_any W1).mono ?_
  rintro e w2 ⟨rfl, hb2⟩
  have B2 := Lib.hid hb2
  have PB2 := Lib.hid (PB.out.below hb2 PB.out.lt)
  have hz2 := hb2.size
  clear hb2
  go_wp2_with (refine wpList_load27 (.tmp 2) rfl rfl rfl PB2.out HS.out ?_)
  have PR2 : RowKit.Hid (PrIn w2 w.heap.size cells wl al cs) := Lib.hid (HP.out.below ((B1.out).trans (B2.out.mono (by have := HZ.out; omega))))
  refine (lists_any cells wl al cs 12 w2 w.heap.size PR2.out (by have := HZ.out; omega) (by omega)).mono ?_
  rintro e w3 ⟨wv, av, w0, ps, rfl, hWB, h0, hat, hb3⟩
  have B3 : RowKit.Hid (Below W1.heap.size W1 w3) := Lib.hid (B2.out.trans (hb3.mono hz2))
  have hz3 : W1.heap.size ≤ w3.heap.size := B3.out.size
  have HL := Lib.hid hWB.done
  have HA : RowKit.Hid (Ints w3 w3.heap.size av (atL al 12)) := Lib.hid (hat.mono hWB.bel.size)
  obtain ⟨aw, cw, hwv, -⟩ := HL.out
  have HN := Lib.hid (wantsL_le wl 12)
  obtain ⟨L, hL⟩ : ∃ L, L = wantsL wl 12 := ⟨_, rfl⟩
  have HLC : RowKit.Hid (∀ k, (L.getD k noW).2.length ≤ 1000) := Lib.hid fun k => by rw [hL]; exact wantsL_cop wl 12 k
  rw [← hL] at HL HN hwv
  obtain ⟨A, hA⟩ : ∃ A, A = atL al 12 := ⟨_, rfl⟩
  have HAL : RowKit.Hid (A.length ≤ 12) := Lib.hid (by rw [hA]; exact atL_le al 12)
  rw [← hA] at HA
  have hn := HN.out
  subst hwv
  clear hWB h0 hat hb3 hL hA PR2
  go_wp2_with fail
  go_loopw [8, 9] (fun v x wr => ∃ (k : Nat) (lv : Value), k ≤ L.length ∧ x = .int .i64 k ∧ lv = v ∧ Below w3.heap.size w3 wr ∧ wr.ownsRow w3.heap.size 3 1 lv k ((cpL bs k).map (Value.int .i64))) (fun _ x _ => L.length - (intOf x).toNat)
  case atStart => exact ⟨0, _, by omega, rfl, rfl, Below.refl _ _, World.ownsRow_nil _ _ _ _⟩
  case round =>
    obtain ⟨k, lv, hk, rfl, rfl, hb, hrow⟩ := hrel
    have BB := Lib.hid hb
    have RR := Lib.hid hrow
    have hz := hb.size
    clear hb hrow
    by_cases hlt : k < L.length
    · have CS := Lib.hid (cpL_succ bs k)
      obtain ⟨hi, hi0, hi1, hi2⟩ := HI.out
      by_cases hkb : k < bs.length
      · rcases HB.out.at_ with h | ⟨b, o, rfl, hbB, hcl⟩
        · rw [h] at hkb; simp at hkb
        have e0 := (BB.out.cell (p := ⟨b, o + k, none⟩) (by show b < w3.heap.size; have := HZ.out; omega)).trans ((B3.out.cell (p := ⟨b, o + k, none⟩) (by show b < W1.heap.size; have := HZ.out; omega)).trans ((B1.out.cell (p := ⟨b, o + k, none⟩) (by show b < w.heap.size; omega)).trans (hcl k hkb)))
        have bd := HB.out.bd k hkb
        have hcp : cpI bs k = (bs.getD k 0).tmod 16 - 2 := if_pos hkb
        rw [hcp] at CS
        obtain ⟨x, hx⟩ : ∃ x, x = bs.getD k 0 := ⟨_, rfl⟩
        rw [← hx] at e0 bd CS
        have hm := tmod16 x
        have d3 : decide (k < bs.length) = true := by simpa using hkb
        clear hcl hx hcp
        go_wp2_with (at_builtin; go_must (refine wpList_append_own_at _ rfl (.tmp 38) (.tmp 40) 30 rfl w3.heap.size 3 i3 (.int .i64 0) 1 8 Try.underlying30 hi hi0 hi1 hi2 rfl (by decide) _ k _ rfl (RR.out.alloc _) ⟨wr.heap.size, 0, none⟩ 1 1 [.int .i64 (x.tmod 16 - 2)] rfl rfl (news_ wr _ 3) (one_ rfl) (by unfold maxLen; omega) (by omega) (by simp; omega) ?_))
        intro v' w5 hown hgrow _ _
        have R5 : RowKit.Hid (w5.ownsRow w3.heap.size 3 1 v' (k + 1) ((cpL bs (k + 1)).map (Value.int .i64))) := Lib.hid (by rw [CS.out, List.map_append]; exact hown)
        have B5 : RowKit.Hid (Below w3.heap.size w3 w5) := Lib.hid (BB.out.trans ((((Tn.refl (fun b => w3.heap.size ≤ b) wr).alloc (.cells #[.int .i64 (x.tmod 16 - 2)] 3)).then_ (Tn.of_grown hgrow) fun x e => .inl (row_lt RR.out x e).1).below hz fun _ h => h))
        clear hown hgrow hi hi0 hi1 hi2 RR
        go_wp2_with fail
        exact ⟨⟨k + 1, _, by omega, by go_num, rfl, B5.out, R5.out⟩, by simp [intOf]; omega⟩
      · have hcp : cpI bs k = -1 := if_neg hkb
        rw [hcp] at CS
        have d3 : decide (k < bs.length) = false := by simpa using hkb
        have d4 : decide ((k : Int) < (bs.length : Int)) = false := by simp; omega
        clear hcp
        go_wp2_with (at_builtin; go_must (refine wpList_append_own_at _ rfl (.tmp 38) (.tmp 40) 30 rfl w3.heap.size 3 i3 (.int .i64 0) 1 8 Try.underlying30 hi hi0 hi1 hi2 rfl (by decide) _ k _ rfl (RR.out.alloc _) ⟨wr.heap.size, 0, none⟩ 1 1 [.int .i64 (-1)] rfl rfl (news_ wr _ 3) (one_ rfl) (by unfold maxLen; omega) (by omega) (by simp; omega) ?_))
        intro v' w5 hown hgrow _ _
        have R5 : RowKit.Hid (w5.ownsRow w3.heap.size 3 1 v' (k + 1) ((cpL bs (k + 1)).map (Value.int .i64))) := Lib.hid (by rw [CS.out, List.map_append]; exact hown)
        have B5 : RowKit.Hid (Below w3.heap.size w3 w5) := Lib.hid (BB.out.trans ((((Tn.refl (fun b => w3.heap.size ≤ b) wr).alloc (.cells #[.int .i64 (-1)] 3)).then_ (Tn.of_grown hgrow) fun x e => .inl (row_lt RR.out x e).1).below hz fun _ h => h))
        clear hown hgrow hi hi0 hi1 hi2 RR
        go_wp2_with fail
        exact ⟨⟨k + 1, _, by omega, by go_num, rfl, B5.out, R5.out⟩, by simp [intOf]; omega⟩
    · obtain rfl : k = L.length := by omega
      by_cases h7 : bs.length % 8 = 7
      · have e7 : ((bs.length : Int) % 8 == 7) = true := by simp; omega
        have e7' : (bs.length % 8 == 7) = true := by simpa using h7
        have AE : RowKit.Hid (cpAll bs L.length = cpL bs L.length ++ [-1]) := Lib.hid (if_pos h7)
        have LE := Lib.hid (cpL_len bs L.length)
        obtain ⟨hi, hi0, hi1, hi2⟩ := HI.out
        clear h7
        go_wp2_with (at_builtin; go_must (refine wpList_append_own_at _ rfl (.tmp 46) (.tmp 47) 30 rfl w3.heap.size 3 i3 (.int .i64 0) 1 8 Try.underlying30 hi hi0 hi1 hi2 rfl (by decide) _ L.length _ rfl (RR.out.alloc _) ⟨wr.heap.size, 0, none⟩ 1 1 [.int .i64 (-1)] rfl rfl (news_ wr _ 3) (one_ rfl) (by unfold maxLen; omega) (by omega) (by simp; omega) ?_))
        intro v' w5 hown hgrow _ _
        have R5 : RowKit.Hid (w5.ownsRow w3.heap.size 3 1 v' (cpAll bs L.length).length ((cpAll bs L.length).map (Value.int .i64))) := Lib.hid (by rw [AE.out, List.map_append, List.length_append, LE.out]; exact hown)
        have B5 : RowKit.Hid (Below w3.heap.size w3 w5) := Lib.hid (BB.out.trans ((((Tn.refl (fun b => w3.heap.size ≤ b) wr).alloc (.cells #[.int .i64 (-1)] 3)).then_ (Tn.of_grown hgrow) fun x e => .inl (row_lt RR.out x e).1).below hz fun _ h => h))
        clear hown hgrow hi hi0 hi1 hi2 RR e7 e7'
        obtain ⟨l, hl⟩ : ∃ l, l = cpAll bs L.length := ⟨_, rfl⟩
        rw [← hl] at R5
        have HLB : RowKit.Hid (∀ i, i < l.length → -9223372036854775808 ≤ l.getD i 0 ∧ l.getD i 0 ≤ 9223372036854775807) := Lib.hid fun i hi => by
          have := list_bd (p := fun x => -17 ≤ x ∧ x ≤ 13) (by rw [hl]; exact cpAll_bd bs _) hi
          omega
        have HLL : RowKit.Hid (l.length ≤ 100000) := Lib.hid (by rw [hl]; have := cpAll_len bs L.length; omega)
        obtain ⟨a7, c7, rfl, hO, -⟩ := own_of_row R5.out
        have I5 : RowKit.Hid (Ints w5 w5.heap.size (.slice a7 l.length c7) l) := Lib.hid (hO.ints.ints fun b _ hb => hb)
        have PB5 : RowKit.Hid (Blk w5 pb cells 27) := Lib.hid (PB.out.below (B3.out.trans (B5.out.mono hz3)) PB.out.lt)
        have L5 := Lib.hid (HL.out.up B5.out)
        have A5 := Lib.hid (HA.out.up B5.out)
        have F5 : RowKit.Hid (Below w.heap.size w w5) := Lib.hid (B1.out.trans ((B3.out.mono (by have := HZ.out; omega)).trans (B5.out.mono (by have := HZ.out; omega))))
        clear hl hO R5
        go_wp2_with (refine wpList_load27 (.tmp 2) rfl rfl rfl PB5.out HS.out ?_)
        refine (costs_any cells cs w5 HP.out.c2).mono ?_
        rintro e w6 ⟨cv, rfl, hC, hb6⟩
        have L6 := Lib.hid (L5.out.up hb6)
        have A6 := Lib.hid (A5.out.up hb6)
        have I6 := Lib.hid (I5.out.up hb6)
        have PB6 := Lib.hid (PB5.out.below hb6 PB5.out.lt)
        have F6 : RowKit.Hid (Below w.heap.size w w6) := Lib.hid (F5.out.trans (hb6.mono F5.out.size))
        have C6 := Lib.hid hC
        clear hb6 hC
        go_wp2_with fail
        refine (cost_any L A (costsM cs) l w6 w6.heap.size _ _ _ _ L6.out A6.out C6.out I6.out (by omega) (by have := HAL.out; omega) HLC.out (costsM_row cs) (Nat.le_refl _) HLL.out HLB.out).mono ?_
        rintro e w7 ⟨rfl, hb7⟩
        have L7 := Lib.hid (L6.out.up hb7)
        have A7 := Lib.hid (A6.out.up hb7)
        have I7 := Lib.hid (I6.out.up hb7)
        have PB7 := Lib.hid (PB6.out.below hb7 PB6.out.lt)
        have F7 : RowKit.Hid (Below w.heap.size w w7) := Lib.hid (F6.out.trans (hb7.mono F6.out.size))
        clear hb7
        obtain ⟨r, hr⟩ : ∃ r, r = costF (prob L A (costsM cs)) l := ⟨_, rfl⟩
        rw [← hr]
        have HR := Lib.hid hr
        clear hr
        go_wp2_with (refine wpList_load27 (.tmp 2) rfl rfl rfl PB7.out HS.out ?_)
        refine (costs_any cells cs w7 HP.out.c2).mono ?_
        rintro e w8 ⟨cv2, rfl, hC, hb8⟩
        have L8 := Lib.hid (L7.out.up hb8)
        have A8 := Lib.hid (A7.out.up hb8)
        have I8 := Lib.hid (I7.out.up hb8)
        have F8 : RowKit.Hid (Below w.heap.size w w8) := Lib.hid (F7.out.trans (hb8.mono F7.out.size))
        have C8 := Lib.hid hC
        clear hb8 hC
        go_wp2_with fail
        refine (rcost_any L A (costsM cs) l w8 w8.heap.size _ _ _ _ L8.out A8.out C8.out I8.out (by omega) (by have := HAL.out; omega) HLC.out (costsM_row cs) (Nat.le_refl _) HLL.out HLB.out).mono ?_
        rintro e w9 ⟨rfl, hb9⟩
        have F9 : RowKit.Hid (Below w.heap.size w w9) := Lib.hid (F8.out.trans (hb9.mono F8.out.size))
        rw [← HR.out]
        clear hb9
        go_wp2_with fail
        go_ret
        exact ⟨rfl, F9.out⟩
      · have e7 : ((bs.length : Int) % 8 == 7) = false := by simp; omega
        have e7' : (bs.length % 8 == 7) = false := by simpa using h7
        have AE : RowKit.Hid (cpAll bs L.length = cpL bs L.length) := Lib.hid (if_neg h7)
        have LE := Lib.hid (cpL_len bs L.length)
        have R5 : RowKit.Hid (wr.ownsRow w3.heap.size 3 1 lv (cpAll bs L.length).length ((cpAll bs L.length).map (Value.int .i64))) := Lib.hid (by rw [AE.out, LE.out]; exact RR.out)
        have B5 := Lib.hid BB.out
        clear h7
        obtain ⟨l, hl⟩ : ∃ l, l = cpAll bs L.length := ⟨_, rfl⟩
        rw [← hl] at R5
        have HLB : RowKit.Hid (∀ i, i < l.length → -9223372036854775808 ≤ l.getD i 0 ∧ l.getD i 0 ≤ 9223372036854775807) := Lib.hid fun i hi => by
          have := list_bd (p := fun x => -17 ≤ x ∧ x ≤ 13) (by rw [hl]; exact cpAll_bd bs _) hi
          omega
        have HLL : RowKit.Hid (l.length ≤ 100000) := Lib.hid (by rw [hl]; have := cpAll_len bs L.length; omega)
        obtain ⟨a7, c7, rfl, hO, -⟩ := own_of_row R5.out
        have I5 : RowKit.Hid (Ints wr wr.heap.size (.slice a7 l.length c7) l) := Lib.hid (hO.ints.ints fun b _ hb => hb)
        have PB5 : RowKit.Hid (Blk wr pb cells 27) := Lib.hid (PB.out.below (B3.out.trans (B5.out.mono hz3)) PB.out.lt)
        have L5 := Lib.hid (HL.out.up B5.out)
        have A5 := Lib.hid (HA.out.up B5.out)
        have F5 : RowKit.Hid (Below w.heap.size w wr) := Lib.hid (B1.out.trans ((B3.out.mono (by have := HZ.out; omega)).trans (B5.out.mono (by have := HZ.out; omega))))
        clear hl hO R5
        go_wp2_with (refine wpList_load27 (.tmp 2) rfl rfl rfl PB5.out HS.out ?_)
        refine (costs_any cells cs wr HP.out.c2).mono ?_
        rintro e w6 ⟨cv, rfl, hC, hb6⟩
        have L6 := Lib.hid (L5.out.up hb6)
        have A6 := Lib.hid (A5.out.up hb6)
        have I6 := Lib.hid (I5.out.up hb6)
        have PB6 := Lib.hid (PB5.out.below hb6 PB5.out.lt)
        have F6 : RowKit.Hid (Below w.heap.size w w6) := Lib.hid (F5.out.trans (hb6.mono F5.out.size))
        have C6 := Lib.hid hC
        clear hb6 hC
        go_wp2_with fail
        refine (cost_any L A (costsM cs) l w6 w6.heap.size _ _ _ _ L6.out A6.out C6.out I6.out (by omega) (by have := HAL.out; omega) HLC.out (costsM_row cs) (Nat.le_refl _) HLL.out HLB.out).mono ?_
        rintro e w7 ⟨rfl, hb7⟩
        have L7 := Lib.hid (L6.out.up hb7)
        have A7 := Lib.hid (A6.out.up hb7)
        have I7 := Lib.hid (I6.out.up hb7)
        have PB7 := Lib.hid (PB6.out.below hb7 PB6.out.lt)
        have F7 : RowKit.Hid (Below w.heap.size w w7) := Lib.hid (F6.out.trans (hb7.mono F6.out.size))
        clear hb7
        obtain ⟨r, hr⟩ : ∃ r, r = costF (prob L A (costsM cs)) l := ⟨_, rfl⟩
        rw [← hr]
        have HR := Lib.hid hr
        clear hr
        go_wp2_with (refine wpList_load27 (.tmp 2) rfl rfl rfl PB7.out HS.out ?_)
        refine (costs_any cells cs w7 HP.out.c2).mono ?_
        rintro e w8 ⟨cv2, rfl, hC, hb8⟩
        have L8 := Lib.hid (L7.out.up hb8)
        have A8 := Lib.hid (A7.out.up hb8)
        have I8 := Lib.hid (I7.out.up hb8)
        have F8 : RowKit.Hid (Below w.heap.size w w8) := Lib.hid (F7.out.trans (hb8.mono F7.out.size))
        have C8 := Lib.hid hC
        clear hb8 hC
        go_wp2_with fail
        refine (rcost_any L A (costsM cs) l w8 w8.heap.size _ _ _ _ L8.out A8.out C8.out I8.out (by omega) (by have := HAL.out; omega) HLC.out (costsM_row cs) (Nat.le_refl _) HLL.out HLB.out).mono ?_
        rintro e w9 ⟨rfl, hb9⟩
        have F9 : RowKit.Hid (Below w.heap.size w w9) := Lib.hid (F8.out.trans (hb9.mono F8.out.size))
        rw [← HR.out]
        clear hb9
        go_wp2_with fail
        go_ret
        exact ⟨rfl, F9.out⟩
end Go.Proofs.Ytpcmppamkgkdlaa
