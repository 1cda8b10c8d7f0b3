/- The law: wants that are added at the end, and copies that are added, take nothing away from those that were served. -/
import Derived.Test.YtpcmppamkgkdlaaGY
import Derived.Test.YtpcmppamkgkdlaaVH
import Derived.Deep.LoopGhost
import Derived.Deep.DeepCutAuto
import Derived.Deep.MidRow
import Derived.Deep.RegionHeld3
namespace Go.Proofs.Ytpcmppamkgkdlaa
open Go.RowKit

theorem info48 : (Try.prog.info? 48).map (fun i => (i.zero, i.size, i.bytes)) = some (some (.agg #[.int .u16 0, .int .u16 0]), 2, 4) := by kernel_rfl
theorem built_q (g : Nat) (n c : Nat) (a1 : Option Addr) (n1 c1 : Nat) (cs : Nat → Int) : Try.prog.built 27 [(0, .slice (some ⟨g, 0, none⟩) n c), (1, .slice a1 n1 c1), (2, .agg ((List.range 16).map fun i => Value.int .u16 (cs i)).toArray)] =
    some (qCells (.slice (some ⟨g, 0, none⟩) n c) (.slice a1 n1 c1) cs) := by kernel_rfl
theorem row_form {w : World} {B n : Nat} {v : Value} {xs : List Value} {e : TypeId} {z : Nat} (h : w.ownsRow B e z v (n + 1) xs) : ∃ g c, v = .slice (some ⟨g, 0, none⟩) (n + 1) c := by
  obtain ⟨h0, ⟨_, h1⟩ | ⟨g, c, cur, q1, _⟩⟩ := h
  · omega
  · exact ⟨g, c, q1⟩
theorem Q4.row16 {w5 W : World} {a1 : Value} {cs : Nat → Int} {n : Nat} {ys : List Value} {m1 m2 : Int} {x28 x36 x38 x39 x44 x11 : Value} {L : Nat → Bool} (h : Q4 w5 a1 cs n ys m1 m2 x28 x36 x38 x39 x44 x11 L W) (h11 : L 11 = true) : ∃ g c, x39 = .slice (some ⟨g, 0, none⟩) (n + 1) c := by
  obtain ⟨r, g, q, hA, c1, c2, c3, c4, c5, c6, _⟩ := h
  obtain rfl := c6 h11
  exact row_form (hA.row _ _ _ rfl)
theorem q_all (x a1 : Value) (cs : Nat → Int) (hx : x.oneCell' = true) (ha : a1.oneCell' = true) : (qCells x a1 cs).all (·.oneCell') = true := by
  rw [Array.all_eq_true_iff_forall_mem]
  intro v hv
  have : v = x ∨ v = a1 ∨ ∃ i, v = Value.int .u16 (cs i) := by
    simp only [qCells, List.mem_toArray, List.mem_cons, List.mem_map] at hv
    rcases hv with h | h | ⟨i, _, h⟩
    · exact .inl h
    · exact .inr (.inl h)
    · exact .inr (.inr ⟨i, h.symm⟩)
  rcases this with rfl | rfl | ⟨i, rfl⟩
  · exact hx
  · exact ha
  · rfl
/-- A whole problem is read, first, in a statement whose order is open. -/
theorem yields_load27' {ops : Array Oper} {S : World → Prop} {o : Oper} {a : Act} {pb : Nat} {cells : Array Value} (x : Operand) (hgd : Region.wanted o (yielded ops a.tmps) = true) (ho : o.op = .load 27 x)
    (hx : a.eval x = .pointer (some ⟨pb, 0, none⟩)) (h : ∀ W, S W → Blk W pb cells 27) (hs : cells.size = 18) : YieldsIf Try.prog ops S o (.agg cells) a :=
  .inl ⟨hgd, fun W hW => by
    unfold execOp
    simp only [ho, hx, Instr.loadAt, Instr.sureAddr, Sem.run_bind, Sem.run_pure, Result.andThen_ok, run_loadVar_row W pb 27 27 cells (0, 0) _ (h W hW) Try.underlying27 rfl (by rw [hs]; kernel_rfl)]⟩
theorem wp_build_eq {P : Program} {W : World} {o : Oper} {a : Act} {K : Act → World → Prop} {Q : Exit → Act → World → Prop} (t : TypeId) (parts : Array (Nat × Operand)) (ho : o.op = .build t parts) {c : Array Value}
    (hb : P.built t (parts.map fun (i, x) => (i, a.eval x)).toList = some c) (h : K (a.put o.dst (.agg c)) W) : Oper.wp P o a W K Q := by
  exact wp_build t parts ho (by rw [hb]; rfl) (by rw [hb]; exact h)
theorem tn_setRow (W : World) (g : Nat) (cs : Array Value) : Tn (fun b => b = g) W (W.setRow g cs) := ⟨rfl, rfl, rfl, by simp [World.setRow], fun k _ hk => setRow_other W g k cs (fun e => hk (by omega))⟩
theorem nofalse {x : Bool} {p : Prop} (h : x = true) (e : x = false) : p := by rw [e] at h; cases h
theorem put_self (a : Act) (i : Nat) (h : i < a.tmps.size) : a.put (some i) (a.eval (.tmp i)) = a := by
  obtain ⟨tm, df⟩ := a
  have h' : i < tm.size := h
  have : tm.setIfInBounds i (Act.eval ⟨tm, df⟩ (.tmp i)) = tm := by
    apply Array.ext_getElem?
    intro j
    rw [Array.getElem?_setIfInBounds]
    by_cases e : i = j
    · subst e; simp [Act.eval, h']
    · simp [e]
  show Act.mk (tm.setIfInBounds i _) df = _
  rw [this]
theorem puts_self4 (a : Act) (h : (45).ble a.tmps.size = true) : a = (((((a.put (some 28) (a.eval (.tmp 28))).put (some 36) (a.eval (.tmp 36))).put (some 38) (a.eval (.tmp 38))).put (some 39) (a.eval (.tmp 39))).put (some 44) (a.eval (.tmp 44))).put (some 11) (a.eval (.tmp 11)) := by
  have h := Nat.le_of_ble_eq_true h
  rw [put_self a 28 (by omega), put_self a 36 (by omega), put_self a 38 (by omega), put_self a 39 (by omega), put_self a 44 (by omega), put_self a 11 (by omega)]
theorem puts_self5 (a : Act) (h : (66).ble a.tmps.size = true) : a = ((((a.put (some 56) (a.eval (.tmp 56))).put (some 58) (a.eval (.tmp 58))).put (some 62) (a.eval (.tmp 62))).put (some 63) (a.eval (.tmp 63))).put (some 65) (a.eval (.tmp 65)) := by
  have h := Nat.le_of_ble_eq_true h
  rw [put_self a 56 (by omega), put_self a 58 (by omega), put_self a 62 (by omega), put_self a 63 (by omega), put_self a 65 (by omega)]
theorem map_one (A : List Int) : ∀ u ∈ A.map (Value.int .i64), u.oneCell' = true := fun u h => by
  obtain ⟨x, _, rfl⟩ := List.mem_map.1 h
  rfl
set_option maxRecDepth 100000 in
set_option maxHeartbeats 8000000 in
theorem growsLaw (cells : Array Value) (wl : List (Int × Int)) (al : List Int) (cs : Nat → Int) (m1 m2 b : Int) (w : World) (hp : PrIn w w.heap.size cells wl al cs) (hcs : cells.size = 18)
    (hm1 : 0 ≤ m1 ∧ m1 < 65536) (hm2 : 0 ≤ m2 ∧ m2 < 65536) (hb256 : 0 ≤ b ∧ b < 256) (hcap : ∀ a n c, cells[0]? = some (.slice a n c) → n ≤ c ∧ (a = none → c = 0)) :
    Calls Try.prog 8 #[.agg cells, .agg #[.int .u16 m1, .int .u16 m2], .int .u8 b] w fun e w' => e = .returned (.bool true) ∧ Below w.heap.size w w' := by
  have HP := Lib.hid hp
  have HS := Lib.hid hcs
  have HM1 := Lib.hid hm1
  have HM2 := Lib.hid hm2
  have HBB := Lib.hid hb256
  have HCAP := Lib.hid hcap
  clear hp hcs hm1 hm2 hb256 hcap
  go_enter Try.func8, Try.ntmps8
  go_wp2_with fail
  obtain ⟨pb, hpb⟩ : ∃ pb, pb = w.heap.size := ⟨_, rfl⟩
  obtain ⟨W1, hW1⟩ : ∃ W1, W1 = (w.alloc (.cells cells 27)).alloc (.cells #[.int .u16 m1, .int .u16 m2] 48) := ⟨_, rfl⟩
  have PB : RowKit.Hid (Blk W1 pb cells 27) := Lib.hid (by rw [hW1, hpb]; exact (Blk.new _ _ _).alloc _)
  have MB : RowKit.Hid (Blk W1 (pb + 1) #[.int .u16 m1, .int .u16 m2] 48) := Lib.hid (by
    rw [hW1, hpb]
    have := Blk.new (w.alloc (.cells cells 27)) #[.int .u16 m1, .int .u16 m2] 48
    rwa [size_alloc] at this)
  have B1 : RowKit.Hid (Below w.heap.size w W1) := Lib.hid (by rw [hW1]; exact ((Below.refl _ _).alloc (Nat.le_refl _) _).alloc (by rw [size_alloc]; omega) _)
  have HZ : RowKit.Hid (W1.heap.size = pb + 2 ∧ pb = w.heap.size) := Lib.hid ⟨by rw [hW1, hpb]; simp, hpb⟩
  rw [← hW1, ← hpb]
  clear hW1 hpb
  refine (sanity_any W1).mono ?_
  rintro e w2 ⟨rfl, hb2⟩
  have B2 := Lib.hid hb2
  have PB2 := Lib.hid (PB.out.below hb2 PB.out.lt)
  have hz2 := hb2.size
  clear hb2
  go_wp2_with (refine wpList_load27 (.tmp 3) rfl rfl rfl PB2.out HS.out ?_)
  have PR2 : RowKit.Hid (PrIn w2 w.heap.size cells wl al cs) := Lib.hid (HP.out.below ((B1.out).trans (B2.out.mono (by have := HZ.out; omega))))
  refine (lists_any cells wl al cs 15 w2 w.heap.size PR2.out (by have := HZ.out; omega) (by omega)).mono ?_
  rintro e w3 ⟨wv, av, w0, ps, rfl, hWB, h0, hat, hb3⟩
  have B3 : RowKit.Hid (Below W1.heap.size W1 w3) := Lib.hid (B2.out.trans (hb3.mono hz2))
  have ST3 : RowKit.Hid (Sit w w3 pb cells (wantsL wl 15) (atL al 15) wv av) := Lib.hid ⟨PB.out.below B3.out PB.out.lt, B1.out.trans (B3.out.mono (by have := HZ.out; omega)), hWB.done, hat.mono hWB.bel.size⟩
  have MB3 := Lib.hid (MB.out.below B3.out MB.out.lt)
  obtain ⟨aw, cw, hwv, -⟩ := ST3.out.wants
  obtain ⟨aa, ca, hav, -⟩ := ST3.out.at_
  have HN := Lib.hid (wantsL_le wl 15)
  obtain ⟨L, hL⟩ : ∃ L, L = wantsL wl 15 := ⟨_, rfl⟩
  have HLC : RowKit.Hid (∀ k, (L.getD k noW).2.length ≤ 1000) := Lib.hid fun k => by rw [hL]; exact wantsL_cop wl 15 k
  rw [← hL] at ST3 HN hwv
  obtain ⟨A, hA⟩ : ∃ A, A = atL al 15 := ⟨_, rfl⟩
  have HAL : RowKit.Hid (A.length ≤ 15) := Lib.hid (by rw [hA]; exact atL_le al 15)
  rw [← hA] at ST3 hav
  have HLL := Lib.hid hL
  have HAA := Lib.hid hA
  have hn := HN.out
  have han := HAL.out
  subst hwv hav
  clear hWB h0 hat hb3 hL hA PR2 PB PB2 MB
  go_wp2_with (refine wpList_load27 (.tmp 3) rfl rfl rfl ST3.out.blk HS.out ?_)
  refine (costs_any cells cs w3 HP.out.c2).mono ?_
  rintro e w4 ⟨cv, rfl, hC, hb⟩
  have ST4 := Lib.hid (ST3.out.up hb)
  have MB4 := Lib.hid (MB3.out.below hb MB3.out.lt)
  have Ccv := Lib.hid hC
  clear hb hC ST3 MB3
  go_wp2_with fail
  refine (assign_any L A (costsM cs) w4 w4.heap.size _ _ _ ST4.out.wants ST4.out.at_ Ccv.out (by omega) (by omega) HLC.out (costsM_row cs) (Nat.le_refl _)).mono ?_
  rintro e w5 ⟨cp, g, rfl, hB, hblk, hg, hb⟩
  have hm9 : (prob L A (costsM cs)).m = L.length := rfl
  rw [hm9] at hblk ⊢
  have ST5 := Lib.hid (ST4.out.up hb)
  have MB5 := Lib.hid (MB4.out.below hb MB4.out.lt)
  have BB := Lib.hid hB
  have G5 := Lib.hid hblk
  clear hb hB hg hblk hm9 ST4 MB4 Ccv
  obtain ⟨aw0, cw0, hz0, hwl⟩ := HP.out.c0
  obtain ⟨aa1, ca1, hz1, -⟩ := HP.out.c1
  obtain ⟨hcw, hcn⟩ := HCAP.out _ _ _ hz0
  obtain ⟨n, hn15⟩ : ∃ n, n = min wl.length 15 := ⟨_, rfl⟩
  have hmin : min (wl.length : Int) 15 = (n : Int) := by omega
  have hni : (n : Int) ≤ (cw0 : Int) := by omega
  have hnk : n ≤ cw0 := by omega
  have hn16 : n ≤ 15 := by omega
  have HN15 := Lib.hid hn15
  have hBw : w5.heap.size ≥ w.heap.size := ST5.out.bel.size
  have SRC : RowKit.Hid (∀ W, Below w5.heap.size w5 W → (Value.slice aw0 n cw0 = .slice none 0 0 ∧ n = 0 ∧ encU (wl.take 15) = []) ∨ ∃ ad c, Value.slice aw0 n cw0 = .slice (some ad) n c ∧ (encU (wl.take 15)).length = n * 2 ∧ ∀ j u, (encU (wl.take 15))[j]? = some u → W.cell? (ad.add j) = some u) := Lib.hid (by
    intro W hb
    have hbw : Below w.heap.size w W := ST5.out.bel.trans (hb.mono hBw)
    have hl : (encU (wl.take 15)).length = n * 2 := by rw [encU_len, hn15]; simp [Nat.min_comm]
    cases haw : aw0 with
    | none =>
      refine .inl ?_
      have hc0 := hcn haw
      have hn0 : n = 0 := by omega
      exact ⟨by rw [hn0, hc0], hn0, List.eq_nil_of_length_eq_zero (by omega)⟩
    | some ad =>
      refine .inr ⟨ad, cw0, rfl, hl, ?_⟩
      rcases hwl with h | ⟨b', o, e, hbl, hc⟩
      · subst h; intro j u hj; simp [encU] at hj
      · rw [haw] at e; injection e with e; subst e
        refine cells_encU fun j hj => ?_
        have hj2 : j < wl.length := by simp at hj; omega
        have hj3 : j < 15 := by simp at hj; omega
        have e : (wl.take 15).getD j (0, 0) = wl.getD j (0, 0) := by simp [List.getD_eq_getElem?_getD, List.getElem?_take_of_lt hj3]
        rw [e]
        exact ⟨(hbw.cell (p := ⟨b', o + j * 2, none⟩) hbl).trans (hc j hj2).1, (hbw.cell (p := ⟨b', o + j * 2 + 1, none⟩) hbl).trans (hc j hj2).2⟩)
  have s1 : w5.cell? ⟨pb, 0, none⟩ = some (.slice aw0 wl.length cw0) := ST5.out.blk.cellE hz0
  have s2 : w5.cell? ⟨pb, 1, none⟩ = some (.slice aa1 al.length ca1) := ST5.out.blk.cellE hz1
  have s3 : w5.cell? ⟨pb + 1, 0, none⟩ = some (.int .u16 m1) := MB5.out.cellE rfl
  have s4 : w5.cell? ⟨pb + 1, 1, none⟩ = some (.int .u16 m2) := MB5.out.cellE rfl
  obtain ⟨SB, hSB⟩ : ∃ SB : World → Prop, SB = fun W => Below w5.heap.size w5 W := ⟨_, rfl⟩
  obtain ⟨S, hS⟩ : ∃ S : World → Prop, S = fun W => (W.cell? ⟨pb, 0, none⟩ = some (.slice aw0 wl.length cw0) ∧ W.cell? ⟨pb, 1, none⟩ = some (.slice aa1 al.length ca1) ∧ W.cell? ⟨pb + 1, 0, none⟩ = some (.int .u16 m1) ∧ W.cell? ⟨pb + 1, 1, none⟩ = some (.int .u16 m2) ∧ SB W) := ⟨_, rfl⟩
  have HSS : RowKit.Hid (∀ W, S W → Below w5.heap.size w5 W) := Lib.hid fun W h => by rw [hS, hSB] at h; exact h.2.2.2.2
  have SS : RowKit.Hid (∀ W, Below w5.heap.size w5 W → S W) := Lib.hid fun W h => by rw [hS, hSB]; exact ⟨Below.cellE h s1, Below.cellE h s2, Below.cellE h s3, Below.cellE h s4, h⟩
  have LD : RowKit.Hid (∀ W, S W → W.cell? ⟨pb, 0, none⟩ = some (.slice aw0 wl.length cw0) ∧ W.cell? ⟨pb, 1, none⟩ = some (.slice aa1 al.length ca1) ∧ W.cell? ⟨pb + 1, 0, none⟩ = some (.int .u16 m1) ∧ W.cell? ⟨pb + 1, 1, none⟩ = some (.int .u16 m2)) := Lib.hid fun W h => by rw [hS] at h; exact ⟨h.1, h.2.1, h.2.2.1, h.2.2.2.1⟩
  have R16 : RowKit.Hid (∀ W, S W → W.rangeAt pb 2 ((List.range 16).map fun i => Value.int .u16 (cs i))) := Lib.hid fun W h j v hv => by
    have hj : j < 16 := by have := (List.getElem?_eq_some_iff.1 hv).1; simpa using this
    rw [u16s_get cs j hj] at hv
    injection hv with hv
    subst hv
    exact (ST5.out.blk.below (HSS.out W h) ST5.out.blk.lt).cellE (HP.out.c2 j hj).1
  have HZ1 := Lib.hid hz1
  have S9 := SS.out w5.drew (Below.refl _ _).drew
  clear hSB hS s1 s2 s3 s4 hz0 hz1 hwl hcn hn15 hBw
  go_wp2_with fail
  refine wp_region_held_drew (S := S) (by kernel_rfl) S9 (fun hHeld => ?_)
  clear S9
  apply wpAnyH_genI (fun (a0 : Act) (L : Array Bool) (a : Act) (W : World) => (∀ j, j ∈ [1, 2, 3, 4, 5, 6, 7, 9, 12, 13, 14, 15] → L.getD j false = true) ∧ ∃ x28 x36 x38 x39 x44 x11, a = (((((a0.put (some 28) x28).put (some 36) x36).put (some 38) x38).put (some 39) x39).put (some 44) x44).put (some 11) x11 ∧ Q4 w5 (.slice aa1 al.length ca1) cs n (encU (wl.take 15)) m1 m2 x28 x36 x38 x39 x44 x11 (fun j => L.getD j false) W) 19
  case take =>
    intro QQ hQQ
    refine wpAnyH_take (i := 1) (v := ?_) rfl (by kernel_rfl) (by kernel_rfl) (by kernel_rfl) (fun _ _ _ h => only_panic h) (Or.inl ⟨by rfl, ?_⟩) hHeld ?_
    rotate_left
    · (intro w hSw; clear hSw; go_simp; try (with_reducible rfl))
    try simp only [List.getElem_toArray, List.getElem_cons_succ, List.getElem_cons_zero, Act.put, List.setIfInBounds_toArray, List.set_cons_zero, List.set_cons_succ]
    refine wpAnyH_take (i := 2) (v := ?_) rfl (by kernel_rfl) (by kernel_rfl) (by kernel_rfl) (fun _ _ _ h => only_panic h) (Or.inl ⟨by rfl, ?_⟩) hHeld ?_
    rotate_left
    · (intro w hSw; obtain ⟨l1, l2, l3, l4⟩ := LD.out w hSw; go_simp; try (with_reducible rfl))
    try simp only [List.getElem_toArray, List.getElem_cons_succ, List.getElem_cons_zero, Act.put, List.setIfInBounds_toArray, List.set_cons_zero, List.set_cons_succ]
    refine wpAnyH_take (i := 3) (v := ?_) rfl (by kernel_rfl) (by kernel_rfl) (by kernel_rfl) (fun _ _ _ h => only_panic h) (Or.inl ⟨by rfl, ?_⟩) hHeld ?_
    rotate_left
    · (intro w hSw; clear hSw; go_simp; try (with_reducible rfl))
    try simp only [List.getElem_toArray, List.getElem_cons_succ, List.getElem_cons_zero, Act.put, List.setIfInBounds_toArray, List.set_cons_zero, List.set_cons_succ]
    refine wpAnyH_take (i := 4) (v := ?_) rfl (by kernel_rfl) (by kernel_rfl) (by kernel_rfl) (fun _ _ _ h => only_panic h) (Or.inl ⟨by rfl, ?_⟩) hHeld ?_
    rotate_left
    · (intro w hSw; obtain ⟨l1, l2, l3, l4⟩ := LD.out w hSw; go_simp; try (with_reducible rfl))
    try simp only [List.getElem_toArray, List.getElem_cons_succ, List.getElem_cons_zero, Act.put, List.setIfInBounds_toArray, List.set_cons_zero, List.set_cons_succ]
    refine wpAnyH_take (i := 5) (v := ?_) rfl (by kernel_rfl) (by kernel_rfl) (by kernel_rfl) (fun _ _ _ h => only_panic h) (Or.inl ⟨by rfl, ?_⟩) hHeld ?_
    rotate_left
    · (intro w hSw; clear hSw; go_simp; try (with_reducible rfl))
    try simp only [List.getElem_toArray, List.getElem_cons_succ, List.getElem_cons_zero, Act.put, List.setIfInBounds_toArray, List.set_cons_zero, List.set_cons_succ]
    refine wpAnyH_take (i := 6) (v := ?_) rfl (by kernel_rfl) (by kernel_rfl) (by kernel_rfl) (fun _ _ _ h => only_panic h) (Or.inl ⟨by rfl, ?_⟩) hHeld ?_
    rotate_left
    · (intro w hSw; clear hSw; go_simp; try (with_reducible rfl))
    try simp only [List.getElem_toArray, List.getElem_cons_succ, List.getElem_cons_zero, Act.put, List.setIfInBounds_toArray, List.set_cons_zero, List.set_cons_succ]
    refine wpAnyH_take (i := 7) (v := ?_) rfl (by kernel_rfl) (by kernel_rfl) (by kernel_rfl) (fun _ _ _ h => only_panic h) (Or.inl ⟨by rfl, ?_⟩) hHeld ?_
    rotate_left
    · (intro w hSw; clear hSw; go_simp; try (with_reducible rfl))
    try simp only [List.getElem_toArray, List.getElem_cons_succ, List.getElem_cons_zero, Act.put, List.setIfInBounds_toArray, List.set_cons_zero, List.set_cons_succ]
    refine wpAnyH_take (i := 9) (v := ?_) rfl (by kernel_rfl) (by kernel_rfl) (by kernel_rfl) (fun _ _ _ h => only_panic h) (Or.inl ⟨by rfl, ?_⟩) hHeld ?_
    rotate_left
    · (intro w hSw; obtain ⟨l1, l2, l3, l4⟩ := LD.out w hSw; go_simp; try (with_reducible rfl))
    try simp only [List.getElem_toArray, List.getElem_cons_succ, List.getElem_cons_zero, Act.put, List.setIfInBounds_toArray, List.set_cons_zero, List.set_cons_succ]
    refine wpAnyH_take (i := 12) (v := ?_) rfl (by kernel_rfl) (by kernel_rfl) (by kernel_rfl) (fun _ _ _ h => only_panic h) (Or.inl ⟨by rfl, ?_⟩) hHeld ?_
    rotate_left
    · (intro w hSw; clear hSw; go_simp; try (with_reducible rfl))
    try simp only [List.getElem_toArray, List.getElem_cons_succ, List.getElem_cons_zero, Act.put, List.setIfInBounds_toArray, List.set_cons_zero, List.set_cons_succ]
    refine wpAnyH_take (i := 13) (v := ?_) rfl (by kernel_rfl) (by kernel_rfl) (by kernel_rfl) (fun _ _ _ h => only_panic h) (Or.inl ⟨by rfl, ?_⟩) hHeld ?_
    rotate_left
    · (intro w hSw; obtain ⟨l1, l2, l3, l4⟩ := LD.out w hSw; go_simp; try (with_reducible rfl))
    try simp only [List.getElem_toArray, List.getElem_cons_succ, List.getElem_cons_zero, Act.put, List.setIfInBounds_toArray, List.set_cons_zero, List.set_cons_succ]
    refine wpAnyH_take (i := 14) (v := ?_) rfl (by kernel_rfl) (by kernel_rfl) (by kernel_rfl) (fun _ _ _ h => only_panic h) (Or.inl ⟨by rfl, ?_⟩) hHeld ?_
    rotate_left
    · (intro w hSw; clear hSw; go_simp; try (with_reducible rfl))
    try simp only [List.getElem_toArray, List.getElem_cons_succ, List.getElem_cons_zero, Act.put, List.setIfInBounds_toArray, List.set_cons_zero, List.set_cons_succ]
    refine wpAnyH_take (i := 15) (v := .agg ((List.range 16).map fun i => Value.int .u16 (cs i)).toArray) rfl (by kernel_rfl) (by kernel_rfl) (by kernel_rfl) (fun _ _ _ h => only_panic h) ?_ hHeld ?_
    · exact yieldsIf_load_mid (by kernel_rfl) 25 (.tmp 42) rfl pb 2 (by kernel_rfl) _ _ R16.out Try.underlying25 rfl (by kernel_rfl)
    try simp only [List.getElem_toArray, List.getElem_cons_succ, List.getElem_cons_zero, Act.put, List.setIfInBounds_toArray, List.set_cons_zero, List.set_cons_succ]
    refine wpAnyH_inv0 (fun (a0 : Act) (L : Array Bool) (a : Act) (W : World) => (∀ j, j ∈ [1, 2, 3, 4, 5, 6, 7, 9, 12, 13, 14, 15] → L.getD j false = true) ∧ ∃ x28 x36 x38 x39 x44 x11, a = (((((a0.put (some 28) x28).put (some 36) x36).put (some 38) x38).put (some 39) x39).put (some 44) x44).put (some 11) x11 ∧ Q4 w5 (.slice aa1 al.length ca1) cs n (encU (wl.take 15)) m1 m2 x28 x36 x38 x39 x44 x11 (fun j => L.getD j false) W) (by kernel_rfl) (by kernel_rfl) (by kernel_rfl) ?_ ?_ ?_ ?_
    · refine ⟨fun j hj => ?_, _, _, _, _, _, _, puts_self4 _ (by kernel_rfl), none, none, none, AS.start w5 (Below.refl _ _).drew, ?_⟩
      · simp only [List.mem_cons, List.not_mem_nil, or_false] at hj
        rcases hj with rfl | rfl | rfl | rfl | rfl | rfl | rfl | rfl | rfl | rfl | rfl | rfl <;> kernel_rfl
      · exact ⟨fun _ => rfl, fun h => nofalse h (by kernel_rfl), fun h => nofalse h (by kernel_rfl), fun h => nofalse h (by kernel_rfl), fun h => nofalse h (by kernel_rfl), fun h => nofalse h (by kernel_rfl), fun _ => rfl, fun h => nofalse h (by kernel_rfl), fun _ => rfl, fun h => nofalse h (by kernel_rfl), fun h => nofalse h (by kernel_rfl), fun h => nofalse h (by kernel_rfl), fun h => nofalse h (by kernel_rfl), fun h => nofalse h (by kernel_rfl)⟩
    · rintro L a W ⟨_, _, _, _, _, _, _, _, h⟩
      exact SS.out W h.bel
    · rintro M a W ⟨hT, x28, x36, x38, x39, x44, x11, rfl, hQ⟩ i o ho hMi hsz hdep K hK
      have hsz' : M.size = 19 := hsz
      have hi : i < 19 := (Array.getElem?_eq_some_iff.1 ho).1
      have hF : M.getD i false = false := by rw [← getD_tf (by omega)]; exact hMi
      have hnt : i ∉ [1, 2, 3, 4, 5, 6, 7, 9, 12, 13, 14, 15] := fun h => by rw [hT i h] at hF; cases hF
      have hT' : RowKit.Hid (∀ j, j ∈ [1, 2, 3, 4, 5, 6, 7, 9, 12, 13, 14, 15] → (M.setIfInBounds i true).getD j false = true) := Lib.hid fun j hj => getD_set_true (hT j hj)
      have HQ := Lib.hid hQ
      have HK := Lib.hid hK
      have HF := Lib.hid hF
      have HD := Lib.hid hdep
      have HSZ := Lib.hid hsz'
      clear hQ hK hF hT hMi hdep hsz
      simp only [List.mem_cons, List.not_mem_nil, or_false] at hnt
      have h7 : i = 0 ∨ i = 8 ∨ i = 10 ∨ i = 11 ∨ i = 16 ∨ i = 17 ∨ i = 18 := by omega
      clear hnt hi
      obtain ⟨i48, hj, hj0, hj1, hj2⟩ := info_parts info48
      rcases h7 with rfl | rfl | rfl | rfl | rfl | rfl | rfl
      · simp only [List.getElem?_toArray, List.getElem?_cons_succ, List.getElem?_cons_zero, Option.some.injEq] at ho
        subst ho
        simp only [Act.put, List.setIfInBounds_toArray, List.set_cons_zero, List.set_cons_succ]
        go_simp
        refine HK.out _ _ ⟨hT'.out, .slice (some ⟨W.heap.size, 0, none⟩) 0 0, x36, x38, x39, x44, x11, by kernel_rfl, by rw [lset (by have := HSZ.out; omega)]; exact HQ.out.s0 HF.out ((Below.refl _ _).alloc (Nat.le_refl _) _) (World.ownsRow_lit W #[] 0 (Nat.le_refl _) (by unfold maxLen; omega) rfl)⟩
      · simp only [List.getElem?_toArray, List.getElem?_cons_succ, List.getElem?_cons_zero, Option.some.injEq] at ho
        subst ho
        simp only [Act.put, List.setIfInBounds_toArray, List.set_cons_zero, List.set_cons_succ]
        have h0 := HD.out { on := 0, ground := .data } (by simp) (by kernel_rfl)
        obtain ⟨b0, rfl, hr, hb⟩ := HQ.out.row8 h0 HF.out
        rw [if_pos (by rfl)]
        refine wp_append_any (.tmp 28) (.tmp 35) 22 rfl w5.heap.size 48 i48 _ 2 4 Try.underlying22 hj hj0 hj1 hj2 rfl (by omega) (.slice (some ⟨b0, 0, none⟩) 0 0) 0 [] rfl hr n (encU (wl.take 15)) (.slice aw0 n cw0) rfl (SRC.out W hb) (encU_one _) (by unfold maxLen; omega) (by omega) hb.size ?_
        intro v' w' q1 q2 q3
        refine HK.out _ _ ⟨hT'.out, .slice (some ⟨b0, 0, none⟩) 0 0, v', x38, x39, x44, x11, by kernel_rfl, by rw [lset (by have := HSZ.out; omega)]; exact HQ.out.s8 h0 HF.out q1 (by omega) (by simp) q2 q3⟩
      · simp only [List.getElem?_toArray, List.getElem?_cons_succ, List.getElem?_cons_zero, Option.some.injEq] at ho
        subst ho
        simp only [Act.put, List.setIfInBounds_toArray, List.set_cons_zero, List.set_cons_succ]
        go_simp
        refine HK.out _ _ ⟨hT'.out, x28, x36, .slice (some ⟨W.heap.size, 0, none⟩) 1 1, x39, x44, x11, by kernel_rfl, by rw [lset (by have := HSZ.out; omega)]; exact HQ.out.s10 HF.out ((Below.refl _ _).alloc (Nat.le_refl _) _) (Nat.le_refl _) (by rw [size_alloc]; omega) (fun j u hu => by have := news2 W (.int .u16 m1) (.int .u16 m2) 48 j u hu; rwa [add_of] at this)⟩
      · simp only [List.getElem?_toArray, List.getElem?_cons_succ, List.getElem?_cons_zero, Option.some.injEq] at ho
        subst ho
        simp only [Act.put, List.setIfInBounds_toArray, List.set_cons_zero, List.set_cons_succ]
        have h8 := HD.out { on := 8, ground := .data } (by simp) (by kernel_rfl)
        have h10 := HD.out { on := 10, ground := .data } (by simp) (by kernel_rfl)
        obtain ⟨b1, rfl, hr, hc, hb⟩ := HQ.out.row11 h8 h10 HF.out
        rw [if_pos (by rfl)]
        refine wp_append_any (.tmp 36) (.tmp 38) 22 rfl w5.heap.size 48 i48 _ 2 4 Try.underlying22 hj hj0 hj1 hj2 rfl (by omega) x36 n _ rfl hr 1 [.int .u16 m1, .int .u16 m2] (.slice (some ⟨b1, 0, none⟩) 1 1) rfl (.inr ⟨⟨b1, 0, none⟩, 1, rfl, rfl, fun j u hu => by rw [add_of]; exact hc j u hu⟩) (two_ rfl rfl) (by unfold maxLen; omega) (by omega) hb.size ?_
        intro v' w' q1 q2 q3
        refine HK.out _ _ ⟨hT'.out, x28, x36, .slice (some ⟨b1, 0, none⟩) 1 1, v', x44, x11, by kernel_rfl, by rw [lset (by have := HSZ.out; omega)]; exact HQ.out.s11 h8 h10 HF.out q1 q2 q3⟩
      · simp only [List.getElem?_toArray, List.getElem?_cons_succ, List.getElem?_cons_zero, Option.some.injEq] at ho
        subst ho
        simp only [Act.put, List.setIfInBounds_toArray, List.set_cons_zero, List.set_cons_succ]
        have h11 := HD.out { on := 11, ground := .data } (by simp) (by kernel_rfl)
        obtain ⟨g0, c0, rfl⟩ := HQ.out.row16 h11
        rw [if_pos (by rfl)]
        refine wp_build_eq 27 _ rfl (c := qCells (.slice (some ⟨g0, 0, none⟩) (n + 1) c0) (.slice aa1 al.length ca1) cs) ?_ ?_
        · kernel_rfl
        refine HK.out _ _ ⟨hT'.out, x28, x36, x38, .slice (some ⟨g0, 0, none⟩) (n + 1) c0, .agg (qCells (.slice (some ⟨g0, 0, none⟩) (n + 1) c0) (.slice aa1 al.length ca1) cs), x11, by kernel_rfl, by rw [lset (by have := HSZ.out; omega)]; exact HQ.out.s16 h11⟩
      · simp only [List.getElem?_toArray, List.getElem?_cons_succ, List.getElem?_cons_zero, Option.some.injEq] at ho
        subst ho
        simp only [Act.put, List.setIfInBounds_toArray, List.set_cons_zero, List.set_cons_succ]
        go_simp
        refine HK.out _ _ ⟨hT'.out, x28, x36, x38, x39, x44, .pointer (some ⟨W.heap.size, 0, none⟩), by kernel_rfl, by rw [lset (by have := HSZ.out; omega)]; exact HQ.out.s17 HF.out ((Below.refl _ _).alloc (Nat.le_refl _) _) (Nat.le_refl _) (Blk.new W _ 27) rfl⟩
      · simp only [List.getElem?_toArray, List.getElem?_cons_succ, List.getElem?_cons_zero, Option.some.injEq] at ho
        subst ho
        simp only [Act.put, List.setIfInBounds_toArray, List.set_cons_zero, List.set_cons_succ]
        have h16 := HD.out { on := 16, ground := .data } (by simp) (by kernel_rfl)
        have h17 := HD.out { on := 17, ground := .data } (by simp) (by kernel_rfl)
        obtain ⟨b2, z, rfl, hz, hB, rfl⟩ := HQ.out.blk18 h16 h17 HF.out
        obtain ⟨g0, c0, rfl⟩ := HQ.out.row16 (HD.out { on := 11, ground := .chain } (by simp) (by kernel_rfl))
        rw [if_pos (by rfl)]
        refine wp_store_row 27 (.tmp 11) (.tmp 44) rfl b2 _ rfl rfl 27 z hB (by rw [qCells_size]; kernel_rfl) (by rw [hz, qCells_size]) (q_all _ _ cs rfl rfl) ?_
        refine HK.out _ _ ⟨hT'.out, x28, x36, x38, .slice (some ⟨g0, 0, none⟩) (n + 1) c0, .agg (qCells (.slice (some ⟨g0, 0, none⟩) (n + 1) c0) (.slice aa1 al.length ca1) cs), .pointer (some ⟨b2, 0, none⟩), by kernel_rfl, by rw [lset (by have := HSZ.out; omega)]; exact HQ.out.s18 h16 h17 HF.out rfl (tn_setRow W b2 _) (setRow_heap W b2 z _ 27 _ hB)⟩
    · intro M a W h hMs hall
      have hMs' : M.size = 19 := hMs
      exact ⟨rfl, hQQ M a W h fun j hj => by rw [← getD_tf (by omega)]; exact hall j hj⟩
  case rest =>
    rintro M a W ⟨hT, x28, x36, x38, x39, x44, x11, rfl, hQ⟩ al_
    obtain ⟨b2, rfl, hr, hB, hb⟩ := hQ.done (al_ 11 (by omega)) (al_ 18 (by omega))
    simp only [Act.put, List.setIfInBounds_toArray, List.set_cons_zero, List.set_cons_succ]
    obtain ⟨w6, rfl⟩ : ∃ w6 : World, w6 = W := ⟨_, rfl⟩
    have ST6 := Lib.hid (ST5.out.up hb)
    have G6 := Lib.hid (G5.out.below hb G5.out.lt)
    have QB6 := Lib.hid hB
    have PR6 : RowKit.Hid (PrIn w6 w6.heap.size (qCells x39 (.slice aa1 al.length ca1) cs) (wl.take 15 ++ [(m1, m2)]) al cs) := Lib.hid (prIn_more HP.out ST6.out.bel (Nat.le_refl _) HZ1.out HM1.out HM2.out HN15.out (by rw [encU_app]; exact hr))
    clear hT hQ al_ hr hB hb ST5 G5 SS HSS LD R16 SRC hni hnk hmin hcw hn16 MB5
    go_wp2_with (refine wpList_load27 (.tmp 11) rfl rfl rfl QB6.out (qCells_size _ _ _) ?_)
    refine (lists_any _ (wl.take 15 ++ [(m1, m2)]) al cs 16 w6 w6.heap.size PR6.out (Nat.le_refl _) (by omega)).mono ?_
    rintro e w7 ⟨wv', av', w0', ps', rfl, hWB', h0', hat', hb7⟩
    rw [wantsL_more, ← HLL.out] at hWB'
    have hWn := hWB'.done
    obtain ⟨aw', cw', hwv', -⟩ := hWn
    have hat2 := hat'
    obtain ⟨aa', ca', hav', -⟩ := hat2
    subst hwv' hav'
    have ST7 := Lib.hid (ST6.out.up hb7)
    have G7 := Lib.hid (G6.out.below hb7 G6.out.lt)
    have WN7 := Lib.hid hWB'.done
    have HLC' : RowKit.Hid (∀ k, ((L ++ [wantU (m1, m2)]).getD k noW).2.length ≤ 1000) := Lib.hid fun k => by
      have := wantsL_cop (wl.take 15 ++ [(m1, m2)]) 16 k
      rwa [wantsL_more, ← HLL.out] at this
    clear hWB' h0' hat' hb7 ST6 G6 QB6 PR6
    obtain ⟨q1, hq1⟩ : ∃ q1, q1 = wantU (m1, m2) := ⟨_, rfl⟩
    rw [← hq1] at WN7 HLC' ⊢
    have hl1 : (L ++ [q1]).length = L.length + 1 := by simp
    rw [hl1]
    clear hq1
    go_wp2_with (refine wpList_load27 (.tmp 3) rfl rfl rfl ST7.out.blk HS.out ?_)
    refine (costs_any cells cs w7 HP.out.c2).mono ?_
    rintro e w8 ⟨cv', rfl, hC, hb⟩
    have ST8 := Lib.hid (ST7.out.up hb)
    have G8 := Lib.hid (G7.out.below hb G7.out.lt)
    have WN8 := Lib.hid (WN7.out.up hb)
    rw [hl1] at WN8
    have Ccv := Lib.hid hC
    clear hb hC ST7 G7 WN7
    go_wp2_with fail
    refine (assign_any (L ++ [q1]) A (costsM cs) w8 w8.heap.size _ _ _ WN8.out ST8.out.at_ Ccv.out (by rw [hl1]; omega) (by omega) HLC'.out (costsM_row cs) (Nat.le_refl _)).mono ?_
    rintro e w9 ⟨cpb, gb, rfl, hB, hblk, hg, hb⟩
    have hm9 : (prob (L ++ [q1]) A (costsM cs)).m = L.length + 1 := hl1
    rw [hm9] at hblk ⊢
    have ST9 := Lib.hid (ST8.out.up hb)
    have G9 := Lib.hid (G8.out.below hb G8.out.lt)
    have BB' := Lib.hid hB
    have H9 := Lib.hid hblk
    clear hb hB hblk hg hm9 ST8 G8 WN8 Ccv hl1
    go_wp2_with fail
    obtain ⟨x, hx⟩ : ∃ x, x = b % 4 := ⟨_, rfl⟩
    have hx4 : 0 ≤ x ∧ x < 4 := by have := HBB.out; omega
    have HX := Lib.hid hx
    clear hx
    have SRC2 : RowKit.Hid (∀ W, Below w9.heap.size w9 W → (∃ c, Value.slice aa A.length ca = .slice none 0 c ∧ A.length = 0 ∧ A.map (Value.int .i64) = []) ∨ ∃ ad c, Value.slice aa A.length ca = .slice (some ad) A.length c ∧ (A.map (Value.int .i64)).length = A.length * 1 ∧ ∀ j u, (A.map (Value.int .i64))[j]? = some u → W.cell? (ad.add j) = some u) := Lib.hid (by
      intro W hb
      obtain ⟨a', c', e, h⟩ := ST9.out.at_
      injection e with e1 _ e2
      cases haa : aa with
      | none =>
        refine .inl ⟨ca, ?_⟩
        rcases h with h | ⟨b', o, h, _⟩
        · rw [h]; exact ⟨rfl, rfl, rfl⟩
        · rw [← e1, haa] at h; nomatch h
      | some ad =>
        refine .inr ⟨ad, ca, rfl, by simp, fun j u hj => ?_⟩
        rw [List.getElem?_map] at hj
        obtain ⟨y, hy, rfl⟩ := Option.map_eq_some_iff.1 hj
        have hjl := (List.getElem?_eq_some_iff.1 hy).1
        rcases h with h | ⟨b', o, h, hbl, hc⟩
        · rw [h] at hjl; simp at hjl
        · rw [← e1, haa] at h
          injection h with h
          subst h
          rw [add_off]
          have := (hb.cell (p := ⟨b', o + j, none⟩) hbl).trans (hc j hjl)
          rw [this, List.getD_eq_getElem?_getD, hy]; rfl)
    obtain ⟨S, hS⟩ : ∃ S : World → Prop, S = fun W => Below w9.heap.size w9 W := ⟨_, rfl⟩
    have HSS : RowKit.Hid (∀ W, S W → Below w9.heap.size w9 W) := Lib.hid fun W h => by rw [hS] at h; exact h
    have SS : RowKit.Hid (∀ W, Below w9.heap.size w9 W → S W) := Lib.hid fun W h => by rw [hS]; exact h
    have PB9 : RowKit.Hid (∀ W, S W → Blk W pb cells 27) := Lib.hid fun W h => ST9.out.blk.below (HSS.out W h) ST9.out.blk.lt
    have S9 := SS.out w9.drew (Below.refl _ _).drew
    clear hS
    refine wp_region_sp 11 S (by kernel_rfl) (by kernel_rfl) ?_
    simp only [List.take_succ_cons, List.take_zero]
    have hHeld := S9
    apply wpAnyH_genI (fun (a0 : Act) (L : Array Bool) (a : Act) (W : World) => (∀ j, j ∈ [0, 2, 4, 5, 6, 9] → L.getD j false = true) ∧ ∃ x56 x58 x62 x63 x65, a = ((((a0.put (some 56) x56).put (some 58) x58).put (some 62) x62).put (some 63) x63).put (some 65) x65 ∧ Q5 w9 A.length (A.map (Value.int .i64)) x cs x56 x58 x62 x63 x65 (fun j => L.getD j false) W) 11
    case take =>
      intro QQ hQQ
      refine wpAnyH_take (i := 0) (v := ?_) rfl (by kernel_rfl) (by kernel_rfl) (by kernel_rfl) (fun _ _ _ h => only_panic h) (Or.inl ⟨by rfl, ?_⟩) hHeld ?_
      rotate_left
      · (intro w hSw; clear hSw; go_simp; try (with_reducible rfl))
      try simp only [List.getElem_toArray, List.getElem_cons_succ, List.getElem_cons_zero, Act.put, List.setIfInBounds_toArray, List.set_cons_zero, List.set_cons_succ]
      refine wpAnyH_take (i := 2) (v := ?_) rfl (by kernel_rfl) (by kernel_rfl) (by kernel_rfl) (fun _ _ _ h => only_panic h) (Or.inl ⟨by rfl, ?_⟩) hHeld ?_
      rotate_left
      · (intro w hSw; clear hSw; go_simp; try (with_reducible rfl))
      try simp only [List.getElem_toArray, List.getElem_cons_succ, List.getElem_cons_zero, Act.put, List.setIfInBounds_toArray, List.set_cons_zero, List.set_cons_succ]
      refine wpAnyH_take (i := 4) (v := ?_) rfl (by kernel_rfl) (by kernel_rfl) (by kernel_rfl) (fun _ _ _ h => only_panic h) (Or.inl ⟨by rfl, ?_⟩) hHeld ?_
      rotate_left
      · (intro w hSw; clear hSw; go_simp; try (with_reducible rfl))
      try simp only [List.getElem_toArray, List.getElem_cons_succ, List.getElem_cons_zero, Act.put, List.setIfInBounds_toArray, List.set_cons_zero, List.set_cons_succ]
      refine wpAnyH_take (i := 5) (v := .int .u8 x) rfl (by kernel_rfl) (by kernel_rfl) (by kernel_rfl) (fun _ _ _ h => only_panic h) ?_ hHeld ?_
      · refine Or.inl ⟨by rfl, ?_⟩; intro w hSw; clear hSw; go_simp; rw [HX.out]; exact Int.tmod_eq_emod_of_nonneg HBB.out.1
      try simp only [List.getElem_toArray, List.getElem_cons_succ, List.getElem_cons_zero, Act.put, List.setIfInBounds_toArray, List.set_cons_zero, List.set_cons_succ]
      refine wpAnyH_take (i := 6) (v := .int .i64 x) rfl (by kernel_rfl) (by kernel_rfl) (by kernel_rfl) (fun _ _ _ h => only_panic h) ?_ hHeld ?_
      · refine Or.inl ⟨by rfl, ?_⟩; intro w hSw; clear hSw; go_simp; rw [IntKind.wrap_i64]; omega
      try simp only [List.getElem_toArray, List.getElem_cons_succ, List.getElem_cons_zero, Act.put, List.setIfInBounds_toArray, List.set_cons_zero, List.set_cons_succ]
      refine wpAnyH_take (i := 9) (v := .agg cells) rfl (by kernel_rfl) (by kernel_rfl) (by kernel_rfl) (fun _ _ _ h => only_panic h) ?_ hHeld ?_
      · exact yields_load27' (.tmp 3) (by rfl) rfl rfl PB9.out HS.out
      try simp only [List.getElem_toArray, List.getElem_cons_succ, List.getElem_cons_zero, Act.put, List.setIfInBounds_toArray, List.set_cons_zero, List.set_cons_succ]
      refine wpAnyH_inv0 (fun (a0 : Act) (L : Array Bool) (a : Act) (W : World) => (∀ j, j ∈ [0, 2, 4, 5, 6, 9] → L.getD j false = true) ∧ ∃ x56 x58 x62 x63 x65, a = ((((a0.put (some 56) x56).put (some 58) x58).put (some 62) x62).put (some 63) x63).put (some 65) x65 ∧ Q5 w9 A.length (A.map (Value.int .i64)) x cs x56 x58 x62 x63 x65 (fun j => L.getD j false) W) (by kernel_rfl) (by kernel_rfl) (by kernel_rfl) ?_ ?_ ?_ ?_
      · refine ⟨fun j hj => ?_, _, _, _, _, _, puts_self5 _ (by kernel_rfl), Q5.start (Below.refl _ _).drew (by kernel_rfl) (by kernel_rfl) (by kernel_rfl) (by kernel_rfl) (by kernel_rfl)⟩
        simp only [List.mem_cons, List.not_mem_nil, or_false] at hj
        rcases hj with rfl | rfl | rfl | rfl | rfl | rfl <;> kernel_rfl
      · rintro L a W ⟨_, _, _, _, _, _, _, h⟩
        exact SS.out W h.bel
      · rintro M a W ⟨hT, x56, x58, x62, x63, x65, rfl, hQ⟩ i o ho hMi hsz hdep K hK
        have hsz' : M.size = 11 := hsz
        have hi : i < 11 := (Array.getElem?_eq_some_iff.1 ho).1
        have hF : M.getD i false = false := by rw [← getD_tf (by omega)]; exact hMi
        have hnt : i ∉ [0, 2, 4, 5, 6, 9] := fun h => by rw [hT i h] at hF; cases hF
        have hT' : RowKit.Hid (∀ j, j ∈ [0, 2, 4, 5, 6, 9] → (M.setIfInBounds i true).getD j false = true) := Lib.hid fun j hj => getD_set_true (hT j hj)
        have HQ := Lib.hid hQ
        have HK := Lib.hid hK
        have HF := Lib.hid hF
        have HD := Lib.hid hdep
        have HSZ := Lib.hid hsz'
        clear hQ hK hF hT hMi hdep hsz
        simp only [List.mem_cons, List.not_mem_nil, or_false] at hnt
        have h7 : i = 1 ∨ i = 3 ∨ i = 7 ∨ i = 8 ∨ i = 10 := by omega
        clear hnt hi
        obtain ⟨i3, hj, hj0, hj1, hj2⟩ := info_parts info3
        rcases h7 with rfl | rfl | rfl | rfl | rfl
        · simp only [List.getElem?_toArray, List.getElem?_cons_succ, List.getElem?_cons_zero, Option.some.injEq] at ho
          subst ho
          simp only [Act.put, List.setIfInBounds_toArray, List.set_cons_zero, List.set_cons_succ]
          go_simp
          refine HK.out _ _ ⟨hT'.out, .slice (some ⟨W.heap.size, 0, none⟩) 0 0, x58, x62, x63, x65, by kernel_rfl, by rw [lset (by have := HSZ.out; omega)]; exact HQ.out.s1 HF.out ((Below.refl _ _).alloc (Nat.le_refl _) _) (World.ownsRow_lit W #[] 0 (Nat.le_refl _) (by unfold maxLen; omega) rfl)⟩
        · simp only [List.getElem?_toArray, List.getElem?_cons_succ, List.getElem?_cons_zero, Option.some.injEq] at ho
          subst ho
          simp only [Act.put, List.setIfInBounds_toArray, List.set_cons_zero, List.set_cons_succ]
          have h1 := HD.out { on := 1, ground := .data } (by simp) (by kernel_rfl)
          obtain ⟨b0, rfl, hr, hb⟩ := HQ.out.row3 h1 HF.out
          rw [if_pos (by rfl)]
          refine wp_append_all (.tmp 56) (.tmp 57) 30 rfl w9.heap.size 3 i3 _ 1 8 Try.underlying30 hj hj0 hj1 hj2 rfl (by omega) (.slice (some ⟨b0, 0, none⟩) 0 0) 0 [] rfl hr A.length (A.map (Value.int .i64)) (.slice aa A.length ca) rfl (SRC2.out W hb) (map_one A) (by unfold maxLen; omega) (by omega) hb.size ?_
          intro v' w' q1 q2 q3
          refine HK.out _ _ ⟨hT'.out, .slice (some ⟨b0, 0, none⟩) 0 0, v', x62, x63, x65, by kernel_rfl, by rw [lset (by have := HSZ.out; omega)]; exact HQ.out.s3 h1 HF.out q1 (by omega) (by simp) q2 q3⟩
        · simp only [List.getElem?_toArray, List.getElem?_cons_succ, List.getElem?_cons_zero, Option.some.injEq] at ho
          subst ho
          simp only [Act.put, List.setIfInBounds_toArray, List.set_cons_zero, List.set_cons_succ]
          go_simp
          refine HK.out _ _ ⟨hT'.out, x56, x58, .slice (some ⟨W.heap.size, 0, none⟩) 1 1, x63, x65, by kernel_rfl, by rw [lset (by have := HSZ.out; omega)]; exact HQ.out.s7 HF.out ((Below.refl _ _).alloc (Nat.le_refl _) _) (Nat.le_refl _) (by rw [size_alloc]; omega) (fun j u hu => by have := news_ W (.int .i64 x) 3 j u hu; rwa [add_of] at this)⟩
        · simp only [List.getElem?_toArray, List.getElem?_cons_succ, List.getElem?_cons_zero, Option.some.injEq] at ho
          subst ho
          simp only [Act.put, List.setIfInBounds_toArray, List.set_cons_zero, List.set_cons_succ]
          have h3 := HD.out { on := 3, ground := .data } (by simp) (by kernel_rfl)
          have h7 := HD.out { on := 7, ground := .data } (by simp) (by kernel_rfl)
          obtain ⟨b1, rfl, hr, hc, hb⟩ := HQ.out.row8 h3 h7 HF.out
          rw [if_pos (by rfl)]
          refine wp_append_all (.tmp 58) (.tmp 62) 30 rfl w9.heap.size 3 i3 _ 1 8 Try.underlying30 hj hj0 hj1 hj2 rfl (by omega) x58 A.length _ rfl hr 1 [.int .i64 x] (.slice (some ⟨b1, 0, none⟩) 1 1) rfl (.inr ⟨⟨b1, 0, none⟩, 1, rfl, rfl, fun j u hu => by rw [add_of]; exact hc j u hu⟩) (one_ rfl) (by unfold maxLen; omega) (by omega) hb.size ?_
          intro v' w' q1 q2 q3
          refine HK.out _ _ ⟨hT'.out, x56, x58, .slice (some ⟨b1, 0, none⟩) 1 1, v', x65, by kernel_rfl, by rw [lset (by have := HSZ.out; omega)]; exact HQ.out.s8 h3 h7 HF.out q1 q2 q3⟩
        · simp only [List.getElem?_toArray, List.getElem?_cons_succ, List.getElem?_cons_zero, Option.some.injEq] at ho
          subst ho
          simp only [Act.put, List.setIfInBounds_toArray, List.set_cons_zero, List.set_cons_succ]
          go_simp
          refine (costs_own cells cs W HP.out.c2).mono ?_
          rintro e W' ⟨v, us, W1', rfl, hR, hb, hs⟩
          refine HK.out _ _ ⟨hT'.out, x56, x58, x62, x63, v, by kernel_rfl, by rw [lset (by have := HSZ.out; omega)]; exact HQ.out.s10 hb hs hR⟩
      · intro M a W h hMs hall
        have hMs' : M.size = 11 := hMs
        exact ⟨rfl, hQQ M a W h fun j hj => by rw [← getD_tf (by omega)]; exact hall j hj⟩
    case rest =>
      rintro M a W ⟨hT, x56, x58, x62, x63, x65, rfl, hQ⟩ al_
      obtain ⟨hr, hR2, hb⟩ := hQ.done (al_ 8 (by omega)) (al_ 10 (by omega))
      obtain ⟨D, hD⟩ : ∃ D, D = A ++ [x] := ⟨_, rfl⟩
      have HDD := Lib.hid hD
      have hDl : D.length = A.length + 1 := by rw [hD]; simp
      obtain ⟨a7, c7, rfl, hO, hob⟩ := own_of_row (w := W) (B := w9.heap.size) (D := D) (by rw [hDl, hD, List.map_append]; exact hr)
      have hOi := hO.ints
      obtain ⟨w10, rfl⟩ : ∃ w10 : World, w10 = W := ⟨_, rfl⟩
      have ST10 := Lib.hid (ST9.out.up hb)
      have G10 := Lib.hid (G9.out.below hb G9.out.lt)
      have H10 := Lib.hid (H9.out.below hb H9.out.lt)
      have AD10 : RowKit.Hid (Ints w10 w10.heap.size (.slice a7 D.length c7) D) := Lib.hid (hOi.ints fun b _ hb => hb)
      have CR10 := Lib.hid hR2
      clear hT hQ al_ hr hR2 hb hO hob hOi hD ST9 G9 H9 SS HSS PB9 SRC2 S9 hHeld
      have hD16 : D.length ≤ 16 := by omega
      clear hDl
      simp only [endN, List.drop_succ_cons, List.drop_zero, Act.put, List.setIfInBounds_toArray, List.set_cons_zero, List.set_cons_succ]
      go_wp2_with fail
      refine (assign_any L D (costsM cs) w10 w10.heap.size _ _ _ ST10.out.wants AD10.out CR10.out (by omega) (by omega) HLC.out (costsM_row cs) (Nat.le_refl _)).mono ?_
      rintro e w11 ⟨cpc, gc, rfl, hB, hblk, hg, hb⟩
      have hm9 : (prob L D (costsM cs)).m = L.length := rfl
      rw [hm9] at hblk ⊢
      have ST11 := Lib.hid (ST10.out.up hb)
      have G11 := Lib.hid (G10.out.below hb G10.out.lt)
      have H11 := Lib.hid (H10.out.below hb H10.out.lt)
      have BC := Lib.hid hB
      have I11 := Lib.hid hblk
      have hB' : Best (prob L (A ++ [x]) (costsM cs)) cpc := by rw [← HDD.out]; exact hB
      have LAW : RowKit.Hid (∀ k, k < L.length → ((cp k).isSome = true ↔ (cpb k).isSome = true) ∧ ((cp k).isSome = true → (cpc k).isSome = true)) := Lib.hid fun k hk => grows_law (x := x) BB.out BB'.out hB' hk
      clear hb hB hB' hblk hg hm9 ST10 G10 H10 AD10 CR10 hD16
      go_wp2_with fail
      go_loopw [16] (fun v wr => ∃ k : Nat, k ≤ L.length ∧ v = .int .i64 k ∧ Below w11.heap.size w11 wr) (fun v _ => L.length - (intOf v).toNat)
      case atStart => exact ⟨0, by omega, rfl, Below.refl _ _⟩
      case round =>
        obtain ⟨k, hk, rfl, hb⟩ := hrel
        have BK := Lib.hid hb
        by_cases hlt : k < L.length
        · have a1 : wr.cell? ⟨g, k, none⟩ = some (.int .i64 (oi (cp k))) := (G11.out.below hb G11.out.lt).cellE (arr_get _ hlt)
          have b1 : wr.cell? ⟨gb, k, none⟩ = some (.int .i64 (oi (cpb k))) := (H11.out.below hb H11.out.lt).cellE (arr_get _ (show k < L.length + 1 by omega))
          have c1 : wr.cell? ⟨gc, k, none⟩ = some (.int .i64 (oi (cpc k))) := (I11.out.below hb I11.out.lt).cellE (arr_get _ hlt)
          obtain ⟨q1, q2⟩ := LAW.out k hlt
          have BD : RowKit.Hid (∀ q, Below w11.heap.size w11 (wr.drewN q)) := Lib.hid fun q => bdrewN hb q
          clear hb
          have hd1 : decide ((k : Int) < (L.length : Int)) = true := by simp only [decide_eq_true_eq]; omega
          cases hn0 : cp k with
          | none =>
            have hnb : cpb k = none := by
              cases e : cpb k with
              | none => rfl
              | some d => rw [hn0, e] at q1; exact absurd (q1.2 rfl) (by simp)
            rw [hn0] at a1
            rw [hnb] at b1
            have a1' : wr.cell? ⟨g, k, none⟩ = some (.int .i64 (-1)) := a1
            have b1' : wr.cell? ⟨gb, k, none⟩ = some (.int .i64 (-1)) := b1
            clear a1 b1 q1 q2 hn0 hnb
            go_wp2_with fail
            go_quiet (fail)
            go_wp2_with fail
            exact ⟨⟨k + 1, by omega, by go_num, BD.out _⟩, by simp [intOf]; omega⟩
          | some d =>
            obtain ⟨d2, hd2⟩ := Option.isSome_iff_exists.1 (q1.1 (by rw [hn0]; rfl))
            obtain ⟨d3, hd3⟩ := Option.isSome_iff_exists.1 (q2 (by rw [hn0]; rfl))
            rw [hn0] at a1
            rw [hd2] at b1
            rw [hd3] at c1
            have a1' : wr.cell? ⟨g, k, none⟩ = some (.int .i64 (d : Int)) := a1
            have b1' : wr.cell? ⟨gb, k, none⟩ = some (.int .i64 (d2 : Int)) := b1
            have c1' : wr.cell? ⟨gc, k, none⟩ = some (.int .i64 (d3 : Int)) := c1
            clear a1 b1 c1 q1 q2 hn0 hd2 hd3
            have n1 : decide ((0 : Int) ≤ (d : Int)) = true := by simp
            have n2 : decide ((0 : Int) ≤ (d2 : Int)) = true := by simp
            have n3 : decide ((d3 : Int) < 0) = false := by simp
            go_wp2_with fail
            go_quiet (fail)
            go_wp2_with fail
            exact ⟨⟨k + 1, by omega, by go_num, BD.out _⟩, by simp [intOf]; omega⟩
        · obtain rfl : k = L.length := by omega
          have hd1 : decide ((L.length : Int) < (L.length : Int)) = false := by simp
          have F := Lib.hid (ST11.out.bel.trans (hb.mono ST11.out.bel.size))
          clear hb
          go_wp2_with fail
          go_ret
          exact ⟨rfl, F.out⟩
end Go.Proofs.Ytpcmppamkgkdlaa
