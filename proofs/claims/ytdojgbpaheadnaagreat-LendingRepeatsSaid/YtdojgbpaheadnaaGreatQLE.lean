/- A lender's new deal. -/
import Derived.Test.YtdojgbpaheadnaaGreatQLC
import Derived.Laws.EntriesVeiled
set_option linter.unusedVariables false
set_option linter.unusedSimpArgs false

namespace Go.Proofs.YtdojgbpaheadnaaGreat
open Go.RowKit Go.Shelf Go.Maps Go.ChangeMaps

theorem row_drewN {w : World} {B : Nat} {e : TypeId} {z n : Nat} {v : Value} {xs : List Value} (h : w.ownsRow B e z v n xs) (q : Nat) : (w.drewN q).ownsRow B e z v n xs := (tn_drewN (fun _ => False) w q).row h fun _ _ => id
theorem map_nil0 (W : World) : (binOp .eql 59 (.map none) (.map none)).run Tryz.prog W = .ok (.bool true) W := by kernel_rfl
theorem map_nil1 (W : World) (b : Nat) : (binOp .eql 59 (.map (some b)) (.map none)).run Tryz.prog W = .ok (.bool false) W := by kernel_rfl
def PromE (B b : Nat) (s : Len) (hv mv : Value) (a r v : Int) (w : World) (e : Ending) (w' : World) : Prop :=
 ∃ hv' mv', e = .returned (.tuple #[]) ∧ LMem w' B b (s.deal a r v) hv' mv' 2 ∧ Tn (OwnL b hv mv) w w' ∧ ∀ k, OwnL b hv' mv' k → OwnL b hv mv k ∨ w.heap.size ≤ k
set_option maxRecDepth 100000 in
set_option maxHeartbeats 4000000 in
theorem promise_any (B b : Nat) (s : Len) (hv mv : Value) (a r v : Int) (w : World) (h : LMem w B b s hv mv 0) (hB : B ≤ w.heap.size) (hs : s.sent < 90000 ∧ s.here.length ≤ 21000) (ha : I64 a) (hr : I64 r) (hvv : I64 v) (hn : at_ s.L a r = none) :
  Calls Tryz.prog 68 #[.pointer (some ⟨b, 0, none⟩), .agg #[i64 a, i64 r], i64 v] w (PromE B b s hv mv a r v w) := by
 have H := Lib.hid h
 have c2 : w.cell? ⟨b, 2, none⟩ = some hv := h.blk.cell 2
 have c3 : w.cell? ⟨b, 3, none⟩ = some mv := h.blk.cell 3
 have f3 := h.blk.frozen 3
 have hbl := h.blk.lt
 rcases h.map with ⟨rfl, hL⟩ | ⟨mb, n, f, rfl, hm⟩
 ·clear h
  have hq0 := map_nil0
  have hmk := run_makeMap (P := Tryz.prog) 59
  go_enter Tryz.func68, Tryz.ntmps68
  go_wp2_with fail
  obtain ⟨db, hdb⟩ : ∃ db, db = w.heap.size := ⟨_, rfl⟩
  obtain ⟨mb, hmb⟩ : ∃ mb, mb = w.heap.size + 1 := ⟨_, rfl⟩
  obtain ⟨W1, hW1⟩ : ∃ W1, W1 = ((w.setCell ⟨b, 3, none⟩ (.map (some mb))).alloc (.cells #[i64 a, i64 r] 106)).alloc (.map #[] 0) := ⟨_, rfl⟩
  have T1 : Hid (Tn (fun k => k = b) w W1) := Lib.hid (by rw [hW1]; exact (((Tn.refl (fun k => k = b) w).setCell (p := ⟨b, 3, none⟩) (.inl rfl) _).alloc _).alloc _)
  have M1 : Hid (LMem W1 B b s hv (.map (some mb)) 0) := Lib.hid (by
   have h := H.out
   have k := h.blk.set 3 (.map (some mb))
   refine ⟨?_, T1.out.row h.row fun k hk e => h.ne (by rw [hk, e]), h.inOrder, .inr ⟨mb, 0, fun _ => none, rfl, ?_, fun a r _ _ => by rw [hL]; rfl, by have := h.sent; show ((0 : Nat) : Int) ≤ 2 * s.sent + _; omega, by omega, by omega, fun e => by have := (row_lt h.row mb e).2; omega⟩, h.ne, h.lo, h.sent, h.len, h.ids⟩
   ·rw [hW1]; exact ((k.alloc _).alloc _).cast rfl
   ·have e : mb = ((w.setCell ⟨b, 3, none⟩ (.map (some mb))).alloc (.cells #[i64 a, i64 r] 106)).heap.size := by rw [size_alloc]; simp [hmb]
    rw [hW1]
    have := MapF.new ((w.setCell ⟨b, 3, none⟩ (.map (some mb))).alloc (.cells #[i64 a, i64 r] 106)) Tryz.prog 106 RL
    rw [← e] at this
    exact this)
  have DB : Hid (Blk W1 db #[i64 a, i64 r] 106) := Lib.hid (by rw [hW1, hdb]; exact (Blk.at_new (by simp) _ _).alloc _)
  have NDB : Hid (db ≠ mb) := Lib.hid (by omega)
  rw [← hmb, ← hdb, ← hW1]
  have hz1 : w.heap.size ≤ W1.heap.size := T1.out.size
  have HZ := Lib.hid (And.intro hdb hmb)
  have hs9 : s.sent < 1000000000 := by omega
  have HID : Hid (∀ d ∈ s.L ++ [⟨a, r, v, 1⟩], I64 d.a ∧ I64 d.r ∧ I64 d.t ∧ 1 ≤ d.st ∧ d.st ≤ 5) := Lib.hid (by
   intro d hd
   rcases List.mem_append.1 hd with h1 | h1
   ·exact H.out.ids.2 d h1
   ·simp at h1; subst h1; exact ⟨ha, hr, hvv, by dsimp only; omega, by dsimp only; omega⟩)
  have HID2 : Hid (∀ d ∈ s.L ++ [⟨a, r, v, 2⟩], I64 d.a ∧ I64 d.r ∧ I64 d.t ∧ 1 ≤ d.st ∧ d.st ≤ 5) := Lib.hid (by
   intro d hd
   rcases List.mem_append.1 hd with h1 | h1
   ·exact H.out.ids.2 d h1
   ·simp at h1; subst h1; exact ⟨ha, hr, hvv, by dsimp only; omega, by dsimp only; omega⟩)
  have TT : Hid (∀ W, Tn (OwnL b hv (.map (some mb))) W1 W → Tn (OwnL b hv (.map none)) w W) := Lib.hid fun W t => (T1.out.mono fun k hk => .inl hk).then_ t fun k hk => by
   rcases hk with h | h | h
   ·exact .inl (.inl h)
   ·exact .inl (.inr (.inl h))
   ·injection h with h; injection h with h; exact .inr (by omega)
  have OO : Hid (∀ k, Value.map (some mb) = .map (some k) → OwnL b hv (.map none) k ∨ w.heap.size ≤ k) := Lib.hid fun k h => .inr (by injection h with h; injection h with h; omega)
  clear hW1 hdb hmb c2 c3 f3 hL hq0 hmk
  obtain ⟨S, hS⟩ : ∃ S : World → Prop, S = fun W => ∃ n, W = W1.drewN n := ⟨_, rfl⟩
  have LDD : Hid (∀ W, S W → W.cell? ⟨b, 3, none⟩ = some (.map (some mb))) := Lib.hid (by rw [hS]; rintro W ⟨n, rfl⟩; exact M1.out.blk.cell 3)
  have LDB : Hid (∀ W, S W → Blk W db #[i64 a, i64 r] 106) := Lib.hid (by rw [hS]; rintro W ⟨n, rfl⟩; exact DB.out.drewN n)
  have SS : Hid (∀ W, S W → ∃ n, W = W1.drewN n) := Lib.hid (by rw [hS]; exact fun W h => h)
  have hHeld : S W1.drew := by rw [hS]; exact ⟨1, rfl⟩
  clear hS
  refine wp_region_sp 7 S (by kernel_rfl) (by kernel_rfl) ?_
  simp only [List.take_succ_cons, List.take_zero]
  apply wpAnyH_apart S
  case take =>
   intro R hR
   refine tk 0 (v := ?_) rfl hHeld ?_ ?_; rotate_left
   ·(intro w hSw; have l0 := LDD.out w hSw; go_simp; try (with_reducible rfl))
   try simp only [gZ]
   refine tk 1 (v := ?_) rfl hHeld ?_ ?_; rotate_left
   ·(intro w hSw; have l0 := LDD.out w hSw; go_simp; try (with_reducible rfl))
   try simp only [gZ]
   refine tk 2 (v := ?_) rfl hHeld ?_ ?_; rotate_left
   ·(intro w hSw; have l0 := LDD.out w hSw; go_simp; try (with_reducible rfl))
   try simp only [gZ]
   refine tk 3 (v := ?_) rfl hHeld ?_ ?_; rotate_left
   ·(intro w hSw; have l0 := LDD.out w hSw; go_simp; try (with_reducible rfl))
   try simp only [gZ]
   refine wpAnyH_take (i := 4) (v := .agg #[i64 a, i64 r]) rfl (by kernel_rfl) (by kernel_rfl) (by kernel_rfl) (fun _ _ _ h => only_panic h) ?_ hHeld ?_
   ·exact yields_row (.tmp 4) (by rfl) rfl rfl LDB.out Tryz.underlying106 rfl (by kernel_rfl)
   try simp only [gZ]
   refine tk 5 (v := ?_) rfl hHeld ?_ ?_; rotate_left
   ·(intro w hSw; clear hSw; go_simp; try (with_reducible rfl))
   try simp only [gZ]
   refine tk 6 (v := ?_) rfl hHeld ?_ ?_; rotate_left
   ·(intro w hSw; clear hSw; go_simp; try (with_reducible rfl))
   try simp only [gZ]
   exact wpAnyH_done (by kernel_rfl) ⟨rfl, hR _ hHeld⟩ _
  intro W hW
  obtain ⟨n', rfl⟩ := SS.out W hW
  clear hHeld hW SS LDD LDB
  obtain ⟨w2, hrun, hM2, hT2⟩ := (M1.out.drewN n').put (t := v) (k := 4) (L' := s.L ++ [⟨a, r, v, 1⟩]) hs9 (by omega) ha hr (fun f hf => fit_new (st := 1) hf ha hr hn) HID.out
  have hrun' : (Instr.mapUpdate 59 (.map (some mb)) (.agg #[i64 a, i64 r]) (.agg #[i64 v, i64 4])).run Tryz.prog (W1.drewN n') = .ok () w2 := hrun
  have M2 := Lib.hid hM2
  have T2 : Hid (Tn (OwnL b hv (.map (some mb))) W1 w2) := Lib.hid ((tn_drewN _ W1 n').trans (hT2.mono fun k hk => by rw [hk]; exact .inr (.inr rfl)))
  have DB2 : Hid (Blk w2 db #[i64 a, i64 r] 106) := Lib.hid (hT2.blk (DB.out.drewN n') NDB.out)
  simp only [endN, List.drop_succ_cons, List.drop_zero, Act.put, List.setIfInBounds_toArray, List.set_cons_zero, List.set_cons_succ]
  have q2 : w2.cell? ⟨b, 2, none⟩ = some hv := M2.out.blk.cell 2
  clear hM2 hT2 S
  go_wp2_with fail
  have R2 : w2.ownsRow B 3 1 hv s.here.length (s.here.map (Value.int .i64)) := M2.out.row
  have S2 : s.here.Pairwise (· ≤ ·) := M2.out.inOrder
  have hl2 : (s.here.length : Int) ≤ 1000 + 2 * s.sent + ((0 + 1 : Nat) : Int) := M2.out.len
  have hl3 : s.here.length ≤ 100000 := by omega
  refine (search_own v R2 S2 hl3).mono ?_
  rintro e w3 ⟨rfl, q, rfl⟩
  clear hrun hrun' q2
  obtain ⟨p, hp⟩ : ∃ p, p = pos v s.here := ⟨_, rfl⟩
  have hpl : p ≤ 100000 := by rw [hp]; have := pos_le v s.here; omega
  by_cases hm : v ∈ s.here
  ·rw [decide_eq_true hm, ← hp]
   have DD : Hid (Calls Tryz.prog 98 #[hv, .int .i64 p, .int .i64 ((p : Int) + 1)] (w2.drewN q) fun e w' => ∃ v', e = .returned v' ∧ w'.ownsRow B 3 1 v' (s.here.erase v).length ((s.here.erase v).map (Value.int .i64)) ∧ Tn (fun b => hv.ownBlock = some b) (w2.drewN q) w' ∧ v'.ownBlock = hv.ownBlock) := Lib.hid (by rw [hp]; exact del_own v (row_drewN R2 q) S2 hm)
   clear hp
   have q3 : (w2.drewN q).cell? ⟨b, 2, none⟩ = some hv := M2.out.blk.cell 2
   clear hl2 hl3 R2
   go_wp2_with fail
   refine DD.out.mono ?_
   rintro e w4 ⟨hv', rfl, row4, T4, own4⟩
   have B4 : Blk w4 b #[i64 s.id, i64 s.sent, hv, .map (some mb)] 61 := T4.blk (M2.out.blk.drewN q) M2.out.ne
   have DB4 : Hid (Blk w4 db #[i64 a, i64 r] 106) := Lib.hid (T4.blk (DB2.out.drewN q) fun e => by have := row_lt H.out.row db e; have := HZ.out.1; omega)
   have he4 : ((s.here.erase v).length : Int) ≤ 1000 + 2 * s.sent + ((1 : Nat) : Int) := by
    have h1 := M2.out.len
    have h2 : (s.here.erase v).length ≤ s.here.length := List.length_erase_le ..
    have h3 : (s.here.length : Int) ≤ 1000 + 2 * s.sent + ((0 + 1 : Nat) : Int) := h1
    omega
   have M5 := Lib.hid (((M2.out.drewN q).setHere T4 row4 (fun k hk => .inl (by rw [← own4]; exact hk)) (erase_sorted S2) he4 (by omega)))
   have T5 : Hid (Tn (OwnL b hv (.map (some mb))) W1 (w4.setCell ⟨b, 2, none⟩ hv')) := Lib.hid (((T2.out.drewN q).trans (T4.mono fun k hk => .inr (.inl hk))).setCell (p := ⟨b, 2, none⟩) (.inl (.inl rfl)) _)
   have q4 : w4.cell? ⟨b, 2, none⟩ = some hv := B4.cell 2
   have f4 := B4.frozen 2
   have DB5 : Hid (Blk (w4.setCell ⟨b, 2, none⟩ hv') db #[i64 a, i64 r] 106) := Lib.hid (DB4.out.set_ne _ _ (by show db ≠ b; have := HZ.out.1; omega))
   obtain ⟨a4, c4, rfl, -⟩ := row_cell row4
   have HO : Hid (∀ k, (Value.slice a4 (s.here.erase v).length c4).ownBlock = some k → hv.ownBlock = some k) := Lib.hid fun k hk => by rw [← own4]; exact hk
   obtain ⟨n4, hn4⟩ : ∃ n4, n4 = (s.here.erase v).length := ⟨_, rfl⟩
   have HN4 := Lib.hid hn4
   rw [← hn4] at M5 T5 DB5 HO ⊢
   clear B4 he4 row4 T4 own4 hn4 DD q3
   go_wp2_with fail
   obtain ⟨w5, hw5⟩ : ∃ w5, w5 = w4.setCell ⟨b, 2, none⟩ (.slice a4 n4 c4) := ⟨_, rfl⟩
   rw [← hw5] at M5 T5 DB5 ⊢
   clear hw5 q4 f4
   obtain ⟨S, hS⟩ : ∃ S : World → Prop, S = fun W => ∃ n, W = w5.drewN n := ⟨_, rfl⟩
   have LDD : Hid (∀ W, S W → W.cell? ⟨b, 3, none⟩ = some (.map (some mb))) := Lib.hid (by rw [hS]; rintro W ⟨n, rfl⟩; exact M5.out.blk.cell 3)
   have LDB : Hid (∀ W, S W → Blk W db #[i64 a, i64 r] 106) := Lib.hid (by rw [hS]; rintro W ⟨n, rfl⟩; exact DB5.out.drewN n)
   have SS : Hid (∀ W, S W → ∃ n, W = w5.drewN n) := Lib.hid (by rw [hS]; exact fun W h => h)
   have hHeld : S w5.drew := by rw [hS]; exact ⟨1, rfl⟩
   clear hS
   refine wp_region_sp 7 S (by kernel_rfl) (by kernel_rfl) ?_
   simp only [List.take_succ_cons, List.take_zero]
   apply wpAnyH_apart S
   case take =>
    intro R hR
    refine tk 0 (v := ?_) rfl hHeld ?_ ?_; rotate_left
    ·(intro w hSw; have l0 := LDD.out w hSw; go_simp; try (with_reducible rfl))
    try simp only [gZ]
    refine tk 1 (v := ?_) rfl hHeld ?_ ?_; rotate_left
    ·(intro w hSw; have l0 := LDD.out w hSw; go_simp; try (with_reducible rfl))
    try simp only [gZ]
    refine tk 2 (v := ?_) rfl hHeld ?_ ?_; rotate_left
    ·(intro w hSw; have l0 := LDD.out w hSw; go_simp; try (with_reducible rfl))
    try simp only [gZ]
    refine tk 3 (v := ?_) rfl hHeld ?_ ?_; rotate_left
    ·(intro w hSw; have l0 := LDD.out w hSw; go_simp; try (with_reducible rfl))
    try simp only [gZ]
    refine wpAnyH_take (i := 4) (v := .agg #[i64 a, i64 r]) rfl (by kernel_rfl) (by kernel_rfl) (by kernel_rfl) (fun _ _ _ h => only_panic h) ?_ hHeld ?_
    ·exact yields_row (.tmp 4) (by rfl) rfl rfl LDB.out Tryz.underlying106 rfl (by kernel_rfl)
    try simp only [gZ]
    refine tk 5 (v := ?_) rfl hHeld ?_ ?_; rotate_left
    ·(intro w hSw; clear hSw; go_simp; try (with_reducible rfl))
    try simp only [gZ]
    refine tk 6 (v := ?_) rfl hHeld ?_ ?_; rotate_left
    ·(intro w hSw; clear hSw; go_simp; try (with_reducible rfl))
    try simp only [gZ]
    exact wpAnyH_done (by kernel_rfl) ⟨rfl, hR _ hHeld⟩ _
   intro W hW
   obtain ⟨n2, rfl⟩ := SS.out W hW
   clear hHeld hW SS LDD LDB
   have fit2 : ∀ f, FitL f (s.L ++ [⟨a, r, v, 1⟩]) → FitL (updL f (klD a r) (loanD v 3)) (s.L ++ [⟨a, r, v, 2⟩]) := fun f hf => fit_again (st := 1) (st' := 2) hf ha hr hn
   obtain ⟨w6, hrun, hM6, hT6⟩ := (M5.out.drewN n2).put (t := v) (k := 3) (L' := s.L ++ [⟨a, r, v, 2⟩]) hs9 (by omega) ha hr fit2 HID2.out
   have hrun' : (Instr.mapUpdate 59 (.map (some mb)) (.agg #[i64 a, i64 r]) (.agg #[i64 v, i64 3])).run Tryz.prog (w5.drewN n2) = .ok () w6 := hrun
   have FF : Hid (PromE B b s hv (.map none) a r v w (.returned (.tuple #[])) w6) := Lib.hid (by
    refine ⟨.slice a4 n4 c4, .map (some mb), rfl, ?_, TT.out _ ((T5.out.drewN n2).trans (hT6.mono fun k hk => by rw [hk]; exact .inr (.inr rfl))), fun k hk => ?_⟩
    ·have := hM6.mono (Nat.le_refl 2)
     have e : s.deal a r v = { s with here := s.here.erase v, L := s.L ++ [⟨a, r, v, 2⟩] } := by unfold Len.deal; rw [if_pos hm]
     rw [e]; exact this
    ·rcases hk with h | h | h
     ·exact .inl (.inl h)
     ·exact .inl (.inr (.inl (HO.out k h)))
     ·exact OO.out k h)
   clear hM6 hT6 hrun S
   simp only [endN, List.drop_succ_cons, List.drop_zero, Act.put, List.setIfInBounds_toArray, List.set_cons_zero, List.set_cons_succ]
   go_wp2_with fail
   go_end0
   exact FF.out
  ·rw [decide_eq_false hm, ← hp]
   clear hp
   clear hl2 hl3 R2
   go_wp2_with fail
   go_end0
   refine ⟨hv, .map (some mb), rfl, ?_, TT.out _ (T2.out.drewN q), fun k hk => ?_⟩
   ·have e : s.deal a r v = { s with L := s.L ++ [⟨a, r, v, 1⟩] } := by unfold Len.deal; rw [if_neg hm]
    rw [e]; exact (M2.out.drewN q).mono (by omega)
   ·rcases hk with h | h | h
    ·exact .inl (.inl h)
    ·exact .inl (.inr (.inl h))
    ·exact OO.out k h
 ·clear h
  have hq1 := map_nil1
  have NDB0 := hm.1.lt
  go_enter Tryz.func68, Tryz.ntmps68
  go_wp2_with fail
  obtain ⟨db, hdb⟩ : ∃ db, db = w.heap.size := ⟨_, rfl⟩
  obtain ⟨W1, hW1⟩ : ∃ W1, W1 = w.alloc (.cells #[i64 a, i64 r] 106) := ⟨_, rfl⟩
  have BW : Hid (Below w.heap.size w W1) := Lib.hid (by rw [hW1]; exact (Below.refl _ _).alloc (Nat.le_refl _) _)
  have M1 := Lib.hid (H.out.up BW.out)
  have DB : Hid (Blk W1 db #[i64 a, i64 r] 106) := Lib.hid (by rw [hW1, hdb]; exact Blk.new _ _ _)
  have NDB : Hid (db ≠ mb) := Lib.hid (by omega)
  rw [← hdb, ← hW1]
  have hz1 : w.heap.size ≤ W1.heap.size := BW.out.size
  have HZ := Lib.hid (And.intro hdb hdb)
  have hs9 : s.sent < 1000000000 := by omega
  have HID : Hid (∀ d ∈ s.L ++ [⟨a, r, v, 1⟩], I64 d.a ∧ I64 d.r ∧ I64 d.t ∧ 1 ≤ d.st ∧ d.st ≤ 5) := Lib.hid (by
   intro d hd
   rcases List.mem_append.1 hd with h1 | h1
   ·exact H.out.ids.2 d h1
   ·simp at h1; subst h1; exact ⟨ha, hr, hvv, by dsimp only; omega, by dsimp only; omega⟩)
  have HID2 : Hid (∀ d ∈ s.L ++ [⟨a, r, v, 2⟩], I64 d.a ∧ I64 d.r ∧ I64 d.t ∧ 1 ≤ d.st ∧ d.st ≤ 5) := Lib.hid (by
   intro d hd
   rcases List.mem_append.1 hd with h1 | h1
   ·exact H.out.ids.2 d h1
   ·simp at h1; subst h1; exact ⟨ha, hr, hvv, by dsimp only; omega, by dsimp only; omega⟩)
  have TT : Hid (∀ W, Tn (OwnL b hv (.map (some mb))) W1 W → Tn (OwnL b hv (.map (some mb))) w W) := Lib.hid fun W t => (Tn.of_below BW.out).then_ t fun k hk => .inl hk
  have OO : Hid (∀ k, Value.map (some mb) = .map (some k) → OwnL b hv (.map (some mb)) k ∨ w.heap.size ≤ k) := Lib.hid fun k h => .inl (.inr (.inr h))
  clear hW1 hdb c2 c3 f3 hq1 hm NDB0
  obtain ⟨S, hS⟩ : ∃ S : World → Prop, S = fun W => ∃ n, W = W1.drewN n := ⟨_, rfl⟩
  have LDD : Hid (∀ W, S W → W.cell? ⟨b, 3, none⟩ = some (.map (some mb))) := Lib.hid (by rw [hS]; rintro W ⟨n, rfl⟩; exact M1.out.blk.cell 3)
  have LDB : Hid (∀ W, S W → Blk W db #[i64 a, i64 r] 106) := Lib.hid (by rw [hS]; rintro W ⟨n, rfl⟩; exact DB.out.drewN n)
  have SS : Hid (∀ W, S W → ∃ n, W = W1.drewN n) := Lib.hid (by rw [hS]; exact fun W h => h)
  have hHeld : S W1.drew := by rw [hS]; exact ⟨1, rfl⟩
  clear hS
  refine wp_region_sp 7 S (by kernel_rfl) (by kernel_rfl) ?_
  simp only [List.take_succ_cons, List.take_zero]
  apply wpAnyH_apart S
  case take =>
   intro R hR
   refine tk 0 (v := ?_) rfl hHeld ?_ ?_; rotate_left
   ·(intro w hSw; have l0 := LDD.out w hSw; go_simp; try (with_reducible rfl))
   try simp only [gZ]
   refine tk 1 (v := ?_) rfl hHeld ?_ ?_; rotate_left
   ·(intro w hSw; have l0 := LDD.out w hSw; go_simp; try (with_reducible rfl))
   try simp only [gZ]
   refine tk 2 (v := ?_) rfl hHeld ?_ ?_; rotate_left
   ·(intro w hSw; have l0 := LDD.out w hSw; go_simp; try (with_reducible rfl))
   try simp only [gZ]
   refine tk 3 (v := ?_) rfl hHeld ?_ ?_; rotate_left
   ·(intro w hSw; have l0 := LDD.out w hSw; go_simp; try (with_reducible rfl))
   try simp only [gZ]
   refine wpAnyH_take (i := 4) (v := .agg #[i64 a, i64 r]) rfl (by kernel_rfl) (by kernel_rfl) (by kernel_rfl) (fun _ _ _ h => only_panic h) ?_ hHeld ?_
   ·exact yields_row (.tmp 4) (by rfl) rfl rfl LDB.out Tryz.underlying106 rfl (by kernel_rfl)
   try simp only [gZ]
   refine tk 5 (v := ?_) rfl hHeld ?_ ?_; rotate_left
   ·(intro w hSw; clear hSw; go_simp; try (with_reducible rfl))
   try simp only [gZ]
   refine tk 6 (v := ?_) rfl hHeld ?_ ?_; rotate_left
   ·(intro w hSw; clear hSw; go_simp; try (with_reducible rfl))
   try simp only [gZ]
   exact wpAnyH_done (by kernel_rfl) ⟨rfl, hR _ hHeld⟩ _
  intro W hW
  obtain ⟨n', rfl⟩ := SS.out W hW
  clear hHeld hW SS LDD LDB
  obtain ⟨w2, hrun, hM2, hT2⟩ := (M1.out.drewN n').put (t := v) (k := 4) (L' := s.L ++ [⟨a, r, v, 1⟩]) hs9 (by omega) ha hr (fun f hf => fit_new (st := 1) hf ha hr hn) HID.out
  have hrun' : (Instr.mapUpdate 59 (.map (some mb)) (.agg #[i64 a, i64 r]) (.agg #[i64 v, i64 4])).run Tryz.prog (W1.drewN n') = .ok () w2 := hrun
  have M2 := Lib.hid hM2
  have T2 : Hid (Tn (OwnL b hv (.map (some mb))) W1 w2) := Lib.hid ((tn_drewN _ W1 n').trans (hT2.mono fun k hk => by rw [hk]; exact .inr (.inr rfl)))
  have DB2 : Hid (Blk w2 db #[i64 a, i64 r] 106) := Lib.hid (hT2.blk (DB.out.drewN n') NDB.out)
  simp only [endN, List.drop_succ_cons, List.drop_zero, Act.put, List.setIfInBounds_toArray, List.set_cons_zero, List.set_cons_succ]
  have q2 : w2.cell? ⟨b, 2, none⟩ = some hv := M2.out.blk.cell 2
  clear hM2 hT2 S
  go_wp2_with fail
  have R2 : w2.ownsRow B 3 1 hv s.here.length (s.here.map (Value.int .i64)) := M2.out.row
  have S2 : s.here.Pairwise (· ≤ ·) := M2.out.inOrder
  have hl2 : (s.here.length : Int) ≤ 1000 + 2 * s.sent + ((0 + 1 : Nat) : Int) := M2.out.len
  have hl3 : s.here.length ≤ 100000 := by omega
  refine (search_own v R2 S2 hl3).mono ?_
  rintro e w3 ⟨rfl, q, rfl⟩
  clear hrun hrun' q2
  obtain ⟨p, hp⟩ : ∃ p, p = pos v s.here := ⟨_, rfl⟩
  have hpl : p ≤ 100000 := by rw [hp]; have := pos_le v s.here; omega
  by_cases hm : v ∈ s.here
  ·rw [decide_eq_true hm, ← hp]
   have DD : Hid (Calls Tryz.prog 98 #[hv, .int .i64 p, .int .i64 ((p : Int) + 1)] (w2.drewN q) fun e w' => ∃ v', e = .returned v' ∧ w'.ownsRow B 3 1 v' (s.here.erase v).length ((s.here.erase v).map (Value.int .i64)) ∧ Tn (fun b => hv.ownBlock = some b) (w2.drewN q) w' ∧ v'.ownBlock = hv.ownBlock) := Lib.hid (by rw [hp]; exact del_own v (row_drewN R2 q) S2 hm)
   clear hp
   have q3 : (w2.drewN q).cell? ⟨b, 2, none⟩ = some hv := M2.out.blk.cell 2
   clear hl2 hl3 R2
   go_wp2_with fail
   refine DD.out.mono ?_
   rintro e w4 ⟨hv', rfl, row4, T4, own4⟩
   have B4 : Blk w4 b #[i64 s.id, i64 s.sent, hv, .map (some mb)] 61 := T4.blk (M2.out.blk.drewN q) M2.out.ne
   have DB4 : Hid (Blk w4 db #[i64 a, i64 r] 106) := Lib.hid (T4.blk (DB2.out.drewN q) fun e => by have := row_lt H.out.row db e; have := HZ.out.1; omega)
   have he4 : ((s.here.erase v).length : Int) ≤ 1000 + 2 * s.sent + ((1 : Nat) : Int) := by
    have h1 := M2.out.len
    have h2 : (s.here.erase v).length ≤ s.here.length := List.length_erase_le ..
    have h3 : (s.here.length : Int) ≤ 1000 + 2 * s.sent + ((0 + 1 : Nat) : Int) := h1
    omega
   have M5 := Lib.hid (((M2.out.drewN q).setHere T4 row4 (fun k hk => .inl (by rw [← own4]; exact hk)) (erase_sorted S2) he4 (by omega)))
   have T5 : Hid (Tn (OwnL b hv (.map (some mb))) W1 (w4.setCell ⟨b, 2, none⟩ hv')) := Lib.hid (((T2.out.drewN q).trans (T4.mono fun k hk => .inr (.inl hk))).setCell (p := ⟨b, 2, none⟩) (.inl (.inl rfl)) _)
   have q4 : w4.cell? ⟨b, 2, none⟩ = some hv := B4.cell 2
   have f4 := B4.frozen 2
   have DB5 : Hid (Blk (w4.setCell ⟨b, 2, none⟩ hv') db #[i64 a, i64 r] 106) := Lib.hid (DB4.out.set_ne _ _ (by show db ≠ b; have := HZ.out.1; omega))
   obtain ⟨a4, c4, rfl, -⟩ := row_cell row4
   have HO : Hid (∀ k, (Value.slice a4 (s.here.erase v).length c4).ownBlock = some k → hv.ownBlock = some k) := Lib.hid fun k hk => by rw [← own4]; exact hk
   obtain ⟨n4, hn4⟩ : ∃ n4, n4 = (s.here.erase v).length := ⟨_, rfl⟩
   have HN4 := Lib.hid hn4
   rw [← hn4] at M5 T5 DB5 HO ⊢
   clear B4 he4 row4 T4 own4 hn4 DD q3
   go_wp2_with fail
   obtain ⟨w5, hw5⟩ : ∃ w5, w5 = w4.setCell ⟨b, 2, none⟩ (.slice a4 n4 c4) := ⟨_, rfl⟩
   rw [← hw5] at M5 T5 DB5 ⊢
   clear hw5 q4 f4
   obtain ⟨S, hS⟩ : ∃ S : World → Prop, S = fun W => ∃ n, W = w5.drewN n := ⟨_, rfl⟩
   have LDD : Hid (∀ W, S W → W.cell? ⟨b, 3, none⟩ = some (.map (some mb))) := Lib.hid (by rw [hS]; rintro W ⟨n, rfl⟩; exact M5.out.blk.cell 3)
   have LDB : Hid (∀ W, S W → Blk W db #[i64 a, i64 r] 106) := Lib.hid (by rw [hS]; rintro W ⟨n, rfl⟩; exact DB5.out.drewN n)
   have SS : Hid (∀ W, S W → ∃ n, W = w5.drewN n) := Lib.hid (by rw [hS]; exact fun W h => h)
   have hHeld : S w5.drew := by rw [hS]; exact ⟨1, rfl⟩
   clear hS
   refine wp_region_sp 7 S (by kernel_rfl) (by kernel_rfl) ?_
   simp only [List.take_succ_cons, List.take_zero]
   apply wpAnyH_apart S
   case take =>
    intro R hR
    refine tk 0 (v := ?_) rfl hHeld ?_ ?_; rotate_left
    ·(intro w hSw; have l0 := LDD.out w hSw; go_simp; try (with_reducible rfl))
    try simp only [gZ]
    refine tk 1 (v := ?_) rfl hHeld ?_ ?_; rotate_left
    ·(intro w hSw; have l0 := LDD.out w hSw; go_simp; try (with_reducible rfl))
    try simp only [gZ]
    refine tk 2 (v := ?_) rfl hHeld ?_ ?_; rotate_left
    ·(intro w hSw; have l0 := LDD.out w hSw; go_simp; try (with_reducible rfl))
    try simp only [gZ]
    refine tk 3 (v := ?_) rfl hHeld ?_ ?_; rotate_left
    ·(intro w hSw; have l0 := LDD.out w hSw; go_simp; try (with_reducible rfl))
    try simp only [gZ]
    refine wpAnyH_take (i := 4) (v := .agg #[i64 a, i64 r]) rfl (by kernel_rfl) (by kernel_rfl) (by kernel_rfl) (fun _ _ _ h => only_panic h) ?_ hHeld ?_
    ·exact yields_row (.tmp 4) (by rfl) rfl rfl LDB.out Tryz.underlying106 rfl (by kernel_rfl)
    try simp only [gZ]
    refine tk 5 (v := ?_) rfl hHeld ?_ ?_; rotate_left
    ·(intro w hSw; clear hSw; go_simp; try (with_reducible rfl))
    try simp only [gZ]
    refine tk 6 (v := ?_) rfl hHeld ?_ ?_; rotate_left
    ·(intro w hSw; clear hSw; go_simp; try (with_reducible rfl))
    try simp only [gZ]
    exact wpAnyH_done (by kernel_rfl) ⟨rfl, hR _ hHeld⟩ _
   intro W hW
   obtain ⟨n2, rfl⟩ := SS.out W hW
   clear hHeld hW SS LDD LDB
   have fit2 : ∀ f, FitL f (s.L ++ [⟨a, r, v, 1⟩]) → FitL (updL f (klD a r) (loanD v 3)) (s.L ++ [⟨a, r, v, 2⟩]) := fun f hf => fit_again (st := 1) (st' := 2) hf ha hr hn
   obtain ⟨w6, hrun, hM6, hT6⟩ := (M5.out.drewN n2).put (t := v) (k := 3) (L' := s.L ++ [⟨a, r, v, 2⟩]) hs9 (by omega) ha hr fit2 HID2.out
   have hrun' : (Instr.mapUpdate 59 (.map (some mb)) (.agg #[i64 a, i64 r]) (.agg #[i64 v, i64 3])).run Tryz.prog (w5.drewN n2) = .ok () w6 := hrun
   have FF : Hid (PromE B b s hv (.map (some mb)) a r v w (.returned (.tuple #[])) w6) := Lib.hid (by
    refine ⟨.slice a4 n4 c4, .map (some mb), rfl, ?_, TT.out _ ((T5.out.drewN n2).trans (hT6.mono fun k hk => by rw [hk]; exact .inr (.inr rfl))), fun k hk => ?_⟩
    ·have := hM6.mono (Nat.le_refl 2)
     have e : s.deal a r v = { s with here := s.here.erase v, L := s.L ++ [⟨a, r, v, 2⟩] } := by unfold Len.deal; rw [if_pos hm]
     rw [e]; exact this
    ·rcases hk with h | h | h
     ·exact .inl (.inl h)
     ·exact .inl (.inr (.inl (HO.out k h)))
     ·exact OO.out k h)
   clear hM6 hT6 hrun S
   simp only [endN, List.drop_succ_cons, List.drop_zero, Act.put, List.setIfInBounds_toArray, List.set_cons_zero, List.set_cons_succ]
   go_wp2_with fail
   go_end0
   exact FF.out
  ·rw [decide_eq_false hm, ← hp]
   clear hp
   clear hl2 hl3 R2
   go_wp2_with fail
   go_end0
   refine ⟨hv, .map (some mb), rfl, ?_, TT.out _ (T2.out.drewN q), fun k hk => ?_⟩
   ·have e : s.deal a r v = { s with L := s.L ++ [⟨a, r, v, 1⟩] } := by unfold Len.deal; rw [if_neg hm]
    rw [e]; exact (M2.out.drewN q).mono (by omega)
   ·rcases hk with h | h | h
    ·exact .inl (.inl h)
    ·exact .inl (.inr (.inl h))
    ·exact OO.out k h
end Go.Proofs.YtdojgbpaheadnaaGreat
