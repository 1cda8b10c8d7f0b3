/- The library of the law: a message is delivered. -/
import Derived.Test.YtdojgbpaheadnaaGreatQSW
import Derived.Test.YtdojgbpaheadnaaGreatQPP
set_option linter.unusedVariables false
set_option linter.unusedSimpArgs false

namespace Go.Proofs.YtdojgbpaheadnaaGreat
open Go.RowKit Go.Shelf Go.Maps Go.ChangeMaps
attribute [local go_sem] over_cell over_frozen

theorem Lb.del_W (s : Lb) (m : Msg) : (s.del m).W = s.W ++ s.delMs m := by
 unfold Lb.del Lb.delMs
 repeat' split
 ·rfl
 ·show (s.W ++ _) ++ _ = _; rw [List.append_assoc]; rfl
 ·rfl
 ·rfl
 ·rfl
 ·simp
theorem KS.del {init : Int → List Int} {s : Lb} (h : KS init s) {m : Msg} (hm : m ∈ s.W) : KS init (s.del m) := by
 unfold Lb.del
 repeat' split
 ·exact h.takeB hm
 ·exact (h.takeA (.inl rfl) hm).takeL (.inr (.inr rfl)) (List.mem_append_left _ hm)
 ·exact h.takeA (.inr rfl) hm
 ·exact h.takeL (.inl rfl) hm
 ·exact h.takeL (.inr (.inl rfl)) hm
 ·exact h
theorem vm_len {s : Lb} {m : Msg} (h : Vm s m) : m.text.length ≤ 1000000 := by
 obtain ⟨k, a, r, v, hd, -⟩ := h
 obtain ⟨hq, e⟩ := dec_some.1 hd
 rw [e]
 exact Nat.le_trans (txt_short hq) (by omega)
theorem takeA_len (x : Asr) (m : Msg) : (x.take m).2.length ≤ 1 := by
 cases hd : dec m.text with
 | none => unfold Asr.take; rw [hd]; simp
 | some t =>
  obtain ⟨k, a, r, v⟩ := t
  rcases takeA_out x m hd with ⟨e, -⟩ | ⟨-, -, q, p, st, z, hq, hs, hp, -, e⟩
  ·rw [e]; simp
  ·rw [e]; exact tellA_len _ _ _
theorem takeB_len (x : Brk) (m : Msg) : (x.take m).2.length ≤ 1 := by
 cases hd : dec m.text with
 | none => unfold Brk.take; rw [hd]; simp
 | some t =>
  obtain ⟨k, a, r, v⟩ := t
  rcases takeB_out x m hd with ⟨e, -⟩ | ⟨-, -, -, -, e⟩ | ⟨c, -, -, -, -, -, e⟩ | ⟨c, -, -, -, -, -, e⟩ | ⟨c, -, -, -, -, -, e⟩ <;> rw [e] <;> simp [Brk.tell]
theorem takeL_len (x : Len) (m : Msg) : (x.take m).2.length ≤ 1 := by
 unfold Len.take
 cases hd : dec m.text with
 | none => simp
 | some t =>
  obtain ⟨k, a, r, v⟩ := t
  dsimp only
  repeat' split
  all_goals simp [Len.send]
theorem KS.hereL {init : Int → List Int} {s : Lb} (h : KS init s) (hi : ∀ L, (init L).length ≤ 20000) {L : Int} (hL : IsL L) : (s.ls L).here.length ≤ 20000 := by
 have := (h.li L hL).cons.length_eq
 rw [List.length_append] at this
 have := hi L
 omega
set_option maxRecDepth 100000 in
set_option maxHeartbeats 40000000 in
theorem deliver_any {g : Lg} {Z : Nat → Nat → Prop} {w : World} {N : Nat} {S : List Tr} {P : List Pc} {sent : Nat} {s : Lb} {init : Int → List Int} (h : LibM g Z w N S P sent s) (hk : KS init s) (hi : ∀ L, (init L).length ≤ 20000) (m : Msg) (hm : m ∈ s.W) (hN : N < 80000) (hl : P.length ≤ 600000) (hs : sent ≤ 800000) :
  Calls Tryz.prog 44 #[.pointer (some ⟨g.xb, 0, none⟩), .agg (encM m)] w fun e w' => e = .returned (.tuple #[]) ∧ ∃ P', SentL 5 S sent (s.delMs m) P P' ∧ Nx g Z w w' fun Z' => LibM g Z' w' (N + 2) S P' (sent + (s.delMs m).length) (s.del m) := by
 have HT := Lib.hid (vm_len (hk.gi.mv m hm))
 have HI : Hid (∀ L, IsL L → (s.ls L).here.length ≤ 21000) := Lib.hid fun L hL => by have := hk.hereL hi hL; omega
 obtain ⟨w0, hw0⟩ : ∃ w0, w0 = w.alloc (.cells (encM m) 31) := ⟨_, rfl⟩
 have V0 : Hid (Blk w0 w.heap.size (encM m) 31) := Lib.hid (by rw [hw0]; exact Blk.new _ _ _)
 have hB : Below w.heap.size w w0 := by rw [hw0]; exact (Below.refl _ _).alloc (Nat.le_refl _) _
 obtain ⟨Z0, hZ0⟩ : ∃ Z0 : Nat → Nat → Prop, Z0 = fun i k => Z i k ∨ (w.heap.size ≤ k ∧ k < w0.heap.size) := ⟨_, rfl⟩
 have L0 : Hid (LibM g Z0 w0 (N + 0) S P sent s) := Lib.hid (hZ0 ▸ h.up hB)
 have ZM0 : Hid (∀ i, Z0 i w.heap.size) := Lib.hid fun i => by rw [hZ0]; exact .inr ⟨Nat.le_refl _, V0.out.lt⟩
 have ZZ0 : Hid (∀ i k, Z i k → Z0 i k) := Lib.hid fun i k hk => by rw [hZ0]; exact .inl hk
 have T0 : Hid (Tn (g.F Z) w w0) := Lib.hid (Tn.of_below hB)
 have M0 : Hid (P.length ≤ 600000) := Lib.hid hl
 have Q0 : Hid (sent ≤ 800000) := Lib.hid hs
 have t1 : (w.alloc (.cells (encM m) 31)).cell? ⟨w.heap.size, 1, none⟩ = some (i64 m.to) := (Blk.new w (encM m) 31).cell 1
 have HW0 := Lib.hid hw0
 clear h hk hi hm hl hZ0 hB hw0
 by_cases h0 : m.to = 0
 ·have e1 : s.del m = s.takeB m := by unfold Lb.del; rw [if_pos h0]
  have e2 : s.delMs m = (s.b.take m).2 := by unfold Lb.delMs; rw [if_pos h0]
  rw [e1, e2]
  rw [h0] at t1
  go_enter Tryz.func44, Tryz.ntmps44
  go_wp2_with fail
  rw [← HW0.out]
  clear t1
  have hS1 : ∃ S' : World → Prop, S' = fun W => LibC g W ∧ Blk W w.heap.size (encM m) 31 := ⟨_, rfl⟩
  obtain ⟨S', hS'⟩ := hS1
  have LDD : Hid (∀ W, S' W → LibC g W ∧ Blk W w.heap.size (encM m) 31) := Lib.hid (by rw [hS']; exact fun W h => h)
  have UU : Hid (∀ W, LibC g W → Blk W w.heap.size (encM m) 31 → S' W) := Lib.hid (by rw [hS']; exact fun W a b => ⟨a, b⟩)
  have Ld := Lib.hid (L0.out.up' (w' := w0.drew) (bdrewN (Below.refl _ _) 1))
  have Vd : Hid (Blk w0.drew w.heap.size (encM m) 31) := Lib.hid V0.out
  have hHeld := UU.out w0.drew Ld.out.cells Vd.out
  clear hS'
  refine wp_region_held_drew (S := S') (by kernel_rfl) hHeld (fun _ => ?_)
  apply wpAnyH_apartV (fun (v : Value) W => ∃ (P2 : List Pc) (Z2 : Nat → Nat → Prop), SentL 5 S (sent) ((s.b.take m).2) P P2 ∧ LibM g Z2 W (N + 0 + 1) S P2 (sent + ((s.b.take m).2).length) (s.takeB m) ∧ (∀ i k, Z0 i k → Z2 i k) ∧ Tn (g.F Z0) w0 W)
  case take =>
   intro R hR
   refine tk 0 (v := ?_) rfl hHeld ?_ ?_; rotate_left
   ·(intro w hSw; (obtain ⟨C, V⟩ := LDD.out w hSw; have x0 := C.x0; have x1 := C.x1; have x2 := C.x2; have a0 := C.a0; have a1 := C.a1; have l0 := C.l0; have l1 := C.l1; have l2 := C.l2; have t1 := V.cell 1; skip; clear C); go_simp; try (with_reducible rfl))
   try simp only [gZ]
   refine tk 1 (v := ?_) rfl hHeld ?_ ?_; rotate_left
   ·(intro w hSw; (obtain ⟨C, V⟩ := LDD.out w hSw; have x0 := C.x0; have x1 := C.x1; have x2 := C.x2; have a0 := C.a0; have a1 := C.a1; have l0 := C.l0; have l1 := C.l1; have l2 := C.l2; have t1 := V.cell 1; skip; clear C); go_simp; try (with_reducible rfl))
   try simp only [gZ]
   refine tk 2 (v := ?_) rfl hHeld ?_ ?_; rotate_left
   ·(intro w hSw; (obtain ⟨C, V⟩ := LDD.out w hSw; have x0 := C.x0; have x1 := C.x1; have x2 := C.x2; have a0 := C.a0; have a1 := C.a1; have l0 := C.l0; have l1 := C.l1; have l2 := C.l2; have t1 := V.cell 1; skip; clear C); go_simp; try (with_reducible rfl))
   try simp only [gZ]
   refine tk 3 (v := ?_) rfl hHeld ?_ ?_; rotate_left
   ·(intro w hSw; (obtain ⟨C, V⟩ := LDD.out w hSw; have x0 := C.x0; have x1 := C.x1; have x2 := C.x2; have a0 := C.a0; have a1 := C.a1; have l0 := C.l0; have l1 := C.l1; have l2 := C.l2; have t1 := V.cell 1; skip; clear C); go_simp; try (with_reducible rfl))
   try simp only [gZ]
   refine tk 4 (v := ?_) rfl hHeld ?_ ?_; rotate_left
   ·(intro w hSw; (obtain ⟨C, V⟩ := LDD.out w hSw; have x0 := C.x0; have x1 := C.x1; have x2 := C.x2; have a0 := C.a0; have a1 := C.a1; have l0 := C.l0; have l1 := C.l1; have l2 := C.l2; have t1 := V.cell 1; skip; clear C); go_simp; try (with_reducible rfl))
   try simp only [gZ]
   refine wpAnyH_take (i := 5) (v := .agg (encM m)) rfl (by kernel_rfl) (by kernel_rfl) (by kernel_rfl) (fun _ _ _ h => only_panic h) ?_ hHeld ?_
   ·exact yields_row (.tmp 3) (by rfl) rfl rfl (fun W h => (LDD.out W h).2) Tryz.underlying31 rfl (by kernel_rfl)
   try simp only [gZ]
   refine wpAnyH_one (i := 6) rfl (by kernel_rfl) (by rfl) ?_
   go_simp
   refine (Ld.out.btake m (by omega) HT.out).mono ?_
   rintro e W2 ⟨v2, rfl, Z2, hz2, ht2, hl2, hr2⟩
   have V2 : Blk W2 w.heap.size (encM m) 31 := ht2.blk Vd.out fun e => e.2 (ZM0.out)
   refine ⟨UU.out W2 hl2.cells V2, ?_⟩
   have hHeld := UU.out W2 hl2.cells V2
   refine wpAnyH_one (i := 7) rfl (by kernel_rfl) (by rfl) ?_
   go_simp
   refine (hl2.send hr2.1 hr2.2 (by have := M0.out; omega) (by have := takeB_len s.b m; omega) (by have := Q0.out; omega)).mono ?_
   rintro e W3 ⟨rfl, P3, hp3, Z3, hz3, ht3, hl3⟩
   have V3 : Blk W3 w.heap.size (encM m) 31 := ht3.blk V2 fun e => e.2 fun i => hz2 i _ (ZM0.out i)
   refine ⟨UU.out W3 hl3.cells V3, ?_⟩
   exact wpAnyH_done (by kernel_rfl) ⟨rfl, hR v2 W3 ⟨P3, Z3, hp3, hl3, fun i k hk => hz3 i k (hz2 i k hk), ((Tn.refl _ _).drewN 1).trans (ht2.trans (ht3.mono fun k hk => Lg.F.mono hz2 hk))⟩⟩ _
  case rest =>
   rintro v w1 ⟨P1, Z1, h1, h2, h3, h4⟩
   have V1 : Hid (Blk w1 w.heap.size (encM m) 31) := Lib.hid (h4.blk V0.out fun e => e.2 ZM0.out)
   have ZM1 : Hid (∀ i, Z1 i w.heap.size) := Lib.hid fun i => h3 i _ (ZM0.out i)
   have T1 : Hid (Tn (g.F Z) w w1) := Lib.hid (T0.out.trans (h4.mono fun k hk => Lg.F.mono ZZ0.out hk))
   have ZZ1 : Hid (∀ i k, Z i k → Z1 i k) := Lib.hid fun i k hk => h3 i k (ZZ0.out i k hk)
   have S1 := Lib.hid h1
   have L1 := Lib.hid h2
   clear h1 h2 h3 h4
   go_wp2_with fail
   refine bodyPost_end (results_none rfl _ _ _) rfl ?_
   exact ⟨rfl, P1, S1.out, Z1, ZZ1.out, T1.out, L1.out.more (by omega)⟩
 by_cases h1 : m.to = 1
 ·have e1 : s.del m = (s.takeA 1 m).takeL 1 m := by unfold Lb.del; rw [if_neg h0, if_pos h1]
  have e2 : s.delMs m = ((s.as 1).take m).2 ++ ((s.ls 1).take m).2 := by unfold Lb.delMs; rw [if_neg h0, if_pos h1]
  rw [e1, e2]
  rw [h1] at t1
  go_enter Tryz.func44, Tryz.ntmps44
  go_wp2_with fail
  rw [← HW0.out]
  clear t1
  have hS1 : ∃ S' : World → Prop, S' = fun W => LibC g W ∧ Blk W w.heap.size (encM m) 31 := ⟨_, rfl⟩
  obtain ⟨S', hS'⟩ := hS1
  have LDD : Hid (∀ W, S' W → LibC g W ∧ Blk W w.heap.size (encM m) 31) := Lib.hid (by rw [hS']; exact fun W h => h)
  have UU : Hid (∀ W, LibC g W → Blk W w.heap.size (encM m) 31 → S' W) := Lib.hid (by rw [hS']; exact fun W a b => ⟨a, b⟩)
  have Ld := Lib.hid (L0.out.up' (w' := w0.drew) (bdrewN (Below.refl _ _) 1))
  have Vd : Hid (Blk w0.drew w.heap.size (encM m) 31) := Lib.hid V0.out
  have hHeld := UU.out w0.drew Ld.out.cells Vd.out
  clear hS'
  refine wp_region_held_drew (S := S') (by kernel_rfl) hHeld (fun _ => ?_)
  apply wpAnyH_apartV (fun (v : Value) W => ∃ (P2 : List Pc) (Z2 : Nat → Nat → Prop), SentL 5 S (sent) (((s.as 1).take m).2) P P2 ∧ LibM g Z2 W (N + 0 + 1) S P2 (sent + (((s.as 1).take m).2).length) (s.takeA 1 m) ∧ (∀ i k, Z0 i k → Z2 i k) ∧ Tn (g.F Z0) w0 W)
  case take =>
   intro R hR
   refine tk 0 (v := ?_) rfl hHeld ?_ ?_; rotate_left
   ·(intro w hSw; (obtain ⟨C, V⟩ := LDD.out w hSw; have x0 := C.x0; have x1 := C.x1; have x2 := C.x2; have a0 := C.a0; have a1 := C.a1; have l0 := C.l0; have l1 := C.l1; have l2 := C.l2; have t1 := V.cell 1; skip; clear C); go_simp; try (with_reducible rfl))
   try simp only [gZ]
   refine tk 1 (v := ?_) rfl hHeld ?_ ?_; rotate_left
   ·(intro w hSw; (obtain ⟨C, V⟩ := LDD.out w hSw; have x0 := C.x0; have x1 := C.x1; have x2 := C.x2; have a0 := C.a0; have a1 := C.a1; have l0 := C.l0; have l1 := C.l1; have l2 := C.l2; have t1 := V.cell 1; skip; clear C); go_simp; try (with_reducible rfl))
   try simp only [gZ]
   refine tk 2 (v := ?_) rfl hHeld ?_ ?_; rotate_left
   ·(intro w hSw; (obtain ⟨C, V⟩ := LDD.out w hSw; have x0 := C.x0; have x1 := C.x1; have x2 := C.x2; have a0 := C.a0; have a1 := C.a1; have l0 := C.l0; have l1 := C.l1; have l2 := C.l2; have t1 := V.cell 1; skip; clear C); go_simp; try (with_reducible rfl))
   try simp only [gZ]
   refine tk 3 (v := ?_) rfl hHeld ?_ ?_; rotate_left
   ·(intro w hSw; (obtain ⟨C, V⟩ := LDD.out w hSw; have x0 := C.x0; have x1 := C.x1; have x2 := C.x2; have a0 := C.a0; have a1 := C.a1; have l0 := C.l0; have l1 := C.l1; have l2 := C.l2; have t1 := V.cell 1; skip; clear C); go_simp; try (with_reducible rfl))
   try simp only [gZ]
   refine tk 4 (v := ?_) rfl hHeld ?_ ?_; rotate_left
   ·(intro w hSw; (obtain ⟨C, V⟩ := LDD.out w hSw; have x0 := C.x0; have x1 := C.x1; have x2 := C.x2; have a0 := C.a0; have a1 := C.a1; have l0 := C.l0; have l1 := C.l1; have l2 := C.l2; have t1 := V.cell 1; skip; clear C); go_simp; try (with_reducible rfl))
   try simp only [gZ]
   refine tk 5 (v := ?_) rfl hHeld ?_ ?_; rotate_left
   ·(intro w hSw; (obtain ⟨C, V⟩ := LDD.out w hSw; have x0 := C.x0; have x1 := C.x1; have x2 := C.x2; have a0 := C.a0; have a1 := C.a1; have l0 := C.l0; have l1 := C.l1; have l2 := C.l2; have t1 := V.cell 1; skip; clear C); go_simp; try (with_reducible rfl))
   try simp only [gZ]
   refine tk 6 (v := ?_) rfl hHeld ?_ ?_; rotate_left
   ·(intro w hSw; (obtain ⟨C, V⟩ := LDD.out w hSw; have x0 := C.x0; have x1 := C.x1; have x2 := C.x2; have a0 := C.a0; have a1 := C.a1; have l0 := C.l0; have l1 := C.l1; have l2 := C.l2; have t1 := V.cell 1; skip; clear C); go_simp; try (with_reducible rfl))
   try simp only [gZ]
   refine wpAnyH_take (i := 7) (v := .agg (encM m)) rfl (by kernel_rfl) (by kernel_rfl) (by kernel_rfl) (fun _ _ _ h => only_panic h) ?_ hHeld ?_
   ·exact yields_row (.tmp 3) (by rfl) rfl rfl (fun W h => (LDD.out W h).2) Tryz.underlying31 rfl (by kernel_rfl)
   try simp only [gZ]
   refine wpAnyH_one (i := 8) rfl (by kernel_rfl) (by rfl) ?_
   go_simp
   refine (LibM.atake (a := 1) (.inl rfl) Ld.out m (by omega) HT.out).mono ?_
   rintro e W2 ⟨v2, rfl, Z2, hz2, ht2, hl2, hr2⟩
   have V2 : Blk W2 w.heap.size (encM m) 31 := ht2.blk Vd.out fun e => e.2 (ZM0.out)
   refine ⟨UU.out W2 hl2.cells V2, ?_⟩
   have hHeld := UU.out W2 hl2.cells V2
   refine wpAnyH_one (i := 9) rfl (by kernel_rfl) (by rfl) ?_
   go_simp
   refine (hl2.send hr2.1 hr2.2 (by have := M0.out; omega) (by have := takeA_len (s.as 1) m; omega) (by have := Q0.out; omega)).mono ?_
   rintro e W3 ⟨rfl, P3, hp3, Z3, hz3, ht3, hl3⟩
   have V3 : Blk W3 w.heap.size (encM m) 31 := ht3.blk V2 fun e => e.2 fun i => hz2 i _ (ZM0.out i)
   refine ⟨UU.out W3 hl3.cells V3, ?_⟩
   exact wpAnyH_done (by kernel_rfl) ⟨rfl, hR v2 W3 ⟨P3, Z3, hp3, hl3, fun i k hk => hz3 i k (hz2 i k hk), ((Tn.refl _ _).drewN 1).trans (ht2.trans (ht3.mono fun k hk => Lg.F.mono hz2 hk))⟩⟩ _
  case rest =>
   rintro v w1 ⟨P1, Z1, h1, h2, h3, h4⟩
   have V1 : Hid (Blk w1 w.heap.size (encM m) 31) := Lib.hid (h4.blk V0.out fun e => e.2 ZM0.out)
   have ZM1 : Hid (∀ i, Z1 i w.heap.size) := Lib.hid fun i => h3 i _ (ZM0.out i)
   have T1 : Hid (Tn (g.F Z) w w1) := Lib.hid (T0.out.trans (h4.mono fun k hk => Lg.F.mono ZZ0.out hk))
   have ZZ1 : Hid (∀ i k, Z i k → Z1 i k) := Lib.hid fun i k hk => h3 i k (ZZ0.out i k hk)
   have S1 := Lib.hid h1
   have L1 := Lib.hid h2
   clear h1 h2 h3 h4
   go_wp2_with fail
   have M1 : Hid (P1.length ≤ 600100) := Lib.hid (by have := S1.out.len; have := M0.out; have := takeA_len (s.as 1) m; omega)
   have Q1 : Hid (sent + ((s.as 1).take m).2.length ≤ 800100) := Lib.hid (by have := Q0.out; have := takeA_len (s.as 1) m; omega)
   clear Ld Vd UU LDD hHeld
   have hS1 : ∃ S' : World → Prop, S' = fun W => LibC g W ∧ Blk W w.heap.size (encM m) 31 := ⟨_, rfl⟩
   obtain ⟨S', hS'⟩ := hS1
   have LDD : Hid (∀ W, S' W → LibC g W ∧ Blk W w.heap.size (encM m) 31) := Lib.hid (by rw [hS']; exact fun W h => h)
   have UU : Hid (∀ W, LibC g W → Blk W w.heap.size (encM m) 31 → S' W) := Lib.hid (by rw [hS']; exact fun W a b => ⟨a, b⟩)
   have Ld := Lib.hid (L1.out.up' (w' := w1.drew) (bdrewN (Below.refl _ _) 1))
   have Vd : Hid (Blk w1.drew w.heap.size (encM m) 31) := Lib.hid V1.out
   have hHeld := UU.out w1.drew Ld.out.cells Vd.out
   clear hS'
   refine wp_region_held_drew (S := S') (by kernel_rfl) hHeld (fun _ => ?_)
   apply wpAnyH_apartV (fun (v : Value) W => ∃ (P2 : List Pc) (Z2 : Nat → Nat → Prop), SentL 5 S (sent + ((s.as 1).take m).2.length) (((s.ls 1).take m).2) P1 P2 ∧ LibM g Z2 W (N + 1 + 1) S P2 (sent + ((s.as 1).take m).2.length + (((s.ls 1).take m).2).length) ((s.takeA 1 m).takeL 1 m) ∧ (∀ i k, Z1 i k → Z2 i k) ∧ Tn (g.F Z1) w1 W)
   case take =>
    intro R hR
    refine tk 0 (v := ?_) rfl hHeld ?_ ?_; rotate_left
    ·(intro w hSw; (obtain ⟨C, V⟩ := LDD.out w hSw; have x0 := C.x0; have x1 := C.x1; have x2 := C.x2; have a0 := C.a0; have a1 := C.a1; have l0 := C.l0; have l1 := C.l1; have l2 := C.l2; have t1 := V.cell 1; skip; clear C); go_simp; try (with_reducible rfl))
    try simp only [gZ]
    refine tk 1 (v := ?_) rfl hHeld ?_ ?_; rotate_left
    ·(intro w hSw; (obtain ⟨C, V⟩ := LDD.out w hSw; have x0 := C.x0; have x1 := C.x1; have x2 := C.x2; have a0 := C.a0; have a1 := C.a1; have l0 := C.l0; have l1 := C.l1; have l2 := C.l2; have t1 := V.cell 1; skip; clear C); go_simp; try (with_reducible rfl))
    try simp only [gZ]
    refine tk 2 (v := ?_) rfl hHeld ?_ ?_; rotate_left
    ·(intro w hSw; (obtain ⟨C, V⟩ := LDD.out w hSw; have x0 := C.x0; have x1 := C.x1; have x2 := C.x2; have a0 := C.a0; have a1 := C.a1; have l0 := C.l0; have l1 := C.l1; have l2 := C.l2; have t1 := V.cell 1; skip; clear C); go_simp; try (with_reducible rfl))
    try simp only [gZ]
    refine tk 3 (v := ?_) rfl hHeld ?_ ?_; rotate_left
    ·(intro w hSw; (obtain ⟨C, V⟩ := LDD.out w hSw; have x0 := C.x0; have x1 := C.x1; have x2 := C.x2; have a0 := C.a0; have a1 := C.a1; have l0 := C.l0; have l1 := C.l1; have l2 := C.l2; have t1 := V.cell 1; skip; clear C); go_simp; try (with_reducible rfl))
    try simp only [gZ]
    refine tk 4 (v := ?_) rfl hHeld ?_ ?_; rotate_left
    ·(intro w hSw; (obtain ⟨C, V⟩ := LDD.out w hSw; have x0 := C.x0; have x1 := C.x1; have x2 := C.x2; have a0 := C.a0; have a1 := C.a1; have l0 := C.l0; have l1 := C.l1; have l2 := C.l2; have t1 := V.cell 1; skip; clear C); go_simp; try (with_reducible rfl))
    try simp only [gZ]
    refine tk 5 (v := ?_) rfl hHeld ?_ ?_; rotate_left
    ·(intro w hSw; (obtain ⟨C, V⟩ := LDD.out w hSw; have x0 := C.x0; have x1 := C.x1; have x2 := C.x2; have a0 := C.a0; have a1 := C.a1; have l0 := C.l0; have l1 := C.l1; have l2 := C.l2; have t1 := V.cell 1; skip; clear C); go_simp; try (with_reducible rfl))
    try simp only [gZ]
    refine tk 6 (v := ?_) rfl hHeld ?_ ?_; rotate_left
    ·(intro w hSw; (obtain ⟨C, V⟩ := LDD.out w hSw; have x0 := C.x0; have x1 := C.x1; have x2 := C.x2; have a0 := C.a0; have a1 := C.a1; have l0 := C.l0; have l1 := C.l1; have l2 := C.l2; have t1 := V.cell 1; skip; clear C); go_simp; try (with_reducible rfl))
    try simp only [gZ]
    refine wpAnyH_take (i := 7) (v := .agg (encM m)) rfl (by kernel_rfl) (by kernel_rfl) (by kernel_rfl) (fun _ _ _ h => only_panic h) ?_ hHeld ?_
    ·exact yields_row (.tmp 3) (by rfl) rfl rfl (fun W h => (LDD.out W h).2) Tryz.underlying31 rfl (by kernel_rfl)
    try simp only [gZ]
    refine wpAnyH_one (i := 8) rfl (by kernel_rfl) (by rfl) ?_
    go_simp
    refine (LibM.ltake (L := 1) (.inr (.inr rfl)) Ld.out m (by omega) (HI.out 1 (.inr (.inr rfl))) HT.out).mono ?_
    rintro e W2 ⟨v2, rfl, Z2, hz2, ht2, hl2, hr2⟩
    have V2 : Blk W2 w.heap.size (encM m) 31 := ht2.blk Vd.out fun e => e.2 (ZM1.out)
    refine ⟨UU.out W2 hl2.cells V2, ?_⟩
    have hHeld := UU.out W2 hl2.cells V2
    refine wpAnyH_one (i := 9) rfl (by kernel_rfl) (by rfl) ?_
    go_simp
    refine (hl2.send hr2.1 hr2.2 (by have := M1.out; omega) (by have := takeL_len ((s.takeA 1 m).ls 1) m; omega) (by have := Q1.out; omega)).mono ?_
    rintro e W3 ⟨rfl, P3, hp3, Z3, hz3, ht3, hl3⟩
    have V3 : Blk W3 w.heap.size (encM m) 31 := ht3.blk V2 fun e => e.2 fun i => hz2 i _ (ZM1.out i)
    refine ⟨UU.out W3 hl3.cells V3, ?_⟩
    exact wpAnyH_done (by kernel_rfl) ⟨rfl, hR v2 W3 ⟨P3, Z3, hp3, hl3, fun i k hk => hz3 i k (hz2 i k hk), ((Tn.refl _ _).drewN 1).trans (ht2.trans (ht3.mono fun k hk => Lg.F.mono hz2 hk))⟩⟩ _
   case rest =>
    rintro v w2 ⟨P2, Z2, h1, h2, h3, h4⟩
    have V2 : Hid (Blk w2 w.heap.size (encM m) 31) := Lib.hid (h4.blk V1.out fun e => e.2 ZM1.out)
    have ZM2 : Hid (∀ i, Z2 i w.heap.size) := Lib.hid fun i => h3 i _ (ZM1.out i)
    have T2 : Hid (Tn (g.F Z) w w2) := Lib.hid (T1.out.trans (h4.mono fun k hk => Lg.F.mono ZZ1.out hk))
    have ZZ2 : Hid (∀ i k, Z i k → Z2 i k) := Lib.hid fun i k hk => h3 i k (ZZ1.out i k hk)
    have S2 := Lib.hid h1
    have L2 := Lib.hid h2
    clear h1 h2 h3 h4
    go_wp2_with fail
    refine bodyPost_end (results_none rfl _ _ _) rfl ?_
    exact ⟨rfl, P2, S1.out.app S2.out, Z2, ZZ2.out, T2.out, by rw [List.length_append, ← Nat.add_assoc]; exact L2.out.more (by omega)⟩
 by_cases h2 : m.to = 2
 ·have e1 : s.del m = s.takeA 2 m := by unfold Lb.del; rw [if_neg h0, if_neg h1, if_pos h2]
  have e2 : s.delMs m = ((s.as 2).take m).2 := by unfold Lb.delMs; rw [if_neg h0, if_neg h1, if_pos h2]
  rw [e1, e2]
  rw [h2] at t1
  go_enter Tryz.func44, Tryz.ntmps44
  go_wp2_with fail
  rw [← HW0.out]
  clear t1
  have hS1 : ∃ S' : World → Prop, S' = fun W => LibC g W ∧ Blk W w.heap.size (encM m) 31 := ⟨_, rfl⟩
  obtain ⟨S', hS'⟩ := hS1
  have LDD : Hid (∀ W, S' W → LibC g W ∧ Blk W w.heap.size (encM m) 31) := Lib.hid (by rw [hS']; exact fun W h => h)
  have UU : Hid (∀ W, LibC g W → Blk W w.heap.size (encM m) 31 → S' W) := Lib.hid (by rw [hS']; exact fun W a b => ⟨a, b⟩)
  have Ld := Lib.hid (L0.out.up' (w' := w0.drew) (bdrewN (Below.refl _ _) 1))
  have Vd : Hid (Blk w0.drew w.heap.size (encM m) 31) := Lib.hid V0.out
  have hHeld := UU.out w0.drew Ld.out.cells Vd.out
  clear hS'
  refine wp_region_held_drew (S := S') (by kernel_rfl) hHeld (fun _ => ?_)
  apply wpAnyH_apartV (fun (v : Value) W => ∃ (P2 : List Pc) (Z2 : Nat → Nat → Prop), SentL 5 S (sent) (((s.as 2).take m).2) P P2 ∧ LibM g Z2 W (N + 0 + 1) S P2 (sent + (((s.as 2).take m).2).length) (s.takeA 2 m) ∧ (∀ i k, Z0 i k → Z2 i k) ∧ Tn (g.F Z0) w0 W)
  case take =>
   intro R hR
   refine tk 0 (v := ?_) rfl hHeld ?_ ?_; rotate_left
   ·(intro w hSw; (obtain ⟨C, V⟩ := LDD.out w hSw; have x0 := C.x0; have x1 := C.x1; have x2 := C.x2; have a0 := C.a0; have a1 := C.a1; have l0 := C.l0; have l1 := C.l1; have l2 := C.l2; have t1 := V.cell 1; skip; clear C); go_simp; try (with_reducible rfl))
   try simp only [gZ]
   refine tk 1 (v := ?_) rfl hHeld ?_ ?_; rotate_left
   ·(intro w hSw; (obtain ⟨C, V⟩ := LDD.out w hSw; have x0 := C.x0; have x1 := C.x1; have x2 := C.x2; have a0 := C.a0; have a1 := C.a1; have l0 := C.l0; have l1 := C.l1; have l2 := C.l2; have t1 := V.cell 1; skip; clear C); go_simp; try (with_reducible rfl))
   try simp only [gZ]
   refine tk 2 (v := ?_) rfl hHeld ?_ ?_; rotate_left
   ·(intro w hSw; (obtain ⟨C, V⟩ := LDD.out w hSw; have x0 := C.x0; have x1 := C.x1; have x2 := C.x2; have a0 := C.a0; have a1 := C.a1; have l0 := C.l0; have l1 := C.l1; have l2 := C.l2; have t1 := V.cell 1; skip; clear C); go_simp; try (with_reducible rfl))
   try simp only [gZ]
   refine tk 3 (v := ?_) rfl hHeld ?_ ?_; rotate_left
   ·(intro w hSw; (obtain ⟨C, V⟩ := LDD.out w hSw; have x0 := C.x0; have x1 := C.x1; have x2 := C.x2; have a0 := C.a0; have a1 := C.a1; have l0 := C.l0; have l1 := C.l1; have l2 := C.l2; have t1 := V.cell 1; skip; clear C); go_simp; try (with_reducible rfl))
   try simp only [gZ]
   refine tk 4 (v := ?_) rfl hHeld ?_ ?_; rotate_left
   ·(intro w hSw; (obtain ⟨C, V⟩ := LDD.out w hSw; have x0 := C.x0; have x1 := C.x1; have x2 := C.x2; have a0 := C.a0; have a1 := C.a1; have l0 := C.l0; have l1 := C.l1; have l2 := C.l2; have t1 := V.cell 1; skip; clear C); go_simp; try (with_reducible rfl))
   try simp only [gZ]
   refine tk 5 (v := ?_) rfl hHeld ?_ ?_; rotate_left
   ·(intro w hSw; (obtain ⟨C, V⟩ := LDD.out w hSw; have x0 := C.x0; have x1 := C.x1; have x2 := C.x2; have a0 := C.a0; have a1 := C.a1; have l0 := C.l0; have l1 := C.l1; have l2 := C.l2; have t1 := V.cell 1; skip; clear C); go_simp; try (with_reducible rfl))
   try simp only [gZ]
   refine tk 6 (v := ?_) rfl hHeld ?_ ?_; rotate_left
   ·(intro w hSw; (obtain ⟨C, V⟩ := LDD.out w hSw; have x0 := C.x0; have x1 := C.x1; have x2 := C.x2; have a0 := C.a0; have a1 := C.a1; have l0 := C.l0; have l1 := C.l1; have l2 := C.l2; have t1 := V.cell 1; skip; clear C); go_simp; try (with_reducible rfl))
   try simp only [gZ]
   refine wpAnyH_take (i := 7) (v := .agg (encM m)) rfl (by kernel_rfl) (by kernel_rfl) (by kernel_rfl) (fun _ _ _ h => only_panic h) ?_ hHeld ?_
   ·exact yields_row (.tmp 3) (by rfl) rfl rfl (fun W h => (LDD.out W h).2) Tryz.underlying31 rfl (by kernel_rfl)
   try simp only [gZ]
   refine wpAnyH_one (i := 8) rfl (by kernel_rfl) (by rfl) ?_
   go_simp
   refine (LibM.atake (a := 2) (.inr rfl) Ld.out m (by omega) HT.out).mono ?_
   rintro e W2 ⟨v2, rfl, Z2, hz2, ht2, hl2, hr2⟩
   have V2 : Blk W2 w.heap.size (encM m) 31 := ht2.blk Vd.out fun e => e.2 (ZM0.out)
   refine ⟨UU.out W2 hl2.cells V2, ?_⟩
   have hHeld := UU.out W2 hl2.cells V2
   refine wpAnyH_one (i := 9) rfl (by kernel_rfl) (by rfl) ?_
   go_simp
   refine (hl2.send hr2.1 hr2.2 (by have := M0.out; omega) (by have := takeA_len (s.as 2) m; omega) (by have := Q0.out; omega)).mono ?_
   rintro e W3 ⟨rfl, P3, hp3, Z3, hz3, ht3, hl3⟩
   have V3 : Blk W3 w.heap.size (encM m) 31 := ht3.blk V2 fun e => e.2 fun i => hz2 i _ (ZM0.out i)
   refine ⟨UU.out W3 hl3.cells V3, ?_⟩
   exact wpAnyH_done (by kernel_rfl) ⟨rfl, hR v2 W3 ⟨P3, Z3, hp3, hl3, fun i k hk => hz3 i k (hz2 i k hk), ((Tn.refl _ _).drewN 1).trans (ht2.trans (ht3.mono fun k hk => Lg.F.mono hz2 hk))⟩⟩ _
  case rest =>
   rintro v w1 ⟨P1, Z1, h1, h2, h3, h4⟩
   have V1 : Hid (Blk w1 w.heap.size (encM m) 31) := Lib.hid (h4.blk V0.out fun e => e.2 ZM0.out)
   have ZM1 : Hid (∀ i, Z1 i w.heap.size) := Lib.hid fun i => h3 i _ (ZM0.out i)
   have T1 : Hid (Tn (g.F Z) w w1) := Lib.hid (T0.out.trans (h4.mono fun k hk => Lg.F.mono ZZ0.out hk))
   have ZZ1 : Hid (∀ i k, Z i k → Z1 i k) := Lib.hid fun i k hk => h3 i k (ZZ0.out i k hk)
   have S1 := Lib.hid h1
   have L1 := Lib.hid h2
   clear h1 h2 h3 h4
   go_wp2_with fail
   refine bodyPost_end (results_none rfl _ _ _) rfl ?_
   exact ⟨rfl, P1, S1.out, Z1, ZZ1.out, T1.out, L1.out.more (by omega)⟩
 by_cases h3 : m.to = 3
 ·have e1 : s.del m = s.takeL 3 m := by unfold Lb.del; rw [if_neg h0, if_neg h1, if_neg h2, if_pos h3]
  have e2 : s.delMs m = ((s.ls 3).take m).2 := by unfold Lb.delMs; rw [if_neg h0, if_neg h1, if_neg h2, if_pos h3]
  rw [e1, e2]
  rw [h3] at t1
  have H3 := Lib.hid h3
  clear h0 h1 h2 h3
  go_enter Tryz.func44, Tryz.ntmps44
  go_wp2_with fail
  rw [← HW0.out]
  clear t1
  have hS1 : ∃ S' : World → Prop, S' = fun W => LibC g W ∧ Blk W w.heap.size (encM m) 31 := ⟨_, rfl⟩
  obtain ⟨S', hS'⟩ := hS1
  have LDD : Hid (∀ W, S' W → LibC g W ∧ Blk W w.heap.size (encM m) 31) := Lib.hid (by rw [hS']; exact fun W h => h)
  have UU : Hid (∀ W, LibC g W → Blk W w.heap.size (encM m) 31 → S' W) := Lib.hid (by rw [hS']; exact fun W a b => ⟨a, b⟩)
  have Ld := Lib.hid (L0.out.up' (w' := w0.drew) (bdrewN (Below.refl _ _) 1))
  have Vd : Hid (Blk w0.drew w.heap.size (encM m) 31) := Lib.hid V0.out
  have hHeld := UU.out w0.drew Ld.out.cells Vd.out
  clear hS'
  refine wp_region_held_drew (S := S') (by kernel_rfl) hHeld (fun _ => ?_)
  apply wpAnyH_apartV (fun (v : Value) W => ∃ (P2 : List Pc) (Z2 : Nat → Nat → Prop), SentL 5 S (sent) (((s.ls 3).take m).2) P P2 ∧ LibM g Z2 W (N + 0 + 1) S P2 (sent + (((s.ls 3).take m).2).length) (s.takeL 3 m) ∧ (∀ i k, Z0 i k → Z2 i k) ∧ Tn (g.F Z0) w0 W)
  case take =>
   intro R hR
   refine tk 0 (v := ?_) rfl hHeld ?_ ?_; rotate_left
   ·(intro w hSw; (obtain ⟨C, V⟩ := LDD.out w hSw; have x0 := C.x0; have x1 := C.x1; have x2 := C.x2; have a0 := C.a0; have a1 := C.a1; have l0 := C.l0; have l1 := C.l1; have l2 := C.l2; have t1 := V.cell 1; rw [show (encM m)[1]? = some (i64 m.to) from rfl, H3.out] at t1; clear C); go_simp; try (with_reducible rfl))
   try simp only [gZ]
   refine tk 1 (v := ?_) rfl hHeld ?_ ?_; rotate_left
   ·(intro w hSw; (obtain ⟨C, V⟩ := LDD.out w hSw; have x0 := C.x0; have x1 := C.x1; have x2 := C.x2; have a0 := C.a0; have a1 := C.a1; have l0 := C.l0; have l1 := C.l1; have l2 := C.l2; have t1 := V.cell 1; rw [show (encM m)[1]? = some (i64 m.to) from rfl, H3.out] at t1; clear C); go_simp; try (with_reducible rfl))
   try simp only [gZ]
   refine tk 2 (v := ?_) rfl hHeld ?_ ?_; rotate_left
   ·(intro w hSw; (obtain ⟨C, V⟩ := LDD.out w hSw; have x0 := C.x0; have x1 := C.x1; have x2 := C.x2; have a0 := C.a0; have a1 := C.a1; have l0 := C.l0; have l1 := C.l1; have l2 := C.l2; have t1 := V.cell 1; rw [show (encM m)[1]? = some (i64 m.to) from rfl, H3.out] at t1; clear C); go_simp; try (with_reducible rfl))
   try simp only [gZ]
   refine tk 3 (v := ?_) rfl hHeld ?_ ?_; rotate_left
   ·(intro w hSw; (obtain ⟨C, V⟩ := LDD.out w hSw; have x0 := C.x0; have x1 := C.x1; have x2 := C.x2; have a0 := C.a0; have a1 := C.a1; have l0 := C.l0; have l1 := C.l1; have l2 := C.l2; have t1 := V.cell 1; rw [show (encM m)[1]? = some (i64 m.to) from rfl, H3.out] at t1; clear C); go_simp; try (with_reducible rfl))
   try simp only [gZ]
   refine tk 4 (v := ?_) rfl hHeld ?_ ?_; rotate_left
   ·(intro w hSw; (obtain ⟨C, V⟩ := LDD.out w hSw; have x0 := C.x0; have x1 := C.x1; have x2 := C.x2; have a0 := C.a0; have a1 := C.a1; have l0 := C.l0; have l1 := C.l1; have l2 := C.l2; have t1 := V.cell 1; rw [show (encM m)[1]? = some (i64 m.to) from rfl, H3.out] at t1; clear C); go_simp; try (with_reducible rfl))
   try simp only [gZ]
   refine tk 5 (v := ?_) rfl hHeld ?_ ?_; rotate_left
   ·(intro w hSw; (obtain ⟨C, V⟩ := LDD.out w hSw; have x0 := C.x0; have x1 := C.x1; have x2 := C.x2; have a0 := C.a0; have a1 := C.a1; have l0 := C.l0; have l1 := C.l1; have l2 := C.l2; have t1 := V.cell 1; rw [show (encM m)[1]? = some (i64 m.to) from rfl, H3.out] at t1; clear C); go_simp; try (with_reducible rfl))
   try simp only [gZ]
   refine tk 6 (v := ?_) rfl hHeld ?_ ?_; rotate_left
   ·(intro w hSw; (obtain ⟨C, V⟩ := LDD.out w hSw; have x0 := C.x0; have x1 := C.x1; have x2 := C.x2; have a0 := C.a0; have a1 := C.a1; have l0 := C.l0; have l1 := C.l1; have l2 := C.l2; have t1 := V.cell 1; rw [show (encM m)[1]? = some (i64 m.to) from rfl, H3.out] at t1; clear C); go_simp; try (with_reducible rfl))
   try simp only [gZ]
   refine tk 7 (v := ?_) rfl hHeld ?_ ?_; rotate_left
   ·(intro w hSw; clear hSw; go_simp; exact (rfl : _ = i64 0); try (with_reducible rfl))
   try simp only [gZ]
   refine tk 8 (v := ?_) rfl hHeld ?_ ?_; rotate_left
   ·(intro w hSw; (obtain ⟨C, V⟩ := LDD.out w hSw; have x0 := C.x0; have x1 := C.x1; have x2 := C.x2; have a0 := C.a0; have a1 := C.a1; have l0 := C.l0; have l1 := C.l1; have l2 := C.l2; clear C); go_simp; try (with_reducible rfl))
   try simp only [gZ]
   refine tk 9 (v := ?_) rfl hHeld ?_ ?_; rotate_left
   ·(intro w hSw; (obtain ⟨C, V⟩ := LDD.out w hSw; have x0 := C.x0; have x1 := C.x1; have x2 := C.x2; have a0 := C.a0; have a1 := C.a1; have l0 := C.l0; have l1 := C.l1; have l2 := C.l2; clear C); go_simp; try (with_reducible rfl))
   try simp only [gZ]
   refine wpAnyH_take (i := 10) (v := .agg (encM m)) rfl (by kernel_rfl) (by kernel_rfl) (by kernel_rfl) (fun _ _ _ h => only_panic h) ?_ hHeld ?_
   ·exact yields_row (.tmp 3) (by rfl) rfl rfl (fun W h => (LDD.out W h).2) Tryz.underlying31 rfl (by kernel_rfl)
   try simp only [gZ]
   refine wpAnyH_one (i := 11) rfl (by kernel_rfl) (by rfl) ?_
   go_simp
   refine (LibM.ltake (L := 3) (.inl rfl) Ld.out m (by omega) (HI.out 3 (.inl rfl)) HT.out).mono ?_
   rintro e W2 ⟨v2, rfl, Z2, hz2, ht2, hl2, hr2⟩
   have V2 : Blk W2 w.heap.size (encM m) 31 := ht2.blk Vd.out fun e => e.2 (ZM0.out)
   refine ⟨UU.out W2 hl2.cells V2, ?_⟩
   have hHeld := UU.out W2 hl2.cells V2
   refine wpAnyH_one (i := 12) rfl (by kernel_rfl) (by rfl) ?_
   go_simp
   refine (hl2.send hr2.1 hr2.2 (by have := M0.out; omega) (by have := takeL_len (s.ls 3) m; omega) (by have := Q0.out; omega)).mono ?_
   rintro e W3 ⟨rfl, P3, hp3, Z3, hz3, ht3, hl3⟩
   have V3 : Blk W3 w.heap.size (encM m) 31 := ht3.blk V2 fun e => e.2 fun i => hz2 i _ (ZM0.out i)
   refine ⟨UU.out W3 hl3.cells V3, ?_⟩
   exact wpAnyH_done (by kernel_rfl) ⟨rfl, hR v2 W3 ⟨P3, Z3, hp3, hl3, fun i k hk => hz3 i k (hz2 i k hk), ((Tn.refl _ _).drewN 1).trans (ht2.trans (ht3.mono fun k hk => Lg.F.mono hz2 hk))⟩⟩ _
  case rest =>
   rintro v w1 ⟨P1, Z1, h1, h2, h3, h4⟩
   have V1 : Hid (Blk w1 w.heap.size (encM m) 31) := Lib.hid (h4.blk V0.out fun e => e.2 ZM0.out)
   have ZM1 : Hid (∀ i, Z1 i w.heap.size) := Lib.hid fun i => h3 i _ (ZM0.out i)
   have T1 : Hid (Tn (g.F Z) w w1) := Lib.hid (T0.out.trans (h4.mono fun k hk => Lg.F.mono ZZ0.out hk))
   have ZZ1 : Hid (∀ i k, Z i k → Z1 i k) := Lib.hid fun i k hk => h3 i k (ZZ0.out i k hk)
   have S1 := Lib.hid h1
   have L1 := Lib.hid h2
   clear h1 h2 h3 h4
   go_wp2_with fail
   refine bodyPost_end (results_none rfl _ _ _) rfl ?_
   exact ⟨rfl, P1, S1.out, Z1, ZZ1.out, T1.out, L1.out.more (by omega)⟩
 by_cases h4 : m.to = 4
 ·have e1 : s.del m = s.takeL 4 m := by unfold Lb.del; rw [if_neg h0, if_neg h1, if_neg h2, if_neg h3, if_pos h4]
  have e2 : s.delMs m = ((s.ls 4).take m).2 := by unfold Lb.delMs; rw [if_neg h0, if_neg h1, if_neg h2, if_neg h3, if_pos h4]
  rw [e1, e2]
  rw [h4] at t1
  have H4 := Lib.hid h4
  clear h0 h1 h2 h3 h4
  go_enter Tryz.func44, Tryz.ntmps44
  go_wp2_with fail
  rw [← HW0.out]
  clear t1
  have hS1 : ∃ S' : World → Prop, S' = fun W => LibC g W ∧ Blk W w.heap.size (encM m) 31 := ⟨_, rfl⟩
  obtain ⟨S', hS'⟩ := hS1
  have LDD : Hid (∀ W, S' W → LibC g W ∧ Blk W w.heap.size (encM m) 31) := Lib.hid (by rw [hS']; exact fun W h => h)
  have UU : Hid (∀ W, LibC g W → Blk W w.heap.size (encM m) 31 → S' W) := Lib.hid (by rw [hS']; exact fun W a b => ⟨a, b⟩)
  have Ld := Lib.hid (L0.out.up' (w' := w0.drew) (bdrewN (Below.refl _ _) 1))
  have Vd : Hid (Blk w0.drew w.heap.size (encM m) 31) := Lib.hid V0.out
  have hHeld := UU.out w0.drew Ld.out.cells Vd.out
  clear hS'
  refine wp_region_held_drew (S := S') (by kernel_rfl) hHeld (fun _ => ?_)
  apply wpAnyH_apartV (fun (v : Value) W => ∃ (P2 : List Pc) (Z2 : Nat → Nat → Prop), SentL 5 S (sent) (((s.ls 4).take m).2) P P2 ∧ LibM g Z2 W (N + 0 + 1) S P2 (sent + (((s.ls 4).take m).2).length) (s.takeL 4 m) ∧ (∀ i k, Z0 i k → Z2 i k) ∧ Tn (g.F Z0) w0 W)
  case take =>
   intro R hR
   refine tk 0 (v := ?_) rfl hHeld ?_ ?_; rotate_left
   ·(intro w hSw; (obtain ⟨C, V⟩ := LDD.out w hSw; have x0 := C.x0; have x1 := C.x1; have x2 := C.x2; have a0 := C.a0; have a1 := C.a1; have l0 := C.l0; have l1 := C.l1; have l2 := C.l2; have t1 := V.cell 1; rw [show (encM m)[1]? = some (i64 m.to) from rfl, H4.out] at t1; clear C); go_simp; try (with_reducible rfl))
   try simp only [gZ]
   refine tk 1 (v := ?_) rfl hHeld ?_ ?_; rotate_left
   ·(intro w hSw; (obtain ⟨C, V⟩ := LDD.out w hSw; have x0 := C.x0; have x1 := C.x1; have x2 := C.x2; have a0 := C.a0; have a1 := C.a1; have l0 := C.l0; have l1 := C.l1; have l2 := C.l2; have t1 := V.cell 1; rw [show (encM m)[1]? = some (i64 m.to) from rfl, H4.out] at t1; clear C); go_simp; try (with_reducible rfl))
   try simp only [gZ]
   refine tk 2 (v := ?_) rfl hHeld ?_ ?_; rotate_left
   ·(intro w hSw; (obtain ⟨C, V⟩ := LDD.out w hSw; have x0 := C.x0; have x1 := C.x1; have x2 := C.x2; have a0 := C.a0; have a1 := C.a1; have l0 := C.l0; have l1 := C.l1; have l2 := C.l2; have t1 := V.cell 1; rw [show (encM m)[1]? = some (i64 m.to) from rfl, H4.out] at t1; clear C); go_simp; try (with_reducible rfl))
   try simp only [gZ]
   refine tk 3 (v := ?_) rfl hHeld ?_ ?_; rotate_left
   ·(intro w hSw; (obtain ⟨C, V⟩ := LDD.out w hSw; have x0 := C.x0; have x1 := C.x1; have x2 := C.x2; have a0 := C.a0; have a1 := C.a1; have l0 := C.l0; have l1 := C.l1; have l2 := C.l2; have t1 := V.cell 1; rw [show (encM m)[1]? = some (i64 m.to) from rfl, H4.out] at t1; clear C); go_simp; try (with_reducible rfl))
   try simp only [gZ]
   refine tk 4 (v := ?_) rfl hHeld ?_ ?_; rotate_left
   ·(intro w hSw; (obtain ⟨C, V⟩ := LDD.out w hSw; have x0 := C.x0; have x1 := C.x1; have x2 := C.x2; have a0 := C.a0; have a1 := C.a1; have l0 := C.l0; have l1 := C.l1; have l2 := C.l2; have t1 := V.cell 1; rw [show (encM m)[1]? = some (i64 m.to) from rfl, H4.out] at t1; clear C); go_simp; try (with_reducible rfl))
   try simp only [gZ]
   refine tk 5 (v := ?_) rfl hHeld ?_ ?_; rotate_left
   ·(intro w hSw; (obtain ⟨C, V⟩ := LDD.out w hSw; have x0 := C.x0; have x1 := C.x1; have x2 := C.x2; have a0 := C.a0; have a1 := C.a1; have l0 := C.l0; have l1 := C.l1; have l2 := C.l2; have t1 := V.cell 1; rw [show (encM m)[1]? = some (i64 m.to) from rfl, H4.out] at t1; clear C); go_simp; try (with_reducible rfl))
   try simp only [gZ]
   refine tk 6 (v := ?_) rfl hHeld ?_ ?_; rotate_left
   ·(intro w hSw; (obtain ⟨C, V⟩ := LDD.out w hSw; have x0 := C.x0; have x1 := C.x1; have x2 := C.x2; have a0 := C.a0; have a1 := C.a1; have l0 := C.l0; have l1 := C.l1; have l2 := C.l2; have t1 := V.cell 1; rw [show (encM m)[1]? = some (i64 m.to) from rfl, H4.out] at t1; clear C); go_simp; try (with_reducible rfl))
   try simp only [gZ]
   refine tk 7 (v := ?_) rfl hHeld ?_ ?_; rotate_left
   ·(intro w hSw; clear hSw; go_simp; exact (rfl : _ = i64 1); try (with_reducible rfl))
   try simp only [gZ]
   refine tk 8 (v := ?_) rfl hHeld ?_ ?_; rotate_left
   ·(intro w hSw; (obtain ⟨C, V⟩ := LDD.out w hSw; have x0 := C.x0; have x1 := C.x1; have x2 := C.x2; have a0 := C.a0; have a1 := C.a1; have l0 := C.l0; have l1 := C.l1; have l2 := C.l2; clear C); go_simp; try (with_reducible rfl))
   try simp only [gZ]
   refine tk 9 (v := ?_) rfl hHeld ?_ ?_; rotate_left
   ·(intro w hSw; (obtain ⟨C, V⟩ := LDD.out w hSw; have x0 := C.x0; have x1 := C.x1; have x2 := C.x2; have a0 := C.a0; have a1 := C.a1; have l0 := C.l0; have l1 := C.l1; have l2 := C.l2; clear C); go_simp; try (with_reducible rfl))
   try simp only [gZ]
   refine wpAnyH_take (i := 10) (v := .agg (encM m)) rfl (by kernel_rfl) (by kernel_rfl) (by kernel_rfl) (fun _ _ _ h => only_panic h) ?_ hHeld ?_
   ·exact yields_row (.tmp 3) (by rfl) rfl rfl (fun W h => (LDD.out W h).2) Tryz.underlying31 rfl (by kernel_rfl)
   try simp only [gZ]
   refine wpAnyH_one (i := 11) rfl (by kernel_rfl) (by rfl) ?_
   go_simp
   refine (LibM.ltake (L := 4) (.inr (.inl rfl)) Ld.out m (by omega) (HI.out 4 (.inr (.inl rfl))) HT.out).mono ?_
   rintro e W2 ⟨v2, rfl, Z2, hz2, ht2, hl2, hr2⟩
   have V2 : Blk W2 w.heap.size (encM m) 31 := ht2.blk Vd.out fun e => e.2 (ZM0.out)
   refine ⟨UU.out W2 hl2.cells V2, ?_⟩
   have hHeld := UU.out W2 hl2.cells V2
   refine wpAnyH_one (i := 12) rfl (by kernel_rfl) (by rfl) ?_
   go_simp
   refine (hl2.send hr2.1 hr2.2 (by have := M0.out; omega) (by have := takeL_len (s.ls 4) m; omega) (by have := Q0.out; omega)).mono ?_
   rintro e W3 ⟨rfl, P3, hp3, Z3, hz3, ht3, hl3⟩
   have V3 : Blk W3 w.heap.size (encM m) 31 := ht3.blk V2 fun e => e.2 fun i => hz2 i _ (ZM0.out i)
   refine ⟨UU.out W3 hl3.cells V3, ?_⟩
   exact wpAnyH_done (by kernel_rfl) ⟨rfl, hR v2 W3 ⟨P3, Z3, hp3, hl3, fun i k hk => hz3 i k (hz2 i k hk), ((Tn.refl _ _).drewN 1).trans (ht2.trans (ht3.mono fun k hk => Lg.F.mono hz2 hk))⟩⟩ _
  case rest =>
   rintro v w1 ⟨P1, Z1, h1, h2, h3, h4⟩
   have V1 : Hid (Blk w1 w.heap.size (encM m) 31) := Lib.hid (h4.blk V0.out fun e => e.2 ZM0.out)
   have ZM1 : Hid (∀ i, Z1 i w.heap.size) := Lib.hid fun i => h3 i _ (ZM0.out i)
   have T1 : Hid (Tn (g.F Z) w w1) := Lib.hid (T0.out.trans (h4.mono fun k hk => Lg.F.mono ZZ0.out hk))
   have ZZ1 : Hid (∀ i k, Z i k → Z1 i k) := Lib.hid fun i k hk => h3 i k (ZZ0.out i k hk)
   have S1 := Lib.hid h1
   have L1 := Lib.hid h2
   clear h1 h2 h3 h4
   go_wp2_with fail
   refine bodyPost_end (results_none rfl _ _ _) rfl ?_
   exact ⟨rfl, P1, S1.out, Z1, ZZ1.out, T1.out, L1.out.more (by omega)⟩
 ·have e1 : s.del m = s := by unfold Lb.del; rw [if_neg h0, if_neg h1, if_neg h2, if_neg h3, if_neg h4]
  have e2 : s.delMs m = [] := by unfold Lb.delMs; rw [if_neg h0, if_neg h1, if_neg h2, if_neg h3, if_neg h4]
  rw [e1, e2]
  go_enter Tryz.func44, Tryz.ntmps44
  go_wp2_with fail
  refine bodyPost_end (results_none rfl _ _ _) rfl ?_
  rw [← HW0.out]
  exact ⟨rfl, P, rfl, Z0, ZZ0.out, T0.out, L0.out.more (by omega)⟩
end Go.Proofs.YtdojgbpaheadnaaGreat
