/- The library of the law: one asker asks once, at most. -/
import Derived.Test.YtdojgbpaheadnaaGreatQUEw
import Derived.Test.YtdojgbpaheadnaaGreatQUS
import Derived.Test.YtdojgbpaheadnaaGreatQUE
import Derived.Test.YtdojgbpaheadnaaGreatQUH
import Derived.ChangeKeysEq
import Derived.Test.YtdojgbpaheadnaaGreatQPT
set_option linter.unusedVariables false
set_option linter.unusedSimpArgs false

namespace Go.Proofs.YtdojgbpaheadnaaGreat
open Go.RowKit Go.Shelf Go.Maps Go.ChangeMaps
attribute [local go_sem] over_cell over_frozen

set_option maxRecDepth 100000 in
set_option maxHeartbeats 8000000 in
theorem asks1_any {g : Lg} {Z : Nat → Nat → Prop} {w : World} {N : Nat} {S : List Tr} {P : List Pc} {sent : Nat} {s : Lb} (h : LibM g Z w N S P sent s) (l : List Int) (a : Option Addr) (cap : Nat) (hu : U8 w a l cap) (hc : l.length ≤ cap ∧ cap ≤ 9223372036854775807) (ha : l ≠ [] → ∀ b o, a = some ⟨b, o, none⟩ → b < g.B0) (hN : N < 80000) (hl : P.length ≤ 600000) (hs : sent ≤ 800000) (h1 : l.length ≤ 1) :
  Calls Tryz.prog 36 #[.pointer (some ⟨g.xb, 0, none⟩), .slice a l.length cap] w fun e w' => e = .returned (.tuple #[]) ∧ ∃ P' sent', Pr S s (s.askN l (min l.length 7)) sent P sent' P' ∧ sent' ≤ sent + 7 ∧ Nx g Z w w' fun Z' => LibM g Z' w' (N + 7) S P' sent' (s.askN l (min l.length 7)) := by
 have L0 := Lib.hid h
 have HU := Lib.hid hu
 have HA := Lib.hid ha
 obtain ⟨n, hn⟩ : ∃ n, n = l.length := ⟨_, rfl⟩
 have HN := Lib.hid hn
 rw [← hn] at hc h1 ⊢
 obtain ⟨hc1, hc2⟩ := hc
 clear h hu ha hn
 go_enter Tryz.func36, Tryz.ntmps36
 go_wp2_with fail
 go_loopw [4, 5, 6] (fun i _ _ wr => ∃ (k : Nat) (P1 : List Pc) (n1 : Nat), k ≤ min n 7 ∧ i = .int .i64 k ∧ Pr S s (s.askN l k) sent P n1 P1 ∧ n1 ≤ sent + k ∧ Nx g Z w wr fun Z' => LibM g Z' wr (N + k) S P1 n1 (s.askN l k)) (fun i _ _ _ => 8 - (intOf i).toNat)
 case atStart => exact ⟨0, P, sent, by omega, rfl, Pr.refl _ _ _ _, by omega, Z, fun _ _ h => h, Tn.refl _ _, L0.out⟩
 case round =>
  obtain ⟨k, P1, n1, hk, rfl, hpr, hn1, Z1, hz1, ht1, hl1⟩ := hrel
  have hlen := hpr.len
  have PR := Lib.hid hpr
  have ZZ := Lib.hid hz1
  have TT := Lib.hid ht1
  have LL := Lib.hid hl1
  clear hpr hz1 ht1 hl1
  by_cases hlt : k < n
  ·skip
   obtain ⟨b, o, rfl, hcell, hb0, hb1⟩ := (HU.out.tn TT.out fun hne b o e hF => by have := HA.out hne b o e; have := hF.1; omega).get (k := k) (by rw [← HN.out]; exact hlt)
   obtain ⟨x, hx⟩ : ∃ x, x = l.getD k 0 := ⟨_, rfl⟩
   rw [← hx] at hcell hb0 hb1
   have HB : Hid (b < g.B0) := Lib.hid (HA.out (fun e => by have := HN.out; rw [e] at this; simp at this; omega) b o rfl)
   have h : k = 0 := by omega
   have HX := Lib.hid hx
   clear hx
   subst h
   rw [show ((0 : Nat) : Int) = 0 from rfl]
   have hcell : wr.cell? ⟨b, o, none⟩ = some (.int .u8 x) := hcell
   have hTd : Hid (Tn (g.F Z) w wr.drew) := Lib.hid (TT.out.drewN 1)
   obtain ⟨S', hS'⟩ : ∃ S' : World → Prop, S' = fun W => LibC g W ∧ W.cell? ⟨b, o, none⟩ = some (.int .u8 x) := ⟨_, rfl⟩
   have LDD : Hid (∀ W, S' W → LibC g W ∧ W.cell? ⟨b, o, none⟩ = some (.int .u8 x)) := Lib.hid (by rw [hS']; exact fun W h => h)
   have UU : Hid (∀ W, LibC g W → W.cell? ⟨b, o, none⟩ = some (.int .u8 x) → S' W) := Lib.hid (by rw [hS']; exact fun W a b => ⟨a, b⟩)
   have Ld := Lib.hid (LL.out.up' (w' := wr.drew) (bdrewN (Below.refl _ _) 1))
   have hHeld := UU.out wr.drew Ld.out.cells hcell
   have KC := Lib.hid hcell
   clear hS' hcell
   go_wp2_with fail
   refine wp_region_held_drew (S := S') (by kernel_rfl) hHeld (fun _ => ?_)
   apply wpAnyH_apartV (fun (v : Value) W => ∃ (Z2 : Nat → Nat → Prop), LibM g Z2 W (N + 0 + 1) S P1 n1 ((s.askN l 0).ask 1 1 (1 + x % 4)) ∧ (∀ i k, Z1 i k → Z2 i k) ∧ Tn (g.F Z1) wr W ∧ RowZ wr.drew Z2 v W (((s.askN l 0).as 1).ask 1 (1 + x % 4)).1.2)
   case take =>
    intro R hR
    refine tk 0 (v := ?_) rfl hHeld ?_ ?_; rotate_left
    ·(intro w hSw; (obtain ⟨C, t1⟩ := LDD.out w hSw; have x0 := C.x0; have a0 := C.a0; have a1 := C.a1; clear C); go_simp; try (with_reducible rfl))
    try simp only [gZ]
    refine tk 1 (v := ?_) rfl hHeld ?_ ?_; rotate_left
    ·(intro w hSw; (obtain ⟨C, t1⟩ := LDD.out w hSw; have x0 := C.x0; have a0 := C.a0; have a1 := C.a1; clear C); go_simp; try (with_reducible rfl))
    try simp only [gZ]
    refine tk 2 (v := ?_) rfl hHeld ?_ ?_; rotate_left
    ·(intro w hSw; (obtain ⟨C, t1⟩ := LDD.out w hSw; have x0 := C.x0; have a0 := C.a0; have a1 := C.a1; clear C); go_simp; try (with_reducible rfl))
    try simp only [gZ]
    refine tk 3 (v := ?_) rfl hHeld ?_ ?_; rotate_left
    ·(intro w hSw; (obtain ⟨C, t1⟩ := LDD.out w hSw; have x0 := C.x0; have a0 := C.a0; have a1 := C.a1; clear C); go_simp; try (with_reducible rfl))
    try simp only [gZ]
    refine tk 4 (v := ?_) rfl hHeld ?_ ?_; rotate_left
    ·(intro w hSw; (obtain ⟨C, t1⟩ := LDD.out w hSw; have x0 := C.x0; have a0 := C.a0; have a1 := C.a1; clear C); go_simp; try (with_reducible rfl))
    try simp only [gZ]
    refine tk 5 (v := ?_) rfl hHeld ?_ ?_; rotate_left
    ·(intro w hSw; clear hSw; go_simp; exact (rfl : _ = i64 0); try (with_reducible rfl))
    try simp only [gZ]
    refine tk 6 (v := ?_) rfl hHeld ?_ ?_; rotate_left
    ·(intro w hSw; (obtain ⟨C, t1⟩ := LDD.out w hSw; have x0 := C.x0; have a0 := C.a0; have a1 := C.a1; clear C); go_simp; try (with_reducible rfl))
    try simp only [gZ]
    refine tk 7 (v := ?_) rfl hHeld ?_ ?_; rotate_left
    ·(intro w hSw; (obtain ⟨C, t1⟩ := LDD.out w hSw; have x0 := C.x0; have a0 := C.a0; have a1 := C.a1; clear C); go_simp; try (with_reducible rfl))
    try simp only [gZ]
    refine tk 8 (v := ?_) rfl hHeld ?_ ?_; rotate_left
    ·(intro w hSw; (obtain ⟨C, t1⟩ := LDD.out w hSw; have x0 := C.x0; have a0 := C.a0; have a1 := C.a1; clear C); go_simp; try (with_reducible rfl))
    try simp only [gZ]
    refine tk 9 (v := ?_) rfl hHeld ?_ ?_; rotate_left
    ·(intro w hSw; clear hSw; go_simp; exact (rfl : _ = i64 0); try (with_reducible rfl))
    try simp only [gZ]
    refine tk 10 (v := ?_) rfl hHeld ?_ ?_; rotate_left
    ·(intro w hSw; clear hSw; go_simp; exact (rfl : _ = i64 1); try (with_reducible rfl))
    try simp only [gZ]
    refine tk 11 (v := ?_) rfl hHeld ?_ ?_; rotate_left
    ·(intro w hSw; (obtain ⟨C, t1⟩ := LDD.out w hSw; have x0 := C.x0; have a0 := C.a0; have a1 := C.a1; clear C); go_simp; try (with_reducible rfl))
    try simp only [gZ]
    refine tk 12 (v := ?_) rfl hHeld ?_ ?_; rotate_left
    ·(intro w hSw; (obtain ⟨C, t1⟩ := LDD.out w hSw; have x0 := C.x0; have a0 := C.a0; have a1 := C.a1; clear C); go_simp; try (with_reducible rfl))
    try simp only [gZ]
    refine tk 13 (v := ?_) rfl hHeld ?_ ?_; rotate_left
    ·(intro w hSw; (obtain ⟨C, t1⟩ := LDD.out w hSw; have x0 := C.x0; have a0 := C.a0; have a1 := C.a1; clear C); go_simp; try (with_reducible rfl))
    try simp only [gZ]
    refine tk 14 (v := ?_) rfl hHeld ?_ ?_; rotate_left
    ·(intro w hSw; (obtain ⟨C, t1⟩ := LDD.out w hSw; have x0 := C.x0; have a0 := C.a0; have a1 := C.a1; clear C); go_simp; try (with_reducible rfl))
    try simp only [gZ]
    refine tk 15 (v := ?_) rfl hHeld ?_ ?_; rotate_left
    ·(intro w hSw; clear hSw; go_simp; exact (congrArg (Value.int IntKind.u8) (Int.tmod_eq_emod_of_nonneg hb0) : _ = Value.int IntKind.u8 (x % 4)); try (with_reducible rfl))
    try simp only [gZ]
    refine tk 16 (v := ?_) rfl hHeld ?_ ?_; rotate_left
    ·(intro w hSw; clear hSw; go_simp; exact (congrArg (Value.int IntKind.i64) (wrap_small (by omega) (by omega)) : _ = i64 (x % 4)); try (with_reducible rfl))
    try simp only [gZ]
    refine tk 17 (v := ?_) rfl hHeld ?_ ?_; rotate_left
    ·(intro w hSw; clear hSw; go_simp; exact (congrArg (Value.int IntKind.i64) (wrap_small (by omega) (by omega)) : _ = i64 (1 + x % 4)); try (with_reducible rfl))
    try simp only [gZ]
    refine wpAnyH_one (i := 18) rfl (by kernel_rfl) (by rfl) ?_
    go_simp
    refine (LibM.aask (a := 1) (.inl rfl) Ld.out 1 (1 + x % 4) (by omega) (i64_small (by omega)) (i64_small (by omega))).mono ?_
    rintro e W2 ⟨v2, rfl, Z2, hz2, ht2, hl2, hr2⟩
    have V2 : W2.cell? ⟨b, o, none⟩ = some (.int .u8 x) := ht2.cell KC.out fun e => absurd HB.out (Nat.not_lt.2 e.1)
    refine ⟨UU.out W2 hl2.cells V2, ?_⟩
    have hHeld := UU.out W2 hl2.cells V2
    refine tk 19 (v := ?_) rfl hHeld ?_ ?_; rotate_left
    ·(intro w hSw; clear hSw; go_simp; try (with_reducible rfl))
    try simp only [gZ]
    refine tk 20 (v := ?_) rfl hHeld ?_ ?_; rotate_left
    ·(intro w hSw; clear hSw; go_simp; try (with_reducible rfl))
    try simp only [gZ]
    refine tk 21 (v := ?_) rfl hHeld ?_ ?_; rotate_left
    ·(intro w hSw; clear hSw; go_simp; try (with_reducible rfl))
    try simp only [gZ]
    refine tk 22 (v := ?_) rfl hHeld ?_ ?_; rotate_left
    ·(intro w hSw; clear hSw; go_simp; try (with_reducible rfl))
    try simp only [gZ]
    refine tk 23 (v := ?_) rfl hHeld ?_ ?_; rotate_left
    ·(intro w hSw; clear hSw; go_simp; try (with_reducible rfl))
    try simp only [gZ]
    exact wpAnyH_done (by kernel_rfl) ⟨rfl, hR v2 W2 ⟨Z2, hl2, hz2, ((Tn.refl _ _).drewN 1).trans ht2, hr2⟩⟩ _
   case rest =>
    rintro v W ⟨Z2, h1, h2, h3, h4⟩
    have L2 := Lib.hid h1
    have R2 := Lib.hid h4
    have T2 : Hid (Tn (g.F Z) w W) := Lib.hid (TT.out.trans (h3.mono fun k hk => Lg.F.mono ZZ.out hk))
    have ZZ2 : Hid (∀ i k, Z i k → Z2 i k) := Lib.hid fun i k hk => h2 i k (ZZ.out i k hk)
    clear h1 h2 h3 h4 hHeld Ld UU LDD KC hTd
    have hm1 := ask_len ((s.askN l 0).as 1) 1 (1 + x % 4)
    go_wp2_with fail
    refine (L2.out.send R2.out.1 R2.out.2 (by omega) (by omega) (by omega)).mono ?_
    rintro e w4 ⟨rfl, P4, hp4, Z4, hz4, ht4, hl4⟩
    have L4 := Lib.hid hl4
    have S4 := Lib.hid hp4
    have T4 := Lib.hid (T2.out.trans (ht4.mono fun k hk => Lg.F.mono ZZ2.out hk))
    have ZZ4 : Hid (∀ i k, Z i k → Z4 i k) := Lib.hid fun i k hk => hz4 i k (ZZ2.out i k hk)
    have M1 := Lib.hid hm1
    have hnext : s.askN l (0 + 1) = (s.askN l 0).ask 1 1 (1 + x % 4) := by rw [HX.out]; rfl
    have NX := Lib.hid hnext
    clear hp4 hl4 ht4 hz4 hm1 hlen hnext
    go_wp2_with fail
    go_roundw
    case rel => exact ⟨0 + 1, P4, n1 + (((s.askN l 0).as 1).ask 1 (1 + x % 4)).1.2.length, by omega, by go_num, PR.out.trans ⟨_, by rw [NX.out]; rfl, rfl, S4.out⟩, by have := M1.out; omega, Z4, ZZ4.out, T4.out, by rw [NX.out]; exact L4.out⟩
    case measure => simp [intOf]
  ·obtain rfl : k = n := by omega
   have e7 : min k 7 = k := by omega
   go_wp2_with fail
   refine bodyPost_end (results_none rfl _ _ _) rfl ?_
   rw [e7]
   exact ⟨rfl, P1, n1, PR.out, by omega, Z1, ZZ.out, TT.out, LL.out.more (by omega)⟩
section
variable {w : World} {g : Lg} {S : List Tr} {init : Int → List Int} {D : Nat → Prop} {b : Nat} {Q : Lb → List Pc → Prop} {wr : World}
theorem RunJ.asks1 (hb : b ≤ 50000) (l : List Int) (a : Option Addr) (cap : Nat) (hu : U8 wr a l cap) (hc : l.length ≤ cap ∧ cap ≤ 9223372036854775807) (ha : l ≠ [] → ∀ b o, a = some ⟨b, o, none⟩ → b < g.B0) (h1 : l.length ≤ 1) {Q' : Lb → List Pc → Prop} (hQ : ∀ s P P' n n', KS init s → Q s P → Pr S s (s.askN l (min l.length 7)) n P n' P' → Q' (s.askN l (min l.length 7)) P') (h : RunJ w g S init D b Q wr) :
  Calls Tryz.prog 36 #[.pointer (some ⟨g.xb, 0, none⟩), .slice a l.length cap] wr fun e w' => e = .returned (.tuple #[]) ∧ RunJ w g S init D (b + 7) Q' w' := by
 obtain ⟨Z, N, sent, P, s, g1, h2, h3, h4, h5, h6, h7, h8, h9⟩ := h
 refine (asks1_any g1 l a cap hu hc ha (by omega) (by omega) (by omega) h1).mono ?_
 rintro e w' ⟨rfl, P', sent', hP, hs, hn⟩
 have hl := hP.len
 exact ⟨rfl, RunJ.nx h7 h8 hn (KS.askN l _ (Nat.min_le_right _ _) h2) (hP.mem h3) (by omega) (by omega) (by omega) (hQ s P P' _ _ h2 h9 hP)⟩
end
end Go.Proofs.YtdojgbpaheadnaaGreat

/- Two libraries side by side; what is asked of one. -/
namespace Go.Proofs.YtdojgbpaheadnaaGreat
open Go.RowKit Go.Shelf Go.Maps Go.ChangeMaps

set_option maxRecDepth 100000 in
theorem eq6_run (z0 z1 z2 z3 z4 z5 : Int) (w : World) : (Op.equalIn 10000 84 (.agg #[i64 z0, i64 z1, i64 z2, i64 z3, i64 z4, i64 z5]) (.agg #[i64 z0, i64 z1, i64 z2, i64 z3, i64 z4, i64 z5])).run Tryz.prog w = .ok true w := by
 obtain ⟨i0, hi, -⟩ := info_parts info3
 have c : Tryz.prog.cellsOf 3 = 1 := by kernel_rfl
 have pk : Tryz.prog.plainKey 3 = true := by kernel_rfl
 have h := run_equalIn_array (P := Tryz.prog) w 9999 #[i64 z0, i64 z1, i64 z2, i64 z3, i64 z4, i64 z5] #[i64 z0, i64 z1, i64 z2, i64 z3, i64 z4, i64 z5] Tryz.underlying84 hi
 refine h.trans ?_
 have e := fun a => run_equalIn_int (P := Tryz.prog) (w := w) 9998 3 .i64 .i64 a a Tryz.underlying3
 have e : ∀ a : Int, (Op.equalIn 9999 3 (.int .i64 a) (.int .i64 a)).run Tryz.prog w = .ok true w := fun a => (e a).trans (by simp)
 have p : ∀ (j : Nat) (v : Value), (#[i64 z0, i64 z1, i64 z2, i64 z3, i64 z4, i64 z5] : Array Value)[j]? = some v → (part 3 #[i64 z0, i64 z1, i64 z2, i64 z3, i64 z4, i64 z5] j).run Tryz.prog w = .ok v w := fun j v hv => run_part_plain w pk hv
 rw [c]
 simp only [show List.range 6 = [0, 1, 2, 3, 4, 5] from rfl, Op.eqItems, Sem.run_bind, Nat.mul_one, p 0 (i64 z0) rfl, p 1 (i64 z1) rfl, p 2 (i64 z2) rfl, p 3 (i64 z3) rfl, p 4 (i64 z4) rfl, p 5 (i64 z5) rfl, Result.andThen_ok, e, Bool.not_true, Bool.false_eq_true, if_false]
 rfl
theorem Sys.beside {B : Nat} {Z : Nat → Nat → Prop} {w w' : World} {Ms : List Assn} {F : Nat → Prop} (h : Sys B Z w Ms) (t : Tn F w w') (hF : ∀ k, k < w.heap.size → F k → k < B ∨ ∀ i, Z i k) : Sys B (fun i k => Z i k ∨ (w.heap.size ≤ k ∧ k < w'.heap.size)) w' Ms := by
 obtain ⟨Os, h1, h2, h3, h4⟩ := h
 have hs := t.size
 have t' : Tn (fun k => F k ∧ k < w.heap.size) w w' := ⟨t.os, t.tape, t.output, t.size, fun b hb hn => t.block b hb fun e => hn ⟨e, hb⟩⟩
 refine ⟨Os, fun i M hi => M.keep (h1 i M hi) t' fun k hk ho => ?_, h2, fun i k hk => ⟨(h3 i k hk).1, by have := (h3 i k hk).2.1; omega, fun e => ?_⟩, fun i k hk => ?_⟩
 ·have := h3 i k ho
  rcases hF k hk.2 hk.1 with e | e
  ·omega
  ·exact this.2.2 (e i)
 ·have := h3 i k hk
  rcases e with e | e
  ·exact this.2.2 e
  ·omega
 ·rcases hk with e | e
  ·have := h4 i k e; omega
  ·exact e.2
theorem LibM.beside {g : Lg} {Z : Nat → Nat → Prop} {w w' : World} {N : Nat} {S : List Tr} {P : List Pc} {sent : Nat} {s : Lb} {F : Nat → Prop} (h : LibM g Z w N S P sent s) (t : Tn F w w') (hF : ∀ k, k < w.heap.size → F k → k < g.B0 ∨ ∀ i, Z i k) : LibM g (fun i k => Z i k ∨ (w.heap.size ≤ k ∧ k < w'.heap.size)) w' N S P sent s := by
 obtain ⟨n1, n2, n3, now, h1, h2, h3, hs⟩ := h.sys
 exact ⟨h.ok, Nat.le_trans h.hB t.size, ⟨n1, n2, n3, now, h1, h2, h3, hs.beside t hF⟩, h.ls⟩
theorem getD_take' (L : List Int) {n j : Nat} (h : j < n) : (L.take n).getD j 0 = L.getD j 0 := by
 rw [List.getD_eq_getElem?_getD, List.getD_eq_getElem?_getD, List.getElem?_take_of_lt h]
section
variable {w : World} {g : Lg} {S : List Tr} {init : Int → List Int} {D : Nat → Prop} {b : Nat} {Q : Lb → List Pc → Prop} {wr : World}
theorem RunJ.beside {F : Nat → Prop} {w' : World} (h : RunJ w g S init D b Q wr) (t : Tn F wr w') (hF : ∀ k, k < wr.heap.size → F k → k < g.B0 ∨ D k) : RunJ w' g S init (fun k => D k ∨ (wr.heap.size ≤ k ∧ k < w'.heap.size)) b Q w' := by
 obtain ⟨Z, N, sent, P, s, h1, h2, h3, h4, h5, h6, h7, h8, h9⟩ := h
 exact ⟨_, N, sent, P, s, h1.beside t (fun k hk hf => (hF k hk hf).imp id fun e i => h7 i k e), h2, h3, h4, h5, h6, fun i k hk => hk.imp (h7 i k) id, Tn.refl _ _, h9⟩
theorem RunJ.base (h : RunJ w g S init D b Q wr) : RunJ wr g S init D b Q wr := by
 obtain ⟨Z, N, sent, P, s, h1, h2, h3, h4, h5, h6, h7, h8, h9⟩ := h
 exact ⟨Z, N, sent, P, s, h1, h2, h3, h4, h5, h6, h7, Tn.refl _ _, h9⟩
theorem RunJ.stateV {v : Int} (hQ : ∀ s P, KS init s → Q s P → (s.as 1).state 1 = v) (h : RunJ w g S init D b Q wr) :
  Calls Tryz.prog 24 #[.pointer (some ⟨g.ap 1, 0, none⟩), i64 1] wr fun e w' => e = .returned (i64 v) ∧ w' = wr := by
 refine (h.state (a := 1) (.inl rfl) 1 (i64_small (by omega))).mono ?_
 rintro e w' ⟨rfl, s, P, rfl, hk, hq⟩
 rw [hQ s P hk hq]
 exact ⟨rfl, rfl⟩
theorem RunJ.countV {C : Array Value} (hi : ∀ L, (init L).length ≤ 20000) (hQ : ∀ s P, KS init s → Q s P → cntC s.heres.flatten = C) (h : RunJ w g S init D b Q wr) :
  Calls Tryz.prog 41 #[.pointer (some ⟨g.xb, 0, none⟩)] wr fun e w' => e = .returned (.agg C) ∧ Below wr.heap.size wr w' := by
 obtain ⟨Z, N, sent, P, s, h1, h2, h3, h4, h5, h6, h7, h8, h9⟩ := h
 refine (count_any h1 (fun L hL => h2.hereL hi hL) (fun a ha => ?_)).mono ?_
 ·have := (h2.ai a ha).here
  have c1 := h2.c1
  have c2 := h2.c2
  rcases ha with rfl | rfl <;> omega
 ·rintro e w' ⟨rfl, hb⟩
  rw [hQ s P h2 h9]
  exact ⟨rfl, hb⟩
theorem RunJ.hereV {l : List Int} (hQ : ∀ s P, KS init s → Q s P → (s.as 1).here = l) (h : RunJ w g S init D b Q wr) :
  Calls Tryz.prog 25 #[.pointer (some ⟨g.ap 1, 0, none⟩)] wr fun e w' => ∃ v, e = .returned v ∧ w'.ownsRow wr.heap.size 3 1 v l.length (l.map (Value.int .i64)) ∧ Below wr.heap.size wr w' := by
 refine (h.here (a := 1) (.inl rfl)).mono ?_
 rintro e w' ⟨v, s, P, rfl, hr, hb, hk, hq, -⟩
 rw [hQ s P hk hq] at hr
 exact ⟨v, rfl, hr, hb⟩
theorem RunJ.rightV (h : RunJ w g S init D b Q wr) : Calls Tryz.prog 35 #[.pointer (some ⟨g.xb, 0, none⟩)] wr fun e w' => e = .returned (.bool true) ∧ w' = wr := by
 obtain ⟨Z, N, sent, P, s, h1, h2, h3, h4, h5, h6, h7, h8, h9⟩ := h
 exact right_any h1
end
theorem U8.take {w : World} {a : Option Addr} {L : List Int} {cap : Nat} (h : U8 w a L cap) (n : Nat) : U8 w a (L.take n) cap where
 at_ := by
  rcases h.at_ with h1 | ⟨b, o, h1, h2, h3⟩
  ·exact .inl (by rw [h1, List.take_nil])
  ·refine .inr ⟨b, o, h1, h2, fun j hj => ?_⟩
   rw [List.length_take] at hj
   rw [getD_take' L (by omega)]; exact h3 j (by omega)
 bd := fun j hj => by
  rw [List.length_take] at hj
  rw [getD_take' L (by omega)]; exact h.bd j (by omega)
 len := by have := h.len; rw [List.length_take]; omega
def Two (w0 : World) (gx gy : Lg) (Sx Sy : List Tr) (init : Int → List Int) (bx b2 : Nat) (Qx Qy : Lb → List Pc → Prop) (W : World) : Prop :=
 ∃ Dx Dy : Nat → Prop, RunJ W gx Sx init Dx bx Qx W ∧ RunJ W gy Sy init Dy b2 Qy W ∧ (∀ k, k < W.heap.size → (k < gx.B0 ∨ Dx k) ∨ (k < gy.B0 ∨ Dy k)) ∧ Below w0.heap.size w0 W ∧ w0.heap.size ≤ gx.B0 ∧ w0.heap.size ≤ gy.B0
section
variable {w0 : World} {gx gy : Lg} {Sx Sy : List Tr} {init : Int → List Int} {bx b2 : Nat} {Qx Qy : Lb → List Pc → Prop} {W : World}
theorem Two.swap (h : Two w0 gx gy Sx Sy init bx b2 Qx Qy W) : Two w0 gy gx Sy Sx init b2 bx Qy Qx W := by
 obtain ⟨Dx, Dy, hx, hy, ha, hb, e1, e2⟩ := h
 exact ⟨Dy, Dx, hy, hx, fun k hk => (ha k hk).symm, hb, e2, e1⟩
theorem Two.up {W' : World} (h : Two w0 gx gy Sx Sy init bx b2 Qx Qy W) (hb' : Below W.heap.size W W') : Two w0 gx gy Sx Sy init bx b2 Qx Qy W' := by
 obtain ⟨Dx, Dy, hx, hy, ha, hb, e1, e2⟩ := h
 refine ⟨_, _, hx.keep hb', hy.keep hb', fun k hk => ?_, hb.trans (hb'.mono hb.size), e1, e2⟩
 by_cases e : k < W.heap.size
 ·exact (ha k e).imp (·.imp id .inl) (·.imp id .inl)
 ·exact .inl (.inr (.inr ⟨by omega, hk⟩))
theorem Two.weak {bx' b2' : Nat} {Qx' Qy' : Lb → List Pc → Prop} (h : Two w0 gx gy Sx Sy init bx b2 Qx Qy W) (h1 : bx ≤ bx') (h2 : b2 ≤ b2') (h3 : ∀ s P, KS init s → Qx s P → Qx' s P) (h4 : ∀ s P, KS init s → Qy s P → Qy' s P) : Two w0 gx gy Sx Sy init bx' b2' Qx' Qy' W := by
 obtain ⟨Dx, Dy, hx, hy, ha, hb, e1, e2⟩ := h
 exact ⟨Dx, Dy, hx.weak h1 h3, hy.weak h2 h4, ha, hb, e1, e2⟩
theorem Two.below (h : Two w0 gx gy Sx Sy init bx b2 Qx Qy W) : Below w0.heap.size w0 W := by
 obtain ⟨Dx, Dy, hx, hy, ha, hb, e1, e2⟩ := h
 exact hb
theorem Two.x (h : Two w0 gx gy Sx Sy init bx b2 Qx Qy W) : ∃ D, RunJ W gx Sx init D bx Qx W := by
 obtain ⟨Dx, Dy, hx, hy, ha, hb, e1, e2⟩ := h
 exact ⟨Dx, hx⟩
theorem Two.y (h : Two w0 gx gy Sx Sy init bx b2 Qx Qy W) : ∃ D, RunJ W gy Sy init D b2 Qy W := h.swap.x
theorem Two.cx (h : Two w0 gx gy Sx Sy init bx b2 Qx Qy W) : LibC gx W := by
 obtain ⟨D, h⟩ := h.x
 exact h.cells
theorem Two.cy (h : Two w0 gx gy Sx Sy init bx b2 Qx Qy W) : LibC gy W := h.swap.cx
theorem Two.stepX {f : Nat} {args : Array Value} {Φ : Ending → Prop} {bx' : Nat} {Qx' : Lb → List Pc → Prop} (h : Two w0 gx gy Sx Sy init bx b2 Qx Qy W)
  (call : ∀ D, RunJ W gx Sx init D bx Qx W → Calls Tryz.prog f args W fun e w' => Φ e ∧ RunJ W gx Sx init D bx' Qx' w') :
  Calls Tryz.prog f args W fun e w' => Φ e ∧ Two w0 gx gy Sx Sy init bx' b2 Qx' Qy w' := by
 obtain ⟨Dx, Dy, hx, hy, ha, hb, e1, e2⟩ := h
 refine (call Dx hx).mono ?_
 rintro e w' ⟨hφ, hr⟩
 have t := hr.tn
 refine ⟨hφ, Dx, _, hr.base, hy.beside t (fun k hk hf => ?_), fun k hk => ?_, hb.trans (t.below hb.size fun k hk => by have := hk.1; omega), e1, e2⟩
 ·rcases ha k hk with (h | h) | h
  ·have := hf.1; omega
  ·exact (hf.2 h).elim
  ·exact h
 ·by_cases e : k < W.heap.size
  ·exact (ha k e).imp id (·.imp id .inl)
  ·exact .inr (.inr (.inr ⟨by omega, hk⟩))
theorem Two.stepY {f : Nat} {args : Array Value} {Φ : Ending → Prop} {b2' : Nat} {Qy' : Lb → List Pc → Prop} (h : Two w0 gx gy Sx Sy init bx b2 Qx Qy W)
  (call : ∀ D, RunJ W gy Sy init D b2 Qy W → Calls Tryz.prog f args W fun e w' => Φ e ∧ RunJ W gy Sy init D b2' Qy' w') :
  Calls Tryz.prog f args W fun e w' => Φ e ∧ Two w0 gx gy Sx Sy init bx b2' Qx Qy' w' := (h.swap.stepX call).mono fun e w' h => ⟨h.1, h.2.swap⟩
theorem Two.begin {wx w1 w2 : World} {sx : Lb} (hx : LibM gx (fun _ _ => False) wx 0 Sx [] 0 sx) (hkx : KS init sx) (hb : Below w0.heap.size w0 wx) (h1 : Below wx.heap.size wx w1) {sy : Lb} (hy : LibM gy (fun _ _ => False) w2 0 Sy [] 0 sy) (hky : KS init sy) (h2 : Below w1.heap.size w1 w2) (e1 : w0.heap.size ≤ gx.B0) (e2 : gy.B0 = w1.heap.size) : Two w0 gx gy Sx Sy init 0 0 (fun s P => s = sx ∧ P = []) (fun s P => s = sy ∧ P = []) w2 := by
 have r1 : RunJ wx gx Sx init (fun _ => False) 0 (fun s P => s = sx ∧ P = []) wx := ⟨_, 0, 0, [], _, hx, hkx, (fun p hp => by cases hp), Nat.le_refl _, Nat.le_refl _, Nat.le_refl _, fun i k h => h.elim, Tn.refl _ _, rfl, rfl⟩
 have r2 : RunJ w2 gy Sy init (fun _ => False) 0 (fun s P => s = sy ∧ P = []) w2 := ⟨_, 0, 0, [], _, hy, hky, (fun p hp => by cases hp), Nat.le_refl _, Nat.le_refl _, Nat.le_refl _, fun i k h => h.elim, Tn.refl _ _, rfl, rfl⟩
 have r3 := (r1.up h1).base.keep h2
 refine ⟨_, _, r3, r2, fun k hk => ?_, (hb.trans (h1.mono hb.size)).trans (h2.mono (Nat.le_trans hb.size h1.size)), e1, by rw [e2]; exact Nat.le_trans hb.size h1.size⟩
 by_cases e : k < w1.heap.size
 ·exact .inr (.inl (by omega))
 ·exact .inl (.inr (.inr ⟨by omega, hk⟩))
end
end Go.Proofs.YtdojgbpaheadnaaGreat

/- One request over two nets, plainly: what comes of it is settled. -/
namespace Go.Proofs.YtdojgbpaheadnaaGreat

def QO (o : Option Int) (s : Lb) : Prop := match o with
 | none => ∀ f, Far f s
 | some t => QT 1 t s
theorem QO.kp (init : Int → List Int) (o : Option Int) : Kp init (QO o) where
 tick := fun s h => by
  cases o with
  | none => exact fun f => (h f).tick
  | some t => exact (QT.kp init 1 t).tick s h
 del := fun s m hk hm hf h => by
  cases o with
  | none => exact fun f => hf f (h f)
  | some t => exact (QT.kp init 1 t).del s m hk hm hf h
theorem Far.kp (init : Int → List Int) (f : Int) : Kp init (Far f) where
 tick := fun _ h => h.tick
 del := fun _ _ _ _ hf h => hf f h
def R1 (rt : List Int) (o : Option Int) (s : Lb) : Prop := (NF s ∧ QO o s) ∧ RO rt s
def R2 (rt : List Int) (o : Option Int) (s : Lb) : Prop := (Far 5 s ∧ QO o s) ∧ RO rt s
theorem R1.kp (init : Int → List Int) (rt : List Int) (o : Option Int) : Kp init (R1 rt o) := ((NF.kp init).and (QO.kp init o)).and (RO.kp init rt)
theorem R2.kp (init : Int → List Int) (rt : List Int) (o : Option Int) : Kp init (R2 rt o) := ((Far.kp init 5).and (QO.kp init o)).and (RO.kp init rt)
def st1 (init : Int → List Int) (rt : List Int) (o : Option Int) : Int := match o with
 | none => 0
 | some t => if (whoL init rt 1 1 t).isNone then 7 else 4
def st2 (init : Int → List Int) (rt : List Int) (o : Option Int) : Int := match o with
 | none => 0
 | some t => if (whoL init rt 1 1 t).isNone then 7 else 6
def here1 (init : Int → List Int) (rt : List Int) (o : Option Int) : List Int := match o with
 | none => []
 | some t => if (whoL init rt 1 1 t).isNone then [] else [t]
section
variable {init : Int → List Int} {s s' : Lb} {P P' : List Pc} {rt : List Int} {o : Option Int}
theorem cnt_app (l m : List Int) (t : Int) : cnt (l ++ m) t = cnt l t + cnt m t := by unfold cnt; rw [List.countP_append]
theorem cnt_perm {l m : List Int} (h : l.Perm m) (t : Int) : cnt l t = cnt m t := h.countP_eq _
theorem cntC_eq (h : ∀ t, cnt s.heres.flatten t = cnt (init 3) t + cnt (init 4) t + cnt (init 1) t) : cntC s.heres.flatten = #[i64 (cnt (init 3) 0 + cnt (init 4) 0 + cnt (init 1) 0 : Nat), i64 (cnt (init 3) 1 + cnt (init 4) 1 + cnt (init 1) 1 : Nat), i64 (cnt (init 3) 2 + cnt (init 4) 2 + cnt (init 1) 2 : Nat), i64 (cnt (init 3) 3 + cnt (init 4) 3 + cnt (init 1) 3 : Nat), i64 (cnt (init 3) 4 + cnt (init 4) 4 + cnt (init 1) 4 : Nat), i64 (cnt (init 3) 5 + cnt (init 4) 5 + cnt (init 1) 5 : Nat)] := by
 unfold cntC
 rw [h 0, h 1, h 2, h 3, h 4, h 5]
theorem cnt_flat (s : Lb) (t : Int) : cnt s.heres.flatten t = cnt (s.ls 3).here t + cnt (s.ls 4).here t + cnt (s.ls 1).here t + cnt (s.as 1).here t + cnt (s.as 2).here t := by
 unfold Lb.heres
 simp only [List.flatten_cons, List.flatten_nil, cnt_app, List.append_nil]
 omega
theorem far_cnt (h : Far 6 s) (hk : KS init s) (hso : ∀ L, IsL L → SortedI (init L)) (t : Int) : cnt s.heres.flatten t = cnt (init 3) t + cnt (init 4) t + cnt (init 1) t := by
 rw [cnt_flat, far_lend h hk hso (.inl rfl), far_lend h hk hso (.inr (.inl rfl)), far_lend h hk hso (.inr (.inr rfl)), far_here h hk (.inl rfl), far_here h hk (.inr rfl)]
 rfl
theorem none_state (h : ∀ f, Far f s) (n : Int) : (s.as 1).state n = 0 := by
 unfold Asr.state
 cases hq : rq (s.as 1).L n with
 | none => rfl
 | some q =>
  exfalso
  have h1 := h (q.st + 1) 1 n q (by unfold Lb.view; dsimp only; rw [if_pos (.inl rfl)]; exact hq)
  omega
theorem RG.rep1 (hk : KS init s) (hso : ∀ L, IsL L → SortedI (init L)) (h : RG init 1 1 (R1 rt o) s P) : (s.as 1).state 1 = st1 init rt o ∧ (s.as 1).here = here1 init rt o ∧ ∀ t, cnt s.heres.flatten t = cnt (init 3) t + cnt (init 4) t + cnt (init 1) t := by
 cases o with
 | none =>
  have hf : ∀ f, Far f s := h.2.2.2.1.2
  exact ⟨none_state hf 1, far_here (hf 6) hk (.inl rfl), far_cnt (hf 6) hk hso⟩
 | some t =>
  obtain ⟨q, hq, ht, hst, ⟨h4, hw⟩ | ⟨h7, hw⟩⟩ := RG.fin1 (rt := rt) (t := t) hk h
  ·obtain ⟨h1, hl, h2, h3⟩ := h.2.2.1.rest4 hk hso hq h4
   refine ⟨?_, ?_, fun x => ?_⟩
   ·rw [hst, h4]; unfold st1; dsimp only; rw [hw]; rfl
   ·rw [h1 1 (.inl rfl), if_pos rfl, ht]; unfold here1; dsimp only; rw [hw]; rfl
   ·rw [cnt_flat, h1 1 (.inl rfl), h1 2 (.inr rfl), if_pos rfl, if_neg (by decide)]
    have hp := cnt_perm h3 x
    rw [cnt_app] at hp
    have e0 : cnt [] x = 0 := rfl
    rcases hl with e | e | e <;> rw [e] at hp
    ·have a := h2 4 (.inr (.inl rfl)) (by rw [e]; decide)
     have b := h2 1 (.inr (.inr rfl)) (by rw [e]; decide)
     rw [a, b]; omega
    ·have a := h2 3 (.inl rfl) (by rw [e]; decide)
     have b := h2 1 (.inr (.inr rfl)) (by rw [e]; decide)
     rw [a, b]; omega
    ·have a := h2 3 (.inl rfl) (by rw [e]; decide)
     have b := h2 4 (.inr (.inl rfl)) (by rw [e]; decide)
     rw [a, b]; omega
  ·have hf : Far 6 s := h.2.2.1.rest6 fun q' hq' => by rw [hq] at hq'; injection hq' with e; rw [← e]; omega
   refine ⟨?_, ?_, far_cnt hf hk hso⟩
   ·rw [hst, h7]; unfold st1; dsimp only; rw [hw]; rfl
   ·rw [far_here hf hk (.inl rfl)]; unfold here1; dsimp only; rw [hw]; rfl
theorem RG.rep2 (hk : KS init s) (hso : ∀ L, IsL L → SortedI (init L)) (h : RG init 1 1 (R2 rt o) s P) : (s.as 1).state 1 = st2 init rt o ∧ ∀ t, cnt s.heres.flatten t = cnt (init 3) t + cnt (init 4) t + cnt (init 1) t := by
 have hf : Far 6 s := (Far.end_ hk h.2.1).2 h.2.2.2.1.1
 refine ⟨?_, far_cnt hf hk hso⟩
 cases o with
 | none => exact none_state h.2.2.2.1.2 1
 | some t =>
  obtain ⟨q, hq, ht⟩ : QT 1 t s := h.2.2.2.1.2
  have hr : s.b.rota = rt := h.2.2.2.2
  have h6 := hf 1 1 q hq
  have hrg := (hk.gi.di 1 1).qr q hq
  have hw := h.2.2.1.who hk hq
  rw [hr, ht] at hw
  rw [view_state hq]
  unfold st2
  dsimp only
  have h67 : q.st = 6 ∨ q.st = 7 := by omega
  rcases h67 with e | e
  ·rw [e, hw.1 (by omega) (by omega)]; rfl
  ·rw [e, hw.2 e]; rfl
theorem QT.ret {r t a n : Int} (ha : IsA a) (h : QT r t s) : QT r t (s.ret a n) := by
 obtain ⟨q0, h1, h2⟩ := h
 rcases ret_out (s.as a) n with ⟨e, -⟩ | ⟨q, hq, h4, e⟩
 ·have V : (s.ret a n).view 1 r = s.view 1 r := by
   unfold Lb.ret; rw [e]; exact view_sameA (s := s) (x := s.as a) rfl _ 1 r
  exact ⟨q0, by rw [V]; exact h1, h2⟩
 ·have hqn : q.n = n := (rq_some hq).2
  obtain ⟨q5, h5⟩ : ∃ q5 : Rq, q5 = { q with st := 5 } := ⟨_, rfl⟩
  have hn5 : q5.n = n := by rw [h5]; exact hqn
  have ht5 : q5.t = q.t := by rw [h5]
  rw [← h5] at e
  have V := view_setA (s := s) ha (({ s.as a with L := setQ q5 (s.as a).L } : Asr).tell q5 11).1 (s.W ++ (({ s.as a with L := setQ q5 (s.as a).L } : Asr).tell q5 11).2) (q := q5) (p := q) (by rw [hn5]; exact hq) (tell_L _ _ _).1
  rw [hn5] at V
  have es : s.ret a n = (⟨upd s.as a (({ s.as a with L := setQ q5 (s.as a).L } : Asr).tell q5 11).1, s.b, s.ls, s.W ++ (({ s.as a with L := setQ q5 (s.as a).L } : Asr).tell q5 11).2⟩ : Lb) := by unfold Lb.ret; rw [e]
  rw [es]
  by_cases e : 1 = a ∧ r = n
  ·obtain ⟨rfl, rfl⟩ := e
   have hv : (s.view 1 r).q = some q := by unfold Lb.view; dsimp only; rw [if_pos ha]; exact hq
   rw [hv] at h1
   injection h1 with h1
   subst h1
   exact ⟨q5, by rw [V.2], ht5.trans h2⟩
  ·exact ⟨q0, by rw [V.1 1 r e]; exact h1, h2⟩
theorem QT.retN {r t a : Int} (ha : IsA a) : ∀ (n : Nat) {s : Lb}, QT r t s → QT r t (Lb.retN a n s)
 | 0, _, h => h
 | n + 1, _, h => (QT.retN ha n h).ret ha
theorem QO.fin (h : QO o s) : QO o s.fin := by
 cases o with
 | none => exact fun f => (h f).fin
 | some t => exact QT.retN (a := 2) (.inr rfl) 6 (QT.retN (a := 1) (.inl rfl) 6 h)
theorem rota_retN {a : Int} : ∀ (n : Nat) {s : Lb}, (Lb.retN a n s).b = s.b
 | 0, _ => rfl
 | n + 1, _ => rota_retN n
theorem RO.fin (h : RO rt s) : RO rt s.fin := by
 unfold RO
 show (Lb.retN 2 6 (Lb.retN 1 6 s)).b.rota = rt
 rw [rota_retN, rota_retN]; exact h
theorem QG.fin {S : List Tr} {n k : Nat} (hk : KS init s) (hS : Cl S n) (hn : n = 1 ∨ n = 2) (h : RG init 1 1 (R1 rt o) s P) {ms : List Msg} (hW : s.fin.W = s.W ++ ms) (hl : ms.length ≤ 12) (hs : SentL 5 S k ms P P') : QG init 1 1 n (R2 rt o) s.fin P' := by
 have h5 : Far 5 s.fin := (Far.end_ hk h.2.1).1.fin4 hk
 obtain ⟨rfl, -, hT, hE⟩ := h
 exact QG.sent hk.fin hS hn hl (fun x hx => by rw [hW]; exact List.mem_append.2 (.inr hx)) hT.fin ⟨⟨h5, hE.1.2.fin⟩, hE.2.fin⟩ hs
theorem QG.begin {rt h3 h4 h1 : List Int} {S : List Tr} {n k k' : Nat} {l : List Int} (hl : l.length ≤ 1) (hk : KS init ((Lb.start rt h3 h4 h1).askN l (min l.length 7))) (hS : Cl S n) (hn : n = 1 ∨ n = 2)
  (hp : Pr S (Lb.start rt h3 h4 h1) ((Lb.start rt h3 h4 h1).askN l (min l.length 7)) k [] k' P') : QG init 1 1 n (R1 rt (l.head?.map fun x => 1 + x % 4)) ((Lb.start rt h3 h4 h1).askN l (min l.length 7)) P' := by
 obtain ⟨ms, hW, hn2, hs⟩ := hp
 cases l with
 | nil =>
  have hv : ∀ a r, ((Lb.start rt h3 h4 h1).askN [] (min ([] : List Int).length 7)).view a r = ⟨none, none, fun _ => none⟩ := fun a r => start_view a r
  have hms : ms = [] := by
   have : (Lb.start rt h3 h4 h1).W = (Lb.start rt h3 h4 h1).W ++ ms := hW
   have := congrArg List.length this
   rw [List.length_append] at this
   exact List.eq_nil_of_length_eq_zero (by omega)
  subst hms
  exact QG.sent hk hS hn (ms := []) (by simp) (fun x hx => by cases hx) ⟨fun a r q hq => (by rw [hv] at hq; cases hq), fun c hc => (by rw [hv] at hc; cases hc), fun L e he => (by rw [hv] at he; cases he)⟩ ⟨⟨fun a r q hq => (by rw [hv] at hq; cases hq), fun f a r q hq => (by rw [hv] at hq; cases hq)⟩, rfl⟩ hs
 | cons x l =>
  obtain rfl : l = [] := List.eq_nil_of_length_eq_zero (by rw [List.length_cons] at hl; omega)
  have ho := start_one (init := init) (rt := rt) (h3 := h3) (h4 := h4) (h1 := h1) (n := 1) (t := 1 + x % 4) (by omega) (by omega)
  have he : (Lb.start rt h3 h4 h1).askN [x] (min [x].length 7) = (Lb.start rt h3 h4 h1).ask 1 1 (1 + x % 4) := rfl
  rw [he] at hk hW ⊢
  have hlen : ms.length ≤ 12 := by
   have h2 : ((Lb.start rt h3 h4 h1).ask 1 1 (1 + x % 4)).W = (Lb.start rt h3 h4 h1).W ++ (((Lb.start rt h3 h4 h1).as 1).ask 1 (1 + x % 4)).1.2 := rfl
   rw [h2] at hW
   have hh3 := List.append_cancel_left hW
   have h4 := ask_len ((Lb.start rt h3 h4 h1).as 1) 1 (1 + x % 4)
   rw [← hh3]; omega
  exact QG.sent hk hS hn hlen (fun y hy => by rw [hW]; exact List.mem_append.2 (.inr hy)) ho.1 ho.2 hs
end
end Go.Proofs.YtdojgbpaheadnaaGreat
