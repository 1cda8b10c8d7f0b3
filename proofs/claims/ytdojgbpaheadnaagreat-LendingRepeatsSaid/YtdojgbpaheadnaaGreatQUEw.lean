/- The library of the law: copies go back. -/
import Derived.Test.YtdojgbpaheadnaaGreatQUE
import Derived.Test.YtdojgbpaheadnaaGreatQUR
set_option linter.unusedVariables false
set_option linter.unusedSimpArgs false

namespace Go.Proofs.YtdojgbpaheadnaaGreat
open Go.RowKit Go.Shelf Go.Maps Go.ChangeMaps
attribute [local go_sem] over_cell over_frozen

set_option maxRecDepth 100000 in
set_option maxHeartbeats 4000000 in
theorem finish_any {g : Lg} {Z : Nat → Nat → Prop} {w : World} {N : Nat} {S : List Tr} {P : List Pc} {sent : Nat} {s : Lb} (h : LibM g Z w N S P sent s) (hN : N < 80000) (hl : P.length ≤ 600000) (hs : sent ≤ 800000) :
  Calls Tryz.prog 38 #[.pointer (some ⟨g.xb, 0, none⟩)] w fun e w' => e = .returned (.tuple #[]) ∧ ∃ P' sent', Pr S s s.fin sent P sent' P' ∧ sent' ≤ sent + 12 ∧ Nx g Z w w' fun Z' => LibM g Z' w' (N + 12) S P' sent' s.fin := by
 have L0 := Lib.hid h
 clear h
 go_enter Tryz.func38, Tryz.ntmps38
 go_wp2_with fail
 go_loopw [2, 3, 4, 5] (fun i _ _ _ wr => ∃ (k : Nat) (P1 : List Pc) (n1 : Nat), k ≤ 2 ∧ i = .int .i64 k ∧ Pr S s (s.finK k) sent P n1 P1 ∧ n1 ≤ sent + 6 * k ∧ Nx g Z w wr fun Z' => LibM g Z' wr (N + 6 * k) S P1 n1 (s.finK k)) (fun i _ _ _ _ => 2 - (intOf i).toNat)
 case atStart => exact ⟨0, P, sent, by omega, rfl, Pr.refl _ _ _ _, by omega, Z, fun _ _ h => h, Tn.refl _ _, L0.out⟩
 case round =>
  obtain ⟨k, P1, n1, hk, rfl, hpr, hn1, Z1, hz1, ht1, hl1⟩ := hrel
  have PR := Lib.hid hpr
  have ZZ := Lib.hid hz1
  have TT := Lib.hid ht1
  have LL := Lib.hid hl1
  clear hpr hz1 ht1 hl1
  by_cases h0 : k = 0
  ·subst h0
   rw [show ((0 : Nat) : Int) = 0 from rfl]
   go_wp2_with fail
   go_loopw [3, 4, 5] (fun r _ _ wq => ∃ (n : Nat) (P2 : List Pc) (n2 : Nat), n ≤ 6 ∧ r = .int .i64 (n + 1 : Int) ∧ Pr S s (Lb.retN 1 n (s.finK 0)) sent P n2 P2 ∧ n2 ≤ sent + 6 * 0 + n ∧ Nx g Z w wq fun Z' => LibM g Z' wq (N + 6 * 0 + n) S P2 n2 (Lb.retN 1 n (s.finK 0))) (fun i _ _ _ => 7 - (intOf i).toNat)
   case atStart => exact ⟨0, P1, n1, by omega, rfl, PR.out, by omega, Z1, ZZ.out, TT.out, LL.out⟩
   case round =>
    obtain ⟨n, P2, n2, hn, rfl, hpr, hn2, Z2, hz2, ht2, hl2⟩ := hrel
    have hlen := hpr.len
    have PR2 := Lib.hid hpr
    have ZZ2 := Lib.hid hz2
    have TT2 := Lib.hid ht2
    have LL2 := Lib.hid hl2
    clear hpr hz2 ht2 hl2
    by_cases hlt : n < 6
    ·have C := LL2.out.cells
     have x0 := C.x0
     have a0 := C.a0
     clear C
     go_wp2_with fail
     refine (LibM.aret (a := 1) (.inl rfl) LL2.out (n + 1 : Int) (by omega) (by unfold I64; omega)).mono ?_
     rintro e w3 ⟨v, rfl, Z3, hz3, ht3, hl3, hr3⟩
     have L3 := Lib.hid hl3
     have R3 := Lib.hid hr3
     have T3 := Lib.hid (TT2.out.trans (ht3.mono fun k hk => Lg.F.mono ZZ2.out hk))
     have ZZ3 : Hid (∀ i k, Z i k → Z3 i k) := Lib.hid fun i k hk => hz3 i k (ZZ2.out i k hk)
     clear hl3 hr3 ht3 hz3 x0 a0
     go_wp2_with fail
     have hm1 := ret_len ((Lb.retN 1 n (s.finK 0)).as 1) (n + 1 : Int)
     refine (L3.out.send R3.out.1 R3.out.2 (by omega) (by omega) (by omega)).mono ?_
     rintro e w4 ⟨rfl, P4, hp4, Z4, hz4, ht4, hl4⟩
     have L4 := Lib.hid hl4
     have S4 := Lib.hid hp4
     have T4 := Lib.hid (T3.out.trans (ht4.mono fun k hk => Lg.F.mono ZZ3.out hk))
     have ZZ4 : Hid (∀ i k, Z i k → Z4 i k) := Lib.hid fun i k hk => hz4 i k (ZZ3.out i k hk)
     have M1 := Lib.hid hm1
     clear hp4 hl4 ht4 hz4 L3 R3 T3 ZZ3 hm1 hlen
     go_wp2_with fail
     go_roundw
     case rel => exact ⟨n + 1, P4, n2 + (((Lb.retN 1 n (s.finK 0)).as 1).ret (n + 1 : Int)).1.2.length, hlt, by go_num, PR2.out.trans ⟨_, rfl, rfl, S4.out⟩, by have := M1.out; omega, Z4, ZZ4.out, T4.out, L4.out⟩
     case measure => simp [intOf]; omega
    ·obtain rfl : n = 6 := by omega
     go_wp2_with fail
     go_roundw
     case rel => exact ⟨0 + 1, P2, n2, by omega, by go_num, PR2.out, by omega, Z2, ZZ2.out, TT2.out, LL2.out⟩
     case measure => simp [intOf]
  by_cases h1 : k = 1
  ·subst h1
   rw [show ((1 : Nat) : Int) = 1 from rfl]
   go_wp2_with fail
   go_loopw [3, 4, 5] (fun r _ _ wq => ∃ (n : Nat) (P2 : List Pc) (n2 : Nat), n ≤ 6 ∧ r = .int .i64 (n + 1 : Int) ∧ Pr S s (Lb.retN 2 n (s.finK 1)) sent P n2 P2 ∧ n2 ≤ sent + 6 * 1 + n ∧ Nx g Z w wq fun Z' => LibM g Z' wq (N + 6 * 1 + n) S P2 n2 (Lb.retN 2 n (s.finK 1))) (fun i _ _ _ => 7 - (intOf i).toNat)
   case atStart => exact ⟨0, P1, n1, by omega, rfl, PR.out, by omega, Z1, ZZ.out, TT.out, LL.out⟩
   case round =>
    obtain ⟨n, P2, n2, hn, rfl, hpr, hn2, Z2, hz2, ht2, hl2⟩ := hrel
    have hlen := hpr.len
    have PR2 := Lib.hid hpr
    have ZZ2 := Lib.hid hz2
    have TT2 := Lib.hid ht2
    have LL2 := Lib.hid hl2
    clear hpr hz2 ht2 hl2
    by_cases hlt : n < 6
    ·have C := LL2.out.cells
     have x0 := C.x0
     have a1 := C.a1
     clear C
     go_wp2_with fail
     refine (LibM.aret (a := 2) (.inr rfl) LL2.out (n + 1 : Int) (by omega) (by unfold I64; omega)).mono ?_
     rintro e w3 ⟨v, rfl, Z3, hz3, ht3, hl3, hr3⟩
     have L3 := Lib.hid hl3
     have R3 := Lib.hid hr3
     have T3 := Lib.hid (TT2.out.trans (ht3.mono fun k hk => Lg.F.mono ZZ2.out hk))
     have ZZ3 : Hid (∀ i k, Z i k → Z3 i k) := Lib.hid fun i k hk => hz3 i k (ZZ2.out i k hk)
     clear hl3 hr3 ht3 hz3 x0 a1
     go_wp2_with fail
     have hm1 := ret_len ((Lb.retN 2 n (s.finK 1)).as 2) (n + 1 : Int)
     refine (L3.out.send R3.out.1 R3.out.2 (by omega) (by omega) (by omega)).mono ?_
     rintro e w4 ⟨rfl, P4, hp4, Z4, hz4, ht4, hl4⟩
     have L4 := Lib.hid hl4
     have S4 := Lib.hid hp4
     have T4 := Lib.hid (T3.out.trans (ht4.mono fun k hk => Lg.F.mono ZZ3.out hk))
     have ZZ4 : Hid (∀ i k, Z i k → Z4 i k) := Lib.hid fun i k hk => hz4 i k (ZZ3.out i k hk)
     have M1 := Lib.hid hm1
     clear hp4 hl4 ht4 hz4 L3 R3 T3 ZZ3 hm1 hlen
     go_wp2_with fail
     go_roundw
     case rel => exact ⟨n + 1, P4, n2 + (((Lb.retN 2 n (s.finK 1)).as 2).ret (n + 1 : Int)).1.2.length, hlt, by go_num, PR2.out.trans ⟨_, rfl, rfl, S4.out⟩, by have := M1.out; omega, Z4, ZZ4.out, T4.out, L4.out⟩
     case measure => simp [intOf]; omega
    ·obtain rfl : n = 6 := by omega
     go_wp2_with fail
     go_roundw
     case rel => exact ⟨1 + 1, P2, n2, by omega, by go_num, PR2.out, by omega, Z2, ZZ2.out, TT2.out, LL2.out⟩
     case measure => simp [intOf]
  ·obtain rfl : k = 2 := by omega
   go_wp2_with fail
   refine bodyPost_end (results_none rfl _ _ _) rfl ?_
   exact ⟨rfl, P1, n1, PR.out, by omega, Z1, ZZ.out, TT.out, LL.out⟩
end Go.Proofs.YtdojgbpaheadnaaGreat

/- The library all along: copies go back. -/
namespace Go.Proofs.YtdojgbpaheadnaaGreat
open Go.RowKit Go.Shelf Go.Maps Go.ChangeMaps

section
variable {w : World} {g : Lg} {S : List Tr} {init : Int → List Int} {D : Nat → Prop} {b : Nat} {Q : Lb → List Pc → Prop} {wr : World}
theorem RunJ.finish (hb : b ≤ 50000) {Q' : Lb → List Pc → Prop} (hQ : ∀ s P P' ms n, KS init s → Q s P → s.fin.W = s.W ++ ms → ms.length ≤ 12 → SentL 5 S n ms P P' → Q' s.fin P') (h : RunJ w g S init D b Q wr) :
  Calls Tryz.prog 38 #[.pointer (some ⟨g.xb, 0, none⟩)] wr fun e w' => e = .returned (.tuple #[]) ∧ RunJ w g S init D (b + 12) Q' w' := by
 obtain ⟨Z, N, sent, P, s, h1, h2, h3, h4, h5, h6, h7, h8, h9⟩ := h
 refine (finish_any h1 (by omega) (by omega) (by omega)).mono ?_
 rintro e w' ⟨rfl, P', sent', hP, hs, hn⟩
 have hl := hP.len
 obtain ⟨ms, g1, g2, g3⟩ := hP
 exact ⟨rfl, RunJ.nx h7 h8 hn h2.fin ((show Pr S s s.fin sent P sent' P' from ⟨ms, g1, g2, g3⟩).mem h3) (by omega) (by omega) (by omega) (hQ s P P' ms sent h2 h9 g1 (by omega) g3)⟩
end
end Go.Proofs.YtdojgbpaheadnaaGreat
