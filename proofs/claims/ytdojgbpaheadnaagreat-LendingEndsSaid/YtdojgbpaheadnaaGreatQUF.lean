/- The library of the law: askers ask. -/
import Derived.Test.YtdojgbpaheadnaaGreatQUE
import Derived.Test.YtdojgbpaheadnaaGreatQRS
set_option linter.unusedVariables false
set_option linter.unusedSimpArgs false

namespace Go.Proofs.YtdojgbpaheadnaaGreat
open Go.RowKit Go.Shelf Go.Maps Go.ChangeMaps
attribute [local go_sem] over_cell over_frozen

theorem U8.tn {F : Nat → Prop} {w w' : World} {a : Option Addr} {L : List Int} {cap : Nat} (h : U8 w a L cap) (t : Tn F w w') (hF : L ≠ [] → ∀ b o, a = some ⟨b, o, none⟩ → ¬ F b) : U8 w' a L cap := by
 refine ⟨?_, h.bd, h.len⟩
 rcases h.at_ with h1 | ⟨b, o, h1, h2, h3⟩
 ·exact .inl h1
 ·exact .inr ⟨b, o, h1, Nat.lt_of_lt_of_le h2 t.size, fun k hk => t.cell (h3 k hk) (hF (fun e => by rw [e] at hk; cases hk) b o h1)⟩
theorem U8.get {w : World} {a : Option Addr} {L : List Int} {cap : Nat} (h : U8 w a L cap) {k : Nat} (hk : k < L.length) : ∃ b o, a = some ⟨b, o, none⟩ ∧ w.cell? ⟨b, o + k, none⟩ = some (.int .u8 (L.getD k 0)) ∧ 0 ≤ L.getD k 0 ∧ L.getD k 0 < 256 := by
 rcases h.at_ with h1 | ⟨b, o, h1, h2, h3⟩
 ·subst h1; cases hk
 ·exact ⟨b, o, h1, h3 k hk, h.bd k hk⟩
theorem wrap_small {x : Int} (h1 : -1000000 ≤ x) (h2 : x ≤ 1000000) : IntKind.i64.wrap x = x := by rw [IntKind.wrap_i64]; omega
def Lb.askN (l : List Int) : Nat → Lb → Lb
 | 0, s => s
 | n + 1, s => (Lb.askN l n s).ask (if n % 2 = 0 then 1 else 2) (1 + (n / 2 : Nat)) (1 + l.getD n 0 % 4)
theorem KS.askN {init : Int → List Int} (l : List Int) : ∀ (n : Nat) {s : Lb}, n ≤ 7 → KS init s → KS init (Lb.askN l n s)
 | 0, _, _, h => h
 | n + 1, _, hn, h => (KS.askN l n (by omega) h).ask (by unfold IsA; split <;> simp) (by omega) (by omega)
set_option maxRecDepth 100000 in
set_option maxHeartbeats 8000000 in
theorem asks_any {g : Lg} {Z : Nat → Nat → Prop} {w : World} {N : Nat} {S : List Tr} {P : List Pc} {sent : Nat} {s : Lb} (h : LibM g Z w N S P sent s) (l : List Int) (a : Option Addr) (cap : Nat) (hu : U8 w a l cap) (hc : l.length ≤ cap ∧ cap ≤ 9223372036854775807) (ha : l ≠ [] → ∀ b o, a = some ⟨b, o, none⟩ → b < g.B0) (hN : N < 80000) (hl : P.length ≤ 600000) (hs : sent ≤ 800000) :
  Calls Tryz.prog 36 #[.pointer (some ⟨g.xb, 0, none⟩), .slice a l.length cap] w fun e w' => e = .returned (.tuple #[]) ∧ ∃ P' sent', Pr S s (s.askN l (min l.length 7)) sent P sent' P' ∧ sent' ≤ sent + 7 ∧ Nx g Z w w' fun Z' => LibM g Z' w' (N + 7) S P' sent' (s.askN l (min l.length 7)) := by
 have L0 := Lib.hid h
 have HU := Lib.hid hu
 have HA := Lib.hid ha
 obtain ⟨n, hn⟩ : ∃ n, n = l.length := ⟨_, rfl⟩
 have HN := Lib.hid hn
 rw [← hn] at hc ⊢
 obtain ⟨hc1, hc2⟩ := hc
 clear h hu ha hn
 go_enter Tryz.func36, Tryz.ntmps36
 go_wp2_with fail
 go_loopw [4, 5, 6] (fun i _ _ wr => ∃ (k : Nat) (P1 : List Pc) (n1 : Nat), k ≤ min n 7 ∧ i = .int .i64 k ∧ Pr S s (s.askN l k) sent P n1 P1 ∧ n1 ≤ sent + k ∧ Nx g Z w wr fun Z' => LibM g Z' wr (N + k) S P1 n1 (s.askN l k)) (fun i _ _ _ => 8 - (intOf i).toNat)
 case atStart => exact ⟨0, P, sent, by omega, rfl, Pr.refl _ _ _ _, by omega, Z, fun _ _ h => h, Tn.refl _ _, L0.out⟩
 case round =>
  obtain ⟨k, P1, n1, hk, rfl, hpr, hn1, Z1, hz1, ht1, hl1⟩ := hrel
  have hlen := hpr.len
  have PR := Lib.hid hpr
  have ZZ := Lib.hid hz1
  have TT := Lib.hid ht1
  have LL := Lib.hid hl1
  clear hpr hz1 ht1 hl1
  by_cases hlt : k < n
  ·by_cases h7 : k < 7
   ·obtain ⟨b, o, rfl, hcell, hb0, hb1⟩ := (HU.out.tn TT.out fun hne b o e hF => by have := HA.out hne b o e; have := hF.1; omega).get (k := k) (by rw [← HN.out]; exact hlt)
    obtain ⟨x, hx⟩ : ∃ x, x = l.getD k 0 := ⟨_, rfl⟩
    rw [← hx] at hcell hb0 hb1
    have HB : Hid (b < g.B0) := Lib.hid (HA.out (fun e => by have := HN.out; rw [e] at this; simp at this; omega) b o rfl)
    have h8 : k = 0 ∨ k = 1 ∨ k = 2 ∨ k = 3 ∨ k = 4 ∨ k = 5 ∨ k = 6 := by omega
    have HX := Lib.hid hx
    clear h7 hx
    rcases h8 with h | h | h | h | h | h | h
    ·skip
     subst h
     rw [show ((0 : Nat) : Int) = 0 from rfl]
     have hcell : wr.cell? ⟨b, o, none⟩ = some (.int .u8 x) := hcell
     have hTd : Hid (Tn (g.F Z) w wr.drew) := Lib.hid (TT.out.drewN 1)
     obtain ⟨S', hS'⟩ : ∃ S' : World → Prop, S' = fun W => LibC g W ∧ W.cell? ⟨b, o, none⟩ = some (.int .u8 x) := ⟨_, rfl⟩
     have LDD : Hid (∀ W, S' W → LibC g W ∧ W.cell? ⟨b, o, none⟩ = some (.int .u8 x)) := Lib.hid (by rw [hS']; exact fun W h => h)
     have UU : Hid (∀ W, LibC g W → W.cell? ⟨b, o, none⟩ = some (.int .u8 x) → S' W) := Lib.hid (by rw [hS']; exact fun W a b => ⟨a, b⟩)
     have Ld := Lib.hid (LL.out.up' (w' := wr.drew) (bdrewN (Below.refl _ _) 1))
     have hHeld := UU.out wr.drew Ld.out.cells hcell
     have KC := Lib.hid hcell
     clear hS' hcell
     go_wp2_with fail
     refine wp_region_held_drew (S := S') (by kernel_rfl) hHeld (fun _ => ?_)
     apply wpAnyH_apartV (fun (v : Value) W => ∃ (Z2 : Nat → Nat → Prop), LibM g Z2 W (N + 0 + 1) S P1 n1 ((s.askN l 0).ask 1 1 (1 + x % 4)) ∧ (∀ i k, Z1 i k → Z2 i k) ∧ Tn (g.F Z1) wr W ∧ RowZ wr.drew Z2 v W (((s.askN l 0).as 1).ask 1 (1 + x % 4)).1.2)
     case take =>
      intro R hR
      refine tk 0 (v := ?_) rfl hHeld ?_ ?_; rotate_left
      ·(intro w hSw; (obtain ⟨C, t1⟩ := LDD.out w hSw; have x0 := C.x0; have a0 := C.a0; have a1 := C.a1; clear C); go_simp; try (with_reducible rfl))
      try simp only [gZ]
      refine tk 1 (v := ?_) rfl hHeld ?_ ?_; rotate_left
      ·(intro w hSw; (obtain ⟨C, t1⟩ := LDD.out w hSw; have x0 := C.x0; have a0 := C.a0; have a1 := C.a1; clear C); go_simp; try (with_reducible rfl))
      try simp only [gZ]
      refine tk 2 (v := ?_) rfl hHeld ?_ ?_; rotate_left
      ·(intro w hSw; (obtain ⟨C, t1⟩ := LDD.out w hSw; have x0 := C.x0; have a0 := C.a0; have a1 := C.a1; clear C); go_simp; try (with_reducible rfl))
      try simp only [gZ]
      refine tk 3 (v := ?_) rfl hHeld ?_ ?_; rotate_left
      ·(intro w hSw; (obtain ⟨C, t1⟩ := LDD.out w hSw; have x0 := C.x0; have a0 := C.a0; have a1 := C.a1; clear C); go_simp; try (with_reducible rfl))
      try simp only [gZ]
      refine tk 4 (v := ?_) rfl hHeld ?_ ?_; rotate_left
      ·(intro w hSw; (obtain ⟨C, t1⟩ := LDD.out w hSw; have x0 := C.x0; have a0 := C.a0; have a1 := C.a1; clear C); go_simp; try (with_reducible rfl))
      try simp only [gZ]
      refine tk 5 (v := ?_) rfl hHeld ?_ ?_; rotate_left
      ·(intro w hSw; clear hSw; go_simp; exact (rfl : _ = i64 0); try (with_reducible rfl))
      try simp only [gZ]
      refine tk 6 (v := ?_) rfl hHeld ?_ ?_; rotate_left
      ·(intro w hSw; (obtain ⟨C, t1⟩ := LDD.out w hSw; have x0 := C.x0; have a0 := C.a0; have a1 := C.a1; clear C); go_simp; try (with_reducible rfl))
      try simp only [gZ]
      refine tk 7 (v := ?_) rfl hHeld ?_ ?_; rotate_left
      ·(intro w hSw; (obtain ⟨C, t1⟩ := LDD.out w hSw; have x0 := C.x0; have a0 := C.a0; have a1 := C.a1; clear C); go_simp; try (with_reducible rfl))
      try simp only [gZ]
      refine tk 8 (v := ?_) rfl hHeld ?_ ?_; rotate_left
      ·(intro w hSw; (obtain ⟨C, t1⟩ := LDD.out w hSw; have x0 := C.x0; have a0 := C.a0; have a1 := C.a1; clear C); go_simp; try (with_reducible rfl))
      try simp only [gZ]
      refine tk 9 (v := ?_) rfl hHeld ?_ ?_; rotate_left
      ·(intro w hSw; clear hSw; go_simp; exact (rfl : _ = i64 0); try (with_reducible rfl))
      try simp only [gZ]
      refine tk 10 (v := ?_) rfl hHeld ?_ ?_; rotate_left
      ·(intro w hSw; clear hSw; go_simp; exact (rfl : _ = i64 1); try (with_reducible rfl))
      try simp only [gZ]
      refine tk 11 (v := ?_) rfl hHeld ?_ ?_; rotate_left
      ·(intro w hSw; (obtain ⟨C, t1⟩ := LDD.out w hSw; have x0 := C.x0; have a0 := C.a0; have a1 := C.a1; clear C); go_simp; try (with_reducible rfl))
      try simp only [gZ]
      refine tk 12 (v := ?_) rfl hHeld ?_ ?_; rotate_left
      ·(intro w hSw; (obtain ⟨C, t1⟩ := LDD.out w hSw; have x0 := C.x0; have a0 := C.a0; have a1 := C.a1; clear C); go_simp; try (with_reducible rfl))
      try simp only [gZ]
      refine tk 13 (v := ?_) rfl hHeld ?_ ?_; rotate_left
      ·(intro w hSw; (obtain ⟨C, t1⟩ := LDD.out w hSw; have x0 := C.x0; have a0 := C.a0; have a1 := C.a1; clear C); go_simp; try (with_reducible rfl))
      try simp only [gZ]
      refine tk 14 (v := ?_) rfl hHeld ?_ ?_; rotate_left
      ·(intro w hSw; (obtain ⟨C, t1⟩ := LDD.out w hSw; have x0 := C.x0; have a0 := C.a0; have a1 := C.a1; clear C); go_simp; try (with_reducible rfl))
      try simp only [gZ]
      refine tk 15 (v := ?_) rfl hHeld ?_ ?_; rotate_left
      ·(intro w hSw; clear hSw; go_simp; exact (congrArg (Value.int IntKind.u8) (Int.tmod_eq_emod_of_nonneg hb0) : _ = Value.int IntKind.u8 (x % 4)); try (with_reducible rfl))
      try simp only [gZ]
      refine tk 16 (v := ?_) rfl hHeld ?_ ?_; rotate_left
      ·(intro w hSw; clear hSw; go_simp; exact (congrArg (Value.int IntKind.i64) (wrap_small (by omega) (by omega)) : _ = i64 (x % 4)); try (with_reducible rfl))
      try simp only [gZ]
      refine tk 17 (v := ?_) rfl hHeld ?_ ?_; rotate_left
      ·(intro w hSw; clear hSw; go_simp; exact (congrArg (Value.int IntKind.i64) (wrap_small (by omega) (by omega)) : _ = i64 (1 + x % 4)); try (with_reducible rfl))
      try simp only [gZ]
      refine wpAnyH_one (i := 18) rfl (by kernel_rfl) (by rfl) ?_
      go_simp
      refine (LibM.aask (a := 1) (.inl rfl) Ld.out 1 (1 + x % 4) (by omega) (i64_small (by omega)) (i64_small (by omega))).mono ?_
      rintro e W2 ⟨v2, rfl, Z2, hz2, ht2, hl2, hr2⟩
      have V2 : W2.cell? ⟨b, o, none⟩ = some (.int .u8 x) := ht2.cell KC.out fun e => absurd HB.out (Nat.not_lt.2 e.1)
      refine ⟨UU.out W2 hl2.cells V2, ?_⟩
      have hHeld := UU.out W2 hl2.cells V2
      refine tk 19 (v := ?_) rfl hHeld ?_ ?_; rotate_left
      ·(intro w hSw; clear hSw; go_simp; try (with_reducible rfl))
      try simp only [gZ]
      refine tk 20 (v := ?_) rfl hHeld ?_ ?_; rotate_left
      ·(intro w hSw; clear hSw; go_simp; try (with_reducible rfl))
      try simp only [gZ]
      refine tk 21 (v := ?_) rfl hHeld ?_ ?_; rotate_left
      ·(intro w hSw; clear hSw; go_simp; try (with_reducible rfl))
      try simp only [gZ]
      refine tk 22 (v := ?_) rfl hHeld ?_ ?_; rotate_left
      ·(intro w hSw; clear hSw; go_simp; try (with_reducible rfl))
      try simp only [gZ]
      refine tk 23 (v := ?_) rfl hHeld ?_ ?_; rotate_left
      ·(intro w hSw; clear hSw; go_simp; try (with_reducible rfl))
      try simp only [gZ]
      exact wpAnyH_done (by kernel_rfl) ⟨rfl, hR v2 W2 ⟨Z2, hl2, hz2, ((Tn.refl _ _).drewN 1).trans ht2, hr2⟩⟩ _
     case rest =>
      rintro v W ⟨Z2, h1, h2, h3, h4⟩
      have L2 := Lib.hid h1
      have R2 := Lib.hid h4
      have T2 : Hid (Tn (g.F Z) w W) := Lib.hid (TT.out.trans (h3.mono fun k hk => Lg.F.mono ZZ.out hk))
      have ZZ2 : Hid (∀ i k, Z i k → Z2 i k) := Lib.hid fun i k hk => h2 i k (ZZ.out i k hk)
      clear h1 h2 h3 h4 hHeld Ld UU LDD KC hTd
      have hm1 := ask_len ((s.askN l 0).as 1) 1 (1 + x % 4)
      go_wp2_with fail
      refine (L2.out.send R2.out.1 R2.out.2 (by omega) (by omega) (by omega)).mono ?_
      rintro e w4 ⟨rfl, P4, hp4, Z4, hz4, ht4, hl4⟩
      have L4 := Lib.hid hl4
      have S4 := Lib.hid hp4
      have T4 := Lib.hid (T2.out.trans (ht4.mono fun k hk => Lg.F.mono ZZ2.out hk))
      have ZZ4 : Hid (∀ i k, Z i k → Z4 i k) := Lib.hid fun i k hk => hz4 i k (ZZ2.out i k hk)
      have M1 := Lib.hid hm1
      have hnext : s.askN l (0 + 1) = (s.askN l 0).ask 1 1 (1 + x % 4) := by rw [HX.out]; rfl
      have NX := Lib.hid hnext
      clear hp4 hl4 ht4 hz4 hm1 hlen hnext
      go_wp2_with fail
      go_roundw
      case rel => exact ⟨0 + 1, P4, n1 + (((s.askN l 0).as 1).ask 1 (1 + x % 4)).1.2.length, by omega, by go_num, PR.out.trans ⟨_, by rw [NX.out]; rfl, rfl, S4.out⟩, by have := M1.out; omega, Z4, ZZ4.out, T4.out, by rw [NX.out]; exact L4.out⟩
      case measure => simp [intOf]
    ·skip
     subst h
     rw [show ((1 : Nat) : Int) = 1 from rfl]
     have hcell : wr.cell? ⟨b, o + 1, none⟩ = some (.int .u8 x) := hcell
     have hTd : Hid (Tn (g.F Z) w wr.drew) := Lib.hid (TT.out.drewN 1)
     obtain ⟨S', hS'⟩ : ∃ S' : World → Prop, S' = fun W => LibC g W ∧ W.cell? ⟨b, o + 1, none⟩ = some (.int .u8 x) := ⟨_, rfl⟩
     have LDD : Hid (∀ W, S' W → LibC g W ∧ W.cell? ⟨b, o + 1, none⟩ = some (.int .u8 x)) := Lib.hid (by rw [hS']; exact fun W h => h)
     have UU : Hid (∀ W, LibC g W → W.cell? ⟨b, o + 1, none⟩ = some (.int .u8 x) → S' W) := Lib.hid (by rw [hS']; exact fun W a b => ⟨a, b⟩)
     have Ld := Lib.hid (LL.out.up' (w' := wr.drew) (bdrewN (Below.refl _ _) 1))
     have hHeld := UU.out wr.drew Ld.out.cells hcell
     have KC := Lib.hid hcell
     clear hS' hcell
     go_wp2_with fail
     refine wp_region_held_drew (S := S') (by kernel_rfl) hHeld (fun _ => ?_)
     apply wpAnyH_apartV (fun (v : Value) W => ∃ (Z2 : Nat → Nat → Prop), LibM g Z2 W (N + 1 + 1) S P1 n1 ((s.askN l 1).ask 2 1 (1 + x % 4)) ∧ (∀ i k, Z1 i k → Z2 i k) ∧ Tn (g.F Z1) wr W ∧ RowZ wr.drew Z2 v W (((s.askN l 1).as 2).ask 1 (1 + x % 4)).1.2)
     case take =>
      intro R hR
      refine tk 0 (v := ?_) rfl hHeld ?_ ?_; rotate_left
      ·(intro w hSw; (obtain ⟨C, t1⟩ := LDD.out w hSw; have x0 := C.x0; have a0 := C.a0; have a1 := C.a1; clear C); go_simp; try (with_reducible rfl))
      try simp only [gZ]
      refine tk 1 (v := ?_) rfl hHeld ?_ ?_; rotate_left
      ·(intro w hSw; (obtain ⟨C, t1⟩ := LDD.out w hSw; have x0 := C.x0; have a0 := C.a0; have a1 := C.a1; clear C); go_simp; try (with_reducible rfl))
      try simp only [gZ]
      refine tk 2 (v := ?_) rfl hHeld ?_ ?_; rotate_left
      ·(intro w hSw; (obtain ⟨C, t1⟩ := LDD.out w hSw; have x0 := C.x0; have a0 := C.a0; have a1 := C.a1; clear C); go_simp; try (with_reducible rfl))
      try simp only [gZ]
      refine tk 3 (v := ?_) rfl hHeld ?_ ?_; rotate_left
      ·(intro w hSw; (obtain ⟨C, t1⟩ := LDD.out w hSw; have x0 := C.x0; have a0 := C.a0; have a1 := C.a1; clear C); go_simp; try (with_reducible rfl))
      try simp only [gZ]
      refine tk 4 (v := ?_) rfl hHeld ?_ ?_; rotate_left
      ·(intro w hSw; (obtain ⟨C, t1⟩ := LDD.out w hSw; have x0 := C.x0; have a0 := C.a0; have a1 := C.a1; clear C); go_simp; try (with_reducible rfl))
      try simp only [gZ]
      refine tk 5 (v := ?_) rfl hHeld ?_ ?_; rotate_left
      ·(intro w hSw; clear hSw; go_simp; exact (rfl : _ = i64 1); try (with_reducible rfl))
      try simp only [gZ]
      refine tk 6 (v := ?_) rfl hHeld ?_ ?_; rotate_left
      ·(intro w hSw; (obtain ⟨C, t1⟩ := LDD.out w hSw; have x0 := C.x0; have a0 := C.a0; have a1 := C.a1; clear C); go_simp; try (with_reducible rfl))
      try simp only [gZ]
      refine tk 7 (v := ?_) rfl hHeld ?_ ?_; rotate_left
      ·(intro w hSw; (obtain ⟨C, t1⟩ := LDD.out w hSw; have x0 := C.x0; have a0 := C.a0; have a1 := C.a1; clear C); go_simp; try (with_reducible rfl))
      try simp only [gZ]
      refine tk 8 (v := ?_) rfl hHeld ?_ ?_; rotate_left
      ·(intro w hSw; (obtain ⟨C, t1⟩ := LDD.out w hSw; have x0 := C.x0; have a0 := C.a0; have a1 := C.a1; clear C); go_simp; try (with_reducible rfl))
      try simp only [gZ]
      refine tk 9 (v := ?_) rfl hHeld ?_ ?_; rotate_left
      ·(intro w hSw; clear hSw; go_simp; exact (rfl : _ = i64 0); try (with_reducible rfl))
      try simp only [gZ]
      refine tk 10 (v := ?_) rfl hHeld ?_ ?_; rotate_left
      ·(intro w hSw; clear hSw; go_simp; exact (rfl : _ = i64 1); try (with_reducible rfl))
      try simp only [gZ]
      refine tk 11 (v := ?_) rfl hHeld ?_ ?_; rotate_left
      ·(intro w hSw; (obtain ⟨C, t1⟩ := LDD.out w hSw; have x0 := C.x0; have a0 := C.a0; have a1 := C.a1; clear C); go_simp; try (with_reducible rfl))
      try simp only [gZ]
      refine tk 12 (v := ?_) rfl hHeld ?_ ?_; rotate_left
      ·(intro w hSw; (obtain ⟨C, t1⟩ := LDD.out w hSw; have x0 := C.x0; have a0 := C.a0; have a1 := C.a1; clear C); go_simp; try (with_reducible rfl))
      try simp only [gZ]
      refine tk 13 (v := ?_) rfl hHeld ?_ ?_; rotate_left
      ·(intro w hSw; (obtain ⟨C, t1⟩ := LDD.out w hSw; have x0 := C.x0; have a0 := C.a0; have a1 := C.a1; clear C); go_simp; try (with_reducible rfl))
      try simp only [gZ]
      refine tk 14 (v := ?_) rfl hHeld ?_ ?_; rotate_left
      ·(intro w hSw; (obtain ⟨C, t1⟩ := LDD.out w hSw; have x0 := C.x0; have a0 := C.a0; have a1 := C.a1; clear C); go_simp; try (with_reducible rfl))
      try simp only [gZ]
      refine tk 15 (v := ?_) rfl hHeld ?_ ?_; rotate_left
      ·(intro w hSw; clear hSw; go_simp; exact (congrArg (Value.int IntKind.u8) (Int.tmod_eq_emod_of_nonneg hb0) : _ = Value.int IntKind.u8 (x % 4)); try (with_reducible rfl))
      try simp only [gZ]
      refine tk 16 (v := ?_) rfl hHeld ?_ ?_; rotate_left
      ·(intro w hSw; clear hSw; go_simp; exact (congrArg (Value.int IntKind.i64) (wrap_small (by omega) (by omega)) : _ = i64 (x % 4)); try (with_reducible rfl))
      try simp only [gZ]
      refine tk 17 (v := ?_) rfl hHeld ?_ ?_; rotate_left
      ·(intro w hSw; clear hSw; go_simp; exact (congrArg (Value.int IntKind.i64) (wrap_small (by omega) (by omega)) : _ = i64 (1 + x % 4)); try (with_reducible rfl))
      try simp only [gZ]
      refine wpAnyH_one (i := 18) rfl (by kernel_rfl) (by rfl) ?_
      go_simp
      refine (LibM.aask (a := 2) (.inr rfl) Ld.out 1 (1 + x % 4) (by omega) (i64_small (by omega)) (i64_small (by omega))).mono ?_
      rintro e W2 ⟨v2, rfl, Z2, hz2, ht2, hl2, hr2⟩
      have V2 : W2.cell? ⟨b, o + 1, none⟩ = some (.int .u8 x) := ht2.cell KC.out fun e => absurd HB.out (Nat.not_lt.2 e.1)
      refine ⟨UU.out W2 hl2.cells V2, ?_⟩
      have hHeld := UU.out W2 hl2.cells V2
      refine tk 19 (v := ?_) rfl hHeld ?_ ?_; rotate_left
      ·(intro w hSw; clear hSw; go_simp; try (with_reducible rfl))
      try simp only [gZ]
      refine tk 20 (v := ?_) rfl hHeld ?_ ?_; rotate_left
      ·(intro w hSw; clear hSw; go_simp; try (with_reducible rfl))
      try simp only [gZ]
      refine tk 21 (v := ?_) rfl hHeld ?_ ?_; rotate_left
      ·(intro w hSw; clear hSw; go_simp; try (with_reducible rfl))
      try simp only [gZ]
      refine tk 22 (v := ?_) rfl hHeld ?_ ?_; rotate_left
      ·(intro w hSw; clear hSw; go_simp; try (with_reducible rfl))
      try simp only [gZ]
      refine tk 23 (v := ?_) rfl hHeld ?_ ?_; rotate_left
      ·(intro w hSw; clear hSw; go_simp; try (with_reducible rfl))
      try simp only [gZ]
      exact wpAnyH_done (by kernel_rfl) ⟨rfl, hR v2 W2 ⟨Z2, hl2, hz2, ((Tn.refl _ _).drewN 1).trans ht2, hr2⟩⟩ _
     case rest =>
      rintro v W ⟨Z2, h1, h2, h3, h4⟩
      have L2 := Lib.hid h1
      have R2 := Lib.hid h4
      have T2 : Hid (Tn (g.F Z) w W) := Lib.hid (TT.out.trans (h3.mono fun k hk => Lg.F.mono ZZ.out hk))
      have ZZ2 : Hid (∀ i k, Z i k → Z2 i k) := Lib.hid fun i k hk => h2 i k (ZZ.out i k hk)
      clear h1 h2 h3 h4 hHeld Ld UU LDD KC hTd
      have hm1 := ask_len ((s.askN l 1).as 2) 1 (1 + x % 4)
      go_wp2_with fail
      refine (L2.out.send R2.out.1 R2.out.2 (by omega) (by omega) (by omega)).mono ?_
      rintro e w4 ⟨rfl, P4, hp4, Z4, hz4, ht4, hl4⟩
      have L4 := Lib.hid hl4
      have S4 := Lib.hid hp4
      have T4 := Lib.hid (T2.out.trans (ht4.mono fun k hk => Lg.F.mono ZZ2.out hk))
      have ZZ4 : Hid (∀ i k, Z i k → Z4 i k) := Lib.hid fun i k hk => hz4 i k (ZZ2.out i k hk)
      have M1 := Lib.hid hm1
      have hnext : s.askN l (1 + 1) = (s.askN l 1).ask 2 1 (1 + x % 4) := by rw [HX.out]; rfl
      have NX := Lib.hid hnext
      clear hp4 hl4 ht4 hz4 hm1 hlen hnext
      go_wp2_with fail
      go_roundw
      case rel => exact ⟨1 + 1, P4, n1 + (((s.askN l 1).as 2).ask 1 (1 + x % 4)).1.2.length, by omega, by go_num, PR.out.trans ⟨_, by rw [NX.out]; rfl, rfl, S4.out⟩, by have := M1.out; omega, Z4, ZZ4.out, T4.out, by rw [NX.out]; exact L4.out⟩
      case measure => simp [intOf]
    ·skip
     subst h
     rw [show ((2 : Nat) : Int) = 2 from rfl]
     have hcell : wr.cell? ⟨b, o + 2, none⟩ = some (.int .u8 x) := hcell
     have hTd : Hid (Tn (g.F Z) w wr.drew) := Lib.hid (TT.out.drewN 1)
     obtain ⟨S', hS'⟩ : ∃ S' : World → Prop, S' = fun W => LibC g W ∧ W.cell? ⟨b, o + 2, none⟩ = some (.int .u8 x) := ⟨_, rfl⟩
     have LDD : Hid (∀ W, S' W → LibC g W ∧ W.cell? ⟨b, o + 2, none⟩ = some (.int .u8 x)) := Lib.hid (by rw [hS']; exact fun W h => h)
     have UU : Hid (∀ W, LibC g W → W.cell? ⟨b, o + 2, none⟩ = some (.int .u8 x) → S' W) := Lib.hid (by rw [hS']; exact fun W a b => ⟨a, b⟩)
     have Ld := Lib.hid (LL.out.up' (w' := wr.drew) (bdrewN (Below.refl _ _) 1))
     have hHeld := UU.out wr.drew Ld.out.cells hcell
     have KC := Lib.hid hcell
     clear hS' hcell
     go_wp2_with fail
     refine wp_region_held_drew (S := S') (by kernel_rfl) hHeld (fun _ => ?_)
     apply wpAnyH_apartV (fun (v : Value) W => ∃ (Z2 : Nat → Nat → Prop), LibM g Z2 W (N + 2 + 1) S P1 n1 ((s.askN l 2).ask 1 2 (1 + x % 4)) ∧ (∀ i k, Z1 i k → Z2 i k) ∧ Tn (g.F Z1) wr W ∧ RowZ wr.drew Z2 v W (((s.askN l 2).as 1).ask 2 (1 + x % 4)).1.2)
     case take =>
      intro R hR
      refine tk 0 (v := ?_) rfl hHeld ?_ ?_; rotate_left
      ·(intro w hSw; (obtain ⟨C, t1⟩ := LDD.out w hSw; have x0 := C.x0; have a0 := C.a0; have a1 := C.a1; clear C); go_simp; try (with_reducible rfl))
      try simp only [gZ]
      refine tk 1 (v := ?_) rfl hHeld ?_ ?_; rotate_left
      ·(intro w hSw; (obtain ⟨C, t1⟩ := LDD.out w hSw; have x0 := C.x0; have a0 := C.a0; have a1 := C.a1; clear C); go_simp; try (with_reducible rfl))
      try simp only [gZ]
      refine tk 2 (v := ?_) rfl hHeld ?_ ?_; rotate_left
      ·(intro w hSw; (obtain ⟨C, t1⟩ := LDD.out w hSw; have x0 := C.x0; have a0 := C.a0; have a1 := C.a1; clear C); go_simp; try (with_reducible rfl))
      try simp only [gZ]
      refine tk 3 (v := ?_) rfl hHeld ?_ ?_; rotate_left
      ·(intro w hSw; (obtain ⟨C, t1⟩ := LDD.out w hSw; have x0 := C.x0; have a0 := C.a0; have a1 := C.a1; clear C); go_simp; try (with_reducible rfl))
      try simp only [gZ]
      refine tk 4 (v := ?_) rfl hHeld ?_ ?_; rotate_left
      ·(intro w hSw; (obtain ⟨C, t1⟩ := LDD.out w hSw; have x0 := C.x0; have a0 := C.a0; have a1 := C.a1; clear C); go_simp; try (with_reducible rfl))
      try simp only [gZ]
      refine tk 5 (v := ?_) rfl hHeld ?_ ?_; rotate_left
      ·(intro w hSw; clear hSw; go_simp; exact (rfl : _ = i64 0); try (with_reducible rfl))
      try simp only [gZ]
      refine tk 6 (v := ?_) rfl hHeld ?_ ?_; rotate_left
      ·(intro w hSw; (obtain ⟨C, t1⟩ := LDD.out w hSw; have x0 := C.x0; have a0 := C.a0; have a1 := C.a1; clear C); go_simp; try (with_reducible rfl))
      try simp only [gZ]
      refine tk 7 (v := ?_) rfl hHeld ?_ ?_; rotate_left
      ·(intro w hSw; (obtain ⟨C, t1⟩ := LDD.out w hSw; have x0 := C.x0; have a0 := C.a0; have a1 := C.a1; clear C); go_simp; try (with_reducible rfl))
      try simp only [gZ]
      refine tk 8 (v := ?_) rfl hHeld ?_ ?_; rotate_left
      ·(intro w hSw; (obtain ⟨C, t1⟩ := LDD.out w hSw; have x0 := C.x0; have a0 := C.a0; have a1 := C.a1; clear C); go_simp; try (with_reducible rfl))
      try simp only [gZ]
      refine tk 9 (v := ?_) rfl hHeld ?_ ?_; rotate_left
      ·(intro w hSw; clear hSw; go_simp; exact (rfl : _ = i64 1); try (with_reducible rfl))
      try simp only [gZ]
      refine tk 10 (v := ?_) rfl hHeld ?_ ?_; rotate_left
      ·(intro w hSw; clear hSw; go_simp; exact (rfl : _ = i64 2); try (with_reducible rfl))
      try simp only [gZ]
      refine tk 11 (v := ?_) rfl hHeld ?_ ?_; rotate_left
      ·(intro w hSw; (obtain ⟨C, t1⟩ := LDD.out w hSw; have x0 := C.x0; have a0 := C.a0; have a1 := C.a1; clear C); go_simp; try (with_reducible rfl))
      try simp only [gZ]
      refine tk 12 (v := ?_) rfl hHeld ?_ ?_; rotate_left
      ·(intro w hSw; (obtain ⟨C, t1⟩ := LDD.out w hSw; have x0 := C.x0; have a0 := C.a0; have a1 := C.a1; clear C); go_simp; try (with_reducible rfl))
      try simp only [gZ]
      refine tk 13 (v := ?_) rfl hHeld ?_ ?_; rotate_left
      ·(intro w hSw; (obtain ⟨C, t1⟩ := LDD.out w hSw; have x0 := C.x0; have a0 := C.a0; have a1 := C.a1; clear C); go_simp; try (with_reducible rfl))
      try simp only [gZ]
      refine tk 14 (v := ?_) rfl hHeld ?_ ?_; rotate_left
      ·(intro w hSw; (obtain ⟨C, t1⟩ := LDD.out w hSw; have x0 := C.x0; have a0 := C.a0; have a1 := C.a1; clear C); go_simp; try (with_reducible rfl))
      try simp only [gZ]
      refine tk 15 (v := ?_) rfl hHeld ?_ ?_; rotate_left
      ·(intro w hSw; clear hSw; go_simp; exact (congrArg (Value.int IntKind.u8) (Int.tmod_eq_emod_of_nonneg hb0) : _ = Value.int IntKind.u8 (x % 4)); try (with_reducible rfl))
      try simp only [gZ]
      refine tk 16 (v := ?_) rfl hHeld ?_ ?_; rotate_left
      ·(intro w hSw; clear hSw; go_simp; exact (congrArg (Value.int IntKind.i64) (wrap_small (by omega) (by omega)) : _ = i64 (x % 4)); try (with_reducible rfl))
      try simp only [gZ]
      refine tk 17 (v := ?_) rfl hHeld ?_ ?_; rotate_left
      ·(intro w hSw; clear hSw; go_simp; exact (congrArg (Value.int IntKind.i64) (wrap_small (by omega) (by omega)) : _ = i64 (1 + x % 4)); try (with_reducible rfl))
      try simp only [gZ]
      refine wpAnyH_one (i := 18) rfl (by kernel_rfl) (by rfl) ?_
      go_simp
      refine (LibM.aask (a := 1) (.inl rfl) Ld.out 2 (1 + x % 4) (by omega) (i64_small (by omega)) (i64_small (by omega))).mono ?_
      rintro e W2 ⟨v2, rfl, Z2, hz2, ht2, hl2, hr2⟩
      have V2 : W2.cell? ⟨b, o + 2, none⟩ = some (.int .u8 x) := ht2.cell KC.out fun e => absurd HB.out (Nat.not_lt.2 e.1)
      refine ⟨UU.out W2 hl2.cells V2, ?_⟩
      have hHeld := UU.out W2 hl2.cells V2
      refine tk 19 (v := ?_) rfl hHeld ?_ ?_; rotate_left
      ·(intro w hSw; clear hSw; go_simp; try (with_reducible rfl))
      try simp only [gZ]
      refine tk 20 (v := ?_) rfl hHeld ?_ ?_; rotate_left
      ·(intro w hSw; clear hSw; go_simp; try (with_reducible rfl))
      try simp only [gZ]
      refine tk 21 (v := ?_) rfl hHeld ?_ ?_; rotate_left
      ·(intro w hSw; clear hSw; go_simp; try (with_reducible rfl))
      try simp only [gZ]
      refine tk 22 (v := ?_) rfl hHeld ?_ ?_; rotate_left
      ·(intro w hSw; clear hSw; go_simp; try (with_reducible rfl))
      try simp only [gZ]
      refine tk 23 (v := ?_) rfl hHeld ?_ ?_; rotate_left
      ·(intro w hSw; clear hSw; go_simp; try (with_reducible rfl))
      try simp only [gZ]
      exact wpAnyH_done (by kernel_rfl) ⟨rfl, hR v2 W2 ⟨Z2, hl2, hz2, ((Tn.refl _ _).drewN 1).trans ht2, hr2⟩⟩ _
     case rest =>
      rintro v W ⟨Z2, h1, h2, h3, h4⟩
      have L2 := Lib.hid h1
      have R2 := Lib.hid h4
      have T2 : Hid (Tn (g.F Z) w W) := Lib.hid (TT.out.trans (h3.mono fun k hk => Lg.F.mono ZZ.out hk))
      have ZZ2 : Hid (∀ i k, Z i k → Z2 i k) := Lib.hid fun i k hk => h2 i k (ZZ.out i k hk)
      clear h1 h2 h3 h4 hHeld Ld UU LDD KC hTd
      have hm1 := ask_len ((s.askN l 2).as 1) 2 (1 + x % 4)
      go_wp2_with fail
      refine (L2.out.send R2.out.1 R2.out.2 (by omega) (by omega) (by omega)).mono ?_
      rintro e w4 ⟨rfl, P4, hp4, Z4, hz4, ht4, hl4⟩
      have L4 := Lib.hid hl4
      have S4 := Lib.hid hp4
      have T4 := Lib.hid (T2.out.trans (ht4.mono fun k hk => Lg.F.mono ZZ2.out hk))
      have ZZ4 : Hid (∀ i k, Z i k → Z4 i k) := Lib.hid fun i k hk => hz4 i k (ZZ2.out i k hk)
      have M1 := Lib.hid hm1
      have hnext : s.askN l (2 + 1) = (s.askN l 2).ask 1 2 (1 + x % 4) := by rw [HX.out]; rfl
      have NX := Lib.hid hnext
      clear hp4 hl4 ht4 hz4 hm1 hlen hnext
      go_wp2_with fail
      go_roundw
      case rel => exact ⟨2 + 1, P4, n1 + (((s.askN l 2).as 1).ask 2 (1 + x % 4)).1.2.length, by omega, by go_num, PR.out.trans ⟨_, by rw [NX.out]; rfl, rfl, S4.out⟩, by have := M1.out; omega, Z4, ZZ4.out, T4.out, by rw [NX.out]; exact L4.out⟩
      case measure => simp [intOf]
    ·skip
     subst h
     rw [show ((3 : Nat) : Int) = 3 from rfl]
     have hcell : wr.cell? ⟨b, o + 3, none⟩ = some (.int .u8 x) := hcell
     have hTd : Hid (Tn (g.F Z) w wr.drew) := Lib.hid (TT.out.drewN 1)
     obtain ⟨S', hS'⟩ : ∃ S' : World → Prop, S' = fun W => LibC g W ∧ W.cell? ⟨b, o + 3, none⟩ = some (.int .u8 x) := ⟨_, rfl⟩
     have LDD : Hid (∀ W, S' W → LibC g W ∧ W.cell? ⟨b, o + 3, none⟩ = some (.int .u8 x)) := Lib.hid (by rw [hS']; exact fun W h => h)
     have UU : Hid (∀ W, LibC g W → W.cell? ⟨b, o + 3, none⟩ = some (.int .u8 x) → S' W) := Lib.hid (by rw [hS']; exact fun W a b => ⟨a, b⟩)
     have Ld := Lib.hid (LL.out.up' (w' := wr.drew) (bdrewN (Below.refl _ _) 1))
     have hHeld := UU.out wr.drew Ld.out.cells hcell
     have KC := Lib.hid hcell
     clear hS' hcell
     go_wp2_with fail
     refine wp_region_held_drew (S := S') (by kernel_rfl) hHeld (fun _ => ?_)
     apply wpAnyH_apartV (fun (v : Value) W => ∃ (Z2 : Nat → Nat → Prop), LibM g Z2 W (N + 3 + 1) S P1 n1 ((s.askN l 3).ask 2 2 (1 + x % 4)) ∧ (∀ i k, Z1 i k → Z2 i k) ∧ Tn (g.F Z1) wr W ∧ RowZ wr.drew Z2 v W (((s.askN l 3).as 2).ask 2 (1 + x % 4)).1.2)
     case take =>
      intro R hR
      refine tk 0 (v := ?_) rfl hHeld ?_ ?_; rotate_left
      ·(intro w hSw; (obtain ⟨C, t1⟩ := LDD.out w hSw; have x0 := C.x0; have a0 := C.a0; have a1 := C.a1; clear C); go_simp; try (with_reducible rfl))
      try simp only [gZ]
      refine tk 1 (v := ?_) rfl hHeld ?_ ?_; rotate_left
      ·(intro w hSw; (obtain ⟨C, t1⟩ := LDD.out w hSw; have x0 := C.x0; have a0 := C.a0; have a1 := C.a1; clear C); go_simp; try (with_reducible rfl))
      try simp only [gZ]
      refine tk 2 (v := ?_) rfl hHeld ?_ ?_; rotate_left
      ·(intro w hSw; (obtain ⟨C, t1⟩ := LDD.out w hSw; have x0 := C.x0; have a0 := C.a0; have a1 := C.a1; clear C); go_simp; try (with_reducible rfl))
      try simp only [gZ]
      refine tk 3 (v := ?_) rfl hHeld ?_ ?_; rotate_left
      ·(intro w hSw; (obtain ⟨C, t1⟩ := LDD.out w hSw; have x0 := C.x0; have a0 := C.a0; have a1 := C.a1; clear C); go_simp; try (with_reducible rfl))
      try simp only [gZ]
      refine tk 4 (v := ?_) rfl hHeld ?_ ?_; rotate_left
      ·(intro w hSw; (obtain ⟨C, t1⟩ := LDD.out w hSw; have x0 := C.x0; have a0 := C.a0; have a1 := C.a1; clear C); go_simp; try (with_reducible rfl))
      try simp only [gZ]
      refine tk 5 (v := ?_) rfl hHeld ?_ ?_; rotate_left
      ·(intro w hSw; clear hSw; go_simp; exact (rfl : _ = i64 1); try (with_reducible rfl))
      try simp only [gZ]
      refine tk 6 (v := ?_) rfl hHeld ?_ ?_; rotate_left
      ·(intro w hSw; (obtain ⟨C, t1⟩ := LDD.out w hSw; have x0 := C.x0; have a0 := C.a0; have a1 := C.a1; clear C); go_simp; try (with_reducible rfl))
      try simp only [gZ]
      refine tk 7 (v := ?_) rfl hHeld ?_ ?_; rotate_left
      ·(intro w hSw; (obtain ⟨C, t1⟩ := LDD.out w hSw; have x0 := C.x0; have a0 := C.a0; have a1 := C.a1; clear C); go_simp; try (with_reducible rfl))
      try simp only [gZ]
      refine tk 8 (v := ?_) rfl hHeld ?_ ?_; rotate_left
      ·(intro w hSw; (obtain ⟨C, t1⟩ := LDD.out w hSw; have x0 := C.x0; have a0 := C.a0; have a1 := C.a1; clear C); go_simp; try (with_reducible rfl))
      try simp only [gZ]
      refine tk 9 (v := ?_) rfl hHeld ?_ ?_; rotate_left
      ·(intro w hSw; clear hSw; go_simp; exact (rfl : _ = i64 1); try (with_reducible rfl))
      try simp only [gZ]
      refine tk 10 (v := ?_) rfl hHeld ?_ ?_; rotate_left
      ·(intro w hSw; clear hSw; go_simp; exact (rfl : _ = i64 2); try (with_reducible rfl))
      try simp only [gZ]
      refine tk 11 (v := ?_) rfl hHeld ?_ ?_; rotate_left
      ·(intro w hSw; (obtain ⟨C, t1⟩ := LDD.out w hSw; have x0 := C.x0; have a0 := C.a0; have a1 := C.a1; clear C); go_simp; try (with_reducible rfl))
      try simp only [gZ]
      refine tk 12 (v := ?_) rfl hHeld ?_ ?_; rotate_left
      ·(intro w hSw; (obtain ⟨C, t1⟩ := LDD.out w hSw; have x0 := C.x0; have a0 := C.a0; have a1 := C.a1; clear C); go_simp; try (with_reducible rfl))
      try simp only [gZ]
      refine tk 13 (v := ?_) rfl hHeld ?_ ?_; rotate_left
      ·(intro w hSw; (obtain ⟨C, t1⟩ := LDD.out w hSw; have x0 := C.x0; have a0 := C.a0; have a1 := C.a1; clear C); go_simp; try (with_reducible rfl))
      try simp only [gZ]
      refine tk 14 (v := ?_) rfl hHeld ?_ ?_; rotate_left
      ·(intro w hSw; (obtain ⟨C, t1⟩ := LDD.out w hSw; have x0 := C.x0; have a0 := C.a0; have a1 := C.a1; clear C); go_simp; try (with_reducible rfl))
      try simp only [gZ]
      refine tk 15 (v := ?_) rfl hHeld ?_ ?_; rotate_left
      ·(intro w hSw; clear hSw; go_simp; exact (congrArg (Value.int IntKind.u8) (Int.tmod_eq_emod_of_nonneg hb0) : _ = Value.int IntKind.u8 (x % 4)); try (with_reducible rfl))
      try simp only [gZ]
      refine tk 16 (v := ?_) rfl hHeld ?_ ?_; rotate_left
      ·(intro w hSw; clear hSw; go_simp; exact (congrArg (Value.int IntKind.i64) (wrap_small (by omega) (by omega)) : _ = i64 (x % 4)); try (with_reducible rfl))
      try simp only [gZ]
      refine tk 17 (v := ?_) rfl hHeld ?_ ?_; rotate_left
      ·(intro w hSw; clear hSw; go_simp; exact (congrArg (Value.int IntKind.i64) (wrap_small (by omega) (by omega)) : _ = i64 (1 + x % 4)); try (with_reducible rfl))
      try simp only [gZ]
      refine wpAnyH_one (i := 18) rfl (by kernel_rfl) (by rfl) ?_
      go_simp
      refine (LibM.aask (a := 2) (.inr rfl) Ld.out 2 (1 + x % 4) (by omega) (i64_small (by omega)) (i64_small (by omega))).mono ?_
      rintro e W2 ⟨v2, rfl, Z2, hz2, ht2, hl2, hr2⟩
      have V2 : W2.cell? ⟨b, o + 3, none⟩ = some (.int .u8 x) := ht2.cell KC.out fun e => absurd HB.out (Nat.not_lt.2 e.1)
      refine ⟨UU.out W2 hl2.cells V2, ?_⟩
      have hHeld := UU.out W2 hl2.cells V2
      refine tk 19 (v := ?_) rfl hHeld ?_ ?_; rotate_left
      ·(intro w hSw; clear hSw; go_simp; try (with_reducible rfl))
      try simp only [gZ]
      refine tk 20 (v := ?_) rfl hHeld ?_ ?_; rotate_left
      ·(intro w hSw; clear hSw; go_simp; try (with_reducible rfl))
      try simp only [gZ]
      refine tk 21 (v := ?_) rfl hHeld ?_ ?_; rotate_left
      ·(intro w hSw; clear hSw; go_simp; try (with_reducible rfl))
      try simp only [gZ]
      refine tk 22 (v := ?_) rfl hHeld ?_ ?_; rotate_left
      ·(intro w hSw; clear hSw; go_simp; try (with_reducible rfl))
      try simp only [gZ]
      refine tk 23 (v := ?_) rfl hHeld ?_ ?_; rotate_left
      ·(intro w hSw; clear hSw; go_simp; try (with_reducible rfl))
      try simp only [gZ]
      exact wpAnyH_done (by kernel_rfl) ⟨rfl, hR v2 W2 ⟨Z2, hl2, hz2, ((Tn.refl _ _).drewN 1).trans ht2, hr2⟩⟩ _
     case rest =>
      rintro v W ⟨Z2, h1, h2, h3, h4⟩
      have L2 := Lib.hid h1
      have R2 := Lib.hid h4
      have T2 : Hid (Tn (g.F Z) w W) := Lib.hid (TT.out.trans (h3.mono fun k hk => Lg.F.mono ZZ.out hk))
      have ZZ2 : Hid (∀ i k, Z i k → Z2 i k) := Lib.hid fun i k hk => h2 i k (ZZ.out i k hk)
      clear h1 h2 h3 h4 hHeld Ld UU LDD KC hTd
      have hm1 := ask_len ((s.askN l 3).as 2) 2 (1 + x % 4)
      go_wp2_with fail
      refine (L2.out.send R2.out.1 R2.out.2 (by omega) (by omega) (by omega)).mono ?_
      rintro e w4 ⟨rfl, P4, hp4, Z4, hz4, ht4, hl4⟩
      have L4 := Lib.hid hl4
      have S4 := Lib.hid hp4
      have T4 := Lib.hid (T2.out.trans (ht4.mono fun k hk => Lg.F.mono ZZ2.out hk))
      have ZZ4 : Hid (∀ i k, Z i k → Z4 i k) := Lib.hid fun i k hk => hz4 i k (ZZ2.out i k hk)
      have M1 := Lib.hid hm1
      have hnext : s.askN l (3 + 1) = (s.askN l 3).ask 2 2 (1 + x % 4) := by rw [HX.out]; rfl
      have NX := Lib.hid hnext
      clear hp4 hl4 ht4 hz4 hm1 hlen hnext
      go_wp2_with fail
      go_roundw
      case rel => exact ⟨3 + 1, P4, n1 + (((s.askN l 3).as 2).ask 2 (1 + x % 4)).1.2.length, by omega, by go_num, PR.out.trans ⟨_, by rw [NX.out]; rfl, rfl, S4.out⟩, by have := M1.out; omega, Z4, ZZ4.out, T4.out, by rw [NX.out]; exact L4.out⟩
      case measure => simp [intOf]
    ·skip
     subst h
     rw [show ((4 : Nat) : Int) = 4 from rfl]
     have hcell : wr.cell? ⟨b, o + 4, none⟩ = some (.int .u8 x) := hcell
     have hTd : Hid (Tn (g.F Z) w wr.drew) := Lib.hid (TT.out.drewN 1)
     obtain ⟨S', hS'⟩ : ∃ S' : World → Prop, S' = fun W => LibC g W ∧ W.cell? ⟨b, o + 4, none⟩ = some (.int .u8 x) := ⟨_, rfl⟩
     have LDD : Hid (∀ W, S' W → LibC g W ∧ W.cell? ⟨b, o + 4, none⟩ = some (.int .u8 x)) := Lib.hid (by rw [hS']; exact fun W h => h)
     have UU : Hid (∀ W, LibC g W → W.cell? ⟨b, o + 4, none⟩ = some (.int .u8 x) → S' W) := Lib.hid (by rw [hS']; exact fun W a b => ⟨a, b⟩)
     have Ld := Lib.hid (LL.out.up' (w' := wr.drew) (bdrewN (Below.refl _ _) 1))
     have hHeld := UU.out wr.drew Ld.out.cells hcell
     have KC := Lib.hid hcell
     clear hS' hcell
     go_wp2_with fail
     refine wp_region_held_drew (S := S') (by kernel_rfl) hHeld (fun _ => ?_)
     apply wpAnyH_apartV (fun (v : Value) W => ∃ (Z2 : Nat → Nat → Prop), LibM g Z2 W (N + 4 + 1) S P1 n1 ((s.askN l 4).ask 1 3 (1 + x % 4)) ∧ (∀ i k, Z1 i k → Z2 i k) ∧ Tn (g.F Z1) wr W ∧ RowZ wr.drew Z2 v W (((s.askN l 4).as 1).ask 3 (1 + x % 4)).1.2)
     case take =>
      intro R hR
      refine tk 0 (v := ?_) rfl hHeld ?_ ?_; rotate_left
      ·(intro w hSw; (obtain ⟨C, t1⟩ := LDD.out w hSw; have x0 := C.x0; have a0 := C.a0; have a1 := C.a1; clear C); go_simp; try (with_reducible rfl))
      try simp only [gZ]
      refine tk 1 (v := ?_) rfl hHeld ?_ ?_; rotate_left
      ·(intro w hSw; (obtain ⟨C, t1⟩ := LDD.out w hSw; have x0 := C.x0; have a0 := C.a0; have a1 := C.a1; clear C); go_simp; try (with_reducible rfl))
      try simp only [gZ]
      refine tk 2 (v := ?_) rfl hHeld ?_ ?_; rotate_left
      ·(intro w hSw; (obtain ⟨C, t1⟩ := LDD.out w hSw; have x0 := C.x0; have a0 := C.a0; have a1 := C.a1; clear C); go_simp; try (with_reducible rfl))
      try simp only [gZ]
      refine tk 3 (v := ?_) rfl hHeld ?_ ?_; rotate_left
      ·(intro w hSw; (obtain ⟨C, t1⟩ := LDD.out w hSw; have x0 := C.x0; have a0 := C.a0; have a1 := C.a1; clear C); go_simp; try (with_reducible rfl))
      try simp only [gZ]
      refine tk 4 (v := ?_) rfl hHeld ?_ ?_; rotate_left
      ·(intro w hSw; (obtain ⟨C, t1⟩ := LDD.out w hSw; have x0 := C.x0; have a0 := C.a0; have a1 := C.a1; clear C); go_simp; try (with_reducible rfl))
      try simp only [gZ]
      refine tk 5 (v := ?_) rfl hHeld ?_ ?_; rotate_left
      ·(intro w hSw; clear hSw; go_simp; exact (rfl : _ = i64 0); try (with_reducible rfl))
      try simp only [gZ]
      refine tk 6 (v := ?_) rfl hHeld ?_ ?_; rotate_left
      ·(intro w hSw; (obtain ⟨C, t1⟩ := LDD.out w hSw; have x0 := C.x0; have a0 := C.a0; have a1 := C.a1; clear C); go_simp; try (with_reducible rfl))
      try simp only [gZ]
      refine tk 7 (v := ?_) rfl hHeld ?_ ?_; rotate_left
      ·(intro w hSw; (obtain ⟨C, t1⟩ := LDD.out w hSw; have x0 := C.x0; have a0 := C.a0; have a1 := C.a1; clear C); go_simp; try (with_reducible rfl))
      try simp only [gZ]
      refine tk 8 (v := ?_) rfl hHeld ?_ ?_; rotate_left
      ·(intro w hSw; (obtain ⟨C, t1⟩ := LDD.out w hSw; have x0 := C.x0; have a0 := C.a0; have a1 := C.a1; clear C); go_simp; try (with_reducible rfl))
      try simp only [gZ]
      refine tk 9 (v := ?_) rfl hHeld ?_ ?_; rotate_left
      ·(intro w hSw; clear hSw; go_simp; exact (rfl : _ = i64 2); try (with_reducible rfl))
      try simp only [gZ]
      refine tk 10 (v := ?_) rfl hHeld ?_ ?_; rotate_left
      ·(intro w hSw; clear hSw; go_simp; exact (rfl : _ = i64 3); try (with_reducible rfl))
      try simp only [gZ]
      refine tk 11 (v := ?_) rfl hHeld ?_ ?_; rotate_left
      ·(intro w hSw; (obtain ⟨C, t1⟩ := LDD.out w hSw; have x0 := C.x0; have a0 := C.a0; have a1 := C.a1; clear C); go_simp; try (with_reducible rfl))
      try simp only [gZ]
      refine tk 12 (v := ?_) rfl hHeld ?_ ?_; rotate_left
      ·(intro w hSw; (obtain ⟨C, t1⟩ := LDD.out w hSw; have x0 := C.x0; have a0 := C.a0; have a1 := C.a1; clear C); go_simp; try (with_reducible rfl))
      try simp only [gZ]
      refine tk 13 (v := ?_) rfl hHeld ?_ ?_; rotate_left
      ·(intro w hSw; (obtain ⟨C, t1⟩ := LDD.out w hSw; have x0 := C.x0; have a0 := C.a0; have a1 := C.a1; clear C); go_simp; try (with_reducible rfl))
      try simp only [gZ]
      refine tk 14 (v := ?_) rfl hHeld ?_ ?_; rotate_left
      ·(intro w hSw; (obtain ⟨C, t1⟩ := LDD.out w hSw; have x0 := C.x0; have a0 := C.a0; have a1 := C.a1; clear C); go_simp; try (with_reducible rfl))
      try simp only [gZ]
      refine tk 15 (v := ?_) rfl hHeld ?_ ?_; rotate_left
      ·(intro w hSw; clear hSw; go_simp; exact (congrArg (Value.int IntKind.u8) (Int.tmod_eq_emod_of_nonneg hb0) : _ = Value.int IntKind.u8 (x % 4)); try (with_reducible rfl))
      try simp only [gZ]
      refine tk 16 (v := ?_) rfl hHeld ?_ ?_; rotate_left
      ·(intro w hSw; clear hSw; go_simp; exact (congrArg (Value.int IntKind.i64) (wrap_small (by omega) (by omega)) : _ = i64 (x % 4)); try (with_reducible rfl))
      try simp only [gZ]
      refine tk 17 (v := ?_) rfl hHeld ?_ ?_; rotate_left
      ·(intro w hSw; clear hSw; go_simp; exact (congrArg (Value.int IntKind.i64) (wrap_small (by omega) (by omega)) : _ = i64 (1 + x % 4)); try (with_reducible rfl))
      try simp only [gZ]
      refine wpAnyH_one (i := 18) rfl (by kernel_rfl) (by rfl) ?_
      go_simp
      refine (LibM.aask (a := 1) (.inl rfl) Ld.out 3 (1 + x % 4) (by omega) (i64_small (by omega)) (i64_small (by omega))).mono ?_
      rintro e W2 ⟨v2, rfl, Z2, hz2, ht2, hl2, hr2⟩
      have V2 : W2.cell? ⟨b, o + 4, none⟩ = some (.int .u8 x) := ht2.cell KC.out fun e => absurd HB.out (Nat.not_lt.2 e.1)
      refine ⟨UU.out W2 hl2.cells V2, ?_⟩
      have hHeld := UU.out W2 hl2.cells V2
      refine tk 19 (v := ?_) rfl hHeld ?_ ?_; rotate_left
      ·(intro w hSw; clear hSw; go_simp; try (with_reducible rfl))
      try simp only [gZ]
      refine tk 20 (v := ?_) rfl hHeld ?_ ?_; rotate_left
      ·(intro w hSw; clear hSw; go_simp; try (with_reducible rfl))
      try simp only [gZ]
      refine tk 21 (v := ?_) rfl hHeld ?_ ?_; rotate_left
      ·(intro w hSw; clear hSw; go_simp; try (with_reducible rfl))
      try simp only [gZ]
      refine tk 22 (v := ?_) rfl hHeld ?_ ?_; rotate_left
      ·(intro w hSw; clear hSw; go_simp; try (with_reducible rfl))
      try simp only [gZ]
      refine tk 23 (v := ?_) rfl hHeld ?_ ?_; rotate_left
      ·(intro w hSw; clear hSw; go_simp; try (with_reducible rfl))
      try simp only [gZ]
      exact wpAnyH_done (by kernel_rfl) ⟨rfl, hR v2 W2 ⟨Z2, hl2, hz2, ((Tn.refl _ _).drewN 1).trans ht2, hr2⟩⟩ _
     case rest =>
      rintro v W ⟨Z2, h1, h2, h3, h4⟩
      have L2 := Lib.hid h1
      have R2 := Lib.hid h4
      have T2 : Hid (Tn (g.F Z) w W) := Lib.hid (TT.out.trans (h3.mono fun k hk => Lg.F.mono ZZ.out hk))
      have ZZ2 : Hid (∀ i k, Z i k → Z2 i k) := Lib.hid fun i k hk => h2 i k (ZZ.out i k hk)
      clear h1 h2 h3 h4 hHeld Ld UU LDD KC hTd
      have hm1 := ask_len ((s.askN l 4).as 1) 3 (1 + x % 4)
      go_wp2_with fail
      refine (L2.out.send R2.out.1 R2.out.2 (by omega) (by omega) (by omega)).mono ?_
      rintro e w4 ⟨rfl, P4, hp4, Z4, hz4, ht4, hl4⟩
      have L4 := Lib.hid hl4
      have S4 := Lib.hid hp4
      have T4 := Lib.hid (T2.out.trans (ht4.mono fun k hk => Lg.F.mono ZZ2.out hk))
      have ZZ4 : Hid (∀ i k, Z i k → Z4 i k) := Lib.hid fun i k hk => hz4 i k (ZZ2.out i k hk)
      have M1 := Lib.hid hm1
      have hnext : s.askN l (4 + 1) = (s.askN l 4).ask 1 3 (1 + x % 4) := by rw [HX.out]; rfl
      have NX := Lib.hid hnext
      clear hp4 hl4 ht4 hz4 hm1 hlen hnext
      go_wp2_with fail
      go_roundw
      case rel => exact ⟨4 + 1, P4, n1 + (((s.askN l 4).as 1).ask 3 (1 + x % 4)).1.2.length, by omega, by go_num, PR.out.trans ⟨_, by rw [NX.out]; rfl, rfl, S4.out⟩, by have := M1.out; omega, Z4, ZZ4.out, T4.out, by rw [NX.out]; exact L4.out⟩
      case measure => simp [intOf]
    ·skip
     subst h
     rw [show ((5 : Nat) : Int) = 5 from rfl]
     have hcell : wr.cell? ⟨b, o + 5, none⟩ = some (.int .u8 x) := hcell
     have hTd : Hid (Tn (g.F Z) w wr.drew) := Lib.hid (TT.out.drewN 1)
     obtain ⟨S', hS'⟩ : ∃ S' : World → Prop, S' = fun W => LibC g W ∧ W.cell? ⟨b, o + 5, none⟩ = some (.int .u8 x) := ⟨_, rfl⟩
     have LDD : Hid (∀ W, S' W → LibC g W ∧ W.cell? ⟨b, o + 5, none⟩ = some (.int .u8 x)) := Lib.hid (by rw [hS']; exact fun W h => h)
     have UU : Hid (∀ W, LibC g W → W.cell? ⟨b, o + 5, none⟩ = some (.int .u8 x) → S' W) := Lib.hid (by rw [hS']; exact fun W a b => ⟨a, b⟩)
     have Ld := Lib.hid (LL.out.up' (w' := wr.drew) (bdrewN (Below.refl _ _) 1))
     have hHeld := UU.out wr.drew Ld.out.cells hcell
     have KC := Lib.hid hcell
     clear hS' hcell
     go_wp2_with fail
     refine wp_region_held_drew (S := S') (by kernel_rfl) hHeld (fun _ => ?_)
     apply wpAnyH_apartV (fun (v : Value) W => ∃ (Z2 : Nat → Nat → Prop), LibM g Z2 W (N + 5 + 1) S P1 n1 ((s.askN l 5).ask 2 3 (1 + x % 4)) ∧ (∀ i k, Z1 i k → Z2 i k) ∧ Tn (g.F Z1) wr W ∧ RowZ wr.drew Z2 v W (((s.askN l 5).as 2).ask 3 (1 + x % 4)).1.2)
     case take =>
      intro R hR
      refine tk 0 (v := ?_) rfl hHeld ?_ ?_; rotate_left
      ·(intro w hSw; (obtain ⟨C, t1⟩ := LDD.out w hSw; have x0 := C.x0; have a0 := C.a0; have a1 := C.a1; clear C); go_simp; try (with_reducible rfl))
      try simp only [gZ]
      refine tk 1 (v := ?_) rfl hHeld ?_ ?_; rotate_left
      ·(intro w hSw; (obtain ⟨C, t1⟩ := LDD.out w hSw; have x0 := C.x0; have a0 := C.a0; have a1 := C.a1; clear C); go_simp; try (with_reducible rfl))
      try simp only [gZ]
      refine tk 2 (v := ?_) rfl hHeld ?_ ?_; rotate_left
      ·(intro w hSw; (obtain ⟨C, t1⟩ := LDD.out w hSw; have x0 := C.x0; have a0 := C.a0; have a1 := C.a1; clear C); go_simp; try (with_reducible rfl))
      try simp only [gZ]
      refine tk 3 (v := ?_) rfl hHeld ?_ ?_; rotate_left
      ·(intro w hSw; (obtain ⟨C, t1⟩ := LDD.out w hSw; have x0 := C.x0; have a0 := C.a0; have a1 := C.a1; clear C); go_simp; try (with_reducible rfl))
      try simp only [gZ]
      refine tk 4 (v := ?_) rfl hHeld ?_ ?_; rotate_left
      ·(intro w hSw; (obtain ⟨C, t1⟩ := LDD.out w hSw; have x0 := C.x0; have a0 := C.a0; have a1 := C.a1; clear C); go_simp; try (with_reducible rfl))
      try simp only [gZ]
      refine tk 5 (v := ?_) rfl hHeld ?_ ?_; rotate_left
      ·(intro w hSw; clear hSw; go_simp; exact (rfl : _ = i64 1); try (with_reducible rfl))
      try simp only [gZ]
      refine tk 6 (v := ?_) rfl hHeld ?_ ?_; rotate_left
      ·(intro w hSw; (obtain ⟨C, t1⟩ := LDD.out w hSw; have x0 := C.x0; have a0 := C.a0; have a1 := C.a1; clear C); go_simp; try (with_reducible rfl))
      try simp only [gZ]
      refine tk 7 (v := ?_) rfl hHeld ?_ ?_; rotate_left
      ·(intro w hSw; (obtain ⟨C, t1⟩ := LDD.out w hSw; have x0 := C.x0; have a0 := C.a0; have a1 := C.a1; clear C); go_simp; try (with_reducible rfl))
      try simp only [gZ]
      refine tk 8 (v := ?_) rfl hHeld ?_ ?_; rotate_left
      ·(intro w hSw; (obtain ⟨C, t1⟩ := LDD.out w hSw; have x0 := C.x0; have a0 := C.a0; have a1 := C.a1; clear C); go_simp; try (with_reducible rfl))
      try simp only [gZ]
      refine tk 9 (v := ?_) rfl hHeld ?_ ?_; rotate_left
      ·(intro w hSw; clear hSw; go_simp; exact (rfl : _ = i64 2); try (with_reducible rfl))
      try simp only [gZ]
      refine tk 10 (v := ?_) rfl hHeld ?_ ?_; rotate_left
      ·(intro w hSw; clear hSw; go_simp; exact (rfl : _ = i64 3); try (with_reducible rfl))
      try simp only [gZ]
      refine tk 11 (v := ?_) rfl hHeld ?_ ?_; rotate_left
      ·(intro w hSw; (obtain ⟨C, t1⟩ := LDD.out w hSw; have x0 := C.x0; have a0 := C.a0; have a1 := C.a1; clear C); go_simp; try (with_reducible rfl))
      try simp only [gZ]
      refine tk 12 (v := ?_) rfl hHeld ?_ ?_; rotate_left
      ·(intro w hSw; (obtain ⟨C, t1⟩ := LDD.out w hSw; have x0 := C.x0; have a0 := C.a0; have a1 := C.a1; clear C); go_simp; try (with_reducible rfl))
      try simp only [gZ]
      refine tk 13 (v := ?_) rfl hHeld ?_ ?_; rotate_left
      ·(intro w hSw; (obtain ⟨C, t1⟩ := LDD.out w hSw; have x0 := C.x0; have a0 := C.a0; have a1 := C.a1; clear C); go_simp; try (with_reducible rfl))
      try simp only [gZ]
      refine tk 14 (v := ?_) rfl hHeld ?_ ?_; rotate_left
      ·(intro w hSw; (obtain ⟨C, t1⟩ := LDD.out w hSw; have x0 := C.x0; have a0 := C.a0; have a1 := C.a1; clear C); go_simp; try (with_reducible rfl))
      try simp only [gZ]
      refine tk 15 (v := ?_) rfl hHeld ?_ ?_; rotate_left
      ·(intro w hSw; clear hSw; go_simp; exact (congrArg (Value.int IntKind.u8) (Int.tmod_eq_emod_of_nonneg hb0) : _ = Value.int IntKind.u8 (x % 4)); try (with_reducible rfl))
      try simp only [gZ]
      refine tk 16 (v := ?_) rfl hHeld ?_ ?_; rotate_left
      ·(intro w hSw; clear hSw; go_simp; exact (congrArg (Value.int IntKind.i64) (wrap_small (by omega) (by omega)) : _ = i64 (x % 4)); try (with_reducible rfl))
      try simp only [gZ]
      refine tk 17 (v := ?_) rfl hHeld ?_ ?_; rotate_left
      ·(intro w hSw; clear hSw; go_simp; exact (congrArg (Value.int IntKind.i64) (wrap_small (by omega) (by omega)) : _ = i64 (1 + x % 4)); try (with_reducible rfl))
      try simp only [gZ]
      refine wpAnyH_one (i := 18) rfl (by kernel_rfl) (by rfl) ?_
      go_simp
      refine (LibM.aask (a := 2) (.inr rfl) Ld.out 3 (1 + x % 4) (by omega) (i64_small (by omega)) (i64_small (by omega))).mono ?_
      rintro e W2 ⟨v2, rfl, Z2, hz2, ht2, hl2, hr2⟩
      have V2 : W2.cell? ⟨b, o + 5, none⟩ = some (.int .u8 x) := ht2.cell KC.out fun e => absurd HB.out (Nat.not_lt.2 e.1)
      refine ⟨UU.out W2 hl2.cells V2, ?_⟩
      have hHeld := UU.out W2 hl2.cells V2
      refine tk 19 (v := ?_) rfl hHeld ?_ ?_; rotate_left
      ·(intro w hSw; clear hSw; go_simp; try (with_reducible rfl))
      try simp only [gZ]
      refine tk 20 (v := ?_) rfl hHeld ?_ ?_; rotate_left
      ·(intro w hSw; clear hSw; go_simp; try (with_reducible rfl))
      try simp only [gZ]
      refine tk 21 (v := ?_) rfl hHeld ?_ ?_; rotate_left
      ·(intro w hSw; clear hSw; go_simp; try (with_reducible rfl))
      try simp only [gZ]
      refine tk 22 (v := ?_) rfl hHeld ?_ ?_; rotate_left
      ·(intro w hSw; clear hSw; go_simp; try (with_reducible rfl))
      try simp only [gZ]
      refine tk 23 (v := ?_) rfl hHeld ?_ ?_; rotate_left
      ·(intro w hSw; clear hSw; go_simp; try (with_reducible rfl))
      try simp only [gZ]
      exact wpAnyH_done (by kernel_rfl) ⟨rfl, hR v2 W2 ⟨Z2, hl2, hz2, ((Tn.refl _ _).drewN 1).trans ht2, hr2⟩⟩ _
     case rest =>
      rintro v W ⟨Z2, h1, h2, h3, h4⟩
      have L2 := Lib.hid h1
      have R2 := Lib.hid h4
      have T2 : Hid (Tn (g.F Z) w W) := Lib.hid (TT.out.trans (h3.mono fun k hk => Lg.F.mono ZZ.out hk))
      have ZZ2 : Hid (∀ i k, Z i k → Z2 i k) := Lib.hid fun i k hk => h2 i k (ZZ.out i k hk)
      clear h1 h2 h3 h4 hHeld Ld UU LDD KC hTd
      have hm1 := ask_len ((s.askN l 5).as 2) 3 (1 + x % 4)
      go_wp2_with fail
      refine (L2.out.send R2.out.1 R2.out.2 (by omega) (by omega) (by omega)).mono ?_
      rintro e w4 ⟨rfl, P4, hp4, Z4, hz4, ht4, hl4⟩
      have L4 := Lib.hid hl4
      have S4 := Lib.hid hp4
      have T4 := Lib.hid (T2.out.trans (ht4.mono fun k hk => Lg.F.mono ZZ2.out hk))
      have ZZ4 : Hid (∀ i k, Z i k → Z4 i k) := Lib.hid fun i k hk => hz4 i k (ZZ2.out i k hk)
      have M1 := Lib.hid hm1
      have hnext : s.askN l (5 + 1) = (s.askN l 5).ask 2 3 (1 + x % 4) := by rw [HX.out]; rfl
      have NX := Lib.hid hnext
      clear hp4 hl4 ht4 hz4 hm1 hlen hnext
      go_wp2_with fail
      go_roundw
      case rel => exact ⟨5 + 1, P4, n1 + (((s.askN l 5).as 2).ask 3 (1 + x % 4)).1.2.length, by omega, by go_num, PR.out.trans ⟨_, by rw [NX.out]; rfl, rfl, S4.out⟩, by have := M1.out; omega, Z4, ZZ4.out, T4.out, by rw [NX.out]; exact L4.out⟩
      case measure => simp [intOf]
    ·skip
     subst h
     rw [show ((6 : Nat) : Int) = 6 from rfl]
     have hcell : wr.cell? ⟨b, o + 6, none⟩ = some (.int .u8 x) := hcell
     have hTd : Hid (Tn (g.F Z) w wr.drew) := Lib.hid (TT.out.drewN 1)
     obtain ⟨S', hS'⟩ : ∃ S' : World → Prop, S' = fun W => LibC g W ∧ W.cell? ⟨b, o + 6, none⟩ = some (.int .u8 x) := ⟨_, rfl⟩
     have LDD : Hid (∀ W, S' W → LibC g W ∧ W.cell? ⟨b, o + 6, none⟩ = some (.int .u8 x)) := Lib.hid (by rw [hS']; exact fun W h => h)
     have UU : Hid (∀ W, LibC g W → W.cell? ⟨b, o + 6, none⟩ = some (.int .u8 x) → S' W) := Lib.hid (by rw [hS']; exact fun W a b => ⟨a, b⟩)
     have Ld := Lib.hid (LL.out.up' (w' := wr.drew) (bdrewN (Below.refl _ _) 1))
     have hHeld := UU.out wr.drew Ld.out.cells hcell
     have KC := Lib.hid hcell
     clear hS' hcell
     go_wp2_with fail
     refine wp_region_held_drew (S := S') (by kernel_rfl) hHeld (fun _ => ?_)
     apply wpAnyH_apartV (fun (v : Value) W => ∃ (Z2 : Nat → Nat → Prop), LibM g Z2 W (N + 6 + 1) S P1 n1 ((s.askN l 6).ask 1 4 (1 + x % 4)) ∧ (∀ i k, Z1 i k → Z2 i k) ∧ Tn (g.F Z1) wr W ∧ RowZ wr.drew Z2 v W (((s.askN l 6).as 1).ask 4 (1 + x % 4)).1.2)
     case take =>
      intro R hR
      refine tk 0 (v := ?_) rfl hHeld ?_ ?_; rotate_left
      ·(intro w hSw; (obtain ⟨C, t1⟩ := LDD.out w hSw; have x0 := C.x0; have a0 := C.a0; have a1 := C.a1; clear C); go_simp; try (with_reducible rfl))
      try simp only [gZ]
      refine tk 1 (v := ?_) rfl hHeld ?_ ?_; rotate_left
      ·(intro w hSw; (obtain ⟨C, t1⟩ := LDD.out w hSw; have x0 := C.x0; have a0 := C.a0; have a1 := C.a1; clear C); go_simp; try (with_reducible rfl))
      try simp only [gZ]
      refine tk 2 (v := ?_) rfl hHeld ?_ ?_; rotate_left
      ·(intro w hSw; (obtain ⟨C, t1⟩ := LDD.out w hSw; have x0 := C.x0; have a0 := C.a0; have a1 := C.a1; clear C); go_simp; try (with_reducible rfl))
      try simp only [gZ]
      refine tk 3 (v := ?_) rfl hHeld ?_ ?_; rotate_left
      ·(intro w hSw; (obtain ⟨C, t1⟩ := LDD.out w hSw; have x0 := C.x0; have a0 := C.a0; have a1 := C.a1; clear C); go_simp; try (with_reducible rfl))
      try simp only [gZ]
      refine tk 4 (v := ?_) rfl hHeld ?_ ?_; rotate_left
      ·(intro w hSw; (obtain ⟨C, t1⟩ := LDD.out w hSw; have x0 := C.x0; have a0 := C.a0; have a1 := C.a1; clear C); go_simp; try (with_reducible rfl))
      try simp only [gZ]
      refine tk 5 (v := ?_) rfl hHeld ?_ ?_; rotate_left
      ·(intro w hSw; clear hSw; go_simp; exact (rfl : _ = i64 0); try (with_reducible rfl))
      try simp only [gZ]
      refine tk 6 (v := ?_) rfl hHeld ?_ ?_; rotate_left
      ·(intro w hSw; (obtain ⟨C, t1⟩ := LDD.out w hSw; have x0 := C.x0; have a0 := C.a0; have a1 := C.a1; clear C); go_simp; try (with_reducible rfl))
      try simp only [gZ]
      refine tk 7 (v := ?_) rfl hHeld ?_ ?_; rotate_left
      ·(intro w hSw; (obtain ⟨C, t1⟩ := LDD.out w hSw; have x0 := C.x0; have a0 := C.a0; have a1 := C.a1; clear C); go_simp; try (with_reducible rfl))
      try simp only [gZ]
      refine tk 8 (v := ?_) rfl hHeld ?_ ?_; rotate_left
      ·(intro w hSw; (obtain ⟨C, t1⟩ := LDD.out w hSw; have x0 := C.x0; have a0 := C.a0; have a1 := C.a1; clear C); go_simp; try (with_reducible rfl))
      try simp only [gZ]
      refine tk 9 (v := ?_) rfl hHeld ?_ ?_; rotate_left
      ·(intro w hSw; clear hSw; go_simp; exact (rfl : _ = i64 3); try (with_reducible rfl))
      try simp only [gZ]
      refine tk 10 (v := ?_) rfl hHeld ?_ ?_; rotate_left
      ·(intro w hSw; clear hSw; go_simp; exact (rfl : _ = i64 4); try (with_reducible rfl))
      try simp only [gZ]
      refine tk 11 (v := ?_) rfl hHeld ?_ ?_; rotate_left
      ·(intro w hSw; (obtain ⟨C, t1⟩ := LDD.out w hSw; have x0 := C.x0; have a0 := C.a0; have a1 := C.a1; clear C); go_simp; try (with_reducible rfl))
      try simp only [gZ]
      refine tk 12 (v := ?_) rfl hHeld ?_ ?_; rotate_left
      ·(intro w hSw; (obtain ⟨C, t1⟩ := LDD.out w hSw; have x0 := C.x0; have a0 := C.a0; have a1 := C.a1; clear C); go_simp; try (with_reducible rfl))
      try simp only [gZ]
      refine tk 13 (v := ?_) rfl hHeld ?_ ?_; rotate_left
      ·(intro w hSw; (obtain ⟨C, t1⟩ := LDD.out w hSw; have x0 := C.x0; have a0 := C.a0; have a1 := C.a1; clear C); go_simp; try (with_reducible rfl))
      try simp only [gZ]
      refine tk 14 (v := ?_) rfl hHeld ?_ ?_; rotate_left
      ·(intro w hSw; (obtain ⟨C, t1⟩ := LDD.out w hSw; have x0 := C.x0; have a0 := C.a0; have a1 := C.a1; clear C); go_simp; try (with_reducible rfl))
      try simp only [gZ]
      refine tk 15 (v := ?_) rfl hHeld ?_ ?_; rotate_left
      ·(intro w hSw; clear hSw; go_simp; exact (congrArg (Value.int IntKind.u8) (Int.tmod_eq_emod_of_nonneg hb0) : _ = Value.int IntKind.u8 (x % 4)); try (with_reducible rfl))
      try simp only [gZ]
      refine tk 16 (v := ?_) rfl hHeld ?_ ?_; rotate_left
      ·(intro w hSw; clear hSw; go_simp; exact (congrArg (Value.int IntKind.i64) (wrap_small (by omega) (by omega)) : _ = i64 (x % 4)); try (with_reducible rfl))
      try simp only [gZ]
      refine tk 17 (v := ?_) rfl hHeld ?_ ?_; rotate_left
      ·(intro w hSw; clear hSw; go_simp; exact (congrArg (Value.int IntKind.i64) (wrap_small (by omega) (by omega)) : _ = i64 (1 + x % 4)); try (with_reducible rfl))
      try simp only [gZ]
      refine wpAnyH_one (i := 18) rfl (by kernel_rfl) (by rfl) ?_
      go_simp
      refine (LibM.aask (a := 1) (.inl rfl) Ld.out 4 (1 + x % 4) (by omega) (i64_small (by omega)) (i64_small (by omega))).mono ?_
      rintro e W2 ⟨v2, rfl, Z2, hz2, ht2, hl2, hr2⟩
      have V2 : W2.cell? ⟨b, o + 6, none⟩ = some (.int .u8 x) := ht2.cell KC.out fun e => absurd HB.out (Nat.not_lt.2 e.1)
      refine ⟨UU.out W2 hl2.cells V2, ?_⟩
      have hHeld := UU.out W2 hl2.cells V2
      refine tk 19 (v := ?_) rfl hHeld ?_ ?_; rotate_left
      ·(intro w hSw; clear hSw; go_simp; try (with_reducible rfl))
      try simp only [gZ]
      refine tk 20 (v := ?_) rfl hHeld ?_ ?_; rotate_left
      ·(intro w hSw; clear hSw; go_simp; try (with_reducible rfl))
      try simp only [gZ]
      refine tk 21 (v := ?_) rfl hHeld ?_ ?_; rotate_left
      ·(intro w hSw; clear hSw; go_simp; try (with_reducible rfl))
      try simp only [gZ]
      refine tk 22 (v := ?_) rfl hHeld ?_ ?_; rotate_left
      ·(intro w hSw; clear hSw; go_simp; try (with_reducible rfl))
      try simp only [gZ]
      refine tk 23 (v := ?_) rfl hHeld ?_ ?_; rotate_left
      ·(intro w hSw; clear hSw; go_simp; try (with_reducible rfl))
      try simp only [gZ]
      exact wpAnyH_done (by kernel_rfl) ⟨rfl, hR v2 W2 ⟨Z2, hl2, hz2, ((Tn.refl _ _).drewN 1).trans ht2, hr2⟩⟩ _
     case rest =>
      rintro v W ⟨Z2, h1, h2, h3, h4⟩
      have L2 := Lib.hid h1
      have R2 := Lib.hid h4
      have T2 : Hid (Tn (g.F Z) w W) := Lib.hid (TT.out.trans (h3.mono fun k hk => Lg.F.mono ZZ.out hk))
      have ZZ2 : Hid (∀ i k, Z i k → Z2 i k) := Lib.hid fun i k hk => h2 i k (ZZ.out i k hk)
      clear h1 h2 h3 h4 hHeld Ld UU LDD KC hTd
      have hm1 := ask_len ((s.askN l 6).as 1) 4 (1 + x % 4)
      go_wp2_with fail
      refine (L2.out.send R2.out.1 R2.out.2 (by omega) (by omega) (by omega)).mono ?_
      rintro e w4 ⟨rfl, P4, hp4, Z4, hz4, ht4, hl4⟩
      have L4 := Lib.hid hl4
      have S4 := Lib.hid hp4
      have T4 := Lib.hid (T2.out.trans (ht4.mono fun k hk => Lg.F.mono ZZ2.out hk))
      have ZZ4 : Hid (∀ i k, Z i k → Z4 i k) := Lib.hid fun i k hk => hz4 i k (ZZ2.out i k hk)
      have M1 := Lib.hid hm1
      have hnext : s.askN l (6 + 1) = (s.askN l 6).ask 1 4 (1 + x % 4) := by rw [HX.out]; rfl
      have NX := Lib.hid hnext
      clear hp4 hl4 ht4 hz4 hm1 hlen hnext
      go_wp2_with fail
      go_roundw
      case rel => exact ⟨6 + 1, P4, n1 + (((s.askN l 6).as 1).ask 4 (1 + x % 4)).1.2.length, by omega, by go_num, PR.out.trans ⟨_, by rw [NX.out]; rfl, rfl, S4.out⟩, by have := M1.out; omega, Z4, ZZ4.out, T4.out, by rw [NX.out]; exact L4.out⟩
      case measure => simp [intOf]
   ·obtain rfl : k = 7 := by omega
    have e7 : min n 7 = 7 := by omega
    go_wp2_with fail
    refine bodyPost_end (results_none rfl _ _ _) rfl ?_
    rw [e7]
    exact ⟨rfl, P1, n1, PR.out, by omega, Z1, ZZ.out, TT.out, LL.out⟩
  ·obtain rfl : k = n := by omega
   have e7 : min k 7 = k := by omega
   go_wp2_with fail
   refine bodyPost_end (results_none rfl _ _ _) rfl ?_
   rw [e7]
   exact ⟨rfl, P1, n1, PR.out, by omega, Z1, ZZ.out, TT.out, LL.out.more (by omega)⟩
end Go.Proofs.YtdojgbpaheadnaaGreat
