/- The contract of apply. -/
import Derived.Test.YtpcmppamkgkdlaaSI
import Derived.Test.YtpcmppamkgkdlaaSG
namespace Go.Proofs.Ytpcmppamkgkdlaa
open Go.RowKit

theorem fill_set2 (f : Nat → Int) {n c : Nat} (h : c < n) (y x : Int) (hx : x = f c) : ((encC (fun v => if v < c then f v else 0) n).setIfInBounds c (.int .i64 y)).setIfInBounds c (.int .i64 x) = encC (fun v => if v < c + 1 then f v else 0) n := by
  rw [← fill_set f h x hx]
  apply Array.ext_getElem?
  intro i
  by_cases e : c = i
  · subst e; simp [arr_size, h]
  · simp [Array.getElem?_setIfInBounds_ne e]
set_option maxRecDepth 100000 in
set_option maxHeartbeats 4000000 in
theorem apply_any {P : Prob} (hP : Fits P) (s : SL) {cp wn : Nat → Option Nat} (hm : Mat P cp) (hc : Con cp wn) {first p : Nat} {c : Nat → Nat} (hC : Circle P first cp wn p c) (hp : p ≤ 100000) (w : World) (g cap : Nat)
    (hA : CAt w s g p c) (h : SM P s w cp wn) :
    Calls Try.prog 37 #[pt s.sb, .slice (some ⟨g, 0, none⟩) p cap] w (ApplyE P s cp p c w) := by
  have hm1 := hP.m
  have hn1 := hP.n
  have hmk := mk30 p (by omega)
  have HM := Lib.hid hm
  have HC := Lib.hid hc
  have HCC := Lib.hid hC
  have HA := Lib.hid hA
  have H := Lib.hid h
  have hlt := h.lt
  have hp0 := hC.pos
  have hgl : g < w.heap.size := cell_lt (hA.cell 0 hp0)
  clear hP hm hc hC hA h
  go_enter Try.func37, Try.ntmps37
  go_wp2_with fail
  obtain ⟨ob, hob⟩ : ∃ ob, ob = w.heap.size := ⟨_, rfl⟩
  obtain ⟨W, hW⟩ : ∃ W, W = w.alloc (.cells (arr (fun _ => .int .i64 0) p) 3) := ⟨_, rfl⟩
  have OB : RowKit.Hid (Blk W ob (encC (fun _ => 0) p) 3) := Lib.hid (by rw [hW, hob]; exact Blk.new _ _ _)
  have TW : RowKit.Hid (Tn s.F w W) := Lib.hid (by rw [hW]; exact (Tn.refl _ _).alloc _)
  have SW : RowKit.Hid (SM P s W cp wn) := Lib.hid (by rw [hW]; exact H.out.alloc _)
  have CW : RowKit.Hid (CAt W s g p c) := Lib.hid ⟨fun j hj => TW.out.cell (HA.out.cell j hj) (fun e => by have := HA.out.ne; rcases e with e | e; exact this.1 e; exact this.2 e), HA.out.ne⟩
  have hob1 : w.heap.size ≤ ob ∧ ob ≠ g ∧ ob ≠ s.sb ∧ ob ≠ s.cb ∧ ob ≠ s.wb := by omega
  have HOB := Lib.hid hob1
  have hBo : s.B ≤ ob := by have := H.out.lo; omega
  rw [← hW, ← hob]
  clear hW hob hmk hlt hgl hob1
  go_loopw [18] (fun x wr => ∃ j : Nat, j ≤ p ∧ x = .int .i64 j ∧ Tn (fun b => b = ob) W wr ∧ Blk wr ob (encC (fun v => if v < j then oi (wn (c v)) else 0) p) 3) (fun x _ => p - (intOf x).toNat)
  case atStart => exact ⟨0, by omega, rfl, Tn.refl _ _, OB.out⟩
  case round =>
    obtain ⟨j, hj, rfl, hT, hO⟩ := hrel
    have T1 := Lib.hid hT
    have O1 := Lib.hid hO
    have S1 := Lib.hid (SW.out.keep hT (fun b e => by omega) (fun e => HOB.out.2.2.1 e.symm) (fun e => HOB.out.2.2.2.1 e.symm) (fun e => HOB.out.2.2.2.2 e.symm))
    clear hT hO
    by_cases hlt : j < p
    · have c0 := T1.out.cell (CW.out.cell j hlt) (fun e => HOB.out.2.1 e.symm)
      have hcn := HCC.out.node HM.out hlt
      have o0 := O1.out.cellE (arr_get _ hlt)
      have of := O1.out.frozen
      have O2 := Lib.hid (O1.out.set j (.int .i64 (-1)))
      have T2 := Lib.hid (T1.out.setCell (p := ⟨ob, j, none⟩) (.inl rfl) (.int .i64 (-1)))
      have S2 := Lib.hid (S1.out.keep ((Tn.refl (fun b => b = ob) wr).setCell (p := ⟨ob, j, none⟩) (.inl rfl) (.int .i64 (-1))) (fun b e => by omega) (fun e => HOB.out.2.2.1 e.symm) (fun e => HOB.out.2.2.2.1 e.symm) (fun e => HOB.out.2.2.2.2 e.symm))
      have KF := Lib.hid (fun x (hx : x = oi (wn (c j))) => fill_set (fun v => oi (wn (c v))) hlt x hx)
      have KF2 := Lib.hid (fun x (hx : x = oi (wn (c j))) => fill_set2 (fun v => oi (wn (c v))) hlt (-1) x hx)
      have KN : RowKit.Hid (c j = P.n → wn (c j) = none) := Lib.hid (fun e => by
        cases h : wn (c j) with
        | none => rfl
        | some k => have := (HC.out.lt HM.out h).1; omega)
      obtain ⟨d, hd⟩ : ∃ d, d = c j := ⟨_, rfl⟩
      rw [← hd] at c0 hcn KF KF2 KN
      clear hd
      have s2 : (wr.setCell ⟨ob, j, none⟩ (.int .i64 (-1))).cell? ⟨s.sb, 2, none⟩ = some (.int .i64 P.n) := S2.out.blk.cell 2
      by_cases hdn : d < P.n
      · have s4 : (wr.setCell ⟨ob, j, none⟩ (.int .i64 (-1))).cell? ⟨s.sb, 4, none⟩ = some (.slice (some ⟨s.wb, 0, none⟩) P.n P.n) := S2.out.blk.cell 4
        have w0 := S2.out.wn_at hdn
        have o1 : (wr.setCell ⟨ob, j, none⟩ (.int .i64 (-1))).cell? ⟨ob, j, none⟩ = some (.int .i64 (-1)) := O2.out.cellE (by simp [arr_size, hlt])
        have of1 := O2.out.frozen
        have O3 := Lib.hid ((O2.out.set j (.int .i64 (oi (wn d)))).cast (KF2.out _ rfl))
        have T3 := Lib.hid (T2.out.setCell (p := ⟨ob, j, none⟩) (.inl rfl) (.int .i64 (oi (wn d))))
        go_wp2_with fail
        exact ⟨⟨j + 1, by omega, by go_num, T3.out, O3.out⟩, by simp [intOf]; omega⟩
      · have O3 := Lib.hid (O2.out.cast (KF.out (-1) (by rw [KN.out (by omega)]; rfl)))
        go_wp2_with fail
        exact ⟨⟨j + 1, by omega, by go_num, T2.out, O3.out⟩, by simp [intOf]; omega⟩
    · obtain rfl : j = p := by omega
      obtain ⟨p, rfl⟩ : ∃ p, p = j := ⟨_, rfl⟩
      have O2 : RowKit.Hid (Blk wr ob (encC (fun v => oi (wn (c v))) p) 3) := Lib.hid (O1.out.cast (arr_congr fun k hk => by simp [hk]))
      obtain ⟨w2, rfl⟩ : ∃ w2 : World, w2 = wr := ⟨_, rfl⟩
      have T2 : RowKit.Hid (Tn s.F w w2) := Lib.hid (TW.out.then_ T1.out fun b e => .inr (by have := HOB.out; omega))
      have C2 : RowKit.Hid (CAt w2 s g p c) := Lib.hid ⟨fun i hi => T1.out.cell (CW.out.cell i hi) (fun e => HOB.out.2.1 e.symm), CW.out.ne⟩
      clear O1 T1 OB TW SW CW HA H
      go_wp2_with fail
      go_loopw [46] (fun x wr => ∃ j : Nat, j ≤ p ∧ x = .int .i64 j ∧ SM P s wr (movJ wn cp p c j) wn ∧ Tn s.F w2 wr) (fun x _ => p - (intOf x).toNat)
      case atStart => exact ⟨0, by omega, rfl, S1.out, Tn.refl _ _⟩
      case round =>
        obtain ⟨j, hj, rfl, hS, hT⟩ := hrel
        have T3 := Lib.hid hT
        have S3 := Lib.hid hS
        clear hS hT
        by_cases hlt : j < p
        · have o0 : wr.cell? ⟨ob, j, none⟩ = some (.int .i64 (oi (wn (c j)))) := T3.out.cell (O2.out.cellE (arr_get _ hlt)) (fun e => by have := HOB.out; rcases e with e | e; exact this.2.2.2.1 e; exact this.2.2.2.2 e)
          have hrl : (j + 1) % p < p := Nat.mod_lt _ (by omega)
          have c0 := T3.out.cell (C2.out.cell _ hrl) (fun e => by have := C2.out.ne; rcases e with e | e; exact this.1 e; exact this.2 e)
          obtain ⟨r, hr⟩ : ∃ r, r = (j + 1) % p := ⟨_, rfl⟩
          have hmod : ((j : Int) + 1) % (p : Int) = (r : Int) := by rw [hr]; rfl
          have hmod2 : IntKind.i64.wrap ((j : Int) + 1) = (j : Int) + 1 := IntWalk.i64_in _ (by omega)
          rw [← hr] at c0 hrl
          have HR := Lib.hid hr
          clear hr
          cases hw : wn (c j) with
          | none =>
            rw [hw] at o0
            have o0' : wr.cell? ⟨ob, j, none⟩ = some (.int .i64 (-1)) := o0
            have S4 := Lib.hid (by have h := S3.out; rw [← movJ_none (cp := cp) (p := p) hw] at h; exact h)
            clear o0 hw
            go_wp2_with fail
            exact ⟨⟨j + 1, by omega, by go_num, S4.out, T3.out⟩, by simp [intOf]; omega⟩
          | some k =>
            rw [hw] at o0
            have o0' : wr.cell? ⟨ob, j, none⟩ = some (.int .i64 (k : Int)) := o0
            have hk1 : ((k : Int) != -1) = true := by simp
            have hkm := (HC.out.lt HM.out hw).2
            have hto := HCC.out.to HM.out HC.out hlt hw
            rw [← HR.out] at hto
            have hto1 : decide ((c r : Int) < (P.n : Int)) = true := by simp; omega
            have hto2 : decide (c r < P.n) = true := by simpa using hto
            have s2 : wr.cell? ⟨s.sb, 2, none⟩ = some (.int .i64 P.n) := S3.out.blk.cell 2
            have s3 : wr.cell? ⟨s.sb, 3, none⟩ = some (.slice (some ⟨s.cb, 0, none⟩) P.m P.m) := S3.out.blk.cell 3
            have k0 := S3.out.cp_at hkm
            have kf := S3.out.copy.frozen
            have S4 : RowKit.Hid (SM P s (wr.setCell ⟨s.cb, k, none⟩ (.int .i64 (c r : Int))) (movJ wn cp p c (j + 1)) wn) := Lib.hid (by
              rw [movJ_some hw, ← HR.out]; exact S3.out.setCp hkm (some (c r)))
            have T4 : RowKit.Hid (Tn s.F w2 (wr.setCell ⟨s.cb, k, none⟩ (.int .i64 (c r : Int)))) := Lib.hid (T3.out.setCell (p := ⟨s.cb, k, none⟩) (.inl (.inl rfl)) _)
            clear o0 hw hto
            generalize c r = cr at *
            go_wp2_with fail
            exact ⟨⟨j + 1, by omega, by go_num, S4.out, T4.out⟩, by simp [intOf]; omega⟩
        · obtain rfl : j = p := by omega
          have S4 : RowKit.Hid (SM P s wr (moved j c cp) wn) := Lib.hid (by have h := S3.out; rw [movJ_moved HCC.out HC.out] at h; exact h)
          have MV : RowKit.Hid (Mat P (moved j c cp)) := Lib.hid (HCC.out.mat HM.out HC.out)
          have T4 : RowKit.Hid (Tn s.F w wr) := Lib.hid (T2.out.trans T3.out)
          obtain ⟨cq, hcq⟩ : ∃ cq, cq = moved j c cp := ⟨_, rfl⟩
          have HCQ := Lib.hid hcq
          rw [← hcq] at S4 MV
          obtain ⟨w3, rfl⟩ : ∃ w3 : World, w3 = wr := ⟨_, rfl⟩
          have s4 : w3.cell? ⟨s.sb, 4, none⟩ = some (.slice (some ⟨s.wb, 0, none⟩) P.n P.n) := S4.out.blk.cell 4
          clear hcq S3 T3 T2 C2 O2 HCC
          go_wp2_with fail
          go_loopw [83] (fun x wr => ∃ d : Nat, d ≤ P.n ∧ x = .int .i64 d ∧ SM P s wr cq (clr wn d) ∧ Tn s.F w wr) (fun x _ => P.n - (intOf x).toNat)
          case atStart => exact ⟨0, by omega, rfl, S4.out.congr (fun _ _ => rfl) (fun x _ => by simp [clr]), T4.out⟩
          case round =>
            obtain ⟨d, hd, rfl, hS, hT⟩ := hrel
            have S5 := Lib.hid hS
            have T5 := Lib.hid hT
            clear hS hT
            by_cases hlt : d < P.n
            · have w0 := S5.out.wn_at hlt
              have wf := S5.out.want.frozen
              have s4 : wr.cell? ⟨s.sb, 4, none⟩ = some (.slice (some ⟨s.wb, 0, none⟩) P.n P.n) := S5.out.blk.cell 4
              have S6 : RowKit.Hid (SM P s (wr.setCell ⟨s.wb, d, none⟩ (.int .i64 (-1))) cq (clr wn (d + 1))) := Lib.hid ((S5.out.setWn hlt none).congr (fun _ _ => rfl) (fun x _ => by
                unfold clr
                by_cases e : x = d
                · subst e; rw [upd_eq, if_pos (by omega)]
                · rw [upd_ne _ _ e]
                  by_cases g : x < d
                  · rw [if_pos g, if_pos (by omega)]
                  · rw [if_neg g, if_neg (by omega)]))
              have T6 : RowKit.Hid (Tn s.F w (wr.setCell ⟨s.wb, d, none⟩ (.int .i64 (-1)))) := Lib.hid (T5.out.setCell (p := ⟨s.wb, d, none⟩) (.inl (.inr rfl)) _)
              go_wp2_with fail
              exact ⟨⟨d + 1, by omega, by go_num, S6.out, T6.out⟩, by simp [intOf]; omega⟩
            · obtain rfl : d = P.n := by omega
              have S6 : RowKit.Hid (SM P s wr cq (wnJ cq 0)) := Lib.hid (S5.out.congr (fun _ _ => rfl) (fun x hx => by simp [clr, hx, wnJ]))
              obtain ⟨w4, rfl⟩ : ∃ w4 : World, w4 = wr := ⟨_, rfl⟩
              have s3 : w4.cell? ⟨s.sb, 3, none⟩ = some (.slice (some ⟨s.cb, 0, none⟩) P.m P.m) := S6.out.blk.cell 3
              clear S5 S4 T4
              go_wp2_with fail
              go_loopw [98] (fun x wr => ∃ k : Nat, k ≤ P.m ∧ x = .int .i64 k ∧ SM P s wr cq (wnJ cq k) ∧ Tn s.F w wr) (fun x _ => P.m - (intOf x).toNat)
              case atStart => exact ⟨0, by omega, rfl, S6.out, T5.out⟩
              case round =>
                obtain ⟨k, hk, rfl, hS, hT⟩ := hrel
                have S7 := Lib.hid hS
                have T7 := Lib.hid hT
                clear hS hT
                by_cases hlt : k < P.m
                · have c0 := S7.out.cp_at hlt
                  cases hck : cq k with
                  | none =>
                    rw [hck] at c0
                    have c0' : wr.cell? ⟨s.cb, k, none⟩ = some (.int .i64 (-1)) := c0
                    have S8 : RowKit.Hid (SM P s wr cq (wnJ cq (k + 1))) := Lib.hid (by rw [wnJ_none hck]; exact S7.out)
                    clear c0 hck
                    go_wp2_with fail
                    exact ⟨⟨k + 1, by omega, by go_num, S8.out, T7.out⟩, by simp [intOf]; omega⟩
                  | some x =>
                    rw [hck] at c0
                    have c0' : wr.cell? ⟨s.cb, k, none⟩ = some (.int .i64 (x : Int)) := c0
                    have hx1 : ((x : Int) != -1) = true := by simp
                    have hxn := P.lt k x (MV.out.ok hck).2
                    have w0 := S7.out.wn_at hxn
                    have wf := S7.out.want.frozen
                    have s4 : wr.cell? ⟨s.sb, 4, none⟩ = some (.slice (some ⟨s.wb, 0, none⟩) P.n P.n) := S7.out.blk.cell 4
                    have S8 : RowKit.Hid (SM P s (wr.setCell ⟨s.wb, x, none⟩ (.int .i64 (k : Int))) cq (wnJ cq (k + 1))) := Lib.hid (by
                      rw [wnJ_some hck]; exact S7.out.setWn hxn (some k))
                    have T8 : RowKit.Hid (Tn s.F w (wr.setCell ⟨s.wb, x, none⟩ (.int .i64 (k : Int)))) := Lib.hid (T7.out.setCell (p := ⟨s.wb, x, none⟩) (.inl (.inr rfl)) _)
                    clear c0 hck
                    go_wp2_with fail
                    exact ⟨⟨k + 1, by omega, by go_num, S8.out, T8.out⟩, by simp [intOf]; omega⟩
                · obtain rfl : k = P.m := by omega
                  have HFIN : RowKit.Hid (ApplyE P s cp j c w (.returned (.tuple #[])) wr) := Lib.hid (by
                    refine ⟨wnJ cq P.m, rfl, ?_, ?_, T7.out⟩
                    · rw [← HCQ.out]; exact S7.out
                    · rw [← HCQ.out]; exact wnJ_con MV.out)
                  go_wp2_with fail
                  go_end0
                  exact HFIN.out
end Go.Proofs.Ytpcmppamkgkdlaa
