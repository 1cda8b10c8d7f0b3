/- The contract of can: whether all can be served together. -/
import Derived.Test.YtpcmppamkgkdlaaVA
import Derived.Test.YtpcmppamkgkdlaaUD
namespace Go.Proofs.Ytpcmppamkgkdlaa
open Go.RowKit

theorem acc_nat {L : List Wt} {A : List Int} {C : List (List Int)} {k c : Nat} (hc : c < A.length) : c ∈ (prob L A C).acc k ↔ (c : Int) ∈ (L.getD k noW).2 := by
  have h := @acc_iff L A C k (c : Int)
  rw [mem_ints] at h
  simp only [Int.toNat_natCast] at h
  constructor
  · intro hh
    exact (h.1 ⟨by omega, hh⟩).1
  · intro hh
    exact (h.2 ⟨hh, by omega, by omega⟩).2
theorem comp_skips {P : Prob} {S : Nat → Bool} {len : Nat} {U : Nat → Bool} {k : Nat} : ∀ i, (∀ j, k ≤ j → j < k + i → S j = false) → (Comp P S len U k ↔ Comp P S len U (k + i))
  | 0, _ => Iff.rfl
  | i + 1, h => by rw [comp_skips i fun j h1 h2 => h j h1 (by omega), comp_skip (h (k + i) (by omega) (by omega))]; exact Iff.rfl
/-- What can reads. -/
structure CanM (w : World) (B sb ub : Nat) (L : List Wt) (n len : Nat) (S U : Nat → Bool) (aw aa sv : Option Addr) (cw ca cs : Nat) : Prop where
  c0 : w.cell? ⟨sb, 0, none⟩ = some (.slice aw L.length cw)
  c1 : w.cell? ⟨sb, 1, none⟩ = some (.slice aa n ca)
  c3 : w.cell? ⟨sb, 3, none⟩ = some (.slice sv len cs)
  c4 : w.cell? ⟨sb, 4, none⟩ = some (.slice (some ⟨ub, 0, none⟩) n n)
  srv : ∀ j, j < len → ∃ vb, sv = some ⟨vb, 0, none⟩ ∧ vb ≠ ub ∧ w.cell? ⟨vb, j, none⟩ = some (.bool (S j))
  used : Blk w ub (encB U n) 4
  wants : Wants w B (.slice aw L.length cw) L
  lo : B ≤ ub ∧ sb ≠ ub
theorem CanM.tn {w w' : World} {B sb ub : Nat} {L : List Wt} {n len : Nat} {S U U' : Nat → Bool} {aw aa sv : Option Addr} {cw ca cs : Nat} (h : CanM w B sb ub L n len S U aw aa sv cw ca cs) (t : Tn (fun b => b = ub) w w') (hb : Blk w' ub (encB U' n) 4) :
    CanM w' B sb ub L n len S U' aw aa sv cw ca cs := by
  refine ⟨t.cell h.c0 h.lo.2, t.cell h.c1 h.lo.2, t.cell h.c3 h.lo.2, t.cell h.c4 h.lo.2, fun j hj => ?_, hb, ?_, h.lo⟩
  · obtain ⟨vb, h1, h2, h3⟩ := h.srv j hj
    exact ⟨vb, h1, h2, t.cell h3 h2⟩
  · have := h.lo.1
    have hB : B ≤ w.heap.size := by have := h.used.lt; omega
    exact h.wants.below (t.below (B := B) hB fun b e => by omega) (Nat.le_refl _)
theorem tn_back {w w' : World} {ub : Nat} {xs : Array Value} {T : TypeId} (t : Tn (fun b => b = ub) w w') (h : Blk w ub xs T) (h' : Blk w' ub xs T) : Below w.heap.size w w' :=
  ⟨t.os, t.tape, t.output, t.size, fun b hb => by
    by_cases e : b = ub
    · subst e; exact h'.trans h.symm
    · exact t.block b hb e⟩
def CanE (P : Prob) (S : Nat → Bool) (len : Nat) (U : Nat → Bool) (k : Nat) (w : World) (e : Ending) (w' : World) : Prop := ∃ b, e = .returned (.bool b) ∧ (b = true ↔ Comp P S len U k) ∧ Below w.heap.size w w'
set_option maxRecDepth 100000 in
set_option maxHeartbeats 4000000 in
theorem can_any (L : List Wt) (A : List Int) (C : List (List Int)) (B sb ub len : Nat) (S : Nat → Bool) (aw aa sv : Option Addr) (cw ca cs : Nat) (hl : L.length ≤ 1000) (ha : A.length ≤ 1000) (hl2 : ∀ k, (L.getD k noW).2.length ≤ 1000) (hlen : len ≤ L.length) :
    ∀ (n k : Nat) (U : Nat → Bool) (w : World), len - k < n → k ≤ len → CanM w B sb ub L A.length len S U aw aa sv cw ca cs →
      Calls Try.prog 29 #[pt sb, .int .i64 k] w (CanE (prob L A C) S len U k w) := by
  intro n
  induction n with
  | zero => intro k U w h; omega
  | succ n ih =>
    intro k U w hn hk hM
    have IH := Lib.hid ih
    have HM := Lib.hid hM
    have HL2 := Lib.hid hl2
    obtain ⟨P, hP⟩ : ∃ P, P = prob L A C := ⟨_, rfl⟩
    have HAC : RowKit.Hid (∀ k c, c < A.length → (c ∈ P.acc k ↔ (c : Int) ∈ (L.getD k noW).2)) := Lib.hid fun k c hc => by rw [hP]; exact acc_nat hc
    have HPM : RowKit.Hid (P.m = L.length ∧ P.n = A.length) := Lib.hid (by rw [hP]; exact ⟨rfl, rfl⟩)
    rw [← hP] at IH ⊢
    have c0 := hM.c0
    have c1 := hM.c1
    have c3 := hM.c3
    have c4 := hM.c4
    clear ih hM hl2 hP
    go_enter Try.func29, Try.ntmps29
    go_wp2_with fail
    go_loop [1] (fun v => ∃ i : Nat, k + i ≤ len ∧ v = .int .i64 ((k + i : Nat) : Int) ∧ ∀ j, k ≤ j → j < k + i → S j = false) (fun v => len - (intOf v).toNat)
    case atStart => exact ⟨0, by omega, rfl, fun j h1 h2 => by omega⟩
    case round =>
      obtain ⟨i, hi, rfl, hs⟩ := hrel
      have HS := Lib.hid hs
      have CS := Lib.hid (comp_skips (P := P) (len := len) (U := U) i hs)
      clear hs
      obtain ⟨q, hq⟩ : ∃ q, q = k + i := ⟨_, rfl⟩
      have HQ := Lib.hid hq
      rw [← hq] at hi HS CS ⊢
      have hkq : k ≤ q := by omega
      clear hq
      by_cases hlt : q < len
      · obtain ⟨vb, rfl, hvu, hv⟩ := HM.out.srv q hlt
        have HVU := Lib.hid hvu
        clear hvu
        cases hsq : S q
        · rw [hsq] at hv
          have HSQ := Lib.hid hsq
          clear hsq
          go_wp2_with fail
          go_round
          case rel => exact ⟨i + 1, by have := HQ.out; omega, by have := HQ.out; subst this; go_num, fun j h1 h2 => by
            rcases Nat.lt_or_ge j q with h' | h'
            · exact HS.out j h1 h'
            · obtain rfl : j = q := by have := HQ.out; omega
              exact HSQ.out⟩
          case measure => simp [intOf]; omega
        · rw [hsq] at hv
          have HSQ := Lib.hid hsq
          have CT := Lib.hid (comp_take (P := P) (S := S) (len := len) (U := U) hlt (by have := HPM.out; omega) hsq)
          clear hsq
          go_wp2_with fail
          clear c0 c1 c3 c4 hv
          go_loopw [5] (fun v wr => ∃ c : Nat, c ≤ A.length ∧ v = .int .i64 c ∧ Below w.heap.size w wr ∧ ∀ d, d < c → ¬ (d ∈ P.acc q ∧ U d = false ∧ Comp P S len (upU U d true) (q + 1))) (fun v _ => A.length - (intOf v).toNat)
          case atStart => exact ⟨0, by omega, rfl, Below.refl _ _, fun d hd => by omega⟩
          case round =>
            obtain ⟨c, hc, rfl, hb, hno⟩ := hrel
            have BB := Lib.hid hb
            have NO := Lib.hid hno
            have M1 : RowKit.Hid (CanM wr B sb ub L A.length len S U aw aa (some ⟨vb, 0, none⟩) cw ca cs) := Lib.hid (HM.out.tn (Tn.of_below hb) (HM.out.used.below hb HM.out.used.lt))
            have c0 := M1.out.c0
            have c1 := M1.out.c1
            clear hb hno
            by_cases hcl : c < A.length
            · obtain ⟨a1, p1, hw, hw2⟩ := M1.out.wants
              obtain ⟨rfl, rfl⟩ : aw = a1 ∧ cw = p1 := by injection hw with h1 h2 h3; exact ⟨h1, h3⟩
              rcases hw2 with h | ⟨bw, ow, rfl, hbw, hcw⟩
              · rw [h] at hlen; simp at hlen; omega
              obtain ⟨u, e0, e1, hu⟩ := hcw q (by omega)
              have hac := HAC.out q c hcl
              have KA := Lib.hid (accepts_any B (L.getD q noW).1 u (L.getD q noW).2 (c : Int) wr hu (by have := HL2.out q; omega))
              obtain ⟨pp, hpp⟩ : ∃ pp, pp = (L.getD q noW).1 := ⟨_, rfl⟩
              rw [← hpp] at e0 KA
              have HAC1 := Lib.hid hac
              obtain ⟨lk, hlk⟩ : ∃ lk, lk = (L.getD q noW).2 := ⟨_, rfl⟩
              rw [← hlk] at KA HAC1
              have hql : q < L.length := by omega
              clear hw hcw hu hac hpp hlk
              go_wp2_with fail
              refine KA.out.mono ?_
              rintro e w1 ⟨rfl, hb1⟩
              have B1 := Lib.hid (BB.out.trans (hb1.mono BB.out.size))
              clear hb1 c0 c1 e0 e1
              have M2 : RowKit.Hid (CanM w1 B sb ub L A.length len S U (some ⟨bw, ow, none⟩) aa (some ⟨vb, 0, none⟩) cw ca cs) := Lib.hid (HM.out.tn (Tn.of_below B1.out) (HM.out.used.below B1.out HM.out.used.lt))
              have c4 := M2.out.c4
              by_cases hin : (c : Int) ∈ lk
              case neg =>
                rw [decide_eq_false hin]
                have N2 : RowKit.Hid (∀ d, d < c + 1 → ¬ (d ∈ P.acc q ∧ U d = false ∧ Comp P S len (upU U d true) (q + 1))) := Lib.hid fun d hd hh => by
                  rcases Nat.lt_or_ge d c with h' | h'
                  · exact NO.out d h' hh
                  · obtain rfl : d = c := by omega
                    exact hin (HAC1.out.1 hh.1)
                clear hin
                go_wp2_with fail
                exact ⟨⟨c + 1, by omega, by go_num, B1.out, N2.out⟩, by simp [intOf]; omega⟩
              rw [decide_eq_true hin]
              have HIN := Lib.hid (HAC1.out.2 hin)
              clear hin
              have uc : w1.cell? ⟨ub, c, none⟩ = some (.bool (U c)) := M2.out.used.cellE (arr_get _ hcl)
              cases huc : U c
              case true =>
                rw [huc] at uc
                have N2 : RowKit.Hid (∀ d, d < c + 1 → ¬ (d ∈ P.acc q ∧ U d = false ∧ Comp P S len (upU U d true) (q + 1))) := Lib.hid fun d hd hh => by
                  rcases Nat.lt_or_ge d c with h' | h'
                  · exact NO.out d h' hh
                  · obtain rfl : d = c := by omega
                    rw [huc] at hh; cases hh.2.1
                clear huc
                go_wp2_with fail
                exact ⟨⟨c + 1, by omega, by go_num, B1.out, N2.out⟩, by simp [intOf]; omega⟩
              case false =>
                rw [huc] at uc
                have HUC := Lib.hid huc
                have uf := M2.out.used.frozen
                have U3 : RowKit.Hid (Blk (w1.setCell ⟨ub, c, none⟩ (.bool true)) ub (encB (upU U c true) A.length) 4) := Lib.hid ((M2.out.used.set c (.bool true)).cast (encB_set U hcl true))
                have T3 : RowKit.Hid (Tn (fun b => b = ub) w1 (w1.setCell ⟨ub, c, none⟩ (.bool true))) := Lib.hid ((Tn.refl (fun b => b = ub) w1).setCell (p := ⟨ub, c, none⟩) (.inl rfl) _)
                have M3 := Lib.hid (M2.out.tn T3.out U3.out)
                clear huc
                go_wp2_with fail
                have HN : RowKit.Hid (len - (q + 1) < n ∧ q + 1 ≤ len) := Lib.hid ⟨by omega, by omega⟩
                refine (IH.out (q + 1) (upU U c true) _ HN.out.1 HN.out.2 M3.out).mono ?_
                rintro e w4 ⟨b, rfl, hbc, hb4⟩
                have HBC := Lib.hid hbc
                have T4 : RowKit.Hid (Tn (fun b => b = ub) w1 w4) := Lib.hid (T3.out.trans (Tn.of_below hb4))
                have U4 := Lib.hid (U3.out.below hb4 U3.out.lt)
                have M4 := Lib.hid (M2.out.tn T4.out U4.out)
                clear hbc hb4 c4 uc uf
                have c4 := M4.out.c4
                have uc : w4.cell? ⟨ub, c, none⟩ = some (.bool (upU U c true c)) := U4.out.cellE (arr_get _ hcl)
                have uf := U4.out.frozen
                have U5 : RowKit.Hid (Blk (w4.setCell ⟨ub, c, none⟩ (.bool false)) ub (encB U A.length) 4) := Lib.hid ((U4.out.set c (.bool false)).cast ((encB_set _ hcl false).trans (arr_congr fun i _ => by
                  show Value.bool (upd (upU U c true) c false i) = .bool (U i)
                  by_cases e : i = c
                  · subst e; rw [upd_eq, HUC.out]
                  · rw [upd_ne _ _ e]; unfold upU; rw [if_neg e])))
                have T5 : RowKit.Hid (Tn (fun b => b = ub) w1 (w4.setCell ⟨ub, c, none⟩ (.bool false))) := Lib.hid (T4.out.setCell (p := ⟨ub, c, none⟩) (.inl rfl) _)
                have B5 : RowKit.Hid (Below w.heap.size w (w4.setCell ⟨ub, c, none⟩ (.bool false))) := Lib.hid (B1.out.trans ((tn_back T5.out M2.out.used U5.out).mono B1.out.size))
                clear M4 T4
                cases b
                · have N2 : RowKit.Hid (∀ d, d < c + 1 → ¬ (d ∈ P.acc q ∧ U d = false ∧ Comp P S len (upU U d true) (q + 1))) := Lib.hid fun d hd hh => by
                    rcases Nat.lt_or_ge d c with h' | h'
                    · exact NO.out d h' hh
                    · obtain rfl : d = c := by omega
                      have := HBC.out.2 hh.2.2
                      cases this
                  go_wp2_with fail
                  exact ⟨⟨c + 1, by omega, by go_num, B5.out, N2.out⟩, by simp [intOf]; omega⟩
                · have HF : RowKit.Hid (CanE P S len U k w (.returned (.bool true)) (w4.setCell ⟨ub, c, none⟩ (.bool false))) := Lib.hid ⟨true, rfl, ⟨fun _ => by
                    rw [CS.out, CT.out]
                    exact ⟨c, by have := HPM.out; omega, HIN.out, HUC.out, HBC.out.1 rfl⟩, fun _ => rfl⟩, B5.out⟩
                  go_wp2_with fail
                  go_ret
                  exact HF.out
            · obtain rfl : c = A.length := by omega
              have HF : RowKit.Hid (CanE P S len U k w (.returned (.bool false)) wr) := Lib.hid ⟨false, rfl, ⟨fun e => (by cases e), fun hh => by
                rw [CS.out, CT.out] at hh
                obtain ⟨d, h1, h2, h3, h4⟩ := hh
                exact absurd ⟨h2, h3, h4⟩ (NO.out d (by have := HPM.out; omega))⟩, BB.out⟩
              go_wp2_with fail
              go_ret
              exact HF.out
      · obtain rfl : q = len := by omega
        have HF : RowKit.Hid (CanE P S q U k w (.returned (.bool true)) w) := Lib.hid ⟨true, rfl, by rw [CS.out]; exact ⟨fun _ => comp_end (Nat.le_refl _), fun _ => rfl⟩, Below.refl _ _⟩
        go_wp2_with fail
        go_ret
        exact HF.out
end Go.Proofs.Ytpcmppamkgkdlaa
