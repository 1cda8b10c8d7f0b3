/- Equal merged records are the same for the reference. -/
import Derived.Test.YtpdldbapagchfaaGreatDoorQ10
import Derived.Test.YtpdldbapagchfaaGreatDoorQ08
import Derived.Test.YtpdldbapagchfaaGreatDoorQ07
set_option linter.unusedVariables false
set_option linter.unusedSimpArgs false

namespace Go.Proofs.YtpdldbapagchfaaGreatDoor
open Go.RowKit Go.Shelf Go.Maps
attribute [local go_sem] over_cell over_frozen

/-- A merged record: what is said, by whom. -/
structure Mrg where
  kind : Nat
  level : Nat
  l : List Said
def Mrg.fs (m : Mrg) : List Fld := m.l.map (·.1)
def Mrg.rs (m : Mrg) : List (Int × Int) := m.l.map (·.2)
/-- A merged record in memory. -/
def MrgR (S : Nat → Prop) (w : World) (cs : List Value) (m : Mrg) : Prop :=
  ∃ fv rv, cs = [.int .u8 m.kind, .int .u8 m.level, fv, rv] ∧ FldsAt S w fv m.fs ∧ SlOf 2 S RecR w rv m.rs
theorem MrgR.keep {S S' : Nat → Prop} {w w' : World} {cs : List Value} {m : Mrg} (h : MrgR S w cs m) (hs : Stay S w w') (hS : ∀ b, S b → b < w.heap.size → S' b) : MrgR S' w' cs m := by
  obtain ⟨fv, rv, e, h1, h2⟩ := h
  exact ⟨fv, rv, e, h1.keep hs hS, h2.keep (by omega) hs (fun _ _ h => h) hS⟩
set_option maxRecDepth 100000 in
set_option maxHeartbeats 2000000 in
theorem same_any (S S' : Nat → Prop) {w : World} {cs ds : List Value} {m : Mrg} (hu : MrgR S w cs m) (hv : MrgR S' w ds m) (hl : FsOk m.fs) :
    Calls Tryz.prog 13 #[.agg cs.toArray, .agg ds.toArray] w fun e w' => e = .returned (.bool true) ∧ Below w.heap.size w w' := by
  obtain ⟨fu, ru, rfl, hf1, hr1⟩ := hu
  obtain ⟨fv, rv, rfl, hf2, hr2⟩ := hv
  have HR1 := Lib.hid hr1
  have HR2 := Lib.hid hr2
  obtain ⟨ua, uc, rfl, -⟩ := hr1
  obtain ⟨va, vc, rfl, -⟩ := hr2
  have HF1 := Lib.hid hf1
  have HF2 := Lib.hid hf2
  obtain ⟨fa, fc, rfl, -⟩ := hf1
  obtain ⟨ga, gc, rfl, -⟩ := hf2
  have HL := Lib.hid hl
  obtain ⟨n, hn⟩ : ∃ n, n = m.rs.length := ⟨_, rfl⟩
  obtain ⟨q, hq⟩ : ∃ q, q = m.fs.length := ⟨_, rfl⟩
  have hl1 : n ≤ 1000 := by
    have : m.rs.length = m.fs.length := by simp [Mrg.rs, Mrg.fs]
    rw [hn, this]; exact hl.1
  rw [← hn] at HR1 HR2 ⊢
  rw [← hq] at HF1 HF2 ⊢
  have N1 := Lib.hid hn
  have Q1 := Lib.hid hq
  clear hn hl hq
  obtain ⟨W1, hW1⟩ : ∃ W1, W1 = (w.alloc (.cells #[.int .u8 m.kind, .int .u8 m.level, .slice fa q fc, .slice ua n uc] 32)).alloc (.cells #[.int .u8 m.kind, .int .u8 m.level, .slice ga q gc, .slice va n vc] 32) := ⟨_, rfl⟩
  have B1 : RowKit.Hid (Below w.heap.size w W1) := Lib.hid (by rw [hW1]; exact ((Below.refl _ _).alloc (Nat.le_refl _) _).alloc (by simp) _)
  have K1 : RowKit.Hid (Blk W1 w.heap.size #[.int .u8 m.kind, .int .u8 m.level, .slice fa q fc, .slice ua n uc] 32) := Lib.hid (by rw [hW1]; exact (Blk.new _ _ _).alloc _)
  have R1 : RowKit.Hid (Blk W1 (w.heap.size + 1) #[.int .u8 m.kind, .int .u8 m.level, .slice ga q gc, .slice va n vc] 32) := Lib.hid (by rw [hW1]; exact Blk.at_new (by simp) _ _)
  go_enter Tryz.func13, Tryz.ntmps13
  go_wp2_with fail
  rw [← hW1]
  clear hW1
  refine (sameRecord_any S S' m.kind m.level (HF1.out.keep (Stay.of_below B1.out) (fun _ h _ => h)) (HF2.out.keep (Stay.of_below B1.out) (fun _ h _ => h)) HL.out).mono ?_
  rintro e w2 ⟨rfl, hb2⟩
  have B2 := Lib.hid hb2
  have c3 : w2.cell? ⟨w.heap.size, 3, none⟩ = some (.slice ua n uc) := (K1.out.below hb2 K1.out.lt).cell 3
  have d3 : w2.cell? ⟨w.heap.size + 1, 3, none⟩ = some (.slice va n vc) := (R1.out.below hb2 R1.out.lt).cell 3
  have F2 : RowKit.Hid (Below w.heap.size w w2) := Lib.hid (B1.out.trans (hb2.mono B1.out.size))
  clear hb2
  go_wp2_with fail
  (try simp only [bne_self_eq_false] at *)
  go_loopw [6] (fun i wr => ∃ k : Nat, k ≤ n ∧ i = .int .i64 k ∧ Below w2.heap.size w2 wr) (fun i _ => n - (intOf i).toNat)
  case atStart => exact ⟨0, by omega, rfl, Below.refl _ _⟩
  case round =>
    obtain ⟨k, hk, rfl, hb⟩ := hrel
    have HBr := Lib.hid hb
    have c4 := Below.cellE hb c3
    have d4 := Below.cellE hb d3
    clear hb
    by_cases hlt : k < n
    · have hlx : k < m.rs.length := by rw [← N1.out]; exact hlt
      have F3 : RowKit.Hid (Below w.heap.size w wr) := Lib.hid (F2.out.trans (HBr.out.mono F2.out.size))
      obtain ⟨b1, o1, cap1, cs1, e1, _, _, hR1, _, hg1, _⟩ := SlOf.range (by omega) (SlOf.keep (R' := RecR) (S' := S) (by omega) HR1.out (Stay.of_below F3.out) (fun _ _ h => h) (fun _ h _ => h)) hlx
      obtain ⟨b2, o2, cap2, cs2, e2, _, _, hR2, _, hg2, _⟩ := SlOf.range (by omega) (SlOf.keep (R' := RecR) (S' := S') (by omega) HR2.out (Stay.of_below F3.out) (fun _ _ h => h) (fun _ h _ => h)) hlx
      have e1' : ua = some ⟨b1, o1, none⟩ := by injection e1
      have e2' : va = some ⟨b2, o2, none⟩ := by injection e2
      clear e1 e2
      subst e1' e2'
      obtain ⟨x, hx⟩ : ∃ x, x = m.rs[k] := ⟨_, rfl⟩
      rw [← hx] at hR1 hR2
      unfold RecR at hR1 hR2
      subst hR1 hR2
      obtain ⟨p0, p1⟩ := range2 hg1
      obtain ⟨q0, q1⟩ := range2 hg2
      have hq := neq_rec x x
      rw [decide_eq_true rfl] at hq
      clear hg1 hg2 hx
      go_wp2_with fail
      go_quiet (fail)
      go_wp2_with fail
      exact ⟨⟨k + 1, hlt, by go_num, bdrewN HBr.out _⟩, by simp [intOf]; omega⟩
    · go_wp2_with fail
      go_ret
      exact ⟨rfl, F2.out.trans (HBr.out.mono F2.out.size)⟩
end Go.Proofs.YtpdldbapagchfaaGreatDoor

/- The reference's order of records; which version counts. -/
namespace Go.Proofs.YtpdldbapagchfaaGreatDoor
open Go.RowKit Go.Shelf Go.Maps
attribute [local go_sem] over_cell over_frozen

abbrev recV (r : Int × Int) : Value := .agg #[.int .i64 r.1, .int .i64 r.2]
set_option maxRecDepth 100000 in
theorem lessRec_any (a b : Int × Int) (w : World) : Calls Tryz.prog 24 #[recV a, recV b] w fun e w' => e = .returned (.bool (ltR a b)) ∧ Below w.heap.size w w' := by
  obtain ⟨a1, a2⟩ := a
  obtain ⟨b1, b2⟩ := b
  have HB : RowKit.Hid (∀ p q, Below w.heap.size w ((w.alloc p).alloc q)) := Lib.hid fun p q => ((Below.refl _ _).alloc (Nat.le_refl _) _).alloc (by simp) _
  dsimp only [recV]
  by_cases h : a1 = b1
  · have hr : ltR (a1, a2) (b1, b2) = decide (a2 < b2) := by simp [ltR, h]
    rw [hr]
    clear hr
    subst h
    go_enter Tryz.func24, Tryz.ntmps24
    go_wp2_with fail
    go_ret
    exact ⟨rfl, HB.out _ _⟩
  · have hr : ltR (a1, a2) (b1, b2) = decide (a1 < b1) := by simp [ltR, h]
    rw [hr]
    have hne : (a1 != b1) = true := by simpa using h
    clear hr h
    go_enter Tryz.func24, Tryz.ntmps24
    go_wp2_with fail
    go_ret
    exact ⟨rfl, HB.out _ _⟩
set_option maxRecDepth 100000 in
set_option maxHeartbeats 2000000 in
theorem counts_any (S : Nat → Prop) {w : World} {v : Value} {L : List Ver} (q : Nat) (hv : VersAt S w v L) (hl : L.length ≤ 1000) (hq : q < L.length) :
    Calls Tryz.prog 42 #[v, .int .i64 q] w fun e w' => ∃ b, e = .returned (.bool b) ∧ (b = true ↔ Cnt L q) ∧ Below w.heap.size w w' := by
  have HV := Lib.hid hv
  obtain ⟨va, vc, rfl, -⟩ := hv
  obtain ⟨n, hn⟩ : ∃ n, n = L.length := ⟨_, rfl⟩
  rw [← hn] at HV hl hq ⊢
  have N1 := Lib.hid hn
  clear hn
  go_enter Tryz.func42, Tryz.ntmps42
  go_wp2_with fail
  go_loopw [5] (fun i wr => ∃ k : Nat, k ≤ n ∧ i = .int .i64 k ∧ Below w.heap.size w wr ∧ ∀ j, j < k → L[j]!.r = L[q]!.r → Beats L q j) (fun i _ => n - (intOf i).toNat)
  case atStart => exact ⟨0, by omega, rfl, Below.refl _ _, fun j hj => by omega⟩
  case round =>
    obtain ⟨k, hk, rfl, hb, hall⟩ := hrel
    have HBr := Lib.hid hb
    have HA := Lib.hid hall
    clear hb hall
    by_cases hlt : k < n
    · have hlx : k < L.length := by rw [← N1.out]; exact hlt
      have hly : q < L.length := by rw [← N1.out]; exact hq
      obtain ⟨b1, o1, cap1, cs1, e1, _, _, hR1, _, hg1, _⟩ := SlOf.range (by omega) (VersAt.keep HV.out (Stay.of_below HBr.out) (fun _ h _ => h)) hlx
      obtain ⟨b2, o2, cap2, cs2, e2, _, _, hR2, _, hg2, _⟩ := SlOf.range (by omega) (VersAt.keep HV.out (Stay.of_below HBr.out) (fun _ h _ => h)) hly
      have e1' : va = some ⟨b1, o1, none⟩ := by injection e1
      subst e1'
      have e3 : b1 = b2 := by injection e2 with h; injection h with h; injection h
      have e4 : o1 = o2 := by injection e2 with h; injection h with h; injection h
      clear e2
      subst e3 e4
      obtain ⟨x, hx⟩ : ∃ x, x = L[k] := ⟨_, rfl⟩
      obtain ⟨y, hy⟩ : ∃ y, y = L[q] := ⟨_, rfl⟩
      rw [← hx] at hR1
      rw [← hy] at hR2
      obtain ⟨fa, fc, rfl, -⟩ := hR1.expl'
      obtain ⟨ga, gc, rfl, -⟩ := hR2.expl'
      obtain ⟨p0, p1, p2, p3, p4, p5⟩ := range6 hg1
      obtain ⟨q0, q1, q2, q3, q4, q5⟩ := range6 hg2
      have ex : L[k]! = x := by rw [hx, getElem!_pos L k hlx]
      have ey : L[q]! = y := by rw [hy, getElem!_pos L q hly]
      have HC : RowKit.Hid ((Cnt L q → (x.r = y.r → x.num < y.num ∨ x.num = y.num ∧ q ≤ k)) ∧ ((x.r = y.r → x.num < y.num ∨ x.num = y.num ∧ q ≤ k) → L[k]!.r = L[q]!.r → Beats L q k)) := Lib.hid (by
        unfold Cnt CntTo Beats
        rw [ex, ey]
        exact ⟨fun h hr => by have := h.2 k hlx (by rw [ex]; exact hr); rw [ex] at this; exact this, fun h => h⟩)
      have hq' := eql_rec x.r y.r
      clear hg1 hg2 hx hy hR1 hR2 ex ey e1 p3 p4 p5 q3 q4 q5
      by_cases hr : x.r = y.r
      · rw [decide_eq_true hr] at hq'
        have HR := Lib.hid hr
        clear hr
        by_cases h1 : y.num < x.num
        · have H1 := Lib.hid h1
          have g1 : decide (x.num > y.num) = true := by simpa using h1
          clear h1
          go_wp2_with fail
          go_quiet (fail)
          go_wp2_with fail
          go_ret
          exact ⟨false, rfl, ⟨fun e => by (cases e), fun e => absurd (HC.out.1 e) (fun h => by have := h HR.out; have := H1.out; omega)⟩, bdrewN HBr.out _⟩
        · by_cases h2 : x.num = y.num
          · have H2 := Lib.hid h2
            have g1 : decide (x.num > y.num) = false := by simp; omega
            have g2 : (x.num == y.num) = true := by simpa using h2
            clear h1 h2
            by_cases h3 : k < q
            · skip
              go_wp2_with fail
              go_quiet (fail)
              go_wp2_with fail
              go_ret
              exact ⟨false, rfl, ⟨fun e => by (cases e), fun e => absurd (HC.out.1 e) (fun h => by have := h HR.out; have := H2.out; omega)⟩, bdrewN HBr.out _⟩
            · skip
              go_wp2_with fail
              go_quiet (fail)
              go_wp2_with fail
              exact ⟨⟨k + 1, hlt, by go_num, bdrewN HBr.out _, fun j hj => by
                by_cases e : j = k
                · subst e; exact HC.out.2 (fun _ => .inr ⟨H2.out, by omega⟩)
                · exact HA.out j (by omega)⟩, by simp [intOf]; omega⟩
          · have H1 : RowKit.Hid (x.num < y.num) := Lib.hid (by omega)
            have g1 : decide (x.num > y.num) = false := by simp; omega
            have g2 : (x.num == y.num) = false := by simpa using h2
            clear h1 h2
            go_wp2_with fail
            go_quiet (fail)
            go_wp2_with fail
            exact ⟨⟨k + 1, hlt, by go_num, bdrewN HBr.out _, fun j hj => by
              by_cases e : j = k
              · subst e; exact HC.out.2 (fun _ => .inl H1.out)
              · exact HA.out j (by omega)⟩, by simp [intOf]; omega⟩
      · rw [decide_eq_false hr] at hq'
        have HR := Lib.hid hr
        clear hr
        go_wp2_with fail
        go_quiet (fail)
        go_wp2_with fail
        exact ⟨⟨k + 1, hlt, by go_num, bdrewN HBr.out _, fun j hj => by
          by_cases e : j = k
          · subst e; exact HC.out.2 (fun h => absurd h HR.out)
          · exact HA.out j (by omega)⟩, by simp [intOf]; omega⟩
    · obtain rfl : k = n := by omega
      go_wp2_with fail
      go_ret
      exact ⟨true, rfl, ⟨fun _ => ⟨by rw [← N1.out]; exact hq, fun j hj => HA.out j (by rw [N1.out]; exact hj)⟩, fun _ => rfl⟩, HBr.out⟩
end Go.Proofs.YtpdldbapagchfaaGreatDoor

/- Without: the versions of other sources. -/
namespace Go.Proofs.YtpdldbapagchfaaGreatDoor
open Go.RowKit Go.Shelf Go.Maps

theorem VerR.expl {S : Nat → Prop} {w : World} {cs : List Value} {x : Ver} (h : VerR S w cs x) : ∃ a n c, cs = [.int .i64 x.r.1, .int .i64 x.r.2, .int .i64 x.num, .int .u8 x.kind, .int .u8 x.level, .slice a n c] := by
  obtain ⟨fv, rfl, a, c, rfl, _⟩ := h; exact ⟨a, _, c, rfl⟩
theorem VerR.len {S : Nat → Prop} {w : World} {cs : List Value} {x : Ver} (h : VerR S w cs x) : cs.length = 6 := by obtain ⟨fv, rfl, _⟩ := h; rfl
theorem without_take (s : Int) (L : List Ver) {k : Nat} (hk : k < L.length) : without s (L.take (k + 1)) = without s (L.take k) ++ if L[k].r.1 ≠ s then [L[k]] else [] := by
  unfold without
  rw [List.take_succ_eq_append_getElem hk, List.filter_append]
  congr 1
  by_cases h : L[k].r.1 = s <;> simp [h]
set_option maxRecDepth 100000 in
set_option maxHeartbeats 2000000 in
theorem without_any (S : Nat → Prop) (s : Int) {w : World} {v : Value} {L : List Ver} (h : VersAt S w v L) (hl : VsOk L) :
    Calls Tryz.prog 19 #[v, .int .i64 s] w fun e w' => ∃ v', e = .returned v' ∧ OwnOf 43 6 w.heap.size (VerR (fun b => w.heap.size ≤ b)) w' v' (without s L) ∧ Below w.heap.size w w' := by
  obtain ⟨i0, hi, hz1, hz2, hz3⟩ := info_Ver
  have HV := Lib.hid h
  obtain ⟨a, cap, rfl, -⟩ := h
  obtain ⟨n, hn⟩ : ∃ n, n = L.length := ⟨_, rfl⟩
  have HL := Lib.hid hl
  have hl1 : n ≤ 1000 := by rw [hn]; exact hl.1
  rw [← hn] at HV ⊢
  have HN := Lib.hid hn
  clear hn hl
  go_enter Tryz.func19, Tryz.ntmps19
  go_wp2_with fail
  go_loopw [5, 10] (fun o i wr => ∃ k : Nat, k ≤ n ∧ i = .int .i64 k ∧ Below w.heap.size w wr ∧ OwnX 43 6 w.heap.size VerR wr o (without s (L.take k))) (fun _ i _ => n - (intOf i).toNat)
  case atStart => exact ⟨0, by omega, rfl, Below.refl _ _, OwnX.nil _ _ _ _ _⟩
  case round =>
    obtain ⟨k, hk, rfl, hb, hO⟩ := hrel
    have HB := Lib.hid hb
    have HO := Lib.hid hO
    clear hb hO
    by_cases hlt : k < n
    · have hlx : k < L.length := by rw [← HN.out]; exact hlt
      obtain ⟨b, o, cap2, cs, e1, hSb, hbl, hR, hcl, hrg, hth⟩ := SlOf.range (by omega) (VersAt.keep HV.out (Stay.of_below HB.out) (fun _ h _ => h)) hlx
      have e2 : a = some ⟨b, o, none⟩ := by injection e1
      clear e1 hcl hth hbl hSb
      subst e2
      have HR := Lib.hid hR
      obtain ⟨x, hx⟩ : ∃ x, x = L[k] := ⟨_, rfl⟩
      rw [← hx] at HR
      obtain ⟨fa, fn, fc, rfl⟩ := hR.expl
      rw [← hx] at hrg HR
      have HX := Lib.hid hx
      have HG := Lib.hid hrg
      clear hx hrg hR
      by_cases hs : x.r.1 = s
      · go_wp2_with (refine wpList_load_mid rfl 43 (.tmp 12) rfl b (o + k * 6) rfl [.int .i64 x.r.1, .int .i64 x.r.2, .int .i64 x.num, .int .u8 x.kind, .int .u8 x.level, .slice fa fn fc] _ HG.out Tryz.underlying43 rfl (by kernel_rfl) ?_)
        have HE : RowKit.Hid (without s (L.take (k + 1)) = without s (L.take k)) := Lib.hid (by rw [without_take s L hlx, if_neg (by rw [← HX.out]; exact fun h => h hs)]; simp)
        refine ⟨⟨k + 1, hlt, by go_num, HB.out.alloc (by have := HB.out.size; omega) _, ?_⟩, by simp [intOf]; omega⟩
        rw [HE.out]
        exact HO.out.below keeps_ver ((Below.refl _ _).alloc (Nat.le_refl _) _)
      · have hne : (x.r.1 != s) = true := by simpa using hs
        have HE : RowKit.Hid (without s (L.take (k + 1)) = without s (L.take k) ++ [x]) := Lib.hid (by rw [without_take s L hlx, if_pos (by rw [← HX.out]; exact hs), HX.out])
        have HFO : RowKit.Hid (FsOk x.fs) := Lib.hid (by rw [HX.out]; exact HL.out.2 _ (List.getElem_mem _))
        clear hs
        go_wp2_with (refine wpList_load_mid rfl 43 (.tmp 12) rfl b (o + k * 6) rfl [.int .i64 x.r.1, .int .i64 x.r.2, .int .i64 x.num, .int .u8 x.kind, .int .u8 x.level, .slice fa fn fc] _ HG.out Tryz.underlying43 rfl (by kernel_rfl) ?_)
        obtain ⟨W1, hW1⟩ : ∃ W1, W1 = wr.alloc (.cells #[.int .i64 x.r.1, .int .i64 x.r.2, .int .i64 x.num, .int .u8 x.kind, .int .u8 x.level, .slice fa fn fc] 43) := ⟨_, rfl⟩
        rw [← hW1]
        have B1 : RowKit.Hid (Below wr.heap.size wr W1) := Lib.hid (by rw [hW1]; exact (Below.refl _ _).alloc (Nat.le_refl _) _)
        clear hW1
        have HR1 := Lib.hid (HR.out.keep (Stay.of_below B1.out) (fun _ h _ => h))
        refine (own_any _ HR1.out HFO.out).mono ?_
        rintro e w3 ⟨cs', rfl, hR', hb'⟩
        have B3 := Lib.hid (B1.out.trans (hb'.mono B1.out.size))
        have HF3 : RowKit.Hid (Below w.heap.size w w3) := Lib.hid (HB.out.trans (B3.out.mono HB.out.size))
        have HO3 := Lib.hid (HO.out.below keeps_ver B3.out)
        have HOL := Lib.hid HO.out.lt
        have HR3 := Lib.hid hR'
        obtain ⟨ga, gn, gc, rfl⟩ := hR'.expl
        clear hb' hR'
        obtain ⟨css, hr, hA, hz⟩ := HO3.out
        have hm : (without s (L.take k)).length ≤ 1000 := by
          have h1 : (without s (L.take k)).length ≤ (L.take k).length := List.length_filter_le _ _
          rw [List.length_take] at h1; omega
        have HA := Lib.hid hA
        have HZ := Lib.hid hz
        have HM := Lib.hid hm
        have HOW := Lib.hid hr
        clear hA hz hr hm
        go_wp2_with (refine wpList_append_all rfl (.tmp 19) (.tmp 22) 24 rfl w.heap.size 43 i0 _ 6 56 Tryz.underlying24 hi hz1 hz2 hz3 rfl (by omega) _ (without s (L.take k)).length css.flatten rfl (HOW.out.alloc _) 1 [.int .i64 x.r.1, .int .i64 x.r.2, .int .i64 x.num, .int .u8 x.kind, .int .u8 x.level, .slice ga gn gc] _ rfl (src_row (row_fresh w3 0 _ 43 6 1 rfl (by unfold maxLen; omega) (Nat.zero_le _))) (one_ver _ _ _ _ HR3.out) (by have := HM.out; unfold maxLen; omega) (by have := HM.out; omega) (by have := HF3.out.size; simp; omega) ?_; intro v' w4 hr4 hg4 ho4; have HR4 := Lib.hid hr4; have HG4 := Lib.hid hg4; have HO4 := Lib.hid ho4; clear hr4 hg4 ho4)
        refine ⟨⟨k + 1, hlt, by go_num, below_grown (HF3.out.alloc (by have := HF3.out.size; omega) _) (by have := HF3.out.size; simp; omega) HG4.out (fun r e => (HOL.out r e).1), ?_⟩, by simp [intOf]; omega⟩
        rw [HE.out]
        exact OwnX.snoc keeps_ver HOW.out HA.out HZ.out HR3.out (fun r e => by have := (HOL.out r e).2; have := B1.out.size; omega) (by have := HB.out.size; have := B1.out.size; omega) rfl ((Below.refl _ _).alloc (Nat.le_refl _) _) HR4.out HG4.out HO4.out
    · obtain rfl : k = n := by omega
      go_wp2_with fail
      go_ret
      refine ⟨_, rfl, ?_, HB.out⟩
      have := HO.out
      rw [HN.out, List.take_length] at this
      exact this.own keeps_ver
end Go.Proofs.YtpdldbapagchfaaGreatDoor
