/- The law Taken. -/
import Derived.Test.YtpdldbapagchfaaGreatDoorQ28
import Derived.Test.YtpdldbapagchfaaGreatDoorQWX7
import Derived.Test.YtpdldbapagchfaaGreatDoorQ08
import Derived.Test.YtpdldbapagchfaaGreatDoorQ12
set_option linter.unusedVariables false
set_option linter.unusedSimpArgs false

namespace Go.Proofs.YtpdldbapagchfaaGreatDoor
open Go.RowKit Go.Shelf Go.Maps
attribute [local go_sem] over_cell over_frozen
/-- What a source says. -/
def ofS (s : Int) (l : List Ver) : List Ver := l.filter fun v => decide (v.r.1 = s)
theorem ofS_take (s : Int) (L : List Ver) {k : Nat} (hk : k < L.length) : ofS s (L.take (k + 1)) = ofS s (L.take k) ++ if L[k].r.1 = s then [L[k]] else [] := by
  unfold ofS
  rw [List.take_succ_eq_append_getElem hk, List.filter_append]
  congr 1
  by_cases h : L[k].r.1 = s <;> simp [h]
/-- A row whose members' parts lie ahead of N is appended to. -/
theorem OwnOf.snocN {T : TypeId} {N : Nat} {w3 w3' w4 : World} {v v' : Value} {L : List Ver} {css : List (List Value)} {c : List Value} {x : Ver} (hr3 : w3.ownsRow N T 6 v L.length css.flatten) (h1 : All2 (VerR (fun b => b < N) w3) css L) (h2 : ∀ d ∈ css, d.length = 6)
    (hc : VerR (fun b => b < N) w3 c x) (hz : c.length = 6) (hb : Below w3.heap.size w3 w3') (hr : w4.ownsRow N T 6 v' (L.length + 1) (css.flatten ++ c)) (hg : w3'.grownBy w4 v.ownBlock) :
    OwnOf T 6 N (VerR (fun b => b < N)) w4 v' (L ++ [x]) := by
  have hl := row_lt hr3
  have st : Stay (fun b => b < N) w3 w4 := fun b h1 h2 => (hg.block b (by have := hb.size; omega) (fun e => by have := (hl b e.symm).1; omega)).trans (hb.block b h2)
  refine ⟨css ++ [c], by rw [List.length_append, List.flatten_append]; simpa using hr, (h1.mono fun d y hd => keeps_ver _ _ _ _ _ _ hd st fun b h _ => h).app (All2.one (keeps_ver _ _ _ _ _ _ hc st fun b h _ => h)), fun d hd => ?_⟩
  rcases List.mem_append.1 hd with h | h
  · exact h2 d h
  · rw [List.mem_singleton.1 h]; exact hz
/-- Another such row is as it was. -/
theorem OwnOf.otherN {T : TypeId} {N : Nat} {w3 w3' w4 : World} {v u : Value} {L : List Ver} (h : OwnOf T 6 N (VerR (fun b => b < N)) w3 u L) (hl : ∀ r, v.ownBlock = some r → N ≤ r) (hne : ∀ b, v.ownBlock = some b → u.ownBlock ≠ some b) (hb : Below w3.heap.size w3 w3') (hg : w3'.grownBy w4 v.ownBlock) (hN : N ≤ w3.heap.size) :
    OwnOf T 6 N (VerR (fun b => b < N)) w4 u L := by
  have t : Tn (fun b => v.ownBlock = some b) w3 w4 := (Tn.of_below hb).trans (Tn.of_grown hg)
  refine OwnOf.keep h t (fun r e _ _ e2 => hne r e2 e) fun c x hx => keeps_ver _ _ _ _ _ _ hx (Stay.of_tn t fun b hb _ e => ?_) (fun b h _ => h)
  have := hl b e
  omega
theorem field_mrg (k l : Int) (u v : Value) (w : World) : (Instr.field 32 (.agg #[.int .u8 k, .int .u8 l, u, v]) 1).run Tryz.prog w = .ok v w := by kernel_rfl
theorem wpAnyH_apart5 {P : Program} {md : Region.Mode} {ops : Array Oper} {Q : Exit → Act → World → Prop} {S : World → Prop} {fuel : Nat} {L : Array Bool} {a : Act} {w : World} {α β γ δ ε : Type} {a1 : α → β → γ → δ → ε → Act} (F : World → Prop)
    (take : ∀ R : Act → World → Prop, (∀ x1 x2 x3 x4 x5 w', F w' → R (a1 x1 x2 x3 x4 x5) w') → wpAnyH P md ops (only R) S fuel L a w) (rest : ∀ x1 x2 x3 x4 x5 w', F w' → Q .normal (a1 x1 x2 x3 x4 x5) w') : wpAnyH P md ops Q S fuel L a w :=
  wpAnyH_mono (fun _ _ _ h => nomatch h.1) (fun ⟨_, _, h⟩ => nomatch h.1) (fun _ _ h => h.2) fuel L a w (take (Q .normal) rest)
theorem lok_nil : LOk [] := ⟨⟨by simp, by simp⟩, by intro x hx; simp at hx, by simp, by intro x hx; simp at hx⟩
theorem sl_nil {α : Type} {z : Nat} {S : Nat → Prop} {R : World → List Value → α → Prop} (w : World) : SlOf z S R w (.slice none 0 0) [] := ⟨none, 0, rfl, Nat.le_refl _, by unfold maxLen; omega, .inl rfl⟩
set_option maxRecDepth 100000 in
set_option maxHeartbeats 4000000 in
theorem takenLaw (S : Nat → Prop) {w : World} {v : Value} {l : List SaidI} {wh : Int} (h : SlOf 4 S (SaidR S) w v l) (hl : SOk l) (hwh : 0 ≤ wh ∧ wh < 256) :
    Calls Tryz.prog 6 #[v, .int .u8 wh] w fun e w' => e = .returned (.bool true) ∧ Below w.heap.size w w' := by
  obtain ⟨i0, hi, hz1, hz2, hz3⟩ := info_Ver
  have HS := Lib.hid h
  have HL := Lib.hid (versP_lok hl)
  obtain ⟨a, cap, rfl, -⟩ := h
  obtain ⟨n, hn⟩ : ∃ n, n = l.length := ⟨_, rfl⟩
  rw [← hn] at HS ⊢
  clear hl hn
  go_enter Tryz.func6, Tryz.ntmps6
  go_wp2_with fail
  refine (sanity_any w).mono ?_
  rintro e w1 ⟨rfl, hb⟩
  have B1 := Lib.hid hb
  have HV := Lib.hid (versX_any S (h := HS.out.keep (by omega) (Stay.of_below hb) (fun _ _ h => h.keep (Stay.of_below hb) (fun _ h _ => h)) (fun _ h _ => h)))
  clear hb
  go_wp2_with fail
  refine HV.out.mono ?_
  rintro e w2 ⟨v2, rfl, hO, hb⟩
  have hO' : OwnX 43 6 w.heap.size VerR w2 v2 (versP l) := by
    obtain ⟨css, hr, ha, hz⟩ := hO
    exact ⟨css, row_mono hr B1.out.size, ha.mono fun c x hc => keeps_ver _ _ _ _ _ _ hc (fun _ _ _ => rfl) (fun b hb _ => ⟨Nat.le_trans B1.out.size hb.1, hb.2⟩), hz⟩
  have B2 : RowKit.Hid (Below w.heap.size w w2) := Lib.hid (B1.out.trans (hb.mono B1.out.size))
  clear hO hb HV
  have HD := Lib.hid (distinct_any hO' HL.out.vs.1)
  have HOL := Lib.hid (OwnOf.lt hO')
  clear hO'
  go_wp2_with fail
  refine HD.out.mono ?_
  rintro e w3 ⟨rfl, hO, ht⟩
  obtain ⟨D, hD⟩ : ∃ D, D = distP (versP l) := ⟨_, rfl⟩
  rw [← hD] at hO
  have LD : RowKit.Hid (LOk D) := Lib.hid (by rw [hD]; exact HL.out.dist)
  have DD : RowKit.Hid (Dist D) := Lib.hid (by rw [hD]; exact distP_dist (by simp only [versP, List.length_map, List.length_take]; omega))
  have FD : RowKit.Hid ((saidOf (latest D)).length ≤ 1000) := Lib.hid (few_latest (by rw [hD, distP_len]; exact versP_len l) (fun x hx => by
    rw [hD] at hx
    obtain ⟨k, y, hy, _, rfl⟩ := mem_distP hx
    exact versP_few l y hy))
  have D10 : D.length ≤ 10 := by rw [hD, distP_len]; simp only [versP, List.length_map, List.length_take]; omega
  have B3 : RowKit.Hid (Below w.heap.size w w3) := Lib.hid (B2.out.trans (ht.below B2.out.size fun b e => (HOL.out b e).1))
  have DF : RowKit.Hid (∀ x ∈ D, x.fs.length ≤ 6) := Lib.hid (fun x hx => by
    rw [hD] at hx
    obtain ⟨k, y, hy, _, rfl⟩ := mem_distP hx
    exact versP_few l y hy)
  clear ht HD HOL hD
  obtain ⟨va, vc, rfl⟩ := hO.expl
  have HO := Lib.hid hO
  obtain ⟨m, hm⟩ : ∃ m, m = D.length := ⟨_, rfl⟩
  have m10 : m ≤ 10 := by omega
  rw [← hm] at HO ⊢
  have ND := Lib.hid hm
  clear hO hm D10
  have B30 := B3.out.size
  obtain ⟨N, hN⟩ : ∃ N, N = w3.heap.size := ⟨_, rfl⟩
  have HN := Lib.hid hN
  have HV3 : RowKit.Hid (VersAt (fun b => b < N) w3 (.slice va m vc) D) := Lib.hid (by rw [hN]; exact SlOf.keep (by omega) (OwnOf.sl HO.out) (fun _ _ _ => rfl) (fun c x h => keeps_ver _ _ _ _ _ _ h (fun _ _ _ => rfl) (fun b _ h => h)) (fun b _ h => h))
  clear hN
  by_cases hm0 : m = 0
  · subst hm0
    go_wp2_with fail
    refine (merge_any (S0 := fun _ => True) (sl_nil _) lok_nil (by exact lok_nil)).mono ?_
    rintro e w4 ⟨cs, rfl, hM, hb⟩
    have B4 : RowKit.Hid (Below w.heap.size w w4) := Lib.hid (B3.out.trans (hb.mono B30))
    clear hb
    obtain ⟨fv, rv, rfl, hF, hR⟩ := hM
    obtain ⟨fa, fc, rfl, -⟩ := hF
    obtain ⟨ra, rc, rfl, -⟩ := hR
    rw [show (mrgV (latest [])).rs.length = 0 from rfl]
    have hfd : ∀ W, (Instr.field 32 (.agg #[.int .u8 ↑(mrgV (latest [])).kind, .int .u8 ↑(mrgV (latest [])).level, .slice fa (mrgV (latest [])).fs.length fc, .slice ra 0 rc]) 1).run Tryz.prog W = .ok (.slice ra 0 rc) W := fun W => field_mrg _ _ _ _ W
    go_wp2_with fail
    refine (latest_any (fun _ => True) (sl_nil _) lok_nil.vs lok_nil.recs).mono ?_
    rintro e w5 ⟨v5, rfl, hO5, hb⟩
    obtain ⟨la, lc, rfl⟩ := hO5.expl
    rw [show (latest []).length = 0 from rfl]
    have B5 : RowKit.Hid (Below w.heap.size w w5) := Lib.hid (B4.out.trans (hb.mono B4.out.size))
    clear hO5 hb
    go_wp2_with fail
    go_ret
    exact ⟨rfl, B5.out⟩
  have hmp : 0 < m := by omega
  clear hm0
  obtain ⟨vg, e2, hgB, hgl⟩ := OwnX.head HO.out (by rw [← ND.out]; exact hmp)
  subst e2
  obtain ⟨k0, hk0⟩ : ∃ k0 : Nat, wh % (m : Int) = k0 := ⟨(wh % (m : Int)).toNat, by have := Int.emod_nonneg wh (show (m : Int) ≠ 0 by omega); omega⟩
  have hk0m : k0 < m := by have := Int.emod_lt_of_pos wh (show (0 : Int) < (m : Int) by omega); omega
  obtain ⟨c0, hR0, hl0, hg0, ht0⟩ := OwnX.range HO.out (k := k0) (by rw [← ND.out]; exact hk0m)
  obtain ⟨s, hs⟩ : ∃ s, s = (D[k0]'(by rw [← ND.out]; exact hk0m)).r.1 := ⟨_, rfl⟩
  obtain ⟨f0, d0, rfl, -⟩ := hR0.expl'
  have s0 : w3.cell? ⟨vg, k0 * 6, none⟩ = some (.int .i64 s) := by rw [hs]; exact hg0 0 _ rfl
  clear hs hg0 ht0 hR0 hl0
  go_wp2_with fail
  go_loopw [8, 9, 46] (fun oo mm i wr => ∃ k : Nat, k ≤ m ∧ i = .int .i64 k ∧ Below N w3 wr ∧ OwnOf 43 6 N (VerR (fun b => b < N)) wr oo (without s (D.take k)) ∧ OwnOf 43 6 N (VerR (fun b => b < N)) wr mm (ofS s (D.take k)) ∧ (∀ b, oo.ownBlock = some b → mm.ownBlock ≠ some b)) (fun _ _ i _ => m - (intOf i).toNat)
  case atStart => exact ⟨0, by omega, rfl, by rw [HN.out]; exact Below.refl _ _, OwnOf.nil _ _ _ _ _, OwnOf.nil _ _ _ _ _, fun b e => by cases e⟩
  case round =>
    obtain ⟨k, hk, rfl, hb, hO1, hO2, hd⟩ := hrel
    have HB := Lib.hid hb
    have HO1 := Lib.hid hO1
    have HO2 := Lib.hid hO2
    obtain ⟨oa, oc, rfl⟩ := hO1.expl
    obtain ⟨ma, mc, rfl⟩ := hO2.expl
    have HDJ := Lib.hid hd
    have hNr : N ≤ wr.heap.size := by have h1 := hb.size; have h2 := HN.out; omega
    clear hb hO1 hO2 hd
    by_cases hlt : k < m
    · have hlx : k < D.length := by rw [← ND.out]; exact hlt
      obtain ⟨b2, o2, cp2, cs2, ea, hb2N, _, hR2, hl2, hg2, _⟩ := SlOf.range (by omega) (VersAt.keep HV3.out (fun b h1 h2 => HB.out.block b h1) (fun _ h _ => h)) hlx
      have ea' : (some ⟨vg, 0, none⟩ : Option Addr) = some ⟨b2, o2, none⟩ := by injection ea
      clear ea
      have eb : vg = b2 := by injection ea' with h; injection h
      have eo : 0 = o2 := by injection ea' with h; injection h
      subst eb eo
      rw [Nat.zero_add] at hg2
      obtain ⟨x, hx⟩ : ∃ x, x = D[k] := ⟨_, rfl⟩
      rw [← hx] at hR2
      have HRX := Lib.hid hR2
      have NX := Lib.hid hx
      obtain ⟨xa, xc, rfl, -⟩ := hR2.expl'
      obtain ⟨r, hr⟩ : ∃ r, r = x.fs.length := ⟨_, rfl⟩
      rw [← hr] at hg2 HRX
      clear hx hr hR2
      obtain ⟨g0, g1, g2, g3, g4, g5⟩ := range6 hg2
      clear hg2
      have HL1 : RowKit.Hid ((without s (D.take k)).length ≤ 10 ∧ (ofS s (D.take k)).length ≤ 10) := Lib.hid (by
        have h1 : (without s (D.take k)).length ≤ (D.take k).length := List.length_filter_le _ _
        have h2 : (ofS s (D.take k)).length ≤ (D.take k).length := List.length_filter_le _ _
        rw [List.length_take] at h1 h2
        omega)
      by_cases hxs : x.r.1 = s
      · have hq : (x.r.1 == s) = true := by simpa using hxs
        have HE1 : RowKit.Hid (without s (D.take (k + 1)) = without s (D.take k)) := Lib.hid (by rw [without_take s D hlx, if_neg (by rw [← NX.out]; exact fun h => h hxs), List.append_nil])
        have HE2 : RowKit.Hid (ofS s (D.take (k + 1)) = ofS s (D.take k) ++ [x]) := Lib.hid (by rw [ofS_take s D hlx, if_pos (by rw [← NX.out]; exact hxs), NX.out])
        clear hxs
        have hlL : (ofS s (D.take k)).length ≤ 10 := HL1.out.2
        go_upto_region 10 with fail
        obtain ⟨W6, hW6⟩ : ∃ W6, W6 = wr.alloc (.cells #[.int .i64 x.r.1, .int .i64 x.r.2, .int .i64 x.num, .int .u8 x.kind, .int .u8 x.level, .slice xa r xc] 43) := ⟨_, rfl⟩
        rw [← hW6]
        have B6 : RowKit.Hid (Below wr.heap.size wr W6) := Lib.hid (by rw [hW6]; exact (Below.refl _ _).alloc (Nat.le_refl _) _)
        have K6 : RowKit.Hid (Blk W6 wr.heap.size #[.int .i64 x.r.1, .int .i64 x.r.2, .int .i64 x.num, .int .u8 x.kind, .int .u8 x.level, .slice xa r xc] 43) := Lib.hid (by rw [hW6]; exact Blk.new _ _ _)
        clear hW6 g0 g1 g2 g3 g4 g5
        have BN6 : RowKit.Hid (Below N w3 W6) := Lib.hid (HB.out.trans (B6.out.mono hNr))
        have hN6 : N ≤ W6.heap.size := by have := B6.out.size; omega
        have HVX := Lib.hid (keeps_ver _ (fun b => b < N) _ _ _ _ HRX.out (Stay.of_below B6.out) (fun b h _ => h))
        have HO16 : RowKit.Hid (OwnOf 43 6 N (VerR (fun b => b < N)) W6 (.slice oa (without s (D.take k)).length oc) (without s (D.take k))) := Lib.hid (HO1.out.keep (F := fun _ => False) (Tn.of_below B6.out) (fun _ _ _ _ h => h) fun c y hy => keeps_ver _ _ _ _ _ _ hy (Stay.of_below B6.out) (fun _ h _ => h))
        have HO26 : RowKit.Hid (OwnOf 43 6 N (VerR (fun b => b < N)) W6 (.slice ma (ofS s (D.take k)).length mc) (ofS s (D.take k))) := Lib.hid (HO2.out.keep (F := fun _ => False) (Tn.of_below B6.out) (fun _ _ _ _ h => h) fun c y hy => keeps_ver _ _ _ _ _ _ hy (Stay.of_below B6.out) (fun _ h _ => h))
        have HX6 : RowKit.Hid (OwnOf 43 6 N (VerR (fun b => b < N)) W6 (.slice ma (ofS s (D.take k)).length mc) (ofS s (D.take k))) := Lib.hid (HO2.out.keep (F := fun _ => False) (Tn.of_below B6.out) (fun _ _ _ _ h => h) fun c y hy => keeps_ver _ _ _ _ _ _ hy (Stay.of_below B6.out) (fun _ h _ => h))
        have HOL := Lib.hid HX6.out.lt
        obtain ⟨css, hr, hA, hz⟩ := HX6.out
        have HA := Lib.hid hA
        have HZ := Lib.hid hz
        have HOW := Lib.hid hr
        clear hA hz hr
        have y0 : W6.cell? ⟨wr.heap.size, 0, none⟩ = some (.int .i64 x.r.1) := K6.out.cell 0
        have y1 : W6.cell? ⟨wr.heap.size, 1, none⟩ = some (.int .i64 x.r.2) := K6.out.cell 1
        have y2 : W6.cell? ⟨wr.heap.size, 2, none⟩ = some (.int .i64 x.num) := K6.out.cell 2
        have y3 : W6.cell? ⟨wr.heap.size, 3, none⟩ = some (.int .u8 x.kind) := K6.out.cell 3
        have y4 : W6.cell? ⟨wr.heap.size, 4, none⟩ = some (.int .u8 x.level) := K6.out.cell 4
        have y5 : W6.cell? ⟨wr.heap.size, 5, none⟩ = some (.slice xa r xc) := K6.out.cell 5
        go_wp2_with (refine wpList_append_all rfl (.tmp 55) (.tmp 57) 24 rfl N 43 i0 _ 6 56 Tryz.underlying24 hi hz1 hz2 hz3 rfl (by omega) _ (ofS s (D.take k)).length css.flatten rfl (HOW.out.alloc _) 1 [.int .i64 x.r.1, .int .i64 x.r.2, .int .i64 x.num, .int .u8 x.kind, .int .u8 x.level, .slice xa r xc] _ rfl (src_row (row_fresh W6 0 _ 43 6 1 rfl (by unfold maxLen; omega) (Nat.zero_le _))) (one_ver _ _ _ _ HVX.out) (by unfold maxLen; omega) (by omega) (by simp; omega) ?_; intro v' w4 hr4 hg4 ho4; have HR4 := Lib.hid hr4; have HG4 := Lib.hid hg4; have HO4 := Lib.hid ho4; clear hr4 hg4 ho4)
        refine ⟨⟨.slice oa (without s (D.take k)).length oc, v', .pointer (some ⟨wr.heap.size, 0, none⟩), .int .i64 ((k : Int) + 1), ⟨k + 1, hlt, by go_num, below_grown (BN6.out.alloc hN6 _) (by simp; omega) HG4.out (fun q e => (HOL.out q e).1), ?_, ?_, ?_⟩, rfl, rfl, rfl, rfl⟩, by simp [intOf]; omega⟩
        · rw [HE1.out]
          exact OwnOf.otherN HO16.out (fun q e => (HOL.out q e).1) (fun b e1 e2 => HDJ.out b e2 e1) ((Below.refl _ _).alloc (Nat.le_refl _) _) HG4.out hN6
        · rw [HE2.out]
          exact OwnOf.snocN HOW.out HA.out HZ.out HVX.out rfl ((Below.refl _ _).alloc (Nat.le_refl _) _) HR4.out HG4.out
        · intro b e1 e2
          have h1 := (HO16.out.lt b e1).2
          rcases HO4.out with h | h
          · rw [h] at e2; exact HDJ.out b e1 e2
          · rw [h] at e2; injection e2 with e2
            simp at e2; omega
      · have hq : (x.r.1 == s) = false := by simpa using hxs
        have HE1 : RowKit.Hid (without s (D.take (k + 1)) = without s (D.take k) ++ [x]) := Lib.hid (by rw [without_take s D hlx, if_pos (by rw [← NX.out]; exact hxs), NX.out])
        have HE2 : RowKit.Hid (ofS s (D.take (k + 1)) = ofS s (D.take k)) := Lib.hid (by rw [ofS_take s D hlx, if_neg (by rw [← NX.out]; exact hxs), List.append_nil])
        clear hxs
        have hlL : (without s (D.take k)).length ≤ 10 := HL1.out.1
        go_upto_region 10 with fail
        obtain ⟨W6, hW6⟩ : ∃ W6, W6 = wr.alloc (.cells #[.int .i64 x.r.1, .int .i64 x.r.2, .int .i64 x.num, .int .u8 x.kind, .int .u8 x.level, .slice xa r xc] 43) := ⟨_, rfl⟩
        rw [← hW6]
        have B6 : RowKit.Hid (Below wr.heap.size wr W6) := Lib.hid (by rw [hW6]; exact (Below.refl _ _).alloc (Nat.le_refl _) _)
        have K6 : RowKit.Hid (Blk W6 wr.heap.size #[.int .i64 x.r.1, .int .i64 x.r.2, .int .i64 x.num, .int .u8 x.kind, .int .u8 x.level, .slice xa r xc] 43) := Lib.hid (by rw [hW6]; exact Blk.new _ _ _)
        clear hW6 g0 g1 g2 g3 g4 g5
        have BN6 : RowKit.Hid (Below N w3 W6) := Lib.hid (HB.out.trans (B6.out.mono hNr))
        have hN6 : N ≤ W6.heap.size := by have := B6.out.size; omega
        have HVX := Lib.hid (keeps_ver _ (fun b => b < N) _ _ _ _ HRX.out (Stay.of_below B6.out) (fun b h _ => h))
        have HO16 : RowKit.Hid (OwnOf 43 6 N (VerR (fun b => b < N)) W6 (.slice oa (without s (D.take k)).length oc) (without s (D.take k))) := Lib.hid (HO1.out.keep (F := fun _ => False) (Tn.of_below B6.out) (fun _ _ _ _ h => h) fun c y hy => keeps_ver _ _ _ _ _ _ hy (Stay.of_below B6.out) (fun _ h _ => h))
        have HO26 : RowKit.Hid (OwnOf 43 6 N (VerR (fun b => b < N)) W6 (.slice ma (ofS s (D.take k)).length mc) (ofS s (D.take k))) := Lib.hid (HO2.out.keep (F := fun _ => False) (Tn.of_below B6.out) (fun _ _ _ _ h => h) fun c y hy => keeps_ver _ _ _ _ _ _ hy (Stay.of_below B6.out) (fun _ h _ => h))
        have HX6 : RowKit.Hid (OwnOf 43 6 N (VerR (fun b => b < N)) W6 (.slice oa (without s (D.take k)).length oc) (without s (D.take k))) := Lib.hid (HO1.out.keep (F := fun _ => False) (Tn.of_below B6.out) (fun _ _ _ _ h => h) fun c y hy => keeps_ver _ _ _ _ _ _ hy (Stay.of_below B6.out) (fun _ h _ => h))
        have HOL := Lib.hid HX6.out.lt
        obtain ⟨css, hr, hA, hz⟩ := HX6.out
        have HA := Lib.hid hA
        have HZ := Lib.hid hz
        have HOW := Lib.hid hr
        clear hA hz hr
        have y0 : W6.cell? ⟨wr.heap.size, 0, none⟩ = some (.int .i64 x.r.1) := K6.out.cell 0
        have y1 : W6.cell? ⟨wr.heap.size, 1, none⟩ = some (.int .i64 x.r.2) := K6.out.cell 1
        have y2 : W6.cell? ⟨wr.heap.size, 2, none⟩ = some (.int .i64 x.num) := K6.out.cell 2
        have y3 : W6.cell? ⟨wr.heap.size, 3, none⟩ = some (.int .u8 x.kind) := K6.out.cell 3
        have y4 : W6.cell? ⟨wr.heap.size, 4, none⟩ = some (.int .u8 x.level) := K6.out.cell 4
        have y5 : W6.cell? ⟨wr.heap.size, 5, none⟩ = some (.slice xa r xc) := K6.out.cell 5
        go_wp2_with (refine wpList_append_all rfl (.tmp 59) (.tmp 61) 24 rfl N 43 i0 _ 6 56 Tryz.underlying24 hi hz1 hz2 hz3 rfl (by omega) _ (without s (D.take k)).length css.flatten rfl (HOW.out.alloc _) 1 [.int .i64 x.r.1, .int .i64 x.r.2, .int .i64 x.num, .int .u8 x.kind, .int .u8 x.level, .slice xa r xc] _ rfl (src_row (row_fresh W6 0 _ 43 6 1 rfl (by unfold maxLen; omega) (Nat.zero_le _))) (one_ver _ _ _ _ HVX.out) (by unfold maxLen; omega) (by omega) (by simp; omega) ?_; intro v' w4 hr4 hg4 ho4; have HR4 := Lib.hid hr4; have HG4 := Lib.hid hg4; have HO4 := Lib.hid ho4; clear hr4 hg4 ho4)
        refine ⟨⟨v', .slice ma (ofS s (D.take k)).length mc, .pointer (some ⟨wr.heap.size, 0, none⟩), .int .i64 ((k : Int) + 1), ⟨k + 1, hlt, by go_num, below_grown (BN6.out.alloc hN6 _) (by simp; omega) HG4.out (fun q e => (HOL.out q e).1), ?_, ?_, ?_⟩, rfl, rfl, rfl, rfl⟩, by simp [intOf]; omega⟩
        · rw [HE1.out]
          exact OwnOf.snocN HOW.out HA.out HZ.out HVX.out rfl ((Below.refl _ _).alloc (Nat.le_refl _) _) HR4.out HG4.out
        · rw [HE2.out]
          exact OwnOf.otherN HO26.out (fun q e => (HOL.out q e).1) (fun b e1 e2 => HDJ.out b e1 e2) ((Below.refl _ _).alloc (Nat.le_refl _) _) HG4.out hN6
        · intro b e1 e2
          have h1 := (HO26.out.lt b e2).2
          rcases HO4.out with h | h
          · rw [h] at e1; exact HDJ.out b e1 e2
          · rw [h] at e1; injection e1 with e1
            simp at e1; omega
    · obtain rfl : k = m := by omega
      have eD : D.take k = D := by rw [ND.out]; exact List.take_length
      rw [eD] at HO1 HO2 ⊢
      clear eD
      have HVr : RowKit.Hid (VersAt (fun b => b < N) wr (.slice (some ⟨vg, 0, none⟩) k vc) D) := Lib.hid (VersAt.keep HV3.out (fun b h1 h2 => HB.out.block b h1) (fun _ h _ => h))
      have LOO : RowKit.Hid (LOk (without s D)) := Lib.hid (LD.out.sub (List.length_filter_le _ _) (fun x hx => (List.mem_filter.1 hx).1))
      go_wp2_with fail
      refine (withoutX_any _ s HVr.out LD.out.vs).mono ?_
      rintro e w6 ⟨v6, rfl, hO6, hb⟩
      have HO6 := Lib.hid (OwnOf.slB (hO6.own keeps_ver) (by omega))
      have B6 := Lib.hid hb
      clear hO6 hb
      go_wp2_with fail
      refine (merge_any HO6.out LOO.out LOO.out.latest).mono ?_
      rintro e w7 ⟨cs, rfl, hM, hb⟩
      obtain ⟨G, hG⟩ : ∃ G, G = mrgV (latest (without s D)) := ⟨_, rfl⟩
      have FO : RowKit.Hid ((saidOf (latest (without s D))).length ≤ 1000) := Lib.hid (few_latest (Nat.le_trans (List.length_filter_le _ _) (by rw [← ND.out]; omega)) (fun x hx => DF.out x (List.mem_filter.1 hx).1))
      have OG : RowKit.Hid (FsOk G.fs) := Lib.hid (by rw [hG]; exact mrgV_ok LOO.out.latest FO.out)
      rw [← hG] at hM
      have HG := Lib.hid hG
      have B7 : RowKit.Hid (Below wr.heap.size wr w7) := Lib.hid (B6.out.trans (hb.mono B6.out.size))
      have HM7 := Lib.hid hM
      clear hb hG
      obtain ⟨fv, rv, rfl, hF, hR⟩ := hM
      obtain ⟨fa, fc, rfl, -⟩ := hF
      have HR := Lib.hid hR
      obtain ⟨ra, rc, rfl, -⟩ := hR
      obtain ⟨p, hp⟩ : ∃ p, p = G.rs.length := ⟨_, rfl⟩
      obtain ⟨fn, hfn⟩ : ∃ fn, fn = G.fs.length := ⟨_, rfl⟩
      rw [← hp] at HR HM7 ⊢
      rw [← hfn] at HM7 ⊢
      have NP := Lib.hid hp
      clear hp hfn
      have p1 : p ≤ 1000 := by
        rw [NP.out]
        have h1 : G.rs.length = G.l.length := List.length_map ..
        have h2 : G.fs.length = G.l.length := List.length_map ..
        rw [h1, ← h2]; exact OG.out.1
      obtain ⟨wo, rfl⟩ : ∃ wo, wo = wr := ⟨_, rfl⟩
      go_wp2_with fail
      obtain ⟨W8, hW8⟩ : ∃ W8, W8 = w7.alloc (.cells #[.int .u8 G.kind, .int .u8 G.level, .slice fa fn fc, .slice ra p rc] 32) := ⟨_, rfl⟩
      rw [← hW8]
      have B8 : RowKit.Hid (Below w7.heap.size w7 W8) := Lib.hid (by rw [hW8]; exact (Below.refl _ _).alloc (Nat.le_refl _) _)
      have K8 : RowKit.Hid (Blk W8 w7.heap.size #[.int .u8 G.kind, .int .u8 G.level, .slice fa fn fc, .slice ra p rc] 32) := Lib.hid (by rw [hW8]; exact Blk.new _ _ _)
      have HR8 : RowKit.Hid (SlOf 2 (fun _ => True) RecR W8 (.slice ra p rc) G.rs) := Lib.hid (SlOf.keep (by omega) HR.out (Stay.of_below B8.out) (fun _ _ h => h) (fun _ _ _ => trivial))
      have NRS : RowKit.Hid (∀ y ∈ G.rs, y.1 ≠ s) := Lib.hid (fun y hy => by
        obtain ⟨z, hz, rfl⟩ := List.mem_map.1 hy
        have hm : z ∈ mergeP (foldS tabC) polP (tagsP ltT (saidOf (latest (without s D)))) (latest (without s D)) := by
          have e : G.l = mergeP (foldS tabC) polP (tagsP ltT (saidOf (latest (without s D)))) (latest (without s D)) := by rw [HG.out]; rfl
          rw [← e]; exact hz
        obtain ⟨u, hu, h1, h2⟩ := mem_mergeP (x := z) hm
        have := (List.mem_filter.1 (latest_sub hu)).2
        rw [← h1]; simpa using this)
      clear hW8
      go_loopw [71] (fun i wt => ∃ j : Nat, j ≤ p ∧ i = .int .i64 j ∧ Below W8.heap.size W8 wt) (fun i _ => p - (intOf i).toNat)
      case atStart => exact ⟨0, by omega, rfl, Below.refl _ _⟩
      case round =>
        obtain ⟨j, hj, rfl, hb⟩ := hrel
        have BT := Lib.hid hb
        clear hb
        by_cases hjt : j < p
        · have hjx : j < G.rs.length := by rw [← NP.out]; exact hjt
          obtain ⟨b4, o4, cp4, cs4, ea, _, _, hR4, hl4, hg4, _⟩ := SlOf.range (by omega) (SlOf.keep (S' := fun _ => True) (R' := RecR) (by omega) HR8.out (Stay.of_below BT.out) (fun _ _ h => h) (fun _ _ _ => trivial)) hjx
          have ea' : ra = some ⟨b4, o4, none⟩ := by injection ea
          clear ea
          subst ea'
          unfold RecR at hR4
          subst hR4
          obtain ⟨rk, hrk⟩ : ∃ rk, rk = G.rs[j] := ⟨_, rfl⟩
          rw [← hrk] at hg4
          have hq : (rk.1 == s) = false := by
            rw [beq_eq_false_iff_ne, hrk]; exact NRS.out _ (List.getElem_mem _)
          have u0 : wr.cell? ⟨b4, o4 + j * 2, none⟩ = some (.int .i64 rk.1) := hg4 0 _ rfl
          have u1 : wr.cell? ⟨b4, o4 + j * 2 + 1, none⟩ = some (.int .i64 rk.2) := hg4 1 _ rfl
          clear hrk hg4
          go_wp2_with fail
          exact ⟨⟨j + 1, hjt, by go_num, BT.out.alloc BT.out.size _⟩, by simp [intOf]; omega⟩
        · obtain rfl : j = p := by omega
          have K12 : RowKit.Hid (Blk wr w7.heap.size #[.int .u8 G.kind, .int .u8 G.level, .slice fa fn fc, .slice ra j rc] 32) := Lib.hid (K8.out.below BT.out K8.out.lt)
          have B7r : RowKit.Hid (Below w7.heap.size w7 wr) := Lib.hid (B8.out.trans (BT.out.mono B8.out.size))
          have BOr : RowKit.Hid (Below wo.heap.size wo wr) := Lib.hid (B7.out.trans (B7r.out.mono B7.out.size))
          have B3r : RowKit.Hid (Below N w3 wr) := Lib.hid (HB.out.trans (BOr.out.mono hNr))
          have HM12 : RowKit.Hid (MrgR (fun _ => True) wr [.int .u8 G.kind, .int .u8 G.level, .slice fa fn fc, .slice ra j rc] G) := Lib.hid (HM7.out.keep (Stay.of_below B7r.out) (fun _ _ _ => trivial))
          have HOO : RowKit.Hid (VersAt (fun _ => True) wr (.slice oa (without s D).length oc) (without s D)) := Lib.hid (SlOf.keep (by omega) (HO1.out.sl) (Stay.of_below BOr.out) (fun c x h => keeps_ver _ _ _ _ _ _ h (Stay.of_below BOr.out) (fun _ _ _ => trivial)) (fun _ _ _ => trivial))
          have HMM : RowKit.Hid (VersAt (fun _ => True) wr (.slice ma (ofS s D).length mc) (ofS s D)) := Lib.hid (SlOf.keep (by omega) (HO2.out.sl) (Stay.of_below BOr.out) (fun c x h => keeps_ver _ _ _ _ _ _ h (Stay.of_below BOr.out) (fun _ _ _ => trivial)) (fun _ _ _ => trivial))
          have HVR : RowKit.Hid (VersAt (fun _ => True) wr (.slice (some ⟨vg, 0, none⟩) k vc) D) := Lib.hid (VersAt.keep HV3.out (fun b h1 h2 => B3r.out.block b h1) (fun _ _ _ => trivial))
          obtain ⟨W0, rfl⟩ : ∃ W0, W0 = wr := ⟨_, rfl⟩
          obtain ⟨S', hS'⟩ : ∃ S' : World → Prop, S' = fun W => Below W0.heap.size W0 W := ⟨_, rfl⟩
          have LDD : RowKit.Hid (∀ W, S' W → Blk W w7.heap.size #[.int .u8 G.kind, .int .u8 G.level, .slice fa fn fc, .slice ra j rc] 32) := Lib.hid (by rw [hS']; exact fun W h => K12.out.below h K12.out.lt)
          have UU : RowKit.Hid (∀ W, Below W0.heap.size W0 W → S' W) := Lib.hid (by rw [hS']; exact fun W h => h)
          have UDD : RowKit.Hid (∀ W, S' W → Below W0.heap.size W0 W) := Lib.hid (by rw [hS']; exact fun W h => h)
          have hHeld := UU.out _ (bdrewN (Below.refl _ _) 1)
          clear hS'
          go_wp2_with fail
          have UD : RowKit.Hid (∀ W, S' W → Below W0.heap.size W0 W) := UDD
          refine wp_region_held_drew (S := S') (by kernel_rfl) hHeld (fun _ => ?_)
          apply wpAnyH_apart5 (α := List Value) (β := Value) (γ := Value) (δ := List Value) (ε := List Value) (fun W => Below W0.heap.size W0 W)
          case take =>
            intro R hR
            refine wpAnyH_take (i := 0) (v := ?_) rfl (by kernel_rfl) (by kernel_rfl) (by kernel_rfl) (fun _ _ _ h => only_panic h) (Or.inl ⟨by rfl, ?_⟩) hHeld ?_
            rotate_left
            · (intro w hSw; skip; go_simp; try (with_reducible rfl))
            try simp only [List.getElem_toArray, List.getElem_cons_succ, List.getElem_cons_zero, Act.put, List.setIfInBounds_toArray, List.set_cons_zero, List.set_cons_succ]
            refine wpAnyH_take (i := 1) (v := ?_) rfl (by kernel_rfl) (by kernel_rfl) (by kernel_rfl) (fun _ _ _ h => only_panic h) (Or.inl ⟨by rfl, ?_⟩) hHeld ?_
            rotate_left
            · (intro w hSw; skip; go_simp; try (with_reducible rfl))
            try simp only [List.getElem_toArray, List.getElem_cons_succ, List.getElem_cons_zero, Act.put, List.setIfInBounds_toArray, List.set_cons_zero, List.set_cons_succ]
            refine wpAnyH_take (i := 3) (v := ?_) rfl (by kernel_rfl) (by kernel_rfl) (by kernel_rfl) (fun _ _ _ h => only_panic h) (Or.inl ⟨by rfl, ?_⟩) hHeld ?_
            rotate_left
            · (intro w hSw; skip; go_simp; try (with_reducible rfl))
            try simp only [List.getElem_toArray, List.getElem_cons_succ, List.getElem_cons_zero, Act.put, List.setIfInBounds_toArray, List.set_cons_zero, List.set_cons_succ]
            refine wpAnyH_take (i := 2) (v := .agg #[.int .u8 G.kind, .int .u8 G.level, .slice fa fn fc, .slice ra j rc]) rfl (by kernel_rfl) (by kernel_rfl) (by kernel_rfl) (fun _ _ _ h => only_panic h) ?_ hHeld ?_
            · exact yields_row (.tmp 12) (by rfl) rfl rfl LDD.out Tryz.underlying32 rfl (by kernel_rfl)
            try simp only [List.getElem_toArray, List.getElem_cons_succ, List.getElem_cons_zero, Act.put, List.setIfInBounds_toArray, List.set_cons_zero, List.set_cons_succ]
            refine wpAnyH_one (i := 4) rfl (by kernel_rfl) (by rfl) ?_
            go_simp
            refine (merge_any (S0 := fun _ => True) (show VersAt (fun _ => True) W0.drew _ _ from VersAt.keep HOO.out (fun _ _ _ => rfl) (fun _ _ _ => trivial)) LOO.out LOO.out.latest).mono ?_
            rintro e W2 ⟨cs2, rfl, hM2, hb⟩
            have C2 : RowKit.Hid (Below W0.heap.size W0 W2) := Lib.hid ((bdrewN (Below.refl _ _) 1).trans hb)
            rw [← HG.out] at hM2
            have HM2 := Lib.hid hM2
            have hHeld := UU.out _ C2.out
            clear hb hM2
            refine ⟨hHeld, ?_⟩
            refine wpAnyH_one (i := 5) rfl (by kernel_rfl) (by rfl) ?_
            go_simp
            refine (same_any (fun _ => True) _ (HM12.out.keep (Stay.of_below C2.out) (fun _ _ _ => trivial)) HM2.out OG.out).mono ?_
            rintro e W3 ⟨rfl, hb⟩
            have C3 : RowKit.Hid (Below W0.heap.size W0 W3) := Lib.hid (C2.out.trans (hb.mono C2.out.size))
            have hHeld := UU.out _ C3.out
            clear hb
            refine ⟨hHeld, ?_⟩
            refine wpAnyH_take (i := 6) (v := ?_) rfl (by kernel_rfl) (by kernel_rfl) (by kernel_rfl) (fun _ _ _ h => only_panic h) (Or.inl ⟨by rfl, ?_⟩) hHeld ?_
            rotate_left
            · (intro w hSw; skip; go_simp; try (with_reducible rfl))
            try simp only [List.getElem_toArray, List.getElem_cons_succ, List.getElem_cons_zero, Act.put, List.setIfInBounds_toArray, List.set_cons_zero, List.set_cons_succ]
            refine wpAnyH_take (i := 7) (v := ?_) rfl (by kernel_rfl) (by kernel_rfl) (by kernel_rfl) (fun _ _ _ h => only_panic h) (Or.inl ⟨by rfl, ?_⟩) hHeld ?_
            rotate_left
            · (intro w hSw; skip; go_simp; try (with_reducible rfl))
            try simp only [List.getElem_toArray, List.getElem_cons_succ, List.getElem_cons_zero, Act.put, List.setIfInBounds_toArray, List.set_cons_zero, List.set_cons_succ]
            refine wpAnyH_take (i := 8) (v := ?_) rfl (by kernel_rfl) (by kernel_rfl) (by kernel_rfl) (fun _ _ _ h => only_panic h) (Or.inl ⟨by rfl, ?_⟩) hHeld ?_
            rotate_left
            · (intro w hSw; skip; go_simp; try (with_reducible rfl))
            try simp only [List.getElem_toArray, List.getElem_cons_succ, List.getElem_cons_zero, Act.put, List.setIfInBounds_toArray, List.set_cons_zero, List.set_cons_succ]
            refine wpAnyH_take (i := 9) (v := ?_) rfl (by kernel_rfl) (by kernel_rfl) (by kernel_rfl) (fun _ _ _ h => only_panic h) (Or.inl ⟨by rfl, ?_⟩) hHeld ?_
            rotate_left
            · (intro w hSw; skip; go_simp; try (with_reducible rfl))
            try simp only [List.getElem_toArray, List.getElem_cons_succ, List.getElem_cons_zero, Act.put, List.setIfInBounds_toArray, List.set_cons_zero, List.set_cons_succ]
            refine wpAnyH_take (i := 11) (v := ?_) rfl (by kernel_rfl) (by kernel_rfl) (by kernel_rfl) (fun _ _ _ h => only_panic h) (Or.inl ⟨by rfl, ?_⟩) hHeld ?_
            rotate_left
            · (intro w hSw; skip; go_simp; try (with_reducible rfl))
            try simp only [List.getElem_toArray, List.getElem_cons_succ, List.getElem_cons_zero, Act.put, List.setIfInBounds_toArray, List.set_cons_zero, List.set_cons_succ]
            refine wpAnyH_take (i := 14) (v := ?_) rfl (by kernel_rfl) (by kernel_rfl) (by kernel_rfl) (fun _ _ _ h => only_panic h) (Or.inl ⟨by rfl, ?_⟩) hHeld ?_
            rotate_left
            · (intro w hSw; skip; go_simp; try (with_reducible rfl))
            try simp only [List.getElem_toArray, List.getElem_cons_succ, List.getElem_cons_zero, Act.put, List.setIfInBounds_toArray, List.set_cons_zero, List.set_cons_succ]
            refine wpAnyH_one (i := 10) rfl (by kernel_rfl) (by rfl) ?_
            go_simp
            refine (withoutX_any (fun _ => True) s (VersAt.keep HVR.out (Stay.of_below C3.out) (fun _ _ _ => trivial)) LD.out.vs).mono ?_
            rintro e W4 ⟨v4, rfl, hO4, hb⟩
            have C4 : RowKit.Hid (Below W0.heap.size W0 W4) := Lib.hid (C3.out.trans (hb.mono C3.out.size))
            have HO4 := Lib.hid hO4
            have HOL4 := Lib.hid (OwnOf.lt hO4)
            have hHeld := UU.out _ C4.out
            have C34 := Lib.hid hb
            clear hb hO4
            refine ⟨hHeld, ?_⟩
            refine wpAnyH_one (i := 12) rfl (by kernel_rfl) (by rfl) ?_
            obtain ⟨css4, hr4, hA4, hz4⟩ := HO4.out
            have HA4 := Lib.hid hA4
            have HMM4 : RowKit.Hid (VersAt (fun b => b < W3.heap.size) W4 (.slice ma (ofS s D).length mc) (ofS s D)) := Lib.hid (VersAt.keep (VersAt.keep (S' := fun b => b < W3.heap.size) HMM.out (Stay.of_below C3.out) (fun b _ h => Nat.lt_of_lt_of_le h C3.out.size)) (Stay.of_below C34.out) (fun _ h _ => h))
            obtain ⟨cssm, hsm, hAm, hzm⟩ := SlOf.src HMM4.out
            have HAm := Lib.hid hAm
            have HON := Lib.hid (one_flat (fun c x h => one_ver _ _ _ _ h) hAm)
            have HL4 : RowKit.Hid ((without s D).length ≤ 10 ∧ (ofS s D).length ≤ 10) := Lib.hid (by
              have h1 : (without s D).length ≤ D.length := List.length_filter_le _ _
              have h2 : (ofS s D).length ≤ D.length := List.length_filter_le _ _
              have := ND.out
              omega)
            have hla := HL4.out.1
            have hlb := HL4.out.2
            have hW3 : W3.heap.size ≤ W4.heap.size := C34.out.size
            refine wp_append_all (.tmp 90) (.tmp 91) 24 rfl W3.heap.size 43 i0 _ 6 56 Tryz.underlying24 hi hz1 hz2 hz3 rfl (by omega) v4 (without s D).length css4.flatten rfl hr4 (ofS s D).length cssm.flatten (.slice ma (ofS s D).length mc) rfl hsm HON.out (by unfold maxLen; omega) (by omega) hW3 ?_
            intro v5 W5 hr5 hg5 ho5
            have C5 : RowKit.Hid (Below W0.heap.size W0 W5) := Lib.hid (below_grown C4.out (by have := C4.out.size; omega) hg5 (fun r e => Nat.le_trans C3.out.size (HOL4.out r e).1))
            have T45 : RowKit.Hid (Tn (fun b => v4.ownBlock = some b) W4 W5) := Lib.hid (Tn.of_grown hg5)
            have HV5 : RowKit.Hid (VersAt (fun _ => True) W5 v5 (without s D ++ ofS s D)) := Lib.hid (by
              refine SlOf.keep (R := VerR (fun _ => True)) (S := fun b => v5.ownBlock = some b) (by omega) (OwnOf.sl (T := 43) (B := W3.heap.size) ⟨css4 ++ cssm, by rw [List.length_append, List.flatten_append]; exact hr5, (HA4.out.mono fun c x h => ?_).app (HAm.out.mono fun c x h => ?_), fun d hd => (List.mem_append.1 hd).elim (hz4 d) (hzm d)⟩) (fun _ _ _ => rfl) (fun _ _ h => h) (fun _ _ _ => trivial)
              · exact keeps_ver _ _ _ _ _ _ h (Stay.of_tn T45.out fun b hb _ e => hb.2 e) (fun _ _ _ => trivial)
              · exact keeps_ver _ _ _ _ _ _ h (Stay.of_tn T45.out fun b hb _ e => by have := (HOL4.out b e).1; omega) (fun _ _ _ => trivial))
            have hHeld := UU.out _ C5.out
            clear hr5 hg5 ho5 hsm hAm hzm hr4 hA4 hz4 HA4 HAm HON HO4 HOL4 T45
            refine ⟨hHeld, ?_⟩
            refine wpAnyH_one (i := 13) rfl (by kernel_rfl) (by rfl) ?_
            go_simp
            have PM : RowKit.Hid ((without s D ++ ofS s D).Perm D) := Lib.hid (without_back s D)
            have LOM : RowKit.Hid (LOk (without s D ++ ofS s D)) := Lib.hid (LD.out.sub (by rw [PM.out.length_eq]; exact Nat.le_refl _) (fun x hx => PM.out.mem_iff.1 hx))
            refine (merge_any HV5.out LOM.out LOM.out.latest).mono ?_
            rintro e W6 ⟨cs6, rfl, hM6, hb⟩
            rw [← latest_perm PM.out.symm DD.out] at hM6
            have HM6 := Lib.hid hM6
            have C6 : RowKit.Hid (Below W0.heap.size W0 W6) := Lib.hid (C5.out.trans (hb.mono C5.out.size))
            have hHeld := UU.out _ C6.out
            clear hb hM6
            refine ⟨hHeld, ?_⟩
            refine wpAnyH_one (i := 15) rfl (by kernel_rfl) (by rfl) ?_
            go_simp
            refine (merge_any (S0 := fun _ => True) (VersAt.keep HVR.out (Stay.of_below C6.out) (fun _ _ _ => trivial)) LD.out LD.out.latest).mono ?_
            rintro e W7 ⟨cs7, rfl, hM7, hb⟩
            have HM7' := Lib.hid hM7
            have HM6' := Lib.hid (HM6.out.keep (S' := fun _ => True) (Stay.of_below hb) (fun _ _ _ => trivial))
            have C7 : RowKit.Hid (Below W0.heap.size W0 W7) := Lib.hid (C6.out.trans (hb.mono C6.out.size))
            have hHeld := UU.out _ C7.out
            clear hb hM7
            refine ⟨hHeld, ?_⟩
            refine wpAnyH_one (i := 16) rfl (by kernel_rfl) (by rfl) ?_
            go_simp
            refine (same_any _ _ HM6'.out HM7'.out (mrgV_ok LD.out.latest FD.out)).mono ?_
            rintro e W8' ⟨rfl, hb⟩
            have C8 : RowKit.Hid (Below W0.heap.size W0 W8') := Lib.hid (C7.out.trans (hb.mono C7.out.size))
            have hHeld := UU.out _ C8.out
            clear hb
            refine ⟨hHeld, ?_⟩
            refine wpAnyH_take (i := 17) (v := ?_) rfl (by kernel_rfl) (by kernel_rfl) (by kernel_rfl) (fun _ _ _ h => only_panic h) (Or.inl ⟨by rfl, ?_⟩) hHeld ?_
            rotate_left
            · (intro w hSw; skip; go_simp; try (with_reducible rfl))
            try simp only [List.getElem_toArray, List.getElem_cons_succ, List.getElem_cons_zero, Act.put, List.setIfInBounds_toArray, List.set_cons_zero, List.set_cons_succ]
            refine wpAnyH_take (i := 18) (v := ?_) rfl (by kernel_rfl) (by kernel_rfl) (by kernel_rfl) (fun _ _ _ h => only_panic h) (Or.inl ⟨by rfl, ?_⟩) hHeld ?_
            rotate_left
            · (intro w hSw; skip; go_simp; try (with_reducible rfl))
            try simp only [List.getElem_toArray, List.getElem_cons_succ, List.getElem_cons_zero, Act.put, List.setIfInBounds_toArray, List.set_cons_zero, List.set_cons_succ]
            exact wpAnyH_done (by kernel_rfl) ⟨rfl, hR cs2 v4 v5 cs6 cs7 _ C8.out⟩ _
          case rest =>
            intro x1 x2 x3 x4 x5 W hb
            have CW := Lib.hid hb
            go_wp2_with fail
            go_ret
            have h1 : w.heap.size ≤ N := by rw [HN.out]; exact B30
            have h2 : N ≤ W0.heap.size := by have h3 := B3r.out.size; have h4 := HN.out; omega
            exact ⟨rfl, B3.out.trans ((B3r.out.trans (CW.out.mono h2)).mono h1)⟩
end Go.Proofs.YtpdldbapagchfaaGreatDoor
