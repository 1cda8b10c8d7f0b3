/- An asker's tables, its messages, its states. -/
import Derived.Test.YtdojgbpaheadnaaGreatQAA
import Derived.Test.YtdojgbpaheadnaaGreatQLF
set_option linter.unusedVariables false
set_option linter.unusedSimpArgs false

namespace Go.Proofs.YtdojgbpaheadnaaGreat
open Go.RowKit Go.Shelf Go.Maps Go.ChangeMaps

theorem zeroS (w : World) : (zeroValue 134).run Tryz.prog w = .ok (rqV 0 0 0) w := by kernel_rfl
def stpV (k : Int) : Value := match stp k with | some (p, q, z) => rqV p q z | none => rqV 0 0 0
/-- The table of steps. -/
def StpAt (w : World) (mb : Nat) : Prop := ∃ n f, MapF w Tryz.prog 104 RQ mb n f ∧ ∀ k, I64 k → f (.int .i64 k) = (stp k).map fun x => rqD ⟨0, x.1, x.2.1, x.2.2⟩
theorem StpAt.look {w : World} {mb : Nat} (h : StpAt w mb) {k : Int} (hk : I64 k) :
    (Instr.lookup 136 (.map (some mb)) (.int .i64 k) true).run Tryz.prog w = .ok (.tuple #[stpV k, .bool (stp k).isSome]) w := by
  obtain ⟨n, f, hm, hf⟩ := h
  have hzd : RQ (rqV 0 0 0) = some (rqD ⟨0, 0, 0, 0⟩, []) := rfl
  obtain ⟨v, ps, hr, hv⟩ := hm.look_ok keyK Tryz.underlying136 (zeroS w) hzd (keyOfK hk)
  rw [hf k hk] at hv hr
  rw [hr, Option.isSome_map]
  have : v = stpV k := by
    unfold stpV
    cases e : stp k with
    | none => rw [e] at hv; exact RQ_inv hv
    | some x => obtain ⟨p, q, z⟩ := x; rw [e] at hv; exact RQ_inv hv
  rw [this]
theorem StpAt.up {w w' : World} {mb : Nat} (h : StpAt w mb) (hb : Below w.heap.size w w') : StpAt w' mb := by
  obtain ⟨n, f, hm, hf⟩ := h
  exact ⟨n, f, hm.keep (F := fun _ => False) (Tn.of_below hb) id, hf⟩
set_option maxRecDepth 100000 in
theorem steps_any (w : World) : Calls Tryz.prog 63 #[] w fun e w' => ∃ mb, e = .returned (.map (some mb)) ∧ StpAt w' mb ∧ Below w.heap.size w w' := by
  have hmk := run_makeMap (P := Tryz.prog) 136
  have m0 := MapF.new w Tryz.prog 104 RQ
  obtain ⟨mb, hmb⟩ : ∃ mb, mb = w.heap.size := ⟨_, rfl⟩
  obtain ⟨w0, hw0⟩ : ∃ w0, w0 = w.alloc (.map #[] 0) := ⟨_, rfl⟩
  rw [← hmb, ← hw0] at m0
  have ii : ∀ x : Int, 0 ≤ x → x ≤ 100 → I64 x := fun x h1 h2 => ⟨by omega, by omega⟩
  obtain ⟨w1, r1, m1, g1⟩ := m0.put keyK Tryz.underlying136 (by decide) (keyOfK (ii 5 (by omega) (by omega))) (RQ_mk ⟨0, 1, 2, 7⟩)
  obtain ⟨w2, r2, m2, g2⟩ := m1.put keyK Tryz.underlying136 (by decide) (keyOfK (ii 6 (by omega) (by omega))) (RQ_mk ⟨0, 1, 7, 0⟩)
  obtain ⟨w3, r3, m3, g3⟩ := m2.put keyK Tryz.underlying136 (by decide) (keyOfK (ii 8 (by omega) (by omega))) (RQ_mk ⟨0, 2, 3, 9⟩)
  obtain ⟨w4, r4, m4, g4⟩ := m3.put keyK Tryz.underlying136 (by decide) (keyOfK (ii 10 (by omega) (by omega))) (RQ_mk ⟨0, 3, 4, 0⟩)
  obtain ⟨w5, r5, m5, g5⟩ := m4.put keyK Tryz.underlying136 (by decide) (keyOfK (ii 12 (by omega) (by omega))) (RQ_mk ⟨0, 5, 6, 0⟩)
  have A5 : RowKit.Hid (StpAt w5 mb) := Lib.hid ⟨_, _, m5, fun k hk => by
    have e : ∀ a b : Int, (Lit.int .i64 a = Lit.int .i64 b) ↔ a = b := fun a b => ⟨fun h => by injection h, fun h => by rw [h]⟩
    simp only [updL, e, stp]
    by_cases h5 : k = 5
    · subst h5; rfl
    · by_cases h6 : k = 6
      · subst h6; rfl
      · by_cases h8 : k = 8
        · subst h8; rfl
        · by_cases h10 : k = 10
          · subst h10; rfl
          · by_cases h12 : k = 12
            · subst h12; rfl
            · simp [h5, h6, h8, h10, h12]⟩
  have B5 : RowKit.Hid (Below w.heap.size w w5) := Lib.hid (by
    have t : Tn (fun b => b = mb) w0 w5 := (((((Tn.of_grown g1).trans (Tn.of_grown g2)).trans (Tn.of_grown g3)).trans (Tn.of_grown g4)).trans (Tn.of_grown g5)).mono fun b h => by injection h with h; exact h.symm
    have b0 : Below w.heap.size w w0 := by rw [hw0]; exact (Below.refl _ _).alloc (Nat.le_refl _) _
    exact b0.trans (t.below b0.size fun b h => by omega))
  have r1' : (Instr.mapUpdate 136 (.map (some mb)) (.int .i64 5) (.agg #[i64 1, i64 2, i64 7])).run Tryz.prog w0 = .ok () w1 := r1
  have r2' : (Instr.mapUpdate 136 (.map (some mb)) (.int .i64 6) (.agg #[i64 1, i64 7, i64 0])).run Tryz.prog w1 = .ok () w2 := r2
  have r3' : (Instr.mapUpdate 136 (.map (some mb)) (.int .i64 8) (.agg #[i64 2, i64 3, i64 9])).run Tryz.prog w2 = .ok () w3 := r3
  have r4' : (Instr.mapUpdate 136 (.map (some mb)) (.int .i64 10) (.agg #[i64 3, i64 4, i64 0])).run Tryz.prog w3 = .ok () w4 := r4
  have r5' : (Instr.mapUpdate 136 (.map (some mb)) (.int .i64 12) (.agg #[i64 5, i64 6, i64 0])).run Tryz.prog w4 = .ok () w5 := r5
  have hmk' : (Instr.makeMap 136 none).run Tryz.prog w = .ok (.map (some mb)) w0 := by rw [hmk, hmb, hw0]
  clear hmk m0 hmb hw0 r1 r2 r3 r4 r5 m1 m2 m3 m4 m5 g1 g2 g3 g4 g5
  go_enter Tryz.func63, Tryz.ntmps63
  go_wp2_with fail
  go_ret
  exact ⟨mb, rfl, A5.out, B5.out⟩
/-- An int reads as itself. -/
def RI (v : Value) : Option (DataW Unit × List MemPlace) :=
  match v with
  | .int .i64 x => some (.lit (.int .i64 x), [])
  | _ => none
theorem RI_inv {v : Value} {x : Int} {ps : List MemPlace} (h : RI v = some (.lit (.int .i64 x), ps)) : v = i64 x := by
  unfold RI at h
  split at h
  · simp only [Option.some.injEq, Prod.mk.injEq, DataW.lit.injEq, Lit.int.injEq, true_and] at h
    rw [h.1]
  · cases h
theorem zeroK (w : World) : (zeroValue 104).run Tryz.prog w = .ok (i64 0) w := by kernel_rfl
set_option maxRecDepth 100000 in
theorem repeated_any (st : Int) (hst : I64 st) (w : World) : Calls Tryz.prog 66 #[i64 st] w fun e w' => e = .returned (i64 (agn st)) ∧ Below w.heap.size w w' := by
  have hmk := run_makeMap (P := Tryz.prog) 199
  have m0 := MapF.new w Tryz.prog 3 RI
  obtain ⟨mb, hmb⟩ : ∃ mb, mb = w.heap.size := ⟨_, rfl⟩
  obtain ⟨w0, hw0⟩ : ∃ w0, w0 = w.alloc (.map #[] 0) := ⟨_, rfl⟩
  rw [← hmb, ← hw0] at m0
  have ii : ∀ x : Int, 0 ≤ x → x ≤ 100 → I64 x := fun x h1 h2 => ⟨by omega, by omega⟩
  have ri : ∀ x : Int, RI (i64 x) = some (.lit (.int .i64 x), []) := fun _ => rfl
  obtain ⟨w1, r1, m1, g1⟩ := m0.put keyI Tryz.underlying199 (by decide) (keyOfI (ii 1 (by omega) (by omega))) (ri 1)
  obtain ⟨w2, r2, m2, g2⟩ := m1.put keyI Tryz.underlying199 (by decide) (keyOfI (ii 2 (by omega) (by omega))) (ri 7)
  obtain ⟨w3, r3, m3, g3⟩ := m2.put keyI Tryz.underlying199 (by decide) (keyOfI (ii 3 (by omega) (by omega))) (ri 9)
  obtain ⟨w4, r4, m4, g4⟩ := m3.put keyI Tryz.underlying199 (by decide) (keyOfI (ii 5 (by omega) (by omega))) (ri 11)
  obtain ⟨v, ps, hlk, hv⟩ := m4.look keyI Tryz.underlying199 (zeroK w4) (ri 0) (keyOfI hst)
  have hv' : v = i64 (agn st) := by
    have e : ∀ a b : Int, (Lit.int .i64 a = Lit.int .i64 b) ↔ a = b := fun a b => ⟨fun h => by injection h, fun h => by rw [h]⟩
    simp only [updL, e] at hv
    unfold agn
    by_cases h1 : st = 1
    · subst h1; exact RI_inv hv
    · by_cases h2 : st = 2
      · subst h2; exact RI_inv hv
      · by_cases h3 : st = 3
        · subst h3; exact RI_inv hv
        · by_cases h5 : st = 5
          · subst h5; exact RI_inv hv
          · simp only [h1, h2, h3, h5, if_false] at hv ⊢
            exact RI_inv hv
  subst hv'
  have B4 : RowKit.Hid (Below w.heap.size w w4) := Lib.hid (by
    have t : Tn (fun b => b = mb) w0 w4 := ((((Tn.of_grown g1).trans (Tn.of_grown g2)).trans (Tn.of_grown g3)).trans (Tn.of_grown g4)).mono fun b h => by injection h with h; exact h.symm
    have b0 : Below w.heap.size w w0 := by rw [hw0]; exact (Below.refl _ _).alloc (Nat.le_refl _) _
    exact b0.trans (t.below b0.size fun b h => by omega))
  have hmk' : (Instr.makeMap 199 none).run Tryz.prog w = .ok (.map (some mb)) w0 := by rw [hmk, hmb, hw0]
  clear hmk m0 hmb hw0 m1 m2 m3 m4 g1 g2 g3 g4 hv
  go_enter Tryz.func66, Tryz.ntmps66
  go_wp2_with fail
  go_ret
  exact ⟨rfl, B4.out⟩
set_option maxRecDepth 100000 in
theorem newAsker_any (id cap : Int) (hid : I64 id) (hcap : I64 cap) (w : World) :
    Calls Tryz.prog 47 #[i64 id, i64 cap] w fun e w' => e = .returned (.pointer (some ⟨w.heap.size, 0, none⟩)) ∧ AMem w' w.heap.size w.heap.size ⟨id, cap, 0, []⟩ (.map none) 0 ∧ Below w.heap.size w w' := by
  have B2 : RowKit.Hid (Below w.heap.size w (w.alloc (.cells #[i64 id, i64 0, i64 cap, .map none] 55))) := Lib.hid ((Below.refl _ _).alloc (Nat.le_refl _) _)
  have M2 : RowKit.Hid (AMem (w.alloc (.cells #[i64 id, i64 0, i64 cap, .map none] 55)) w.heap.size w.heap.size ⟨id, cap, 0, []⟩ (.map none) 0) := Lib.hid
    ⟨Blk.new _ _ _, .inl ⟨rfl, rfl⟩, List.Pairwise.nil, Nat.le_refl _, ⟨by dsimp only; omega, by dsimp only; omega⟩, ⟨hid, hcap, fun q hq => by cases hq⟩, ⟨Nat.le_refl _, by omega⟩⟩
  go_enter Tryz.func47, Tryz.ntmps47
  go_wp2_with fail
  go_ret
  exact ⟨rfl, M2.out, B2.out⟩
theorem rqAt_some {L : List Rq} {n : Int} {q : Rq} (h : rq L n = some q) : rqAt L n = q := by unfold rqAt; rw [h]
theorem field_rq1 (t s l : Int) (w : World) : (Instr.field 130 (.agg #[i64 t, i64 s, i64 l]) 1).run Tryz.prog w = .ok (i64 s) w := by kernel_rfl
set_option maxRecDepth 100000 in
theorem state_any (B b N : Nat) (s : Asr) (mv : Value) (n : Int) (hn : I64 n) (w : World) (h : AMem w B b s mv N) :
    Calls Tryz.prog 24 #[.pointer (some ⟨b, 0, none⟩), i64 n] w fun e w' => e = .returned (i64 (s.state n)) ∧ w' = w := by
  have c3 : w.cell? ⟨b, 3, none⟩ = some mv := h.blk.cell 3
  have hlk := (h.look hn).2
  have e : (rqAt s.L n).st = s.state n := by unfold rqAt Asr.state; cases rq s.L n <;> rfl
  rw [e] at hlk
  unfold rqV at hlk
  have hf := field_rq1 (rqAt s.L n).t (s.state n) (rqAt s.L n).l w
  clear h e
  go_enter Tryz.func24, Tryz.ntmps24
  go_wp2_with fail
  go_ret
  exact ⟨rfl, rfl⟩
def TellE (B b N : Nat) (s : Asr) (mv : Value) (q : Rq) (k : Int) (w : World) (e : Ending) (w' : World) : Prop :=
  ∃ v, e = .returned v ∧ MsgsAt w' w.heap.size v (s.tell q k).2 ∧ AMem w' B b (s.tell q k).1 mv N ∧ Tn (fun k => k = b) w w'
set_option maxRecDepth 100000 in
set_option maxHeartbeats 4000000 in
theorem tell_any (B b N : Nat) (s : Asr) (mv : Value) (n k : Int) (q : Rq) (w : World) (h : AMem w B b s mv N) (hB : B ≤ w.heap.size) (hq : rq s.L n = some q) (hs : s.sent < 1000 * N) (hn : I64 n) (hk : I64 k) :
    Calls Tryz.prog 62 #[.pointer (some ⟨b, 0, none⟩), i64 n, i64 k] w (TellE B b N s mv q k w) := by
  have H := Lib.hid h
  have c3 : w.cell? ⟨b, 3, none⟩ = some mv := h.blk.cell 3
  obtain ⟨hqm, hqn⟩ := rq_some hq
  have hlk := (h.look hn).2
  rw [rqAt_some hq] at hlk
  unfold rqV at hlk
  have hbl := h.blk.lt
  have HQ := Lib.hid (h.ids.2.2 q hqm)
  have HI := Lib.hid h.ids.1
  have HN := Lib.hid (And.intro hn hk)
  have HS := Lib.hid hs
  have hN := h.len.2
  have hs9 : s.sent < 1000000000 := by omega
  obtain ⟨g, hg⟩ : ∃ g, g = w.heap.size := ⟨_, rfl⟩
  obtain ⟨w1, hw1⟩ : ∃ w1, w1 = w.alloc (.cells #[i64 q.t, i64 q.st, i64 q.l] 130) := ⟨_, rfl⟩
  have B1 : RowKit.Hid (Below w.heap.size w w1) := Lib.hid (by rw [hw1]; exact (Below.refl _ _).alloc (Nat.le_refl _) _)
  have M1 := Lib.hid (H.out.up B1.out)
  have G1 : RowKit.Hid (Blk w1 g #[i64 q.t, i64 q.st, i64 q.l] 130) := Lib.hid (by rw [hw1, hg]; exact Blk.new _ _ _)
  subst hqn
  clear h hqm hn hs hN hq
  by_cases hk0 : k = 0
  · subst hk0
    clear hk
    go_enter Tryz.func62, Tryz.ntmps62
    go_wp2_with fail
    rw [← hw1]
    go_ret
    exact ⟨_, rfl, rfl, M1.out, Tn.of_below B1.out⟩
  · by_cases hk1 : k = 1
    · subst hk1
      clear hk
      have RES : RowKit.Hid (s.tell q 1 = ({ s with sent := s.sent + 1 }, [mesg s.id s.sent 0 1 s.id q.n q.t])) := Lib.hid rfl
      go_enter Tryz.func62, Tryz.ntmps62
      go_wp2_with fail
      rw [← hw1, ← hg]
      obtain ⟨S, hS⟩ : ∃ S : World → Prop, S = fun W => ∃ n, W = w1.drewN n := ⟨_, rfl⟩
      have LDD : RowKit.Hid (∀ W, S W → W.cell? ⟨b, 0, none⟩ = some (i64 s.id) ∧ W.cell? ⟨g, 0, none⟩ = some (i64 q.t)) := Lib.hid (by rw [hS]; rintro W ⟨n, rfl⟩; exact ⟨M1.out.blk.cell 0, G1.out.cell 0⟩)
      have SS : RowKit.Hid (∀ W, S W → ∃ n, W = w1.drewN n) := Lib.hid (by rw [hS]; exact fun W h => h)
      have hHeld : S w1.drew := by rw [hS]; exact ⟨1, rfl⟩
      clear hS hw1 hg c3 hlk
      refine wp_region_sp 12 S (by kernel_rfl) (by kernel_rfl) ?_
      simp only [List.take_succ_cons, List.take_zero]
      apply wpAnyH_apart S
      case take =>
        intro R hR
        refine wpAnyH_take (i := 0) (v := ?_) rfl (by kernel_rfl) (by kernel_rfl) (by kernel_rfl) (fun _ _ _ h => only_panic h) (Or.inl ⟨by rfl, ?_⟩) hHeld ?_
        rotate_left
        · (intro w hSw; obtain ⟨l0, l1⟩ := LDD.out w hSw; go_simp; try (with_reducible rfl))
        try simp only [gA, gB, gC, Act.put, gD, gE, gF]
        refine wpAnyH_take (i := 1) (v := ?_) rfl (by kernel_rfl) (by kernel_rfl) (by kernel_rfl) (fun _ _ _ h => only_panic h) (Or.inl ⟨by rfl, ?_⟩) hHeld ?_
        rotate_left
        · (intro w hSw; obtain ⟨l0, l1⟩ := LDD.out w hSw; go_simp; try (with_reducible rfl))
        try simp only [gA, gB, gC, Act.put, gD, gE, gF]
        refine wpAnyH_take (i := 2) (v := ?_) rfl (by kernel_rfl) (by kernel_rfl) (by kernel_rfl) (fun _ _ _ h => only_panic h) (Or.inl ⟨by rfl, ?_⟩) hHeld ?_
        rotate_left
        · (intro w hSw; obtain ⟨l0, l1⟩ := LDD.out w hSw; go_simp; try (with_reducible rfl))
        try simp only [gA, gB, gC, Act.put, gD, gE, gF]
        refine wpAnyH_take (i := 3) (v := ?_) rfl (by kernel_rfl) (by kernel_rfl) (by kernel_rfl) (fun _ _ _ h => only_panic h) (Or.inl ⟨by rfl, ?_⟩) hHeld ?_
        rotate_left
        · (intro w hSw; obtain ⟨l0, l1⟩ := LDD.out w hSw; go_simp; try (with_reducible rfl))
        try simp only [gA, gB, gC, Act.put, gD, gE, gF]
        refine wpAnyH_take (i := 4) (v := ?_) rfl (by kernel_rfl) (by kernel_rfl) (by kernel_rfl) (fun _ _ _ h => only_panic h) (Or.inl ⟨by rfl, ?_⟩) hHeld ?_
        rotate_left
        · (intro w hSw; obtain ⟨l0, l1⟩ := LDD.out w hSw; go_simp; try (with_reducible rfl))
        try simp only [gA, gB, gC, Act.put, gD, gE, gF]
        refine wpAnyH_take (i := 5) (v := ?_) rfl (by kernel_rfl) (by kernel_rfl) (by kernel_rfl) (fun _ _ _ h => only_panic h) (Or.inl ⟨by rfl, ?_⟩) hHeld ?_
        rotate_left
        · (intro w hSw; obtain ⟨l0, l1⟩ := LDD.out w hSw; go_simp; try (with_reducible rfl))
        try simp only [gA, gB, gC, Act.put, gD, gE, gF]
        refine wpAnyH_take (i := 6) (v := ?_) rfl (by kernel_rfl) (by kernel_rfl) (by kernel_rfl) (fun _ _ _ h => only_panic h) (Or.inl ⟨by rfl, ?_⟩) hHeld ?_
        rotate_left
        · (intro w hSw; obtain ⟨l0, l1⟩ := LDD.out w hSw; go_simp; try (with_reducible rfl))
        try simp only [gA, gB, gC, Act.put, gD, gE, gF]
        refine wpAnyH_take (i := 7) (v := ?_) rfl (by kernel_rfl) (by kernel_rfl) (by kernel_rfl) (fun _ _ _ h => only_panic h) (Or.inl ⟨by rfl, ?_⟩) hHeld ?_
        rotate_left
        · (intro w hSw; obtain ⟨l0, l1⟩ := LDD.out w hSw; go_simp; try (with_reducible rfl))
        try simp only [gA, gB, gC, Act.put, gD, gE, gF]
        refine wpAnyH_take (i := 8) (v := ?_) rfl (by kernel_rfl) (by kernel_rfl) (by kernel_rfl) (fun _ _ _ h => only_panic h) (Or.inl ⟨by rfl, ?_⟩) hHeld ?_
        rotate_left
        · (intro w hSw; obtain ⟨l0, l1⟩ := LDD.out w hSw; go_simp; try (with_reducible rfl))
        try simp only [gA, gB, gC, Act.put, gD, gE, gF]
        refine wpAnyH_take (i := 9) (v := ?_) rfl (by kernel_rfl) (by kernel_rfl) (by kernel_rfl) (fun _ _ _ h => only_panic h) (Or.inl ⟨by rfl, ?_⟩) hHeld ?_
        rotate_left
        · (intro w hSw; obtain ⟨l0, l1⟩ := LDD.out w hSw; go_simp; try (with_reducible rfl))
        try simp only [gA, gB, gC, Act.put, gD, gE, gF]
        refine wpAnyH_take (i := 10) (v := ?_) rfl (by kernel_rfl) (by kernel_rfl) (by kernel_rfl) (fun _ _ _ h => only_panic h) (Or.inl ⟨by rfl, ?_⟩) hHeld ?_
        rotate_left
        · (intro w hSw; obtain ⟨l0, l1⟩ := LDD.out w hSw; go_simp; try (with_reducible rfl))
        try simp only [gA, gB, gC, Act.put, gD, gE, gF]
        refine wpAnyH_take (i := 11) (v := ?_) rfl (by kernel_rfl) (by kernel_rfl) (by kernel_rfl) (fun _ _ _ h => only_panic h) (Or.inl ⟨by rfl, ?_⟩) hHeld ?_
        rotate_left
        · (intro w hSw; obtain ⟨l0, l1⟩ := LDD.out w hSw; go_simp; try (with_reducible rfl))
        try simp only [gA, gB, gC, Act.put, gD, gE, gF]
        exact wpAnyH_done (by kernel_rfl) ⟨rfl, hR _ hHeld⟩ _
      intro W hW
      obtain ⟨n1, rfl⟩ := SS.out W hW
      simp only [endN, List.drop_succ_cons, List.drop_zero, Act.put, List.setIfInBounds_toArray, List.set_cons_zero, List.set_cons_succ]
      have M2 := Lib.hid (M1.out.drewN n1)
      clear hHeld hW SS LDD S
      go_wp2_with fail
      refine (send_any b s.id s.sent 0 1 s.id q.n q.t (w1.drewN n1) (M2.out.blk.cell 0) (M2.out.blk.cell 1) (M2.out.blk.frozen 1) ⟨M2.out.sent.1, hs9⟩ ⟨by omega, by omega⟩ HI.out HQ.out.1 HQ.out.2.1).mono ?_
      rintro e w6 ⟨gm, rfl, hgm, hM, hb6⟩
      obtain ⟨M6, T6⟩ := M2.out.sent1 HS.out hb6
      have F : RowKit.Hid (TellE B b N s mv q 1 w (.returned (.slice (some ⟨gm, 0, none⟩) 1 1)) w6) := Lib.hid (by
        refine ⟨_, rfl, ?_, ?_, ?_⟩
        · rw [RES.out]; exact ⟨gm, Nat.le_trans B1.out.size hgm, rfl, hM⟩
        · rw [RES.out]; exact M6
        · exact (Tn.of_below (bdrewN B1.out n1)).trans T6)
      clear hM hb6 M6 T6
      go_wp2_with fail
      go_ret
      exact F.out
    · have RES : RowKit.Hid (s.tell q k = ({ s with sent := s.sent + 1 }, [mesg s.id s.sent q.l k s.id q.n 0])) := Lib.hid (by unfold Asr.tell; rw [if_neg hk0, if_neg hk1])
      clear hk
      go_enter Tryz.func62, Tryz.ntmps62
      go_wp2_with fail
      rw [← hw1, ← hg]
      obtain ⟨S, hS⟩ : ∃ S : World → Prop, S = fun W => ∃ n, W = w1.drewN n := ⟨_, rfl⟩
      have LDD : RowKit.Hid (∀ W, S W → W.cell? ⟨b, 0, none⟩ = some (i64 s.id) ∧ W.cell? ⟨g, 2, none⟩ = some (i64 q.l)) := Lib.hid (by rw [hS]; rintro W ⟨n, rfl⟩; exact ⟨M1.out.blk.cell 0, G1.out.cell 2⟩)
      have SS : RowKit.Hid (∀ W, S W → ∃ n, W = w1.drewN n) := Lib.hid (by rw [hS]; exact fun W h => h)
      have hHeld : S w1.drew := by rw [hS]; exact ⟨1, rfl⟩
      clear hS hw1 hg c3 hlk
      refine wp_region_sp 13 S (by kernel_rfl) (by kernel_rfl) ?_
      simp only [List.take_succ_cons, List.take_zero]
      apply wpAnyH_apart S
      case take =>
        intro R hR
        refine wpAnyH_take (i := 0) (v := ?_) rfl (by kernel_rfl) (by kernel_rfl) (by kernel_rfl) (fun _ _ _ h => only_panic h) (Or.inl ⟨by rfl, ?_⟩) hHeld ?_
        rotate_left
        · (intro w hSw; obtain ⟨l0, l1⟩ := LDD.out w hSw; go_simp; try (with_reducible rfl))
        try simp only [gA, gB, gC, Act.put, gD, gE, gF]
        refine wpAnyH_take (i := 1) (v := ?_) rfl (by kernel_rfl) (by kernel_rfl) (by kernel_rfl) (fun _ _ _ h => only_panic h) (Or.inl ⟨by rfl, ?_⟩) hHeld ?_
        rotate_left
        · (intro w hSw; obtain ⟨l0, l1⟩ := LDD.out w hSw; go_simp; try (with_reducible rfl))
        try simp only [gA, gB, gC, Act.put, gD, gE, gF]
        refine wpAnyH_take (i := 2) (v := ?_) rfl (by kernel_rfl) (by kernel_rfl) (by kernel_rfl) (fun _ _ _ h => only_panic h) (Or.inl ⟨by rfl, ?_⟩) hHeld ?_
        rotate_left
        · (intro w hSw; obtain ⟨l0, l1⟩ := LDD.out w hSw; go_simp; try (with_reducible rfl))
        try simp only [gA, gB, gC, Act.put, gD, gE, gF]
        refine wpAnyH_take (i := 3) (v := ?_) rfl (by kernel_rfl) (by kernel_rfl) (by kernel_rfl) (fun _ _ _ h => only_panic h) (Or.inl ⟨by rfl, ?_⟩) hHeld ?_
        rotate_left
        · (intro w hSw; obtain ⟨l0, l1⟩ := LDD.out w hSw; go_simp; try (with_reducible rfl))
        try simp only [gA, gB, gC, Act.put, gD, gE, gF]
        refine wpAnyH_take (i := 4) (v := ?_) rfl (by kernel_rfl) (by kernel_rfl) (by kernel_rfl) (fun _ _ _ h => only_panic h) (Or.inl ⟨by rfl, ?_⟩) hHeld ?_
        rotate_left
        · (intro w hSw; obtain ⟨l0, l1⟩ := LDD.out w hSw; go_simp; try (with_reducible rfl))
        try simp only [gA, gB, gC, Act.put, gD, gE, gF]
        refine wpAnyH_take (i := 5) (v := ?_) rfl (by kernel_rfl) (by kernel_rfl) (by kernel_rfl) (fun _ _ _ h => only_panic h) (Or.inl ⟨by rfl, ?_⟩) hHeld ?_
        rotate_left
        · (intro w hSw; obtain ⟨l0, l1⟩ := LDD.out w hSw; go_simp; try (with_reducible rfl))
        try simp only [gA, gB, gC, Act.put, gD, gE, gF]
        refine wpAnyH_take (i := 6) (v := ?_) rfl (by kernel_rfl) (by kernel_rfl) (by kernel_rfl) (fun _ _ _ h => only_panic h) (Or.inl ⟨by rfl, ?_⟩) hHeld ?_
        rotate_left
        · (intro w hSw; obtain ⟨l0, l1⟩ := LDD.out w hSw; go_simp; try (with_reducible rfl))
        try simp only [gA, gB, gC, Act.put, gD, gE, gF]
        refine wpAnyH_take (i := 7) (v := ?_) rfl (by kernel_rfl) (by kernel_rfl) (by kernel_rfl) (fun _ _ _ h => only_panic h) (Or.inl ⟨by rfl, ?_⟩) hHeld ?_
        rotate_left
        · (intro w hSw; obtain ⟨l0, l1⟩ := LDD.out w hSw; go_simp; try (with_reducible rfl))
        try simp only [gA, gB, gC, Act.put, gD, gE, gF]
        refine wpAnyH_take (i := 8) (v := ?_) rfl (by kernel_rfl) (by kernel_rfl) (by kernel_rfl) (fun _ _ _ h => only_panic h) (Or.inl ⟨by rfl, ?_⟩) hHeld ?_
        rotate_left
        · (intro w hSw; obtain ⟨l0, l1⟩ := LDD.out w hSw; go_simp; try (with_reducible rfl))
        try simp only [gA, gB, gC, Act.put, gD, gE, gF]
        refine wpAnyH_take (i := 9) (v := ?_) rfl (by kernel_rfl) (by kernel_rfl) (by kernel_rfl) (fun _ _ _ h => only_panic h) (Or.inl ⟨by rfl, ?_⟩) hHeld ?_
        rotate_left
        · (intro w hSw; obtain ⟨l0, l1⟩ := LDD.out w hSw; go_simp; try (with_reducible rfl))
        try simp only [gA, gB, gC, Act.put, gD, gE, gF]
        refine wpAnyH_take (i := 10) (v := ?_) rfl (by kernel_rfl) (by kernel_rfl) (by kernel_rfl) (fun _ _ _ h => only_panic h) (Or.inl ⟨by rfl, ?_⟩) hHeld ?_
        rotate_left
        · (intro w hSw; obtain ⟨l0, l1⟩ := LDD.out w hSw; go_simp; try (with_reducible rfl))
        try simp only [gA, gB, gC, Act.put, gD, gE, gF]
        refine wpAnyH_take (i := 11) (v := ?_) rfl (by kernel_rfl) (by kernel_rfl) (by kernel_rfl) (fun _ _ _ h => only_panic h) (Or.inl ⟨by rfl, ?_⟩) hHeld ?_
        rotate_left
        · (intro w hSw; obtain ⟨l0, l1⟩ := LDD.out w hSw; go_simp; try (with_reducible rfl))
        try simp only [gA, gB, gC, Act.put, gD, gE, gF]
        refine wpAnyH_take (i := 12) (v := ?_) rfl (by kernel_rfl) (by kernel_rfl) (by kernel_rfl) (fun _ _ _ h => only_panic h) (Or.inl ⟨by rfl, ?_⟩) hHeld ?_
        rotate_left
        · (intro w hSw; obtain ⟨l0, l1⟩ := LDD.out w hSw; go_simp; try (with_reducible rfl))
        try simp only [gA, gB, gC, Act.put, gD, gE, gF]
        exact wpAnyH_done (by kernel_rfl) ⟨rfl, hR _ hHeld⟩ _
      intro W hW
      obtain ⟨n1, rfl⟩ := SS.out W hW
      simp only [endN, List.drop_succ_cons, List.drop_zero, Act.put, List.setIfInBounds_toArray, List.set_cons_zero, List.set_cons_succ]
      have M2 := Lib.hid (M1.out.drewN n1)
      clear hHeld hW SS LDD S
      go_wp2_with fail
      refine (send_any b s.id s.sent q.l k s.id q.n 0 (w1.drewN n1) (M2.out.blk.cell 0) (M2.out.blk.cell 1) (M2.out.blk.frozen 1) ⟨M2.out.sent.1, hs9⟩ HN.out.2 HI.out HQ.out.1 ⟨by omega, by omega⟩).mono ?_
      rintro e w6 ⟨gm, rfl, hgm, hM, hb6⟩
      obtain ⟨M6, T6⟩ := M2.out.sent1 HS.out hb6
      have F : RowKit.Hid (TellE B b N s mv q k w (.returned (.slice (some ⟨gm, 0, none⟩) 1 1)) w6) := Lib.hid (by
        refine ⟨_, rfl, ?_, ?_, ?_⟩
        · rw [RES.out]; exact ⟨gm, Nat.le_trans B1.out.size hgm, rfl, hM⟩
        · rw [RES.out]; exact M6
        · exact (Tn.of_below (bdrewN B1.out n1)).trans T6)
      clear hM hb6 M6 T6
      go_wp2_with fail
      go_ret
      exact F.out
end Go.Proofs.YtdojgbpaheadnaaGreat
