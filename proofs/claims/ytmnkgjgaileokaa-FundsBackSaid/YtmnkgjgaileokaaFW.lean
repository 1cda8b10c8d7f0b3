/- FundsBack: the walk. -/
import Derived.Test.YtmnkgjgaileokaaFU
namespace Go.Proofs.Ytmnkgjgaileokaa
open Go.RowKit
theorem alike_refl (v : PV) : Alike v v := ⟨rfl, rfl, fun _ _ => rfl, fun _ _ => rfl, fun _ _ => rfl, fun _ _ => rfl, fun _ _ => rfl⟩
theorem alike_trans {v v' v2 : PV} (h : Alike v v') (k : Alike v' v2) : Alike v v2 :=
  ⟨k.m.trans h.m, k.ids.trans h.ids, fun z hz => (k.pa z (h.ids ▸ hz)).trans (h.pa z hz), fun z hz => (k.al z (h.ids ▸ hz)).trans (h.al z hz), fun z hz => (k.sp z (h.ids ▸ hz)).trans (h.sp z hz), fun z hz => (k.en z (h.ids ▸ hz)).trans (h.en z hz), fun z hz => (k.kids z (h.ids ▸ hz)).trans (h.kids z hz)⟩
theorem enc_no {v : PV} {x n : Int} (h : x ∉ v.ids) : v.enc x n = (32, v) := if_pos h
theorem enc_poor {v : PV} {x n : Int} (h : x ∈ v.ids) (hn : 0 ≤ n) (hf : v.free x < n) : v.enc x n = (60, v) := by
  unfold PV.enc; rw [if_neg (by simpa using h), if_neg (by omega), if_pos hf]
theorem enc_yes {v : PV} {x n : Int} (h : x ∈ v.ids) (hn : 0 ≤ n) (hf : n ≤ v.free x) : v.enc x n = (0, { v with en := upd v.en x (v.en x + n) }) := by
  unfold PV.enc; rw [if_neg (by simpa using h), if_neg (by omega), if_neg (by omega)]
theorem enc_rel {v : PV} {x n : Int} (hg : Good v) (h : x ∈ v.ids) (hn : 0 ≤ n) : ∃ v2, ({ v with en := upd v.en x (v.en x + n) } : PV).rel x n = (0, v2) ∧ Alike v v2 := by
  have he := hg.fix.en x h
  have e : ({ v with en := upd v.en x (v.en x + n) } : PV).rel x n = (0, { v with en := upd (upd v.en x (v.en x + n)) x (upd v.en x (v.en x + n) x - n) }) := by
    unfold PV.rel
    rw [if_neg (by simpa using h), if_neg (by omega), if_neg (by show ¬ upd v.en x (v.en x + n) x < n; rw [upd_same]; omega)]
  refine ⟨_, e, ?_⟩
  · refine ⟨rfl, rfl, fun _ _ => rfl, fun _ _ => rfl, fun _ _ => rfl, fun z _ => ?_, fun _ _ => rfl⟩
    show upd (upd v.en x (v.en x + n)) x (upd v.en x (v.en x + n) x - n) z = v.en z
    by_cases e : z = x
    · subst e; rw [upd_same, upd_same]; omega
    · rw [upd_ne _ _ e, upd_ne _ _ e]
theorem move_back {v v3 : PV} {a b n : Int} (hg : Good v) (h : v.move a b n = (0, v3)) : 1 ≤ n ∧ a ∈ v.ids ∧ v3.free0 a = v.free0 a - n ∧ ∃ v4, v3.move b a n = (0, v4) ∧ Alike v v4 := by
  unfold PV.move at h
  split at h
  · cases h
  rename_i h1
  split at h
  · cases h
  rename_i h2
  split at h
  · cases h
  rename_i h3
  have hab : a ∈ v.ids ∧ b ∈ v.ids := ⟨Classical.byContradiction fun e => h1 (.inl e), Classical.byContradiction fun e => h1 (.inr e)⟩
  have hne : b ≠ a := fun e => h2 (.inr e.symm)
  have hn : 1 ≤ n := by omega
  obtain rfl : { v with al := upd (upd v.al a (v.al a - n)) b (v.al b + n) } = v3 := by injection h
  have ea : upd (upd v.al a (v.al a - n)) b (v.al b + n) a = v.al a - n := by rw [upd_ne _ _ (Ne.symm hne), upd_same]
  have eb : upd (upd v.al a (v.al a - n)) b (v.al b + n) b = v.al b + n := upd_same _ _ _
  have hb := hg.bal.le b hab.2
  refine ⟨hn, hab.1, ?_, ?_⟩
  · unfold PV.free0 PV.free
    simp only [if_pos hab.1]
    rw [ea]; omega
  · have e : ({ v with al := upd (upd v.al a (v.al a - n)) b (v.al b + n) } : PV).move b a n = (0, { v with al := upd (upd (upd (upd v.al a (v.al a - n)) b (v.al b + n)) b (upd (upd v.al a (v.al a - n)) b (v.al b + n) b - n)) a (upd (upd v.al a (v.al a - n)) b (v.al b + n) a + n) }) := by
      unfold PV.move
      rw [if_neg (fun e => by rcases e with e | e; exact e hab.2; exact e hab.1), if_neg (by omega), if_neg]
      show ¬ PV.free { v with al := upd (upd v.al a (v.al a - n)) b (v.al b + n) } b < n
      unfold PV.free
      show ¬ upd (upd v.al a (v.al a - n)) b (v.al b + n) b - v.sp b - v.en b < n
      rw [eb]; omega
    refine ⟨_, e, ?_⟩
    · refine ⟨rfl, rfl, fun _ _ => rfl, fun z _ => ?_, fun _ _ => rfl, fun _ _ => rfl, fun _ _ => rfl⟩
      show upd (upd (upd (upd v.al a (v.al a - n)) b (v.al b + n)) b (upd (upd v.al a (v.al a - n)) b (v.al b + n) b - n)) a (upd (upd v.al a (v.al a - n)) b (v.al b + n) a + n) z = v.al z
      rw [ea, eb]
      by_cases e : z = a
      · subst e; rw [upd_same]; omega
      · rw [upd_ne _ _ e]
        by_cases e2 : z = b
        · subst e2; rw [upd_same]; omega
        · rw [upd_ne _ _ e2, upd_ne _ _ e2, upd_ne _ _ e]
theorem move_no {v : PV} {a b n : Int} (h : a ∉ v.ids ∨ v.free a < n) : ∃ c, v.move a b n = (c, v) ∧ c ≠ 0 := by
  unfold PV.move
  split
  · exact ⟨32, rfl, by decide⟩
  rename_i h1
  split
  · exact ⟨1, rfl, by decide⟩
  split
  · exact ⟨60, rfl, by decide⟩
  rename_i h3
  rcases h with h | h
  · exact absurd (.inl h) h1
  · exact absurd h h3
theorem move_cases {v : PV} {a b n : Int} : (∃ c, v.move a b n = (c, v) ∧ c ≠ 0) ∨ ∃ v3, v.move a b n = (0, v3) := by
  unfold PV.move
  split
  · exact .inl ⟨32, rfl, by decide⟩
  split
  · exact .inl ⟨1, rfl, by decide⟩
  split
  · exact .inl ⟨60, rfl, by decide⟩
  · exact .inr ⟨_, rfl⟩
attribute [local go_sem] over_cell over_frozen
set_option maxRecDepth 100000 in
set_option maxHeartbeats 8000000 in
theorem backLaw (L : List Act4) (a : Option Addr) (cap : Nat) (x y q : Int) (w : World) (h : InA w a L cap) (hx : 0 ≤ x ∧ x ≤ 255) (hy : 0 ≤ y ∧ y ≤ 255) (hq : 0 ≤ q ∧ q ≤ 255) :
    Calls Try.prog 10 #[.slice a L.length cap, .agg #[.int .u8 x, .int .u8 y], .int .u8 q] w fun r w' => r = .returned (.bool true) ∧ Below w.heap.size w w' := by
  have hcap := h.cap
  have hlen := h.len
  have hA0 := (Below.refl w.heap.size w).alloc (Nat.le_refl _) (.cells #[.int .u8 x, .int .u8 y] 48)
  have HI0 := Lib.hid (h.below hA0 (Nat.le_refl _))
  have HA0 := Lib.hid hA0
  have Q0 := Lib.hid (Blk.new w #[.int .u8 x, .int .u8 y] 48)
  clear h hA0
  go_enter Try.func10, Try.ntmps10
  go_wp2_with fail
  generalize w.alloc (.cells #[.int .u8 x, .int .u8 y] 48) = W at *
  refine (sanity_any W).mono ?_
  rintro e w0 ⟨rfl, hb0⟩
  have HI := Lib.hid (HI0.out.below hb0 (by have := HA0.out.size; exact Nat.le_refl _))
  have HB0 := Lib.hid (HA0.out.trans (hb0.mono HA0.out.size))
  have Q1 := Lib.hid (Q0.out.below hb0 Q0.out.lt)
  clear hb0 HI0 HA0 Q0
  go_wp2_with fail
  refine (played_any L a cap w0 HI.out).mono ?_
  rintro e w1 ⟨rfl, s0, v, hS, hR⟩
  have S0 := Lib.hid hS
  have Q2 := Lib.hid (Q1.out.below hS.below Q1.out.lt)
  have G : RowKit.Hid (Good v) := hR.good
  clear hS hR Q1
  have c0 : w1.cell? ⟨w.heap.size, 0, none⟩ = some (.int .u8 x) := Q2.out.cell 0
  have c1 : w1.cell? ⟨w.heap.size, 1, none⟩ = some (.int .u8 y) := Q2.out.cell 1
  have m0 : 0 ≤ x % 10 ∧ x % 10 < 10 := by omega
  have m1 : 0 ≤ y % 10 ∧ y % 10 < 10 := by omega
  have m2 : 0 ≤ q % 60 ∧ q % 60 < 60 := by omega
  go_wp2_with fail
  refine wp_region_over (by kernel_rfl) (by kernel_rfl) ?_
  repeat (go_big_quiet_step (fail))
  refine wpQuiet_nil ?_
  rintro _ ⟨nq, rfl⟩
  have S1 := Lib.hid (S0.out.read (below_over w1 nq))
  clear S0 Q2 c0 c1
  generalize over w1 nq = W1 at *
  obtain ⟨A, hA⟩ : ∃ A, x % 10 = A := ⟨_, rfl⟩
  obtain ⟨B, hB⟩ : ∃ B, y % 10 = B := ⟨_, rfl⟩
  obtain ⟨n, hn⟩ : ∃ n, q % 60 = n := ⟨_, rfl⟩
  rw [hA] at m0
  rw [hB] at m1
  rw [hn] at m2
  rw [hA, hB, hn]
  clear hA hB hn hx hy hq
  have hfb := G.out.at0 A
  have fb0 : 0 ≤ v.free0 A ∧ v.free0 A ≤ 1000000000000000 := by obtain ⟨h1, h2, h3, h4, h5⟩ := hfb; omega
  obtain ⟨F, hF⟩ : ∃ F, v.free0 A = F := ⟨_, rfl⟩
  rw [hF] at fb0
  have HF := Lib.hid hF
  clear hfb hF
  have key := encode_st S1.out.mem S1.out.pv G.out
  rw [S1.out.fb] at key
  have HK := Lib.hid key
  clear key
  go_wp2_with fail
  refine HK.out.mono ?_
  clear HK
  rintro e z2 ⟨rfl, hb⟩
  have S2 := Lib.hid (S1.out.read hb)
  clear hb S1
  have key := free_st (x := A) S2.out.mem S2.out.pv G.out HF.out (by omega) (by omega)
  rw [S2.out.fb] at key
  have HK := Lib.hid key
  clear key
  go_wp2_with fail
  refine HK.out.mono ?_
  clear HK
  rintro e z3 ⟨rfl, hb⟩
  have S3 := Lib.hid (S2.out.read hb)
  clear hb S2
  by_cases hin : A ∈ v.ids
  · have hFv : v.free A = F := by rw [← HF.out]; exact (if_pos hin).symm
    by_cases hfr : n ≤ F
    · obtain ⟨v2, h2, hal⟩ := enc_rel (n := n) G.out hin (by omega)
      have h1 := enc_yes (n := n) hin (by omega) (by omega)
      have g1 := (good_enc G.out A n).1
      rw [h1] at g1
      have fr1 : PV.free0 { v with en := upd v.en A (v.en A + n) } A = F - n := by
        unfold PV.free0 PV.free
        show (if A ∈ v.ids then v.al A - v.sp A - upd v.en A (v.en A + n) A else 0) = F - n
        rw [if_pos hin, upd_same, ← hFv]
        unfold PV.free; omega
      generalize ({ v with en := upd v.en A (v.en A + n) } : PV) = v1 at *
      have G1 := Lib.hid g1
      have g2 := (good_rel g1 A n).1
      rw [h2] at g2
      have G2 := Lib.hid g2
      have AL := Lib.hid hal
      have H1 := Lib.hid h1
      have H2 := Lib.hid h2
      have FR1 := Lib.hid fr1
      have HIN := Lib.hid hin
      have F2 : RowKit.Hid (v2.free0 A = F) := by
        unfold RowKit.Hid
        rw [← HF.out]
        unfold PV.free0 PV.free
        rw [hal.ids, if_pos hin, if_pos hin, hal.al A hin, hal.sp A hin, hal.en A hin]
      have hnF : decide (n ≤ F) = true := by simpa using hfr
      clear g1 g2 hal h1 h2 fr1 hin hFv
      have key := enc_st (x := A) (n := n) S3.out.mem S3.out.pv G.out H1.out (by omega) (by omega) (by omega) (by omega)
      rw [S3.out.fb] at key
      have HK := Lib.hid key
      clear key
      go_wp2_with fail
      refine HK.out.mono ?_
      clear HK
      rintro e z4 ⟨rfl, s4, hM, hT, hf, hp⟩
      have S4 := Lib.hid (S3.out.step hM hT hf hp)
      clear hM hT hf hp S3
      have key := free_st (x := A) S4.out.mem S4.out.pv G1.out FR1.out (by omega) (by omega)
      rw [S4.out.fb] at key
      have HK := Lib.hid key
      clear key
      go_wp2_with fail
      refine HK.out.mono ?_
      clear HK
      rintro e z5 ⟨rfl, hb⟩
      have S5 := Lib.hid (S4.out.read hb)
      clear hb S4
      have key := rel_st (x := A) (n := n) S5.out.mem S5.out.pv G1.out H2.out (by omega) (by omega) (by omega) (by omega)
      rw [S5.out.fb] at key
      have HK := Lib.hid key
      clear key
      go_wp2_with fail
      refine HK.out.mono ?_
      clear HK
      rintro e z6 ⟨rfl, s6, hM, hT, hf, hp⟩
      have S6 := Lib.hid (S5.out.step hM hT hf hp)
      clear hM hT hf hp S5
      rcases move_cases (v := v2) (a := A) (b := B) (n := n) with ⟨cm, hm, hcm⟩ | ⟨v3, hm⟩
      · have hcb : (cm == 0) = false := by simpa using hcm
        have HM := Lib.hid hm
        clear hcm hm
        have key := move_st (x := A) (p := B) (a := n) S6.out.mem S6.out.pv G2.out HM.out (by omega) (by omega) (by omega) (by omega) (by omega) (by omega)
        rw [S6.out.fb] at key
        have HK := Lib.hid key
        clear key
        go_wp2_with fail
        refine HK.out.mono ?_
        clear HK
        rintro e z7 ⟨rfl, s7, hM, hT, hf, hp⟩
        have S7 := Lib.hid (S6.out.step hM hT hf hp)
        clear hM hT hf hp S6
        obtain ⟨FI, FP, hFA⟩ := fund5_at0 v2 A
        have key := fund_st (x := A) S7.out.mem S7.out.pv hFA (t := true) (by rw [AL.out.ids]; exact decide_eq_true HIN.out) (by omega) (by omega)
        rw [S7.out.fb] at key
        have HK := Lib.hid key
        clear key hFA
        go_wp2_with fail
        refine HK.out.mono ?_
        clear HK
        rintro e z8 ⟨rfl, hb⟩
        have S8 := Lib.hid (S7.out.read hb)
        have S8' := Lib.hid (S8.out.alloc (.cells #[.int .i64 FI, .int .i64 FP, .int .i64 (PV.at0 v2 (PV.al v2) A), .int .i64 (PV.at0 v2 (PV.sp v2) A), .int .i64 (PV.at0 v2 (PV.en v2) A)] 31))
        clear hb S7 S8
        have key := encode_st S8'.out.mem S8'.out.pv G2.out
        rw [S8'.out.fb, alike_code AL.out] at key
        have HK := Lib.hid key
        clear key
        go_wp2_with fail
        refine HK.out.mono ?_
        clear HK
        rintro e y ⟨rfl, hb⟩
        have SF := Lib.hid (S8'.out.read hb)
        clear hb
        go_wp2_with fail
        go_ret
        exact ⟨rfl, HB0.out.trans (SF.out.below.mono HB0.out.size)⟩
      · obtain ⟨hn1, _, hf3, v4, hm4, hal4⟩ := move_back G2.out hm
        rw [F2.out] at hf3
        have G3 : RowKit.Hid (Good v3) := by have := (good_move G2.out A B n).1; rw [hm] at this; exact this
        have G4 : RowKit.Hid (Good v4) := by have := (good_move G3.out B A n).1; rw [hm4] at this; exact this
        have AL4 := Lib.hid (alike_trans AL.out hal4)
        have HM := Lib.hid hm
        have HM4 := Lib.hid hm4
        have HF3 := Lib.hid hf3
        clear hm hm4 hf3 hal4
        have key := move_st (x := A) (p := B) (a := n) S6.out.mem S6.out.pv G2.out HM.out (by omega) (by omega) (by omega) (by omega) (by omega) (by omega)
        rw [S6.out.fb] at key
        have HK := Lib.hid key
        clear key
        go_wp2_with fail
        refine HK.out.mono ?_
        clear HK
        rintro e z7 ⟨rfl, s7, hM, hT, hf, hp⟩
        have S7 := Lib.hid (S6.out.step hM hT hf hp)
        clear hM hT hf hp S6
        have key := free_st (x := A) S7.out.mem S7.out.pv G3.out HF3.out (by omega) (by omega)
        rw [S7.out.fb] at key
        have HK := Lib.hid key
        clear key
        go_wp2_with fail
        refine HK.out.mono ?_
        clear HK
        rintro e z8 ⟨rfl, hb⟩
        have S8 := Lib.hid (S7.out.read hb)
        clear hb S7
        have key := move_st (x := B) (p := A) (a := n) S8.out.mem S8.out.pv G3.out HM4.out (by omega) (by omega) (by omega) (by omega) (by omega) (by omega)
        rw [S8.out.fb] at key
        have HK := Lib.hid key
        clear key
        go_wp2_with fail
        refine HK.out.mono ?_
        clear HK
        rintro e z9 ⟨rfl, s9, hM, hT, hf, hp⟩
        have S9 := Lib.hid (S8.out.step hM hT hf hp)
        clear hM hT hf hp S8
        obtain ⟨FI, FP, hFA⟩ := fund5_at0 v4 A
        have key := fund_st (x := A) S9.out.mem S9.out.pv hFA (t := true) (by rw [AL4.out.ids]; exact decide_eq_true HIN.out) (by omega) (by omega)
        rw [S9.out.fb] at key
        have HK := Lib.hid key
        clear key hFA
        go_wp2_with fail
        refine HK.out.mono ?_
        clear HK
        rintro e z10 ⟨rfl, hb⟩
        have S10 := Lib.hid (S9.out.read hb)
        have S10' := Lib.hid (S10.out.alloc (.cells #[.int .i64 FI, .int .i64 FP, .int .i64 (PV.at0 v4 (PV.al v4) A), .int .i64 (PV.at0 v4 (PV.sp v4) A), .int .i64 (PV.at0 v4 (PV.en v4) A)] 31))
        clear hb S9 S10
        have key := encode_st S10'.out.mem S10'.out.pv G4.out
        rw [S10'.out.fb, alike_code AL4.out] at key
        have HK := Lib.hid key
        clear key
        go_wp2_with fail
        refine HK.out.mono ?_
        clear HK
        rintro e y ⟨rfl, hb⟩
        have SF := Lib.hid (S10'.out.read hb)
        clear hb
        go_wp2_with fail
        go_ret
        exact ⟨rfl, HB0.out.trans (SF.out.below.mono HB0.out.size)⟩
    · obtain ⟨cm, hm, hcm⟩ := move_no (v := v) (a := A) (b := B) (n := n) (.inr (by omega))
      have H1 := Lib.hid (enc_poor (n := n) hin (by omega) (by omega))
      have hcb : (cm == 0) = false := by simpa using hcm
      have HM := Lib.hid hm
      have HIN := Lib.hid hin
      have hnF : decide (n ≤ F) = false := by simpa using hfr
      clear hcm hm hin hFv
      have key := enc_st (x := A) (n := n) S3.out.mem S3.out.pv G.out H1.out (by omega) (by omega) (by omega) (by omega)
      rw [S3.out.fb] at key
      have HK := Lib.hid key
      clear key
      go_wp2_with fail
      refine HK.out.mono ?_
      clear HK
      rintro e z4 ⟨rfl, s4, hM, hT, hf, hp⟩
      have S4 := Lib.hid (S3.out.step hM hT hf hp)
      clear hM hT hf hp S3
      have key := move_st (x := A) (p := B) (a := n) S4.out.mem S4.out.pv G.out HM.out (by omega) (by omega) (by omega) (by omega) (by omega) (by omega)
      rw [S4.out.fb] at key
      have HK := Lib.hid key
      clear key
      go_wp2_with fail
      refine HK.out.mono ?_
      clear HK
      rintro e z5 ⟨rfl, s5, hM, hT, hf, hp⟩
      have S5 := Lib.hid (S4.out.step hM hT hf hp)
      clear hM hT hf hp S4
      obtain ⟨FI, FP, hFA⟩ := fund5_at0 v A
      have key := fund_st (x := A) S5.out.mem S5.out.pv hFA (t := true) (decide_eq_true HIN.out) (by omega) (by omega)
      rw [S5.out.fb] at key
      have HK := Lib.hid key
      clear key hFA
      go_wp2_with fail
      refine HK.out.mono ?_
      clear HK
      rintro e z6 ⟨rfl, hb⟩
      have S6 := Lib.hid (S5.out.read hb)
      have S6' := Lib.hid (S6.out.alloc (.cells #[.int .i64 FI, .int .i64 FP, .int .i64 (PV.at0 v (PV.al v) A), .int .i64 (PV.at0 v (PV.sp v) A), .int .i64 (PV.at0 v (PV.en v) A)] 31))
      clear hb S5 S6
      have key := encode_st S6'.out.mem S6'.out.pv G.out
      rw [S6'.out.fb] at key
      have HK := Lib.hid key
      clear key
      go_wp2_with fail
      refine HK.out.mono ?_
      clear HK
      rintro e y ⟨rfl, hb⟩
      have SF := Lib.hid (S6'.out.read hb)
      clear hb
      go_wp2_with fail
      go_ret
      exact ⟨rfl, HB0.out.trans (SF.out.below.mono HB0.out.size)⟩
  · obtain ⟨cm, hm, hcm⟩ := move_no (v := v) (a := A) (b := B) (n := n) (.inl hin)
    have H1 := Lib.hid (enc_no (n := n) hin)
    have hcb : (cm == 0) = false := by simpa using hcm
    have HM := Lib.hid hm
    have HIN := Lib.hid hin
    clear hcm hm hin
    have key := enc_st (x := A) (n := n) S3.out.mem S3.out.pv G.out H1.out (by omega) (by omega) (by omega) (by omega)
    rw [S3.out.fb] at key
    have HK := Lib.hid key
    clear key
    go_wp2_with fail
    refine HK.out.mono ?_
    clear HK
    rintro e z4 ⟨rfl, s4, hM, hT, hf, hp⟩
    have S4 := Lib.hid (S3.out.step hM hT hf hp)
    clear hM hT hf hp S3
    have key := move_st (x := A) (p := B) (a := n) S4.out.mem S4.out.pv G.out HM.out (by omega) (by omega) (by omega) (by omega) (by omega) (by omega)
    rw [S4.out.fb] at key
    have HK := Lib.hid key
    clear key
    go_wp2_with fail
    refine HK.out.mono ?_
    clear HK
    rintro e z5 ⟨rfl, s5, hM, hT, hf, hp⟩
    have S5 := Lib.hid (S4.out.step hM hT hf hp)
    clear hM hT hf hp S4
    obtain ⟨FI, FP, hFA⟩ := fund5_at0 v A
    have key := fund_st (x := A) S5.out.mem S5.out.pv hFA (t := false) (decide_eq_false HIN.out) (by omega) (by omega)
    rw [S5.out.fb] at key
    have HK := Lib.hid key
    clear key hFA
    go_wp2_with fail
    refine HK.out.mono ?_
    clear HK
    rintro e z6 ⟨rfl, hb⟩
    have S6 := Lib.hid (S5.out.read hb)
    have S6' := Lib.hid (S6.out.alloc (.cells #[.int .i64 FI, .int .i64 FP, .int .i64 (PV.at0 v (PV.al v) A), .int .i64 (PV.at0 v (PV.sp v) A), .int .i64 (PV.at0 v (PV.en v) A)] 31))
    clear hb S5 S6
    have key := encode_st S6'.out.mem S6'.out.pv G.out
    rw [S6'.out.fb] at key
    have HK := Lib.hid key
    clear key
    go_wp2_with fail
    refine HK.out.mono ?_
    clear HK
    rintro e y ⟨rfl, hb⟩
    have SF := Lib.hid (S6'.out.read hb)
    clear hb
    go_wp2_with fail
    go_ret
    exact ⟨rfl, HB0.out.trans (SF.out.below.mono HB0.out.size)⟩
end Go.Proofs.Ytmnkgjgaileokaa
