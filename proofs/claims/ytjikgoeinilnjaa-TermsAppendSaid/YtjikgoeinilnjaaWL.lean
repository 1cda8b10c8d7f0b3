/- TermsAppend: the walk. -/
import Derived.Test.YtjikgoeinilnjaaM3
import Derived.Test.YtjikgoeinilnjaaWG
namespace Go.Proofs.Ytjikgoeinilnjaa
open Go.RowKit

theorem inSl_take {w : World} {a : Option Addr} {L : List Rule} {cap : Nat} (h : InSl w a L cap) (n : Nat) : InSl w a (L.take n) cap := by
  rcases h with ⟨h1, rfl, h3⟩ | ⟨ad, h1, h2, h3, h4⟩
  · exact .inl ⟨h1, by simp, h3⟩
  · refine .inr ⟨ad, h1, ?_, by simp; omega, h4⟩
    rcases h2 with rfl | ⟨b, o, e, h5, h6⟩
    · exact .inl (by simp)
    · exact .inr ⟨b, o, e, h5, rules_take h6 n⟩

theorem own_new (w : World) : (w.alloc (.cells #[] 28)).ownsRow w.heap.size 28 7 (.slice (some ⟨w.heap.size, 0, none⟩) 0 0) 0 [] :=
  ⟨rfl, .inr ⟨w.heap.size, 0, #[], rfl, Nat.le_refl _, Blk.new w #[] 28, Nat.le_refl _, by unfold maxLen; omega, rfl, rfl⟩⟩
theorem own_addr {w : World} {B z n : Nat} {e : TypeId} {v : Value} {xs : List Value} (h : w.ownsRow B e z v n xs) (hne : v ≠ .slice none 0 0) : ∃ g c, v = .slice (some ⟨g, 0, none⟩) n c := by
  obtain ⟨_, ⟨h1, _⟩ | ⟨g, c, _, h1, _⟩⟩ := h
  · exact absurd h1 hne
  · exact ⟨g, c, h1⟩
theorem cells_src {w : World} {g : Nat} {T : List Rule} (h : RulesAt w g 0 T) : ∀ (j : Nat) (u : Value), (cellsOf T)[j]? = some u → w.cell? (Addr.add ⟨g, 0, none⟩ j) = some u :=
  fun j u hj => by rw [add_eq]; exact cells_rules h j u hj
theorem own_over {w : World} {B z n : Nat} {e : TypeId} {v : Value} {xs : List Value} (h : w.ownsRow B e z v n xs) (x : World) : (over w x).ownsRow B e z v n xs := by
  obtain ⟨h0, ⟨h1, h2⟩ | ⟨g, c, cur, h1, h2, h3, h4⟩⟩ := h
  · exact ⟨h0, .inl ⟨h1, h2⟩⟩
  · exact ⟨h0, .inr ⟨g, c, cur, h1, h2, (over_block w x (heap_lt h3)).trans h3, h4⟩⟩
theorem own_RB {w : World} {B n g c : Nat} {L : List Rule} (h : w.ownsRow B 28 7 (.slice (some ⟨g, 0, none⟩) n c) n (cellsOf L)) (hn : L.length = n) : RB w g L := by
  obtain ⟨_, ⟨h1, _⟩ | ⟨g', c', cur, h1, _, h3, _, _, _, h4⟩⟩ := h
  · cases h1
  · injection h1 with h1
    injection h1 with h1
    injection h1 with h1
    subst h1
    exact ⟨heap_lt h3, (rules_owned h3 (by rw [hn]; exact h4)).1⟩
attribute [local go_sem] over_cell over_frozen calm calmAt calmUpon
set_option maxRecDepth 100000 in
set_option maxHeartbeats 4000000 in
theorem appendLaw (L : List Rule) (a : Option Addr) (cap : Nat) (Lm : List Rule) (am : Option Addr) (capm : Nat) (y0 y1 y2 : Int) (w : World) (h : InSl w a L cap) (hm : InSl w am Lm capm) :
    Calls Try.prog 5 #[.slice a L.length cap, .slice am Lm.length capm, .agg #[.int .i64 y0, .int .i64 y1, .int .i64 y2]] w fun e w' => e = .returned (.bool true) ∧ Below w.heap.size w w' := by
  have hb0 : Below w.heap.size w (w.alloc (.cells #[.int .i64 y0, .int .i64 y1, .int .i64 y2] 23)) := (Below.refl _ _).alloc (Nat.le_refl _) _
  have P5 := Lib.hid (Blk.new w #[.int .i64 y0, .int .i64 y1, .int .i64 y2] 23)
  have S0 := Lib.hid hb0
  have HI := Lib.hid (h.below hb0 (Nat.le_refl _))
  have HM := Lib.hid hm
  clear hb0 h hm
  go_enter Try.func5, Try.ntmps5
  go_wp2_with fail
  generalize w.alloc (.cells #[.int .i64 y0, .int .i64 y1, .int .i64 y2] 23) = w0 at *
  refine (sanity_any _).mono ?_
  rintro e w1 ⟨rfl, hb1⟩
  have S1 := Lib.hid (S0.out.trans (hb1.mono S0.out.size))
  have P5_1 := Lib.hid (P5.out.below hb1 P5.out.lt)
  have HI1 := Lib.hid (HI.out.below hb1 (Nat.le_refl _))
  clear hb1 S0 P5 HI
  go_wp2_with fail
  refine (table_any L a cap _ HI1.out).mono ?_
  rintro e w2 ⟨⟨g, cap', rfl, hg1, hg2, hg3⟩, hb1⟩
  have S2 := Lib.hid (S1.out.trans (hb1.mono S1.out.size))
  have P5_2 := Lib.hid (P5_1.out.below hb1 P5_1.out.lt)
  have T2 : RowKit.Hid (RB w2 g ((L.take 20).map tabR)) := ⟨hg1, hg3⟩
  have hl : ((L.take 20).map tabR).length ≤ 20 := by simp; omega
  generalize (L.take 20).map tabR = T at *
  clear hb1 S1 P5_1 HI1 hg1 hg2 hg3
  go_wp2_with fail
  obtain ⟨d0, d1, d2⟩ := blk3 P5_2.out
  have m0 : 0 ≤ y0 % 3 ∧ y0 % 3 < 3 := by omega
  have m1 : 0 ≤ y1 % 3 ∧ y1 % 3 < 3 := by omega
  have m2 : 0 ≤ y2 % 3 ∧ y2 % 3 < 3 := by omega
  refine wp_region_mk 11 10 9 #[.int .i64 0, .int .i64 0, .int .i64 0] 23 (by kernel_rfl) (by kernel_rfl) ?_ ?_
  · intro o ho a w
    simp at ho
    subst ho
    kernel_rfl
  simp only [virt, vmove, vtail, Nat.reduceAdd, Nat.reduceLeDiff, Nat.reduceEqDiff, if_true, if_false]
  repeat (refine wpCalm_step (fun K hK => ?_); go_simp; first | (refine hK _ ?_; clear hK K) | (apply Exists.intro; refine ⟨fun _ => ?_, hK _ ?_⟩; (go_at_call 13; exact calmSame (mod_any _ _ _ (by omega) (by omega))); clear hK K))
  refine wpCalm_nil ?_
  intro x g2 hg2 hB2
  have S3 := Lib.hid (S2.out.trans (bover x S2.out.size))
  have P9 := Lib.hid hB2
  have T3 := Lib.hid (T2.out.over x)
  have hg0 : w.heap.size ≤ g2 := by have := S2.out.size; omega
  have hng : g ≠ g2 := by have := T2.out.1; omega
  clear d0 d1 d2 S2 P5_2 T2
  generalize over w2 x = w3 at *
  obtain ⟨k0, k1, k2⟩ := blk3 P9.out
  have kf := P9.out.frozen
  simp only [List.drop_succ_cons, List.drop_zero]
  go_wp2_with fail
  obtain ⟨W, hW⟩ : ∃ W, W = (((w3.setCell ⟨g2, 0, none⟩ (.int .i64 (y0 % 3))).setCell ⟨g2, 1, none⟩ (.int .i64 (y1 % 3))).setCell ⟨g2, 2, none⟩ (.int .i64 (y2 % 3))) := ⟨_, rfl⟩
  have S_0 : RowKit.Hid (Below w.heap.size w W) := by rw [hW]; exact ((S3.out.setCell (by exact hg0) _).setCell (by exact hg0) _).setCell (by exact hg0) _
  have C_0 : RowKit.Hid (Blk W g2 #[.int .i64 (y0 % 3), .int .i64 (y1 % 3), .int .i64 (y2 % 3)] 23) := by rw [hW]; exact arr3 P9.out
  have T_0 : RowKit.Hid (RB W g T) := by rw [hW]; exact ((T3.out.setNe _ _ hng).setNe _ _ hng).setNe _ _ hng
  rw [← hW]
  clear hW S3 P9 T3 k0 k1 k2 kf hB2
  generalize y0 % 3 = z0 at *
  generalize y1 % 3 = z1 at *
  generalize y2 % 3 = z2 at *
  clear m0 m1 m2
  obtain ⟨p, hp⟩ : ∃ p, findS T z0 z1 z2 = p := ⟨_, rfl⟩
  obtain ⟨⟨r0, r1, r2, r3, r4, r5, r6⟩, pm⟩ := p
  have HP := Lib.hid hp
  clear hp
  refine (find_val (L := T) (n := T.length) T_0.out rfl (by omega) HP.out (t := decide (0 ≤ pm)) rfl).mono ?_
  rintro e w5 ⟨rfl, hb⟩
  have T_1 := Lib.hid (T_0.out.below hb T_0.out.1)
  have C_1 := Lib.hid (C_0.out.below hb C_0.out.lt)
  have S_1 := Lib.hid (S_0.out.trans (hb.mono S_0.out.size))
  clear hb T_0 S_0 C_0
  obtain ⟨e0, e1, e2⟩ := blk3 C_1.out
  have hz := C_1.out.lt
  go_wp2_with fail
  clear e0 e1 e2 hz
  obtain ⟨⟨f1, f2⟩, hf⟩ : ∃ p, fitsS ⟨r0, r1, r2, r3, r4, r5, r6⟩ z0 z1 z2 = p := ⟨_, rfl⟩
  have HF := Lib.hid hf
  clear hf
  refine (fits_any ⟨r0, r1, r2, r3, r4, r5, r6⟩ z0 z1 z2 _).mono ?_
  rintro e w6 ⟨rfl, hb⟩
  have T_2 := Lib.hid ((T_1.out.alloc _).below hb (T_1.out.alloc _).1)
  have C_2 := Lib.hid ((C_1.out.alloc _).below hb (C_1.out.alloc _).lt)
  have D_2 := Lib.hid ((Blk.new w5 #[.int .i64 r0, .int .i64 r1, .int .i64 r2, .int .i64 r3, .int .i64 r4, .int .i64 r5, .int .i64 r6] 28).below hb (Blk.new w5 #[.int .i64 r0, .int .i64 r1, .int .i64 r2, .int .i64 r3, .int .i64 r4, .int .i64 r5, .int .i64 r6] 28).lt)
  have S_2 := Lib.hid ((S_1.out.alloc S_1.out.size _).trans (hb.mono (alloc_ge _ (by have := S_1.out.size; omega))))
  clear hb T_1 C_1 S_1
  rw [HF.out]
  have hcm : Lm.length ≤ 9223372036854775807 := by
    rcases HM.out with ⟨_, e, _⟩ | ⟨_, _, _, e1, e2⟩
    · rw [e]; simp
    · omega
  have MI := Lib.hid (inSl_take (HM.out.below S_2.out (Nat.le_refl _)) 10)
  have hcc : RowKit.Hid ((am = none ∧ Lm.length = 0 ∧ capm = 0) ∨ ∃ ad, am = some ad ∧ Lm.length ≤ capm ∧ capm ≤ 9223372036854775807) := by
    rcases HM.out with ⟨e1, e2, e3⟩ | ⟨ad, e1, _, e2, e3⟩
    · exact .inl ⟨e1, by rw [e2]; rfl, e3⟩
    · exact .inr ⟨ad, e1, e2, e3⟩
  obtain ⟨M, hMM⟩ : ∃ M, M = ((Lm.take 10).take 20).map tabR := ⟨_, rfl⟩
  have hMl : M.length ≤ 20 := by rw [hMM]; simp; omega
  have HT := Lib.hid (table_any (Lm.take 10) am capm _ MI.out)
  rw [← hMM] at HT
  clear hMM MI HM
  rcases hcc.out with ⟨rfl, e0, rfl⟩ | ⟨ad, rfl, hc1, hc2⟩
  · have e10 : (Lm.take 10).length = 0 := by rw [List.length_take, e0]; rfl
    have HT' := HT.out
    rw [e10] at HT'
    have HT2 := Lib.hid HT'
    clear HT' HT e10
    rw [e0]
    go_wp2_with fail
    refine HT2.out.mono ?_
    clear HT2
    rintro e w7 ⟨⟨g3, cap3, rfl, hg1, hg2, hg3⟩, hb⟩
    have T_3 := Lib.hid (T_2.out.below hb T_2.out.1)
    have C_3 := Lib.hid (C_2.out.below hb C_2.out.lt)
    have D_3 := Lib.hid (D_2.out.below hb D_2.out.lt)
    have S_3 := Lib.hid (S_2.out.trans (hb.mono S_2.out.size))
    have M_3 : RowKit.Hid (RB w7 g3 M) := ⟨hg1, hg3⟩
    clear hb T_2 C_2 D_2 S_2 hg1 hg2 hg3 hcc
    have hT0 := cells_src (T_3.out.alloc (.cells #[] 28)).2
    obtain ⟨i0, hi, hz0, hz1, hz2⟩ := info_parts info28
    go_wp2_with (at_builtin; refine wpList_append_own _ rfl (.tmp 57) (.tmp 58) 22 rfl w7.heap.size 28 i0 _ 7 56 Try.underlying22 hi hz0 hz1 hz2 rfl (by decide) _ 0 [] rfl (own_new w7) ⟨g, 0, none⟩ T.length cap' (cellsOf T) ?_ (cellsOf_len T) hT0 (cellsOf_one T) ?_ ?_ ?_ ?_)
    · rfl
    · unfold maxLen; omega
    · omega
    · simp
    intro v' w8 hown' hgrow hiff
    obtain ⟨g4, c4, rfl⟩ := own_addr hown' hiff
    have hb := ((Below.refl w7.heap.size w7).alloc (Nat.le_refl _) (.cells #[] 28)).grown hgrow (by simp) (by intro k hk; have hk' : some w7.heap.size = some k := hk; injection hk' with hk'; omega)
    have T_4 := Lib.hid (T_3.out.below hb T_3.out.1)
    have C_4 := Lib.hid (C_3.out.below hb C_3.out.lt)
    have D_4 := Lib.hid (D_3.out.below hb D_3.out.lt)
    have M_4 := Lib.hid (M_3.out.below hb M_3.out.1)
    have S_4 := Lib.hid (S_3.out.trans (hb.mono S_3.out.size))
    have O_4 : RowKit.Hid (w8.ownsRow w7.heap.size 28 7 (.slice (some ⟨g4, 0, none⟩) T.length c4) T.length (cellsOf (T ++ []))) := by show World.ownsRow _ _ _ _ _ _ _; simpa using hown'
    have hs8 := hb.size
    have lT := T_3.out.1
    have lC := C_3.out.lt
    have lD := D_3.out.lt
    have lM := M_3.out.1
    have lS := S_3.out.size
    clear hb hown' hgrow hiff T_3 C_3 D_3 M_3 S_3 hT0
    generalize w7.heap.size = B at *
    generalize w5.heap.size = g5 at *
    have HQ : RowKit.Hid (-1 ≤ pm ∧ (0 ≤ pm → f2 = pm)) := by
      have h1 := findS_inv T z0 z1 z2
      rw [HP.out] at h1
      have h2 := HF.out
      rcases h1 with h1 | ⟨h1, h3⟩
      · simp at h1
        exact ⟨by omega, fun h => by omega⟩
      · have h4 : pm = rw3 ⟨r0, r1, r2, r3, r4, r5, r6⟩ := h3
        have h5 := rw3_pos ⟨r0, r1, r2, r3, r4, r5, r6⟩
        have h6 : holdsB ⟨r0, r1, r2, r3, r4, r5, r6⟩ z0 z1 z2 = true := h1
        rw [fitsS, if_pos h6] at h2
        injection h2 with h7 h8
        exact ⟨by omega, fun _ => by omega⟩
    go_wp2_with fail
    go_loopw [15, 16] (fun x i wr => ∃ (k g' n c : Nat) (E : List Rule), k ≤ M.length ∧ E.length ≤ k ∧ n = T.length + E.length ∧ i = .int .i64 k ∧ x = .slice (some ⟨g', 0, none⟩) n c ∧ (∀ r ∈ E, weightI r z0 z1 z2 ≤ pm) ∧ B ≤ wr.heap.size ∧ Below w.heap.size w wr ∧ RB wr g3 M ∧ Blk wr g2 #[.int .i64 z0, .int .i64 z1, .int .i64 z2] 23 ∧ Blk wr g5 #[.int .i64 r0, .int .i64 r1, .int .i64 r2, .int .i64 r3, .int .i64 r4, .int .i64 r5, .int .i64 r6] 28 ∧ wr.ownsRow B 28 7 (.slice (some ⟨g', 0, none⟩) n c) n (cellsOf (T ++ E))) (fun _ i _ => M.length - (intOf i).toNat)
    case atStart => exact ⟨0, g4, _, c4, [], by omega, by simp, by simp, rfl, rfl, by simp, hs8, S_4.out, M_4.out, C_4.out, D_4.out, O_4.out⟩
    case round =>
      obtain ⟨k, g', n, c, E, hk, hE, rfl, rfl, rfl, hw, hB, hbl, hM, hC, hD, hO⟩ := hrel
      have HMM := Lib.hid hM
      have HC := Lib.hid hC
      have HD := Lib.hid hD
      have HS := Lib.hid hbl
      have HW := Lib.hid hw
      have HO := Lib.hid hO
      clear hM hC hD hbl hw hO T_4 C_4 D_4 S_4 M_4 O_4 hs8
      by_cases hlt : k < M.length
      · have hr := HMM.out.2 k hlt
        generalize M.getD k zr = r at *
        obtain ⟨c0, c1, c2, c3, c4', c5, c6⟩ := hr
        simp only [Nat.zero_add] at c0 c1 c2 c3 c4' c5 c6
        obtain ⟨e0, e1, e2⟩ := blk3 HC.out
        have hp := rw3_pos r
        cases hh : holdsB r z0 z1 z2
        · have E1 := Lib.hid (wI_not hh)
          go_wp2_with fail
          refine wp_region_over (by kernel_rfl) (by kernel_rfl) ?_
          repeat (go_big_quiet_step ((go_at_call 16; exact inOver (fits_no hh _))))
          refine wpQuiet_nil ?_
          rintro _ ⟨nq, rfl⟩
          have HMM' := Lib.hid (HMM.out.over nq)
          have HC' := Lib.hid (HC.out.over nq)
          have HD' := Lib.hid (HD.out.over nq)
          have HS' := Lib.hid (HS.out.trans (bover nq HS.out.size))
          have HO' := Lib.hid (own_over HO.out nq)
          have hB' : B ≤ (over wr nq).heap.size := over_ge nq hB
          have hr' := HMM'.out.2 k hlt
          have hrr : RuleAt (over wr nq) g3 (k * 7) r := by
            have := RuleAt.below (w1 := over wr nq) ⟨c0, c1, c2, c3, c4', c5, c6⟩ (below_over wr nq) (by have := HMM.out.1; exact this)
            exact this
          clear hr'
          obtain ⟨d0, d1, d2, d3, d4, d5, d6⟩ := hrr
          clear HMM HC HD HS HO c0 c1 c2 c3 c4' c5 c6 e0 e1 e2 hB
          generalize over wr nq = wq at *
          have hle : weightI r z0 z1 z2 ≤ pm := by rw [E1.out]; exact HQ.out.1
          go_wp2_with (at_builtin; refine wpList_append_own _ rfl (.tmp 85) (.tmp 90) 22 rfl B 28 i0 _ 7 56 Try.underlying22 hi hz0 hz1 hz2 rfl (by decide) _ (T.length + E.length) (cellsOf (T ++ E)) rfl (HO'.out.alloc _) ⟨wq.heap.size, 0, none⟩ 1 1 (rvs r).toList ?_ (by simp [rvs]) ?_ ?_ ?_ ?_ ?_ ?_)
          · rfl
          · intro j u hj
            rw [add_eq]
            exact ((Blk.new wq (rvs r) 28).cell (0 + j)).trans (by simpa using hj)
          · have := cellsOf_one [r]; simpa [cellsOf] using this
          · unfold maxLen; omega
          · omega
          · simp; omega
          intro v' w10 hown' hgrow hiff
          obtain ⟨g6, c6', rfl⟩ := own_addr hown' hiff
          have hb3 : Below B wq w10 := ((Below.refl _ _).alloc hB' _).grown hgrow (by simp; omega) (fun k' hk' => own_base HO'.out hk')
          have hO2 : w10.ownsRow B 28 7 (.slice (some ⟨g6, 0, none⟩) (T.length + (E ++ [r]).length) c6') (T.length + (E ++ [r]).length) (cellsOf (T ++ (E ++ [r]))) := by
            have e1 : T.length + E.length + 1 = T.length + (E ++ [r]).length := by simp; omega
            have e2 : cellsOf (T ++ E) ++ (rvs r).toList = cellsOf (T ++ (E ++ [r])) := by simp [cellsOf]
            rw [← e1, ← e2]; exact hown'
          have HO2 := Lib.hid hO2
          have N1 := Lib.hid (HMM'.out.below hb3 lM)
          have N2 := Lib.hid (HC'.out.below hb3 lC)
          have N3 := Lib.hid (HD'.out.below hb3 lD)
          have N4 := Lib.hid (HS'.out.trans (hb3.mono lS))
          have N5 : B ≤ w10.heap.size := by have := hb3.size; omega
          clear hO2 hb3 hown' hgrow hiff d0 d1 d2 d3 d4 d5 d6
          go_wp2_with fail
          exact ⟨⟨k + 1, g6, _, c6', E ++ [r], by omega, by simp; omega, rfl, by go_num, by congr 1; simp; omega, by intro r' hr'; rcases List.mem_append.1 hr' with h | h; exact HW.out r' h; simp at h; rw [h]; exact hle, N5, N4.out, N1.out, N2.out, N3.out, HO2.out⟩, by simp [intOf]; omega⟩
        · have E1 := Lib.hid (wI_hold hh)
          cases hok : decide (0 ≤ pm)
          · go_wp2_with fail
            refine wp_region_over (by kernel_rfl) (by kernel_rfl) ?_
            repeat (go_big_quiet_step ((go_at_call 16; exact inOver (fits_yes hh _))))
            refine wpQuiet_nil ?_
            rintro _ ⟨nq, rfl⟩
            have HMM' := Lib.hid (HMM.out.over nq)
            have HC' := Lib.hid (HC.out.over nq)
            have HD' := Lib.hid (HD.out.over nq)
            have HS' := Lib.hid (HS.out.trans (bover nq HS.out.size))
            have HO' := Lib.hid (own_over HO.out nq)
            have hB' : B ≤ (over wr nq).heap.size := over_ge nq hB
            have hr' := HMM'.out.2 k hlt
            have hrr : RuleAt (over wr nq) g3 (k * 7) r := by
              have := RuleAt.below (w1 := over wr nq) ⟨c0, c1, c2, c3, c4', c5, c6⟩ (below_over wr nq) (by have := HMM.out.1; exact this)
              exact this
            clear hr'
            obtain ⟨d0, d1, d2, d3, d4, d5, d6⟩ := hrr
            clear HMM HC HD HS HO c0 c1 c2 c3 c4' c5 c6 e0 e1 e2 hB
            generalize over wr nq = wq at *
            go_wp2_with fail
            exact ⟨⟨k + 1, g', _, c, E, by omega, by omega, rfl, by go_num, rfl, HW.out, hB', HS'.out, HMM'.out, HC'.out, HD'.out, HO'.out⟩, by simp [intOf]; omega⟩
          · have hf2 := Lib.hid (HQ.out.2 (by simpa using hok))
            cases hle' : decide (rw3 r ≤ f2)
            · go_wp2_with fail
              refine wp_region_over (by kernel_rfl) (by kernel_rfl) ?_
              repeat (go_big_quiet_step ((go_at_call 16; exact inOver (fits_yes hh _))))
              refine wpQuiet_nil ?_
              rintro _ ⟨nq, rfl⟩
              have HMM' := Lib.hid (HMM.out.over nq)
              have HC' := Lib.hid (HC.out.over nq)
              have HD' := Lib.hid (HD.out.over nq)
              have HS' := Lib.hid (HS.out.trans (bover nq HS.out.size))
              have HO' := Lib.hid (own_over HO.out nq)
              have hB' : B ≤ (over wr nq).heap.size := over_ge nq hB
              have hr' := HMM'.out.2 k hlt
              have hrr : RuleAt (over wr nq) g3 (k * 7) r := by
                have := RuleAt.below (w1 := over wr nq) ⟨c0, c1, c2, c3, c4', c5, c6⟩ (below_over wr nq) (by have := HMM.out.1; exact this)
                exact this
              clear hr'
              obtain ⟨d0, d1, d2, d3, d4, d5, d6⟩ := hrr
              clear HMM HC HD HS HO c0 c1 c2 c3 c4' c5 c6 e0 e1 e2 hB
              generalize over wr nq = wq at *
              go_wp2_with fail
              exact ⟨⟨k + 1, g', _, c, E, by omega, by omega, rfl, by go_num, rfl, HW.out, hB', HS'.out, HMM'.out, HC'.out, HD'.out, HO'.out⟩, by simp [intOf]; omega⟩
            · go_wp2_with fail
              refine wp_region_over (by kernel_rfl) (by kernel_rfl) ?_
              repeat (go_big_quiet_step ((go_at_call 16; exact inOver (fits_yes hh _))))
              refine wpQuiet_nil ?_
              rintro _ ⟨nq, rfl⟩
              have HMM' := Lib.hid (HMM.out.over nq)
              have HC' := Lib.hid (HC.out.over nq)
              have HD' := Lib.hid (HD.out.over nq)
              have HS' := Lib.hid (HS.out.trans (bover nq HS.out.size))
              have HO' := Lib.hid (own_over HO.out nq)
              have hB' : B ≤ (over wr nq).heap.size := over_ge nq hB
              have hr' := HMM'.out.2 k hlt
              have hrr : RuleAt (over wr nq) g3 (k * 7) r := by
                have := RuleAt.below (w1 := over wr nq) ⟨c0, c1, c2, c3, c4', c5, c6⟩ (below_over wr nq) (by have := HMM.out.1; exact this)
                exact this
              clear hr'
              obtain ⟨d0, d1, d2, d3, d4, d5, d6⟩ := hrr
              clear HMM HC HD HS HO c0 c1 c2 c3 c4' c5 c6 e0 e1 e2 hB
              generalize over wr nq = wq at *
              have hle : weightI r z0 z1 z2 ≤ pm := by rw [E1.out, ← hf2.out]; simpa using hle'
              go_wp2_with (at_builtin; refine wpList_append_own _ rfl (.tmp 85) (.tmp 90) 22 rfl B 28 i0 _ 7 56 Try.underlying22 hi hz0 hz1 hz2 rfl (by decide) _ (T.length + E.length) (cellsOf (T ++ E)) rfl (HO'.out.alloc _) ⟨wq.heap.size, 0, none⟩ 1 1 (rvs r).toList ?_ (by simp [rvs]) ?_ ?_ ?_ ?_ ?_ ?_)
              · rfl
              · intro j u hj
                rw [add_eq]
                exact ((Blk.new wq (rvs r) 28).cell (0 + j)).trans (by simpa using hj)
              · have := cellsOf_one [r]; simpa [cellsOf] using this
              · unfold maxLen; omega
              · omega
              · simp; omega
              intro v' w10 hown' hgrow hiff
              obtain ⟨g6, c6', rfl⟩ := own_addr hown' hiff
              have hb3 : Below B wq w10 := ((Below.refl _ _).alloc hB' _).grown hgrow (by simp; omega) (fun k' hk' => own_base HO'.out hk')
              have hO2 : w10.ownsRow B 28 7 (.slice (some ⟨g6, 0, none⟩) (T.length + (E ++ [r]).length) c6') (T.length + (E ++ [r]).length) (cellsOf (T ++ (E ++ [r]))) := by
                have e1 : T.length + E.length + 1 = T.length + (E ++ [r]).length := by simp; omega
                have e2 : cellsOf (T ++ E) ++ (rvs r).toList = cellsOf (T ++ (E ++ [r])) := by simp [cellsOf]
                rw [← e1, ← e2]; exact hown'
              have HO2 := Lib.hid hO2
              have N1 := Lib.hid (HMM'.out.below hb3 lM)
              have N2 := Lib.hid (HC'.out.below hb3 lC)
              have N3 := Lib.hid (HD'.out.below hb3 lD)
              have N4 := Lib.hid (HS'.out.trans (hb3.mono lS))
              have N5 : B ≤ w10.heap.size := by have := hb3.size; omega
              clear hO2 hb3 hown' hgrow hiff d0 d1 d2 d3 d4 d5 d6
              go_wp2_with fail
              exact ⟨⟨k + 1, g6, _, c6', E ++ [r], by omega, by simp; omega, rfl, by go_num, by congr 1; simp; omega, by intro r' hr'; rcases List.mem_append.1 hr' with h | h; exact HW.out r' h; simp at h; rw [h]; exact hle, N5, N4.out, N1.out, N2.out, N3.out, HO2.out⟩, by simp [intOf]; omega⟩
      · obtain rfl : k = M.length := by omega
        obtain ⟨e0, e1, e2⟩ := blk3 HC.out
        have hn : (T ++ E).length = T.length + E.length := by simp
        have hfs : findS (T ++ E) z0 z1 z2 = (⟨r0, r1, r2, r3, r4, r5, r6⟩, pm) := by
          rw [findS_app T E z0 z1 z2 (by rw [HP.out]; exact HW.out)]; exact HP.out
        have HFS := Lib.hid hfs
        have hRB := Lib.hid (own_RB HO.out hn)
        have HN := Lib.hid hn
        clear hfs hn
        go_wp2_with fail
        refine (find_val (L := T ++ E) (n := T.length + E.length) hRB.out HN.out (by omega) HFS.out (t := decide (0 ≤ pm)) rfl).mono ?_
        rintro e w9 ⟨rfl, hb⟩
        have D_9 := Lib.hid (HD.out.below hb HD.out.lt)
        have S_9 := Lib.hid (HS.out.trans (hb.mono HS.out.size))
        obtain ⟨q0, q1, q2, q3, q4, q5, q6⟩ := ruleCells D_9.out
        have hz9 := D_9.out.lt
        clear hb HD HS HMM HC HO HW hRB e0 e1 e2
        go_wp2_with fail
        go_ret
        exact ⟨rfl, S_9.out.alloc S_9.out.size _⟩
  · go_wp2_with fail
    rw [show (min (Lm.length : Int) 10).toNat = (Lm.take 10).length from by simp; omega]
    refine HT.out.mono ?_
    clear HT
    rintro e w7 ⟨⟨g3, cap3, rfl, hg1, hg2, hg3⟩, hb⟩
    have T_3 := Lib.hid (T_2.out.below hb T_2.out.1)
    have C_3 := Lib.hid (C_2.out.below hb C_2.out.lt)
    have D_3 := Lib.hid (D_2.out.below hb D_2.out.lt)
    have S_3 := Lib.hid (S_2.out.trans (hb.mono S_2.out.size))
    have M_3 : RowKit.Hid (RB w7 g3 M) := ⟨hg1, hg3⟩
    clear hb T_2 C_2 D_2 S_2 hg1 hg2 hg3 hcc
    have hT0 := cells_src (T_3.out.alloc (.cells #[] 28)).2
    obtain ⟨i0, hi, hz0, hz1, hz2⟩ := info_parts info28
    go_wp2_with (at_builtin; refine wpList_append_own _ rfl (.tmp 57) (.tmp 58) 22 rfl w7.heap.size 28 i0 _ 7 56 Try.underlying22 hi hz0 hz1 hz2 rfl (by decide) _ 0 [] rfl (own_new w7) ⟨g, 0, none⟩ T.length cap' (cellsOf T) ?_ (cellsOf_len T) hT0 (cellsOf_one T) ?_ ?_ ?_ ?_)
    · rfl
    · unfold maxLen; omega
    · omega
    · simp
    intro v' w8 hown' hgrow hiff
    obtain ⟨g4, c4, rfl⟩ := own_addr hown' hiff
    have hb := ((Below.refl w7.heap.size w7).alloc (Nat.le_refl _) (.cells #[] 28)).grown hgrow (by simp) (by intro k hk; have hk' : some w7.heap.size = some k := hk; injection hk' with hk'; omega)
    have T_4 := Lib.hid (T_3.out.below hb T_3.out.1)
    have C_4 := Lib.hid (C_3.out.below hb C_3.out.lt)
    have D_4 := Lib.hid (D_3.out.below hb D_3.out.lt)
    have M_4 := Lib.hid (M_3.out.below hb M_3.out.1)
    have S_4 := Lib.hid (S_3.out.trans (hb.mono S_3.out.size))
    have O_4 : RowKit.Hid (w8.ownsRow w7.heap.size 28 7 (.slice (some ⟨g4, 0, none⟩) T.length c4) T.length (cellsOf (T ++ []))) := by show World.ownsRow _ _ _ _ _ _ _; simpa using hown'
    have hs8 := hb.size
    have lT := T_3.out.1
    have lC := C_3.out.lt
    have lD := D_3.out.lt
    have lM := M_3.out.1
    have lS := S_3.out.size
    clear hb hown' hgrow hiff T_3 C_3 D_3 M_3 S_3 hT0
    generalize w7.heap.size = B at *
    generalize w5.heap.size = g5 at *
    have HQ : RowKit.Hid (-1 ≤ pm ∧ (0 ≤ pm → f2 = pm)) := by
      have h1 := findS_inv T z0 z1 z2
      rw [HP.out] at h1
      have h2 := HF.out
      rcases h1 with h1 | ⟨h1, h3⟩
      · simp at h1
        exact ⟨by omega, fun h => by omega⟩
      · have h4 : pm = rw3 ⟨r0, r1, r2, r3, r4, r5, r6⟩ := h3
        have h5 := rw3_pos ⟨r0, r1, r2, r3, r4, r5, r6⟩
        have h6 : holdsB ⟨r0, r1, r2, r3, r4, r5, r6⟩ z0 z1 z2 = true := h1
        rw [fitsS, if_pos h6] at h2
        injection h2 with h7 h8
        exact ⟨by omega, fun _ => by omega⟩
    go_wp2_with fail
    go_loopw [15, 16] (fun x i wr => ∃ (k g' n c : Nat) (E : List Rule), k ≤ M.length ∧ E.length ≤ k ∧ n = T.length + E.length ∧ i = .int .i64 k ∧ x = .slice (some ⟨g', 0, none⟩) n c ∧ (∀ r ∈ E, weightI r z0 z1 z2 ≤ pm) ∧ B ≤ wr.heap.size ∧ Below w.heap.size w wr ∧ RB wr g3 M ∧ Blk wr g2 #[.int .i64 z0, .int .i64 z1, .int .i64 z2] 23 ∧ Blk wr g5 #[.int .i64 r0, .int .i64 r1, .int .i64 r2, .int .i64 r3, .int .i64 r4, .int .i64 r5, .int .i64 r6] 28 ∧ wr.ownsRow B 28 7 (.slice (some ⟨g', 0, none⟩) n c) n (cellsOf (T ++ E))) (fun _ i _ => M.length - (intOf i).toNat)
    case atStart => exact ⟨0, g4, _, c4, [], by omega, by simp, by simp, rfl, rfl, by simp, hs8, S_4.out, M_4.out, C_4.out, D_4.out, O_4.out⟩
    case round =>
      obtain ⟨k, g', n, c, E, hk, hE, rfl, rfl, rfl, hw, hB, hbl, hM, hC, hD, hO⟩ := hrel
      have HMM := Lib.hid hM
      have HC := Lib.hid hC
      have HD := Lib.hid hD
      have HS := Lib.hid hbl
      have HW := Lib.hid hw
      have HO := Lib.hid hO
      clear hM hC hD hbl hw hO T_4 C_4 D_4 S_4 M_4 O_4 hs8
      by_cases hlt : k < M.length
      · have hr := HMM.out.2 k hlt
        generalize M.getD k zr = r at *
        obtain ⟨c0, c1, c2, c3, c4', c5, c6⟩ := hr
        simp only [Nat.zero_add] at c0 c1 c2 c3 c4' c5 c6
        obtain ⟨e0, e1, e2⟩ := blk3 HC.out
        have hp := rw3_pos r
        cases hh : holdsB r z0 z1 z2
        · have E1 := Lib.hid (wI_not hh)
          go_wp2_with fail
          refine wp_region_over (by kernel_rfl) (by kernel_rfl) ?_
          repeat (go_big_quiet_step ((go_at_call 16; exact inOver (fits_no hh _))))
          refine wpQuiet_nil ?_
          rintro _ ⟨nq, rfl⟩
          have HMM' := Lib.hid (HMM.out.over nq)
          have HC' := Lib.hid (HC.out.over nq)
          have HD' := Lib.hid (HD.out.over nq)
          have HS' := Lib.hid (HS.out.trans (bover nq HS.out.size))
          have HO' := Lib.hid (own_over HO.out nq)
          have hB' : B ≤ (over wr nq).heap.size := over_ge nq hB
          have hr' := HMM'.out.2 k hlt
          have hrr : RuleAt (over wr nq) g3 (k * 7) r := by
            have := RuleAt.below (w1 := over wr nq) ⟨c0, c1, c2, c3, c4', c5, c6⟩ (below_over wr nq) (by have := HMM.out.1; exact this)
            exact this
          clear hr'
          obtain ⟨d0, d1, d2, d3, d4, d5, d6⟩ := hrr
          clear HMM HC HD HS HO c0 c1 c2 c3 c4' c5 c6 e0 e1 e2 hB
          generalize over wr nq = wq at *
          have hle : weightI r z0 z1 z2 ≤ pm := by rw [E1.out]; exact HQ.out.1
          go_wp2_with (at_builtin; refine wpList_append_own _ rfl (.tmp 85) (.tmp 90) 22 rfl B 28 i0 _ 7 56 Try.underlying22 hi hz0 hz1 hz2 rfl (by decide) _ (T.length + E.length) (cellsOf (T ++ E)) rfl (HO'.out.alloc _) ⟨wq.heap.size, 0, none⟩ 1 1 (rvs r).toList ?_ (by simp [rvs]) ?_ ?_ ?_ ?_ ?_ ?_)
          · rfl
          · intro j u hj
            rw [add_eq]
            exact ((Blk.new wq (rvs r) 28).cell (0 + j)).trans (by simpa using hj)
          · have := cellsOf_one [r]; simpa [cellsOf] using this
          · unfold maxLen; omega
          · omega
          · simp; omega
          intro v' w10 hown' hgrow hiff
          obtain ⟨g6, c6', rfl⟩ := own_addr hown' hiff
          have hb3 : Below B wq w10 := ((Below.refl _ _).alloc hB' _).grown hgrow (by simp; omega) (fun k' hk' => own_base HO'.out hk')
          have hO2 : w10.ownsRow B 28 7 (.slice (some ⟨g6, 0, none⟩) (T.length + (E ++ [r]).length) c6') (T.length + (E ++ [r]).length) (cellsOf (T ++ (E ++ [r]))) := by
            have e1 : T.length + E.length + 1 = T.length + (E ++ [r]).length := by simp; omega
            have e2 : cellsOf (T ++ E) ++ (rvs r).toList = cellsOf (T ++ (E ++ [r])) := by simp [cellsOf]
            rw [← e1, ← e2]; exact hown'
          have HO2 := Lib.hid hO2
          have N1 := Lib.hid (HMM'.out.below hb3 lM)
          have N2 := Lib.hid (HC'.out.below hb3 lC)
          have N3 := Lib.hid (HD'.out.below hb3 lD)
          have N4 := Lib.hid (HS'.out.trans (hb3.mono lS))
          have N5 : B ≤ w10.heap.size := by have := hb3.size; omega
          clear hO2 hb3 hown' hgrow hiff d0 d1 d2 d3 d4 d5 d6
          go_wp2_with fail
          exact ⟨⟨k + 1, g6, _, c6', E ++ [r], by omega, by simp; omega, rfl, by go_num, by congr 1; simp; omega, by intro r' hr'; rcases List.mem_append.1 hr' with h | h; exact HW.out r' h; simp at h; rw [h]; exact hle, N5, N4.out, N1.out, N2.out, N3.out, HO2.out⟩, by simp [intOf]; omega⟩
        · have E1 := Lib.hid (wI_hold hh)
          cases hok : decide (0 ≤ pm)
          · go_wp2_with fail
            refine wp_region_over (by kernel_rfl) (by kernel_rfl) ?_
            repeat (go_big_quiet_step ((go_at_call 16; exact inOver (fits_yes hh _))))
            refine wpQuiet_nil ?_
            rintro _ ⟨nq, rfl⟩
            have HMM' := Lib.hid (HMM.out.over nq)
            have HC' := Lib.hid (HC.out.over nq)
            have HD' := Lib.hid (HD.out.over nq)
            have HS' := Lib.hid (HS.out.trans (bover nq HS.out.size))
            have HO' := Lib.hid (own_over HO.out nq)
            have hB' : B ≤ (over wr nq).heap.size := over_ge nq hB
            have hr' := HMM'.out.2 k hlt
            have hrr : RuleAt (over wr nq) g3 (k * 7) r := by
              have := RuleAt.below (w1 := over wr nq) ⟨c0, c1, c2, c3, c4', c5, c6⟩ (below_over wr nq) (by have := HMM.out.1; exact this)
              exact this
            clear hr'
            obtain ⟨d0, d1, d2, d3, d4, d5, d6⟩ := hrr
            clear HMM HC HD HS HO c0 c1 c2 c3 c4' c5 c6 e0 e1 e2 hB
            generalize over wr nq = wq at *
            go_wp2_with fail
            exact ⟨⟨k + 1, g', _, c, E, by omega, by omega, rfl, by go_num, rfl, HW.out, hB', HS'.out, HMM'.out, HC'.out, HD'.out, HO'.out⟩, by simp [intOf]; omega⟩
          · have hf2 := Lib.hid (HQ.out.2 (by simpa using hok))
            cases hle' : decide (rw3 r ≤ f2)
            · go_wp2_with fail
              refine wp_region_over (by kernel_rfl) (by kernel_rfl) ?_
              repeat (go_big_quiet_step ((go_at_call 16; exact inOver (fits_yes hh _))))
              refine wpQuiet_nil ?_
              rintro _ ⟨nq, rfl⟩
              have HMM' := Lib.hid (HMM.out.over nq)
              have HC' := Lib.hid (HC.out.over nq)
              have HD' := Lib.hid (HD.out.over nq)
              have HS' := Lib.hid (HS.out.trans (bover nq HS.out.size))
              have HO' := Lib.hid (own_over HO.out nq)
              have hB' : B ≤ (over wr nq).heap.size := over_ge nq hB
              have hr' := HMM'.out.2 k hlt
              have hrr : RuleAt (over wr nq) g3 (k * 7) r := by
                have := RuleAt.below (w1 := over wr nq) ⟨c0, c1, c2, c3, c4', c5, c6⟩ (below_over wr nq) (by have := HMM.out.1; exact this)
                exact this
              clear hr'
              obtain ⟨d0, d1, d2, d3, d4, d5, d6⟩ := hrr
              clear HMM HC HD HS HO c0 c1 c2 c3 c4' c5 c6 e0 e1 e2 hB
              generalize over wr nq = wq at *
              go_wp2_with fail
              exact ⟨⟨k + 1, g', _, c, E, by omega, by omega, rfl, by go_num, rfl, HW.out, hB', HS'.out, HMM'.out, HC'.out, HD'.out, HO'.out⟩, by simp [intOf]; omega⟩
            · go_wp2_with fail
              refine wp_region_over (by kernel_rfl) (by kernel_rfl) ?_
              repeat (go_big_quiet_step ((go_at_call 16; exact inOver (fits_yes hh _))))
              refine wpQuiet_nil ?_
              rintro _ ⟨nq, rfl⟩
              have HMM' := Lib.hid (HMM.out.over nq)
              have HC' := Lib.hid (HC.out.over nq)
              have HD' := Lib.hid (HD.out.over nq)
              have HS' := Lib.hid (HS.out.trans (bover nq HS.out.size))
              have HO' := Lib.hid (own_over HO.out nq)
              have hB' : B ≤ (over wr nq).heap.size := over_ge nq hB
              have hr' := HMM'.out.2 k hlt
              have hrr : RuleAt (over wr nq) g3 (k * 7) r := by
                have := RuleAt.below (w1 := over wr nq) ⟨c0, c1, c2, c3, c4', c5, c6⟩ (below_over wr nq) (by have := HMM.out.1; exact this)
                exact this
              clear hr'
              obtain ⟨d0, d1, d2, d3, d4, d5, d6⟩ := hrr
              clear HMM HC HD HS HO c0 c1 c2 c3 c4' c5 c6 e0 e1 e2 hB
              generalize over wr nq = wq at *
              have hle : weightI r z0 z1 z2 ≤ pm := by rw [E1.out, ← hf2.out]; simpa using hle'
              go_wp2_with (at_builtin; refine wpList_append_own _ rfl (.tmp 85) (.tmp 90) 22 rfl B 28 i0 _ 7 56 Try.underlying22 hi hz0 hz1 hz2 rfl (by decide) _ (T.length + E.length) (cellsOf (T ++ E)) rfl (HO'.out.alloc _) ⟨wq.heap.size, 0, none⟩ 1 1 (rvs r).toList ?_ (by simp [rvs]) ?_ ?_ ?_ ?_ ?_ ?_)
              · rfl
              · intro j u hj
                rw [add_eq]
                exact ((Blk.new wq (rvs r) 28).cell (0 + j)).trans (by simpa using hj)
              · have := cellsOf_one [r]; simpa [cellsOf] using this
              · unfold maxLen; omega
              · omega
              · simp; omega
              intro v' w10 hown' hgrow hiff
              obtain ⟨g6, c6', rfl⟩ := own_addr hown' hiff
              have hb3 : Below B wq w10 := ((Below.refl _ _).alloc hB' _).grown hgrow (by simp; omega) (fun k' hk' => own_base HO'.out hk')
              have hO2 : w10.ownsRow B 28 7 (.slice (some ⟨g6, 0, none⟩) (T.length + (E ++ [r]).length) c6') (T.length + (E ++ [r]).length) (cellsOf (T ++ (E ++ [r]))) := by
                have e1 : T.length + E.length + 1 = T.length + (E ++ [r]).length := by simp; omega
                have e2 : cellsOf (T ++ E) ++ (rvs r).toList = cellsOf (T ++ (E ++ [r])) := by simp [cellsOf]
                rw [← e1, ← e2]; exact hown'
              have HO2 := Lib.hid hO2
              have N1 := Lib.hid (HMM'.out.below hb3 lM)
              have N2 := Lib.hid (HC'.out.below hb3 lC)
              have N3 := Lib.hid (HD'.out.below hb3 lD)
              have N4 := Lib.hid (HS'.out.trans (hb3.mono lS))
              have N5 : B ≤ w10.heap.size := by have := hb3.size; omega
              clear hO2 hb3 hown' hgrow hiff d0 d1 d2 d3 d4 d5 d6
              go_wp2_with fail
              exact ⟨⟨k + 1, g6, _, c6', E ++ [r], by omega, by simp; omega, rfl, by go_num, by congr 1; simp; omega, by intro r' hr'; rcases List.mem_append.1 hr' with h | h; exact HW.out r' h; simp at h; rw [h]; exact hle, N5, N4.out, N1.out, N2.out, N3.out, HO2.out⟩, by simp [intOf]; omega⟩
      · obtain rfl : k = M.length := by omega
        obtain ⟨e0, e1, e2⟩ := blk3 HC.out
        have hn : (T ++ E).length = T.length + E.length := by simp
        have hfs : findS (T ++ E) z0 z1 z2 = (⟨r0, r1, r2, r3, r4, r5, r6⟩, pm) := by
          rw [findS_app T E z0 z1 z2 (by rw [HP.out]; exact HW.out)]; exact HP.out
        have HFS := Lib.hid hfs
        have hRB := Lib.hid (own_RB HO.out hn)
        have HN := Lib.hid hn
        clear hfs hn
        go_wp2_with fail
        refine (find_val (L := T ++ E) (n := T.length + E.length) hRB.out HN.out (by omega) HFS.out (t := decide (0 ≤ pm)) rfl).mono ?_
        rintro e w9 ⟨rfl, hb⟩
        have D_9 := Lib.hid (HD.out.below hb HD.out.lt)
        have S_9 := Lib.hid (HS.out.trans (hb.mono HS.out.size))
        obtain ⟨q0, q1, q2, q3, q4, q5, q6⟩ := ruleCells D_9.out
        have hz9 := D_9.out.lt
        clear hb HD HS HMM HC HO HW hRB e0 e1 e2
        go_wp2_with fail
        go_ret
        exact ⟨rfl, S_9.out.alloc S_9.out.size _⟩
end Go.Proofs.Ytjikgoeinilnjaa
