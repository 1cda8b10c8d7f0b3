/- The contract of edges. -/
import Derived.Test.YtpcmppamkgkdlaaSE
import Derived.StillTailTactics
import Derived.IntWalk
import Derived.Deep.RegionHeld3
namespace Go.Proofs.Ytpcmppamkgkdlaa
open Go.RowKit Go.Maps

theorem info81 : (Try.prog.info? 81).map (fun i => (i.zero, i.size, i.bytes)) = some (some (.agg #[.int .i64 0, .int .i64 0, .int .i64 0]), 3, 24) := by kernel_rfl
theorem one3 (a b c : Int) : ∀ u ∈ [Value.int .i64 a, .int .i64 b, .int .i64 c], u.oneCell' = true := by simp [Value.oneCell']
theorem news3 (w : World) (a b c : Value) (T : TypeId) : ∀ j u, [a, b, c][j]? = some u → (w.alloc (.cells #[a, b, c] T)).cell? ((⟨w.heap.size, 0, none⟩ : Addr).add j) = some u :=
  World.news_of_block (cs := #[a, b, c]) (t := T) (fr := (0, 0)) (heap_alloc_new w _)
def EdgesE (P : Prob) (first : Nat) (cp wn : Nat → Option Nat) (w : World) (e : Ending) (w' : World) : Prop :=
  ∃ v, e = .returned v ∧ EdAt w' w.heap.size v (edL P first cp wn) ∧ Below w.heap.size w w'
set_option maxRecDepth 100000 in
set_option maxHeartbeats 4000000 in
theorem edges_any {P : Prob} (hP : Fits P) (s : SL) (cp wn : Nat → Option Nat) (w : World) (first : Nat) (hf : first ≤ P.m) (hm : Mat P cp) (h : SM P s w cp wn) :
    Calls Try.prog 35 #[pt s.sb, .int .i64 first] w (EdgesE P first cp wn w) := by
  have hm1 := hP.m
  have hn1 := hP.n
  have HP := Lib.hid hP
  have H := Lib.hid h
  have HM := Lib.hid hm
  obtain ⟨i0, hi, hz0, hz1, hz2⟩ := info_parts info81
  have HI0 := Lib.hid (And.intro hi (And.intro hz0 (And.intro hz1 hz2)))
  clear hP h hm hi hz0 hz1 hz2
  go_enter Try.func35, Try.ntmps35
  go_wp2_with fail
  go_loopw [5, 6] (fun v x wr => ∃ (k : Nat) (lv : Value), first ≤ k ∧ k ≤ P.m ∧ x = .int .i64 k ∧ lv = v ∧ Below w.heap.size w wr ∧ wr.ownsRow w.heap.size 81 3 lv (edA P first cp k).length (encE (edA P first cp k))) (fun _ x _ => P.m - (intOf x).toNat)
  case atStart => exact ⟨first, _, Nat.le_refl _, hf, rfl, rfl, Below.refl _ _, by rw [edA_first _ (Nat.le_refl _)]; exact World.ownsRow_nil _ _ _ _⟩
  case round =>
    obtain ⟨wo, rfl⟩ : ∃ wo : World, wo = wr := ⟨_, rfl⟩
    obtain ⟨k, lv, hk0, hk1, rfl, rfl, hb, hrow⟩ := hrel
    have HB := Lib.hid hb
    have HR := Lib.hid hrow
    have S1 := Lib.hid (H.out.below hb)
    have s3 : wo.cell? ⟨s.sb, 3, none⟩ = some (.slice (some ⟨s.cb, 0, none⟩) P.m P.m) := S1.out.blk.cell 3
    have hzw := hb.size
    clear hb hrow
    by_cases hlt : k < P.m
    · have hAK := edA_len (first := first) (cp := cp) HP.out.len k
      have c0 := S1.out.cp_at hlt
      have KA : RowKit.Hid (edA P first cp (k + 1) = edA P first cp k ++ edK P cp k) := Lib.hid (by rw [edA, if_pos hk0])
      cases hcp : cp k with
      | none =>
        rw [hcp] at c0
        have c0' : wo.cell? ⟨s.cb, k, none⟩ = some (.int .i64 (-1)) := c0
        have R2 : RowKit.Hid (wo.ownsRow w.heap.size 81 3 lv (edA P first cp (k + 1)).length (encE (edA P first cp (k + 1)))) := Lib.hid (by
          rw [KA.out]; unfold edK; rw [hcp, List.append_nil]; exact HR.out)
        clear c0 hcp
        go_wp2_with fail
        exact ⟨⟨k + 1, lv, by omega, by omega, by go_num, rfl, HB.out, R2.out⟩, by simp [intOf]; omega⟩
      | some u =>
        rw [hcp] at c0
        have c0' : wo.cell? ⟨s.cb, k, none⟩ = some (.int .i64 (u : Int)) := c0
        have hu1 : ((u : Int) == -1) = false := by simp
        obtain ⟨ga, capa, a2, cap2, hav, hga, hua, hI⟩ := S1.out.acc_at hlt
        have s0 : wo.cell? ⟨s.sb, 0, none⟩ = some (.slice (some ⟨ga, 0, none⟩) P.m capa) := by have := S1.out.blk.cell 0; rw [← hav]; exact this
        have HI := Lib.hid hI
        have hul := P.lt k u (HM.out.ok hcp).2
        have HUA := Lib.hid (HM.out.ok hcp).2
        have HK : RowKit.Hid (edK P cp k = edI P k u (P.acc k).length) := Lib.hid (by unfold edK; rw [hcp])
        have hl1 := HP.out.len k
        obtain ⟨E0, hE0⟩ : ∃ E0, E0 = edA P first cp k := ⟨_, rfl⟩
        rw [← hE0] at HR KA hAK
        clear c0 hcp hav hI hE0
        go_wp2_with fail
        go_loopw [5, 40] (fun v x wr => ∃ (i : Nat) (lv : Value), i ≤ (P.acc k).length ∧ x = .int .i64 i ∧ lv = v ∧ Below w.heap.size w wr ∧ wr.ownsRow w.heap.size 81 3 lv (E0 ++ edI P k u i).length (encE (E0 ++ edI P k u i))) (fun _ x _ => (P.acc k).length - (intOf x).toNat)
        case atStart => exact ⟨0, lv, by omega, rfl, rfl, HB.out, by rw [show edI P k u 0 = [] from rfl, List.append_nil]; exact HR.out⟩
        case round =>
          obtain ⟨i, lw, hi1, rfl, rfl, hb, hrow⟩ := hrel
          have HB2 := Lib.hid hb
          have HR2 := Lib.hid hrow
          have S2 := Lib.hid (H.out.below hb)
          have hzw2 := hb.size
          clear hb hrow
          by_cases hlti : i < (P.acc k).length
          · rcases HI.out with h | ⟨b, o, rfl, hbb, hcl⟩
            · rw [h] at hlti; simp at hlti
            have hbw : b < w.heap.size := by have := H.out.lo; have := H.out.lt; omega
            have e0 : wr.cell? ⟨b, o + i, none⟩ = some (.int .i64 ((P.acc k).getD i 0 : Nat)) := by
              rw [HB2.out.cell (p := ⟨b, o + i, none⟩) hbw, ← HB.out.cell (p := ⟨b, o + i, none⟩) hbw]; exact hcl i hlti
            have HMEM : RowKit.Hid ((P.acc k).getD i 0 ∈ P.acc k) := Lib.hid (by rw [getD_get _ _ hlti]; exact List.getElem_mem hlti)
            have YES := Lib.hid (fun h => edI_yes (P := P) (u := u) hlti h)
            have NO := Lib.hid (fun h => edI_no (P := P) (u := u) hlti h)
            have hil := edI_len (P := P) k u i
            have hcn := P.lt k _ HMEM.out
            obtain ⟨c, hc⟩ : ∃ c, c = (P.acc k).getD i 0 := ⟨_, rfl⟩
            rw [← hc] at e0 HMEM YES NO hcn
            have HCL := Lib.hid hcl
            clear hcl hc
            by_cases hcu : c = u
            · have N2 := Lib.hid (NO.out hcu)
              rw [← N2.out] at HR2
              have hcu' : ((c : Int) != (u : Int)) = false := by simp [hcu]
              have hcu2 : (c != u) = false := by simp [hcu]
              clear hcu
              go_wp2_with fail
              exact ⟨⟨i + 1, lw, by omega, by go_num, rfl, HB2.out, HR2.out⟩, by simp [intOf]; omega⟩
            · have hcu' : ((c : Int) != (u : Int)) = true := by simp; omega
              have hcu2 : (c != u) = true := by simpa using hcu
              have Y2 := Lib.hid (YES.out hcu)
              obtain ⟨gk, capk, mb, hkv, hgk, hgc, hmb, hM⟩ := S2.out.cst_at hlt
              have s1 : wr.cell? ⟨s.sb, 1, none⟩ = some (.slice (some ⟨gk, 0, none⟩) P.m capk) := by have := S2.out.blk.cell 1; rw [← hkv]; exact this
              have HSS : RowKit.Hid (∀ W, Tn (fun b => w.heap.size ≤ b) wr W → W.cell? ⟨s.sb, 1, none⟩ = some (.slice (some ⟨gk, 0, none⟩) P.m capk) ∧ W.cell? ⟨gk, k, none⟩ = some (.map (some mb)) ∧
                  (Instr.lookup 66 (.map (some mb)) (.int .i64 (c : Int)) false).run Try.prog W = .ok (.int .i64 (P.cst k c)) W ∧ (Instr.lookup 66 (.map (some mb)) (.int .i64 (u : Int)) false).run Try.prog W = .ok (.int .i64 (P.cst k u)) W) := Lib.hid fun W t => by
                have hlo := H.out.lo
                have hlt' := H.out.lt
                have hMW := hM.keep t (by show ¬ w.heap.size ≤ mb; omega)
                exact ⟨t.cell s1 (by show ¬ w.heap.size ≤ s.sb; omega), t.cell hgc (by show ¬ w.heap.size ≤ gk; omega), MapAt.look' hMW HMEM.out (by omega), MapAt.look' hMW HUA.out (by omega)⟩
              have b1 := HP.out.bd k c
              have b2 := HP.out.bd k u
              have hik : (0 : Int) ≤ (k : Int) := by omega
              have hik1 : (k : Int) < (P.m : Int) := by omega
              clear hcu hkv hM
              go_wp2_with fail
              obtain ⟨hi, hz0, hz1, hz2⟩ := HI0.out
              have hlen := hil
              have hle : (E0 ++ edI P k u i).length ≤ 1001000 := by rw [List.length_append]; omega
              have HLE := Lib.hid hle
              obtain ⟨E1, hE1⟩ : ∃ E1, E1 = E0 ++ edI P k u i := ⟨_, rfl⟩
              have Y3 : RowKit.Hid (E0 ++ edI P k u (i + 1) = E1 ++ [(u, c, P.cst k c - P.cst k u)]) := Lib.hid (by rw [hE1, Y2.out, List.append_assoc])
              rw [← hE1] at HR2 hle
              clear hE1 hlen
              have hwr : IntKind.i64.wrap (P.cst k c - P.cst k u) = P.cst k c - P.cst k u := IntWalk.i64_in _ (by omega)
              go_region_held3 (fun W => W.cell? ⟨s.sb, 1, none⟩ = some (.slice (some ⟨gk, 0, none⟩) P.m capk) ∧ W.cell? ⟨gk, k, none⟩ = some (.map (some mb)) ∧
                  (Instr.lookup 66 (.map (some mb)) (.int .i64 (c : Int)) false).run Try.prog W = .ok (.int .i64 (P.cst k c)) W ∧ (Instr.lookup 66 (.map (some mb)) (.int .i64 (u : Int)) false).run Try.prog W = .ok (.int .i64 (P.cst k u)) W)
                (first
                  | exact HSS.out _ ((Tn.refl _ _).drew)
                  | exact HSS.out _ (((Tn.refl _ _).alloc _).drew)
                  | exact HSS.out _ T5.out)
                ((refine step_append_lies _ (by rfl) (.tmp 47) (.tmp 72) 75 (by rfl) w.heap.size 81 i0 _ 3 24 Try.underlying75 hi hz0 hz1 hz2 rfl (by omega) lw E1.length _ (by rfl) ((HR2.out.alloc _).drew) ⟨wr.heap.size, 0, none⟩ 1 1 [.int .i64 (u : Int), .int .i64 (c : Int), .int .i64 (P.cst k c - P.cst k u)] (by rfl) (by rfl) (news3 wr _ _ _ 81) (one3 _ _ _) (by omega) (by unfold maxLen; omega) (by omega) (by simp; omega) (wr.heap.size + 1) (by simp) ?_; intro gg cap' w5 hown5 hgrow hat hlt5; have T5 : RowKit.Hid (Tn (fun b => w.heap.size ≤ b) wr w5) := Lib.hid ((((Tn.refl (fun b => w.heap.size ≤ b) wr).alloc (.cells #[.int .i64 (u : Int), .int .i64 (c : Int), .int .i64 (P.cst k c - P.cst k u)] 81)).drew).then_ (Tn.of_grown hgrow) fun b hb => .inl (row_lt HR2.out b hb).1)))
              all_goals (
                have B5 : RowKit.Hid (Below w.heap.size w w5) := Lib.hid (HB2.out.trans (T5.out.below hzw2 fun b hb => hb))
                have R5 : RowKit.Hid (w5.ownsRow w.heap.size 81 3 (.slice (some ⟨gg, 0, none⟩) (E1.length + 1) cap') (E0 ++ edI P k u (i + 1)).length (encE (E0 ++ edI P k u (i + 1)))) := Lib.hid (by
                  rw [Y3.out, encE_app, List.length_append]; exact hown5)
                clear hown5 hgrow hat hlt5 hwr
                go_wp2_with fail
                exact ⟨⟨i + 1, _, by omega, by go_num, rfl, B5.out, R5.out⟩, by simp [intOf]; omega⟩)
          · obtain rfl : i = (P.acc k).length := by omega
            have R2 : RowKit.Hid (wr.ownsRow w.heap.size 81 3 lw (edA P first cp (k + 1)).length (encE (edA P first cp (k + 1)))) := Lib.hid (by
              rw [KA.out, HK.out]; exact HR2.out)
            clear HR2
            go_wp2_with fail
            exact ⟨⟨k + 1, lw, by omega, by omega, by go_num, rfl, HB2.out, R2.out⟩, by simp [intOf]; omega⟩
    · obtain rfl : k = P.m := by omega
      have hAK := edA_len (first := first) (cp := cp) HP.out.len P.m
      have s4 : wo.cell? ⟨s.sb, 4, none⟩ = some (.slice (some ⟨s.wb, 0, none⟩) P.n P.n) := S1.out.blk.cell 4
      obtain ⟨E0, hE0⟩ : ∃ E0, E0 = edA P first cp P.m := ⟨_, rfl⟩
      have HE0 := Lib.hid hE0
      rw [← hE0] at HR hAK
      clear hE0
      go_wp2_with fail
      go_loopw [5, 80] (fun v x wr => ∃ (c : Nat) (lv : Value), c ≤ P.n ∧ x = .int .i64 c ∧ lv = v ∧ Below w.heap.size w wr ∧ wr.ownsRow w.heap.size 81 3 lv (E0 ++ edB P first wn c).length (encE (E0 ++ edB P first wn c))) (fun _ x _ => P.n - (intOf x).toNat)
      case atStart => exact ⟨0, lv, by omega, rfl, rfl, HB.out, by rw [show edB P first wn 0 = [] from rfl, List.append_nil]; exact HR.out⟩
      case round =>
        obtain ⟨c, lw, hc1, rfl, rfl, hb, hrow⟩ := hrel
        have HB2 := Lib.hid hb
        have HR2 := Lib.hid hrow
        have S2 := Lib.hid (H.out.below hb)
        have hzw2 := hb.size
        have hbl := edB_len (P := P) (first := first) (wn := wn) c
        have hle : (E0 ++ edB P first wn c).length ≤ 1001000 := by rw [List.length_append]; omega
        have KB : RowKit.Hid (E0 ++ edB P first wn (c + 1) = (E0 ++ edB P first wn c) ++ edO P first wn c) := Lib.hid (by rw [edB, List.append_assoc])
        obtain ⟨E1, hE1⟩ : ∃ E1, E1 = E0 ++ edB P first wn c := ⟨_, rfl⟩
        rw [← hE1] at HR2 hle KB
        have HE1 := Lib.hid hE1
        clear hb hrow hbl hE1
        by_cases hlt : c < P.n
        · have w0 := S2.out.wn_at hlt
          have s2 : wr.cell? ⟨s.sb, 2, none⟩ = some (.int .i64 P.n) := S2.out.blk.cell 2
          obtain ⟨hi, hz0, hz1, hz2⟩ := HI0.out
          have key : ∀ (e : Edge) (w5 : World) (v : Value), edO P first wn c = [e] → w5.ownsRow w.heap.size 81 3 v (E1.length + 1) (encE E1 ++ enc3 e) → w5.ownsRow w.heap.size 81 3 v (E0 ++ edB P first wn (c + 1)).length (encE (E0 ++ edB P first wn (c + 1))) := fun e w5 v he h => by
            rw [KB.out, he, encE_app, List.length_append]; exact h
          have KEY := Lib.hid key
          clear key
          cases hw : wn c with
          | none =>
            rw [hw] at w0
            have w0' : wr.cell? ⟨s.wb, c, none⟩ = some (.int .i64 (-1)) := w0
            have EO := Lib.hid (edO_none (P := P) (first := first) hw)
            clear w0 hw
            go_wp2_with (at_builtin; refine wpList_append_lies _ rfl (.tmp 87) (.tmp 95) 75 rfl w.heap.size 81 i0 _ 3 24 Try.underlying75 hi hz0 hz1 hz2 rfl (by omega) lw E1.length _ rfl (HR2.out.alloc _) ⟨wr.heap.size, 0, none⟩ 1 1 [.int .i64 (c : Int), .int .i64 (P.n : Int), .int .i64 0] rfl rfl (news3 wr _ _ _ 81) (one3 _ _ _) (by omega) (by unfold maxLen; omega) (by omega) (by simp; omega) (wr.heap.size + 1) (by simp) ?_)
            intro gg cap' w5 hown5 hgrow hat hlt5
            have T5 : Tn (fun b => w.heap.size ≤ b) wr w5 := ((Tn.refl (fun b => w.heap.size ≤ b) wr).alloc (.cells #[.int .i64 (c : Int), .int .i64 (P.n : Int), .int .i64 0] 81)).then_ (Tn.of_grown hgrow) fun b hb => .inl (row_lt HR2.out b hb).1
            have B5 : RowKit.Hid (Below w.heap.size w w5) := Lib.hid (HB2.out.trans (T5.below hzw2 fun b hb => hb))
            have R5 := Lib.hid (KEY.out _ _ _ EO.out hown5)
            clear hown5 hgrow hat hlt5 T5
            go_wp2_with fail
            exact ⟨⟨c + 1, _, by omega, by go_num, rfl, B5.out, R5.out⟩, by simp [intOf]; omega⟩
          | some j =>
            rw [hw] at w0
            have w0' : wr.cell? ⟨s.wb, c, none⟩ = some (.int .i64 (j : Int)) := w0
            have hj1 : ((j : Int) == -1) = false := by simp
            have EO := Lib.hid (edO_some (P := P) (first := first) hw)
            clear w0 hw
            by_cases hfj : first ≤ j
            · have hfj' : decide ((first : Int) ≤ (j : Int)) = true := by simp; omega
              have hfj2 : decide (first ≤ j) = true := by simpa using hfj
              have EO2 := Lib.hid (EO.out.trans (if_pos hfj))
              clear hfj
              go_wp2_with (at_builtin; refine wpList_append_lies _ rfl (.tmp 100) (.tmp 108) 75 rfl w.heap.size 81 i0 _ 3 24 Try.underlying75 hi hz0 hz1 hz2 rfl (by omega) lw E1.length _ rfl (HR2.out.alloc _) ⟨wr.heap.size, 0, none⟩ 1 1 [.int .i64 (P.n : Int), .int .i64 (c : Int), .int .i64 0] rfl rfl (news3 wr _ _ _ 81) (one3 _ _ _) (by omega) (by unfold maxLen; omega) (by omega) (by simp; omega) (wr.heap.size + 1) (by simp) ?_)
              intro gg cap' w5 hown5 hgrow hat hlt5
              have T5 : Tn (fun b => w.heap.size ≤ b) wr w5 := ((Tn.refl (fun b => w.heap.size ≤ b) wr).alloc (.cells #[.int .i64 (P.n : Int), .int .i64 (c : Int), .int .i64 0] 81)).then_ (Tn.of_grown hgrow) fun b hb => .inl (row_lt HR2.out b hb).1
              have B5 : RowKit.Hid (Below w.heap.size w w5) := Lib.hid (HB2.out.trans (T5.below hzw2 fun b hb => hb))
              have R5 := Lib.hid (KEY.out _ _ _ EO2.out hown5)
              clear hown5 hgrow hat hlt5 T5
              go_wp2_with fail
              exact ⟨⟨c + 1, _, by omega, by go_num, rfl, B5.out, R5.out⟩, by simp [intOf]; omega⟩
            · have hfj' : decide ((first : Int) ≤ (j : Int)) = false := by simp; omega
              have hfj2 : decide (first ≤ j) = false := by simpa using hfj
              have EO2 := EO.out.trans (if_neg hfj)
              have R2 : RowKit.Hid (wr.ownsRow w.heap.size 81 3 lw (E0 ++ edB P first wn (c + 1)).length (encE (E0 ++ edB P first wn (c + 1)))) := Lib.hid (by
                rw [KB.out, EO2, List.append_nil]; exact HR2.out)
              clear hfj EO2
              go_wp2_with fail
              exact ⟨⟨c + 1, _, by omega, by go_num, rfl, HB2.out, R2.out⟩, by simp [intOf]; omega⟩
        · obtain rfl : c = P.n := by omega
          have HFIN : RowKit.Hid (EdgesE P first cp wn w (.returned lw) wr) := Lib.hid ⟨lw, rfl, EdAt.of (by
            have h := HR2.out
            rw [HE1.out, HE0.out] at h
            exact h), HB2.out⟩
          clear HR2
          go_wp2_with fail
          go_ret
          exact HFIN.out
end Go.Proofs.Ytpcmppamkgkdlaa
