/- TermsClosed: the walk. -/
import Derived.Test.YtjikgoeinilnjaaM4
import Derived.Test.YtjikgoeinilnjaaMk2
namespace Go.Proofs.Ytjikgoeinilnjaa
open Go.RowKit

theorem build1 {a : Act} {w : World} {k : Tmp} {x : Int} {dst : Option Tmp} {ty : TypeId} {pos : String} {af : Array Edge} (h : a.eval (.tmp k) = .int .i64 x) :
    (execOp a.eval { dst := dst, op := Op.buildSlice 41 1 #[(0, Operand.tmp k)], type := ty, pos := pos, after := af, guard := none }).run Try.prog w = Result.ok (Next.value (Value.slice (some ⟨w.heap.size, 0, none⟩) 1 1)) (w.alloc (Obj.cells #[.int .i64 x] 3)) := by
  simp only [execOp]
  simp [h]
  kernel_rfl
attribute [local go_sem] over_cell over_frozen calm calmAt calmUpon
set_option maxRecDepth 100000 in
set_option maxHeartbeats 8000000 in
theorem closedLaw (r : Rule) (wk : Int) (a : Option Addr) (D : List Int) (cap : Nat) (n0 n1 : Int) (w : World) (h0 : 0 ≤ wk) (h1 : wk ≤ 255) (hD : U8Sl w a D) (hDl : D.length ≤ 9223372036854775807) :
    Calls Try.prog 10 #[.agg #[.int .i64 r.p, .int .i64 r.i, .int .i64 r.b, .int .i64 r.d, .int .i64 r.n, .int .i64 r.f, .int .i64 r.c], .agg #[.int .u8 wk, .slice a D.length cap], .agg #[.int .i64 n0, .int .i64 n1]] w fun e w' => e = .returned (.bool true) ∧ Below w.heap.size w w' := by
  have hb0 := below3 w (.cells #[.int .i64 r.p, .int .i64 r.i, .int .i64 r.b, .int .i64 r.d, .int .i64 r.n, .int .i64 r.f, .int .i64 r.c] 28) (.cells #[.int .u8 wk, .slice a D.length cap] 38) (.cells #[.int .i64 n0, .int .i64 n1] 50)
  have R := Lib.hid (((Blk.new w #[.int .i64 r.p, .int .i64 r.i, .int .i64 r.b, .int .i64 r.d, .int .i64 r.n, .int .i64 r.f, .int .i64 r.c] 28).alloc (.cells #[.int .u8 wk, .slice a D.length cap] 38)).alloc (.cells #[.int .i64 n0, .int .i64 n1] 50))
  have K := Lib.hid ((Blk.at_new (w := w.alloc (.cells #[.int .i64 r.p, .int .i64 r.i, .int .i64 r.b, .int .i64 r.d, .int .i64 r.n, .int .i64 r.f, .int .i64 r.c] 28)) (n := w.heap.size + 1) (by simp) #[.int .u8 wk, .slice a D.length cap] 38).alloc (.cells #[.int .i64 n0, .int .i64 n1] 50))
  have NN := Lib.hid (Blk.at_new (w := (w.alloc (.cells #[.int .i64 r.p, .int .i64 r.i, .int .i64 r.b, .int .i64 r.d, .int .i64 r.n, .int .i64 r.f, .int .i64 r.c] 28)).alloc (.cells #[.int .u8 wk, .slice a D.length cap] 38)) (n := w.heap.size + 1 + 1) (by simp) #[.int .i64 n0, .int .i64 n1] 50)
  have S := Lib.hid hb0
  have U := Lib.hid (hD.below hb0 (Nat.le_refl _))
  have HDl := Lib.hid hDl
  clear hb0 hD hDl
  obtain ⟨x, hx⟩ : ∃ x, x = n0 % 150000 - 25000 := ⟨_, rfl⟩
  have bx : -25000 ≤ x ∧ x ≤ 125000 := by omega
  have bn : 0 ≤ n1 % 80 ∧ n1 % 80 < 80 := by omega
  go_enter Try.func10, Try.ntmps10
  go_wp2_with fail
  generalize ((w.alloc (.cells #[.int .i64 r.p, .int .i64 r.i, .int .i64 r.b, .int .i64 r.d, .int .i64 r.n, .int .i64 r.f, .int .i64 r.c] 28)).alloc (.cells #[.int .u8 wk, .slice a D.length cap] 38)).alloc (.cells #[.int .i64 n0, .int .i64 n1] 50) = w0 at *
  refine (sanity_any _).mono ?_
  rintro e w1 ⟨rfl, hb⟩
  replace S := Lib.hid (S.out.trans (hb.mono S.out.size))
  replace R := Lib.hid (R.out.below hb R.out.lt)
  replace K := Lib.hid (K.out.below hb K.out.lt)
  replace NN := Lib.hid (NN.out.below hb NN.out.lt)
  replace U := Lib.hid (U.out.below hb (Nat.le_refl _))
  have Slt := Lib.hid R.out.lt
  clear hb
  have k0 : w1.cell? ⟨w.heap.size + 1, 0, none⟩ = some (.int .u8 wk) := K.out.cell 0
  have k1 : w1.cell? ⟨w.heap.size + 1, 1, none⟩ = some (.slice a D.length cap) := K.out.cell 1
  have n0' : w1.cell? ⟨w.heap.size + 1 + 1, 0, none⟩ = some (.int .i64 n0) := NN.out.cell 0
  go_wp2_with fail
  refine (day_any n0 _).mono ?_
  rintro e w' ⟨rfl, rfl⟩
  rw [← hx]
  clear hx
  go_wp2_with fail
  refine (made_fresh wk a D cap x _ h0 h1 U.out HDl.out (by omega) (by omega)).mono ?_
  rintro e w2 ⟨⟨av, cv, rfl, hI⟩, hb⟩
  have hcl := calM_len wk x D
  generalize calM wk x D = c at *
  replace S := Lib.hid (S.out.trans (hb.mono S.out.size))
  replace R := Lib.hid (R.out.below hb R.out.lt)
  replace NN := Lib.hid (NN.out.below hb NN.out.lt)
  have I := Lib.hid hI.toU
  have hlo : w.heap.size < w1.heap.size := Slt.out
  clear hb k0 k1 n0' K U hI
  have n1' : w2.cell? ⟨w.heap.size + 1 + 1, 1, none⟩ = some (.int .i64 n1) := NN.out.cell 1
  have hz := NN.out.lt
  have hz' : w.heap.size + 1 + 1 < w2.heap.size + 1 := by omega
  have hz2 : w.heap.size + 1 + 1 < (w2.alloc (.cells (c.cells av cv) 43)).heap.size := by rw [size_alloc]; exact hz'
  go_wp2_with (go_at_call 13; refine (mod_any _ _ _ (by omega) (by omega)).mono ?_; rintro e w' ⟨rfl, rfl⟩)
  obtain ⟨ex, hex⟩ : ∃ ex, ex = x + n1 % 80 := ⟨_, rfl⟩
  have bex : -25000 ≤ ex ∧ ex ≤ 125080 := by omega
  rw [← hex]
  clear hex bn
  have KB := Lib.hid ((Blk.new w2 (c.cells av cv) 43).alloc (.cells #[.bool c.b0, .bool c.b1, .bool c.b2, .bool c.b3, .bool c.b4, .bool c.b5, .bool c.b6, .slice none 0 0] 43))
  have MB := Lib.hid (Blk.at_new (w := w2.alloc (.cells (c.cells av cv) 43)) (n := w2.heap.size + 1) (by simp) #[.bool c.b0, .bool c.b1, .bool c.b2, .bool c.b3, .bool c.b4, .bool c.b5, .bool c.b6, .slice none 0 0] 43)
  replace R := Lib.hid ((R.out.alloc (.cells (c.cells av cv) 43)).alloc (.cells #[.bool c.b0, .bool c.b1, .bool c.b2, .bool c.b3, .bool c.b4, .bool c.b5, .bool c.b6, .slice none 0 0] 43))
  have hb2 := below2 w2 (.cells (c.cells av cv) 43) (.cells #[.bool c.b0, .bool c.b1, .bool c.b2, .bool c.b3, .bool c.b4, .bool c.b5, .bool c.b6, .slice none 0 0] 43)
  replace I := Lib.hid (I.out.below hb2 (Nat.le_refl _))
  have hlo3 : w.heap.size + 3 ≤ w2.heap.size := hz
  replace S := Lib.hid (S.out.trans (hb2.mono S.out.size))
  clear hb2 n1' NN hz hz' hz2
  have hB : w2.heap.size + 2 ≤ ((w2.alloc (.cells (c.cells av cv) 43)).alloc (.cells #[.bool c.b0, .bool c.b1, .bool c.b2, .bool c.b3, .bool c.b4, .bool c.b5, .bool c.b6, .slice none 0 0] 43)).heap.size := by simp
  obtain ⟨i0, hi3, hzz0, hzz1, hzz2⟩ := info_parts info3
  go_loopw [12, 13] (fun t i wr => ∃ (k : Nat) (tb : Bool) (E : List Int) (am : Option Addr) (cm : Nat), k ≤ c.days.length ∧ i = .int .i64 k ∧ t = .bool tb ∧ E.length ≤ 2 * k ∧ (∀ y ∈ c.days.take k, y ∈ E) ∧ w2.heap.size + 2 ≤ wr.heap.size ∧ Below w.heap.size w wr ∧
      Blk wr w.heap.size #[.int .i64 r.p, .int .i64 r.i, .int .i64 r.b, .int .i64 r.d, .int .i64 r.n, .int .i64 r.f, .int .i64 r.c] 28 ∧ Blk wr w2.heap.size (c.cells av cv) 43 ∧ Blk wr (w2.heap.size + 1) ((Cal.mk c.b0 c.b1 c.b2 c.b3 c.b4 c.b5 c.b6 E).cells am cm) 43 ∧ IntSlU wr w1.heap.size w2.heap.size av c.days ∧ wr.ownsRow (w2.heap.size + 2) 3 1 (.slice am E.length cm) E.length (E.map (Value.int .i64))) (fun _ i _ => c.days.length - (intOf i).toNat)
  case atStart => exact ⟨0, false, [], none, 0, by omega, rfl, rfl, by simp, by simp, hB, S.out, R.out, KB.out, MB.out, I.out, World.ownsRow_nil _ _ _ _⟩
  case round =>
    obtain ⟨k, tb, E, am, cm, hk, rfl, rfl, hEl, hE, hsz, hbl, hR, hK, hM, hI, hO⟩ := hrel
    clear S R KB MB I hB
    have S := Lib.hid hbl
    have R := Lib.hid hR
    have KB := Lib.hid hK
    have MB := Lib.hid hM
    have I := Lib.hid hI
    have O := Lib.hid hO
    have HE := Lib.hid hE
    clear hbl hR hK hM hI hO hE
    obtain ⟨y0, y1, y2, y3, y4, y5, y6, y7⟩ := calCells KB.out
    obtain ⟨u0, u1, u2, u3, u4, u5, u6, u7⟩ := calCells MB.out
    have uf := MB.out.frozen
    by_cases hlt : k < c.days.length
    · rcases I.out with h | ⟨b, o, rfl, hbL, hbU, hbs, hcell⟩
      · rw [h] at hlt; simp at hlt
      have hck := hcell k hlt
      obtain ⟨d, hd⟩ : ∃ d, d = c.days.getD k 0 := ⟨_, rfl⟩
      rw [← hd] at hck
      have HCell := Lib.hid hcell
      have HD := Lib.hid hd
      clear hd hcell
      cases tb
      · cases hge : decide (ex ≤ d)
        · go_wp2_with fail
          have hbI : (0 : Int) ≤ (k : Int) := Int.natCast_nonneg _
          have hbJ : (k : Int) < (c.days.length : Int) := by omega
          have zz1 : wr.cell? ⟨w2.heap.size, 7, none⟩ = some (.slice (some ⟨b, o, none⟩) c.days.length cv) := KB.out.cell 7
          have zz2 : wr.cell? ⟨w2.heap.size + 1, 7, none⟩ = some (.slice am E.length cm) := MB.out.cell 7
          refine wp_region_mkS (.tmp 70) 8 7 71 (.int .i64 d) #[.int .i64 d] (fun g => .slice (some ⟨g, 0, none⟩) 1 1) 3 (by kernel_rfl) (by kernel_rfl) (by simp) ?_ ?_
          · intro o ho a w ha
            simp at ho
            subst ho
            exact build1 ha
          simp only [virtS, vmoveS, vtail, Nat.reduceAdd, Nat.reduceLeDiff, Nat.reduceEqDiff, if_true, if_false]
          repeat (refine wpCalm_step (fun K hK => ?_); go_simp; refine hK _ ?_; clear hK K)
          refine wpCalm_nil ?_
          refine ⟨rfl, ?_⟩
          intro x0 g2 hg2 hB2
          have hB3 := Lib.hid hB2
          clear hB2
          have KB1 := Lib.hid (KB.out.over x0)
          have MB1 := Lib.hid (MB.out.over x0)
          have R1 := Lib.hid (R.out.over x0)
          have I1 := Lib.hid (I.out.below (below_over wr x0) (by omega : w2.heap.size ≤ wr.heap.size))
          have S1 := Lib.hid (S.out.trans (bover x0 S.out.size))
          have O1 := Lib.hid (own_ov O.out x0)
          have hs1 : w2.heap.size + 2 ≤ (over wr x0).heap.size := over_ge x0 hsz
          clear zz1 zz2
          generalize over wr x0 = wo at *
          simp only [List.drop_succ_cons, List.drop_zero]
          go_wp2_with (at_builtin; refine wpList_append_own _ rfl (.tmp 65) (.tmp 71) 41 rfl (w2.heap.size + 2) 3 i0 (.int .i64 0) 1 8 Try.underlying41 hi3 hzz0 hzz1 hzz2 rfl (by decide) _ E.length (E.map (Value.int .i64)) rfl O1.out ⟨g2, 0, none⟩ 1 1 [.int .i64 d] rfl rfl (news2 hB3.out) (one1 _) (by unfold maxLen; omega) (by omega) hs1 ?_)
          intro v' w3 hown3 hgrow hiff
          obtain ⟨gd, cd, hv'⟩ := own_some hown3
          rw [hv'] at hown3 ⊢
          have hb3 : Below (w2.heap.size + 2) wo w3 := (Below.refl _ _).grown hgrow hs1 (fun k' hk' => own_base O1.out hk')
          have uf' := (MB1.out.below hb3 (by omega)).frozen
          have u7' : w3.cell? ⟨w2.heap.size + 1, 7, none⟩ = some (.slice am E.length cm) := (MB1.out.below hb3 (by omega)).cell 7
          go_wp2_with fail
          have hON : (w3.setCell ⟨w2.heap.size + 1, 7, none⟩ (.slice (some ⟨gd, 0, none⟩) (E.length + 1) cd)).ownsRow (w2.heap.size + 2) 3 1 (.slice (some ⟨gd, 0, none⟩) (E ++ [d]).length cd) (E ++ [d]).length ((E ++ [d]).map (Value.int .i64)) := by
            refine ownsRow_setCell_below ?_ (by show w2.heap.size + 1 < w2.heap.size + 2; omega) _
            have e1 : E.length + 1 = (E ++ [d]).length := by simp
            rw [← e1, List.map_append]; exact hown3
          exact ⟨⟨k + 1, false, E ++ [d], some ⟨gd, 0, none⟩, cd, by omega, by go_num, rfl, by simp; omega, take_more hlt HD.out HE.out, by have := hb3.size; simp; omega, (S1.out.trans (hb3.mono (by omega))).setCell (by show w.heap.size ≤ w2.heap.size + 1; omega) _,
            (R1.out.below hb3 (by omega)).set_ne _ _ (by show w.heap.size ≠ w2.heap.size + 1; omega), (KB1.out.below hb3 (by omega)).set_ne _ _ (by show w2.heap.size ≠ w2.heap.size + 1; omega), ((MB1.out.below hb3 (by omega)).set 7 _).cast (by simp),
            (I1.out.below hb3 (by omega)).set _ _ (.inr (by show w2.heap.size ≤ w2.heap.size + 1; omega)), hON⟩, by simp [intOf]; omega⟩
        · cases hgt : decide (ex < d)
          · go_wp2_with fail
            have hbI : (0 : Int) ≤ (k : Int) := Int.natCast_nonneg _
            have hbJ : (k : Int) < (c.days.length : Int) := by omega
            have zz1 : wr.cell? ⟨w2.heap.size, 7, none⟩ = some (.slice (some ⟨b, o, none⟩) c.days.length cv) := KB.out.cell 7
            have zz2 : wr.cell? ⟨w2.heap.size + 1, 7, none⟩ = some (.slice am E.length cm) := MB.out.cell 7
            refine wp_region_mkS (.tmp 70) 8 7 71 (.int .i64 d) #[.int .i64 d] (fun g => .slice (some ⟨g, 0, none⟩) 1 1) 3 (by kernel_rfl) (by kernel_rfl) (by simp) ?_ ?_
            · intro o ho a w ha
              simp at ho
              subst ho
              exact build1 ha
            simp only [virtS, vmoveS, vtail, Nat.reduceAdd, Nat.reduceLeDiff, Nat.reduceEqDiff, if_true, if_false]
            repeat (refine wpCalm_step (fun K hK => ?_); go_simp; refine hK _ ?_; clear hK K)
            refine wpCalm_nil ?_
            refine ⟨rfl, ?_⟩
            intro x0 g2 hg2 hB2
            have hB3 := Lib.hid hB2
            clear hB2
            have KB1 := Lib.hid (KB.out.over x0)
            have MB1 := Lib.hid (MB.out.over x0)
            have R1 := Lib.hid (R.out.over x0)
            have I1 := Lib.hid (I.out.below (below_over wr x0) (by omega : w2.heap.size ≤ wr.heap.size))
            have S1 := Lib.hid (S.out.trans (bover x0 S.out.size))
            have O1 := Lib.hid (own_ov O.out x0)
            have hs1 : w2.heap.size + 2 ≤ (over wr x0).heap.size := over_ge x0 hsz
            clear zz1 zz2
            generalize over wr x0 = wo at *
            simp only [List.drop_succ_cons, List.drop_zero]
            go_wp2_with (at_builtin; refine wpList_append_own _ rfl (.tmp 65) (.tmp 71) 41 rfl (w2.heap.size + 2) 3 i0 (.int .i64 0) 1 8 Try.underlying41 hi3 hzz0 hzz1 hzz2 rfl (by decide) _ E.length (E.map (Value.int .i64)) rfl O1.out ⟨g2, 0, none⟩ 1 1 [.int .i64 d] rfl rfl (news2 hB3.out) (one1 _) (by unfold maxLen; omega) (by omega) hs1 ?_)
            intro v' w3 hown3 hgrow hiff
            obtain ⟨gd, cd, hv'⟩ := own_some hown3
            rw [hv'] at hown3 ⊢
            have hb3 : Below (w2.heap.size + 2) wo w3 := (Below.refl _ _).grown hgrow hs1 (fun k' hk' => own_base O1.out hk')
            have uf' := (MB1.out.below hb3 (by omega)).frozen
            have u7' : w3.cell? ⟨w2.heap.size + 1, 7, none⟩ = some (.slice am E.length cm) := (MB1.out.below hb3 (by omega)).cell 7
            go_wp2_with fail
            have hON : (w3.setCell ⟨w2.heap.size + 1, 7, none⟩ (.slice (some ⟨gd, 0, none⟩) (E.length + 1) cd)).ownsRow (w2.heap.size + 2) 3 1 (.slice (some ⟨gd, 0, none⟩) (E ++ [d]).length cd) (E ++ [d]).length ((E ++ [d]).map (Value.int .i64)) := by
              refine ownsRow_setCell_below ?_ (by show w2.heap.size + 1 < w2.heap.size + 2; omega) _
              have e1 : E.length + 1 = (E ++ [d]).length := by simp
              rw [← e1, List.map_append]; exact hown3
            exact ⟨⟨k + 1, true, E ++ [d], some ⟨gd, 0, none⟩, cd, by omega, by go_num, rfl, by simp; omega, take_more hlt HD.out HE.out, by have := hb3.size; simp; omega, (S1.out.trans (hb3.mono (by omega))).setCell (by show w.heap.size ≤ w2.heap.size + 1; omega) _,
              (R1.out.below hb3 (by omega)).set_ne _ _ (by show w.heap.size ≠ w2.heap.size + 1; omega), (KB1.out.below hb3 (by omega)).set_ne _ _ (by show w2.heap.size ≠ w2.heap.size + 1; omega), ((MB1.out.below hb3 (by omega)).set 7 _).cast (by simp),
              (I1.out.below hb3 (by omega)).set _ _ (.inr (by show w2.heap.size ≤ w2.heap.size + 1; omega)), hON⟩, by simp [intOf]; omega⟩
          · skip
            go_wp2_with (at_builtin; refine wpList_append_own _ rfl (.tmp 59) (.tmp 61) 41 rfl (w2.heap.size + 2) 3 i0 (.int .i64 0) 1 8 Try.underlying41 hi3 hzz0 hzz1 hzz2 rfl (by decide) _ E.length (E.map (Value.int .i64)) rfl (O.out.alloc _) ⟨wr.heap.size, 0, none⟩ 1 1 [.int .i64 ex] rfl rfl (news1 wr _ 3) (one1 _) (by unfold maxLen; omega) (by omega) (by simp; omega) ?_)
            intro v' wa hown' hgrow hiff
            obtain ⟨ga, ca, hv'⟩ := own_some hown'
            rw [hv'] at hown' ⊢
            have hb3 : Below (w2.heap.size + 2) wr wa := ((Below.refl _ _).alloc hsz _).grown hgrow (by simp; omega) (fun k' hk' => own_base O.out hk')
            have uf' := (MB.out.below hb3 (by omega)).frozen
            have u7' : wa.cell? ⟨w2.heap.size + 1, 7, none⟩ = some (.slice am E.length cm) := (MB.out.below hb3 (by omega)).cell 7
            go_wp2_with fail
            obtain ⟨wq, hwq⟩ : ∃ wq, wq = wa.setCell ⟨w2.heap.size + 1, 7, none⟩ (.slice (some ⟨ga, 0, none⟩) (E.length + 1) ca) := ⟨_, rfl⟩
            have hlen : E.length + 1 = (E ++ [ex]).length := by simp
            have On : RowKit.Hid (wq.ownsRow (w2.heap.size + 2) 3 1 (.slice (some ⟨ga, 0, none⟩) (E ++ [ex]).length ca) (E ++ [ex]).length ((E ++ [ex]).map (Value.int .i64))) := by
              show World.ownsRow _ _ _ _ _ _ _
              rw [hwq]
              refine ownsRow_setCell_below ?_ (by show w2.heap.size + 1 < w2.heap.size + 2; omega) _
              rw [← hlen, List.map_append]; exact hown'
            have MBn : RowKit.Hid (Blk wq (w2.heap.size + 1) ((Cal.mk c.b0 c.b1 c.b2 c.b3 c.b4 c.b5 c.b6 (E ++ [ex])).cells (some ⟨ga, 0, none⟩) ca) 43) := by
              rw [hwq]; exact ((MB.out.below hb3 (by omega)).set 7 _).cast (by simp)
            have KBn : RowKit.Hid (Blk wq w2.heap.size (c.cells (some ⟨b, o, none⟩) cv) 43) := by rw [hwq]; exact (KB.out.below hb3 (by omega)).set_ne _ _ (by show w2.heap.size ≠ w2.heap.size + 1; omega)
            have Rn : RowKit.Hid (Blk wq w.heap.size #[.int .i64 r.p, .int .i64 r.i, .int .i64 r.b, .int .i64 r.d, .int .i64 r.n, .int .i64 r.f, .int .i64 r.c] 28) := by rw [hwq]; exact (R.out.below hb3 (by omega)).set_ne _ _ (by show w.heap.size ≠ w2.heap.size + 1; omega)
            have In : RowKit.Hid (IntSlU wq w1.heap.size w2.heap.size (some ⟨b, o, none⟩) c.days) := by rw [hwq]; exact (I.out.below hb3 (by omega)).set _ _ (.inr (by show w2.heap.size ≤ w2.heap.size + 1; omega))
            have Sn : RowKit.Hid (Below w.heap.size w wq) := by rw [hwq]; exact (S.out.trans (hb3.mono (by omega))).setCell (by show w.heap.size ≤ w2.heap.size + 1; omega) _
            have hszn : w2.heap.size + 2 ≤ wq.heap.size := by rw [hwq]; have := hb3.size; simp; omega
            have HEn := Lib.hid (show ∀ y ∈ c.days.take k, y ∈ E ++ [ex] from fun y hy => List.mem_append.2 (.inl (HE.out y hy)))
            have hckn : wq.cell? ⟨b, o + k, none⟩ = some (.int .i64 d) := by
              rw [hwq]
              exact (World.cell?_setCell_other _ _ _ _ (fun e => by injection e with e; omega)).trans ((hb3.cell (p := ⟨b, o + k, none⟩) (by show b < w2.heap.size + 2; omega)).trans hck)
            rw [← hwq]
            clear hwq hown' hgrow hiff hb3 uf' u7' O MB KB R I S HE hck y0 y1 y2 y3 y4 y5 y6 y7 u0 u1 u2 u3 u4 u5 u6 u7 uf HCell
            have O := On
            have MB := MBn
            have KB := KBn
            have R := Rn
            have I := In
            have S := Sn
            have hsz' := hszn
            have HE := HEn
            clear On MBn KBn Rn In Sn hszn HEn
            clear hsz
            have hsz := hsz'
            clear hsz'
            obtain ⟨E2, hE2⟩ : ∃ E2, E2 = E ++ [ex] := ⟨_, rfl⟩
            rw [← hE2] at O MB HE
            have hEl2 : E2.length ≤ 2 * k + 1 := by rw [hE2]; simp; omega
            clear hE2 hlen hEl
            have hEl := hEl2
            clear hEl2
            have hbI : (0 : Int) ≤ (k : Int) := Int.natCast_nonneg _
            have hbJ : (k : Int) < (c.days.length : Int) := by omega
            have zz1 : wq.cell? ⟨w2.heap.size, 7, none⟩ = some (.slice (some ⟨b, o, none⟩) c.days.length cv) := KB.out.cell 7
            have zz2 : wq.cell? ⟨w2.heap.size + 1, 7, none⟩ = some (.slice (some ⟨ga, 0, none⟩) E2.length ca) := MB.out.cell 7
            refine wp_region_mkS (.tmp 70) 8 7 71 (.int .i64 d) #[.int .i64 d] (fun g => .slice (some ⟨g, 0, none⟩) 1 1) 3 (by kernel_rfl) (by kernel_rfl) (by simp) ?_ ?_
            · intro o ho a w ha
              simp at ho
              subst ho
              exact build1 ha
            simp only [virtS, vmoveS, vtail, Nat.reduceAdd, Nat.reduceLeDiff, Nat.reduceEqDiff, if_true, if_false]
            repeat (refine wpCalm_step (fun K hK => ?_); go_simp; refine hK _ ?_; clear hK K)
            refine wpCalm_nil ?_
            refine ⟨rfl, ?_⟩
            intro x0 g2 hg2 hB2
            have hB3 := Lib.hid hB2
            clear hB2
            have KB1 := Lib.hid (KB.out.over x0)
            have MB1 := Lib.hid (MB.out.over x0)
            have R1 := Lib.hid (R.out.over x0)
            have I1 := Lib.hid (I.out.below (below_over wq x0) (by omega : w2.heap.size ≤ wq.heap.size))
            have S1 := Lib.hid (S.out.trans (bover x0 S.out.size))
            have O1 := Lib.hid (own_ov O.out x0)
            have hs1 : w2.heap.size + 2 ≤ (over wq x0).heap.size := over_ge x0 hsz
            clear zz1 zz2
            generalize over wq x0 = wo at *
            simp only [List.drop_succ_cons, List.drop_zero]
            go_wp2_with (at_builtin; refine wpList_append_own _ rfl (.tmp 65) (.tmp 71) 41 rfl (w2.heap.size + 2) 3 i0 (.int .i64 0) 1 8 Try.underlying41 hi3 hzz0 hzz1 hzz2 rfl (by decide) _ E2.length (E2.map (Value.int .i64)) rfl O1.out ⟨g2, 0, none⟩ 1 1 [.int .i64 d] rfl rfl (news2 hB3.out) (one1 _) (by unfold maxLen; omega) (by omega) hs1 ?_)
            intro v' w3 hown3 hgrow hiff
            obtain ⟨gd, cd, hv'⟩ := own_some hown3
            rw [hv'] at hown3 ⊢
            have hb3 : Below (w2.heap.size + 2) wo w3 := (Below.refl _ _).grown hgrow hs1 (fun k' hk' => own_base O1.out hk')
            have uf' := (MB1.out.below hb3 (by omega)).frozen
            have u7' : w3.cell? ⟨w2.heap.size + 1, 7, none⟩ = some (.slice (some ⟨ga, 0, none⟩) E2.length ca) := (MB1.out.below hb3 (by omega)).cell 7
            go_wp2_with fail
            have hON : (w3.setCell ⟨w2.heap.size + 1, 7, none⟩ (.slice (some ⟨gd, 0, none⟩) (E2.length + 1) cd)).ownsRow (w2.heap.size + 2) 3 1 (.slice (some ⟨gd, 0, none⟩) (E2 ++ [d]).length cd) (E2 ++ [d]).length ((E2 ++ [d]).map (Value.int .i64)) := by
              refine ownsRow_setCell_below ?_ (by show w2.heap.size + 1 < w2.heap.size + 2; omega) _
              have e1 : E2.length + 1 = (E2 ++ [d]).length := by simp
              rw [← e1, List.map_append]; exact hown3
            exact ⟨⟨k + 1, true, E2 ++ [d], some ⟨gd, 0, none⟩, cd, by omega, by go_num, rfl, by simp; omega, take_more hlt HD.out HE.out, by have := hb3.size; simp; omega, (S1.out.trans (hb3.mono (by omega))).setCell (by show w.heap.size ≤ w2.heap.size + 1; omega) _,
              (R1.out.below hb3 (by omega)).set_ne _ _ (by show w.heap.size ≠ w2.heap.size + 1; omega), (KB1.out.below hb3 (by omega)).set_ne _ _ (by show w2.heap.size ≠ w2.heap.size + 1; omega), ((MB1.out.below hb3 (by omega)).set 7 _).cast (by simp),
              (I1.out.below hb3 (by omega)).set _ _ (.inr (by show w2.heap.size ≤ w2.heap.size + 1; omega)), hON⟩, by simp [intOf]; omega⟩
      · go_wp2_with fail
        have hbI : (0 : Int) ≤ (k : Int) := Int.natCast_nonneg _
        have hbJ : (k : Int) < (c.days.length : Int) := by omega
        have zz1 : wr.cell? ⟨w2.heap.size, 7, none⟩ = some (.slice (some ⟨b, o, none⟩) c.days.length cv) := KB.out.cell 7
        have zz2 : wr.cell? ⟨w2.heap.size + 1, 7, none⟩ = some (.slice am E.length cm) := MB.out.cell 7
        refine wp_region_mkS (.tmp 70) 8 7 71 (.int .i64 d) #[.int .i64 d] (fun g => .slice (some ⟨g, 0, none⟩) 1 1) 3 (by kernel_rfl) (by kernel_rfl) (by simp) ?_ ?_
        · intro o ho a w ha
          simp at ho
          subst ho
          exact build1 ha
        simp only [virtS, vmoveS, vtail, Nat.reduceAdd, Nat.reduceLeDiff, Nat.reduceEqDiff, if_true, if_false]
        repeat (refine wpCalm_step (fun K hK => ?_); go_simp; refine hK _ ?_; clear hK K)
        refine wpCalm_nil ?_
        refine ⟨rfl, ?_⟩
        intro x0 g2 hg2 hB2
        have hB3 := Lib.hid hB2
        clear hB2
        have KB1 := Lib.hid (KB.out.over x0)
        have MB1 := Lib.hid (MB.out.over x0)
        have R1 := Lib.hid (R.out.over x0)
        have I1 := Lib.hid (I.out.below (below_over wr x0) (by omega : w2.heap.size ≤ wr.heap.size))
        have S1 := Lib.hid (S.out.trans (bover x0 S.out.size))
        have O1 := Lib.hid (own_ov O.out x0)
        have hs1 : w2.heap.size + 2 ≤ (over wr x0).heap.size := over_ge x0 hsz
        clear zz1 zz2
        generalize over wr x0 = wo at *
        simp only [List.drop_succ_cons, List.drop_zero]
        go_wp2_with (at_builtin; refine wpList_append_own _ rfl (.tmp 65) (.tmp 71) 41 rfl (w2.heap.size + 2) 3 i0 (.int .i64 0) 1 8 Try.underlying41 hi3 hzz0 hzz1 hzz2 rfl (by decide) _ E.length (E.map (Value.int .i64)) rfl O1.out ⟨g2, 0, none⟩ 1 1 [.int .i64 d] rfl rfl (news2 hB3.out) (one1 _) (by unfold maxLen; omega) (by omega) hs1 ?_)
        intro v' w3 hown3 hgrow hiff
        obtain ⟨gd, cd, hv'⟩ := own_some hown3
        rw [hv'] at hown3 ⊢
        have hb3 : Below (w2.heap.size + 2) wo w3 := (Below.refl _ _).grown hgrow hs1 (fun k' hk' => own_base O1.out hk')
        have uf' := (MB1.out.below hb3 (by omega)).frozen
        have u7' : w3.cell? ⟨w2.heap.size + 1, 7, none⟩ = some (.slice am E.length cm) := (MB1.out.below hb3 (by omega)).cell 7
        go_wp2_with fail
        have hON : (w3.setCell ⟨w2.heap.size + 1, 7, none⟩ (.slice (some ⟨gd, 0, none⟩) (E.length + 1) cd)).ownsRow (w2.heap.size + 2) 3 1 (.slice (some ⟨gd, 0, none⟩) (E ++ [d]).length cd) (E ++ [d]).length ((E ++ [d]).map (Value.int .i64)) := by
          refine ownsRow_setCell_below ?_ (by show w2.heap.size + 1 < w2.heap.size + 2; omega) _
          have e1 : E.length + 1 = (E ++ [d]).length := by simp
          rw [← e1, List.map_append]; exact hown3
        exact ⟨⟨k + 1, true, E ++ [d], some ⟨gd, 0, none⟩, cd, by omega, by go_num, rfl, by simp; omega, take_more hlt HD.out HE.out, by have := hb3.size; simp; omega, (S1.out.trans (hb3.mono (by omega))).setCell (by show w.heap.size ≤ w2.heap.size + 1; omega) _,
          (R1.out.below hb3 (by omega)).set_ne _ _ (by show w.heap.size ≠ w2.heap.size + 1; omega), (KB1.out.below hb3 (by omega)).set_ne _ _ (by show w2.heap.size ≠ w2.heap.size + 1; omega), ((MB1.out.below hb3 (by omega)).set 7 _).cast (by simp),
          (I1.out.below hb3 (by omega)).set _ _ (.inr (by show w2.heap.size ≤ w2.heap.size + 1; omega)), hON⟩, by simp [intOf]; omega⟩
    · obtain rfl : k = c.days.length := by omega
      replace HE := Lib.hid (show ∀ y ∈ c.days, y ∈ E by have := HE.out; rwa [List.take_length] at this)
      cases tb
      · skip
        go_wp2_with (at_builtin; refine wpList_append_own _ rfl (.tmp 77) (.tmp 79) 41 rfl (w2.heap.size + 2) 3 i0 (.int .i64 0) 1 8 Try.underlying41 hi3 hzz0 hzz1 hzz2 rfl (by decide) _ E.length (E.map (Value.int .i64)) rfl (O.out.alloc _) ⟨wr.heap.size, 0, none⟩ 1 1 [.int .i64 ex] rfl rfl (news1 wr _ 3) (one1 _) (by unfold maxLen; omega) (by omega) (by simp; omega) ?_)
        intro v' wa hown' hgrow hiff
        obtain ⟨ga, ca, hv'⟩ := own_some hown'
        rw [hv'] at hown' ⊢
        have hb3 : Below (w2.heap.size + 2) wr wa := ((Below.refl _ _).alloc hsz _).grown hgrow (by simp; omega) (fun k' hk' => own_base O.out hk')
        have uf' := (MB.out.below hb3 (by omega)).frozen
        have u7' : wa.cell? ⟨w2.heap.size + 1, 7, none⟩ = some (.slice am E.length cm) := (MB.out.below hb3 (by omega)).cell 7
        obtain ⟨q0, q1, q2, q3, q4, q5, q6⟩ := ruleCells (R.out.below hb3 (by omega : w.heap.size < w2.heap.size + 2))
        have qf := (R.out.below hb3 (by omega : w.heap.size < w2.heap.size + 2)).frozen
        have m0 : 0 ≤ r.d % 60 ∧ r.d % 60 < 60 := by omega
        have m1 : 0 ≤ r.f % 100 ∧ r.f % 100 < 100 := by omega
        have m2 : 0 ≤ r.c % 5000 ∧ r.c % 5000 < 5000 := by omega
        have hne1 : ¬ w.heap.size = w2.heap.size + 1 := by omega
        obtain ⟨z0, z1, z2, z3, z4, z5, z6, z7⟩ := calCells (KB.out.below hb3 (by omega : w2.heap.size < w2.heap.size + 2))
        go_wp2_with (go_at_call 13; refine (mod_any _ _ _ (by omega) (by omega)).mono ?_; rintro e w' ⟨rfl, rfl⟩)
        obtain ⟨wq, hwq⟩ : ∃ wq, wq = wa.setCell ⟨w2.heap.size + 1, 7, none⟩ (.slice (some ⟨ga, 0, none⟩) (E.length + 1) ca) := ⟨_, rfl⟩
        have hlen : E.length + 1 = (E ++ [ex]).length := by simp
        have On : RowKit.Hid (wq.ownsRow (w2.heap.size + 2) 3 1 (.slice (some ⟨ga, 0, none⟩) (E ++ [ex]).length ca) (E ++ [ex]).length ((E ++ [ex]).map (Value.int .i64))) := by
          show World.ownsRow _ _ _ _ _ _ _
          rw [hwq]
          refine ownsRow_setCell_below ?_ (by show w2.heap.size + 1 < w2.heap.size + 2; omega) _
          rw [← hlen, List.map_append]; exact hown'
        have MBn : RowKit.Hid (Blk wq (w2.heap.size + 1) ((Cal.mk c.b0 c.b1 c.b2 c.b3 c.b4 c.b5 c.b6 (E ++ [ex])).cells (some ⟨ga, 0, none⟩) ca) 43) := by
          rw [hwq]; exact ((MB.out.below hb3 (by omega)).set 7 _).cast (by simp)
        have KBn : RowKit.Hid (Blk wq w2.heap.size (c.cells av cv) 43) := by rw [hwq]; exact (KB.out.below hb3 (by omega)).set_ne _ _ (by show w2.heap.size ≠ w2.heap.size + 1; omega)
        have Rn : RowKit.Hid (Blk wq w.heap.size #[.int .i64 r.p, .int .i64 r.i, .int .i64 r.b, .int .i64 r.d, .int .i64 r.n, .int .i64 r.f, .int .i64 r.c] 28) := by rw [hwq]; exact (R.out.below hb3 (by omega)).set_ne _ _ (by show w.heap.size ≠ w2.heap.size + 1; omega)
        have In : RowKit.Hid (IntSlU wq w1.heap.size w2.heap.size av c.days) := by rw [hwq]; exact (I.out.below hb3 (by omega)).set _ _ (.inr (by show w2.heap.size ≤ w2.heap.size + 1; omega))
        have Sn : RowKit.Hid (Below w.heap.size w wq) := by rw [hwq]; exact (S.out.trans (hb3.mono (by omega))).setCell (by show w.heap.size ≤ w2.heap.size + 1; omega) _
        have hszn : w2.heap.size + 2 ≤ wq.heap.size := by rw [hwq]; have := hb3.size; simp; omega
        have HEn := Lib.hid (show ∀ y ∈ c.days, y ∈ E ++ [ex] from fun y hy => List.mem_append.2 (.inl (HE.out y hy)))
        rw [← hwq]
        clear hwq hown' hgrow hiff hb3 uf' u7' O MB KB R I S HE y0 y1 y2 y3 y4 y5 y6 y7 u0 u1 u2 u3 u4 u5 u6 u7 uf z0 z1 z2 z3 z4 z5 z6 z7
        have O := On
        have MB := MBn
        have KB := KBn
        have R := Rn
        have I := In
        have S := Sn
        have hsz' := hszn
        have HE := HEn
        clear On MBn KBn Rn In Sn hszn HEn
        clear hsz
        have hsz := hsz'
        clear hsz'
        obtain ⟨E2, hE2⟩ : ∃ E2, E2 = E ++ [ex] := ⟨_, rfl⟩
        rw [← hE2] at O MB HE
        have hEl2 : E2.length ≤ 61 := by rw [hE2]; simp; omega
        clear hE2 hlen hEl
        clear q0 q1 q2 q3 q4 q5 q6 qf hne1
        have IE := Lib.hid ((((own_ints O.out rfl).setLow ⟨w.heap.size, 3, none⟩ (.int .i64 (r.d % 60)) (by show w.heap.size < w2.heap.size + 2; omega)).setLow ⟨w.heap.size, 5, none⟩ (.int .i64 (r.f % 100)) (by show w.heap.size < w2.heap.size + 2; omega)).setLow ⟨w.heap.size, 6, none⟩ (.int .i64 (r.c % 5000)) (by show w.heap.size < w2.heap.size + 2; omega)).toSl
        replace R := Lib.hid (set356 (x := .int .i64 (r.d % 60)) (y := .int .i64 (r.f % 100)) (z := .int .i64 (r.c % 5000)) R.out)
        replace KB := Lib.hid (((KB.out.set_ne ⟨w.heap.size, 3, none⟩ (.int .i64 (r.d % 60)) (by show w2.heap.size ≠ w.heap.size; omega)).set_ne ⟨w.heap.size, 5, none⟩ (.int .i64 (r.f % 100)) (by show w2.heap.size ≠ w.heap.size; omega)).set_ne ⟨w.heap.size, 6, none⟩ (.int .i64 (r.c % 5000)) (by show w2.heap.size ≠ w.heap.size; omega))
        replace MB := Lib.hid (((MB.out.set_ne ⟨w.heap.size, 3, none⟩ (.int .i64 (r.d % 60)) (by show w2.heap.size + 1 ≠ w.heap.size; omega)).set_ne ⟨w.heap.size, 5, none⟩ (.int .i64 (r.f % 100)) (by show w2.heap.size + 1 ≠ w.heap.size; omega)).set_ne ⟨w.heap.size, 6, none⟩ (.int .i64 (r.c % 5000)) (by show w2.heap.size + 1 ≠ w.heap.size; omega))
        replace I := Lib.hid (((I.out.set ⟨w.heap.size, 3, none⟩ (.int .i64 (r.d % 60)) (.inl hlo)).set ⟨w.heap.size, 5, none⟩ (.int .i64 (r.f % 100)) (.inl hlo)).set ⟨w.heap.size, 6, none⟩ (.int .i64 (r.c % 5000)) (.inl hlo)).toSl
        replace S := Lib.hid (((S.out.setCell (p := ⟨w.heap.size, 3, none⟩) (Nat.le_refl _) (.int .i64 (r.d % 60))).setCell (p := ⟨w.heap.size, 5, none⟩) (Nat.le_refl _) (.int .i64 (r.f % 100))).setCell (p := ⟨w.heap.size, 6, none⟩) (Nat.le_refl _) (.int .i64 (r.c % 5000)))
        clear O
        obtain ⟨W, hW⟩ : ∃ W, W = ((wq.setCell ⟨w.heap.size, 3, none⟩ (.int .i64 (r.d % 60))).setCell ⟨w.heap.size, 5, none⟩ (.int .i64 (r.f % 100))).setCell ⟨w.heap.size, 6, none⟩ (.int .i64 (r.c % 5000)) := ⟨_, rfl⟩
        rw [← hW] at IE R KB MB I S
        change Calls _ _ _ (((wq.setCell ⟨w.heap.size, 3, none⟩ (.int .i64 (r.d % 60))).setCell ⟨w.heap.size, 5, none⟩ (.int .i64 (r.f % 100))).setCell ⟨w.heap.size, 6, none⟩ (.int .i64 (r.c % 5000))) _
        rw [← hW]
        clear hW
        obtain ⟨s, hs⟩ : ∃ s : Rule, s = ⟨r.p, r.i, r.b, r.d % 60, r.n, r.f % 100, r.c % 5000⟩ := ⟨_, rfl⟩
        obtain ⟨c', hc'⟩ : ∃ c' : Cal, c' = Cal.mk c.b0 c.b1 c.b2 c.b3 c.b4 c.b5 c.b6 E2 := ⟨_, rfl⟩
        have hsup : c.sup c' := by rw [hc']; exact ⟨fun i => rfl, HE.out⟩
        have hcl' : c'.days.length ≤ 61 := by rw [hc']; show E2.length ≤ 61; omega
        have IE' : RowKit.Hid (IntSl W (some ⟨ga, 0, none⟩) c'.days) := by rw [hc']; exact IE.out
        have MB' : RowKit.Hid (Blk W (w2.heap.size + 1) (c'.cells (some ⟨ga, 0, none⟩) ca) 43) := by rw [hc']; exact MB.out
        obtain ⟨⟨p1, b1⟩, hp1⟩ : ∃ q, dueS s c x = q := ⟨_, rfl⟩
        obtain ⟨⟨p2, b2⟩, hp2⟩ : ∃ q, dueS s c' x = q := ⟨_, rfl⟩
        obtain ⟨F1, hF1⟩ : ∃ q, fineS s c x (x + 90) = q := ⟨_, rfl⟩
        obtain ⟨F2, hF2⟩ : ∃ q, fineS s c' x (x + 90) = q := ⟨_, rfl⟩
        have hsd : 0 ≤ s.d ∧ s.d < 60 := by rw [hs]; exact m0
        have hsf : 0 ≤ s.f := by rw [hs]; exact m1.1
        have hsc : s.c ≤ 9223372036854775807 := by rw [hs]; show r.c % 5000 ≤ _; omega
        have hle : decide (F2 ≤ F1) = true := by rw [← hF1, ← hF2]; simpa using sup_fine hsup hsf x (x + 90)
        have hdue : b2 = true → b1 = true ∧ p1 ≤ p2 := by
          intro hb
          subst hb
          have h1 := hp1
          have h2 := hp2
          rw [dueS_3 (by omega) (by omega)] at h1 h2
          exact sup_next hsup h2 h1 (by omega)
        have HP1 := Lib.hid hp1
        have HP2 := Lib.hid hp2
        have HF1 := Lib.hid hF1
        have HF2 := Lib.hid hF2
        have HS := Lib.hid hs
        have HDU := Lib.hid hdue
        have HSC := Lib.hid hsc
        have R' : RowKit.Hid (Blk W w.heap.size (rvs s) 28) := by rw [hs]; exact R.out
        clear hp1 hp2 hF1 hF2 hs hdue hsc R MB IE hc' hsup HE m1 m2 hsd hsf
        refine (due_val (r := ⟨r.p, r.i, r.b, r.d % 60, r.n, r.f % 100, r.c % 5000⟩) (c := c) (p := p1) (q := b1) I.out (by omega) (by omega) (by omega) (by rw [← HS.out]; exact HP1.out)).mono ?_
        rintro e W3 ⟨rfl, hb⟩
        replace S := Lib.hid (S.out.trans (hb.mono S.out.size))
        replace R' := Lib.hid (R'.out.below hb R'.out.lt)
        replace KB := Lib.hid (KB.out.below hb KB.out.lt)
        replace MB' := Lib.hid (MB'.out.below hb MB'.out.lt)
        replace I := Lib.hid (I.out.below hb (Nat.le_refl _))
        replace IE' := Lib.hid (IE'.out.below hb (Nat.le_refl _))
        clear hb m0
        obtain ⟨s0, s1, s2, s3, s4, s5, s6⟩ := ruleCells R'.out
        obtain ⟨u0, u1, u2, u3, u4, u5, u6, u7⟩ := calCells MB'.out
        go_wp2_with fail
        refine (due_val (r := s) (c := c') IE'.out (by omega) (by omega) (by omega) HP2.out).mono ?_
        rintro e W4 ⟨rfl, hb⟩
        clear s0 s1 s2 s3 s4 s5 s6 u0 u1 u2 u3 u4 u5 u6 u7
        replace S := Lib.hid (S.out.trans (hb.mono S.out.size))
        replace R' := Lib.hid (R'.out.below hb R'.out.lt)
        replace KB := Lib.hid (KB.out.below hb KB.out.lt)
        replace MB' := Lib.hid (MB'.out.below hb MB'.out.lt)
        replace I := Lib.hid (I.out.below hb (Nat.le_refl _))
        replace IE' := Lib.hid (IE'.out.below hb (Nat.le_refl _))
        clear hb
        obtain ⟨s0, s1, s2, s3, s4, s5, s6⟩ := ruleCells R'.out
        obtain ⟨u0, u1, u2, u3, u4, u5, u6, u7⟩ := calCells MB'.out
        obtain ⟨y0, y1, y2, y3, y4, y5, y6, y7⟩ := calCells KB.out
        have JA := Lib.hid (show ∀ X, IntSl (over W4 X) av c.days from fun X => I.out.over X)
        have JB := Lib.hid (show ∀ X, IntSl (over W4 X) (some ⟨ga, 0, none⟩) c'.days from fun X => IE'.out.over X)
        cases b2
        · cases b1
          · skip
            go_wp2_with fail
            refine wp_region_over (by kernel_rfl) (by kernel_rfl) ?_
            repeat (go_big_quiet_step ((go_at_call 22; first | with_reducible exact inOver (fine_val (r := s) (c := c') (JB.out _) (by omega) (by omega) (by omega) (by omega) (by omega) HSC.out HF2.out) | with_reducible exact inOver (fine_val (r := s) (c := c) (JA.out _) (by omega) (by omega) (by omega) (by omega) (by omega) HSC.out HF1.out))))
            refine wpQuiet_nil ?_
            rintro _ ⟨nq, rfl⟩
            go_wp2_with fail
            go_ret
            exact ⟨rfl, S.out.trans (bover nq S.out.size)⟩
          · skip
            go_wp2_with fail
            refine wp_region_over (by kernel_rfl) (by kernel_rfl) ?_
            repeat (go_big_quiet_step ((go_at_call 22; first | with_reducible exact inOver (fine_val (r := s) (c := c') (JB.out _) (by omega) (by omega) (by omega) (by omega) (by omega) HSC.out HF2.out) | with_reducible exact inOver (fine_val (r := s) (c := c) (JA.out _) (by omega) (by omega) (by omega) (by omega) (by omega) HSC.out HF1.out))))
            refine wpQuiet_nil ?_
            rintro _ ⟨nq, rfl⟩
            go_wp2_with fail
            go_ret
            exact ⟨rfl, S.out.trans (bover nq S.out.size)⟩
        · obtain ⟨hb1, hpp⟩ := HDU.out rfl
          subst hb1
          have hpq : decide (p1 ≤ p2) = true := by simpa using hpp
          clear hpp
          go_wp2_with fail
          refine wp_region_over (by kernel_rfl) (by kernel_rfl) ?_
          repeat (go_big_quiet_step ((go_at_call 22; first | with_reducible exact inOver (fine_val (r := s) (c := c') (JB.out _) (by omega) (by omega) (by omega) (by omega) (by omega) HSC.out HF2.out) | with_reducible exact inOver (fine_val (r := s) (c := c) (JA.out _) (by omega) (by omega) (by omega) (by omega) (by omega) HSC.out HF1.out))))
          refine wpQuiet_nil ?_
          rintro _ ⟨nq, rfl⟩
          go_wp2_with fail
          go_ret
          exact ⟨rfl, S.out.trans (bover nq S.out.size)⟩
      · skip
        obtain ⟨q0, q1, q2, q3, q4, q5, q6⟩ := ruleCells R.out
        have qf := R.out.frozen
        have m0 : 0 ≤ r.d % 60 ∧ r.d % 60 < 60 := by omega
        have m1 : 0 ≤ r.f % 100 ∧ r.f % 100 < 100 := by omega
        have m2 : 0 ≤ r.c % 5000 ∧ r.c % 5000 < 5000 := by omega
        have hne1 : ¬ w.heap.size = w2.heap.size + 1 := by omega
        go_wp2_with (go_at_call 13; refine (mod_any _ _ _ (by omega) (by omega)).mono ?_; rintro e w' ⟨rfl, rfl⟩)
        clear y0 y1 y2 y3 y4 y5 y6 y7 u0 u1 u2 u3 u4 u5 u6 u7 uf
        clear q0 q1 q2 q3 q4 q5 q6 qf hne1
        have IE := Lib.hid ((((own_ints O.out rfl).setLow ⟨w.heap.size, 3, none⟩ (.int .i64 (r.d % 60)) (by show w.heap.size < w2.heap.size + 2; omega)).setLow ⟨w.heap.size, 5, none⟩ (.int .i64 (r.f % 100)) (by show w.heap.size < w2.heap.size + 2; omega)).setLow ⟨w.heap.size, 6, none⟩ (.int .i64 (r.c % 5000)) (by show w.heap.size < w2.heap.size + 2; omega)).toSl
        replace R := Lib.hid (set356 (x := .int .i64 (r.d % 60)) (y := .int .i64 (r.f % 100)) (z := .int .i64 (r.c % 5000)) R.out)
        replace KB := Lib.hid (((KB.out.set_ne ⟨w.heap.size, 3, none⟩ (.int .i64 (r.d % 60)) (by show w2.heap.size ≠ w.heap.size; omega)).set_ne ⟨w.heap.size, 5, none⟩ (.int .i64 (r.f % 100)) (by show w2.heap.size ≠ w.heap.size; omega)).set_ne ⟨w.heap.size, 6, none⟩ (.int .i64 (r.c % 5000)) (by show w2.heap.size ≠ w.heap.size; omega))
        replace MB := Lib.hid (((MB.out.set_ne ⟨w.heap.size, 3, none⟩ (.int .i64 (r.d % 60)) (by show w2.heap.size + 1 ≠ w.heap.size; omega)).set_ne ⟨w.heap.size, 5, none⟩ (.int .i64 (r.f % 100)) (by show w2.heap.size + 1 ≠ w.heap.size; omega)).set_ne ⟨w.heap.size, 6, none⟩ (.int .i64 (r.c % 5000)) (by show w2.heap.size + 1 ≠ w.heap.size; omega))
        replace I := Lib.hid (((I.out.set ⟨w.heap.size, 3, none⟩ (.int .i64 (r.d % 60)) (.inl hlo)).set ⟨w.heap.size, 5, none⟩ (.int .i64 (r.f % 100)) (.inl hlo)).set ⟨w.heap.size, 6, none⟩ (.int .i64 (r.c % 5000)) (.inl hlo)).toSl
        replace S := Lib.hid (((S.out.setCell (p := ⟨w.heap.size, 3, none⟩) (Nat.le_refl _) (.int .i64 (r.d % 60))).setCell (p := ⟨w.heap.size, 5, none⟩) (Nat.le_refl _) (.int .i64 (r.f % 100))).setCell (p := ⟨w.heap.size, 6, none⟩) (Nat.le_refl _) (.int .i64 (r.c % 5000)))
        clear O
        obtain ⟨W, hW⟩ : ∃ W, W = ((wr.setCell ⟨w.heap.size, 3, none⟩ (.int .i64 (r.d % 60))).setCell ⟨w.heap.size, 5, none⟩ (.int .i64 (r.f % 100))).setCell ⟨w.heap.size, 6, none⟩ (.int .i64 (r.c % 5000)) := ⟨_, rfl⟩
        rw [← hW] at IE R KB MB I S
        change Calls _ _ _ (((wr.setCell ⟨w.heap.size, 3, none⟩ (.int .i64 (r.d % 60))).setCell ⟨w.heap.size, 5, none⟩ (.int .i64 (r.f % 100))).setCell ⟨w.heap.size, 6, none⟩ (.int .i64 (r.c % 5000))) _
        rw [← hW]
        clear hW
        obtain ⟨s, hs⟩ : ∃ s : Rule, s = ⟨r.p, r.i, r.b, r.d % 60, r.n, r.f % 100, r.c % 5000⟩ := ⟨_, rfl⟩
        obtain ⟨c', hc'⟩ : ∃ c' : Cal, c' = Cal.mk c.b0 c.b1 c.b2 c.b3 c.b4 c.b5 c.b6 E := ⟨_, rfl⟩
        have hsup : c.sup c' := by rw [hc']; exact ⟨fun i => rfl, HE.out⟩
        have hcl' : c'.days.length ≤ 61 := by rw [hc']; show E.length ≤ 61; omega
        have IE' : RowKit.Hid (IntSl W am c'.days) := by rw [hc']; exact IE.out
        have MB' : RowKit.Hid (Blk W (w2.heap.size + 1) (c'.cells am cm) 43) := by rw [hc']; exact MB.out
        obtain ⟨⟨p1, b1⟩, hp1⟩ : ∃ q, dueS s c x = q := ⟨_, rfl⟩
        obtain ⟨⟨p2, b2⟩, hp2⟩ : ∃ q, dueS s c' x = q := ⟨_, rfl⟩
        obtain ⟨F1, hF1⟩ : ∃ q, fineS s c x (x + 90) = q := ⟨_, rfl⟩
        obtain ⟨F2, hF2⟩ : ∃ q, fineS s c' x (x + 90) = q := ⟨_, rfl⟩
        have hsd : 0 ≤ s.d ∧ s.d < 60 := by rw [hs]; exact m0
        have hsf : 0 ≤ s.f := by rw [hs]; exact m1.1
        have hsc : s.c ≤ 9223372036854775807 := by rw [hs]; show r.c % 5000 ≤ _; omega
        have hle : decide (F2 ≤ F1) = true := by rw [← hF1, ← hF2]; simpa using sup_fine hsup hsf x (x + 90)
        have hdue : b2 = true → b1 = true ∧ p1 ≤ p2 := by
          intro hb
          subst hb
          have h1 := hp1
          have h2 := hp2
          rw [dueS_3 (by omega) (by omega)] at h1 h2
          exact sup_next hsup h2 h1 (by omega)
        have HP1 := Lib.hid hp1
        have HP2 := Lib.hid hp2
        have HF1 := Lib.hid hF1
        have HF2 := Lib.hid hF2
        have HS := Lib.hid hs
        have HDU := Lib.hid hdue
        have HSC := Lib.hid hsc
        have R' : RowKit.Hid (Blk W w.heap.size (rvs s) 28) := by rw [hs]; exact R.out
        clear hp1 hp2 hF1 hF2 hs hdue hsc R MB IE hc' hsup HE m1 m2 hsd hsf
        refine (due_val (r := ⟨r.p, r.i, r.b, r.d % 60, r.n, r.f % 100, r.c % 5000⟩) (c := c) (p := p1) (q := b1) I.out (by omega) (by omega) (by omega) (by rw [← HS.out]; exact HP1.out)).mono ?_
        rintro e W3 ⟨rfl, hb⟩
        replace S := Lib.hid (S.out.trans (hb.mono S.out.size))
        replace R' := Lib.hid (R'.out.below hb R'.out.lt)
        replace KB := Lib.hid (KB.out.below hb KB.out.lt)
        replace MB' := Lib.hid (MB'.out.below hb MB'.out.lt)
        replace I := Lib.hid (I.out.below hb (Nat.le_refl _))
        replace IE' := Lib.hid (IE'.out.below hb (Nat.le_refl _))
        clear hb m0
        obtain ⟨s0, s1, s2, s3, s4, s5, s6⟩ := ruleCells R'.out
        obtain ⟨u0, u1, u2, u3, u4, u5, u6, u7⟩ := calCells MB'.out
        go_wp2_with fail
        refine (due_val (r := s) (c := c') IE'.out (by omega) (by omega) (by omega) HP2.out).mono ?_
        rintro e W4 ⟨rfl, hb⟩
        clear s0 s1 s2 s3 s4 s5 s6 u0 u1 u2 u3 u4 u5 u6 u7
        replace S := Lib.hid (S.out.trans (hb.mono S.out.size))
        replace R' := Lib.hid (R'.out.below hb R'.out.lt)
        replace KB := Lib.hid (KB.out.below hb KB.out.lt)
        replace MB' := Lib.hid (MB'.out.below hb MB'.out.lt)
        replace I := Lib.hid (I.out.below hb (Nat.le_refl _))
        replace IE' := Lib.hid (IE'.out.below hb (Nat.le_refl _))
        clear hb
        obtain ⟨s0, s1, s2, s3, s4, s5, s6⟩ := ruleCells R'.out
        obtain ⟨u0, u1, u2, u3, u4, u5, u6, u7⟩ := calCells MB'.out
        obtain ⟨y0, y1, y2, y3, y4, y5, y6, y7⟩ := calCells KB.out
        have JA := Lib.hid (show ∀ X, IntSl (over W4 X) av c.days from fun X => I.out.over X)
        have JB := Lib.hid (show ∀ X, IntSl (over W4 X) am c'.days from fun X => IE'.out.over X)
        cases b2
        · cases b1
          · skip
            go_wp2_with fail
            refine wp_region_over (by kernel_rfl) (by kernel_rfl) ?_
            repeat (go_big_quiet_step ((go_at_call 22; first | with_reducible exact inOver (fine_val (r := s) (c := c') (JB.out _) (by omega) (by omega) (by omega) (by omega) (by omega) HSC.out HF2.out) | with_reducible exact inOver (fine_val (r := s) (c := c) (JA.out _) (by omega) (by omega) (by omega) (by omega) (by omega) HSC.out HF1.out))))
            refine wpQuiet_nil ?_
            rintro _ ⟨nq, rfl⟩
            go_wp2_with fail
            go_ret
            exact ⟨rfl, S.out.trans (bover nq S.out.size)⟩
          · skip
            go_wp2_with fail
            refine wp_region_over (by kernel_rfl) (by kernel_rfl) ?_
            repeat (go_big_quiet_step ((go_at_call 22; first | with_reducible exact inOver (fine_val (r := s) (c := c') (JB.out _) (by omega) (by omega) (by omega) (by omega) (by omega) HSC.out HF2.out) | with_reducible exact inOver (fine_val (r := s) (c := c) (JA.out _) (by omega) (by omega) (by omega) (by omega) (by omega) HSC.out HF1.out))))
            refine wpQuiet_nil ?_
            rintro _ ⟨nq, rfl⟩
            go_wp2_with fail
            go_ret
            exact ⟨rfl, S.out.trans (bover nq S.out.size)⟩
        · obtain ⟨hb1, hpp⟩ := HDU.out rfl
          subst hb1
          have hpq : decide (p1 ≤ p2) = true := by simpa using hpp
          clear hpp
          go_wp2_with fail
          refine wp_region_over (by kernel_rfl) (by kernel_rfl) ?_
          repeat (go_big_quiet_step ((go_at_call 22; first | with_reducible exact inOver (fine_val (r := s) (c := c') (JB.out _) (by omega) (by omega) (by omega) (by omega) (by omega) HSC.out HF2.out) | with_reducible exact inOver (fine_val (r := s) (c := c) (JA.out _) (by omega) (by omega) (by omega) (by omega) (by omega) HSC.out HF1.out))))
          refine wpQuiet_nil ?_
          rintro _ ⟨nq, rfl⟩
          go_wp2_with fail
          go_ret
          exact ⟨rfl, S.out.trans (bover nq S.out.size)⟩
end Go.Proofs.Ytjikgoeinilnjaa
