/- The versions of what is said: the row's own block is none of its members'. -/
import Derived.Test.YtpdldbapagchfaaGreatDoorQ17
import Derived.Test.YtpdldbapagchfaaGreatDoorQ18
import Derived.Test.YtpdldbapagchfaaGreatDoorQ14
set_option linter.unusedVariables false
set_option linter.unusedSimpArgs false

namespace Go.Proofs.YtpdldbapagchfaaGreatDoor
open Go.RowKit Go.Shelf Go.Maps
attribute [local go_sem] over_cell over_frozen
set_option maxRecDepth 100000 in
set_option maxHeartbeats 4000000 in
theorem versX_any (S : Nat → Prop) {w : World} {v : Value} {l : List SaidI} (h : SlOf 4 S (SaidR S) w v l) :
    Calls Tryz.prog 12 #[v] w fun e w' => ∃ v', e = .returned v' ∧ OwnX 43 6 w.heap.size VerR w' v' (versP l) ∧ Below w.heap.size w w' := by
  obtain ⟨i0, hi, hz1, hz2, hz3⟩ := info_Ver
  have HV := Lib.hid h
  obtain ⟨a, cap, rfl, -⟩ := h
  obtain ⟨n, hn⟩ : ∃ n, n = l.length := ⟨_, rfl⟩
  rw [← hn] at HV ⊢
  have N1 := Lib.hid hn
  clear hn
  go_enter Tryz.func12, Tryz.ntmps12
  go_wp2_with fail
  go_loopw [3, 4] (fun o i wr => ∃ k : Nat, k ≤ n ∧ k ≤ 10 ∧ i = .int .i64 k ∧ Below w.heap.size w wr ∧ OwnX 43 6 w.heap.size VerR wr o ((l.take k).map verP)) (fun _ i _ => 10 - (intOf i).toNat)
  case atStart => exact ⟨0, by omega, by omega, rfl, Below.refl _ _, by simpa using OwnX.nil _ _ _ _ _⟩
  case round =>
    obtain ⟨k, hk, hk10, rfl, hb, hO⟩ := hrel
    have HB := Lib.hid hb
    have HO := Lib.hid hO
    clear hb hO
    by_cases hlt : k < n
    · by_cases h10 : k < 10
      · have hlx : k < l.length := by rw [← N1.out]; exact hlt
        obtain ⟨b1, o1, cap1, cs1, e1, _, hbl, hR1, _, hg1, _⟩ := SlOf.range (by omega) (SlOf.keep (R' := SaidR S) (S' := S) (by omega) HV.out (Stay.of_below HB.out) (fun _ _ h => h.keep (Stay.of_below HB.out) (fun _ h _ => h)) (fun _ h _ => h)) hlx
        have e1' : a = some ⟨b1, o1, none⟩ := by injection e1
        clear e1
        subst e1'
        obtain ⟨x, hx⟩ : ∃ x, x = l[k] := ⟨_, rfl⟩
        rw [← hx] at hR1
        have HX := Lib.hid hx
        obtain ⟨qv, rfl, hq⟩ := hR1
        have HQ := Lib.hid hq
        obtain ⟨qa, qc, rfl, hqc, -⟩ := hq
        have HG := Lib.hid hg1
        obtain ⟨qn, hqn⟩ : ∃ qn, qn = x.fs.length := ⟨_, rfl⟩
        rw [← hqn] at HQ HG hqc
        have HQN := Lib.hid hqn
        clear hg1 hx hqn
        obtain ⟨m, hm⟩ : ∃ m, m = min qn 6 := ⟨_, rfl⟩
        have hm1 : m ≤ qn ∧ m ≤ 6 := by omega
        have hmi : min (qn : Int) 6 = (m : Int) := by omega
        have HM := Lib.hid hm
        have hmc : m ≤ qc := by omega
        clear hm
        go_wp2_with (refine wpList_load_mid rfl 61 (.tmp 19) rfl b1 (o1 + k * 4) rfl [.int .i64 x.s, .int .i64 x.n, .int .i64 x.v, .slice qa qn qc] _ HG.out Tryz.underlying61 rfl (by kernel_rfl) ?_)
        obtain ⟨W1, hW1⟩ : ∃ W1, W1 = wr.alloc (.cells #[.int .i64 x.s, .int .i64 x.n, .int .i64 x.v, .slice qa qn qc] 61) := ⟨_, rfl⟩
        rw [← hW1]
        have B1 : RowKit.Hid (Below wr.heap.size wr W1) := Lib.hid (by rw [hW1]; exact (Below.refl _ _).alloc (Nat.le_refl _) _)
        have X1 : RowKit.Hid (Blk W1 wr.heap.size #[.int .i64 x.s, .int .i64 x.n, .int .i64 x.v, .slice qa qn qc] 61) := Lib.hid (by rw [hW1]; exact Blk.new _ _ _)
        clear hW1
        have HT : RowKit.Hid (SlOf 4 S QR W1 (.slice qa m qc) (x.fs.take 6)) := Lib.hid (by
          have h1 : SlOf 4 S QR W1 (.slice qa qn qc) x.fs := HQ.out.keep (by omega) (Stay.of_below B1.out) (fun _ _ h => h) (fun _ h _ => h)
          have h2 := h1.take (k := m) (by rw [← HQN.out]; exact hm1.1)
          have h3 : x.fs.take m = x.fs.take 6 := by
            rw [HM.out]
            by_cases h6 : 6 ≤ qn
            · rw [Nat.min_eq_right h6]
            · rw [Nat.min_eq_left (by omega), HQN.out, List.take_length, List.take_of_length_le (by rw [← HQN.out]; omega)]
          rw [h3] at h2; exact h2)
        refine (made_any S HT.out (by rw [List.length_take]; omega)).mono ?_
        rintro e w2 ⟨fv, rfl, hF, hb2⟩
        have hFe : ∃ fa fn fc, fv = .slice fa fn fc := by obtain ⟨css, hr, _⟩ := hF; obtain ⟨a', c', e, _⟩ := row_cellz hr; exact ⟨a', _, c', e⟩
        obtain ⟨fa, fn, fc, rfl⟩ := hFe
        have HF := Lib.hid (hF.slB (by omega))
        have B2 : RowKit.Hid (Below wr.heap.size wr w2) := Lib.hid (B1.out.trans (hb2.mono B1.out.size))
        have X2 := Lib.hid (X1.out.below hb2 X1.out.lt)
        have Z2 := hb2.size
        have Z1 : RowKit.Hid (wr.heap.size ≤ W1.heap.size) := Lib.hid B1.out.size
        clear hb2 hF
        have x0 : w2.cell? ⟨wr.heap.size, 0, none⟩ = some (.int .i64 x.s) := X2.out.cell 0
        have x1 : w2.cell? ⟨wr.heap.size, 1, none⟩ = some (.int .i64 x.n) := X2.out.cell 1
        have x2 : w2.cell? ⟨wr.heap.size, 2, none⟩ = some (.int .i64 x.v) := X2.out.cell 2
        have x2l : wr.heap.size < w2.heap.size := X2.out.lt
        go_wp2_with fail
        refine (mod_any x.v 3 _ (by omega) (by omega)).mono ?_
        rintro e w3 ⟨rfl, rfl⟩
        obtain ⟨mk, hmk⟩ : ∃ mk : Nat, x.v % 3 = mk := ⟨(x.v % 3).toNat, by omega⟩
        have hmk3 : mk < 3 := by omega
        have hwk : IntKind.u8.wrap (97 + (mk : Int)) = ((97 + mk : Nat) : Int) := by
          have : mk = 0 ∨ mk = 1 ∨ mk = 2 := by omega
          rcases this with rfl | rfl | rfl <;> rfl
        have hwk2 : IntKind.i64.wrap (97 + (mk : Int)) = 97 + (mk : Int) := by rw [IntKind.wrap_i64]; omega
        rw [hmk]
        have HMK := Lib.hid hmk
        clear hmk
        obtain ⟨kd, hkd⟩ : ∃ kd, kd = 97 + mk := ⟨_, rfl⟩
        rw [← hkd] at hwk
        have HKD := Lib.hid hkd
        clear hkd
        have HVR : RowKit.Hid (∀ W, Below w2.heap.size w2 W → VerR (fun b => W1.heap.size ≤ b) W [.int .i64 x.s, .int .i64 x.n, .int .i64 x.v, .int .u8 kd, .int .u8 109, .slice fa fn fc] (verP x)) := Lib.hid fun W hW => by
          have e1 : (verP x).kind = kd := by unfold verP; dsimp only; rw [HMK.out, HKD.out]; omega
          refine ⟨.slice fa fn fc, ?_, FldsAt.keep HF.out (Stay.of_below hW) (fun _ h _ => h)⟩
          rw [e1]; rfl
        have HE : RowKit.Hid ((l.take (k + 1)).map verP = (l.take k).map verP ++ [verP x]) := Lib.hid (by rw [List.take_succ_eq_append_getElem hlx, List.map_append, HX.out]; rfl)
        have HO2 := Lib.hid (HO.out.below keeps_ver B2.out)
        have HOL := Lib.hid (OwnOf.lt HO.out)
        obtain ⟨css, hrow, hA, hz⟩ := HO2.out
        obtain ⟨fl, hfl⟩ : ∃ fl, fl = ((l.take k).map verP).length := ⟨_, rfl⟩
        have NL : RowKit.Hid (fl ≤ 10) := Lib.hid (by rw [hfl, List.length_map, List.length_take]; omega)
        rw [← hfl] at hrow
        have FL := Lib.hid hfl
        have HOW := Lib.hid hrow
        have HA := Lib.hid hA
        have HZ := Lib.hid hz
        have HRw := Lib.hid (HVR.out w2 (Below.refl _ _))
        clear hrow hA hz hfl
        go_wp2_with (first
          | (at_builtin; go_loud (refine wpList_append_all rfl (.tmp 35) (.tmp 45) 24 rfl w.heap.size 43 i0 _ 6 56 Tryz.underlying24 hi hz1 hz2 hz3 rfl (by omega) _ fl css.flatten rfl ((HOW.out.alloc _).alloc _) 1 [.int .i64 x.s, .int .i64 x.n, .int .i64 x.v, .int .u8 kd, .int .u8 109, .slice fa fn fc] _ rfl (src_row (row_fresh' _ (by simp) 0 _ 43 6 1 rfl (by unfold maxLen; omega) (Nat.zero_le _))) (one_ver _ _ _ _ HRw.out) (by have := NL.out; unfold maxLen; omega) (by have := NL.out; omega) (by have := HB.out.size; have := Z1.out; simp; omega) ?_)
             intro v' w4 hr4 hg4 ho4; have HR4 := Lib.hid hr4; have HG4 := Lib.hid hg4; have HO4 := Lib.hid ho4; clear hr4 hg4 ho4))
        have HL1 : w.heap.size ≤ wr.heap.size := HB.out.size
        have HL2 := Z1.out
        have HB4 : RowKit.Hid (Below w.heap.size wr w4) := Lib.hid (below_grown (((B2.out.mono HL1).alloc (by omega) _).alloc (by simp; omega) _) (by simp; omega) HG4.out (fun r e => (HOL.out r e).1))
        refine ⟨⟨k + 1, hlt, by omega, by go_num, HB.out.trans HB4.out, ?_⟩, by simp [intOf]; omega⟩
        rw [HE.out]
        exact OwnX.snoc keeps_ver (by rw [← FL.out]; exact HOW.out) HA.out HZ.out HRw.out (fun r e => by have := (HOL.out r e).2; omega) (by omega) rfl (((Below.refl _ _).alloc (Nat.le_refl _) _).alloc (by simp) _) (by rw [← FL.out]; exact HR4.out) HG4.out HO4.out
      · obtain rfl : k = 10 := by omega
        go_wp2_with fail
        go_ret
        exact ⟨_, rfl, HO.out, HB.out⟩
    · obtain rfl : k = n := by omega
      go_wp2_with fail
      go_ret
      refine ⟨_, rfl, ?_, HB.out⟩
      have h1 := HO.out
      have h2 : l.take k = l.take 10 := by rw [N1.out, List.take_length, List.take_of_length_le (by rw [← N1.out]; exact hk10)]
      rw [h2] at h1
      exact h1
end Go.Proofs.YtpdldbapagchfaaGreatDoor

/- distinct: the versions of a row are numbered anew in place. -/
namespace Go.Proofs.YtpdldbapagchfaaGreatDoor
open Go.RowKit Go.Shelf Go.Maps
attribute [local go_sem] over_cell over_frozen

def ren (k : Nat) (x : Ver) : Ver := { x with num := x.num.tmod 1000 * 16 + k }
/-- The first k are numbered anew. -/
def distTo (L : List Ver) (k : Nat) : List Ver := L.mapIdx fun i x => if i < k then ren i x else x
abbrev distP (L : List Ver) : List Ver := distTo L L.length
theorem distTo_zero (L : List Ver) : distTo L 0 = L := by
  apply List.ext_getElem?; intro j
  simp [distTo]
theorem distTo_len (L : List Ver) (k : Nat) : (distTo L k).length = L.length := by simp [distTo]
theorem distP_len (L : List Ver) : (distP L).length = L.length := distTo_len _ _
theorem distTo_get {L : List Ver} {k j : Nat} (h : j < (distTo L k).length) : (distTo L k)[j] = if j < k then ren j (L[j]'(by rw [distTo_len] at h; exact h)) else L[j]'(by rw [distTo_len] at h; exact h) := by
  simp [distTo]
theorem distTo_set {L : List Ver} {k : Nat} (h : k < L.length) : (distTo L k).set k (ren k L[k]) = distTo L (k + 1) := by
  apply List.ext_getElem
  · simp [distTo]
  · intro j h1 h2
    rw [List.getElem_set]
    simp only [distTo_get]
    by_cases e : k = j
    · subst e; simp
    · rw [if_neg e]
      by_cases e2 : j < k
      · rw [if_pos e2, if_pos (by omega)]
      · rw [if_neg e2, if_neg (by omega)]
theorem mem_distP {L : List Ver} {y : Ver} (h : y ∈ distP L) : ∃ k x, x ∈ L ∧ k < L.length ∧ y = ren k x := by
  obtain ⟨j, hj, rfl⟩ := List.mem_iff_getElem.1 h
  have hj' : j < L.length := by rw [distP_len] at hj; exact hj
  refine ⟨j, L[j], List.getElem_mem hj', hj', ?_⟩
  rw [distTo_get, if_pos hj']
theorem distP_dist {L : List Ver} (h : L.length ≤ 16) : Dist (distP L) := fun i j hi hj _ hn => by
  rw [getElem!_pos (distP L) i hi, getElem!_pos (distP L) j hj] at hn
  have hi' : i < L.length := by rw [distP_len] at hi; exact hi
  have hj' : j < L.length := by rw [distP_len] at hj; exact hj
  rw [distTo_get, distTo_get, if_pos hi', if_pos hj'] at hn
  unfold ren at hn
  dsimp only at hn
  omega
theorem LOk.dist {L : List Ver} (h : LOk L) : LOk (distP L) := by
  refine ⟨⟨by rw [distP_len]; exact h.vs.1, fun y hy => ?_⟩, fun y hy => ?_, by rw [distP_len]; exact h.few, fun y hy => ?_⟩
  all_goals obtain ⟨k, x, hx, _, rfl⟩ := mem_distP hy
  · exact h.vs.2 x hx
  · exact h.recs x hx
  · exact h.fld x hx
theorem flat_set1 {z : Nat} {css : List (List Value)} (hz : ∀ c ∈ css, c.length = z) (hp : 0 < z) {k : Nat} (hk : k < css.length) {i : Nat} (hi : i < z) (u : Value) : css.flatten.set (k * z + i) u = (css.set k (css[k].set i u)).flatten := by
  have hl := hz _ (List.getElem_mem hk)
  rw [← flat_set hz hp hk (by rw [List.length_set]; exact hl)]
  have hkz : k * z + z ≤ css.length * z := by
    have := Nat.mul_le_mul_right z hk
    rw [Nat.succ_mul] at this; exact this
  apply List.ext_getElem?; intro j
  rw [setsL_get _ _ _ _ (by rw [flat_len hz, List.length_set, hl]; exact hkz), List.length_set, hl]
  by_cases h1 : k * z ≤ j ∧ j < k * z + z
  · obtain ⟨m, rfl⟩ : ∃ m, j = k * z + m := ⟨j - k * z, by omega⟩
    have hm : m < z := by omega
    rw [if_pos h1, Nat.add_sub_cancel_left, List.getElem?_set, List.getElem?_set, flat_get hz k hk m hm, hl, flat_len hz]
    by_cases e : i = m
    · subst e
      rw [if_pos rfl, if_pos rfl, if_pos (by omega), if_pos hi]
    · rw [if_neg (by omega), if_neg e]
  · rw [if_neg h1, List.getElem?_set, if_neg (by omega)]
section
variable {T : TypeId} {B g n cap : Nat} {w : World} {L : List Ver}
/-- A member is written whole. -/
theorem OwnX.putVer (h : OwnX T 6 B VerR w (.slice (some ⟨g, 0, none⟩) n cap) L) {k : Nat} (hk : k < L.length) {cs : List Value} {x : Ver} (hc : cs.length = 6) (hx : VerR (fun b => B ≤ b ∧ b ≠ g) w cs x) :
    OwnX T 6 B VerR (w.setCells g (k * 6) cs) (.slice (some ⟨g, 0, none⟩) n cap) (L.set k x) := by
  obtain ⟨css, hr, h1, h2⟩ := h
  have hl := h1.length
  have hn : n = L.length := by obtain ⟨a, c, e, _⟩ := row_cellz hr; injection e
  have K : ∀ S : Nat → Prop, (∀ b, S b → b ≠ g) → ∀ c y, VerR S w c y → VerR (fun b => B ≤ b ∧ Value.ownBlock (.slice (some ⟨g, 0, none⟩) n cap) ≠ some b) (w.setCells g (k * 6) cs) c y → True := fun _ _ _ _ _ _ => trivial
  have k1 : ∀ c y, VerR (fun b => B ≤ b ∧ b ≠ g) w c y → VerR (fun b => B ≤ b ∧ Value.ownBlock (.slice (some ⟨g, 0, none⟩) n cap) ≠ some b) (w.setCells g (k * 6) cs) c y := fun c y hy =>
    keeps_ver _ _ _ _ _ _ hy (Stay.of_tn (tn_setCells cs (k * 6) w) fun b hb _ e => hb.2 e) (fun b hb _ => ⟨hb.1, fun e => hb.2 (by injection e with e; exact e.symm)⟩)
  have k2 : ∀ c y, VerR (fun b => B ≤ b ∧ Value.ownBlock (.slice (some ⟨g, 0, none⟩) n cap) ≠ some b) w c y → VerR (fun b => B ≤ b ∧ b ≠ g) w c y := fun c y hy =>
    keeps_ver _ _ _ _ _ _ hy (fun _ _ _ => rfl) (fun b hb _ => ⟨hb.1, fun e => hb.2 (by rw [e]; rfl)⟩)
  have hr2 := row_sets (g := g) rfl cs hr (k * 6) (by omega)
  rw [flat_set h2 (by omega) (by omega) hc] at hr2
  refine ⟨css.set k cs, by rw [List.length_set]; exact hr2, All2.of_get (by simp [hl]) fun m a b => ?_, fun d hd => ?_⟩
  · rw [List.getElem_set, List.getElem_set]
    by_cases e : k = m
    · rw [if_pos e, if_pos e]; exact k1 _ _ hx
    · rw [if_neg e, if_neg e]
      exact k1 _ _ (k2 _ _ (h1.get m (by simpa using a) (by simpa using b)))
  · rcases List.mem_or_eq_of_mem_set hd with h | h
    · exact h2 d h
    · rw [h]; exact hc
/-- A member's number is written. -/
theorem OwnX.putNum (h : OwnX T 6 B VerR w (.slice (some ⟨g, 0, none⟩) n cap) L) {k : Nat} (hk : k < L.length) (u : Int) :
    OwnX T 6 B VerR (w.setCell ⟨g, k * 6 + 2, none⟩ (.int .i64 u)) (.slice (some ⟨g, 0, none⟩) n cap) (L.set k { L[k] with num := u }) := by
  obtain ⟨css, hr, h1, h2⟩ := h
  have hl := h1.length
  have k1 : ∀ c y, VerR (fun b => B ≤ b ∧ Value.ownBlock (.slice (some ⟨g, 0, none⟩) n cap) ≠ some b) w c y → VerR (fun b => B ≤ b ∧ Value.ownBlock (.slice (some ⟨g, 0, none⟩) n cap) ≠ some b) (w.setCell ⟨g, k * 6 + 2, none⟩ (.int .i64 u)) c y := fun c y hy =>
    keeps_ver _ _ _ _ _ _ hy (Stay.of_tn (tn_setCells [.int .i64 u] (k * 6 + 2) w) fun b hb _ e => hb.2 (by rw [e]; rfl)) (fun b hb _ => hb)
  have hr2 := row_set1 (g := g) hr rfl (o := k * 6 + 2) (by omega) (.int .i64 u)
  rw [flat_set1 h2 (by omega) (by omega) (by omega)] at hr2
  refine ⟨css.set k (css[k].set 2 (.int .i64 u)), by rw [List.length_set]; exact hr2, All2.of_get (by simp [hl]) fun m a b => ?_, fun d hd => ?_⟩
  · rw [List.getElem_set, List.getElem_set]
    by_cases e : k = m
    · rw [if_pos e, if_pos e]
      obtain ⟨fv, ec, hf⟩ := k1 _ _ (h1.get k (by omega) hk)
      rw [ec]
      exact ⟨fv, rfl, hf⟩
    · rw [if_neg e, if_neg e]
      exact k1 _ _ (h1.get m (by simpa using a) (by simpa using b))
  · rcases List.mem_or_eq_of_mem_set hd with h | h
    · exact h2 d h
    · rw [h, List.length_set]; exact h2 _ (List.getElem_mem _)
/-- A member's cells. -/
theorem OwnX.range (h : OwnX T 6 B VerR w (.slice (some ⟨g, 0, none⟩) n cap) L) {k : Nat} (hk : k < L.length) : ∃ cs, VerR (fun b => B ≤ b ∧ b ≠ g) w cs L[k] ∧ cs.length = 6 ∧ w.rangeAt g (k * 6) cs ∧ w.there g (k * 6) 6 := by
  obtain ⟨b, o, c, css, e, hb, _, hR, hl, hg, ht⟩ := SlOf.range (by omega) (OwnOf.sl h) hk
  have e1 : (some ⟨g, 0, none⟩ : Option Addr) = some ⟨b, o, none⟩ := by injection e
  injection e1 with e1
  have e2 : g = b := by injection e1
  have e3 : 0 = o := by injection e1
  subst e2 e3
  rw [Nat.zero_add] at hg ht
  exact ⟨css, keeps_ver _ _ _ _ _ _ hR (fun _ _ _ => rfl) (fun b hb _ => ⟨hb.1, fun e => hb.2 (by rw [e]; rfl)⟩), hl, hg, ht⟩
theorem OwnX.head {a : Option Addr} (h : OwnX T 6 B VerR w (.slice a n cap) L) (hn : 0 < L.length) : ∃ g, a = some ⟨g, 0, none⟩ ∧ B ≤ g ∧ g < w.heap.size := by
  have hl := OwnOf.lt h
  obtain ⟨css, hr, h1, h2⟩ := h
  obtain ⟨a', c', e, hc, hm, hx, ⟨h0, _⟩ | ⟨g', rfl, e2, hb, hg, hcell⟩⟩ := row_cellz hr
  · omega
  injection e with e1 _ e3
  exact ⟨g', e1, hb, hg⟩
end
set_option maxRecDepth 100000 in
set_option maxHeartbeats 2000000 in
theorem distinct_any {B : Nat} {w : World} {v : Value} {L : List Ver} (h : OwnX 43 6 B VerR w v L) (hl : L.length ≤ 1000) :
    Calls Tryz.prog 21 #[v] w fun e w' => e = .returned v ∧ OwnX 43 6 B VerR w' v (distP L) ∧ Tn (fun b => v.ownBlock = some b) w w' := by
  obtain ⟨a, cap, rfl⟩ := h.expl
  obtain ⟨n, hn⟩ : ∃ n, n = L.length := ⟨_, rfl⟩
  have hl1 : n ≤ 1000 := by rw [hn]; exact hl
  have HV := Lib.hid h
  rw [← hn] at HV ⊢
  have N1 := Lib.hid hn
  clear hn hl h
  go_enter Tryz.func21, Tryz.ntmps21
  go_wp2_with fail
  go_loopw [6] (fun i wr => ∃ k : Nat, k ≤ n ∧ i = .int .i64 k ∧ Tn (fun b => Value.ownBlock (.slice a n cap) = some b) w wr ∧ OwnX 43 6 B VerR wr (.slice a n cap) (distTo L k)) (fun i _ => n - (intOf i).toNat)
  case atStart => exact ⟨0, by omega, rfl, Tn.refl _ _, by rw [distTo_zero]; exact HV.out⟩
  case round =>
    obtain ⟨k, hk, rfl, ht, hO⟩ := hrel
    have HT := Lib.hid ht
    have HO := Lib.hid hO
    clear ht
    by_cases hlt : k < n
    · have hlx : k < L.length := by rw [← N1.out]; exact hlt
      obtain ⟨g, rfl, hg1, hg2⟩ := hO.head (by rw [distTo_len]; omega)
      obtain ⟨cs, hR, hc6, hgr, htr⟩ := hO.range (k := k) (by rw [distTo_len]; exact hlx)
      rw [distTo_get, if_neg (by omega)] at hR
      obtain ⟨x, hx⟩ : ∃ x, x = L[k] := ⟨_, rfl⟩
      rw [← hx] at hR
      have HX := Lib.hid hx
      obtain ⟨fv, rfl, -⟩ := hR
      have p2 : wr.cell? ⟨g, k * 6 + 2, none⟩ = some (.int .i64 x.num) := hgr 2 _ rfl
      have p2f : wr.frozen? ⟨g, k * 6 + 2, none⟩ = false := (htr 2 (by omega)).2
      have t1 : x.num.tmod 1000 < 1000 := Int.tmod_lt_of_pos x.num (by decide)
      have t2 : -1000 < x.num.tmod 1000 := Int.lt_tmod_of_pos x.num (by decide)
      have w1 : IntKind.i64.wrap (x.num.tmod 1000) = x.num.tmod 1000 := by rw [IntKind.wrap_i64]; omega
      have w2 : IntKind.i64.wrap (x.num.tmod 1000 * 16) = x.num.tmod 1000 * 16 := by rw [IntKind.wrap_i64]; omega
      have w3 : IntKind.i64.wrap (x.num.tmod 1000 * 16 + (k : Int)) = x.num.tmod 1000 * 16 + (k : Int) := by rw [IntKind.wrap_i64]; omega
      clear hgr htr hx hO hc6
      go_wp2_with fail
      refine ⟨⟨k + 1, hlt, by go_num, ?_, ?_⟩, by simp [intOf]; omega⟩
      · exact HT.out.trans ((tn_setCells [.int .i64 (x.num.tmod 1000 * 16 + (k : Int))] (k * 6 + 2) wr).mono fun b h => by rw [h]; rfl)
      · rw [← distTo_set hlx]
        have h1 := HO.out.putNum (k := k) (by rw [distTo_len]; exact hlx) (x.num.tmod 1000 * 16 + (k : Int))
        rw [distTo_get, if_neg (by omega), ← HX.out] at h1
        rw [← HX.out]
        exact h1
    · obtain rfl : k = n := by omega
      go_wp2_with fail
      go_ret
      exact ⟨rfl, by rw [show distP L = distTo L k by rw [N1.out]]; exact HO.out, HT.out⟩
end Go.Proofs.YtpdldbapagchfaaGreatDoor

/- Without: the row's own block is none of its members' (printed from CF). -/
namespace Go.Proofs.YtpdldbapagchfaaGreatDoor
open Go.RowKit Go.Shelf Go.Maps
set_option maxRecDepth 100000 in
set_option maxHeartbeats 2000000 in
theorem withoutX_any (S : Nat → Prop) (s : Int) {w : World} {v : Value} {L : List Ver} (h : VersAt S w v L) (hl : VsOk L) :
    Calls Tryz.prog 19 #[v, .int .i64 s] w fun e w' => ∃ v', e = .returned v' ∧ OwnX 43 6 w.heap.size VerR w' v' (without s L) ∧ Below w.heap.size w w' := by
  obtain ⟨i0, hi, hz1, hz2, hz3⟩ := info_Ver
  have HV := Lib.hid h
  obtain ⟨a, cap, rfl, -⟩ := h
  obtain ⟨n, hn⟩ : ∃ n, n = L.length := ⟨_, rfl⟩
  have HL := Lib.hid hl
  have hl1 : n ≤ 1000 := by rw [hn]; exact hl.1
  rw [← hn] at HV ⊢
  have HN := Lib.hid hn
  clear hn hl
  go_enter Tryz.func19, Tryz.ntmps19
  go_wp2_with fail
  go_loopw [5, 10] (fun o i wr => ∃ k : Nat, k ≤ n ∧ i = .int .i64 k ∧ Below w.heap.size w wr ∧ OwnX 43 6 w.heap.size VerR wr o (without s (L.take k))) (fun _ i _ => n - (intOf i).toNat)
  case atStart => exact ⟨0, by omega, rfl, Below.refl _ _, OwnX.nil _ _ _ _ _⟩
  case round =>
    obtain ⟨k, hk, rfl, hb, hO⟩ := hrel
    have HB := Lib.hid hb
    have HO := Lib.hid hO
    clear hb hO
    by_cases hlt : k < n
    · have hlx : k < L.length := by rw [← HN.out]; exact hlt
      obtain ⟨b, o, cap2, cs, e1, hSb, hbl, hR, hcl, hrg, hth⟩ := SlOf.range (by omega) (VersAt.keep HV.out (Stay.of_below HB.out) (fun _ h _ => h)) hlx
      have e2 : a = some ⟨b, o, none⟩ := by injection e1
      clear e1 hcl hth hbl hSb
      subst e2
      have HR := Lib.hid hR
      obtain ⟨x, hx⟩ : ∃ x, x = L[k] := ⟨_, rfl⟩
      rw [← hx] at HR
      obtain ⟨fa, fn, fc, rfl⟩ := hR.expl
      rw [← hx] at hrg HR
      have HX := Lib.hid hx
      have HG := Lib.hid hrg
      clear hx hrg hR
      by_cases hs : x.r.1 = s
      · go_wp2_with (refine wpList_load_mid rfl 43 (.tmp 12) rfl b (o + k * 6) rfl [.int .i64 x.r.1, .int .i64 x.r.2, .int .i64 x.num, .int .u8 x.kind, .int .u8 x.level, .slice fa fn fc] _ HG.out Tryz.underlying43 rfl (by kernel_rfl) ?_)
        have HE : RowKit.Hid (without s (L.take (k + 1)) = without s (L.take k)) := Lib.hid (by rw [without_take s L hlx, if_neg (by rw [← HX.out]; exact fun h => h hs)]; simp)
        refine ⟨⟨k + 1, hlt, by go_num, HB.out.alloc (by have := HB.out.size; omega) _, ?_⟩, by simp [intOf]; omega⟩
        rw [HE.out]
        exact HO.out.below keeps_ver ((Below.refl _ _).alloc (Nat.le_refl _) _)
      · have hne : (x.r.1 != s) = true := by simpa using hs
        have HE : RowKit.Hid (without s (L.take (k + 1)) = without s (L.take k) ++ [x]) := Lib.hid (by rw [without_take s L hlx, if_pos (by rw [← HX.out]; exact hs), HX.out])
        have HFO : RowKit.Hid (FsOk x.fs) := Lib.hid (by rw [HX.out]; exact HL.out.2 _ (List.getElem_mem _))
        clear hs
        go_wp2_with (refine wpList_load_mid rfl 43 (.tmp 12) rfl b (o + k * 6) rfl [.int .i64 x.r.1, .int .i64 x.r.2, .int .i64 x.num, .int .u8 x.kind, .int .u8 x.level, .slice fa fn fc] _ HG.out Tryz.underlying43 rfl (by kernel_rfl) ?_)
        obtain ⟨W1, hW1⟩ : ∃ W1, W1 = wr.alloc (.cells #[.int .i64 x.r.1, .int .i64 x.r.2, .int .i64 x.num, .int .u8 x.kind, .int .u8 x.level, .slice fa fn fc] 43) := ⟨_, rfl⟩
        rw [← hW1]
        have B1 : RowKit.Hid (Below wr.heap.size wr W1) := Lib.hid (by rw [hW1]; exact (Below.refl _ _).alloc (Nat.le_refl _) _)
        clear hW1
        have HR1 := Lib.hid (HR.out.keep (Stay.of_below B1.out) (fun _ h _ => h))
        refine (own_any _ HR1.out HFO.out).mono ?_
        rintro e w3 ⟨cs', rfl, hR', hb'⟩
        have B3 := Lib.hid (B1.out.trans (hb'.mono B1.out.size))
        have HF3 : RowKit.Hid (Below w.heap.size w w3) := Lib.hid (HB.out.trans (B3.out.mono HB.out.size))
        have HO3 := Lib.hid (HO.out.below keeps_ver B3.out)
        have HOL := Lib.hid HO.out.lt
        have HR3 := Lib.hid hR'
        obtain ⟨ga, gn, gc, rfl⟩ := hR'.expl
        clear hb' hR'
        obtain ⟨css, hr, hA, hz⟩ := HO3.out
        have hm : (without s (L.take k)).length ≤ 1000 := by
          have h1 : (without s (L.take k)).length ≤ (L.take k).length := List.length_filter_le _ _
          rw [List.length_take] at h1; omega
        have HA := Lib.hid hA
        have HZ := Lib.hid hz
        have HM := Lib.hid hm
        have HOW := Lib.hid hr
        clear hA hz hr hm
        go_wp2_with (refine wpList_append_all rfl (.tmp 19) (.tmp 22) 24 rfl w.heap.size 43 i0 _ 6 56 Tryz.underlying24 hi hz1 hz2 hz3 rfl (by omega) _ (without s (L.take k)).length css.flatten rfl (HOW.out.alloc _) 1 [.int .i64 x.r.1, .int .i64 x.r.2, .int .i64 x.num, .int .u8 x.kind, .int .u8 x.level, .slice ga gn gc] _ rfl (src_row (row_fresh w3 0 _ 43 6 1 rfl (by unfold maxLen; omega) (Nat.zero_le _))) (one_ver _ _ _ _ HR3.out) (by have := HM.out; unfold maxLen; omega) (by have := HM.out; omega) (by have := HF3.out.size; simp; omega) ?_; intro v' w4 hr4 hg4 ho4; have HR4 := Lib.hid hr4; have HG4 := Lib.hid hg4; have HO4 := Lib.hid ho4; clear hr4 hg4 ho4)
        refine ⟨⟨k + 1, hlt, by go_num, below_grown (HF3.out.alloc (by have := HF3.out.size; omega) _) (by have := HF3.out.size; simp; omega) HG4.out (fun r e => (HOL.out r e).1), ?_⟩, by simp [intOf]; omega⟩
        rw [HE.out]
        exact OwnX.snoc keeps_ver HOW.out HA.out HZ.out HR3.out (fun r e => by have := (HOL.out r e).2; have := B1.out.size; omega) (by have := HB.out.size; have := B1.out.size; omega) rfl ((Below.refl _ _).alloc (Nat.le_refl _) _) HR4.out HG4.out HO4.out
    · obtain rfl : k = n := by omega
      go_wp2_with fail
      go_ret
      refine ⟨_, rfl, ?_, HB.out⟩
      have := HO.out
      rw [HN.out, List.take_length] at this
      exact this
end Go.Proofs.YtpdldbapagchfaaGreatDoor
