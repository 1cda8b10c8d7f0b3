/- A slice of bytes as an argument. -/
import Derived.Test.YtpdldbapagchfaaGreatDoorQ28
import Derived.Test.YtpdldbapagchfaaGreatDoorQ17
import Derived.Test.YtpdldbapagchfaaGreatDoorQ18
import Derived.Test.YtpdldbapagchfaaGreatDoorQ08
set_option linter.unusedVariables false
set_option linter.unusedSimpArgs false

namespace Go.Proofs.YtpdldbapagchfaaGreatDoor
open Go.ChangeShapes Go.WideShapes Go.ChangeAt Go.RowKit
def U8R (_ : World) (cs : List Value) (x : Int) : Prop := cs = [.int .u8 x]
section
variable {H : Type} {enc : TypeId × Value → H} {W : World} {base : Nat} {spare : Nat → Bool} {held : Bool}
theorem u8_of (n : Nat) (cs : List Value) (y : DataW H × List MemPlace) (h : DataW.trod enc Tryz.prog W base spare held n 5 cs = some y) (_ : W.noneFrozen y.2) : ∃ r : Int, U8R W cs r ∧ (0 ≤ r ∧ r < 256) ∧ cs.length = 1 := by
  obtain ⟨k, e, _, g⟩ := DataW.trod_int Tryz.underlying5 h
  exact ⟨k, e, wf_u8 g, by rw [e]; rfl⟩
theorem u8s_of {fuel : Nat} {v : Value} {x : DataW H × List MemPlace} (h : DataW.trod enc Tryz.prog W base spare held fuel 39 [v] = some x) (hf : W.noneFrozen x.2) : ∃ L : List Int, SlOf 1 (fun _ => True) U8R W v L ∧ ∀ r ∈ L, 0 ≤ r ∧ r < 256 := by
  obtain ⟨v', L, e, h1, h2⟩ := slice_of (R := U8R) (ok := fun r : Int => 0 ≤ r ∧ r < 256) Tryz.underlying39 (z := 1) (by kernel_rfl) (by omega) u8_of h hf
  obtain rfl : v = v' := by simpa using e
  exact ⟨L, h1, h2⟩
end
end Go.Proofs.YtpdldbapagchfaaGreatDoor

/- The versions of what is said: the row's own block is none of its members'. -/
namespace Go.Proofs.YtpdldbapagchfaaGreatDoor
open Go.RowKit Go.Shelf Go.Maps
attribute [local go_sem] over_cell over_frozen
set_option maxRecDepth 100000 in
set_option maxHeartbeats 4000000 in
theorem versX_any (S : Nat → Prop) {w : World} {v : Value} {l : List SaidI} (h : SlOf 4 S (SaidR S) w v l) :
    Calls Tryz.prog 12 #[v] w fun e w' => ∃ v', e = .returned v' ∧ OwnX 43 6 w.heap.size VerR w' v' (versP l) ∧ Below w.heap.size w w' := by
  obtain ⟨i0, hi, hz1, hz2, hz3⟩ := info_Ver
  have HV := Lib.hid h
  obtain ⟨a, cap, rfl, -⟩ := h
  obtain ⟨n, hn⟩ : ∃ n, n = l.length := ⟨_, rfl⟩
  rw [← hn] at HV ⊢
  have N1 := Lib.hid hn
  clear hn
  go_enter Tryz.func12, Tryz.ntmps12
  go_wp2_with fail
  go_loopw [3, 4] (fun o i wr => ∃ k : Nat, k ≤ n ∧ k ≤ 10 ∧ i = .int .i64 k ∧ Below w.heap.size w wr ∧ OwnX 43 6 w.heap.size VerR wr o ((l.take k).map verP)) (fun _ i _ => 10 - (intOf i).toNat)
  case atStart => exact ⟨0, by omega, by omega, rfl, Below.refl _ _, by simpa using OwnX.nil _ _ _ _ _⟩
  case round =>
    obtain ⟨k, hk, hk10, rfl, hb, hO⟩ := hrel
    have HB := Lib.hid hb
    have HO := Lib.hid hO
    clear hb hO
    by_cases hlt : k < n
    · by_cases h10 : k < 10
      · have hlx : k < l.length := by rw [← N1.out]; exact hlt
        obtain ⟨b1, o1, cap1, cs1, e1, _, hbl, hR1, _, hg1, _⟩ := SlOf.range (by omega) (SlOf.keep (R' := SaidR S) (S' := S) (by omega) HV.out (Stay.of_below HB.out) (fun _ _ h => h.keep (Stay.of_below HB.out) (fun _ h _ => h)) (fun _ h _ => h)) hlx
        have e1' : a = some ⟨b1, o1, none⟩ := by injection e1
        clear e1
        subst e1'
        obtain ⟨x, hx⟩ : ∃ x, x = l[k] := ⟨_, rfl⟩
        rw [← hx] at hR1
        have HX := Lib.hid hx
        obtain ⟨qv, rfl, hq⟩ := hR1
        have HQ := Lib.hid hq
        obtain ⟨qa, qc, rfl, hqc, -⟩ := hq
        have HG := Lib.hid hg1
        obtain ⟨qn, hqn⟩ : ∃ qn, qn = x.fs.length := ⟨_, rfl⟩
        rw [← hqn] at HQ HG hqc
        have HQN := Lib.hid hqn
        clear hg1 hx hqn
        obtain ⟨m, hm⟩ : ∃ m, m = min qn 6 := ⟨_, rfl⟩
        have hm1 : m ≤ qn ∧ m ≤ 6 := by omega
        have hmi : min (qn : Int) 6 = (m : Int) := by omega
        have HM := Lib.hid hm
        have hmc : m ≤ qc := by omega
        clear hm
        go_wp2_with (refine wpList_load_mid rfl 61 (.tmp 19) rfl b1 (o1 + k * 4) rfl [.int .i64 x.s, .int .i64 x.n, .int .i64 x.v, .slice qa qn qc] _ HG.out Tryz.underlying61 rfl (by kernel_rfl) ?_)
        obtain ⟨W1, hW1⟩ : ∃ W1, W1 = wr.alloc (.cells #[.int .i64 x.s, .int .i64 x.n, .int .i64 x.v, .slice qa qn qc] 61) := ⟨_, rfl⟩
        rw [← hW1]
        have B1 : RowKit.Hid (Below wr.heap.size wr W1) := Lib.hid (by rw [hW1]; exact (Below.refl _ _).alloc (Nat.le_refl _) _)
        have X1 : RowKit.Hid (Blk W1 wr.heap.size #[.int .i64 x.s, .int .i64 x.n, .int .i64 x.v, .slice qa qn qc] 61) := Lib.hid (by rw [hW1]; exact Blk.new _ _ _)
        clear hW1
        have HT : RowKit.Hid (SlOf 4 S QR W1 (.slice qa m qc) (x.fs.take 6)) := Lib.hid (by
          have h1 : SlOf 4 S QR W1 (.slice qa qn qc) x.fs := HQ.out.keep (by omega) (Stay.of_below B1.out) (fun _ _ h => h) (fun _ h _ => h)
          have h2 := h1.take (k := m) (by rw [← HQN.out]; exact hm1.1)
          have h3 : x.fs.take m = x.fs.take 6 := by
            rw [HM.out]
            by_cases h6 : 6 ≤ qn
            · rw [Nat.min_eq_right h6]
            · rw [Nat.min_eq_left (by omega), HQN.out, List.take_length, List.take_of_length_le (by rw [← HQN.out]; omega)]
          rw [h3] at h2; exact h2)
        refine (made_any S HT.out (by rw [List.length_take]; omega)).mono ?_
        rintro e w2 ⟨fv, rfl, hF, hb2⟩
        have hFe : ∃ fa fn fc, fv = .slice fa fn fc := by obtain ⟨css, hr, _⟩ := hF; obtain ⟨a', c', e, _⟩ := row_cellz hr; exact ⟨a', _, c', e⟩
        obtain ⟨fa, fn, fc, rfl⟩ := hFe
        have HF := Lib.hid (hF.slB (by omega))
        have B2 : RowKit.Hid (Below wr.heap.size wr w2) := Lib.hid (B1.out.trans (hb2.mono B1.out.size))
        have X2 := Lib.hid (X1.out.below hb2 X1.out.lt)
        have Z2 := hb2.size
        have Z1 : RowKit.Hid (wr.heap.size ≤ W1.heap.size) := Lib.hid B1.out.size
        clear hb2 hF
        have x0 : w2.cell? ⟨wr.heap.size, 0, none⟩ = some (.int .i64 x.s) := X2.out.cell 0
        have x1 : w2.cell? ⟨wr.heap.size, 1, none⟩ = some (.int .i64 x.n) := X2.out.cell 1
        have x2 : w2.cell? ⟨wr.heap.size, 2, none⟩ = some (.int .i64 x.v) := X2.out.cell 2
        have x2l : wr.heap.size < w2.heap.size := X2.out.lt
        go_wp2_with fail
        refine (mod_any x.v 3 _ (by omega) (by omega)).mono ?_
        rintro e w3 ⟨rfl, rfl⟩
        obtain ⟨mk, hmk⟩ : ∃ mk : Nat, x.v % 3 = mk := ⟨(x.v % 3).toNat, by omega⟩
        have hmk3 : mk < 3 := by omega
        have hwk : IntKind.u8.wrap (97 + (mk : Int)) = ((97 + mk : Nat) : Int) := by
          have : mk = 0 ∨ mk = 1 ∨ mk = 2 := by omega
          rcases this with rfl | rfl | rfl <;> rfl
        have hwk2 : IntKind.i64.wrap (97 + (mk : Int)) = 97 + (mk : Int) := by rw [IntKind.wrap_i64]; omega
        rw [hmk]
        have HMK := Lib.hid hmk
        clear hmk
        obtain ⟨kd, hkd⟩ : ∃ kd, kd = 97 + mk := ⟨_, rfl⟩
        rw [← hkd] at hwk
        have HKD := Lib.hid hkd
        clear hkd
        have HVR : RowKit.Hid (∀ W, Below w2.heap.size w2 W → VerR (fun b => W1.heap.size ≤ b) W [.int .i64 x.s, .int .i64 x.n, .int .i64 x.v, .int .u8 kd, .int .u8 109, .slice fa fn fc] (verP x)) := Lib.hid fun W hW => by
          have e1 : (verP x).kind = kd := by unfold verP; dsimp only; rw [HMK.out, HKD.out]; omega
          refine ⟨.slice fa fn fc, ?_, FldsAt.keep HF.out (Stay.of_below hW) (fun _ h _ => h)⟩
          rw [e1]; rfl
        have HE : RowKit.Hid ((l.take (k + 1)).map verP = (l.take k).map verP ++ [verP x]) := Lib.hid (by rw [List.take_succ_eq_append_getElem hlx, List.map_append, HX.out]; rfl)
        have HO2 := Lib.hid (HO.out.below keeps_ver B2.out)
        have HOL := Lib.hid (OwnOf.lt HO.out)
        obtain ⟨css, hrow, hA, hz⟩ := HO2.out
        obtain ⟨fl, hfl⟩ : ∃ fl, fl = ((l.take k).map verP).length := ⟨_, rfl⟩
        have NL : RowKit.Hid (fl ≤ 10) := Lib.hid (by rw [hfl, List.length_map, List.length_take]; omega)
        rw [← hfl] at hrow
        have FL := Lib.hid hfl
        have HOW := Lib.hid hrow
        have HA := Lib.hid hA
        have HZ := Lib.hid hz
        have HRw := Lib.hid (HVR.out w2 (Below.refl _ _))
        clear hrow hA hz hfl
        go_wp2_with (first
          | (at_builtin; go_loud (refine wpList_append_all rfl (.tmp 35) (.tmp 45) 24 rfl w.heap.size 43 i0 _ 6 56 Tryz.underlying24 hi hz1 hz2 hz3 rfl (by omega) _ fl css.flatten rfl ((HOW.out.alloc _).alloc _) 1 [.int .i64 x.s, .int .i64 x.n, .int .i64 x.v, .int .u8 kd, .int .u8 109, .slice fa fn fc] _ rfl (src_row (row_fresh' _ (by simp) 0 _ 43 6 1 rfl (by unfold maxLen; omega) (Nat.zero_le _))) (one_ver _ _ _ _ HRw.out) (by have := NL.out; unfold maxLen; omega) (by have := NL.out; omega) (by have := HB.out.size; have := Z1.out; simp; omega) ?_)
             intro v' w4 hr4 hg4 ho4; have HR4 := Lib.hid hr4; have HG4 := Lib.hid hg4; have HO4 := Lib.hid ho4; clear hr4 hg4 ho4))
        have HL1 : w.heap.size ≤ wr.heap.size := HB.out.size
        have HL2 := Z1.out
        have HB4 : RowKit.Hid (Below w.heap.size wr w4) := Lib.hid (below_grown (((B2.out.mono HL1).alloc (by omega) _).alloc (by simp; omega) _) (by simp; omega) HG4.out (fun r e => (HOL.out r e).1))
        refine ⟨⟨k + 1, hlt, by omega, by go_num, HB.out.trans HB4.out, ?_⟩, by simp [intOf]; omega⟩
        rw [HE.out]
        exact OwnX.snoc keeps_ver (by rw [← FL.out]; exact HOW.out) HA.out HZ.out HRw.out (fun r e => by have := (HOL.out r e).2; omega) (by omega) rfl (((Below.refl _ _).alloc (Nat.le_refl _) _).alloc (by simp) _) (by rw [← FL.out]; exact HR4.out) HG4.out HO4.out
      · obtain rfl : k = 10 := by omega
        go_wp2_with fail
        go_ret
        exact ⟨_, rfl, HO.out, HB.out⟩
    · obtain rfl : k = n := by omega
      go_wp2_with fail
      go_ret
      refine ⟨_, rfl, ?_, HB.out⟩
      have h1 := HO.out
      have h2 : l.take k = l.take 10 := by rw [N1.out, List.take_length, List.take_of_length_le (by rw [← N1.out]; exact hk10)]
      rw [h2] at h1
      exact h1
end Go.Proofs.YtpdldbapagchfaaGreatDoor

/- distinct: the versions of a row are numbered anew in place. -/
namespace Go.Proofs.YtpdldbapagchfaaGreatDoor
open Go.RowKit Go.Shelf Go.Maps
attribute [local go_sem] over_cell over_frozen

def ren (k : Nat) (x : Ver) : Ver := { x with num := x.num.tmod 1000 * 16 + k }
/-- The first k are numbered anew. -/
def distTo (L : List Ver) (k : Nat) : List Ver := L.mapIdx fun i x => if i < k then ren i x else x
abbrev distP (L : List Ver) : List Ver := distTo L L.length
theorem distTo_zero (L : List Ver) : distTo L 0 = L := by
  apply List.ext_getElem?; intro j
  simp [distTo]
theorem distTo_len (L : List Ver) (k : Nat) : (distTo L k).length = L.length := by simp [distTo]
theorem distP_len (L : List Ver) : (distP L).length = L.length := distTo_len _ _
theorem distTo_get {L : List Ver} {k j : Nat} (h : j < (distTo L k).length) : (distTo L k)[j] = if j < k then ren j (L[j]'(by rw [distTo_len] at h; exact h)) else L[j]'(by rw [distTo_len] at h; exact h) := by
  simp [distTo]
theorem distTo_set {L : List Ver} {k : Nat} (h : k < L.length) : (distTo L k).set k (ren k L[k]) = distTo L (k + 1) := by
  apply List.ext_getElem
  · simp [distTo]
  · intro j h1 h2
    rw [List.getElem_set]
    simp only [distTo_get]
    by_cases e : k = j
    · subst e; simp
    · rw [if_neg e]
      by_cases e2 : j < k
      · rw [if_pos e2, if_pos (by omega)]
      · rw [if_neg e2, if_neg (by omega)]
theorem mem_distP {L : List Ver} {y : Ver} (h : y ∈ distP L) : ∃ k x, x ∈ L ∧ k < L.length ∧ y = ren k x := by
  obtain ⟨j, hj, rfl⟩ := List.mem_iff_getElem.1 h
  have hj' : j < L.length := by rw [distP_len] at hj; exact hj
  refine ⟨j, L[j], List.getElem_mem hj', hj', ?_⟩
  rw [distTo_get, if_pos hj']
theorem distP_dist {L : List Ver} (h : L.length ≤ 16) : Dist (distP L) := fun i j hi hj _ hn => by
  rw [getElem!_pos (distP L) i hi, getElem!_pos (distP L) j hj] at hn
  have hi' : i < L.length := by rw [distP_len] at hi; exact hi
  have hj' : j < L.length := by rw [distP_len] at hj; exact hj
  rw [distTo_get, distTo_get, if_pos hi', if_pos hj'] at hn
  unfold ren at hn
  dsimp only at hn
  omega
theorem LOk.dist {L : List Ver} (h : LOk L) : LOk (distP L) := by
  refine ⟨⟨by rw [distP_len]; exact h.vs.1, fun y hy => ?_⟩, fun y hy => ?_, by rw [distP_len]; exact h.few, fun y hy => ?_⟩
  all_goals obtain ⟨k, x, hx, _, rfl⟩ := mem_distP hy
  · exact h.vs.2 x hx
  · exact h.recs x hx
  · exact h.fld x hx
theorem flat_set1 {z : Nat} {css : List (List Value)} (hz : ∀ c ∈ css, c.length = z) (hp : 0 < z) {k : Nat} (hk : k < css.length) {i : Nat} (hi : i < z) (u : Value) : css.flatten.set (k * z + i) u = (css.set k (css[k].set i u)).flatten := by
  have hl := hz _ (List.getElem_mem hk)
  rw [← flat_set hz hp hk (by rw [List.length_set]; exact hl)]
  have hkz : k * z + z ≤ css.length * z := by
    have := Nat.mul_le_mul_right z hk
    rw [Nat.succ_mul] at this; exact this
  apply List.ext_getElem?; intro j
  rw [setsL_get _ _ _ _ (by rw [flat_len hz, List.length_set, hl]; exact hkz), List.length_set, hl]
  by_cases h1 : k * z ≤ j ∧ j < k * z + z
  · obtain ⟨m, rfl⟩ : ∃ m, j = k * z + m := ⟨j - k * z, by omega⟩
    have hm : m < z := by omega
    rw [if_pos h1, Nat.add_sub_cancel_left, List.getElem?_set, List.getElem?_set, flat_get hz k hk m hm, hl, flat_len hz]
    by_cases e : i = m
    · subst e
      rw [if_pos rfl, if_pos rfl, if_pos (by omega), if_pos hi]
    · rw [if_neg (by omega), if_neg e]
  · rw [if_neg h1, List.getElem?_set, if_neg (by omega)]
section
variable {T : TypeId} {B g n cap : Nat} {w : World} {L : List Ver}
/-- A member is written whole. -/
theorem OwnX.putVer (h : OwnX T 6 B VerR w (.slice (some ⟨g, 0, none⟩) n cap) L) {k : Nat} (hk : k < L.length) {cs : List Value} {x : Ver} (hc : cs.length = 6) (hx : VerR (fun b => B ≤ b ∧ b ≠ g) w cs x) :
    OwnX T 6 B VerR (w.setCells g (k * 6) cs) (.slice (some ⟨g, 0, none⟩) n cap) (L.set k x) := by
  obtain ⟨css, hr, h1, h2⟩ := h
  have hl := h1.length
  have hn : n = L.length := by obtain ⟨a, c, e, _⟩ := row_cellz hr; injection e
  have K : ∀ S : Nat → Prop, (∀ b, S b → b ≠ g) → ∀ c y, VerR S w c y → VerR (fun b => B ≤ b ∧ Value.ownBlock (.slice (some ⟨g, 0, none⟩) n cap) ≠ some b) (w.setCells g (k * 6) cs) c y → True := fun _ _ _ _ _ _ => trivial
  have k1 : ∀ c y, VerR (fun b => B ≤ b ∧ b ≠ g) w c y → VerR (fun b => B ≤ b ∧ Value.ownBlock (.slice (some ⟨g, 0, none⟩) n cap) ≠ some b) (w.setCells g (k * 6) cs) c y := fun c y hy =>
    keeps_ver _ _ _ _ _ _ hy (Stay.of_tn (tn_setCells cs (k * 6) w) fun b hb _ e => hb.2 e) (fun b hb _ => ⟨hb.1, fun e => hb.2 (by injection e with e; exact e.symm)⟩)
  have k2 : ∀ c y, VerR (fun b => B ≤ b ∧ Value.ownBlock (.slice (some ⟨g, 0, none⟩) n cap) ≠ some b) w c y → VerR (fun b => B ≤ b ∧ b ≠ g) w c y := fun c y hy =>
    keeps_ver _ _ _ _ _ _ hy (fun _ _ _ => rfl) (fun b hb _ => ⟨hb.1, fun e => hb.2 (by rw [e]; rfl)⟩)
  have hr2 := row_sets (g := g) rfl cs hr (k * 6) (by omega)
  rw [flat_set h2 (by omega) (by omega) hc] at hr2
  refine ⟨css.set k cs, by rw [List.length_set]; exact hr2, All2.of_get (by simp [hl]) fun m a b => ?_, fun d hd => ?_⟩
  · rw [List.getElem_set, List.getElem_set]
    by_cases e : k = m
    · rw [if_pos e, if_pos e]; exact k1 _ _ hx
    · rw [if_neg e, if_neg e]
      exact k1 _ _ (k2 _ _ (h1.get m (by simpa using a) (by simpa using b)))
  · rcases List.mem_or_eq_of_mem_set hd with h | h
    · exact h2 d h
    · rw [h]; exact hc
/-- A member's number is written. -/
theorem OwnX.putNum (h : OwnX T 6 B VerR w (.slice (some ⟨g, 0, none⟩) n cap) L) {k : Nat} (hk : k < L.length) (u : Int) :
    OwnX T 6 B VerR (w.setCell ⟨g, k * 6 + 2, none⟩ (.int .i64 u)) (.slice (some ⟨g, 0, none⟩) n cap) (L.set k { L[k] with num := u }) := by
  obtain ⟨css, hr, h1, h2⟩ := h
  have hl := h1.length
  have k1 : ∀ c y, VerR (fun b => B ≤ b ∧ Value.ownBlock (.slice (some ⟨g, 0, none⟩) n cap) ≠ some b) w c y → VerR (fun b => B ≤ b ∧ Value.ownBlock (.slice (some ⟨g, 0, none⟩) n cap) ≠ some b) (w.setCell ⟨g, k * 6 + 2, none⟩ (.int .i64 u)) c y := fun c y hy =>
    keeps_ver _ _ _ _ _ _ hy (Stay.of_tn (tn_setCells [.int .i64 u] (k * 6 + 2) w) fun b hb _ e => hb.2 (by rw [e]; rfl)) (fun b hb _ => hb)
  have hr2 := row_set1 (g := g) hr rfl (o := k * 6 + 2) (by omega) (.int .i64 u)
  rw [flat_set1 h2 (by omega) (by omega) (by omega)] at hr2
  refine ⟨css.set k (css[k].set 2 (.int .i64 u)), by rw [List.length_set]; exact hr2, All2.of_get (by simp [hl]) fun m a b => ?_, fun d hd => ?_⟩
  · rw [List.getElem_set, List.getElem_set]
    by_cases e : k = m
    · rw [if_pos e, if_pos e]
      obtain ⟨fv, ec, hf⟩ := k1 _ _ (h1.get k (by omega) hk)
      rw [ec]
      exact ⟨fv, rfl, hf⟩
    · rw [if_neg e, if_neg e]
      exact k1 _ _ (h1.get m (by simpa using a) (by simpa using b))
  · rcases List.mem_or_eq_of_mem_set hd with h | h
    · exact h2 d h
    · rw [h, List.length_set]; exact h2 _ (List.getElem_mem _)
/-- A member's cells. -/
theorem OwnX.range (h : OwnX T 6 B VerR w (.slice (some ⟨g, 0, none⟩) n cap) L) {k : Nat} (hk : k < L.length) : ∃ cs, VerR (fun b => B ≤ b ∧ b ≠ g) w cs L[k] ∧ cs.length = 6 ∧ w.rangeAt g (k * 6) cs ∧ w.there g (k * 6) 6 := by
  obtain ⟨b, o, c, css, e, hb, _, hR, hl, hg, ht⟩ := SlOf.range (by omega) (OwnOf.sl h) hk
  have e1 : (some ⟨g, 0, none⟩ : Option Addr) = some ⟨b, o, none⟩ := by injection e
  injection e1 with e1
  have e2 : g = b := by injection e1
  have e3 : 0 = o := by injection e1
  subst e2 e3
  rw [Nat.zero_add] at hg ht
  exact ⟨css, keeps_ver _ _ _ _ _ _ hR (fun _ _ _ => rfl) (fun b hb _ => ⟨hb.1, fun e => hb.2 (by rw [e]; rfl)⟩), hl, hg, ht⟩
theorem OwnX.head {a : Option Addr} (h : OwnX T 6 B VerR w (.slice a n cap) L) (hn : 0 < L.length) : ∃ g, a = some ⟨g, 0, none⟩ ∧ B ≤ g ∧ g < w.heap.size := by
  have hl := OwnOf.lt h
  obtain ⟨css, hr, h1, h2⟩ := h
  obtain ⟨a', c', e, hc, hm, hx, ⟨h0, _⟩ | ⟨g', rfl, e2, hb, hg, hcell⟩⟩ := row_cellz hr
  · omega
  injection e with e1 _ e3
  exact ⟨g', e1, hb, hg⟩
end
set_option maxRecDepth 100000 in
set_option maxHeartbeats 2000000 in
theorem distinct_any {B : Nat} {w : World} {v : Value} {L : List Ver} (h : OwnX 43 6 B VerR w v L) (hl : L.length ≤ 1000) :
    Calls Tryz.prog 21 #[v] w fun e w' => e = .returned v ∧ OwnX 43 6 B VerR w' v (distP L) ∧ Tn (fun b => v.ownBlock = some b) w w' := by
  obtain ⟨a, cap, rfl⟩ := h.expl
  obtain ⟨n, hn⟩ : ∃ n, n = L.length := ⟨_, rfl⟩
  have hl1 : n ≤ 1000 := by rw [hn]; exact hl
  have HV := Lib.hid h
  rw [← hn] at HV ⊢
  have N1 := Lib.hid hn
  clear hn hl h
  go_enter Tryz.func21, Tryz.ntmps21
  go_wp2_with fail
  go_loopw [6] (fun i wr => ∃ k : Nat, k ≤ n ∧ i = .int .i64 k ∧ Tn (fun b => Value.ownBlock (.slice a n cap) = some b) w wr ∧ OwnX 43 6 B VerR wr (.slice a n cap) (distTo L k)) (fun i _ => n - (intOf i).toNat)
  case atStart => exact ⟨0, by omega, rfl, Tn.refl _ _, by rw [distTo_zero]; exact HV.out⟩
  case round =>
    obtain ⟨k, hk, rfl, ht, hO⟩ := hrel
    have HT := Lib.hid ht
    have HO := Lib.hid hO
    clear ht
    by_cases hlt : k < n
    · have hlx : k < L.length := by rw [← N1.out]; exact hlt
      obtain ⟨g, rfl, hg1, hg2⟩ := hO.head (by rw [distTo_len]; omega)
      obtain ⟨cs, hR, hc6, hgr, htr⟩ := hO.range (k := k) (by rw [distTo_len]; exact hlx)
      rw [distTo_get, if_neg (by omega)] at hR
      obtain ⟨x, hx⟩ : ∃ x, x = L[k] := ⟨_, rfl⟩
      rw [← hx] at hR
      have HX := Lib.hid hx
      obtain ⟨fv, rfl, -⟩ := hR
      have p2 : wr.cell? ⟨g, k * 6 + 2, none⟩ = some (.int .i64 x.num) := hgr 2 _ rfl
      have p2f : wr.frozen? ⟨g, k * 6 + 2, none⟩ = false := (htr 2 (by omega)).2
      have t1 : x.num.tmod 1000 < 1000 := Int.tmod_lt_of_pos x.num (by decide)
      have t2 : -1000 < x.num.tmod 1000 := Int.lt_tmod_of_pos x.num (by decide)
      have w1 : IntKind.i64.wrap (x.num.tmod 1000) = x.num.tmod 1000 := by rw [IntKind.wrap_i64]; omega
      have w2 : IntKind.i64.wrap (x.num.tmod 1000 * 16) = x.num.tmod 1000 * 16 := by rw [IntKind.wrap_i64]; omega
      have w3 : IntKind.i64.wrap (x.num.tmod 1000 * 16 + (k : Int)) = x.num.tmod 1000 * 16 + (k : Int) := by rw [IntKind.wrap_i64]; omega
      clear hgr htr hx hO hc6
      go_wp2_with fail
      refine ⟨⟨k + 1, hlt, by go_num, ?_, ?_⟩, by simp [intOf]; omega⟩
      · exact HT.out.trans ((tn_setCells [.int .i64 (x.num.tmod 1000 * 16 + (k : Int))] (k * 6 + 2) wr).mono fun b h => by rw [h]; rfl)
      · rw [← distTo_set hlx]
        have h1 := HO.out.putNum (k := k) (by rw [distTo_len]; exact hlx) (x.num.tmod 1000 * 16 + (k : Int))
        rw [distTo_get, if_neg (by omega), ← HX.out] at h1
        rw [← HX.out]
        exact h1
    · obtain rfl : k = n := by omega
      go_wp2_with fail
      go_ret
      exact ⟨rfl, by rw [show distP L = distTo L k by rw [N1.out]]; exact HO.out, HT.out⟩
end Go.Proofs.YtpdldbapagchfaaGreatDoor

/- The law Order. -/
namespace Go.Proofs.YtpdldbapagchfaaGreatDoor
open Go.RowKit Go.Shelf Go.Maps
attribute [local go_sem] over_cell over_frozen
/-- A byte in a row. -/
def ByR (_ : World) (cs : List Value) (x : Int) : Prop := cs = [.int .u8 x]
/-- Two members change places. -/
theorem OwnX.swap {T : TypeId} {B g n cap : Nat} {w : World} {L : List Ver} (h : OwnX T 6 B VerR w (.slice (some ⟨g, 0, none⟩) n cap) L) {j k : Nat} (hj : j < L.length) (hk : k < L.length) {cj ck : List Value} (lj : cj.length = 6) (lk : ck.length = 6)
    (rj : VerR (fun b => B ≤ b ∧ b ≠ g) w cj L[j]) (rk : VerR (fun b => B ≤ b ∧ b ≠ g) w ck L[k]) :
    OwnX T 6 B VerR ((w.setCells g (k * 6) cj).setCells g (j * 6) ck).drew (.slice (some ⟨g, 0, none⟩) n cap) ((L.set k L[j]).set j L[k]) ∧ Tn (fun b => b = g) w ((w.setCells g (k * 6) cj).setCells g (j * 6) ck).drew := by
  have h1 := h.putVer hk lj rj
  have rk' : VerR (fun b => B ≤ b ∧ b ≠ g) (w.setCells g (k * 6) cj) ck L[k] := keeps_ver _ _ _ _ _ _ rk (Stay.of_tn (tn_setCells cj (k * 6) w) fun b hb _ e => hb.2 e) (fun b hb _ => hb)
  have h2 := h1.putVer (k := j) (by rw [List.length_set]; exact hj) lk rk'
  exact ⟨OwnX.tn keeps_ver h2 ((Tn.refl (fun _ => False) _).drew) (fun _ h => h.elim), ((tn_setCells cj (k * 6) w).trans (tn_setCells ck (j * 6) _)).drew⟩
theorem swap_perm {L : List Ver} {j k : Nat} (hj : j < L.length) (hk : k < L.length) : ((L.set k L[j]).set j L[k]).Perm L := List.set_set_perm hk hj
set_option maxRecDepth 100000 in
set_option maxHeartbeats 4000000 in
theorem orderLaw (S S1 : Nat → Prop) {w : World} {v v1 : Value} {l : List SaidI} {M : List Int} (h : SlOf 4 S (SaidR S) w v l) (hl : SOk l) (h1 : SlOf 1 S1 ByR w v1 M) (hM : ∀ x ∈ M, 0 ≤ x ∧ x < 256) :
    Calls Tryz.prog 5 #[v, v1] w fun e w' => e = .returned (.bool true) ∧ Below w.heap.size w w' := by
  obtain ⟨i0, hi, hz1, hz2, hz3⟩ := info_Ver
  have HS := Lib.hid h
  have HL := Lib.hid (versP_lok hl)
  have H1 := Lib.hid (SlOf.lowS (by omega) h1)
  have HM := Lib.hid hM
  obtain ⟨a, cap, rfl, -⟩ := h
  obtain ⟨a1, cap1, rfl, -⟩ := h1
  obtain ⟨n, hn⟩ : ∃ n, n = l.length := ⟨_, rfl⟩
  obtain ⟨m1, hm1⟩ : ∃ m1, m1 = M.length := ⟨_, rfl⟩
  rw [← hn] at HS ⊢
  rw [← hm1] at H1 ⊢
  have NM := Lib.hid hm1
  clear hl hn hM hm1
  go_enter Tryz.func5, Tryz.ntmps5
  go_wp2_with fail
  refine (sanity_any w).mono ?_
  rintro e w1 ⟨rfl, hb⟩
  have B1 := Lib.hid hb
  have HV := Lib.hid (versX_any S (h := HS.out.keep (by omega) (Stay.of_below hb) (fun _ _ h => h.keep (Stay.of_below hb) (fun _ h _ => h)) (fun _ h _ => h)))
  clear hb
  go_wp2_with fail
  refine HV.out.mono ?_
  rintro e w2 ⟨v2, rfl, hO, hb⟩
  have hO' : OwnX 43 6 w.heap.size VerR w2 v2 (versP l) := by
    obtain ⟨css, hr, ha, hz⟩ := hO
    exact ⟨css, row_mono hr B1.out.size, ha.mono fun c x hc => keeps_ver _ _ _ _ _ _ hc (fun _ _ _ => rfl) (fun b hb _ => ⟨Nat.le_trans B1.out.size hb.1, hb.2⟩), hz⟩
  have B2 : RowKit.Hid (Below w.heap.size w w2) := Lib.hid (B1.out.trans (hb.mono B1.out.size))
  clear hO hb HV
  have HD := Lib.hid (distinct_any hO' HL.out.vs.1)
  have HOL := Lib.hid (OwnOf.lt hO')
  clear hO'
  go_wp2_with fail
  refine HD.out.mono ?_
  rintro e w3 ⟨rfl, hO, ht⟩
  obtain ⟨D, hD⟩ : ∃ D, D = distP (versP l) := ⟨_, rfl⟩
  rw [← hD] at hO
  have LD : RowKit.Hid (LOk D) := Lib.hid (by rw [hD]; exact HL.out.dist)
  have DD : RowKit.Hid (Dist D) := Lib.hid (by rw [hD]; exact distP_dist (by simp only [versP, List.length_map, List.length_take]; omega))
  have FD : RowKit.Hid ((saidOf (latest D)).length ≤ 1000) := Lib.hid (few_latest (by rw [hD, distP_len]; exact versP_len l) (fun x hx => by
    rw [hD] at hx
    obtain ⟨k, y, hy, _, rfl⟩ := mem_distP hx
    exact versP_few l y hy))
  have D10 : D.length ≤ 10 := by rw [hD, distP_len]; simp only [versP, List.length_map, List.length_take]; omega
  have B3 : RowKit.Hid (Below w.heap.size w w3) := Lib.hid (B2.out.trans (ht.below B2.out.size fun b e => (HOL.out b e).1))
  clear ht HD HOL hD
  obtain ⟨va, vc, rfl⟩ := hO.expl
  have HO := Lib.hid hO
  obtain ⟨m, hm⟩ : ∃ m, m = D.length := ⟨_, rfl⟩
  have m10 : m ≤ 10 := by omega
  rw [← hm] at HO ⊢
  have ND := Lib.hid hm
  clear hO hm D10
  have B30 := B3.out.size
  have HV3 : RowKit.Hid (VersAt (fun b => b < w3.heap.size) w3 (.slice va m vc) D) := Lib.hid (SlOf.keep (by omega) (OwnOf.sl HO.out) (fun _ _ _ => rfl) (fun c x h => keeps_ver _ _ _ _ _ _ h (fun _ _ _ => rfl) (fun b _ h => h)) (fun b _ h => h))
  obtain ⟨css, hr, hall, hlen⟩ := HO.out
  rw [← ND.out] at hr
  have BA : RowKit.Hid (Below w3.heap.size w3 (w3.alloc (.cells #[] 43))) := Lib.hid ((Below.refl _ _).alloc (Nat.le_refl _) _)
  have HSR := Lib.hid (src_row (hr.alloc (.cells #[] 43)))
  have HON := Lib.hid (one_flat (fun c x h => one_ver _ _ _ _ h) hall)
  have HCL : RowKit.Hid (∀ W, Stay (fun b => b < w3.heap.size) w3 W → All2 (VerR (fun b => w.heap.size ≤ b ∧ b < w3.heap.size) W) css D) := Lib.hid (fun W hW => hall.mono fun c x h => keeps_ver _ _ _ _ _ _ (keeps_ver _ (fun b => w.heap.size ≤ b ∧ b < w3.heap.size) _ _ _ _ h (fun _ _ _ => rfl) (fun b h h' => ⟨h.1, h'⟩)) (fun b h h' => hW b h.2 h') (fun b h _ => h))
  have HLN := Lib.hid hlen
  clear hr hall hlen HO
  go_wp2_with (first
    | (at_builtin; go_loud (refine wpList_append_all rfl (.tmp 14) (.tmp 15) 24 rfl w.heap.size 43 i0 _ 6 56 Tryz.underlying24 hi hz1 hz2 hz3 rfl (by omega) _ 0 [] rfl (row_fresh w3 w.heap.size #[] 43 6 0 rfl (by unfold maxLen; omega) B30) m css.flatten _ rfl HSR.out HON.out (by unfold maxLen; omega) (by omega) (by simp; omega) ?_)
       intro v' w4 hr4 hg4 ho4; have HR4 := Lib.hid hr4; have HG4 := Lib.hid hg4; have HW4 := Lib.hid ho4; clear hr4 hg4 ho4))
  have T4 : RowKit.Hid (Tn (fun b => w3.heap.size ≤ b) w3 w4) := Lib.hid ((Tn.of_below BA.out).trans ((Tn.of_grown HG4.out).mono fun b e => by
    have e' : some w3.heap.size = some b := e
    injection e' with e'; omega))
  have HX4 : RowKit.Hid (OwnX 43 6 w.heap.size VerR w4 v' D) := Lib.hid (by
    have h1 := HR4.out
    rw [Nat.zero_add, ND.out, List.nil_append] at h1
    refine ⟨css, h1, (HCL.out w4 (fun b hb h' => T4.out.block b h' (by omega))).mono fun c x h => keeps_ver _ _ _ _ _ _ h (fun _ _ _ => rfl) (fun b hb _ => ⟨hb.1, fun e => ?_⟩), HLN.out⟩
    rcases HW4.out with h2 | h2
    · rw [h2] at e
      have e' : some w3.heap.size = some b := e
      injection e' with e'; omega
    · rw [h2] at e
      injection e with e
      simp at e; omega)
  have HBW : RowKit.Hid (∀ b, v'.ownBlock = some b → w3.heap.size ≤ b) := Lib.hid fun b e => by
    rcases HW4.out with h2 | h2
    · rw [h2] at e
      have e' : some w3.heap.size = some b := e
      injection e' with e'; omega
    · rw [h2] at e
      injection e with e
      simp at e; omega
  clear HR4 HG4 HW4 HCL HSR HON HLN
  obtain ⟨aw, cw, rfl⟩ := HX4.out.expl
  rw [← ND.out] at HX4 HBW ⊢
  go_loopw [8] (fun i wr => ∃ (k : Nat) (M' : List Ver), (k ≤ m ∨ k = 1) ∧ i = .int .i64 k ∧ M'.Perm D ∧ Tn (fun b => w3.heap.size ≤ b) w3 wr ∧ OwnX 43 6 w.heap.size VerR wr (.slice aw m cw) M') (fun i _ => m - (intOf i).toNat)
  case atStart => exact ⟨1, D, .inr rfl, rfl, .refl _, T4.out, HX4.out⟩
  case round =>
    obtain ⟨k, M', hk, rfl, hp, ht, hO⟩ := hrel
    have HP := Lib.hid hp
    have HT := Lib.hid ht
    have HO := Lib.hid hO
    have NP : M'.length = m := by rw [hp.length_eq, ND.out]
    clear ht hp
    by_cases hgo : k < m ∧ 0 < m1
    · obtain ⟨hlt, hm0⟩ := hgo
      have HB1 : RowKit.Hid (SlOf 1 (fun b => S1 b ∧ b < w.heap.size) ByR wr (.slice a1 m1 cap1) M) := Lib.hid (H1.out.keep (by omega) (fun b hb h' => (HT.out.block b (by omega) (by omega)).trans (B3.out.block b hb.2)) (fun _ _ h => h) (fun _ h _ => h))
      have hq : k % m1 < M.length := by rw [← NM.out]; exact Nat.mod_lt _ hm0
      obtain ⟨b1, o1, cp1, cs1, e1, _, _, hR1, _, hg1, hf1⟩ := SlOf.range (by omega) HB1.out hq
      have e1' : a1 = some ⟨b1, o1, none⟩ := by injection e1
      clear e1
      subst e1'
      unfold ByR at hR1
      subst hR1
      obtain ⟨y, hy⟩ : ∃ y, y = M[k % m1] := ⟨_, rfl⟩
      have hy1 : 0 ≤ y ∧ y < 256 := by rw [hy]; exact HM.out _ (List.getElem_mem _)
      rw [← hy] at hg1
      clear hy hf1
      have c1 : wr.cell? ⟨b1, o1 + k % m1, none⟩ = some (.int .u8 y) := by have := hg1 0 _ rfl; simpa using this
      clear hg1
      have q1 : (k : Int) % (m1 : Int) < (m1 : Int) := Int.emod_lt_of_pos _ (by omega)
      have q2 : 0 ≤ (k : Int) % (m1 : Int) := Int.emod_nonneg _ (by omega)
      obtain ⟨j, hj⟩ : ∃ j : Nat, y % ((k : Int) + 1) = j := ⟨(y % ((k : Int) + 1)).toNat, by have := Int.emod_nonneg y (show ((k : Int) + 1) ≠ 0 by omega); omega⟩
      have hjk : j ≤ k := by have := Int.emod_lt_of_pos y (show (0 : Int) < (k : Int) + 1 by omega); omega
      obtain ⟨g, e2, hgB, hgl⟩ := OwnX.head HO.out (by omega)
      subst e2
      have hg3 := HBW.out g rfl
      have jm : j < m := by omega
      obtain ⟨ck, hRk, hlk, hgk, htk⟩ := OwnX.range HO.out (k := k) (by omega)
      obtain ⟨xk, hxk⟩ : ∃ x, x = M'[k]'(by omega) := ⟨_, rfl⟩
      rw [← hxk] at hRk
      have HRK := Lib.hid hRk
      have HXK := Lib.hid hxk
      obtain ⟨fk, dk, rfl, -⟩ := hRk.expl'
      obtain ⟨r0, r1, r2, r3, r4, r5⟩ := range6 hgk
      have k0 : wr.frozen? ⟨g, k * 6, none⟩ = false := (htk 0 (by omega)).2
      have k1 : wr.frozen? ⟨g, k * 6 + 1, none⟩ = false := (htk 1 (by omega)).2
      have k2 : wr.frozen? ⟨g, k * 6 + 2, none⟩ = false := (htk 2 (by omega)).2
      have k3 : wr.frozen? ⟨g, k * 6 + 3, none⟩ = false := (htk 3 (by omega)).2
      have k4 : wr.frozen? ⟨g, k * 6 + 4, none⟩ = false := (htk 4 (by omega)).2
      have k5 : wr.frozen? ⟨g, k * 6 + 5, none⟩ = false := (htk 5 (by omega)).2
      clear htk hgk hlk hxk hRk
      by_cases he : j = k
      · subst he
        have HW := Lib.hid (OwnX.swap HO.out (j := j) (k := j) (by omega) (by omega) rfl rfl (by rw [← HXK.out]; exact HRK.out) (by rw [← HXK.out]; exact HRK.out))
        have HPM := Lib.hid ((swap_perm (L := M') (j := j) (k := j) (by omega) (by omega)).trans HP.out)
        go_wp2_with fail
        go_region
        all_goals go_wp2_with fail
        exact ⟨⟨j + 1, _, .inl hlt, by go_num, HPM.out, HT.out.trans (HW.out.2.mono fun b e => by have e' : b = g := e; omega), HW.out.1⟩, by simp [intOf]; omega⟩
      obtain ⟨cj, hRj, hlj, hgj, htj⟩ := OwnX.range HO.out (k := j) (by omega)
      obtain ⟨xj, hxj⟩ : ∃ x, x = M'[j]'(by omega) := ⟨_, rfl⟩
      rw [← hxj] at hRj
      have HRJ := Lib.hid hRj
      have HXJ := Lib.hid hxj
      obtain ⟨fj, dj, rfl, -⟩ := hRj.expl'
      obtain ⟨p0, p1, p2, p3, p4, p5⟩ := range6 hgj
      have j0 : wr.frozen? ⟨g, j * 6, none⟩ = false := (htj 0 (by omega)).2
      have j1 : wr.frozen? ⟨g, j * 6 + 1, none⟩ = false := (htj 1 (by omega)).2
      have j2 : wr.frozen? ⟨g, j * 6 + 2, none⟩ = false := (htj 2 (by omega)).2
      have j3 : wr.frozen? ⟨g, j * 6 + 3, none⟩ = false := (htj 3 (by omega)).2
      have j4 : wr.frozen? ⟨g, j * 6 + 4, none⟩ = false := (htj 4 (by omega)).2
      have j5 : wr.frozen? ⟨g, j * 6 + 5, none⟩ = false := (htj 5 (by omega)).2
      clear htj hgj hlj hxj hRj
      have HW := Lib.hid (OwnX.swap HO.out (j := j) (k := k) (by omega) (by omega) rfl rfl (by rw [← HXJ.out]; exact HRJ.out) (by rw [← HXK.out]; exact HRK.out))
      have HPM := Lib.hid ((swap_perm (L := M') (j := j) (k := k) (by omega) (by omega)).trans HP.out)
      go_wp2_with fail
      go_region
      all_goals go_wp2_with fail
      exact ⟨⟨k + 1, _, .inl hlt, by go_num, HPM.out, HT.out.trans (HW.out.2.mono fun b e => by have e' : b = g := e; omega), HW.out.1⟩, by simp [intOf]; omega⟩
    · have HVF : RowKit.Hid (VersAt (fun b => b < w3.heap.size) wr (.slice va m vc) D) := Lib.hid (VersAt.keep HV3.out (fun b hb h' => HT.out.block b h' (by omega)) (fun _ h _ => h))
      have HVW : RowKit.Hid (VersAt (fun _ => True) wr (.slice aw m cw) M') := Lib.hid (OwnOf.vers (HO.out.own keeps_ver))
      have LM : RowKit.Hid (LOk M') := Lib.hid (LD.out.sub (by rw [NP]; rw [ND.out]; exact Nat.le_refl _) (fun x hx => HP.out.mem_iff.1 hx))
      have LE : RowKit.Hid (latest M' = latest D) := Lib.hid (latest_perm HP.out.symm DD.out).symm
      have BW : RowKit.Hid (Below w.heap.size w wr) := Lib.hid (B3.out.trans (HT.out.below B30 fun b h => Nat.le_trans B30 h))
      have hcase : ¬ k < m ∨ (k < m ∧ m1 = 0) := by omega
      rcases hcase with hc | ⟨hc, hc0⟩
      all_goals go_wp2_with fail
      all_goals
        refine (merge_any HVF.out LD.out LD.out.latest).mono ?_
        rintro e w5 ⟨cs, rfl, hM5, hb⟩
        have HM5 := Lib.hid hM5
        have B5 := Lib.hid hb
        have HVW5 := Lib.hid (VersAt.keep HVW.out (Stay.of_below hb) (fun _ h _ => h))
        clear hM5 hb
        go_wp2_with fail
        refine (merge_any HVW5.out LM.out LM.out.latest).mono ?_
        rintro e w6 ⟨ds, rfl, hM6, hb⟩
        rw [LE.out] at hM6
        have HM6 := Lib.hid hM6
        have HM5' := Lib.hid (HM5.out.keep (Stay.of_below hb) (fun _ h _ => h))
        have B6 : RowKit.Hid (Below wr.heap.size wr w6) := Lib.hid (B5.out.trans (hb.mono B5.out.size))
        clear hM6 hb HVW5 HM5
        go_wp2_with fail
        refine (same_any _ _ HM5'.out HM6.out (mrgV_ok LD.out.latest FD.out)).mono ?_
        rintro e w7 ⟨rfl, hb⟩
        have B7 : RowKit.Hid (Below wr.heap.size wr w7) := Lib.hid (B6.out.trans (hb.mono B6.out.size))
        clear hb HM5' HM6
        go_wp2_with fail
        refine (latest_any _ (VersAt.keep HVF.out (Stay.of_below B7.out) (fun _ h _ => h)) LD.out.vs LD.out.recs).mono ?_
        rintro e w8 ⟨v8, rfl, hO8, hb⟩
        have H8 := Lib.hid hO8.vers
        obtain ⟨a8, c8, rfl⟩ := hO8.expl
        have B8 : RowKit.Hid (Below wr.heap.size wr w8) := Lib.hid (B7.out.trans (hb.mono B7.out.size))
        clear hO8 hb
        go_wp2_with fail
        refine (latest_any _ (VersAt.keep HVW.out (Stay.of_below B8.out) (fun _ h _ => h)) LM.out.vs LM.out.recs).mono ?_
        rintro e w9 ⟨v9, rfl, hO9, hb⟩
        rw [LE.out] at hO9
        have H9 := Lib.hid hO9.vers
        obtain ⟨a9, c9, rfl⟩ := hO9.expl
        have B9 : RowKit.Hid (Below wr.heap.size wr w9) := Lib.hid (B8.out.trans (hb.mono B8.out.size))
        have H8' := Lib.hid (VersAt.keep H8.out (Stay.of_below hb) (fun _ h _ => h))
        clear hO9 hb H8
        go_wp2_with fail
        refine (sameVersions_any _ _ H8'.out H9.out LD.out.latest.vs).mono ?_
        rintro e wa ⟨rfl, hb⟩
        have Ba : RowKit.Hid (Below w.heap.size w wa) := Lib.hid (BW.out.trans ((B9.out.trans (hb.mono B9.out.size)).mono BW.out.size))
        clear hb
        go_wp2_with fail
        go_ret
        exact ⟨rfl, Ba.out⟩
end Go.Proofs.YtpdldbapagchfaaGreatDoor
