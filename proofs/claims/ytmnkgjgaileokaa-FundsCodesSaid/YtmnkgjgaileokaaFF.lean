/- The contract of the closure in Close that lifts what is free. -/
import Derived.Test.YtmnkgjgaileokaaFE
namespace Go.Proofs.Ytmnkgjgaileokaa
open Go.RowKit

/-- The numbers of a year's end. -/
structure Bal (ids : List Int) (sp en al : Int → Int) : Prop where
  le : ∀ z ∈ ids, sp z + en z ≤ al z
  sum : (ids.map al).sum ≤ 1000000000000000
structure Fix (ids : List Int) (sp en : Int → Int) (kids : Int → List Int) : Prop where
  nd : ids.Nodup
  sp : ∀ z ∈ ids, 0 ≤ sp z
  en : ∀ z ∈ ids, 0 ≤ en z
  idb : ∀ x ∈ ids, 1 ≤ x ∧ x ≤ 9223372036854775807
  kin : ∀ x ∈ ids, ∀ y ∈ kids x, y ∈ ids ∧ y ≠ x
  kl : ∀ x ∈ ids, (kids x).length ≤ 100000
theorem sum_upd (al : Int → Int) (x v : Int) : ∀ ids : List Int, ids.Nodup → x ∈ ids → (ids.map (upd al x v)).sum = (ids.map al).sum - al x + v := by
  intro ids
  induction ids with
  | nil => intro _ h; cases h
  | cons y l ih =>
    intro hn hx
    obtain ⟨h1, h2⟩ := List.nodup_cons.1 hn
    simp only [List.map_cons, List.sum_cons]
    by_cases e : y = x
    · subst e
      rw [upd_same]
      have : l.map (upd al y v) = l.map al := List.map_congr_left fun z hz => upd_ne al v (fun e => h1 (e ▸ hz))
      rw [this]; omega
    · rw [upd_ne al v e]
      rcases List.mem_cons.1 hx with h | h
      · exact absurd h.symm e
      · rw [ih h2 h]; omega
theorem sum_nonneg (al : Int → Int) : ∀ ids : List Int, (∀ z ∈ ids, 0 ≤ al z) → 0 ≤ (ids.map al).sum := by
  intro ids
  induction ids with
  | nil => intro _; simp
  | cons y l ih =>
    intro h
    simp only [List.map_cons, List.sum_cons]
    have := h y (by simp)
    have := ih fun z hz => h z (by simp [hz])
    omega
theorem le_sum (al : Int → Int) {x : Int} : ∀ ids : List Int, (∀ z ∈ ids, 0 ≤ al z) → x ∈ ids → al x ≤ (ids.map al).sum := by
  intro ids
  induction ids with
  | nil => intro _ h; cases h
  | cons y l ih =>
    intro h hx
    simp only [List.map_cons, List.sum_cons]
    have h0 := h y (by simp)
    have h1 := sum_nonneg al l fun z hz => h z (by simp [hz])
    rcases List.mem_cons.1 hx with e | e
    · subst e; omega
    · have := ih (fun z hz => h z (by simp [hz])) e
      omega
theorem Bal.num {s : FS} {al : Int → Int} (h : Bal s.ids s.sp s.en al) (f : Fix s.ids s.sp s.en s.kids) : Num { s with al := al } :=
  ⟨f.idb, f.sp, f.en, h.le, fun x hx => Int.le_trans (le_sum al s.ids (fun z hz => by have := h.le z hz; have := f.sp z hz; have := f.en z hz; omega) hx) h.sum⟩
def stepA (sp en al : Int → Int) (x y : Int) : Int → Int := upd (upd al y (al y - (al y - sp y - en y))) x (al x + (al y - sp y - en y))
def liftA (kids : Int → List Int) (sp en : Int → Int) : Nat → (Int → Int) → Int → (Int → Int)
  | 0, al, _ => al
  | n + 1, al, x => (kids x).foldl (fun al y => stepA sp en (liftA kids sp en n al y) x y) al
/-- Only funds' own blocks are written. -/
def Same (s : FS) (w w' : World) : Prop := ∀ i, i < w.heap.size → (∀ z, s.o i ≠ .fund z) → w'.heap[i]? = w.heap[i]?
def Deep (kids : Int → List Int) : Nat → Int → Prop
  | 0, x => kids x = []
  | n + 1, x => ∀ y ∈ kids x, Deep kids n y
theorem stepA_bal {ids : List Int} {sp en al : Int → Int} {kids : Int → List Int} {x y : Int} (f : Fix ids sp en kids) (h : Bal ids sp en al) (hx : x ∈ ids) (hy : y ∈ ids) (hne : y ≠ x) : Bal ids sp en (stepA sp en al x y) := by
  have h1 := h.le y hy
  have h2 := h.le x hx
  refine ⟨fun z hz => ?_, ?_⟩
  · unfold stepA
    by_cases e : z = x
    · subst e; rw [upd_same]; omega
    · rw [upd_ne _ _ e]
      by_cases e2 : z = y
      · subst e2; rw [upd_same]; omega
      · rw [upd_ne _ _ e2]; exact h.le z hz
  · unfold stepA
    rw [sum_upd _ _ _ _ f.nd hx, sum_upd _ _ _ _ f.nd hy, upd_ne _ _ (Ne.symm hne)]
    have := h.sum
    omega
theorem liftA_bal {ids : List Int} {sp en : Int → Int} {kids : Int → List Int} (f : Fix ids sp en kids) : ∀ (n : Nat) (al : Int → Int) (x : Int), x ∈ ids → Bal ids sp en al → Bal ids sp en (liftA kids sp en n al x) := by
  intro n
  induction n with
  | zero => intro al x _ h; exact h
  | succ n ih =>
    intro al x hx h
    show Bal ids sp en ((kids x).foldl _ al)
    have key : ∀ l : List Int, (∀ y ∈ l, y ∈ ids ∧ y ≠ x) → ∀ al, Bal ids sp en al → Bal ids sp en (l.foldl (fun al y => stepA sp en (liftA kids sp en n al y) x y) al) := by
      intro l
      induction l with
      | nil => intro _ al h; exact h
      | cons y l ihl =>
        intro hl al h
        rw [List.foldl_cons]
        exact ihl (fun z hz => hl z (by simp [hz])) _ (stepA_bal f (ih al y (hl y (by simp)).1 h) hx (hl y (by simp)).1 (hl y (by simp)).2)
    exact key _ (f.kin x hx) al h
theorem foldl_take {α β : Type} (f : α → β → α) (l : List β) (k : Nat) (h : k < l.length) (a : α) : (l.take (k + 1)).foldl f a = f ((l.take k).foldl f a) l[k] := by
  rw [List.take_succ_eq_append_getElem h, List.foldl_append]; rfl
theorem row_form {w : World} {v : Value} {n : Nat} {xs : List Value} (h : w.ownsRow 0 68 1 v n xs) : (v = .slice none 0 0 ∧ n = 0) ∨ ∃ r c, v = .slice (some ⟨r, 0, none⟩) n c := by
  obtain ⟨_, ⟨h1, h2⟩ | ⟨g, c, cur, h1, _⟩⟩ := h
  · exact .inl ⟨h1, h2⟩
  · exact .inr ⟨g, c, h1⟩
theorem row_cell {w : World} {r n c : Nat} {xs : List Value} (h : w.ownsRow 0 68 1 (.slice (some ⟨r, 0, none⟩) n c) n xs) (k : Nat) (u : Value) (hk : xs[k]? = some u) : w.cell? ⟨r, k, none⟩ = some u := by
  obtain ⟨h0, ⟨h1, _⟩ | ⟨g, c', cur, h1, _, h3, h4, _, h5, h6⟩⟩ := h
  · cases h1
  · injection h1 with h1
    injection h1 with h1
    injection h1 with h1
    subst h1
    have hk' : k < n := by
      rcases Nat.lt_or_ge k xs.length with h | h
      · omega
      · simp [List.getElem?_eq_none h] at hk
    rw [← h6, List.getElem?_take_of_lt (by omega)] at hk
    simp only [World.cell?, h3]
    simpa using hk
set_option maxRecDepth 100000 in
set_option maxHeartbeats 4000000 in
theorem lift_any : ∀ (n : Nat) (w : World) (s : FS) (x : Int) (cb : Nat), Mem w s → Fix s.ids s.sp s.en s.kids → Bal s.ids s.sp s.en s.al → x ∈ s.ids → Deep s.kids n x → Blk w cb #[.func (.func 52) #[] #[.pointer (some ⟨cb, 0, none⟩)]] 81 → s.o cb = .none →
    Calls Try.prog 52 #[.pointer (some ⟨s.g x, 0, none⟩), .pointer (some ⟨cb, 0, none⟩)] w fun r w' => r = .returned (.tuple #[]) ∧ Mem w' { s with al := liftA s.kids s.sp s.en n s.al x } ∧ Turn s w { s with al := liftA s.kids s.sp s.en n s.al x } w' ∧ Same s w w' := by
  intro n
  induction n with
  | zero =>
    intro w s x cb h f hB hx hd hcb hco
    have hk0 : s.kids x = [] := hd
    obtain ⟨c0, c1, c2, c3, c4, c5⟩ := h.fcell hx
    have hr := h.row x hx
    rw [hk0] at hr
    have HM := Lib.hid h
    have hb : ∃ a c, s.bl x = .slice a 0 c := by
      rcases row_form hr with ⟨e, _⟩ | ⟨r, c, e⟩
      · exact ⟨_, _, e⟩
      · exact ⟨_, _, e⟩
    obtain ⟨ba, bc, hb⟩ := hb
    rw [hb] at c5
    clear h f hB hx hd hcb hr hk0 hb
    go_enter Try.func52, Try.ntmps52
    go_wp2_with fail
    go_loopw [11] (fun i wr => i = .int .i64 0 ∧ wr = w) (fun _ _ => 0)
    case atStart => exact ⟨rfl, rfl⟩
    case round =>
      obtain ⟨rfl, rfl⟩ := hrel
      go_wp2_with fail
      go_end0
      exact ⟨rfl, HM.out, Turn.refl _ _, fun _ _ _ => rfl⟩
  | succ n ih =>
    intro w s x cb h f hB hx hd hcb hco
    obtain ⟨c0, c1, c2, c3, c4, c5⟩ := h.fcell hx
    have hr := h.row x hx
    have HM := Lib.hid h
    rcases row_form hr with ⟨e, e0⟩ | ⟨r, c, e⟩
    · have hk0 : s.kids x = [] := List.eq_nil_of_length_eq_zero e0
      have hl : liftA s.kids s.sp s.en (n + 1) s.al x = s.al := by
        show (s.kids x).foldl _ s.al = s.al
        rw [hk0]; rfl
      rw [hl]
      rw [e] at c5
      clear h f hB hx hd hcb hco hr hk0 e hl ih
      go_enter Try.func52, Try.ntmps52
      go_wp2_with fail
      go_loopw [11] (fun i wr => i = .int .i64 0 ∧ wr = w) (fun _ _ => 0)
      case atStart => exact ⟨rfl, rfl⟩
      case round =>
        obtain ⟨rfl, rfl⟩ := hrel
        go_wp2_with fail
        go_end0
        exact ⟨rfl, HM.out, Turn.refl _ _, fun _ _ _ => rfl⟩
    · obtain ⟨A, hA⟩ : ∃ A : Nat → Int → Int, A = fun k => ((s.kids x).take k).foldl (fun al y => stepA s.sp s.en (liftA s.kids s.sp s.en n al y) x y) s.al := ⟨_, rfl⟩
      have hA0 : A 0 = s.al := by rw [hA]; rfl
      have hAn : liftA s.kids s.sp s.en (n + 1) s.al x = A (s.kids x).length := by
        rw [hA]
        show (s.kids x).foldl _ s.al = ((s.kids x).take (s.kids x).length).foldl _ s.al
        rw [List.take_length]
      have hAs : ∀ k (hk : k < (s.kids x).length), A (k + 1) = stepA s.sp s.en (liftA s.kids s.sp s.en n (A k) (s.kids x)[k]) x (s.kids x)[k] := by
        intro k hk
        rw [hA]
        exact foldl_take _ _ _ hk _
      have hAB : ∀ k, k ≤ (s.kids x).length → Bal s.ids s.sp s.en (A k) := by
        intro k
        induction k with
        | zero => intro _; rw [hA0]; exact hB
        | succ k ihk =>
          intro hk
          have hy := f.kin x hx _ (List.getElem_mem (show k < (s.kids x).length by omega))
          rw [hAs k (by omega)]
          exact stepA_bal f (liftA_bal f n _ _ hy.1 (ihk (by omega))) hx hy.1 hy.2
      rw [hAn]
      rw [e] at c5
      have HA0 := Lib.hid hA0
      have HAs := Lib.hid hAs
      have HAB := Lib.hid hAB
      have HF := Lib.hid f
      have HX := Lib.hid hx
      have HD := Lib.hid hd
      have HC := Lib.hid hcb
      have HO := Lib.hid hco
      have HE := Lib.hid e
      have HI := Lib.hid ih
      have hkl := f.kl x hx
      clear h f hB hx hd hcb hco hr e hA hA0 hAn hAs hAB ih
      go_enter Try.func52, Try.ntmps52
      go_wp2_with fail
      go_loopw [11] (fun i wr => ∃ k : Nat, k ≤ (s.kids x).length ∧ i = .int .i64 k ∧ Mem wr { s with al := A k } ∧ Turn s w { s with al := A k } wr ∧ Blk wr cb #[.func (.func 52) #[] #[.pointer (some ⟨cb, 0, none⟩)]] 81 ∧ Same s w wr) (fun i _ => (s.kids x).length - (intOf i).toNat)
      case atStart => exact ⟨0, by omega, rfl, by rw [HA0.out]; exact HM.out, by rw [HA0.out]; exact Turn.refl _ _, HC.out, fun _ _ _ => rfl⟩
      case round =>
        obtain ⟨k, hk, rfl, hM, hT, hcb, hSm⟩ := hrel
        have SM := Lib.hid hSm
        clear hSm
        have M0 := Lib.hid hM
        have T0 := Lib.hid hT
        have C0 := Lib.hid hcb
        clear hM hT hcb
        by_cases hlt : k < (s.kids x).length
        · obtain ⟨y, hy⟩ : ∃ y, y = (s.kids x)[k] := ⟨_, rfl⟩
          have hyx := HF.out.kin x HX.out y (by rw [hy]; exact List.getElem_mem hlt)
          have hstep := HAs.out k hlt
          rw [← hy] at hstep
          have hrow : wr.ownsRow 0 68 1 (.slice (some ⟨r, 0, none⟩) (s.kids x).length c) (s.kids x).length ((s.kids x).map fun y => ptr (s.g y)) := by
            have := M0.out.row x HX.out
            rw [show ({ s with al := A k } : FS).bl x = s.bl x from rfl, HE.out] at this
            exact this
          have hcell := row_cell hrow k (ptr (s.g y)) (by rw [List.getElem?_map, List.getElem?_eq_getElem hlt, ← hy]; rfl)
          have hc0 : wr.cell? ⟨cb, 0, none⟩ = some (.func (.func 52) #[] #[.pointer (some ⟨cb, 0, none⟩)]) := C0.out.cell 0
          have hI := Lib.hid (HI.out wr { s with al := A k } y cb M0.out HF.out (HAB.out k hk) hyx.1 (HD.out y (by rw [hy]; exact List.getElem_mem hlt)) C0.out HO.out)
          have hB1 := liftA_bal HF.out n (A k) y hyx.1 (HAB.out k hk)
          obtain ⟨B, hBe⟩ : ∃ B, B = liftA s.kids s.sp s.en n (A k) y := ⟨_, rfl⟩
          have hI2 : RowKit.Hid (Calls Try.prog 52 #[.pointer (some ⟨s.g y, 0, none⟩), .pointer (some ⟨cb, 0, none⟩)] wr fun r w' => r = .returned (.tuple #[]) ∧ Mem w' { s with al := B } ∧ Turn { s with al := A k } wr { s with al := B } w' ∧ Same s wr w') := by rw [hBe]; exact hI.out
          rw [← hBe] at hstep hB1
          have HB1 := Lib.hid hB1
          have HST := Lib.hid hstep
          have HYX := Lib.hid hyx
          have n1 := HF.out.sp y hyx.1
          have n2 := HF.out.en y hyx.1
          have n3 := hB1.le y hyx.1
          have n4 := (hB1.num HF.out).al y hyx.1
          have n5 := (hB1.num HF.out).al x HX.out
          have n6 := hB1.le x HX.out
          have n7 := HF.out.sp x HX.out
          have n8 := HF.out.en x HX.out
          clear hBe hI hrow hstep hyx hB1 hy
          simp only at n4 n5
          go_wp2_with fail
          refine hI2.out.mono ?_
          rintro e w1 ⟨rfl, hM1, hT1, hS1⟩
          have SM1 := Lib.hid (show Same s w w1 from fun i hi hz => (hS1 i (Nat.lt_of_lt_of_le hi T0.out.size) hz).trans (SM.out i hi hz))
          clear hS1 SM
          have M1 := Lib.hid hM1
          have T1 := Lib.hid hT1
          clear hM1 hT1 hc0 hcell hI2
          go_wp2_with fail
          refine (free_any (M1.out.fund y HYX.out.1) n1 n2 n3 n4).mono ?_
          rintro e w2 ⟨rfl, k2, rfl⟩
          have M2 := Lib.hid (M1.out.drewN k2)
          have T2 := Lib.hid (T1.out.trans (Turn.of_below (bdrewN (Below.refl _ _) k2)))
          have SM2 : RowKit.Hid (Same s w (w1.drewN k2)) := SM1.out
          clear SM1
          generalize w1.drewN k2 = w2 at *
          obtain ⟨a0, a1, a2, a3, a4, a5⟩ := M2.out.fcell HYX.out.1
          obtain ⟨b0, b1, b2, b3, b4, b5⟩ := M2.out.fcell HX.out
          have af := (M2.out.fund y HYX.out.1).frozen
          have bf := (M2.out.fund x HX.out).frozen
          have hg := M2.out.gne HYX.out.1 HX.out HYX.out.2
          have hg' : ¬ s.g x = s.g y := fun e => hg e.symm
          simp only at a0 a1 a2 a3 a4 a5 b0 b1 b2 b3 b4 b5 af bf hg
          clear M1 T1
          go_wp2_with fail
          have hfin : B y - (B y - s.sp y - s.en y) = B y - (B y - s.sp y - s.en y) := rfl
          refine ⟨⟨k + 1, by omega, by go_num, ?_, ?_, ?_, ?_⟩, by simp [intOf]; omega⟩
          · rw [HST.out]
            exact (M2.out.setAl HYX.out.1 _).setAl (x := x) HX.out _
          · rw [HST.out]
            exact (T0.out.trans T2.out).trans ((Turn.setOwn (s := { s with al := B }) ⟨s.g y, 2, none⟩ _ (M2.out.fow HYX.out.1) { s with al := upd B y (B y - (B y - s.sp y - s.en y)) } rfl).trans (Turn.setOwn (s := { s with al := upd B y (B y - (B y - s.sp y - s.en y)) }) ⟨s.g x, 2, none⟩ _ (M2.out.fow HX.out) _ rfl))
          · have hcb2 := T2.out.blk C0.out HO.out
            exact (hcb2.set_ne _ _ (own_ne (s := s) (i := cb) (j := s.g y) (a := .none) (b := .fund y) (by simp) HO.out (M2.out.ofund y HYX.out.1))).set_ne _ _ (own_ne (s := s) (i := cb) (j := s.g x) (a := .none) (b := .fund x) (by simp) HO.out (M2.out.ofund x HX.out))
          · exact fun i hi hz => (Below.heap_setCell _ _ _ _ (fun e => hz x (by rw [e]; exact M2.out.ofund x HX.out))).trans ((Below.heap_setCell _ _ _ _ (fun e => hz y (by rw [e]; exact M2.out.ofund y HYX.out.1))).trans (SM2.out i hi hz))
        · obtain rfl : k = (s.kids x).length := by omega
          go_wp2_with fail
          go_end0
          exact ⟨rfl, M0.out, T0.out, SM.out⟩
end Go.Proofs.Ytmnkgjgaileokaa
