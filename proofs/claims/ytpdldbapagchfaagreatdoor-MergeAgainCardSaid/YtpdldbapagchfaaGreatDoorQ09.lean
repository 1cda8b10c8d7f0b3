/- The policies. -/
import Derived.Test.YtpdldbapagchfaaGreatDoorQ08
import Derived.Test.YtpdldbapagchfaaGreatDoorQ03
import Derived.Test.YtpdldbapagchfaaGreatDoorQ07
import Derived.Lib.SliceRun
set_option linter.unusedVariables false
set_option linter.unusedSimpArgs false

namespace Go.Proofs.YtpdldbapagchfaaGreatDoor
open Go.RowKit Go.Shelf Go.Maps

/-- The policies: how a tag begins, and what is kept. -/
def polsL : List (ByteArray × Nat) := [(⟨#[57]⟩, 49), (⟨#[48, 48]⟩, 50), (⟨#[48, 49, 48]⟩, 50), (⟨#[48, 52, 48]⟩, 50), (⟨#[49, 48, 48]⟩, 50), (⟨#[49, 49, 48]⟩, 50), (⟨#[50, 52, 53]⟩, 50), (⟨#[]⟩, 51)]
def polV (p : ByteArray × Nat) : List Value := [.string p.1, .func (.func p.2) #[] #[]]
def polCells (l : List (ByteArray × Nat)) : List Value := l.flatMap polV
theorem infoPol : (Tryz.prog.info? 78).map (fun i => (i.zero, i.size, i.bytes)) = some (some (.agg #[.string ⟨#[]⟩, .nilFunc]), 2, 24) := by kernel_rfl
theorem info_Pol : ∃ i, Tryz.prog.info? 78 = some i ∧ i.zero = some (.agg #[.string ⟨#[]⟩, .nilFunc]) ∧ i.size = 2 ∧ i.bytes = 24 := by
  obtain ⟨i, hi, h⟩ := Option.map_eq_some_iff.1 infoPol
  injection h with h1 h2
  injection h2 with h2 h3
  exact ⟨i, hi, h1, h2, h3⟩
def polStr : List ByteArray := [⟨#[48, 48]⟩, ⟨#[48, 49, 48]⟩, ⟨#[48, 52, 48]⟩, ⟨#[49, 48, 48]⟩, ⟨#[49, 49, 48]⟩, ⟨#[50, 52, 53]⟩]
theorem pols_step (k : Nat) (h : k < 6) (s : ByteArray) (hs : polStr[k]? = some s) : polCells (polsL.take (k + 1 + 1)) = polCells (polsL.take (k + 1)) ++ [.string s, .func (.func 50) #[] #[]] := by
  have : k = 0 ∨ k = 1 ∨ k = 2 ∨ k = 3 ∨ k = 4 ∨ k = 5 := by omega
  rcases this with rfl | rfl | rfl | rfl | rfl | rfl <;> (simp [polStr] at hs; subst hs; rfl)
theorem row_not {W : World} {t e : TypeId} {g : Nat} {cs : Array Value} {base size k : Nat} {v : Value} {xs : List Value} (h : Blk W g cs t) (hte : t ≠ e) (hr : W.ownsRow base e size v k xs) : some g ≠ v.ownBlock := by
  rcases hr.2 with ⟨rfl, _⟩ | ⟨b, cap, cur, rfl, _, hgb, _⟩
  · simp [Value.ownBlock]
  · intro e'
    obtain rfl : g = b := by simpa [Value.ownBlock] using e'
    have h' : W.heap[g]? = _ := h
    rw [h'] at hgb
    injection hgb with hgb; injection hgb with _ hgb; exact hte hgb
theorem row_base {W : World} {e : TypeId} {base size k : Nat} {v : Value} {xs : List Value} (hr : W.ownsRow base e size v k xs) : ∀ r, v.ownBlock = some r → base ≤ r := fun r e' => by
  rcases hr.2 with ⟨rfl, _⟩ | ⟨g, cap, cur, rfl, hbg, _, _⟩
  · simp [Value.ownBlock] at e'
  · obtain rfl : g = r := by simpa [Value.ownBlock] using e'
    exact hbg
set_option maxRecDepth 100000 in
set_option maxHeartbeats 4000000 in
theorem policies_any (w : World) : Calls Tryz.prog 32 #[] w fun e w' => ∃ v, e = .returned v ∧ w'.ownsRow w.heap.size 78 2 v 8 (polCells polsL) ∧ Below w.heap.size w w' := by
  obtain ⟨i0, hi, hz1, hz2, hz3⟩ := info_Pol
  obtain ⟨gs, hgs⟩ : ∃ gs, gs = w.heap.size + 1 := ⟨_, rfl⟩
  obtain ⟨W1, hW1⟩ : ∃ W1, W1 = (w.alloc (.cells #[.string ⟨#[57]⟩, .func (.func 49) #[] #[]] 78)).alloc (.cells #[.string ⟨#[48, 48]⟩, .string ⟨#[48, 49, 48]⟩, .string ⟨#[48, 52, 48]⟩, .string ⟨#[49, 48, 48]⟩, .string ⟨#[49, 49, 48]⟩, .string ⟨#[50, 52, 53]⟩] 9) := ⟨_, rfl⟩
  have B1 : RowKit.Hid (Below w.heap.size w W1) := Lib.hid (by rw [hW1]; exact ((Below.refl _ _).alloc (Nat.le_refl _) _).alloc (by simp) _)
  have K1 : RowKit.Hid (Blk W1 gs (polStr.map Value.string).toArray 9) := Lib.hid (by rw [hW1, hgs]; exact Blk.at_new (by simp) _ _)
  have R1 : RowKit.Hid (W1.ownsRow w.heap.size 78 2 (.slice (some ⟨w.heap.size, 0, none⟩) 1 1) 1 (polCells (polsL.take 1))) := Lib.hid (by
    refine ⟨rfl, .inr ⟨w.heap.size, 1, (polV (⟨#[57]⟩, 49)).toArray, rfl, Nat.le_refl _, ?_, Nat.le_refl _, by unfold maxLen; omega, rfl, rfl⟩⟩
    rw [hW1]; exact (Blk.new _ _ _).alloc _)
  go_enter Tryz.func32, Tryz.ntmps32
  go_wp2_with fail
  rw [← hW1, ← hgs]
  have hgl : w.heap.size < gs := by omega
  clear hW1 hgs
  go_loopw [1, 8] (fun v i wr => ∃ k : Nat, k ≤ 6 ∧ i = .int .i64 k ∧ wr.ownsRow w.heap.size 78 2 v (k + 1) (polCells (polsL.take (k + 1))) ∧ Blk wr gs (polStr.map Value.string).toArray 9 ∧ Below w.heap.size w wr) (fun _ i _ => 6 - (intOf i).toNat)
  case atStart => exact ⟨0, by omega, rfl, R1.out, K1.out, B1.out⟩
  case round =>
    obtain ⟨k, hk, rfl, hr, hK, hb⟩ := hrel
    have HR := Lib.hid hr
    have HK := Lib.hid hK
    have HB := Lib.hid hb
    have HBG := Lib.hid (row_base hr)
    have hzw : w.heap.size ≤ wr.heap.size := hb.size
    clear hr hK hb R1 K1 B1
    by_cases hlt : k < 6
    · have hlp : k < polStr.length := hlt
      obtain ⟨s, hs⟩ : ∃ s, s = polStr[k] := ⟨_, rfl⟩
      have hsk : polStr[k]? = some s := by rw [hs]; exact List.getElem?_eq_getElem _
      have HST := Lib.hid (pols_step k hlt s hsk)
      have hc0 : wr.cell? ⟨gs, k, none⟩ = some (.string s) := by
        have h1 := HK.out
        unfold Blk at h1
        simp only [World.cell?, h1]
        simp [hsk]
      clear hs hsk hlp
      go_wp2_with (at_builtin; go_loud (refine wpList_append_all rfl (.tmp 12) (.tmp 15) 73 rfl w.heap.size 78 i0 _ 2 24 Tryz.underlying73 hi hz1 hz2 hz3 rfl (by omega) _ (k + 1) (polCells (polsL.take (k + 1))) rfl (HR.out.alloc _) 1 [.string s, .func (.func 50) #[] #[]] _ rfl (src_row (row_fresh' _ (by simp) 0 _ 78 2 1 rfl (by unfold maxLen; omega) (Nat.zero_le _))) (by simp [Value.oneCell']) (by unfold maxLen; omega) (by omega) (by simp; omega) ?_); intro v' w4 hr4 hg4 ho4; have HR4 := Lib.hid hr4; have HG4 := Lib.hid hg4; have HO4 := Lib.hid ho4; clear hr4 hg4 ho4)
      have HKA := Lib.hid (Blk.alloc HK.out (.cells #[.string s, .func (.func 50) #[] #[]] 78))
      refine ⟨⟨k + 1, hlt, by go_num, by rw [HST.out]; exact HR4.out, (HG4.out.block gs HKA.out.lt (row_not HKA.out (by decide) (HR.out.alloc _))).trans HKA.out, HB.out.trans (below_grown ((Below.refl _ _).alloc hzw _) (by simp; omega) HG4.out (fun r e => HBG.out r e))⟩, by simp [intOf]; omega⟩
    · obtain rfl : k = 6 := by omega
      go_wp2_with (at_builtin; go_loud (refine wpList_append_all rfl (.tmp 18) (.tmp 20) 73 rfl w.heap.size 78 i0 _ 2 24 Tryz.underlying73 hi hz1 hz2 hz3 rfl (by omega) _ 7 (polCells (polsL.take 7)) rfl (HR.out.alloc _) 1 [.string ⟨#[]⟩, .func (.func 51) #[] #[]] _ rfl (src_row (row_fresh' _ (by simp) 0 _ 78 2 1 rfl (by unfold maxLen; omega) (Nat.zero_le _))) (by simp [Value.oneCell']) (by unfold maxLen; omega) (by omega) (by simp; omega) ?_); intro v' w4 hr4 hg4 ho4; have HR4 := Lib.hid hr4; have HG4 := Lib.hid hg4; have HO4 := Lib.hid ho4; clear hr4 hg4 ho4)
      go_ret
      refine ⟨_, rfl, HR4.out, HB.out.trans (below_grown ((Below.refl _ _).alloc hzw _) (by simp; omega) HG4.out (fun r e => HBG.out r e))⟩
end Go.Proofs.YtpdldbapagchfaaGreatDoor

/- Which policy holds for a tag. -/
namespace Go.Proofs.YtpdldbapagchfaaGreatDoor
open Go.RowKit Go.Shelf Go.Maps

def holdsB (b t : ByteArray) : Bool := decide (t = b) || (decide (b.size < 3) && Lib.hasPrefix t.data.toList b.data.toList)
theorem toList_data (a : ByteArray) : a.toList = a.data.toList := ByteArray.toList_eq a
theorem toList_inj {a b : ByteArray} (h : a.toList = b.toList) : a = b := by
  rw [toList_data, toList_data] at h
  cases a; cases b; congr; exact Array.toList_inj.1 h
set_option maxRecDepth 100000 in
set_option maxHeartbeats 2000000 in
theorem holds_any (b t : ByteArray) (fv : Value) (w : World) : Calls Tryz.prog 35 #[.agg #[.string b, fv], .string t] w fun e w' => e = .returned (.bool (holdsB b t)) ∧ Below w.heap.size w w' := by
  have c0 : (w.alloc (.cells #[.string b, fv] 78)).cell? ⟨w.heap.size, 0, none⟩ = some (.string b) := (Blk.new _ _ _).cell 0
  have HB : RowKit.Hid (Below w.heap.size w (w.alloc (.cells #[.string b, fv] 78))) := Lib.hid ((Below.refl _ _).alloc (Nat.le_refl _) _)
  by_cases h : t = b
  · have e1 : (t.toList == b.toList) = true := by rw [h]; simp
    have e2 : decide (t.toList = b.toList) = true := by rw [h]; simp
    have HR : RowKit.Hid (holdsB b t = true) := Lib.hid (by unfold holdsB; rw [decide_eq_true h]; rfl)
    clear h
    go_enter Tryz.func35, Tryz.ntmps35
    go_wp2_with fail
    go_ret
    exact ⟨by rw [HR.out]; rfl, HB.out⟩
  · have e0 : ¬ t.toList = b.toList := fun e => h (toList_inj e)
    have e1 : (t.toList == b.toList) = false := by simpa using e0
    have e2 : decide (t.toList = b.toList) = false := by simpa using e0
    clear e0
    by_cases h3 : b.size < 3
    · have e3 : decide (b.size < 3) = true := by simpa using h3
      have e4 : decide ((b.size : Int) < 3) = true := by simp; omega
      have HR : RowKit.Hid (holdsB b t = Lib.hasPrefix t.data.toList b.data.toList) := Lib.hid (by unfold holdsB; rw [decide_eq_false h, e3]; rfl)
      clear h h3
      go_enter Tryz.func35, Tryz.ntmps35
      go_wp2_with fail
      refine (Tryz.strings_HasPrefix t b _).mono ?_
      rintro e w1 ⟨rfl, rfl⟩
      obtain ⟨bb, hbb⟩ : ∃ bb, bb = Lib.hasPrefix t.data.toList b.data.toList := ⟨_, rfl⟩
      rw [← hbb]
      have HBE := Lib.hid hbb
      clear hbb
      go_wp2_with fail
      go_ret
      exact ⟨by rw [HR.out, ← HBE.out]; rfl, HB.out⟩
    · have e3 : decide (b.size < 3) = false := by simpa using h3
      have e4 : decide ((b.size : Int) < 3) = false := by simp; omega
      have HR : RowKit.Hid (holdsB b t = false) := Lib.hid (by unfold holdsB; rw [decide_eq_false h, e3]; rfl)
      clear h h3
      go_enter Tryz.func35, Tryz.ntmps35
      go_wp2_with fail
      go_ret
      exact ⟨by rw [HR.out]; rfl, HB.out⟩
set_option maxRecDepth 100000 in
set_option maxHeartbeats 2000000 in
theorem isOf_any (b t : ByteArray) (fv : Value) (h1 : fv.oneCell' = true) (tb : Nat) (w : World) (ht : w.cell? ⟨tb, 0, none⟩ = some (.string t)) : Calls Tryz.prog 34 #[.agg #[.string b, fv], .pointer (some ⟨tb, 0, none⟩)] w fun e w' => e = .returned (.bool (holdsB b t)) ∧ Below w.heap.size w w' := by
  have K1 : RowKit.Hid (Blk (w.alloc (.cells #[.string b, fv] 78)) w.heap.size #[.string b, fv] 78) := Lib.hid (Blk.new _ _ _)
  have HB : RowKit.Hid (Below w.heap.size w (w.alloc (.cells #[.string b, fv] 78))) := Lib.hid ((Below.refl _ _).alloc (Nat.le_refl _) _)
  have ht1 : (w.alloc (.cells #[.string b, fv] 78)).cell? ⟨tb, 0, none⟩ = some (.string t) := Below.cellE HB.out ht
  clear ht
  go_enter Tryz.func34, Tryz.ntmps34
  go_wp2_with (refine wpList_load_row 78 (.tmp 2) rfl rfl rfl K1.out Tryz.underlying78 rfl (by kernel_rfl) ?_)
  refine (holds_any b t fv _).mono ?_
  rintro e w2 ⟨rfl, hb2⟩
  have HB2 := Lib.hid (HB.out.trans (hb2.mono HB.out.size))
  clear hb2
  go_wp2_with fail
  go_ret
  exact ⟨rfl, HB2.out⟩
end Go.Proofs.YtpdldbapagchfaaGreatDoor

/- The place of a tag's policy. -/
namespace Go.Proofs.YtpdldbapagchfaaGreatDoor
open Go.RowKit Go.Shelf Go.Maps

def idxP (t : ByteArray) : Nat := polsL.findIdx fun p => holdsB p.1 t
theorem holds_nil (t : ByteArray) : holdsB ⟨#[]⟩ t = true := by
  unfold holdsB
  have : Lib.hasPrefix t.data.toList (⟨#[]⟩ : ByteArray).data.toList = true := by simp [Lib.hasPrefix]
  rw [this]
  simp
  right; decide
theorem idxP_lt (t : ByteArray) : idxP t < 8 := by
  refine List.findIdx_lt_length_of_exists ⟨(⟨#[]⟩, 51), by simp [polsL], holds_nil t⟩
theorem idxP_at {t : ByteArray} {k : Nat} (hk : k < polsL.length) (h1 : holdsB polsL[k].1 t = true) (h0 : ∀ j (h : j < polsL.length), j < k → holdsB polsL[j].1 t = false) : idxP t = k :=
  (List.findIdx_eq hk).2 ⟨h1, fun j hj => h0 j _ hj⟩
theorem polCells_at {k : Nat} (hk : k < polsL.length) (i : Nat) : i < 2 → (polCells polsL)[k * 2 + i]? = (polV polsL[k])[i]? := by
  have h8 : k < 8 := hk
  intro hi
  have : k = 0 ∨ k = 1 ∨ k = 2 ∨ k = 3 ∨ k = 4 ∨ k = 5 ∨ k = 6 ∨ k = 7 := by omega
  have : i = 0 ∨ i = 1 := by omega
  rcases this with rfl | rfl <;> rcases ‹k = 0 ∨ _› with rfl | rfl | rfl | rfl | rfl | rfl | rfl | rfl <;> rfl
set_option maxRecDepth 100000 in
set_option maxHeartbeats 4000000 in
theorem indexP_any {B : Nat} (t : ByteArray) (tb : Nat) {pv : Value} {w : World} (hrow : w.ownsRow B 78 2 pv 8 (polCells polsL)) (ht : w.cell? ⟨tb, 0, none⟩ = some (.string t)) :
    Calls Tryz.prog 33 #[pv, .func (.func 34) #[] #[.pointer (some ⟨tb, 0, none⟩)]] w fun e w' => e = .returned (.int .i64 (idxP t)) ∧ Below w.heap.size w w' := by
  obtain ⟨a, cap, rfl, hcap, hmx, hl, ⟨h0, _⟩ | ⟨g, rfl, _, hbg, hgl, hc⟩⟩ := row_cellz hrow
  · omega
  have HC := Lib.hid hc
  have HT := Lib.hid ht
  clear hrow hc ht hl
  go_enter Tryz.func33, Tryz.ntmps33
  go_wp2_with fail
  go_loopw [8] (fun i wr => ∃ k : Nat, k ≤ 8 ∧ i = .int .i64 k ∧ Below w.heap.size w wr ∧ ∀ j (h : j < polsL.length), j < k → holdsB polsL[j].1 t = false) (fun i _ => 8 - (intOf i).toNat)
  case atStart => exact ⟨0, by omega, rfl, Below.refl _ _, fun j _ h => by omega⟩
  case round =>
    obtain ⟨k, hk, rfl, hb, hall⟩ := hrel
    have HB := Lib.hid hb
    have HA := Lib.hid hall
    clear hb hall
    by_cases hlt : k < 8
    · have hlp : k < polsL.length := hlt
      obtain ⟨p, hp⟩ : ∃ p, p = polsL[k] := ⟨_, rfl⟩
      obtain ⟨p1, hp1⟩ : ∃ p1, p1 = p.1 := ⟨_, rfl⟩
      obtain ⟨p2, hp2⟩ : ∃ p2, p2 = p.2 := ⟨_, rfl⟩
      have HG : RowKit.Hid (wr.rangeAt g (k * 2) [.string p1, .func (.func p2) #[] #[]]) := Lib.hid fun j u hu => by
        have hj : j < 2 := (List.getElem?_eq_some_iff.1 hu).1
        refine (HB.out.cell (p := ⟨g, k * 2 + j, none⟩) hgl).trans (HC.out _ u ?_)
        rw [polCells_at hlp j hj, ← hp, polV, ← hp1, ← hp2]; exact hu
      have HP : RowKit.Hid (p1 = polsL[k].1) := Lib.hid (by rw [hp1, hp])
      clear hp hp1 hp2
      have ht1 : wr.cell? ⟨tb, 0, none⟩ = some (.string t) := Below.cellE HB.out HT.out
      have HH := Lib.hid (isOf_any p1 t (.func (.func p2) #[] #[]) rfl tb wr ht1)
      clear ht1
      go_wp2_with (refine wpList_load_mid rfl 78 (.tmp 14) rfl g (k * 2) rfl [.string p1, .func (.func p2) #[] #[]] _ HG.out Tryz.underlying78 rfl (by kernel_rfl) ?_)
      refine HH.out.mono ?_
      rintro e w2 ⟨rfl, hb2⟩
      have HB2 := Lib.hid (HB.out.trans (hb2.mono HB.out.size))
      clear hb2 HH
      obtain ⟨bb, hbb⟩ : ∃ bb, bb = holdsB p1 t := ⟨_, rfl⟩
      rw [← hbb]
      have HBE := Lib.hid hbb
      clear hbb
      cases bb with
      | true =>
        go_wp2_with fail
        go_ret
        have hi : idxP t = k := idxP_at hlt (by have := HBE.out; rw [HP.out] at this; exact this.symm) HA.out
        exact ⟨by rw [hi]; rfl, HB2.out⟩
      | false =>
        go_wp2_with fail
        exact ⟨⟨k + 1, hlt, by go_num, HB2.out, fun j h hj => by
          by_cases e : j = k
          · subst e; have := HBE.out; rw [HP.out] at this; exact this.symm
          · exact HA.out j h (by omega)⟩, by simp [intOf]; omega⟩
    · exfalso
      obtain rfl : k = 8 := by omega
      have h1 := HA.out 7 (by decide) (by omega)
      exact absurd (h1.symm.trans (holds_nil t)) (by decide)
end Go.Proofs.YtpdldbapagchfaaGreatDoor

/- What is said, in memory; a part of a row by its address; clear at structs. -/
namespace Go.Proofs.YtpdldbapagchfaaGreatDoor
open Go.RowKit Go.Shelf Go.Maps

/-- One that is said, in memory. -/
def SaidC (S : Nat → Prop) (w : World) (cs : List Value) (x : Said) : Prop := ∃ sv, cs = [.string x.1.tag, .string x.1.ind, .string x.1.data, sv, .int .i64 x.2.1, .int .i64 x.2.2] ∧ SubsAt S w sv x.1.subs
theorem keeps_said : Keeps SaidC := fun _ _ _ _ _ _ h hs hS => by
  obtain ⟨sv, e, h⟩ := h; exact ⟨sv, e, SubsAt.keep h hs hS⟩
theorem one_said (S : Nat → Prop) (w : World) (c : List Value) (x : Said) (h : SaidC S w c x) : ∀ u ∈ c, u.oneCell' = true := by
  obtain ⟨sv, rfl, a, cap, rfl, _⟩ := h
  simp [Value.oneCell']
theorem said_len {S : Nat → Prop} {w : World} {c : List Value} {x : Said} (h : SaidC S w c x) : c.length = 6 := by obtain ⟨sv, rfl, _⟩ := h; rfl
theorem wpList_cut_to_at {P : Program} {ops : Array Oper} {rest : List Oper} {W : World} {o : Oper} {a : Act} {Q : Exit → Act → World → Prop} (hgd : o.guard = none) (x y : Operand) (t : TypeId)
    (ho : o.op = .slice t x none (some y) none) (ht : P.underlying t = some (.slice (P.elem t))) {z : Nat} (hz : (P.info? (P.elem t)).map (·.size) = some z)
    (g n cap : Nat) (hx : a.eval x = .slice (some ⟨g, 0, none⟩) n cap) (k : Nat) (hy : a.eval y = .int .i64 k) (hk : k ≤ cap)
    (h : wpList P ops Q rest (a.put o.dst (.slice (some ⟨g, 0, none⟩) k cap)) W) : wpList P ops Q (o :: rest) a W := by
  refine wpList_plain hgd fun K hK => ?_
  have hr := run_slice_h (P := P) (w := W) t (some ⟨g, 0, none⟩) n cap ht .i64 (k : Int) (by omega) (by omega)
  have hsz : (sizeOf (P.elem t)).run P W = .ok z W := by
    cases hq : P.info? (P.elem t) with
    | none => simp [hq] at hz
    | some i => simp [hq] at hz; simp [sizeOf, typeInfo, hq, hz]
  rw [hsz] at hr
  have e : sliced (some ⟨g, 0, none⟩) 0 k cap z = .slice (some ⟨g, 0, none⟩) k cap := by
    unfold sliced; split <;> simp [Addr.add]
  simp only [Result.andThen, Int.toNat_natCast, e] at hr
  unfold Oper.wp execOp
  simp only [ho, hx, hy, Option.map_some, Option.map_none, run_sliceAt_slice (w := W) t _ _ _ _ ht, Sem.run_bind, hr, Result.andThen]
  exact hK _ _ h
theorem wpList_cut_from_at {P : Program} {ops : Array Oper} {rest : List Oper} {W : World} {o : Oper} {a : Act} {Q : Exit → Act → World → Prop} (hgd : o.guard = none) (x y : Operand) (t : TypeId)
    (ho : o.op = .slice t x (some y) none none) (ht : P.underlying t = some (.slice (P.elem t))) {z : Nat} (hz : (P.info? (P.elem t)).map (·.size) = some z)
    (g n cap : Nat) (hx : a.eval x = .slice (some ⟨g, 0, none⟩) n cap) (k : Nat) (hy : a.eval y = .int .i64 k) (hk : k < n) (hnc : n ≤ cap)
    (h : wpList P ops Q rest (a.put o.dst (.slice (some ⟨g, k * z, none⟩) (n - k) (cap - k))) W) : wpList P ops Q (o :: rest) a W := by
  refine wpList_plain hgd fun K hK => ?_
  have hr := run_slice_l (P := P) (w := W) t (some ⟨g, 0, none⟩) n cap ht .i64 (k : Int) (by omega) (by omega)
  have hsz : (sizeOf (P.elem t)).run P W = .ok z W := by
    cases hq : P.info? (P.elem t) with
    | none => simp [hq] at hz
    | some i => simp [hq] at hz; simp [sizeOf, typeInfo, hq, hz]
  rw [hsz] at hr
  have e : sliced (some ⟨g, 0, none⟩) k n cap z = .slice (some ⟨g, k * z, none⟩) (n - k) (cap - k) := by
    unfold sliced; rw [if_neg (by omega)]; simp [Addr.add]; intro h; omega
  simp only [Result.andThen, Int.toNat_natCast, e] at hr
  unfold Oper.wp execOp
  simp only [ho, hx, hy, Option.map_some, Option.map_none, run_sliceAt_slice (w := W) t _ _ _ _ ht, Sem.run_bind, hr, Result.andThen]
  exact hK _ _ h
theorem infoSaidM : (Tryz.prog.info? 71).map (fun i => (i.zero, i.size, i.bytes)) = some (some (.agg #[.string ⟨#[]⟩, .string ⟨#[]⟩, .string ⟨#[]⟩, .slice none 0 0, .int .i64 0, .int .i64 0]), 6, 88) := by kernel_rfl
theorem info_SaidM : ∃ i, Tryz.prog.info? 71 = some i ∧ i.zero = some (.agg #[.string ⟨#[]⟩, .string ⟨#[]⟩, .string ⟨#[]⟩, .slice none 0 0, .int .i64 0, .int .i64 0]) ∧ i.size = 6 ∧ i.bytes = 88 := by
  obtain ⟨i, hi, h⟩ := Option.map_eq_some_iff.1 infoSaidM
  injection h with h1 h2
  injection h2 with h2 h3
  exact ⟨i, hi, h1, h2, h3⟩
/-- The cells that clear writes. -/
def zeros6 (n : Nat) : List Value := (Builtin.zeroCells #[.string ⟨#[]⟩, .string ⟨#[]⟩, .string ⟨#[]⟩, .slice none 0 0, .int .i64 0, .int .i64 0] n).toList
theorem zeros6_len (n : Nat) : (zeros6 n).length = n * 6 := by simp [zeros6, Builtin.zeroCells]
theorem zeros6_one (n : Nat) : ∀ v ∈ zeros6 n, v.oneCell' = true := by
  intro v hv
  simp only [zeros6, Builtin.zeroCells, Array.toList_map, List.mem_map] at hv
  obtain ⟨i, _, rfl⟩ := hv
  have hi : i % 6 < 6 := Nat.mod_lt _ (by omega)
  generalize hm : i % (#[Value.string ⟨#[]⟩, .string ⟨#[]⟩, .string ⟨#[]⟩, .slice none 0 0, .int .i64 0, .int .i64 0] : Array Value).size = m
  have hm6 : m < 6 := by rw [← hm]; exact hi
  have : m = 0 ∨ m = 1 ∨ m = 2 ∨ m = 3 ∨ m = 4 ∨ m = 5 := by omega
  rcases this with rfl | rfl | rfl | rfl | rfl | rfl <;> rfl
theorem run_clear6 (w : World) (b o n c : Nat) (hn : 0 < n)
    (hc : ∀ j, j < n * 6 → (w.cell? ⟨b, o + j, none⟩).isSome = true) (hf : ∀ j, j < n * 6 → w.frozen? ⟨b, o + j, none⟩ = false) (ty : TypeId) :
    (Builtin.clear_ #[67] ty #[.slice (some ⟨b, o, none⟩) n c]).run Tryz.prog w = .ok (.tuple #[]) (w.setCells b o (zeros6 n)) := by
  have hst := run_storeCells_cells (P := Tryz.prog) b o (zeros6 n) 0 w (by rw [zeros6_len]; simpa using hc) (by rw [zeros6_len]; simpa using hf) (zeros6_one n)
  simp only [Nat.add_zero] at hst
  obtain ⟨m, rfl⟩ : ∃ m, n = m + 1 := ⟨n - 1, by omega⟩
  obtain ⟨i0, hi, hz1, _, _⟩ := info_SaidM
  have hv : ∀ w, (zeroValue 71).run Tryz.prog w = .ok (.agg #[.string ⟨#[]⟩, .string ⟨#[]⟩, .string ⟨#[]⟩, .slice none 0 0, .int .i64 0, .int .i64 0]) w := fun w => by
    simp [zeroValue, typeInfo, hi, hz1]
  have hzc : (Builtin.zeroCells (Value.agg #[.string ⟨#[]⟩, .string ⟨#[]⟩, .string ⟨#[]⟩, .slice none 0 0, .int .i64 0, .int .i64 0]).cells (m + 1)).toList = zeros6 (m + 1) := rfl
  generalize (Value.agg #[.string ⟨#[]⟩, .string ⟨#[]⟩, .string ⟨#[]⟩, .slice none 0 0, .int .i64 0, .int .i64 0]) = z at hv hzc
  generalize zeros6 (m + 1) = zs at hst hzc ⊢
  simp [Builtin.clear_, run_underlying Tryz.underlying67, hv, hzc, hst]
end Go.Proofs.YtpdldbapagchfaaGreatDoor

/- slices.IndexFunc at what is said, with a closure that keeps cells of its own. -/
namespace Go.Proofs.YtpdldbapagchfaaGreatDoor
open Go.RowKit Go.Shelf Go.Maps

/-- The row holds what is said. -/
def RowS (S : Nat → Prop) (g : Nat) (w : World) (l : List Said) : Prop := ∀ j (h : j < l.length), ∃ cs, SaidC S w cs l[j] ∧ w.rangeAt g (j * 6) cs
theorem Tn.range {F : Nat → Prop} {w w' : World} {g o : Nat} {cs : List Value} (t : Tn F w w') (h : w.rangeAt g o cs) (hg : ¬ F g) (hl : g < w.heap.size) : w'.rangeAt g o cs := fun j u hu => by
  have h1 := h j u hu
  simp only [World.cell?, t.block g hl hg] at h1 ⊢
  exact h1
theorem RowS.keep {S F : Nat → Prop} {g : Nat} {w w' : World} {l : List Said} (h : RowS S g w l) (t : Tn F w w') (hS : ∀ b, S b → ¬ F b) (hg : ¬ F g) (hl : g < w.heap.size) : RowS S g w' l := fun j hj => by
  obtain ⟨cs, h1, h2⟩ := h j hj
  exact ⟨cs, keeps_said _ _ _ _ _ _ h1 (Stay.of_tn t fun b hb _ => hS b hb) (fun _ h _ => h), Tn.range t h2 hg hl⟩
/-- What a closure that is called once for each does. -/
def DelC (P : Program) (pf pb : Nat) (S F : Nat → Prop) (l : List Said) (del : Nat → Bool) (J : Nat → World → Prop) : Prop :=
  ∀ j (h : j < l.length) W cs, J j W → SaidC S W cs l[j] → Calls P pf #[.agg cs.toArray, .pointer (some ⟨pb, 0, none⟩)] W fun e W' => e = .returned (.bool (del j)) ∧ J (j + 1) W' ∧ Tn F W W'
set_option maxRecDepth 100000 in
set_option maxHeartbeats 4000000 in
theorem indexS_any {pf pb g n cap : Nat} {S F : Nat → Prop} {l : List Said} {del : Nat → Bool} {J : Nat → World → Prop} {w : World} (eg : ∀ args w, (callFunc pf args).run Tryz.prog w = .ok (.enter pf args) w) (hn : l.length = n) (hn1 : n ≤ 100000) (hrow : RowS S g w l)
    (hgl : g < w.heap.size) (hFg : ¬ F g) (hFS : ∀ b, S b → ¬ F b) (hcall : DelC Tryz.prog pf pb S F l del J) (h0 : J 0 w) :
    Calls Tryz.prog 94 #[.slice (some ⟨g, 0, none⟩) n cap, .func (.func pf) #[] #[.pointer (some ⟨pb, 0, none⟩)]] w fun e W' => Tn F w W' ∧
      (((∀ m, m < n → del m = false) ∧ e = .returned (.int .i64 (-1)) ∧ J n W') ∨ ∃ d : Nat, d < n ∧ (∀ m, m < d → del m = false) ∧ del d = true ∧ e = .returned (.int .i64 d) ∧ J (d + 1) W') := by
  have HROW := Lib.hid hrow
  have HCALL := Lib.hid hcall
  have HFS := Lib.hid hFS
  have HFG := Lib.hid hFg
  have HJ0 := Lib.hid h0
  have HN := Lib.hid hn
  clear hrow hcall hFS hFg h0 hn
  go_enter Tryz.func94, Tryz.ntmps94
  go_wp2_with fail
  go_loopw [8] (fun i wr => ∃ k : Nat, k ≤ n ∧ i = .int .i64 k ∧ Tn F w wr ∧ J k wr ∧ ∀ m, m < k → del m = false) (fun i _ => n - (intOf i).toNat)
  case atStart => exact ⟨0, by omega, rfl, Tn.refl _ _, HJ0.out, fun j h => by omega⟩
  case round =>
    obtain ⟨k, hk, rfl, ht, hj, hall⟩ := hrel
    have HT := Lib.hid ht
    have HJ := Lib.hid hj
    have HA := Lib.hid hall
    clear ht hj hall
    by_cases hlt : k < n
    · have hlx : k < l.length := by rw [HN.out]; exact hlt
      obtain ⟨cs, hC, hG⟩ := (HROW.out.keep HT.out HFS.out HFG.out hgl) k hlx
      have HH := Lib.hid (HCALL.out k hlx wr cs HJ.out hC)
      obtain ⟨sv, rfl, -⟩ := hC
      have HG := Lib.hid hG
      clear hG
      obtain ⟨y1, hy1⟩ : ∃ y, y = l[k].1.tag := ⟨_, rfl⟩
      obtain ⟨y2, hy2⟩ : ∃ y, y = l[k].1.ind := ⟨_, rfl⟩
      obtain ⟨y3, hy3⟩ : ∃ y, y = l[k].1.data := ⟨_, rfl⟩
      obtain ⟨y4, hy4⟩ : ∃ y, y = l[k].2.1 := ⟨_, rfl⟩
      obtain ⟨y5, hy5⟩ : ∃ y, y = l[k].2.2 := ⟨_, rfl⟩
      rw [← hy1, ← hy2, ← hy3, ← hy4, ← hy5] at HG HH
      clear hy1 hy2 hy3 hy4 hy5
      go_wp2_with (refine wpList_load_mid rfl 71 (.tmp 14) rfl g (k * 6) rfl [.string y1, .string y2, .string y3, sv, .int .i64 y4, .int .i64 y5] _ HG.out Tryz.underlying71 rfl (by kernel_rfl) ?_)
      refine HH.out.mono ?_
      rintro e w2 ⟨rfl, hj2, ht2⟩
      have HJ2 := Lib.hid hj2
      have HT2 := Lib.hid (HT.out.trans ht2)
      clear hj2 ht2 HH
      obtain ⟨bb, hbb⟩ : ∃ bb, bb = del k := ⟨_, rfl⟩
      rw [← hbb]
      have HBE := Lib.hid hbb
      clear hbb
      cases bb with
      | true =>
        go_wp2_with fail
        go_ret
        exact ⟨HT2.out, .inr ⟨k, hlt, HA.out, HBE.out.symm, rfl, HJ2.out⟩⟩
      | false =>
        go_wp2_with fail
        exact ⟨⟨k + 1, hlt, by go_num, HT2.out, HJ2.out, fun j hj => by
          by_cases e : j = k
          · subst e; exact HBE.out.symm
          · exact HA.out j (by omega)⟩, by simp [intOf]; omega⟩
    · obtain rfl : k = n := by omega
      go_wp2_with fail
      go_ret
      exact ⟨HT.out, .inl ⟨HA.out, rfl, HJ.out⟩⟩
end Go.Proofs.YtpdldbapagchfaaGreatDoor

/- slices.DeleteFunc at what is said. -/
namespace Go.Proofs.YtpdldbapagchfaaGreatDoor
open Go.RowKit Go.Shelf Go.Maps

/-- What is kept of the first j. -/
def keptD (del : Nat → Bool) (l : List Said) : Nat → List Said
  | 0 => []
  | j + 1 => if del j then keptD del l j else keptD del l j ++ l[j]?.toList
theorem keptD_len (del : Nat → Bool) (l : List Said) : ∀ j, (keptD del l j).length ≤ j
  | 0 => by simp [keptD]
  | j + 1 => by
    have := keptD_len del l j
    unfold keptD
    split
    · omega
    · rw [List.length_append]
      have : (l[j]?.toList).length ≤ 1 := by cases l[j]? <;> simp
      omega
theorem keptD_all {del : Nat → Bool} {l : List Said} : ∀ j, (∀ m, m < j → del m = false) → keptD del l j = l.take j
  | 0, _ => by simp [keptD]
  | j + 1, h => by
    unfold keptD
    rw [h j (by omega), keptD_all j (fun m hm => h m (by omega))]
    simp [List.take_add_one]
/-- The row while it is being thinned out. -/
def DelSt (S : Nat → Prop) (B g n cap : Nat) (w : World) (kept l : List Said) (q : Nat) : Prop :=
  ∃ css : List (List Value), w.ownsRow B 71 6 (.slice (some ⟨g, 0, none⟩) n cap) n css.flatten ∧ css.length = n ∧ (∀ c ∈ css, c.length = 6) ∧
    (∀ m (h : m < css.length) (h' : m < kept.length), SaidC S w css[m] kept[m]) ∧ ∀ m (h : m < css.length) (h' : m < l.length), q ≤ m → SaidC S w css[m] l[m]
section
variable {S F : Nat → Prop} {B g n cap q : Nat} {w w' : World} {kept l : List Said}
theorem DelSt.tn (h : DelSt S B g n cap w kept l q) (t : Tn F w w') (hS : ∀ b, S b → ¬ F b) (hg : ¬ F g) : DelSt S B g n cap w' kept l q := by
  obtain ⟨css, h1, h2, h3, h4, h5⟩ := h
  have k : ∀ c x, SaidC S w c x → SaidC S w' c x := fun c x h => keeps_said _ _ _ _ _ _ h (Stay.of_tn t fun b hb _ => hS b hb) (fun _ h _ => h)
  exact ⟨css, t.row h1 (fun r e hr => hg (by have e' : g = r := (by injection e); rw [e']; exact hr)), h2, h3, fun m a b => k _ _ (h4 m a b), fun m a b c => k _ _ (h5 m a b c)⟩
theorem DelSt.skip (h : DelSt S B g n cap w kept l q) : DelSt S B g n cap w kept l (q + 1) := by
  obtain ⟨css, h1, h2, h3, h4, h5⟩ := h
  exact ⟨css, h1, h2, h3, h4, fun m a b c => h5 m a b (by omega)⟩
theorem DelSt.put (h : DelSt S B g n cap w kept l q) (hS : ¬ S g) {cs : List Value} {x : Said} (hx : SaidC S w cs x) (hk : kept.length ≤ q) (hq : q < n) :
    DelSt S B g n cap (w.setCells g (kept.length * 6) cs) (kept ++ [x]) l (q + 1) := by
  obtain ⟨css, h1, h2, h3, h4, h5⟩ := h
  have hl := said_len hx
  have k : ∀ c x, SaidC S w c x → SaidC S (w.setCells g (kept.length * 6) cs) c x := fun c x h => keeps_said _ _ _ _ _ _ h (Stay.of_tn (tn_setCells cs (kept.length * 6) w) fun b hb _ e => hS (by rw [← e]; exact hb)) (fun _ h _ => h)
  have hr := row_sets (g := g) rfl cs h1 (kept.length * 6) (by omega)
  rw [flat_set h3 (by omega) (by omega) hl] at hr
  refine ⟨css.set kept.length cs, hr, by simpa using h2, fun d hd => ?_, fun m a b => ?_, fun m a b c => ?_⟩
  · rcases List.mem_or_eq_of_mem_set hd with h | h
    · exact h3 d h
    · rw [h]; exact hl
  · rw [List.getElem_set]
    by_cases e : kept.length = m
    · subst e
      rw [if_pos rfl]
      have e2 : (kept ++ [x])[kept.length] = x := by simp
      rw [e2]; exact k _ _ hx
    · rw [if_neg e]
      have hm : m < kept.length := by simp at b; omega
      rw [List.getElem_append_left hm]
      exact k _ _ (h4 m (by simpa using a) hm)
  · rw [List.getElem_set, if_neg (by omega)]
    exact k _ _ (h5 m (by simpa using a) b (by omega))
theorem DelSt.cells (h : DelSt S B g n cap w kept l q) : B ≤ g ∧ g < w.heap.size ∧ n ≤ cap ∧ cap ≤ maxLen ∨ n = 0 := by
  obtain ⟨css, h1, -⟩ := h
  obtain ⟨a, c', e, hc, hm, _, ⟨h0, _⟩ | ⟨g', rfl, e2, hb, hg, _⟩⟩ := row_cellz h1
  · exact .inr h0
  · injection e with e1 _ e3
    injection e1 with e1
    injection e1 with e1
    subst e1 e3
    exact .inl ⟨hb, hg, hc, hm⟩
end
theorem setCells_inv {I : World → Prop} {g : Nat} {o0 : Nat} (h : ∀ W o u, I W → o0 ≤ o → I (W.setCell ⟨g, o, none⟩ u)) : ∀ (cs : List Value) (o : Nat) (W : World), I W → o0 ≤ o → I (W.setCells g o cs)
  | [], _, _, hi, _ => hi
  | u :: cs, o, W, hi, ho => setCells_inv h cs (o + 1) _ (h W o u hi ho) (by omega)
theorem cell_of_rangeAt {w : World} {g o : Nat} {cs : List Value} (h : w.rangeAt g o cs) (j : Nat) (u : Value) (hu : cs[j]? = some u) : w.cell? ⟨g, o + j, none⟩ = some u := h j u hu
theorem DelSt.at {S : Nat → Prop} {B g n cap q : Nat} {w : World} {kept l : List Said} (h : DelSt S B g n cap w kept l q) {m : Nat} (hm : m < n) (hl : l.length = n) (hq : q ≤ m) : ∃ cs, SaidC S w cs (l[m]'(by omega)) ∧ w.rangeAt g (m * 6) cs := by
  obtain ⟨css, h1, h2, h3, h4, h5⟩ := h
  obtain ⟨a, c', e, hc, hmx, _, ⟨h0, _⟩ | ⟨g', rfl, e2, hb, hg, hcell⟩⟩ := row_cellz h1
  · omega
  injection e with e1 _ e3
  injection e1 with e1
  have e1' : g = g' := by injection e1
  subst e1'
  refine ⟨css[m], h5 m (by omega) (by omega) hq, fun j u hj => hcell _ u ?_⟩
  have hj6 : j < 6 := by have := (List.getElem?_eq_some_iff.1 hj).1; rw [h3 _ (List.getElem_mem _)] at this; exact this
  rw [flat_get h3 m (by omega) j hj6]; exact hj
theorem DelSt.there {S : Nat → Prop} {B g n cap q : Nat} {w : World} {kept l : List Said} (h : DelSt S B g n cap w kept l q) {m k : Nat} (hm : m + k ≤ n) : ∀ j, j < k * 6 → (w.cell? ⟨g, m * 6 + j, none⟩).isSome = true ∧ w.frozen? ⟨g, m * 6 + j, none⟩ = false := by
  obtain ⟨css, h1, h2, h3, h4, h5⟩ := h
  intro j hj
  obtain ⟨a, c', e, hc, hmx, hxl, ⟨h0, _⟩ | ⟨g', rfl, e2, hb, hg, hcell⟩⟩ := row_cellz h1
  · omega
  injection e with e1 _ e3
  injection e1 with e1
  have e1' : g = g' := by injection e1
  subst e1'
  refine ⟨?_, World.ownsRow.frozenAt h1 _⟩
  have hlt : m * 6 + j < css.flatten.length := by rw [hxl]; omega
  rw [hcell (m * 6 + j) _ (List.getElem?_eq_getElem hlt)]; rfl
/-- What is left, when the rest has been cleared. -/
theorem DelSt.done {S : Nat → Prop} {B g n cap q : Nat} {w : World} {kept l : List Said} (h : DelSt S B g n cap w kept l q) (hS : ¬ S g) (zs : List Value) (hz : zs.length = (n - kept.length) * 6) (hk : kept.length ≤ n) :
    SlOf 6 (fun b => b = g) (SaidC S) (w.setCells g (kept.length * 6) zs) (.slice (some ⟨g, 0, none⟩) kept.length cap) kept := by
  obtain ⟨css, h1, h2, h3, h4, h5⟩ := h
  have hr := row_sets (g := g) rfl zs h1 (kept.length * 6) (by omega)
  obtain ⟨a, c', e, hc, hmx, hxl, h0 | ⟨g', rfl, e2, hb, hg, hcell⟩⟩ := row_cellz hr
  · obtain ⟨_, _, rfl⟩ := h0; cases e
  injection e with e1 _ e3
  injection e1 with e1
  have e1' : g = g' := by injection e1
  subst e1' e3
  have k : ∀ c x, SaidC S w c x → SaidC S (w.setCells g (kept.length * 6) zs) c x := fun c x h => keeps_said _ _ _ _ _ _ h (Stay.of_tn (tn_setCells zs (kept.length * 6) w) fun b hb _ e => hS (by rw [← e]; exact hb)) (fun _ h _ => h)
  refine ⟨_, cap, rfl, by omega, hmx, ?_⟩
  by_cases hn : kept = []
  · exact .inl hn
  refine .inr ⟨g, 0, rfl, rfl, css.take kept.length, All2.of_get (by rw [List.length_take]; omega) fun m a b => ?_, fun c hc => h3 c (List.mem_of_mem_take hc), fun j u hj => ?_⟩
  · rw [List.getElem_take]
    exact k _ _ (h4 m (by rw [List.length_take] at a; omega) b)
  · rw [← flat_take h3 kept.length (by omega)] at hj
    have hj' := (List.getElem?_eq_some_iff.1 hj).1
    rw [List.length_take] at hj'
    rw [List.getElem?_take_of_lt (by omega)] at hj
    rw [Nat.zero_add]
    refine ⟨hcell j u ?_, World.ownsRow.frozenAt hr _⟩
    rw [setsL_get _ _ _ _ (by rw [flat_len h3, hz]; omega), if_neg (by omega)]
    exact hj
end Go.Proofs.YtpdldbapagchfaaGreatDoor
