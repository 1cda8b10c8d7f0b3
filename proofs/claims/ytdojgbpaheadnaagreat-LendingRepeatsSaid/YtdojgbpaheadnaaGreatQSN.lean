/- The laws' example, walked. -/
import Derived.Test.YtdojgbpaheadnaaGreatQSY
import Derived.Test.YtdojgbpaheadnaaGreatQP
import Derived.Test.YtdojgbpaheadnaaGreatQRLa
import Derived.Test.YtdojgbpaheadnaaGreatQRS
set_option linter.unusedVariables false
set_option linter.unusedSimpArgs false

namespace Go.Proofs.YtdojgbpaheadnaaGreat
open Go.RowKit Go.Shelf Go.Maps Go.ChangeMaps

theorem len_small {k a r v : Int} (h : Sm k ∧ Sm a ∧ Sm r ∧ Sm v) (id sent to : Int) : (mesg id sent to k a r v).text.length ≤ 1000000 := Nat.le_trans (txt_short (okS h)) (by omega)
theorem encM_one (m : Msg) : (encM m).all (·.oneCell') = true := by unfold encM strV; simp [Value.oneCell']
theorem encM_info (m : Msg) : (Tryz.prog.info? 31).map (·.size) = some (encM m).size := by
 rw [show (encM m).size = 4 from rfl]; kernel_rfl
theorem MsgsAt.blk {w : World} {B : Nat} {v : Value} {m : Msg} (h : MsgsAt w B v [m]) : ∃ g, B ≤ g ∧ v = .slice (some ⟨g, 0, none⟩) 1 1 ∧ Blk w g (encM m) 31 := h
theorem eql_msg (m : Msg) (W : World) : (binOp .eql 31 (.agg #[i64 m.frm, i64 m.to, i64 m.num, strV m.text]) (.agg #[i64 m.frm, i64 m.to, i64 m.num, strV m.text])).run Tryz.prog W = .ok (.bool true) W := by
 go_simp
theorem wpAnyH_apart4 {P : Program} {md : Region.Mode} {ops : Array Oper} {Q : Exit → Act → World → Prop} {S : World → Prop} {fuel : Nat} {L : Array Bool} {a : Act} {w : World} {a1 : Option Addr → Nat → Option Addr → Nat → Act} (F : World → Prop)
  (take : ∀ R : Act → World → Prop, (∀ x y z u w', F w' → R (a1 x y z u) w') → wpAnyH P md ops (only R) S fuel L a w) (rest : ∀ x y z u w', F w' → Q .normal (a1 x y z u) w') : wpAnyH P md ops Q S fuel L a w :=
 wpAnyH_mono (fun _ _ _ h => nomatch h.1) (fun ⟨_, _, h⟩ => nomatch h.1) (fun _ _ h => h.2) fuel L a w (take (Q .normal) rest)
set_option maxRecDepth 100000 in
set_option maxHeartbeats 8000000 in
theorem sanity_any (w : World) : Calls Tryz.prog 9 #[] w fun e w' => e = .returned (.bool true) ∧ Below w.heap.size w w' := by
 have Z0 : ∀ {B : Nat} {Z : Nat → Nat → Prop} {w : World} {Ms : List Assn}, Sys B Z w Ms → Sys B (fun _ _ => False) w Ms := fun h => h.weak fun _ _ h => h.elim
 go_enter Tryz.func9, Tryz.ntmps9
 go_wp2_with fail
 refine (newAsker_any 2 1 ⟨by omega, by omega⟩ ⟨by omega, by omega⟩ w).mono ?_
 rintro e w1 ⟨rfl, hM, hb⟩
 have S1 : Hid (Sys w.heap.size (fun _ _ => False) w1 [asrA w.heap.size w.heap.size 0 ⟨2, 1, 0, []⟩]) := Lib.hid
  ((Sys.nil w.heap.size w).add hb (Nat.le_refl _) (O := OwnA w.heap.size (.map none)) ⟨_, hM, rfl⟩ fun k hk => hM.own_lt hk)
 have B1 := Lib.hid hb
 obtain ⟨ab, hab⟩ : ∃ ab, ab = w.heap.size := ⟨_, rfl⟩
 rw [← hab] at S1 ⊢
 have HAB : Hid (ab = w.heap.size) := Lib.hid hab
 clear hM hb hab
 go_wp2_with fail
 obtain ⟨w2, hw2⟩ : ∃ w2, w2 = w1.alloc (.cells #[i64 3, i64 4] 3) := ⟨_, rfl⟩
 have R2 : Hid (w2.ownsRow w1.heap.size 3 1 (.slice (some ⟨w1.heap.size, 0, none⟩) 2 2) 2 [i64 3, i64 4]) := Lib.hid (by rw [hw2]; exact row_fresh w1 _ #[i64 3, i64 4] 3 1 2 rfl (by unfold maxLen; omega) (Nat.le_refl _))
 have T2 : Hid (Below w1.heap.size w1 w2) := Lib.hid (by rw [hw2]; exact (Below.refl _ _).alloc (Nat.le_refl _) _)
 rw [← hw2]
 clear hw2
 refine (newBroker_any 0 ⟨by omega, by omega⟩ [3, 4] (by simp) (fun x hx => by simp at hx; exact ⟨by omega, by omega⟩) _ _ w2 R2.out).mono ?_
 rintro e w3 ⟨bb, rv, o, rfl, hM, hb⟩
 have S3 : Hid (Sys ab (fun _ _ => False) w3 [asrA ab ab 0 ⟨2, 1, 0, []⟩, brkA w2.heap.size bb 0 ⟨0, 0, [3, 4], []⟩]) := Lib.hid
  ((S1.out.up' T2.out).add hb (Nat.le_trans (Nat.le_of_eq HAB.out) (Nat.le_trans B1.out.size T2.out.size)) (O := fun k => o k ≠ 0) ⟨_, _, _, _, hM, rfl⟩ fun k hk => hM.olt k hk)
 have B3 : Hid (Below w.heap.size w w3) := Lib.hid ((B1.out.trans (T2.out.mono B1.out.size)).trans (hb.mono (Nat.le_trans B1.out.size T2.out.size)))
 clear hM hb S1 R2 T2 B1
 generalize w2.heap.size = bB at *
 go_wp2_with fail
 obtain ⟨w4, hw4⟩ : ∃ w4, w4 = w3.alloc (.cells #[i64 9] 3) := ⟨_, rfl⟩
 have R4 : Hid (w4.ownsRow w3.heap.size 3 1 (.slice (some ⟨w3.heap.size, 0, none⟩) 1 1) 1 [i64 9]) := Lib.hid (by rw [hw4]; exact row_fresh w3 _ #[i64 9] 3 1 1 rfl (by unfold maxLen; omega) (Nat.le_refl _))
 have T4 : Hid (Below w3.heap.size w3 w4) := Lib.hid (by rw [hw4]; exact (Below.refl _ _).alloc (Nat.le_refl _) _)
 rw [← hw4]
 clear hw4
 refine (new_any 4 ⟨by omega, by omega⟩ [9] (by simp) _ _ w4 R4.out).mono ?_
 rintro e w5 ⟨lb, hv, rfl, hM, hb⟩
 rw [show (([9] : List Int).mergeSort fun x y => decide (x ≤ y)) = [9] by simp] at hM
 have S5 : Hid (Sys ab (fun _ _ => False) w5 [asrA ab ab 0 ⟨2, 1, 0, []⟩, brkA bB bb 0 ⟨0, 0, [3, 4], []⟩, lenA w4.heap.size lb ⟨4, 0, [9], []⟩]) := Lib.hid
  ((S3.out.up' T4.out).add hb (Nat.le_trans (Nat.le_of_eq HAB.out) (Nat.le_trans B3.out.size T4.out.size)) (O := OwnL lb hv (.map none)) ⟨_, _, hM, rfl⟩ fun k hk => hM.own_lt hk)
 have B5 : Hid (Below w.heap.size w w5) := Lib.hid ((B3.out.trans (T4.out.mono B3.out.size)).trans (hb.mono (Nat.le_trans B3.out.size T4.out.size)))
 clear hM hb S3 R4 T4 B3
 generalize w4.heap.size = lB at *
 go_wp2_with fail
 have key := asr_ask (i := 0) (B := ab) (b := ab) (N := 0) (s := ⟨2, 1, 0, []⟩) S5.out (Nat.le_trans (Nat.le_of_eq HAB.out) B5.out.size) rfl 5 9 (by omega) ⟨by omega, by omega⟩ ⟨by omega, by omega⟩
 rw [az1] at key
 refine key.mono ?_
 clear key
 rintro e w6 ⟨⟨v6, rfl, hm⟩, hA⟩
 obtain ⟨xg, hxg, rfl, hxb⟩ := hm.blk
 have XB := Lib.hid hxb
 have XG : Hid (w5.heap.size ≤ xg) := Lib.hid hxg
 clear hm hxb hxg
 have key : Sys ab (fun _ _ => False) w6 [asrA ab ab 1 ⟨2, 1, 1, [⟨5, 9, 1, 0⟩]⟩, brkA bB bb 0 ⟨0, 0, [3, 4], []⟩, lenA lB lb ⟨4, 0, [9], []⟩, boxA xg (encM (mesg 2 0 0 1 2 5 9)) 31] := Z0 (hA.1.take_in XB.out (Nat.le_trans (Nat.le_trans (Nat.le_of_eq HAB.out) B5.out.size) XG.out) fun i M O hi hP hO => ?_)
 rotate_left
 ·rcases i with _ | _ | _ | i
  ·obtain rfl : asrA ab ab 1 ⟨2, 1, 1, [⟨5, 9, 1, 0⟩]⟩ = M := Option.some.inj hi
   obtain ⟨mv, hM, rfl⟩ := hP
   exact hM.no_msg XB.out
  ·exact fun h => hO _ h (.inr ⟨by omega, XG.out, XB.out.lt⟩)
  ·exact fun h => hO _ h (.inr ⟨by omega, XG.out, XB.out.lt⟩)
  ·exact absurd hi (by simp)
 have S6 := Lib.hid key
 have B6 : Hid (Below w.heap.size w w6) := Lib.hid (B5.out.trans ((hA.2.below (B := w.heap.size) B5.out.size fun k hk => by have := hk.1; have := HAB.out; omega)))
 clear hA key S5 B5
 go_wp2_with fail
 have key := asr_ask (i := 0) (B := ab) (b := ab) (N := 1) (s := ⟨2, 1, 1, [⟨5, 9, 1, 0⟩]⟩) S6.out (Nat.le_trans (Nat.le_of_eq HAB.out) B6.out.size) rfl 6 9 (by omega) ⟨by omega, by omega⟩ ⟨by omega, by omega⟩
 rw [az2] at key
 refine key.mono ?_
 clear key
 rintro e w7 ⟨⟨v7, rfl, hm⟩, hA⟩
 clear hm
 have S7 : Hid (Sys ab (fun _ _ => False) w7 [asrA ab ab 2 ⟨2, 1, 1, [⟨5, 9, 1, 0⟩]⟩, brkA bB bb 0 ⟨0, 0, [3, 4], []⟩, lenA lB lb ⟨4, 0, [9], []⟩, boxA xg (encM (mesg 2 0 0 1 2 5 9)) 31]) := Lib.hid (Z0 hA.1)
 have B7 : Hid (Below w.heap.size w w7) := Lib.hid (B6.out.trans ((hA.2.below (B := w.heap.size) B6.out.size fun k hk => by have := hk.1; have := HAB.out; omega)))
 clear hA S6 B6
 go_wp2_with fail
 have Q7 : Hid (MsgsAt w7 0 (.slice (some ⟨xg, 0, none⟩) 1 1) [mesg 2 0 0 1 2 5 9]) := Lib.hid ⟨xg, Nat.zero_le _, rfl, S7.out.blk (i := 3) rfl⟩
 refine (one_any _ _ _ w7 Q7.out).mono ?_
 rintro e w8 ⟨rfl, hb⟩
 have S8 := Lib.hid (S7.out.up' hb)
 have B8 : Hid (Below w.heap.size w w8) := Lib.hid (B7.out.trans (hb.mono B7.out.size))
 clear hb S7 B7 Q7
 have key := S8.out.box (Nat.le_trans (Nat.le_of_eq HAB.out) B8.out.size) #[i64 0, i64 0, i64 0, .string { data := #[] }] (encM (mesg 2 0 0 1 2 5 9)) 31
 obtain ⟨w9, hw9⟩ : ∃ w9, w9 = (w8.alloc (.cells #[i64 0, i64 0, i64 0, .string { data := #[] }] 31)).setRow w8.heap.size (encM (mesg 2 0 0 1 2 5 9)) := ⟨_, rfl⟩
 have NB : Hid (Blk (w8.alloc (.cells #[i64 0, i64 0, i64 0, .string { data := #[] }] 31)) w8.heap.size #[i64 0, i64 0, i64 0, .string { data := #[] }] 31) := Lib.hid (Blk.new _ _ _)
 rw [← hw9] at key
 have B9 : Hid (Below w.heap.size w w9) := Lib.hid (B8.out.trans (key.2.mono B8.out.size))
 obtain ⟨g8, hg8⟩ : ∃ g8, g8 = w8.heap.size := ⟨_, rfl⟩
 have S9 : Hid (Sys ab (fun _ _ => False) w9 [asrA ab ab 2 ⟨2, 1, 1, [⟨5, 9, 1, 0⟩]⟩, brkA bB bb 0 ⟨0, 0, [3, 4], []⟩, lenA lB lb ⟨4, 0, [9], []⟩, boxA xg (encM (mesg 2 0 0 1 2 5 9)) 31, boxA g8 (encM (mesg 2 0 0 1 2 5 9)) 31]) := Lib.hid (hg8 ▸ key.1)
 have Hg8 := Lib.hid hg8
 have HW := Lib.hid hw9
 clear key S8 B8 hg8 hw9
 have K4 := Lib.hid (S9.out.blk (i := 4) rfl)
 go_wp2_with (first | (refine wpList_store_row rfl 31 (.tmp 8) (.tmp 43) rfl w8.heap.size (encM (mesg 2 0 0 1 2 5 9)) rfl rfl 31 _ NB.out (encM_info _) rfl (encM_one _) ?_; rw [← HW.out, ← Hg8.out]; clear Hg8 HW NB) | (refine wpList_load_row 31 (.tmp 8) rfl rfl rfl K4.out Tryz.underlying31 rfl (encM_info _) ?_))
 have key := brk_take (i := 1) (B := bB) (b := bb) (N := 0) (s := ⟨0, 0, [3, 4], []⟩) S9.out (Nat.le_trans (Nat.le_of_eq HAB.out) B9.out.size) rfl (mesg 2 0 0 1 2 5 9) (by omega) (len_small (by decide) _ _ _)
 rw [bz1] at key
 refine key.mono ?_
 clear key
 rintro e w10 ⟨⟨v10, rfl, hm⟩, hA⟩
 have Q10 := Lib.hid hm
 clear hm
 have S10 : Hid (Sys ab (fun _ _ => False) w10 [asrA ab ab 2 ⟨2, 1, 1, [⟨5, 9, 1, 0⟩]⟩, brkA bB bb 1 ⟨0, 1, [3, 4], [⟨2, 5, 9, [4, 3], false⟩]⟩, lenA lB lb ⟨4, 0, [9], []⟩, boxA xg (encM (mesg 2 0 0 1 2 5 9)) 31, boxA g8 (encM (mesg 2 0 0 1 2 5 9)) 31]) := Lib.hid (Z0 hA.1)
 have B10 : Hid (Below w.heap.size w w10) := Lib.hid (B9.out.trans ((hA.2.below (B := w.heap.size) B9.out.size fun k hk => by have := hk.1; have := HAB.out; omega)))
 clear hA S9 B9
 go_wp2_with fail
 refine (one_any _ _ _ w10 Q10.out).mono ?_
 rintro e w11 ⟨rfl, hb⟩
 have S11 := Lib.hid (S10.out.up' hb)
 have B11 : Hid (Below w.heap.size w w11) := Lib.hid (B10.out.trans (hb.mono B10.out.size))
 clear hb S10 B10 Q10
 have key := S11.out.box (Nat.le_trans (Nat.le_of_eq HAB.out) B11.out.size) #[i64 0, i64 0, i64 0, .string { data := #[] }] (encM (mesg 0 0 4 2 2 5 9)) 31
 obtain ⟨w12, hw12⟩ : ∃ w12, w12 = (w11.alloc (.cells #[i64 0, i64 0, i64 0, .string { data := #[] }] 31)).setRow w11.heap.size (encM (mesg 0 0 4 2 2 5 9)) := ⟨_, rfl⟩
 have NB : Hid (Blk (w11.alloc (.cells #[i64 0, i64 0, i64 0, .string { data := #[] }] 31)) w11.heap.size #[i64 0, i64 0, i64 0, .string { data := #[] }] 31) := Lib.hid (Blk.new _ _ _)
 rw [← hw12] at key
 have B12 : Hid (Below w.heap.size w w12) := Lib.hid (B11.out.trans (key.2.mono B11.out.size))
 obtain ⟨g9, hg9⟩ : ∃ g9, g9 = w11.heap.size := ⟨_, rfl⟩
 have S12 : Hid (Sys ab (fun _ _ => False) w12 [asrA ab ab 2 ⟨2, 1, 1, [⟨5, 9, 1, 0⟩]⟩, brkA bB bb 1 ⟨0, 1, [3, 4], [⟨2, 5, 9, [4, 3], false⟩]⟩, lenA lB lb ⟨4, 0, [9], []⟩, boxA xg (encM (mesg 2 0 0 1 2 5 9)) 31, boxA g8 (encM (mesg 2 0 0 1 2 5 9)) 31, boxA g9 (encM (mesg 0 0 4 2 2 5 9)) 31]) := Lib.hid (hg9 ▸ key.1)
 have Hg9 := Lib.hid hg9
 have HW := Lib.hid hw12
 clear key S11 B11 hg9 hw12
 have K5 := Lib.hid (S12.out.blk (i := 5) rfl)
 go_wp2_with (first | (refine wpList_store_row rfl 31 (.tmp 9) (.tmp 47) rfl w11.heap.size (encM (mesg 0 0 4 2 2 5 9)) rfl rfl 31 _ NB.out (encM_info _) rfl (encM_one _) ?_; rw [← HW.out, ← Hg9.out]; clear Hg9 HW NB) | (refine wpList_load_row 31 (.tmp 9) rfl rfl rfl K5.out Tryz.underlying31 rfl (encM_info _) ?_))
 have key := len_take (i := 2) (B := lB) (b := lb) (s := ⟨4, 0, [9], []⟩) S12.out (Nat.le_trans (Nat.le_of_eq HAB.out) B12.out.size) rfl (mesg 0 0 4 2 2 5 9) (by dsimp only; omega) (len_small (by decide) _ _ _)
 rw [lz1] at key
 refine key.mono ?_
 clear key
 rintro e w13 ⟨⟨v13, rfl, hm⟩, hA⟩
 have Q13 := Lib.hid hm
 clear hm
 have S13 : Hid (Sys ab (fun _ _ => False) w13 [asrA ab ab 2 ⟨2, 1, 1, [⟨5, 9, 1, 0⟩]⟩, brkA bB bb 1 ⟨0, 1, [3, 4], [⟨2, 5, 9, [4, 3], false⟩]⟩, lenA lB lb ⟨4, 1, [], [⟨2, 5, 9, 2⟩]⟩, boxA xg (encM (mesg 2 0 0 1 2 5 9)) 31, boxA g8 (encM (mesg 2 0 0 1 2 5 9)) 31, boxA g9 (encM (mesg 0 0 4 2 2 5 9)) 31]) := Lib.hid (Z0 hA.1)
 have B13 : Hid (Below w.heap.size w w13) := Lib.hid (B12.out.trans ((hA.2.below (B := w.heap.size) B12.out.size fun k hk => by have := hk.1; have := HAB.out; omega)))
 clear hA S12 B12
 go_wp2_with fail
 refine (one_any _ _ _ w13 Q13.out).mono ?_
 rintro e w14 ⟨rfl, hb⟩
 have S14 := Lib.hid (S13.out.up' hb)
 have B14 : Hid (Below w.heap.size w w14) := Lib.hid (B13.out.trans (hb.mono B13.out.size))
 clear hb S13 B13 Q13
 go_wp2_with fail
 have key := brk_take (i := 1) (B := bB) (b := bb) (N := 1) (s := ⟨0, 1, [3, 4], [⟨2, 5, 9, [4, 3], false⟩]⟩) S14.out (Nat.le_trans (Nat.le_of_eq HAB.out) B14.out.size) rfl (mesg 4 0 0 3 2 5 0) (by omega) (len_small (by decide) _ _ _)
 rw [bz2] at key
 refine key.mono ?_
 clear key
 rintro e w15 ⟨⟨v15, rfl, hm⟩, hA⟩
 have Q15 := Lib.hid hm
 clear hm
 have S15 : Hid (Sys ab (fun _ _ => False) w15 [asrA ab ab 2 ⟨2, 1, 1, [⟨5, 9, 1, 0⟩]⟩, brkA bB bb 2 ⟨0, 2, [3, 4], [⟨2, 5, 9, [4, 3], true⟩]⟩, lenA lB lb ⟨4, 1, [], [⟨2, 5, 9, 2⟩]⟩, boxA xg (encM (mesg 2 0 0 1 2 5 9)) 31, boxA g8 (encM (mesg 2 0 0 1 2 5 9)) 31, boxA g9 (encM (mesg 0 0 4 2 2 5 9)) 31]) := Lib.hid (Z0 hA.1)
 have B15 : Hid (Below w.heap.size w w15) := Lib.hid (B14.out.trans ((hA.2.below (B := w.heap.size) B14.out.size fun k hk => by have := hk.1; have := HAB.out; omega)))
 clear hA S14 B14
 go_wp2_with fail
 refine (one_any _ _ _ w15 Q15.out).mono ?_
 rintro e w16 ⟨rfl, hb⟩
 have S16 := Lib.hid (S15.out.up' hb)
 have B16 : Hid (Below w.heap.size w w16) := Lib.hid (B15.out.trans (hb.mono B15.out.size))
 clear hb S15 B15 Q15
 go_wp2_with fail
 have key := asr_take (i := 0) (B := ab) (b := ab) (N := 2) (s := ⟨2, 1, 1, [⟨5, 9, 1, 0⟩]⟩) S16.out (Nat.le_trans (Nat.le_of_eq HAB.out) B16.out.size) rfl (mesg 0 1 2 5 2 5 4) (by omega) (len_small (by decide) _ _ _)
 rw [az3] at key
 refine key.mono ?_
 clear key
 rintro e w17 ⟨⟨v17, rfl, hm⟩, hA⟩
 have Q17 := Lib.hid hm
 clear hm
 have S17 : Hid (Sys ab (fun _ _ => False) w17 [asrA ab ab 3 ⟨2, 1, 2, [⟨5, 9, 2, 4⟩]⟩, brkA bB bb 2 ⟨0, 2, [3, 4], [⟨2, 5, 9, [4, 3], true⟩]⟩, lenA lB lb ⟨4, 1, [], [⟨2, 5, 9, 2⟩]⟩, boxA xg (encM (mesg 2 0 0 1 2 5 9)) 31, boxA g8 (encM (mesg 2 0 0 1 2 5 9)) 31, boxA g9 (encM (mesg 0 0 4 2 2 5 9)) 31]) := Lib.hid (Z0 hA.1)
 have B17 : Hid (Below w.heap.size w w17) := Lib.hid (B16.out.trans ((hA.2.below (B := w.heap.size) B16.out.size fun k hk => by have := hk.1; have := HAB.out; omega)))
 clear hA S16 B16
 go_wp2_with fail
 refine (one_any _ _ _ w17 Q17.out).mono ?_
 rintro e w18 ⟨rfl, hb⟩
 have S18 := Lib.hid (S17.out.up' hb)
 have B18 : Hid (Below w.heap.size w w18) := Lib.hid (B17.out.trans (hb.mono B17.out.size))
 clear hb S17 B17 Q17
 have key := S18.out.box (Nat.le_trans (Nat.le_of_eq HAB.out) B18.out.size) #[i64 0, i64 0, i64 0, .string { data := #[] }] (encM (mesg 2 1 4 7 2 5 0)) 31
 obtain ⟨w19, hw19⟩ : ∃ w19, w19 = (w18.alloc (.cells #[i64 0, i64 0, i64 0, .string { data := #[] }] 31)).setRow w18.heap.size (encM (mesg 2 1 4 7 2 5 0)) := ⟨_, rfl⟩
 have NB : Hid (Blk (w18.alloc (.cells #[i64 0, i64 0, i64 0, .string { data := #[] }] 31)) w18.heap.size #[i64 0, i64 0, i64 0, .string { data := #[] }] 31) := Lib.hid (Blk.new _ _ _)
 rw [← hw19] at key
 have B19 : Hid (Below w.heap.size w w19) := Lib.hid (B18.out.trans (key.2.mono B18.out.size))
 obtain ⟨g10, hg10⟩ : ∃ g10, g10 = w18.heap.size := ⟨_, rfl⟩
 have S19 : Hid (Sys ab (fun _ _ => False) w19 [asrA ab ab 3 ⟨2, 1, 2, [⟨5, 9, 2, 4⟩]⟩, brkA bB bb 2 ⟨0, 2, [3, 4], [⟨2, 5, 9, [4, 3], true⟩]⟩, lenA lB lb ⟨4, 1, [], [⟨2, 5, 9, 2⟩]⟩, boxA xg (encM (mesg 2 0 0 1 2 5 9)) 31, boxA g8 (encM (mesg 2 0 0 1 2 5 9)) 31, boxA g9 (encM (mesg 0 0 4 2 2 5 9)) 31, boxA g10 (encM (mesg 2 1 4 7 2 5 0)) 31]) := Lib.hid (hg10 ▸ key.1)
 have Hg10 := Lib.hid hg10
 have HW := Lib.hid hw19
 clear key S18 B18 hg10 hw19
 go_wp2_with (first | (refine wpList_store_row rfl 31 (.tmp 10) (.tmp 57) rfl w18.heap.size (encM (mesg 2 1 4 7 2 5 0)) rfl rfl 31 _ NB.out (encM_info _) rfl (encM_one _) ?_; rw [← HW.out, ← Hg10.out]; clear Hg10 HW NB) | fail)
 go_wp2_with fail
 refine (asr_state (i := 0) (B := ab) (b := ab) (N := 3) (s := ⟨2, 1, 2, [⟨5, 9, 2, 4⟩]⟩) S19.out rfl 5 ⟨by omega, by omega⟩).mono ?_
 rintro e w119 ⟨rfl, rfl⟩
 rw [show Asr.state _ 5 = 2 from rfl]
 have K6 := Lib.hid (S19.out.blk (i := 6) rfl)
 go_wp2_with (refine wpList_load_row 31 (.tmp 10) rfl rfl rfl K6.out Tryz.underlying31 rfl (encM_info _) ?_)
 have key := len_take (i := 2) (B := lB) (b := lb) (s := ⟨4, 1, [], [⟨2, 5, 9, 2⟩]⟩) S19.out (Nat.le_trans (Nat.le_of_eq HAB.out) B19.out.size) rfl (mesg 2 1 4 7 2 5 0) (by dsimp only; omega) (len_small (by decide) _ _ _)
 rw [lz2] at key
 refine key.mono ?_
 clear key
 rintro e w20 ⟨⟨v20, rfl, hm⟩, hA⟩
 have Q20 := Lib.hid hm
 clear hm
 have S20 : Hid (Sys ab (fun _ _ => False) w20 [asrA ab ab 3 ⟨2, 1, 2, [⟨5, 9, 2, 4⟩]⟩, brkA bB bb 2 ⟨0, 2, [3, 4], [⟨2, 5, 9, [4, 3], true⟩]⟩, lenA lB lb ⟨4, 2, [], [⟨2, 5, 9, 3⟩]⟩, boxA xg (encM (mesg 2 0 0 1 2 5 9)) 31, boxA g8 (encM (mesg 2 0 0 1 2 5 9)) 31, boxA g9 (encM (mesg 0 0 4 2 2 5 9)) 31, boxA g10 (encM (mesg 2 1 4 7 2 5 0)) 31]) := Lib.hid (Z0 hA.1)
 have B20 : Hid (Below w.heap.size w w20) := Lib.hid (B19.out.trans ((hA.2.below (B := w.heap.size) B19.out.size fun k hk => by have := hk.1; have := HAB.out; omega)))
 clear hA S19 B19
 go_wp2_with fail
 refine (one_any _ _ _ w20 Q20.out).mono ?_
 rintro e w21 ⟨rfl, hb⟩
 have S21 := Lib.hid (S20.out.up' hb)
 have B21 : Hid (Below w.heap.size w w21) := Lib.hid (B20.out.trans (hb.mono B20.out.size))
 clear hb S20 B20 Q20
 go_wp2_with fail
 have key := asr_take (i := 0) (B := ab) (b := ab) (N := 3) (s := ⟨2, 1, 2, [⟨5, 9, 2, 4⟩]⟩) S21.out (Nat.le_trans (Nat.le_of_eq HAB.out) B21.out.size) rfl (mesg 4 1 2 8 2 5 0) (by omega) (len_small (by decide) _ _ _)
 rw [az4] at key
 refine key.mono ?_
 clear key
 rintro e w22 ⟨⟨v22, rfl, hm⟩, hA⟩
 have Q22 := Lib.hid hm
 clear hm
 have S22 : Hid (Sys ab (fun _ _ => False) w22 [asrA ab ab 4 ⟨2, 1, 3, [⟨5, 9, 3, 4⟩]⟩, brkA bB bb 2 ⟨0, 2, [3, 4], [⟨2, 5, 9, [4, 3], true⟩]⟩, lenA lB lb ⟨4, 2, [], [⟨2, 5, 9, 3⟩]⟩, boxA xg (encM (mesg 2 0 0 1 2 5 9)) 31, boxA g8 (encM (mesg 2 0 0 1 2 5 9)) 31, boxA g9 (encM (mesg 0 0 4 2 2 5 9)) 31, boxA g10 (encM (mesg 2 1 4 7 2 5 0)) 31]) := Lib.hid (Z0 hA.1)
 have B22 : Hid (Below w.heap.size w w22) := Lib.hid (B21.out.trans ((hA.2.below (B := w.heap.size) B21.out.size fun k hk => by have := hk.1; have := HAB.out; omega)))
 clear hA S21 B21
 go_wp2_with fail
 refine (one_any _ _ _ w22 Q22.out).mono ?_
 rintro e w23 ⟨rfl, hb⟩
 have S23 := Lib.hid (S22.out.up' hb)
 have B23 : Hid (Below w.heap.size w w23) := Lib.hid (B22.out.trans (hb.mono B22.out.size))
 clear hb S22 B22 Q22
 have key := S23.out.box (Nat.le_trans (Nat.le_of_eq HAB.out) B23.out.size) #[i64 0, i64 0, i64 0, .string { data := #[] }] (encM (mesg 2 2 4 9 2 5 0)) 31
 obtain ⟨w24, hw24⟩ : ∃ w24, w24 = (w23.alloc (.cells #[i64 0, i64 0, i64 0, .string { data := #[] }] 31)).setRow w23.heap.size (encM (mesg 2 2 4 9 2 5 0)) := ⟨_, rfl⟩
 have NB : Hid (Blk (w23.alloc (.cells #[i64 0, i64 0, i64 0, .string { data := #[] }] 31)) w23.heap.size #[i64 0, i64 0, i64 0, .string { data := #[] }] 31) := Lib.hid (Blk.new _ _ _)
 rw [← hw24] at key
 have B24 : Hid (Below w.heap.size w w24) := Lib.hid (B23.out.trans (key.2.mono B23.out.size))
 obtain ⟨g12, hg12⟩ : ∃ g12, g12 = w23.heap.size := ⟨_, rfl⟩
 have S24 : Hid (Sys ab (fun _ _ => False) w24 [asrA ab ab 4 ⟨2, 1, 3, [⟨5, 9, 3, 4⟩]⟩, brkA bB bb 2 ⟨0, 2, [3, 4], [⟨2, 5, 9, [4, 3], true⟩]⟩, lenA lB lb ⟨4, 2, [], [⟨2, 5, 9, 3⟩]⟩, boxA xg (encM (mesg 2 0 0 1 2 5 9)) 31, boxA g8 (encM (mesg 2 0 0 1 2 5 9)) 31, boxA g9 (encM (mesg 0 0 4 2 2 5 9)) 31, boxA g10 (encM (mesg 2 1 4 7 2 5 0)) 31, boxA g12 (encM (mesg 2 2 4 9 2 5 0)) 31]) := Lib.hid (hg12 ▸ key.1)
 have Hg12 := Lib.hid hg12
 have HW := Lib.hid hw24
 clear key S23 B23 hg12 hw24
 have K7 := Lib.hid (S24.out.blk (i := 7) rfl)
 go_wp2_with (first | (refine wpList_store_row rfl 31 (.tmp 12) (.tmp 66) rfl w23.heap.size (encM (mesg 2 2 4 9 2 5 0)) rfl rfl 31 _ NB.out (encM_info _) rfl (encM_one _) ?_; rw [← HW.out, ← Hg12.out]; clear Hg12 HW NB) | (refine wpList_load_row 31 (.tmp 12) rfl rfl rfl K7.out Tryz.underlying31 rfl (encM_info _) ?_))
 have key := len_take (i := 2) (B := lB) (b := lb) (s := ⟨4, 2, [], [⟨2, 5, 9, 3⟩]⟩) S24.out (Nat.le_trans (Nat.le_of_eq HAB.out) B24.out.size) rfl (mesg 2 2 4 9 2 5 0) (by dsimp only; omega) (len_small (by decide) _ _ _)
 rw [lz3] at key
 refine key.mono ?_
 clear key
 rintro e w25 ⟨⟨v25, rfl, hm⟩, hA⟩
 have Q25 := Lib.hid hm
 clear hm
 have S25 : Hid (Sys ab (fun _ _ => False) w25 [asrA ab ab 4 ⟨2, 1, 3, [⟨5, 9, 3, 4⟩]⟩, brkA bB bb 2 ⟨0, 2, [3, 4], [⟨2, 5, 9, [4, 3], true⟩]⟩, lenA lB lb ⟨4, 3, [], [⟨2, 5, 9, 4⟩]⟩, boxA xg (encM (mesg 2 0 0 1 2 5 9)) 31, boxA g8 (encM (mesg 2 0 0 1 2 5 9)) 31, boxA g9 (encM (mesg 0 0 4 2 2 5 9)) 31, boxA g10 (encM (mesg 2 1 4 7 2 5 0)) 31, boxA g12 (encM (mesg 2 2 4 9 2 5 0)) 31]) := Lib.hid (Z0 hA.1)
 have B25 : Hid (Below w.heap.size w w25) := Lib.hid (B24.out.trans ((hA.2.below (B := w.heap.size) B24.out.size fun k hk => by have := hk.1; have := HAB.out; omega)))
 clear hA S24 B24
 go_wp2_with fail
 refine (one_any _ _ _ w25 Q25.out).mono ?_
 rintro e w26 ⟨rfl, hb⟩
 have S26 := Lib.hid (S25.out.up' hb)
 have B26 : Hid (Below w.heap.size w w26) := Lib.hid (B25.out.trans (hb.mono B25.out.size))
 clear hb S25 B25 Q25
 go_wp2_with fail
 have key := asr_take (i := 0) (B := ab) (b := ab) (N := 4) (s := ⟨2, 1, 3, [⟨5, 9, 3, 4⟩]⟩) S26.out (Nat.le_trans (Nat.le_of_eq HAB.out) B26.out.size) rfl (mesg 4 2 2 10 2 5 0) (by omega) (len_small (by decide) _ _ _)
 rw [az5] at key
 refine key.mono ?_
 clear key
 rintro e w27 ⟨⟨v27, rfl, hm⟩, hA⟩
 clear hm
 have S27 : Hid (Sys ab (fun _ _ => False) w27 [asrA ab ab 5 ⟨2, 1, 3, [⟨5, 9, 4, 4⟩]⟩, brkA bB bb 2 ⟨0, 2, [3, 4], [⟨2, 5, 9, [4, 3], true⟩]⟩, lenA lB lb ⟨4, 3, [], [⟨2, 5, 9, 4⟩]⟩, boxA xg (encM (mesg 2 0 0 1 2 5 9)) 31, boxA g8 (encM (mesg 2 0 0 1 2 5 9)) 31, boxA g9 (encM (mesg 0 0 4 2 2 5 9)) 31, boxA g10 (encM (mesg 2 1 4 7 2 5 0)) 31, boxA g12 (encM (mesg 2 2 4 9 2 5 0)) 31]) := Lib.hid (Z0 hA.1)
 have B27 : Hid (Below w.heap.size w w27) := Lib.hid (B26.out.trans ((hA.2.below (B := w.heap.size) B26.out.size fun k hk => by have := hk.1; have := HAB.out; omega)))
 clear hA S26 B26
 go_wp2_with fail
 refine (asr_state (i := 0) (B := ab) (b := ab) (N := 5) (s := ⟨2, 1, 3, [⟨5, 9, 4, 4⟩]⟩) S27.out rfl 5 ⟨by omega, by omega⟩).mono ?_
 rintro e w127 ⟨rfl, rfl⟩
 rw [show Asr.state _ 5 = 4 from rfl]
 go_wp2_with fail
 have key := asr_here (i := 0) (B := ab) (b := ab) (N := 5) (s := ⟨2, 1, 3, [⟨5, 9, 4, 4⟩]⟩) S27.out rfl
 rw [hz0] at key
 refine key.mono ?_
 clear key
 rintro e w28 ⟨u28, rfl, hr, hb⟩
 obtain ⟨ua28, uc28, rfl, -⟩ := row_cellz hr
 dsimp only [List.length_cons, List.length_nil]
 have S28 := Lib.hid (S27.out.up' hb)
 have B28 : Hid (Below w.heap.size w w28) := Lib.hid (B27.out.trans (hb.mono B27.out.size))
 clear hr hb S27 B27
 go_wp2_with fail
 have key := len_here (i := 2) (B := lB) (b := lb) (s := ⟨4, 3, [], [⟨2, 5, 9, 4⟩]⟩) S28.out rfl (by simp)
 refine key.mono ?_
 clear key
 rintro e w29 ⟨u29, rfl, hr, hb⟩
 obtain ⟨ua29, uc29, rfl, -⟩ := row_cellz hr
 dsimp only [List.length_cons, List.length_nil]
 have S29 := Lib.hid (S28.out.up' hb)
 have B29 : Hid (Below w.heap.size w w29) := Lib.hid (B28.out.trans (hb.mono B28.out.size))
 clear hr hb S28 B28
 go_wp2_with fail
 have key := asr_ret (i := 0) (B := ab) (b := ab) (N := 5) (s := ⟨2, 1, 3, [⟨5, 9, 4, 4⟩]⟩) S29.out (Nat.le_trans (Nat.le_of_eq HAB.out) B29.out.size) rfl 5 (by omega) ⟨by omega, by omega⟩
 rw [az6] at key
 refine key.mono ?_
 clear key
 rintro e w30 ⟨⟨v30, rfl, hm⟩, hA⟩
 have Q30 := Lib.hid hm
 clear hm
 have S30 : Hid (Sys ab (fun _ _ => False) w30 [asrA ab ab 6 ⟨2, 1, 4, [⟨5, 9, 5, 4⟩]⟩, brkA bB bb 2 ⟨0, 2, [3, 4], [⟨2, 5, 9, [4, 3], true⟩]⟩, lenA lB lb ⟨4, 3, [], [⟨2, 5, 9, 4⟩]⟩, boxA xg (encM (mesg 2 0 0 1 2 5 9)) 31, boxA g8 (encM (mesg 2 0 0 1 2 5 9)) 31, boxA g9 (encM (mesg 0 0 4 2 2 5 9)) 31, boxA g10 (encM (mesg 2 1 4 7 2 5 0)) 31, boxA g12 (encM (mesg 2 2 4 9 2 5 0)) 31]) := Lib.hid (Z0 hA.1)
 have B30 : Hid (Below w.heap.size w w30) := Lib.hid (B29.out.trans ((hA.2.below (B := w.heap.size) B29.out.size fun k hk => by have := hk.1; have := HAB.out; omega)))
 clear hA S29 B29
 go_wp2_with fail
 refine (one_any _ _ _ w30 Q30.out).mono ?_
 rintro e w31 ⟨rfl, hb⟩
 have S31 := Lib.hid (S30.out.up' hb)
 have B31 : Hid (Below w.heap.size w w31) := Lib.hid (B30.out.trans (hb.mono B30.out.size))
 clear hb S30 B30 Q30
 go_wp2_with fail
 have key := len_take (i := 2) (B := lB) (b := lb) (s := ⟨4, 3, [], [⟨2, 5, 9, 4⟩]⟩) S31.out (Nat.le_trans (Nat.le_of_eq HAB.out) B31.out.size) rfl (mesg 2 3 4 11 2 5 0) (by dsimp only; omega) (len_small (by decide) _ _ _)
 rw [lz4] at key
 refine key.mono ?_
 clear key
 rintro e w32 ⟨⟨v32, rfl, hm⟩, hA⟩
 have Q32 := Lib.hid hm
 clear hm
 have S32 : Hid (Sys ab (fun _ _ => False) w32 [asrA ab ab 6 ⟨2, 1, 4, [⟨5, 9, 5, 4⟩]⟩, brkA bB bb 2 ⟨0, 2, [3, 4], [⟨2, 5, 9, [4, 3], true⟩]⟩, lenA lB lb ⟨4, 4, [9], [⟨2, 5, 9, 5⟩]⟩, boxA xg (encM (mesg 2 0 0 1 2 5 9)) 31, boxA g8 (encM (mesg 2 0 0 1 2 5 9)) 31, boxA g9 (encM (mesg 0 0 4 2 2 5 9)) 31, boxA g10 (encM (mesg 2 1 4 7 2 5 0)) 31, boxA g12 (encM (mesg 2 2 4 9 2 5 0)) 31]) := Lib.hid (Z0 hA.1)
 have B32 : Hid (Below w.heap.size w w32) := Lib.hid (B31.out.trans ((hA.2.below (B := w.heap.size) B31.out.size fun k hk => by have := hk.1; have := HAB.out; omega)))
 clear hA S31 B31
 go_wp2_with fail
 refine (one_any _ _ _ w32 Q32.out).mono ?_
 rintro e w33 ⟨rfl, hb⟩
 have S33 := Lib.hid (S32.out.up' hb)
 have B33 : Hid (Below w.heap.size w w33) := Lib.hid (B32.out.trans (hb.mono B32.out.size))
 clear hb S32 B32 Q32
 go_wp2_with fail
 have key := asr_take (i := 0) (B := ab) (b := ab) (N := 6) (s := ⟨2, 1, 4, [⟨5, 9, 5, 4⟩]⟩) S33.out (Nat.le_trans (Nat.le_of_eq HAB.out) B33.out.size) rfl (mesg 4 3 2 12 2 5 0) (by omega) (len_small (by decide) _ _ _)
 rw [az7] at key
 refine key.mono ?_
 clear key
 rintro e w34 ⟨⟨v34, rfl, hm⟩, hA⟩
 clear hm
 have S34 : Hid (Sys ab (fun _ _ => False) w34 [asrA ab ab 7 ⟨2, 1, 4, [⟨5, 9, 6, 4⟩]⟩, brkA bB bb 2 ⟨0, 2, [3, 4], [⟨2, 5, 9, [4, 3], true⟩]⟩, lenA lB lb ⟨4, 4, [9], [⟨2, 5, 9, 5⟩]⟩, boxA xg (encM (mesg 2 0 0 1 2 5 9)) 31, boxA g8 (encM (mesg 2 0 0 1 2 5 9)) 31, boxA g9 (encM (mesg 0 0 4 2 2 5 9)) 31, boxA g10 (encM (mesg 2 1 4 7 2 5 0)) 31, boxA g12 (encM (mesg 2 2 4 9 2 5 0)) 31]) := Lib.hid (Z0 hA.1)
 have B34 : Hid (Below w.heap.size w w34) := Lib.hid (B33.out.trans ((hA.2.below (B := w.heap.size) B33.out.size fun k hk => by have := hk.1; have := HAB.out; omega)))
 clear hA S33 B33
 go_wp2_with fail
 have K4 := Lib.hid (S34.out.blk (i := 4) rfl)
 have K5 := Lib.hid (S34.out.blk (i := 5) rfl)
 obtain ⟨S, hS⟩ : ∃ S : World → Prop, S = fun W => Below w34.heap.size w34 W := ⟨_, rfl⟩
 have LB : Hid (∀ W, S W → Blk W g8 #[i64 2, i64 0, i64 1, strV (txt 1 2 5 9)] 31) := Lib.hid (by rw [hS]; exact fun W hW => (K4.out.below hW K4.out.lt).cast rfl)
 have LD : Hid (∀ W, S W → W.cell? ⟨g9, 1, none⟩ = some (i64 4)) := Lib.hid (by rw [hS]; exact fun W hW => Below.cellE hW (K5.out.cell 1))
 have SS : Hid (∀ W, S W → Below w34.heap.size w34 W) := Lib.hid (by rw [hS]; exact fun W h => h)
 have UU : Hid (∀ W, Below w34.heap.size w34 W → S W) := Lib.hid (by rw [hS]; exact fun W h => h)
 have hHeld := UU.out _ (Below.refl w34.heap.size w34).drew
 have heq := fun W => eql_msg ⟨2, 0, 1, txt 1 2 5 9⟩ W
 dsimp only at heq
 clear hS K4 K5
 refine wp_region_held_drew (S := S) (by kernel_rfl) hHeld (fun _ => ?_)
 apply wpAnyH_apart4 (fun W => Below w.heap.size w W)
 case take =>
  intro R hR
  refine tk 0 (v := ?_) rfl hHeld ?_ ?_; rotate_left
  ·(intro w hSw; clear hSw; go_simp; try (with_reducible rfl))
  try simp only [gZ]
  refine tk 1 (v := ?_) rfl hHeld ?_ ?_; rotate_left
  ·(intro w hSw; clear hSw; go_simp; try (with_reducible rfl))
  try simp only [gZ]
  refine tk 2 (v := ?_) rfl hHeld ?_ ?_; rotate_left
  ·(intro w hSw; clear hSw; go_simp; try (with_reducible rfl))
  try simp only [gZ]
  refine tk 3 (v := ?_) rfl hHeld ?_ ?_; rotate_left
  ·(intro w hSw; clear hSw; go_simp; try (with_reducible rfl))
  try simp only [gZ]
  refine tk 4 (v := ?_) rfl hHeld ?_ ?_; rotate_left
  ·(intro w hSw; clear hSw; go_simp; try (with_reducible rfl))
  try simp only [gZ]
  refine tk 5 (v := ?_) rfl hHeld ?_ ?_; rotate_left
  ·(intro w hSw; clear hSw; go_simp; try (with_reducible rfl))
  try simp only [gZ]
  refine tk 6 (v := ?_) rfl hHeld ?_ ?_; rotate_left
  ·(intro w hSw; clear hSw; go_simp; try (with_reducible rfl))
  try simp only [gZ]
  refine wpAnyH_take (i := 7) (v := .agg #[i64 2, i64 0, i64 1, strV (txt 1 2 5 9)]) rfl (by kernel_rfl) (by kernel_rfl) (by kernel_rfl) (fun _ _ _ h => only_panic h) ?_ hHeld ?_
  ·exact yields_row (.tmp 8) (by rfl) rfl rfl LB.out Tryz.underlying31 rfl (by kernel_rfl)
  try simp only [gZ]
  refine wpAnyH_one (i := 8) rfl (by kernel_rfl) (by rfl) ?_
  go_simp
  refine (text_any 1 2 5 9 _ ⟨by omega, by omega⟩ ⟨by omega, by omega⟩ ⟨by omega, by omega⟩ ⟨by omega, by omega⟩).mono ?_
  rintro e W1 ⟨rfl, hb⟩
  have D1 := Lib.hid ((SS.out _ hHeld).trans (hb.mono (SS.out _ hHeld).size))
  have hHeld := UU.out _ D1.out
  clear hb
  refine ⟨hHeld, ?_⟩
  refine tk 9 (v := ?_) rfl hHeld ?_ ?_; rotate_left
  ·(intro w hSw; clear hSw; go_simp; try (with_reducible rfl))
  try simp only [gZ]
  refine tk 10 (v := ?_) rfl hHeld ?_ ?_; rotate_left
  ·(intro w hSw; clear hSw; go_simp; try (with_reducible rfl))
  try simp only [gZ]
  refine tk 11 (v := ?_) rfl hHeld ?_ ?_; rotate_left
  ·(intro w hSw; clear hSw; go_simp; try (with_reducible rfl))
  try simp only [gZ]
  refine tk 12 (v := ?_) rfl hHeld ?_ ?_; rotate_left
  ·(intro w hSw; clear hSw; go_simp; try (with_reducible rfl))
  try simp only [gZ]
  refine tk 13 (v := ?_) rfl hHeld ?_ ?_; rotate_left
  ·(intro w hSw; have l0 := LD.out w hSw; go_simp; try (with_reducible rfl))
  try simp only [gZ]
  refine tk 14 (v := ?_) rfl hHeld ?_ ?_; rotate_left
  ·(intro w hSw; have l0 := LD.out w hSw; go_simp; try (with_reducible rfl))
  try simp only [gZ]
  refine tk 15 (v := ?_) rfl hHeld ?_ ?_; rotate_left
  ·(intro w hSw; clear hSw; go_simp; try (with_reducible rfl))
  try simp only [gZ]
  refine tk 16 (v := ?_) rfl hHeld ?_ ?_; rotate_left
  ·(intro w hSw; clear hSw; go_simp; try (with_reducible rfl))
  try simp only [gZ]
  refine tk 17 (v := ?_) rfl hHeld ?_ ?_; rotate_left
  ·(intro w hSw; clear hSw; go_simp; try (with_reducible rfl))
  try simp only [gZ]
  refine tk 18 (v := ?_) rfl hHeld ?_ ?_; rotate_left
  ·(intro w hSw; clear hSw; go_simp; try (with_reducible rfl))
  try simp only [gZ]
  refine tk 19 (v := ?_) rfl hHeld ?_ ?_; rotate_left
  ·(intro w hSw; clear hSw; go_simp; try (with_reducible rfl))
  try simp only [gZ]
  refine tk 20 (v := ?_) rfl hHeld ?_ ?_; rotate_left
  ·(intro w hSw; clear hSw; go_simp; try (with_reducible rfl))
  try simp only [gZ]
  refine tk 21 (v := ?_) rfl hHeld ?_ ?_; rotate_left
  ·(intro w hSw; clear hSw; go_simp; try (with_reducible rfl))
  try simp only [gZ]
  refine tk 22 (v := ?_) rfl hHeld ?_ ?_; rotate_left
  ·(intro w hSw; clear hSw; go_simp; try (with_reducible rfl))
  try simp only [gZ]
  refine tk 23 (v := ?_) rfl hHeld ?_ ?_; rotate_left
  ·(intro w hSw; clear hSw; go_simp; try (with_reducible rfl))
  try simp only [gZ]
  refine tk 24 (v := ?_) rfl hHeld ?_ ?_; rotate_left
  ·(intro w hSw; clear hSw; go_simp; try (with_reducible rfl))
  try simp only [gZ]
  refine tk 25 (v := ?_) rfl hHeld ?_ ?_; rotate_left
  ·(intro w hSw; clear hSw; go_simp; try (with_reducible rfl))
  try simp only [gZ]
  refine tk 26 (v := ?_) rfl hHeld ?_ ?_; rotate_left
  ·(intro w hSw; clear hSw; go_simp; try (with_reducible rfl))
  try simp only [gZ]
  refine tk 27 (v := ?_) rfl hHeld ?_ ?_; rotate_left
  ·(intro w hSw; clear hSw; go_simp; try (with_reducible rfl))
  try simp only [gZ]
  refine tk 28 (v := ?_) rfl hHeld ?_ ?_; rotate_left
  ·(intro w hSw; clear hSw; go_simp; try (with_reducible rfl))
  try simp only [gZ]
  refine tk 29 (v := ?_) rfl hHeld ?_ ?_; rotate_left
  ·(intro w hSw; clear hSw; go_simp; try (with_reducible rfl))
  try simp only [gZ]
  refine tk 30 (v := ?_) rfl hHeld ?_ ?_; rotate_left
  ·(intro w hSw; clear hSw; go_simp; try (with_reducible rfl))
  try simp only [gZ]
  refine tk 31 (v := ?_) rfl hHeld ?_ ?_; rotate_left
  ·(intro w hSw; clear hSw; go_simp; try (with_reducible rfl))
  try simp only [gZ]
  refine tk 32 (v := ?_) rfl hHeld ?_ ?_; rotate_left
  ·(intro w hSw; clear hSw; go_simp; try (with_reducible rfl))
  try simp only [gZ]
  refine tk 33 (v := ?_) rfl hHeld ?_ ?_; rotate_left
  ·(intro w hSw; clear hSw; go_simp; try (with_reducible rfl))
  try simp only [gZ]
  refine wpAnyH_one (i := 34) rfl (by kernel_rfl) (by rfl) ?_
  go_simp
  refine (asr_state (i := 0) (B := ab) (b := ab) (N := 7) (s := ⟨2, 1, 4, [⟨5, 9, 6, 4⟩]⟩) (S34.out.up' D1.out) rfl 5 ⟨by omega, by omega⟩).mono ?_
  rintro e W2 ⟨rfl, rfl⟩
  rw [show Asr.state _ 5 = 6 from rfl]
  refine ⟨hHeld, ?_⟩
  refine tk 35 (v := ?_) rfl hHeld ?_ ?_; rotate_left
  ·(intro w hSw; clear hSw; go_simp; try (with_reducible rfl))
  try simp only [gZ]
  refine tk 36 (v := ?_) rfl hHeld ?_ ?_; rotate_left
  ·(intro w hSw; clear hSw; go_simp; try (with_reducible rfl))
  try simp only [gZ]
  refine tk 37 (v := ?_) rfl hHeld ?_ ?_; rotate_left
  ·(intro w hSw; clear hSw; go_simp; try (with_reducible rfl))
  try simp only [gZ]
  refine tk 38 (v := ?_) rfl hHeld ?_ ?_; rotate_left
  ·(intro w hSw; clear hSw; go_simp; try (with_reducible rfl))
  try simp only [gZ]
  refine wpAnyH_one (i := 39) rfl (by kernel_rfl) (by rfl) ?_
  go_simp
  refine (len_here (i := 2) (B := lB) (b := lb) (s := ⟨4, 4, [9], [⟨2, 5, 9, 5⟩]⟩) (S34.out.up' D1.out) rfl (by simp)).mono ?_
  rintro e W3 ⟨u3, rfl, hr, hb⟩
  obtain ⟨ua3, uc3, rfl, -⟩ := row_cellz hr
  dsimp only [List.length_cons, List.length_nil]
  have D3 := Lib.hid (D1.out.trans (hb.mono D1.out.size))
  have hHeld := UU.out _ D3.out
  clear hb hr
  refine ⟨hHeld, ?_⟩
  refine tk 40 (v := ?_) rfl hHeld ?_ ?_; rotate_left
  ·(intro w hSw; clear hSw; go_simp; try (with_reducible rfl))
  try simp only [gZ]
  refine tk 41 (v := ?_) rfl hHeld ?_ ?_; rotate_left
  ·(intro w hSw; clear hSw; go_simp; try (with_reducible rfl))
  try simp only [gZ]
  refine tk 42 (v := ?_) rfl hHeld ?_ ?_; rotate_left
  ·(intro w hSw; clear hSw; go_simp; try (with_reducible rfl))
  try simp only [gZ]
  refine tk 43 (v := ?_) rfl hHeld ?_ ?_; rotate_left
  ·(intro w hSw; clear hSw; go_simp; try (with_reducible rfl))
  try simp only [gZ]
  refine tk 44 (v := ?_) rfl hHeld ?_ ?_; rotate_left
  ·(intro w hSw; clear hSw; go_simp; try (with_reducible rfl))
  try simp only [gZ]
  refine wpAnyH_one (i := 45) rfl (by kernel_rfl) (by rfl) ?_
  go_simp
  have key := asr_here (i := 0) (B := ab) (b := ab) (N := 7) (s := ⟨2, 1, 4, [⟨5, 9, 6, 4⟩]⟩) (S34.out.up' D3.out) rfl
  rw [hz1] at key
  refine key.mono ?_
  clear key
  rintro e W4 ⟨u4, rfl, hr, hb⟩
  obtain ⟨ua4, uc4, rfl, -⟩ := row_cellz hr
  dsimp only [List.length_cons, List.length_nil]
  have D4 := Lib.hid (D3.out.trans (hb.mono D3.out.size))
  have hHeld := UU.out _ D4.out
  clear hb hr
  refine ⟨hHeld, ?_⟩
  refine tk 46 (v := ?_) rfl hHeld ?_ ?_; rotate_left
  ·(intro w hSw; clear hSw; go_simp; try (with_reducible rfl))
  try simp only [gZ]
  refine tk 47 (v := ?_) rfl hHeld ?_ ?_; rotate_left
  ·(intro w hSw; clear hSw; go_simp; try (with_reducible rfl))
  try simp only [gZ]
  refine tk 48 (v := ?_) rfl hHeld ?_ ?_; rotate_left
  ·(intro w hSw; clear hSw; go_simp; try (with_reducible rfl))
  try simp only [gZ]
  refine tk 49 (v := ?_) rfl hHeld ?_ ?_; rotate_left
  ·(intro w hSw; clear hSw; go_simp; try (with_reducible rfl))
  try simp only [gZ]
  exact wpAnyH_done (by kernel_rfl) ⟨rfl, hR ua3 uc3 ua4 uc4 _ (B34.out.trans (D4.out.mono B34.out.size))⟩ _
 case rest =>
  rintro x y z u W hb
  have F := Lib.hid hb
  clear hb
  go_wp2_with fail
  go_ret
  exact ⟨rfl, F.out⟩
end Go.Proofs.YtdojgbpaheadnaaGreat
