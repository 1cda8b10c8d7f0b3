/- The words of a text, one by one. -/
import Derived.Test.YtpdldbapagchfaaGreatDoorQ04
import Derived.RangeFuncNested
import Derived.RangeFuncBound
import Derived.RangeFuncCalls
import Derived.RangeFuncLeaves
import Derived.Shelf.Abstract
import Derived.Shelf.RegionOpen
import Derived.WalkKit
import Derived.OwnWalkIn
import Derived.TacticsInMore
import Derived.LoopNIn
import Derived.LoopIn
import Derived.Shelf.SlIterI.Nil
import Derived.Maps.AppendAt
import Derived.OwnWalk
set_option linter.unusedVariables false
set_option linter.unusedSimpArgs false

namespace Go.Proofs.YtpdldbapagchfaaGreatDoor
open Go.RowKit Go.Shelf Go.Maps

set_option maxRecDepth 100000 in
set_option maxHeartbeats 20000000 in
theorem words_gives (s : ByteArray) (hs : s.size ≤ 1000) (n : Nat) (hn : 2 ≤ n) (gb Bs : Nat) (w : World) (hgb : w.cell? ⟨gb, 0, none⟩ = some (.string s)) :
    SeqK Fence.wide n Tryz.prog 122 #[.pointer (some ⟨gb, 0, none⟩)] (fun x : List UInt8 => .string (ofL x)) Bs (fun xs => xs = wordsC s) (wordsC s).length w := fun l J W hW hBs hJ hY h0 => by
  have hc0 : W.cell? ⟨gb, 0, none⟩ = some (.string s) := Below.cellE hW hgb
  have HJ := Lib.hid hJ
  have HY := Lib.hid hY
  have H0 := Lib.hid h0
  have HBS := Lib.hid hBs
  clear hW hgb hJ hY h0 hBs
  refine callsIn_of_wp Tryz.func122 rfl trivial ?_ rfl
  simp only [Tryz.ntmps122, List.size_toArray, List.length_cons, List.length_nil, Nat.reduceAdd, Nat.reduceSub, Array.replicate_succ, Array.replicate_zero, List.push_toArray, List.append_toArray, List.nil_append, List.cons_append]
  gi_wp2
  refine ⟨trivial, fun _ => by omega, ?_⟩
  refine (callsIn_wide.2 (letters_any W)).mono ?_
  rintro e w1 ⟨nn, f, rfl, hm, hf, hb⟩
  have HM := Lib.hid hm
  have HF := Lib.hid hf
  have HB1 := Lib.hid hb
  obtain ⟨mb, hmb⟩ : ∃ mb, mb = W.heap.size + 1 := ⟨_, rfl⟩
  rw [← hmb] at HM ⊢
  have hmbW : W.heap.size < mb := by omega
  clear hmb
  have hc1 : w1.cell? ⟨gb, 0, none⟩ = some (.string s) := Below.cellE hb hc0
  have hz1 : W.heap.size ≤ w1.heap.size := hb.size
  have hml : mb < w1.heap.size := HM.out.lt
  have HJ1 := Lib.hid (HJ.out.below H0.out (Nat.le_refl _) hb)
  have hgl : gb < w1.heap.size := cell_lt hc1
  clear hm hf hb hc0
  have HI2 : RowKit.Hid (IsB W.heap.size w1.heap.size [] ((w1.alloc (.cells #[.pointer none, .slice none 0 0] 140)).iter s 0)) := Lib.hid ((isB_new w1 W.heap.size hz1).alloc _)
  have HT2 : RowKit.Hid (((w1.alloc (.cells #[.pointer none, .slice none 0 0] 140)).iter s 0).heap[w1.heap.size + 1]? = some (.stringIter s 0)) := Lib.hid (by
    have := World.iter_heap (w1.alloc (.cells #[.pointer none, .slice none 0 0] 140)) s 0
    rw [size_alloc] at this; exact this)
  have HB2 : RowKit.Hid (Below w1.heap.size w1 ((w1.alloc (.cells #[.pointer none, .slice none 0 0] 140)).iter s 0)) := Lib.hid (((Below.refl _ _).alloc (Nat.le_refl _) _).alloc (by simp) _)
  have HM2 : RowKit.Hid (MapF ((w1.alloc (.cells #[.pointer none, .slice none 0 0] 140)).iter s 0) Tryz.prog 21 RS mb nn f) := Lib.hid (HM.out.keep (Tn.of_below (F := fun _ => False) HB2.out) (fun h => h))
  have HJ2 : RowKit.Hid (J [] ((w1.alloc (.cells #[.pointer none, .slice none 0 0] 140)).iter s 0)) := Lib.hid (HJ.out.below HJ1.out hz1 HB2.out)
  obtain ⟨b, hbb⟩ : ∃ b, b = w1.heap.size := ⟨_, rfl⟩
  gi_wp2
  rw [← hbb] at HI2 HT2 HB2 ⊢
  have hb1 : W.heap.size ≤ b := by omega
  have hmb1 : mb < b := by omega
  have hbsW : Bs < W.heap.size := HBS.out
  have HBB := Lib.hid hbb
  clear hbb hc1 hgl hml hz1
  gi_loopw [] (fun wr => ∃ (pos : Nat) (word : List UInt8) (pre : List (List UInt8)), wr.heap[b + 1]? = some (.stringIter s pos) ∧ IsB W.heap.size b word wr ∧ MapF wr Tryz.prog 21 RS mb nn f ∧ J pre wr ∧ pre ++ wordsP (charP tabC) (runesAt s pos) word = wordsC s ∧ word.length ≤ 10 * pos) (fun wr => s.size - wr.iterPos (b + 1))
  case atStart => exact ⟨0, [], [], HT2.out, HI2.out, HM2.out, HJ2.out, rfl, by simp⟩
  case round =>
    obtain ⟨pos, word, pre, hit, hib, hmp, hj, hw, hwl⟩ := hrel
    have HIB := Lib.hid hib
    have HMP := Lib.hid hmp
    have HJP := Lib.hid hj
    have HWD := Lib.hid hw
    have hzr : W.heap.size ≤ wr.heap.size := by have := heap_lt hit; omega
    clear hib hmp hj hw HT2 HI2 HB2 HM2 HJ2 HJ1 HB1 HM
    by_cases hp : pos < s.size
    · have hnx : ∀ ty, (Instr.next (.pointer (some ⟨b + 1, 0, none⟩)) true ty).run Tryz.prog wr = _ := fun ty => Lib.run_next_any_at wr (b + 1) s pos ty hit hp
      have hd1 := decode_le s pos
      have hdp := dec_pos s pos hp
      have hst := runesAt_step s hp
      obtain ⟨pos', hpos'⟩ : ∃ pos', pos' = pos + (Utf8.decode s pos).2 := ⟨_, rfl⟩
      have hpp : pos < pos' := by omega
      obtain ⟨c, hc⟩ : ∃ c, c = (Utf8.decode s pos).1 := ⟨_, rfl⟩
      obtain ⟨W4, hW4⟩ : ∃ W4, W4 = wr.iterAt (b + 1) s pos' := ⟨_, rfl⟩
      have HIB4 : RowKit.Hid (IsB W.heap.size b word W4) := Lib.hid (by rw [hW4]; exact HIB.out.iterAt hit pos')
      have HIT4 : RowKit.Hid (W4.heap[b + 1]? = some (.stringIter s pos')) := Lib.hid (by rw [hW4]; exact Lib.iterAt_heap wr (b + 1) s pos pos' hit)
      have T4 : Tn (fun k => k = b + 1) wr W4 := by
        rw [hW4]; exact ⟨rfl, rfl, rfl, by rw [Lib.iterAt_size]; exact Nat.le_refl _, fun k _ hk => Lib.iterAt_other wr (b + 1) k s _ hk⟩
      have HMP4 : RowKit.Hid (MapF W4 Tryz.prog 21 RS mb nn f) := Lib.hid (HMP.out.keep T4 (fun h => by omega))
      have HJP4 : RowKit.Hid (J pre W4) := Lib.hid (HJ.out pre wr W4 HJP.out (T4.below hzr (fun k h => by omega)) (fun k o hk hor => by
        have hkb : k ≠ b + 1 := by
          rcases hor with rfl | ⟨c', fz, rfl⟩
          · omega
          · intro e; rw [e, hit] at hk; cases hk
        exact (T4.block k (heap_lt hk) hkb).trans hk))
      have hz4 : W.heap.size ≤ W4.heap.size := by have := T4.size; omega
      have HWD4 : RowKit.Hid (pre ++ wordsP (charP tabC) (c :: runesAt s pos') word = wordsC s) := Lib.hid (by rw [← HWD.out, hst, hc, hpos'])
      have HFC := Lib.hid (fold_any c (by rw [hc]; exact hd1) HMP4.out HF.out)
      have HIT0 := Lib.hid hit
      rw [← hpos', ← hW4, ← hc] at hnx
      clear hst hd1 hc hW4 T4 hpos' hdp hit HIB HMP HJP HWD
      gi_wp2
      refine ⟨trivial, fun _ => by omega, ?_⟩
      refine (callsIn_wide.2 HFC.out).mono ?_
      rintro e W4 ⟨rfl, rfl⟩
      obtain ⟨ch, hch⟩ : ∃ ch, ch = charP tabC c := ⟨_, rfl⟩
      have hchl : ch.length ≤ 10 := by rw [hch]; exact charC_small c
      obtain ⟨tx, htx⟩ : ∃ tx, tx = ofL ch := ⟨_, rfl⟩
      have hxl : tx.toList = ch := by rw [htx, ByteArray.toList_eq]; rfl
      have hxs : tx.size = ch.length := by rw [htx]; exact ofL_size ch
      have hxd : tx.data.toList = ch := by rw [htx]; rfl
      have HWC : RowKit.Hid (ch = charP tabC c) := Lib.hid hch
      rw [← hch, ← htx]
      clear htx hch HFC
      by_cases hbl : ch = [32]
      · have hx1 : tx.toList = [32] := hxl.trans hbl
        have hx2 : (tx.toList == [32]) = true := by simpa using hx1
        have HCB : RowKit.Hid (charP tabC c = [32]) := Lib.hid (by rw [← HWC.out]; exact hbl)
        clear hxl hxs hxd hchl HWC hbl
        by_cases hwe : word = []
        · subst hwe
          have HLEN : RowKit.Hid (Calls Tryz.prog 125 #[.pointer (some ⟨b, 0, none⟩)] W4 fun e w' => e = .returned (.int .i64 0) ∧ w' = W4) := Lib.hid (by
            have hlen := Tryz.Builder_Len_f W.heap.size b (Lib.byteCells []) W4 HIB4.out
            rw [Lib.byteCells_length, List.length_nil] at hlen; exact hlen)
          gi_wp2
          refine ⟨trivial, fun _ => by omega, ?_⟩
          refine (callsIn_wide.2 HLEN.out).mono ?_
          rintro e W4 ⟨rfl, rfl⟩
          gi_wp2
          refine ⟨trivial, ?_⟩
          gi_wp2
          refine ⟨fun _ h => (by cases h), ?_⟩
          gi_wp2
          refine ⟨trivial, fun _ => by omega, ?_⟩
          refine (callsIn_wide.2 (reset_any W.heap.size b [] W4 HIB4.out)).mono ?_
          rintro e W6 ⟨rfl, hi6, hb6, hk6⟩
          have HIB6 := Lib.hid hi6
          have HIT6 := Lib.hid (hk6.iter HIT4.out (by omega))
          have HMP6 := Lib.hid (othersK_map hk6 (by omega) HMP4.out)
          have HJ6 := Lib.hid (AbK.wrote HJ.out hbsW HJP4.out HIB4.out hz4 hb6 hk6)
          have HW6 : RowKit.Hid (pre ++ wordsP (charP tabC) (runesAt s pos') [] = wordsC s) := Lib.hid (by rw [← HWD4.out, wordsP, if_neg (by rw [HCB.out]; simp), if_pos rfl])
          clear hi6 hb6 hk6
          gi_wp2
          go_roundw
          case rel => exact ⟨pos', [], pre, HIT6.out, HIB6.out, HMP6.out, HJ6.out, HW6.out, by simp⟩
          case measure =>
            simp only [World.iterPos, HIT6.out, HIT0.out]
            omega
        · have hwl0 : 0 < word.length := List.length_pos_iff.2 hwe
          have HW6 : RowKit.Hid ((pre ++ [word]) ++ wordsP (charP tabC) (runesAt s pos') [] = wordsC s) := Lib.hid (by rw [← HWD4.out, wordsP, if_neg (by rw [HCB.out]; simp), if_neg hwe, List.append_assoc]; rfl)
          have hpl : pre.length < (wordsC s).length := by rw [← HW6.out]; simp
          clear hwe
          have hlen := Tryz.Builder_Len_f W.heap.size b (Lib.byteCells word) W4 HIB4.out
          rw [Lib.byteCells_length] at hlen
          have HLEN := Lib.hid hlen
          clear hlen
          gi_wp2
          refine ⟨trivial, fun _ => by omega, ?_⟩
          refine (callsIn_wide.2 HLEN.out).mono ?_
          rintro e W4 ⟨rfl, rfl⟩
          gi_wp2
          refine ⟨trivial, fun _ => by omega, ?_⟩
          refine (callsIn_wide.2 (bstr_any W.heap.size b word W4 HIB4.out hz4)).mono ?_
          rintro e W5 ⟨rfl, hi5, hb5, hk5⟩
          have HIB5 := Lib.hid hi5
          have HIT5 := Lib.hid (hk5.iter HIT4.out (by omega))
          have HMP5 := Lib.hid (othersK_map hk5 (by omega) HMP4.out)
          have HJ5 := Lib.hid (AbK.wrote HJ.out hbsW HJP4.out HIB4.out hz4 hb5 hk5)
          have hz5 : W.heap.size ≤ W5.heap.size := by have := hb5.size; omega
          clear hi5 hb5 hk5
          obtain ⟨fn, tmps, assign, bd, hy, hR⟩ := HY.out pre word W5 HJ5.out hpl
          gi_wp2
          refine ⟨fun _ => by omega, hR.mono ?_⟩
          rintro e W6 ⟨rfl, hJ6, hk6⟩
          have HIB6 := Lib.hid (hk6.isB hbsW HIB5.out)
          have HIT6 := Lib.hid (hk6.iter (by omega) HIT5.out)
          have HMP6 := Lib.hid (hk6.map (by omega) HMP5.out)
          have HJ6 := Lib.hid hJ6
          have hz6 : W.heap.size ≤ W6.heap.size := by have := hk6.size; omega
          clear hJ6 hk6
          gi_wp2
          refine ⟨trivial, fun _ => by omega, ?_⟩
          refine (callsIn_wide.2 (reset_any W.heap.size b word W6 HIB6.out)).mono ?_
          rintro e W7 ⟨rfl, hi7, hb7, hk7⟩
          have HIB7 := Lib.hid hi7
          have HIT7 := Lib.hid (hk7.iter HIT6.out (by omega))
          have HMP7 := Lib.hid (othersK_map hk7 (by omega) HMP6.out)
          have HJ7 := Lib.hid (AbK.wrote HJ.out hbsW HJ6.out HIB6.out hz6 hb7 hk7)
          clear hi7 hb7 hk7
          gi_wp2
          go_roundw
          case rel => exact ⟨pos', [], pre ++ [word], HIT7.out, HIB7.out, HMP7.out, HJ7.out, HW6.out, by simp⟩
          case measure =>
            simp only [World.iterPos, HIT7.out, HIT0.out]
            omega
      · have hx1 : ¬ tx.toList = [32] := fun h => hbl (hxl.symm.trans h)
        have hx2 : (tx.toList == [32]) = false := by simpa using hx1
        have HCB : RowKit.Hid (charP tabC c ≠ [32]) := Lib.hid (by rw [← HWC.out]; exact hbl)
        have HWS := Lib.hid (wstr_any W.heap.size b word tx W4 HIB4.out (by rw [hxs]; omega) hz4)
        have HXD := Lib.hid hxd
        clear hxl hxs hxd hbl
        gi_wp2
        refine ⟨trivial, fun _ => by omega, ?_⟩
        refine (callsIn_wide.2 HWS.out).mono ?_
        rintro e W6 ⟨rfl, hi6, hb6, hk6⟩
        rw [HXD.out] at hi6
        have HIB6 := Lib.hid hi6
        have HIT6 := Lib.hid (hk6.iter HIT4.out (by omega))
        have HMP6 := Lib.hid (othersK_map hk6 (by omega) HMP4.out)
        have HJ6 := Lib.hid (AbK.wrote HJ.out hbsW HJP4.out HIB4.out hz4 hb6 hk6)
        have HW6 : RowKit.Hid (pre ++ wordsP (charP tabC) (runesAt s pos') (word ++ ch) = wordsC s) := Lib.hid (by rw [← HWD4.out, wordsP, if_pos HCB.out, HWC.out])
        clear hi6 hb6 hk6
        gi_wp2
        go_roundw
        case rel => exact ⟨pos', word ++ ch, pre, HIT6.out, HIB6.out, HMP6.out, HJ6.out, HW6.out, by simp; omega⟩
        case measure =>
          simp only [World.iterPos, HIT6.out, HIT0.out]
          omega
    · have hnx : ∀ ty, (Instr.next (.pointer (some ⟨b + 1, 0, none⟩)) true ty).run Tryz.prog wr = _ := fun ty => Lib.run_next_end_at wr (b + 1) s pos ty hit hp
      have HWE : RowKit.Hid (pre ++ wordsP (charP tabC) [] word = wordsC s) := Lib.hid (by rw [← HWD.out, runesAt_end s hp])
      clear hit HWD hp
      by_cases hwe : word = []
      · subst hwe
        have HLEN : RowKit.Hid (Calls Tryz.prog 125 #[.pointer (some ⟨b, 0, none⟩)] wr fun e w' => e = .returned (.int .i64 0) ∧ w' = wr) := Lib.hid (by
          have hlen := Tryz.Builder_Len_f W.heap.size b (Lib.byteCells []) wr HIB.out
          rw [Lib.byteCells_length, List.length_nil] at hlen; exact hlen)
        have HW6 : RowKit.Hid (pre = wordsC s) := Lib.hid (by rw [← HWE.out, wordsP, if_pos rfl, List.append_nil])
        gi_wp2
        refine ⟨trivial, fun _ => by omega, ?_⟩
        refine (callsIn_wide.2 HLEN.out).mono ?_
        rintro e wr ⟨rfl, rfl⟩
        gi_wp2
        go_end0
        exact ⟨⟨_, rfl⟩, _, HW6.out, HJP.out⟩
      · have hwl0 : 0 < word.length := List.length_pos_iff.2 hwe
        have HW6 : RowKit.Hid (pre ++ [word] = wordsC s) := Lib.hid (by rw [← HWE.out, wordsP, if_neg hwe])
        have hpl : pre.length < (wordsC s).length := by rw [← HW6.out]; simp
        clear hwe
        have hlen := Tryz.Builder_Len_f W.heap.size b (Lib.byteCells word) wr HIB.out
        rw [Lib.byteCells_length] at hlen
        have HLEN := Lib.hid hlen
        clear hlen
        gi_wp2
        refine ⟨trivial, fun _ => by omega, ?_⟩
        refine (callsIn_wide.2 HLEN.out).mono ?_
        rintro e W4 ⟨rfl, rfl⟩
        gi_wp2
        refine ⟨trivial, fun _ => by omega, ?_⟩
        refine (callsIn_wide.2 (bstr_any W.heap.size b word W4 HIB.out hzr)).mono ?_
        rintro e W5 ⟨rfl, hi5, hb5, hk5⟩
        have HJ5 := Lib.hid (AbK.wrote HJ.out hbsW HJP.out HIB.out hzr hb5 hk5)
        clear hi5 hb5 hk5
        obtain ⟨fn, tmps, assign, bd, hy, hR⟩ := HY.out pre word W5 HJ5.out hpl
        gi_wp2
        refine ⟨fun _ => by omega, hR.mono ?_⟩
        rintro e W6 ⟨rfl, hJ6, hk6⟩
        have HJ6 := Lib.hid hJ6
        clear hJ6 hk6
        gi_wp2
        go_end0
        exact ⟨⟨_, rfl⟩, _, HW6.out, HJ6.out⟩
end Go.Proofs.YtpdldbapagchfaaGreatDoor

/- A range over a function whose iterator keeps a variable of its own in a block gb and writes it between two rounds; the loop's body never leaves. -/
namespace Go.Proofs.YtpdldbapagchfaaGreatDoor
open Go.RowKit Go.Shelf

def SeqW {α : Type} (F : Fence) (n : Nat) (P : Program) (g : Nat) (lb : Array Value) (gb : Nat) (encs : α → Array Value) (S : List α → Prop) (N : Nat) (w : World) : Prop :=
  ∀ (l : Nat) (J : List α → World → Prop) (W : World), Below w.heap.size w W → AbidesFrom W.heap.size J → (∀ s A v, J s A → J s (A.setCell ⟨gb, 0, none⟩ v)) →
    (∀ pre x W1, J pre W1 → pre.length < N → YieldAt F (n - 1) P l (encs x) W1 fun e W' => e = .returned (.bool true) ∧ J (pre ++ [x]) W' ∧ W'.heap[gb]? = W1.heap[gb]?) →
    J [] W →
    CallsIn F n P g (#[.func (.yield l) #[] #[]] ++ lb) W fun e W' => (∃ v, e = .returned v) ∧ ∃ xs, S xs ∧ J xs W'
/-- The body goes on, always. -/
def goesOn (R : World → Prop) : Exit → Act → World → Prop
  | .normal, _, W' => R W'
  | _, _, _ => False
variable {F : Fence} {n : Nat} {P : Program}
theorem wpIn_rangeFunc_w {α : Type} {g : Operand} {ps : Array Tmp} {assign body : Code} {Q : Exit → Act → World → Prop} {a : Act} {w : World}
    (hro : F.round = none) (h1 : 1 ≤ n) {gf : Nat} {lb : Array Value} (hg : a.eval g = .func (.func gf) #[] lb) (hFg : F.fn gf) (eg : ∀ args w, (callFunc gf args).run P w = .ok (.enter gf args) w)
    {gb : Nat} (hgb : gb < w.heap.size) {encs : α → Array Value} {S : List α → Prop} {N : Nat} (hseq : SeqW F (n - 1) P gf lb gb encs S N w) (hps : ∀ x, (encs x).size = ps.size)
    (I : List α → World → Prop) (hI : OwnFrom w.heap.size I) (hIw : ∀ s A v, I s A → I s (A.setCell ⟨gb, 0, none⟩ v)) (h0 : I [] w) (a₁ : α → Act)
    (hassign : ∀ (l : Nat) (x : α) (W : World) (K : Act → World → Prop), K (a₁ x) W →
      assign.wpIn (F.inRound l) (n - 1 - 1) P (Exit.then K (fun _ _ _ => False)) { tmps := (ps.zip (encs x)).foldl (fun t (p, v) => t.setIfInBounds p v) a.tmps, defers := [] } W)
    (hbody : ∀ (l : Nat) (pre : List α) (x : α) (W : World), I pre W → pre.length < N → body.wpIn (F.inRound l) (n - 1 - 1) P (goesOn fun W' => KeepsOthers W W' ∧ W'.heap[gb]? = W.heap[gb]? ∧ I (pre ++ [x]) W') (a₁ x) W)
    (hdone : ∀ (D : Nat) (xs : List α) (W : World), w.heap.size ≤ D → S xs → I xs W → W.heap[D]? = some (.deferred (some [])) → Q .normal { a with defers := { target := .collected D, args := #[] } :: a.defers } W) :
    (Code.rangeFunc g ps assign body).wpIn F n P Q a w := by
  refine wpIn_rangeFunc ?_
  intro fn hfn
  rw [hro]
  obtain ⟨D, hD⟩ : ∃ D, D = w.heap.size := ⟨_, rfl⟩
  obtain ⟨L, hL⟩ : ∃ L, L = D + 1 := ⟨_, rfl⟩
  obtain ⟨rec, hrec⟩ : ∃ rec : LoopState → Loop, rec = fun st => { state := st, pending := none, fn, tmps := a.tmps, params := ps, assign, body, defers := D } := ⟨_, rfl⟩
  obtain ⟨W1, hW1⟩ : ∃ W1, (w.alloc (.deferred (some []))).alloc (.loop (rec .ready)) = W1 := ⟨_, rfl⟩
  have s1 : (w.alloc (.deferred (some []))).heap.size = L := by rw [World.size_alloc, hL, hD]
  have hL1 : W1.heap[L]? = some (.loop (rec .ready)) := by rw [← hW1, ← s1]; exact World.alloc_heap_new _ _
  have hK1 : W1.heap[D]? = some (.deferred (some [])) := by
    rw [← hW1, hD]; exact (Below.heap_alloc _ _ _ (by rw [World.size_alloc]; omega)).trans (World.alloc_heap_new w _)
  have hI1 : I [] W1 := by rw [← hW1]; exact hI.alloc _ (hI.alloc _ h0)
  have hb1 : Below w.heap.size w W1 := by rw [← hW1]; exact ((Below.refl _ w).alloc (Nat.le_refl _) _).alloc (by rw [World.size_alloc]; omega) _
  have hs1 : W1.heap.size = L + 1 := by rw [← hW1, World.size_alloc, s1]
  have hgD : gb ≠ D := by omega
  have hgL : gb ≠ L := by omega
  refine ⟨L, [{ target := .collected D, args := #[] }], W1, { target := .fn (.func gf) lb, args := #[.func (.yield L) #[] #[]] }, W1, gf, #[.func (.yield L) #[] #[]] ++ lb, W1, ?_, ?_, ?_, ?_, fun _ => h1, ?_⟩
  · rw [← hW1, hrec, hL, hD]; exact run_enterLoop_outer _ _ _ _ _
  · simp only [resolve, hg]
    simp [go_sem]
  · intro f' hf'; simp [Target.leads] at hf'; subst hf'; exact hFg
  · simp [invoke, go_sem, eg]
  · refine (hseq L (fun pre W => I pre W ∧ W.heap[L]? = some (.loop (rec .ready)) ∧ W.heap[D]? = some (.deferred (some []))) W1 hb1 ?_ ?_ ?_ ⟨hI1, hL1, hK1⟩).mono ?_
    · rintro s A B row ⟨h1, h2, h3⟩ hg' hr
      refine ⟨hI s A B row h1 hg' fun r e => ?_, (grownBy_keeps hg' (fun r e => (hr r e).2) h2 rfl).trans h2, (grownBy_keeps hg' (fun r e => (hr r e).2) h3 rfl).trans h3⟩
      obtain ⟨h4, o, h5, h6⟩ := hr r e
      exact ⟨by omega, o, h5, Obj.not_cells_of_walk h6⟩
    · rintro s A v ⟨h1, h2, h3⟩
      exact ⟨hIw s A v h1, (Below.heap_setCell _ _ _ _ (Ne.symm hgL)).trans h2, (Below.heap_setCell _ _ _ _ (Ne.symm hgD)).trans h3⟩
    · rintro pre x W ⟨hi, hl, hk⟩ hlen
      have hlt : L < W.heap.size := (Array.getElem?_eq_some_iff.1 hl).1
      have hy := run_yield (P := P) (args := encs x) hl (by rw [hrec]; exact hps x)
      rw [hrec] at hy
      refine ⟨fn, _, assign, body, hy, roundIn_of_wpIn hfn (hassign _ x W _ ⟨_, run_beginRound hl (by rw [hrec]), ?_⟩)⟩
      obtain ⟨W2, hW2⟩ : ∃ W2, W2 = W.putObj L (.loop { rec .ready with state := .busy }) := ⟨_, rfl⟩
      have hl2 : W2.heap[L]? = some (.loop { rec .ready with state := .busy }) := by rw [hW2]; exact World.putObj_heap_same hlt
      have hk2 : W2.heap[D]? = some (.deferred (some [])) := by rw [hW2]; exact (World.putObj_heap_other (by omega)).trans hk
      have hg2 : W2.heap[gb]? = W.heap[gb]? := by rw [hW2]; exact World.putObj_heap_other hgL
      have hi2 : I pre W2 := by rw [hW2]; exact hI.putObj _ hi (by omega) hl rfl
      rw [← hW2]
      refine wpIn_mono (hbody _ pre x _ hi2 hlen) ?_
      rintro e a3 W3 hp
      cases e with
      | normal =>
        obtain ⟨hk3, hg3, hi3⟩ := hp
        have hl3 := hk3.same _ _ hl2 rfl
        have hr := run_endRound (P := P) none hl3
        refine ⟨_, _, hr, rfl, ⟨hI.putObj _ hi3 (by omega) hl3 rfl, ?_, ?_⟩, ?_⟩
        · rw [World.putObj_heap_same (Array.getElem?_eq_some_iff.1 hl3).1, hrec]; rfl
        · exact (World.putObj_heap_other (by omega)).trans (hk3.same _ _ hk2 rfl)
        · exact (World.putObj_heap_other hgL).trans (hg3.trans hg2)
      | ret => exact hp.elim
      | exit id => exact hp.elim
      | goto t => exact hp.elim
      | panic ch => exact hp.elim
      | outgrown => exact hp.elim
    · rintro e W2 ⟨⟨v, rfl⟩, xs, hS, hi, hl, hk⟩
      have hr := run_endLoop (P := P) hl (by rw [hrec]; simp)
      rw [show (rec .ready).pending = none by rw [hrec]] at hr
      exact ⟨none, _, hr, hdone D xs _ (by omega) hS (hI.putObj _ hi (by omega) hl rfl) ((World.putObj_heap_other (by omega)).trans hk)⟩
end Go.Proofs.YtpdldbapagchfaaGreatDoor

/- The words of a text, in a list: slices.AppendSeq, slices.Collect, Words; strings.Join: Fold. -/
namespace Go.Proofs.YtpdldbapagchfaaGreatDoor
open Go.RowKit Go.Shelf Go.Maps
attribute [local go_sem] Oper.semAt_some

section
variable {F : Fence} {n : Nat} {P : Program}
/-- A round that writes nothing, in sum, but the row of texts. -/
theorem KeepR.trans {Bs : Nat} {A B C : World} (h : KeepR Bs A B) (k : KeepR Bs B C) : KeepR Bs A C := ⟨Nat.le_trans h.size k.size, h.same.trans k.same⟩
theorem wpIn_rangeFunc_k {α : Type} {g : Operand} {ps : Array Tmp} {assign body : Code} {Q : Exit → Act → World → Prop} {a : Act} {w : World}
    (hro : F.round = none) (h1 : 1 ≤ n) {gf : Nat} {lb : Array Value} (hg : a.eval g = .func (.func gf) #[] lb) (hFg : F.fn gf) (eg : ∀ args w, (callFunc gf args).run P w = .ok (.enter gf args) w)
    {enc : α → Value} {Bs : Nat} (hBs : Bs < w.heap.size) {S : List α → Prop} {N : Nat} (hseq : SeqK F (n - 1) P gf lb enc Bs S N w) (hps : ps.size = 1)
    (I : List α → World → Prop) (hI : AbK w.heap.size Bs I) (h0 : I [] w) (a₁ : α → Act)
    (hassign : ∀ (l : Nat) (x : α) (W : World) (K : Act → World → Prop), K (a₁ x) W →
      assign.wpIn (F.inRound l) (n - 1 - 1) P (Exit.then K (fun _ _ _ => False)) { tmps := (ps.zip #[enc x]).foldl (fun t (p, v) => t.setIfInBounds p v) a.tmps, defers := [] } W)
    (hbody : ∀ (l : Nat) (pre : List α) (x : α) (W : World), I pre W → pre.length < N → body.wpIn (F.inRound l) (n - 1 - 1) P (goesOn fun W' => KeepR Bs W W' ∧ I (pre ++ [x]) W') (a₁ x) W)
    (hdone : ∀ (D : Nat) (xs : List α) (W : World), w.heap.size ≤ D → S xs → I xs W → W.heap[D]? = some (.deferred (some [])) → Q .normal { a with defers := { target := .collected D, args := #[] } :: a.defers } W) :
    (Code.rangeFunc g ps assign body).wpIn F n P Q a w := by
  refine wpIn_rangeFunc ?_
  intro fn hfn
  rw [hro]
  obtain ⟨D, hD⟩ : ∃ D, D = w.heap.size := ⟨_, rfl⟩
  obtain ⟨L, hL⟩ : ∃ L, L = D + 1 := ⟨_, rfl⟩
  obtain ⟨rec, hrec⟩ : ∃ rec : LoopState → Loop, rec = fun st => { state := st, pending := none, fn, tmps := a.tmps, params := ps, assign, body, defers := D } := ⟨_, rfl⟩
  obtain ⟨W1, hW1⟩ : ∃ W1, (w.alloc (.deferred (some []))).alloc (.loop (rec .ready)) = W1 := ⟨_, rfl⟩
  have s1 : (w.alloc (.deferred (some []))).heap.size = L := by rw [World.size_alloc, hL, hD]
  have hL1 : W1.heap[L]? = some (.loop (rec .ready)) := by rw [← hW1, ← s1]; exact World.alloc_heap_new _ _
  have hK1 : W1.heap[D]? = some (.deferred (some [])) := by
    rw [← hW1, hD]; exact (Below.heap_alloc _ _ _ (by rw [World.size_alloc]; omega)).trans (World.alloc_heap_new w _)
  have hb1 : Below w.heap.size w W1 := by rw [← hW1]; exact ((Below.refl _ w).alloc (Nat.le_refl _) _).alloc (by rw [World.size_alloc]; omega) _
  have hs1 : W1.heap.size = L + 1 := by rw [← hW1, World.size_alloc, s1]
  have hI1 : I [] W1 := hI [] w W1 h0 hb1 fun k o hk _ => (hb1.block k (heap_lt hk)).trans hk
  have hI2 : ∀ s (W W' : World) (o o' : Obj), I s W → W.heap[L]? = some o → o.isCells = false → W' = W.putObj L o' → I s W' := by
    rintro s W W' o o' hi hl hc rfl
    refine hI s W _ hi ((Below.refl _ W).grown (grownBy_putObj' W L o') (by have := heap_lt hl; omega) (fun k e => by cases e; omega)) fun k ob hk hor => ?_
    have hne : k ≠ L := by
      rintro rfl
      rcases hor with e | ⟨c, fz, rfl⟩
      · omega
      · rw [hl] at hk; injection hk with hk; rw [hk] at hc; cases hc
    exact (World.putObj_heap_other hne).trans hk
  refine ⟨L, [{ target := .collected D, args := #[] }], W1, { target := .fn (.func gf) lb, args := #[.func (.yield L) #[] #[]] }, W1, gf, #[.func (.yield L) #[] #[]] ++ lb, W1, ?_, ?_, ?_, ?_, fun _ => h1, ?_⟩
  · rw [← hW1, hrec, hL, hD]; exact run_enterLoop_outer _ _ _ _ _
  · simp only [resolve, hg]
    simp [go_sem]
  · intro f' hf'; simp [Target.leads] at hf'; subst hf'; exact hFg
  · simp [invoke, go_sem, eg]
  · refine (hseq L (fun pre W => I pre W ∧ W.heap[L]? = some (.loop (rec .ready)) ∧ W.heap[D]? = some (.deferred (some []))) W1 hb1 (by omega) ?_ ?_ ⟨hI1, hL1, hK1⟩).mono ?_
    · rintro s A A' ⟨h1, h2, h3⟩ hb hk
      exact ⟨hI s A A' h1 (hb.mono (by omega)) hk, (hb.block L (by omega)).trans h2, (hb.block D (by omega)).trans h3⟩
    · rintro pre x W ⟨hi, hl, hk⟩ hlen
      have hlt : L < W.heap.size := (Array.getElem?_eq_some_iff.1 hl).1
      have hy := run_yield (P := P) (args := #[enc x]) hl (by rw [hrec]; simp [hps])
      rw [hrec] at hy
      refine ⟨fn, _, assign, body, hy, roundIn_of_wpIn hfn (hassign _ x W _ ⟨_, run_beginRound hl (by rw [hrec]), ?_⟩)⟩
      obtain ⟨W2, hW2⟩ : ∃ W2, W2 = W.putObj L (.loop { rec .ready with state := .busy }) := ⟨_, rfl⟩
      have hl2 : W2.heap[L]? = some (.loop { rec .ready with state := .busy }) := by rw [hW2]; exact World.putObj_heap_same hlt
      have hk2 : W2.heap[D]? = some (.deferred (some [])) := by rw [hW2]; exact (World.putObj_heap_other (by omega)).trans hk
      have hi2 : I pre W2 := hI2 pre W W2 _ _ hi hl rfl hW2
      have hz2 : W2.heap.size = W.heap.size := by rw [hW2]; exact World.putObj_size
      have ho2 : ∀ k, k ≠ L → W2.heap[k]? = W.heap[k]? := fun k hk => by rw [hW2]; exact World.putObj_heap_other hk
      rw [← hW2]
      refine wpIn_mono (hbody _ pre x _ hi2 hlen) ?_
      rintro e a3 W3 hp
      cases e with
      | normal =>
        obtain ⟨hk3, hi3⟩ := hp
        have hl3 := hk3.same _ _ hl2 (by intro e; injection e with e; omega) (fun _ _ e => by cases e)
        have hd3 := hk3.same _ _ hk2 (by intro e; injection e with e; omega) (fun _ _ e => by cases e)
        have hr := run_endRound (P := P) none hl3
        refine ⟨_, _, hr, rfl, ⟨hI2 _ W3 _ _ _ hi3 hl3 rfl rfl, ?_, ?_⟩, ?_⟩
        · rw [World.putObj_heap_same (Array.getElem?_eq_some_iff.1 hl3).1, hrec]; rfl
        · exact (World.putObj_heap_other (by omega)).trans hd3
        · refine ⟨by rw [World.putObj_size]; have := hk3.size; omega, fun k o hko hkb hc => ?_⟩
          by_cases hkl : k = L
          · subst hkl
            rw [World.putObj_heap_same (Array.getElem?_eq_some_iff.1 hl3).1, ← hko, hl, hrec]; rfl
          · rw [World.putObj_heap_other hkl]
            exact hk3.same k o ((ho2 k hkl).trans hko) hkb hc
      | ret => exact hp.elim
      | exit id => exact hp.elim
      | goto t => exact hp.elim
      | panic ch => exact hp.elim
      | outgrown => exact hp.elim
    · rintro e W2 ⟨⟨v, rfl⟩, xs, hS, hi, hl, hk⟩
      have hr := run_endLoop (P := P) hl (by rw [hrec]; simp)
      rw [show (rec .ready).pending = none by rw [hrec]] at hr
      exact ⟨none, _, hr, hdone D xs _ (by omega) hS (hI2 _ W2 _ _ _ hi hl rfl rfl) ((World.putObj_heap_other (by omega)).trans hk)⟩
end
/-! ### slices.AppendSeq at texts -/
def txV (x : List UInt8) : Value := .string (ofL x)
theorem info9k : (Tryz.prog.info? 9).map (fun i => (i.zero, i.size, i.bytes)) = some (some (.string ⟨#[]⟩), 1, 16) := by kernel_rfl
/-- Between two rounds. -/
def ApK (w : World) (Bs : Nat) (ss : List (List UInt8)) (W : World) : Prop := (∃ v, Boxed W Bs 65 v ∧ W.ownsRow w.heap.size 9 1 v ss.length (ss.map txV)) ∧ Below w.heap.size w W
theorem apK_abk (w : World) (Bs B : Nat) (hB : w.heap.size ≤ B) : AbK B Bs (ApK w Bs) := by
  rintro s A A' ⟨⟨v, hv, h0, hr⟩, hb⟩ hbl hk
  refine ⟨⟨v, hk _ _ hv (.inl rfl), h0, ?_⟩, hb.trans (hbl.mono hB)⟩
  rcases hr with hn | ⟨g, cap, cur, hv, hbg, hg, rest⟩
  · exact .inl hn
  · exact .inr ⟨g, cap, cur, hv, hbg, hk g _ hg (.inr ⟨_, _, rfl⟩), rest⟩
theorem keepR_app {W w1 : World} {n₀ Bs : Nat} {t : TypeId} {v v' : Value} {k : Nat} {xs : List Value} {tmp : Obj} (hv : Boxed W Bs t v) (hrow : W.ownsRow n₀ 9 1 v k xs) (hgrow : (W.alloc tmp).grownBy w1 v.ownBlock) : KeepR Bs W (w1.setCell ⟨Bs, 0, none⟩ v') := by
  have hz : W.heap.size ≤ w1.heap.size := by have := hgrow.size; rw [World.size_alloc] at this; omega
  refine ⟨Nat.le_trans hz (KeepsWalks.setCell w1 _ v').size, fun j o hj hjb hc => ?_⟩
  have hlt := heap_lt hj
  have h1 : (W.alloc tmp).heap[j]? = some o := (Below.heap_alloc _ _ _ hlt).trans hj
  have h2 : w1.heap[j]? = some o := (hgrow.block j (heap_lt h1) (fun e => by
    rcases hrow.2 with ⟨rfl, _⟩ | ⟨g, cap, cur, rfl, _, hgb, _⟩
    · simp [Value.ownBlock] at e
    · have e' : j = g := by simpa [Value.ownBlock] using e
      subst e'
      rw [hgb] at hj; injection hj with hj
      exact hc _ _ hj.symm)).trans h1
  exact (Below.heap_setCell _ _ _ _ (fun e => hjb (by rw [e]))).trans h2
set_option maxRecDepth 100000 in
set_option maxHeartbeats 2000000 in
theorem appendK_in (n : Nat) (hn : 2 ≤ n) (g : Nat) (lb : Array Value) (eg : ∀ args w, (callFunc g args).run Tryz.prog w = .ok (.enter g args) w) (S : List (List UInt8) → Prop) (N : Nat) (hN : N ≤ 100000) (w : World) (hseq : ∀ Bs W, Below w.heap.size w W → SeqK Fence.wide (n - 1) Tryz.prog g lb txV Bs S N W) :
    CallsIn Fence.wide n Tryz.prog 121 #[.slice none 0 0, .func (.func g) #[] lb] w fun e w' => ∃ v ss, e = .returned v ∧ S ss ∧ w'.ownsRow w.heap.size 9 1 v ss.length (ss.map txV) ∧ Below w.heap.size w w' := by
  obtain ⟨i0, hi, hz0, hz1, hz2⟩ := info_parts info9k
  refine callsIn_of_wp_marks Tryz.func121 rfl trivial ?_ rfl
  simp only [Tryz.ntmps121, List.size_toArray, List.length_cons, List.length_nil, Nat.reduceAdd, Nat.reduceSub, Array.replicate_succ, Array.replicate_zero, List.push_toArray, List.append_toArray, List.nil_append, List.cons_append]
  gi_wp2
  have hb1 : Boxed (w.alloc (.cells #[.slice none 0 0] 65)) w.heap.size 65 (.slice none 0 0) := Boxed.new w 65 _
  have hbl : Below w.heap.size w (w.alloc (.cells #[.slice none 0 0] 65)) := (Below.refl _ w).alloc (Nat.le_refl _) _
  have hsz : (w.alloc (.cells #[.slice none 0 0] 65)).heap.size = w.heap.size + 1 := by simp
  generalize (w.alloc (.cells #[.slice none 0 0] 65)) = W at *
  refine wpIn_rangeFunc_k rfl (by omega) (gf := g) (lb := lb) rfl trivial eg (Bs := w.heap.size) (by omega) (hseq w.heap.size W hbl) rfl
    (ApK w w.heap.size) (apK_abk w _ _ (by omega)) ⟨⟨_, hb1, World.ownsRow_nil _ _ _ _⟩, hbl⟩
    (fun x => { tmps := #[.slice none 0 0, .func (.func g) #[] lb, .pointer (some ⟨w.heap.size, 0, none⟩), undef, .slice none 0 0, txV x, .func (.func g) #[] lb, txV x, undef, undef, undef, undef, undef], defers := [] }) ?assign ?body ?done
  case assign =>
    intro l x W1 K hK
    unfold txV at *
    gi_wp2
    exact hK
  case body =>
    rintro l pre x W1 ⟨⟨v, hv, hrow⟩, hB⟩ hlen
    have hvc := hv.cell
    have h1n : 1 ≤ n - 1 - 1 ∨ n - 1 - 1 = 0 := by omega
    unfold txV at *
    gi_wp2_with (gi_at_builtin; refine wpListIn_append_own _ rfl _ _ 65 rfl w.heap.size 9 i0 (.string ⟨#[]⟩) 1 16 Tryz.underlying65 hi hz0 hz1 hz2 rfl (by decide) _ _ _ rfl (hrow.alloc _) ⟨W1.heap.size, 0, none⟩ 1 1 [.string (ofL x)] rfl rfl (cell_one_new _ _ _) (by simp [Value.oneCell']) (by unfold maxLen; omega) (by omega) (by have := hB.size; simp; omega) ?_; intro v' w1 hown' hgrow _; obtain ⟨g', cap', rfl⟩ := ownsRow_succ hown'; obtain ⟨hv1, hv2, hr2, hk2, hb2⟩ := hv.appended (by decide) hrow hB.size (Nat.le_refl _) hown' hgrow; have hc1 := hv1.cell; have hf1 := hv1.frozen)
    refine ⟨keepR_app hv hrow hgrow, ⟨_, hv2, ?_⟩, hB.trans hb2⟩
    rw [List.map_append, List.length_append]
    exact hr2
  case done =>
    rintro D xs W1 hD hS ⟨⟨v, hv, hrow⟩, hB⟩ hK
    have hvc := hv.cell
    have hb3 := hB.trans (belowK_b (w := w) (Nat.le_refl _) W1 D _ (.deferred none) (by omega) hK rfl rfl)
    gi_wp2
    refine ⟨by simp, .inl ⟨_, _, rfl, run_takeDeferred hK, ?_⟩⟩
    exact ⟨_, results_tmp rfl _ _ _, v, xs, rfl, hS, hrow.kept (grownBy_putObj' _ _ _) (ownsRow_ne_a hrow hK (fun cur e => by cases e)), hb3⟩
set_option maxHeartbeats 1000000 in
theorem collectK_in (n : Nat) (hn : 3 ≤ n) (g : Nat) (lb : Array Value) (eg : ∀ args w, (callFunc g args).run Tryz.prog w = .ok (.enter g args) w) (S : List (List UInt8) → Prop) (N : Nat) (hN : N ≤ 100000) (w : World) (hseq : ∀ Bs W, Below w.heap.size w W → SeqK Fence.wide (n - 1 - 1) Tryz.prog g lb txV Bs S N W) :
    CallsIn Fence.wide n Tryz.prog 114 #[.func (.func g) #[] lb] w fun e w' => ∃ v ss, e = .returned v ∧ S ss ∧ w'.ownsRow w.heap.size 9 1 v ss.length (ss.map txV) ∧ Below w.heap.size w w' := by
  have e11 : ∀ args w, (callFunc 121 args).run Tryz.prog w = .ok (.enter 121 args) w := enters_of Tryz.func121 (by kernel_rfl) rfl
  refine callsIn_of_wp Tryz.func114 rfl trivial ?_ rfl
  simp only [Tryz.ntmps114, List.size_toArray, List.length_cons, List.length_nil, Nat.reduceAdd, Nat.reduceSub, Array.replicate_succ, Array.replicate_zero, List.push_toArray, List.append_toArray, List.nil_append, List.cons_append]
  gi_wp2
  refine ⟨trivial, fun _ => by omega, ?_⟩
  refine (appendK_in (n - 1) (by omega) g lb eg S N hN _ hseq).mono ?_
  rintro e w' ⟨v, ss, rfl, hS, hrow, hb⟩
  gi_wp2
  go_ret
  exact ⟨v, ss, rfl, hS, hrow, hb⟩
end Go.Proofs.YtpdldbapagchfaaGreatDoor
