/- What an asker has received. -/
import Derived.Test.YtdojgbpaheadnaaGreatQAB
import Derived.Test.YtdojgbpaheadnaaGreatQLF
import Derived.Test.YtdojgbpaheadnaaGreatQCB
import Derived.Test.YtdojgbpaheadnaaGreatQGC
import Derived.Maps.RangeWalk
set_option linter.unusedVariables false
set_option linter.unusedSimpArgs false

namespace Go.Proofs.YtdojgbpaheadnaaGreat
open Go.RowKit Go.Shelf Go.Maps Go.ChangeMaps

theorem ranges_same {P : Program} {k : TypeId} {R : Value → Option (DataW Unit × List MemPlace)} {w w' : World} {b r n : Nat} {D : DataW Unit} {left : Lit → Bool} {cnt : Nat} (h : w.ranges P k R b r n D left cnt) (hb : w'.heap[b]? = w.heap[b]?) (hr : w'.heap[r]? = w.heap[r]?) : w'.ranges P k R b r n D left cnt := by
  obtain ⟨es, clock, since, seen, c0, h1, F, hs, hD, h2, rest⟩ := h
  exact ⟨es, clock, since, seen, c0, hb.trans h1, F, hs, hD, hr.trans h2, rest⟩
theorem news1' (w : World) (o : Obj) (x : Int) : ∀ (j : Nat) (u : Value), [Value.int .i64 x][j]? = some u → ((w.alloc o).alloc (.cells #[.int .i64 x] 3)).cell? (Addr.add ⟨w.heap.size + 1, 0, none⟩ j) = some u := by
  have := news1 (w.alloc o) (.int .i64 x) 3
  rwa [size_alloc] at this
def isHere (q : Rq) : Bool := decide (q.st = 4)
theorem here_perm {L : List Rq} {T : List Int} (h : T.Perm ((L.filter fun q => decide (q.st = 4)).map Rq.t)) : (T.mergeSort fun x y => decide (x ≤ y)) = ((L.filter fun q => decide (q.st = 4)).map Rq.t).mergeSort fun x y => decide (x ≤ y) := by
  refine List.Perm.eq_of_pairwise (le := fun x y : Int => x ≤ y) (fun a b _ _ h1 h2 => Int.le_antisymm h1 h2) (sortedM _) (sortedM _) ?_
  exact (List.mergeSort_perm _ _).trans (h.trans (List.mergeSort_perm _ _).symm)
set_option maxRecDepth 100000 in
set_option maxHeartbeats 4000000 in
theorem aHere_any (B b N : Nat) (s : Asr) (mv : Value) (w : World) (h : AMem w B b s mv N) :
    Calls Tryz.prog 25 #[.pointer (some ⟨b, 0, none⟩)] w fun e w' => ∃ v, e = .returned v ∧ w'.ownsRow w.heap.size 3 1 v s.here.length (s.here.map (Value.int .i64)) ∧ Below w.heap.size w w' := by
  have c3 : w.cell? ⟨b, 3, none⟩ = some mv := h.blk.cell 3
  have hbl := h.blk.lt
  rcases h.map with ⟨rfl, hL⟩ | ⟨mb, n0, f0, rfl, hm0⟩
  · have F : RowKit.Hid (∀ (v : Value) (W : World), W.ownsRow w.heap.size 3 1 v 0 [] → W.ownsRow w.heap.size 3 1 v s.here.length (s.here.map (Value.int .i64))) := Lib.hid fun v W hW => by
      have : s.here = [] := by unfold Asr.here; rw [hL]; simp
      rw [this]; exact hW
    have hrg := fun W => run_range_nilMap (P := Tryz.prog) W 53 3 130 Tryz.underlying53
    have hnx : ∀ ty, (Instr.next (.pointer (some ⟨w.heap.size, 0, none⟩)) false ty).run Tryz.prog (w.alloc (.mapIter none 0 #[] 0)) = _ := fun ty => run_next_nilMap w ty 0 0 #[]
    clear h hL
    go_enter Tryz.func25, Tryz.ntmps25
    go_wp2_with fail
    refine wp_loop_rounds 1 ?_
    rw [rounds_succ]
    go_wp2_with fail
    refine (sort_row (D := []) (B := w.heap.size) (by exact World.ownsRow_nil _ _ _ _) (by simp)).mono ?_
    rintro e w3 ⟨rfl, hr, ht⟩
    have R3 := Lib.hid (F.out _ _ (by simpa using hr))
    have B3 : RowKit.Hid (Below w.heap.size w w3) := Lib.hid (((Below.refl _ _).alloc (Nat.le_refl _) _).trans (ht.below (by simp) fun k hk => by cases hk))
    clear hr ht hrg hnx
    go_wp2_with fail
    go_ret
    exact ⟨_, rfl, R3.out, B3.out⟩
  · obtain ⟨D, n, f, hown, hn, hR, hf, -⟩ := h.keys
    have hmb := (h.own_lt (.inr rfl : OwnA b (.map (some mb)) mb)).2
    obtain ⟨i0, hi, hz1, hz2, hz3⟩ := info_parts info3
    have HS := Lib.hid h.inOrder
    have HI := Lib.hid h.ids.2.2
    have HR := Lib.hid (And.intro hR hf)
    have hlen := h.len
    have hLs := h.len.1
    clear h hm0 hR hf
    go_enter Tryz.func25, Tryz.ntmps25
    go_wp2_with (first
      | (at_range; refine wpList_range_own _ rfl _ 53 rfl 3 130 keyI Tryz.underlying53 RQ mb n D rfl hown ?_; intro w0 hrg0 hg0 hs0)
      | fail)
    go_frame
    have B0 : RowKit.Hid (Below w.heap.size w w0) := Lib.hid ⟨hg0.os, hg0.tape, hg0.output, hg0.size, fun i hi => hg0.block i hi (by simp)⟩
    have RG0 := Lib.hid hrg0
    have hitn : w.heap.size ≠ mb := by omega
    clear hrg0 hg0 hown
    go_loopw [3] (fun sv wr => ∃ (left : Lit → Bool) (cnt : Nat) (T : List Int), wr.ranges Tryz.prog 3 RQ mb w.heap.size n D left cnt ∧ wr.ownsRow (w.heap.size + 1) 3 1 sv T.length (T.map (Value.int .i64)) ∧ T.Perm ((s.L.filter fun q => isHere q && !left (.int .i64 q.n)).map Rq.t) ∧ Below w.heap.size w wr) (fun _ wr => wr.rangeLeft mb w.heap.size)
    case atStart =>
      refine ⟨_, _, [], RG0.out, World.ownsRow_nil _ _ _ _, ?_, B0.out⟩
      have : (s.L.filter fun q => isHere q && !Maps.has D (.int .i64 q.n)) = [] := List.filter_eq_nil_iff.2 fun q hq => by
        have : Maps.has D (.int .i64 q.n) = true := by rw [HR.out.1.has, HR.out.2.at_, rq_mem HS.out hq]; rfl
        rw [this]; simp
      rw [this]; exact List.Perm.refl _
    case round =>
      obtain ⟨left, cnt, T, hrg, hrow, hperm, hb⟩ := hrel
      have RG := Lib.hid hrg
      have RW := Lib.hid hrow
      have PM := Lib.hid hperm
      have BW := Lib.hid hb
      have hwr := hb.size
      have hTl : T.length ≤ s.L.length := by have := hperm.length_eq; rw [List.length_map] at this; have h2 := List.length_filter_le (fun q => isHere q && !left (.int .i64 q.n)) s.L; omega
      clear hrg hrow hperm hb RG0 B0 hs0
      go_wp2_with (first
        | (at_next; refine wpList_next_ranges _ rfl _ rfl 3 keyI RQ (Value.int .i64) mkQ invI invQ mb w.heap.size n D left cnt rfl RG.out ?_ ?_)
        | fail)
      · intro _ hl0
        have PE : RowKit.Hid (T.Perm ((s.L.filter fun q => decide (q.st = 4)).map Rq.t)) := Lib.hid (by
          have := PM.out
          simp only [hl0, Bool.not_false, Bool.and_true] at this
          exact this)
        have hT2 : T.length ≤ 100000 := by omega
        obtain ⟨a0, cc, hsv, -⟩ := row_cell RW.out
        subst hsv
        clear RG PM hl0
        go_wp2_with fail
        refine (sort_row RW.out hT2).mono ?_
        rintro e w3 ⟨rfl, hr, ht⟩
        have e1 : (T.mergeSort fun x y => decide (x ≤ y)) = s.here := here_perm PE.out
        rw [e1] at hr
        have el : T.length = s.here.length := by rw [← e1]; exact (List.length_mergeSort _).symm
        have R3 : RowKit.Hid (w3.ownsRow w.heap.size 3 1 (.slice a0 T.length cc) s.here.length (s.here.map (Value.int .i64))) := Lib.hid (by rw [← el]; exact row_mono hr (Nat.le_succ _))
        have B3 : RowKit.Hid (Below w.heap.size w w3) := Lib.hid (BW.out.trans (ht.below hwr fun k hk => by have := (row_lt RW.out k hk).1; omega))
        clear hr ht e1 el PE
        go_wp2_with fail
        go_ret
        exact ⟨_, rfl, R3.out, B3.out⟩
      · intro x t0 s0 l0 kl y1 y2 w6 cnt6 hkey hlx hv hat hrg1 hlt hg1 hs1 hen
        obtain ⟨q, hq, rfl, rfl, hmk⟩ := cameQ HR.out.1 HR.out.2 hkey hv hat
        rw [hmk] at hen ⊢
        unfold rqV at hen ⊢
        have hqi := (HI.out q hq).1
        have RG7 := Lib.hid hrg1
        have BW7 : RowKit.Hid (Below w.heap.size w w6) := Lib.hid (BW.out.trans ⟨hg1.os, hg1.tape, hg1.output, hg1.size, fun i hi => hg1.block i (by omega) (by simp; omega)⟩)
        have RW7 : RowKit.Hid (w6.ownsRow (w.heap.size + 1) 3 1 u3 T.length (T.map (Value.int .i64))) := Lib.hid (ownsB_same RW.out fun r hr => hg1.block r (row_lt RW.out r hr).2 (by have := (row_lt RW.out r hr).1; simp; omega))
        have PM7 : RowKit.Hid (((s.L.filter fun z => isHere z && !(left (.int .i64 z.n) && !(Lit.int .i64 z.n).sameKey (.int .i64 q.n)))).Perm ((s.L.filter fun z => isHere z && !left (.int .i64 z.n)) ++ if isHere q then [q] else [])) :=
          Lib.hid (filter_strike isHere (fun z => left (.int .i64 z)) (fun z => left (.int .i64 z) && !(Lit.int .i64 z).sameKey (.int .i64 q.n)) q (strikeQ_self left hqi) (fun z hz => strikeQ_ne left hz) hlx s.L HS.out hq)
        have HLT := Lib.hid hlt
        have hw6 : wr.heap.size ≤ w6.heap.size := hg1.size
        have LE0 := Lib.hid RG.out.left_eq
        clear hrg1 hkey hlx hv hat hmk hg1 hlt RG BW RW hs1
        by_cases h4 : q.st = 4
        · have e4 : isHere q = true := decide_eq_true h4
          rw [h4] at hen ⊢
          go_wp2_with (at_builtin; go_must (refine wpList_append_lies _ rfl (.tmp 20) (.tmp 23) 25 rfl (w.heap.size + 1) 3 i0 (.int .i64 0) 1 8 Tryz.underlying25 hi hz1 hz2 hz3 rfl (by omega) u3 T.length _ (by rfl) ((RW7.out.alloc _).alloc _) ⟨w6.heap.size + 1, 0, none⟩ 1 1 [.int .i64 q.t] (by rfl) (by rfl) (news1' w6 _ q.t) (one1 q.t) (by omega) (by unfold maxLen; omega) (by omega) (by simp; omega) (w6.heap.size + 2) (by simp) ?_; intro gg cap' w8 hown8 hgrow hat hlt5))
          have B8 : RowKit.Hid (Below w.heap.size w w8) := Lib.hid (((BW7.out.alloc BW7.out.size (.cells #[i64 q.t, i64 4, i64 q.l] 130)).alloc (by rw [size_alloc]; have := BW7.out.size; omega) (.cells #[.int .i64 q.t] 3)).grown hgrow (by rw [size_alloc, size_alloc]; have := BW7.out.size; omega) (fun j e => by have := (row_lt RW7.out _ e).1; omega))
          have hgb : ∀ i, i ≤ w.heap.size → w8.heap[i]? = w6.heap[i]? := fun i hi => by
            have h1 := BW7.out.size
            have h2 := RG7.out.lt
            rw [hgrow.block i (by rw [size_alloc, size_alloc]; omega) (fun e => by have := (row_lt RW7.out i e.symm).1; omega)]
            rw [Below.heap_alloc _ _ _ (by rw [size_alloc]; omega), Below.heap_alloc _ _ _ (by omega)]
          have RG8 := Lib.hid (ranges_same RG7.out (hgb mb (by omega)) (hgb _ (Nat.le_refl _)))
          have R8 : RowKit.Hid (w8.ownsRow (w.heap.size + 1) 3 1 (.slice (some ⟨gg, 0, none⟩) (T.length + 1) cap') (T ++ [q.t]).length ((T ++ [q.t]).map (Value.int .i64))) := Lib.hid (by
            rw [List.map_append, List.length_append]; exact hown8)
          clear hown8 hgrow hat hlt5 hgb RG7 RW7 BW7
          go_wp2_with fail
          refine ⟨⟨_, cnt6, T ++ [q.t], RG8.out, R8.out, ?_, B8.out⟩, by rw [RG8.out.left_eq, LE0.out]; exact HLT.out⟩
          have := PM7.out
          rw [e4, if_pos rfl] at this
          refine List.Perm.trans ?_ (this.map Rq.t).symm
          rw [List.map_append]
          exact PM.out.append_right _
        · have e4 : isHere q = false := decide_eq_false h4
          go_wp2_with fail
          have RG8 : RowKit.Hid ((w6.alloc (.cells #[i64 q.t, i64 q.st, i64 q.l] 130)).ranges Tryz.prog 3 RQ mb w.heap.size n D (fun z => left z && !z.sameKey (.int .i64 q.n)) cnt6) :=
            Lib.hid (ranges_same RG7.out (Below.heap_alloc _ _ _ RG7.out.owns.lt) (Below.heap_alloc _ _ _ RG7.out.lt))
          refine ⟨⟨_, cnt6, T, RG8.out, RW7.out.alloc _, ?_, BW7.out.alloc BW7.out.size _⟩, by rw [RG8.out.left_eq, LE0.out]; exact HLT.out⟩
          have := PM7.out
          rw [e4, if_neg (by simp), List.append_nil] at this
          exact PM.out.trans (this.map Rq.t).symm
end Go.Proofs.YtdojgbpaheadnaaGreat
