/- An asker asks. -/
import Derived.Test.YtdojgbpaheadnaaGreatQAC
set_option linter.unusedVariables false
set_option linter.unusedSimpArgs false

namespace Go.Proofs.YtdojgbpaheadnaaGreat
open Go.RowKit Go.Shelf Go.Maps Go.ChangeMaps

theorem MsgsAt.mono {w : World} {B B' : Nat} {v : Value} : ∀ {l : List Msg}, MsgsAt w B v l → B' ≤ B → MsgsAt w B' v l
  | [], h, _ => h
  | [_], ⟨g, h1, h2⟩, h => ⟨g, Nat.le_trans h h1, h2⟩
  | _ :: _ :: _, h, _ => h.elim
theorem mapQ_nil0 (W : World) : (binOp .eql 53 (.map none) (.map none)).run Tryz.prog W = .ok (.bool true) W := by kernel_rfl
theorem mapQ_nil1 (W : World) (b : Nat) : (binOp .eql 53 (.map (some b)) (.map none)).run Tryz.prog W = .ok (.bool false) W := by kernel_rfl
def notF (q : Rq) : Bool := decide (q.st ≠ 7)
theorem many_eq (L : List Rq) : ((L.filter fun q => notF q && !(false : Bool)).length : Int) = many L := by
  simp only [Bool.not_false, Bool.and_true]
  unfold many
  rw [List.countP_eq_length_filter]; rfl
def AskE (B b N : Nat) (s : Asr) (mv : Value) (r : (Asr × List Msg) × Int) (w : World) (e : Ending) (w' : World) : Prop :=
  ∃ v mv', e = .returned (.tuple #[v, i64 r.2]) ∧ MsgsAt w' w.heap.size v r.1.2 ∧ AMem w' B b r.1.1 mv' (N + 1) ∧ Tn (OwnA b mv) w w' ∧ ∀ k, OwnA b mv' k → OwnA b mv k ∨ w.heap.size ≤ k
set_option maxRecDepth 100000 in
set_option maxHeartbeats 4000000 in
theorem ask_any (B b N : Nat) (s : Asr) (mv : Value) (n t : Int) (w : World) (h : AMem w B b s mv N) (hB : B ≤ w.heap.size) (hN : N < 90000) (hn : I64 n) (ht : I64 t) :
    Calls Tryz.prog 20 #[.pointer (some ⟨b, 0, none⟩), i64 n, i64 t] w (AskE B b N s mv (s.ask n t) w) := by
  have H := Lib.hid h
  have HB := Lib.hid hB
  have HNT := Lib.hid (And.intro hn ht)
  have c2 : w.cell? ⟨b, 2, none⟩ = some (i64 s.cap) := h.blk.cell 2
  have c3 : w.cell? ⟨b, 3, none⟩ = some mv := h.blk.cell 3
  have f3 := h.blk.frozen 3
  have hlk := (h.look hn).2
  have hfd := fun W => field_rq1 (rqAt s.L n).t (rqAt s.L n).st (rqAt s.L n).l W
  unfold rqV at hlk
  have hbl := h.blk.lt
  have HL := Lib.hid h.len
  have FN : RowKit.Hid (∀ c, s.ask n t = ((s, []), c) → ∀ W, Below w.heap.size w W → AskE B b N s mv (s.ask n t) w (.returned (.tuple #[.slice none 0 0, i64 c])) W) := Lib.hid fun c e W hW =>
    ⟨_, mv, by rw [e], by rw [e]; rfl, by rw [e]; exact (H.out.up hW).mono (Nat.le_succ _) (by omega), Tn.of_below hW, fun k h => .inl h⟩
  clear h hn ht hB
  by_cases h1 : n < 1
  · have F := Lib.hid (FN.out 1 (by unfold Asr.ask; rw [if_pos (.inl h1)]) w (Below.refl _ _))
    clear hlk hfd
    go_enter Tryz.func20, Tryz.ntmps20
    go_wp2_with fail
    go_ret2
    exact F.out
  by_cases h2 : t < 1
  · have F := Lib.hid (FN.out 1 (by unfold Asr.ask; rw [if_pos (.inr h2)]) w (Below.refl _ _))
    clear hlk hfd
    go_enter Tryz.func20, Tryz.ntmps20
    go_wp2_with fail
    go_ret2
    exact F.out
  cases hq : rq s.L n with
  | some q =>
    rw [rqAt_some hq] at hlk hfd
    have hst : ¬ q.st = 0 := by have := (H.out.ids.2.2 q (rq_some hq).1).2.2.1; omega
    have F := Lib.hid (FN.out 22 (by unfold Asr.ask; rw [if_neg (by omega), hq]; rfl) w (Below.refl _ _))
    clear hq
    go_enter Tryz.func20, Tryz.ntmps20
    go_wp2_with fail
    go_ret2
    exact F.out
  | none =>
    rw [show rqAt s.L n = ⟨n, 0, 0, 0⟩ from by unfold rqAt; rw [hq]] at hlk hfd
    rcases H.out.map with ⟨rfl, hL⟩ | ⟨mb, n0, f0, rfl, hm0⟩
    · have hm0 : many s.L = 0 := by rw [hL]; rfl
      have hrg := fun W => run_range_nilMap (P := Tryz.prog) W 53 3 130 Tryz.underlying53
      have hnx : ∀ ty, (Instr.next (.pointer (some ⟨w.heap.size, 0, none⟩)) false ty).run Tryz.prog (w.alloc (.mapIter none 0 #[] 0)) = _ := fun ty => run_next_nilMap w ty 0 0 #[]
      have hq0 := mapQ_nil0
      have hmk := run_makeMap (P := Tryz.prog) 53
      have BC : RowKit.Hid (Below w.heap.size w (w.alloc (.mapIter none 0 #[] 0))) := Lib.hid ((Below.refl _ _).alloc (Nat.le_refl _) _)
      have FC : RowKit.Hid (s.cap ≤ (many s.L : Int) → AskE B b N s (.map none) (s.ask n t) w (.returned (.tuple #[.slice none 0 0, i64 63])) (w.alloc (.mapIter none 0 #[] 0))) := Lib.hid fun hc => FN.out 63 (by unfold Asr.ask; rw [if_neg (by omega), hq, if_neg (by simp), if_pos hc]) _ BC.out
      by_cases hcap : s.cap ≤ 0
      · have F := Lib.hid (FC.out (by rw [hm0]; exact hcap))
        clear hq
        go_enter Tryz.func20, Tryz.ntmps20
        go_wp2_with fail
        refine wp_loop_rounds 1 ?_
        rw [rounds_succ]
        go_wp2_with fail
        go_ret2
        exact F.out
      · have hcap' : ¬ s.cap ≤ (many s.L : Int) := by rw [hm0]; exact hcap
        obtain ⟨mb, hmb⟩ : ∃ mb, mb = w.heap.size + 1 := ⟨_, rfl⟩
        obtain ⟨w4, hw4⟩ : ∃ w4, w4 = ((w.setCell ⟨b, 3, none⟩ (.map (some mb))).alloc (.mapIter none 0 #[] 0)).alloc (.map #[] 0) := ⟨_, rfl⟩
        have T4 : RowKit.Hid (Tn (OwnA b (.map none)) w w4) := Lib.hid (by rw [hw4]; exact (((Tn.refl _ w).setCell (p := ⟨b, 3, none⟩) (.inl (.inl rfl)) _).alloc _).alloc _)
        have M4 : RowKit.Hid (AMem w4 B b s (.map (some mb)) N) := Lib.hid (by
          have h := H.out
          have k := (h.blk.set 3 (.map (some mb))).alloc (.mapIter none 0 #[] 0)
          refine ⟨?_, .inr ⟨mb, 0, fun _ => none, rfl, ?_, fun l => by rw [hL]; cases l <;> first | rfl | (rename_i k _; cases k <;> rfl), Nat.zero_le _, by omega, by have := HB.out; omega⟩, h.inOrder, h.lo, h.sent, h.ids, h.len⟩
          · rw [hw4]; exact (k.alloc _).cast rfl
          · have e : mb = ((w.setCell ⟨b, 3, none⟩ (.map (some mb))).alloc (.mapIter none 0 #[] 0)).heap.size := by rw [hmb]; simp
            rw [hw4]
            have := MapF.new ((w.setCell ⟨b, 3, none⟩ (.map (some mb))).alloc (.mapIter none 0 #[] 0)) Tryz.prog 3 RQ
            rw [← e] at this
            exact this)
        have O5 : RowKit.Hid (∀ k, k = mb → OwnA b (.map none) k ∨ w.heap.size ≤ k) := Lib.hid fun k hk => .inr (by omega)
        have HW4 := Lib.hid hw4
        have HMB := Lib.hid hmb
        have hcap := hcap'
        have hN9 : N < 100000 := by omega
        have HNN : RowKit.Hid (rq s.L (Rq.mk n t 1 0).n = none) := Lib.hid hq
        obtain ⟨w5, hrun, hM5, hT5⟩ := M4.out.put (q := ⟨n, t, 1, 0⟩) (L' := insQ ⟨n, t, 1, 0⟩ s.L) (rq_ins HNN.out) (ins_sortedQ M4.out.inOrder HNN.out) (fun y hy => by
          rcases ins_memQ.1 hy with rfl | hy
          · exact ⟨HNT.out.1, HNT.out.2, by dsimp only; omega, by dsimp only; omega, ⟨by dsimp only; omega, by dsimp only; omega⟩⟩
          · exact M4.out.ids.2.2 y hy) HNT.out.1 (by rw [ins_lenQ]; have := M4.out.len.1; omega) hN9
        have hrun' : (Instr.mapUpdate 53 (.map (some mb)) (i64 n) (.agg #[i64 t, i64 1, i64 0])).run Tryz.prog w4 = .ok () w5 := hrun
        have M5 := Lib.hid hM5
        have T5 : RowKit.Hid (Tn (fun k => k = mb) (w4) w5) := Lib.hid hT5
        have RES : RowKit.Hid (s.ask n t = (({ s with L := insQ ⟨n, t, 1, 0⟩ s.L } : Asr).tell ⟨n, t, 1, 0⟩ 1, 0)) := Lib.hid (by
          unfold Asr.ask; rw [if_neg (by omega), hq, if_neg (by simp), if_neg hcap])
        clear hrun hM5 hT5 hq
        rw [HW4.out, HMB.out] at hrun'
        have hc0 : s.cap ≤ 0 → False := fun h => hcap (by rw [hm0]; exact h)
        have hcap0 : ¬ s.cap ≤ 0 := hc0
        clear hcap hw4 hmb hc0
        rw [HMB.out] at M4 M5 T5 O5
        clear hm0 hcap'
        go_enter Tryz.func20, Tryz.ntmps20
        go_wp2_with fail
        refine wp_loop_rounds 1 ?_
        rw [rounds_succ]
        go_wp2_with fail
        refine (tell_any B b (N + 1) { s with L := insQ ⟨n, t, 1, 0⟩ s.L } (.map (some (w.heap.size + 1))) n 1 ⟨n, t, 1, 0⟩ w5 M5.out (Nat.le_trans HB.out (Nat.le_trans T4.out.size T5.out.size)) (by rw [rq_ins HNN.out, if_pos rfl]) (by have := M4.out.sent.2; show s.sent < 1000 * ((N + 1 : Nat) : Int); omega) HNT.out.1 ⟨by omega, by omega⟩).mono ?_
        rintro e w6 ⟨v6, rfl, hm6, hM6, hT6⟩
        have F : RowKit.Hid (AskE B b N s (.map none) (s.ask n t) w (.returned (.tuple #[v6, i64 0])) w6) := Lib.hid (by
          rw [RES.out]
          exact ⟨v6, _, rfl, hm6.mono (Nat.le_trans T4.out.size T5.out.size), hM6, (T4.out.then_ T5.out fun k hk => O5.out k (by rw [hk])).trans (hT6.mono fun k hk => .inl hk), fun k hk => by
            rcases hk with rfl | hk
            · exact .inl (.inl rfl)
            · injection hk with hk; injection hk with hk; exact O5.out k hk.symm⟩)
        clear hm6 hM6 hT6 hrun'
        go_wp2_with fail
        go_ret2
        exact F.out
    · obtain ⟨D, n1, f, hown, hn1, hR, hf, -⟩ := H.out.keys
      have hmb := (H.out.own_lt (.inr rfl : OwnA b (.map (some mb)) mb)).2
      have HS := Lib.hid H.out.inOrder
      have HI := Lib.hid H.out.ids.2.2
      have HR := Lib.hid (And.intro hR hf)
      have hq1 := mapQ_nil1
      clear hm0 hR hf
      go_enter Tryz.func20, Tryz.ntmps20
      go_wp2_with (first
        | (at_range; refine wpList_range_own _ rfl _ 53 rfl 3 130 keyI Tryz.underlying53 RQ mb n1 D rfl hown ?_; intro w0 hrg0 hg0 hs0)
        | fail)
      have B0 : RowKit.Hid (Below w.heap.size w w0) := Lib.hid ⟨hg0.os, hg0.tape, hg0.output, hg0.size, fun i hi => hg0.block i hi (by simp)⟩
      have RG0 := Lib.hid hrg0
      have hitn : w.heap.size ≠ mb := by omega
      clear hrg0 hg0 hown hlk hfd
      go_loopw [8] (fun sv wr => ∃ (left : Lit → Bool) (cnt : Nat), wr.ranges Tryz.prog 3 RQ mb w.heap.size n1 D left cnt ∧ sv = .int .i64 ((s.L.filter fun q => notF q && !left (.int .i64 q.n)).length : Int) ∧ Below w.heap.size w wr) (fun _ wr => wr.rangeLeft mb w.heap.size)
      case atStart =>
        refine ⟨_, _, RG0.out, ?_, B0.out⟩
        have : (s.L.filter fun q => notF q && !Maps.has D (.int .i64 q.n)) = [] := List.filter_eq_nil_iff.2 fun q hq => by
          have : Maps.has D (.int .i64 q.n) = true := by rw [HR.out.1.has, HR.out.2.at_, rq_mem HS.out hq]; rfl
          rw [this]; simp
        rw [this]; rfl
      case round =>
        obtain ⟨left, cnt, hrg, rfl, hb⟩ := hrel
        have RG := Lib.hid hrg
        have BW := Lib.hid hb
        have hwr := hb.size
        have hTl : (s.L.filter fun q => notF q && !left (.int .i64 q.n)).length ≤ 100000 := by have h2 := List.length_filter_le (fun q => notF q && !left (.int .i64 q.n)) s.L; have := HL.out; omega
        clear hrg hb RG0 B0 hs0
        go_wp2_with (first
          | (at_next; refine wpList_next_ranges _ rfl _ rfl 3 keyI RQ (Value.int .i64) mkQ invI invQ mb w.heap.size n1 D left cnt rfl RG.out ?_ ?_)
          | fail)
        · intro _ hl0
          have e1 : ((s.L.filter fun q => notF q && !left (.int .i64 q.n)).length : Int) = many s.L := by
            simp only [hl0]; exact many_eq s.L
          have M4 := Lib.hid (H.out.up BW.out)
          have T4 : RowKit.Hid (Tn (OwnA b (.map (some mb))) w wr) := Lib.hid (Tn.of_below BW.out)
          have O5 : RowKit.Hid (∀ k, k = mb → OwnA b (.map (some mb)) k ∨ w.heap.size ≤ k) := Lib.hid fun k hk => .inl (.inr (by rw [hk]))
          have BC := Lib.hid BW.out
          have FC : RowKit.Hid (s.cap ≤ (many s.L : Int) → AskE B b N s (.map (some mb)) (s.ask n t) w (.returned (.tuple #[.slice none 0 0, i64 63])) wr) := Lib.hid fun hc => FN.out 63 (by unfold Asr.ask; rw [if_neg (by omega), hq, if_neg (by simp), if_pos hc]) _ BC.out
          rw [e1]
          clear RG hl0 e1 hTl c2 c3
          have c2 : wr.cell? ⟨b, 2, none⟩ = some (i64 s.cap) := M4.out.blk.cell 2
          have c3 : wr.cell? ⟨b, 3, none⟩ = some (.map (some mb)) := M4.out.blk.cell 3
          by_cases hcap : s.cap ≤ (many s.L : Int)
          · have F := Lib.hid (FC.out hcap)
            clear hq
            obtain ⟨mm, hmm⟩ : ∃ mm : Int, mm = many s.L := ⟨_, rfl⟩
            rw [← hmm] at hcap ⊢
            clear hmm
            go_wp2_with fail
            go_ret2
            exact F.out
          · have hN9 : N < 100000 := by omega
            have HNN : RowKit.Hid (rq s.L (Rq.mk n t 1 0).n = none) := Lib.hid hq
            obtain ⟨w5, hrun, hM5, hT5⟩ := M4.out.put (q := ⟨n, t, 1, 0⟩) (L' := insQ ⟨n, t, 1, 0⟩ s.L) (rq_ins HNN.out) (ins_sortedQ M4.out.inOrder HNN.out) (fun y hy => by
              rcases ins_memQ.1 hy with rfl | hy
              · exact ⟨HNT.out.1, HNT.out.2, by dsimp only; omega, by dsimp only; omega, ⟨by dsimp only; omega, by dsimp only; omega⟩⟩
              · exact M4.out.ids.2.2 y hy) HNT.out.1 (by rw [ins_lenQ]; have := M4.out.len.1; omega) hN9
            have hrun' : (Instr.mapUpdate 53 (.map (some mb)) (i64 n) (.agg #[i64 t, i64 1, i64 0])).run Tryz.prog wr = .ok () w5 := hrun
            have M5 := Lib.hid hM5
            have T5 : RowKit.Hid (Tn (fun k => k = mb) (wr) w5) := Lib.hid hT5
            have RES : RowKit.Hid (s.ask n t = (({ s with L := insQ ⟨n, t, 1, 0⟩ s.L } : Asr).tell ⟨n, t, 1, 0⟩ 1, 0)) := Lib.hid (by
              unfold Asr.ask; rw [if_neg (by omega), hq, if_neg (by simp), if_neg hcap])
            clear hrun hM5 hT5 hq
            obtain ⟨mm, hmm⟩ : ∃ mm : Int, mm = many s.L := ⟨_, rfl⟩
            rw [← hmm] at hcap ⊢
            clear hmm
            go_wp2_with fail
            refine (tell_any B b (N + 1) { s with L := insQ ⟨n, t, 1, 0⟩ s.L } (.map (some mb)) n 1 ⟨n, t, 1, 0⟩ w5 M5.out (Nat.le_trans HB.out (Nat.le_trans T4.out.size T5.out.size)) (by rw [rq_ins HNN.out, if_pos rfl]) (by have := M4.out.sent.2; show s.sent < 1000 * ((N + 1 : Nat) : Int); omega) HNT.out.1 ⟨by omega, by omega⟩).mono ?_
            rintro e w6 ⟨v6, rfl, hm6, hM6, hT6⟩
            have F : RowKit.Hid (AskE B b N s (.map (some mb)) (s.ask n t) w (.returned (.tuple #[v6, i64 0])) w6) := Lib.hid (by
              rw [RES.out]
              exact ⟨v6, _, rfl, hm6.mono (Nat.le_trans T4.out.size T5.out.size), hM6, (T4.out.then_ T5.out fun k hk => O5.out k (by rw [hk])).trans (hT6.mono fun k hk => .inl hk), fun k hk => by
                rcases hk with rfl | hk
                · exact .inl (.inl rfl)
                · injection hk with hk; injection hk with hk; exact O5.out k hk.symm⟩)
            clear hm6 hM6 hT6 hrun'
            go_wp2_with fail
            go_ret2
            exact F.out
        · intro x t0 s0 l0 kl y1 y2 w6 cnt6 hkey hlx hv hat hrg1 hlt hg1 hs1 hen
          obtain ⟨q, hqm, rfl, rfl, hmk⟩ := cameQ HR.out.1 HR.out.2 hkey hv hat
          rw [hmk] at hen ⊢
          unfold rqV at hen ⊢
          have hqi := (HI.out q hqm).1
          have RG7 := Lib.hid hrg1
          have BW7 : RowKit.Hid (Below w.heap.size w w6) := Lib.hid (BW.out.trans ⟨hg1.os, hg1.tape, hg1.output, hg1.size, fun i hi => hg1.block i (by omega) (by simp; omega)⟩)
          have PM7 : RowKit.Hid (((s.L.filter fun z => notF z && !(left (.int .i64 z.n) && !(Lit.int .i64 z.n).sameKey (.int .i64 q.n)))).Perm ((s.L.filter fun z => notF z && !left (.int .i64 z.n)) ++ if notF q then [q] else [])) :=
            Lib.hid (filter_strike notF (fun z => left (.int .i64 z)) (fun z => left (.int .i64 z) && !(Lit.int .i64 z).sameKey (.int .i64 q.n)) q (strikeQ_self left hqi) (fun z hz => strikeQ_ne left hz) hlx s.L HS.out hqm)
          have HLT := Lib.hid hlt
          have LE0 := Lib.hid RG.out.left_eq
          have RG8 : RowKit.Hid ((w6.alloc (.cells #[i64 q.t, i64 q.st, i64 q.l] 130)).ranges Tryz.prog 3 RQ mb w.heap.size n1 D (fun z => left z && !z.sameKey (.int .i64 q.n)) cnt6) :=
            Lib.hid (ranges_same RG7.out (Below.heap_alloc _ _ _ RG7.out.owns.lt) (Below.heap_alloc _ _ _ RG7.out.lt))
          have B8 := Lib.hid (BW7.out.alloc BW7.out.size (.cells #[i64 q.t, i64 q.st, i64 q.l] 130))
          have RF : RowKit.Hid ((w6.alloc (.cells #[i64 q.t, i64 q.st, i64 q.l] 130)).rangeLeft mb w.heap.size < wr.rangeLeft mb w.heap.size) := Lib.hid (by rw [RG8.out.left_eq, LE0.out]; exact HLT.out)
          clear hrg1 hkey hlx hv hat hmk hg1 hlt RG BW hs1 hq c2 c3 f3
          by_cases h7 : q.st = 7
          · have e7 : notF q = false := by unfold notF; simp [h7]
            have el : ((s.L.filter fun q => notF q && !left (.int .i64 q.n)).length : Int) = ((s.L.filter fun z => notF z && !(left (.int .i64 z.n) && !(Lit.int .i64 z.n).sameKey (.int .i64 q.n))).length : Int) := by
              rw [PM7.out.length_eq, e7]; simp
            have EL := Lib.hid el
            obtain ⟨c9, hc9⟩ : ∃ c9 : Int, c9 = ((s.L.filter fun q => notF q && !left (.int .i64 q.n)).length : Int) := ⟨_, rfl⟩
            rw [← hc9] at EL ⊢
            clear hc9 hTl el
            have RG9 := Lib.hid (And.intro RG8.out (And.intro B8.out RF.out))
            rw [h7] at RG9 hen ⊢
            clear RG8 B8 RF
            go_wp2_with fail
            exact ⟨⟨_, cnt6, RG9.out.1, by rw [EL.out], RG9.out.2.1⟩, RG9.out.2.2⟩
          · have e7 : notF q = true := by unfold notF; simp [h7]
            have el : ((s.L.filter fun z => notF z && !(left (.int .i64 z.n) && !(Lit.int .i64 z.n).sameKey (.int .i64 q.n))).length : Int) = ((s.L.filter fun q => notF q && !left (.int .i64 q.n)).length : Int) + 1 := by
              rw [PM7.out.length_eq, e7]; simp
            have EL := Lib.hid el
            obtain ⟨c9, hc9⟩ : ∃ c9 : Int, c9 = ((s.L.filter fun q => notF q && !left (.int .i64 q.n)).length : Int) := ⟨_, rfl⟩
            have hc8 : 0 ≤ c9 ∧ c9 ≤ 100000 := by omega
            rw [← hc9] at EL ⊢
            clear hc9 hTl el
            have d7 : (q.st != 7) = true := by simp [h7]
            have hwr : IntKind.i64.wrap (c9 + 1) = c9 + 1 := by rw [IntKind.wrap_i64]; omega
            go_wp2_with fail
            exact ⟨⟨_, cnt6, RG8.out, by rw [EL.out], B8.out⟩, RF.out⟩
end Go.Proofs.YtdojgbpaheadnaaGreat
