/- The reference's asker asks. -/
import Derived.Test.YtdojgbpaheadnaaGreatQKQ
import Derived.Test.YtdojgbpaheadnaaGreatQSY
set_option linter.unusedVariables false
set_option linter.unusedSimpArgs false

namespace Go.Proofs.YtdojgbpaheadnaaGreat
open Go.RowKit Go.Shelf Go.Maps

def lessQ (L : List Rq) (n : Int) : Nat := L.countP fun q => decide (q.n < n)
theorem countP_snoc {α : Type} (p : α → Bool) (L : List α) (x : α) : (L ++ [x]).countP p = L.countP p + if p x then 1 else 0 := by
  rw [List.countP_append, List.countP_singleton]
theorem less_take {n : Int} : ∀ {L : List Rq}, SortedQ L → (L.takeWhile fun x => decide (x.n < n)) = L.take (lessQ L n) ∧ (L.dropWhile fun x => decide (x.n < n)) = L.drop (lessQ L n)
  | [], _ => ⟨rfl, rfl⟩
  | x :: L, h => by
    unfold SortedQ at h
    rw [List.pairwise_cons] at h
    obtain ⟨h1, h2⟩ := less_take (n := n) h.2
    unfold lessQ at h1 h2 ⊢
    by_cases e : x.n < n
    · simp only [List.takeWhile_cons, List.dropWhile_cons, e, decide_true, if_true, List.countP_cons_of_pos, List.take_succ_cons, List.drop_succ_cons, h1, h2, and_self]
    · have h0 : L.countP (fun q => decide (q.n < n)) = 0 := List.countP_eq_zero.2 fun q hq => by have := h.1 q hq; simp; omega
      simp only [List.takeWhile_cons, List.dropWhile_cons, e, decide_false, Bool.false_eq_true, if_false, List.countP_cons, h0, Nat.add_zero, List.take_zero, List.drop_zero, and_self]
theorem insQ_at {L : List Rq} {q : Rq} (h : SortedQ L) : insQ q L = L.take (lessQ L q.n) ++ q :: L.drop (lessQ L q.n) := by
  unfold insQ
  rw [(less_take h).1, (less_take h).2]
theorem lessQ_le (L : List Rq) (n : Int) : lessQ L n ≤ L.length := List.countP_le_length
/-- The requests are another row. -/
theorem RAM.newL {w w' : World} {B rb N : Nat} {s : Asr} {lv lv' : Value} {L' : List Rq} (h : RAM w B rb s lv N) (ht : Below w.heap.size w w') (hr : w'.ownsRow w.heap.size 161 4 lv' L'.length (qcells L'))
    (hid : ∀ q ∈ L', I64 q.n ∧ I64 q.t ∧ 1 ≤ q.st ∧ q.st ≤ 7 ∧ I64 q.l) (hs : SortedQ L') (hl : L'.length ≤ N + 1) (hN : N < 10000) :
    RAM (w'.setCell ⟨rb, 3, none⟩ lv') B rb { s with L := L' } lv' (N + 1) ∧ Tn (fun k => k = rb) w (w'.setCell ⟨rb, 3, none⟩ lv') := by
  have u := h.up ht
  have hz := h.blk.lt
  have t : Tn (fun k => k = rb) w' (w'.setCell ⟨rb, 3, none⟩ lv') := (Tn.refl (fun k => k = rb) w').setCell (p := ⟨rb, 3, none⟩) (.inl rfl) _
  have hB : B ≤ w.heap.size := Nat.le_trans h.lo (Nat.le_of_lt hz)
  refine ⟨⟨(u.blk.set 3 lv').cast rfl, t.row (row_mono hr hB) fun k hk e => ?_, fun e => ?_, u.lo, ⟨u.sent.1, by have := u.sent.2; show s.sent ≤ 1000 * ((N + 1 : Nat) : Int); omega⟩, ⟨u.ids.1, u.ids.2.1, hid⟩, hs, ⟨hl, by omega⟩⟩, (Tn.of_below ht).trans t⟩
  · have := (row_lt hr k hk).1; omega
  · have := (row_lt hr rb e).1; omega
theorem ask_ways (s : Asr) (n t : Int) : (n < 1 ∨ t < 1) ∧ s.ask n t = ((s, []), 1) ∨ ¬ (n < 1 ∨ t < 1) ∧ ((rq s.L n ≠ none ∧ s.ask n t = ((s, []), 22)) ∨ rq s.L n = none ∧ (s.cap ≤ many s.L ∧ s.ask n t = ((s, []), 63) ∨ ¬ s.cap ≤ many s.L ∧ s.ask n t = (({ s with L := insQ ⟨n, t, 1, 0⟩ s.L } : Asr).tell ⟨n, t, 1, 0⟩ 1, 0))) := by
  unfold Asr.ask
  by_cases h1 : n < 1 ∨ t < 1
  · exact .inl ⟨h1, if_pos h1⟩
  · refine .inr ⟨h1, ?_⟩
    rw [if_neg h1]
    cases hq : rq s.L n with
    | some q => exact .inl ⟨by simp, rfl⟩
    | none =>
      refine .inr ⟨rfl, ?_⟩
      simp only [Option.isSome_none, Bool.false_eq_true, if_false]
      by_cases h2 : s.cap ≤ many s.L
      · exact .inl ⟨h2, if_pos h2⟩
      · exact .inr ⟨h2, if_neg h2⟩
set_option maxRecDepth 100000 in
set_option maxHeartbeats 8000000 in
theorem rask_any (B rb N : Nat) (s : Asr) (lv : Value) (n t : Int) (w : World) (h : RAM w B rb s lv N) (hN : N < 9000) (hn : I64 n) (ht : I64 t) :
    Calls Tryz.prog 30 #[.pointer (some ⟨rb, 0, none⟩), i64 n, i64 t] w (RAskE B rb N s lv (s.ask n t) w) := by
  obtain ⟨i0, hi, hz1, hz2, hz3⟩ := info_partsQ
  obtain ⟨la, lcap, hlv, ld1, ld2, lxl, hlc⟩ := row_cellz h.reqs
  have hlcap : lcap ≤ 9223372036854775807 := by unfold maxLen at ld2; omega
  have hLl : s.L.length ≤ 10000 := by have := h.len; omega
  have H := Lib.hid h
  have HLV := Lib.hid hlv
  have HLC := Lib.hid hlc
  have HI := Lib.hid (And.intro hn ht)
  have hbl := h.blk.lt
  have c3 : w.cell? ⟨rb, 3, none⟩ = some (.slice la s.L.length lcap) := (h.blk.cell 3).trans (congrArg some hlv)
  have c1 : w.cell? ⟨rb, 1, none⟩ = some (i64 s.cap) := h.blk.cell 1
  have FN : RowKit.Hid (∀ c, s.ask n t = ((s, []), c) → RAskE B rb N s lv (s.ask n t) w (.returned (.tuple #[.slice none 0 0, i64 c])) w) := Lib.hid fun c e => rask_none H.out hN e (Below.refl _ w)
  clear h ld2 hlc hlv hn ht
  rcases ask_ways s n t with ⟨h1, e1⟩ | ⟨h1, h2⟩
  · have F := Lib.hid (FN.out 1 e1)
    clear e1
    go_enter Tryz.func30, Tryz.ntmps30
    by_cases h0 : n < 1
    · clear h1
      go_wp2_with fail
      go_ret2
      exact F.out
    · have h1 : t < 1 := h1.resolve_left h0
      go_wp2_with fail
      go_ret2
      exact F.out
  · have hn1 : ¬ n < 1 := fun e => h1 (.inl e)
    have ht1 : ¬ t < 1 := fun e => h1 (.inr e)
    have H2 := Lib.hid h2
    clear h1 h2
    go_enter Tryz.func30, Tryz.ntmps30
    go_wp2_with fail
    refine (rfind_any B rb N s lv n w H.out).mono ?_
    rintro e w1 ⟨rfl, ⟨rfl, hq⟩ | ⟨j, q, rfl, hj, hq, hqn⟩⟩
    · have H3 := Lib.hid ((H2.out.resolve_left fun e => e.1 hq).2)
      have HQ := Lib.hid hq
      clear hq H2
      go_wp2_with fail
      go_loopw [8, 9, 10] (fun a b i wr => wr = w1 ∧ ∃ j : Nat, j ≤ s.L.length ∧ i = .int .i64 j ∧ a = .int .i64 (many (s.L.take j) : Nat) ∧ b = .int .i64 (lessQ (s.L.take j) n : Nat)) (fun _ _ i _ => s.L.length - (intOf i).toNat)
      case atStart => exact ⟨rfl, 0, Nat.zero_le _, rfl, rfl, rfl⟩
      case round =>
        obtain ⟨hwr, j, hj, rfl, rfl, rfl⟩ := hrel
        rw [hwr]
        clear hwr
        by_cases hlt : j < s.L.length
        · obtain ⟨g, rfl, -⟩ := HLC.out.resolve_left (fun h => by omega)
          obtain ⟨d, hd⟩ : ∃ d, s.L[j]? = some d := ⟨_, List.getElem?_eq_getElem hlt⟩
          obtain ⟨d0, -, d2, -⟩ := H.out.req hd HLV.out
          have hs1 : s.L.take (j + 1) = s.L.take j ++ [d] := by rw [List.take_add_one, hd]; rfl
          have HM : RowKit.Hid (many (s.L.take (j + 1)) = many (s.L.take j) + if d.st ≠ 7 then 1 else 0) := Lib.hid (by unfold many; rw [hs1, countP_snoc]; simp)
          have HL : RowKit.Hid (lessQ (s.L.take (j + 1)) n = lessQ (s.L.take j) n + if d.n < n then 1 else 0) := Lib.hid (by unfold lessQ; rw [hs1, countP_snoc]; simp)
          obtain ⟨p, hp⟩ : ∃ p, p = many (s.L.take j) := ⟨_, rfl⟩
          obtain ⟨r, hr⟩ : ∃ r, r = lessQ (s.L.take j) n := ⟨_, rfl⟩
          have hpl : p ≤ 10000 := by
            have h1 : many (s.L.take j) ≤ (s.L.take j).length := List.countP_le_length
            rw [List.length_take] at h1; omega
          have hrl : r ≤ 10000 := by
            have h1 := lessQ_le (s.L.take j) n
            rw [List.length_take] at h1; omega
          rw [← hp] at HM ⊢
          rw [← hr] at HL ⊢
          clear hd hs1 hp hr
          by_cases h7 : d.st = 7
          · have e7 : RowKit.Hid (many (s.L.take (j + 1)) = p) := Lib.hid (by rw [HM.out, if_neg (by simp [h7])]; rfl)
            rw [h7] at d2
            by_cases hdn : d.n < n
            · have e8 : RowKit.Hid (lessQ (s.L.take (j + 1)) n = r + 1) := Lib.hid (by rw [HL.out, if_pos hdn])
              go_wp2_with fail
              exact ⟨⟨by first | rfl | trivial, j + 1, hlt, by go_num, by rw [e7.out], by rw [e8.out]; go_num⟩, by simp [intOf]; omega⟩
            · have e8 : RowKit.Hid (lessQ (s.L.take (j + 1)) n = r) := Lib.hid (by rw [HL.out, if_neg hdn]; rfl)
              go_wp2_with fail
              exact ⟨⟨by first | rfl | trivial, j + 1, hlt, by go_num, by rw [e7.out], by rw [e8.out]⟩, by simp [intOf]; omega⟩
          · have e7 : RowKit.Hid (many (s.L.take (j + 1)) = p + 1) := Lib.hid (by rw [HM.out, if_pos h7])
            have b7 : (d.st != 7) = true := by simpa using h7
            clear h7
            by_cases hdn : d.n < n
            · have e8 : RowKit.Hid (lessQ (s.L.take (j + 1)) n = r + 1) := Lib.hid (by rw [HL.out, if_pos hdn])
              go_wp2_with fail
              exact ⟨⟨by first | rfl | trivial, j + 1, hlt, by go_num, by rw [e7.out]; go_num, by rw [e8.out]; go_num⟩, by simp [intOf]; omega⟩
            · have e8 : RowKit.Hid (lessQ (s.L.take (j + 1)) n = r) := Lib.hid (by rw [HL.out, if_neg hdn]; rfl)
              go_wp2_with fail
              exact ⟨⟨by first | rfl | trivial, j + 1, hlt, by go_num, by rw [e7.out]; go_num, by rw [e8.out]⟩, by simp [intOf]; omega⟩
        · have hk2 : j = s.L.length := by omega
          subst hk2
          rw [List.take_length]
          rcases H3.out with ⟨hcap, e3⟩ | ⟨hcap, e3⟩
          · have F := Lib.hid (FN.out 63 e3)
            clear e3
            go_wp2_with fail
            go_ret2
            exact F.out
          · have E3 := Lib.hid e3
            obtain ⟨k, hk⟩ : ∃ k, k = lessQ s.L n := ⟨_, rfl⟩
            have hkl : k ≤ s.L.length := by rw [hk]; exact lessQ_le _ _
            have INS : RowKit.Hid ((insQ ⟨n, t, 1, 0⟩ s.L).length = s.L.length + 1 ∧ (∀ q ∈ insQ ⟨n, t, 1, 0⟩ s.L, I64 q.n ∧ I64 q.t ∧ 1 ≤ q.st ∧ q.st ≤ 7 ∧ I64 q.l) ∧ SortedQ (insQ ⟨n, t, 1, 0⟩ s.L)) := Lib.hid ⟨ins_lenQ _ _, fun q hq => by
              rcases ins_memQ.1 hq with rfl | hq
              · exact ⟨HI.out.1, HI.out.2, by dsimp only; omega, by dsimp only; omega, ⟨by dsimp only; omega, by dsimp only; omega⟩⟩
              · exact H.out.ids.2.2 q hq, ins_sortedQ H.out.inOrder HQ.out⟩
            have IQ : RowKit.Hid (qcells (insQ ⟨n, t, 1, 0⟩ s.L) = (qcells s.L).take (k * 4) ++ (qcell ⟨n, t, 1, 0⟩ ++ (qcells s.L).drop (k * 4))) := Lib.hid (by
              rw [insQ_at H.out.inOrder, ← hk, qcells_app, qcells_take, qcells_drop, show (⟨n, t, 1, 0⟩ :: s.L.drop k : List Rq) = [⟨n, t, 1, 0⟩] ++ s.L.drop k from rfl, qcells_app]
              simp [qcells])
            rw [← hk]
            have HXL : RowKit.Hid ((qcells s.L).length = s.L.length * 4) := Lib.hid (qcells_len _)
            obtain ⟨w5, hw5⟩ : ∃ w5, w5 = w1.alloc (.cells #[i64 n, i64 t, i64 1, i64 0] 161) := ⟨_, rfl⟩
            have D5 : RowKit.Hid (Blk w5 w1.heap.size #[i64 n, i64 t, i64 1, i64 0] 161) := Lib.hid (by rw [hw5]; exact Blk.new _ _ _)
            have B5 : RowKit.Hid (Below w1.heap.size w1 w5) := Lib.hid (by rw [hw5]; exact (Below.refl _ _).alloc (Nat.le_refl _) _)
            have HW := Lib.hid hw5
            obtain ⟨S, hS⟩ : ∃ S : World → Prop, S = fun W => Below w5.heap.size w5 W := ⟨_, rfl⟩
            have LD : RowKit.Hid (∀ W, S W → W.cell? ⟨rb, 3, none⟩ = some (.slice la s.L.length lcap)) := Lib.hid (by
              rw [hS]; exact fun W h => (((H.out.up B5.out).up h).blk.cell 3).trans (congrArg some HLV.out))
            have LB : RowKit.Hid (∀ W, S W → Blk W w1.heap.size #[i64 n, i64 t, i64 1, i64 0] 161) := Lib.hid (by rw [hS]; exact fun W h => D5.out.below h D5.out.lt)
            have UU : RowKit.Hid (∀ W, Below w5.heap.size w5 W → S W) := Lib.hid (by rw [hS]; exact fun W h => h)
            have hHeld := UU.out _ (Below.refl w5.heap.size w5).drew
            clear hS hw5 hk e3 hj H3
            by_cases h0 : s.L.length = 0
            · have hk0 : k = 0 := by omega
              subst hk0
              have HE : RowKit.Hid (qcells s.L = []) := Lib.hid (List.eq_nil_of_length_eq_zero (by rw [HXL.out, h0]))
              have ON : RowKit.Hid (∀ u ∈ qcell ⟨n, t, 1, 0⟩ ++ [], u.oneCell' = true) := Lib.hid (by simp [qcell, Value.oneCell'])
              have E1 : RowKit.Hid (0 + 0 + (1 + 0) = (insQ ⟨n, t, 1, 0⟩ s.L).length) := Lib.hid (by rw [INS.out.1, h0])
              have E2 : RowKit.Hid ([] ++ (qcells s.L).take (0 * 4) ++ (qcell ⟨n, t, 1, 0⟩ ++ []) = qcells (insQ ⟨n, t, 1, 0⟩ s.L)) := Lib.hid (by rw [IQ.out, HE.out]; simp)
              have HA : (la = none ∧ lcap = 0) ∨ ∃ g, la = some ⟨g, 0, none⟩ := by
                rcases HLC.out with ⟨_, h1, h2⟩ | ⟨g, h1, _⟩
                · exact .inl ⟨h2, h1⟩
                · exact .inr ⟨g, h1⟩
              have SR : RowKit.Hid (∀ W, Below w5.heap.size w5 W → Src W 4 0 [] (.slice la 0 lcap)) := Lib.hid fun W _ => by
                rcases HA with ⟨rfl, rfl⟩ | ⟨g, rfl⟩
                · exact .inl ⟨0, rfl, rfl, rfl⟩
                · exact .inr ⟨_, lcap, rfl, rfl, fun j u hu => by simp at hu⟩
              have ST : RowKit.Hid (∀ W, Below w1.heap.size w1 W → Src W 4 0 ((qcells s.L).take (0 * 4)) (.slice la 0 lcap)) := Lib.hid fun W _ => by
                rw [Nat.zero_mul, List.take_zero]
                rcases HA with ⟨rfl, rfl⟩ | ⟨g, rfl⟩
                · exact .inl ⟨0, rfl, rfl, rfl⟩
                · exact .inr ⟨_, lcap, rfl, rfl, fun j u hu => by simp at hu⟩
              have HLV0 : RowKit.Hid (lv = .slice la 0 lcap) := Lib.hid (by rw [HLV.out, h0])
              rw [h0] at LD c3
              clear h0 hlt hkl
              rcases HA with ⟨rfl, rfl⟩ | ⟨g, rfl⟩
              · skip
                go_wp2_with fail
                rw [← HW.out]
                refine wp_region_held_drew (S := S) (by kernel_rfl) hHeld (fun _ => ?_)
                apply wpAnyH_apartV (fun u W => W.ownsRow w5.heap.size 161 4 u (1 + 0) (qcell ⟨n, t, 1, 0⟩ ++ []) ∧ Below w5.heap.size w5 W)
                case take =>
                  intro R hR
                  refine wpAnyH_take (i := 0) (v := .agg #[i64 n, i64 t, i64 1, i64 0]) rfl (by kernel_rfl) (by kernel_rfl) (by kernel_rfl) (fun _ _ _ h => only_panic h) ?_ hHeld ?_
                  · exact yields_row (.tmp 11) (by rfl) rfl rfl LB.out Tryz.underlying161 rfl (by kernel_rfl)
                  try simp only [gA, gB, gC, Act.put, gD, gE, gF]
                  refine wpAnyH_take (i := 2) (v := ?_) rfl (by kernel_rfl) (by kernel_rfl) (by kernel_rfl) (fun _ _ _ h => only_panic h) (Or.inl ⟨by rfl, ?_⟩) hHeld ?_
                  rotate_left
                  · (intro w hSw; have l0 := LD.out w hSw; go_simp; try (with_reducible rfl))
                  try simp only [gA, gB, gC, Act.put, gD, gE, gF]
                  refine wpAnyH_take (i := 3) (v := ?_) rfl (by kernel_rfl) (by kernel_rfl) (by kernel_rfl) (fun _ _ _ h => only_panic h) (Or.inl ⟨by rfl, ?_⟩) hHeld ?_
                  rotate_left
                  · (intro w hSw; have l0 := LD.out w hSw; go_simp; try (with_reducible rfl))
                  try simp only [gA, gB, gC, Act.put, gD, gE, gF]
                  refine wpAnyH_take (i := 4) (v := ?_) rfl (by kernel_rfl) (by kernel_rfl) (by kernel_rfl) (fun _ _ _ h => only_panic h) (Or.inl ⟨by rfl, ?_⟩) hHeld ?_
                  rotate_left
                  · (intro w hSw; have l0 := LD.out w hSw; go_simp; try (with_reducible rfl))
                  try simp only [gA, gB, gC, Act.put, gD, gE, gF]
                  refine wpAnyH_take (i := 5) (v := ?_) rfl (by kernel_rfl) (by kernel_rfl) (by kernel_rfl) (fun _ _ _ h => only_panic h) (Or.inl ⟨by rfl, ?_⟩) hHeld ?_
                  rotate_left
                  · (intro w hSw; have l0 := LD.out w hSw; go_simp; try (with_reducible rfl))
                  try simp only [gA, gB, gC, Act.put, gD, gE, gF]
                  refine wpAnyH_take (i := 6) (v := ?_) rfl (by kernel_rfl) (by kernel_rfl) (by kernel_rfl) (fun _ _ _ h => only_panic h) (Or.inl ⟨by rfl, ?_⟩) hHeld ?_
                  rotate_left
                  · (intro w hSw; have l0 := LD.out w hSw; go_simp; try (with_reducible rfl))
                  try simp only [gA, gB, gC, Act.put, gD, gE, gF]
                  refine wpAnyH_take (i := 7) (v := ?_) rfl (by kernel_rfl) (by kernel_rfl) (by kernel_rfl) (fun _ _ _ h => only_panic h) (Or.inl ⟨by rfl, ?_⟩) hHeld ?_
                  rotate_left
                  · (intro w hSw; clear hSw; go_simp; skip; try (with_reducible rfl))
                  try simp only [gA, gB, gC, Act.put, gD, gE, gF]
                  refine wpAnyH_one (i := 1) rfl (by kernel_rfl) (by rfl) ?_
                  go_simp
                  obtain ⟨W2, hW2⟩ : ∃ W2, W2 = (w5.alloc (.cells #[i64 n, i64 t, i64 1, i64 0] 161)).drew := ⟨_, rfl⟩
                  have B2 : RowKit.Hid (Below w5.heap.size w5 W2) := Lib.hid (by rw [hW2]; exact ((Below.refl _ _).alloc (Nat.le_refl _) _).drew)
                  have R2 : RowKit.Hid (W2.ownsRow w5.heap.size 161 4 (.slice (some ⟨w5.heap.size, 0, none⟩) 1 1) 1 (qcell ⟨n, t, 1, 0⟩)) := Lib.hid (by rw [hW2]; exact row_fresh w5 _ #[i64 n, i64 t, i64 1, i64 0] 161 4 1 rfl (by unfold maxLen; omega) (Nat.le_refl _))
                  rw [← hW2]
                  clear hW2
                  refine ⟨UU.out _ B2.out, ?_⟩
                  refine wpAnyH_one (i := 8) rfl (by kernel_rfl) (by rfl) ?_
                  refine wp_append_all (.tmp 65) (.tmp 71) 157 rfl w5.heap.size 161 i0 _ 4 32 Tryz.underlying157 hi hz1 hz2 hz3 rfl (by omega) _ 1 (qcell ⟨n, t, 1, 0⟩) rfl R2.out 0 [] _ rfl (SR.out W2 B2.out) (fun u hu => ON.out u (List.mem_append_right _ hu)) (by unfold maxLen; omega) (by omega) B2.out.size ?_
                  intro v6 W3 hown hg hat
                  have B3 : RowKit.Hid (Below w5.heap.size w5 W3) := Lib.hid (B2.out.grown hg B2.out.size (fun j e => (row_lt R2.out j e).1))
                  have R3 := Lib.hid hown
                  have hHeld := UU.out _ B3.out
                  clear hown hg hat
                  refine ⟨hHeld, ?_⟩
                  refine wpAnyH_take (i := 9) (v := ?_) rfl (by kernel_rfl) (by kernel_rfl) (by kernel_rfl) (fun _ _ _ h => only_panic h) (Or.inl ⟨by rfl, ?_⟩) hHeld ?_
                  rotate_left
                  · (intro w hSw; clear hSw; go_simp; try (with_reducible rfl))
                  try simp only [gA, gB, gC, Act.put, gD, gE, gF]
                  exact wpAnyH_done (by kernel_rfl) ⟨rfl, hR _ _ ⟨R3.out, B3.out⟩⟩ _
                case rest =>
                  rintro u W ⟨hu, hb⟩
                  have B6 : RowKit.Hid (Below w1.heap.size w1 W) := Lib.hid (B5.out.trans (hb.mono B5.out.size))
                  have M6 := Lib.hid (H.out.up B6.out)
                  have D6 := Lib.hid (D5.out.below hb D5.out.lt)
                  have U6 := Lib.hid hu
                  obtain ⟨ua, uc, rfl, -⟩ := row_cellz hu
                  have c3 : W.cell? ⟨rb, 3, none⟩ = some (.slice none 0 0) := (M6.out.blk.cell 3).trans (congrArg some HLV0.out)
                  have hz6 := B6.out.size
                  have hrW : rb < W.heap.size := Nat.lt_of_lt_of_le hbl hz6
                  clear hu hb LB LD UU
                  go_wp2_with (first
                    | (refine wpList_append_all rfl (.tmp 74) (.tmp 80) 157 rfl W.heap.size 161 i0 _ 4 32 Tryz.underlying157 hi hz1 hz2 hz3 rfl (by omega) _ 0 [] rfl (row_fresh W _ #[] 161 4 0 rfl (by omega) (Nat.le_refl _)) 0 ((qcells s.L).take (0 * 4)) _ rfl (ST.out _ (B6.out.trans (((Below.refl W.heap.size W).alloc (Nat.le_refl _) _).mono hz6))) (fun u hu => qcells_one _ u (List.mem_of_mem_take hu)) (by unfold maxLen; omega) (by omega) (by simp) ?_
                       intro v7 w7 hown7 hg7 hat7
                       have B7 : RowKit.Hid (Below W.heap.size W w7) := Lib.hid (((Below.refl W.heap.size W).alloc (Nat.le_refl _) _).grown hg7 (by simp) (fun j e => by have := own_ge e; omega))
                       have S7 := Lib.hid hown7
                       clear hown7 hg7 hat7)
                    | (refine wpList_append_all rfl (.tmp 81) (.tmp 82) 157 rfl W.heap.size 161 i0 _ 4 32 Tryz.underlying157 hi hz1 hz2 hz3 rfl (by omega) v7 _ _ rfl S7.out _ _ (.slice ua (1 + 0) uc) rfl ((src_row U6.out).below B7.out) ON.out (by unfold maxLen; omega) (by omega) B7.out.size ?_
                       intro v8 w8 hown8 hg8 hat8
                       have B8 : RowKit.Hid (Below W.heap.size W w8) := Lib.hid (B7.out.grown hg8 B7.out.size (fun j e => (row_lt S7.out j e).1))
                       have S8 : RowKit.Hid (w8.ownsRow W.heap.size 161 4 v8 (insQ ⟨n, t, 1, 0⟩ s.L).length (qcells (insQ ⟨n, t, 1, 0⟩ s.L))) := Lib.hid (by
                         have e1 : 0 + 0 + (1 + 0) = (insQ ⟨n, t, 1, 0⟩ s.L).length := E1.out
                         have e2 : [] ++ (qcells s.L).take (0 * 4) ++ (qcell ⟨n, t, 1, 0⟩ ++ []) = qcells (insQ ⟨n, t, 1, 0⟩ s.L) := E2.out
                         rw [← e1, ← e2]; exact hown8)
                       obtain ⟨a8, cap8, hv8, -⟩ := row_cellz S8.out
                       have HV8 := Lib.hid hv8
                       obtain ⟨M9, T9⟩ := M6.out.newL B8.out S8.out INS.out.2.1 INS.out.2.2 (by rw [INS.out.1]; have := H.out.len.1; omega) (by omega)
                       have M9 := Lib.hid M9
                       have T9 : RowKit.Hid (Tn (fun k => k = rb) w1 (w8.setCell ⟨rb, 3, none⟩ v8)) := Lib.hid ((Tn.of_below B6.out).trans T9)
                       have K9 : RowKit.Hid (Blk (w8.setCell ⟨rb, 3, none⟩ v8) w1.heap.size #[i64 n, i64 t, i64 1, i64 0] 161) := Lib.hid ((D6.out.below B8.out D6.out.lt).set_ne _ _ (by show w1.heap.size ≠ rb; omega))
                       have bb := M6.out.blk.below B8.out M6.out.blk.lt
                       have f8 := bb.frozen 3
                       have c8 : w8.cell? ⟨rb, 3, none⟩ = some lv := bb.cell 3
                       have l8 := bb.lt
                       have OW : RowKit.Hid (∀ k, v8.ownBlock = some k → w1.heap.size ≤ k) := Lib.hid fun k hk => Nat.le_trans B6.out.size (row_lt S8.out k hk).1
                       subst hv8
                       clear hown8 hg8 hat8 bb)
                    | refine wpList_load_row 161 (.tmp 11) rfl rfl rfl K9.out Tryz.underlying161 rfl (by kernel_rfl) ?_)
                  obtain ⟨⟨mf, mt, mn, mx⟩, hm⟩ : ∃ m, m = rmsg { s with L := insQ ⟨n, t, 1, 0⟩ s.L } 0 1 ⟨n, t, 1, 0⟩ := ⟨_, rfl⟩
                  have HM : RowKit.Hid (s.ask n t = (({ s with L := insQ ⟨n, t, 1, 0⟩ s.L, sent := s.sent + 1 }, [⟨mf, mt, mn, mx⟩]), 0)) := Lib.hid (by rw [E3.out, hm]; rfl)
                  have key := rsendA M9.out (by have := H.out.sent.2; show s.sent < 1000 * ((N + 1 : Nat) : Int); omega) 0 1 ⟨n, t, 1, 0⟩ ⟨by omega, by omega⟩ HI.out.1 HI.out.2
                  rw [← hm, show encM ⟨mf, mt, mn, mx⟩ = #[i64 mf, i64 mt, i64 mn, strV mx] from rfl] at key
                  refine key.mono ?_
                  clear key hm
                  rintro e wA ⟨rfl, hMA, hTA⟩
                  have MA := Lib.hid hMA
                  have TA : RowKit.Hid (Tn (fun k => k = rb) w1 wA) := Lib.hid (T9.out.trans hTA)
                  clear hMA hTA
                  have BA : RowKit.Hid (Below wA.heap.size wA (wA.alloc (.cells #[i64 mf, i64 mt, i64 mn, strV mx] 31))) := Lib.hid ((Below.refl _ _).alloc (Nat.le_refl _) _)
                  have F : RowKit.Hid (RAskE B rb N s lv (s.ask n t) w1 (.returned (.tuple #[.slice (some ⟨wA.heap.size, 0, none⟩) 1 1, i64 0])) (wA.alloc (.cells #[i64 mf, i64 mt, i64 mn, strV mx] 31))) := Lib.hid (by
                    rw [HM.out]
                    exact ⟨_, _, rfl, msgs_new wA ⟨mf, mt, mn, mx⟩ TA.out.size, MA.out.up BA.out, (TA.out.mono fun k hk => .inl hk).trans (Tn.of_below BA.out), fun k hk => by
                      rcases hk with hk | hk
                      · exact .inl (.inl hk)
                      · exact .inr (OW.out k hk)⟩)
                  go_wp2_with fail
                  go_ret2
                  exact F.out
              · skip
                go_wp2_with fail
                rw [← HW.out]
                refine wp_region_held_drew (S := S) (by kernel_rfl) hHeld (fun _ => ?_)
                apply wpAnyH_apartV (fun u W => W.ownsRow w5.heap.size 161 4 u (1 + 0) (qcell ⟨n, t, 1, 0⟩ ++ []) ∧ Below w5.heap.size w5 W)
                case take =>
                  intro R hR
                  refine wpAnyH_take (i := 0) (v := .agg #[i64 n, i64 t, i64 1, i64 0]) rfl (by kernel_rfl) (by kernel_rfl) (by kernel_rfl) (fun _ _ _ h => only_panic h) ?_ hHeld ?_
                  · exact yields_row (.tmp 11) (by rfl) rfl rfl LB.out Tryz.underlying161 rfl (by kernel_rfl)
                  try simp only [gA, gB, gC, Act.put, gD, gE, gF]
                  refine wpAnyH_take (i := 2) (v := ?_) rfl (by kernel_rfl) (by kernel_rfl) (by kernel_rfl) (fun _ _ _ h => only_panic h) (Or.inl ⟨by rfl, ?_⟩) hHeld ?_
                  rotate_left
                  · (intro w hSw; have l0 := LD.out w hSw; go_simp; try (with_reducible rfl))
                  try simp only [gA, gB, gC, Act.put, gD, gE, gF]
                  refine wpAnyH_take (i := 3) (v := ?_) rfl (by kernel_rfl) (by kernel_rfl) (by kernel_rfl) (fun _ _ _ h => only_panic h) (Or.inl ⟨by rfl, ?_⟩) hHeld ?_
                  rotate_left
                  · (intro w hSw; have l0 := LD.out w hSw; go_simp; try (with_reducible rfl))
                  try simp only [gA, gB, gC, Act.put, gD, gE, gF]
                  refine wpAnyH_take (i := 4) (v := ?_) rfl (by kernel_rfl) (by kernel_rfl) (by kernel_rfl) (fun _ _ _ h => only_panic h) (Or.inl ⟨by rfl, ?_⟩) hHeld ?_
                  rotate_left
                  · (intro w hSw; have l0 := LD.out w hSw; go_simp; try (with_reducible rfl))
                  try simp only [gA, gB, gC, Act.put, gD, gE, gF]
                  refine wpAnyH_take (i := 5) (v := ?_) rfl (by kernel_rfl) (by kernel_rfl) (by kernel_rfl) (fun _ _ _ h => only_panic h) (Or.inl ⟨by rfl, ?_⟩) hHeld ?_
                  rotate_left
                  · (intro w hSw; have l0 := LD.out w hSw; go_simp; try (with_reducible rfl))
                  try simp only [gA, gB, gC, Act.put, gD, gE, gF]
                  refine wpAnyH_take (i := 6) (v := ?_) rfl (by kernel_rfl) (by kernel_rfl) (by kernel_rfl) (fun _ _ _ h => only_panic h) (Or.inl ⟨by rfl, ?_⟩) hHeld ?_
                  rotate_left
                  · (intro w hSw; have l0 := LD.out w hSw; go_simp; try (with_reducible rfl))
                  try simp only [gA, gB, gC, Act.put, gD, gE, gF]
                  refine wpAnyH_take (i := 7) (v := ?_) rfl (by kernel_rfl) (by kernel_rfl) (by kernel_rfl) (fun _ _ _ h => only_panic h) (Or.inl ⟨by rfl, ?_⟩) hHeld ?_
                  rotate_left
                  · (intro w hSw; clear hSw; go_simp; skip; try (with_reducible rfl))
                  try simp only [gA, gB, gC, Act.put, gD, gE, gF]
                  refine wpAnyH_one (i := 1) rfl (by kernel_rfl) (by rfl) ?_
                  go_simp
                  obtain ⟨W2, hW2⟩ : ∃ W2, W2 = (w5.alloc (.cells #[i64 n, i64 t, i64 1, i64 0] 161)).drew := ⟨_, rfl⟩
                  have B2 : RowKit.Hid (Below w5.heap.size w5 W2) := Lib.hid (by rw [hW2]; exact ((Below.refl _ _).alloc (Nat.le_refl _) _).drew)
                  have R2 : RowKit.Hid (W2.ownsRow w5.heap.size 161 4 (.slice (some ⟨w5.heap.size, 0, none⟩) 1 1) 1 (qcell ⟨n, t, 1, 0⟩)) := Lib.hid (by rw [hW2]; exact row_fresh w5 _ #[i64 n, i64 t, i64 1, i64 0] 161 4 1 rfl (by unfold maxLen; omega) (Nat.le_refl _))
                  rw [← hW2]
                  clear hW2
                  refine ⟨UU.out _ B2.out, ?_⟩
                  refine wpAnyH_one (i := 8) rfl (by kernel_rfl) (by rfl) ?_
                  refine wp_append_all (.tmp 65) (.tmp 71) 157 rfl w5.heap.size 161 i0 _ 4 32 Tryz.underlying157 hi hz1 hz2 hz3 rfl (by omega) _ 1 (qcell ⟨n, t, 1, 0⟩) rfl R2.out 0 [] _ rfl (SR.out W2 B2.out) (fun u hu => ON.out u (List.mem_append_right _ hu)) (by unfold maxLen; omega) (by omega) B2.out.size ?_
                  intro v6 W3 hown hg hat
                  have B3 : RowKit.Hid (Below w5.heap.size w5 W3) := Lib.hid (B2.out.grown hg B2.out.size (fun j e => (row_lt R2.out j e).1))
                  have R3 := Lib.hid hown
                  have hHeld := UU.out _ B3.out
                  clear hown hg hat
                  refine ⟨hHeld, ?_⟩
                  refine wpAnyH_take (i := 9) (v := ?_) rfl (by kernel_rfl) (by kernel_rfl) (by kernel_rfl) (fun _ _ _ h => only_panic h) (Or.inl ⟨by rfl, ?_⟩) hHeld ?_
                  rotate_left
                  · (intro w hSw; clear hSw; go_simp; try (with_reducible rfl))
                  try simp only [gA, gB, gC, Act.put, gD, gE, gF]
                  exact wpAnyH_done (by kernel_rfl) ⟨rfl, hR _ _ ⟨R3.out, B3.out⟩⟩ _
                case rest =>
                  rintro u W ⟨hu, hb⟩
                  have B6 : RowKit.Hid (Below w1.heap.size w1 W) := Lib.hid (B5.out.trans (hb.mono B5.out.size))
                  have M6 := Lib.hid (H.out.up B6.out)
                  have D6 := Lib.hid (D5.out.below hb D5.out.lt)
                  have U6 := Lib.hid hu
                  obtain ⟨ua, uc, rfl, -⟩ := row_cellz hu
                  have c3 : W.cell? ⟨rb, 3, none⟩ = some (.slice (some ⟨g, 0, none⟩) 0 lcap) := (M6.out.blk.cell 3).trans (congrArg some HLV0.out)
                  have hz6 := B6.out.size
                  have hrW : rb < W.heap.size := Nat.lt_of_lt_of_le hbl hz6
                  clear hu hb LB LD UU
                  go_wp2_with (first
                    | (refine wpList_append_all rfl (.tmp 74) (.tmp 80) 157 rfl W.heap.size 161 i0 _ 4 32 Tryz.underlying157 hi hz1 hz2 hz3 rfl (by omega) _ 0 [] rfl (row_fresh W _ #[] 161 4 0 rfl (by omega) (Nat.le_refl _)) 0 ((qcells s.L).take (0 * 4)) _ rfl (ST.out _ (B6.out.trans (((Below.refl W.heap.size W).alloc (Nat.le_refl _) _).mono hz6))) (fun u hu => qcells_one _ u (List.mem_of_mem_take hu)) (by unfold maxLen; omega) (by omega) (by simp) ?_
                       intro v7 w7 hown7 hg7 hat7
                       have B7 : RowKit.Hid (Below W.heap.size W w7) := Lib.hid (((Below.refl W.heap.size W).alloc (Nat.le_refl _) _).grown hg7 (by simp) (fun j e => by have := own_ge e; omega))
                       have S7 := Lib.hid hown7
                       clear hown7 hg7 hat7)
                    | (refine wpList_append_all rfl (.tmp 81) (.tmp 82) 157 rfl W.heap.size 161 i0 _ 4 32 Tryz.underlying157 hi hz1 hz2 hz3 rfl (by omega) v7 _ _ rfl S7.out _ _ (.slice ua (1 + 0) uc) rfl ((src_row U6.out).below B7.out) ON.out (by unfold maxLen; omega) (by omega) B7.out.size ?_
                       intro v8 w8 hown8 hg8 hat8
                       have B8 : RowKit.Hid (Below W.heap.size W w8) := Lib.hid (B7.out.grown hg8 B7.out.size (fun j e => (row_lt S7.out j e).1))
                       have S8 : RowKit.Hid (w8.ownsRow W.heap.size 161 4 v8 (insQ ⟨n, t, 1, 0⟩ s.L).length (qcells (insQ ⟨n, t, 1, 0⟩ s.L))) := Lib.hid (by
                         have e1 : 0 + 0 + (1 + 0) = (insQ ⟨n, t, 1, 0⟩ s.L).length := E1.out
                         have e2 : [] ++ (qcells s.L).take (0 * 4) ++ (qcell ⟨n, t, 1, 0⟩ ++ []) = qcells (insQ ⟨n, t, 1, 0⟩ s.L) := E2.out
                         rw [← e1, ← e2]; exact hown8)
                       obtain ⟨a8, cap8, hv8, -⟩ := row_cellz S8.out
                       have HV8 := Lib.hid hv8
                       obtain ⟨M9, T9⟩ := M6.out.newL B8.out S8.out INS.out.2.1 INS.out.2.2 (by rw [INS.out.1]; have := H.out.len.1; omega) (by omega)
                       have M9 := Lib.hid M9
                       have T9 : RowKit.Hid (Tn (fun k => k = rb) w1 (w8.setCell ⟨rb, 3, none⟩ v8)) := Lib.hid ((Tn.of_below B6.out).trans T9)
                       have K9 : RowKit.Hid (Blk (w8.setCell ⟨rb, 3, none⟩ v8) w1.heap.size #[i64 n, i64 t, i64 1, i64 0] 161) := Lib.hid ((D6.out.below B8.out D6.out.lt).set_ne _ _ (by show w1.heap.size ≠ rb; omega))
                       have bb := M6.out.blk.below B8.out M6.out.blk.lt
                       have f8 := bb.frozen 3
                       have c8 : w8.cell? ⟨rb, 3, none⟩ = some lv := bb.cell 3
                       have l8 := bb.lt
                       have OW : RowKit.Hid (∀ k, v8.ownBlock = some k → w1.heap.size ≤ k) := Lib.hid fun k hk => Nat.le_trans B6.out.size (row_lt S8.out k hk).1
                       subst hv8
                       clear hown8 hg8 hat8 bb)
                    | refine wpList_load_row 161 (.tmp 11) rfl rfl rfl K9.out Tryz.underlying161 rfl (by kernel_rfl) ?_)
                  obtain ⟨⟨mf, mt, mn, mx⟩, hm⟩ : ∃ m, m = rmsg { s with L := insQ ⟨n, t, 1, 0⟩ s.L } 0 1 ⟨n, t, 1, 0⟩ := ⟨_, rfl⟩
                  have HM : RowKit.Hid (s.ask n t = (({ s with L := insQ ⟨n, t, 1, 0⟩ s.L, sent := s.sent + 1 }, [⟨mf, mt, mn, mx⟩]), 0)) := Lib.hid (by rw [E3.out, hm]; rfl)
                  have key := rsendA M9.out (by have := H.out.sent.2; show s.sent < 1000 * ((N + 1 : Nat) : Int); omega) 0 1 ⟨n, t, 1, 0⟩ ⟨by omega, by omega⟩ HI.out.1 HI.out.2
                  rw [← hm, show encM ⟨mf, mt, mn, mx⟩ = #[i64 mf, i64 mt, i64 mn, strV mx] from rfl] at key
                  refine key.mono ?_
                  clear key hm
                  rintro e wA ⟨rfl, hMA, hTA⟩
                  have MA := Lib.hid hMA
                  have TA : RowKit.Hid (Tn (fun k => k = rb) w1 wA) := Lib.hid (T9.out.trans hTA)
                  clear hMA hTA
                  have BA : RowKit.Hid (Below wA.heap.size wA (wA.alloc (.cells #[i64 mf, i64 mt, i64 mn, strV mx] 31))) := Lib.hid ((Below.refl _ _).alloc (Nat.le_refl _) _)
                  have F : RowKit.Hid (RAskE B rb N s lv (s.ask n t) w1 (.returned (.tuple #[.slice (some ⟨wA.heap.size, 0, none⟩) 1 1, i64 0])) (wA.alloc (.cells #[i64 mf, i64 mt, i64 mn, strV mx] 31))) := Lib.hid (by
                    rw [HM.out]
                    exact ⟨_, _, rfl, msgs_new wA ⟨mf, mt, mn, mx⟩ TA.out.size, MA.out.up BA.out, (TA.out.mono fun k hk => .inl hk).trans (Tn.of_below BA.out), fun k hk => by
                      rcases hk with hk | hk
                      · exact .inl (.inl hk)
                      · exact .inr (OW.out k hk)⟩)
                  go_wp2_with fail
                  go_ret2
                  exact F.out
            · obtain ⟨g, rfl, -, hgB, hgl, hc⟩ := HLC.out.resolve_left (fun h => h0 h.1)
              have HC := Lib.hid hc
              have ST : RowKit.Hid (∀ W, Below w1.heap.size w1 W → Src W 4 k ((qcells s.L).take (k * 4)) (.slice (some ⟨g, 0, none⟩) k lcap)) := Lib.hid fun W hW => src_take HXL.out hkl (news_same hW hgl HC.out)
              clear hc hlt
              by_cases hkn : k < s.L.length
              · have hce : ¬ lcap = k := by omega
                have SR : RowKit.Hid (∀ W, Below w5.heap.size w5 W → Src W 4 (s.L.length - k) ((qcells s.L).drop (k * 4)) (.slice (some ⟨g, k * 4, none⟩) (s.L.length - k) (lcap - k))) := Lib.hid fun W hW => src_drop rfl HXL.out hkl (news_same (B5.out.trans (hW.mono B5.out.size)) hgl HC.out)
                have ON : RowKit.Hid (∀ u ∈ qcell ⟨n, t, 1, 0⟩ ++ (qcells s.L).drop (k * 4), u.oneCell' = true) := Lib.hid fun u hu => by
                  rcases List.mem_append.1 hu with hu | hu
                  · exact qcells_one [⟨n, t, 1, 0⟩] u (by simpa [qcells] using hu)
                  · exact qcells_one _ u (List.mem_of_mem_drop hu)
                have E1 : RowKit.Hid (0 + k + (1 + (s.L.length - k)) = (insQ ⟨n, t, 1, 0⟩ s.L).length) := Lib.hid (by rw [INS.out.1]; omega)
                have E2 : RowKit.Hid ([] ++ (qcells s.L).take (k * 4) ++ (qcell ⟨n, t, 1, 0⟩ ++ (qcells s.L).drop (k * 4)) = qcells (insQ ⟨n, t, 1, 0⟩ s.L)) := Lib.hid (by rw [IQ.out]; simp)
                go_wp2_with fail
                rw [← HW.out]
                refine wp_region_held_drew (S := S) (by kernel_rfl) hHeld (fun _ => ?_)
                apply wpAnyH_apartV (fun u W => W.ownsRow w5.heap.size 161 4 u (1 + (s.L.length - k)) (qcell ⟨n, t, 1, 0⟩ ++ ((qcells s.L).drop (k * 4))) ∧ Below w5.heap.size w5 W)
                case take =>
                  intro R hR
                  refine wpAnyH_take (i := 0) (v := .agg #[i64 n, i64 t, i64 1, i64 0]) rfl (by kernel_rfl) (by kernel_rfl) (by kernel_rfl) (fun _ _ _ h => only_panic h) ?_ hHeld ?_
                  · exact yields_row (.tmp 11) (by rfl) rfl rfl LB.out Tryz.underlying161 rfl (by kernel_rfl)
                  try simp only [gA, gB, gC, Act.put, gD, gE, gF]
                  refine wpAnyH_take (i := 2) (v := ?_) rfl (by kernel_rfl) (by kernel_rfl) (by kernel_rfl) (fun _ _ _ h => only_panic h) (Or.inl ⟨by rfl, ?_⟩) hHeld ?_
                  rotate_left
                  · (intro w hSw; have l0 := LD.out w hSw; go_simp; try (with_reducible rfl))
                  try simp only [gA, gB, gC, Act.put, gD, gE, gF]
                  refine wpAnyH_take (i := 3) (v := ?_) rfl (by kernel_rfl) (by kernel_rfl) (by kernel_rfl) (fun _ _ _ h => only_panic h) (Or.inl ⟨by rfl, ?_⟩) hHeld ?_
                  rotate_left
                  · (intro w hSw; have l0 := LD.out w hSw; go_simp; try (with_reducible rfl))
                  try simp only [gA, gB, gC, Act.put, gD, gE, gF]
                  refine wpAnyH_take (i := 4) (v := ?_) rfl (by kernel_rfl) (by kernel_rfl) (by kernel_rfl) (fun _ _ _ h => only_panic h) (Or.inl ⟨by rfl, ?_⟩) hHeld ?_
                  rotate_left
                  · (intro w hSw; have l0 := LD.out w hSw; go_simp; try (with_reducible rfl))
                  try simp only [gA, gB, gC, Act.put, gD, gE, gF]
                  refine wpAnyH_take (i := 5) (v := ?_) rfl (by kernel_rfl) (by kernel_rfl) (by kernel_rfl) (fun _ _ _ h => only_panic h) (Or.inl ⟨by rfl, ?_⟩) hHeld ?_
                  rotate_left
                  · (intro w hSw; have l0 := LD.out w hSw; go_simp; try (with_reducible rfl))
                  try simp only [gA, gB, gC, Act.put, gD, gE, gF]
                  refine wpAnyH_take (i := 6) (v := ?_) rfl (by kernel_rfl) (by kernel_rfl) (by kernel_rfl) (fun _ _ _ h => only_panic h) (Or.inl ⟨by rfl, ?_⟩) hHeld ?_
                  rotate_left
                  · (intro w hSw; have l0 := LD.out w hSw; go_simp; try (with_reducible rfl))
                  try simp only [gA, gB, gC, Act.put, gD, gE, gF]
                  refine wpAnyH_take (i := 7) (v := ?_) rfl (by kernel_rfl) (by kernel_rfl) (by kernel_rfl) (fun _ _ _ h => only_panic h) (Or.inl ⟨by rfl, ?_⟩) hHeld ?_
                  rotate_left
                  · (intro w hSw; clear hSw; go_simp; skip; try (with_reducible rfl))
                  try simp only [gA, gB, gC, Act.put, gD, gE, gF]
                  refine wpAnyH_one (i := 1) rfl (by kernel_rfl) (by rfl) ?_
                  go_simp
                  obtain ⟨W2, hW2⟩ : ∃ W2, W2 = (w5.alloc (.cells #[i64 n, i64 t, i64 1, i64 0] 161)).drew := ⟨_, rfl⟩
                  have B2 : RowKit.Hid (Below w5.heap.size w5 W2) := Lib.hid (by rw [hW2]; exact ((Below.refl _ _).alloc (Nat.le_refl _) _).drew)
                  have R2 : RowKit.Hid (W2.ownsRow w5.heap.size 161 4 (.slice (some ⟨w5.heap.size, 0, none⟩) 1 1) 1 (qcell ⟨n, t, 1, 0⟩)) := Lib.hid (by rw [hW2]; exact row_fresh w5 _ #[i64 n, i64 t, i64 1, i64 0] 161 4 1 rfl (by unfold maxLen; omega) (Nat.le_refl _))
                  rw [← hW2]
                  clear hW2
                  refine ⟨UU.out _ B2.out, ?_⟩
                  refine wpAnyH_one (i := 8) rfl (by kernel_rfl) (by rfl) ?_
                  refine wp_append_all (.tmp 65) (.tmp 71) 157 rfl w5.heap.size 161 i0 _ 4 32 Tryz.underlying157 hi hz1 hz2 hz3 rfl (by omega) _ 1 (qcell ⟨n, t, 1, 0⟩) rfl R2.out (s.L.length - k) ((qcells s.L).drop (k * 4)) _ rfl (SR.out W2 B2.out) (fun u hu => ON.out u (List.mem_append_right _ hu)) (by unfold maxLen; omega) (by omega) B2.out.size ?_
                  intro v6 W3 hown hg hat
                  have B3 : RowKit.Hid (Below w5.heap.size w5 W3) := Lib.hid (B2.out.grown hg B2.out.size (fun j e => (row_lt R2.out j e).1))
                  have R3 := Lib.hid hown
                  have hHeld := UU.out _ B3.out
                  clear hown hg hat
                  refine ⟨hHeld, ?_⟩
                  refine wpAnyH_take (i := 9) (v := ?_) rfl (by kernel_rfl) (by kernel_rfl) (by kernel_rfl) (fun _ _ _ h => only_panic h) (Or.inl ⟨by rfl, ?_⟩) hHeld ?_
                  rotate_left
                  · (intro w hSw; clear hSw; go_simp; try (with_reducible rfl))
                  try simp only [gA, gB, gC, Act.put, gD, gE, gF]
                  exact wpAnyH_done (by kernel_rfl) ⟨rfl, hR _ _ ⟨R3.out, B3.out⟩⟩ _
                case rest =>
                  rintro u W ⟨hu, hb⟩
                  have B6 : RowKit.Hid (Below w1.heap.size w1 W) := Lib.hid (B5.out.trans (hb.mono B5.out.size))
                  have M6 := Lib.hid (H.out.up B6.out)
                  have D6 := Lib.hid (D5.out.below hb D5.out.lt)
                  have U6 := Lib.hid hu
                  obtain ⟨ua, uc, rfl, -⟩ := row_cellz hu
                  have c3 : W.cell? ⟨rb, 3, none⟩ = some (.slice (some ⟨g, 0, none⟩) s.L.length lcap) := (M6.out.blk.cell 3).trans (congrArg some HLV.out)
                  have hz6 := B6.out.size
                  have hrW : rb < W.heap.size := Nat.lt_of_lt_of_le hbl hz6
                  clear hu hb LB LD UU
                  go_wp2_with (first
                    | (refine wpList_append_all rfl (.tmp 74) (.tmp 80) 157 rfl W.heap.size 161 i0 _ 4 32 Tryz.underlying157 hi hz1 hz2 hz3 rfl (by omega) _ 0 [] rfl (row_fresh W _ #[] 161 4 0 rfl (by omega) (Nat.le_refl _)) k ((qcells s.L).take (k * 4)) _ rfl (ST.out _ (B6.out.trans (((Below.refl W.heap.size W).alloc (Nat.le_refl _) _).mono hz6))) (fun u hu => qcells_one _ u (List.mem_of_mem_take hu)) (by unfold maxLen; omega) (by omega) (by simp) ?_
                       intro v7 w7 hown7 hg7 hat7
                       have B7 : RowKit.Hid (Below W.heap.size W w7) := Lib.hid (((Below.refl W.heap.size W).alloc (Nat.le_refl _) _).grown hg7 (by simp) (fun j e => by have := own_ge e; omega))
                       have S7 := Lib.hid hown7
                       clear hown7 hg7 hat7)
                    | (refine wpList_append_all rfl (.tmp 81) (.tmp 82) 157 rfl W.heap.size 161 i0 _ 4 32 Tryz.underlying157 hi hz1 hz2 hz3 rfl (by omega) v7 _ _ rfl S7.out _ _ (.slice ua (1 + (s.L.length - k)) uc) rfl ((src_row U6.out).below B7.out) ON.out (by unfold maxLen; omega) (by omega) B7.out.size ?_
                       intro v8 w8 hown8 hg8 hat8
                       have B8 : RowKit.Hid (Below W.heap.size W w8) := Lib.hid (B7.out.grown hg8 B7.out.size (fun j e => (row_lt S7.out j e).1))
                       have S8 : RowKit.Hid (w8.ownsRow W.heap.size 161 4 v8 (insQ ⟨n, t, 1, 0⟩ s.L).length (qcells (insQ ⟨n, t, 1, 0⟩ s.L))) := Lib.hid (by
                         have e1 : 0 + k + (1 + (s.L.length - k)) = (insQ ⟨n, t, 1, 0⟩ s.L).length := E1.out
                         have e2 : [] ++ (qcells s.L).take (k * 4) ++ (qcell ⟨n, t, 1, 0⟩ ++ ((qcells s.L).drop (k * 4))) = qcells (insQ ⟨n, t, 1, 0⟩ s.L) := E2.out
                         rw [← e1, ← e2]; exact hown8)
                       obtain ⟨a8, cap8, hv8, -⟩ := row_cellz S8.out
                       have HV8 := Lib.hid hv8
                       obtain ⟨M9, T9⟩ := M6.out.newL B8.out S8.out INS.out.2.1 INS.out.2.2 (by rw [INS.out.1]; have := H.out.len.1; omega) (by omega)
                       have M9 := Lib.hid M9
                       have T9 : RowKit.Hid (Tn (fun k => k = rb) w1 (w8.setCell ⟨rb, 3, none⟩ v8)) := Lib.hid ((Tn.of_below B6.out).trans T9)
                       have K9 : RowKit.Hid (Blk (w8.setCell ⟨rb, 3, none⟩ v8) w1.heap.size #[i64 n, i64 t, i64 1, i64 0] 161) := Lib.hid ((D6.out.below B8.out D6.out.lt).set_ne _ _ (by show w1.heap.size ≠ rb; omega))
                       have bb := M6.out.blk.below B8.out M6.out.blk.lt
                       have f8 := bb.frozen 3
                       have c8 : w8.cell? ⟨rb, 3, none⟩ = some lv := bb.cell 3
                       have l8 := bb.lt
                       have OW : RowKit.Hid (∀ k, v8.ownBlock = some k → w1.heap.size ≤ k) := Lib.hid fun k hk => Nat.le_trans B6.out.size (row_lt S8.out k hk).1
                       subst hv8
                       clear hown8 hg8 hat8 bb)
                    | refine wpList_load_row 161 (.tmp 11) rfl rfl rfl K9.out Tryz.underlying161 rfl (by kernel_rfl) ?_)
                  obtain ⟨⟨mf, mt, mn, mx⟩, hm⟩ : ∃ m, m = rmsg { s with L := insQ ⟨n, t, 1, 0⟩ s.L } 0 1 ⟨n, t, 1, 0⟩ := ⟨_, rfl⟩
                  have HM : RowKit.Hid (s.ask n t = (({ s with L := insQ ⟨n, t, 1, 0⟩ s.L, sent := s.sent + 1 }, [⟨mf, mt, mn, mx⟩]), 0)) := Lib.hid (by rw [E3.out, hm]; rfl)
                  have key := rsendA M9.out (by have := H.out.sent.2; show s.sent < 1000 * ((N + 1 : Nat) : Int); omega) 0 1 ⟨n, t, 1, 0⟩ ⟨by omega, by omega⟩ HI.out.1 HI.out.2
                  rw [← hm, show encM ⟨mf, mt, mn, mx⟩ = #[i64 mf, i64 mt, i64 mn, strV mx] from rfl] at key
                  refine key.mono ?_
                  clear key hm
                  rintro e wA ⟨rfl, hMA, hTA⟩
                  have MA := Lib.hid hMA
                  have TA : RowKit.Hid (Tn (fun k => k = rb) w1 wA) := Lib.hid (T9.out.trans hTA)
                  clear hMA hTA
                  have BA : RowKit.Hid (Below wA.heap.size wA (wA.alloc (.cells #[i64 mf, i64 mt, i64 mn, strV mx] 31))) := Lib.hid ((Below.refl _ _).alloc (Nat.le_refl _) _)
                  have F : RowKit.Hid (RAskE B rb N s lv (s.ask n t) w1 (.returned (.tuple #[.slice (some ⟨wA.heap.size, 0, none⟩) 1 1, i64 0])) (wA.alloc (.cells #[i64 mf, i64 mt, i64 mn, strV mx] 31))) := Lib.hid (by
                    rw [HM.out]
                    exact ⟨_, _, rfl, msgs_new wA ⟨mf, mt, mn, mx⟩ TA.out.size, MA.out.up BA.out, (TA.out.mono fun k hk => .inl hk).trans (Tn.of_below BA.out), fun k hk => by
                      rcases hk with hk | hk
                      · exact .inl (.inl hk)
                      · exact .inr (OW.out k hk)⟩)
                  go_wp2_with fail
                  go_ret2
                  exact F.out
              · have hk2 : k = s.L.length := by omega
                subst hk2
                have ON : RowKit.Hid (∀ u ∈ qcell ⟨n, t, 1, 0⟩ ++ [], u.oneCell' = true) := Lib.hid (by simp [qcell, Value.oneCell'])
                have E1 : RowKit.Hid (0 + s.L.length + (1 + 0) = (insQ ⟨n, t, 1, 0⟩ s.L).length) := Lib.hid (by rw [INS.out.1]; omega)
                have E2 : RowKit.Hid ([] ++ (qcells s.L).take (s.L.length * 4) ++ (qcell ⟨n, t, 1, 0⟩ ++ []) = qcells (insQ ⟨n, t, 1, 0⟩ s.L)) := Lib.hid (by
                  rw [IQ.out, List.drop_of_length_le (by rw [HXL.out]; exact Nat.le_refl _)]; simp)
                clear hkn hkl
                by_cases hce : lcap = s.L.length
                · subst hce
                  go_wp2_with fail
                  rw [← HW.out]
                  refine wp_region_held_drew (S := S) (by kernel_rfl) hHeld (fun _ => ?_)
                  apply wpAnyH_apartV (fun u W => W.ownsRow w5.heap.size 161 4 u (1 + 0) (qcell ⟨n, t, 1, 0⟩ ++ []) ∧ Below w5.heap.size w5 W)
                  case take =>
                    intro R hR
                    refine wpAnyH_take (i := 0) (v := .agg #[i64 n, i64 t, i64 1, i64 0]) rfl (by kernel_rfl) (by kernel_rfl) (by kernel_rfl) (fun _ _ _ h => only_panic h) ?_ hHeld ?_
                    · exact yields_row (.tmp 11) (by rfl) rfl rfl LB.out Tryz.underlying161 rfl (by kernel_rfl)
                    try simp only [gA, gB, gC, Act.put, gD, gE, gF]
                    refine wpAnyH_take (i := 2) (v := ?_) rfl (by kernel_rfl) (by kernel_rfl) (by kernel_rfl) (fun _ _ _ h => only_panic h) (Or.inl ⟨by rfl, ?_⟩) hHeld ?_
                    rotate_left
                    · (intro w hSw; have l0 := LD.out w hSw; go_simp; try (with_reducible rfl))
                    try simp only [gA, gB, gC, Act.put, gD, gE, gF]
                    refine wpAnyH_take (i := 3) (v := ?_) rfl (by kernel_rfl) (by kernel_rfl) (by kernel_rfl) (fun _ _ _ h => only_panic h) (Or.inl ⟨by rfl, ?_⟩) hHeld ?_
                    rotate_left
                    · (intro w hSw; have l0 := LD.out w hSw; go_simp; try (with_reducible rfl))
                    try simp only [gA, gB, gC, Act.put, gD, gE, gF]
                    refine wpAnyH_take (i := 4) (v := ?_) rfl (by kernel_rfl) (by kernel_rfl) (by kernel_rfl) (fun _ _ _ h => only_panic h) (Or.inl ⟨by rfl, ?_⟩) hHeld ?_
                    rotate_left
                    · (intro w hSw; have l0 := LD.out w hSw; go_simp; try (with_reducible rfl))
                    try simp only [gA, gB, gC, Act.put, gD, gE, gF]
                    refine wpAnyH_take (i := 5) (v := ?_) rfl (by kernel_rfl) (by kernel_rfl) (by kernel_rfl) (fun _ _ _ h => only_panic h) (Or.inl ⟨by rfl, ?_⟩) hHeld ?_
                    rotate_left
                    · (intro w hSw; have l0 := LD.out w hSw; go_simp; try (with_reducible rfl))
                    try simp only [gA, gB, gC, Act.put, gD, gE, gF]
                    refine wpAnyH_take (i := 6) (v := ?_) rfl (by kernel_rfl) (by kernel_rfl) (by kernel_rfl) (fun _ _ _ h => only_panic h) (Or.inl ⟨by rfl, ?_⟩) hHeld ?_
                    rotate_left
                    · (intro w hSw; have l0 := LD.out w hSw; go_simp; try (with_reducible rfl))
                    try simp only [gA, gB, gC, Act.put, gD, gE, gF]
                    refine wpAnyH_take (i := 7) (v := ?_) rfl (by kernel_rfl) (by kernel_rfl) (by kernel_rfl) (fun _ _ _ h => only_panic h) (Or.inl ⟨by rfl, ?_⟩) hHeld ?_
                    rotate_left
                    · (intro w hSw; clear hSw; go_simp; skip; try (with_reducible rfl))
                    try simp only [gA, gB, gC, Act.put, gD, gE, gF]
                    refine wpAnyH_one (i := 1) rfl (by kernel_rfl) (by rfl) ?_
                    go_simp
                    obtain ⟨W2, hW2⟩ : ∃ W2, W2 = (w5.alloc (.cells #[i64 n, i64 t, i64 1, i64 0] 161)).drew := ⟨_, rfl⟩
                    have B2 : RowKit.Hid (Below w5.heap.size w5 W2) := Lib.hid (by rw [hW2]; exact ((Below.refl _ _).alloc (Nat.le_refl _) _).drew)
                    have R2 : RowKit.Hid (W2.ownsRow w5.heap.size 161 4 (.slice (some ⟨w5.heap.size, 0, none⟩) 1 1) 1 (qcell ⟨n, t, 1, 0⟩)) := Lib.hid (by rw [hW2]; exact row_fresh w5 _ #[i64 n, i64 t, i64 1, i64 0] 161 4 1 rfl (by unfold maxLen; omega) (Nat.le_refl _))
                    rw [← hW2]
                    clear hW2
                    refine ⟨UU.out _ B2.out, ?_⟩
                    refine wpAnyH_one (i := 8) rfl (by kernel_rfl) (by rfl) ?_
                    refine wp_append_all (.tmp 65) (.tmp 71) 157 rfl w5.heap.size 161 i0 _ 4 32 Tryz.underlying157 hi hz1 hz2 hz3 rfl (by omega) _ 1 (qcell ⟨n, t, 1, 0⟩) rfl R2.out 0 [] _ rfl ((fun W _ => .inr ⟨_, _, rfl, rfl, fun j u hu => by simp at hu⟩) W2 B2.out) (fun u hu => ON.out u (List.mem_append_right _ hu)) (by unfold maxLen; omega) (by omega) B2.out.size ?_
                    intro v6 W3 hown hg hat
                    have B3 : RowKit.Hid (Below w5.heap.size w5 W3) := Lib.hid (B2.out.grown hg B2.out.size (fun j e => (row_lt R2.out j e).1))
                    have R3 := Lib.hid hown
                    have hHeld := UU.out _ B3.out
                    clear hown hg hat
                    refine ⟨hHeld, ?_⟩
                    refine wpAnyH_take (i := 9) (v := ?_) rfl (by kernel_rfl) (by kernel_rfl) (by kernel_rfl) (fun _ _ _ h => only_panic h) (Or.inl ⟨by rfl, ?_⟩) hHeld ?_
                    rotate_left
                    · (intro w hSw; clear hSw; go_simp; try (with_reducible rfl))
                    try simp only [gA, gB, gC, Act.put, gD, gE, gF]
                    exact wpAnyH_done (by kernel_rfl) ⟨rfl, hR _ _ ⟨R3.out, B3.out⟩⟩ _
                  case rest =>
                    rintro u W ⟨hu, hb⟩
                    have B6 : RowKit.Hid (Below w1.heap.size w1 W) := Lib.hid (B5.out.trans (hb.mono B5.out.size))
                    have M6 := Lib.hid (H.out.up B6.out)
                    have D6 := Lib.hid (D5.out.below hb D5.out.lt)
                    have U6 := Lib.hid hu
                    obtain ⟨ua, uc, rfl, -⟩ := row_cellz hu
                    have c3 : W.cell? ⟨rb, 3, none⟩ = some (.slice (some ⟨g, 0, none⟩) s.L.length s.L.length) := (M6.out.blk.cell 3).trans (congrArg some HLV.out)
                    have hz6 := B6.out.size
                    have hrW : rb < W.heap.size := Nat.lt_of_lt_of_le hbl hz6
                    clear hu hb LB LD UU
                    go_wp2_with (first
                      | (refine wpList_append_all rfl (.tmp 74) (.tmp 80) 157 rfl W.heap.size 161 i0 _ 4 32 Tryz.underlying157 hi hz1 hz2 hz3 rfl (by omega) _ 0 [] rfl (row_fresh W _ #[] 161 4 0 rfl (by omega) (Nat.le_refl _)) s.L.length ((qcells s.L).take (s.L.length * 4)) _ rfl (ST.out _ (B6.out.trans (((Below.refl W.heap.size W).alloc (Nat.le_refl _) _).mono hz6))) (fun u hu => qcells_one _ u (List.mem_of_mem_take hu)) (by unfold maxLen; omega) (by omega) (by simp) ?_
                         intro v7 w7 hown7 hg7 hat7
                         have B7 : RowKit.Hid (Below W.heap.size W w7) := Lib.hid (((Below.refl W.heap.size W).alloc (Nat.le_refl _) _).grown hg7 (by simp) (fun j e => by have := own_ge e; omega))
                         have S7 := Lib.hid hown7
                         clear hown7 hg7 hat7)
                      | (refine wpList_append_all rfl (.tmp 81) (.tmp 82) 157 rfl W.heap.size 161 i0 _ 4 32 Tryz.underlying157 hi hz1 hz2 hz3 rfl (by omega) v7 _ _ rfl S7.out _ _ (.slice ua (1 + 0) uc) rfl ((src_row U6.out).below B7.out) ON.out (by unfold maxLen; omega) (by omega) B7.out.size ?_
                         intro v8 w8 hown8 hg8 hat8
                         have B8 : RowKit.Hid (Below W.heap.size W w8) := Lib.hid (B7.out.grown hg8 B7.out.size (fun j e => (row_lt S7.out j e).1))
                         have S8 : RowKit.Hid (w8.ownsRow W.heap.size 161 4 v8 (insQ ⟨n, t, 1, 0⟩ s.L).length (qcells (insQ ⟨n, t, 1, 0⟩ s.L))) := Lib.hid (by
                           have e1 : 0 + s.L.length + (1 + 0) = (insQ ⟨n, t, 1, 0⟩ s.L).length := E1.out
                           have e2 : [] ++ (qcells s.L).take (s.L.length * 4) ++ (qcell ⟨n, t, 1, 0⟩ ++ []) = qcells (insQ ⟨n, t, 1, 0⟩ s.L) := E2.out
                           rw [← e1, ← e2]; exact hown8)
                         obtain ⟨a8, cap8, hv8, -⟩ := row_cellz S8.out
                         have HV8 := Lib.hid hv8
                         obtain ⟨M9, T9⟩ := M6.out.newL B8.out S8.out INS.out.2.1 INS.out.2.2 (by rw [INS.out.1]; have := H.out.len.1; omega) (by omega)
                         have M9 := Lib.hid M9
                         have T9 : RowKit.Hid (Tn (fun k => k = rb) w1 (w8.setCell ⟨rb, 3, none⟩ v8)) := Lib.hid ((Tn.of_below B6.out).trans T9)
                         have K9 : RowKit.Hid (Blk (w8.setCell ⟨rb, 3, none⟩ v8) w1.heap.size #[i64 n, i64 t, i64 1, i64 0] 161) := Lib.hid ((D6.out.below B8.out D6.out.lt).set_ne _ _ (by show w1.heap.size ≠ rb; omega))
                         have bb := M6.out.blk.below B8.out M6.out.blk.lt
                         have f8 := bb.frozen 3
                         have c8 : w8.cell? ⟨rb, 3, none⟩ = some lv := bb.cell 3
                         have l8 := bb.lt
                         have OW : RowKit.Hid (∀ k, v8.ownBlock = some k → w1.heap.size ≤ k) := Lib.hid fun k hk => Nat.le_trans B6.out.size (row_lt S8.out k hk).1
                         subst hv8
                         clear hown8 hg8 hat8 bb)
                      | refine wpList_load_row 161 (.tmp 11) rfl rfl rfl K9.out Tryz.underlying161 rfl (by kernel_rfl) ?_)
                    obtain ⟨⟨mf, mt, mn, mx⟩, hm⟩ : ∃ m, m = rmsg { s with L := insQ ⟨n, t, 1, 0⟩ s.L } 0 1 ⟨n, t, 1, 0⟩ := ⟨_, rfl⟩
                    have HM : RowKit.Hid (s.ask n t = (({ s with L := insQ ⟨n, t, 1, 0⟩ s.L, sent := s.sent + 1 }, [⟨mf, mt, mn, mx⟩]), 0)) := Lib.hid (by rw [E3.out, hm]; rfl)
                    have key := rsendA M9.out (by have := H.out.sent.2; show s.sent < 1000 * ((N + 1 : Nat) : Int); omega) 0 1 ⟨n, t, 1, 0⟩ ⟨by omega, by omega⟩ HI.out.1 HI.out.2
                    rw [← hm, show encM ⟨mf, mt, mn, mx⟩ = #[i64 mf, i64 mt, i64 mn, strV mx] from rfl] at key
                    refine key.mono ?_
                    clear key hm
                    rintro e wA ⟨rfl, hMA, hTA⟩
                    have MA := Lib.hid hMA
                    have TA : RowKit.Hid (Tn (fun k => k = rb) w1 wA) := Lib.hid (T9.out.trans hTA)
                    clear hMA hTA
                    have BA : RowKit.Hid (Below wA.heap.size wA (wA.alloc (.cells #[i64 mf, i64 mt, i64 mn, strV mx] 31))) := Lib.hid ((Below.refl _ _).alloc (Nat.le_refl _) _)
                    have F : RowKit.Hid (RAskE B rb N s lv (s.ask n t) w1 (.returned (.tuple #[.slice (some ⟨wA.heap.size, 0, none⟩) 1 1, i64 0])) (wA.alloc (.cells #[i64 mf, i64 mt, i64 mn, strV mx] 31))) := Lib.hid (by
                      rw [HM.out]
                      exact ⟨_, _, rfl, msgs_new wA ⟨mf, mt, mn, mx⟩ TA.out.size, MA.out.up BA.out, (TA.out.mono fun k hk => .inl hk).trans (Tn.of_below BA.out), fun k hk => by
                        rcases hk with hk | hk
                        · exact .inl (.inl hk)
                        · exact .inr (OW.out k hk)⟩)
                    go_wp2_with fail
                    go_ret2
                    exact F.out
                · skip
                  go_wp2_with fail
                  rw [← HW.out]
                  refine wp_region_held_drew (S := S) (by kernel_rfl) hHeld (fun _ => ?_)
                  apply wpAnyH_apartV (fun u W => W.ownsRow w5.heap.size 161 4 u (1 + 0) (qcell ⟨n, t, 1, 0⟩ ++ []) ∧ Below w5.heap.size w5 W)
                  case take =>
                    intro R hR
                    refine wpAnyH_take (i := 0) (v := .agg #[i64 n, i64 t, i64 1, i64 0]) rfl (by kernel_rfl) (by kernel_rfl) (by kernel_rfl) (fun _ _ _ h => only_panic h) ?_ hHeld ?_
                    · exact yields_row (.tmp 11) (by rfl) rfl rfl LB.out Tryz.underlying161 rfl (by kernel_rfl)
                    try simp only [gA, gB, gC, Act.put, gD, gE, gF]
                    refine wpAnyH_take (i := 2) (v := ?_) rfl (by kernel_rfl) (by kernel_rfl) (by kernel_rfl) (fun _ _ _ h => only_panic h) (Or.inl ⟨by rfl, ?_⟩) hHeld ?_
                    rotate_left
                    · (intro w hSw; have l0 := LD.out w hSw; go_simp; try (with_reducible rfl))
                    try simp only [gA, gB, gC, Act.put, gD, gE, gF]
                    refine wpAnyH_take (i := 3) (v := ?_) rfl (by kernel_rfl) (by kernel_rfl) (by kernel_rfl) (fun _ _ _ h => only_panic h) (Or.inl ⟨by rfl, ?_⟩) hHeld ?_
                    rotate_left
                    · (intro w hSw; have l0 := LD.out w hSw; go_simp; try (with_reducible rfl))
                    try simp only [gA, gB, gC, Act.put, gD, gE, gF]
                    refine wpAnyH_take (i := 4) (v := ?_) rfl (by kernel_rfl) (by kernel_rfl) (by kernel_rfl) (fun _ _ _ h => only_panic h) (Or.inl ⟨by rfl, ?_⟩) hHeld ?_
                    rotate_left
                    · (intro w hSw; have l0 := LD.out w hSw; go_simp; try (with_reducible rfl))
                    try simp only [gA, gB, gC, Act.put, gD, gE, gF]
                    refine wpAnyH_take (i := 5) (v := ?_) rfl (by kernel_rfl) (by kernel_rfl) (by kernel_rfl) (fun _ _ _ h => only_panic h) (Or.inl ⟨by rfl, ?_⟩) hHeld ?_
                    rotate_left
                    · (intro w hSw; have l0 := LD.out w hSw; go_simp; try (with_reducible rfl))
                    try simp only [gA, gB, gC, Act.put, gD, gE, gF]
                    refine wpAnyH_take (i := 6) (v := ?_) rfl (by kernel_rfl) (by kernel_rfl) (by kernel_rfl) (fun _ _ _ h => only_panic h) (Or.inl ⟨by rfl, ?_⟩) hHeld ?_
                    rotate_left
                    · (intro w hSw; have l0 := LD.out w hSw; go_simp; try (with_reducible rfl))
                    try simp only [gA, gB, gC, Act.put, gD, gE, gF]
                    refine wpAnyH_take (i := 7) (v := ?_) rfl (by kernel_rfl) (by kernel_rfl) (by kernel_rfl) (fun _ _ _ h => only_panic h) (Or.inl ⟨by rfl, ?_⟩) hHeld ?_
                    rotate_left
                    · (intro w hSw; clear hSw; go_simp; skip; try (with_reducible rfl))
                    try simp only [gA, gB, gC, Act.put, gD, gE, gF]
                    refine wpAnyH_one (i := 1) rfl (by kernel_rfl) (by rfl) ?_
                    go_simp
                    obtain ⟨W2, hW2⟩ : ∃ W2, W2 = (w5.alloc (.cells #[i64 n, i64 t, i64 1, i64 0] 161)).drew := ⟨_, rfl⟩
                    have B2 : RowKit.Hid (Below w5.heap.size w5 W2) := Lib.hid (by rw [hW2]; exact ((Below.refl _ _).alloc (Nat.le_refl _) _).drew)
                    have R2 : RowKit.Hid (W2.ownsRow w5.heap.size 161 4 (.slice (some ⟨w5.heap.size, 0, none⟩) 1 1) 1 (qcell ⟨n, t, 1, 0⟩)) := Lib.hid (by rw [hW2]; exact row_fresh w5 _ #[i64 n, i64 t, i64 1, i64 0] 161 4 1 rfl (by unfold maxLen; omega) (Nat.le_refl _))
                    rw [← hW2]
                    clear hW2
                    refine ⟨UU.out _ B2.out, ?_⟩
                    refine wpAnyH_one (i := 8) rfl (by kernel_rfl) (by rfl) ?_
                    refine wp_append_all (.tmp 65) (.tmp 71) 157 rfl w5.heap.size 161 i0 _ 4 32 Tryz.underlying157 hi hz1 hz2 hz3 rfl (by omega) _ 1 (qcell ⟨n, t, 1, 0⟩) rfl R2.out 0 [] _ rfl ((fun W _ => .inr ⟨_, _, rfl, rfl, fun j u hu => by simp at hu⟩) W2 B2.out) (fun u hu => ON.out u (List.mem_append_right _ hu)) (by unfold maxLen; omega) (by omega) B2.out.size ?_
                    intro v6 W3 hown hg hat
                    have B3 : RowKit.Hid (Below w5.heap.size w5 W3) := Lib.hid (B2.out.grown hg B2.out.size (fun j e => (row_lt R2.out j e).1))
                    have R3 := Lib.hid hown
                    have hHeld := UU.out _ B3.out
                    clear hown hg hat
                    refine ⟨hHeld, ?_⟩
                    refine wpAnyH_take (i := 9) (v := ?_) rfl (by kernel_rfl) (by kernel_rfl) (by kernel_rfl) (fun _ _ _ h => only_panic h) (Or.inl ⟨by rfl, ?_⟩) hHeld ?_
                    rotate_left
                    · (intro w hSw; clear hSw; go_simp; try (with_reducible rfl))
                    try simp only [gA, gB, gC, Act.put, gD, gE, gF]
                    exact wpAnyH_done (by kernel_rfl) ⟨rfl, hR _ _ ⟨R3.out, B3.out⟩⟩ _
                  case rest =>
                    rintro u W ⟨hu, hb⟩
                    have B6 : RowKit.Hid (Below w1.heap.size w1 W) := Lib.hid (B5.out.trans (hb.mono B5.out.size))
                    have M6 := Lib.hid (H.out.up B6.out)
                    have D6 := Lib.hid (D5.out.below hb D5.out.lt)
                    have U6 := Lib.hid hu
                    obtain ⟨ua, uc, rfl, -⟩ := row_cellz hu
                    have c3 : W.cell? ⟨rb, 3, none⟩ = some (.slice (some ⟨g, 0, none⟩) s.L.length lcap) := (M6.out.blk.cell 3).trans (congrArg some HLV.out)
                    have hz6 := B6.out.size
                    have hrW : rb < W.heap.size := Nat.lt_of_lt_of_le hbl hz6
                    clear hu hb LB LD UU
                    go_wp2_with (first
                      | (refine wpList_append_all rfl (.tmp 74) (.tmp 80) 157 rfl W.heap.size 161 i0 _ 4 32 Tryz.underlying157 hi hz1 hz2 hz3 rfl (by omega) _ 0 [] rfl (row_fresh W _ #[] 161 4 0 rfl (by omega) (Nat.le_refl _)) s.L.length ((qcells s.L).take (s.L.length * 4)) _ rfl (ST.out _ (B6.out.trans (((Below.refl W.heap.size W).alloc (Nat.le_refl _) _).mono hz6))) (fun u hu => qcells_one _ u (List.mem_of_mem_take hu)) (by unfold maxLen; omega) (by omega) (by simp) ?_
                         intro v7 w7 hown7 hg7 hat7
                         have B7 : RowKit.Hid (Below W.heap.size W w7) := Lib.hid (((Below.refl W.heap.size W).alloc (Nat.le_refl _) _).grown hg7 (by simp) (fun j e => by have := own_ge e; omega))
                         have S7 := Lib.hid hown7
                         clear hown7 hg7 hat7)
                      | (refine wpList_append_all rfl (.tmp 81) (.tmp 82) 157 rfl W.heap.size 161 i0 _ 4 32 Tryz.underlying157 hi hz1 hz2 hz3 rfl (by omega) v7 _ _ rfl S7.out _ _ (.slice ua (1 + 0) uc) rfl ((src_row U6.out).below B7.out) ON.out (by unfold maxLen; omega) (by omega) B7.out.size ?_
                         intro v8 w8 hown8 hg8 hat8
                         have B8 : RowKit.Hid (Below W.heap.size W w8) := Lib.hid (B7.out.grown hg8 B7.out.size (fun j e => (row_lt S7.out j e).1))
                         have S8 : RowKit.Hid (w8.ownsRow W.heap.size 161 4 v8 (insQ ⟨n, t, 1, 0⟩ s.L).length (qcells (insQ ⟨n, t, 1, 0⟩ s.L))) := Lib.hid (by
                           have e1 : 0 + s.L.length + (1 + 0) = (insQ ⟨n, t, 1, 0⟩ s.L).length := E1.out
                           have e2 : [] ++ (qcells s.L).take (s.L.length * 4) ++ (qcell ⟨n, t, 1, 0⟩ ++ []) = qcells (insQ ⟨n, t, 1, 0⟩ s.L) := E2.out
                           rw [← e1, ← e2]; exact hown8)
                         obtain ⟨a8, cap8, hv8, -⟩ := row_cellz S8.out
                         have HV8 := Lib.hid hv8
                         obtain ⟨M9, T9⟩ := M6.out.newL B8.out S8.out INS.out.2.1 INS.out.2.2 (by rw [INS.out.1]; have := H.out.len.1; omega) (by omega)
                         have M9 := Lib.hid M9
                         have T9 : RowKit.Hid (Tn (fun k => k = rb) w1 (w8.setCell ⟨rb, 3, none⟩ v8)) := Lib.hid ((Tn.of_below B6.out).trans T9)
                         have K9 : RowKit.Hid (Blk (w8.setCell ⟨rb, 3, none⟩ v8) w1.heap.size #[i64 n, i64 t, i64 1, i64 0] 161) := Lib.hid ((D6.out.below B8.out D6.out.lt).set_ne _ _ (by show w1.heap.size ≠ rb; omega))
                         have bb := M6.out.blk.below B8.out M6.out.blk.lt
                         have f8 := bb.frozen 3
                         have c8 : w8.cell? ⟨rb, 3, none⟩ = some lv := bb.cell 3
                         have l8 := bb.lt
                         have OW : RowKit.Hid (∀ k, v8.ownBlock = some k → w1.heap.size ≤ k) := Lib.hid fun k hk => Nat.le_trans B6.out.size (row_lt S8.out k hk).1
                         subst hv8
                         clear hown8 hg8 hat8 bb)
                      | refine wpList_load_row 161 (.tmp 11) rfl rfl rfl K9.out Tryz.underlying161 rfl (by kernel_rfl) ?_)
                    obtain ⟨⟨mf, mt, mn, mx⟩, hm⟩ : ∃ m, m = rmsg { s with L := insQ ⟨n, t, 1, 0⟩ s.L } 0 1 ⟨n, t, 1, 0⟩ := ⟨_, rfl⟩
                    have HM : RowKit.Hid (s.ask n t = (({ s with L := insQ ⟨n, t, 1, 0⟩ s.L, sent := s.sent + 1 }, [⟨mf, mt, mn, mx⟩]), 0)) := Lib.hid (by rw [E3.out, hm]; rfl)
                    have key := rsendA M9.out (by have := H.out.sent.2; show s.sent < 1000 * ((N + 1 : Nat) : Int); omega) 0 1 ⟨n, t, 1, 0⟩ ⟨by omega, by omega⟩ HI.out.1 HI.out.2
                    rw [← hm, show encM ⟨mf, mt, mn, mx⟩ = #[i64 mf, i64 mt, i64 mn, strV mx] from rfl] at key
                    refine key.mono ?_
                    clear key hm
                    rintro e wA ⟨rfl, hMA, hTA⟩
                    have MA := Lib.hid hMA
                    have TA : RowKit.Hid (Tn (fun k => k = rb) w1 wA) := Lib.hid (T9.out.trans hTA)
                    clear hMA hTA
                    have BA : RowKit.Hid (Below wA.heap.size wA (wA.alloc (.cells #[i64 mf, i64 mt, i64 mn, strV mx] 31))) := Lib.hid ((Below.refl _ _).alloc (Nat.le_refl _) _)
                    have F : RowKit.Hid (RAskE B rb N s lv (s.ask n t) w1 (.returned (.tuple #[.slice (some ⟨wA.heap.size, 0, none⟩) 1 1, i64 0])) (wA.alloc (.cells #[i64 mf, i64 mt, i64 mn, strV mx] 31))) := Lib.hid (by
                      rw [HM.out]
                      exact ⟨_, _, rfl, msgs_new wA ⟨mf, mt, mn, mx⟩ TA.out.size, MA.out.up BA.out, (TA.out.mono fun k hk => .inl hk).trans (Tn.of_below BA.out), fun k hk => by
                        rcases hk with hk | hk
                        · exact .inl (.inl hk)
                        · exact .inr (OW.out k hk)⟩)
                    go_wp2_with fail
                    go_ret2
                    exact F.out
    · have F := Lib.hid (FN.out 22 ((H2.out.resolve_right fun e => by rw [e.1] at hq; cases hq).2))
      have hj0 : (0 : Int) ≤ j := by omega
      clear hj hq hqn H2
      go_wp2_with fail
      go_ret2
      exact F.out
end Go.Proofs.YtdojgbpaheadnaaGreat
