/- The law: a queue of wants that accept all copies is served as far as there are copies, at the least cost. -/
import Derived.Test.YtpcmppamkgkdlaaVO
import Derived.Test.YtpcmppamkgkdlaaVL
import Derived.Test.YtpcmppamkgkdlaaUB
import Derived.Deep.DeepCutAuto
import Derived.Deep.LoopGhost
namespace Go.Proofs.Ytpcmppamkgkdlaa
open Go.RowKit

/-- Bytes that came in. -/
structure U8 (w : World) (a : Option Addr) (bs : List Int) (cap : Nat) : Prop where
  at_ : bs = [] ∨ ∃ b o, a = some ⟨b, o, none⟩ ∧ b < w.heap.size ∧ ∀ j, j < bs.length → w.cell? ⟨b, o + j, none⟩ = some (.int .u8 (bs.getD j 0))
  bd : ∀ j, j < bs.length → 0 ≤ bs.getD j 0 ∧ bs.getD j 0 < 256
  len : bs.length ≤ 9223372036854775807
def fourL (l : List Int) (n : Nat) : List Int := (List.range n).map fun j => l.getD j 0 % 4
theorem fourL_succ (l : List Int) (n : Nat) : fourL l (n + 1) = fourL l n ++ [l.getD n 0 % 4] := by simp [fourL, List.range_succ]
theorem fourL_len (l : List Int) (n : Nat) : (fourL l n).length = n := by simp [fourL]
theorem fourL_get (l : List Int) {n j : Nat} (h : j < n) : (fourL l n).getD j 0 = l.getD j 0 % 4 := by simp [fourL, List.getD_eq_getElem?_getD, h]
def allL (n : Nat) : List Int := (List.range n).map fun j : Nat => (j : Int)
theorem allL_succ (n : Nat) : allL (n + 1) = allL n ++ [(n : Int)] := by simp [allL, List.range_succ]
theorem allL_len (n : Nat) : (allL n).length = n := by simp [allL]
def wq (l : List Int) (u : Value) (n : Nat) : List (Int × Value) := (List.range n).map fun j => (l.getD j 0 % 4, u)
theorem wq_succ (l : List Int) (u : Value) (n : Nat) : wq l u (n + 1) = wq l u n ++ [(l.getD n 0 % 4, u)] := by simp [wq, List.range_succ]
def qL (l : List Int) (n m : Nat) : List Wt := (List.range m).map fun j => (l.getD j 0 % 4, allL n)
theorem qL_len (l : List Int) (n m : Nat) : (qL l n m).length = m := by simp [qL]
theorem qL_get (l : List Int) (n : Nat) {m j : Nat} (h : j < m) : (qL l n m).getD j noW = (l.getD j 0 % 4, allL n) := by simp [qL, List.getD_eq_getElem?_getD, h]
theorem qL_cop (l : List Int) (n m : Nat) (hn : n ≤ 1000) (k : Nat) : ((qL l n m).getD k noW).2.length ≤ 1000 := by
  rcases Nat.lt_or_ge k m with h | h
  · rw [qL_get l n h]; simp [allL]; exact hn
  · rw [List.getD_eq_getElem?_getD, List.getElem?_eq_none (by rw [qL_len]; exact h)]; simp [noW]
theorem qwants {w : World} {B : Nat} {lv u : Value} {pl : List Int} {n m : Nat} (h : w.ownsRow B 41 2 lv m (encW (wq pl u m))) (hI : Ints w w.heap.size u (allL n)) : Wants w w.heap.size lv (qL pl n m) := by
  obtain ⟨h0, ⟨rfl, hn⟩ | ⟨g, c', cur, rfl, hg, hh, hn, hm, hcs, hx⟩⟩ := h
  · exact ⟨none, 0, by rw [qL_len, hn], .inl (List.eq_nil_of_length_eq_zero (by rw [qL_len, hn]))⟩
  · refine ⟨_, c', by rw [qL_len], .inr ⟨g, 0, rfl, heap_lt hh, fun j hj => ?_⟩⟩
    rw [qL_len] at hj
    have hjp : j < (wq pl u m).length := by simp [wq, hj]
    obtain ⟨g1, g2⟩ := encW_get (wq pl u m) j hjp
    have hw : (wq pl u m)[j] = (pl.getD j 0 % 4, u) := by simp [wq]
    rw [hw] at g1 g2
    rw [← hx, List.getElem?_take_of_lt (by omega)] at g1 g2
    rw [qL_get pl n hj]
    refine ⟨u, ?_, ?_, hI⟩
    · rw [Nat.zero_add]; simp only [World.cell?, hh]; simpa using g1
    · rw [Nat.zero_add]; simp only [World.cell?, hh]; simpa using g2
theorem row_cell2 {w : World} {B n : Nat} {e : TypeId} {v : Value} {xs : List Value} (h : w.ownsRow B e 2 v n xs) : ∃ a cap, v = .slice a n cap ∧ True := by
  obtain ⟨h0, ⟨rfl, rfl⟩ | ⟨g, c', cur, rfl, _⟩⟩ := h
  · exact ⟨none, 0, rfl, trivial⟩
  · exact ⟨_, c', rfl, trivial⟩
def Cq : List (List Int) := [[0, 1, 1, 1], [1, 0, 1, 1], [1, 1, 0, 1], [1, 1, 1, 0]]
theorem Cq_row (k : Nat) : ((Cq.getD k []).length : Int) ≤ 9223372036854775807 := len_getDC (C := Cq) (by unfold Cq; simp) k
theorem wayQ {a b : Int} (ha : 0 ≤ a ∧ a < 4) (hb : 0 ≤ b ∧ b < 4) : wayI Cq a b = if a = b then 0 else 1 := by
  have h1 : a = 0 ∨ a = 1 ∨ a = 2 ∨ a = 3 := by omega
  have h2 : b = 0 ∨ b = 1 ∨ b = 2 ∨ b = 3 := by omega
  rcases h1 with rfl | rfl | rfl | rfl <;> rcases h2 with rfl | rfl | rfl | rfl <;> decide
theorem mod4 (x : Int) : 0 ≤ x % 4 ∧ x % 4 < 4 := by omega
theorem queue_prob (pl al : List Int) (n m : Nat) : Queue (prob (qL pl n m) (fourL al n) Cq) (fun k => pl.getD k 0 % 4) (fun c => al.getD c 0 % 4) := by
  have hm : (prob (qL pl n m) (fourL al n) Cq).m = m := qL_len _ _ _
  have hn : (prob (qL pl n m) (fourL al n) Cq).n = n := fourL_len _ _
  refine ⟨fun k c hk hc => ?_, fun k c hk hc => ?_, fun k => mod4 _⟩
  · rw [hm] at hk; rw [hn] at hc
    rw [prob_acc, qL_get pl n hk, fourL_len]
    exact ⟨by simp only [allL, List.mem_map, List.mem_range]; exact ⟨c, hc, rfl⟩, hc⟩
  · rw [hm] at hk; rw [hn] at hc
    show wayI Cq ((fourL al n).getD c 0) ((qL pl n m).getD k noW).1 = _
    rw [fourL_get al hc, qL_get pl n hk]
    exact wayQ (mod4 _) (mod4 _)
theorem rows4 {w : World} {g B T : Nat} {u v x y : Value} {l m n o : List Int} {cap : Nat} (h : Blk w g #[u, v, x, y] T) (hB : g < B) (h1 : Ints w B u l) (h2 : Ints w B v m) (h3 : Ints w B x n) (h4 : Ints w B y o) : Rows2 w B (.slice (some ⟨g, 0, none⟩) 4 cap) [l, m, n, o] :=
  ⟨_, cap, rfl, .inr ⟨g, 0, rfl, hB, fun j hj => by
    have hj : j < 4 := hj
    match j, hj with
    | 0, _ => exact ⟨u, h.cell 0, h1⟩
    | 1, _ => exact ⟨v, h.cell 1, h2⟩
    | 2, _ => exact ⟨x, h.cell 2, h3⟩
    | 3, _ => exact ⟨y, h.cell 3, h4⟩⟩⟩
def QM (w1 W : World) (al : List Int) (c : Nat) (pv qv : Value) : Prop :=
  W.ownsRow w1.heap.size 3 1 pv c ((fourL al c).map (Value.int .i64)) ∧ W.ownsRow w1.heap.size 3 1 qv c ((allL c).map (Value.int .i64)) ∧ (∀ r, pv.ownBlock = some r → qv.ownBlock ≠ some r) ∧ Below w1.heap.size w1 W
set_option maxRecDepth 100000 in
set_option maxHeartbeats 8000000 in
theorem manyLaw (pl al : List Int) (w : World) (ap aa : Option Addr) (cp ca : Nat) (hp : U8 w ap pl cp) (ha : U8 w aa al ca) :
    Calls Try.prog 11 #[.slice ap pl.length cp, .slice aa al.length ca] w fun e w' => e = .returned (.bool true) ∧ Below w.heap.size w w' := by
  have HP := Lib.hid hp
  have HA := Lib.hid ha
  have l1 := hp.len
  have l2 := ha.len
  obtain ⟨i3, hi, hi0, hi1, hi2⟩ := info_parts info3
  have HI := Lib.hid (And.intro hi (And.intro hi0 (And.intro hi1 hi2)))
  obtain ⟨i41, hk, hk0, hk1, hk2⟩ := info_parts info41
  have HK := Lib.hid (And.intro hk (And.intro hk0 (And.intro hk1 hk2)))
  obtain ⟨n, hn⟩ : ∃ n, n = min al.length 30 := ⟨_, rfl⟩
  obtain ⟨m, hm⟩ : ∃ m, m = min pl.length 30 := ⟨_, rfl⟩
  have HN := Lib.hid (And.intro hn hm)
  have hn30 : n ≤ 30 := by omega
  have hm30 : m ≤ 30 := by omega
  clear hp ha hi hi0 hi1 hi2 hk hk0 hk1 hk2 hn hm
  go_enter Try.func11, Try.ntmps11
  go_wp2_with fail
  refine (sanity_any w).mono ?_
  rintro e w1 ⟨rfl, hb1⟩
  have B1 := Lib.hid hb1
  clear hb1
  go_wp2_with fail
  go_loopg [7, 8, 9] n (fun g pv qv v wr => ∃ c : Nat, c + g = n ∧ v = .int .i64 c ∧ QM w1 wr al c pv qv)
  case atStart => exact ⟨0, by omega, rfl, World.ownsRow_nil _ _ _ _, World.ownsRow_nil _ _ _ _, fun r e => (by cases e), Below.refl _ _⟩
  case round =>
    obtain ⟨c, hc, rfl, hQ⟩ := hrel
    obtain ⟨g1, rfl⟩ : ∃ g1 : Nat, g1 = gk := ⟨_, rfl⟩
    obtain ⟨w2, rfl⟩ : ∃ w2 : World, w2 = wr := ⟨_, rfl⟩
    have QQ := Lib.hid hQ
    have hz2 := hQ.2.2.2.size
    obtain ⟨pa, pc, rfl, -⟩ := row_cell hQ.1
    obtain ⟨qa, qc, rfl, -⟩ := row_cell hQ.2.1
    clear hQ
    go_upto_region 6 with fail
    go_cut [31] (fun v wx => v = .bool (decide (c < n)) ∧ wx = w2)
    case first =>
      by_cases h1 : c < al.length
      · by_cases h2 : c < 30
        · have HC : RowKit.Hid (c < n) := Lib.hid (by have := HN.out; omega)
          go_wp2_with fail
          go_meet
          case rel => exact ⟨by rw [decide_eq_true HC.out, decide_eq_true (show (c : Int) < 30 by omega)], rfl⟩
        · have HC : RowKit.Hid (¬ c < n) := Lib.hid (by have := HN.out; omega)
          go_wp2_with fail
          go_meet
          case rel => exact ⟨by rw [decide_eq_false HC.out, decide_eq_false (show ¬ (c : Int) < 30 by omega)], rfl⟩
      · have HC : RowKit.Hid (¬ c < n) := Lib.hid (by have := HN.out; omega)
        go_wp2_with fail
        go_meet
        case rel => exact ⟨by rw [decide_eq_false HC.out], rfl⟩
    case rest =>
      obtain ⟨hv, hw⟩ := hcut
      subst hv
      obtain rfl : w2 = wc := hw.symm
      clear hw
      by_cases hcn : c < n
      · rw [decide_eq_true hcn]
        have hcl : c < al.length := by have := HN.out; omega
        rcases HA.out.at_ with h | ⟨b, o, rfl, hbB, hcell⟩
        · rw [h] at hcl; simp at hcl
        have e0 := (QQ.out.2.2.2.cell (p := ⟨b, o + c, none⟩) (by show b < w1.heap.size; have := B1.out.size; omega)).trans ((B1.out.cell (p := ⟨b, o + c, none⟩) (by show b < w.heap.size; exact hbB)).trans (hcell c hcl))
        have bd := HA.out.bd c hcl
        have FS := Lib.hid (fourL_succ al c)
        obtain ⟨y, hy⟩ : ∃ y, y = al.getD c 0 := ⟨_, rfl⟩
        rw [← hy] at e0 bd FS
        obtain ⟨hi, hi0, hi1, hi2⟩ := HI.out
        have RP : RowKit.Hid ((w2.alloc (.cells #[.int .i64 (y % 4)] 3)).ownsRow w1.heap.size 3 1 (.slice pa c pc) c ((fourL al c).map (Value.int .i64))) := Lib.hid (QQ.out.1.alloc _)
        have HCG := Lib.hid hc
        clear hcell hy hc
        go_wp2_with (at_builtin; go_must (refine wpList_append_lies _ rfl (.tmp 34) (.tmp 41) 30 rfl w1.heap.size 3 i3 (.int .i64 0) 1 8 Try.underlying30 hi hi0 hi1 hi2 rfl (by decide) _ c _ rfl RP.out ⟨w2.heap.size, 0, none⟩ 1 1 [.int .i64 (y % 4)] rfl rfl (news_ w2 _ 3) (one_ rfl) (by omega) (by unfold maxLen; omega) (by omega) (by rw [size_alloc]; omega) (w2.heap.size + 1) (size_alloc _ _) ?_))
        intro g cap w3 hown hgrow hat hlt
        have T3 : RowKit.Hid (Tn (fun b => (Value.slice pa c pc).ownBlock = some b) w2 w3) := Lib.hid ((Tn.of_below ((Below.refl _ _).alloc (Nat.le_refl _) (.cells #[.int .i64 (y % 4)] 3))).then_ (Tn.of_grown hgrow) fun b e => .inl e)
        have hgs : RowKit.Hid ((Value.slice pa c pc).ownBlock = some g ∨ w2.heap.size ≤ g) := Lib.hid (hat.imp id fun e => by omega)
        have P3 : RowKit.Hid (w3.ownsRow w1.heap.size 3 1 (.slice (some ⟨g, 0, none⟩) (c + 1) cap) (c + 1) ((fourL al (c + 1)).map (Value.int .i64))) := Lib.hid (by rw [FS.out, List.map_append]; exact hown)
        have Q3 : RowKit.Hid (w3.ownsRow w1.heap.size 3 1 (.slice qa c qc) c ((allL c).map (Value.int .i64))) := Lib.hid (T3.out.row QQ.out.2.1 fun r hr e => QQ.out.2.2.1 r e hr)
        have GN : RowKit.Hid ((Value.slice qa c qc).ownBlock ≠ some g) := Lib.hid fun e => by
          rcases hgs.out with h | h
          · exact QQ.out.2.2.1 g h e
          · have := (row_lt QQ.out.2.1 g e).2; omega
        have B3 : RowKit.Hid (Below w1.heap.size w1 w3) := Lib.hid (QQ.out.2.2.2.trans (T3.out.below hz2 fun b e => (row_lt QQ.out.1 b e).1))
        have hz3 := B3.out.size
        have RQ : RowKit.Hid ((w3.alloc (.cells #[.int .i64 c] 3)).ownsRow w1.heap.size 3 1 (.slice qa c qc) c ((allL c).map (Value.int .i64))) := Lib.hid (Q3.out.alloc _)
        clear hown hgrow hat e0 bd
        go_wp2_with (at_builtin; go_must (refine wpList_append_lies _ rfl (.tmp 43) (.tmp 45) 30 rfl w1.heap.size 3 i3 (.int .i64 0) 1 8 Try.underlying30 hi hi0 hi1 hi2 rfl (by decide) _ c _ rfl RQ.out ⟨w3.heap.size, 0, none⟩ 1 1 [.int .i64 c] rfl rfl (news_ w3 _ 3) (one_ rfl) (by omega) (by unfold maxLen; omega) (by omega) (by rw [size_alloc]; omega) (w3.heap.size + 1) (size_alloc _ _) ?_))
        intro g' cap' w4 hown hgrow hat hlt'
        have T4 : RowKit.Hid (Tn (fun b => (Value.slice qa c qc).ownBlock = some b) w3 w4) := Lib.hid ((Tn.of_below ((Below.refl _ _).alloc (Nat.le_refl _) (.cells #[.int .i64 (c : Int)] 3))).then_ (Tn.of_grown hgrow) fun b e => .inl e)
        have Q4 : RowKit.Hid (QM w1 w4 al (c + 1) (.slice (some ⟨g, 0, none⟩) (c + 1) cap) (.slice (some ⟨g', 0, none⟩) (c + 1) cap')) := Lib.hid ⟨T4.out.row P3.out fun r hr e => by
            obtain rfl : g = r := by injection hr
            exact GN.out e, by rw [allL_succ, List.map_append]; exact hown, fun r e e' => by
            obtain rfl : g = r := by injection e
            obtain rfl : g' = g := by injection e'
            rcases hat with h | h
            · exact GN.out h
            · omega, B3.out.trans (T4.out.below hz3 fun b e => (row_lt Q3.out b e).1)⟩
        clear hown hgrow hat hi hi0 hi1 hi2
        go_wp2_with fail
        go_roundg (g1 - 1)
        case measure => have := HCG.out; omega
        case rel => exact ⟨c + 1, by have := HCG.out; omega, by go_num, Q4.out⟩
      · rw [decide_eq_false hcn]
        obtain rfl : c = n := by omega
        have B2 := Lib.hid QQ.out.2.2.2
        have IA : RowKit.Hid (Ints w2 w2.heap.size (.slice pa c pc) (fourL al c)) := Lib.hid (by
          obtain ⟨a', c', e, hO, -⟩ := own_of_row (w := w2) (B := w1.heap.size) (v := .slice pa c pc) (D := fourL al c) (by rw [fourL_len]; exact QQ.out.1)
          rw [e]; exact hO.ints.ints fun b _ hb => hb)
        have IQ : RowKit.Hid (Ints w2 w2.heap.size (.slice qa c qc) (allL c)) := Lib.hid (by
          obtain ⟨a', c', e, hO, -⟩ := own_of_row (w := w2) (B := w1.heap.size) (v := .slice qa c qc) (D := allL c) (by rw [allL_len]; exact QQ.out.2.1)
          rw [e]; exact hO.ints.ints fun b _ hb => hb)
        clear hcn QQ hc
        go_wp2_with fail
        go_loopg [6, 10] m (fun g x v wr => ∃ (k : Nat) (lv : Value), k + g = m ∧ v = .int .i64 k ∧ lv = x ∧ wr.ownsRow w2.heap.size 41 2 lv k (encW (wq pl (.slice qa c qc) k)) ∧ Below w2.heap.size w2 wr)
        case atStart => exact ⟨0, _, by omega, rfl, rfl, World.ownsRow_nil _ _ _ _, Below.refl _ _⟩
        case round =>
          obtain ⟨k, lv, hk, rfl, rfl, hR, hb⟩ := hrel
          obtain ⟨g2, rfl⟩ : ∃ g2 : Nat, g2 = gk := ⟨_, rfl⟩
          obtain ⟨w3, rfl⟩ : ∃ w3 : World, w3 = wr := ⟨_, rfl⟩
          have R3 := Lib.hid hR
          have B3 := Lib.hid hb
          have hz3 := hb.size
          clear hR hb
          go_upto_region 11 with fail
          go_cut [54] (fun v wx => v = .bool (decide (k < m)) ∧ wx = w3)
          case first =>
            by_cases h1 : k < pl.length
            · by_cases h2 : k < 30
              · have HC : RowKit.Hid (k < m) := Lib.hid (by have := HN.out; omega)
                go_wp2_with fail
                go_meet
                case rel => exact ⟨by rw [decide_eq_true HC.out, decide_eq_true (show (k : Int) < 30 by omega)], rfl⟩
              · have HC : RowKit.Hid (¬ k < m) := Lib.hid (by have := HN.out; omega)
                go_wp2_with fail
                go_meet
                case rel => exact ⟨by rw [decide_eq_false HC.out, decide_eq_false (show ¬ (k : Int) < 30 by omega)], rfl⟩
            · have HC : RowKit.Hid (¬ k < m) := Lib.hid (by have := HN.out; omega)
              go_wp2_with fail
              go_meet
              case rel => exact ⟨by rw [decide_eq_false HC.out], rfl⟩
          case rest =>
            obtain ⟨hv, hw⟩ := hcut
            subst hv
            obtain rfl : w3 = wc := hw.symm
            clear hw
            by_cases hkm : k < m
            · rw [decide_eq_true hkm]
              have hkl : k < pl.length := by have := HN.out; omega
              rcases HP.out.at_ with h | ⟨b, o, rfl, hbB, hcell⟩
              · rw [h] at hkl; simp at hkl
              have e0 := (B3.out.cell (p := ⟨b, o + k, none⟩) (by show b < w2.heap.size; have := B1.out.size; have := B2.out.size; omega)).trans ((B2.out.cell (p := ⟨b, o + k, none⟩) (by show b < w1.heap.size; have := B1.out.size; omega)).trans ((B1.out.cell (p := ⟨b, o + k, none⟩) (by show b < w.heap.size; exact hbB)).trans (hcell k hkl)))
              have bd := HP.out.bd k hkl
              have WS := Lib.hid (wq_succ pl (.slice qa c qc) k)
              obtain ⟨y, hy⟩ : ∃ y, y = pl.getD k 0 := ⟨_, rfl⟩
              rw [← hy] at e0 bd WS
              obtain ⟨hk0', hk1', hk2', hk3'⟩ := HK.out
              have RP : RowKit.Hid ((w3.alloc (.cells #[.int .i64 (y % 4), .slice qa c qc] 41)).ownsRow w2.heap.size 41 2 lv k (encW (wq pl (.slice qa c qc) k))) := Lib.hid (R3.out.alloc _)
              have HKG := Lib.hid hk
              clear hcell hy hk
              go_wp2_with (at_builtin; go_must (refine wpList_append_lies _ rfl (.tmp 57) (.tmp 66) 29 rfl w2.heap.size 41 i41 (.agg #[.int .i64 0, .slice none 0 0]) 2 32 Try.underlying29 hk0' hk1' hk2' hk3' rfl (by omega) _ k _ rfl RP.out ⟨w3.heap.size, 0, none⟩ 1 1 [.int .i64 (y % 4), .slice qa c qc] rfl rfl (news2 w3 _ _ 41) (two_ rfl rfl) (by omega) (by unfold maxLen; omega) (by omega) (by rw [size_alloc]; omega) (w3.heap.size + 1) (size_alloc _ _) ?_))
              intro g cap w4 hown hgrow hat hlt
              have R4 : RowKit.Hid (w4.ownsRow w2.heap.size 41 2 (.slice (some ⟨g, 0, none⟩) (k + 1) cap) (k + 1) (encW (wq pl (.slice qa c qc) (k + 1)))) := Lib.hid (by rw [WS.out, encW_app]; exact hown)
              have B4 : RowKit.Hid (Below w2.heap.size w2 w4) := Lib.hid (B3.out.trans (((Tn.of_below ((Below.refl _ _).alloc (Nat.le_refl _) (.cells #[.int .i64 (y % 4), .slice qa c qc] 41))).then_ (F := fun b => lv.ownBlock = some b) (Tn.of_grown hgrow) fun b e => .inl e).below hz3 fun b e => (row_lt R3.out b e).1))
              clear hown hgrow hat hk0' hk1' hk2' hk3' e0 bd
              go_wp2_with fail
              go_roundg (g2 - 1)
              case measure => have := HKG.out; omega
              case rel => exact ⟨k + 1, _, by have := HKG.out; omega, by go_num, rfl, R4.out, B4.out⟩
            · rw [decide_eq_false hkm]
              obtain rfl : k = m := by omega
              have B13 := Lib.hid ((B2.out.mono B1.out.size).trans (B3.out.mono (Nat.le_trans B1.out.size B2.out.size)))
              have B03 : RowKit.Hid (Below w.heap.size w w3) := Lib.hid (B1.out.trans B13.out)
              have WN := Lib.hid (qwants R3.out (IQ.out.up B3.out))
              have AN := Lib.hid (IA.out.up B3.out)
              obtain ⟨aw, cw, rfl, -⟩ := row_cell2 R3.out
              clear hkm R3 IA IQ hk B3
              go_wp2_with fail
              obtain ⟨Y, hY⟩ : ∃ Y, Y = (((((w3.alloc (.cells #[.int .i64 0, .int .i64 1, .int .i64 1, .int .i64 1] 3)).alloc (.cells #[.int .i64 1, .int .i64 0, .int .i64 1, .int .i64 1] 3)).alloc (.cells #[.int .i64 1, .int .i64 1, .int .i64 0, .int .i64 1] 3)).alloc (.cells #[.int .i64 1, .int .i64 1, .int .i64 1, .int .i64 0] 3)).alloc
                (.cells #[.slice (some ⟨w3.heap.size, 0, none⟩) 4 4, .slice (some ⟨w3.heap.size + 1, 0, none⟩) 4 4, .slice (some ⟨w3.heap.size + 1 + 1, 0, none⟩) 4 4, .slice (some ⟨w3.heap.size + 1 + 1 + 1, 0, none⟩) 4 4] 30)) := ⟨_, rfl⟩
              have bl : Below w3.heap.size w3 Y := by rw [hY]; exact ((((((Below.refl _ _).alloc (by simp; try omega) _).alloc (by simp; try omega) _).alloc (by simp; try omega) _).alloc (by simp; try omega) _).alloc (by simp; try omega) _)
              have hs : Y.heap.size = w3.heap.size + 1 + 1 + 1 + 1 + 1 := by rw [hY]; simp
              have q0 : Blk Y (w3.heap.size) #[.int .i64 0, .int .i64 1, .int .i64 1, .int .i64 1] 3 := by rw [hY]; exact (((((Blk.new _ _ 3).alloc _).alloc _).alloc _).alloc _)
              have q1 : Blk Y (w3.heap.size + 1) #[.int .i64 1, .int .i64 0, .int .i64 1, .int .i64 1] 3 := by rw [hY]; exact ((((Blk.at_new (by simp) _ 3).alloc _).alloc _).alloc _)
              have q2 : Blk Y (w3.heap.size + 1 + 1) #[.int .i64 1, .int .i64 1, .int .i64 0, .int .i64 1] 3 := by rw [hY]; exact (((Blk.at_new (by simp) _ 3).alloc _).alloc _)
              have q3 : Blk Y (w3.heap.size + 1 + 1 + 1) #[.int .i64 1, .int .i64 1, .int .i64 1, .int .i64 0] 3 := by rw [hY]; exact ((Blk.at_new (by simp) _ 3).alloc _)
              have q4 : Blk Y (w3.heap.size + 1 + 1 + 1 + 1) #[.slice (some ⟨w3.heap.size, 0, none⟩) 4 4, .slice (some ⟨w3.heap.size + 1, 0, none⟩) 4 4, .slice (some ⟨w3.heap.size + 1 + 1, 0, none⟩) 4 4, .slice (some ⟨w3.heap.size + 1 + 1 + 1, 0, none⟩) 4 4] 30 := by rw [hY]; exact Blk.at_new (by simp) _ 30
              have YC : RowKit.Hid (Rows2 Y Y.heap.size (.slice (some ⟨w3.heap.size + 1 + 1 + 1 + 1, 0, none⟩) 4 4) Cq) := Lib.hid (rows4 (cap := 4) q4 (by omega) (ints_blk (l := [0, 1, 1, 1]) (cap := 4) q0 (by omega)) (ints_blk (l := [1, 0, 1, 1]) (cap := 4) q1 (by omega)) (ints_blk (l := [1, 1, 0, 1]) (cap := 4) q2 (by omega)) (ints_blk (l := [1, 1, 1, 0]) (cap := 4) q3 (by omega)))
              have YW := Lib.hid (WN.out.up bl)
              have YA := Lib.hid (AN.out.up bl)
              have BY := Lib.hid (B03.out.trans (bl.mono B03.out.size))
              rw [← hY]
              clear hY bl hs q0 q1 q2 q3 q4 WN AN
              obtain ⟨cb, hcb⟩ : ∃ cb, cb = w3.heap.size + 1 + 1 + 1 + 1 := ⟨_, rfl⟩
              rw [← hcb] at YC ⊢
              clear hcb
              refine (assign_any (qL pl c k) (fourL al c) Cq Y Y.heap.size _ _ _ YW.out YA.out YC.out (by rw [qL_len]; omega) (by rw [fourL_len]; omega) (qL_cop pl c k (by omega)) Cq_row (Nat.le_refl _)).mono ?_
              obtain ⟨P, hP⟩ : ∃ P, P = prob (qL pl c k) (fourL al c) Cq := ⟨_, rfl⟩
              have HPP := Lib.hid hP
              have HPM : RowKit.Hid (P.m = k ∧ P.n = c) := Lib.hid (by rw [hP]; exact ⟨qL_len _ _ _, fourL_len _ _⟩)
              have QP : RowKit.Hid (Queue P (fun k => pl.getD k 0 % 4) (fun c => al.getD c 0 % 4)) := Lib.hid (by rw [hP]; exact queue_prob pl al c k)
              rw [← hP]
              clear hP
              rintro e w5 ⟨cp', g, rfl, hB, hblk, hg, hb⟩
              rw [HPM.out.1] at hblk ⊢
              have BB := Lib.hid hB
              have G5 := Lib.hid hblk
              have W5 := Lib.hid (YW.out.up hb)
              have A5 := Lib.hid (YA.out.up hb)
              have C5 := Lib.hid (YC.out.up hb)
              have B5 := Lib.hid (BY.out.trans (hb.mono BY.out.size))
              clear hB hblk hg hb YW YA YC
              go_wp2_with fail
              have hpn : P.n ≤ 1000 := by have := HPM.out; omega
              have I5 : RowKit.Hid (Ints w5 w5.heap.size (.slice (some ⟨g, 0, none⟩) k k) (outL cp' P.m)) := Lib.hid (by rw [HPM.out.1]; exact outL_ints G5.out)
              refine (cost_any (qL pl c k) (fourL al c) Cq (outL cp' P.m) w5 w5.heap.size _ _ _ _ W5.out A5.out C5.out I5.out (by rw [qL_len]; omega) (by rw [fourL_len]; omega) (qL_cop pl c k (by omega)) Cq_row (Nat.le_refl _) (by rw [outL_len]; have := HPM.out; omega) (outL_bd BB.out.mat hpn)).mono ?_
              rw [← HPP.out]
              rintro e w6 ⟨rfl, hb⟩
              rw [out_cost BB.out.mat]
              have G6 := Lib.hid (G5.out.below hb G5.out.lt)
              have W6 := Lib.hid (W5.out.up hb)
              have A6 := Lib.hid (A5.out.up hb)
              have B6 := Lib.hid (B5.out.trans (hb.mono B5.out.size))
              have TOT := Lib.hid (QP.out.tot BB.out)
              rw [HPM.out.1, HPM.out.2] at TOT
              obtain ⟨tt, htt⟩ : ∃ tt, tt = P.tot cp' := ⟨_, rfl⟩
              rw [← htt] at TOT ⊢
              obtain ⟨f, hf⟩ : ∃ f, f = min k c := ⟨_, rfl⟩
              have hmin : min (k : Int) (c : Int) = (f : Int) := by omega
              have hfk : f ≤ k := by omega
              have SV : RowKit.Hid (∀ i, i < k → decide (0 ≤ oi (cp' i)) = decide ((i : Int) < (f : Int))) := Lib.hid fun i hi => by
                rw [← isSome_oi]
                rcases Nat.lt_or_ge i f with h | h
                · rw [QP.out.first BB.out i (by rw [HPM.out.1]; exact hi) (by rw [HPM.out.2]; omega), decide_eq_true (by omega)]
                · rw [QP.out.rest BB.out i (by rw [HPM.out.2]; omega), decide_eq_false (by omega)]
              rw [← hf] at TOT
              have HF := Lib.hid hf
              clear hb htt hf W5 A5 C5 I5 G5 hn30 hm30
              have hk30 : k ≤ 30 := by have := HN.out; omega
              have hc30 : c ≤ 30 := by have := HN.out; omega
              dsimp only
              go_wp2_with fail
              go_loop [15, 17] (fun st b => ∃ bb : Nat, bb ≤ 4 ∧ b = .int .i64 bb ∧ ∃ z : Int, 0 ≤ z ∧ z ≤ 30 * bb ∧ st = .int .i64 z ∧ z = sumN (fun j => (stayN (fun k => pl.getD k 0 % 4) (fun c => al.getD c 0 % 4) f c j : Int)) bb) (fun _ b => 4 - (intOf b).toNat)
              case atStart => exact ⟨0, by omega, rfl, 0, by omega, by omega, rfl, rfl⟩
              case round =>
                obtain ⟨bb, hbb, rfl, z, hz0, hz1, rfl, hz⟩ := hrel
                have HZ := Lib.hid hz
                clear hz
                by_cases hb4 : bb < 4
                · have d1 : decide ((bb : Int) < 4) = true := decide_eq_true (by omega)
                  have SU : RowKit.Hid (∀ y : Int, y = (stayN (fun k => pl.getD k 0 % 4) (fun c => al.getD c 0 % 4) f c bb : Int) → z + y = sumN (fun j => (stayN (fun k => pl.getD k 0 % 4) (fun c => al.getD c 0 % 4) f c j : Int)) (bb + 1)) := Lib.hid fun y hy => by rw [sumN, ← HZ.out, hy]
                  go_wp2_with fail
                  go_loop [18, 20] (fun x kk => ∃ i : Nat, i ≤ f ∧ kk = .int .i64 i ∧ ∃ y : Nat, y ≤ i ∧ x = .int .i64 y ∧ y = cnt (fun k => decide (pl.getD k 0 % 4 = (bb : Int))) i) (fun _ kk => f - (intOf kk).toNat)
                  case atStart => exact ⟨0, by omega, rfl, 0, by omega, rfl, rfl⟩
                  case round =>
                    obtain ⟨i, hi, rfl, y, hyi, rfl, hy⟩ := hrel
                    have HY := Lib.hid hy
                    clear hy
                    by_cases hif : i < f
                    · obtain ⟨a1, p1, hw, hw2⟩ := W6.out
                      obtain ⟨rfl, rfl⟩ : aw = a1 ∧ cw = p1 := by injection hw with h1 h2 h3; exact ⟨h1, h3⟩
                      rcases hw2 with h | ⟨bw, ow, rfl, hbw, hcw⟩
                      · have := qL_len pl c k; rw [h] at this; simp at this; omega
                      obtain ⟨u, e0, -, -⟩ := hcw i (by rw [qL_len]; omega)
                      rw [qL_get pl c (by omega)] at e0
                      obtain ⟨x, hx⟩ : ∃ x, x = pl.getD i 0 % 4 := ⟨_, rfl⟩
                      have CS : RowKit.Hid (cnt (fun k => decide (pl.getD k 0 % 4 = (bb : Int))) (i + 1) = y + if x = (bb : Int) then 1 else 0) := Lib.hid (by rw [cnt, ← HY.out, hx]; simp)
                      have e0' : w6.cell? ⟨bw, ow + i * 2, none⟩ = some (.int .i64 x) := by rw [hx]; exact e0
                      have hxb : IntKind.i64.min ≤ x ∧ x ≤ IntKind.i64.max := by rw [hx]; have := mod4 (pl.getD i 0); simp [IntKind.min, IntKind.max, IntKind.bits, IntKind.signed]; omega
                      clear hw hcw e0 hx hxb
                      by_cases hxe : x = (bb : Int)
                      · have e1 : (x == (bb : Int)) = true := by simpa using hxe
                        have C2 : RowKit.Hid (y + 1 = cnt (fun k => decide (pl.getD k 0 % 4 = (bb : Int))) (i + 1)) := Lib.hid (by rw [CS.out, if_pos hxe])
                        clear hxe
                        go_wp2_with fail
                        go_round
                        case rel => exact ⟨i + 1, by omega, by go_num, y + 1, by omega, by go_num, C2.out⟩
                        case measure => simp [intOf]; omega
                      · have e1 : (x == (bb : Int)) = false := by simpa using hxe
                        have C2 : RowKit.Hid (y = cnt (fun k => decide (pl.getD k 0 % 4 = (bb : Int))) (i + 1)) := Lib.hid (by rw [CS.out, if_neg hxe]; rfl)
                        clear hxe
                        go_wp2_with fail
                        go_round
                        case rel => exact ⟨i + 1, by omega, by go_num, y, by omega, rfl, C2.out⟩
                        case measure => simp [intOf]; omega
                    · have hif2 : f = i := by omega
                      subst hif2
                      have HX := Lib.hid HY.out
                      obtain ⟨X, rfl⟩ : ∃ X : Nat, X = y := ⟨_, rfl⟩
                      clear HY
                      go_wp2_with fail
                      go_loop [19, 21] (fun x kk => ∃ i : Nat, i ≤ c ∧ kk = .int .i64 i ∧ ∃ y : Nat, y ≤ i ∧ x = .int .i64 y ∧ y = cnt (fun k => decide (al.getD k 0 % 4 = (bb : Int))) i) (fun _ kk => c - (intOf kk).toNat)
                      case atStart => exact ⟨0, by omega, rfl, 0, by omega, rfl, rfl⟩
                      case round =>
                        obtain ⟨i, hi2, rfl, y, hyi2, rfl, hy⟩ := hrel
                        have HY := Lib.hid hy
                        clear hy
                        by_cases hic : i < c
                        · obtain ⟨a1, p1, hw, hw2⟩ := A6.out
                          obtain ⟨rfl, rfl⟩ : pa = a1 ∧ pc = p1 := by injection hw with h1 h2 h3; exact ⟨h1, h3⟩
                          rcases hw2 with h | ⟨bw, ow, rfl, hbw, hcw⟩
                          · have := fourL_len al c; rw [h] at this; simp at this; omega
                          have e0 := hcw i (by rw [fourL_len]; omega)
                          rw [fourL_get al hic] at e0
                          obtain ⟨x, hx⟩ : ∃ x, x = al.getD i 0 % 4 := ⟨_, rfl⟩
                          have CS : RowKit.Hid (cnt (fun k => decide (al.getD k 0 % 4 = (bb : Int))) (i + 1) = y + if x = (bb : Int) then 1 else 0) := Lib.hid (by rw [cnt, ← HY.out, hx]; simp)
                          have e0' : w6.cell? ⟨bw, ow + i, none⟩ = some (.int .i64 x) := by rw [hx]; exact e0
                          clear hw hcw e0 hx
                          by_cases hxe : x = (bb : Int)
                          · have e1 : (x == (bb : Int)) = true := by simpa using hxe
                            have C2 : RowKit.Hid (y + 1 = cnt (fun k => decide (al.getD k 0 % 4 = (bb : Int))) (i + 1)) := Lib.hid (by rw [CS.out, if_pos hxe])
                            clear hxe
                            go_wp2_with fail
                            go_round
                            case rel => exact ⟨i + 1, by omega, by go_num, y + 1, by omega, by go_num, C2.out⟩
                            case measure => simp [intOf]; omega
                          · have e1 : (x == (bb : Int)) = false := by simpa using hxe
                            have C2 : RowKit.Hid (y = cnt (fun k => decide (al.getD k 0 % 4 = (bb : Int))) (i + 1)) := Lib.hid (by rw [CS.out, if_neg hxe]; rfl)
                            clear hxe
                            go_wp2_with fail
                            go_round
                            case rel => exact ⟨i + 1, by omega, by go_num, y, by omega, rfl, C2.out⟩
                            case measure => simp [intOf]; omega
                        · have hic2 : i = c := by omega
                          subst hic2
                          obtain ⟨q, hq⟩ : ∃ q, q = min X y := ⟨_, rfl⟩
                          have hmin2 : min (X : Int) (y : Int) = (q : Int) := by omega
                          have S2 := Lib.hid (SU.out (q : Int) (by rw [hq, HX.out, HY.out]; rfl))
                          have hq30 : q ≤ 30 := by omega
                          have hwz : IntKind.i64.wrap (z + q) = z + q := IntWalk.i64_in _ (by omega)
                          clear hq
                          go_wp2_with fail
                          go_round
                          case rel => exact ⟨bb + 1, by omega, by go_num, z + q, by omega, by omega, rfl, S2.out⟩
                          case measure => simp [intOf]; omega
                · obtain rfl : bb = 4 := by omega
                  have TZ : RowKit.Hid (tt = (f : Int) - z) := Lib.hid (by
                    have T2 : tt = (f : Int) - ((stayN (fun k => pl.getD k 0 % 4) (fun c => al.getD c 0 % 4) f c ((0 : Nat) : Int) + stayN (fun k => pl.getD k 0 % 4) (fun c => al.getD c 0 % 4) f c ((1 : Nat) : Int) + stayN (fun k => pl.getD k 0 % 4) (fun c => al.getD c 0 % 4) f c ((2 : Nat) : Int) + stayN (fun k => pl.getD k 0 % 4) (fun c => al.getD c 0 % 4) f c ((3 : Nat) : Int) : Nat) : Int) := TOT.out
                    rw [T2, HZ.out]; simp only [sumN]; omega)
                  have hfz : IntKind.i64.wrap ((f : Int) - z) = (f : Int) - z := IntWalk.i64_in _ (by omega)
                  have e9 : (tt == (f : Int) - z) = true := by rw [TZ.out]; simp
                  go_wp2_with fail
                  go_loop [22] (fun v => ∃ i : Nat, i ≤ k ∧ v = .int .i64 i) (fun v => k - (intOf v).toNat)
                  case atStart => exact ⟨0, by omega, rfl⟩
                  case round =>
                    obtain ⟨i, hi, rfl⟩ := hrel
                    by_cases hik : i < k
                    · have a0 : w6.cell? ⟨g, i, none⟩ = some (.int .i64 (oi (cp' i))) := G6.out.cellE (arr_get _ hik)
                      have sv := SV.out i hik
                      obtain ⟨x, hx⟩ : ∃ x, x = oi (cp' i) := ⟨_, rfl⟩
                      rw [← hx] at a0 sv
                      have q1 : (!(decide (0 ≤ x) == decide ((i : Int) < (f : Int)))) = false := by rw [sv]; simp
                      clear hx
                      go_wp2_with fail
                      all_goals first
                        | (exfalso; rename_i hh; rw [q1] at hh; cases hh; done)
                        | (go_round; (case rel => exact ⟨i + 1, by omega, by go_num⟩); (case measure => simp [intOf]; omega))
                    · obtain rfl : i = k := by omega
                      go_wp2_with fail
                      go_ret
                      exact ⟨rfl, B6.out⟩
end Go.Proofs.Ytpcmppamkgkdlaa
