/- The reference's funds in memory; what only reads them. -/
import Derived.Test.YtmnkgjgaileokaaCF
import Derived.Test.YtmnkgjgaileokaaFR
import Derived.Test.YtmnkgjgaileokaaFU
namespace Go.Proofs.Ytmnkgjgaileokaa
open Go.RowKit

def PV.cel (v : PV) (x : Int) (i : Nat) : Int := (v.row5 x).getD i 0
def RRow (w : World) (v : PV) (S : List Int) (sl : Value) : Prop :=
  (sl = .slice none 0 0 ∧ S = []) ∨ ∃ g cap cur, sl = .slice (some ⟨g, 0, none⟩) S.length cap ∧ w.heap[g]? = some (.cells cur 31 (0, 0)) ∧ S.length ≤ cap ∧ cap ≤ maxLen ∧ cur.size = cap * 5 ∧
    ∀ k (hk : k < S.length) i, i < 5 → cur[k * 5 + i]? = some (.int .i64 (v.cel S[k] i))
structure RMem (w : World) (rb : Nat) (v : PV) (sl : Value) : Prop where
  hd : Blk w rb #[sl] 76
  row : RRow w v v.sorted sl
  ne : sl.ownBlock ≠ some rb
/-- What the reference leaves alone. -/
structure RTurn (w : World) (rb : Nat) (sl : Value) (w' : World) (sl' : Value) : Prop where
  os : w'.os = w.os
  tape : w'.tape = w.tape
  output : w'.output = w.output
  size : w.heap.size ≤ w'.heap.size
  block : ∀ b, b < w.heap.size → b ≠ rb → sl.ownBlock ≠ some b → w'.heap[b]? = w.heap[b]?
  own : ∀ r, sl'.ownBlock = some r → sl.ownBlock = some r ∨ w.heap.size ≤ r
theorem RTurn.refl (w : World) (rb : Nat) (sl : Value) : RTurn w rb sl w sl := ⟨rfl, rfl, rfl, Nat.le_refl _, fun _ _ _ _ => rfl, fun _ h => .inl h⟩
theorem RTurn.trans {w w' w2 : World} {rb : Nat} {sl sl' sl2 : Value} (h : RTurn w rb sl w' sl') (k : RTurn w' rb sl' w2 sl2) : RTurn w rb sl w2 sl2 where
  os := k.os.trans h.os
  tape := k.tape.trans h.tape
  output := k.output.trans h.output
  size := Nat.le_trans h.size k.size
  block := fun b hb h1 h2 => (k.block b (Nat.lt_of_lt_of_le hb h.size) h1 (fun e => by rcases h.own b e with e | e; exact h2 e; omega)).trans (h.block b hb h1 h2)
  own := fun r hr => by
    rcases k.own r hr with e | e
    · exact h.own r e
    · exact .inr (Nat.le_trans h.size e)
theorem RTurn.below {w w' w2 : World} {rb : Nat} {sl sl' : Value} (h : RTurn w rb sl w' sl') (k : Below w'.heap.size w' w2) : RTurn w rb sl w2 sl' :=
  h.trans ⟨k.os, k.tape, k.output, k.size, fun b hb _ _ => k.block b hb, fun _ e => .inl e⟩
theorem RRow.lt {w : World} {v : PV} {S : List Int} {sl : Value} (h : RRow w v S sl) {r : Nat} (hr : sl.ownBlock = some r) : r < w.heap.size := by
  rcases h with ⟨rfl, _⟩ | ⟨g, cap, cur, rfl, h1, _⟩
  · simp [Value.ownBlock] at hr
  · obtain rfl : g = r := by simpa [Value.ownBlock] using hr
    exact heap_lt h1
theorem RRow.same {w w' : World} {v : PV} {S : List Int} {sl : Value} (h : RRow w v S sl) (hk : ∀ r, sl.ownBlock = some r → w'.heap[r]? = w.heap[r]?) : RRow w' v S sl := by
  rcases h with h | ⟨g, cap, cur, rfl, h1, h2⟩
  · exact .inl h
  · exact .inr ⟨g, cap, cur, rfl, (hk g (by simp [Value.ownBlock])).trans h1, h2⟩
theorem RMem.below {w w' : World} {rb : Nat} {v : PV} {sl : Value} (h : RMem w rb v sl) (hb : Below w.heap.size w w') : RMem w' rb v sl :=
  ⟨h.hd.below hb h.hd.lt, h.row.same fun r hr => hb.block r (h.row.lt hr), h.ne⟩
theorem RMem.congr {w : World} {rb : Nat} {v v' : PV} {sl : Value} (h : RMem w rb v sl) (a : Alike v v') : RMem w rb v' sl := by
  have hs : v'.sorted = v.sorted := by unfold PV.sorted; rw [a.ids]
  refine ⟨h.hd, ?_, h.ne⟩
  rw [hs]
  rcases h.row with k | ⟨g, cap, cur, h1, h2, h3, h4, h5, h6⟩
  · exact .inl k
  · refine .inr ⟨g, cap, cur, h1, h2, h3, h4, h5, fun k hk i hi => ?_⟩
    have hx : v.sorted[k] ∈ v.ids := (sorted_mem v _).1 (List.getElem_mem hk)
    rw [h6 k hk i hi]
    have : v'.row5 v.sorted[k] = v.row5 v.sorted[k] := by unfold PV.row5; rw [a.pa _ hx, a.al _ hx, a.sp _ hx, a.en _ hx]
    unfold PV.cel; rw [this]
structure RAt (w : World) (v : PV) (g k : Nat) (x : Int) : Prop where
  c0 : w.cell? ⟨g, k * 5, none⟩ = some (.int .i64 x)
  c1 : w.cell? ⟨g, k * 5 + 1, none⟩ = some (.int .i64 (v.pa x))
  c2 : w.cell? ⟨g, k * 5 + 2, none⟩ = some (.int .i64 (v.al x))
  c3 : w.cell? ⟨g, k * 5 + 3, none⟩ = some (.int .i64 (v.sp x))
  c4 : w.cell? ⟨g, k * 5 + 4, none⟩ = some (.int .i64 (v.en x))
  fz : ∀ o, w.frozen? ⟨g, o, none⟩ = false
theorem RRow.at_ {w : World} {v : PV} {S : List Int} {sl : Value} (h : RRow w v S sl) (k : Nat) (hk : k < S.length) : ∃ g cap, sl = .slice (some ⟨g, 0, none⟩) S.length cap ∧ g < w.heap.size ∧ S.length ≤ cap ∧ cap ≤ 9223372036854775807 ∧ RAt w v g k S[k] := by
  rcases h with ⟨_, h⟩ | ⟨g, cap, cur, h1, h2, h3, h4, h5, h6⟩
  · subst h; simp at hk
  · have hc : ∀ o, w.cell? ⟨g, o, none⟩ = cur[o]? := fun o => by simp [World.cell?, h2]
    exact ⟨g, cap, h1, heap_lt h2, h3, by unfold maxLen at h4; omega, (hc _).trans (h6 k hk 0 (by omega)), (hc _).trans (h6 k hk 1 (by omega)), (hc _).trans (h6 k hk 2 (by omega)), (hc _).trans (h6 k hk 3 (by omega)), (hc _).trans (h6 k hk 4 (by omega)), fun o => by simp [World.frozen?, h2]⟩
theorem RRow.form {w : World} {v : PV} {S : List Int} {sl : Value} (h : RRow w v S sl) : ∃ a cap, sl = .slice a S.length cap ∧ S.length ≤ cap ∧ cap ≤ 9223372036854775807 := by
  rcases h with ⟨h1, h⟩ | ⟨g, cap, cur, h1, h2, h3, h4, _⟩
  · subst h; exact ⟨none, 0, h1, by simp, by omega⟩
  · exact ⟨_, cap, h1, h3, by unfold maxLen at h4; omega⟩
theorem idx_ne {S : List Int} (hn : S.Nodup) {j k : Nat} (hj : j < S.length) (hk : k < S.length) (h : j ≠ k) : S[j] ≠ S[k] := fun e => by
  have hp := List.pairwise_iff_getElem.1 hn
  rcases Nat.lt_or_gt_of_ne h with h' | h'
  · exact hp j k hj hk h' e
  · exact hp k j hk hj h' e.symm
theorem Good.snd {v : PV} (h : Good v) : v.sorted.Nodup := (List.mergeSort_perm v.ids leI).nodup_iff.2 h.fix.nd
theorem sorted_idx {v : PV} {x : Int} (h : x ∈ v.ids) : ∃ k, ∃ hk : k < v.sorted.length, v.sorted[k] = x := List.getElem_of_mem ((sorted_mem v x).2 h)
set_option maxRecDepth 100000 in
set_option maxHeartbeats 2000000 in
theorem find_yes {w : World} {rb : Nat} {v : PV} {sl : Value} (h : RMem w rb v sl) (hn : v.sorted.Nodup) (j : Nat) (hj : j < v.sorted.length) {x : Int} (hx : v.sorted[j] = x) :
    Calls Try.prog 68 #[.pointer (some ⟨rb, 0, none⟩), .int .i64 x] w fun e w' => e = .returned (.int .i64 j) ∧ w = w' := by
  subst hx
  obtain ⟨g, cap, rfl, hg, hc1, hc2, hA⟩ := h.row.at_ j hj
  have c0 : w.cell? ⟨rb, 0, none⟩ = some (.slice (some ⟨g, 0, none⟩) v.sorted.length cap) := h.hd.cell 0
  have hz := h.hd.lt
  have HR := Lib.hid h.row
  have HN := Lib.hid hn
  generalize v.sorted = S at *
  clear h hn
  go_enter Try.func68, Try.ntmps68
  go_wp2_with fail
  go_loop [5] (fun i => ∃ k : Nat, k ≤ j ∧ i = .int .i64 k) (fun i => j - (intOf i).toNat)
  case atStart => exact ⟨0, by omega, rfl⟩
  case round =>
    obtain ⟨k, hk, rfl⟩ := hrel
    have hkl : k < S.length := by omega
    obtain ⟨g', cap', e, _, _, _, hB⟩ := HR.out.at_ k hkl
    cases e
    have b0 := hB.c0
    by_cases hkj : k = j
    · subst hkj
      clear hA hB
      go_wp2_with fail
      go_ret
      exact ⟨rfl, rfl⟩
    · have hne := idx_ne HN.out hkl hj hkj
      have hnb : (S[k] == S[j]) = false := by simpa using hne
      clear hA hB hne
      go_wp2_with fail
      go_round
      case rel => exact ⟨k + 1, by omega, by go_num⟩
      case measure => simp [intOf]; omega
set_option maxRecDepth 100000 in
set_option maxHeartbeats 2000000 in
theorem find_no {w : World} {rb : Nat} {v : PV} {sl : Value} (h : RMem w rb v sl) {x : Int} (hx : x ∉ v.sorted) :
    Calls Try.prog 68 #[.pointer (some ⟨rb, 0, none⟩), .int .i64 x] w fun e w' => e = .returned (.int .i64 (-1)) ∧ w = w' := by
  obtain ⟨a, cap, rfl, hc1, hc2⟩ := h.row.form
  have c0 : w.cell? ⟨rb, 0, none⟩ = some (.slice a v.sorted.length cap) := h.hd.cell 0
  have hz := h.hd.lt
  have HR := Lib.hid h.row
  have HX := Lib.hid hx
  generalize v.sorted = S at *
  clear h hx
  go_enter Try.func68, Try.ntmps68
  go_wp2_with fail
  go_loop [5] (fun i => ∃ k : Nat, k ≤ S.length ∧ i = .int .i64 k) (fun i => S.length - (intOf i).toNat)
  case atStart => exact ⟨0, by omega, rfl⟩
  case round =>
    obtain ⟨k, hk, rfl⟩ := hrel
    by_cases hkl : k < S.length
    · obtain ⟨g', cap', e, _, _, _, hB⟩ := HR.out.at_ k hkl
      cases e
      have b0 := hB.c0
      have hne : S[k] ≠ x := fun e => HX.out (e ▸ List.getElem_mem hkl)
      have hnb : (S[k] == x) = false := by simpa using hne
      clear hB hne
      go_wp2_with fail
      go_round
      case rel => exact ⟨k + 1, by omega, by go_num⟩
      case measure => simp [intOf]; omega
    · go_wp2_with fail
      go_ret
      exact ⟨rfl, rfl⟩
theorem rfree_any (a b c d e : Int) (w : World) (h1 : -2000000000000000 ≤ c ∧ c ≤ 2000000000000000) (h2 : -2000000000000000 ≤ d ∧ d ≤ 2000000000000000) (h3 : -2000000000000000 ≤ e ∧ e ≤ 2000000000000000) :
    Calls Try.prog 69 #[.agg #[.int .i64 a, .int .i64 b, .int .i64 c, .int .i64 d, .int .i64 e]] w fun r w' => r = .returned (.int .i64 (c - d - e)) ∧ Below w.heap.size w w' := by
  go_enter Try.func69, Try.ntmps69
  go_wp2_with fail
  go_ret
  exact ⟨rfl, (Below.refl _ _).alloc (Nat.le_refl _) _⟩
set_option maxRecDepth 100000 in
set_option maxHeartbeats 2000000 in
theorem rfund_any {w : World} {rb : Nat} {v : PV} {sl : Value} (h : RMem w rb v sl) (hg : Good v) {x : Int} :
    Calls Try.prog 46 #[.pointer (some ⟨rb, 0, none⟩), .int .i64 x] w fun r w' => r = .returned (.tuple #[.agg (v.fund5 x), .bool (decide (x ∈ v.ids))]) ∧ Below w.heap.size w w' := by
  by_cases hx : x ∈ v.ids
  · have e1 : v.fund5 x = #[.int .i64 x, .int .i64 (v.pa x), .int .i64 (v.al x), .int .i64 (v.sp x), .int .i64 (v.en x)] := if_pos hx
    rw [e1, decide_eq_true hx]
    obtain ⟨k, hk, hkx⟩ := sorted_idx hx
    have HF := Lib.hid (find_yes (h.below ((Below.refl _ w).alloc (Nat.le_refl _) (.cells #[.int .i64 0, .int .i64 0, .int .i64 0, .int .i64 0, .int .i64 0] 31))) hg.snd k hk hkx)
    obtain ⟨g, cap, rfl, hg', hc1, hc2, hA⟩ := h.row.at_ k hk
    rw [hkx] at hA
    obtain ⟨a0, a1, a2, a3, a4, _⟩ := hA
    have c0 : w.cell? ⟨rb, 0, none⟩ = some (.slice (some ⟨g, 0, none⟩) v.sorted.length cap) := h.hd.cell 0
    have hz := h.hd.lt
    generalize v.sorted = S at *
    clear h hg hx e1 hkx
    go_enter Try.func46, Try.ntmps46
    go_wp2_with fail
    refine HF.out.mono ?_
    rintro e w1 ⟨rfl, rfl⟩
    go_wp2_with fail
    refine bodyPost_ret (v := .tuple #[.agg #[.int .i64 x, .int .i64 (v.pa x), .int .i64 (v.al x), .int .i64 (v.sp x), .int .i64 (v.en x)], .bool true]) ?_ rfl ⟨rfl, ?_⟩
    · simp [results, Try.results46, go_sem]
    · exact (Below.refl _ _).alloc (Nat.le_refl _) _
  · have e1 : v.fund5 x = #[.int .i64 0, .int .i64 0, .int .i64 0, .int .i64 0, .int .i64 0] := if_neg hx
    rw [e1, decide_eq_false hx]
    have HF := Lib.hid (find_no (h.below ((Below.refl _ w).alloc (Nat.le_refl _) (.cells #[.int .i64 0, .int .i64 0, .int .i64 0, .int .i64 0, .int .i64 0] 31))) (x := x) (fun e => hx ((sorted_mem v x).1 e)))
    clear h hg hx e1
    go_enter Try.func46, Try.ntmps46
    go_wp2_with fail
    refine HF.out.mono ?_
    rintro e w1 ⟨rfl, rfl⟩
    go_wp2_with fail
    refine bodyPost_ret (v := .tuple #[.agg #[.int .i64 0, .int .i64 0, .int .i64 0, .int .i64 0, .int .i64 0], .bool false]) ?_ rfl ⟨rfl, ?_⟩
    · simp [results, Try.results46, go_sem]
    · exact (Below.refl _ _).alloc (Nat.le_refl _) _
set_option maxRecDepth 100000 in
set_option maxHeartbeats 2000000 in
theorem rfreeof_any {w : World} {rb : Nat} {v : PV} {sl : Value} (h : RMem w rb v sl) (hg : Good v) {x : Int} :
    Calls Try.prog 47 #[.pointer (some ⟨rb, 0, none⟩), .int .i64 x] w fun r w' => r = .returned (.int .i64 (v.free0 x)) ∧ Below w.heap.size w w' := by
  have key := rfund_any h hg (x := x)
  obtain ⟨h1, h2, h3, h4, h5⟩ := hg.at0 x
  rw [fund5_0] at key
  have e : v.free0 x = v.at0 v.al x - v.at0 v.sp x - v.at0 v.en x := by omega
  rw [e]
  rw [e] at h1 h4
  clear e
  generalize v.at0 (fun z => z) x = i0 at *
  generalize v.at0 v.pa x = i1 at *
  generalize v.at0 v.al x = i2 at *
  generalize v.at0 v.sp x = i3 at *
  generalize v.at0 v.en x = i4 at *
  have HK := Lib.hid key
  have b2 : -2000000000000000 ≤ i2 ∧ i2 ≤ 2000000000000000 := by omega
  have b3 : -2000000000000000 ≤ i3 ∧ i3 ≤ 2000000000000000 := by omega
  have b4 : -2000000000000000 ≤ i4 ∧ i4 ≤ 2000000000000000 := by omega
  clear key h hg h1 h2 h3 h4 h5
  go_enter Try.func47, Try.ntmps47
  go_wp2_with fail
  refine HK.out.mono ?_
  rintro e w1 ⟨rfl, hb⟩
  go_wp2_with fail
  refine (rfree_any i0 i1 i2 i3 i4 _ b2 b3 b4).mono ?_
  rintro e w2 ⟨rfl, hb2⟩
  go_wp2_with fail
  go_ret
  exact ⟨rfl, (hb.alloc hb.size _).trans (hb2.mono (by have := hb.size; rw [size_alloc]; omega))⟩
end Go.Proofs.Ytmnkgjgaileokaa
