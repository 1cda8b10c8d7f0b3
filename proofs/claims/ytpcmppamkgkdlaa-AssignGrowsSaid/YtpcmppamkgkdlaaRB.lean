/- Contracts of way, of the reference's Way, accepts and Same. -/
import Derived.Test.YtpcmppamkgkdlaaRA
namespace Go.Proofs.Ytpcmppamkgkdlaa
open Go.RowKit

set_option maxRecDepth 100000 in
set_option maxHeartbeats 1000000 in
theorem way_any (B : Nat) (v : Value) (C : List (List Int)) (a b : Int) (w : World) (h : Rows2 w B v C) (hC2 : ∀ k, ((C.getD k []).length : Int) ≤ 9223372036854775807) :
    Calls Try.prog 24 #[v, .int .i64 a, .int .i64 b] w fun e w' => e = .returned (.int .i64 (wayI C a b)) ∧ w = w' := by
  obtain ⟨ad, cap, rfl, h⟩ := h
  by_cases h0 : a < 0
  · have HW := Lib.hid (way_0 (C := C) (b := b) (.inl h0))
    have h0' : decide (a < 0) = true := by simpa using h0
    clear h h0
    go_enter Try.func24, Try.ntmps24
    go_wp2_with fail
    go_ret
    exact ⟨ret_int HW.out.symm, rfl⟩
  · have h0' : decide (a < 0) = false := by simpa using h0
    by_cases h1 : (C.length : Int) ≤ a
    · have HW := Lib.hid (way_0 (b := b) (.inr (.inl h1)))
      have h1' : decide ((C.length : Int) ≤ a) = true := by simpa using h1
      clear h h0 h1
      go_enter Try.func24, Try.ntmps24
      go_wp2_with fail
      go_ret
      exact ⟨ret_int HW.out.symm, rfl⟩
    · have h1' : decide ((C.length : Int) ≤ a) = false := by simpa using h1
      by_cases h2 : b < 0
      · have HW := Lib.hid (way_0 (C := C) (a := a) (.inr (.inr (.inl h2))))
        have h2' : decide (b < 0) = true := by simpa using h2
        clear h h0 h1 h2
        go_enter Try.func24, Try.ntmps24
        go_wp2_with fail
        go_ret
        exact ⟨ret_int HW.out.symm, rfl⟩
      · have h2' : decide (b < 0) = false := by simpa using h2
        obtain ⟨k, rfl⟩ : ∃ k : Nat, a = k := ⟨a.toNat, by omega⟩
        obtain ⟨q, rfl⟩ : ∃ q : Nat, b = q := ⟨b.toNat, by omega⟩
        have hk : k < C.length := by omega
        rcases h with h | ⟨bl, o, rfl, hl, hc⟩
        · rw [h] at hk; simp at hk
        obtain ⟨u, c0, ad2, cap2, rfl, h3⟩ := hc k hk
        have hq0 := hC2 k
        have HC0 := Lib.hid hc
        clear hc
        obtain ⟨R, hR⟩ : ∃ R, R = C.getD k [] := ⟨_, rfl⟩
        rw [← hR] at h3 c0 hq0
        by_cases h4 : (R.length : Int) ≤ q
        · have HW := Lib.hid (way_0 (C := C) (a := k) (b := q) (.inr (.inr (.inr (by rw [Int.toNat_natCast, ← hR]; exact h4)))))
          have h4' : decide ((R.length : Int) ≤ (q : Int)) = true := by simpa using h4
          have h4'' : decide (R.length ≤ q) = true := by simp; omega
          clear h3 h0 h1 h2 h4 hR
          go_enter Try.func24, Try.ntmps24
          go_wp2_with fail
          go_ret
          exact ⟨ret_int HW.out.symm, rfl⟩
        · have HW : RowKit.Hid (wayI C k q = min (max (R.getD q 0) 0) 1000000) := Lib.hid (by
            rw [way_1 (by rw [Int.toNat_natCast, ← hR]; omega), Int.toNat_natCast, Int.toNat_natCast, ← hR])
          have h4' : decide ((R.length : Int) ≤ (q : Int)) = false := by simp; omega
          have h4'' : decide (R.length ≤ q) = false := by simp; omega
          have hq : q < R.length := by omega
          rcases h3 with h3 | ⟨b2, o2, rfl, hl2, hc2⟩
          · rw [h3] at hq; simp at hq
          have c1 := hc2 q hq
          obtain ⟨x, hx⟩ : ∃ x, x = R.getD q 0 := ⟨_, rfl⟩
          rw [← hx] at c1 HW
          clear hc2 h0 h1 h2 h4 hR hx
          go_enter Try.func24, Try.ntmps24
          go_wp2_with fail
          all_goals
            go_ret
            exact ⟨ret_int (by rw [HW.out]; omega), rfl⟩
set_option maxRecDepth 100000 in
set_option maxHeartbeats 1000000 in
theorem rway_any (B : Nat) (v : Value) (C : List (List Int)) (a b : Int) (w : World) (h : Rows2 w B v C) (hC2 : ∀ k, ((C.getD k []).length : Int) ≤ 9223372036854775807) :
    Calls Try.prog 21 #[v, .int .i64 a, .int .i64 b] w fun e w' => e = .returned (.int .i64 (wayI C a b)) ∧ w = w' := by
  obtain ⟨ad, cap, rfl, h⟩ := h
  by_cases h0 : a < 0
  · have HW := Lib.hid (way_0 (C := C) (b := b) (.inl h0))
    have h0' : decide (a < 0) = true := by simpa using h0
    clear h h0
    go_enter Try.func21, Try.ntmps21
    go_wp2_with fail
    go_ret
    exact ⟨ret_int HW.out.symm, rfl⟩
  · have h0' : decide (a < 0) = false := by simpa using h0
    by_cases h1 : (C.length : Int) ≤ a
    · have HW := Lib.hid (way_0 (b := b) (.inr (.inl h1)))
      have h1' : decide ((C.length : Int) ≤ a) = true := by simpa using h1
      clear h h0 h1
      go_enter Try.func21, Try.ntmps21
      go_wp2_with fail
      go_ret
      exact ⟨ret_int HW.out.symm, rfl⟩
    · have h1' : decide ((C.length : Int) ≤ a) = false := by simpa using h1
      by_cases h2 : b < 0
      · have HW := Lib.hid (way_0 (C := C) (a := a) (.inr (.inr (.inl h2))))
        have h2' : decide (b < 0) = true := by simpa using h2
        clear h h0 h1 h2
        go_enter Try.func21, Try.ntmps21
        go_wp2_with fail
        go_ret
        exact ⟨ret_int HW.out.symm, rfl⟩
      · have h2' : decide (b < 0) = false := by simpa using h2
        obtain ⟨k, rfl⟩ : ∃ k : Nat, a = k := ⟨a.toNat, by omega⟩
        obtain ⟨q, rfl⟩ : ∃ q : Nat, b = q := ⟨b.toNat, by omega⟩
        have hk : k < C.length := by omega
        rcases h with h | ⟨bl, o, rfl, hl, hc⟩
        · rw [h] at hk; simp at hk
        obtain ⟨u, c0, ad2, cap2, rfl, h3⟩ := hc k hk
        have hq0 := hC2 k
        have HC0 := Lib.hid hc
        clear hc
        obtain ⟨R, hR⟩ : ∃ R, R = C.getD k [] := ⟨_, rfl⟩
        rw [← hR] at h3 c0 hq0
        by_cases h4 : (R.length : Int) ≤ q
        · have HW := Lib.hid (way_0 (C := C) (a := k) (b := q) (.inr (.inr (.inr (by rw [Int.toNat_natCast, ← hR]; exact h4)))))
          have h4' : decide ((R.length : Int) ≤ (q : Int)) = true := by simpa using h4
          have h4'' : decide (R.length ≤ q) = true := by simp; omega
          clear h3 h0 h1 h2 h4 hR
          go_enter Try.func21, Try.ntmps21
          go_wp2_with fail
          go_ret
          exact ⟨ret_int HW.out.symm, rfl⟩
        · have HW : RowKit.Hid (wayI C k q = min (max (R.getD q 0) 0) 1000000) := Lib.hid (by
            rw [way_1 (by rw [Int.toNat_natCast, ← hR]; omega), Int.toNat_natCast, Int.toNat_natCast, ← hR])
          have h4' : decide ((R.length : Int) ≤ (q : Int)) = false := by simp; omega
          have h4'' : decide (R.length ≤ q) = false := by simp; omega
          have hq : q < R.length := by omega
          rcases h3 with h3 | ⟨b2, o2, rfl, hl2, hc2⟩
          · rw [h3] at hq; simp at hq
          have c1 := hc2 q hq
          obtain ⟨x, hx⟩ : ∃ x, x = R.getD q 0 := ⟨_, rfl⟩
          rw [← hx] at c1 HW
          clear hc2 h0 h1 h2 h4 hR hx
          go_enter Try.func21, Try.ntmps21
          go_wp2_with fail
          all_goals
            go_ret
            exact ⟨ret_int (by rw [HW.out]; omega), rfl⟩

/-! accepts, Same -/
theorem take_succ_getD {l : List Int} (j : Nat) (h : j < l.length) : l.take (j + 1) = l.take j ++ [l.getD j 0] := by
  rw [List.take_succ_eq_append_getElem h, getD_get _ _ h]
theorem getD_mem {l : List Int} {j : Nat} (h : j < l.length) : l.getD j 0 ∈ l := by rw [getD_get _ _ h]; exact List.getElem_mem h
theorem not_mem_all {l : List Int} {x : Int} (h : ∀ i, i < l.length → l.getD i 0 ≠ x) : x ∉ l := fun hm => by
  obtain ⟨i, hi, e⟩ := List.getElem_of_mem hm
  exact h i hi (by rw [getD_get _ _ hi]; exact e)
def AccE (w : World) (l : List Int) (c : Int) (e : Ending) (w' : World) : Prop := e = .returned (.bool (decide (c ∈ l))) ∧ Below w.heap.size w w'
set_option maxRecDepth 100000 in
set_option maxHeartbeats 1000000 in
theorem accepts_any (B : Nat) (p : Int) (v : Value) (l : List Int) (c : Int) (w : World) (h : Ints w B v l) (hl : (l.length : Int) ≤ 9223372036854775807) :
    Calls Try.prog 28 #[.agg #[.int .i64 p, v], .int .i64 c] w (AccE w l c) := by
  obtain ⟨ad, cap, rfl, h⟩ := h
  have HE := fun (b : Bool) (hb : decide (c ∈ l) = b) (w' : World) (hw : Below w.heap.size w w') => Lib.hid (show AccE w l c (.returned (.bool b)) w' from ⟨by rw [hb], hw⟩)
  have HH := Lib.hid HE
  have BW := Lib.hid ((Below.refl w.heap.size w).alloc (Nat.le_refl _) (.cells #[.int .i64 p, .slice ad l.length cap] 41))
  clear HE
  go_enter Try.func28, Try.ntmps28
  go_wp2_with fail
  go_loop [5] (fun i => ∃ k : Nat, k ≤ l.length ∧ i = .int .i64 k ∧ ∀ q, q < k → l.getD q 0 ≠ c) (fun i => l.length - (intOf i).toNat)
  case atStart => exact ⟨0, by omega, rfl, fun q hq => by omega⟩
  case round =>
    obtain ⟨k, hk, rfl, hn⟩ := hrel
    have HN := Lib.hid hn
    clear hn
    by_cases hlt : k < l.length
    · rcases h with h | ⟨b, o, rfl, hb, hc⟩
      · rw [h] at hlt; simp at hlt
      have c0 := (BW.out.cell (p := ⟨b, o + k, none⟩) (cell_lt (hc k hlt))).trans (hc k hlt)
      have HC := Lib.hid hc
      have HM := Lib.hid (getD_mem hlt)
      obtain ⟨x, hx⟩ : ∃ x, x = l.getD k 0 := ⟨_, rfl⟩
      rw [← hx] at c0 HM
      have HX := Lib.hid hx
      clear hc hx
      by_cases hxc : x = c
      · subst hxc
        have HR := HH.out true (by simpa using HM.out) _ BW.out
        go_wp2_with fail
        go_ret
        exact HR.out
      · have hxc' : (x == c) = false := by simpa using hxc
        have HXC := Lib.hid hxc
        clear hxc
        go_wp2_with fail
        go_round
        case rel => exact ⟨k + 1, by omega, by go_num, fun q hq => by
          rcases Nat.lt_or_ge q k with h' | h'
          · exact HN.out q h'
          · obtain rfl : q = k := by omega
            rw [← HX.out]; exact HXC.out⟩
        case measure => simp [intOf]; omega
    · obtain rfl : k = l.length := by omega
      have HR := HH.out false (by simpa using not_mem_all HN.out) _ BW.out
      go_wp2_with fail
      go_ret
      exact HR.out
def SameE (w : World) (a b : List Int) (e : Ending) (w' : World) : Prop := e = .returned (.bool (decide (a = b))) ∧ Below w.heap.size w w'
theorem list_eq {a b : List Int} (h : a.length = b.length) (g : ∀ i, i < a.length → a.getD i 0 = b.getD i 0) : a = b :=
  List.ext_getElem h fun i h1 h2 => by have := g i h1; rwa [getD_get _ _ h1, getD_get _ _ h2] at this
set_option maxRecDepth 100000 in
set_option maxHeartbeats 1000000 in
theorem same_any (B : Nat) (u v : Value) (a b : List Int) (w : World) (hu : Ints w B u a) (hv : Ints w B v b) (ha : (a.length : Int) ≤ 9223372036854775807) :
    Calls Try.prog 18 #[u, v] w (SameE w a b) := by
  obtain ⟨a1, cap1, rfl, hu⟩ := hu
  obtain ⟨a2, cap2, rfl, hv⟩ := hv
  have HE := fun (t : Bool) (hb : decide (a = b) = t) (w' : World) (hw : Below w.heap.size w w') => Lib.hid (show SameE w a b (.returned (.bool t)) w' from ⟨by rw [hb], hw⟩)
  have HH := Lib.hid HE
  clear HE
  by_cases hl : a.length = b.length
  · have HL := Lib.hid hl
    have HR0 := HH.out
    rw [show b.length = a.length from hl.symm]
    clear hl HR0
    go_enter Try.func18, Try.ntmps18
    go_wp2_with fail
    go_loopw [5] (fun i wr => ∃ k : Nat, k ≤ a.length ∧ i = .int .i64 k ∧ Below w.heap.size w wr ∧ ∀ q, q < k → a.getD q 0 = b.getD q 0) (fun i _ => a.length - (intOf i).toNat)
    case atStart => exact ⟨0, by omega, rfl, Below.refl _ _, fun q hq => by omega⟩
    case round =>
      obtain ⟨k, hk, rfl, hb, hn⟩ := hrel
      have HN := Lib.hid hn
      have HB := Lib.hid hb
      clear hn hb
      by_cases hlt : k < a.length
      · rcases hu with h | ⟨b1, o1, rfl, hb1, hc1⟩
        · rw [h] at hlt; simp at hlt
        rcases hv with h | ⟨b2, o2, rfl, hb2, hc2⟩
        · rw [HL.out, h] at hlt; simp at hlt
        have c1 := Below.cellE HB.out (hc1 k hlt)
        have c2 := Below.cellE HB.out (hc2 k (by rw [← HL.out]; exact hlt))
        obtain ⟨x, hx⟩ : ∃ x, x = a.getD k 0 := ⟨_, rfl⟩
        obtain ⟨y, hy⟩ : ∃ y, y = b.getD k 0 := ⟨_, rfl⟩
        rw [← hx] at c1
        rw [← hy] at c2
        have HX := Lib.hid hx
        have HY := Lib.hid hy
        have hk0 : (0 : Int) ≤ (k : Int) := by omega
        have hk1 : (k : Int) < (a.length : Int) := by omega
        have HC1 := Lib.hid hc1
        have HC2 := Lib.hid hc2
        clear hx hy hc1 hc2
        by_cases hxy : x = y
        · subst hxy
          go_wp2_with fail
          go_quiet (fail)
          rename_i nq
          have HB2 := Lib.hid (bdrewN HB.out nq)
          go_wp2_with fail
          exact ⟨⟨k + 1, by omega, by go_num, HB2.out, fun q hq => by
            rcases Nat.lt_or_ge q k with h' | h'
            · exact HN.out q h'
            · obtain rfl : q = k := by omega
              rw [← HX.out, HY.out]⟩, by simp [intOf]; omega⟩
        · have hxy' : (x != y) = true := by simpa using hxy
          have HXC := Lib.hid hxy
          clear hxy
          go_wp2_with fail
          go_quiet (fail)
          rename_i nq
          have HR := HH.out false (by
            rw [decide_eq_false_iff_not]
            intro e
            exact HXC.out (by rw [HX.out, HY.out, e])) _ (bdrewN HB.out nq)
          go_wp2_with fail
          go_ret
          exact HR.out
      · obtain rfl : k = a.length := by omega
        have HR := HH.out true (by rw [decide_eq_true_iff]; exact list_eq HL.out HN.out) _ HB.out
        go_wp2_with fail
        go_ret
        exact HR.out
  · have HR := HH.out false (by rw [decide_eq_false_iff_not]; intro e; exact hl (by rw [e])) _ (Below.refl _ _)
    have hl' : ((a.length : Int) != (b.length : Int)) = true := by simpa using (by omega : ¬ (a.length : Int) = b.length)
    have hl2 : (a.length != b.length) = true := by simpa using hl
    clear hl
    go_enter Try.func18, Try.ntmps18
    go_wp2_with fail
    go_ret
    exact HR.out
end Go.Proofs.Ytpcmppamkgkdlaa
