/- Contracts of Next. -/
import Derived.Test.YtjikgoeinilnjaaW4
namespace Go.Proofs.Ytjikgoeinilnjaa
open Go.RowKit

def nextF (c : Cal) : Nat → Int → Int × Bool
  | 0, _ => (0, false)
  | n + 1, d => if 2932896 < d then (0, false) else if openB c d = true then (d, true) else nextF c n (d + 1)
def nextR (c : Cal) : Nat → Int → Int × Bool
  | 0, _ => (0, false)
  | n + 1, d => if openB c d = true then (d, true) else nextR c n (d + 1)
theorem exB_iff (d : Int) : exB d = true ↔ -719162 ≤ d ∧ d ≤ 2932896 := by simp [exB]
theorem open_ex {c : Cal} {d : Int} (h : openB c d = true) : -719162 ≤ d ∧ d ≤ 2932896 := by
  rw [← exB_iff]; simp [openB] at h; exact h.1
theorem nextF_high (c : Cal) (n : Nat) (d : Int) (h : 2932896 < d) : nextF c n d = (0, false) := by
  cases n <;> simp [nextF, h]
theorem nextR_eq (c : Cal) (n : Nat) : ∀ d, nextR c n d = nextF c n d := by
  induction n with
  | zero => intro d; rfl
  | succ n ih =>
    intro d
    rw [nextR, nextF, ih]
    by_cases h : 2932896 < d
    · rw [if_pos h, if_neg (fun e => by have := open_ex e; omega), nextF_high _ _ _ (by omega)]
    · rw [if_neg h]
theorem nextF_low (c : Cal) (n : Nat) : ∀ d : Int, d + n ≤ -719162 → nextF c n d = (0, false) := by
  induction n with
  | zero => intro d _; rfl
  | succ n ih =>
    intro d h
    rw [nextF, if_neg (by omega), if_neg (fun e => by have := open_ex e; omega)]
    exact ih _ (by omega)
theorem nextF_hit {c : Cal} {n : Nat} {d : Int} (h : openB c d = true) : nextF c (n + 1) d = (d, true) := by
  have := open_ex h
  rw [nextF, if_neg (by omega), if_pos h]
theorem nextF_miss {c : Cal} {n : Nat} {d : Int} (h : openB c d = false) (h' : d ≤ 2932896) : nextF c (n + 1) d = nextF c n (d + 1) := by
  rw [nextF, if_neg (by omega), if_neg (by simp [h])]

theorem ret_ib {p : Int × Bool} {x : Int} {b : Bool} (h : p = (x, b)) : Ending.returned (.tuple #[.int .i64 x, .bool b]) = .returned (.tuple #[.int .i64 p.1, .bool p.2]) := by rw [h]
def nextS (c : Cal) (d : Int) : Int × Bool := nextF c 400 d
theorem nextF_hit' {c : Cal} {n : Nat} {d : Int} (hn : 0 < n) (h : openB c d = true) : nextF c n d = (d, true) := by
  obtain ⟨m, rfl⟩ : ∃ m, n = m + 1 := ⟨n - 1, by omega⟩
  exact nextF_hit h
theorem nextF_miss' {c : Cal} {n m : Nat} {d e : Int} (hn : n = m + 1) (he : e = d + 1) (h : openB c d = false) (h' : d ≤ 2932896) : nextF c n d = nextF c m e := by
  rw [hn, he, nextF_miss h h']
theorem is_val {d : Int} {b : Bool} (h : exB d = b) (w : World) : Calls Try.prog 40 #[.int .i64 d] w fun e w' => e = .returned (.bool b) ∧ w = w' := h ▸ is_any d w
theorem open_val (c : Cal) (a : Option Addr) (cap : Nat) (d : Int) (w : World) (hD : IntSl w a c.days) (hl : c.days.length ≤ 1000) {b : Bool} (h : openB c d = b) :
    Calls Try.prog 21 #[.agg #[.bool c.b0, .bool c.b1, .bool c.b2, .bool c.b3, .bool c.b4, .bool c.b5, .bool c.b6, .slice a c.days.length cap], .int .i64 d] w fun e w' =>
      e = .returned (.bool b) ∧ Below w.heap.size w w' := h ▸ open_any c a cap d w hD hl

theorem calCells {w : World} {n : Nat} {c : Cal} {a : Option Addr} {cap : Nat} {T : TypeId} (h : Blk w n (c.cells a cap) T) :
    w.cell? ⟨n, 0, none⟩ = some (.bool c.b0) ∧ w.cell? ⟨n, 1, none⟩ = some (.bool c.b1) ∧ w.cell? ⟨n, 2, none⟩ = some (.bool c.b2) ∧ w.cell? ⟨n, 3, none⟩ = some (.bool c.b3) ∧
    w.cell? ⟨n, 4, none⟩ = some (.bool c.b4) ∧ w.cell? ⟨n, 5, none⟩ = some (.bool c.b5) ∧ w.cell? ⟨n, 6, none⟩ = some (.bool c.b6) ∧ w.cell? ⟨n, 7, none⟩ = some (.slice a c.days.length cap) :=
  ⟨h.cell 0, h.cell 1, h.cell 2, h.cell 3, h.cell 4, h.cell 5, h.cell 6, h.cell 7⟩

set_option maxHeartbeats 1000000 in
set_option maxRecDepth 100000 in
theorem next_any (c : Cal) (a : Option Addr) (cap : Nat) (d : Int) (w : World) (hD : IntSl w a c.days) (hl : c.days.length ≤ 1000) (h0 : -1000000000 ≤ d) (h1 : d ≤ 1000000000) :
    Calls Try.prog 27 #[.agg #[.bool c.b0, .bool c.b1, .bool c.b2, .bool c.b3, .bool c.b4, .bool c.b5, .bool c.b6, .slice a c.days.length cap], .int .i64 d] w fun e w' =>
      e = .returned (.tuple #[.int .i64 (nextS c d).1, .bool (nextS c d).2]) ∧ Below w.heap.size w w' := by
  go_enter Try.func27, Try.ntmps27
  go_wp2_with fail
  go_loopw [1, 6] (fun x i wr => ∃ k : Nat, k ≤ 400 ∧ i = .int .i64 k ∧ x = .int .i64 (d + k) ∧ nextS c d = nextF c (400 - k) (d + k) ∧ Below w.heap.size w wr ∧
      Blk wr w.heap.size (c.cells a cap) 43) (fun _ i _ => 400 - (intOf i).toNat)
  case atStart => exact ⟨0, by omega, rfl, by simp, by simp [nextS], (Below.refl _ _).alloc (Nat.le_refl _) _, Blk.new _ _ _⟩
  case round =>
    obtain ⟨k, hk, rfl, rfl, hn, hbl, hz⟩ := hrel
    have HN := Lib.hid hn
    have HZ := Lib.hid hz
    obtain ⟨z0, z1, z2, z3, z4, z5, z6, z7⟩ := calCells hz
    clear hn hz
    by_cases hlt : k < 400
    · by_cases hd : d + k ≤ 2932896
      · have hsz : w.heap.size + 1 ≤ wr.heap.size := HZ.out.lt
        cases ho : openB c (d + k)
        · have HM := Lib.hid (nextF_miss' (n := 400 - k) (m := 400 - (k + 1)) (e := d + ((k + 1 : Nat) : Int)) (by omega) (by omega) ho hd)
          go_wp2_with (go_at_call 21; refine (open_val c a cap (d + k) _ (hD.below hbl (Nat.le_refl _)) hl ho).mono ?_; rintro e w1 ⟨rfl, hb1⟩)
          exact ⟨⟨k + 1, by omega, by go_num, vint (by omega), HN.out.trans HM.out, hbl.trans (hb1.mono (by omega)), HZ.out.below hb1 (by omega)⟩, by simp [intOf]; omega⟩
        · have HM := Lib.hid (nextF_hit' (n := 400 - k) (by omega) ho)
          go_wp2_with (go_at_call 21; refine (open_val c a cap (d + k) _ (hD.below hbl (Nat.le_refl _)) hl ho).mono ?_; rintro e w1 ⟨rfl, hb1⟩)
          go_ret2
          exact ⟨ret_ib (HN.out.trans HM.out), hbl.trans (hb1.mono (by omega))⟩
      · have hf : decide (d + (k : Int) ≤ 2932896) = false := by simp; omega
        go_wp2_with fail
        go_ret2
        exact ⟨ret_ib (HN.out.trans (nextF_high _ _ _ (by omega))), hbl⟩
    · have hf : decide ((k : Int) < 400) = false := by simp; omega
      obtain rfl : k = 400 := by omega
      go_wp2_with fail
      go_ret2
      exact ⟨ret_ib HN.out, hbl⟩

set_option maxHeartbeats 1000000 in
theorem refOpen_any (c : Cal) (a : Option Addr) (cap : Nat) (d : Int) (w : World) (hD : IntSl w a c.days) (hl : c.days.length ≤ 1000) :
    Calls Try.prog 34 #[.agg #[.bool c.b0, .bool c.b1, .bool c.b2, .bool c.b3, .bool c.b4, .bool c.b5, .bool c.b6, .slice a c.days.length cap], .int .i64 d] w fun e w' =>
      e = .returned (.bool (openB c d)) ∧ Below w.heap.size w w' := by
  have hw : 0 ≤ wkd d ∧ wkd d < 7 := by unfold wkd; omega
  have hbl : Below w.heap.size w (w.alloc (.cells (c.cells a cap) 43)) := (Below.refl _ _).alloc (Nat.le_refl _) _
  have HB := Lib.hid hbl
  clear hbl
  cases h0 : exB d
  · go_enter Try.func34, Try.ntmps34
    go_wp2_with (go_at_call 40; refine (is_val h0 _).mono ?_; rintro e w' ⟨rfl, rfl⟩)
    go_ret
    exact ⟨ret_bool (by simp [openB, h0]), HB.out⟩
  · have hc := c.cell a cap 43 w (wkd d).toNat (by omega)
    cases h1 : c.wk (wkd d).toNat
    · rw [h1] at hc
      go_enter Try.func34, Try.ntmps34
      go_wp2_with (first | (go_at_call 40; refine (is_val h0 _).mono ?_; rintro e w' ⟨rfl, rfl⟩) | (go_at_call 39; refine (refWeekday_any _ _).mono ?_; rintro e w' ⟨rfl, rfl⟩))
      go_loop [6] (fun i => ∃ k : Nat, k ≤ c.days.length ∧ i = .int .i64 k ∧ ∀ j, j < k → c.days.getD j 0 ≠ d) (fun i => c.days.length - (intOf i).toNat)
      case atStart => exact ⟨0, by omega, rfl, by omega⟩
      case round =>
        obtain ⟨k, hk, rfl, hno⟩ := hrel
        have HNO := Lib.hid hno
        clear hno
        have H1 := Lib.hid h1
        have H0 := Lib.hid h0
        by_cases hlt : k < c.days.length
        · rcases hD with h | ⟨b, o, rfl, hb, hcell⟩
          · rw [h] at hlt; simp at hlt
          have hck := hcell k hlt
          have HC := Lib.hid hcell
          obtain ⟨v, hv⟩ : ∃ v, v = c.days.getD k 0 := ⟨_, rfl⟩
          rw [← hv] at hck
          have HV := Lib.hid hv
          clear hcell hv
          cases hvd : (v == d)
          · go_wp2_with fail
            exact ⟨⟨k + 1, by omega, by go_num, fun j hj => by
              rcases Nat.lt_or_ge j k with h | h
              · exact HNO.out j h
              · obtain rfl : j = k := by omega
                rw [← HV.out]; simpa using hvd⟩, by simp [intOf]; omega⟩
          · go_wp2_with fail
            go_ret
            refine ⟨ret_bool ?_, HB.out⟩
            have hm : d ∈ c.days := by
              have e : v = d := by simpa using hvd
              rw [← e, HV.out, getD_get _ _ hlt]; exact List.getElem_mem _
            simp [openB, hm]
        · have e : k = c.days.length := by omega
          have hf : decide ((k : Int) < (c.days.length : Int)) = false := by simp; omega
          go_wp2_with fail
          go_ret
          refine ⟨ret_bool ?_, HB.out⟩
          have hm : d ∉ c.days := by
            intro hm
            obtain ⟨j, hj, hjd⟩ := List.getElem_of_mem hm
            exact HNO.out j (by omega) (by rw [getD_get _ _ hj, hjd])
          simp [openB, hm, H0.out, H1.out]
    · rw [h1] at hc
      go_enter Try.func34, Try.ntmps34
      go_wp2_with (first | (go_at_call 40; refine (is_val h0 _).mono ?_; rintro e w' ⟨rfl, rfl⟩) | (go_at_call 39; refine (refWeekday_any _ _).mono ?_; rintro e w' ⟨rfl, rfl⟩))
      go_ret
      exact ⟨ret_bool (by simp [openB, h0, h1]), HB.out⟩

theorem refOpen_val (c : Cal) (a : Option Addr) (cap : Nat) (d : Int) (w : World) (hD : IntSl w a c.days) (hl : c.days.length ≤ 1000) {b : Bool} (h : openB c d = b) :
    Calls Try.prog 34 #[.agg #[.bool c.b0, .bool c.b1, .bool c.b2, .bool c.b3, .bool c.b4, .bool c.b5, .bool c.b6, .slice a c.days.length cap], .int .i64 d] w fun e w' =>
      e = .returned (.bool b) ∧ Below w.heap.size w w' := h ▸ refOpen_any c a cap d w hD hl
theorem nextR_hit' {c : Cal} {n : Nat} {d : Int} (hn : 0 < n) (h : openB c d = true) : nextR c n d = (d, true) := by
  obtain ⟨m, rfl⟩ : ∃ m, n = m + 1 := ⟨n - 1, by omega⟩
  rw [nextR, if_pos h]
theorem nextR_miss' {c : Cal} {n m : Nat} {d e : Int} (hn : n = m + 1) (he : e = d + 1) (h : openB c d = false) : nextR c n d = nextR c m e := by
  rw [hn, he, nextR, if_neg (by simp [h])]

set_option maxRecDepth 100000 in
theorem refNext_any (c : Cal) (a : Option Addr) (cap : Nat) (d : Int) (w : World) (hD : IntSl w a c.days) (hl : c.days.length ≤ 1000) (h0 : -1000000000 ≤ d) (h1 : d ≤ 1000000000) :
    Calls Try.prog 28 #[.agg #[.bool c.b0, .bool c.b1, .bool c.b2, .bool c.b3, .bool c.b4, .bool c.b5, .bool c.b6, .slice a c.days.length cap], .int .i64 d] w fun e w' =>
      e = .returned (.tuple #[.int .i64 (nextS c d).1, .bool (nextS c d).2]) ∧ Below w.heap.size w w' := by
  have hbl : Below w.heap.size w (w.alloc (.cells (c.cells a cap) 43)) := (Below.refl _ _).alloc (Nat.le_refl _) _
  have HB := Lib.hid hbl
  clear hbl
  by_cases g0 : 2932896 < d
  · go_enter Try.func28, Try.ntmps28
    go_wp2_with fail
    go_ret2
    exact ⟨ret_ib (nextF_high _ _ _ (by omega)), HB.out⟩
  by_cases g1 : d < -719562
  · have g0' : decide (2932896 < d) = false := by simp; omega
    go_enter Try.func28, Try.ntmps28
    go_wp2_with fail
    go_ret2
    exact ⟨ret_ib (nextF_low _ _ _ (by omega)), HB.out⟩
  have g0' : decide (2932896 < d) = false := by simp; omega
  have g1' : decide (d < -719562) = false := by simp; omega
  go_enter Try.func28, Try.ntmps28
  go_wp2_with fail
  go_loopw [6] (fun i wr => ∃ k : Nat, k ≤ 400 ∧ i = .int .i64 (d + k) ∧ nextS c d = nextR c (400 - k) (d + k) ∧ Below w.heap.size w wr ∧
      Blk wr w.heap.size (c.cells a cap) 43) (fun i _ => (d + 400 - intOf i).toNat)
  case atStart => exact ⟨0, by omega, by simp, by simp [nextS, nextR_eq], HB.out, Blk.new _ _ _⟩
  case round =>
    obtain ⟨k, hk, rfl, hn, hbl, hz⟩ := hrel
    have HN := Lib.hid hn
    have HZ := Lib.hid hz
    obtain ⟨z0, z1, z2, z3, z4, z5, z6, z7⟩ := calCells hz
    clear hn hz
    by_cases hlt : d + (k : Int) < d + 400
    · have hsz : w.heap.size + 1 ≤ wr.heap.size := HZ.out.lt
      cases ho : openB c (d + k)
      · have HM := Lib.hid (nextR_miss' (n := 400 - k) (m := 400 - (k + 1)) (e := d + ((k + 1 : Nat) : Int)) (by omega) (by omega) ho)
        go_wp2_with (go_at_call 34; refine (refOpen_val c a cap (d + k) _ (hD.below hbl (Nat.le_refl _)) hl ho).mono ?_; rintro e w1 ⟨rfl, hb1⟩)
        exact ⟨⟨k + 1, by omega, vint (by omega), HN.out.trans HM.out, hbl.trans (hb1.mono (by omega)), HZ.out.below hb1 (by omega)⟩, by simp [intOf]; omega⟩
      · have HM := Lib.hid (nextR_hit' (n := 400 - k) (by omega) ho)
        go_wp2_with (go_at_call 34; refine (refOpen_val c a cap (d + k) _ (hD.below hbl (Nat.le_refl _)) hl ho).mono ?_; rintro e w1 ⟨rfl, hb1⟩)
        go_ret2
        exact ⟨ret_ib (HN.out.trans HM.out), hbl.trans (hb1.mono (by omega))⟩
    · obtain rfl : k = 400 := by omega
      have hf : decide (d + ((400 : Nat) : Int) < d + 400) = false := by simp
      go_wp2_with fail
      go_ret2
      exact ⟨ret_ib HN.out, hbl⟩

def dueS (r : Rule) (c : Cal) (d : Int) : Int × Bool := if r.d < 0 ∨ 10000 < r.d then (0, false) else nextS c (d + r.d)
theorem dueS_1 {r : Rule} {c : Cal} {d : Int} (h : r.d < 0) : dueS r c d = (0, false) := by simp [dueS, h]
theorem dueS_2 {r : Rule} {c : Cal} {d : Int} (h : 10000 < r.d) : dueS r c d = (0, false) := by simp [dueS, h]
theorem dueS_3 {r : Rule} {c : Cal} {d : Int} (h : ¬ r.d < 0) (h' : ¬ 10000 < r.d) : dueS r c d = nextS c (d + r.d) := by rw [dueS, if_neg (by omega)]
theorem below2 (w : World) (o o' : Obj) : Below w.heap.size w ((w.alloc o).alloc o') := ((Below.refl _ _).alloc (Nat.le_refl _) _).alloc (by rw [size_alloc]; omega) _

set_option maxHeartbeats 1000000 in
theorem due_any (r : Rule) (c : Cal) (a : Option Addr) (cap : Nat) (d : Int) (w : World) (hD : IntSl w a c.days) (hl : c.days.length ≤ 1000) (h0 : -100000000 ≤ d) (h1 : d ≤ 100000000) :
    Calls Try.prog 19 #[.agg #[.int .i64 r.p, .int .i64 r.i, .int .i64 r.b, .int .i64 r.d, .int .i64 r.n, .int .i64 r.f, .int .i64 r.c], .agg #[.bool c.b0, .bool c.b1, .bool c.b2, .bool c.b3, .bool c.b4, .bool c.b5, .bool c.b6, .slice a c.days.length cap], .int .i64 d] w fun e w' =>
      e = .returned (.tuple #[.int .i64 (dueS r c d).1, .bool (dueS r c d).2]) ∧ Below w.heap.size w w' := by
  have HB := Lib.hid (below2 w (.cells #[.int .i64 r.p, .int .i64 r.i, .int .i64 r.b, .int .i64 r.d, .int .i64 r.n, .int .i64 r.f, .int .i64 r.c] 28) (.cells (c.cells a cap) 43))
  by_cases g0 : r.d < 0
  · go_enter Try.func19, Try.ntmps19
    go_wp2_with fail
    go_ret2
    exact ⟨ret_ib (dueS_1 g0), HB.out⟩
  have g0' : decide (r.d < 0) = false := by simp; omega
  by_cases g1 : 10000 < r.d
  · go_enter Try.func19, Try.ntmps19
    go_wp2_with fail
    go_ret2
    exact ⟨ret_ib (dueS_2 g1), HB.out⟩
  have g1' : decide (10000 < r.d) = false := by simp; omega
  have HE := Lib.hid (dueS_3 (r := r) (c := c) (d := d) g0 g1)
  go_enter Try.func19, Try.ntmps19
  go_wp2_with (go_at_call 27; refine (next_any c a cap _ _ ((hD.alloc _).alloc _) hl (by omega) (by omega)).mono ?_; rintro e w1 ⟨rfl, hb1⟩)
  go_ret2
  exact ⟨by rw [HE.out]; rfl, HB.out.trans (hb1.mono (by simp; omega))⟩

set_option maxHeartbeats 1000000 in
theorem refDue_any (r : Rule) (c : Cal) (a : Option Addr) (cap : Nat) (d : Int) (w : World) (hD : IntSl w a c.days) (hl : c.days.length ≤ 1000) (h0 : -100000000 ≤ d) (h1 : d ≤ 100000000) :
    Calls Try.prog 20 #[.agg #[.int .i64 r.p, .int .i64 r.i, .int .i64 r.b, .int .i64 r.d, .int .i64 r.n, .int .i64 r.f, .int .i64 r.c], .agg #[.bool c.b0, .bool c.b1, .bool c.b2, .bool c.b3, .bool c.b4, .bool c.b5, .bool c.b6, .slice a c.days.length cap], .int .i64 d] w fun e w' =>
      e = .returned (.tuple #[.int .i64 (dueS r c d).1, .bool (dueS r c d).2]) ∧ Below w.heap.size w w' := by
  have HB := Lib.hid (below2 w (.cells #[.int .i64 r.p, .int .i64 r.i, .int .i64 r.b, .int .i64 r.d, .int .i64 r.n, .int .i64 r.f, .int .i64 r.c] 28) (.cells (c.cells a cap) 43))
  by_cases g0 : r.d < 0
  · go_enter Try.func20, Try.ntmps20
    go_wp2_with fail
    go_ret2
    exact ⟨ret_ib (dueS_1 g0), HB.out⟩
  have g0' : decide (r.d < 0) = false := by simp; omega
  by_cases g1 : 10000 < r.d
  · go_enter Try.func20, Try.ntmps20
    go_wp2_with fail
    go_ret2
    exact ⟨ret_ib (dueS_2 g1), HB.out⟩
  have g1' : decide (10000 < r.d) = false := by simp; omega
  have HE := Lib.hid (dueS_3 (r := r) (c := c) (d := d) g0 g1)
  go_enter Try.func20, Try.ntmps20
  go_wp2_with (go_at_call 28; refine (refNext_any c a cap _ _ ((hD.alloc _).alloc _) hl (by omega) (by omega)).mono ?_; rintro e w1 ⟨rfl, hb1⟩)
  go_ret2
  exact ⟨by rw [HE.out]; rfl, HB.out.trans (hb1.mono (by simp; omega))⟩
end Go.Proofs.Ytjikgoeinilnjaa
