/- Contracts of the small functions of terms, calendar and their references. No conditions beyond those in each statement. -/
import Derived.Test.YtjikgoeinilnjaaProg
import Derived.Test.YtjikgoeinilnjaaLib
namespace Go.Proofs.Ytjikgoeinilnjaa
open Go.RowKit


structure Rule where
  p : Int
  i : Int
  b : Int
  d : Int
  n : Int
  f : Int
  c : Int
  deriving DecidableEq

def fitsB (f v : Int) : Bool := decide (f = -1 ∨ f = v)
def wgt (f : Int) (p : Int) : Int := if f = -1 then 0 else p
def wsum (f0 f1 f2 : Int) (k : Nat) : Int :=
  (if 0 < k then wgt f0 4 else 0) + (if 1 < k then wgt f1 2 else 0) + (if 2 < k then wgt f2 1 else 0)
def holdsB (r : Rule) (a b c : Int) : Bool := fitsB r.p a && fitsB r.i b && fitsB r.b c
def rw3 (r : Rule) : Int := wgt r.p 4 + wgt r.i 2 + wgt r.b 1
def weightI (r : Rule) (a b c : Int) : Int := if holdsB r a b c = true then rw3 r else -1
def exB (d : Int) : Bool := decide (-719162 ≤ d ∧ d ≤ 2932896)
def wkd (d : Int) : Int := (d + 3) % 7

theorem tmod_mod (a b : Int) (h0 : 0 < b) : (a.tmod b + b).tmod b = a % b := by
  have := Int.lt_tmod_of_pos a h0
  rw [Int.tmod_eq_emod_of_nonneg (by omega)]
  rw [Int.add_emod_right, Int.tmod_eq_emod]
  split
  · simp
  · have hn : (b.natAbs : Int) = b := by omega
    rw [hn, Int.sub_emod]; simp

theorem mod_any (a b : Int) (w : World) (h0 : 0 < b) (h1 : b ≤ 1000000) :
    Calls Try.prog 13 #[.int .i64 a, .int .i64 b] w fun e w' => e = .returned (.int .i64 (a % b)) ∧ w = w' := by
  have hb : ¬ b = 0 := by omega
  have hw : wrap64 (a.tmod b + b) = a.tmod b + b := by
    have := Int.tmod_lt_of_pos a h0
    have := Int.lt_tmod_of_pos a h0
    exact IntWalk.wrap64_in _ ⟨by omega, by omega⟩
  have hq := tmod_mod a b h0
  have H := Lib.hid hw
  have Q := Lib.hid hq
  clear hw hq
  go_enter Try.func13, Try.ntmps13
  go_wp2
  go_ret
  refine ⟨?_, rfl⟩
  show Ending.returned (.int .i64 ((wrap64 (a.tmod b + b)).tmod b)) = _
  rw [H.out, Q.out]

theorem holds_any (f v : Int) (w : World) :
    Calls Try.prog 25 #[.int .i64 f, .int .i64 v] w fun e w' => e = .returned (.bool (fitsB f v)) ∧ w = w' := by
  by_cases h : f = -1
  · have h1 : (f == -1) = true := by simp [h]
    clear h
    go_enter Try.func25, Try.ntmps25
    go_wp2
    go_ret
    exact ⟨ret_bool (by simp at h1; simp [fitsB, h1]), rfl⟩
  · have h1 : (f == -1) = false := by simp [h]
    go_enter Try.func25, Try.ntmps25
    go_wp2
    all_goals
      go_ret
      exact ⟨ret_bool (by rw [Bool.eq_iff_iff]; simp [fitsB, h]), rfl⟩

theorem exists_any (d : Int) (w : World) :
    Calls Try.prog 29 #[.int .i64 d] w fun e w' => e = .returned (.bool (exB d)) ∧ w = w' := by
  by_cases h : -719162 ≤ d
  · go_enter Try.func29, Try.ntmps29
    go_wp2
    go_ret
    exact ⟨ret_bool (by simp [exB, h]), rfl⟩
  · go_enter Try.func29, Try.ntmps29
    go_wp2
    go_ret
    exact ⟨ret_bool (by simp [exB]; omega), rfl⟩

theorem is_any (d : Int) (w : World) :
    Calls Try.prog 40 #[.int .i64 d] w fun e w' => e = .returned (.bool (exB d)) ∧ w = w' := by
  by_cases h : -719162 ≤ d
  · go_enter Try.func40, Try.ntmps40
    go_wp2
    go_ret
    exact ⟨ret_bool (by simp [exB, h]), rfl⟩
  · go_enter Try.func40, Try.ntmps40
    go_wp2
    go_ret
    exact ⟨ret_bool (by simp [exB]; omega), rfl⟩

theorem wkd_eq (d : Int) : (d.tmod 7 + 7 + 3).tmod 7 = wkd d := by
  unfold wkd
  have := Int.lt_tmod_of_pos d (b := 7) (by omega)
  rw [Int.tmod_eq_emod_of_nonneg (by omega), Int.tmod_eq_emod]
  split <;> simp <;> omega
theorem wkd_eq' (d : Int) : (d.tmod 7 + 10).tmod 7 = wkd d := by
  rw [← wkd_eq, Int.add_assoc]; rfl

theorem tmod7 (d : Int) : -7 < d.tmod 7 ∧ d.tmod 7 < 7 :=
  ⟨Int.lt_tmod_of_pos d (by omega), Int.tmod_lt_of_pos d (by omega)⟩

theorem weekday_any (d : Int) (w : World) :
    Calls Try.prog 30 #[.int .i64 d] w fun e w' => e = .returned (.int .i64 (wkd d)) ∧ w = w' := by
  have h := tmod7 d
  have H := Lib.hid (wkd_eq d)
  go_enter Try.func30, Try.ntmps30
  go_wp2
  go_ret
  exact ⟨ret_int ((Int.tmod_eq_emod_of_nonneg (a := d.tmod 7 + 7 + 3) (by omega)).symm.trans H.out), rfl⟩

theorem refWeekday_any (d : Int) (w : World) :
    Calls Try.prog 39 #[.int .i64 d] w fun e w' => e = .returned (.int .i64 (wkd d)) ∧ w = w' := by
  have h := tmod7 d
  have H := Lib.hid (wkd_eq' d)
  go_enter Try.func39, Try.ntmps39
  go_wp2
  go_ret
  exact ⟨ret_int ((Int.tmod_eq_emod_of_nonneg (a := d.tmod 7 + 10) (by omega)).symm.trans H.out), rfl⟩

theorem day_any (n : Int) (w : World) :
    Calls Try.prog 17 #[.int .i64 n] w fun e w' => e = .returned (.int .i64 (n % 150000 - 25000)) ∧ w = w' := by
  have h : 0 ≤ n % 150000 ∧ n % 150000 < 150000 := by omega
  go_enter Try.func17, Try.ntmps17
  go_wp2_with (go_at_call 13; refine (mod_any _ _ _ (by omega) (by omega)).mono ?_; rintro e w' ⟨rfl, rfl⟩)
  go_ret
  exact ⟨rfl, rfl⟩

set_option maxHeartbeats 1000000 in
theorem refWeight_any (r : Rule) (w : World) :
    Calls Try.prog 26 #[.agg #[.int .i64 r.p, .int .i64 r.i, .int .i64 r.b, .int .i64 r.d, .int .i64 r.n, .int .i64 r.f, .int .i64 r.c]] w fun e w' => e = .returned (.int .i64 (rw3 r)) ∧ Below w.heap.size w w' := by
  go_enter Try.func26, Try.ntmps26
  go_wp2
  all_goals
    go_ret
    exact ⟨ret_int (by simp [rw3, wgt]; simp_all), (Below.refl _ _).alloc (Nat.le_refl _) _⟩

theorem wsum_bd (f0 f1 f2 : Int) (k : Nat) : 0 ≤ wsum f0 f1 f2 k ∧ wsum f0 f1 f2 k ≤ 7 := by
  unfold wsum wgt; repeat' split
  all_goals omega
theorem fits_a {f v : Int} (h : (f == -1) = true) : fitsB f v = true := by simp at h; simp [fitsB, h]
theorem fits_b {f v : Int} (h : (f == v) = true) : fitsB f v = true := by simp at h; simp [fitsB, h]
theorem fits_c {f v : Int} (h : (f == -1) = false) (h' : (f == v) = false) : fitsB f v = false := by simp at h h'; simp [fitsB, h, h']
section
variable (f0 f1 f2 : Int)
theorem wsum_0a (h : (f0 == -1) = true) : wsum f0 f1 f2 0 = wsum f0 f1 f2 1 := by simp at h; simp [wsum, wgt, h]
theorem wsum_0b (h : (f0 == -1) = false) : wsum f0 f1 f2 0 + 4 = wsum f0 f1 f2 1 := by simp at h; simp [wsum, wgt, h]
theorem wsum_1a (h : (f1 == -1) = true) : wsum f0 f1 f2 1 = wsum f0 f1 f2 2 := by simp at h; simp [wsum, wgt, h]
theorem wsum_1b (h : (f1 == -1) = false) : wsum f0 f1 f2 1 + 2 = wsum f0 f1 f2 2 := by simp at h; simp [wsum, wgt, h]
theorem wsum_2a (h : (f2 == -1) = true) : wsum f0 f1 f2 2 = wsum f0 f1 f2 3 := by simp at h; simp [wsum, wgt, h]
theorem wsum_2b (h : (f2 == -1) = false) : wsum f0 f1 f2 2 + 1 = wsum f0 f1 f2 3 := by simp at h; simp [wsum, wgt, h]
variable (f3 f4 f5 f6 a b c : Int)
theorem weightI_0 (h : fitsB f0 a = false) : -1 = weightI ⟨f0, f1, f2, f3, f4, f5, f6⟩ a b c := by simp [weightI, holdsB, h]
theorem weightI_1 (h : fitsB f1 b = false) : -1 = weightI ⟨f0, f1, f2, f3, f4, f5, f6⟩ a b c := by simp [weightI, holdsB, h]
theorem weightI_2 (h : fitsB f2 c = false) : -1 = weightI ⟨f0, f1, f2, f3, f4, f5, f6⟩ a b c := by simp [weightI, holdsB, h]
theorem weightI_3 (h : fitsB f0 a = true) (h1 : fitsB f1 b = true) (h2 : fitsB f2 c = true) : wsum f0 f1 f2 3 = weightI ⟨f0, f1, f2, f3, f4, f5, f6⟩ a b c := by simp [weightI, holdsB, h, h1, h2, wsum, rw3]
end

set_option maxHeartbeats 1000000 in
theorem weight_any (r : Rule) (a b c : Int) (w : World) :
    Calls Try.prog 24 #[.agg #[.int .i64 r.p, .int .i64 r.i, .int .i64 r.b, .int .i64 r.d, .int .i64 r.n, .int .i64 r.f, .int .i64 r.c], .int .i64 a, .int .i64 b, .int .i64 c] w fun e w' => e = .returned (.int .i64 (weightI r a b c)) ∧ Below w.heap.size w w' := by
  obtain ⟨f0, f1, f2, f3, f4, f5, f6⟩ := r
  have i0 : ∀ w, (Instr.index 60 (.agg #[.int .i64 f0, .int .i64 a, .int .i64 f1, .int .i64 b, .int .i64 f2, .int .i64 c]) (.int .i64 0)).run Try.prog w = .ok (.agg #[.int .i64 f0, .int .i64 a]) w := fun _ => by kernel_rfl
  have i1 : ∀ w, (Instr.index 60 (.agg #[.int .i64 f0, .int .i64 a, .int .i64 f1, .int .i64 b, .int .i64 f2, .int .i64 c]) (.int .i64 1)).run Try.prog w = .ok (.agg #[.int .i64 f1, .int .i64 b]) w := fun _ => by kernel_rfl
  have i2 : ∀ w, (Instr.index 60 (.agg #[.int .i64 f0, .int .i64 a, .int .i64 f1, .int .i64 b, .int .i64 f2, .int .i64 c]) (.int .i64 2)).run Try.prog w = .ok (.agg #[.int .i64 f2, .int .i64 c]) w := fun _ => by kernel_rfl
  have g0 : 0 ≤ wgt f0 4 ∧ wgt f0 4 ≤ 4 := by unfold wgt; split <;> omega
  have g1 : 0 ≤ wgt f1 2 ∧ wgt f1 2 ≤ 2 := by unfold wgt; split <;> omega
  go_enter Try.func24, Try.ntmps24
  go_wp2
  go_loopw [9, 25] (fun s i wr => ∃ k : Nat, k ≤ 3 ∧ i = .int .i64 k ∧ s = .int .i64 (wsum f0 f1 f2 k) ∧ Below w.heap.size w wr ∧
      (0 < k → fitsB f0 a = true) ∧ (1 < k → fitsB f1 b = true) ∧ (2 < k → fitsB f2 c = true)) (fun _ i _ => 3 - (intOf i).toNat)
  case atStart => exact ⟨0, by omega, rfl, by simp [wsum], (Below.refl _ _).alloc (Nat.le_refl _) _, by omega, by omega, by omega⟩
  case round =>
    obtain ⟨k, hk, rfl, rfl, hb, e0, e1, e2⟩ := hrel
    have hk4 : k = 0 ∨ k = 1 ∨ k = 2 ∨ k = 3 := by omega
    have F0 := Lib.hid e0
    have F1 := Lib.hid e1
    have F2 := Lib.hid e2
    have hs : 0 ≤ wsum f0 f1 f2 k ∧ wsum f0 f1 f2 k ≤ 7 := wsum_bd ..
    clear e0 e1 e2
    rcases hk4 with rfl | rfl | rfl | rfl
    · go_wp2
      · exact ⟨⟨1, by omega, rfl, vint (wsum_0a f0 f1 f2 ‹_›), hb.trans ((Below.refl _ _).alloc hb.size _), fun _ => fits_a ‹_›, by omega, by omega⟩, by simp [intOf]⟩
      · exact ⟨⟨1, by omega, rfl, vint (wsum_0b f0 f1 f2 ‹_›), hb.trans ((Below.refl _ _).alloc hb.size _), fun _ => fits_b ‹_›, by omega, by omega⟩, by simp [intOf]⟩
      · go_ret
        exact ⟨ret_int (weightI_0 _ _ _ _ _ _ _ _ _ _ (fits_c ‹_› ‹_›)), hb.trans ((Below.refl _ _).alloc hb.size _)⟩
    · go_wp2
      · exact ⟨⟨2, by omega, rfl, vint (wsum_1a f0 f1 f2 ‹_›), hb.trans ((Below.refl _ _).alloc hb.size _), fun _ => F0.out (by omega), fun _ => fits_a ‹_›, by omega⟩, by simp [intOf]⟩
      · exact ⟨⟨2, by omega, rfl, vint (wsum_1b f0 f1 f2 ‹_›), hb.trans ((Below.refl _ _).alloc hb.size _), fun _ => F0.out (by omega), fun _ => fits_b ‹_›, by omega⟩, by simp [intOf]⟩
      · go_ret
        exact ⟨ret_int (weightI_1 _ _ _ _ _ _ _ _ _ _ (fits_c ‹_› ‹_›)), hb.trans ((Below.refl _ _).alloc hb.size _)⟩
    · go_wp2
      · exact ⟨⟨3, by omega, rfl, vint (wsum_2a f0 f1 f2 ‹_›), hb.trans ((Below.refl _ _).alloc hb.size _), fun _ => F0.out (by omega), fun _ => F1.out (by omega), fun _ => fits_a ‹_›⟩, by simp [intOf]⟩
      · exact ⟨⟨3, by omega, rfl, vint (wsum_2b f0 f1 f2 ‹_›), hb.trans ((Below.refl _ _).alloc hb.size _), fun _ => F0.out (by omega), fun _ => F1.out (by omega), fun _ => fits_b ‹_›⟩, by simp [intOf]⟩
      · go_ret
        exact ⟨ret_int (weightI_2 _ _ _ _ _ _ _ _ _ _ (fits_c ‹_› ‹_›)), hb.trans ((Below.refl _ _).alloc hb.size _)⟩
    · go_wp2
      go_ret
      exact ⟨ret_int (weightI_3 _ _ _ _ _ _ _ _ _ _ (F0.out (by omega)) (F1.out (by omega)) (F2.out (by omega))), hb⟩
end Go.Proofs.Ytjikgoeinilnjaa
