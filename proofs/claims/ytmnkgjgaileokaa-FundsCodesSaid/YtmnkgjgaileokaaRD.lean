/- The reference's Add. -/
import Derived.Test.YtmnkgjgaileokaaRC
namespace Go.Proofs.Ytmnkgjgaileokaa
open Go.RowKit

def rowsOf (v : PV) (S : List Int) : List Value := S.flatMap fun x => (v.row5 x).map (Value.int .i64)
theorem rowsOf_len (v : PV) (S : List Int) : (rowsOf v S).length = S.length * 5 := by
  induction S with
  | nil => rfl
  | cons a S ih => unfold rowsOf at *; rw [List.flatMap_cons, List.length_append, ih]; simp [PV.row5]; omega
theorem rowsOf_get (v : PV) : ∀ (S : List Int) (k : Nat) (hk : k < S.length) (i : Nat), i < 5 → (rowsOf v S)[k * 5 + i]? = some (.int .i64 (v.cel S[k] i))
  | [], k, hk, _, _ => by simp at hk
  | a :: S, 0, _, i, hi => by
    unfold rowsOf
    rw [List.flatMap_cons, List.getElem?_append_left (by simp [PV.row5]; omega)]
    have : i = 0 ∨ i = 1 ∨ i = 2 ∨ i = 3 ∨ i = 4 := by omega
    rcases this with rfl | rfl | rfl | rfl | rfl <;> simp [PV.row5, PV.cel]
  | a :: S, k + 1, hk, i, hi => by
    have ih := rowsOf_get v S k (by simpa using hk) i hi
    unfold rowsOf at *
    rw [List.flatMap_cons, List.getElem?_append_right (by simp [PV.row5]; omega)]
    have e : (k + 1) * 5 + i - ((v.row5 a).map (Value.int .i64)).length = k * 5 + i := by simp [PV.row5]; omega
    rw [e, ih]; rfl
theorem RRow.owns {w : World} {v : PV} {S : List Int} {sl : Value} (h : RRow w v S sl) : w.ownsRow 0 31 5 sl S.length (rowsOf v S) := by
  refine ⟨rowsOf_len v S, ?_⟩
  rcases h with ⟨rfl, h⟩ | ⟨g, cap, cur, h1, h2, h3, h4, h5, h6⟩
  · subst h; exact .inl ⟨rfl, rfl⟩
  · refine .inr ⟨g, cap, cur, h1, Nat.zero_le _, h2, h3, h4, h5, ?_⟩
    apply List.ext_getElem?
    intro j
    by_cases hj : j < S.length * 5
    · have e : j = (j / 5) * 5 + j % 5 := by omega
      rw [List.getElem?_take_of_lt hj, e, rowsOf_get v S (j / 5) (by omega) (j % 5) (by omega), Array.getElem?_toList]
      exact h6 (j / 5) (by omega) (j % 5) (by omega)
    · rw [List.getElem?_eq_none (by rw [List.length_take]; omega), List.getElem?_eq_none (by rw [rowsOf_len]; omega)]
theorem RRow.of_owns {w : World} {v : PV} {S : List Int} {sl : Value} (h : w.ownsRow 0 31 5 sl S.length (rowsOf v S)) : RRow w v S sl := by
  rcases h.2 with ⟨rfl, h0⟩ | ⟨g, cap, cur, h1, _, h2, h3, h4, h5, h6⟩
  · exact .inl ⟨rfl, List.eq_nil_of_length_eq_zero h0⟩
  · refine .inr ⟨g, cap, cur, h1, h2, h3, h4, h5, fun k hk i hi => ?_⟩
    have := rowsOf_get v S k hk i hi
    rw [← h6, List.getElem?_take_of_lt (by omega), Array.getElem?_toList] at this
    exact this
theorem rowsOf_snoc (v : PV) (S : List Int) (x : Int) : rowsOf v (S ++ [x]) = rowsOf v S ++ (v.row5 x).map (Value.int .i64) := by simp [rowsOf]
theorem rowsOf_congr {v v' : PV} {S : List Int} (h : ∀ x ∈ S, v'.row5 x = v.row5 x) : rowsOf v' S = rowsOf v S := by
  unfold rowsOf; rw [List.flatMap_def, List.flatMap_def, List.map_congr_left fun x hx => by rw [h x hx]]
/-- A row is written whole. -/
theorem RRow.put5 {w : World} {v : PV} {S : List Int} {g cap : Nat} (h : RRow w v S (.slice (some ⟨g, 0, none⟩) S.length cap)) {k : Nat} (hk : k < S.length) (y : Int) :
    RRow (put5 w g (k * 5) y (v.pa y) (v.al y) (v.sp y) (v.en y)) v (S.set k y) (.slice (some ⟨g, 0, none⟩) S.length cap) := by
  rcases h with ⟨e, _⟩ | ⟨g', cap', cur, e, h2, h3, h4, h5, h6⟩
  · cases e
  · cases e
    have hb := (((((show Blk w g cur 31 from h2).set (k * 5) (.int .i64 y)).set (k * 5 + 1) (.int .i64 (v.pa y))).set (k * 5 + 2) (.int .i64 (v.al y))).set (k * 5 + 3) (.int .i64 (v.sp y))).set (k * 5 + 4) (.int .i64 (v.en y))
    refine .inr ⟨g, cap, _, by rw [List.length_set], hb, by rw [List.length_set]; exact h3, h4, by simpa using h5, fun j hj i hi => ?_⟩
    rw [List.length_set] at hj
    by_cases e : k = j
    · subst e
      have : i = 0 ∨ i = 1 ∨ i = 2 ∨ i = 3 ∨ i = 4 := by omega
      rcases this with rfl | rfl | rfl | rfl | rfl <;> simp [Array.getElem?_setIfInBounds, PV.cel, PV.row5, h5] <;> omega
    · have e2 : (S.set k y)[j]'(by rw [List.length_set]; exact hj) = S[j] := by rw [List.getElem_set_ne e]
      rw [e2, ← h6 j hj i hi]
      simp only [Array.getElem?_setIfInBounds]
      repeat rw [if_neg (by omega)]
/-- x stands at place k, the others in their order. -/
def ins (S : List Int) (k : Nat) (x : Int) : List Int := S.take k ++ x :: S.drop k
theorem ins_len (S : List Int) (k : Nat) (x : Int) (hk : k ≤ S.length) : (ins S k x).length = S.length + 1 := by simp [ins]; omega
theorem ins_get (S : List Int) (k : Nat) (x : Int) (hk : k ≤ S.length) (j : Nat) : (ins S k x)[j]? = if j < k then S[j]? else if j = k then some x else S[j - 1]? := by
  unfold ins
  by_cases h1 : j < k
  · rw [if_pos h1, List.getElem?_append_left (by simp; omega), List.getElem?_take_of_lt h1]
  · rw [if_neg h1, List.getElem?_append_right (by simp; omega)]
    have e : (S.take k).length = k := by simp; omega
    rw [e]
    by_cases h2 : j = k
    · subst h2; simp
    · rw [if_neg h2]
      obtain ⟨m, rfl⟩ : ∃ m, j = k + 1 + m := ⟨j - k - 1, by omega⟩
      have e3 : k + 1 + m - k = m + 1 := by omega
      rw [e3, List.getElem?_cons_succ, List.getElem?_drop]
      congr 1
      omega
theorem ins_swap (S : List Int) (k : Nat) (x : Int) (hk : k + 1 ≤ S.length) : (((ins S (k + 1) x).set (k + 1) (S[k]'(by omega))).set k x) = ins S k x := by
  apply List.ext_getElem?
  intro j
  rw [List.getElem?_set, List.getElem?_set, ins_get _ _ _ (by omega), ins_get _ _ _ (by omega)]
  have hl := ins_len S (k + 1) x hk
  rw [List.length_set, hl]
  by_cases h1 : k = j
  · subst h1
    rw [if_pos rfl, if_pos (by omega), if_neg (by omega), if_pos rfl]
  · rw [if_neg h1]
    by_cases h2 : k + 1 = j
    · subst h2
      rw [if_pos rfl, if_pos (by omega), if_neg (by omega), if_neg (by omega)]
      rw [Nat.add_sub_cancel, List.getElem?_eq_getElem (by omega)]
    · rw [if_neg h2]
      by_cases h3 : j < k
      · rw [if_pos (by omega), if_pos h3]
      · rw [if_neg (by omega), if_neg (by omega), if_neg h3, if_neg (by omega)]
theorem ins_perm (S : List Int) (k : Nat) (x : Int) : (ins S k x).Perm (S ++ [x]) := by
  unfold ins
  have h1 : (S.take k ++ x :: S.drop k).Perm (x :: (S.take k ++ S.drop k)) := List.perm_middle
  rw [List.take_append_drop] at h1
  exact h1.trans (List.perm_append_comm (l₁ := [x]) (l₂ := S))
theorem leI_tr : ∀ a b c : Int, leI a b = true → leI b c = true → leI a c = true := fun a b c h1 h2 => by simp only [leI, decide_eq_true_eq] at *; omega
theorem leI_to : ∀ a b : Int, (leI a b || leI b a) = true := fun a b => by simp only [leI, Bool.or_eq_true, decide_eq_true_eq]; omega
theorem sorted_unique {l ids : List Int} (h : l.Pairwise fun a b => leI a b = true) (hp : l.Perm ids) : l = ids.mergeSort leI := by
  refine List.Perm.eq_of_pairwise (le := fun a b => leI a b = true) (fun a b _ _ h1 h2 => ?_) h (List.pairwise_mergeSort leI_tr leI_to ids) (hp.trans (List.mergeSort_perm ids leI).symm)
  simp only [leI, decide_eq_true_eq] at h1 h2
  omega
theorem sorted_pw (v : PV) : v.sorted.Pairwise fun a b => leI a b = true := List.pairwise_mergeSort leI_tr leI_to v.ids
theorem ins_sorted {v : PV} {k : Nat} {x : Int} (hk : k ≤ v.sorted.length) (h1 : ∀ y ∈ v.sorted.drop k, x < y) (h2 : ∀ j (hj : j + 1 = k), v.sorted[j]'(by omega) ≤ x) : ins v.sorted k x = (v.ids ++ [x]).mergeSort leI := by
  refine sorted_unique ?_ ((ins_perm _ _ _).trans ((List.mergeSort_perm v.ids leI).append_right [x]))
  have hs := sorted_pw v
  have hle : ∀ y ∈ v.sorted.take k, y ≤ x := by
    intro y hy
    obtain ⟨j, hj, rfl⟩ := List.getElem_of_mem hy
    rw [List.length_take] at hj
    rw [List.getElem_take]
    have h3 := h2 (k - 1) (by omega)
    by_cases e : j = k - 1
    · subst e; exact h3
    · have := List.pairwise_iff_getElem.1 hs j (k - 1) (by omega) (by omega) (by omega)
      simp only [leI, decide_eq_true_eq] at this
      omega
  unfold ins
  rw [List.pairwise_append]
  refine ⟨hs.sublist (List.take_sublist _ _), ?_, ?_⟩
  · rw [List.pairwise_cons]
    refine ⟨fun y hy => ?_, hs.sublist (List.drop_sublist _ _)⟩
    have := h1 y hy
    simp only [leI, decide_eq_true_eq]; omega
  · intro y hy z hz
    have h3 := hle y hy
    rcases List.mem_cons.1 hz with rfl | hz
    · simpa [leI] using h3
    · have := h1 z hz
      simp only [leI, decide_eq_true_eq]; omega
theorem info31 : (Try.prog.info? 31).map (fun i => (i.zero, i.size, i.bytes)) = some (some (.agg #[.int .i64 0, .int .i64 0, .int .i64 0, .int .i64 0, .int .i64 0]), 5, 40) := by kernel_rfl
end Go.Proofs.Ytmnkgjgaileokaa
