/- Plain laws on the number of open days: counted week by week less the closed days, and counted day by day. -/
import Derived.Test.YtjikgoeinilnjaaW5
import Derived.Lib.SlicesCompact
namespace Go.Proofs.Ytjikgoeinilnjaa

def opnW (c : Cal) (d : Int) : Bool := !c.wk (wkd d).toNat
/-- Day by day. -/
def cntR (c : Cal) (f : Int) : Nat → Int
  | 0 => 0
  | n + 1 => cntR c f n + if openB c (f + n) = true then 1 else 0
def cntW (c : Cal) (f : Int) : Nat → Int
  | 0 => 0
  | n + 1 => cntW c f n + if opnW c (f + n) = true then 1 else 0
/-- By weekdays: the first k of them. -/
def wk7 (c : Cal) (f : Int) (n : Int) : Nat → Int
  | 0 => 0
  | k + 1 => wk7 c f n k + if opnW c (f + k) = true then (n + 6 - k) / 7 else 0
theorem wkd_per (f : Int) (n : Nat) : wkd (f + n) = wkd (f + ((n % 7 : Nat) : Int)) := by
  unfold wkd; omega
theorem opnW_per (c : Cal) (f : Int) (n : Nat) : opnW c (f + n) = opnW c (f + ((n % 7 : Nat) : Int)) := by
  unfold opnW; rw [wkd_per]
theorem wk7_succ (c : Cal) (f : Int) (n k : Nat) (hk : k ≤ 7) :
    wk7 c f ((n + 1 : Nat) : Int) k = wk7 c f n k + if n % 7 < k then (if opnW c (f + ((n % 7 : Nat) : Int)) = true then 1 else 0) else 0 := by
  induction k with
  | zero => simp [wk7]
  | succ k ih =>
    rw [wk7, wk7, ih (by omega)]
    by_cases h1 : n % 7 = k
    · rw [if_neg (show ¬ n % 7 < k by omega), if_pos (show n % 7 < k + 1 by omega), h1]
      have e : (((n + 1 : Nat) : Int) + 6 - k) / 7 = ((n : Int) + 6 - k) / 7 + 1 := by omega
      rw [e]
      split <;> omega
    · have e : (((n + 1 : Nat) : Int) + 6 - k) / 7 = ((n : Int) + 6 - k) / 7 := by omega
      rw [e]
      by_cases h2 : n % 7 < k
      · rw [if_pos h2, if_pos (show n % 7 < k + 1 by omega)]; generalize (if opnW c (f + ↑k) = true then ((n : Int) + 6 - ↑k) / 7 else 0) = y; omega
      · rw [if_neg h2, if_neg (show ¬ n % 7 < k + 1 by omega)]; generalize (if opnW c (f + ↑k) = true then ((n : Int) + 6 - ↑k) / 7 else 0) = y; omega
theorem wk7_eq (c : Cal) (f : Int) (n : Nat) : wk7 c f n 7 = cntW c f n := by
  induction n with
  | zero => simp [wk7, cntW]
  | succ n ih => rw [cntW, ← ih, opnW_per, wk7_succ _ _ _ _ (by omega), if_pos (show n % 7 < 7 by omega)]
/-- The weekdays beyond the last day add nothing. -/
theorem wk7_short (c : Cal) (f n : Int) (k : Nat) (h : 0 ≤ n) (hk : n ≤ k) (h7 : k ≤ 7) : wk7 c f n k = wk7 c f n 7 := by
  have : ∀ j, k + j ≤ 7 → wk7 c f n (k + j) = wk7 c f n k := by
    intro j
    induction j with
    | zero => intro _; rfl
    | succ j ih =>
      intro hj
      rw [← Nat.add_assoc, wk7, ih (by omega)]
      split <;> omega
  have := this (7 - k) (by omega)
  rw [← this]; congr 1; omega

/-- The closed days that count: each once. -/
def prd (c : Cal) (f t d : Int) : Bool := decide (f ≤ d) && (decide (d < t) && opnW c d)
def refD (c : Cal) (f t : Int) (l : List Int) : Nat → Int
  | 0 => 0
  | k + 1 => refD c f t l k + if prd c f t (l.getD k 0) = true ∧ l.getD k 0 ∉ l.take k then 1 else 0
def firsts (l : List Int) : Nat → List Int
  | 0 => []
  | k + 1 => if l.getD k 0 ∈ l.take k then firsts l k else firsts l k ++ [l.getD k 0]
theorem take_succ_getD (l : List Int) (k : Nat) (h : k < l.length) : l.take (k + 1) = l.take k ++ [l.getD k 0] := by
  rw [List.take_succ_eq_append_getElem h, getD_get _ _ h]
theorem mem_firsts (l : List Int) (k : Nat) (hk : k ≤ l.length) (x : Int) : x ∈ firsts l k ↔ x ∈ l.take k := by
  induction k with
  | zero => simp [firsts]
  | succ k ih =>
    rw [firsts, take_succ_getD l k (by omega)]
    split
    · rename_i h
      rw [ih (by omega)]; simp only [List.mem_append, List.mem_singleton]
      exact ⟨.inl, fun h' => h'.elim id (fun e => e ▸ h)⟩
    · simp only [List.mem_append, List.mem_singleton, ih (by omega)]
theorem nodup_firsts (l : List Int) (k : Nat) (hk : k ≤ l.length) : (firsts l k).Nodup := by
  induction k with
  | zero => simp [firsts]
  | succ k ih =>
    rw [firsts]
    split
    · exact ih (by omega)
    · rename_i h
      refine List.nodup_append.2 ⟨ih (by omega), by simp, ?_⟩
      intro a ha b hb e
      simp at hb; subst hb; subst e
      exact h ((mem_firsts l k (by omega) _).1 ha)
theorem refD_eq (c : Cal) (f t : Int) (l : List Int) (k : Nat) : refD c f t l k = (((firsts l k).filter (prd c f t)).length : Int) := by
  induction k with
  | zero => simp [refD, firsts]
  | succ k ih =>
    rw [refD, firsts, ih]
    by_cases h : l.getD k 0 ∈ l.take k
    · rw [if_neg (fun e => e.2 h), if_pos h]; simp
    · rw [if_neg h, List.filter_append]
      generalize l.getD k 0 = y at *
      by_cases hp : prd c f t y = true
      · rw [if_pos ⟨hp, h⟩]; simp [hp]
      · rw [if_neg (fun e => hp e.1)]; simp [hp]
/-- Two lists without repetitions, of the same elements. -/
theorem len_of_same {l m : List Int} (hl : l.Nodup) (hm : m.Nodup) (h : ∀ x, x ∈ l ↔ x ∈ m) : l.length = m.length := by
  apply List.Perm.length_eq
  rw [List.perm_iff_count]
  intro a
  rw [hl.count, hm.count]; simp only [h]
/-- The days of a range that are closed by name, and open by weekday. -/
def inR (c : Cal) (f : Int) (n : Nat) : List Int := ((List.range n).map (fun i : Nat => f + (i : Int))).filter (fun d => decide (d ∈ c.days) && opnW c d)
theorem cnt_split (c : Cal) (f : Int) (n : Nat) (h0 : -719162 ≤ f) (h1 : f + n ≤ 2932897) : cntR c f n = cntW c f n - (inR c f n).length := by
  induction n with
  | zero => simp [cntR, cntW, inR]
  | succ n ih =>
    have hx : exB (f + n) = true := by rw [exB_iff]; omega
    have hs : inR c f (n + 1) = inR c f n ++ (if decide (f + (n : Int) ∈ c.days) && opnW c (f + n) then [f + (n : Int)] else []) := by
      rw [inR, List.range_succ, List.map_append, List.filter_append]; simp [List.filter_cons, inR]
    have ho : openB c (f + n) = (opnW c (f + n) && !decide (f + (n : Int) ∈ c.days)) := by simp [openB, hx, opnW]
    rw [cntR, cntW, ih (by omega), hs, ho]
    cases opnW c (f + n) <;> by_cases hd : f + (n : Int) ∈ c.days <;> simp [hd] <;> omega
theorem inR_firsts (c : Cal) (f : Int) (n : Nat) : (inR c f n).length = ((firsts c.days c.days.length).filter (prd c f (f + n))).length := by
  apply len_of_same
  · refine List.Pairwise.filter _ ?_
    rw [List.pairwise_map]
    exact (List.nodup_range).imp (fun h e => h (by omega))
  · exact List.Pairwise.filter _ (nodup_firsts _ _ (Nat.le_refl _))
  · intro x
    simp only [inR, List.mem_filter, List.mem_map, List.mem_range, mem_firsts _ _ (Nat.le_refl _), List.take_length, prd, Bool.and_eq_true, decide_eq_true_eq]
    constructor
    · rintro ⟨⟨i, hi, rfl⟩, hd, ho⟩; exact ⟨hd, by omega, by omega, ho⟩
    · rintro ⟨hd, h1, h2, ho⟩; exact ⟨⟨(x - f).toNat, by omega, by omega⟩, hd, ho⟩
/-- THE COUNT, by weekdays and closed days. -/
theorem cnt_eq (c : Cal) (f : Int) (n : Nat) (h0 : -719162 ≤ f) (h1 : f + n ≤ 2932897) :
    cntR c f n = wk7 c f n 7 - refD c f (f + n) c.days c.days.length := by
  rw [cnt_split c f n h0 h1, wk7_eq, refD_eq, inR_firsts]
theorem keeps_mem (s : List Int) (hs : s.Pairwise (· ≤ ·)) (m : Nat) (hm : m ≤ s.length) : (Go.Lib.compactUpTo s.toArray m).Nodup ∧ ∀ x, x ∈ Go.Lib.compactUpTo s.toArray m ↔ x ∈ s.take m := by
  induction m with
  | zero => simp [Go.Lib.compactUpTo]
  | succ m ih =>
    obtain ⟨h1, h2⟩ := ih (by omega)
    have gt : ∀ j, j < s.length → s.toArray[j]! = s.getD j 0 := by
      intro j hj
      rw [getElem!_pos s.toArray j (by simpa using hj), getD_get _ _ hj]; simp
    have le : ∀ i j, i ≤ j → j < s.length → s.getD i 0 ≤ s.getD j 0 := by
      intro i j hij hj
      rcases Nat.lt_or_ge i j with h | h
      · rw [getD_get _ _ (by omega), getD_get _ _ hj]; exact List.pairwise_iff_getElem.1 hs i j (by omega) hj h
      · obtain rfl : i = j := by omega
        exact Int.le_refl _
    rw [Go.Lib.compactUpTo_succ, take_succ_getD s m (by omega), gt m (by omega)]
    have key : Go.Lib.keeps s.toArray m = true ↔ s.getD m 0 ∉ s.take m := by
      rcases Nat.eq_zero_or_pos m with rfl | hp
      · simp [Go.Lib.keeps_lt_one _ 0 (by omega)]
      · by_cases e : s.getD m 0 = s.getD (m - 1) 0
        · rw [Go.Lib.keeps_neg hp (by rw [gt m (by omega), gt (m - 1) (by omega), e])]
          simp only [Bool.false_eq_true, false_iff, Classical.not_not]
          rw [e, getD_get _ _ (by omega)]
          exact List.mem_take_iff_getElem.2 ⟨m - 1, by omega, rfl⟩
        · rw [Go.Lib.keeps_pos (by rw [gt m (by omega), gt (m - 1) (by omega)]; exact e)]
          simp only [true_iff]
          intro hmem
          obtain ⟨j, hj, hje⟩ := List.mem_take_iff_getElem.1 hmem
          have hj' : j < m := by omega
          have a1 := le j (m - 1) (by omega) (by omega)
          have a2 := le (m - 1) m (by omega) (by omega)
          rw [← getD_get _ 0 (by omega)] at hje
          omega
    by_cases hk : Go.Lib.keeps s.toArray m = true
    · rw [if_pos hk]
      refine ⟨List.nodup_append.2 ⟨h1, by simp, ?_⟩, fun x => by simp only [List.mem_append, h2]⟩
      intro a ha b hb e'
      simp only [List.mem_singleton] at hb; subst hb; subst e'
      exact key.1 hk ((h2 _).1 ha)
    · rw [if_neg hk]
      refine ⟨by simpa using h1, fun x => ?_⟩
      have hm' : s.getD m 0 ∈ s.take m := Classical.not_not.1 (fun e => hk (key.2 e))
      simp only [List.append_nil, h2, List.mem_append, List.mem_singleton]
      exact ⟨.inl, fun h' => h'.elim id (fun e => e ▸ hm')⟩
/-- What the program counts: over the sorted days without repetitions. -/
theorem compact_count (c : Cal) (f t : Int) (l : List Int) : (((Go.Lib.compact (l.mergeSort fun x y => decide (x ≤ y))).filter (prd c f t)).length : Int) = refD c f t l l.length := by
  rw [refD_eq]
  have hs : (l.mergeSort fun x y => decide (x ≤ y)).Pairwise (· ≤ ·) := by
    have := List.pairwise_mergeSort (le := fun x y : Int => decide (x ≤ y)) (fun a b c h h' => by simp at *; omega) (fun a b => by simp; omega) l
    exact this.imp (by simp)
  obtain ⟨h1, h2⟩ := keeps_mem _ hs _ (Nat.le_refl _)
  congr 1
  apply len_of_same
  · exact List.Pairwise.filter _ h1
  · exact List.Pairwise.filter _ (nodup_firsts _ _ (Nat.le_refl _))
  · intro x
    have e : x ∈ Go.Lib.compact (l.mergeSort fun x y => decide (x ≤ y)) ↔ x ∈ l := by
      rw [Go.Lib.compact, h2, List.take_length]; exact List.mem_mergeSort
    rw [List.mem_filter, List.mem_filter, mem_firsts _ _ (Nat.le_refl _), List.take_length, e]
end Go.Proofs.Ytjikgoeinilnjaa
