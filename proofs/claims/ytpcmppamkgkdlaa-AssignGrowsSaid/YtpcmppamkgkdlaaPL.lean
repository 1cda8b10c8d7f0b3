/- The problem of given wants, branches and costs: what is accepted, in order; how it lies in memory. -/
import Derived.Test.YtpcmppamkgkdlaaRC
import Derived.Test.YtpcmppamkgkdlaaPK
namespace Go.Proofs.Ytpcmppamkgkdlaa
open Go.RowKit

theorem take_succD {α : Type} {l : List α} {d : α} (j : Nat) (h : j < l.length) : l.take (j + 1) = l.take j ++ [l.getD j d] := by
  rw [List.take_succ_eq_append_getElem h, getD_get _ _ h]
theorem keeps_mem (s : List Int) (hs : s.Pairwise (· ≤ ·)) (m : Nat) (hm : m ≤ s.length) : (Go.Lib.compactUpTo s.toArray m).Nodup ∧ ∀ x, x ∈ Go.Lib.compactUpTo s.toArray m ↔ x ∈ s.take m := by
  induction m with
  | zero => simp [Go.Lib.compactUpTo]
  | succ m ih =>
    obtain ⟨h1, h2⟩ := ih (by omega)
    have gt : ∀ j, j < s.length → s.toArray[j]! = s.getD j 0 := by
      intro j hj
      rw [getElem!_pos s.toArray j (by simpa using hj), getD_get _ _ hj]; simp
    have le : ∀ i j, i ≤ j → j < s.length → s.getD i 0 ≤ s.getD j 0 := by
      intro i j hij hj
      rcases Nat.lt_or_ge i j with h | h
      · rw [getD_get _ _ (by omega), getD_get _ _ hj]; exact List.pairwise_iff_getElem.1 hs i j (by omega) hj h
      · obtain rfl : i = j := by omega
        exact Int.le_refl _
    rw [Go.Lib.compactUpTo_succ, take_succD (d := 0) m (by omega), gt m (by omega)]
    have key : Go.Lib.keeps s.toArray m = true ↔ s.getD m 0 ∉ s.take m := by
      rcases Nat.eq_zero_or_pos m with rfl | hp
      · simp [Go.Lib.keeps_lt_one _ 0 (by omega)]
      · by_cases e : s.getD m 0 = s.getD (m - 1) 0
        · rw [Go.Lib.keeps_neg hp (by rw [gt m (by omega), gt (m - 1) (by omega), e])]
          simp only [Bool.false_eq_true, false_iff, Classical.not_not]
          rw [e, getD_get _ _ (by omega)]
          exact List.mem_take_iff_getElem.2 ⟨m - 1, by omega, rfl⟩
        · rw [Go.Lib.keeps_pos (by rw [gt m (by omega), gt (m - 1) (by omega)]; exact e)]
          simp only [true_iff]
          intro hmem
          obtain ⟨j, hj, hje⟩ := List.mem_take_iff_getElem.1 hmem
          have hj' : j < m := by omega
          have a1 := le j (m - 1) (by omega) (by omega)
          have a2 := le (m - 1) m (by omega) (by omega)
          rw [← getD_get _ 0 (by omega)] at hje
          omega
    by_cases hk : Go.Lib.keeps s.toArray m = true
    · rw [if_pos hk]
      refine ⟨List.nodup_append.2 ⟨h1, by simp, ?_⟩, fun x => by simp only [List.mem_append, h2]⟩
      intro a ha b hb e'
      simp only [List.mem_singleton] at hb; subst hb; subst e'
      exact key.1 hk ((h2 _).1 ha)
    · rw [if_neg hk]
      refine ⟨by simpa using h1, fun x => ?_⟩
      have hm' : s.getD m 0 ∈ s.take m := Classical.not_not.1 (fun e => hk (key.2 e))
      simp only [List.append_nil, h2, List.mem_append, List.mem_singleton]
      exact ⟨.inl, fun h' => h'.elim id (fun e => e ▸ hm')⟩
theorem sort_le (l : List Int) : (l.mergeSort fun x y => decide (x ≤ y)).Pairwise (· ≤ ·) := by
  have := List.pairwise_mergeSort (le := fun x y : Int => decide (x ≤ y)) (fun a b c h1 h2 => by simp at *; omega) (fun a b => by simp; omega) l
  exact this.imp (fun h => by simpa using h)
theorem compact_le (s : List Int) (hs : s.Pairwise (· ≤ ·)) : (Go.Lib.compact s).Pairwise (· ≤ ·) := by
  unfold Go.Lib.compact Go.Lib.compactUpTo
  rw [List.pairwise_map]
  have hr : ((List.range s.length).filter (Go.Lib.keeps s.toArray)).Pairwise (· < ·) := List.Pairwise.filter _ List.pairwise_lt_range
  refine List.Pairwise.imp_of_mem ?_ hr
  intro a b ha hb hab
  have hb' := List.mem_range.1 (List.mem_filter.1 hb).1
  rw [getElem!_pos s.toArray a (by simp; omega), getElem!_pos s.toArray b (by simpa using hb')]
  simpa using List.pairwise_iff_getElem.1 hs a b (by omega) hb' hab

/-- The copies that exist. -/
def inn (n : Nat) (l : List Int) : List Int := l.filter fun c => decide (0 ≤ c) && decide (c < (n : Int))
theorem mem_inn {n : Nat} {l : List Int} {x : Int} : x ∈ inn n l ↔ x ∈ l ∧ 0 ≤ x ∧ x < n := by simp [inn]
theorem inn_len (n : Nat) (l : List Int) : (inn n l).length ≤ l.length := List.length_filter_le _ _
theorem inn_yes {n : Nat} {l : List Int} {j : Nat} (hj : j < l.length) (h0 : 0 ≤ l.getD j 0) (h1 : l.getD j 0 < n) : inn n (l.take (j + 1)) = inn n (l.take j) ++ [l.getD j 0] := by
  rw [take_succD (d := 0) j hj, inn, List.filter_append]
  simp only [List.filter_cons, h0, h1, decide_true, Bool.and_self, if_true, List.filter_nil]; rfl
theorem inn_no {n : Nat} {l : List Int} {j : Nat} (hj : j < l.length) (h : ¬ (0 ≤ l.getD j 0 ∧ l.getD j 0 < n)) : inn n (l.take (j + 1)) = inn n (l.take j) := by
  rw [take_succD (d := 0) j hj, inn, List.filter_append]
  have e : (decide (0 ≤ l.getD j 0) && decide (l.getD j 0 < (n : Int))) = false := by
    rw [Bool.and_eq_false_iff]; simp only [decide_eq_false_iff_not]; omega
  simp only [List.filter_cons, e, List.filter_nil]; simp [inn]
/-- What is accepted, in increasing order. -/
def accI (n : Nat) (l : List Int) : List Int := Go.Lib.compact ((inn n l).mergeSort fun x y => decide (x ≤ y))
theorem mem_accI {n : Nat} {l : List Int} {x : Int} : x ∈ accI n l ↔ x ∈ l ∧ 0 ≤ x ∧ x < n := by
  rw [accI, Go.Lib.compact, (keeps_mem _ (sort_le _) _ (Nat.le_refl _)).2, List.take_length, List.mem_mergeSort, mem_inn]
theorem accI_lt (n : Nat) (l : List Int) : (accI n l).Pairwise (· < ·) := by
  have h1 := compact_le _ (sort_le (inn n l))
  have h2 := (keeps_mem _ (sort_le (inn n l)) _ (Nat.le_refl _)).1
  exact (h1.and h2).imp fun h => by omega
theorem accI_len (n : Nat) (l : List Int) : (accI n l).length ≤ l.length := by
  have h1 := compact_len ((inn n l).mergeSort fun x y => decide (x ≤ y))
  have h2 := inn_len n l
  rw [List.length_mergeSort] at h1
  unfold accI; omega

def prob (L : List Wt) (A : List Int) (C : List (List Int)) : Prob where
  m := L.length
  n := A.length
  acc := fun k => (accI A.length (L.getD k noW).2).map Int.toNat
  cst := fun k c => wayI C (A.getD c 0) (L.getD k noW).1
  lt := fun k c h => by
    obtain ⟨x, hx, rfl⟩ := List.mem_map.1 h
    have := (mem_accI.1 hx).2; omega
theorem prob_acc {L : List Wt} {A : List Int} {C : List (List Int)} {k c : Nat} : c ∈ (prob L A C).acc k ↔ (c : Int) ∈ (L.getD k noW).2 ∧ c < A.length := by
  show c ∈ (accI A.length (L.getD k noW).2).map Int.toNat ↔ _
  rw [List.mem_map]
  constructor
  · rintro ⟨x, hx, rfl⟩
    obtain ⟨h1, h2, h3⟩ := mem_accI.1 hx
    rw [show ((x.toNat : Nat) : Int) = x by omega]
    exact ⟨h1, by omega⟩
  · rintro ⟨h1, h2⟩
    exact ⟨c, mem_accI.2 ⟨h1, by omega, by omega⟩, by simp⟩
theorem prob_cst (L : List Wt) (A : List Int) (C : List (List Int)) (k c : Nat) : 0 ≤ (prob L A C).cst k c ∧ (prob L A C).cst k c ≤ 1000000 := wayI_bd _ _ _
/-- A list of numbers, as integers. -/
def ints (l : List Nat) : List Int := l.map fun c : Nat => (c : Int)
theorem prob_ints (L : List Wt) (A : List Int) (C : List (List Int)) (k : Nat) : ints ((prob L A C).acc k) = accI A.length (L.getD k noW).2 := by
  show ((accI A.length (L.getD k noW).2).map Int.toNat).map (fun c : Nat => (c : Int)) = _
  rw [List.map_map]
  conv => rhs; rw [← List.map_id (accI A.length (L.getD k noW).2)]
  refine List.map_congr_left fun x hx => ?_
  have := (mem_accI.1 hx).2
  simp; omega
theorem prob_sorted (L : List Wt) (A : List Int) (C : List (List Int)) (k : Nat) : ((prob L A C).acc k).Pairwise (· < ·) := by
  show ((accI A.length (L.getD k noW).2).map Int.toNat).Pairwise _
  rw [List.pairwise_map]
  refine List.Pairwise.imp_of_mem ?_ (accI_lt A.length (L.getD k noW).2)
  intro a b ha hb hab
  have h1 := (mem_accI.1 ha).2
  have h2 := (mem_accI.1 hb).2
  omega

/-- How an opened problem lies below block B. -/
structure PM (P : Prob) (w : World) (B : Nat) (av kv : Value) : Prop where
  acc : ∃ a cap, av = .slice a P.m cap ∧ ∀ k, k < P.m → ∃ g u, a = some ⟨g, 0, none⟩ ∧ g < B ∧ w.cell? ⟨g, k, none⟩ = some u ∧ Ints w B u (ints (P.acc k))
  cst : ∃ a cap, kv = .slice a P.m cap ∧ ∀ k, k < P.m → ∃ g mb, a = some ⟨g, 0, none⟩ ∧ g < B ∧ w.cell? ⟨g, k, none⟩ = some (.map (some mb)) ∧ mb < B ∧ MapAt w mb (ints (P.acc k)) (fun x => P.cst k x.toNat)
theorem PM.below {P : Prob} {w w' : World} {B C : Nat} {av kv : Value} (h : PM P w B av kv) (hb : Below C w w') (hC : B ≤ C) : PM P w' B av kv where
  acc := by
    obtain ⟨a, cap, e, hk⟩ := h.acc
    refine ⟨a, cap, e, fun k hkm => ?_⟩
    obtain ⟨g, u, h1, h2, h3, h4⟩ := hk k hkm
    exact ⟨g, u, h1, h2, (hb.cell (p := ⟨g, k, none⟩) (by show g < C; omega)).trans h3, h4.below hb hC⟩
  cst := by
    obtain ⟨a, cap, e, hk⟩ := h.cst
    refine ⟨a, cap, e, fun k hkm => ?_⟩
    obtain ⟨g, u, h1, h2, h3, h4, h5⟩ := hk k hkm
    exact ⟨g, u, h1, h2, (hb.cell (p := ⟨g, k, none⟩) (by show g < C; omega)).trans h3, h4, h5.keep (F := fun b => C ≤ b) (Tn.of_below' hb fun _ h _ => h) (by omega)⟩
end Go.Proofs.Ytpcmppamkgkdlaa
