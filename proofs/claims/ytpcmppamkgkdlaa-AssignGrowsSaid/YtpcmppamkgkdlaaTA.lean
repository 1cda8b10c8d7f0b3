/- Small problems, by trying all: that an assignment is the best one. -/
import Derived.Test.YtpcmppamkgkdlaaPL
namespace Go.Proofs.Ytpcmppamkgkdlaa
open Go.RowKit

theorem Mat.congr {P P' : Prob} (hm : P.m = P'.m) (ha : ∀ k c, c ∈ P.acc k ↔ c ∈ P'.acc k) {q : Nat → Option Nat} (h : Mat P q) : Mat P' q :=
  ⟨fun e => by have := h.ok e; rw [← hm, ← ha]; exact this, h.inj⟩
theorem tot_congr {P P' : Prob} (hm : P.m = P'.m) (hc : ∀ k c, c ∈ P.acc k → P.cst k c = P'.cst k c) {q : Nat → Option Nat} (h : Mat P q) : P.tot q = P'.tot q := by
  unfold Prob.tot
  rw [hm]
  refine sumN_congr fun k _ => ?_
  unfold Prob.one
  cases e : q k with
  | none => rfl
  | some c => exact hc k c (h.ok e).2
theorem Best.congr {P P' : Prob} (hm : P.m = P'.m) (ha : ∀ k c, c ∈ P.acc k ↔ c ∈ P'.acc k) (hc : ∀ k c, c ∈ P.acc k → P.cst k c = P'.cst k c) {cp : Nat → Option Nat} (h : Best P cp) : Best P' cp := by
  have ha' : ∀ k c, c ∈ P'.acc k ↔ c ∈ P.acc k := fun k c => (ha k c).symm
  have to : ∀ {q}, Mat P' q → Mat P q := fun h => h.congr hm.symm ha'
  refine ⟨h.mat.congr hm ha, fun k hk => ?_, fun hq hs => ?_, fun hq hs ht => ?_⟩
  · rw [h.greedy k (by rw [hm]; exact hk)]
    exact ⟨fun ⟨q, h1, h2⟩ => ⟨q, h1.congr hm ha, h2⟩, fun ⟨q, h1, h2⟩ => ⟨q, to h1, h2⟩⟩
  · rw [← tot_congr hm hc h.mat, ← tot_congr hm hc (to hq)]; exact h.cheap (to hq) hs
  · rw [← tot_congr hm hc h.mat, ← tot_congr hm hc (to hq)] at ht; exact h.least (to hq) hs ht
/-- The same problem, but for the order of what is accepted. -/
def prob' (L : List Wt) (A : List Int) (C : List (List Int)) : Prob where
  m := L.length
  n := A.length
  acc := fun k => (inn A.length (L.getD k noW).2).map Int.toNat
  cst := fun k c => wayI C (A.getD c 0) (L.getD k noW).1
  lt := fun k c h => by
    obtain ⟨x, hx, rfl⟩ := List.mem_map.1 h
    have := (mem_inn.1 hx).2; omega
theorem best_prob {L : List Wt} {A : List Int} {C : List (List Int)} {cp : Nat → Option Nat} (h : Best (prob' L A C) cp) : Best (prob L A C) cp :=
  Best.congr (P := prob' L A C) (P' := prob L A C) rfl (fun k c => by
    rw [prob_acc]
    show c ∈ (inn A.length (L.getD k noW).2).map Int.toNat ↔ _
    rw [List.mem_map]
    constructor
    · rintro ⟨x, hx, rfl⟩
      obtain ⟨h1, h2, h3⟩ := mem_inn.1 hx
      rw [show ((x.toNat : Nat) : Int) = x by omega]
      exact ⟨h1, by omega⟩
    · rintro ⟨h1, h2⟩
      exact ⟨c, mem_inn.2 ⟨h1, by omega, by omega⟩, by simp⟩) (fun _ _ _ => rfl) h

def mats (P : Prob) : Nat → List (List (Option Nat))
  | 0 => [[]]
  | k + 1 => (mats P k).flatMap fun l => (none :: ((P.acc k).filter fun c => !(l.contains (some c))).map some).map fun x => l ++ [x]
def lst (q : Nat → Option Nat) (m : Nat) : List (Option Nat) := (List.range m).map q
theorem lst_mats {P : Prob} {q : Nat → Option Nat} (h : Mat P q) : ∀ m, lst q m ∈ mats P m
  | 0 => by simp [lst, mats]
  | k + 1 => by
    have ih := lst_mats h k
    have e : lst q (k + 1) = lst q k ++ [q k] := by simp [lst, List.range_succ]
    rw [e, mats, List.mem_flatMap]
    refine ⟨_, ih, List.mem_map.2 ⟨q k, ?_, rfl⟩⟩
    cases hk : q k with
    | none => simp
    | some c =>
      refine List.mem_cons_of_mem _ (List.mem_map.2 ⟨c, List.mem_filter.2 ⟨(h.ok hk).2, ?_⟩, rfl⟩)
      have : ¬ some c ∈ lst q k := fun hm => by
        obtain ⟨j, hj, hjc⟩ := List.mem_map.1 hm
        have := h.inj hjc hk
        have := List.mem_range.1 hj
        omega
      simpa using this
theorem lst_getD {P : Prob} {q : Nat → Option Nat} (h : Mat P q) : (fun k => (lst q P.m).getD k none) = q := by
  funext k
  rcases Nat.lt_or_ge k P.m with hk | hk
  · simp [lst, hk]
  · rw [h.none hk]
    show (lst q P.m).getD k none = none
    rw [List.getD_eq_getElem?_getD, List.getElem?_eq_none (by simp [lst]; exact hk)]; rfl
def of (l : List (Option Nat)) : Nat → Option Nat := fun k => l.getD k none
def matB (P : Prob) (l : List (Option Nat)) : Bool := decide (l.length = P.m) && (List.range P.m).all fun k => match of l k with
  | none => true
  | some c => (P.acc k).contains c && (List.range P.m).all fun j => j == k || of l j != some c
theorem matB_mat {P : Prob} {l : List (Option Nat)} (h : matB P l = true) : Mat P (of l) := by
  simp only [matB, Bool.and_eq_true, decide_eq_true_eq, List.all_eq_true, List.mem_range] at h
  obtain ⟨hl, h⟩ := h
  have lt : ∀ k c, of l k = some c → k < P.m := fun k c e => by
    rcases Nat.lt_or_ge k P.m with g | g
    · exact g
    · unfold of at e; rw [List.getD_eq_getElem?_getD, List.getElem?_eq_none (by omega)] at e; cases e
  refine ⟨fun {k c} e => ⟨lt k c e, ?_⟩, fun {j k c} ej ek => ?_⟩
  · have := h k (lt k c e)
    rw [e] at this
    simp only [Bool.and_eq_true] at this
    simpa using this.1
  · have := h k (lt k c ek)
    rw [ek] at this
    simp only [Bool.and_eq_true, List.all_eq_true, List.mem_range] at this
    have h2 := this.2 j (lt j c ej)
    rw [ej] at h2
    simpa using h2
def bestB (P : Prob) (l : List (Option Nat)) : Bool :=
  matB P l && (List.range P.m).all (fun k => (of l k).isSome || (mats P P.m).all fun q => !((List.range k).all (fun j => !(of l j).isSome || (of q j).isSome) && (of q k).isSome)) &&
    (mats P P.m).all fun q => !((List.range P.m).all fun k => (of l k).isSome == (of q k).isSome) || (decide (P.tot (of l) ≤ P.tot (of q)) &&
      (!decide (P.tot (of q) = P.tot (of l)) || (List.range P.m).all fun k => !((List.range k).all fun j => of q j == of l j) || match of l k, of q k with
        | some c, some d => decide (c ≤ d)
        | _, _ => true))
theorem bestB_best {P : Prob} {l : List (Option Nat)} (h : bestB P l = true) : Best P (of l) := by
  simp only [bestB, Bool.and_eq_true] at h
  obtain ⟨⟨h1, h2⟩, h3⟩ := h
  have hm := matB_mat h1
  have qo : ∀ {q}, Mat P q → of (lst q P.m) = q := fun hq => lst_getD hq
  have key : ∀ {q}, Mat P q → Same (of l) q → P.tot (of l) ≤ P.tot q ∧ (P.tot q = P.tot (of l) → ∀ {k c d}, (∀ j, j < k → q j = of l j) → of l k = some c → q k = some d → c ≤ d) := fun {q} hq hs => by
    have := List.all_eq_true.1 h3 _ (lst_mats hq P.m)
    rw [qo hq] at this
    have hs' : ((List.range P.m).all fun k => (of l k).isSome == (q k).isSome) = true := by
      rw [List.all_eq_true]; intro k _; simpa using hs k
    rw [hs'] at this
    simp only [Bool.not_true, Bool.false_or, Bool.and_eq_true, decide_eq_true_eq] at this
    refine ⟨this.1, fun ht k c d hag hk hqk => ?_⟩
    have h4 := this.2
    rw [decide_eq_true ht] at h4
    simp only [Bool.not_true, Bool.false_or] at h4
    have h5 := List.all_eq_true.1 h4 k (List.mem_range.2 (hm.ok hk).1)
    have h6 : ((List.range k).all fun j => q j == of l j) = true := by
      rw [List.all_eq_true]; intro j hj; simpa using hag j (List.mem_range.1 hj)
    rw [h6, hk, hqk] at h5
    simpa using h5
  refine ⟨hm, Greedy.of hm fun k hk hn q hq hqs => ?_, fun hq hs => (key hq hs).1, fun hq hs ht => (key hq hs).2 ht⟩
  have := List.all_eq_true.1 h2 k (List.mem_range.2 hk)
  rw [hn] at this
  simp only [Option.isSome_none, Bool.false_or] at this
  have h4 := List.all_eq_true.1 this _ (lst_mats hq P.m)
  rw [qo hq] at h4
  have h5 : ((List.range k).all fun j => !(of l j).isSome || (q j).isSome) = true := by
    rw [List.all_eq_true]
    intro j hj
    have := hqs j (List.mem_range.1 hj)
    cases e : (of l j).isSome with
    | false => rfl
    | true => simp [this e]
  rw [h5] at h4
  simp only [Bool.true_and, Bool.not_eq_true'] at h4
  cases e : q k with
  | none => rfl
  | some c => rw [e] at h4; simp at h4
def sanA : List Int := [0, 1]
def sanC : List (List Int) := [[0, 5], [5, 0]]
theorem san1 : Best (prob [(1, [0, 1])] sanA sanC) (of [some 1]) := best_prob (bestB_best (by decide +kernel))
theorem san2 : Best (prob [(1, [0, 1]), (1, [1])] sanA sanC) (of [some 0, some 1]) := best_prob (bestB_best (by decide +kernel))
theorem san3 : Best (prob [(0, [1]), (1, [1]), (0, [0, 1])] sanA sanC) (of [some 1, none, some 0]) := best_prob (bestB_best (by decide +kernel))
theorem san4 : Best (prob [(0, [0, 1]), (0, [0, 1])] sanA sanC) (of [some 0, some 1]) := best_prob (bestB_best (by decide +kernel))
end Go.Proofs.Ytpcmppamkgkdlaa
