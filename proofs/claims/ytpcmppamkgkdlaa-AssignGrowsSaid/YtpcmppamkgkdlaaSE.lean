/- The exchanges that are possible, as a list. -/
import Derived.Test.YtpcmppamkgkdlaaSA
namespace Go.Proofs.Ytpcmppamkgkdlaa
open Go.RowKit

section
variable (P : Prob) (first : Nat) (cp wn : Nat → Option Nat)
def edI (k u i : Nat) : List Edge := (((P.acc k).take i).filter fun v => v != u).map fun v => (u, v, P.cst k v - P.cst k u)
def edK (k : Nat) : List Edge := match cp k with
  | none => []
  | some u => edI P k u (P.acc k).length
def edA : Nat → List Edge
  | 0 => []
  | k + 1 => if first ≤ k then edA k ++ edK P cp k else edA k
def edO (c : Nat) : List Edge := match wn c with
  | none => [(c, P.n, 0)]
  | some k => if first ≤ k then [(P.n, c, 0)] else []
def edB : Nat → List Edge
  | 0 => []
  | c + 1 => edB c ++ edO P first wn c
def edL : List Edge := edA P first cp P.m ++ edB P first wn P.n
end
variable {P : Prob} {first : Nat} {cp wn : Nat → Option Nat}
theorem edA_first : ∀ k, k ≤ first → edA P first cp k = []
  | 0, _ => rfl
  | k + 1, h => by rw [edA, if_neg (by omega)]; exact edA_first k (by omega)
theorem edI_len (k u i : Nat) : (edI P k u i).length ≤ i := by
  have := List.length_filter_le (fun v => v != u) ((P.acc k).take i)
  simp only [edI, List.length_map]
  have := List.length_take_le i (P.acc k)
  omega
theorem edI_yes {k u i : Nat} (hi : i < (P.acc k).length) (h : (P.acc k).getD i 0 ≠ u) : edI P k u (i + 1) = edI P k u i ++ [(u, (P.acc k).getD i 0, P.cst k ((P.acc k).getD i 0) - P.cst k u)] := by
  rw [edI, List.take_succ_eq_append_getElem hi, ← getD_get _ 0 hi, List.filter_append, List.map_append]
  generalize (P.acc k).getD i 0 = x at *
  have hb : (x != u) = true := by simpa using h
  rw [List.filter_cons, if_pos hb]; rfl
theorem edI_no {k u i : Nat} (hi : i < (P.acc k).length) (h : (P.acc k).getD i 0 = u) : edI P k u (i + 1) = edI P k u i := by
  rw [edI, List.take_succ_eq_append_getElem hi, ← getD_get _ 0 hi, List.filter_append, List.map_append]
  generalize (P.acc k).getD i 0 = x at *
  have hb : ¬ (x != u) = true := by simpa using h
  rw [List.filter_cons, if_neg hb]; simp [edI]
theorem edO_none {c : Nat} (h : wn c = none) : edO P first wn c = [(c, P.n, 0)] := by unfold edO; rw [h]
theorem edO_some {c k : Nat} (h : wn c = some k) : edO P first wn c = if first ≤ k then [(P.n, c, 0)] else [] := by unfold edO; rw [h]
theorem edA_len (hP : ∀ k, (P.acc k).length ≤ 1000) : ∀ k, (edA P first cp k).length ≤ 1000 * k
  | 0 => Nat.le_refl _
  | k + 1 => by
    have h := edA_len hP k
    rw [edA]
    split
    · have h2 : (edK P cp k).length ≤ 1000 := by
        unfold edK
        split
        · simp
        · have := edI_len (P := P) k (by assumption) (P.acc k).length
          have := hP k; omega
      simp only [List.length_append]; omega
    · omega
theorem edB_len : ∀ c, (edB P first wn c).length ≤ c
  | 0 => Nat.le_refl _
  | c + 1 => by
    have h := edB_len c
    rw [edB, List.length_append]
    have : (edO P first wn c).length ≤ 1 := by
      cases e : wn c with
      | none => rw [edO_none e]; simp
      | some k => rw [edO_some e]; split <;> simp
    omega
theorem mem_edA {u v : Nat} {w : Int} : ∀ n, (u, v, w) ∈ edA P first cp n ↔ ∃ k, k < n ∧ first ≤ k ∧ cp k = some u ∧ v ∈ P.acc k ∧ v ≠ u ∧ w = P.cst k v - P.cst k u
  | 0 => by simp [edA]
  | n + 1 => by
    have ih := mem_edA (u := u) (v := v) (w := w) n
    have hK : (u, v, w) ∈ edK P cp n ↔ cp n = some u ∧ v ∈ P.acc n ∧ v ≠ u ∧ w = P.cst n v - P.cst n u := by
      unfold edK
      cases e : cp n with
      | none => simp
      | some x =>
        simp only [edI, List.take_length, List.mem_map, List.mem_filter, bne_iff_ne, Option.some.injEq]
        constructor
        · rintro ⟨y, ⟨h1, h2⟩, h3⟩
          injection h3 with h3 h4; injection h4 with h4 h5
          subst h3 h4
          exact ⟨rfl, h1, h2, h5.symm⟩
        · rintro ⟨rfl, h1, h2, rfl⟩
          exact ⟨v, ⟨h1, h2⟩, rfl⟩
    rw [edA]
    constructor
    · intro h
      split at h
      · rcases List.mem_append.1 h with h | h
        · obtain ⟨k, h1, h2⟩ := ih.1 h
          exact ⟨k, by omega, h2⟩
        · exact ⟨n, by omega, by assumption, hK.1 h⟩
      · obtain ⟨k, h1, h2⟩ := ih.1 h
        exact ⟨k, by omega, h2⟩
    · rintro ⟨k, h1, h2, h3⟩
      by_cases e : k = n
      · subst e
        rw [if_pos h2]
        exact List.mem_append.2 (.inr (hK.2 h3))
      · have := ih.2 ⟨k, by omega, h2, h3⟩
        split
        · exact List.mem_append.2 (.inl this)
        · exact this
theorem mem_edB {u v : Nat} {w : Int} : ∀ n, (u, v, w) ∈ edB P first wn n ↔ (u < n ∧ wn u = none ∧ v = P.n ∧ w = 0) ∨ (v < n ∧ u = P.n ∧ w = 0 ∧ ∃ k, first ≤ k ∧ wn v = some k)
  | 0 => by simp [edB]
  | n + 1 => by
    have ih := mem_edB (u := u) (v := v) (w := w) n
    have hK : (u, v, w) ∈ edO P first wn n ↔ (u = n ∧ wn u = none ∧ v = P.n ∧ w = 0) ∨ (v = n ∧ u = P.n ∧ w = 0 ∧ ∃ k, first ≤ k ∧ wn v = some k) := by
      cases e : wn n with
      | none =>
        rw [edO_none e]
        simp only [List.mem_singleton, Prod.mk.injEq]
        constructor
        · rintro ⟨h1, h2, h3⟩; exact .inl ⟨h1, by rw [h1]; exact e, h2, h3⟩
        · rintro (⟨h1, h2, h3, h4⟩ | ⟨h1, h2, h3, k, h4, h5⟩)
          · exact ⟨h1, h3, h4⟩
          · rw [h1, e] at h5; cases h5
      | some k =>
        rw [edO_some e]
        constructor
        · intro h
          split at h
          · simp only [List.mem_singleton, Prod.mk.injEq] at h
            obtain ⟨h1, h2, h3⟩ := h
            exact .inr ⟨h2, h1, h3, k, by assumption, by rw [h2]; exact e⟩
          · cases h
        · rintro (⟨h1, h2, h3, h4⟩ | ⟨h1, h2, h3, k', h4, h5⟩)
          · rw [h1, e] at h2; cases h2
          · rw [h1, e] at h5; injection h5 with h5; subst h5
            rw [if_pos h4, h1, h2, h3]; simp
    rw [edB, List.mem_append, ih, hK]
    constructor
    · rintro ((⟨h1, h2⟩ | ⟨h1, h2⟩) | (⟨h1, h2⟩ | ⟨h1, h2⟩))
      · exact .inl ⟨by omega, h2⟩
      · exact .inr ⟨by omega, h2⟩
      · exact .inl ⟨by omega, h2⟩
      · exact .inr ⟨by omega, h2⟩
    · rintro (⟨h1, h2⟩ | ⟨h1, h2⟩)
      · by_cases e : u = n
        · exact .inr (.inl ⟨e, h2⟩)
        · exact .inl (.inl ⟨by omega, h2⟩)
      · by_cases e : v = n
        · exact .inr (.inr ⟨e, h2⟩)
        · exact .inl (.inr ⟨by omega, h2⟩)
theorem edL_edges (hm : Mat P cp) (hc : Con cp wn) : Edges P first cp wn (edL P first cp wn) := by
  intro u v w
  unfold edL Ed
  rw [List.mem_append, mem_edA, mem_edB]
  constructor
  · rintro (⟨k, h1, h2, h3, h4, h5, h6⟩ | ⟨h1, h2, h3, h4⟩ | ⟨h1, h2, h3, k, h4, h5⟩)
    · refine ⟨.inl ⟨k, h2, h3, h4, h5⟩, ?_⟩
      have hu := P.lt k u (hm.ok h3).2
      have hv := P.lt k v h4
      unfold Prob.wt
      rw [if_pos ⟨hu, hv⟩, (hc k u).1 h3, h6]; rfl
    · refine ⟨.inr (.inl ⟨h1, h2, h3⟩), ?_⟩
      unfold Prob.wt
      rw [if_neg (by omega), h4]
    · refine ⟨.inr (.inr ⟨h2, h1, k, h4, h5⟩), ?_⟩
      unfold Prob.wt
      rw [if_neg (by omega), h3]
  · rintro ⟨⟨k, h2, h3, h4, h5⟩ | ⟨h1, h2, h3⟩ | ⟨h2, h1, k, h4, h5⟩, hw⟩
    · have hu := P.lt k u (hm.ok h3).2
      have hv := P.lt k v h4
      refine .inl ⟨k, (hm.ok h3).1, h2, h3, h4, h5, ?_⟩
      rw [hw]; unfold Prob.wt
      rw [if_pos ⟨hu, hv⟩, (hc k u).1 h3]; rfl
    · refine .inr (.inl ⟨h1, h2, h3, ?_⟩)
      rw [hw]; unfold Prob.wt
      rw [if_neg (by omega)]
    · refine .inr (.inr ⟨h1, h2, ?_, k, h4, h5⟩)
      rw [hw]; unfold Prob.wt
      rw [if_neg (by omega)]

/-- Edges in memory. -/
def enc3 (e : Edge) : List Value := [.int .i64 e.1, .int .i64 e.2.1, .int .i64 e.2.2]
def encE : List Edge → List Value
  | [] => []
  | e :: l => enc3 e ++ encE l
theorem encE_app : ∀ (l : List Edge) (e : Edge), encE (l ++ [e]) = encE l ++ enc3 e
  | [], e => by simp [encE]
  | x :: l, e => by simp [encE, encE_app l e]
theorem encE_get : ∀ (l : List Edge) (j : Nat) (h : j < l.length) (i : Nat), i < 3 → (encE l)[j * 3 + i]? = (enc3 l[j])[i]?
  | e :: l, 0, _, i, hi => by
    have : i < (enc3 e).length := hi
    simp only [encE, Nat.zero_mul, Nat.zero_add, List.getElem_cons_zero]
    rw [List.getElem?_append_left this]
  | e :: l, j + 1, h, i, hi => by
    have : (enc3 e).length = 3 := rfl
    simp only [encE]
    rw [List.getElem?_append_right (by omega), this, show (j + 1) * 3 + i - 3 = j * 3 + i by omega]
    exact encE_get l j (by simpa using h) i hi
/-- A slice of edges that lies in new memory. -/
def EdAt (w : World) (B : Nat) (v : Value) (E : List Edge) : Prop :=
  ∃ a cap, v = .slice a E.length cap ∧ (E = [] ∨ ∃ g, a = some ⟨g, 0, none⟩ ∧ B ≤ g ∧ ∀ j (hj : j < E.length) i, i < 3 → w.cell? ⟨g, j * 3 + i, none⟩ = (enc3 E[j])[i]?)
theorem EdAt.of {w : World} {B : Nat} {v : Value} {E : List Edge} (h : w.ownsRow B 81 3 v E.length (encE E)) : EdAt w B v E := by
  obtain ⟨h0, ⟨rfl, hn⟩ | ⟨g, c', cur, rfl, hg, hh, hn, hm, hcs, hx⟩⟩ := h
  · exact ⟨none, 0, by rw [hn], .inl (List.eq_nil_of_length_eq_zero hn)⟩
  · refine ⟨_, _, rfl, .inr ⟨g, rfl, hg, fun j hj i hi => ?_⟩⟩
    rw [← encE_get E j hj i hi, ← hx, List.getElem?_take_of_lt (by omega)]
    simp [World.cell?, hh]
theorem EdAt.keep {w w' : World} {F : Nat → Prop} {B : Nat} {v : Value} {E : List Edge} (h : EdAt w B v E) (t : Tn F w w') (hF : ∀ b, B ≤ b → b < w.heap.size → ¬ F b) : EdAt w' B v E := by
  obtain ⟨a, cap, rfl, h | ⟨g, rfl, hg, hc⟩⟩ := h
  · exact ⟨a, cap, rfl, .inl h⟩
  · refine ⟨_, cap, rfl, .inr ⟨g, rfl, hg, fun j hj i hi => ?_⟩⟩
    have h1 := hc j hj i hi
    have h2 : (enc3 E[j])[i]? = some ((enc3 E[j])[i]) := List.getElem?_eq_getElem hi
    rw [h2] at h1 ⊢
    exact t.cell h1 (hF g hg (cell_lt h1))
end Go.Proofs.Ytpcmppamkgkdlaa
