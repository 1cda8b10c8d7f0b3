/- Walking back: chains, circles, and that circles are negative. -/
import Derived.Test.YtpcmppamkgkdlaaPB
namespace Go.Proofs.Ytpcmppamkgkdlaa

theorem pigeon : ∀ (N : Nat) (f : Nat → Nat), (∀ i, i ≤ N → f i < N) → ∃ i j, i < j ∧ j ≤ N ∧ f i = f j
  | 0, f, h => absurd (h 0 (Nat.le_refl _)) (by omega)
  | N + 1, f, h => by
    by_cases h0 : ∃ i, i ≤ N ∧ f i = f (N + 1)
    · obtain ⟨i, hi, e⟩ := h0
      exact ⟨i, N + 1, by omega, Nat.le_refl _, e⟩
    · have hne : ∀ i, i ≤ N → f i ≠ f (N + 1) := fun i hi e => h0 ⟨i, hi, e⟩
      obtain ⟨i, j, h1, h2, h3⟩ := pigeon N (fun i => if f (N + 1) < f i then f i - 1 else f i) (fun i hi => by
        have := h i (by omega)
        have := h (N + 1) (Nat.le_refl _)
        have := hne i hi
        split <;> omega)
      refine ⟨i, j, h1, by omega, ?_⟩
      have a := hne i (by omega)
      have b := hne j (by omega)
      split at h3 <;> split at h3 <;> omega

def itr (f : Nat → Nat) : Nat → Nat → Nat
  | 0, v => v
  | i + 1, v => f (itr f i v)
theorem itr_add (f : Nat → Nat) (j v : Nat) : ∀ i, itr f (i + j) v = itr f i (itr f j v)
  | 0 => by rw [Nat.zero_add]; rfl
  | i + 1 => by rw [Nat.add_right_comm]; show f _ = f _; rw [itr_add f j v i]

def BF.pre (s : BF) (v : Nat) : Nat := (s.bef v).getD v
/-- The walk back from v has so many steps. -/
def Back (s : BF) (v N : Nat) : Prop := ∀ i, i < N → s.bef (itr s.pre i v) = some (itr s.pre (i + 1) v)

section
variable {E : List Edge} {wt : Nat → Nat → Int} {src : Option Nat} {r : Nat} {done : Nat → Nat → Prop} {s : BF} {tm rd : Nat → Nat} {T : Nat}

theorem Inv.back (h : Inv E wt src r done s tm rd T) {v : Nat} {N : Nat} (hv : N ≤ rd v) : Back s v N := by
  have key : ∀ i, i ≤ N → N - i ≤ rd (itr s.pre i v) ∧ (i < N → s.bef (itr s.pre i v) = some (itr s.pre (i + 1) v)) := by
    intro i
    induction i with
    | zero =>
      intro _
      refine ⟨by simpa [itr] using hv, fun hN => ?_⟩
      show s.bef v = some ((s.bef v).getD v)
      cases e : s.bef v with
      | none => have := (h.nb v e).1; omega
      | some u => rfl
    | succ i ih =>
      intro hi
      obtain ⟨h1, h2⟩ := ih (by omega)
      have h3 := (h.edge (h2 (by omega))).2.2.2.2
      refine ⟨by omega, fun hN => ?_⟩
      show s.bef (itr s.pre (i + 1) v) = some ((s.bef (itr s.pre (i + 1) v)).getD _)
      cases e : s.bef (itr s.pre (i + 1) v) with
      | none => have := (h.nb _ e).1; omega
      | some u => rfl
  exact fun i hi => (key i (by omega)).2 hi

theorem sumN_tele (f : Nat → Int) : ∀ p, sumN (fun i => f i - f (i + 1)) p = f 0 - f p
  | 0 => by simp [sumN]
  | p + 1 => by simp only [sumN, sumN_tele f p]; omega

/-- Each circle of the walk back is negative. -/
theorem Inv.circle (h : Inv E wt src r done s tm rd T) {v p : Nat} (hp : 0 < p) (hb : Back s v p) (hc : itr s.pre p v = v) :
    sumN (fun i => wt (itr s.pre (i + 1) v) (itr s.pre i v)) p < 0 := by
  have h1 : ∀ i, i < p → 0 ≤ s.cost (itr s.pre i v) - s.cost (itr s.pre (i + 1) v) - wt (itr s.pre (i + 1) v) (itr s.pre i v) := fun i hi => by
    have := (h.edge (hb i hi)).2.2.1
    omega
  have h2 := sumN_sub (fun i => s.cost (itr s.pre i v) - s.cost (itr s.pre (i + 1) v)) (fun i => wt (itr s.pre (i + 1) v) (itr s.pre i v)) p
  have h3 := sumN_tele (fun i => s.cost (itr s.pre i v)) p
  simp only [hc] at h3
  have h4 : s.cost (itr s.pre 0 v) = s.cost v := rfl
  have h5 : ∃ i, i < p ∧ 0 < s.cost (itr s.pre i v) - s.cost (itr s.pre (i + 1) v) - wt (itr s.pre (i + 1) v) (itr s.pre i v) := by
    by_cases hx : ∃ i, i < p ∧ 0 < s.cost (itr s.pre i v) - s.cost (itr s.pre (i + 1) v) - wt (itr s.pre (i + 1) v) (itr s.pre i v)
    · exact hx
    · exfalso
      have lt : ∀ i, i < p → tm (itr s.pre (i + 1) v) < tm (itr s.pre i v) := fun i hi => by
        refine (h.edge (hb i hi)).2.2.2.1 ?_
        have := h1 i hi
        have h6 : ¬ 0 < s.cost (itr s.pre i v) - s.cost (itr s.pre (i + 1) v) - wt (itr s.pre (i + 1) v) (itr s.pre i v) := fun h => hx ⟨i, hi, h⟩
        omega
      have dec : ∀ i, i ≤ p → tm (itr s.pre i v) + i ≤ tm v := by
        intro i
        induction i with
        | zero => intro _; exact Nat.le_refl _
        | succ i ih => intro hi; have := ih (by omega); have := lt i (by omega); omega
      have := dec p (Nat.le_refl _)
      rw [hc] at this
      omega
  obtain ⟨i, hi, h6⟩ := h5
  have h7 := sumN_ge h1 i hi
  have e1 : sumN (fun i => s.cost (itr s.pre i v) - s.cost (itr s.pre (i + 1) v)) p = 0 := by rw [h3, h4]; omega
  rw [h2, e1] at h7
  omega
end

/-- From N steps back in N nodes one is on a circle. -/
theorem on_circle {s : BF} {v N : Nat} (hb : Back s v N) (hN : ∀ i, i ≤ N → itr s.pre i v < N) :
    ∃ p, 0 < p ∧ p ≤ N ∧ Back s (itr s.pre N v) p ∧ itr s.pre p (itr s.pre N v) = itr s.pre N v := by
  obtain ⟨i, j, h1, h2, h3⟩ := pigeon N (fun i => itr s.pre i v) hN
  have per : ∀ d, itr s.pre (i + d + (j - i)) v = itr s.pre (i + d) v := fun d => by
    rw [show i + d + (j - i) = d + j by omega, itr_add, show i + d = d + i by omega, itr_add, h3]
  have red : ∀ d, ∃ e, e < N ∧ itr s.pre (i + d) v = itr s.pre e v := by
    intro d
    induction d using Nat.strongRecOn with
    | _ d ih =>
      rcases Nat.lt_or_ge (i + d) N with hd | hd
      · exact ⟨_, hd, rfl⟩
      · have hd2 : i + d = i + (d - (j - i)) + (j - i) := by omega
        obtain ⟨e, he, e2⟩ := ih (d - (j - i)) (by omega)
        exact ⟨e, he, by rw [hd2, per, e2]⟩
  refine ⟨j - i, by omega, by omega, fun k hk => ?_, ?_⟩
  · obtain ⟨e, he, e2⟩ := red (k + (N - i))
    have e3 : itr s.pre k (itr s.pre N v) = itr s.pre e v := by
      rw [← itr_add, ← e2]; congr 1; omega
    show s.bef (itr s.pre k (itr s.pre N v)) = some (s.pre (itr s.pre k (itr s.pre N v)))
    rw [e3]
    exact hb e he
  · rw [← itr_add]
    have := per (N - i)
    rw [show i + (N - i) + (j - i) = j - i + N by omega, show i + (N - i) = N by omega] at this
    exact this

/-- The least circle: its nodes are different. -/
theorem least_circle {f : Nat → Nat} {v p : Nat} (hp : 0 < p) (hc : itr f p v = v) : ∃ q, 0 < q ∧ q ≤ p ∧ itr f q v = v ∧ (∀ i, 0 < i → i < q → itr f i v ≠ v) ∧ ∀ i j, i < j → j < q → itr f i v ≠ itr f j v := by
  obtain ⟨q, h1, h2, h3, h4⟩ : ∃ q, 0 < q ∧ q ≤ p ∧ itr f q v = v ∧ ∀ i, 0 < i → i < q → itr f i v ≠ v := by
    induction p using Nat.strongRecOn with
    | _ p ih =>
      by_cases h : ∃ i, 0 < i ∧ i < p ∧ itr f i v = v
      · obtain ⟨i, g1, g2, g3⟩ := h
        obtain ⟨q, a, b, c, d⟩ := ih i g2 g1 g3
        exact ⟨q, a, by omega, c, d⟩
      · exact ⟨p, hp, Nat.le_refl _, hc, fun i g1 g2 g3 => h ⟨i, g1, g2, g3⟩⟩
  refine ⟨q, h1, h2, h3, h4, fun i j hij hj e => ?_⟩
  refine h4 (q - j + i) (by omega) (by omega) ?_
  rw [itr_add, e, ← itr_add, show q - j + j = q by omega, h3]
end Go.Proofs.Ytpcmppamkgkdlaa
