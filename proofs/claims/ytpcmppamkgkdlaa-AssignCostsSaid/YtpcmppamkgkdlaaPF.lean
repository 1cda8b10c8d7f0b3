/- What paths finds: a potential, or a negative circle. -/
import Derived.Test.YtpcmppamkgkdlaaPE
namespace Go.Proofs.Ytpcmppamkgkdlaa

theorem sumN_shift (g : Nat → Int) : ∀ p, sumN g (p + 1) = g 0 + sumN (fun i => g (i + 1)) p
  | 0 => by simp [sumN]
  | p + 1 => by rw [sumN, sumN_shift g p]; simp only [sumN]; omega
theorem sumN_rev : ∀ (p : Nat) (g : Nat → Int), sumN (fun j => g (p - 1 - j)) p = sumN g p
  | 0, _ => rfl
  | p + 1, g => by
    rw [sumN_shift]
    have : sumN (fun i => g (p + 1 - 1 - (i + 1))) p = sumN (fun j => g (p - 1 - j)) p := sumN_congr fun i hi => by congr 1; omega
    rw [this, sumN_rev p g]
    show g (p + 1 - 1 - 0) + _ = sumN g p + g p
    rw [show p + 1 - 1 - 0 = p by omega]; omega

section
variable {P : Prob} {first : Nat} {cp wn : Nat → Option Nat}

/-- A circle from nodes that were met backwards. -/
theorem circle_of {g : Nat → Nat} {q : Nat} (hq : 0 < q) (dis : ∀ i j, i < j → j < q → g i ≠ g j) (e : ∀ i, i + 1 < q → Ed P first cp wn (g (i + 1)) (g i)) (e0 : Ed P first cp wn (g 0) (g (q - 1))) :
    Circle P first cp wn q (fun j => g (q - 1 - j)) ∧ sumN (fun j => P.wt wn (g (q - 1 - j)) (g (q - 1 - (j + 1) % q))) q = sumN (fun i => P.wt wn (g (i + 1)) (g i)) (q - 1) + P.wt wn (g 0) (g (q - 1)) := by
  refine ⟨⟨hq, fun i j hi hj h => ?_, fun i hi => ?_⟩, ?_⟩
  · rcases Nat.lt_trichotomy i j with h1 | h1 | h1
    · exact absurd h.symm (dis _ _ (by omega) (by omega))
    · exact h1
    · exact absurd h (dis _ _ (by omega) (by omega))
  · show Ed P first cp wn (g (q - 1 - i)) (g (q - 1 - (i + 1) % q))
    rcases Nat.lt_or_ge (i + 1) q with h | h
    · rw [Nat.mod_eq_of_lt h]
      have := e (q - 1 - (i + 1)) (by omega)
      rw [show q - 1 - (i + 1) + 1 = q - 1 - i by omega] at this
      exact this
    · rw [show i + 1 = q by omega, Nat.mod_self, show q - 1 - i = 0 by omega]
      exact e0
  · obtain ⟨p, rfl⟩ : ∃ p, q = p + 1 := ⟨q - 1, by omega⟩
    show sumN _ p + P.wt wn (g (p + 1 - 1 - p)) (g (p + 1 - 1 - (p + 1) % (p + 1))) = sumN _ p + _
    rw [Nat.mod_self, show p + 1 - 1 - p = 0 by omega, show p + 1 - 1 - 0 = p + 1 - 1 by omega]
    congr 1
    rw [← sumN_rev p (fun i => P.wt wn (g (i + 1)) (g i))]
    refine sumN_congr fun j hj => ?_
    rw [Nat.mod_eq_of_lt (by omega)]
    congr 2 <;> omega

/-- The list of the edges. -/
def Edges (P : Prob) (first : Nat) (cp wn : Nat → Option Nat) (E : List Edge) : Prop := ∀ u v w, (u, v, w) ∈ E ↔ Ed P first cp wn u v ∧ w = P.wt wn u v

theorem Ed.ne (hm : Mat P cp) {u v : Nat} (h : Ed P first cp wn u v) : u ≠ v ∧ u < P.n + 1 ∧ v < P.n + 1 := by
  rcases h with ⟨k, h1, h2, h3, h4⟩ | ⟨h1, h2, rfl⟩ | ⟨rfl, h2, k, h3, h4⟩
  · have := P.lt k u (hm.ok h2).2
    have := P.lt k v h3
    exact ⟨fun e => h4 e.symm, by omega, by omega⟩
  · exact ⟨by omega, by omega, by omega⟩
  · exact ⟨by omega, by omega, by omega⟩

variable {E : List Edge} {src : Option Nat} {r : Nat} {done : Nat → Nat → Prop} {s : BF} {tm rd : Nat → Nat} {T : Nat}

theorem Edges.hw (hE : Edges P first cp wn E) (hm : Mat P cp) {u v : Nat} {w : Int} (h : (u, v, w) ∈ E) : w = P.wt wn u v ∧ u ≠ v :=
  ⟨((hE u v w).1 h).2, (((hE u v w).1 h).1.ne hm).1⟩

/-- If a round changes nothing, no edge can be used any more. -/
theorem settled (hE : Edges P first cp wn E) (hm : Mat P cp) (k : Nat) (h : (rounds E src (k + 1)).chg = none) {u v : Nat} (he : Ed P first cp wn u v) (hu : (rounds E src (k + 1)).cost u < endl) :
    (rounds E src (k + 1)).cost v ≤ (rounds E src (k + 1)).cost u + P.wt wn u v := by
  obtain ⟨tm, rd, T, hi⟩ := rounds_inv (E := E) (wt := P.wt wn) (src := src) (fun h => hE.hw hm h) k
  rcases hi.doneI (u := u) (v := v) ((hE _ _ _).2 ⟨he, rfl⟩) hu with g | g
  · exact g
  · have := hi.noI h u; omega

/-- Costs are not above what they begin with. -/
theorem fold_below0 : ∀ (L : List Edge) {s : BF}, (∀ v, s.cost v ≤ 0) → ∀ v, (L.foldl relaxE s).cost v ≤ 0
  | [], _, h => h
  | (a, b, w) :: L, s, h => fold_below0 L fun v => by
    by_cases g : s.cost a < endl ∧ s.cost a + w < s.cost b
    · rw [relax_yes g]
      show upd s.cost b _ v ≤ 0
      by_cases hv : v = b
      · subst hv; rw [upd_eq]; have := h v; omega
      · rw [upd_ne _ _ hv]; exact h v
    · rw [relax_no g]; exact h v
theorem rounds_below0 (E : List Edge) : ∀ k v, (rounds E none k).cost v ≤ 0
  | 0, _ => Int.le_refl _
  | k + 1, v => fold_below0 E (s := (rounds E none k).again) (fun v => rounds_below0 E k v) v

theorem Pot.of_ed {f : Nat → Int} (hm : Mat P cp) (hc : Con cp wn) (hs : ∀ {u v}, Ed P first cp wn u v → f v ≤ f u + P.wt wn u v) : Pot P first cp wn f := by
  refine ⟨fun {k u v} hk hu hv => ?_, fun {c} hcn hw => ?_, fun {c k} hcn hw hk => ?_⟩
  · by_cases e : v = u
    · subst e; omega
    · have := hs (.inl ⟨k, hk, hu, hv, e⟩)
      unfold Prob.wt at this
      rw [if_pos ⟨P.lt k u (hm.ok hu).2, P.lt k v hv⟩, (hc k u).1 hu] at this
      exact this
  · have := hs (.inr (.inl ⟨hcn, hw, rfl⟩))
    unfold Prob.wt at this
    rw [if_neg (by omega)] at this; omega
  · have := hs (.inr (.inr ⟨rfl, hcn, k, hk, hw⟩))
    unfold Prob.wt at this
    rw [if_neg (by omega)] at this; omega

/-- From all copies, and nothing changes: a potential. -/
theorem pot_of (hE : Edges P first cp wn E) (hm : Mat P cp) (hc : Con cp wn) (k : Nat) (h : (rounds E none (k + 1)).chg = none) : Pot P first cp wn (rounds E none (k + 1)).cost := by
  have hs : ∀ {u v}, Ed P first cp wn u v → (rounds E none (k + 1)).cost v ≤ (rounds E none (k + 1)).cost u + P.wt wn u v := fun {u v} he => by
    refine settled hE hm k h he ?_
    have := rounds_below0 E (k + 1) u
    have h0 : (0 : Int) < endl := by decide
    omega
  exact Pot.of_ed hm hc hs

/-- A circle of the walk back is a negative circle of exchanges. -/
theorem neg_circle (hE : Edges P first cp wn E) (hi : Inv E (P.wt wn) src r done s tm rd T) {v q : Nat} (hq : 0 < q) (hb : Back s v q) (hc : itr s.pre q v = v)
    (dis : ∀ i j, i < j → j < q → itr s.pre i v ≠ itr s.pre j v) :
    Circle P first cp wn q (fun j => itr s.pre (q - 1 - j) v) ∧ sumN (fun j => P.wt wn (itr s.pre (q - 1 - j) v) (itr s.pre (q - 1 - (j + 1) % q) v)) q < 0 := by
  have he : ∀ i, i < q → Ed P first cp wn (itr s.pre (i + 1) v) (itr s.pre i v) := fun i h => ((hE _ _ _).1 (hi.edge (hb i h)).1).1
  have e0 : Ed P first cp wn (itr s.pre 0 v) (itr s.pre (q - 1) v) := by
    have := he (q - 1) (by omega)
    rw [show q - 1 + 1 = q by omega, hc] at this
    exact this
  obtain ⟨h1, h2⟩ := circle_of (g := fun i => itr s.pre i v) hq dis (fun i h => he i (by omega)) e0
  refine ⟨h1, ?_⟩
  have h3 := hi.circle hq hb hc
  obtain ⟨p, rfl⟩ : ∃ p, q = p + 1 := ⟨q - 1, by omega⟩
  have h4 : sumN (fun i => P.wt wn (itr s.pre (i + 1) v) (itr s.pre i v)) (p + 1) = sumN (fun i => P.wt wn (itr s.pre (i + 1) v) (itr s.pre i v)) p + P.wt wn (itr s.pre (p + 1) v) (itr s.pre p v) := rfl
  rw [hc] at h4
  rw [h2]
  show sumN _ p + P.wt wn v (itr s.pre p v) < 0
  omega
end
end Go.Proofs.Ytpcmppamkgkdlaa
