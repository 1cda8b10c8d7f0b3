/- Lower copies at the same cost. -/
import Derived.Test.YtpcmppamkgkdlaaPF
namespace Go.Proofs.Ytpcmppamkgkdlaa
section
variable {P : Prob} {k c old r T : Nat} {cp wn : Nat → Option Nat} {E : List Edge} {done : Nat → Nat → Prop} {s : BF} {tm rd : Nat → Nat} {f : Nat → Int}

theorem Pot.mono {a b : Nat} (hab : a ≤ b) (h : Pot P a cp wn f) : Pot P b cp wn f :=
  ⟨fun hk => h.edge (by omega), h.free, fun hc hw hk => h.held hc hw (by omega)⟩

theorem Back.less {v N M : Nat} (h : Back s v N) (hM : M ≤ N) : Back s v M := fun i hi => h i (by omega)
theorem Back.shift {v N i : Nat} (h : Back s v N) (hi : i ≤ N) : Back s (itr s.pre i v) (N - i) := fun j hj => by
  have := h (j + i) (by omega)
  rw [show j + i + 1 = (j + 1) + i by omega, itr_add, itr_add] at this
  exact this

/-- With a potential, the walk back has no circle. -/
theorem no_circle (hE : Edges P k cp wn E) (hm : Mat P cp) (hc : Con cp wn) (hf : Pot P k cp wn f) (hi : Inv E (P.wt wn) (some c) r done s tm rd T) {v q : Nat} (hq : 0 < q) (hb : Back s v q) (h : itr s.pre q v = v) : False := by
  obtain ⟨q', h1, h2, h3, _, h5⟩ := least_circle hq h
  obtain ⟨g1, g2⟩ := neg_circle hE hi h1 (hb.less h2) h3 h5
  have := g1.nonneg hf hm hc
  omega

theorem back_or (s : BF) (v : Nat) : ∀ M, Back s v M ∨ ∃ L, L < M ∧ Back s v L ∧ s.bef (itr s.pre L v) = none
  | 0 => .inl fun i hi => by omega
  | M + 1 => by
    rcases back_or s v M with h | ⟨L, h1, h2⟩
    · cases e : s.bef (itr s.pre M v) with
      | none => exact .inr ⟨M, by omega, h, e⟩
      | some u =>
        refine .inl fun i hi => ?_
        rcases Nat.lt_or_ge i M with g | g
        · exact h i g
        · obtain rfl : i = M := by omega
          show s.bef (itr s.pre i v) = some ((s.bef (itr s.pre i v)).getD _)
          rw [e]; rfl
    · exact .inr ⟨L, by omega, h2⟩

/-- What the walk back from a copy is that can be reached. -/
structure Way (P : Prob) (wn : Nat → Option Nat) (s : BF) (c v L : Nat) : Prop where
  back : Back s v L
  stop : itr s.pre L v = c
  first : ∀ i, i < L → itr s.pre i v ≠ c
  dis : ∀ i j, i < j → j ≤ L → itr s.pre i v ≠ itr s.pre j v
  len : L ≤ P.n
  sum : sumN (fun i => P.wt wn (itr s.pre (i + 1) v) (itr s.pre i v)) L = s.cost v

theorem way (hE : Edges P k cp wn E) (hm : Mat P cp) (hc : Con cp wn) (hf : Pot P k cp wn f) (hi : Inv E (P.wt wn) (some c) r done s tm rd T)
    (hs : ∀ {u v}, Ed P k cp wn u v → s.cost u < endl → s.cost v ≤ s.cost u + P.wt wn u v) {v : Nat} (hv : v < P.n + 1) (hr : s.cost v < endl) : ∃ L, Way P wn s c v L := by
  have he : ∀ {L}, Back s v L → ∀ i, i < L → Ed P k cp wn (itr s.pre (i + 1) v) (itr s.pre i v) := fun hb i h => ((hE _ _ _).1 (hi.edge (hb i h)).1).1
  rcases back_or s v (P.n + 1) with h | ⟨L, h1, h2, h3⟩
  · exfalso
    obtain ⟨p, g1, _, g3, g4⟩ := on_circle h fun i hi' => by
      rcases Nat.eq_zero_or_pos i with e | e
      · subst e; exact hv
      · have := ((he h (i - 1) (by omega)).ne hm).2.1
        rw [show i - 1 + 1 = i by omega] at this
        exact this
    exact no_circle hE hm hc hf hi g1 g3 g4
  · have fin : ∀ i, i ≤ L → s.cost (itr s.pre i v) < endl := fun i hi' => by
      rcases Nat.eq_zero_or_pos i with e | e
      · subst e; exact hr
      · have := (hi.edge (h2 (i - 1) (by omega))).2.1
        rw [show i - 1 + 1 = i by omega] at this
        exact this
    have hst : itr s.pre L v = c := by
      have h4 := (hi.nb _ h3).2
      have h5 := fin L (Nat.le_refl _)
      by_cases e : itr s.pre L v = c
      · exact e
      · simp only [e, if_false] at h4; omega
    have hz : s.cost c = 0 := by
      have h4 := (hi.nb _ h3).2
      rw [hst] at h4
      simpa using h4
    refine ⟨L, h2, hst, fun i hi' e => ?_, fun i j hij hj e => ?_, by omega, ?_⟩
    · have := h2 i hi'
      rw [e, ← hst, h3] at this; cases this
    · refine no_circle hE hm hc hf hi (v := itr s.pre i v) (q := j - i) (by omega) ((h2.shift (by omega)).less (by omega)) ?_
      rw [← itr_add, show j - i + i = j by omega, e]
    · have h6 : sumN (fun i => P.wt wn (itr s.pre (i + 1) v) (itr s.pre i v)) L = sumN (fun i => s.cost (itr s.pre i v) - s.cost (itr s.pre (i + 1) v)) L := sumN_congr fun i hi' => by
        have a := (hi.edge (h2 i hi')).2.2.1
        have b := hs (he h2 i hi') (fin (i + 1) (by omega))
        omega
      rw [h6, sumN_tele (fun i => s.cost (itr s.pre i v)) L]
      show s.cost v - s.cost (itr s.pre L v) = _
      rw [hst, hz]; omega

theorem wt_le (hb : ∀ k c, 0 ≤ P.cst k c ∧ P.cst k c ≤ 1000000) (u v : Nat) : P.wt wn u v ≤ 1000000 := by
  unfold Prob.wt
  split
  · cases wn u with
    | none => show (0 : Int) ≤ _; omega
    | some k => have := hb k u; have := hb k v; show P.cst k v - P.cst k u ≤ _; omega
  · omega
theorem sum_bound {g : Nat → Int} {b : Int} (h : ∀ i, g i ≤ b) : ∀ L : Nat, sumN g L ≤ L * b
  | 0 => by simp [sumN]
  | L + 1 => by
    have := sum_bound h L
    have := h L
    simp only [sumN]
    rw [Int.natCast_add, Int.add_mul]; omega

/-- A least copy that costs no more lies on a circle. -/
theorem lower_yes (hE : Edges P k cp wn E) (hi : Inv E (P.wt wn) (some c) r done s tm rd T)
    (hk : cp k = some old) (ha : c ∈ P.acc k) (hne : c ≠ old) {L : Nat} (hw : Way P wn s c old L) (h0 : s.cost old + P.wt wn old c = 0) :
    Circle P k cp wn (L + 1) (fun j => itr s.pre (L - j) old) ∧ sumN (fun j => P.wt wn (itr s.pre (L - j) old) (itr s.pre (L - (j + 1) % (L + 1)) old)) (L + 1) = 0 := by
  have := circle_of (P := P) (first := k) (cp := cp) (wn := wn) (g := fun i => itr s.pre i old) (q := L + 1) (by omega) (fun i j hij hj => hw.dis i j hij (by omega))
    (fun i hi' => ((hE _ _ _).1 (hi.edge (hw.back i (by omega))).1).1) (by
      show Ed P k cp wn old (itr s.pre L old)
      rw [hw.stop]
      exact .inl ⟨k, Nat.le_refl _, hk, ha, hne⟩)
  obtain ⟨g1, g2⟩ := this
  refine ⟨g1, g2.trans ?_⟩
  show sumN _ L + P.wt wn old (itr s.pre L old) = 0
  rw [hw.sum, hw.stop, h0]
end
end Go.Proofs.Ytpcmppamkgkdlaa
