/- A copy that no best assignment gives: what paths finds says so. -/
import Derived.Test.YtpcmppamkgkdlaaPG
namespace Go.Proofs.Ytpcmppamkgkdlaa
section
variable {P : Prob} {k c old r T : Nat} {cp wn q : Nat → Option Nat} {E : List Edge} {done : Nat → Nat → Prop} {s : BF} {tm rd : Nat → Nat} {f : Nat → Int}

/-- The cost of the way to a copy is not below the potential. -/
theorem Way.above {v L : Nat} (hw : Way P wn s c v L) (hE : Edges P k cp wn E) (hm : Mat P cp) (hc : Con cp wn) (hf : Pot P k cp wn f) (hi : Inv E (P.wt wn) (some c) r done s tm rd T) : f v - f c ≤ s.cost v := by
  rw [← hw.sum]
  have h1 := sumN_tele (fun i => f (itr s.pre i v)) L
  have h2 : f (itr s.pre L v) = f c := by rw [hw.stop]
  have h3 : sumN (fun i => f (itr s.pre i v) - f (itr s.pre (i + 1) v)) L ≤ sumN (fun i => P.wt wn (itr s.pre (i + 1) v) (itr s.pre i v)) L := sumN_le fun i hi' => by
    have := hf.ed hm hc (((hE _ _ _).1 (hi.edge (hw.back i hi')).1).1)
    omega
  rw [h1] at h3
  simp only [h2] at h3
  exact h3

theorem Way.small {v L : Nat} (hw : Way P wn s c v L) (hb : ∀ k c, 0 ≤ P.cst k c ∧ P.cst k c ≤ 1000000) (hn : P.n ≤ 1000000) : s.cost v ≤ 1000000000000 := by
  rw [← hw.sum]
  have := sum_bound (g := fun i => P.wt wn (itr s.pre (i + 1) v) (itr s.pre i v)) (b := 1000000) (fun i => wt_le hb _ _) L
  have := hw.len
  omega

/-- If the circle through a copy costs something, no assignment that costs as much, and agrees before a want, gives the want this copy. -/
theorem lower_no (hE : Edges P k cp wn E) (hm : Mat P cp) (hc : Con cp wn) (hf : Pot P 0 cp wn f) (hi : Inv E (P.wt wn) (some c) r done s tm rd T)
    (hs : ∀ {u v}, Ed P k cp wn u v → s.cost u < endl → s.cost v ≤ s.cost u + P.wt wn u v)
    (hb : ∀ k c, 0 ≤ P.cst k c ∧ P.cst k c ≤ 1000000) (hn : P.n ≤ 1000000)
    (hk : cp k = some old) (ha : c ∈ P.acc k) (h0 : s.cost old + P.wt wn old c ≠ 0)
    (hq : Mat P q) (hsame : Same cp q) (hag : ∀ j, j < k → q j = cp j) (hqk : q k = some c) : P.tot cp < P.tot q := by
  have hf' := hf.mono (Nat.zero_le k)
  have hcn := P.lt k c ha
  have hon := P.lt k old (hm.ok hk).2
  have hwt : P.wt wn old c = P.cst k c - P.cst k old := by unfold Prob.wt; rw [if_pos ⟨hon, hcn⟩, (hc k old).1 hk]; rfl
  have hend : (endl : Int) = 1152921504606846976 := rfl
  have each : ∀ v, v < P.n + 1 → s.cost v < endl → f v - f c ≤ s.cost v ∧ s.cost v ≤ 1000000000000 := fun v hv hr => by
    obtain ⟨L, hw⟩ := way hE hm hc hf' hi hs hv hr
    exact ⟨hw.above hE hm hc hf' hi, hw.small hb hn⟩
  -- the source
  have hc0 : s.cost c = 0 := by
    cases e : s.bef c with
    | none => have := (hi.nb c e).2; simpa using this
    | some u =>
      exfalso
      have h1 := hi.edge e
      have hr : s.cost c < endl := by
        have h2 := ((hE _ _ _).1 h1.1).1
        have h3 := hs h2 h1.2.1
        have := wt_le hb (wn := wn) u c
        have := (each u (h2.ne hm).2.1 h1.2.1).2
        omega
      obtain ⟨L, hw⟩ := way hE hm hc hf' hi hs (v := c) (by omega) hr
      rcases Nat.eq_zero_or_pos L with hL | hL
      · subst hL
        rcases back_or s c (P.n + 1) with h | ⟨L, g1, g2, g3⟩
        · obtain ⟨p, a1, _, a3, a4⟩ := on_circle h fun i hi' => by
            rcases Nat.eq_zero_or_pos i with e | e
            · subst e; show c < _; omega
            · have := (((hE _ _ _).1 (hi.edge (h (i - 1) (by omega))).1).1.ne hm).2.1
              rw [show i - 1 + 1 = i by omega] at this
              exact this
          exact no_circle hE hm hc hf' hi a1 a3 a4
        · rcases Nat.eq_zero_or_pos L with hL | hL
          · subst hL; have : s.bef c = none := g3
            rw [this] at e; cases e
          · have h4 := (hi.nb _ g3).2
            have h5 := (hi.edge (g2 (L - 1) (by omega))).2.1
            rw [show L - 1 + 1 = L by omega] at h5
            by_cases e' : itr s.pre L c = c
            · exact no_circle hE hm hc hf' hi hL g2 e'
            · simp only [e', if_false] at h4; omega
      · exact hw.first 0 hL rfl
  obtain ⟨B, hB0, hB⟩ : ∃ B : Int, 0 ≤ B ∧ ((s.cost old < endl ∧ B = s.cost old + f c - f old) ∨ (¬ s.cost old < endl ∧ B = 1)) := by
    by_cases h : s.cost old < endl
    · exact ⟨s.cost old + f c - f old, by have := (each old (by omega) h).1; omega, .inl ⟨h, rfl⟩⟩
    · exact ⟨1, by omega, .inr ⟨h, rfl⟩⟩
  let g : Nat → Int := fun v => if s.cost v < endl then (if s.cost v + f c - f v < B then s.cost v + f c else f v + B) else f v + B
  have hg : Pot P k cp wn g := Pot.of_ed hm hc fun {u v} he => by
    have h1 := hf'.ed hm hc he
    obtain ⟨_, hu, hv⟩ := he.ne hm
    show (if s.cost v < endl then (if s.cost v + f c - f v < B then s.cost v + f c else f v + B) else f v + B) ≤ (if s.cost u < endl then (if s.cost u + f c - f u < B then s.cost u + f c else f u + B) else f u + B) + _
    by_cases hru : s.cost u < endl
    · have h2 := hs he hru
      have h3 := (each u hu hru).2
      have h4 := wt_le hb (wn := wn) u v
      have hrv : s.cost v < endl := by omega
      rw [if_pos hru, if_pos hrv]
      split <;> split <;> omega
    · rw [if_neg hru]
      split
      · split <;> omega
      · omega
  have h1 := hg.slack hm hc hq hsame hag hk hqk
  have gc : g c = f c + min 0 B := by
    show (if s.cost c < endl then (if s.cost c + f c - f c < B then s.cost c + f c else f c + B) else f c + B) = _
    rw [hc0, if_pos (by rw [hend]; omega)]
    split <;> omega
  have h2 := hg.edge (Nat.le_refl k) hk ha
  rcases hB with ⟨h3, h4⟩ | ⟨h3, h4⟩
  · have go : g old = f old + B := by
      show (if s.cost old < endl then (if s.cost old + f c - f old < B then s.cost old + f c else f old + B) else f old + B) = _
      rw [if_pos h3, if_neg (by omega)]
    omega
  · have go : g old = f old + B := by
      show (if s.cost old < endl then (if s.cost old + f c - f old < B then s.cost old + f c else f old + B) else f old + B) = _
      rw [if_neg h3]
    have := hf.edge (Nat.zero_le k) hk ha
    omega
end
end Go.Proofs.Ytpcmppamkgkdlaa
