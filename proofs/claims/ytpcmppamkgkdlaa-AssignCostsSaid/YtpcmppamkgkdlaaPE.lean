/- Potentials: circles cost nothing or more; circles that cost nothing keep a potential. -/
import Derived.Test.YtpcmppamkgkdlaaPD
namespace Go.Proofs.Ytpcmppamkgkdlaa
section
variable {P : Prob} {first p : Nat} {cp wn wn' : Nat → Option Nat} {c : Nat → Nat} {f : Nat → Int}

theorem Ed.mono {P : Prob} {a b : Nat} (h : a ≤ b) {u v : Nat} (e : Ed P b cp wn u v) : Ed P a cp wn u v := by
  rcases e with ⟨k, h1, h2⟩ | h1 | ⟨h1, h2, k, h3, h4⟩
  · exact .inl ⟨k, by omega, h2⟩
  · exact .inr (.inl h1)
  · exact .inr (.inr ⟨h1, h2, k, by omega, h4⟩)

/-- An exchange does not fall below the potential. -/
theorem Pot.ed (h : Pot P first cp wn f) (hm : Mat P cp) (hc : Con cp wn) {u v : Nat} (e : Ed P first cp wn u v) : f v ≤ f u + P.wt wn u v := by
  rcases e with ⟨k, h1, h2, h3, _⟩ | ⟨h1, h2, rfl⟩ | ⟨rfl, h2, k, h3, h4⟩
  · have := h.edge h1 h2 h3
    unfold Prob.wt
    rw [if_pos ⟨P.lt k u (hm.ok h2).2, P.lt k v h3⟩, (hc k u).1 h2]
    exact this
  · have := h.free h1 h2
    unfold Prob.wt
    rw [if_neg (by omega)]; omega
  · have := h.held h2 h4 h3
    unfold Prob.wt
    rw [if_neg (by omega)]; omega

theorem Circle.sum (h : Circle P first cp wn p c) (f : Nat → Int) :
    sumN (fun i => P.wt wn (c i) (c ((i + 1) % p)) + (f (c i) - f (c ((i + 1) % p)))) p = sumN (fun i => P.wt wn (c i) (c ((i + 1) % p))) p := by
  rw [sumN_add]
  have := sum_round (fun i => f (c i)) p h.pos
  rw [this]; omega

/-- With a potential, no circle is negative. -/
theorem Circle.nonneg (h : Circle P first cp wn p c) (hf : Pot P first cp wn f) (hm : Mat P cp) (hc : Con cp wn) :
    0 ≤ sumN (fun i => P.wt wn (c i) (c ((i + 1) % p))) p := by
  rw [← h.sum f]
  exact sumN_nonneg fun i hi => by have := hf.ed hm hc (h.edge i hi); omega

theorem Circle.tight (h : Circle P first cp wn p c) (hf : Pot P first cp wn f) (hm : Mat P cp) (hc : Con cp wn)
    (h0 : sumN (fun i => P.wt wn (c i) (c ((i + 1) % p))) p = 0) {i : Nat} (hi : i < p) : f (c ((i + 1) % p)) = f (c i) + P.wt wn (c i) (c ((i + 1) % p)) := by
  have h1 := sumN_ge (f := fun i => P.wt wn (c i) (c ((i + 1) % p)) + (f (c i) - f (c ((i + 1) % p)))) (fun i hi => by have := hf.ed hm hc (h.edge i hi); omega) i hi
  rw [h.sum f, h0] at h1
  have := hf.ed hm hc (h.edge i hi)
  omega

theorem pred_mod {p i : Nat} (hi : i < p) : ∃ j, j < p ∧ (j + 1) % p = i := by
  rcases Nat.eq_zero_or_pos i with h | h
  · subst h
    exact ⟨p - 1, by omega, by rw [show p - 1 + 1 = p by omega, Nat.mod_self]⟩
  · exact ⟨i - 1, by omega, by rw [show i - 1 + 1 = i by omega, Nat.mod_eq_of_lt hi]⟩

/-- A circle that costs nothing keeps the potential. -/
theorem Circle.pot (h : Circle P first cp wn p c) (hf : Pot P 0 cp wn f) (hm : Mat P cp) (hc : Con cp wn) (hc' : Con (moved p c cp) wn')
    (h0 : sumN (fun i => P.wt wn (c i) (c ((i + 1) % p))) p = 0) : Pot P 0 (moved p c cp) wn' f := by
  have g : Circle P 0 cp wn p c := ⟨h.pos, h.dis, fun i hi => (h.edge i hi).mono (Nat.zero_le _)⟩
  have ht : ∀ {i}, i < p → f (c ((i + 1) % p)) = f (c i) + P.wt wn (c i) (c ((i + 1) % p)) := fun hi => g.tight hf hm hc h0 hi
  have one : ∀ {k u v}, cp k = some u → v < P.n → P.wt wn u v = P.cst k v - P.cst k u := fun {k u v} hu hv => by
    unfold Prob.wt
    rw [if_pos ⟨P.lt k u (hm.ok hu).2, hv⟩, (hc k u).1 hu]; rfl
  have far : ∀ v, P.wt wn P.n v = 0 := fun v => by unfold Prob.wt; rw [if_neg (by omega)]
  have far2 : ∀ v, P.wt wn v P.n = 0 := fun v => by unfold Prob.wt; rw [if_neg (by omega)]
  refine ⟨fun {k u v} _ hk hv => ?_, fun {d} hd hw => ?_, fun {d k} hd hw _ => ?_⟩
  · obtain ⟨x, hx, rfl⟩ := Option.map_eq_some_iff.1 hk
    have h1 := hf.edge (Nat.zero_le k) hx hv
    rcases g.goes hm hc hx with ⟨h2, _⟩ | ⟨i, hi, rfl, h2, _, h3⟩
    · rw [h2]; exact h1
    · have h4 := ht hi
      rw [one hx (P.lt k _ h3)] at h4
      rw [h2]; omega
  · cases e : wn d with
    | none => exact hf.free hd e
    | some k =>
      have hk := (hc k d).2 e
      rcases g.goes hm hc hk with ⟨h2, _⟩ | ⟨i, hi, rfl, _⟩
      · have : moved p c cp k = some d := by unfold moved; rw [hk]; show some (nx p c d) = _; rw [h2]
        rw [(hc' k d).1 this] at hw; cases hw
      · obtain ⟨j, hj, rfl⟩ := pred_mod hi
        have h4 := ht hj
        rcases h.edge j hj with ⟨k', _, h5, _⟩ | ⟨_, _, h5⟩ | ⟨h5, _⟩
        · have : moved p c cp k' = some (c ((j + 1) % p)) := by unfold moved; rw [h5]; show some (nx p c (c j)) = _; rw [nx_on h.dis hj]
          rw [(hc' k' _).1 this] at hw; cases hw
        · omega
        · rw [h5, far] at h4; omega
  · have hk := (hc' k d).2 hw
    obtain ⟨x, hx, e⟩ := Option.map_eq_some_iff.1 hk
    cases e' : wn d with
    | some k'' => exact hf.held hd e' (Nat.zero_le _)
    | none =>
      rcases g.goes hm hc hx with ⟨h2, _⟩ | ⟨i, hi, rfl, h2, _⟩
      · rw [h2] at e; subst e
        rw [(hc k x).1 hx] at e'; cases e'
      · rw [h2] at e
        have hj : (i + 1) % p < p := Nat.mod_lt _ h.pos
        have h4 := ht hj
        rw [e] at h4
        have h5 := h.edge _ hj
        rw [e] at h5
        rcases h5 with ⟨k', _, h6, _⟩ | ⟨_, _, h6⟩ | ⟨h6, _⟩
        · rw [(hc k' d).1 h6] at e'; cases e'
        · rw [h6, far2] at h4; omega
        · omega
end
end Go.Proofs.Ytpcmppamkgkdlaa
