/- Who can be served: closed sets of copies; and that the rounds of paths end. -/
import Derived.Test.YtpcmppamkgkdlaaPH
namespace Go.Proofs.Ytpcmppamkgkdlaa

/-- A closed set of copies, all owned, that holds all that a want accepts: nobody serves this want and all that are served. -/
theorem hall {P : Prob} {cp wn q : Nat → Option Nat} (hm : Mat P cp) (hc : Con cp wn) {k : Nat} (hk : cp k = none) (Z : Nat → Bool)
    (hz : ∀ c, c ∈ P.acc k → Z c = true) (own : ∀ c, c < P.n → Z c = true → ∃ j, wn c = some j ∧ ∀ d, d ∈ P.acc j → Z d = true)
    (hq : Mat P q) (hs : ∀ j, (cp j).isSome → (q j).isSome) : q k = none := by
  cases e : q k with
  | none => rfl
  | some d =>
    exfalso
    obtain ⟨wq, hcq⟩ := owners hq
    let g : Nat → Int := fun c => if Z c = true then 1 else 0
    have g0 : ∀ c, 0 ≤ g c := fun c => by show 0 ≤ if Z c = true then (1 : Int) else 0; split <;> omega
    have g1 : ∀ c, g c ≤ 1 := fun c => by show (if Z c = true then (1 : Int) else 0) ≤ 1; split <;> omega
    have gz : ∀ {c}, Z c = true → g c = 1 := fun h => if_pos h
    have h1 := count_swap hm hc g
    have h2 := count_swap hq hcq g
    have h3 : sumN (fun c => if (wn c).isSome then g c else 0) P.n = sumN g P.n := sumN_congr fun c hcn => by
      by_cases hzc : Z c = true
      · obtain ⟨j, hj, _⟩ := own c hcn hzc
        rw [hj]; rfl
      · have : g c = 0 := if_neg hzc
        rw [this]; split <;> rfl
    have h4 : sumN (fun c => if (wq c).isSome then g c else 0) P.n ≤ sumN g P.n := sumN_le fun c _ => by
      have := g0 c
      split <;> omega
    have key : ∀ j, j < P.m → 0 ≤ (q j).elim 0 g - (cp j).elim 0 g := fun j _ => by
      cases e1 : cp j with
      | none => cases e2 : q j with
        | none => simp
        | some c => have := g0 c; show 0 ≤ g c - 0; omega
      | some c =>
        have hsj := hs j (by rw [e1]; rfl)
        obtain ⟨c', e2⟩ := Option.isSome_iff_exists.1 hsj
        rw [e2]
        show 0 ≤ g c' - g c
        by_cases hzc : Z c = true
        · obtain ⟨j', hj', hcl⟩ := own c (P.lt j c (hm.ok e1).2) hzc
          have := (hc j c).1 e1
          rw [this] at hj'
          obtain rfl : j = j' := by injection hj'
          rw [gz (hcl c' (hq.ok e2).2)]
          have := g1 c; omega
        · have : g c = 0 := if_neg hzc
          have := g0 c'; omega
    have h5 := sumN_ge key k (hq.ok e).1
    rw [sumN_sub, h1, h2, h3, e, hk] at h5
    have h6 : (some d).elim 0 g - (none : Option Nat).elim 0 g = 1 := by
      show g d - 0 = 1
      rw [gz (hz d (hq.ok e).2)]; rfl
    rw [h6] at h5
    omega

section
variable {P : Prob} {first : Nat} {cp wn : Nat → Option Nat} {E : List Edge} {src : Option Nat} {f : Nat → Int}

theorem relax_chg {E : List Edge} : ∀ (L : List Edge) {s : BF} {v : Nat}, (∀ e ∈ L, e ∈ E) → (L.foldl relaxE s).chg = some v → s.chg = some v ∨ ∃ u w, (u, v, w) ∈ E
  | [], _, _, _, h => .inl h
  | (a, b, w) :: L, s, v, hL, h => by
    rcases relax_chg (E := E) L (s := relaxE s (a, b, w)) (fun e he => hL e (List.mem_cons_of_mem _ he)) h with h | h
    · by_cases g : s.cost a < endl ∧ s.cost a + w < s.cost b
      · rw [relax_yes g] at h
        obtain rfl : b = v := by injection h
        exact .inr ⟨a, w, hL _ (List.mem_cons_self ..)⟩
      · rw [relax_no g] at h; exact .inl h
    · exact .inr h

/-- A node that changed in the last round: so many steps back lie on a negative circle. -/
theorem last_round (hE : Edges P first cp wn E) (hm : Mat P cp) {v : Nat} (h : (rounds E src (P.n + 1)).chg = some v) :
    ∃ q, 0 < q ∧ q ≤ P.n + 1 ∧ Back (rounds E src (P.n + 1)) v (P.n + 1) ∧
      Back (rounds E src (P.n + 1)) (itr (rounds E src (P.n + 1)).pre (P.n + 1) v) q ∧
      itr (rounds E src (P.n + 1)).pre q (itr (rounds E src (P.n + 1)).pre (P.n + 1) v) = itr (rounds E src (P.n + 1)).pre (P.n + 1) v ∧
      (∀ i, 0 < i → i < q → itr (rounds E src (P.n + 1)).pre i (itr (rounds E src (P.n + 1)).pre (P.n + 1) v) ≠ itr (rounds E src (P.n + 1)).pre (P.n + 1) v) ∧
      Circle P first cp wn q (fun j => itr (rounds E src (P.n + 1)).pre (q - 1 - j) (itr (rounds E src (P.n + 1)).pre (P.n + 1) v)) ∧
      sumN (fun j => P.wt wn (itr (rounds E src (P.n + 1)).pre (q - 1 - j) (itr (rounds E src (P.n + 1)).pre (P.n + 1) v)) (itr (rounds E src (P.n + 1)).pre (q - 1 - (j + 1) % q) (itr (rounds E src (P.n + 1)).pre (P.n + 1) v))) q < 0 := by
  obtain ⟨tm, rd, T, hi⟩ := rounds_inv (E := E) (wt := P.wt wn) (src := src) (fun h => hE.hw hm h) P.n
  have hv : v < P.n + 1 := by
    rcases relax_chg (E := E) E (s := (rounds E src P.n).again) (fun e he => he) h with g | ⟨u, w, g⟩
    · cases g
    · exact (((hE _ _ _).1 g).1.ne hm).2.2
  generalize rounds E src (P.n + 1) = s at *
  have hb : Back s v (P.n + 1) := hi.back (by have := hi.chgI h; omega)
  obtain ⟨p, h1, h2, h3, h4⟩ := on_circle hb fun i hi' => by
    rcases Nat.eq_zero_or_pos i with e | e
    · subst e; exact hv
    · have := (((hE _ _ _).1 (hi.edge (hb (i - 1) (by omega))).1).1.ne hm).2.1
      rw [show i - 1 + 1 = i by omega] at this
      exact this
  obtain ⟨q, g1, g2, g3, g4, g5⟩ := least_circle h1 h4
  obtain ⟨c1, c2⟩ := neg_circle hE hi g1 (h3.less g2) g3 g5
  exact ⟨q, g1, by omega, hb, h3.less g2, g3, g4, c1, c2⟩

/-- With a potential the last round changes nothing. -/
theorem must_stop (hE : Edges P first cp wn E) (hm : Mat P cp) (hc : Con cp wn) (hf : Pot P first cp wn f) : (rounds E src (P.n + 1)).chg = none := by
  cases e : (rounds E src (P.n + 1)).chg with
  | none => rfl
  | some v =>
    obtain ⟨q, _, _, _, _, _, _, c1, c2⟩ := last_round hE hm e
    have := c1.nonneg hf hm hc
    omega
end
end Go.Proofs.Ytpcmppamkgkdlaa
