/- Wants that have no copy in common: each one gets the cheapest copy, plainly. -/
import Derived.Test.YtpcmppamkgkdlaaPL
namespace Go.Proofs.Ytpcmppamkgkdlaa

theorem apart_best {P : Prob} {a : Nat → Option Nat} (hd : ∀ {j k c}, c ∈ P.acc j → c ∈ P.acc k → j = k) (hB : Best P a) {k : Nat} (hk : k < P.m) {b : Option Nat} (h0 : b = none → ∀ c, c ∉ P.acc k)
    (h1 : ∀ d, b = some d → d ∈ P.acc k ∧ ∀ c, c ∈ P.acc k → P.cst k d ≤ P.cst k c ∧ (P.cst k c = P.cst k d → d ≤ c)) : a k = b := by
  cases hb : b with
  | none =>
    cases e : a k with
    | none => rfl
    | some c => exact absurd (hB.mat.ok e).2 (h0 hb c)
  | some d =>
    obtain ⟨hd1, hd2⟩ := h1 d hb
    have mat : ∀ (f : Nat → Option Nat), (∀ j, j ≠ k → f j = a j) → f k = some d → Mat P f := fun f hf hfk => by
      refine ⟨fun {j c} e => ?_, fun {i j c} e e' => ?_⟩
      · by_cases hj : j = k
        · subst hj; rw [hfk] at e; injection e with e; subst e; exact ⟨hk, hd1⟩
        · rw [hf j hj] at e; exact hB.mat.ok e
      · have acc : ∀ {x}, f x = some c → c ∈ P.acc x := fun {x} ex => by
          by_cases hx : x = k
          · subst hx; rw [hfk] at ex; injection ex with ex; subst ex; exact hd1
          · rw [hf x hx] at ex; exact (hB.mat.ok ex).2
        exact hd (acc e) (acc e')
    have hs : (a k).isSome = true := (hB.greedy k hk).2 ⟨upd a k (some d), mat _ (fun j hj => upd_ne _ _ hj) (upd_eq _ _ _), fun j hj hh => by rw [upd_ne _ _ (by omega)]; exact hh, by rw [upd_eq]; rfl⟩
    obtain ⟨c, hc⟩ := Option.isSome_iff_exists.1 hs
    have hca := (hB.mat.ok hc).2
    obtain ⟨l1, l2⟩ := hd2 c hca
    have hm := mat (upd a k (some d)) (fun j hj => upd_ne _ _ hj) (upd_eq _ _ _)
    have hsm : Same a (upd a k (some d)) := fun x => by
      by_cases hx : x = k
      · subst hx; rw [upd_eq, hc]; rfl
      · rw [upd_ne _ _ hx]
    have ht := hB.cheap hm hsm
    have e1 : P.tot (upd a k (some d)) = P.tot a + (P.cst k d - P.cst k c) := by
      have g : ∀ x, P.one (upd a k (some d)) x = P.one a x + (if x = k then P.cst k d - P.cst k c else 0) := fun x => by
        unfold Prob.one
        by_cases hx : x = k
        · subst hx
          rw [upd_eq, hc, if_pos rfl]
          show P.cst x d = P.cst x c + _
          omega
        · rw [upd_ne _ _ hx, if_neg hx]; omega
      unfold Prob.tot
      rw [sumN_congr fun x _ => g x, sumN_add, sumN_one, if_pos hk]
    have h2 := l2 (by omega)
    have h3 := hB.least hm hsm (by omega) (k := k) (c := c) (d := d) (fun j hj => upd_ne _ _ (by omega)) hc (upd_eq _ _ _)
    obtain rfl : c = d := by omega
    exact hc
/-- The best copy, looked for from the last one on. -/
def bst (mine : Nat → Bool) (cs : Nat → Int) (n : Nat) : Nat → Option Nat
  | 0 => none
  | t + 1 => if mine (n - 1 - t) = true ∧ (∀ d, bst mine cs n t = some d → cs (n - 1 - t) ≤ cs d) then some (n - 1 - t) else bst mine cs n t
theorem bst_ok (mine : Nat → Bool) (cs : Nat → Int) (n : Nat) : ∀ t, t ≤ n → (bst mine cs n t = none → ∀ c, n - t ≤ c → c < n → mine c = false) ∧
    ∀ d, bst mine cs n t = some d → n - t ≤ d ∧ d < n ∧ mine d = true ∧ ∀ c, n - t ≤ c → c < n → mine c = true → cs d ≤ cs c ∧ (cs c = cs d → d ≤ c)
  | 0, _ => ⟨fun _ c h1 h2 => by omega, fun d e => by simp [bst] at e⟩
  | t + 1, ht => by
    obtain ⟨ih1, ih2⟩ := bst_ok mine cs n t (by omega)
    have hc : n - (t + 1) = n - 1 - t := by omega
    rw [hc, bst]
    by_cases hif : mine (n - 1 - t) = true ∧ (∀ d, bst mine cs n t = some d → cs (n - 1 - t) ≤ cs d)
    · rw [if_pos hif]
      refine ⟨fun e => (by cases e), fun d e => ?_⟩
      injection e with e
      subst e
      refine ⟨Nat.le_refl _, by omega, hif.1, fun c h1 h2 hm => ?_⟩
      rcases Nat.lt_or_ge c (n - t) with h | h
      · obtain rfl : c = n - 1 - t := by omega
        exact ⟨Int.le_refl _, fun _ => Nat.le_refl _⟩
      · cases e : bst mine cs n t with
        | none => have := ih1 e c h h2; rw [hm] at this; cases this
        | some d =>
          obtain ⟨_, _, _, h5⟩ := ih2 d e
          have h6 := hif.2 d e
          have h7 := h5 c h h2 hm
          exact ⟨by omega, fun _ => by omega⟩
    · rw [if_neg hif]
      refine ⟨fun e c h1 h2 => ?_, fun d e => ?_⟩
      · rcases Nat.lt_or_ge c (n - t) with h | h
        · obtain rfl : c = n - 1 - t := by omega
          cases hm : mine (n - 1 - t) with
          | false => rfl
          | true => exact absurd ⟨hm, fun d ed => by rw [e] at ed; cases ed⟩ hif
        · exact ih1 e c h h2
      · obtain ⟨h3, h4, h5, h6⟩ := ih2 d e
        refine ⟨by omega, h4, h5, fun c h1 h2 hm => ?_⟩
        rcases Nat.lt_or_ge c (n - t) with h | h
        · obtain rfl : c = n - 1 - t := by omega
          have : ¬ cs (n - 1 - t) ≤ cs d := fun hle => hif ⟨hm, fun d' ed => by rw [e] at ed; injection ed with ed; subst ed; exact hle⟩
          exact ⟨by omega, fun e => by omega⟩
        · exact h6 c h h2 hm
/-- The copies before c that fall to want k, the last one first. -/
def apL (key : Nat → Nat) : Nat → Nat → List Int
  | 0, _ => []
  | c + 1, k => if key c = k then (c : Int) :: apL key c k else apL key c k
theorem mem_apL {key : Nat → Nat} {k : Nat} {x : Int} : ∀ {c}, x ∈ apL key c k ↔ ∃ d, d < c ∧ key d = k ∧ x = d
  | 0 => by simp [apL]
  | c + 1 => by
    unfold apL
    have ih := @mem_apL key k x c
    by_cases h : key c = k
    · rw [if_pos h, List.mem_cons, ih]
      constructor
      · rintro (h1 | ⟨d, h1, h2, h3⟩)
        · exact ⟨c, by omega, h, h1⟩
        · exact ⟨d, by omega, h2, h3⟩
      · rintro ⟨d, h1, h2, h3⟩
        by_cases e : d = c
        · subst e; exact .inl h3
        · exact .inr ⟨d, by omega, h2, h3⟩
    · rw [if_neg h, ih]
      constructor
      · rintro ⟨d, h1, h2, h3⟩; exact ⟨d, by omega, h2, h3⟩
      · rintro ⟨d, h1, h2, h3⟩
        exact ⟨d, by
          rcases Nat.lt_or_ge d c with h' | h'
          · exact h'
          · obtain rfl : d = c := by omega
            exact absurd h2 h, h2, h3⟩
theorem apL_len (key : Nat → Nat) (k : Nat) : ∀ c, (apL key c k).length ≤ c
  | 0 => Nat.le_refl _
  | c + 1 => by have := apL_len key k c; unfold apL; split <;> simp <;> omega
def apW (L : List Wt) (key : Nat → Nat) (n : Nat) : List Wt := (List.range L.length).map fun j => ((L.getD j noW).1, apL key n j)
theorem apW_len (L : List Wt) (key : Nat → Nat) (n : Nat) : (apW L key n).length = L.length := by simp [apW]
theorem apW_get (L : List Wt) (key : Nat → Nat) (n : Nat) {j : Nat} (h : j < L.length) : (apW L key n).getD j noW = ((L.getD j noW).1, apL key n j) := by simp [apW, List.getD_eq_getElem?_getD, h]
theorem apW_cop (L : List Wt) (key : Nat → Nat) {n : Nat} (hn : n ≤ 1000) (k : Nat) : ((apW L key n).getD k noW).2.length ≤ 1000 := by
  rcases Nat.lt_or_ge k L.length with hk | hk
  · rw [apW_get L key n hk]
    have := apL_len key k n
    show (apL key n k).length ≤ 1000
    omega
  · have e2 : (apW L key n).getD k noW = noW := by rw [List.getD_eq_getElem?_getD, List.getElem?_eq_none (by rw [apW_len]; exact hk)]; rfl
    rw [e2]; simp [noW]
theorem apW_acc {L : List Wt} {key : Nat → Nat} {A : List Int} {C : List (List Int)} {k c : Nat} : c ∈ (prob (apW L key A.length) A C).acc k ↔ k < L.length ∧ c < A.length ∧ key c = k := by
  rw [prob_acc]
  rcases Nat.lt_or_ge k L.length with hk | hk
  · rw [apW_get L key _ hk]
    show (c : Int) ∈ apL key A.length k ∧ _ ↔ _
    rw [mem_apL]
    constructor
    · rintro ⟨⟨d, h1, h2, h3⟩, h4⟩
      obtain rfl : c = d := by omega
      exact ⟨hk, h1, h2⟩
    · rintro ⟨_, h1, h2⟩
      exact ⟨⟨c, h1, h2, rfl⟩, h1⟩
  · have e2 : (apW L key A.length).getD k noW = noW := by rw [List.getD_eq_getElem?_getD, List.getElem?_eq_none (by rw [apW_len]; exact hk)]; rfl
    rw [e2]
    constructor
    · rintro ⟨h1, _⟩; simp [noW] at h1
    · rintro ⟨h1, _⟩; omega
theorem apart_law {L : List Wt} {key : Nat → Nat} {A : List Int} {C : List (List Int)} {a : Nat → Option Nat} (hB : Best (prob (apW L key A.length) A C) a) {k : Nat} (hk : k < L.length) :
    a k = bst (fun c => decide (key c = k)) (fun c => wayI C (A.getD c 0) (L.getD k noW).1) A.length A.length := by
  obtain ⟨h1, h2⟩ := bst_ok (fun c => decide (key c = k)) (fun c => wayI C (A.getD c 0) (L.getD k noW).1) A.length A.length (Nat.le_refl _)
  have hcs : ∀ c, (prob (apW L key A.length) A C).cst k c = wayI C (A.getD c 0) (L.getD k noW).1 := fun c => by
    show wayI C (A.getD c 0) ((apW L key A.length).getD k noW).1 = _
    rw [apW_get L key _ hk]
  refine apart_best (fun {j k c} hj hk => by rw [apW_acc] at hj hk; omega) hB (by show k < (apW L key A.length).length; rw [apW_len]; exact hk) (fun e c hc => ?_) fun d e => ?_
  · rw [apW_acc] at hc
    have := h1 e c (by omega) hc.2.1
    simp [hc.2.2] at this
  · obtain ⟨q1, q2, q3, q4⟩ := h2 d e
    refine ⟨apW_acc.2 ⟨hk, q2, by simpa using q3⟩, fun c hc => ?_⟩
    rw [apW_acc] at hc
    rw [hcs, hcs]
    exact q4 c (by omega) hc.2.1 (by simpa using hc.2.2)
end Go.Proofs.Ytpcmppamkgkdlaa
