/- Wants and copies that are added take nothing away from those that were served, plainly. -/
import Derived.Test.YtpcmppamkgkdlaaVO
namespace Go.Proofs.Ytpcmppamkgkdlaa

theorem cnt_lt {f g : Nat → Bool} : ∀ n, (∀ i, i < n → f i = true → g i = true) → (∃ i, i < n ∧ g i = true ∧ f i = false) → cnt f n < cnt g n
  | 0, _, ⟨i, h, _⟩ => by omega
  | n + 1, h, ⟨i, hi, h1, h2⟩ => by
    have hm := cnt_mono n fun i hi => h i (by omega)
    rw [cnt, cnt]
    by_cases e : i = n
    · subst e
      rw [h1, h2]; simp; omega
    · have := cnt_lt n (fun i hi => h i (by omega)) ⟨i, by omega, h1, h2⟩
      have hn := h n (by omega)
      cases e1 : f n with
      | false => cases e2 : g n <;> simp <;> omega
      | true => rw [hn e1]; simp; omega
/-- From a want that is served only by the one assignment: either the other one can serve it too, or another want that only the other one serves can take its place. -/
theorem swap_way {P P' : Prob} (hm : P.m = P'.m) (hacc : ∀ k c, c ∈ P.acc k → c ∈ P'.acc k) (hold : ∀ k c, c ∈ P'.acc k → c < P.n → c ∈ P.acc k) :
    ∀ (n : Nat) (M M' : Nat → Option Nat) (k : Nat), Mat P M → Mat P' M' → (M k).isSome = true → M' k = none → cnt (fun j => decide ((M j).isSome = true ∧ M j ≠ M' j)) P.m ≤ n →
      (∃ M2, Mat P' M2 ∧ (M2 k).isSome = true ∧ ∀ x, (M' x).isSome = true → (M2 x).isSome = true) ∨
      ∃ (w : Nat) (M3 : Nat → Option Nat), Mat P M3 ∧ (M' w).isSome = true ∧ M w = none ∧ (∀ x, M x = M' x → M3 x = M x) ∧ (M3 w).isSome = true ∧ M3 k = none ∧ ∀ x, x ≠ k → (M x).isSome = true → (M3 x).isSome = true
  | n, M, M', k, hM, hM', hk, hk', hn => by
    obtain ⟨c, hc⟩ := Option.isSome_iff_exists.1 hk
    obtain ⟨hkm, hca⟩ := hM.ok hc
    by_cases hfree : ∀ j, M' j ≠ some c
    · refine .inl ⟨upd M' k (some c), ⟨fun {j d} e => ?_, fun {i j d} e e' => ?_⟩, by rw [upd_eq]; rfl, fun x hx => ?_⟩
      · by_cases hj : j = k
        · subst hj; rw [upd_eq] at e; injection e with e; subst e; exact ⟨by omega, hacc _ _ hca⟩
        · rw [upd_ne _ _ hj] at e; exact hM'.ok e
      · by_cases hi : i = k
        · by_cases hj : j = k
          · rw [hi, hj]
          · subst hi
            rw [upd_eq] at e; injection e with e; subst e
            rw [upd_ne _ _ hj] at e'
            exact absurd e' (hfree j)
        · by_cases hj : j = k
          · subst hj
            rw [upd_eq] at e'; injection e' with e'; subst e'
            rw [upd_ne _ _ hi] at e
            exact absurd e (hfree i)
          · rw [upd_ne _ _ hi] at e; rw [upd_ne _ _ hj] at e'
            exact hM'.inj e e'
      · by_cases e : x = k
        · subst e; rw [upd_eq]; rfl
        · rw [upd_ne _ _ e]; exact hx
    · obtain ⟨j, hj⟩ : ∃ j, M' j = some c := Classical.byContradiction fun h => hfree fun j hj => h ⟨j, hj⟩
      have hjk : j ≠ k := fun e => by subst e; rw [hk'] at hj; cases hj
      obtain ⟨hjm, hja'⟩ := hM'.ok hj
      have hja : c ∈ P.acc j := hold j c hja' (P.lt k c hca)
      -- the assignment in which j has k's copy
      have give : ∀ (N : Nat → Option Nat), Mat P N → (∀ x, N x = some c → x = k) → Mat P (upd (upd N k none) j (some c)) := fun N hN hu => by
        refine ⟨fun {x d} e => ?_, fun {x y d} e e' => ?_⟩
        · by_cases hx : x = j
          · subst hx; rw [upd_eq] at e; injection e with e; subst e; exact ⟨by omega, hja⟩
          · rw [upd_ne _ _ hx] at e
            by_cases hx2 : x = k
            · subst hx2; rw [upd_eq] at e; cases e
            · rw [upd_ne _ _ hx2] at e; exact hN.ok e
        · have key : ∀ x, upd (upd N k none) j (some c) x = some d → x = j ∧ d = c ∨ x ≠ j ∧ x ≠ k ∧ N x = some d := fun x e => by
            by_cases hx : x = j
            · subst hx; rw [upd_eq] at e; injection e with e; exact .inl ⟨rfl, e.symm⟩
            · rw [upd_ne _ _ hx] at e
              by_cases hx2 : x = k
              · subst hx2; rw [upd_eq] at e; cases e
              · rw [upd_ne _ _ hx2] at e; exact .inr ⟨hx, hx2, e⟩
          rcases key x e with ⟨a1, a2⟩ | ⟨a1, a2, a3⟩ <;> rcases key y e' with ⟨b1, b2⟩ | ⟨b1, b2, b3⟩
          · rw [a1, b1]
          · subst a2; exact absurd (hu y b3) b2
          · subst b2; exact absurd (hu x a3) a2
          · exact hN.inj a3 b3
      cases hMj : M j with
      | none =>
        refine .inr ⟨j, upd (upd M k none) j (some c), give M hM fun x hx => hM.inj hx hc, by rw [hj]; rfl, hMj, fun x hx => ?_, by rw [upd_eq]; rfl, by rw [upd_ne _ _ (fun e => hjk e.symm), upd_eq], fun x hx hs => ?_⟩
        · have hxj : x ≠ j := fun e => by subst e; rw [hMj, hj] at hx; cases hx
          have hxk : x ≠ k := fun e => by subst e; rw [hc, hk'] at hx; cases hx
          rw [upd_ne _ _ hxj, upd_ne _ _ hxk]
        · by_cases e : x = j
          · subst e; rw [upd_eq]; rfl
          · rw [upd_ne _ _ e, upd_ne _ _ hx]; exact hs
      | some c' =>
        have hcc : c' ≠ c := fun e => by subst e; exact hjk (hM.inj hMj hc)
        -- the other assignment: k takes the copy, j has none
        have hN : Mat P' (upd (upd M' j none) k (some c)) := by
          have key : ∀ x d, upd (upd M' j none) k (some c) x = some d → x = k ∧ d = c ∨ x ≠ j ∧ x ≠ k ∧ M' x = some d := fun x d e => by
            by_cases hx : x = k
            · subst hx; rw [upd_eq] at e; injection e with e; exact .inl ⟨rfl, e.symm⟩
            · rw [upd_ne _ _ hx] at e
              by_cases hx2 : x = j
              · subst hx2; rw [upd_eq] at e; cases e
              · rw [upd_ne _ _ hx2] at e; exact .inr ⟨hx2, hx, e⟩
          refine ⟨fun {x d} e => ?_, fun {x y d} e e' => ?_⟩
          · rcases key x d e with ⟨rfl, rfl⟩ | ⟨_, _, h⟩
            · exact ⟨by omega, hacc _ _ hca⟩
            · exact hM'.ok h
          · rcases key x d e with ⟨a1, a2⟩ | ⟨a1, a2, a3⟩ <;> rcases key y d e' with ⟨b1, b2⟩ | ⟨b1, b2, b3⟩
            · rw [a1, b1]
            · subst a2; exact absurd (hM'.inj b3 hj) b1
            · subst b2; exact absurd (hM'.inj a3 hj) a1
            · exact hM'.inj a3 b3
        have nj : upd (upd M' j none) k (some c) j = none := by rw [upd_ne _ _ hjk, upd_eq]
        have nk : upd (upd M' j none) k (some c) k = some c := upd_eq _ _ _
        have no : ∀ x, x ≠ j → x ≠ k → upd (upd M' j none) k (some c) x = M' x := fun x h1 h2 => by rw [upd_ne _ _ h2, upd_ne _ _ h1]
        obtain ⟨N, hNe⟩ : ∃ N, N = upd (upd M' j none) k (some c) := ⟨_, rfl⟩
        rw [← hNe] at hN nj nk no
        have hlt : cnt (fun x => decide ((M x).isSome = true ∧ M x ≠ N x)) P.m < cnt (fun x => decide ((M x).isSome = true ∧ M x ≠ M' x)) P.m := by
          refine cnt_lt _ (fun x _ hx => ?_) ⟨k, hkm, by simp [hc, hk'], by simp [hc, nk]⟩
          simp only [decide_eq_true_eq] at hx ⊢
          refine ⟨hx.1, fun e => ?_⟩
          by_cases h1 : x = j
          · subst h1; rw [hMj, hj] at e; injection e with e; exact hcc e
          · by_cases h2 : x = k
            · subst h2; exact hx.2 (by rw [hc, nk])
            · exact hx.2 (by rw [no x h1 h2]; exact e)
        match n, hn with
        | 0, hn => omega
        | n + 1, hn =>
          rcases swap_way hm hacc hold n M N j hM hN (by rw [hMj]; rfl) nj (by omega) with ⟨M2, h1, h2, h3⟩ | ⟨w, M3, h1, h2, h3, h4, h5, h6, h7⟩
          · refine .inl ⟨M2, h1, h3 k (by rw [nk]; rfl), fun x hx => ?_⟩
            by_cases e1 : x = j
            · subst e1; exact h2
            · by_cases e2 : x = k
              · subst e2; exact h3 x (by rw [nk]; rfl)
              · exact h3 x (by rw [no x e1 e2]; exact hx)
          · have hwk : w ≠ k := fun e => by subst e; rw [hc] at h3; cases h3
            have hwj : w ≠ j := fun e => by subst e; rw [hMj] at h3; cases h3
            have h3k : M3 k = some c := (h4 k (by rw [hc, nk])).trans hc
            refine .inr ⟨w, upd (upd M3 k none) j (some c), give M3 h1 fun x hx => h1.inj hx h3k, by rw [← no w hwj hwk]; exact h2, h3, fun x hx => ?_, by rw [upd_ne _ _ hwj, upd_ne _ _ hwk]; exact h5, by rw [upd_ne _ _ (fun e => hjk e.symm), upd_eq], fun x hx hs => ?_⟩
            · have hxj : x ≠ j := fun e => by subst e; rw [hMj, hj] at hx; injection hx with hx; exact hcc hx
              have hxk : x ≠ k := fun e => by subst e; rw [hc, hk'] at hx; cases hx
              rw [upd_ne _ _ hxj, upd_ne _ _ hxk]
              exact h4 x (by rw [no x hxj hxk]; exact hx)
            · by_cases e : x = j
              · subst e; rw [upd_eq]; rfl
              · rw [upd_ne _ _ e, upd_ne _ _ hx]; exact h7 x e hs
def upTo (a : Nat → Option Nat) (n : Nat) : Nat → Option Nat := fun j => if j < n then a j else none
theorem upTo_lt {a : Nat → Option Nat} {n j : Nat} (h : j < n) : upTo a n j = a j := if_pos h
theorem upTo_ge {a : Nat → Option Nat} {n j : Nat} (h : ¬ j < n) : upTo a n j = none := if_neg h
theorem upTo_some {a : Nat → Option Nat} {n j c : Nat} (h : upTo a n j = some c) : j < n ∧ a j = some c := by
  by_cases hj : j < n
  · rw [upTo_lt hj] at h; exact ⟨hj, h⟩
  · rw [upTo_ge hj] at h; cases h
/-- Further copies: who was served, is served. -/
theorem grows_copy {P P' : Prob} (hm : P.m = P'.m) (hacc : ∀ k c, c ∈ P.acc k → c ∈ P'.acc k) (hold : ∀ k c, c ∈ P'.acc k → c < P.n → c ∈ P.acc k) {a b : Nat → Option Nat} (haM : Mat P a) (ha : Greedy P a) (hbM : Mat P' b) (hb : Greedy P' b)
    {k : Nat} (hk : k < P.m) (h : (a k).isSome = true) : (b k).isSome = true := by
  have hM' : Mat P' (upTo b k) := ⟨fun {j c} e => hbM.ok (upTo_some e).2, fun {i j c} e e' => hbM.inj (upTo_some e).2 (upTo_some e').2⟩
  rcases swap_way hm hacc hold _ a (upTo b k) k haM hM' h (upTo_ge (by omega)) (Nat.le_refl _) with ⟨M2, h1, h2, h3⟩ | ⟨w, M3, h1, h2, h3, h4, h5, h6, h7⟩
  · exact (hb k (by omega)).2 ⟨M2, h1, fun j hj hs => h3 j (by rw [upTo_lt hj]; exact hs), h2⟩
  · obtain ⟨c, hc⟩ := Option.isSome_iff_exists.1 h2
    have hw := (upTo_some hc).1
    have : (a w).isSome = true := (ha w (by omega)).2 ⟨M3, h1, fun j hj hs => h7 j (by omega) hs, h5⟩
    rw [h3] at this; cases this
/-- Further wants at the end: the same are served. -/
theorem grows_want {P P' : Prob} (hm : P.m ≤ P'.m) (hacc : ∀ k, k < P.m → ∀ c, c ∈ P.acc k ↔ c ∈ P'.acc k) {a b : Nat → Option Nat} (ha : Greedy P a) (hb : Greedy P' b) : ∀ (k : Nat), k < P.m → ((a k).isSome = true ↔ (b k).isSome = true)
  | k, hk => by
    have ih : ∀ j, j < k → ((a j).isSome = true ↔ (b j).isSome = true) := fun j hj => grows_want hm hacc ha hb j (by omega)
    rw [ha k hk, hb k (by omega)]
    constructor
    · rintro ⟨q, h1, h2, h3⟩
      exact ⟨q, ⟨fun {j c} e => ⟨by have := (h1.ok e).1; omega, (hacc _ (h1.ok e).1 _).1 (h1.ok e).2⟩, h1.inj⟩, fun j hj hs => h2 j hj ((ih j hj).2 hs), h3⟩
    · rintro ⟨q, h1, h2, h3⟩
      exact ⟨upTo q P.m, ⟨fun {j c} e => ⟨(upTo_some e).1, (hacc _ (upTo_some e).1 _).2 (h1.ok (upTo_some e).2).2⟩, fun {i j c} e e' => h1.inj (upTo_some e).2 (upTo_some e').2⟩, fun j hj hs => by
        rw [upTo_lt (by omega)]; exact h2 j hj ((ih j hj).1 hs), by rw [upTo_lt hk]; exact h3⟩
end Go.Proofs.Ytpcmppamkgkdlaa
