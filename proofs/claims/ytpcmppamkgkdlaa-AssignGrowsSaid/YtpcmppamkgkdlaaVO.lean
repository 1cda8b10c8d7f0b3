/- The law of queues, plainly: how many copies stay. -/
import Derived.Test.YtpcmppamkgkdlaaPK
namespace Go.Proofs.Ytpcmppamkgkdlaa

def cnt (f : Nat → Bool) : Nat → Nat
  | 0 => 0
  | n + 1 => cnt f n + if f n then 1 else 0
theorem cnt_congr {f g : Nat → Bool} : ∀ n, (∀ i, i < n → f i = g i) → cnt f n = cnt g n
  | 0, _ => rfl
  | n + 1, h => by rw [cnt, cnt, cnt_congr n fun i hi => h i (by omega), h n (by omega)]
theorem cnt_le (f : Nat → Bool) : ∀ n, cnt f n ≤ n
  | 0 => Nat.le_refl _
  | n + 1 => by have := cnt_le f n; rw [cnt]; split <;> omega
theorem cnt_mono {f g : Nat → Bool} : ∀ n, (∀ i, i < n → f i = true → g i = true) → cnt f n ≤ cnt g n
  | 0, _ => Nat.le_refl _
  | n + 1, h => by
    have := cnt_mono n fun i hi => h i (by omega)
    have h1 := h n (by omega)
    rw [cnt, cnt]
    cases e : f n
    · simp; omega
    · rw [h1 e]; simp; omega
/-- Without one. -/
theorem cnt_drop (f : Nat → Bool) (j : Nat) : ∀ n, j < n → f j = true → cnt f n = cnt (fun x => f x && decide (x ≠ j)) n + 1
  | n + 1, hj, hf => by
    rw [cnt, cnt]
    by_cases e : j = n
    · subst e
      rw [hf, cnt_congr (f := f) (g := fun x => f x && decide (x ≠ j)) j fun i hi => by
        have : decide (i ≠ j) = true := decide_eq_true (by omega)
        simp only [this, Bool.and_true]]
      simp
    · have ih := cnt_drop f j n (by omega) hf
      have : decide (n ≠ j) = true := decide_eq_true (by omega)
      simp only [this, Bool.and_true]
      omega
theorem cnt_rel {R : Nat → Nat → Prop} (hR : ∀ i i' j, R i j → R i' j → i = i') : ∀ (n m : Nat) (g h : Nat → Bool), (∀ i, i < n → g i = true → ∃ j, j < m ∧ h j = true ∧ R i j) → cnt g n ≤ cnt h m
  | 0, m, g, h, _ => Nat.zero_le _
  | n + 1, m, g, h, hh => by
    rw [cnt]
    cases e : g n
    · have := cnt_rel hR n m g h fun i hi => hh i (by omega)
      simp; exact this
    · obtain ⟨j, hj, hhj, hr⟩ := hh n (by omega) e
      have h1 := cnt_rel hR n m g (fun x => h x && decide (x ≠ j)) fun i hi hg => by
        obtain ⟨j', hj', hhj', hr'⟩ := hh i (by omega) hg
        refine ⟨j', hj', ?_, hr'⟩
        have : j' ≠ j := fun e' => by subst e'; have := hR _ _ _ hr hr'; omega
        simp [hhj', this]
      have h2 := cnt_drop h j m hj hhj
      simp; omega
theorem cnt_ex {f g : Nat → Bool} {n : Nat} (h : cnt f n < cnt g n) : ∃ i, i < n ∧ g i = true ∧ f i = false := by
  rcases Classical.em (∃ i, i < n ∧ g i = true ∧ f i = false) with h' | h'
  · exact h'
  · have := cnt_mono (f := g) (g := f) n fun i hi hg => by
      cases e : f i
      · exact absurd ⟨i, hi, hg, e⟩ h'
      · rfl
    omega
theorem cnt_true {f : Nat → Bool} : ∀ n, (∀ i, i < n → f i = true) → cnt f n = n
  | 0, _ => rfl
  | n + 1, h => by rw [cnt, cnt_true n fun i hi => h i (by omega), h n (by omega)]; rfl
theorem cnt_four {f : Nat → Bool} {p : Nat → Int} (hp : ∀ i, 0 ≤ p i ∧ p i < 4) : ∀ n, cnt f n = cnt (fun i => f i && decide (p i = 0)) n + cnt (fun i => f i && decide (p i = 1)) n + cnt (fun i => f i && decide (p i = 2)) n + cnt (fun i => f i && decide (p i = 3)) n
  | 0 => rfl
  | n + 1 => by
    have ih := cnt_four (f := f) hp n
    have h := hp n
    simp only [cnt]
    have hf : f n = true ∨ f n = false := by cases f n <;> simp
    have hq : p n = 0 ∨ p n = 1 ∨ p n = 2 ∨ p n = 3 := by omega
    rcases hf with e | e
    · rcases hq with h' | h' | h' | h' <;> simp [e, h'] <;> omega
    · simp [e]; omega
theorem sum_stay {b : Nat → Bool} {f : Nat} {g : Nat → Int} : ∀ m, f ≤ m → (∀ k, k < f → g k = if b k then 0 else 1) → (∀ k, f ≤ k → g k = 0) → sumN g m = (f : Int) - (cnt b f : Int)
  | 0, hf, h1, h2 => by obtain rfl : f = 0 := by omega
                        rfl
  | m + 1, hf, h1, h2 => by
    rcases Nat.lt_or_ge f (m + 1) with h | h
    · have := sum_stay m (by omega) h1 h2
      rw [sumN, this, h2 m (by omega)]; omega
    · obtain rfl : f = m + 1 := by omega
      have hz : ∀ n, n ≤ m + 1 → sumN g n = (n : Int) - (cnt b n : Int) := by
        intro n
        induction n with
        | zero => intro _; rfl
        | succ n ih =>
          intro hn
          rw [sumN, ih (by omega), h1 n (by omega), cnt]
          cases b n <;> simp <;> omega
      exact hz _ (Nat.le_refl _)
section
variable {P : Prob} {a : Nat → Option Nat} {p A : Nat → Int}
/-- A queue: all wants accept all copies, ways cost one, or nothing if a copy stays. -/
structure Queue (P : Prob) (p A : Nat → Int) : Prop where
  acc : ∀ k c, k < P.m → c < P.n → c ∈ P.acc k
  cst : ∀ k c, k < P.m → c < P.n → P.cst k c = if A c = p k then 0 else 1
  pb : ∀ k, 0 ≤ p k ∧ p k < 4
theorem Queue.first (hQ : Queue P p A) (hB : Best P a) : ∀ k, k < P.m → k < P.n → (a k).isSome = true := fun k hk hn => by
  refine (hB.greedy k hk).2 ⟨fun j => if j < P.m ∧ j < P.n then some j else none, ⟨fun {j c} e => ?_, fun {i j c} e f => ?_⟩, fun j hj _ => ?_, ?_⟩
  · by_cases h : j < P.m ∧ j < P.n
    · simp only [h, if_true, true_and] at e
      injection e with e
      subst e
      exact ⟨h.1, hQ.acc j j h.1 h.2⟩
    · simp only [h, if_false] at e; cases e
  · have g : ∀ {i c : Nat}, (if i < P.m ∧ i < P.n then some i else none) = some c → i = c := fun {i c} e => by
      split at e
      · injection e
      · cases e
    have h1 := g e
    have h2 := g f
    omega
  · have : j < P.m ∧ j < P.n := by omega
    simp [this]
  · simp [hk, hn]
theorem Queue.rest (hQ : Queue P p A) (hB : Best P a) : ∀ k, P.n ≤ k → (a k).isSome = false := fun k hk => by
  cases e : a k with
  | none => rfl
  | some c =>
    have hkm := (hB.mat.ok e).1
    have h := cnt_rel (R := fun i j => i ≤ P.n ∧ a (if i < P.n then i else k) = some j) (fun i i' j h1 h2 => by
      have h3 := hB.mat.inj h1.2 h2.2
      have a1 := h1.1
      have a2 := h2.1
      split at h3 <;> split at h3 <;> omega) (P.n + 1) P.n (fun _ => true) (fun _ => true) fun i hi _ => by
      rcases Nat.lt_or_ge i P.n with h' | h'
      · obtain ⟨d, hd⟩ := Option.isSome_iff_exists.1 (hQ.first hB i (by omega) h')
        exact ⟨d, P.lt i d (hB.mat.ok hd).2, rfl, by omega, by rw [if_pos h']; exact hd⟩
      · exact ⟨c, P.lt k c (hB.mat.ok e).2, rfl, by omega, by rw [if_neg (by omega)]; exact e⟩
    rw [cnt_true _ fun _ _ => rfl, cnt_true _ fun _ _ => rfl] at h
    omega
/-- The copy of a want stays. -/
def stays (a : Nat → Option Nat) (p A : Nat → Int) (k : Nat) : Bool := match a k with
  | none => false
  | some c => decide (A c = p k)
theorem stays_some {k c : Nat} (h : a k = some c) : stays a p A k = decide (A c = p k) := by unfold stays; rw [h]
def atB (a : Nat → Option Nat) (p A : Nat → Int) (b : Int) (k : Nat) : Bool := stays a p A k && decide (p k = b)
theorem Queue.one (hQ : Queue P p A) (hB : Best P a) (k : Nat) (hk : k < min P.m P.n) : P.one a k = if stays a p A k then 0 else 1 := by
  obtain ⟨c, hc⟩ := Option.isSome_iff_exists.1 (hQ.first hB k (by omega) (by omega))
  have hcn := P.lt k c (hB.mat.ok hc).2
  unfold Prob.one
  rw [stays_some hc, hc]
  show P.cst k c = _
  rw [hQ.cst k c (by omega) hcn]
  by_cases h : A c = p k <;> simp [h]
/-- No more stay than there are wants and copies. -/
theorem Queue.branch (hQ : Queue P p A) (hB : Best P a) (b : Int) : cnt (atB a p A b) (min P.m P.n) = min (cnt (fun k => decide (p k = b)) (min P.m P.n)) (cnt (fun c => decide (A c = b)) P.n) := by
  have h1 : cnt (atB a p A b) (min P.m P.n) ≤ cnt (fun k => decide (p k = b)) (min P.m P.n) := cnt_mono _ fun i _ h => by
    unfold atB at h; rw [Bool.and_eq_true] at h; exact h.2
  have h2 : cnt (atB a p A b) (min P.m P.n) ≤ cnt (fun c => decide (A c = b)) P.n := cnt_rel (R := fun i j => a i = some j) (fun i i' j h1 h2 => hB.mat.inj h1 h2) _ _ _ _ fun i hi h => by
    obtain ⟨c, hc⟩ := Option.isSome_iff_exists.1 (hQ.first hB i (by omega) (by omega))
    unfold atB at h
    rw [stays_some hc, Bool.and_eq_true, decide_eq_true_eq, decide_eq_true_eq] at h
    exact ⟨c, P.lt i c (hB.mat.ok hc).2, by simp [h.1, h.2], hc⟩
  rcases Nat.lt_or_ge (cnt (atB a p A b) (min P.m P.n)) (min (cnt (fun k => decide (p k = b)) (min P.m P.n)) (cnt (fun c => decide (A c = b)) P.n)) with hlt | hge
  case inr => omega
  exfalso
  obtain ⟨k, hk, hpk, hsk⟩ := cnt_ex (f := atB a p A b) (g := fun k => decide (p k = b)) (n := min P.m P.n) (by omega)
  rw [decide_eq_true_eq] at hpk
  obtain ⟨d, hd⟩ := Option.isSome_iff_exists.1 (hQ.first hB k (by omega) (by omega))
  have hdn := P.lt k d (hB.mat.ok hd).2
  have hdA : A d ≠ p k := fun e => by
    unfold atB at hsk
    rw [stays_some hd, e, hpk] at hsk
    simp at hsk
  obtain ⟨c, hc, hcA, hno⟩ : ∃ c, c < P.n ∧ A c = b ∧ ∀ j, a j = some c → p j ≠ b := by
    rcases Classical.em (∃ c, c < P.n ∧ A c = b ∧ ∀ j, a j = some c → p j ≠ b) with h | h
    · exact h
    · exfalso
      have := cnt_rel (R := fun c j => a j = some c) (fun c c' j e e' => by rw [e] at e'; injection e') P.n (min P.m P.n) (fun c => decide (A c = b)) (atB a p A b) fun c hc hA => by
        rw [decide_eq_true_eq] at hA
        rcases Classical.em (∃ j, a j = some c ∧ p j = b) with ⟨j, hj, hp⟩ | h'
        · have hjn : j < P.n := by
            rcases Nat.lt_or_ge j P.n with h | h
            · exact h
            · have := hQ.rest hB j h; rw [hj] at this; cases this
          have hjm := (hB.mat.ok hj).1
          refine ⟨j, by omega, ?_, hj⟩
          unfold atB
          rw [stays_some hj, hA, hp]; simp
        · exact absurd ⟨c, hc, hA, fun j hj hp => h' ⟨j, hj, hp⟩⟩ h
      omega
  have hkm : k < P.m := by omega
  have hcd : c ≠ d := fun e => by subst e; exact hdA (hcA.trans hpk.symm)
  have hck : P.cst k c = 0 := by rw [hQ.cst k c hkm hc, if_pos (by rw [hcA, hpk])]
  have hcd1 : P.cst k d = 1 := by rw [hQ.cst k d hkm hdn, if_neg hdA]
  rcases Classical.em (∃ j, a j = some c) with ⟨j, hj⟩ | hfree
  · have hjm := (hB.mat.ok hj).1
    have hjk : j ≠ k := fun e => by subst e; rw [hd] at hj; injection hj with hj; exact hcd hj.symm
    have hm : Mat P (upd (upd a k (some c)) j (some d)) := by
      refine ⟨fun {x y} e => ?_, fun {x x' y} e e' => ?_⟩
      · by_cases h1 : x = j
        · subst h1; rw [upd_eq] at e; injection e with e; subst e; exact ⟨hjm, hQ.acc _ _ hjm hdn⟩
        · rw [upd_ne _ _ h1] at e
          by_cases h2 : x = k
          · subst h2; rw [upd_eq] at e; injection e with e; subst e; exact ⟨hkm, hQ.acc _ _ hkm hc⟩
          · rw [upd_ne _ _ h2] at e; exact hB.mat.ok e
      · have g : ∀ x, upd (upd a k (some c)) j (some d) x = a (if x = j then k else if x = k then j else x) := fun x => by
          by_cases h1 : x = j
          · subst h1; rw [upd_eq, if_pos rfl, hd]
          · rw [upd_ne _ _ h1, if_neg h1]
            by_cases h2 : x = k
            · subst h2; rw [upd_eq, if_pos rfl, hj]
            · rw [upd_ne _ _ h2, if_neg h2]
        rw [g] at e e'
        have := hB.mat.inj e e'
        split at this <;> split at this <;> (try split at this) <;> (try split at this) <;> omega
    have hs : Same a (upd (upd a k (some c)) j (some d)) := fun x => by
      by_cases h1 : x = j
      · subst h1; rw [upd_eq, hj]; rfl
      · rw [upd_ne _ _ h1]
        by_cases h2 : x = k
        · subst h2; rw [upd_eq, hd]; rfl
        · rw [upd_ne _ _ h2]
    have ht := hB.cheap hm hs
    have e1 : P.tot (upd (upd a k (some c)) j (some d)) = P.tot a + (P.cst k c - P.cst k d) + (P.cst j d - P.cst j c) := by
      have g : ∀ x, P.one (upd (upd a k (some c)) j (some d)) x = P.one a x + ((if x = k then P.cst k c - P.cst k d else 0) + (if x = j then P.cst j d - P.cst j c else 0)) := fun x => by
        unfold Prob.one
        by_cases h1 : x = j
        · subst h1
          rw [upd_eq, hj, if_neg hjk, if_pos rfl]
          show P.cst x d = P.cst x c + _
          omega
        · rw [upd_ne _ _ h1, if_neg h1]
          by_cases h2 : x = k
          · subst h2
            rw [upd_eq, hd, if_pos rfl]
            show P.cst x c = P.cst x d + _
            omega
          · rw [upd_ne _ _ h2, if_neg h2]; omega
      unfold Prob.tot
      rw [sumN_congr fun x _ => g x, sumN_add, sumN_add, sumN_one, sumN_one, if_pos hkm, if_pos hjm]
      omega
    have hjc : P.cst j c = 1 := by rw [hQ.cst j c hjm hc, if_neg (fun e => hno j hj (by rw [← e, hcA]))]
    have hjd : P.cst j d ≤ 1 := by rw [hQ.cst j d hjm hdn]; split <;> omega
    omega
  · have hm : Mat P (upd a k (some c)) := by
      refine ⟨fun {x y} e => ?_, fun {x x' y} e e' => ?_⟩
      · by_cases h2 : x = k
        · subst h2; rw [upd_eq] at e; injection e with e; subst e; exact ⟨hkm, hQ.acc _ _ hkm hc⟩
        · rw [upd_ne _ _ h2] at e; exact hB.mat.ok e
      · by_cases h1 : x = k <;> by_cases h2 : x' = k
        · omega
        · subst h1; rw [upd_eq] at e; rw [upd_ne _ _ h2] at e'; injection e with e; subst e; exact absurd ⟨_, e'⟩ hfree
        · subst h2; rw [upd_eq] at e'; rw [upd_ne _ _ h1] at e; injection e' with e'; subst e'; exact absurd ⟨_, e⟩ hfree
        · rw [upd_ne _ _ h1] at e; rw [upd_ne _ _ h2] at e'; exact hB.mat.inj e e'
    have hs : Same a (upd a k (some c)) := fun x => by
      by_cases h2 : x = k
      · subst h2; rw [upd_eq, hd]; rfl
      · rw [upd_ne _ _ h2]
    have ht := hB.cheap hm hs
    have e1 : P.tot (upd a k (some c)) = P.tot a + (P.cst k c - P.cst k d) := by
      have g : ∀ x, P.one (upd a k (some c)) x = P.one a x + (if x = k then P.cst k c - P.cst k d else 0) := fun x => by
        unfold Prob.one
        by_cases h2 : x = k
        · subst h2
          rw [upd_eq, hd, if_pos rfl]
          show P.cst x c = P.cst x d + _
          omega
        · rw [upd_ne _ _ h2, if_neg h2]; omega
      unfold Prob.tot
      rw [sumN_congr fun x _ => g x, sumN_add, sumN_one, if_pos hkm]
    omega
def stayN (p A : Nat → Int) (f n : Nat) (b : Int) : Nat := min (cnt (fun k => decide (p k = b)) f) (cnt (fun c => decide (A c = b)) n)
theorem Queue.tot (hQ : Queue P p A) (hB : Best P a) : P.tot a = (min P.m P.n : Nat) - ((stayN p A (min P.m P.n) P.n 0 + stayN p A (min P.m P.n) P.n 1 + stayN p A (min P.m P.n) P.n 2 + stayN p A (min P.m P.n) P.n 3 : Nat) : Int) := by
  have h1 := sum_stay (b := stays a p A) (f := min P.m P.n) (g := P.one a) P.m (by omega) (fun k hk => hQ.one hB k hk) fun k hk => by
    have : (a k) = none := by
      rcases Nat.lt_or_ge k P.m with h | h
      · have := hQ.rest hB k (by omega)
        cases e : a k with
        | none => rfl
        | some c => rw [e] at this; cases this
      · exact hB.mat.none h
    unfold Prob.one; rw [this]; rfl
  have h2 := cnt_four (f := stays a p A) hQ.pb (min P.m P.n)
  have b0 := hQ.branch hB 0
  have b1 := hQ.branch hB 1
  have b2 := hQ.branch hB 2
  have b3 := hQ.branch hB 3
  unfold stayN
  unfold Prob.tot
  rw [h1, h2]
  unfold atB at b0 b1 b2 b3
  omega
end
end Go.Proofs.Ytpcmppamkgkdlaa
