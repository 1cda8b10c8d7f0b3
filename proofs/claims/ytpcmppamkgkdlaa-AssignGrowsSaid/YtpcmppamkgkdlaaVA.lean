/- The reference's way: who can be served (tried out), and the best of all assignments (tried out in order): plainly. -/
import Derived.Test.YtpcmppamkgkdlaaTA
namespace Go.Proofs.Ytpcmppamkgkdlaa

/-- The wants from k on, those before len that are to be served, can be served with copies that are not used. -/
def Comp (P : Prob) (S : Nat → Bool) (len : Nat) (U : Nat → Bool) (k : Nat) : Prop :=
  ∃ q, Mat P q ∧ (∀ j, k ≤ j → j < len → S j = true → (q j).isSome = true) ∧ ∀ j c, k ≤ j → q j = some c → U c = false
def upU (U : Nat → Bool) (c : Nat) (b : Bool) : Nat → Bool := fun x => if x = c then b else U x
def upC (cp : Nat → Option Nat) (k : Nat) (o : Option Nat) : Nat → Option Nat := fun j => if j = k then o else cp j
theorem mat_none (P : Prob) : Mat P fun _ => none := ⟨fun {k c} e => (by cases e), fun {j k c} e _ => (by cases e)⟩
theorem comp_end {P : Prob} {S : Nat → Bool} {len : Nat} {U : Nat → Bool} {k : Nat} (h : len ≤ k) : Comp P S len U k := ⟨fun _ => none, mat_none P, fun j h1 h2 => by omega, fun j c _ e => by cases e⟩
/-- A matching without what lies before k. -/
theorem mat_from {P : Prob} {q : Nat → Option Nat} (h : Mat P q) (k : Nat) : Mat P fun j => if k ≤ j then q j else none := by
  refine ⟨fun {j c} e => ?_, fun {i j c} e f => ?_⟩
  · by_cases hj : k ≤ j
    · simp [hj] at e; exact h.ok e
    · simp [hj] at e
  · by_cases hi : k ≤ i <;> by_cases hj : k ≤ j <;> simp [hi, hj] at e f
    exact h.inj e f
theorem comp_skip {P : Prob} {S : Nat → Bool} {len : Nat} {U : Nat → Bool} {k : Nat} (h : S k = false) : Comp P S len U k ↔ Comp P S len U (k + 1) := by
  constructor
  · rintro ⟨q, h1, h2, h3⟩
    exact ⟨q, h1, fun j hj => h2 j (by omega), fun j c hj => h3 j c (by omega)⟩
  · rintro ⟨q, h1, h2, h3⟩
    refine ⟨_, mat_from h1 (k + 1), fun j hj hl hs => ?_, fun j c hj e => ?_⟩
    · by_cases hjk : k + 1 ≤ j
      · simp only [hjk, if_true]; exact h2 j hjk hl hs
      · obtain rfl : j = k := by omega
        rw [h] at hs; cases hs
    · by_cases hjk : k + 1 ≤ j
      · simp only [hjk, if_true] at e; exact h3 j c hjk e
      · simp [hjk] at e
theorem comp_take {P : Prob} {S : Nat → Bool} {len : Nat} {U : Nat → Bool} {k : Nat} (hk : k < len) (hm : k < P.m) (h : S k = true) :
    Comp P S len U k ↔ ∃ c, c < P.n ∧ c ∈ P.acc k ∧ U c = false ∧ Comp P S len (upU U c true) (k + 1) := by
  constructor
  · rintro ⟨q, h1, h2, h3⟩
    obtain ⟨c, hc⟩ := Option.isSome_iff_exists.1 (h2 k (Nat.le_refl _) hk h)
    refine ⟨c, P.lt k c (h1.ok hc).2, (h1.ok hc).2, h3 k c (Nat.le_refl _) hc, q, h1, fun j hj => h2 j (by omega), fun j d hj e => ?_⟩
    unfold upU
    rw [if_neg (fun hd => by subst hd; have := h1.inj hc e; omega)]
    exact h3 j d (by omega) e
  · rintro ⟨c, hc, ha, hu, q, h1, h2, h3⟩
    have h4 := mat_from h1 (k + 1)
    have hne : ∀ j, k + 1 ≤ j → q j ≠ some c := fun j hj e => by have := h3 j c hj e; simp [upU] at this
    refine ⟨fun j => if j = k then some c else if k + 1 ≤ j then q j else none, ⟨fun {j d} e => ?_, fun {i j d} e f => ?_⟩, fun j hj hl hs => ?_, fun j d hj e => ?_⟩
    · by_cases hj : j = k
      · subst hj; simp at e; subst e; exact ⟨hm, ha⟩
      · simp only [hj, if_false] at e; exact h4.ok e
    · by_cases hi : i = k <;> by_cases hj : j = k
      · omega
      · subst hi
        simp only [if_true, hj, if_false] at e f
        injection e with e; subst e
        by_cases hjk : i + 1 ≤ j
        · simp only [hjk, if_true] at f; exact absurd f (hne j hjk)
        · simp [hjk] at f
      · subst hj
        simp only [if_true, hi, if_false] at e f
        injection f with f; subst f
        by_cases hjk : j + 1 ≤ i
        · simp only [hjk, if_true] at e; exact absurd e (hne i hjk)
        · simp [hjk] at e
      · simp only [hi, hj, if_false] at e f; exact h4.inj e f
    · by_cases hjk : j = k
      · simp [hjk]
      · have : k + 1 ≤ j := by omega
        simp only [hjk, this, if_true, if_false]; exact h2 j this hl hs
    · by_cases hjk : j = k
      · subst hjk; simp at e; subst e; exact hu
      · have hj2 : k + 1 ≤ j := by omega
        simp only [hjk, hj2, if_true, if_false] at e
        have := h3 j d hj2 e
        unfold upU at this
        by_cases hd : d = c
        · subst hd; exact hu
        · simpa [hd] using this

/-! All assignments that serve S, in order. -/
structure Cpl (P : Prob) (S : Nat → Bool) (cp : Nat → Option Nat) (k : Nat) (q : Nat → Option Nat) : Prop where
  mat : Mat P q
  pre : ∀ j, j < k → q j = cp j
  srv : ∀ j, (q j).isSome = S j
def LexLe (g q : Nat → Option Nat) : Prop := g = q ∨ ∃ i c d, (∀ j, j < i → g j = q j) ∧ g i = some c ∧ q i = some d ∧ c < d
abbrev St := Option (Nat → Option Nat)
structure TryE (P : Prob) (S : Nat → Bool) (cp : Nat → Option Nat) (k : Nat) (st st' : St) : Prop where
  out : st' = st ∨ ∃ g', st' = some g' ∧ Cpl P S cp k g' ∧ ∀ g, st = some g → P.tot g' < P.tot g
  all : ∀ q, Cpl P S cp k q → ∃ g', st' = some g' ∧ P.tot g' ≤ P.tot q ∧ (P.tot g' = P.tot q → st' = st ∨ LexLe g' q)
structure LoopE (P : Prob) (S : Nat → Bool) (cp : Nat → Option Nat) (k c : Nat) (st st' : St) : Prop where
  out : st' = st ∨ ∃ g' d, st' = some g' ∧ Cpl P S cp k g' ∧ g' k = some d ∧ d < c ∧ ∀ g, st = some g → P.tot g' < P.tot g
  all : ∀ q d, Cpl P S cp k q → q k = some d → d < c → ∃ g', st' = some g' ∧ P.tot g' ≤ P.tot q ∧ (P.tot g' = P.tot q → st' = st ∨ LexLe g' q)
section
variable {P : Prob} {S : Nat → Bool} {cp : Nat → Option Nat} {k : Nat} {st st1 st2 : St}
theorem sumN_split (f : Nat → Int) (h : ∀ j, 0 ≤ f j) {k m : Nat} (hk : k ≤ m) : sumN f k ≤ sumN f m := by
  induction m with
  | zero => obtain rfl : k = 0 := by omega
            exact Int.le_refl _
  | succ m ih =>
    rcases Nat.lt_or_ge k (m + 1) with hlt | hge
    · have := ih (by omega)
      have := h m
      simp only [sumN]; omega
    · obtain rfl : k = m + 1 := by omega
      exact Int.le_refl _
theorem one_nn (hn : ∀ k c, 0 ≤ P.cst k c) (q : Nat → Option Nat) (j : Nat) : 0 ≤ P.one q j := by
  unfold Prob.one; cases q j with
  | none => simp
  | some c => exact hn j c
theorem Cpl.sum_le (hn : ∀ k c, 0 ≤ P.cst k c) (hk : k ≤ P.m) {q : Nat → Option Nat} (h : Cpl P S cp k q) : sumN (P.one cp) k ≤ P.tot q := by
  have e : sumN (P.one cp) k = sumN (P.one q) k := sumN_congr fun j hj => by unfold Prob.one; rw [h.pre j hj]
  rw [e]
  exact sumN_split _ (one_nn hn q) hk
/-- What is tried costs too much already. -/
theorem TryE.cut (hn : ∀ k c, 0 ≤ P.cst k c) (hk : k ≤ P.m) {g : Nat → Option Nat} (hs : P.tot g ≤ sumN (P.one cp) k) : TryE P S cp k (some g) (some g) :=
  ⟨.inl rfl, fun q hq => ⟨g, rfl, Int.le_trans hs (hq.sum_le hn hk), fun _ => .inl rfl⟩⟩
/-- All wants have been tried. -/
theorem TryE.full (hc : Mat P cp) (hs : ∀ j, (cp j).isSome = S j) (hl : ∀ g, st = some g → P.tot cp < P.tot g) : TryE P S cp P.m st (some cp) := by
  refine ⟨.inr ⟨cp, rfl, ⟨hc, fun _ _ => rfl, hs⟩, hl⟩, fun q hq => ?_⟩
  obtain rfl : q = cp := by
    funext j
    rcases Nat.lt_or_ge j P.m with hj | hj
    · exact hq.pre j hj
    · rw [hq.mat.none hj, hc.none hj]
  exact ⟨q, rfl, Int.le_refl _, fun _ => .inr (.inl rfl)⟩
theorem Cpl.skip (h : S k = false) (hc : cp k = none) {q : Nat → Option Nat} : Cpl P S cp k q ↔ Cpl P S cp (k + 1) q := by
  constructor
  · intro hq
    refine ⟨hq.mat, fun j hj => ?_, hq.srv⟩
    rcases Nat.lt_or_ge j k with h' | h'
    · exact hq.pre j h'
    · obtain rfl : j = k := by omega
      have := hq.srv j
      rw [h] at this
      rw [hc]
      cases e : q j with
      | none => rfl
      | some c => rw [e] at this; cases this
  · intro hq
    exact ⟨hq.mat, fun j hj => hq.pre j (by omega), hq.srv⟩
theorem TryE.skip (h : S k = false) (hc : cp k = none) (ht : TryE P S cp (k + 1) st st1) : TryE P S cp k st st1 :=
  ⟨ht.out.imp id fun ⟨g', h1, h2, h3⟩ => ⟨g', h1, (Cpl.skip h hc).2 h2, h3⟩, fun q hq => ht.all q ((Cpl.skip h hc).1 hq)⟩
theorem LoopE.start : LoopE P S cp k 0 st st := ⟨.inl rfl, fun q d _ _ hd => by omega⟩
theorem LoopE.next {c : Nat} (h : LoopE P S cp k c st st1) (hn : ∀ q, Cpl P S cp k q → q k ≠ some c) : LoopE P S cp k (c + 1) st st1 := by
  refine ⟨h.out.imp id fun ⟨g', d, h1, h2, h3, h4, h5⟩ => ⟨g', d, h1, h2, h3, by omega, h5⟩, fun q d hq hd hlt => ?_⟩
  rcases Nat.lt_or_ge d c with h' | h'
  · exact h.all q d hq hd h'
  · obtain rfl : d = c := by omega
    exact absurd hd (hn q hq)
theorem Cpl.up {c : Nat} {q : Nat → Option Nat} : Cpl P S (upC cp k (some c)) (k + 1) q ↔ Cpl P S cp k q ∧ q k = some c := by
  constructor
  · intro h
    refine ⟨⟨h.mat, fun j hj => ?_, h.srv⟩, ?_⟩
    · rw [h.pre j (by omega)]; unfold upC; rw [if_neg (by omega)]
    · rw [h.pre k (by omega)]; unfold upC; rw [if_pos rfl]
  · rintro ⟨h, e⟩
    refine ⟨h.mat, fun j hj => ?_, h.srv⟩
    unfold upC
    by_cases hjk : j = k
    · subst hjk; simp [e]
    · rw [if_neg hjk]; exact h.pre j (by omega)
theorem LoopE.step {c : Nat} (h : LoopE P S cp k c st st1) (ht : TryE P S (upC cp k (some c)) (k + 1) st1 st2) : LoopE P S cp k (c + 1) st st2 := by
  refine ⟨?_, fun q d hq hd hlt => ?_⟩
  · rcases ht.out with rfl | ⟨g', e, hc, hlt⟩
    · exact h.out.imp id fun ⟨g', d, h1, h2, h3, h4, h5⟩ => ⟨g', d, h1, h2, h3, by omega, h5⟩
    · obtain ⟨hc1, hc2⟩ := Cpl.up.1 hc
      refine .inr ⟨g', c, e, hc1, hc2, by omega, fun g hg => ?_⟩
      rcases h.out with rfl | ⟨g1, d, h1, _, _, _, h5⟩
      · exact hlt g hg
      · have a1 := hlt g1 h1
        have a2 := h5 g hg
        omega
  · rcases Nat.lt_or_ge d c with h' | h'
    · obtain ⟨g1, e1, l1, x1⟩ := h.all q d hq hd h'
      rcases ht.out with rfl | ⟨g', e, hc, hlt2⟩
      · exact ⟨g1, e1, l1, x1⟩
      · have := hlt2 g1 e1
        exact ⟨g', e, by omega, fun hh => by omega⟩
    · obtain rfl : d = c := by omega
      obtain ⟨g', e, l', x'⟩ := ht.all q (Cpl.up.2 ⟨hq, hd⟩)
      refine ⟨g', e, l', fun hh => ?_⟩
      rcases x' hh with rfl | hx
      · rcases h.out with hs | ⟨g1, d1, h1, h2, h3, h4, _⟩
        · exact .inl hs
        · rw [e] at h1
          injection h1 with h1
          subst h1
          exact .inr (.inr ⟨k, d1, d, fun j hj => by rw [h2.pre j hj, hq.pre j hj], h3, hd, h4⟩)
      · exact .inr hx
theorem TryE.of_loop (hs : S k = true) (h : LoopE P S cp k P.n st st1) : TryE P S cp k st st1 := by
  refine ⟨h.out.imp id fun ⟨g', d, h1, h2, h3, h4, h5⟩ => ⟨g', h1, h2, h5⟩, fun q hq => ?_⟩
  have := hq.srv k
  rw [hs] at this
  obtain ⟨d, hd⟩ := Option.isSome_iff_exists.1 this
  exact h.all q d hq hd (P.lt k d (hq.mat.ok hd).2)
end
/-- Who is served: want by want, if all can be served together. -/
def SrvOk (P : Prob) (S : Nat → Bool) (len : Nat) : Prop := (∀ k, k < len → (S k = true ↔ Comp P (upU S k true) (k + 1) (fun _ => false) 0)) ∧ (∀ k, len ≤ k → S k = false) ∧ Comp P S len (fun _ => false) 0
theorem Comp.congr {P : Prob} {S S' : Nat → Bool} {len : Nat} {U : Nat → Bool} {k : Nat} (h : Comp P S len U k) (hs : ∀ j, j < len → S' j = true → S j = true) : Comp P S' len U k := by
  obtain ⟨q, h1, h2, h3⟩ := h
  exact ⟨q, h1, fun j hj hl hh => h2 j hj hl (hs j hl hh), h3⟩
theorem SrvOk.start (P : Prob) : SrvOk P (fun _ => false) 0 := ⟨fun k hk => by omega, fun _ _ => rfl, comp_end (by omega)⟩
theorem SrvOk.step {P : Prob} {S : Nat → Bool} {len : Nat} {b : Bool} (h : SrvOk P S len) (hb : b = true ↔ Comp P (upU S len true) (len + 1) (fun _ => false) 0) : SrvOk P (upU S len b) (len + 1) := by
  refine ⟨fun k hk => ?_, fun k hk => ?_, ?_⟩
  · rcases Nat.lt_or_ge k len with h' | h'
    · have e : upU S len b k = S k := if_neg (by omega)
      rw [e, h.1 k h']
      constructor
      · exact fun hc => hc.congr fun j hj => by
          unfold upU
          by_cases hjk : j = k
          · simp [hjk]
          · simp [hjk, show ¬ j = len by omega]
      · exact fun hc => hc.congr fun j hj => by
          unfold upU
          by_cases hjk : j = k
          · simp [hjk]
          · simp [hjk, show ¬ j = len by omega]
    · obtain rfl : k = len := by omega
      have e : upU S k b k = b := if_pos rfl
      rw [e, hb]
      constructor
      · exact fun hc => hc.congr fun j hj => by
          unfold upU
          by_cases hjk : j = k <;> simp [hjk]
      · exact fun hc => hc.congr fun j hj => by
          unfold upU
          by_cases hjk : j = k <;> simp [hjk]
  · unfold upU; rw [if_neg (by omega)]; exact h.2.1 k (by omega)
  · cases hbb : b with
    | true =>
      rw [hbb] at hb
      exact hb.1 rfl
    | false =>
      obtain ⟨q, h1, h2, h3⟩ := h.2.2
      refine ⟨q, h1, fun j hj hl hs => ?_, h3⟩
      unfold upU at hs
      by_cases hjk : j = len
      · simp [hjk] at hs
      · simp only [hjk, if_false] at hs; exact h2 j hj (by omega) hs
/-- What the reference finds is the best. -/
theorem ref_best {P : Prob} {S : Nat → Bool} (hs : SrvOk P S P.m) {st : St} (ht : TryE P S (fun _ => none) 0 none st) : ∃ g, st = some g ∧ Best P g := by
  obtain ⟨q, h1, h2, _⟩ := hs.2.2
  have hcp : Cpl P S (fun _ => none) 0 (fun j => if S j = true then q j else none) := by
    refine ⟨⟨fun {j c} e => ?_, fun {i j c} e f => ?_⟩, fun j hj => by omega, fun j => ?_⟩
    · by_cases hj : S j = true
      · simp [hj] at e; exact h1.ok e
      · simp [hj] at e
    · by_cases hi : S i = true <;> by_cases hj : S j = true <;> simp [hi, hj] at e f
      exact h1.inj e f
    · by_cases hj : S j = true
      · simp only [hj, if_true]
        rcases Nat.lt_or_ge j P.m with h' | h'
        · exact h2 j (by omega) h' hj
        · rw [hs.2.1 j h'] at hj; cases hj
      · simp [hj]
  obtain ⟨g, hg, _, _⟩ := ht.all _ hcp
  rcases ht.out with e | ⟨g', e, hc, _⟩
  · rw [e] at hg; cases hg
  rw [hg] at e
  injection e with e
  subst e
  refine ⟨g, hg, hc.mat, fun k hk => ?_, fun {q'} hq hsm => ?_, fun {q'} hq hsm htt {k c d} hj e1 e2 => ?_⟩
  · rw [hc.srv k, hs.1 k hk]
    constructor
    · rintro ⟨q', a1, a2, _⟩
      refine ⟨q', a1, fun j hj hh => a2 j (by omega) (by omega) ?_, a2 k (by omega) (by omega) (by simp [upU])⟩
      rw [hc.srv j] at hh
      unfold upU; rw [if_neg (by omega)]; exact hh
    · rintro ⟨q', a1, a2, a3⟩
      refine ⟨q', a1, fun j _ hj hh => ?_, fun _ _ _ _ => rfl⟩
      rcases Nat.lt_or_ge j k with h' | h'
      · refine a2 j h' ?_
        rw [hc.srv j]
        unfold upU at hh; rw [if_neg (by omega)] at hh; exact hh
      · obtain rfl : j = k := by omega
        exact a3
  · obtain ⟨g2, hg2, l2, _⟩ := ht.all q' ⟨hq, fun j hj => by omega, fun j => by rw [← hsm j]; exact hc.srv j⟩
    rw [hg] at hg2
    injection hg2 with hg2
    subst hg2
    exact l2
  · obtain ⟨g2, hg2, l2, x2⟩ := ht.all q' ⟨hq, fun j hj => by omega, fun j => by rw [← hsm j]; exact hc.srv j⟩
    rw [hg] at hg2
    injection hg2 with hg2
    subst hg2
    rcases x2 htt.symm with h' | h' | ⟨i, c', d', p1, p2, p3, p4⟩
    · rw [hg] at h'; cases h'
    · subst h'
      rw [e1] at e2
      injection e2 with e2
      omega
    · rcases Nat.lt_trichotomy i k with hik | rfl | hik
      · have := hj i hik
        rw [p2, p3] at this
        injection this with this
        omega
      · rw [e1] at p2; rw [e2] at p3
        injection p2 with p2; injection p3 with p3
        omega
      · have := p1 k hik
        rw [e1, e2] at this
        injection this with this
        omega
end Go.Proofs.Ytpcmppamkgkdlaa
