/- Assignments, plainly: sums, matchings, what is best, and that it is one alone. -/
namespace Go.Proofs.Ytpcmppamkgkdlaa

/-! Sums. -/
def sumN (f : Nat → Int) : Nat → Int
  | 0 => 0
  | n + 1 => sumN f n + f n
theorem sumN_congr {f g : Nat → Int} : ∀ {n : Nat}, (∀ k, k < n → f k = g k) → sumN f n = sumN g n
  | 0, _ => rfl
  | n + 1, h => by rw [sumN, sumN, sumN_congr (fun k hk => h k (by omega)), h n (by omega)]
theorem sumN_le {f g : Nat → Int} : ∀ {n : Nat}, (∀ k, k < n → f k ≤ g k) → sumN f n ≤ sumN g n
  | 0, _ => Int.le_refl _
  | n + 1, h => by
    have h1 := sumN_le (n := n) (fun k hk => h k (by omega))
    have h2 := h n (by omega)
    simp only [sumN]; omega
theorem sumN_add (f g : Nat → Int) : ∀ n : Nat, sumN (fun k => f k + g k) n = sumN f n + sumN g n
  | 0 => rfl
  | n + 1 => by simp only [sumN, sumN_add f g n]; omega
theorem sumN_sub (f g : Nat → Int) : ∀ n : Nat, sumN (fun k => f k - g k) n = sumN f n - sumN g n
  | 0 => rfl
  | n + 1 => by simp only [sumN, sumN_sub f g n]; omega
theorem sumN_zero : ∀ n : Nat, sumN (fun _ => 0) n = 0
  | 0 => rfl
  | n + 1 => by simp only [sumN, sumN_zero n]; rfl
theorem sumN_nonneg {f : Nat → Int} {n : Nat} (h : ∀ k, k < n → 0 ≤ f k) : 0 ≤ sumN f n := by
  rw [← sumN_zero n]; exact sumN_le h
/-- A sum of numbers that are not negative is no less than each one. -/
theorem sumN_ge {f : Nat → Int} : ∀ {n : Nat}, (∀ k, k < n → 0 ≤ f k) → ∀ k, k < n → f k ≤ sumN f n
  | 0, _, k, hk => by omega
  | n + 1, h, k, hk => by
    have h0 := sumN_nonneg (n := n) (fun k hk => h k (by omega))
    have hn := h n (by omega)
    simp only [sumN]
    rcases Nat.lt_or_ge k n with hlt | hge
    · have := sumN_ge (n := n) (fun k hk => h k (by omega)) k hlt; omega
    · obtain rfl : k = n := by omega
      omega
theorem sumN_swap (F : Nat → Nat → Int) (n : Nat) : ∀ m : Nat, sumN (fun k => sumN (fun c => F k c) n) m = sumN (fun c => sumN (fun k => F k c) m) n
  | 0 => by simp only [sumN]; exact (sumN_zero n).symm
  | m + 1 => by
    simp only [sumN]
    rw [sumN_swap F n m, ← sumN_add]
theorem sumN_one (a : Nat) (x : Int) : ∀ n : Nat, sumN (fun i => if i = a then x else 0) n = if a < n then x else 0
  | 0 => by simp [sumN]
  | n + 1 => by
    simp only [sumN, sumN_one a x n]
    by_cases h : n = a
    · subst h; simp
    · by_cases h2 : a < n
      · have : a < n + 1 := by omega
        simp [h, h2, this]
      · have : ¬ a < n + 1 := by omega
        simp [h, h2, this]

/-- A problem: wants, copies, what is accepted, what it costs. -/
structure Prob where
  m : Nat
  n : Nat
  acc : Nat → List Nat
  cst : Nat → Nat → Int
  /-- what is accepted exists -/
  lt : ∀ k c, c ∈ acc k → c < n

/-- The copies of the wants are copies that they accept, each once. -/
structure Mat (P : Prob) (cp : Nat → Option Nat) : Prop where
  ok : ∀ {k c}, cp k = some c → k < P.m ∧ c ∈ P.acc k
  inj : ∀ {j k c}, cp j = some c → cp k = some c → j = k

/-- The copies' wants are those that have them. -/
def Con (cp wn : Nat → Option Nat) : Prop := ∀ k c, cp k = some c ↔ wn c = some k

/-- What a want's copy costs. -/
def Prob.one (P : Prob) (cp : Nat → Option Nat) (k : Nat) : Int := (cp k).elim 0 (P.cst k)
def Prob.tot (P : Prob) (cp : Nat → Option Nat) : Int := sumN (P.one cp) P.m

def Same (cp cp' : Nat → Option Nat) : Prop := ∀ k, (cp k).isSome = (cp' k).isSome
theorem Same.refl (cp) : Same cp cp := fun _ => rfl
theorem Same.symm {cp cp'} (h : Same cp cp') : Same cp' cp := fun k => (h k).symm
theorem Same.trans {a b c} (h : Same a b) (g : Same b c) : Same a c := fun k => (h k).trans (g k)

/-- Want by want, those that can be served together are served. -/
def Greedy (P : Prob) (cp : Nat → Option Nat) : Prop :=
  ∀ k, k < P.m → ((cp k).isSome ↔ ∃ q, Mat P q ∧ (∀ j, j < k → (cp j).isSome → (q j).isSome) ∧ (q k).isSome)
theorem Greedy.same {P : Prob} {cp cp'} (h : Greedy P cp) (hs : Same cp cp') : Greedy P cp' := fun k hk => by
  rw [← hs k, h k hk]
  constructor
  · rintro ⟨q, h1, h2, h3⟩
    exact ⟨q, h1, fun j hj hs' => h2 j hj (by rw [hs j]; exact hs'), h3⟩
  · rintro ⟨q, h1, h2, h3⟩
    exact ⟨q, h1, fun j hj hs' => h2 j hj (by rw [← hs j]; exact hs'), h3⟩

/-- Of all assignments that serve the same wants: the cheapest, and of these the least list. -/
structure Best (P : Prob) (cp : Nat → Option Nat) : Prop where
  mat : Mat P cp
  greedy : Greedy P cp
  cheap : ∀ {q}, Mat P q → Same cp q → P.tot cp ≤ P.tot q
  least : ∀ {q}, Mat P q → Same cp q → P.tot q = P.tot cp → ∀ {k c d}, (∀ j, j < k → q j = cp j) → cp k = some c → q k = some d → c ≤ d

theorem Mat.none {P : Prob} {cp} (h : Mat P cp) {k : Nat} (hk : P.m ≤ k) : cp k = none := by
  cases e : cp k with
  | none => rfl
  | some c => have := (h.ok e).1; omega

theorem Greedy.agree {P : Prob} {a b} (ma : Mat P a) (mb : Mat P b) (ha : Greedy P a) (hb : Greedy P b) : Same a b := by
  intro k
  induction k using Nat.strongRecOn with
  | _ k ih =>
    rcases Nat.lt_or_ge k P.m with hk | hk
    · have h1 := ha k hk
      have h2 := hb k hk
      have : (a k).isSome ↔ (b k).isSome := by
        rw [h1, h2]
        constructor
        · rintro ⟨q, g1, g2, g3⟩
          exact ⟨q, g1, fun j hj hs => g2 j hj (by rw [ih j hj]; exact hs), g3⟩
        · rintro ⟨q, g1, g2, g3⟩
          exact ⟨q, g1, fun j hj hs => g2 j hj (by rw [← ih j hj]; exact hs), g3⟩
      cases e1 : (a k).isSome <;> cases e2 : (b k).isSome <;> simp_all
    · rw [ma.none hk, mb.none hk]

theorem Best.unique {P : Prob} {a b} (ha : Best P a) (hb : Best P b) : a = b := by
  have hs := Greedy.agree ha.mat hb.mat ha.greedy hb.greedy
  have ht : P.tot b = P.tot a := by
    have h1 := ha.cheap hb.mat hs
    have h2 := hb.cheap ha.mat hs.symm
    omega
  funext k
  induction k using Nat.strongRecOn with
  | _ k ih =>
    have hk := hs k
    cases ea : a k with
    | none => cases eb : b k with
      | none => rfl
      | some d => rw [ea, eb] at hk; simp at hk
    | some c => cases eb : b k with
      | none => rw [ea, eb] at hk; simp at hk
      | some d =>
        have h1 := ha.least hb.mat hs ht (fun j hj => (ih j hj).symm) ea eb
        have h2 := hb.least ha.mat hs.symm ht.symm (fun j hj => ih j hj) eb ea
        congr 1; omega

/-- What the copies of the wants are worth, counted by wants and by copies. -/
theorem count_swap {P : Prob} {cp wn} (h : Mat P cp) (hc : Con cp wn) (g : Nat → Int) :
    sumN (fun k => (cp k).elim 0 g) P.m = sumN (fun c => if (wn c).isSome then g c else 0) P.n := by
  have h1 : sumN (fun k => (cp k).elim 0 g) P.m = sumN (fun k => sumN (fun c => if cp k = some c then g c else 0) P.n) P.m := by
    refine sumN_congr fun k hk => ?_
    cases e : cp k with
    | none => simp [sumN_zero]
    | some c =>
      have hc := P.lt k c (h.ok e).2
      have : (fun c' => if some c = some c' then g c' else 0) = fun i => if i = c then g c else 0 := by
        funext i
        by_cases hi : i = c
        · subst hi; simp
        · have hi' : ¬ c = i := fun h => hi h.symm
          simp [hi, hi']
      rw [this, sumN_one, if_pos hc]; rfl
  rw [h1, sumN_swap]
  refine sumN_congr fun c hcn => ?_
  cases e : wn c with
  | none =>
    have : (fun k => if cp k = some c then g c else 0) = fun _ => 0 := by
      funext k
      have : ¬ cp k = some c := fun hk => by rw [(hc k c).1 hk] at e; cases e
      simp [this]
    rw [this, sumN_zero]; rfl
  | some k =>
    have hk := (hc k c).2 e
    have : (fun j => if cp j = some c then g c else 0) = fun j => if j = k then g c else 0 := by
      funext j
      by_cases hj : j = k
      · subst hj; simp [hk]
      · have : ¬ cp j = some c := fun h' => hj (h.inj h' hk)
        simp [hj, this]
    rw [this, sumN_one, if_pos (h.ok hk).1]; rfl

/-- A potential: no exchange among the wants from one on makes it cheaper. -/
structure Pot (P : Prob) (first : Nat) (cp wn : Nat → Option Nat) (f : Nat → Int) : Prop where
  edge : ∀ {k u v}, first ≤ k → cp k = some u → v ∈ P.acc k → f v ≤ f u + (P.cst k v - P.cst k u)
  free : ∀ {c}, c < P.n → wn c = none → f P.n ≤ f c
  held : ∀ {c k}, c < P.n → wn c = some k → first ≤ k → f c ≤ f P.n

/-- The owners of the copies, from the wants' copies. -/
theorem owners {P : Prob} {cp} (h : Mat P cp) : ∃ wn, Con cp wn := by
  refine ⟨fun c => (List.range P.m).find? (fun k => decide (cp k = some c)), fun k c => ?_⟩
  constructor
  · intro e
    have hk := (h.ok e).1
    cases f : (List.range P.m).find? (fun k => decide (cp k = some c)) with
    | none =>
      have := List.find?_eq_none.1 f k (List.mem_range.2 hk)
      simp [e] at this
    | some j =>
      have hj := List.find?_some f
      have hj : cp j = some c := by simpa using hj
      obtain rfl := h.inj hj e
      exact f
  · intro f
    have := List.find?_some f
    simpa using this

/-- What another assignment costs more is no less than what one want's exchange lies above the potential. -/
theorem Pot.slack {P : Prob} {first : Nat} {cp wn q f} (h : Pot P first cp wn f) (hm : Mat P cp) (hc : Con cp wn) (hq : Mat P q) (hs : Same cp q)
    (ha : ∀ j, j < first → q j = cp j) {k u v : Nat} (eu : cp k = some u) (ev : q k = some v) :
    (P.cst k v - P.cst k u) - (f v - f u) ≤ P.tot q - P.tot cp := by
  obtain ⟨wq, hcq⟩ := owners hq
  have h1 := count_swap hm hc (fun c => f c - f P.n)
  have h2 := count_swap hq hcq (fun c => f c - f P.n)
  have h3 : sumN (fun c => if (wn c).isSome then f c - f P.n else 0) P.n ≤ sumN (fun c => if (wq c).isSome then f c - f P.n else 0) P.n := by
    refine sumN_le fun c hcn => ?_
    cases e : wn c with
    | none =>
      have := h.free hcn e
      cases e' : wq c with
      | none => simp
      | some k' => simp; omega
    | some k' =>
      rcases Nat.lt_or_ge k' first with hlt | hge
      · have h4 := (hc k' c).2 e
        have h5 := (hcq k' c).1 ((ha k' hlt).trans h4)
        rw [h5]
        exact Int.le_refl _
      · have := h.held hcn e hge
        cases e' : wq c with
        | none => simp; omega
        | some k' => simp
  have key : ∀ j, j < P.m → 0 ≤ (P.one q j - P.one cp j) - ((q j).elim 0 (fun c => f c - f P.n) - (cp j).elim 0 (fun c => f c - f P.n)) := by
    intro j hj
    have hsj := hs j
    unfold Prob.one
    cases e : cp j with
    | none => cases e' : q j with
      | none => simp
      | some v => rw [e, e'] at hsj; simp at hsj
    | some u' => cases e' : q j with
      | none => rw [e, e'] at hsj; simp at hsj
      | some v' =>
        simp only [Option.elim]
        rcases Nat.lt_or_ge j first with hlt | hge
        · have := ha j hlt
          rw [e, e'] at this
          obtain rfl : v' = u' := by injection this
          omega
        · have := h.edge hge e (hq.ok e').2
          omega
  have h6 := sumN_ge key k (hm.ok eu).1
  rw [sumN_sub, sumN_sub, sumN_sub] at h6
  have h7 : P.one q k = P.cst k v := by unfold Prob.one; rw [ev]; rfl
  have h8 : P.one cp k = P.cst k u := by unfold Prob.one; rw [eu]; rfl
  simp only [h7, h8, eu, ev, Option.elim_some] at h6
  unfold Prob.tot
  omega

theorem Pot.cheap {P : Prob} {cp wn q f} (h : Pot P 0 cp wn f) (hm : Mat P cp) (hc : Con cp wn) (hq : Mat P q) (hs : Same cp q) : P.tot cp ≤ P.tot q := by
  by_cases hz : ∃ k, (cp k).isSome
  · obtain ⟨k, hk⟩ := hz
    obtain ⟨u, eu⟩ := Option.isSome_iff_exists.1 hk
    have : (q k).isSome := by rw [← hs k]; exact hk
    obtain ⟨v, ev⟩ := Option.isSome_iff_exists.1 this
    have h1 := h.slack hm hc hq hs (fun j hj => by omega) eu ev
    have h2 := h.edge (Nat.zero_le k) eu (hq.ok ev).2
    omega
  · have h0 : ∀ k, cp k = none := fun k => by
      cases e : cp k with
      | none => rfl
      | some c => exact absurd ⟨k, by rw [e]; rfl⟩ hz
    have h1 : ∀ k, q k = none := fun k => by
      have := hs k
      rw [h0 k] at this
      cases e : q k with
      | none => rfl
      | some c => rw [e] at this; simp at this
    unfold Prob.tot
    refine Int.le_of_eq (sumN_congr fun k _ => ?_)
    unfold Prob.one
    rw [h0, h1]
end Go.Proofs.Ytpcmppamkgkdlaa
