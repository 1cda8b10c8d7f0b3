

/- Assignments, plainly: sums, matchings, what is best, and that it is one alone. -/
namespace Go.Proofs.Ytpcmppamkgkdlaa

/-! Sums. -/
def sumN (f : Nat → Int) : Nat → Int
  | 0 => 0
  | n + 1 => sumN f n + f n
theorem sumN_congr {f g : Nat → Int} : ∀ {n : Nat}, (∀ k, k < n → f k = g k) → sumN f n = sumN g n
  | 0, _ => rfl
  | n + 1, h => by rw [sumN, sumN, sumN_congr (fun k hk => h k (by omega)), h n (by omega)]
theorem sumN_le {f g : Nat → Int} : ∀ {n : Nat}, (∀ k, k < n → f k ≤ g k) → sumN f n ≤ sumN g n
  | 0, _ => Int.le_refl _
  | n + 1, h => by
    have h1 := sumN_le (n := n) (fun k hk => h k (by omega))
    have h2 := h n (by omega)
    simp only [sumN]; omega
theorem sumN_add (f g : Nat → Int) : ∀ n : Nat, sumN (fun k => f k + g k) n = sumN f n + sumN g n
  | 0 => rfl
  | n + 1 => by simp only [sumN, sumN_add f g n]; omega
theorem sumN_sub (f g : Nat → Int) : ∀ n : Nat, sumN (fun k => f k - g k) n = sumN f n - sumN g n
  | 0 => rfl
  | n + 1 => by simp only [sumN, sumN_sub f g n]; omega
theorem sumN_zero : ∀ n : Nat, sumN (fun _ => 0) n = 0
  | 0 => rfl
  | n + 1 => by simp only [sumN, sumN_zero n]; rfl
theorem sumN_nonneg {f : Nat → Int} {n : Nat} (h : ∀ k, k < n → 0 ≤ f k) : 0 ≤ sumN f n := by
  rw [← sumN_zero n]; exact sumN_le h
/-- A sum of numbers that are not negative is no less than each one. -/
theorem sumN_ge {f : Nat → Int} : ∀ {n : Nat}, (∀ k, k < n → 0 ≤ f k) → ∀ k, k < n → f k ≤ sumN f n
  | 0, _, k, hk => by omega
  | n + 1, h, k, hk => by
    have h0 := sumN_nonneg (n := n) (fun k hk => h k (by omega))
    have hn := h n (by omega)
    simp only [sumN]
    rcases Nat.lt_or_ge k n with hlt | hge
    · have := sumN_ge (n := n) (fun k hk => h k (by omega)) k hlt; omega
    · obtain rfl : k = n := by omega
      omega
theorem sumN_swap (F : Nat → Nat → Int) (n : Nat) : ∀ m : Nat, sumN (fun k => sumN (fun c => F k c) n) m = sumN (fun c => sumN (fun k => F k c) m) n
  | 0 => by simp only [sumN]; exact (sumN_zero n).symm
  | m + 1 => by
    simp only [sumN]
    rw [sumN_swap F n m, ← sumN_add]
theorem sumN_one (a : Nat) (x : Int) : ∀ n : Nat, sumN (fun i => if i = a then x else 0) n = if a < n then x else 0
  | 0 => by simp [sumN]
  | n + 1 => by
    simp only [sumN, sumN_one a x n]
    by_cases h : n = a
    · subst h; simp
    · by_cases h2 : a < n
      · have : a < n + 1 := by omega
        simp [h, h2, this]
      · have : ¬ a < n + 1 := by omega
        simp [h, h2, this]

/-- A problem: wants, copies, what is accepted, what it costs. -/
structure Prob where
  m : Nat
  n : Nat
  acc : Nat → List Nat
  cst : Nat → Nat → Int
  /-- what is accepted exists -/
  lt : ∀ k c, c ∈ acc k → c < n

/-- The copies of the wants are copies that they accept, each once. -/
structure Mat (P : Prob) (cp : Nat → Option Nat) : Prop where
  ok : ∀ {k c}, cp k = some c → k < P.m ∧ c ∈ P.acc k
  inj : ∀ {j k c}, cp j = some c → cp k = some c → j = k

/-- The copies' wants are those that have them. -/
def Con (cp wn : Nat → Option Nat) : Prop := ∀ k c, cp k = some c ↔ wn c = some k

/-- What a want's copy costs. -/
def Prob.one (P : Prob) (cp : Nat → Option Nat) (k : Nat) : Int := (cp k).elim 0 (P.cst k)
def Prob.tot (P : Prob) (cp : Nat → Option Nat) : Int := sumN (P.one cp) P.m

def Same (cp cp' : Nat → Option Nat) : Prop := ∀ k, (cp k).isSome = (cp' k).isSome
theorem Same.refl (cp) : Same cp cp := fun _ => rfl
theorem Same.symm {cp cp'} (h : Same cp cp') : Same cp' cp := fun k => (h k).symm
theorem Same.trans {a b c} (h : Same a b) (g : Same b c) : Same a c := fun k => (h k).trans (g k)

/-- Want by want, those that can be served together are served. -/
def Greedy (P : Prob) (cp : Nat → Option Nat) : Prop :=
  ∀ k, k < P.m → ((cp k).isSome ↔ ∃ q, Mat P q ∧ (∀ j, j < k → (cp j).isSome → (q j).isSome) ∧ (q k).isSome)
theorem Greedy.same {P : Prob} {cp cp'} (h : Greedy P cp) (hs : Same cp cp') : Greedy P cp' := fun k hk => by
  rw [← hs k, h k hk]
  constructor
  · rintro ⟨q, h1, h2, h3⟩
    exact ⟨q, h1, fun j hj hs' => h2 j hj (by rw [hs j]; exact hs'), h3⟩
  · rintro ⟨q, h1, h2, h3⟩
    exact ⟨q, h1, fun j hj hs' => h2 j hj (by rw [← hs j]; exact hs'), h3⟩

/-- Of all assignments that serve the same wants: the cheapest, and of these the least list. -/
structure Best (P : Prob) (cp : Nat → Option Nat) : Prop where
  mat : Mat P cp
  greedy : Greedy P cp
  cheap : ∀ {q}, Mat P q → Same cp q → P.tot cp ≤ P.tot q
  least : ∀ {q}, Mat P q → Same cp q → P.tot q = P.tot cp → ∀ {k c d}, (∀ j, j < k → q j = cp j) → cp k = some c → q k = some d → c ≤ d

theorem Mat.none {P : Prob} {cp} (h : Mat P cp) {k : Nat} (hk : P.m ≤ k) : cp k = none := by
  cases e : cp k with
  | none => rfl
  | some c => have := (h.ok e).1; omega

theorem Greedy.agree {P : Prob} {a b} (ma : Mat P a) (mb : Mat P b) (ha : Greedy P a) (hb : Greedy P b) : Same a b := by
  intro k
  induction k using Nat.strongRecOn with
  | _ k ih =>
    rcases Nat.lt_or_ge k P.m with hk | hk
    · have h1 := ha k hk
      have h2 := hb k hk
      have : (a k).isSome ↔ (b k).isSome := by
        rw [h1, h2]
        constructor
        · rintro ⟨q, g1, g2, g3⟩
          exact ⟨q, g1, fun j hj hs => g2 j hj (by rw [ih j hj]; exact hs), g3⟩
        · rintro ⟨q, g1, g2, g3⟩
          exact ⟨q, g1, fun j hj hs => g2 j hj (by rw [← ih j hj]; exact hs), g3⟩
      cases e1 : (a k).isSome <;> cases e2 : (b k).isSome <;> simp_all
    · rw [ma.none hk, mb.none hk]

theorem Best.unique {P : Prob} {a b} (ha : Best P a) (hb : Best P b) : a = b := by
  have hs := Greedy.agree ha.mat hb.mat ha.greedy hb.greedy
  have ht : P.tot b = P.tot a := by
    have h1 := ha.cheap hb.mat hs
    have h2 := hb.cheap ha.mat hs.symm
    omega
  funext k
  induction k using Nat.strongRecOn with
  | _ k ih =>
    have hk := hs k
    cases ea : a k with
    | none => cases eb : b k with
      | none => rfl
      | some d => rw [ea, eb] at hk; simp at hk
    | some c => cases eb : b k with
      | none => rw [ea, eb] at hk; simp at hk
      | some d =>
        have h1 := ha.least hb.mat hs ht (fun j hj => (ih j hj).symm) ea eb
        have h2 := hb.least ha.mat hs.symm ht.symm (fun j hj => ih j hj) eb ea
        congr 1; omega

/-- What the copies of the wants are worth, counted by wants and by copies. -/
theorem count_swap {P : Prob} {cp wn} (h : Mat P cp) (hc : Con cp wn) (g : Nat → Int) :
    sumN (fun k => (cp k).elim 0 g) P.m = sumN (fun c => if (wn c).isSome then g c else 0) P.n := by
  have h1 : sumN (fun k => (cp k).elim 0 g) P.m = sumN (fun k => sumN (fun c => if cp k = some c then g c else 0) P.n) P.m := by
    refine sumN_congr fun k hk => ?_
    cases e : cp k with
    | none => simp [sumN_zero]
    | some c =>
      have hc := P.lt k c (h.ok e).2
      have : (fun c' => if some c = some c' then g c' else 0) = fun i => if i = c then g c else 0 := by
        funext i
        by_cases hi : i = c
        · subst hi; simp
        · have hi' : ¬ c = i := fun h => hi h.symm
          simp [hi, hi']
      rw [this, sumN_one, if_pos hc]; rfl
  rw [h1, sumN_swap]
  refine sumN_congr fun c hcn => ?_
  cases e : wn c with
  | none =>
    have : (fun k => if cp k = some c then g c else 0) = fun _ => 0 := by
      funext k
      have : ¬ cp k = some c := fun hk => by rw [(hc k c).1 hk] at e; cases e
      simp [this]
    rw [this, sumN_zero]; rfl
  | some k =>
    have hk := (hc k c).2 e
    have : (fun j => if cp j = some c then g c else 0) = fun j => if j = k then g c else 0 := by
      funext j
      by_cases hj : j = k
      · subst hj; simp [hk]
      · have : ¬ cp j = some c := fun h' => hj (h.inj h' hk)
        simp [hj, this]
    rw [this, sumN_one, if_pos (h.ok hk).1]; rfl

/-- A potential: no exchange among the wants from one on makes it cheaper. -/
structure Pot (P : Prob) (first : Nat) (cp wn : Nat → Option Nat) (f : Nat → Int) : Prop where
  edge : ∀ {k u v}, first ≤ k → cp k = some u → v ∈ P.acc k → f v ≤ f u + (P.cst k v - P.cst k u)
  free : ∀ {c}, c < P.n → wn c = none → f P.n ≤ f c
  held : ∀ {c k}, c < P.n → wn c = some k → first ≤ k → f c ≤ f P.n

/-- The owners of the copies, from the wants' copies. -/
theorem owners {P : Prob} {cp} (h : Mat P cp) : ∃ wn, Con cp wn := by
  refine ⟨fun c => (List.range P.m).find? (fun k => decide (cp k = some c)), fun k c => ?_⟩
  constructor
  · intro e
    have hk := (h.ok e).1
    cases f : (List.range P.m).find? (fun k => decide (cp k = some c)) with
    | none =>
      have := List.find?_eq_none.1 f k (List.mem_range.2 hk)
      simp [e] at this
    | some j =>
      have hj := List.find?_some f
      have hj : cp j = some c := by simpa using hj
      obtain rfl := h.inj hj e
      exact f
  · intro f
    have := List.find?_some f
    simpa using this

/-- What another assignment costs more is no less than what one want's exchange lies above the potential. -/
theorem Pot.slack {P : Prob} {first : Nat} {cp wn q f} (h : Pot P first cp wn f) (hm : Mat P cp) (hc : Con cp wn) (hq : Mat P q) (hs : Same cp q)
    (ha : ∀ j, j < first → q j = cp j) {k u v : Nat} (eu : cp k = some u) (ev : q k = some v) :
    (P.cst k v - P.cst k u) - (f v - f u) ≤ P.tot q - P.tot cp := by
  obtain ⟨wq, hcq⟩ := owners hq
  have h1 := count_swap hm hc (fun c => f c - f P.n)
  have h2 := count_swap hq hcq (fun c => f c - f P.n)
  have h3 : sumN (fun c => if (wn c).isSome then f c - f P.n else 0) P.n ≤ sumN (fun c => if (wq c).isSome then f c - f P.n else 0) P.n := by
    refine sumN_le fun c hcn => ?_
    cases e : wn c with
    | none =>
      have := h.free hcn e
      cases e' : wq c with
      | none => simp
      | some k' => simp; omega
    | some k' =>
      rcases Nat.lt_or_ge k' first with hlt | hge
      · have h4 := (hc k' c).2 e
        have h5 := (hcq k' c).1 ((ha k' hlt).trans h4)
        rw [h5]
        exact Int.le_refl _
      · have := h.held hcn e hge
        cases e' : wq c with
        | none => simp; omega
        | some k' => simp
  have key : ∀ j, j < P.m → 0 ≤ (P.one q j - P.one cp j) - ((q j).elim 0 (fun c => f c - f P.n) - (cp j).elim 0 (fun c => f c - f P.n)) := by
    intro j hj
    have hsj := hs j
    unfold Prob.one
    cases e : cp j with
    | none => cases e' : q j with
      | none => simp
      | some v => rw [e, e'] at hsj; simp at hsj
    | some u' => cases e' : q j with
      | none => rw [e, e'] at hsj; simp at hsj
      | some v' =>
        simp only [Option.elim]
        rcases Nat.lt_or_ge j first with hlt | hge
        · have := ha j hlt
          rw [e, e'] at this
          obtain rfl : v' = u' := by injection this
          omega
        · have := h.edge hge e (hq.ok e').2
          omega
  have h6 := sumN_ge key k (hm.ok eu).1
  rw [sumN_sub, sumN_sub, sumN_sub] at h6
  have h7 : P.one q k = P.cst k v := by unfold Prob.one; rw [ev]; rfl
  have h8 : P.one cp k = P.cst k u := by unfold Prob.one; rw [eu]; rfl
  simp only [h7, h8, eu, ev, Option.elim_some] at h6
  unfold Prob.tot
  omega

theorem Pot.cheap {P : Prob} {cp wn q f} (h : Pot P 0 cp wn f) (hm : Mat P cp) (hc : Con cp wn) (hq : Mat P q) (hs : Same cp q) : P.tot cp ≤ P.tot q := by
  by_cases hz : ∃ k, (cp k).isSome
  · obtain ⟨k, hk⟩ := hz
    obtain ⟨u, eu⟩ := Option.isSome_iff_exists.1 hk
    have : (q k).isSome := by rw [← hs k]; exact hk
    obtain ⟨v, ev⟩ := Option.isSome_iff_exists.1 this
    have h1 := h.slack hm hc hq hs (fun j hj => by omega) eu ev
    have h2 := h.edge (Nat.zero_le k) eu (hq.ok ev).2
    omega
  · have h0 : ∀ k, cp k = none := fun k => by
      cases e : cp k with
      | none => rfl
      | some c => exact absurd ⟨k, by rw [e]; rfl⟩ hz
    have h1 : ∀ k, q k = none := fun k => by
      have := hs k
      rw [h0 k] at this
      cases e : q k with
      | none => rfl
      | some c => rw [e] at this; simp at this
    unfold Prob.tot
    refine Int.le_of_eq (sumN_congr fun k _ => ?_)
    unfold Prob.one
    rw [h0, h1]
end Go.Proofs.Ytpcmppamkgkdlaa

/- Least costs of ways, plainly: rounds over a list of edges. -/
namespace Go.Proofs.Ytpcmppamkgkdlaa

structure BF where
  cost : Nat → Int
  bef : Nat → Option Nat
  chg : Option Nat

def upd {α : Type} (f : Nat → α) (a : Nat) (x : α) : Nat → α := fun b => if b = a then x else f b
theorem upd_eq {α : Type} (f : Nat → α) (a : Nat) (x : α) : upd f a x a = x := by simp [upd]
theorem upd_ne {α : Type} (f : Nat → α) {a b : Nat} (x : α) (h : b ≠ a) : upd f a x b = f b := by simp [upd, h]

abbrev Edge := Nat × Nat × Int
def endl : Int := 1152921504606846976

def relaxE (s : BF) (e : Edge) : BF :=
  if s.cost e.1 < endl ∧ s.cost e.1 + e.2.2 < s.cost e.2.1 then ⟨upd s.cost e.2.1 (s.cost e.1 + e.2.2), upd s.bef e.2.1 (some e.1), some e.2.1⟩ else s

theorem relax_yes {s : BF} {a b : Nat} {w : Int} (h : s.cost a < endl ∧ s.cost a + w < s.cost b) : relaxE s (a, b, w) = ⟨upd s.cost b (s.cost a + w), upd s.bef b (some a), some b⟩ := if_pos h
theorem relax_no {s : BF} {a b : Nat} {w : Int} (h : ¬ (s.cost a < endl ∧ s.cost a + w < s.cost b)) : relaxE s (a, b, w) = s := if_neg h

/-- What holds in round r, when some edges have been looked at. `tm`: when a node was changed last; `rd`: in which round (and one more); `T`: the time. -/
structure Inv (E : List Edge) (wt : Nat → Nat → Int) (src : Option Nat) (r : Nat) (done : Nat → Nat → Prop) (s : BF) (tm rd : Nat → Nat) (T : Nat) : Prop where
  time : ∀ v, tm v < T
  top : ∀ v, s.cost v ≤ endl
  late : ∀ v, rd v ≤ r + 1
  nb : ∀ v, s.bef v = none → rd v = 0 ∧ s.cost v = match src with | none => 0 | some a => if v = a then 0 else endl
  edge : ∀ {u v}, s.bef v = some u → (u, v, wt u v) ∈ E ∧ s.cost u < endl ∧ s.cost u + wt u v ≤ s.cost v ∧ (s.cost u + wt u v = s.cost v → tm u < tm v) ∧ rd v ≤ rd u + 1
  sb : ∀ {u v}, s.bef v = some u → 1 ≤ rd v
  al : ∀ {u v}, (u, v, wt u v) ∈ E → s.cost u < endl → s.cost v ≤ s.cost u + wt u v ∨ r ≤ rd u
  doneI : ∀ {u v}, done u v → s.cost u < endl → s.cost v ≤ s.cost u + wt u v ∨ r + 1 ≤ rd u
  chgI : ∀ {v}, s.chg = some v → rd v = r + 1
  noI : s.chg = none → ∀ v, rd v ≤ r

variable {E : List Edge} {wt : Nat → Nat → Int} {src : Option Nat} {r : Nat} {done d d' : Nat → Nat → Prop} {s : BF} {tm rd : Nat → Nat} {T : Nat}
theorem Inv.relax (h : Inv E wt src r done s tm rd T) {a b : Nat} {w : Int} (he : (a, b, w) ∈ E) (hw : ∀ {u v w}, (u, v, w) ∈ E → w = wt u v ∧ u ≠ v) :
    ∃ tm' rd' T', Inv E wt src r (fun u v => done u v ∨ (u = a ∧ v = b)) (relaxE s (a, b, w)) tm' rd' T' := by
  obtain ⟨rfl, hab⟩ := hw he
  by_cases hc : s.cost a < endl ∧ s.cost a + wt a b < s.cost b
  · rw [relax_yes hc]
    obtain ⟨hc1, hc2⟩ := hc
    have htop := h.top
    have hrd : ∀ v, rd v ≤ upd rd b (r + 1) v := fun v => by
      by_cases hv : v = b
      · subst hv; rw [upd_eq]; exact h.late _
      · rw [upd_ne _ _ hv]; exact Nat.le_refl _
    have ha : r ≤ rd a := by
      rcases h.al he hc1 with h1 | h1
      · omega
      · exact h1
    refine ⟨upd tm b T, upd rd b (r + 1), T + 1, ?_⟩
    refine { time := fun v => ?_, top := fun v => ?_, late := fun v => ?_, nb := fun v hv => ?_, edge := fun {u v} hv => ?_, sb := fun {u v} hv => ?_, al := fun {u v} hv hu => ?_, doneI := fun {u v} hv hu => ?_, chgI := fun {v} hv => ?_, noI := fun hv => ?_ }
    · by_cases hv : v = b
      · subst hv; rw [upd_eq]; omega
      · rw [upd_ne _ _ hv]; have := h.time v; omega
    · show upd s.cost b _ v ≤ endl
      by_cases hv : v = b
      · subst hv; rw [upd_eq]; have := htop v; omega
      · rw [upd_ne _ _ hv]; exact htop v
    · by_cases hv : v = b
      · subst hv; rw [upd_eq]; exact Nat.le_refl _
      · rw [upd_ne _ _ hv]; exact h.late v
    · have hv' : upd s.bef b (some a) v = none := hv
      by_cases hvb : v = b
      · subst hvb; rw [upd_eq] at hv'; cases hv'
      · rw [upd_ne _ _ hvb] at hv'
        show upd rd b _ v = 0 ∧ upd s.cost b _ v = _
        rw [upd_ne _ _ hvb, upd_ne _ _ hvb]
        exact h.nb v hv'
    · have hv' : upd s.bef b (some a) v = some u := hv
      show _ ∈ E ∧ upd s.cost b _ u < endl ∧ upd s.cost b _ u + _ ≤ upd s.cost b _ v ∧ (upd s.cost b _ u + _ = upd s.cost b _ v → _) ∧ _
      by_cases hvb : v = b
      · subst hvb
        rw [upd_eq] at hv'
        obtain rfl : a = u := by injection hv'
        rw [upd_eq, upd_ne _ _ hab, upd_eq, upd_eq, upd_ne _ _ hab, upd_ne _ _ hab]
        exact ⟨he, hc1, Int.le_refl _, fun _ => h.time _, by omega⟩
      · rw [upd_ne _ _ hvb] at hv'
        obtain ⟨g1, g2, g3, g4, g5⟩ := h.edge hv'
        rw [upd_ne _ _ hvb, upd_ne _ _ hvb, upd_ne _ _ hvb]
        by_cases hub : u = b
        · subst hub
          rw [upd_eq, upd_eq, upd_eq]
          have := htop u
          exact ⟨g1, by omega, by omega, fun _ => by omega, by have := h.late v; omega⟩
        · rw [upd_ne _ _ hub, upd_ne _ _ hub, upd_ne _ _ hub]
          exact ⟨g1, g2, g3, g4, g5⟩
    · have hv' : upd s.bef b (some a) v = some u := hv
      by_cases hvb : v = b
      · subst hvb; rw [upd_eq]; omega
      · rw [upd_ne _ _ hvb] at hv' ⊢
        exact h.sb hv'
    · have hu' : upd s.cost b (s.cost a + wt a b) u < endl := hu
      show upd s.cost b _ v ≤ upd s.cost b _ u + _ ∨ _
      by_cases hub : u = b
      · subst hub; right; rw [upd_eq]; omega
      · rw [upd_ne _ _ hub] at hu' ⊢
        rw [upd_ne _ _ hub]
        rcases h.al hv hu' with g | g
        · left
          by_cases hvb : v = b
          · subst hvb; rw [upd_eq]; omega
          · rw [upd_ne _ _ hvb]; exact g
        · exact .inr g
    · have hu' : upd s.cost b (s.cost a + wt a b) u < endl := hu
      show upd s.cost b _ v ≤ upd s.cost b _ u + _ ∨ _
      by_cases hub : u = b
      · subst hub; right; rw [upd_eq]; omega
      · rw [upd_ne _ _ hub] at hu' ⊢
        rw [upd_ne _ _ hub]
        rcases hv with hv | ⟨rfl, rfl⟩
        · rcases h.doneI hv hu' with g | g
          · left
            by_cases hvb : v = b
            · subst hvb; rw [upd_eq]; omega
            · rw [upd_ne _ _ hvb]; exact g
          · exact .inr g
        · left; rw [upd_eq]; exact Int.le_refl _
    · have : some b = some v := hv
      obtain rfl : b = v := by injection this
      rw [upd_eq]
    · cases hv
  · rw [relax_no hc]
    refine ⟨tm, rd, T, { h with doneI := fun {u v} hv hu => ?_ }⟩
    rcases hv with hv | ⟨rfl, rfl⟩
    · exact h.doneI hv hu
    · left; omega

theorem Inv.weaken (h : Inv E wt src r d s tm rd T) (hd : ∀ u v, d' u v → d u v) : Inv E wt src r d' s tm rd T :=
  { h with doneI := fun hv hu => h.doneI (hd _ _ hv) hu }

/-- The state when some edges of a round have been looked at. -/
theorem Inv.fold (hw : ∀ {u v w}, (u, v, w) ∈ E → w = wt u v ∧ u ≠ v) : ∀ (L : List Edge) {d s tm rd T}, (∀ e ∈ L, e ∈ E) → Inv E wt src r d s tm rd T →
    ∃ tm' rd' T', Inv E wt src r (fun u v => d u v ∨ ∃ w, (u, v, w) ∈ L) (L.foldl relaxE s) tm' rd' T'
  | [], d, s, tm, rd, T, _, h => ⟨tm, rd, T, h.weaken fun u v hv => by rcases hv with hv | ⟨w, hw⟩; exact hv; cases hw⟩
  | (a, b, w) :: L, d, s, tm, rd, T, hL, h => by
    obtain ⟨tm1, rd1, T1, h1⟩ := h.relax (hL _ (List.mem_cons_self ..)) hw
    obtain ⟨tm2, rd2, T2, h2⟩ := Inv.fold hw L (fun e he => hL e (List.mem_cons_of_mem _ he)) h1
    refine ⟨tm2, rd2, T2, h2.weaken fun u v hv => ?_⟩
    rcases hv with hv | ⟨w', hv⟩
    · exact .inl (.inl hv)
    · rcases List.mem_cons.1 hv with e | hv
      · injection e with e1 e2; injection e2 with e2 e3
        exact .inl (.inr ⟨e1, e2⟩)
      · exact .inr ⟨w', hv⟩

def BF.again (s : BF) : BF := { s with chg := none }
def rnd (E : List Edge) (s : BF) : BF := E.foldl relaxE s.again

theorem Inv.next (h : Inv E wt src r (fun u v => (u, v, wt u v) ∈ E) s tm rd T) : Inv E wt src (r + 1) (fun _ _ => False) s.again tm rd T :=
  { time := h.time, top := h.top, late := fun v => by have := h.late v; omega, nb := h.nb, edge := h.edge, sb := h.sb,
    al := fun hv hu => h.doneI hv hu, doneI := fun hv => hv.elim, chgI := fun hv => (by cases hv), noI := fun _ v => h.late v }

def start (src : Option Nat) : BF := ⟨fun v => match src with | none => 0 | some a => if v = a then 0 else endl, fun _ => none, none⟩

theorem Inv.start : Inv E wt src 0 (fun _ _ => False) (start src) (fun _ => 0) (fun _ => 0) 1 :=
  { time := fun _ => by omega
    top := fun v => by
      show (match src with | none => (0 : Int) | some a => if v = a then 0 else endl) ≤ endl
      have h0 : (0 : Int) ≤ endl := by decide
      cases src with
      | none => exact h0
      | some a => by_cases h : v = a <;> simp [h, h0]
    late := fun _ => by omega
    nb := fun v _ => ⟨rfl, rfl⟩
    edge := fun hv => by cases hv
    sb := fun hv => by cases hv
    al := fun _ _ => .inr (Nat.zero_le _)
    doneI := fun hv => hv.elim
    chgI := fun hv => by cases hv
    noI := fun _ _ => by omega }

/-- The state after k rounds. -/
def rounds (E : List Edge) (src : Option Nat) : Nat → BF
  | 0 => start src
  | k + 1 => rnd E (rounds E src k)

theorem rounds_inv (hw : ∀ {u v w}, (u, v, w) ∈ E → w = wt u v ∧ u ≠ v) : ∀ k, ∃ tm rd T, Inv E wt src k (fun u v => (u, v, wt u v) ∈ E) (rounds E src (k + 1)) tm rd T
  | 0 => by
    obtain ⟨tm, rd, T, h⟩ := Inv.fold hw E (fun e he => he) (Inv.start)
    exact ⟨tm, rd, T, h.weaken fun u v hv => .inr ⟨_, hv⟩⟩
  | k + 1 => by
    obtain ⟨tm, rd, T, h⟩ := rounds_inv hw k
    obtain ⟨tm, rd, T, h⟩ := Inv.fold hw E (fun e he => he) h.next
    exact ⟨tm, rd, T, h.weaken fun u v hv => .inr ⟨_, hv⟩⟩
end Go.Proofs.Ytpcmppamkgkdlaa

/- Walking back: chains, circles, and that circles are negative. -/
namespace Go.Proofs.Ytpcmppamkgkdlaa

theorem pigeon : ∀ (N : Nat) (f : Nat → Nat), (∀ i, i ≤ N → f i < N) → ∃ i j, i < j ∧ j ≤ N ∧ f i = f j
  | 0, f, h => absurd (h 0 (Nat.le_refl _)) (by omega)
  | N + 1, f, h => by
    by_cases h0 : ∃ i, i ≤ N ∧ f i = f (N + 1)
    · obtain ⟨i, hi, e⟩ := h0
      exact ⟨i, N + 1, by omega, Nat.le_refl _, e⟩
    · have hne : ∀ i, i ≤ N → f i ≠ f (N + 1) := fun i hi e => h0 ⟨i, hi, e⟩
      obtain ⟨i, j, h1, h2, h3⟩ := pigeon N (fun i => if f (N + 1) < f i then f i - 1 else f i) (fun i hi => by
        have := h i (by omega)
        have := h (N + 1) (Nat.le_refl _)
        have := hne i hi
        split <;> omega)
      refine ⟨i, j, h1, by omega, ?_⟩
      have a := hne i (by omega)
      have b := hne j (by omega)
      split at h3 <;> split at h3 <;> omega

def itr (f : Nat → Nat) : Nat → Nat → Nat
  | 0, v => v
  | i + 1, v => f (itr f i v)
theorem itr_add (f : Nat → Nat) (j v : Nat) : ∀ i, itr f (i + j) v = itr f i (itr f j v)
  | 0 => by rw [Nat.zero_add]; rfl
  | i + 1 => by rw [Nat.add_right_comm]; show f _ = f _; rw [itr_add f j v i]

def BF.pre (s : BF) (v : Nat) : Nat := (s.bef v).getD v
/-- The walk back from v has so many steps. -/
def Back (s : BF) (v N : Nat) : Prop := ∀ i, i < N → s.bef (itr s.pre i v) = some (itr s.pre (i + 1) v)

section
variable {E : List Edge} {wt : Nat → Nat → Int} {src : Option Nat} {r : Nat} {done : Nat → Nat → Prop} {s : BF} {tm rd : Nat → Nat} {T : Nat}

theorem Inv.back (h : Inv E wt src r done s tm rd T) {v : Nat} {N : Nat} (hv : N ≤ rd v) : Back s v N := by
  have key : ∀ i, i ≤ N → N - i ≤ rd (itr s.pre i v) ∧ (i < N → s.bef (itr s.pre i v) = some (itr s.pre (i + 1) v)) := by
    intro i
    induction i with
    | zero =>
      intro _
      refine ⟨by simpa [itr] using hv, fun hN => ?_⟩
      show s.bef v = some ((s.bef v).getD v)
      cases e : s.bef v with
      | none => have := (h.nb v e).1; omega
      | some u => rfl
    | succ i ih =>
      intro hi
      obtain ⟨h1, h2⟩ := ih (by omega)
      have h3 := (h.edge (h2 (by omega))).2.2.2.2
      refine ⟨by omega, fun hN => ?_⟩
      show s.bef (itr s.pre (i + 1) v) = some ((s.bef (itr s.pre (i + 1) v)).getD _)
      cases e : s.bef (itr s.pre (i + 1) v) with
      | none => have := (h.nb _ e).1; omega
      | some u => rfl
  exact fun i hi => (key i (by omega)).2 hi

theorem sumN_tele (f : Nat → Int) : ∀ p, sumN (fun i => f i - f (i + 1)) p = f 0 - f p
  | 0 => by simp [sumN]
  | p + 1 => by simp only [sumN, sumN_tele f p]; omega

/-- Each circle of the walk back is negative. -/
theorem Inv.circle (h : Inv E wt src r done s tm rd T) {v p : Nat} (hp : 0 < p) (hb : Back s v p) (hc : itr s.pre p v = v) :
    sumN (fun i => wt (itr s.pre (i + 1) v) (itr s.pre i v)) p < 0 := by
  have h1 : ∀ i, i < p → 0 ≤ s.cost (itr s.pre i v) - s.cost (itr s.pre (i + 1) v) - wt (itr s.pre (i + 1) v) (itr s.pre i v) := fun i hi => by
    have := (h.edge (hb i hi)).2.2.1
    omega
  have h2 := sumN_sub (fun i => s.cost (itr s.pre i v) - s.cost (itr s.pre (i + 1) v)) (fun i => wt (itr s.pre (i + 1) v) (itr s.pre i v)) p
  have h3 := sumN_tele (fun i => s.cost (itr s.pre i v)) p
  simp only [hc] at h3
  have h4 : s.cost (itr s.pre 0 v) = s.cost v := rfl
  have h5 : ∃ i, i < p ∧ 0 < s.cost (itr s.pre i v) - s.cost (itr s.pre (i + 1) v) - wt (itr s.pre (i + 1) v) (itr s.pre i v) := by
    by_cases hx : ∃ i, i < p ∧ 0 < s.cost (itr s.pre i v) - s.cost (itr s.pre (i + 1) v) - wt (itr s.pre (i + 1) v) (itr s.pre i v)
    · exact hx
    · exfalso
      have lt : ∀ i, i < p → tm (itr s.pre (i + 1) v) < tm (itr s.pre i v) := fun i hi => by
        refine (h.edge (hb i hi)).2.2.2.1 ?_
        have := h1 i hi
        have h6 : ¬ 0 < s.cost (itr s.pre i v) - s.cost (itr s.pre (i + 1) v) - wt (itr s.pre (i + 1) v) (itr s.pre i v) := fun h => hx ⟨i, hi, h⟩
        omega
      have dec : ∀ i, i ≤ p → tm (itr s.pre i v) + i ≤ tm v := by
        intro i
        induction i with
        | zero => intro _; exact Nat.le_refl _
        | succ i ih => intro hi; have := ih (by omega); have := lt i (by omega); omega
      have := dec p (Nat.le_refl _)
      rw [hc] at this
      omega
  obtain ⟨i, hi, h6⟩ := h5
  have h7 := sumN_ge h1 i hi
  have e1 : sumN (fun i => s.cost (itr s.pre i v) - s.cost (itr s.pre (i + 1) v)) p = 0 := by rw [h3, h4]; omega
  rw [h2, e1] at h7
  omega
end

/-- From N steps back in N nodes one is on a circle. -/
theorem on_circle {s : BF} {v N : Nat} (hb : Back s v N) (hN : ∀ i, i ≤ N → itr s.pre i v < N) :
    ∃ p, 0 < p ∧ p ≤ N ∧ Back s (itr s.pre N v) p ∧ itr s.pre p (itr s.pre N v) = itr s.pre N v := by
  obtain ⟨i, j, h1, h2, h3⟩ := pigeon N (fun i => itr s.pre i v) hN
  have per : ∀ d, itr s.pre (i + d + (j - i)) v = itr s.pre (i + d) v := fun d => by
    rw [show i + d + (j - i) = d + j by omega, itr_add, show i + d = d + i by omega, itr_add, h3]
  have red : ∀ d, ∃ e, e < N ∧ itr s.pre (i + d) v = itr s.pre e v := by
    intro d
    induction d using Nat.strongRecOn with
    | _ d ih =>
      rcases Nat.lt_or_ge (i + d) N with hd | hd
      · exact ⟨_, hd, rfl⟩
      · have hd2 : i + d = i + (d - (j - i)) + (j - i) := by omega
        obtain ⟨e, he, e2⟩ := ih (d - (j - i)) (by omega)
        exact ⟨e, he, by rw [hd2, per, e2]⟩
  refine ⟨j - i, by omega, by omega, fun k hk => ?_, ?_⟩
  · obtain ⟨e, he, e2⟩ := red (k + (N - i))
    have e3 : itr s.pre k (itr s.pre N v) = itr s.pre e v := by
      rw [← itr_add, ← e2]; congr 1; omega
    show s.bef (itr s.pre k (itr s.pre N v)) = some (s.pre (itr s.pre k (itr s.pre N v)))
    rw [e3]
    exact hb e he
  · rw [← itr_add]
    have := per (N - i)
    rw [show i + (N - i) + (j - i) = j - i + N by omega, show i + (N - i) = N by omega] at this
    exact this

/-- The least circle: its nodes are different. -/
theorem least_circle {f : Nat → Nat} {v p : Nat} (hp : 0 < p) (hc : itr f p v = v) : ∃ q, 0 < q ∧ q ≤ p ∧ itr f q v = v ∧ (∀ i, 0 < i → i < q → itr f i v ≠ v) ∧ ∀ i j, i < j → j < q → itr f i v ≠ itr f j v := by
  obtain ⟨q, h1, h2, h3, h4⟩ : ∃ q, 0 < q ∧ q ≤ p ∧ itr f q v = v ∧ ∀ i, 0 < i → i < q → itr f i v ≠ v := by
    induction p using Nat.strongRecOn with
    | _ p ih =>
      by_cases h : ∃ i, 0 < i ∧ i < p ∧ itr f i v = v
      · obtain ⟨i, g1, g2, g3⟩ := h
        obtain ⟨q, a, b, c, d⟩ := ih i g2 g1 g3
        exact ⟨q, a, by omega, c, d⟩
      · exact ⟨p, hp, Nat.le_refl _, hc, fun i g1 g2 g3 => h ⟨i, g1, g2, g3⟩⟩
  refine ⟨q, h1, h2, h3, h4, fun i j hij hj e => ?_⟩
  refine h4 (q - j + i) (by omega) (by omega) ?_
  rw [itr_add, e, ← itr_add, show q - j + j = q by omega, h3]
end Go.Proofs.Ytpcmppamkgkdlaa

/- Exchanges along a circle. -/
namespace Go.Proofs.Ytpcmppamkgkdlaa

theorem sum_image {h : Nat → Int} {c : Nat → Nat} {p N : Nat} (hz : ∀ x, x < N → (∀ i, i < p → c i ≠ x) → h x = 0) (hN : ∀ i, i < p → c i < N)
    (dis : ∀ i j, i < p → j < p → c i = c j → i = j) : sumN h N = sumN (fun i => h (c i)) p := by
  have h1 : sumN h N = sumN (fun x => sumN (fun i => if x = c i then h (c i) else 0) p) N := by
    refine sumN_congr fun x hx => ?_
    by_cases e : ∃ i, i < p ∧ c i = x
    · obtain ⟨i, hi, rfl⟩ := e
      have : sumN (fun j => if c i = c j then h (c j) else 0) p = sumN (fun j => if j = i then h (c i) else 0) p := by
        refine sumN_congr fun j hj => ?_
        by_cases g : j = i
        · subst g; simp
        · have : ¬ c i = c j := fun e => g (dis _ _ hi hj e).symm
          simp [g, this]
      rw [this, sumN_one, if_pos hi]
    · rw [hz x hx (fun i hi e' => e ⟨i, hi, e'⟩)]
      have : sumN (fun i => if x = c i then h (c i) else 0) p = sumN (fun _ => 0) p := by
        refine sumN_congr fun i hi => ?_
        have : ¬ x = c i := fun e' => e ⟨i, hi, e'.symm⟩
        simp [this]
      rw [this, sumN_zero]
  rw [h1, sumN_swap]
  refine sumN_congr fun i hi => ?_
  have := sumN_one (c i) (h (c i)) N
  rw [if_pos (hN i hi)] at this
  exact this

theorem sum_round (f : Nat → Int) : ∀ p, 0 < p → sumN (fun i => f i - f ((i + 1) % p)) p = 0
  | p + 1, _ => by
    simp only [sumN]
    have h1 : sumN (fun i => f i - f ((i + 1) % (p + 1))) p = sumN (fun i => f i - f (i + 1)) p := sumN_congr fun i hi => by
      rw [Nat.mod_eq_of_lt (by omega)]
    have h2 := sumN_tele f p
    rw [h1, h2, Nat.mod_self]; omega

/-- An exchange that is possible for the wants from one on; n stands for any free copy. -/
def Ed (P : Prob) (first : Nat) (cp wn : Nat → Option Nat) (u v : Nat) : Prop :=
  (∃ k, first ≤ k ∧ cp k = some u ∧ v ∈ P.acc k ∧ v ≠ u) ∨ (u < P.n ∧ wn u = none ∧ v = P.n) ∨ (u = P.n ∧ v < P.n ∧ ∃ k, first ≤ k ∧ wn v = some k)

/-- What it costs more. -/
def Prob.wt (P : Prob) (wn : Nat → Option Nat) (u v : Nat) : Int :=
  if u < P.n ∧ v < P.n then (wn u).elim 0 (fun k => P.cst k v - P.cst k u) else 0

structure Circle (P : Prob) (first : Nat) (cp wn : Nat → Option Nat) (p : Nat) (c : Nat → Nat) : Prop where
  pos : 0 < p
  dis : ∀ i j, i < p → j < p → c i = c j → i = j
  edge : ∀ i, i < p → Ed P first cp wn (c i) (c ((i + 1) % p))

/-- The next node of the circle, or the node itself. -/
def nx (p : Nat) (c : Nat → Nat) (x : Nat) : Nat := ((List.range p).find? (fun i => decide (c i = x))).elim x (fun i => c ((i + 1) % p))
theorem nx_on {p : Nat} {c : Nat → Nat} (dis : ∀ i j, i < p → j < p → c i = c j → i = j) {i : Nat} (hi : i < p) : nx p c (c i) = c ((i + 1) % p) := by
  unfold nx
  cases f : (List.range p).find? (fun j => decide (c j = c i)) with
  | none =>
    have := List.find?_eq_none.1 f i (List.mem_range.2 hi)
    simp at this
  | some j =>
    have h1 := List.find?_some f
    have h2 := List.mem_range.1 (List.mem_of_find?_eq_some f)
    have h1 : c j = c i := by simpa using h1
    obtain rfl := dis _ _ h2 hi h1
    rfl
theorem nx_off {p : Nat} {c : Nat → Nat} {x : Nat} (h : ∀ i, i < p → c i ≠ x) : nx p c x = x := by
  unfold nx
  have : (List.range p).find? (fun j => decide (c j = x)) = none := List.find?_eq_none.2 fun j hj => by
    have := h j (List.mem_range.1 hj)
    simpa using this
  rw [this]; rfl

def moved (p : Nat) (c : Nat → Nat) (cp : Nat → Option Nat) (k : Nat) : Option Nat := (cp k).map (nx p c)
theorem moved_same (p c cp) : Same cp (moved p c cp) := fun k => by unfold moved; cases cp k <;> rfl

section
variable {P : Prob} {first p : Nat} {cp wn : Nat → Option Nat} {c : Nat → Nat}

/-- Where the copy of a want goes: along an exchange, or nowhere. -/
theorem Circle.goes (h : Circle P first cp wn p c) (hm : Mat P cp) (hc : Con cp wn) {k x : Nat} (hk : cp k = some x) :
    (nx p c x = x ∧ ∀ i, i < p → c i ≠ x) ∨ (∃ i, i < p ∧ c i = x ∧ nx p c x = c ((i + 1) % p) ∧ first ≤ k ∧ c ((i + 1) % p) ∈ P.acc k) := by
  by_cases e : ∃ i, i < p ∧ c i = x
  · obtain ⟨i, hi, rfl⟩ := e
    right
    refine ⟨i, hi, rfl, nx_on h.dis hi, ?_⟩
    rcases h.edge i hi with ⟨j, h1, h2, h3, _⟩ | ⟨_, h2, _⟩ | ⟨h1, _⟩
    · obtain rfl := hm.inj h2 hk
      exact ⟨h1, h3⟩
    · rw [(hc k _).1 hk] at h2; cases h2
    · have := P.lt k _ (hm.ok hk).2; omega
  · exact .inl ⟨nx_off fun i hi e' => e ⟨i, hi, e'⟩, fun i hi e' => e ⟨i, hi, e'⟩⟩

theorem Circle.early (h : Circle P first cp wn p c) (hm : Mat P cp) (hc : Con cp wn) {k : Nat} (hk : k < first) : moved p c cp k = cp k := by
  unfold moved
  cases e : cp k with
  | none => rfl
  | some x =>
    rcases h.goes hm hc e with ⟨h1, _⟩ | ⟨_, _, _, _, h2, _⟩
    · show some (nx p c x) = some x; rw [h1]
    · omega

theorem Circle.succ_inj (h : Circle P first cp wn p c) {i j : Nat} (hi : i < p) (hj : j < p) (e : c ((i + 1) % p) = c ((j + 1) % p)) : i = j := by
  have := h.dis _ _ (Nat.mod_lt _ h.pos) (Nat.mod_lt _ h.pos) e
  have a : (i + 1) % p = if i + 1 = p then 0 else i + 1 := by
    split
    · rename_i g; rw [g, Nat.mod_self]
    · exact Nat.mod_eq_of_lt (by omega)
  have b : (j + 1) % p = if j + 1 = p then 0 else j + 1 := by
    split
    · rename_i g; rw [g, Nat.mod_self]
    · exact Nat.mod_eq_of_lt (by omega)
  rw [a, b] at this
  split at this <;> split at this <;> omega

theorem Circle.mat (h : Circle P first cp wn p c) (hm : Mat P cp) (hc : Con cp wn) : Mat P (moved p c cp) := by
  refine ⟨fun {k d} hk => ?_, fun {j k d} hj hk => ?_⟩
  · unfold moved at hk
    obtain ⟨x, hx, rfl⟩ := Option.map_eq_some_iff.1 hk
    rcases h.goes hm hc hx with ⟨h1, _⟩ | ⟨i, _, _, h1, _, h2⟩
    · rw [h1]; exact hm.ok hx
    · rw [h1]; exact ⟨(hm.ok hx).1, h2⟩
  · unfold moved at hj hk
    obtain ⟨x, hx, rfl⟩ := Option.map_eq_some_iff.1 hj
    obtain ⟨y, hy, e⟩ := Option.map_eq_some_iff.1 hk
    rcases h.goes hm hc hx with ⟨h1, g1⟩ | ⟨i, hi, g1, h1, _⟩ <;> rcases h.goes hm hc hy with ⟨h2, g2⟩ | ⟨i', hi', g2, h2, _⟩
    · rw [h1, h2] at e
      subst e
      exact hm.inj hx hy
    · rw [h1, h2] at e
      exact absurd e (g1 _ (Nat.mod_lt _ h.pos))
    · rw [h1, h2] at e
      exact absurd e.symm (g2 _ (Nat.mod_lt _ h.pos))
    · rw [h1, h2] at e
      obtain rfl := h.succ_inj hi' hi e
      rw [g1] at g2
      subst g2
      exact hm.inj hx hy

theorem Circle.node (h : Circle P first cp wn p c) (hm : Mat P cp) {i : Nat} (hi : i < p) : c i < P.n + 1 := by
  rcases h.edge i hi with ⟨k, _, h2, _⟩ | ⟨h1, _⟩ | ⟨h1, _⟩
  · have := P.lt k _ (hm.ok h2).2; omega
  · omega
  · omega

/-- An assignment that is exchanged along a circle costs what it did, and what the exchanges cost. -/
theorem Circle.tot (h : Circle P first cp wn p c) (hm : Mat P cp) (hc : Con cp wn) :
    P.tot (moved p c cp) = P.tot cp + sumN (fun i => P.wt wn (c i) (c ((i + 1) % p))) p := by
  have h1 : sumN (fun k => P.one (moved p c cp) k - P.one cp k) P.m = sumN (fun k => (cp k).elim 0 (fun x => P.wt wn x (nx p c x))) P.m := by
    refine sumN_congr fun k _ => ?_
    unfold Prob.one moved
    cases e : cp k with
    | none => rfl
    | some x =>
      show P.cst k (nx p c x) - P.cst k x = P.wt wn x (nx p c x)
      have hx := P.lt k x (hm.ok e).2
      have hy : nx p c x < P.n := by
        rcases h.goes hm hc e with ⟨h1, _⟩ | ⟨i, _, _, h1, _, h2⟩
        · rw [h1]; exact hx
        · rw [h1]; exact P.lt k _ h2
      unfold Prob.wt
      rw [if_pos ⟨hx, hy⟩, (hc k x).1 e]
      rfl
  have h2 := count_swap hm hc (fun x => P.wt wn x (nx p c x))
  have h3 : sumN (fun x => if (wn x).isSome then P.wt wn x (nx p c x) else 0) P.n = sumN (fun x => P.wt wn x (nx p c x)) (P.n + 1) := by
    show _ = sumN _ P.n + P.wt wn P.n (nx p c P.n)
    have hn : P.wt wn P.n (nx p c P.n) = 0 := by unfold Prob.wt; rw [if_neg (by omega)]
    rw [hn, Int.add_zero]
    refine sumN_congr fun x _ => ?_
    cases e : wn x with
    | none => unfold Prob.wt; rw [e]; simp
    | some k => rfl
  have h4 : sumN (fun x => P.wt wn x (nx p c x)) (P.n + 1) = sumN (fun i => P.wt wn (c i) (nx p c (c i))) p := by
    refine sum_image (fun x _ hx => ?_) (fun i hi => h.node hm hi) h.dis
    rw [nx_off hx]
    unfold Prob.wt
    split
    · cases wn x with
      | none => rfl
      | some k => show P.cst k x - P.cst k x = 0; omega
    · rfl
  have h5 : sumN (fun i => P.wt wn (c i) (nx p c (c i))) p = sumN (fun i => P.wt wn (c i) (c ((i + 1) % p))) p :=
    sumN_congr fun i hi => by rw [nx_on h.dis hi]
  have h6 := sumN_sub (P.one (moved p c cp)) (P.one cp) P.m
  unfold Prob.tot
  rw [h6, h2, h3, h4, h5] at h1
  omega
end
end Go.Proofs.Ytpcmppamkgkdlaa

/- Potentials: circles cost nothing or more; circles that cost nothing keep a potential. -/
namespace Go.Proofs.Ytpcmppamkgkdlaa
section
variable {P : Prob} {first p : Nat} {cp wn wn' : Nat → Option Nat} {c : Nat → Nat} {f : Nat → Int}

theorem Ed.mono {P : Prob} {a b : Nat} (h : a ≤ b) {u v : Nat} (e : Ed P b cp wn u v) : Ed P a cp wn u v := by
  rcases e with ⟨k, h1, h2⟩ | h1 | ⟨h1, h2, k, h3, h4⟩
  · exact .inl ⟨k, by omega, h2⟩
  · exact .inr (.inl h1)
  · exact .inr (.inr ⟨h1, h2, k, by omega, h4⟩)

/-- An exchange does not fall below the potential. -/
theorem Pot.ed (h : Pot P first cp wn f) (hm : Mat P cp) (hc : Con cp wn) {u v : Nat} (e : Ed P first cp wn u v) : f v ≤ f u + P.wt wn u v := by
  rcases e with ⟨k, h1, h2, h3, _⟩ | ⟨h1, h2, rfl⟩ | ⟨rfl, h2, k, h3, h4⟩
  · have := h.edge h1 h2 h3
    unfold Prob.wt
    rw [if_pos ⟨P.lt k u (hm.ok h2).2, P.lt k v h3⟩, (hc k u).1 h2]
    exact this
  · have := h.free h1 h2
    unfold Prob.wt
    rw [if_neg (by omega)]; omega
  · have := h.held h2 h4 h3
    unfold Prob.wt
    rw [if_neg (by omega)]; omega

theorem Circle.sum (h : Circle P first cp wn p c) (f : Nat → Int) :
    sumN (fun i => P.wt wn (c i) (c ((i + 1) % p)) + (f (c i) - f (c ((i + 1) % p)))) p = sumN (fun i => P.wt wn (c i) (c ((i + 1) % p))) p := by
  rw [sumN_add]
  have := sum_round (fun i => f (c i)) p h.pos
  rw [this]; omega

/-- With a potential, no circle is negative. -/
theorem Circle.nonneg (h : Circle P first cp wn p c) (hf : Pot P first cp wn f) (hm : Mat P cp) (hc : Con cp wn) :
    0 ≤ sumN (fun i => P.wt wn (c i) (c ((i + 1) % p))) p := by
  rw [← h.sum f]
  exact sumN_nonneg fun i hi => by have := hf.ed hm hc (h.edge i hi); omega

theorem Circle.tight (h : Circle P first cp wn p c) (hf : Pot P first cp wn f) (hm : Mat P cp) (hc : Con cp wn)
    (h0 : sumN (fun i => P.wt wn (c i) (c ((i + 1) % p))) p = 0) {i : Nat} (hi : i < p) : f (c ((i + 1) % p)) = f (c i) + P.wt wn (c i) (c ((i + 1) % p)) := by
  have h1 := sumN_ge (f := fun i => P.wt wn (c i) (c ((i + 1) % p)) + (f (c i) - f (c ((i + 1) % p)))) (fun i hi => by have := hf.ed hm hc (h.edge i hi); omega) i hi
  rw [h.sum f, h0] at h1
  have := hf.ed hm hc (h.edge i hi)
  omega

theorem pred_mod {p i : Nat} (hi : i < p) : ∃ j, j < p ∧ (j + 1) % p = i := by
  rcases Nat.eq_zero_or_pos i with h | h
  · subst h
    exact ⟨p - 1, by omega, by rw [show p - 1 + 1 = p by omega, Nat.mod_self]⟩
  · exact ⟨i - 1, by omega, by rw [show i - 1 + 1 = i by omega, Nat.mod_eq_of_lt hi]⟩

/-- A circle that costs nothing keeps the potential. -/
theorem Circle.pot (h : Circle P first cp wn p c) (hf : Pot P 0 cp wn f) (hm : Mat P cp) (hc : Con cp wn) (hc' : Con (moved p c cp) wn')
    (h0 : sumN (fun i => P.wt wn (c i) (c ((i + 1) % p))) p = 0) : Pot P 0 (moved p c cp) wn' f := by
  have g : Circle P 0 cp wn p c := ⟨h.pos, h.dis, fun i hi => (h.edge i hi).mono (Nat.zero_le _)⟩
  have ht : ∀ {i}, i < p → f (c ((i + 1) % p)) = f (c i) + P.wt wn (c i) (c ((i + 1) % p)) := fun hi => g.tight hf hm hc h0 hi
  have one : ∀ {k u v}, cp k = some u → v < P.n → P.wt wn u v = P.cst k v - P.cst k u := fun {k u v} hu hv => by
    unfold Prob.wt
    rw [if_pos ⟨P.lt k u (hm.ok hu).2, hv⟩, (hc k u).1 hu]; rfl
  have far : ∀ v, P.wt wn P.n v = 0 := fun v => by unfold Prob.wt; rw [if_neg (by omega)]
  have far2 : ∀ v, P.wt wn v P.n = 0 := fun v => by unfold Prob.wt; rw [if_neg (by omega)]
  refine ⟨fun {k u v} _ hk hv => ?_, fun {d} hd hw => ?_, fun {d k} hd hw _ => ?_⟩
  · obtain ⟨x, hx, rfl⟩ := Option.map_eq_some_iff.1 hk
    have h1 := hf.edge (Nat.zero_le k) hx hv
    rcases g.goes hm hc hx with ⟨h2, _⟩ | ⟨i, hi, rfl, h2, _, h3⟩
    · rw [h2]; exact h1
    · have h4 := ht hi
      rw [one hx (P.lt k _ h3)] at h4
      rw [h2]; omega
  · cases e : wn d with
    | none => exact hf.free hd e
    | some k =>
      have hk := (hc k d).2 e
      rcases g.goes hm hc hk with ⟨h2, _⟩ | ⟨i, hi, rfl, _⟩
      · have : moved p c cp k = some d := by unfold moved; rw [hk]; show some (nx p c d) = _; rw [h2]
        rw [(hc' k d).1 this] at hw; cases hw
      · obtain ⟨j, hj, rfl⟩ := pred_mod hi
        have h4 := ht hj
        rcases h.edge j hj with ⟨k', _, h5, _⟩ | ⟨_, _, h5⟩ | ⟨h5, _⟩
        · have : moved p c cp k' = some (c ((j + 1) % p)) := by unfold moved; rw [h5]; show some (nx p c (c j)) = _; rw [nx_on h.dis hj]
          rw [(hc' k' _).1 this] at hw; cases hw
        · omega
        · rw [h5, far] at h4; omega
  · have hk := (hc' k d).2 hw
    obtain ⟨x, hx, e⟩ := Option.map_eq_some_iff.1 hk
    cases e' : wn d with
    | some k'' => exact hf.held hd e' (Nat.zero_le _)
    | none =>
      rcases g.goes hm hc hx with ⟨h2, _⟩ | ⟨i, hi, rfl, h2, _⟩
      · rw [h2] at e; subst e
        rw [(hc k x).1 hx] at e'; cases e'
      · rw [h2] at e
        have hj : (i + 1) % p < p := Nat.mod_lt _ h.pos
        have h4 := ht hj
        rw [e] at h4
        have h5 := h.edge _ hj
        rw [e] at h5
        rcases h5 with ⟨k', _, h6, _⟩ | ⟨_, _, h6⟩ | ⟨h6, _⟩
        · rw [(hc k' d).1 h6] at e'; cases e'
        · rw [h6, far2] at h4; omega
        · omega
end
end Go.Proofs.Ytpcmppamkgkdlaa

/- What paths finds: a potential, or a negative circle. -/
namespace Go.Proofs.Ytpcmppamkgkdlaa

theorem sumN_shift (g : Nat → Int) : ∀ p, sumN g (p + 1) = g 0 + sumN (fun i => g (i + 1)) p
  | 0 => by simp [sumN]
  | p + 1 => by rw [sumN, sumN_shift g p]; simp only [sumN]; omega
theorem sumN_rev : ∀ (p : Nat) (g : Nat → Int), sumN (fun j => g (p - 1 - j)) p = sumN g p
  | 0, _ => rfl
  | p + 1, g => by
    rw [sumN_shift]
    have : sumN (fun i => g (p + 1 - 1 - (i + 1))) p = sumN (fun j => g (p - 1 - j)) p := sumN_congr fun i hi => by congr 1; omega
    rw [this, sumN_rev p g]
    show g (p + 1 - 1 - 0) + _ = sumN g p + g p
    rw [show p + 1 - 1 - 0 = p by omega]; omega

section
variable {P : Prob} {first : Nat} {cp wn : Nat → Option Nat}

/-- A circle from nodes that were met backwards. -/
theorem circle_of {g : Nat → Nat} {q : Nat} (hq : 0 < q) (dis : ∀ i j, i < j → j < q → g i ≠ g j) (e : ∀ i, i + 1 < q → Ed P first cp wn (g (i + 1)) (g i)) (e0 : Ed P first cp wn (g 0) (g (q - 1))) :
    Circle P first cp wn q (fun j => g (q - 1 - j)) ∧ sumN (fun j => P.wt wn (g (q - 1 - j)) (g (q - 1 - (j + 1) % q))) q = sumN (fun i => P.wt wn (g (i + 1)) (g i)) (q - 1) + P.wt wn (g 0) (g (q - 1)) := by
  refine ⟨⟨hq, fun i j hi hj h => ?_, fun i hi => ?_⟩, ?_⟩
  · rcases Nat.lt_trichotomy i j with h1 | h1 | h1
    · exact absurd h.symm (dis _ _ (by omega) (by omega))
    · exact h1
    · exact absurd h (dis _ _ (by omega) (by omega))
  · show Ed P first cp wn (g (q - 1 - i)) (g (q - 1 - (i + 1) % q))
    rcases Nat.lt_or_ge (i + 1) q with h | h
    · rw [Nat.mod_eq_of_lt h]
      have := e (q - 1 - (i + 1)) (by omega)
      rw [show q - 1 - (i + 1) + 1 = q - 1 - i by omega] at this
      exact this
    · rw [show i + 1 = q by omega, Nat.mod_self, show q - 1 - i = 0 by omega]
      exact e0
  · obtain ⟨p, rfl⟩ : ∃ p, q = p + 1 := ⟨q - 1, by omega⟩
    show sumN _ p + P.wt wn (g (p + 1 - 1 - p)) (g (p + 1 - 1 - (p + 1) % (p + 1))) = sumN _ p + _
    rw [Nat.mod_self, show p + 1 - 1 - p = 0 by omega, show p + 1 - 1 - 0 = p + 1 - 1 by omega]
    congr 1
    rw [← sumN_rev p (fun i => P.wt wn (g (i + 1)) (g i))]
    refine sumN_congr fun j hj => ?_
    rw [Nat.mod_eq_of_lt (by omega)]
    congr 2 <;> omega

/-- The list of the edges. -/
def Edges (P : Prob) (first : Nat) (cp wn : Nat → Option Nat) (E : List Edge) : Prop := ∀ u v w, (u, v, w) ∈ E ↔ Ed P first cp wn u v ∧ w = P.wt wn u v

theorem Ed.ne (hm : Mat P cp) {u v : Nat} (h : Ed P first cp wn u v) : u ≠ v ∧ u < P.n + 1 ∧ v < P.n + 1 := by
  rcases h with ⟨k, h1, h2, h3, h4⟩ | ⟨h1, h2, rfl⟩ | ⟨rfl, h2, k, h3, h4⟩
  · have := P.lt k u (hm.ok h2).2
    have := P.lt k v h3
    exact ⟨fun e => h4 e.symm, by omega, by omega⟩
  · exact ⟨by omega, by omega, by omega⟩
  · exact ⟨by omega, by omega, by omega⟩

variable {E : List Edge} {src : Option Nat} {r : Nat} {done : Nat → Nat → Prop} {s : BF} {tm rd : Nat → Nat} {T : Nat}

theorem Edges.hw (hE : Edges P first cp wn E) (hm : Mat P cp) {u v : Nat} {w : Int} (h : (u, v, w) ∈ E) : w = P.wt wn u v ∧ u ≠ v :=
  ⟨((hE u v w).1 h).2, (((hE u v w).1 h).1.ne hm).1⟩

/-- If a round changes nothing, no edge can be used any more. -/
theorem settled (hE : Edges P first cp wn E) (hm : Mat P cp) (k : Nat) (h : (rounds E src (k + 1)).chg = none) {u v : Nat} (he : Ed P first cp wn u v) (hu : (rounds E src (k + 1)).cost u < endl) :
    (rounds E src (k + 1)).cost v ≤ (rounds E src (k + 1)).cost u + P.wt wn u v := by
  obtain ⟨tm, rd, T, hi⟩ := rounds_inv (E := E) (wt := P.wt wn) (src := src) (fun h => hE.hw hm h) k
  rcases hi.doneI (u := u) (v := v) ((hE _ _ _).2 ⟨he, rfl⟩) hu with g | g
  · exact g
  · have := hi.noI h u; omega

/-- Costs are not above what they begin with. -/
theorem fold_below0 : ∀ (L : List Edge) {s : BF}, (∀ v, s.cost v ≤ 0) → ∀ v, (L.foldl relaxE s).cost v ≤ 0
  | [], _, h => h
  | (a, b, w) :: L, s, h => fold_below0 L fun v => by
    by_cases g : s.cost a < endl ∧ s.cost a + w < s.cost b
    · rw [relax_yes g]
      show upd s.cost b _ v ≤ 0
      by_cases hv : v = b
      · subst hv; rw [upd_eq]; have := h v; omega
      · rw [upd_ne _ _ hv]; exact h v
    · rw [relax_no g]; exact h v
theorem rounds_below0 (E : List Edge) : ∀ k v, (rounds E none k).cost v ≤ 0
  | 0, _ => Int.le_refl _
  | k + 1, v => fold_below0 E (s := (rounds E none k).again) (fun v => rounds_below0 E k v) v

theorem Pot.of_ed {f : Nat → Int} (hm : Mat P cp) (hc : Con cp wn) (hs : ∀ {u v}, Ed P first cp wn u v → f v ≤ f u + P.wt wn u v) : Pot P first cp wn f := by
  refine ⟨fun {k u v} hk hu hv => ?_, fun {c} hcn hw => ?_, fun {c k} hcn hw hk => ?_⟩
  · by_cases e : v = u
    · subst e; omega
    · have := hs (.inl ⟨k, hk, hu, hv, e⟩)
      unfold Prob.wt at this
      rw [if_pos ⟨P.lt k u (hm.ok hu).2, P.lt k v hv⟩, (hc k u).1 hu] at this
      exact this
  · have := hs (.inr (.inl ⟨hcn, hw, rfl⟩))
    unfold Prob.wt at this
    rw [if_neg (by omega)] at this; omega
  · have := hs (.inr (.inr ⟨rfl, hcn, k, hk, hw⟩))
    unfold Prob.wt at this
    rw [if_neg (by omega)] at this; omega

/-- From all copies, and nothing changes: a potential. -/
theorem pot_of (hE : Edges P first cp wn E) (hm : Mat P cp) (hc : Con cp wn) (k : Nat) (h : (rounds E none (k + 1)).chg = none) : Pot P first cp wn (rounds E none (k + 1)).cost := by
  have hs : ∀ {u v}, Ed P first cp wn u v → (rounds E none (k + 1)).cost v ≤ (rounds E none (k + 1)).cost u + P.wt wn u v := fun {u v} he => by
    refine settled hE hm k h he ?_
    have := rounds_below0 E (k + 1) u
    have h0 : (0 : Int) < endl := by decide
    omega
  exact Pot.of_ed hm hc hs

/-- A circle of the walk back is a negative circle of exchanges. -/
theorem neg_circle (hE : Edges P first cp wn E) (hi : Inv E (P.wt wn) src r done s tm rd T) {v q : Nat} (hq : 0 < q) (hb : Back s v q) (hc : itr s.pre q v = v)
    (dis : ∀ i j, i < j → j < q → itr s.pre i v ≠ itr s.pre j v) :
    Circle P first cp wn q (fun j => itr s.pre (q - 1 - j) v) ∧ sumN (fun j => P.wt wn (itr s.pre (q - 1 - j) v) (itr s.pre (q - 1 - (j + 1) % q) v)) q < 0 := by
  have he : ∀ i, i < q → Ed P first cp wn (itr s.pre (i + 1) v) (itr s.pre i v) := fun i h => ((hE _ _ _).1 (hi.edge (hb i h)).1).1
  have e0 : Ed P first cp wn (itr s.pre 0 v) (itr s.pre (q - 1) v) := by
    have := he (q - 1) (by omega)
    rw [show q - 1 + 1 = q by omega, hc] at this
    exact this
  obtain ⟨h1, h2⟩ := circle_of (g := fun i => itr s.pre i v) hq dis (fun i h => he i (by omega)) e0
  refine ⟨h1, ?_⟩
  have h3 := hi.circle hq hb hc
  obtain ⟨p, rfl⟩ : ∃ p, q = p + 1 := ⟨q - 1, by omega⟩
  have h4 : sumN (fun i => P.wt wn (itr s.pre (i + 1) v) (itr s.pre i v)) (p + 1) = sumN (fun i => P.wt wn (itr s.pre (i + 1) v) (itr s.pre i v)) p + P.wt wn (itr s.pre (p + 1) v) (itr s.pre p v) := rfl
  rw [hc] at h4
  rw [h2]
  show sumN _ p + P.wt wn v (itr s.pre p v) < 0
  omega
end
end Go.Proofs.Ytpcmppamkgkdlaa

/- Lower copies at the same cost. -/
namespace Go.Proofs.Ytpcmppamkgkdlaa
section
variable {P : Prob} {k c old r T : Nat} {cp wn : Nat → Option Nat} {E : List Edge} {done : Nat → Nat → Prop} {s : BF} {tm rd : Nat → Nat} {f : Nat → Int}

theorem Pot.mono {a b : Nat} (hab : a ≤ b) (h : Pot P a cp wn f) : Pot P b cp wn f :=
  ⟨fun hk => h.edge (by omega), h.free, fun hc hw hk => h.held hc hw (by omega)⟩

theorem Back.less {v N M : Nat} (h : Back s v N) (hM : M ≤ N) : Back s v M := fun i hi => h i (by omega)
theorem Back.shift {v N i : Nat} (h : Back s v N) (hi : i ≤ N) : Back s (itr s.pre i v) (N - i) := fun j hj => by
  have := h (j + i) (by omega)
  rw [show j + i + 1 = (j + 1) + i by omega, itr_add, itr_add] at this
  exact this

/-- With a potential, the walk back has no circle. -/
theorem no_circle (hE : Edges P k cp wn E) (hm : Mat P cp) (hc : Con cp wn) (hf : Pot P k cp wn f) (hi : Inv E (P.wt wn) (some c) r done s tm rd T) {v q : Nat} (hq : 0 < q) (hb : Back s v q) (h : itr s.pre q v = v) : False := by
  obtain ⟨q', h1, h2, h3, _, h5⟩ := least_circle hq h
  obtain ⟨g1, g2⟩ := neg_circle hE hi h1 (hb.less h2) h3 h5
  have := g1.nonneg hf hm hc
  omega

theorem back_or (s : BF) (v : Nat) : ∀ M, Back s v M ∨ ∃ L, L < M ∧ Back s v L ∧ s.bef (itr s.pre L v) = none
  | 0 => .inl fun i hi => by omega
  | M + 1 => by
    rcases back_or s v M with h | ⟨L, h1, h2⟩
    · cases e : s.bef (itr s.pre M v) with
      | none => exact .inr ⟨M, by omega, h, e⟩
      | some u =>
        refine .inl fun i hi => ?_
        rcases Nat.lt_or_ge i M with g | g
        · exact h i g
        · obtain rfl : i = M := by omega
          show s.bef (itr s.pre i v) = some ((s.bef (itr s.pre i v)).getD _)
          rw [e]; rfl
    · exact .inr ⟨L, by omega, h2⟩

/-- What the walk back from a copy is that can be reached. -/
structure Way (P : Prob) (wn : Nat → Option Nat) (s : BF) (c v L : Nat) : Prop where
  back : Back s v L
  stop : itr s.pre L v = c
  first : ∀ i, i < L → itr s.pre i v ≠ c
  dis : ∀ i j, i < j → j ≤ L → itr s.pre i v ≠ itr s.pre j v
  len : L ≤ P.n
  sum : sumN (fun i => P.wt wn (itr s.pre (i + 1) v) (itr s.pre i v)) L = s.cost v

theorem way (hE : Edges P k cp wn E) (hm : Mat P cp) (hc : Con cp wn) (hf : Pot P k cp wn f) (hi : Inv E (P.wt wn) (some c) r done s tm rd T)
    (hs : ∀ {u v}, Ed P k cp wn u v → s.cost u < endl → s.cost v ≤ s.cost u + P.wt wn u v) {v : Nat} (hv : v < P.n + 1) (hr : s.cost v < endl) : ∃ L, Way P wn s c v L := by
  have he : ∀ {L}, Back s v L → ∀ i, i < L → Ed P k cp wn (itr s.pre (i + 1) v) (itr s.pre i v) := fun hb i h => ((hE _ _ _).1 (hi.edge (hb i h)).1).1
  rcases back_or s v (P.n + 1) with h | ⟨L, h1, h2, h3⟩
  · exfalso
    obtain ⟨p, g1, _, g3, g4⟩ := on_circle h fun i hi' => by
      rcases Nat.eq_zero_or_pos i with e | e
      · subst e; exact hv
      · have := ((he h (i - 1) (by omega)).ne hm).2.1
        rw [show i - 1 + 1 = i by omega] at this
        exact this
    exact no_circle hE hm hc hf hi g1 g3 g4
  · have fin : ∀ i, i ≤ L → s.cost (itr s.pre i v) < endl := fun i hi' => by
      rcases Nat.eq_zero_or_pos i with e | e
      · subst e; exact hr
      · have := (hi.edge (h2 (i - 1) (by omega))).2.1
        rw [show i - 1 + 1 = i by omega] at this
        exact this
    have hst : itr s.pre L v = c := by
      have h4 := (hi.nb _ h3).2
      have h5 := fin L (Nat.le_refl _)
      by_cases e : itr s.pre L v = c
      · exact e
      · simp only [e, if_false] at h4; omega
    have hz : s.cost c = 0 := by
      have h4 := (hi.nb _ h3).2
      rw [hst] at h4
      simpa using h4
    refine ⟨L, h2, hst, fun i hi' e => ?_, fun i j hij hj e => ?_, by omega, ?_⟩
    · have := h2 i hi'
      rw [e, ← hst, h3] at this; cases this
    · refine no_circle hE hm hc hf hi (v := itr s.pre i v) (q := j - i) (by omega) ((h2.shift (by omega)).less (by omega)) ?_
      rw [← itr_add, show j - i + i = j by omega, e]
    · have h6 : sumN (fun i => P.wt wn (itr s.pre (i + 1) v) (itr s.pre i v)) L = sumN (fun i => s.cost (itr s.pre i v) - s.cost (itr s.pre (i + 1) v)) L := sumN_congr fun i hi' => by
        have a := (hi.edge (h2 i hi')).2.2.1
        have b := hs (he h2 i hi') (fin (i + 1) (by omega))
        omega
      rw [h6, sumN_tele (fun i => s.cost (itr s.pre i v)) L]
      show s.cost v - s.cost (itr s.pre L v) = _
      rw [hst, hz]; omega

theorem wt_le (hb : ∀ k c, 0 ≤ P.cst k c ∧ P.cst k c ≤ 1000000) (u v : Nat) : P.wt wn u v ≤ 1000000 := by
  unfold Prob.wt
  split
  · cases wn u with
    | none => show (0 : Int) ≤ _; omega
    | some k => have := hb k u; have := hb k v; show P.cst k v - P.cst k u ≤ _; omega
  · omega
theorem sum_bound {g : Nat → Int} {b : Int} (h : ∀ i, g i ≤ b) : ∀ L : Nat, sumN g L ≤ L * b
  | 0 => by simp [sumN]
  | L + 1 => by
    have := sum_bound h L
    have := h L
    simp only [sumN]
    rw [Int.natCast_add, Int.add_mul]; omega

/-- A least copy that costs no more lies on a circle. -/
theorem lower_yes (hE : Edges P k cp wn E) (hi : Inv E (P.wt wn) (some c) r done s tm rd T)
    (hk : cp k = some old) (ha : c ∈ P.acc k) (hne : c ≠ old) {L : Nat} (hw : Way P wn s c old L) (h0 : s.cost old + P.wt wn old c = 0) :
    Circle P k cp wn (L + 1) (fun j => itr s.pre (L - j) old) ∧ sumN (fun j => P.wt wn (itr s.pre (L - j) old) (itr s.pre (L - (j + 1) % (L + 1)) old)) (L + 1) = 0 := by
  have := circle_of (P := P) (first := k) (cp := cp) (wn := wn) (g := fun i => itr s.pre i old) (q := L + 1) (by omega) (fun i j hij hj => hw.dis i j hij (by omega))
    (fun i hi' => ((hE _ _ _).1 (hi.edge (hw.back i (by omega))).1).1) (by
      show Ed P k cp wn old (itr s.pre L old)
      rw [hw.stop]
      exact .inl ⟨k, Nat.le_refl _, hk, ha, hne⟩)
  obtain ⟨g1, g2⟩ := this
  refine ⟨g1, g2.trans ?_⟩
  show sumN _ L + P.wt wn old (itr s.pre L old) = 0
  rw [hw.sum, hw.stop, h0]
end
end Go.Proofs.Ytpcmppamkgkdlaa

/- A copy that no best assignment gives: what paths finds says so. -/
namespace Go.Proofs.Ytpcmppamkgkdlaa
section
variable {P : Prob} {k c old r T : Nat} {cp wn q : Nat → Option Nat} {E : List Edge} {done : Nat → Nat → Prop} {s : BF} {tm rd : Nat → Nat} {f : Nat → Int}

/-- The cost of the way to a copy is not below the potential. -/
theorem Way.above {v L : Nat} (hw : Way P wn s c v L) (hE : Edges P k cp wn E) (hm : Mat P cp) (hc : Con cp wn) (hf : Pot P k cp wn f) (hi : Inv E (P.wt wn) (some c) r done s tm rd T) : f v - f c ≤ s.cost v := by
  rw [← hw.sum]
  have h1 := sumN_tele (fun i => f (itr s.pre i v)) L
  have h2 : f (itr s.pre L v) = f c := by rw [hw.stop]
  have h3 : sumN (fun i => f (itr s.pre i v) - f (itr s.pre (i + 1) v)) L ≤ sumN (fun i => P.wt wn (itr s.pre (i + 1) v) (itr s.pre i v)) L := sumN_le fun i hi' => by
    have := hf.ed hm hc (((hE _ _ _).1 (hi.edge (hw.back i hi')).1).1)
    omega
  rw [h1] at h3
  simp only [h2] at h3
  exact h3

theorem Way.small {v L : Nat} (hw : Way P wn s c v L) (hb : ∀ k c, 0 ≤ P.cst k c ∧ P.cst k c ≤ 1000000) (hn : P.n ≤ 1000000) : s.cost v ≤ 1000000000000 := by
  rw [← hw.sum]
  have := sum_bound (g := fun i => P.wt wn (itr s.pre (i + 1) v) (itr s.pre i v)) (b := 1000000) (fun i => wt_le hb _ _) L
  have := hw.len
  omega

/-- If the circle through a copy costs something, no assignment that costs as much, and agrees before a want, gives the want this copy. -/
theorem lower_no (hE : Edges P k cp wn E) (hm : Mat P cp) (hc : Con cp wn) (hf : Pot P 0 cp wn f) (hi : Inv E (P.wt wn) (some c) r done s tm rd T)
    (hs : ∀ {u v}, Ed P k cp wn u v → s.cost u < endl → s.cost v ≤ s.cost u + P.wt wn u v)
    (hb : ∀ k c, 0 ≤ P.cst k c ∧ P.cst k c ≤ 1000000) (hn : P.n ≤ 1000000)
    (hk : cp k = some old) (ha : c ∈ P.acc k) (h0 : s.cost old + P.wt wn old c ≠ 0)
    (hq : Mat P q) (hsame : Same cp q) (hag : ∀ j, j < k → q j = cp j) (hqk : q k = some c) : P.tot cp < P.tot q := by
  have hf' := hf.mono (Nat.zero_le k)
  have hcn := P.lt k c ha
  have hon := P.lt k old (hm.ok hk).2
  have hwt : P.wt wn old c = P.cst k c - P.cst k old := by unfold Prob.wt; rw [if_pos ⟨hon, hcn⟩, (hc k old).1 hk]; rfl
  have hend : (endl : Int) = 1152921504606846976 := rfl
  have each : ∀ v, v < P.n + 1 → s.cost v < endl → f v - f c ≤ s.cost v ∧ s.cost v ≤ 1000000000000 := fun v hv hr => by
    obtain ⟨L, hw⟩ := way hE hm hc hf' hi hs hv hr
    exact ⟨hw.above hE hm hc hf' hi, hw.small hb hn⟩
  -- the source
  have hc0 : s.cost c = 0 := by
    cases e : s.bef c with
    | none => have := (hi.nb c e).2; simpa using this
    | some u =>
      exfalso
      have h1 := hi.edge e
      have hr : s.cost c < endl := by
        have h2 := ((hE _ _ _).1 h1.1).1
        have h3 := hs h2 h1.2.1
        have := wt_le hb (wn := wn) u c
        have := (each u (h2.ne hm).2.1 h1.2.1).2
        omega
      obtain ⟨L, hw⟩ := way hE hm hc hf' hi hs (v := c) (by omega) hr
      rcases Nat.eq_zero_or_pos L with hL | hL
      · subst hL
        rcases back_or s c (P.n + 1) with h | ⟨L, g1, g2, g3⟩
        · obtain ⟨p, a1, _, a3, a4⟩ := on_circle h fun i hi' => by
            rcases Nat.eq_zero_or_pos i with e | e
            · subst e; show c < _; omega
            · have := (((hE _ _ _).1 (hi.edge (h (i - 1) (by omega))).1).1.ne hm).2.1
              rw [show i - 1 + 1 = i by omega] at this
              exact this
          exact no_circle hE hm hc hf' hi a1 a3 a4
        · rcases Nat.eq_zero_or_pos L with hL | hL
          · subst hL; have : s.bef c = none := g3
            rw [this] at e; cases e
          · have h4 := (hi.nb _ g3).2
            have h5 := (hi.edge (g2 (L - 1) (by omega))).2.1
            rw [show L - 1 + 1 = L by omega] at h5
            by_cases e' : itr s.pre L c = c
            · exact no_circle hE hm hc hf' hi hL g2 e'
            · simp only [e', if_false] at h4; omega
      · exact hw.first 0 hL rfl
  obtain ⟨B, hB0, hB⟩ : ∃ B : Int, 0 ≤ B ∧ ((s.cost old < endl ∧ B = s.cost old + f c - f old) ∨ (¬ s.cost old < endl ∧ B = 1)) := by
    by_cases h : s.cost old < endl
    · exact ⟨s.cost old + f c - f old, by have := (each old (by omega) h).1; omega, .inl ⟨h, rfl⟩⟩
    · exact ⟨1, by omega, .inr ⟨h, rfl⟩⟩
  let g : Nat → Int := fun v => if s.cost v < endl then (if s.cost v + f c - f v < B then s.cost v + f c else f v + B) else f v + B
  have hg : Pot P k cp wn g := Pot.of_ed hm hc fun {u v} he => by
    have h1 := hf'.ed hm hc he
    obtain ⟨_, hu, hv⟩ := he.ne hm
    show (if s.cost v < endl then (if s.cost v + f c - f v < B then s.cost v + f c else f v + B) else f v + B) ≤ (if s.cost u < endl then (if s.cost u + f c - f u < B then s.cost u + f c else f u + B) else f u + B) + _
    by_cases hru : s.cost u < endl
    · have h2 := hs he hru
      have h3 := (each u hu hru).2
      have h4 := wt_le hb (wn := wn) u v
      have hrv : s.cost v < endl := by omega
      rw [if_pos hru, if_pos hrv]
      split <;> split <;> omega
    · rw [if_neg hru]
      split
      · split <;> omega
      · omega
  have h1 := hg.slack hm hc hq hsame hag hk hqk
  have gc : g c = f c + min 0 B := by
    show (if s.cost c < endl then (if s.cost c + f c - f c < B then s.cost c + f c else f c + B) else f c + B) = _
    rw [hc0, if_pos (by rw [hend]; omega)]
    split <;> omega
  have h2 := hg.edge (Nat.le_refl k) hk ha
  rcases hB with ⟨h3, h4⟩ | ⟨h3, h4⟩
  · have go : g old = f old + B := by
      show (if s.cost old < endl then (if s.cost old + f c - f old < B then s.cost old + f c else f old + B) else f old + B) = _
      rw [if_pos h3, if_neg (by omega)]
    omega
  · have go : g old = f old + B := by
      show (if s.cost old < endl then (if s.cost old + f c - f old < B then s.cost old + f c else f old + B) else f old + B) = _
      rw [if_neg h3]
    have := hf.edge (Nat.zero_le k) hk ha
    omega
end
end Go.Proofs.Ytpcmppamkgkdlaa

/- Who can be served: closed sets of copies; and that the rounds of paths end. -/
namespace Go.Proofs.Ytpcmppamkgkdlaa

/-- A closed set of copies, all owned, that holds all that a want accepts: nobody serves this want and all that are served. -/
theorem hall {P : Prob} {cp wn q : Nat → Option Nat} (hm : Mat P cp) (hc : Con cp wn) {k : Nat} (hk : cp k = none) (Z : Nat → Bool)
    (hz : ∀ c, c ∈ P.acc k → Z c = true) (own : ∀ c, c < P.n → Z c = true → ∃ j, wn c = some j ∧ ∀ d, d ∈ P.acc j → Z d = true)
    (hq : Mat P q) (hs : ∀ j, (cp j).isSome → (q j).isSome) : q k = none := by
  cases e : q k with
  | none => rfl
  | some d =>
    exfalso
    obtain ⟨wq, hcq⟩ := owners hq
    let g : Nat → Int := fun c => if Z c = true then 1 else 0
    have g0 : ∀ c, 0 ≤ g c := fun c => by show 0 ≤ if Z c = true then (1 : Int) else 0; split <;> omega
    have g1 : ∀ c, g c ≤ 1 := fun c => by show (if Z c = true then (1 : Int) else 0) ≤ 1; split <;> omega
    have gz : ∀ {c}, Z c = true → g c = 1 := fun h => if_pos h
    have h1 := count_swap hm hc g
    have h2 := count_swap hq hcq g
    have h3 : sumN (fun c => if (wn c).isSome then g c else 0) P.n = sumN g P.n := sumN_congr fun c hcn => by
      by_cases hzc : Z c = true
      · obtain ⟨j, hj, _⟩ := own c hcn hzc
        rw [hj]; rfl
      · have : g c = 0 := if_neg hzc
        rw [this]; split <;> rfl
    have h4 : sumN (fun c => if (wq c).isSome then g c else 0) P.n ≤ sumN g P.n := sumN_le fun c _ => by
      have := g0 c
      split <;> omega
    have key : ∀ j, j < P.m → 0 ≤ (q j).elim 0 g - (cp j).elim 0 g := fun j _ => by
      cases e1 : cp j with
      | none => cases e2 : q j with
        | none => simp
        | some c => have := g0 c; show 0 ≤ g c - 0; omega
      | some c =>
        have hsj := hs j (by rw [e1]; rfl)
        obtain ⟨c', e2⟩ := Option.isSome_iff_exists.1 hsj
        rw [e2]
        show 0 ≤ g c' - g c
        by_cases hzc : Z c = true
        · obtain ⟨j', hj', hcl⟩ := own c (P.lt j c (hm.ok e1).2) hzc
          have := (hc j c).1 e1
          rw [this] at hj'
          obtain rfl : j = j' := by injection hj'
          rw [gz (hcl c' (hq.ok e2).2)]
          have := g1 c; omega
        · have : g c = 0 := if_neg hzc
          have := g0 c'; omega
    have h5 := sumN_ge key k (hq.ok e).1
    rw [sumN_sub, h1, h2, h3, e, hk] at h5
    have h6 : (some d).elim 0 g - (none : Option Nat).elim 0 g = 1 := by
      show g d - 0 = 1
      rw [gz (hz d (hq.ok e).2)]; rfl
    rw [h6] at h5
    omega

section
variable {P : Prob} {first : Nat} {cp wn : Nat → Option Nat} {E : List Edge} {src : Option Nat} {f : Nat → Int}

theorem relax_chg {E : List Edge} : ∀ (L : List Edge) {s : BF} {v : Nat}, (∀ e ∈ L, e ∈ E) → (L.foldl relaxE s).chg = some v → s.chg = some v ∨ ∃ u w, (u, v, w) ∈ E
  | [], _, _, _, h => .inl h
  | (a, b, w) :: L, s, v, hL, h => by
    rcases relax_chg (E := E) L (s := relaxE s (a, b, w)) (fun e he => hL e (List.mem_cons_of_mem _ he)) h with h | h
    · by_cases g : s.cost a < endl ∧ s.cost a + w < s.cost b
      · rw [relax_yes g] at h
        obtain rfl : b = v := by injection h
        exact .inr ⟨a, w, hL _ (List.mem_cons_self ..)⟩
      · rw [relax_no g] at h; exact .inl h
    · exact .inr h

/-- A node that changed in the last round: so many steps back lie on a negative circle. -/
theorem last_round (hE : Edges P first cp wn E) (hm : Mat P cp) {v : Nat} (h : (rounds E src (P.n + 1)).chg = some v) :
    ∃ q, 0 < q ∧ q ≤ P.n + 1 ∧ Back (rounds E src (P.n + 1)) v (P.n + 1) ∧
      Back (rounds E src (P.n + 1)) (itr (rounds E src (P.n + 1)).pre (P.n + 1) v) q ∧
      itr (rounds E src (P.n + 1)).pre q (itr (rounds E src (P.n + 1)).pre (P.n + 1) v) = itr (rounds E src (P.n + 1)).pre (P.n + 1) v ∧
      (∀ i, 0 < i → i < q → itr (rounds E src (P.n + 1)).pre i (itr (rounds E src (P.n + 1)).pre (P.n + 1) v) ≠ itr (rounds E src (P.n + 1)).pre (P.n + 1) v) ∧
      Circle P first cp wn q (fun j => itr (rounds E src (P.n + 1)).pre (q - 1 - j) (itr (rounds E src (P.n + 1)).pre (P.n + 1) v)) ∧
      sumN (fun j => P.wt wn (itr (rounds E src (P.n + 1)).pre (q - 1 - j) (itr (rounds E src (P.n + 1)).pre (P.n + 1) v)) (itr (rounds E src (P.n + 1)).pre (q - 1 - (j + 1) % q) (itr (rounds E src (P.n + 1)).pre (P.n + 1) v))) q < 0 := by
  obtain ⟨tm, rd, T, hi⟩ := rounds_inv (E := E) (wt := P.wt wn) (src := src) (fun h => hE.hw hm h) P.n
  have hv : v < P.n + 1 := by
    rcases relax_chg (E := E) E (s := (rounds E src P.n).again) (fun e he => he) h with g | ⟨u, w, g⟩
    · cases g
    · exact (((hE _ _ _).1 g).1.ne hm).2.2
  generalize rounds E src (P.n + 1) = s at *
  have hb : Back s v (P.n + 1) := hi.back (by have := hi.chgI h; omega)
  obtain ⟨p, h1, h2, h3, h4⟩ := on_circle hb fun i hi' => by
    rcases Nat.eq_zero_or_pos i with e | e
    · subst e; exact hv
    · have := (((hE _ _ _).1 (hi.edge (hb (i - 1) (by omega))).1).1.ne hm).2.1
      rw [show i - 1 + 1 = i by omega] at this
      exact this
  obtain ⟨q, g1, g2, g3, g4, g5⟩ := least_circle h1 h4
  obtain ⟨c1, c2⟩ := neg_circle hE hi g1 (h3.less g2) g3 g5
  exact ⟨q, g1, by omega, hb, h3.less g2, g3, g4, c1, c2⟩

/-- With a potential the last round changes nothing. -/
theorem must_stop (hE : Edges P first cp wn E) (hm : Mat P cp) (hc : Con cp wn) (hf : Pot P first cp wn f) : (rounds E src (P.n + 1)).chg = none := by
  cases e : (rounds E src (P.n + 1)).chg with
  | none => rfl
  | some v =>
    obtain ⟨q, _, _, _, _, _, _, c1, c2⟩ := last_round hE hm e
    have := c1.nonneg hf hm hc
    omega
end
end Go.Proofs.Ytpcmppamkgkdlaa

/- Want by want the least copy: the least list. -/
namespace Go.Proofs.Ytpcmppamkgkdlaa

/-- No assignment that costs as much is less at the wants before one. -/
def Lex (P : Prob) (cp : Nat → Option Nat) (k : Nat) : Prop :=
  ∀ q, Mat P q → Same cp q → P.tot q = P.tot cp → ∀ k' c d, k' < k → (∀ j, j < k' → q j = cp j) → cp k' = some c → q k' = some d → c ≤ d

/-- No assignment that costs as much, and agrees before a want, gives it this copy. -/
def Rej (P : Prob) (cp : Nat → Option Nat) (k d : Nat) : Prop :=
  ∀ q, Mat P q → Same cp q → P.tot q = P.tot cp → (∀ j, j < k → q j = cp j) → q k ≠ some d

theorem Lex.zero (P cp) : Lex P cp 0 := fun _ _ _ _ _ _ _ h => absurd h (Nat.not_lt_zero _)

theorem Lex.next {P : Prob} {cp cp' : Nat → Option Nat} {k : Nat} (h : Lex P cp k) (ha : ∀ j, j < k → cp' j = cp j) (hs : Same cp cp') (ht : P.tot cp' = P.tot cp)
    (hn : ∀ c d, cp' k = some c → d ∈ P.acc k → d < c → Rej P cp k d) : Lex P cp' (k + 1) := by
  intro q hq hsq htq k' c d hk hag hc hd
  have hs' : Same cp q := hs.trans hsq
  have ht' : P.tot q = P.tot cp := htq.trans ht
  have hag' : ∀ j, j < k' → q j = cp j := fun j hj => (hag j hj).trans (ha j (by omega))
  rcases Nat.lt_or_ge k' k with g | g
  · exact h q hq hs' ht' k' c d g hag' ((ha k' g).symm.trans hc) hd
  · obtain rfl : k' = k := by omega
    rcases Nat.lt_or_ge d c with hlt | hge
    · exact absurd hd (hn c d hc (hq.ok hd).2 hlt q hq hs' ht' hag')
    · exact hge

theorem Rej.owned {P : Prob} {cp : Nat → Option Nat} {k o d : Nat} (ho : cp o = some d) (hlt : o < k) : Rej P cp k d := fun q hq _ _ hag e => by
  have := hq.inj ((hag o hlt).trans ho) e
  omega

theorem Best.of {P : Prob} {cp wn : Nat → Option Nat} {f : Nat → Int} (hm : Mat P cp) (hc : Con cp wn) (hg : Greedy P cp) (hf : Pot P 0 cp wn f) (hl : Lex P cp P.m) : Best P cp where
  mat := hm
  greedy := hg
  cheap := fun hq hs => hf.cheap hm hc hq hs
  least := fun {q} hq hs ht {k c d} hag hk hqk => hl q hq hs ht k c d (hm.ok hk).1 hag hk hqk

/-- What is served want by want is served greedily. -/
theorem Greedy.of {P : Prob} {cp : Nat → Option Nat} (hm : Mat P cp)
    (hn : ∀ k, k < P.m → cp k = none → ∀ q, Mat P q → (∀ j, j < k → (cp j).isSome → (q j).isSome) → q k = none) : Greedy P cp := fun k hk => by
  constructor
  · intro h; exact ⟨cp, hm, fun _ _ h => h, h⟩
  · rintro ⟨q, h1, h2, h3⟩
    cases e : cp k with
    | some c => rfl
    | none => rw [hn k hk e q h1 h2] at h3; cases h3
end Go.Proofs.Ytpcmppamkgkdlaa

/- What find does to the copies and the wants. -/
namespace Go.Proofs.Ytpcmppamkgkdlaa

/-- find has given a want a copy that had not been seen; the copy that the want had before still says so. -/
structure Found (P : Prob) (cp wn cp' wn' : Nat → Option Nat) (seen : Nat → Bool) (k : Nat) : Prop where
  ok : ∀ j c, cp' j = some c → j < P.m ∧ c ∈ P.acc j
  same : ∀ j, j ≠ k → (cp' j).isSome = (cp j).isSome
  got : (cp' k).isSome
  keep : ∀ c, seen c = true → wn' c = wn c
  keepw : ∀ j, j ≠ k → (∀ c, cp j = some c → seen c = true) → cp' j = cp j
  con1 : ∀ c j, wn' c = some j → j ≠ k → cp' j = some c
  con1k : ∀ c, wn' c = some k → cp' k = some c ∨ cp k = some c
  con2 : ∀ j c, cp' j = some c → wn' c = some j
  new : ∀ c, cp' k = some c → seen c = false

/-- find has given nothing: what it saw is closed. -/
structure Lost (P : Prob) (wn : Nat → Option Nat) (seen seen' : Nat → Bool) (k : Nat) : Prop where
  more : ∀ c, seen c = true → seen' c = true
  all : ∀ c, c ∈ P.acc k → seen' c = true
  own : ∀ c, seen' c = true → seen c = false → ∃ j, wn c = some j ∧ ∀ d, d ∈ P.acc j → seen' d = true

section
variable {P : Prob} {cp wn cp' wn' : Nat → Option Nat} {seen : Nat → Bool} {k j c : Nat}

theorem Found.free (hm : Mat P cp) (hc : Con cp wn) (hk : k < P.m) (ha : c ∈ P.acc k) (hs : seen c = false) (hw : wn c = none) : Found P cp wn (upd cp k (some c)) (upd wn c (some k)) seen k where
  ok := fun i d h => by
    by_cases e : i = k
    · subst e; rw [upd_eq] at h; injection h with h; subst h; exact ⟨hk, ha⟩
    · rw [upd_ne _ _ e] at h; exact hm.ok h
  same := fun i hi => by rw [upd_ne _ _ hi]
  got := by rw [upd_eq]; rfl
  keep := fun d hd => upd_ne _ _ (fun e => by subst e; rw [hs] at hd; cases hd)
  keepw := fun i hi _ => upd_ne _ _ hi
  con1 := fun d i h hi => by
    rw [upd_ne _ _ hi]
    by_cases e : d = c
    · subst e; rw [upd_eq] at h; injection h with h; exact absurd h.symm hi
    · rw [upd_ne _ _ e] at h; exact (hc i d).2 h
  con1k := fun d h => by
    by_cases e : d = c
    · subst e; left; exact upd_eq _ _ _
    · rw [upd_ne _ _ e] at h; exact .inr ((hc k d).2 h)
  con2 := fun i d h => by
    by_cases e : i = k
    · subst e; rw [upd_eq] at h; injection h with h; subst h; exact upd_eq _ _ _
    · rw [upd_ne _ _ e] at h
      have := (hc i d).1 h
      rw [upd_ne _ _ (fun e' => by subst e'; rw [hw] at this; cases this)]
      exact this
  new := fun d h => by rw [upd_eq] at h; injection h with h; subst h; exact hs

theorem Found.take (hc : Con cp wn) (hk : k < P.m) (ha : c ∈ P.acc k) (hs : seen c = false) (hw : wn c = some j) (hown : ∀ d, cp k = some d → seen d = true)
    (h : Found P cp wn cp' wn' (upd seen c true) j) : Found P cp wn (upd cp' k (some c)) (upd wn' c (some k)) seen k := by
  have hj := (hc j c).2 hw
  have hjk : j ≠ k := fun e => by subst e; have := hown c hj; rw [hs] at this; cases this
  have hsc : ∀ d, seen d = true → upd seen c true d = true := fun d hd => by
    by_cases e : d = c
    · subst e; exact upd_eq _ _ _
    · rw [upd_ne _ _ e]; exact hd
  have hck : cp' k = cp k := h.keepw k (fun e => hjk e.symm) (fun d hd => hsc d (hown d hd))
  have hwc : wn' c = some j := (h.keep c (upd_eq _ _ _)).trans hw
  refine { ok := fun i d g => ?_, same := fun i hi => ?_, got := (by rw [upd_eq]; rfl), keep := fun d hd => ?_, keepw := fun i hi g => ?_, con1 := fun d i g hi => ?_, con1k := fun d g => ?_, con2 := fun i d g => ?_, new := fun d g => ?_ }
  · by_cases e : i = k
    · subst e; rw [upd_eq] at g; injection g with g; subst g; exact ⟨hk, ha⟩
    · rw [upd_ne _ _ e] at g; exact h.ok i d g
  · rw [upd_ne _ _ hi]
    by_cases e : i = j
    · subst e; rw [h.got, hj]; rfl
    · exact h.same i e
  · rw [upd_ne _ _ (fun e => by subst e; rw [hs] at hd; cases hd)]
    exact h.keep d (hsc d hd)
  · rw [upd_ne _ _ hi]
    refine h.keepw i (fun e => ?_) (fun d hd => hsc d (g d hd))
    subst e
    have := g c hj
    rw [hs] at this; cases this
  · rw [upd_ne _ _ hi]
    by_cases e : d = c
    · subst e; rw [upd_eq] at g; injection g with g; exact absurd g.symm hi
    · rw [upd_ne _ _ e] at g
      by_cases e2 : i = j
      · subst e2
        rcases h.con1k d g with g2 | g2
        · exact g2
        · rw [hj] at g2; injection g2 with g2; exact absurd g2.symm e
      · exact h.con1 d i g e2
  · by_cases e : d = c
    · subst e; left; exact upd_eq _ _ _
    · rw [upd_ne _ _ e] at g
      right
      rw [← hck]
      exact h.con1 d k g (fun e => hjk e.symm)
  · by_cases e : i = k
    · subst e; rw [upd_eq] at g; injection g with g; subst g; exact upd_eq _ _ _
    · rw [upd_ne _ _ e] at g
      have g2 := h.con2 i d g
      rw [upd_ne _ _ (fun e' => ?_)]
      · exact g2
      · subst e'
        rw [hwc] at g2
        obtain rfl : j = i := by injection g2
        have := h.new d g
        rw [upd_eq] at this; cases this
  · rw [upd_eq] at g; injection g with g; subst g; exact hs

/-- At the top: a matching that serves one want more. -/
theorem Found.top (h : Found P cp wn cp' wn' seen k) (hk : cp k = none) : Mat P cp' ∧ Con cp' wn' := by
  have con : Con cp' wn' := fun i d => ⟨h.con2 i d, fun g => by
    by_cases e : i = k
    · subst e
      rcases h.con1k d g with g | g
      · exact g
      · rw [hk] at g; cases g
    · exact h.con1 d i g e⟩
  refine ⟨⟨fun {i d} g => h.ok i d g, fun {a b d} g1 g2 => ?_⟩, con⟩
  have h1 := (con a d).1 g1
  have h2 := (con b d).1 g2
  rw [h1] at h2
  injection h2

theorem Lost.top {seen' : Nat → Bool} {q : Nat → Option Nat} (h : Lost P wn (fun _ => false) seen' k) (hm : Mat P cp) (hc : Con cp wn) (hk : cp k = none) (hq : Mat P q) (hs : ∀ j, (cp j).isSome → (q j).isSome) : q k = none :=
  hall hm hc hk seen' h.all (fun c _ hz => h.own c hz rfl) hq hs
end
end Go.Proofs.Ytpcmppamkgkdlaa
