/- Exchanges along a circle. -/
import Derived.Test.YtpcmppamkgkdlaaPC
namespace Go.Proofs.Ytpcmppamkgkdlaa

theorem sum_image {h : Nat → Int} {c : Nat → Nat} {p N : Nat} (hz : ∀ x, x < N → (∀ i, i < p → c i ≠ x) → h x = 0) (hN : ∀ i, i < p → c i < N)
    (dis : ∀ i j, i < p → j < p → c i = c j → i = j) : sumN h N = sumN (fun i => h (c i)) p := by
  have h1 : sumN h N = sumN (fun x => sumN (fun i => if x = c i then h (c i) else 0) p) N := by
    refine sumN_congr fun x hx => ?_
    by_cases e : ∃ i, i < p ∧ c i = x
    · obtain ⟨i, hi, rfl⟩ := e
      have : sumN (fun j => if c i = c j then h (c j) else 0) p = sumN (fun j => if j = i then h (c i) else 0) p := by
        refine sumN_congr fun j hj => ?_
        by_cases g : j = i
        · subst g; simp
        · have : ¬ c i = c j := fun e => g (dis _ _ hi hj e).symm
          simp [g, this]
      rw [this, sumN_one, if_pos hi]
    · rw [hz x hx (fun i hi e' => e ⟨i, hi, e'⟩)]
      have : sumN (fun i => if x = c i then h (c i) else 0) p = sumN (fun _ => 0) p := by
        refine sumN_congr fun i hi => ?_
        have : ¬ x = c i := fun e' => e ⟨i, hi, e'.symm⟩
        simp [this]
      rw [this, sumN_zero]
  rw [h1, sumN_swap]
  refine sumN_congr fun i hi => ?_
  have := sumN_one (c i) (h (c i)) N
  rw [if_pos (hN i hi)] at this
  exact this

theorem sum_round (f : Nat → Int) : ∀ p, 0 < p → sumN (fun i => f i - f ((i + 1) % p)) p = 0
  | p + 1, _ => by
    simp only [sumN]
    have h1 : sumN (fun i => f i - f ((i + 1) % (p + 1))) p = sumN (fun i => f i - f (i + 1)) p := sumN_congr fun i hi => by
      rw [Nat.mod_eq_of_lt (by omega)]
    have h2 := sumN_tele f p
    rw [h1, h2, Nat.mod_self]; omega

/-- An exchange that is possible for the wants from one on; n stands for any free copy. -/
def Ed (P : Prob) (first : Nat) (cp wn : Nat → Option Nat) (u v : Nat) : Prop :=
  (∃ k, first ≤ k ∧ cp k = some u ∧ v ∈ P.acc k ∧ v ≠ u) ∨ (u < P.n ∧ wn u = none ∧ v = P.n) ∨ (u = P.n ∧ v < P.n ∧ ∃ k, first ≤ k ∧ wn v = some k)

/-- What it costs more. -/
def Prob.wt (P : Prob) (wn : Nat → Option Nat) (u v : Nat) : Int :=
  if u < P.n ∧ v < P.n then (wn u).elim 0 (fun k => P.cst k v - P.cst k u) else 0

structure Circle (P : Prob) (first : Nat) (cp wn : Nat → Option Nat) (p : Nat) (c : Nat → Nat) : Prop where
  pos : 0 < p
  dis : ∀ i j, i < p → j < p → c i = c j → i = j
  edge : ∀ i, i < p → Ed P first cp wn (c i) (c ((i + 1) % p))

/-- The next node of the circle, or the node itself. -/
def nx (p : Nat) (c : Nat → Nat) (x : Nat) : Nat := ((List.range p).find? (fun i => decide (c i = x))).elim x (fun i => c ((i + 1) % p))
theorem nx_on {p : Nat} {c : Nat → Nat} (dis : ∀ i j, i < p → j < p → c i = c j → i = j) {i : Nat} (hi : i < p) : nx p c (c i) = c ((i + 1) % p) := by
  unfold nx
  cases f : (List.range p).find? (fun j => decide (c j = c i)) with
  | none =>
    have := List.find?_eq_none.1 f i (List.mem_range.2 hi)
    simp at this
  | some j =>
    have h1 := List.find?_some f
    have h2 := List.mem_range.1 (List.mem_of_find?_eq_some f)
    have h1 : c j = c i := by simpa using h1
    obtain rfl := dis _ _ h2 hi h1
    rfl
theorem nx_off {p : Nat} {c : Nat → Nat} {x : Nat} (h : ∀ i, i < p → c i ≠ x) : nx p c x = x := by
  unfold nx
  have : (List.range p).find? (fun j => decide (c j = x)) = none := List.find?_eq_none.2 fun j hj => by
    have := h j (List.mem_range.1 hj)
    simpa using this
  rw [this]; rfl

def moved (p : Nat) (c : Nat → Nat) (cp : Nat → Option Nat) (k : Nat) : Option Nat := (cp k).map (nx p c)
theorem moved_same (p c cp) : Same cp (moved p c cp) := fun k => by unfold moved; cases cp k <;> rfl

section
variable {P : Prob} {first p : Nat} {cp wn : Nat → Option Nat} {c : Nat → Nat}

/-- Where the copy of a want goes: along an exchange, or nowhere. -/
theorem Circle.goes (h : Circle P first cp wn p c) (hm : Mat P cp) (hc : Con cp wn) {k x : Nat} (hk : cp k = some x) :
    (nx p c x = x ∧ ∀ i, i < p → c i ≠ x) ∨ (∃ i, i < p ∧ c i = x ∧ nx p c x = c ((i + 1) % p) ∧ first ≤ k ∧ c ((i + 1) % p) ∈ P.acc k) := by
  by_cases e : ∃ i, i < p ∧ c i = x
  · obtain ⟨i, hi, rfl⟩ := e
    right
    refine ⟨i, hi, rfl, nx_on h.dis hi, ?_⟩
    rcases h.edge i hi with ⟨j, h1, h2, h3, _⟩ | ⟨_, h2, _⟩ | ⟨h1, _⟩
    · obtain rfl := hm.inj h2 hk
      exact ⟨h1, h3⟩
    · rw [(hc k _).1 hk] at h2; cases h2
    · have := P.lt k _ (hm.ok hk).2; omega
  · exact .inl ⟨nx_off fun i hi e' => e ⟨i, hi, e'⟩, fun i hi e' => e ⟨i, hi, e'⟩⟩

theorem Circle.early (h : Circle P first cp wn p c) (hm : Mat P cp) (hc : Con cp wn) {k : Nat} (hk : k < first) : moved p c cp k = cp k := by
  unfold moved
  cases e : cp k with
  | none => rfl
  | some x =>
    rcases h.goes hm hc e with ⟨h1, _⟩ | ⟨_, _, _, _, h2, _⟩
    · show some (nx p c x) = some x; rw [h1]
    · omega

theorem Circle.succ_inj (h : Circle P first cp wn p c) {i j : Nat} (hi : i < p) (hj : j < p) (e : c ((i + 1) % p) = c ((j + 1) % p)) : i = j := by
  have := h.dis _ _ (Nat.mod_lt _ h.pos) (Nat.mod_lt _ h.pos) e
  have a : (i + 1) % p = if i + 1 = p then 0 else i + 1 := by
    split
    · rename_i g; rw [g, Nat.mod_self]
    · exact Nat.mod_eq_of_lt (by omega)
  have b : (j + 1) % p = if j + 1 = p then 0 else j + 1 := by
    split
    · rename_i g; rw [g, Nat.mod_self]
    · exact Nat.mod_eq_of_lt (by omega)
  rw [a, b] at this
  split at this <;> split at this <;> omega

theorem Circle.mat (h : Circle P first cp wn p c) (hm : Mat P cp) (hc : Con cp wn) : Mat P (moved p c cp) := by
  refine ⟨fun {k d} hk => ?_, fun {j k d} hj hk => ?_⟩
  · unfold moved at hk
    obtain ⟨x, hx, rfl⟩ := Option.map_eq_some_iff.1 hk
    rcases h.goes hm hc hx with ⟨h1, _⟩ | ⟨i, _, _, h1, _, h2⟩
    · rw [h1]; exact hm.ok hx
    · rw [h1]; exact ⟨(hm.ok hx).1, h2⟩
  · unfold moved at hj hk
    obtain ⟨x, hx, rfl⟩ := Option.map_eq_some_iff.1 hj
    obtain ⟨y, hy, e⟩ := Option.map_eq_some_iff.1 hk
    rcases h.goes hm hc hx with ⟨h1, g1⟩ | ⟨i, hi, g1, h1, _⟩ <;> rcases h.goes hm hc hy with ⟨h2, g2⟩ | ⟨i', hi', g2, h2, _⟩
    · rw [h1, h2] at e
      subst e
      exact hm.inj hx hy
    · rw [h1, h2] at e
      exact absurd e (g1 _ (Nat.mod_lt _ h.pos))
    · rw [h1, h2] at e
      exact absurd e.symm (g2 _ (Nat.mod_lt _ h.pos))
    · rw [h1, h2] at e
      obtain rfl := h.succ_inj hi' hi e
      rw [g1] at g2
      subst g2
      exact hm.inj hx hy

theorem Circle.node (h : Circle P first cp wn p c) (hm : Mat P cp) {i : Nat} (hi : i < p) : c i < P.n + 1 := by
  rcases h.edge i hi with ⟨k, _, h2, _⟩ | ⟨h1, _⟩ | ⟨h1, _⟩
  · have := P.lt k _ (hm.ok h2).2; omega
  · omega
  · omega

/-- An assignment that is exchanged along a circle costs what it did, and what the exchanges cost. -/
theorem Circle.tot (h : Circle P first cp wn p c) (hm : Mat P cp) (hc : Con cp wn) :
    P.tot (moved p c cp) = P.tot cp + sumN (fun i => P.wt wn (c i) (c ((i + 1) % p))) p := by
  have h1 : sumN (fun k => P.one (moved p c cp) k - P.one cp k) P.m = sumN (fun k => (cp k).elim 0 (fun x => P.wt wn x (nx p c x))) P.m := by
    refine sumN_congr fun k _ => ?_
    unfold Prob.one moved
    cases e : cp k with
    | none => rfl
    | some x =>
      show P.cst k (nx p c x) - P.cst k x = P.wt wn x (nx p c x)
      have hx := P.lt k x (hm.ok e).2
      have hy : nx p c x < P.n := by
        rcases h.goes hm hc e with ⟨h1, _⟩ | ⟨i, _, _, h1, _, h2⟩
        · rw [h1]; exact hx
        · rw [h1]; exact P.lt k _ h2
      unfold Prob.wt
      rw [if_pos ⟨hx, hy⟩, (hc k x).1 e]
      rfl
  have h2 := count_swap hm hc (fun x => P.wt wn x (nx p c x))
  have h3 : sumN (fun x => if (wn x).isSome then P.wt wn x (nx p c x) else 0) P.n = sumN (fun x => P.wt wn x (nx p c x)) (P.n + 1) := by
    show _ = sumN _ P.n + P.wt wn P.n (nx p c P.n)
    have hn : P.wt wn P.n (nx p c P.n) = 0 := by unfold Prob.wt; rw [if_neg (by omega)]
    rw [hn, Int.add_zero]
    refine sumN_congr fun x _ => ?_
    cases e : wn x with
    | none => unfold Prob.wt; rw [e]; simp
    | some k => rfl
  have h4 : sumN (fun x => P.wt wn x (nx p c x)) (P.n + 1) = sumN (fun i => P.wt wn (c i) (nx p c (c i))) p := by
    refine sum_image (fun x _ hx => ?_) (fun i hi => h.node hm hi) h.dis
    rw [nx_off hx]
    unfold Prob.wt
    split
    · cases wn x with
      | none => rfl
      | some k => show P.cst k x - P.cst k x = 0; omega
    · rfl
  have h5 : sumN (fun i => P.wt wn (c i) (nx p c (c i))) p = sumN (fun i => P.wt wn (c i) (c ((i + 1) % p))) p :=
    sumN_congr fun i hi => by rw [nx_on h.dis hi]
  have h6 := sumN_sub (P.one (moved p c cp)) (P.one cp) P.m
  unfold Prob.tot
  rw [h6, h2, h3, h4, h5] at h1
  omega
end
end Go.Proofs.Ytpcmppamkgkdlaa
