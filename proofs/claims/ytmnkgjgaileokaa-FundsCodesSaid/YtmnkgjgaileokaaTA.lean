/- Plain laws of the tree of funds: what lies below a fund lies there once; what a total is; what a year's end does. -/
import Derived.Test.YtmnkgjgaileokaaFK
namespace Go.Proofs.Ytmnkgjgaileokaa

def sub (kids : Int → List Int) : Nat → Int → List Int
  | 0, _ => []
  | n + 1, x => (kids x).flatMap fun y => y :: sub kids n y
/-- What holds of a tree. -/
structure Tree (ids : List Int) (pa : Int → Int) (kids : Int → List Int) : Prop where
  nd : ids.Nodup
  kid : ∀ x ∈ ids, kids x = ids.filter fun y => pa y == x
  par : ∀ x ∈ ids, pa x = 0 ∨ pa x ∈ ids
  deep : ∀ x ∈ ids, Deep kids ids.length x
  pos : ∀ x ∈ ids, x ≠ 0
/-- From z up to y in k steps. -/
def Anc (ids : List Int) (pa : Int → Int) : Nat → Int → Int → Prop
  | 0, z, y => z = y
  | k + 1, z, y => pa z ∈ ids ∧ Anc ids pa k (pa z) y
section
variable {ids : List Int} {pa : Int → Int} {kids : Int → List Int}
theorem Tree.mem (t : Tree ids pa kids) {x y : Int} (hx : x ∈ ids) : y ∈ kids x ↔ y ∈ ids ∧ pa y = x := by
  rw [t.kid x hx]; simp
theorem anc_snoc : ∀ (k : Nat) (z y x : Int), Anc ids pa k z y → pa y = x → x ∈ ids → Anc ids pa (k + 1) z x
  | 0, z, y, x, h, e, hx => by
    have h : z = y := h
    subst h; subst e
    exact ⟨hx, rfl⟩
  | k + 1, z, y, x, h, e, hx => ⟨h.1, anc_snoc k (pa z) y x h.2 e hx⟩
theorem anc_split : ∀ (k j : Nat) (z y x : Int), Anc ids pa k z y → Anc ids pa (k + j) z x → Anc ids pa j y x
  | 0, j, z, y, x, h, h2 => by
    have h : z = y := h
    subst h
    simpa using h2
  | k + 1, j, z, y, x, h, h2 => by
    have h2 : Anc ids pa ((k + j) + 1) z x := by rw [show k + j + 1 = k + 1 + j by omega]; exact h2
    exact anc_split k j (pa z) y x h.2 h2.2
theorem anc_trans : ∀ (k j : Nat) (z y x : Int), Anc ids pa k z y → Anc ids pa j y x → Anc ids pa (k + j) z x
  | 0, j, z, y, x, h, h2 => by
    have h : z = y := h
    subst h; simpa using h2
  | k + 1, j, z, y, x, h, h2 => by
    rw [show k + 1 + j = (k + j) + 1 by omega]
    exact ⟨h.1, anc_trans k j (pa z) y x h.2 h2⟩
theorem sub_anc (t : Tree ids pa kids) : ∀ (n : Nat) (x z : Int), x ∈ ids → z ∈ sub kids n x → z ∈ ids ∧ ∃ k, 1 ≤ k ∧ k ≤ n ∧ Anc ids pa k z x
  | 0, x, z, _, h => by simp [sub] at h
  | n + 1, x, z, hx, h => by
    obtain ⟨y, hy, h⟩ := List.mem_flatMap.1 h
    obtain ⟨h1, h2⟩ := (t.mem hx).1 hy
    rcases List.mem_cons.1 h with rfl | h
    · exact ⟨h1, 1, by omega, by omega, by rw [← h2] at hx ⊢; exact ⟨hx, rfl⟩⟩
    · obtain ⟨h3, k, h4, h5, h6⟩ := sub_anc t n y z h1 h
      exact ⟨h3, k + 1, by omega, by omega, anc_snoc k z y x h6 h2 hx⟩
theorem sub_up : ∀ (n : Nat) (x y z : Int), y ∈ kids x → z ∈ y :: sub kids n y → z ∈ sub kids (n + 1) x :=
  fun _ _ y _ hy hz => List.mem_flatMap.2 ⟨y, hy, hz⟩
theorem anc_sub (t : Tree ids pa kids) : ∀ (k n : Nat) (z x : Int), z ∈ ids → x ∈ ids → Anc ids pa k z x → k ≤ n → z = x ∨ z ∈ sub kids n x := by
  have key : ∀ (n : Nat) (x y z : Int), x ∈ ids → (y = x ∨ y ∈ sub kids n x) → z ∈ kids y → z ∈ sub kids (n + 1) x := by
    intro n
    induction n with
    | zero =>
      intro x y z hx hy hz
      rcases hy with rfl | hy
      · exact List.mem_flatMap.2 ⟨z, hz, by simp⟩
      · simp [sub] at hy
    | succ n ih =>
      intro x y z hx hy hz
      rcases hy with rfl | hy
      · exact List.mem_flatMap.2 ⟨z, hz, by simp⟩
      · obtain ⟨u, hu, h⟩ := List.mem_flatMap.1 hy
        refine List.mem_flatMap.2 ⟨u, hu, List.mem_cons_of_mem _ (ih u y z ((t.mem hx).1 hu).1 ?_ hz)⟩
        rcases List.mem_cons.1 h with rfl | h
        · exact .inl rfl
        · exact .inr h
  intro k
  induction k with
  | zero => intro n z x _ _ h _; exact .inl h
  | succ k ih =>
    intro n z x hz hx h hk
    obtain ⟨n, rfl⟩ : ∃ m, n = m + 1 := ⟨n - 1, by omega⟩
    have := ih n (pa z) x h.1 hx h.2 (by omega)
    exact .inr (key n x (pa z) z hx this ((t.mem h.1).2 ⟨hz, rfl⟩))
theorem anc_deep (t : Tree ids pa kids) : ∀ (k : Nat) (z x : Int) (m : Nat), z ∈ ids → Anc ids pa k z x → Deep kids m x → ∃ m', m' + k = m ∧ Deep kids m' z
  | 0, z, x, m, _, h, hd => by
    have h : z = x := h
    subst h; exact ⟨m, rfl, hd⟩
  | k + 1, z, x, m, hz, h, hd => by
    obtain ⟨m', e, hd'⟩ := anc_deep t k (pa z) x m h.1 h.2 hd
    have hk : z ∈ kids (pa z) := (t.mem h.1).2 ⟨hz, rfl⟩
    match m', hd', e with
    | 0, hd', _ => have hd' : kids (pa z) = [] := hd'
                   rw [hd'] at hk; cases hk
    | m' + 1, hd', e => exact ⟨m', by omega, hd' z hk⟩
theorem no_round (t : Tree ids pa kids) : ∀ (m : Nat) (x : Int) (k : Nat), x ∈ ids → Deep kids m x → Anc ids pa (k + 1) x x → False := by
  intro m
  induction m using Nat.strongRecOn with
  | _ m ih =>
    intro x k hx hd h
    obtain ⟨m', e, hd'⟩ := anc_deep t (k + 1) x x m hx h hd
    exact ih m' (by omega) x k hx hd' h
theorem anc_ids {ids : List Int} {pa : Int → Int} : ∀ (k : Nat) (z x : Int), z ∈ ids → Anc ids pa k z x → x ∈ ids
  | 0, z, x, hz, h => by
    have h : z = x := h
    subst h; exact hz
  | k + 1, z, x, _, h => anc_ids k (pa z) x h.1 h.2
/-- A fund is no fund below itself. -/
theorem sub_irrefl (t : Tree ids pa kids) {n : Nat} {x : Int} (hx : x ∈ ids) : x ∉ sub kids n x := fun h => by
  obtain ⟨_, k, hk, _, ha⟩ := sub_anc t n x x hx h
  obtain ⟨k, rfl⟩ : ∃ m, k = m + 1 := ⟨k - 1, by omega⟩
  exact no_round t _ x k hx (t.deep x hx) ha
theorem own_anc (t : Tree ids pa kids) {n : Nat} {x z : Int} (hx : x ∈ ids) (h : z ∈ x :: sub kids n x) : z ∈ ids ∧ ∃ k, Anc ids pa k z x := by
  rcases List.mem_cons.1 h with rfl | h
  · exact ⟨hx, 0, rfl⟩
  · obtain ⟨h1, k, _, _, h2⟩ := sub_anc t n x z hx h
    exact ⟨h1, k, h2⟩
/-- Two funds of one parent share nothing below them. -/
theorem sub_apart (t : Tree ids pa kids) {n n' : Nat} {y1 y2 : Int} (h1 : y1 ∈ ids) (h2 : y2 ∈ ids) (hp : pa y1 = pa y2) (hne : y1 ≠ y2) {z : Int} (hz1 : z ∈ y1 :: sub kids n y1) (hz2 : z ∈ y2 :: sub kids n' y2) : False := by
  obtain ⟨_, k1, a1⟩ := own_anc t h1 hz1
  obtain ⟨_, k2, a2⟩ := own_anc t h2 hz2
  have key : ∀ (k j : Nat) (y1 y2 : Int), y1 ∈ ids → y2 ∈ ids → pa y1 = pa y2 → y1 ≠ y2 → Anc ids pa k z y1 → Anc ids pa (k + j) z y2 → False := by
    intro k j y1 y2 h1 h2 hp hne a1 a2
    have a3 := anc_split k j z y1 y2 a1 a2
    match j, a3 with
    | 0, a3 => exact hne a3
    | j + 1, a3 =>
      have a4 : Anc ids pa j (pa y1) y2 := a3.2
      rw [hp] at a4
      have hpi : pa y2 ∈ ids := by rw [← hp]; exact a3.1
      exact no_round t _ (pa y2) j hpi (t.deep _ hpi) (anc_snoc j (pa y2) y2 (pa y2) a4 rfl hpi)
  rcases Nat.le_total k1 k2 with h | h
  · obtain ⟨j, rfl⟩ := Nat.exists_eq_add_of_le h
    exact key k1 j y1 y2 h1 h2 hp hne a1 a2
  · obtain ⟨j, rfl⟩ := Nat.exists_eq_add_of_le h
    exact key k2 j y2 y1 h2 h1 hp.symm (Ne.symm hne) a2 a1
theorem kids_nd (t : Tree ids pa kids) {x : Int} (hx : x ∈ ids) : (kids x).Nodup := by
  rw [t.kid x hx]; exact t.nd.filter _
theorem sub_nd (t : Tree ids pa kids) : ∀ (n : Nat) (x : Int), x ∈ ids → (x :: sub kids n x).Nodup := by
  intro n
  induction n with
  | zero => intro x _; simp [sub]
  | succ n ih =>
    intro x hx
    refine List.nodup_cons.2 ⟨sub_irrefl t hx, ?_⟩
    show List.Pairwise _ ((kids x).flatMap fun y => y :: sub kids n y)
    rw [List.pairwise_flatMap]
    refine ⟨fun y hy => ih y ((t.mem hx).1 hy).1, (kids_nd t hx).imp_of_mem ?_⟩
    intro a b ha hb hne u hu v hv e
    subst e
    obtain ⟨p1, p2⟩ := (t.mem hx).1 ha
    obtain ⟨q1, q2⟩ := (t.mem hx).1 hb
    exact sub_apart t p1 q1 (p2.trans q2.symm) hne hu hv
theorem sum_flat (f : Int → Int) (g : Int → List Int) : ∀ l : List Int, ((l.flatMap g).map f).sum = (l.map fun y => ((g y).map f).sum).sum
  | [] => rfl
  | a :: l => by simp [List.flatMap_cons, List.map_append, List.sum_append, sum_flat f g l]
theorem totF_sub (f : Int → Int) : ∀ (n : Nat) (x : Int), totF f kids n x = f x + ((sub kids n x).map f).sum
  | 0, x => by simp [totF, sub]
  | n + 1, x => by
    show f x + ((kids x).map (totF f kids n)).sum = f x + (((kids x).flatMap fun y => y :: sub kids n y).map f).sum
    rw [sum_flat]
    congr 2
    refine List.map_congr_left fun y _ => ?_
    rw [totF_sub f n y]; simp
theorem sum_sub {f : Int → Int} : ∀ (l m : List Int), l.Nodup → (∀ z ∈ l, z ∈ m) → (∀ z ∈ m, 0 ≤ f z) → (l.map f).sum ≤ (m.map f).sum := by
  intro l
  induction l with
  | nil => intro m _ _ h; exact sum_nonneg f m h
  | cons a l ih =>
    intro m hn hm h0
    obtain ⟨h1, h2⟩ := List.nodup_cons.1 hn
    have ha := hm a (by simp)
    have h3 := ih (m.erase a) h2 (fun z hz => (List.mem_erase_of_ne (fun (e : z = a) => h1 (e ▸ hz))).2 (hm z (by simp [hz]))) (fun z hz => h0 z (List.mem_of_mem_erase hz))
    have h4 : (m.map f).sum = f a + ((m.erase a).map f).sum := by
      clear ih hm h3 h0
      induction m with
      | nil => cases ha
      | cons b m ihm =>
        by_cases e : b = a
        · subst e; simp
        · rw [List.erase_cons_tail (by simpa using e)]
          have ha' : a ∈ m := by rcases List.mem_cons.1 ha with h | h; exact absurd h.symm e; exact h
          simp only [List.map_cons, List.sum_cons, ihm ha']
          omega
    simp only [List.map_cons, List.sum_cons]
    omega
/-- A total is at most the sum of all. -/
theorem totF_le (t : Tree ids pa kids) {f : Int → Int} (h0 : ∀ z ∈ ids, 0 ≤ f z) {n : Nat} {x : Int} (hx : x ∈ ids) : totF f kids n x ≤ (ids.map f).sum := by
  rw [totF_sub]
  have := sum_sub (f := f) (x :: sub kids n x) ids (sub_nd t n x hx) (fun z hz => (own_anc t hx hz).1) h0
  simpa using this
/-- From a depth on a total is the same. -/
theorem totF_deep (f : Int → Int) : ∀ (n : Nat) (x : Int), Deep kids n x → totF f kids (n + 1) x = totF f kids n x
  | 0, x, h => by rw [totF_nil h, totF_nil h]
  | n + 1, x, h => by
    show f x + ((kids x).map (totF f kids (n + 1))).sum = f x + ((kids x).map (totF f kids n)).sum
    congr 2
    exact List.map_congr_left fun y hy => totF_deep f n y (h y hy)
end
end Go.Proofs.Ytmnkgjgaileokaa
