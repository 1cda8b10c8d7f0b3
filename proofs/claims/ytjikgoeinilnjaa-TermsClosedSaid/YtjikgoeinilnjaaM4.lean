/- Plain laws: a calendar with more closed days. -/
import Derived.Test.YtjikgoeinilnjaaWJ
import Derived.Test.YtjikgoeinilnjaaM2
namespace Go.Proofs.Ytjikgoeinilnjaa
open Go.RowKit

def Cal.sup (c c' : Cal) : Prop := (∀ i, c'.wk i = c.wk i) ∧ ∀ x ∈ c.days, x ∈ c'.days
theorem sup_open {c c' : Cal} (h : c.sup c') {d : Int} (ho : openB c' d = true) : openB c d = true := by
  simp only [openB, Bool.and_eq_true, Bool.not_eq_true', decide_eq_false_iff_not, h.1] at ho ⊢
  exact ⟨ho.1, ho.2.1, fun hd => ho.2.2 (h.2 d hd)⟩
theorem sup_cnt {c c' : Cal} (h : c.sup c') (f : Int) (n : Nat) : cntR c' f n ≤ cntR c f n := by
  induction n with
  | zero => simp [cntR]
  | succ n ih =>
    rw [cntR, cntR]
    by_cases h1 : openB c' (f + n) = true
    · rw [if_pos h1, if_pos (sup_open h h1)]; omega
    · rw [if_neg h1]; split <;> omega
theorem sup_fine {c c' : Cal} {r : Rule} (h : c.sup c') (hf : 0 ≤ r.f) (du d : Int) : fineS r c' du d ≤ fineS r c du d := by
  unfold fineS
  split
  · exact Int.le_refl _
  · have h1 : cntS c' (du + 1) (d + 1) ≤ cntS c (du + 1) (d + 1) := sup_cnt h _ _
    have h2 := Int.mul_le_mul_of_nonneg_right h1 hf
    omega
theorem sup_next {c c' : Cal} (h : c.sup c') {n : Nat} {y p q : Int} {b : Bool} (h1 : nextF c' n y = (p, true)) (h2 : nextF c n y = (q, b)) (hy : y + n ≤ 2932897) : b = true ∧ q ≤ p := by
  obtain ⟨a1, a2, a3, _⟩ := nextF_true c' n y p h1
  have a4 := sup_open h a3
  cases b with
  | false =>
    have := (nextF_false c n y q h2).2 hy p a1 a2
    rw [this] at a4; cases a4
  | true =>
    obtain ⟨_, _, _, b4⟩ := nextF_true c n y q h2
    refine ⟨rfl, ?_⟩
    rcases Int.lt_or_le p q with h' | h'
    · have := b4 p a1 h'
      rw [this] at a4; cases a4
    · exact h'

/-- A slice of integers in memory, in a block from L on and below U. -/
def IntSlU (w : World) (L U : Nat) (a : Option Addr) (D : List Int) : Prop :=
  D = [] ∨ ∃ b o, a = some ⟨b, o, none⟩ ∧ L ≤ b ∧ b < U ∧ b < w.heap.size ∧ ∀ j, j < D.length → w.cell? ⟨b, o + j, none⟩ = some (.int .i64 (D.getD j 0))
theorem IntSlB.toU {w : World} {a : Option Addr} {D : List Int} {L : Nat} (h : IntSlB w L a D) : IntSlU w L w.heap.size a D := by
  rcases h with h | ⟨b, o, e, h0, h1, h2⟩
  · exact .inl h
  · exact .inr ⟨b, o, e, h0, h1, h1, h2⟩
theorem IntSlU.toSl {w : World} {L U : Nat} {a : Option Addr} {D : List Int} (h : IntSlU w L U a D) : IntSl w a D := by
  rcases h with h | ⟨b, o, e, _, h0, h1, h2⟩
  · exact .inl h
  · exact .inr ⟨b, o, e, h1, h2⟩
theorem IntSlU.set {w : World} {L U : Nat} {a : Option Addr} {D : List Int} (h : IntSlU w L U a D) (p : Addr) (v : Value) (hp : p.block < L ∨ U ≤ p.block) : IntSlU (w.setCell p v) L U a D := by
  rcases h with h | ⟨b, o, e, h0, h1, h2, h3⟩
  · exact .inl h
  · exact .inr ⟨b, o, e, h0, h1, by simpa using h2, fun j hj => by rw [World.cell?_setCell_other _ _ _ _ (fun e' => by rw [e'] at hp; rcases hp with hp | hp; exact absurd hp (by show ¬ b < L; omega); exact absurd hp (by show ¬ U ≤ b; omega))]; exact h3 j hj⟩
theorem IntSlU.below {w w' : World} {L U C : Nat} {a : Option Addr} {D : List Int} (h : IntSlU w L U a D) (hb : Below C w w') (hC : U ≤ C) : IntSlU w' L U a D := by
  rcases h with h | ⟨b, o, e, h0, h1, h2, h3⟩
  · exact .inl h
  · exact .inr ⟨b, o, e, h0, h1, by have := hb.size; omega, fun j hj => (hb.cell (p := ⟨b, o + j, none⟩) (by show b < C; omega)).trans (h3 j hj)⟩
theorem news1 (w : World) (v : Value) (T : TypeId) : ∀ (j : Nat) (u : Value), [v][j]? = some u → (w.alloc (.cells #[v] T)).cell? (Addr.add ⟨w.heap.size, 0, none⟩ j) = some u := by
  intro j u hj
  match j, hj with
  | 0, hj => simp at hj; subst hj; simp [Addr.add]
theorem one1 (x : Int) : ∀ u ∈ [Value.int .i64 x], u.oneCell' = true := by intro u hu; simp at hu; subst hu; rfl
theorem news2 {w : World} {g : Nat} {v : Value} {T : TypeId} (h : Blk w g #[v] T) : ∀ (j : Nat) (u : Value), [v][j]? = some u → w.cell? (Addr.add ⟨g, 0, none⟩ j) = some u := by
  intro j u hj
  match j, hj with
  | 0, hj => simp at hj; subst hj; simpa [Addr.add] using h.cell 0
theorem own_ov {w : World} {B z n : Nat} {e : TypeId} {v : Value} {xs : List Value} (h : w.ownsRow B e z v n xs) (x : World) : (over w x).ownsRow B e z v n xs := by
  obtain ⟨h0, ⟨h1, h2⟩ | ⟨g, c, cur, h1, h2, h3, h4⟩⟩ := h
  · exact ⟨h0, .inl ⟨h1, h2⟩⟩
  · exact ⟨h0, .inr ⟨g, c, cur, h1, h2, (over_block w x (heap_lt h3)).trans h3, h4⟩⟩
theorem own_low {w : World} {B z n : Nat} {e : TypeId} {v : Value} {xs : List Value} (h : w.ownsRow B e z v n xs) : ∀ p, p < B → some p ≠ v.ownBlock :=
  fun p hp e => by have := own_base h e.symm; omega
theorem set356 {w : World} {b : Nat} {v0 v1 v2 v3 v4 v5 v6 x y z : Value} {T : TypeId} (h : Blk w b #[v0, v1, v2, v3, v4, v5, v6] T) : Blk (((w.setCell ⟨b, 3, none⟩ x).setCell ⟨b, 5, none⟩ y).setCell ⟨b, 6, none⟩ z) b #[v0, v1, v2, x, v4, y, z] T :=
  (((h.set 3 x).set 5 y).set 6 z).cast (by simp)
theorem take_more {D E : List Int} {k : Nat} {d : Int} (hk : k < D.length) (hd : d = D.getD k 0) (h : ∀ y ∈ D.take k, y ∈ E) : ∀ y ∈ D.take (k + 1), y ∈ E ++ [d] := by
  rw [take_succ_getD D k hk, ← hd]
  intro y hy
  rcases List.mem_append.1 hy with h' | h'
  · exact List.mem_append.2 (.inl (h y h'))
  · exact List.mem_append.2 (.inr h')
end Go.Proofs.Ytjikgoeinilnjaa
