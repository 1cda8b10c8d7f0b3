/- A problem with one want more: what lies in memory while it is built, in whatever order. -/
import Derived.Test.YtpcmppamkgkdlaaGV
namespace Go.Proofs.Ytpcmppamkgkdlaa
open Go.RowKit

theorem wpAnyH_inv0 {P : Program} {md : Region.Mode} {ops : Array Oper} {Q : Exit → Act → World → Prop} {S : World → Prop} (I : Act → Array Bool → Act → World → Prop) {fuel : Nat} {L0 : Array Bool} {a0 : Act} {w0 : World} (hl : lowB md ops = true)
    (hs : L0.size = ops.size) (hu : (unl L0 ops.size).ble fuel = true) (h0 : I a0 L0 a0 w0) (hS : ∀ L a w, I a0 L a w → S w)
    (step : ∀ L a w, I a0 L a w → ∀ i o, ops[i]? = some o → L.getD i true = false → L.size = ops.size → (∀ e ∈ o.after, Region.binds md e = true → L.getD e.on false = true) →
      ∀ K : Act → World → Prop, (∀ a' w', I a0 (L.setIfInBounds i true) a' w' → K a' w') → if Region.wanted o (yielded ops a.tmps) = true then Oper.wp P o a w K Q else K (a.put o.dst undef) w)
    (fin : ∀ L a w, I a0 L a w → L.size = ops.size → (∀ i, i < ops.size → L.getD i true = true) → Q .normal a w) : wpAnyH P md ops Q S fuel L0 a0 w0 :=
  wpAnyH_inv (I a0) hl hS step fin fuel L0 a0 w0 hs (Nat.le_of_ble_eq_true hu) h0
/-- The end of a statement, and nothing else. -/
def only (R : Act → World → Prop) (e : Exit) (a : Act) (w : World) : Prop := e = .normal ∧ R a w
theorem only_panic {R : Act → World → Prop} {c : List PanicEntry} {a a' : Act} {w w' : World} (h : only R (.panic c) a w) : only R (.panic c) a' w' := nomatch h.1
theorem wpAnyH_mono {P : Program} {md : Region.Mode} {ops : Array Oper} {Q Q' : Exit → Act → World → Prop} {S : World → Prop} (hp : ∀ c a w, Q' (.panic c) a w → Q (.panic c) a w) (ho : LetsOut Q' → LetsOut Q) (hn : ∀ a w, Q' .normal a w → Q .normal a w) :
    ∀ (fuel : Nat) (L : Array Bool) (a : Act) (w : World), wpAnyH P md ops Q' S fuel L a w → wpAnyH P md ops Q S fuel L a w := by
  intro fuel
  induction fuel with
  | zero => intro L a w h; exact ⟨h.1, hn _ _ h.2⟩
  | succ fuel ih =>
    intro L a w h
    refine ⟨fun e => hn _ _ (h.1 e), fun i hi => ?_⟩
    have hc := h.2 i hi
    have hK : ∀ a' w', (S w' ∧ wpAnyH P md ops Q' S fuel (L.setIfInBounds i true) a' w') → (S w' ∧ wpAnyH P md ops Q S fuel (L.setIfInBounds i true) a' w') := fun a' w' h' => ⟨h'.1, ih _ _ _ h'.2⟩
    unfold wpOp at hc ⊢
    split at hc
    · exact hK _ _ hc
    · split
      · rename_i hw
        rw [if_pos hw] at hc
        exact hc.imp (fun h' => Oper.wp_exits hp ho (Oper.wp_mono hK h')) (fun ⟨h', h''⟩ => ⟨h', ho h''⟩)
      · rename_i hw
        rw [if_neg hw] at hc
        exact hK _ _ hc
theorem wpAnyH_gen {P : Program} {md : Region.Mode} {ops : Array Oper} {Q : Exit → Act → World → Prop} {S : World → Prop} {F : Act → World → Prop} {fuel : Nat} {L : Array Bool} {a : Act} {w : World}
    (h : ∀ R : Act → World → Prop, (∀ a' w', F a' w' → R a' w') → wpAnyH P md ops (only R) S fuel L a w) (k : ∀ a' w', F a' w' → Q .normal a' w') : wpAnyH P md ops Q S fuel L a w :=
  wpAnyH_mono (fun _ _ _ h => nomatch h.1) (fun ⟨_, _, h⟩ => nomatch h.1) (fun _ _ h => h.2) fuel L a w (h (Q .normal) k)
/-- A statement whose order is open is shown apart from what follows. -/
theorem wpAnyH_genI {P : Program} {md : Region.Mode} {ops : Array Oper} {Q : Exit → Act → World → Prop} {S : World → Prop} (I : Act → Array Bool → Act → World → Prop) (n : Nat) {fuel : Nat} {L : Array Bool} {a : Act} {w : World} {a0 : Act}
    (take : ∀ R : Act → World → Prop, (∀ M a' w', I a0 M a' w' → (∀ j, j < n → M.getD j false = true) → R a' w') → wpAnyH P md ops (only R) S fuel L a w)
    (rest : ∀ M a' w', I a0 M a' w' → (∀ j, j < n → M.getD j false = true) → Q .normal a' w') : wpAnyH P md ops Q S fuel L a w :=
  wpAnyH_mono (fun _ _ _ h => nomatch h.1) (fun ⟨_, _, h⟩ => nomatch h.1) (fun _ _ h => h.2) fuel L a w (take (Q .normal) rest)
theorem lset {L : Array Bool} {i : Nat} (h : i < L.size) : (fun j => (L.setIfInBounds i true).getD j false) = fun j => decide (i = j) || L.getD j false := funext fun j => by
  by_cases e : i = j
  · subst e; simp [h]
  · rw [getD_set_ne false e]; simp [e]
def Q4 (w5 : World) (a1 : Value) (cs : Nat → Int) (n : Nat) (ys : List Value) (m1 m2 : Int) (x28 x36 x38 x39 x44 x11 : Value) (L : Nat → Bool) (W : World) : Prop :=
  ∃ r g q, AS w5 W 48 2 r g q ∧ (L 0 = false → r = none) ∧ (L 8 = true → L 0 = true) ∧ (L 11 = true → L 8 = true ∧ L 10 = true) ∧
    (L 0 = true → L 8 = false → ∃ b0, x28 = .slice (some ⟨b0, 0, none⟩) 0 0 ∧ r = some (x28, 0, [])) ∧
    (L 8 = true → L 11 = false → r = some (x36, n, ys)) ∧
    (L 11 = true → r = some (x39, n + 1, ys ++ [.int .u16 m1, .int .u16 m2])) ∧
    (L 10 = false → g = none) ∧ (L 10 = true → L 11 = false → ∃ b1, x38 = .slice (some ⟨b1, 0, none⟩) 1 1 ∧ g = some (b1, [.int .u16 m1, .int .u16 m2])) ∧
    (L 17 = false → q = none) ∧ (L 18 = true → L 17 = true) ∧ (L 17 = true → L 18 = false → ∃ b2 z, x11 = .pointer (some ⟨b2, 0, none⟩) ∧ z.size = 18 ∧ q = some (b2, z, 27)) ∧
    (L 18 = true → ∃ b2, x11 = .pointer (some ⟨b2, 0, none⟩) ∧ q = some (b2, qCells x39 a1 cs, 27)) ∧
    (L 16 = true → L 11 = true ∧ x44 = .agg (qCells x39 a1 cs)) ∧ (L 18 = true → L 16 = true)
section
variable {w5 W W' : World} {a1 : Value} {cs : Nat → Int} {n : Nat} {ys : List Value} {m1 m2 : Int} {x28 x36 x38 x39 x44 x11 : Value} {L : Nat → Bool}
theorem Q4.s0 (h : Q4 w5 a1 cs n ys m1 m2 x28 x36 x38 x39 x44 x11 L W) (h0 : L 0 = false) (hb : Below W.heap.size W W') {b0 : Nat} (hr : W'.ownsRow W.heap.size 48 2 (.slice (some ⟨b0, 0, none⟩) 0 0) 0 []) :
    Q4 w5 a1 cs n ys m1 m2 (.slice (some ⟨b0, 0, none⟩) 0 0) x36 x38 x39 x44 x11 (fun j => decide (0 = j) || L j) W' := by
  obtain ⟨r, g, q, hA, c1, c2, c3, c4, c5, c6, c7, c8, c9, c10, c11, c12, c13, c14⟩ := h
  have h8 : L 8 = false := by cases e : L 8 with
    | false => rfl
    | true => rw [c2 e] at h0; cases h0
  have h11 : L 11 = false := by cases e : L 11 with
    | false => rfl
    | true => rw [(c3 e).1] at h8; cases h8
  obtain rfl := c1 h0
  exact ⟨_, g, q, hA.row_new hb hr, by simp, by simp, by simpa using c3, fun _ _ => ⟨b0, rfl, rfl⟩, by simp [h8], by simp [h11], by simpa using c7, by simpa using c8, by simpa using c9, by simpa using c10, by simpa using c11, by simpa using c12, by simpa using c13, by simpa using c14⟩
theorem Q4.row8 (h : Q4 w5 a1 cs n ys m1 m2 x28 x36 x38 x39 x44 x11 L W) (h0 : L 0 = true) (h8 : L 8 = false) : ∃ b0, x28 = .slice (some ⟨b0, 0, none⟩) 0 0 ∧ W.ownsRow w5.heap.size 48 2 x28 0 [] ∧ Below w5.heap.size w5 W := by
  obtain ⟨r, g, q, hA, c1, c2, c3, c4, c5, c6, c7, c8, c9, c10, c11, c12, c13, c14⟩ := h
  obtain ⟨b0, e, rfl⟩ := c4 h0 h8
  exact ⟨b0, e, hA.row _ _ _ rfl, hA.bel⟩
theorem Q4.s8 (h : Q4 w5 a1 cs n ys m1 m2 x28 x36 x38 x39 x44 x11 L W) (h0 : L 0 = true) (h8 : L 8 = false) {v : Value} {n' : Nat} {ys' : List Value} (hr : W'.ownsRow w5.heap.size 48 2 v n' ys') (hn : n' = n) (hy : ys' = ys) (hg : W.grownBy W' x28.ownBlock) (hat : v.ownBlock = x28.ownBlock ∨ v.ownBlock = some W.heap.size) :
    Q4 w5 a1 cs n ys m1 m2 x28 v x38 x39 x44 x11 (fun j => decide (8 = j) || L j) W' := by
  obtain ⟨r, g, q, hA, c1, c2, c3, c4, c5, c6, c7, c8, c9, c10, c11, c12, c13, c14⟩ := h
  subst hn hy
  obtain ⟨b0, e, rfl⟩ := c4 h0 h8
  have h11 : L 11 = false := by cases e : L 11 with
    | false => rfl
    | true => rw [(c3 e).1] at h8; cases h8
  exact ⟨_, g, q, hA.app hr hg hat, by simp [h0], by simp [h0], by simp [h11], by simp, fun _ _ => rfl, by simp [h11], by simpa using c7, by simpa using c8, by simpa using c9, by simpa using c10, by simpa using c11, by simpa using c12, by simpa using c13, by simpa using c14⟩
theorem Q4.s10 (h : Q4 w5 a1 cs n ys m1 m2 x28 x36 x38 x39 x44 x11 L W) (h10 : L 10 = false) (hb : Below W.heap.size W W') {b1 : Nat} (h1 : W.heap.size ≤ b1) (h2 : b1 < W'.heap.size) (h3 : ∀ j u, [Value.int .u16 m1, .int .u16 m2][j]? = some u → W'.cell? ⟨b1, j, none⟩ = some u) :
    Q4 w5 a1 cs n ys m1 m2 x28 x36 (.slice (some ⟨b1, 0, none⟩) 1 1) x39 x44 x11 (fun j => decide (10 = j) || L j) W' := by
  obtain ⟨r, g, q, hA, c1, c2, c3, c4, c5, c6, c7, c8, c9, c10, c11, c12, c13, c14⟩ := h
  obtain rfl := c7 h10
  have h11 : L 11 = false := by cases e : L 11 with
    | false => rfl
    | true => rw [(c3 e).2] at h10; cases h10
  exact ⟨r, _, q, hA.one_new hb h1 h2 h3, by simpa using c1, by simpa using c2, by simp [h11], by simpa using c4, by simpa using c5, by simpa using c6, by simp, fun _ _ => ⟨b1, rfl, rfl⟩, by simpa using c9, by simpa using c10, by simpa using c11, by simpa using c12, by simpa using c13, by simpa using c14⟩
theorem Q4.row11 (h : Q4 w5 a1 cs n ys m1 m2 x28 x36 x38 x39 x44 x11 L W) (h8 : L 8 = true) (h10 : L 10 = true) (h11 : L 11 = false) : ∃ b1, x38 = .slice (some ⟨b1, 0, none⟩) 1 1 ∧ W.ownsRow w5.heap.size 48 2 x36 n ys ∧ (∀ j u, [Value.int .u16 m1, .int .u16 m2][j]? = some u → W.cell? ⟨b1, j, none⟩ = some u) ∧ Below w5.heap.size w5 W := by
  obtain ⟨r, g, q, hA, c1, c2, c3, c4, c5, c6, c7, c8, c9, c10, c11, c12, c13, c14⟩ := h
  obtain ⟨b1, e, rfl⟩ := c8 h10 h11
  obtain rfl := c5 h8 h11
  exact ⟨b1, e, hA.row _ _ _ rfl, (hA.one _ _ rfl).2.2, hA.bel⟩
theorem Q4.s11 (h : Q4 w5 a1 cs n ys m1 m2 x28 x36 x38 x39 x44 x11 L W) (h8 : L 8 = true) (h10 : L 10 = true) (h11 : L 11 = false) {v : Value} (hr : W'.ownsRow w5.heap.size 48 2 v (n + 1) (ys ++ [.int .u16 m1, .int .u16 m2])) (hg : W.grownBy W' x36.ownBlock) (hat : v.ownBlock = x36.ownBlock ∨ v.ownBlock = some W.heap.size) :
    Q4 w5 a1 cs n ys m1 m2 x28 x36 x38 v x44 x11 (fun j => decide (11 = j) || L j) W' := by
  obtain ⟨r, g, q, hA, c1, c2, c3, c4, c5, c6, c7, c8, c9, c10, c11, c12, c13, c14⟩ := h
  obtain rfl := c5 h8 h11
  have h16 : L 16 = false := by cases e : L 16 with
    | false => rfl
    | true => rw [(c13 e).1] at h11; cases h11
  have h18 : L 18 = false := by cases e : L 18 with
    | false => rfl
    | true => rw [c14 e] at h16; cases h16
  have h0 := c2 h8
  exact ⟨_, g, q, hA.app hr hg hat, by simp [h0], by simp [h0], by simp [h8, h10], by simp [h8], by simp, fun _ => rfl, by simp [h10], by simp, by simpa using c9, by simpa using c10, by simpa using c11, by simp [h18], by simp [h16], by simp [h18]⟩
theorem Q4.s16 (h : Q4 w5 a1 cs n ys m1 m2 x28 x36 x38 x39 x44 x11 L W) (h11 : L 11 = true) : Q4 w5 a1 cs n ys m1 m2 x28 x36 x38 x39 (.agg (qCells x39 a1 cs)) x11 (fun j => decide (16 = j) || L j) W := by
  obtain ⟨r, g, q, hA, c1, c2, c3, c4, c5, c6, c7, c8, c9, c10, c11, c12, c13, c14⟩ := h
  exact ⟨r, g, q, hA, by simpa using c1, by simpa using c2, by simpa using c3, by simpa using c4, by simpa using c5, by simpa using c6, by simpa using c7, by simpa using c8, by simpa using c9, by simpa using c10, by simpa using c11, by simpa using c12, by simp [h11], by simp⟩
theorem Q4.s17 (h : Q4 w5 a1 cs n ys m1 m2 x28 x36 x38 x39 x44 x11 L W) (h17 : L 17 = false) (hb : Below W.heap.size W W') {b2 : Nat} {z : Array Value} (h1 : W.heap.size ≤ b2) (h2 : Blk W' b2 z 27) (hz : z.size = 18) :
    Q4 w5 a1 cs n ys m1 m2 x28 x36 x38 x39 x44 (.pointer (some ⟨b2, 0, none⟩)) (fun j => decide (17 = j) || L j) W' := by
  obtain ⟨r, g, q, hA, c1, c2, c3, c4, c5, c6, c7, c8, c9, c10, c11, c12, c13, c14⟩ := h
  obtain rfl := c9 h17
  have h18 : L 18 = false := by cases e : L 18 with
    | false => rfl
    | true => rw [c10 e] at h17; cases h17
  exact ⟨r, g, _, hA.blk_new hb h1 h2, by simpa using c1, by simpa using c2, by simpa using c3, by simpa using c4, by simpa using c5, by simpa using c6, by simpa using c7, by simpa using c8, by simp, by simp, fun _ _ => ⟨b2, z, rfl, hz, rfl⟩, by simp [h18], by simpa using c13, by simpa using c14⟩
theorem Q4.blk18 (h : Q4 w5 a1 cs n ys m1 m2 x28 x36 x38 x39 x44 x11 L W) (h16 : L 16 = true) (h17 : L 17 = true) (h18 : L 18 = false) : ∃ b2 z, x11 = .pointer (some ⟨b2, 0, none⟩) ∧ z.size = 18 ∧ Blk W b2 z 27 ∧ x44 = .agg (qCells x39 a1 cs) := by
  obtain ⟨r, g, q, hA, c1, c2, c3, c4, c5, c6, c7, c8, c9, c10, c11, c12, c13, c14⟩ := h
  obtain ⟨b2, z, e1, e2, rfl⟩ := c11 h17 h18
  exact ⟨b2, z, e1, e2, (hA.blk _ _ _ rfl).2, (c13 h16).2⟩
theorem Q4.s18 (h : Q4 w5 a1 cs n ys m1 m2 x28 x36 x38 x39 x44 x11 L W) (h16 : L 16 = true) (h17 : L 17 = true) (h18 : L 18 = false) {b2 : Nat} (hx : x11 = .pointer (some ⟨b2, 0, none⟩)) (ht : Tn (fun b => b = b2) W W') (hB : Blk W' b2 (qCells x39 a1 cs) 27) :
    Q4 w5 a1 cs n ys m1 m2 x28 x36 x38 x39 x44 x11 (fun j => decide (18 = j) || L j) W' := by
  obtain ⟨r, g, q, hA, c1, c2, c3, c4, c5, c6, c7, c8, c9, c10, c11, c12, c13, c14⟩ := h
  obtain ⟨b2', z, e1, e2, rfl⟩ := c11 h17 h18
  obtain rfl : b2 = b2' := by rw [hx] at e1; injection e1 with e1; injection e1 with e1; injection e1 with e1
  obtain ⟨hq1, hq2⟩ := hA.blk _ _ _ rfl
  have h11 := (c13 h16).1
  obtain rfl := c6 h11
  have hd := hA.d2 _ _ _ _ _ _ rfl rfl
  have hA' : AS w5 W' 48 2 (some (x39, n + 1, ys ++ [.int .u16 m1, .int .u16 m2])) none (some (b2, qCells x39 a1 cs, 27)) := by
    refine ⟨hA.bel.trans (ht.below hA.bel.size fun b e => by omega), fun v n' xs e => ?_, nofun, fun b c T e => ?_, nofun, fun v n' xs b c T e e' => ?_⟩
    · injection e with e; injection e with e3 e; injection e with e4 e5; subst e3 e4 e5
      exact ht.row (hA.row _ _ _ rfl) fun b hb e => hd (by rw [hb, e])
    · injection e with e; injection e with e3 e; injection e with e4 e5; subst e3 e4 e5
      exact ⟨hq1, hB⟩
    · injection e with e; injection e with e3 _; subst e3
      injection e' with e'; injection e' with e4 _; subst e4
      exact hd
  obtain ⟨k8, k10⟩ := c3 h11
  exact ⟨_, none, _, hA', by simp [c2 k8], by simp [c2 k8], by simp [k8, k10], by simp [k8], by simp [h11], fun _ => rfl, by simp [k10], by simp [h11], by simp [h17], by simp [h17], by simp, fun _ => ⟨b2, hx, rfl⟩, by simpa using c13, by simp [h16]⟩
theorem Q4.done (h : Q4 w5 a1 cs n ys m1 m2 x28 x36 x38 x39 x44 x11 L W) (h11 : L 11 = true) (h18 : L 18 = true) : ∃ b2, x11 = .pointer (some ⟨b2, 0, none⟩) ∧ W.ownsRow w5.heap.size 48 2 x39 (n + 1) (ys ++ [.int .u16 m1, .int .u16 m2]) ∧ Blk W b2 (qCells x39 a1 cs) 27 ∧ Below w5.heap.size w5 W := by
  obtain ⟨r, g, q, hA, c1, c2, c3, c4, c5, c6, c7, c8, c9, c10, c11, c12, c13, c14⟩ := h
  obtain rfl := c6 h11
  obtain ⟨b2, e, rfl⟩ := c12 h18
  exact ⟨b2, e, hA.row _ _ _ rfl, (hA.blk _ _ _ rfl).2, hA.bel⟩
theorem Q4.bel (h : Q4 w5 a1 cs n ys m1 m2 x28 x36 x38 x39 x44 x11 L W) : Below w5.heap.size w5 W := let ⟨_, _, _, hA, _⟩ := h; hA.bel
end
end Go.Proofs.Ytpcmppamkgkdlaa
