/- A row that grows, one element that waits, and a further block: what a statement with two appends and a struct that is built holds in memory, whatever its order. -/
import Derived.Test.YtpcmppamkgkdlaaIv
import Derived.Test.YtpcmppamkgkdlaaVQ
namespace Go.Proofs.Ytpcmppamkgkdlaa
open Go.RowKit

/-- An append to a row of one's own. -/
theorem wp_append_any {P : Program} {W : World} {o : Oper} {a : Act} {K : Act → World → Prop} {Q : Exit → Act → World → Prop} (s x : Operand) (t : TypeId)
    (ho : o.op = .call { callee := .builtin .append, args := #[s, x], argTypes := #[t, t] })
    (base : Nat) (e : TypeId) (i : TypeInfo) (z : Value) (size bytes : Nat) (ht : P.underlying t = some (.slice e)) (hi : P.info? e = some i) (hz : i.zero = some z)
    (hsize : i.size = size) (hby : i.bytes = bytes) (hzs : z.cells.size = size) (hsz : 0 < size)
    (v : Value) (n : Nat) (xs : List Value) (hs : a.eval s = v) (hown : W.ownsRow base e size v n xs)
    (m : Nat) (ys : List Value) (y : Value) (hx : a.eval x = y) (hy : (y = .slice none 0 0 ∧ m = 0 ∧ ys = []) ∨ ∃ ad c, y = .slice (some ad) m c ∧ ys.length = m * size ∧ ∀ j u, ys[j]? = some u → W.cell? (ad.add j) = some u) (h1 : ∀ u ∈ ys, u.oneCell' = true)
    (h63 : n + m ≤ maxLen) (hbytes : (n + m) * bytes ≤ 140737488355328) (hbase : base ≤ W.heap.size)
    (h : ∀ v' w', w'.ownsRow base e size v' (n + m) (xs ++ ys) → W.grownBy w' v.ownBlock → (v'.ownBlock = v.ownBlock ∨ v'.ownBlock = some W.heap.size) → K (a.put o.dst v') w') :
    Oper.wp P o a W K Q := by
  rcases hy with ⟨rfl, rfl, rfl⟩ | ⟨ad, c, rfl, hl, hc⟩
  · have hrun := run_append_owned_none (P := P) (w := W) base t o.type e i size ht hi v n xs hown
    unfold Oper.wp
    simp [execOp, ho, resolve, invoke, builtin, hs, hx, hrun, Result.andThen]
    exact h _ _ (by simpa using hown) (World.grownBy.refl W _) (.inl rfl)
  · obtain ⟨v', w', hr, h2, h3, h4, h5⟩ := run_append_own_at (P := P) W base t o.type e i z size bytes ht hi hz hsize hby hzs hsz v n xs hown ad m c ys hl hc h1 h63 hbytes hbase
    unfold Oper.wp execOp
    simp only [ho, resolve, invoke, builtin, Sem.run_bind, Sem.run_pure, Result.andThen_ok, List.map_toArray, List.map_cons, List.map_nil, hs, hx, hr]
    exact h v' w' h2 h3 h5
theorem row_mono {w : World} {B B' : Nat} {e : TypeId} {z n : Nat} {v : Value} {xs : List Value} (h : w.ownsRow B e z v n xs) (hB : B' ≤ B) : w.ownsRow B' e z v n xs := by
  obtain ⟨h0, h1 | ⟨g, c, cur, q1, q2, q3⟩⟩ := h
  · exact ⟨h0, .inl h1⟩
  · exact ⟨h0, .inr ⟨g, c, cur, q1, by omega, q3⟩⟩
structure AS (W0 W : World) (e : TypeId) (sz : Nat) (r : Option (Value × Nat × List Value)) (g : Option (Nat × List Value)) (q : Option (Nat × Array Value × TypeId)) : Prop where
  bel : Below W0.heap.size W0 W
  row : ∀ v n xs, r = some (v, n, xs) → W.ownsRow W0.heap.size e sz v n xs
  one : ∀ b c, g = some (b, c) → W0.heap.size ≤ b ∧ b < W.heap.size ∧ ∀ j u, c[j]? = some u → W.cell? ⟨b, j, none⟩ = some u
  blk : ∀ b c T, q = some (b, c, T) → W0.heap.size ≤ b ∧ Blk W b c T
  d1 : ∀ v n xs b c, r = some (v, n, xs) → g = some (b, c) → v.ownBlock ≠ some b
  d2 : ∀ v n xs b c T, r = some (v, n, xs) → q = some (b, c, T) → v.ownBlock ≠ some b
namespace AS
variable {W0 W W' : World} {e : TypeId} {sz : Nat} {r : Option (Value × Nat × List Value)} {g : Option (Nat × List Value)} {q : Option (Nat × Array Value × TypeId)}
theorem start (W0 : World) (h : Below W0.heap.size W0 W) : AS W0 W e sz none none none := ⟨h, nofun, nofun, nofun, nofun, nofun⟩
theorem up (h : AS W0 W e sz r g q) (hb : Below W.heap.size W W') : AS W0 W' e sz r g q :=
  have t : Tn (fun _ => False) W W' := Tn.of_below hb
  ⟨h.bel.trans (hb.mono h.bel.size), fun v n xs e => t.row (h.row v n xs e) fun _ _ => id, fun b c e => let ⟨h1, h2, h3⟩ := h.one b c e; ⟨h1, by have := hb.size; omega, fun j u hj => Below.cellE hb (h3 j u hj)⟩,
    fun b c T e => let ⟨h1, h2⟩ := h.blk b c T e; ⟨h1, h2.below hb h2.lt⟩, h.d1, h.d2⟩
theorem row_new (h : AS W0 W e sz none g q) (hb : Below W.heap.size W W') {v : Value} {n : Nat} {xs : List Value} (hr : W'.ownsRow W.heap.size e sz v n xs) : AS W0 W' e sz (some (v, n, xs)) g q := by
  have u := h.up hb
  refine ⟨u.bel, fun v' n' xs' e => ?_, u.one, u.blk, fun v' n' xs' b c e eg hv => ?_, fun v' n' xs' b c T e eq hv => ?_⟩
  · injection e with e; injection e with e1 e; injection e with e2 e3; subst e1 e2 e3
    exact row_mono hr h.bel.size
  · injection e with e; injection e with e1 e; subst e1
    have := (row_lt hr b hv).1
    have := (h.one b c eg).2.1
    omega
  · injection e with e; injection e with e1 e; subst e1
    have := (row_lt hr b hv).1
    have := (h.blk b c T eq).2.lt
    omega
theorem one_new (h : AS W0 W e sz r none q) (hb : Below W.heap.size W W') {b : Nat} {c : List Value} (h1 : W.heap.size ≤ b) (h2 : b < W'.heap.size) (h3 : ∀ j u, c[j]? = some u → W'.cell? ⟨b, j, none⟩ = some u) : AS W0 W' e sz r (some (b, c)) q := by
  have u := h.up hb
  refine ⟨u.bel, u.row, fun b' c' e => ?_, u.blk, fun v n xs b' c' er e hv => ?_, u.d2⟩
  · injection e with e; injection e with e1 e2; subst e1 e2
    exact ⟨by have := h.bel.size; omega, h2, h3⟩
  · injection e with e; injection e with e1 e2; subst e1
    have := (row_lt (h.row v n xs er) b hv).2
    omega
theorem blk_new (h : AS W0 W e sz r g none) (hb : Below W.heap.size W W') {b : Nat} {c : Array Value} {T : TypeId} (h1 : W.heap.size ≤ b) (h2 : Blk W' b c T) : AS W0 W' e sz r g (some (b, c, T)) := by
  have u := h.up hb
  refine ⟨u.bel, u.row, u.one, fun b' c' T' e => ?_, u.d1, fun v n xs b' c' T' er e hv => ?_⟩
  · injection e with e; injection e with e1 e; injection e with e2 e3; subst e1 e2 e3
    exact ⟨by have := h.bel.size; omega, h2⟩
  · injection e with e; injection e with e1 e2; subst e1
    have := (row_lt (h.row v n xs er) b hv).2
    omega
theorem no_one (h : AS W0 W e sz r g q) : AS W0 W e sz r none q := ⟨h.bel, h.row, nofun, h.blk, nofun, h.d2⟩
theorem app {v v' : Value} {n n' : Nat} {xs xs' : List Value} (h : AS W0 W e sz (some (v, n, xs)) g q) (hr : W'.ownsRow W0.heap.size e sz v' n' xs') (hg : W.grownBy W' v.ownBlock) (hat : v'.ownBlock = v.ownBlock ∨ v'.ownBlock = some W.heap.size) : AS W0 W' e sz (some (v', n', xs')) g q := by
  have hv := h.row v n xs rfl
  have t : Tn (fun b => v.ownBlock = some b) W W' := Tn.of_grown hg
  have hb : Below W0.heap.size W W' := t.below h.bel.size fun b e => (row_lt hv b e).1
  refine ⟨h.bel.trans hb, fun v1 n1 xs1 e => ?_, fun b c e => ?_, fun b c T e => ?_, fun v1 n1 xs1 b c e eg hv1 => ?_, fun v1 n1 xs1 b c T e eq hv1 => ?_⟩
  · injection e with e; injection e with e1 e; injection e with e2 e3; subst e1 e2 e3; exact hr
  · obtain ⟨h1, h2, h3⟩ := h.one b c e
    exact ⟨h1, by have := hb.size; omega, fun j u hj => t.cell (h3 j u hj) (h.d1 v n xs b c rfl e)⟩
  · obtain ⟨h1, h2⟩ := h.blk b c T e
    exact ⟨h1, t.blk h2 (h.d2 v n xs b c T rfl e)⟩
  · injection e with e; injection e with e1 e2; subst e1
    rcases hat with h1 | h1
    · rw [h1] at hv1; exact h.d1 v n xs b c rfl eg hv1
    · rw [h1] at hv1; injection hv1 with hv1; have := (h.one b c eg).2.1; omega
  · injection e with e; injection e with e1 e2; subst e1
    rcases hat with h1 | h1
    · rw [h1] at hv1; exact h.d2 v n xs b c T rfl eq hv1
    · rw [h1] at hv1; injection hv1 with hv1; have := (h.blk b c T eq).2.lt; omega
end AS
end Go.Proofs.Ytpcmppamkgkdlaa
