/- One copy more, and the costs: what lies in memory while they are built, in whatever order. -/
import Derived.Test.YtpcmppamkgkdlaaGX
import Derived.Test.YtpcmppamkgkdlaaUA
namespace Go.Proofs.Ytpcmppamkgkdlaa
open Go.RowKit

theorem run_append_none_c {P : Program} {w : World} (base : Nat) (t ty e : TypeId) (i : TypeInfo) (size : Nat) (ht : P.underlying t = some (.slice e)) (hi : P.info? e = some i)
    (v : Value) (n : Nat) (xs : List Value) (hown : w.ownsRow base e size v n xs) (c : Nat) :
    (Builtin.append_ #[t, t] ty #[v, .slice none 0 c]).run P w = .ok v w := by
  rcases hown.2 with ⟨rfl, rfl⟩ | ⟨g, cap, cur, rfl, _, _, hnc, _⟩
  · simp [Builtin.append_, run_underlying ht, sizeOf, typeInfo, hi, Builtin.lenOf, Builtin.firstCells]
  · simp [Builtin.append_, run_underlying ht, sizeOf, typeInfo, hi, Builtin.lenOf, Builtin.firstCells, hnc, storeCells]
/-- An append to a row of one's own, whatever comes. -/
theorem wp_append_all {P : Program} {W : World} {o : Oper} {a : Act} {K : Act → World → Prop} {Q : Exit → Act → World → Prop} (s x : Operand) (t : TypeId)
    (ho : o.op = .call { callee := .builtin .append, args := #[s, x], argTypes := #[t, t] })
    (base : Nat) (e : TypeId) (i : TypeInfo) (z : Value) (size bytes : Nat) (ht : P.underlying t = some (.slice e)) (hi : P.info? e = some i) (hz : i.zero = some z)
    (hsize : i.size = size) (hby : i.bytes = bytes) (hzs : z.cells.size = size) (hsz : 0 < size)
    (v : Value) (n : Nat) (xs : List Value) (hs : a.eval s = v) (hown : W.ownsRow base e size v n xs)
    (m : Nat) (ys : List Value) (y : Value) (hx : a.eval x = y) (hy : (∃ c, y = .slice none 0 c ∧ m = 0 ∧ ys = []) ∨ ∃ ad c, y = .slice (some ad) m c ∧ ys.length = m * size ∧ ∀ j u, ys[j]? = some u → W.cell? (ad.add j) = some u) (h1 : ∀ u ∈ ys, u.oneCell' = true)
    (h63 : n + m ≤ maxLen) (hbytes : (n + m) * bytes ≤ 140737488355328) (hbase : base ≤ W.heap.size)
    (h : ∀ v' w', w'.ownsRow base e size v' (n + m) (xs ++ ys) → W.grownBy w' v.ownBlock → (v'.ownBlock = v.ownBlock ∨ v'.ownBlock = some W.heap.size) → K (a.put o.dst v') w') :
    Oper.wp P o a W K Q := by
  rcases hy with ⟨c, rfl, rfl, rfl⟩ | ⟨ad, c, rfl, hl, hc⟩
  · have hrun := run_append_none_c (P := P) (w := W) base t o.type e i size ht hi v n xs hown c
    unfold Oper.wp
    simp [execOp, ho, resolve, invoke, builtin, hs, hx, hrun, Result.andThen]
    exact h _ _ (by simpa using hown) (World.grownBy.refl W _) (.inl rfl)
  · obtain ⟨v', w', hr, h2, h3, h4, h5⟩ := run_append_own_at (P := P) W base t o.type e i z size bytes ht hi hz hsize hby hzs hsz v n xs hown ad m c ys hl hc h1 h63 hbytes hbase
    unfold Oper.wp execOp
    simp only [ho, resolve, invoke, builtin, Sem.run_bind, Sem.run_pure, Result.andThen_ok, List.map_toArray, List.map_cons, List.map_nil, hs, hx, hr]
    exact h v' w' h2 h3 h5
theorem ownsRow_low {w : World} {B B' : Nat} {e : TypeId} {z n : Nat} {v : Value} {xs : List Value} (h : w.ownsRow B e z v n xs) (hB : B' ≤ B) : w.ownsRow B' e z v n xs := row_mono h hB
/-- The costs lie apart from blocks F. -/
def CI (W : World) (F : Nat → Prop) (cs : Nat → Int) (x : Value) : Prop :=
  ∃ us, W.ownsRow 0 30 1 x (costsM cs).length us ∧ (∀ b, x.ownBlock = some b → ¬ F b) ∧ ∀ j, j < (costsM cs).length → ∃ u, us[j]? = some u ∧ IntsIn W (fun b => ¬ F b) u ((costsM cs).getD j [])
theorem CI.of {W1 W : World} {F : Nat → Prop} {cs : Nat → Int} {x : Value} {us : List Value} (h : RB W1 W x us (costsM cs)) (hF : ∀ b, F b → b < W1.heap.size) : CI W F cs x :=
  ⟨us, row_mono h.row (Nat.zero_le _), fun b hb hf => by have := (row_lt h.row b hb).1; have := hF b hf; omega, fun j hj => by
    obtain ⟨u, h1, h2⟩ := h.el j hj
    exact ⟨u, h1, h2.keep (Tn.refl (fun _ => False) W) (fun _ _ _ => id) fun b ⟨hb, _⟩ _ hf => by have := hF b hf; omega⟩⟩
theorem CI.keep {W W' : World} {F F' : Nat → Prop} {cs : Nat → Int} {x : Value} (h : CI W F cs x) (t : Tn F W W') (hF : ∀ b, F' b → F b ∨ W.heap.size ≤ b) : CI W' F' cs x := by
  obtain ⟨us, h1, h2, h3⟩ := h
  refine ⟨us, t.row h1 h2, fun b hb hf => ?_, fun j hj => ?_⟩
  · rcases hF b hf with hh | hh
    · exact h2 b hb hh
    · have := (row_lt h1 b hb).2; omega
  · obtain ⟨u, q1, q2⟩ := h3 j hj
    exact ⟨u, q1, q2.keep t (fun _ hb _ => hb) fun b hb hlt hf => (hF b hf).elim hb (by omega)⟩
theorem CI.done {W : World} {F : Nat → Prop} {cs : Nat → Int} {x : Value} (h : CI W F cs x) : Rows2 W W.heap.size x (costsM cs) := by
  obtain ⟨us, h1, h2, h3⟩ := h
  obtain ⟨a, cap, e, h0⟩ := row_cell h1
  refine ⟨a, cap, e, ?_⟩
  rcases h0 with h0 | ⟨g, rfl, _, hc⟩
  · exact .inl (List.eq_nil_of_length_eq_zero h0)
  · refine .inr ⟨g, 0, rfl, ?_, fun j hj => ?_⟩
    · obtain ⟨u, hu, _⟩ := h3 0 (by simp [costsM, costsU])
      exact cell_lt (hc 0 u hu)
    · obtain ⟨u, hu, hI⟩ := h3 j hj
      exact ⟨u, by rw [Nat.zero_add]; exact hc j u hu, hI.ints fun b _ hb => hb⟩
def rB (r : Option (Value × Nat × List Value)) (b : Nat) : Prop := ∃ v n xs, r = some (v, n, xs) ∧ v.ownBlock = some b
theorem rB_none {b : Nat} (h : rB none b) : False := let ⟨_, _, _, e, _⟩ := h; nomatch e
def Q5 (w9 : World) (n : Nat) (ys : List Value) (bv : Int) (cs : Nat → Int) (x56 x58 x62 x63 x65 : Value) (L : Nat → Bool) (W : World) : Prop :=
  ∃ r g, AS w9 W 3 1 r g none ∧ (L 1 = false → r = none) ∧ (L 3 = true → L 1 = true) ∧ (L 8 = true → L 3 = true ∧ L 7 = true) ∧
    (L 1 = true → L 3 = false → ∃ b0, x56 = .slice (some ⟨b0, 0, none⟩) 0 0 ∧ r = some (x56, 0, [])) ∧
    (L 3 = true → L 8 = false → r = some (x58, n, ys)) ∧
    (L 8 = true → r = some (x63, n + 1, ys ++ [.int .i64 bv])) ∧
    (L 7 = false → g = none) ∧ (L 7 = true → L 8 = false → ∃ b1, x62 = .slice (some ⟨b1, 0, none⟩) 1 1 ∧ g = some (b1, [.int .i64 bv])) ∧
    (L 10 = true → CI W (rB r) cs x65)
section
variable {w9 W W' : World} {n : Nat} {ys : List Value} {bv : Int} {cs : Nat → Int} {x56 x58 x62 x63 x65 : Value} {L : Nat → Bool}
theorem Q5.bel (h : Q5 w9 n ys bv cs x56 x58 x62 x63 x65 L W) : Below w9.heap.size w9 W := let ⟨_, _, hA, _⟩ := h; hA.bel
theorem Q5.start (h : Below w9.heap.size w9 W) (h1 : L 1 = false) (h3 : L 3 = false) (h7 : L 7 = false) (h8 : L 8 = false) (h10 : L 10 = false) : Q5 w9 n ys bv cs x56 x58 x62 x63 x65 L W :=
  ⟨none, none, AS.start w9 h, fun _ => rfl, by simp [h3], by simp [h8], by simp [h1], by simp [h3], by simp [h8], fun _ => rfl, by simp [h7], by simp [h10]⟩
theorem Q5.s1 (h : Q5 w9 n ys bv cs x56 x58 x62 x63 x65 L W) (h1 : L 1 = false) (hb : Below W.heap.size W W') {b0 : Nat} (hr : W'.ownsRow W.heap.size 3 1 (.slice (some ⟨b0, 0, none⟩) 0 0) 0 []) :
    Q5 w9 n ys bv cs (.slice (some ⟨b0, 0, none⟩) 0 0) x58 x62 x63 x65 (fun j => decide (1 = j) || L j) W' := by
  obtain ⟨r, g, hA, c1, c2, c3, c4, c5, c6, c7, c8, c9⟩ := h
  have h3 : L 3 = false := by cases e : L 3 with
    | false => rfl
    | true => rw [c2 e] at h1; cases h1
  have h8 : L 8 = false := by cases e : L 8 with
    | false => rfl
    | true => rw [(c3 e).1] at h3; cases h3
  obtain rfl := c1 h1
  refine ⟨_, g, hA.row_new hb hr, by simp, by simp, by simpa using c3, fun _ _ => ⟨b0, rfl, rfl⟩, by simp [h3], by simp [h8], by simpa using c7, by simpa using c8, fun h10 => ?_⟩
  refine (c9 (by simpa using h10)).keep ((Tn.of_below hb).mono fun b hb' => hb') fun b ⟨v, n', xs, e, hv⟩ => .inr ?_
  injection e with e; injection e with e1 e; subst e1
  exact (row_lt hr b hv).1
theorem Q5.row3 (h : Q5 w9 n ys bv cs x56 x58 x62 x63 x65 L W) (h1 : L 1 = true) (h3 : L 3 = false) : ∃ b0, x56 = .slice (some ⟨b0, 0, none⟩) 0 0 ∧ W.ownsRow w9.heap.size 3 1 x56 0 [] ∧ Below w9.heap.size w9 W := by
  obtain ⟨r, g, hA, c1, c2, c3, c4, c5, c6, c7, c8, c9⟩ := h
  obtain ⟨b0, e, rfl⟩ := c4 h1 h3
  exact ⟨b0, e, hA.row _ _ _ rfl, hA.bel⟩
theorem ci_app {v v' : Value} {n n' : Nat} {xs xs' : List Value} (h : CI W (rB (some (v, n, xs))) cs x65) (hg : W.grownBy W' v.ownBlock) (hat : v'.ownBlock = v.ownBlock ∨ v'.ownBlock = some W.heap.size) : CI W' (rB (some (v', n', xs'))) cs x65 := by
  refine h.keep ((Tn.of_grown hg).mono fun b hb => ⟨v, n, xs, rfl, hb⟩) fun b ⟨v1, n1, xs1, e, hv⟩ => ?_
  injection e with e; injection e with e1 e; subst e1
  rcases hat with hh | hh
  · exact .inl ⟨v, n, xs, rfl, by rw [← hh]; exact hv⟩
  · rw [hh] at hv; injection hv with hv; exact .inr (by omega)
theorem Q5.s3 (h : Q5 w9 n ys bv cs x56 x58 x62 x63 x65 L W) (h1 : L 1 = true) (h3 : L 3 = false) {v : Value} {n' : Nat} {ys' : List Value} (hr : W'.ownsRow w9.heap.size 3 1 v n' ys') (hn : n' = n) (hy : ys' = ys) (hg : W.grownBy W' x56.ownBlock) (hat : v.ownBlock = x56.ownBlock ∨ v.ownBlock = some W.heap.size) :
    Q5 w9 n ys bv cs x56 v x62 x63 x65 (fun j => decide (3 = j) || L j) W' := by
  obtain ⟨r, g, hA, c1, c2, c3, c4, c5, c6, c7, c8, c9⟩ := h
  subst hn hy
  obtain ⟨b0, e, rfl⟩ := c4 h1 h3
  have h8 : L 8 = false := by cases e : L 8 with
    | false => rfl
    | true => rw [(c3 e).1] at h3; cases h3
  exact ⟨_, g, hA.app hr hg hat, by simp [h1], by simp [h1], by simp [h8], by simp, fun _ _ => rfl, by simp [h8], by simpa using c7, by simpa using c8, fun h10 => ci_app (c9 (by simpa using h10)) hg hat⟩
theorem Q5.s7 (h : Q5 w9 n ys bv cs x56 x58 x62 x63 x65 L W) (h7 : L 7 = false) (hb : Below W.heap.size W W') {b1 : Nat} (q1 : W.heap.size ≤ b1) (q2 : b1 < W'.heap.size) (q3 : ∀ j u, [Value.int .i64 bv][j]? = some u → W'.cell? ⟨b1, j, none⟩ = some u) :
    Q5 w9 n ys bv cs x56 x58 (.slice (some ⟨b1, 0, none⟩) 1 1) x63 x65 (fun j => decide (7 = j) || L j) W' := by
  obtain ⟨r, g, hA, c1, c2, c3, c4, c5, c6, c7, c8, c9⟩ := h
  obtain rfl := c7 h7
  have h8 : L 8 = false := by cases e : L 8 with
    | false => rfl
    | true => rw [(c3 e).2] at h7; cases h7
  exact ⟨r, _, hA.one_new hb q1 q2 q3, by simpa using c1, by simpa using c2, by simp [h8], by simpa using c4, by simpa using c5, by simp [h8], by simp, fun _ _ => ⟨b1, rfl, rfl⟩, fun h10 => (c9 (by simpa using h10)).keep (Tn.of_below hb) fun b hb' => .inl hb'⟩
theorem Q5.row8 (h : Q5 w9 n ys bv cs x56 x58 x62 x63 x65 L W) (h3 : L 3 = true) (h7 : L 7 = true) (h8 : L 8 = false) : ∃ b1, x62 = .slice (some ⟨b1, 0, none⟩) 1 1 ∧ W.ownsRow w9.heap.size 3 1 x58 n ys ∧ (∀ j u, [Value.int .i64 bv][j]? = some u → W.cell? ⟨b1, j, none⟩ = some u) ∧ Below w9.heap.size w9 W := by
  obtain ⟨r, g, hA, c1, c2, c3, c4, c5, c6, c7, c8, c9⟩ := h
  obtain ⟨b1, e, rfl⟩ := c8 h7 h8
  obtain rfl := c5 h3 h8
  exact ⟨b1, e, hA.row _ _ _ rfl, (hA.one _ _ rfl).2.2, hA.bel⟩
theorem Q5.s8 (h : Q5 w9 n ys bv cs x56 x58 x62 x63 x65 L W) (h3 : L 3 = true) (h7 : L 7 = true) (h8 : L 8 = false) {v : Value} (hr : W'.ownsRow w9.heap.size 3 1 v (n + 1) (ys ++ [.int .i64 bv])) (hg : W.grownBy W' x58.ownBlock) (hat : v.ownBlock = x58.ownBlock ∨ v.ownBlock = some W.heap.size) :
    Q5 w9 n ys bv cs x56 x58 x62 v x65 (fun j => decide (8 = j) || L j) W' := by
  obtain ⟨r, g, hA, c1, c2, c3, c4, c5, c6, c7, c8, c9⟩ := h
  obtain rfl := c5 h3 h8
  have h1 := c2 h3
  exact ⟨_, g, hA.app hr hg hat, by simp [h1], by simp [h1], by simp [h3, h7], by simp [h3], by simp, fun _ => rfl, by simp [h7], by simp, fun h10 => ci_app (c9 (by simpa using h10)) hg hat⟩
theorem Q5.s10 (h : Q5 w9 n ys bv cs x56 x58 x62 x63 x65 L W) {W1 : World} {v : Value} {us : List Value} (hb : Below W.heap.size W W') (hs : W.heap.size ≤ W1.heap.size) (hR : RB W1 W' v us (costsM cs)) :
    Q5 w9 n ys bv cs x56 x58 x62 x63 v (fun j => decide (10 = j) || L j) W' := by
  obtain ⟨r, g, hA, c1, c2, c3, c4, c5, c6, c7, c8, c9⟩ := h
  exact ⟨r, g, hA.up hb, by simpa using c1, by simpa using c2, by simpa using c3, by simpa using c4, by simpa using c5, by simpa using c6, by simpa using c7, by simpa using c8, fun _ => CI.of hR fun b ⟨v', n', xs, e, hv⟩ => by
    have := (row_lt (hA.row v' n' xs e) b hv).2; omega⟩
theorem Q5.done (h : Q5 w9 n ys bv cs x56 x58 x62 x63 x65 L W) (h8 : L 8 = true) (h10 : L 10 = true) : W.ownsRow w9.heap.size 3 1 x63 (n + 1) (ys ++ [.int .i64 bv]) ∧ Rows2 W W.heap.size x65 (costsM cs) ∧ Below w9.heap.size w9 W := by
  obtain ⟨r, g, hA, c1, c2, c3, c4, c5, c6, c7, c8, c9⟩ := h
  obtain rfl := c6 h8
  exact ⟨hA.row _ _ _ rfl, (c9 h10).done, hA.bel⟩
end
end Go.Proofs.Ytpcmppamkgkdlaa
