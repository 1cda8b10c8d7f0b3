/- Problems given by numbers: what Lists makes. -/
import Derived.Test.YtpcmppamkgkdlaaUA
import Derived.Laws.BitsAllLaws
import Derived.Laws.AppendOwnNone
namespace Go.Proofs.Ytpcmppamkgkdlaa
open Go.RowKit

def bitB (y : Int) (c : Nat) : Bool := decide (y / 2 ^ c % 2 = 1)
def bitsU (y : Int) (n : Nat) : List Int := ((List.range n).filter (bitB y)).map fun c : Nat => (c : Int)
theorem bitsU_yes {y : Int} {n : Nat} (h : bitB y n = true) : bitsU y (n + 1) = bitsU y n ++ [(n : Int)] := by simp [bitsU, List.range_succ, List.filter_append, h]
theorem bitsU_no {y : Int} {n : Nat} (h : bitB y n = false) : bitsU y (n + 1) = bitsU y n := by simp [bitsU, List.range_succ, List.filter_append, h]
theorem bitsU_len (y : Int) (n : Nat) : (bitsU y n).length ≤ n := by
  have := List.length_filter_le (bitB y) (List.range n)
  simpa [bitsU] using this
def copU (x y : Int) : List Int := if x % 16 = 7 then bitsU y 16 ++ bitsU y 16 ++ [-1, 99] else bitsU y 16
def wantU (q : Int × Int) : Wt := (q.1 % 4, copU q.1 q.2)
def wantsL (wl : List (Int × Int)) (m : Nat) : List Wt := (wl.take m).map wantU
def atL (al : List Int) (m : Nat) : List Int := (al.take m).map fun x => x % 4
theorem and_bit {y : Int} (h0 : 0 ≤ y) (h1 : y < 65536) (c : Nat) : bits .and .u16 (y / 2 ^ c) 1 = y / 2 ^ c % 2 := by
  have hp : (0 : Int) < 2 ^ c := Int.pow_pos (by omega)
  have g0 : 0 ≤ y / 2 ^ c := Int.ediv_nonneg h0 (Int.le_of_lt hp)
  have g1 : y / 2 ^ c ≤ y := Int.ediv_le_self _ h0
  rw [u16_and _ _ g0 (by omega) (by omega) (by omega)]
  show (((y / 2 ^ c).toNat &&& 1 : Nat) : Int) = _
  rw [Nat.and_one_is_mod]
  omega
/-- The numbers of a problem in memory. -/
structure PrIn (w : World) (B : Nat) (cells : Array Value) (wl : List (Int × Int)) (al : List Int) (cs : Nat → Int) : Prop where
  c0 : ∃ a cap, cells[0]? = some (.slice a wl.length cap) ∧ (wl = [] ∨ ∃ b o, a = some ⟨b, o, none⟩ ∧ b < B ∧ ∀ j, j < wl.length → w.cell? ⟨b, o + j * 2, none⟩ = some (.int .u16 (wl.getD j (0, 0)).1) ∧ w.cell? ⟨b, o + j * 2 + 1, none⟩ = some (.int .u16 (wl.getD j (0, 0)).2))
  w0 : ∀ j, j < wl.length → 0 ≤ (wl.getD j (0, 0)).1 ∧ (wl.getD j (0, 0)).1 < 65536 ∧ 0 ≤ (wl.getD j (0, 0)).2 ∧ (wl.getD j (0, 0)).2 < 65536
  c1 : ∃ a cap, cells[1]? = some (.slice a al.length cap) ∧ (al = [] ∨ ∃ b o, a = some ⟨b, o, none⟩ ∧ b < B ∧ ∀ j, j < al.length → w.cell? ⟨b, o + j, none⟩ = some (.int .u8 (al.getD j 0)))
  a0 : ∀ j, j < al.length → 0 ≤ al.getD j 0 ∧ al.getD j 0 < 256
  c2 : ∀ i, i < 16 → cells[2 + i]? = some (.int .u16 (cs i)) ∧ 0 ≤ cs i ∧ cs i < 65536
  len : wl.length ≤ 9223372036854775807 ∧ al.length ≤ 9223372036854775807
def encW : List (Int × Value) → List Value
  | [] => []
  | q :: l => .int .i64 q.1 :: q.2 :: encW l
theorem encW_app : ∀ (l : List (Int × Value)) (q : Int × Value), encW (l ++ [q]) = encW l ++ [.int .i64 q.1, q.2]
  | [], q => rfl
  | x :: l, q => by simp [encW, encW_app l q]
theorem encW_get : ∀ (l : List (Int × Value)) (j : Nat) (h : j < l.length), (encW l)[j * 2]? = some (.int .i64 l[j].1) ∧ (encW l)[j * 2 + 1]? = some l[j].2
  | q :: l, 0, _ => ⟨rfl, rfl⟩
  | q :: l, j + 1, h => by
    have := encW_get l j (by simpa using h)
    refine ⟨?_, ?_⟩
    · rw [show (j + 1) * 2 = j * 2 + 2 by omega]; simpa [encW] using this.1
    · rw [show (j + 1) * 2 + 1 = j * 2 + 1 + 2 by omega]; simpa [encW] using this.2
/-- Wants that are collected in new memory. -/
structure WB (w0 W : World) (lv : Value) (ps : List (Int × Value)) (L : List Wt) : Prop where
  row : W.ownsRow w0.heap.size 41 2 lv L.length (encW ps)
  len : ps.length = L.length
  el : ∀ j, j < L.length → ∃ u, ps[j]? = some ((L.getD j noW).1, u) ∧ IntsIn W (fun b => w0.heap.size ≤ b ∧ lv.ownBlock ≠ some b) u (L.getD j noW).2
  bel : Below w0.heap.size w0 W
theorem WB.start (w : World) : WB w w (.slice none 0 0) [] [] := ⟨World.ownsRow_nil _ _ _ _, rfl, fun j hj => by simp at hj, Below.refl _ _⟩
theorem getD_app {α : Type} {l : List α} {x d : α} {j : Nat} (h : j < l.length) : (l ++ [x]).getD j d = l.getD j d := by simp [List.getD_eq_getElem?_getD, List.getElem?_append_left h]
theorem getD_last {α : Type} {l : List α} {x d : α} : (l ++ [x]).getD l.length d = x := by simp [List.getD_eq_getElem?_getD]
theorem WB.step {w0 W W1 W2 : World} {lv u : Value} {ps : List (Int × Value)} {L : List Wt} {p : Int} {l : List Int} {g cap : Nat} (h : WB w0 W lv ps L) (hb : Below W.heap.size W W1)
    (hr : W2.ownsRow w0.heap.size 41 2 (.slice (some ⟨g, 0, none⟩) (L.length + 1) cap) (L.length + 1) (encW ps ++ [.int .i64 p, u])) (hg : W1.grownBy W2 lv.ownBlock) (hat : lv.ownBlock = some g ∨ g = W1.heap.size)
    (hu : IntsIn W1 (fun b => W.heap.size ≤ b) u l) : WB w0 W2 (.slice (some ⟨g, 0, none⟩) (L.length + 1) cap) (ps ++ [(p, u)]) (L ++ [(p, l)]) := by
  have t : Tn (fun b => lv.ownBlock = some b) W W2 := (Tn.of_below hb).then_ (Tn.of_grown hg) fun b e => .inl e
  have hgl : ∀ b, b < W1.heap.size → (Value.slice (some ⟨g, 0, none⟩) (L.length + 1) cap).ownBlock = some b → lv.ownBlock = some b := fun b hb e => by
    obtain rfl : g = b := by injection e
    rcases hat with h | h
    · exact h
    · omega
  refine ⟨by rw [encW_app]; simpa using hr, by simp [h.len], fun j hj => ?_, h.bel.trans (t.below h.bel.size fun b e => (row_lt h.row b e).1)⟩
  rcases Nat.lt_or_ge j L.length with hlt | hge
  · obtain ⟨x, hx, hI⟩ := h.el j hlt
    rw [getD_app hlt]
    exact ⟨x, by rw [List.getElem?_append_left (by rw [h.len]; exact hlt)]; exact hx, hI.keep t (fun b ⟨_, h2⟩ _ => h2) fun b ⟨h1, h2⟩ hb' => ⟨h1, fun e => h2 (hgl b (by have := hb.size; omega) e)⟩⟩
  · have hj' : j = L.length := by simp at hj; omega
    subst hj'
    rw [getD_last]
    exact ⟨u, by rw [← h.len]; simp, hu.keep (Tn.of_grown hg) (fun b h1 _ e => by have := (row_lt h.row b e).2; omega) fun b h1 hb' => ⟨by have := h.bel.size; omega, fun e => by
      have := (row_lt h.row b (hgl b hb' e)).2; omega⟩⟩
theorem WB.done {w0 W : World} {lv : Value} {ps : List (Int × Value)} {L : List Wt} (h : WB w0 W lv ps L) : Wants W W.heap.size lv L := by
  have hl := h.len
  obtain ⟨h0, ⟨rfl, hn⟩ | ⟨g, c', cur, rfl, hg, hh, hn, hm, hcs, hx⟩⟩ := h.row
  · exact ⟨none, 0, by rw [hn], .inl (List.eq_nil_of_length_eq_zero hn)⟩
  · refine ⟨_, c', rfl, .inr ⟨g, 0, rfl, heap_lt hh, fun j hj => ?_⟩⟩
    obtain ⟨u, hu, hI⟩ := h.el j hj
    have hjp : j < ps.length := by omega
    have hu' : ps[j] = ((L.getD j noW).1, u) := (List.getElem?_eq_some_iff.1 hu).2
    obtain ⟨g1, g2⟩ := encW_get ps j hjp
    rw [hu'] at g1 g2
    rw [← hx, List.getElem?_take_of_lt (by omega)] at g1 g2
    refine ⟨u, ?_, ?_, hI.ints fun b _ hb => hb⟩
    · rw [Nat.zero_add]; simp only [World.cell?, hh]; simpa using g1
    · rw [Nat.zero_add]; simp only [World.cell?, hh]; simpa using g2
theorem atL_succ {al : List Int} {k : Nat} (h : k < al.length) : atL al (k + 1) = atL al k ++ [al.getD k 0 % 4] := by
  unfold atL; rw [take_succD (d := 0) k h, List.map_append]; rfl
theorem atL_len {al : List Int} {k : Nat} (h : k ≤ al.length) : (atL al k).length = k := by simp [atL]; omega
theorem atL_end {al : List Int} {k m : Nat} (h : k ≤ al.length) (h2 : k ≤ m) (h3 : ¬ (k < al.length ∧ k < m)) : atL al k = atL al m := by
  unfold atL
  congr 1
  rcases Nat.lt_or_ge k al.length with g | g
  · obtain rfl : k = m := by omega
    rfl
  · rw [List.take_of_length_le (by omega), List.take_of_length_le (by omega)]
theorem wantsL_succ {wl : List (Int × Int)} {k : Nat} (h : k < wl.length) : wantsL wl (k + 1) = wantsL wl k ++ [wantU (wl.getD k (0, 0))] := by
  unfold wantsL; rw [take_succD (d := (0, 0)) k h, List.map_append]; rfl
theorem wantsL_len {wl : List (Int × Int)} {k : Nat} (h : k ≤ wl.length) : (wantsL wl k).length = k := by simp [wantsL]; omega
theorem wantsL_end {wl : List (Int × Int)} {k m : Nat} (h : k ≤ wl.length) (h2 : k ≤ m) (h3 : ¬ (k < wl.length ∧ k < m)) : wantsL wl k = wantsL wl m := by
  unfold wantsL
  congr 1
  rcases Nat.lt_or_ge k wl.length with g | g
  · obtain rfl : k = m := by omega
    rfl
  · rw [List.take_of_length_le (by omega), List.take_of_length_le (by omega)]
theorem info41 : (Try.prog.info? 41).map (fun i => (i.zero, i.size, i.bytes)) = some (some (.agg #[.int .i64 0, .slice none 0 0]), 2, 32) := by kernel_rfl
theorem news2 (w : World) (u v : Value) (T : TypeId) : ∀ j x, [u, v][j]? = some x → (w.alloc (.cells #[u, v] T)).cell? ((⟨w.heap.size, 0, none⟩ : Addr).add j) = some x :=
  World.news_of_block (cs := #[u, v]) (t := T) (fr := (0, 0)) (heap_alloc_new w _)
theorem two_ {u v : Value} (h : u.oneCell' = true) (g : v.oneCell' = true) : ∀ x ∈ [u, v], x.oneCell' = true := by simp [h, g]
theorem ints1 (D : List Int) : ∀ u ∈ D.map (Value.int .i64), u.oneCell' = true := by
  intro u hu
  obtain ⟨d, _, rfl⟩ := List.mem_map.1 hu
  rfl
/-- A row put behind itself. -/
theorem wpList_append_self {P : Program} {w : World} {ops : Array Oper} {rest : List Oper} {o : Oper} {a : Act} {Q : Exit → Act → World → Prop} (hgd : o.guard = none) (s x : Operand) (t : TypeId)
    (ho : o.op = .call { callee := .builtin .append, args := #[s, x], argTypes := #[t, t] })
    (base : Nat) (e : TypeId) (i : TypeInfo) (z : Value) (bytes : Nat) (ht : P.underlying t = some (.slice e)) (hi : P.info? e = some i) (hz : i.zero = some z)
    (hsize : i.size = 1) (hby : i.bytes = bytes) (hzs : z.cells.size = 1)
    (v : Value) (n : Nat) (xs : List Value) (hs : a.eval s = v) (hown : w.ownsRow base e 1 v n xs) (hx : a.eval x = v) (h1 : ∀ u ∈ xs, u.oneCell' = true)
    (h63 : n + n ≤ maxLen) (hbytes : (n + n) * bytes ≤ 140737488355328) (hbase : base ≤ w.heap.size)
    (h : ∀ v' w', w'.ownsRow base e 1 v' (n + n) (xs ++ xs) → w.grownBy w' v.ownBlock → wpList P ops Q rest (a.put o.dst v') w') :
    wpList P ops Q (o :: rest) a w := by
  have hown' := hown
  obtain ⟨h0, ⟨rfl, rfl⟩ | ⟨g, c', cur, rfl, hg, hh, hn, hm, hcs, hx'⟩⟩ := hown
  · refine wpList_append_own_none hgd s x t ho base e i 1 ht hi _ 0 xs hs hown' hx (h _ _ ?_ (World.grownBy.refl w _))
    have : xs = [] := List.eq_nil_of_length_eq_zero (by simpa using h0)
    subst this
    exact hown'
  · exact wpList_append_own_at w hgd s x t ho base e i z 1 bytes ht hi hz hsize hby hzs (by decide) _ n xs hs hown' ⟨g, 0, none⟩ n c' xs hx h0 (hown'.cells (g := g) rfl) h1 h63 hbytes hbase fun v' w' h2 h3 _ _ => h v' w' h2 h3
def ListsE (wl : List (Int × Int)) (al : List Int) (m : Nat) (w : World) (e : Ending) (w' : World) : Prop :=
  ∃ (v u : Value) (w0 : World) (ps : List (Int × Value)), e = .returned (.tuple #[v, u]) ∧ WB w0 w' v ps (wantsL wl m) ∧ w.heap.size ≤ w0.heap.size ∧ Ints w' w0.heap.size u (atL al m) ∧ Below w.heap.size w w'
end Go.Proofs.Ytpcmppamkgkdlaa
