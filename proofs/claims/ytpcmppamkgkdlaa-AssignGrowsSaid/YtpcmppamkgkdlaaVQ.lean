/- Wants in memory that are changed; an append that keeps the old row readable. -/
import Derived.Test.YtpcmppamkgkdlaaUB
import Derived.ArgAppend
namespace Go.Proofs.Ytpcmppamkgkdlaa
open Go.RowKit

theorem add_of (b i : Nat) : (⟨b, 0, none⟩ : Addr).add i = ⟨b, i, none⟩ := by by_cases h : i = 0 <;> simp [Addr.add, h]
/-- An append to a row of one's own, whose old elements can be read behind it. -/
theorem wpList_append_keep {P : Program} {w : World} {ops : Array Oper} {rest : List Oper} {o : Oper} {a : Act} {Q : Exit → Act → World → Prop} (hgd : o.guard = none) (s x : Operand) (t : TypeId)
    (ho : o.op = .call { callee := .builtin .append, args := #[s, x], argTypes := #[t, t] })
    (base : Nat) (e : TypeId) (i : TypeInfo) (z : Value) (bytes : Nat) (ht : P.underlying t = some (.slice e)) (hi : P.info? e = some i) (hz : i.zero = some z)
    (hsize : i.size = 1) (hby : i.bytes = bytes) (hzs : z.cells.size = 1)
    (v : Value) (n : Nat) (xs : List Value) (hs : a.eval s = v) (hown : w.ownsRow base e 1 v n xs)
    (ad : Addr) (m c : Nat) (news : List Value) (hx : a.eval x = .slice (some ad) m c) (hl : news.length = m * 1) (hnews : ∀ j u, news[j]? = some u → w.cell? (ad.add j) = some u) (h1 : ∀ u ∈ news, u.oneCell' = true)
    (hm : 0 < m) (h63 : n + m ≤ maxLen) (hbytes : (n + m) * bytes ≤ 140737488355328) (hbase : base ≤ w.heap.size)
    (h : ∀ g cap w', w'.ownsRow base e 1 (.slice (some ⟨g, 0, none⟩) (n + m) cap) (n + m) (xs ++ news) → w.grownBy w' v.ownBlock → (v.ownBlock = some g ∨ w.heap.size ≤ g) → (∀ g0, v.ownBlock = some g0 → ∀ j u, xs[j]? = some u → w'.cell? ⟨g0, j, none⟩ = some u) →
      wpList P ops Q rest (a.put o.dst (.slice (some ⟨g, 0, none⟩) (n + m) cap)) w') :
    wpList P ops Q (o :: rest) a w := by
  have hown' := hown
  obtain ⟨h0, ⟨rfl, rfl⟩ | ⟨g, c', cur, rfl, hg, hh, hn, hmx, hcs, hx'⟩⟩ := hown
  · exact wpList_append_lies w hgd s x t ho base e i z 1 bytes ht hi hz hsize hby hzs (by decide) _ 0 xs hs hown' ad m c news hx hl hnews h1 hm h63 hbytes hbase _ rfl fun g cap w' h2 h3 h4 _ => h g cap w' h2 h3 (h4.imp id fun e => by omega) fun g0 e => by cases e
  · have cells : ∀ j u, xs[j]? = some u → w.cell? ((⟨g, 0, none⟩ : Addr).add j) = some u := hown'.cells (g := g) rfl
    by_cases hroom : n + m ≤ c'
    · refine wpList_append_fits w hgd s x t ho base e i 1 ht hi hsize g n c' xs hs hown' ad m c news hx hl hnews h1 hroom fun w' h2 h3 => h g c' w' h2 h3 (.inl rfl) fun g0 e0 j u hj => ?_
      obtain rfl : g = g0 := by injection e0
      have := h2.cells (g := g) rfl j u (by rw [List.getElem?_append_left (List.getElem?_eq_some_iff.1 hj).1]; exact hj)
      rwa [add_of] at this
    · refine wpList_append_grows w hgd s x t ho e i z 1 bytes ht hi hz hsize hby hzs (by decide) (some ⟨g, 0, none⟩) n c' xs hs (fun e => by cases e) h0 (fun b hb => by injection hb with hb; subst hb; exact cells) ad m c news hx hl hnews h1 (by omega) h63 hbytes fun v' w' h2 h3 => ?_
      obtain ⟨g2, cap2, rfl, _, hlt⟩ := h2.form (by omega)
      have h2b : w'.ownsRow base e 1 (.slice (some ⟨g2, 0, none⟩) (n + m) cap2) (n + m) (xs ++ news) := by
        obtain ⟨q0, ⟨q1, q2⟩ | ⟨q1, q2, q3, q4, q5, q6⟩⟩ := h2
        · cases q1
        · exact ⟨q0, .inr ⟨q1, q2, q3, q4, by omega, q6⟩⟩
      have hge : w.heap.size ≤ g2 := (row_lt h2 g2 rfl).1
      have hgl : g < w.heap.size := heap_lt hh
      have t3 : Tn (fun _ => False) w w' := (Tn.of_grown h3).mono fun b e => by cases e
      refine h g2 cap2 w' h2b ⟨h3.os, h3.tape, h3.output, h3.size, fun b hb hn => h3.block b hb (fun e => by cases e)⟩ (.inr hge) fun g0 e0 j u hj => ?_
      obtain rfl : g = g0 := by injection e0
      have := cells j u hj
      rw [add_of] at this
      exact t3.cell this id
/-- A row appended to a row of one's own. -/
theorem wpList_append_row {P : Program} {w : World} {ops : Array Oper} {rest : List Oper} {o : Oper} {a : Act} {Q : Exit → Act → World → Prop} (hgd : o.guard = none) (s x : Operand) (t : TypeId)
    (ho : o.op = .call { callee := .builtin .append, args := #[s, x], argTypes := #[t, t] })
    (base : Nat) (e : TypeId) (i : TypeInfo) (z : Value) (bytes : Nat) (ht : P.underlying t = some (.slice e)) (hi : P.info? e = some i) (hz : i.zero = some z)
    (hsize : i.size = 1) (hby : i.bytes = bytes) (hzs : z.cells.size = 1)
    (v : Value) (n : Nat) (xs : List Value) (hs : a.eval s = v) (hown : w.ownsRow base e 1 v n xs)
    (m : Nat) (ys : List Value) (hx : (a.eval x = .slice none 0 0 ∧ m = 0 ∧ ys = []) ∨ ∃ g0 c, a.eval x = .slice (some ⟨g0, 0, none⟩) m c ∧ ys.length = m ∧ ∀ j u, ys[j]? = some u → w.cell? ⟨g0, j, none⟩ = some u) (h1 : ∀ u ∈ ys, u.oneCell' = true)
    (h63 : n + m ≤ maxLen) (hbytes : (n + m) * bytes ≤ 140737488355328) (hbase : base ≤ w.heap.size)
    (h : ∀ v' w', w'.ownsRow base e 1 v' (n + m) (xs ++ ys) → w.grownBy w' v.ownBlock → wpList P ops Q rest (a.put o.dst v') w') :
    wpList P ops Q (o :: rest) a w := by
  rcases hx with ⟨hx, rfl, rfl⟩ | ⟨g0, c, hx, hl, hc⟩
  · exact wpList_append_own_none hgd s x t ho base e i 1 ht hi _ n xs hs hown hx (h _ _ (by simpa using hown) (World.grownBy.refl w _))
  · exact wpList_append_own_at w hgd s x t ho base e i z 1 bytes ht hi hz hsize hby hzs (by decide) _ n xs hs hown ⟨g0, 0, none⟩ m c ys hx (by omega) (fun j u hj => by rw [add_of]; exact hc j u hj) h1 h63 hbytes hbase fun v' w' h2 h3 _ _ => h v' w' h2 h3
/-- What a row of one's own holds can be read. -/
theorem row_src {w : World} {B n : Nat} {v : Value} {xs : List Value} {e : TypeId} (h : w.ownsRow B e 1 v n xs) : (v = .slice none 0 0 ∧ n = 0 ∧ xs = []) ∨ ∃ g0 c, v = .slice (some ⟨g0, 0, none⟩) n c ∧ xs.length = n ∧ v.ownBlock = some g0 := by
  have hl := h.1
  obtain ⟨h0, ⟨rfl, rfl⟩ | ⟨g, c', cur, rfl, _⟩⟩ := h
  · exact .inl ⟨rfl, rfl, List.eq_nil_of_length_eq_zero (by simpa using hl)⟩
  · exact .inr ⟨g, c', rfl, by omega, rfl⟩
theorem ints_of_row {w : World} {B : Nat} {S : Nat → Prop} {v : Value} {n : Nat} {D : List Int} (h : w.ownsRow B 3 1 v n (D.map (Value.int .i64))) (hn : n = D.length) (hS : ∀ b, B ≤ b → b < w.heap.size → S b) : IntsIn w S v D := by
  subst hn
  obtain ⟨a, cap, rfl, hO, -⟩ := own_of_row h
  exact hO.ints.keep (Tn.refl (fun _ => False) w) (fun _ _ _ => id) fun b hb _ => hS b hb.1 hb.2.1
/-- Wants whose copies are changed. -/
structure MW (B : Nat) (W : World) (wb n : Nat) (pk : Nat → Int) (us : Nat → Value) (cl : Nat → List Int) : Prop where
  c0 : ∀ j, j < n → W.cell? ⟨wb, j * 2, none⟩ = some (.int .i64 (pk j))
  c1 : ∀ j, j < n → W.cell? ⟨wb, j * 2 + 1, none⟩ = some (us j)
  el : ∀ j, j < n → IntsIn W (fun b => B ≤ b ∧ b ≠ wb) (us j) (cl j)
  fz : ∀ i, W.frozen? ⟨wb, i, none⟩ = false
  at_ : B ≤ wb ∧ wb < W.heap.size
namespace MW
variable {B : Nat} {W W' : World} {wb n : Nat} {pk : Nat → Int} {us : Nat → Value} {cl : Nat → List Int}
theorem keep (h : MW B W wb n pk us cl) (hb : Below W.heap.size W W') : MW B W' wb n pk us cl :=
  ⟨fun j hj => (hb.cell (p := ⟨wb, j * 2, none⟩) h.at_.2).trans (h.c0 j hj), fun j hj => (hb.cell (p := ⟨wb, j * 2 + 1, none⟩) h.at_.2).trans (h.c1 j hj), fun j hj => (h.el j hj).keep (Tn.of_below (F := fun _ => False) hb) (fun _ _ _ => id) fun _ h _ => h,
    fun i => (hb.frozen (p := ⟨wb, i, none⟩) h.at_.2).trans (h.fz i), h.at_.1, Nat.lt_of_lt_of_le h.at_.2 hb.size⟩
theorem set (h : MW B W wb n pk us cl) {k : Nat} (hk : k < n) {u : Value} {l : List Int} (hu : IntsIn W (fun b => B ≤ b ∧ b ≠ wb) u l) :
    MW B (W.setCell ⟨wb, k * 2 + 1, none⟩ u) wb n pk (fun j => if j = k then u else us j) (fun j => if j = k then l else cl j) := by
  have t : Tn (fun b => b = wb) W (W.setCell ⟨wb, k * 2 + 1, none⟩ u) := (Tn.refl (fun b => b = wb) W).setCell (p := ⟨wb, k * 2 + 1, none⟩) (.inl rfl) _
  refine ⟨fun j hj => ?_, fun j hj => ?_, fun j hj => ?_, fun i => by rw [World.frozen?_setCell]; exact h.fz i, h.at_.1, by simpa using h.at_.2⟩
  · have hn : (⟨wb, k * 2 + 1, none⟩ : Addr) ≠ ⟨wb, j * 2, none⟩ := by intro e; injection e with _ e; omega
    exact (World.cell?_setCell_other _ _ _ _ hn).trans (h.c0 j hj)
  · by_cases e : j = k
    · subst e
      simp only [if_true]
      exact World.cell?_setCell_same (h := h.c1 j hj) ..
    · have hn : (⟨wb, k * 2 + 1, none⟩ : Addr) ≠ ⟨wb, j * 2 + 1, none⟩ := by intro e'; injection e' with _ e'; omega
      simp only [e, if_false]
      exact (World.cell?_setCell_other _ _ _ _ hn).trans (h.c1 j hj)
  · by_cases e : j = k
    · subst e
      simp only [if_true]
      exact hu.keep t (fun b hb _ => hb.2) fun b hb _ => hb
    · simp only [e, if_false]
      exact (h.el j hj).keep t (fun b hb _ => hb.2) fun b hb _ => hb
theorem wants (h : MW B W wb n pk us cl) (cap : Nat) : Wants W W.heap.size (.slice (some ⟨wb, 0, none⟩) n cap) ((List.range n).map fun j => (pk j, cl j)) := by
  refine ⟨_, cap, by simp, .inr ⟨wb, 0, rfl, h.at_.2, fun j hj => ?_⟩⟩
  have hj : j < n := by simpa using hj
  have e : ((List.range n).map fun j => (pk j, cl j)).getD j noW = (pk j, cl j) := by simp [List.getD_eq_getElem?_getD, hj]
  rw [e, Nat.zero_add]
  exact ⟨us j, h.c0 j hj, h.c1 j hj, (h.el j hj).ints fun b _ hb => hb⟩
theorem congr (h : MW B W wb n pk us cl) {us' : Nat → Value} {cl' : Nat → List Int} (e1 : ∀ j, j < n → us j = us' j) (e2 : ∀ j, j < n → cl j = cl' j) : MW B W wb n pk us' cl' :=
  ⟨h.c0, fun j hj => by rw [← e1 j hj]; exact h.c1 j hj, fun j hj => by rw [← e1 j hj, ← e2 j hj]; exact h.el j hj, h.fz, h.at_⟩
end MW
theorem WB.mw {w0 W : World} {lv : Value} {ps : List (Int × Value)} {L : List Wt} (h : WB w0 W lv ps L) (hn : 0 < L.length) : ∃ wb cap us, lv = .slice (some ⟨wb, 0, none⟩) L.length cap ∧ MW w0.heap.size W wb L.length (fun j => (L.getD j noW).1) us (fun j => (L.getD j noW).2) := by
  have hl := h.len
  have hrow := h.row
  obtain ⟨h0, ⟨rfl, hn0⟩ | ⟨g, c', cur, rfl, hg, hh, hn', hm, hcs, hx⟩⟩ := h.row
  · omega
  · have hps : ∀ j, (hj : j < L.length) → ps[j]? = some ((L.getD j noW).1, (ps.getD j (0, .slice none 0 0)).2) ∧ IntsIn W (fun b => w0.heap.size ≤ b ∧ (Value.slice (some ⟨g, 0, none⟩) L.length c').ownBlock ≠ some b) (ps.getD j (0, .slice none 0 0)).2 (L.getD j noW).2 := fun j hj => by
      obtain ⟨u, hu, hI⟩ := h.el j hj
      have e : ps.getD j (0, .slice none 0 0) = ((L.getD j noW).1, u) := by rw [List.getD_eq_getElem?_getD, hu]; rfl
      rw [e]
      exact ⟨hu, hI⟩
    refine ⟨g, c', fun j => (ps.getD j (0, .slice none 0 0)).2, rfl, fun j hj => ?_, fun j hj => ?_, fun j hj => ?_, fun i => hrow.frozenAt i, row_lt hrow g rfl⟩
    · have hjp : j < ps.length := by omega
      have := hrow.cells (g := g) rfl (j * 2) _ (encW_get ps j hjp).1
      rw [add_of] at this
      rw [this]
      have e := (List.getElem?_eq_some_iff.1 (hps j hj).1).2
      rw [e]
    · have hjp : j < ps.length := by omega
      have := hrow.cells (g := g) rfl (j * 2 + 1) _ (encW_get ps j hjp).2
      rw [add_of] at this
      rw [this]
      have e := (List.getElem?_eq_some_iff.1 (hps j hj).1).2
      rw [e]
    · exact (hps j hj).2.keep (Tn.refl (fun _ => False) W) (fun _ _ _ => id) fun b hb _ => ⟨hb.1, fun e => hb.2 (by rw [e]; rfl)⟩
end Go.Proofs.Ytpcmppamkgkdlaa
