/- copied and own: fields and versions that share no memory. -/
import Derived.Test.YtpdldbapagchfaaGreatDoorQ06
import Derived.Lib.SlicesS
set_option linter.unusedVariables false
set_option linter.unusedSimpArgs false

namespace Go.Proofs.YtpdldbapagchfaaGreatDoor
open Go.RowKit Go.Shelf Go.Maps

theorem wpList_load_row {P : Program} {ops : Array Oper} {rest : List Oper} {o : Oper} {a : Act} {W : World} {Q : Exit → Act → World → Prop} (T : TypeId) (x : Operand) (hgd : o.guard = none) (ho : o.op = .load T x) {pb : Nat} {cells : Array Value} {d : TypeDesc}
    (hx : a.eval x = .pointer (some ⟨pb, 0, none⟩)) (h : Blk W pb cells T) (hu : P.underlying T = some d) (hd : (match d with | .struct _ | .array _ _ => true | _ => false) = true) (hi : (P.info? T).map (·.size) = some cells.size)
    (k : wpList P ops Q rest (a.put o.dst (.agg cells)) W) : wpList P ops Q (o :: rest) a W :=
  wpList_plain hgd fun _ hK => by
    unfold Oper.wp execOp
    simp only [ho, hx, Instr.loadAt, Instr.sureAddr, Sem.run_bind, Sem.run_pure, Result.andThen_ok, run_loadVar_row W pb T T cells (0, 0) d h hu hd hi]
    exact hK _ _ k
theorem belowS {B : Nat} {w w' : World} {g : Nat} {cs : Array Value} (h : Below B w w') (hg : B ≤ g) : Below B w (w'.setRow g cs) :=
  ⟨h.os, h.tape, h.output, by have := h.size; unfold World.setRow; simpa using this, fun b hb => (setRow_other _ _ _ _ (by omega)).trans (h.block b hb)⟩

set_option maxRecDepth 100000 in
set_option maxHeartbeats 1000000 in
theorem copied_any (S : Nat → Prop) {w : World} {cs : List Value} {f : Fld} (h : FldR S w cs f) (hl : f.subs.length ≤ 100000) :
    Calls Tryz.prog 55 #[.agg cs.toArray] w fun e w' => ∃ cs', e = .returned (.agg cs'.toArray) ∧ FldR (fun b => w.heap.size ≤ b) w' cs' f ∧ Below w.heap.size w w' := by
  obtain ⟨sv, rfl, hs⟩ := h
  have HS := Lib.hid hs
  obtain ⟨a, cap, rfl, -⟩ := hs
  obtain ⟨n, hn⟩ : ∃ n, n = f.subs.length := ⟨_, rfl⟩
  rw [← hn] at HS hl ⊢
  have HN := Lib.hid hn
  clear hn
  go_enter Tryz.func55, Tryz.ntmps55
  obtain ⟨W1, hW1⟩ : ∃ W1, W1 = (w.alloc (.cells #[.string f.tag, .string f.ind, .string f.data, .slice a n cap] 48)).alloc (.cells #[.string ⟨#[]⟩, .string ⟨#[]⟩, .string ⟨#[]⟩, .slice none 0 0] 48) := ⟨_, rfl⟩
  have B1 : RowKit.Hid (Below w.heap.size w W1) := Lib.hid (by rw [hW1]; exact ((Below.refl _ _).alloc (Nat.le_refl _) _).alloc (by simp) _)
  have Z1 : RowKit.Hid (W1.heap.size = w.heap.size + 2) := Lib.hid (by rw [hW1]; simp)
  have K1 : RowKit.Hid (Blk W1 w.heap.size #[.string f.tag, .string f.ind, .string f.data, .slice a n cap] 48) := Lib.hid (by rw [hW1]; exact (Blk.new _ _ _).alloc _)
  have R1 : RowKit.Hid (Blk W1 (w.heap.size + 1) #[.string ⟨#[]⟩, .string ⟨#[]⟩, .string ⟨#[]⟩, .slice none 0 0] 48) := Lib.hid (by rw [hW1]; exact Blk.at_new (by simp) _ _)
  have HS1 : RowKit.Hid (SubsAt S W1 (.slice a n cap) f.subs) := Lib.hid (SubsAt.keep HS.out (Stay.of_below B1.out) (fun _ h _ => h))
  have c3 := K1.out.cell 3
  rw [show (#[Value.string f.tag, .string f.ind, .string f.data, .slice a n cap] : Array Value)[3]? = some (.slice a n cap) from rfl] at c3
  go_wp2_with fail
  rw [← hW1]
  have HW := Lib.hid hW1
  clear hW1
  refine (cloneSubs S HS1.out (by rw [← HN.out]; exact hl)).mono ?_
  rintro e w2 ⟨v', rfl, hO, hb⟩
  have HO := Lib.hid hO
  have B2 := Lib.hid (B1.out.trans (hb.mono (by rw [Z1.out]; omega)))
  have K2 := Lib.hid (K1.out.below hb K1.out.lt)
  have R2 := Lib.hid (R1.out.below hb R1.out.lt)
  have HV : RowKit.Hid (∃ a' c', v' = .slice a' n c') := Lib.hid (by obtain ⟨a', c', e, _⟩ := hO.sl; exact ⟨a', c', by rw [e, HN.out]⟩)
  obtain ⟨a', c', rfl⟩ := HV.out
  have d3 : w2.cell? ⟨w.heap.size, 3, none⟩ = some (.slice a n cap) := K2.out.cell 3
  have f3 := K2.out.frozen 3
  have K3 := Lib.hid (K2.out.set 3 (.slice a' n c'))
  have R3 := Lib.hid (R2.out.set_ne ⟨w.heap.size, 3, none⟩ (.slice a' n c') (by simp))
  have B3 : RowKit.Hid (Below w.heap.size w (w2.setCell ⟨w.heap.size, 3, none⟩ (.slice a' n c'))) := Lib.hid (B2.out.setCell (p := ⟨w.heap.size, 3, none⟩) (Nat.le_refl _) _)
  have HO3 : RowKit.Hid (SubsAt (fun b => w.heap.size + 2 ≤ b) (w2.setCell ⟨w.heap.size, 3, none⟩ (.slice a' n c')) (.slice a' n c') f.subs) := Lib.hid (by
    refine SubsAt.keep hO.sl (fun b hb' _ => Below.heap_setCell _ _ _ _ ?_) ?_
    · have := (hO.lt b hb').1; have := Z1.out; show b ≠ w.heap.size; omega
    · intro b hb' _; have := (hO.lt b hb').1; have := Z1.out; show w.heap.size + 2 ≤ b; omega)
  clear c3 hb hO
  go_wp2_with (first
    | refine wpList_load_row 48 (.tmp 1) rfl rfl rfl K3.out Tryz.underlying48 rfl (by kernel_rfl) ?_
    | refine wpList_store_row rfl 48 (.tmp 2) (.tmp 7) rfl (w.heap.size + 1) #[.string f.tag, .string f.ind, .string f.data, .slice a' n c'] rfl rfl 48 _ R3.out (by kernel_rfl) rfl (by simp [Value.oneCell']) ?_)
  (try simp only [Exit.inBlock, Exit.then])
  refine bodyPost_ret (results_cell_row rfl _ _ (w.heap.size + 1) 48 #[.string f.tag, .string f.ind, .string f.data, .slice a' n c'] (0, 0) _ rfl (setRow_heap _ _ _ _ _ _ R3.out) Tryz.underlying48 rfl (by kernel_rfl)) rfl ?_
  refine ⟨[.string f.tag, .string f.ind, .string f.data, .slice a' n c'], rfl, ⟨_, rfl, ?_⟩, belowS B3.out (by omega)⟩
  refine SubsAt.keep HO3.out (fun b hb' _ => setRow_other _ _ _ _ ?_) (fun b h _ => ?_)
  · have h : w.heap.size + 2 ≤ b := hb'
    omega
  · have h' : w.heap.size + 2 ≤ b := h
    show w.heap.size ≤ b; omega
end Go.Proofs.YtpdldbapagchfaaGreatDoor

/- A member of a row of the call's own is written. -/
namespace Go.Proofs.YtpdldbapagchfaaGreatDoor
open Go.RowKit Go.Shelf Go.Maps

theorem take_set {α : Type} (l : List α) (n i : Nat) (a : α) (h : i < n) : (l.set i a).take n = (l.take n).set i a := by
  apply List.ext_getElem?
  intro j
  by_cases hj : j < n
  · rw [List.getElem?_take_of_lt hj, List.getElem?_set, List.getElem?_set, List.getElem?_take_of_lt hj]
    by_cases e : i = j
    · subst e
      simp only [if_true, List.length_take]
      by_cases h1 : i < l.length
      · rw [if_pos h1, if_pos (by omega)]
      · rw [if_neg h1, if_neg (by omega)]
    · rw [if_neg e, if_neg e]
  · rw [List.getElem?_eq_none (by simp; omega), List.getElem?_eq_none (by simp; omega)]
theorem row_set1 {w : World} {B : Nat} {T : TypeId} {z n : Nat} {v : Value} {xs : List Value} (h : w.ownsRow B T z v n xs) {g : Nat} (hg : v.ownBlock = some g) {o : Nat} (ho : o < n * z) (u : Value) :
    (w.setCell ⟨g, o, none⟩ u).ownsRow B T z v n (xs.set o u) := by
  obtain ⟨h0, ⟨rfl, hn⟩ | ⟨g', c', cur, rfl, hg', hh, hn, hm, hcs, hx⟩⟩ := h
  · cases hg
  · obtain rfl : g' = g := by injection hg
    refine ⟨by simpa using h0, .inr ⟨g', c', cur.setIfInBounds o u, rfl, hg', Blk.set hh o u, hn, hm, by simpa using hcs, ?_⟩⟩
    rw [Array.toList_setIfInBounds, take_set _ _ _ _ ho, hx]
def setsL (xs : List Value) : Nat → List Value → List Value
  | _, [] => xs
  | o, v :: r => setsL (xs.set o v) (o + 1) r
theorem setsL_len : ∀ (vs : List Value) (xs : List Value) (o : Nat), (setsL xs o vs).length = xs.length
  | [], _, _ => rfl
  | v :: r, xs, o => by rw [setsL, setsL_len r]; simp
theorem setsL_get : ∀ (vs : List Value) (xs : List Value) (o j : Nat), o + vs.length ≤ xs.length → (setsL xs o vs)[j]? = if o ≤ j ∧ j < o + vs.length then vs[j - o]? else xs[j]?
  | [], xs, o, j, _ => by rw [setsL, if_neg (fun h => by have h1 := h.1; have h2 := h.2; rw [List.length_nil] at h2; omega)]
  | v :: r, xs, o, j, h => by
    have h' : o + 1 + r.length ≤ xs.length := by simp at h; omega
    rw [setsL, setsL_get r (xs.set o v) (o + 1) j (by simpa using h')]
    by_cases h1 : o + 1 ≤ j ∧ j < o + 1 + r.length
    · rw [if_pos h1, if_pos (by simp; omega), show j - o = (j - (o + 1)) + 1 by omega]; simp
    · rw [if_neg h1, List.getElem?_set]
      by_cases e : o = j
      · subst e
        rw [if_pos rfl, if_pos (by omega), if_pos (by simp)]; simp
      · rw [if_neg e, if_neg (by simp; omega)]
theorem row_sets {B : Nat} {T : TypeId} {z n : Nat} {v : Value} {g : Nat} (hg : v.ownBlock = some g) : ∀ (vs : List Value) {w : World} {xs : List Value} (_ : w.ownsRow B T z v n xs) (o : Nat) (_ : o + vs.length ≤ n * z),
    (w.setCells g o vs).ownsRow B T z v n (setsL xs o vs)
  | [], _, _, h, _, _ => h
  | u :: r, w, xs, h, o, ho => by
    rw [World.setCells, setsL]
    exact row_sets hg r (row_set1 h hg (by simp at ho; omega) u) (o + 1) (by simp at ho; omega)
theorem flat_set {z : Nat} {css : List (List Value)} (hz : ∀ c ∈ css, c.length = z) (hp : 0 < z) {k : Nat} (hk : k < css.length) {c : List Value} (hc : c.length = z) : setsL css.flatten (k * z) c = (css.set k c).flatten := by
  have hz' : ∀ d ∈ css.set k c, d.length = z := fun d hd => by
    rcases List.mem_or_eq_of_mem_set hd with h | h
    · exact hz d h
    · rw [h]; exact hc
  have hkz : k * z + z ≤ css.length * z := by
    have := Nat.mul_le_mul_right z hk
    rw [Nat.succ_mul] at this; exact this
  apply List.ext_getElem?
  intro j
  rw [setsL_get _ _ _ _ (by rw [flat_len hz, hc]; exact hkz), hc]
  by_cases hj : j < css.length * z
  · have hq : j / z < css.length := Nat.div_lt_of_lt_mul (by rw [Nat.mul_comm]; exact hj)
    have hi : j % z < z := Nat.mod_lt _ hp
    have e : j = j / z * z + j % z := by rw [Nat.mul_comm]; exact (Nat.div_add_mod j z).symm
    have r1 := flat_get hz (j / z) hq (j % z) hi
    have r2 := flat_get hz' (j / z) (by simpa using hq) (j % z) hi
    rw [← e] at r1 r2
    rw [r1, r2]
    by_cases h1 : j / z = k
    · rw [if_pos (by rw [← h1]; omega)]
      rw [List.getElem_set, if_pos h1.symm]
      congr 1
      rw [← h1]; omega
    · have h4 : ¬ (k * z ≤ j ∧ j < k * z + z) := by
        rintro ⟨h2, h3⟩
        apply h1
        have a1 : k ≤ j / z := (Nat.le_div_iff_mul_le hp).2 h2
        have a2 : j / z < k + 1 := (Nat.div_lt_iff_lt_mul hp).2 (by rw [Nat.add_mul, Nat.one_mul]; exact h3)
        omega
      rw [if_neg h4, List.getElem_set, if_neg (fun h => h1 h.symm)]
  · rw [if_neg (by omega), List.getElem?_eq_none (by rw [flat_len hz]; omega), List.getElem?_eq_none (by rw [flat_len hz']; simp; omega)]
theorem tn_setCells {g : Nat} : ∀ (vs : List Value) (o : Nat) (w : World), Tn (fun b => b = g) w (w.setCells g o vs)
  | [], _, w => Tn.refl _ w
  | v :: vs, o, w => ((Tn.refl (fun b => b = g) w).setCell (p := ⟨g, o, none⟩) (.inl rfl) v).trans (tn_setCells vs (o + 1) _)
/-- All but one of two lists are as they were; that one is anew. -/
theorem All2.set {α β : Type} {R : α → β → Prop} {l : List α} {m : List β} (h : All2 R l m) {k : Nat} (hk : k < m.length) {a : α} (ha : R a m[k]) : All2 R (l.set k a) m := by
  refine All2.of_get (by simpa using h.length) fun j h1 h2 => ?_
  rw [List.getElem_set]
  split
  · next e => subst e; exact ha
  · exact h.get j (by simpa using h1) h2
/-- A row of the call's own whose members' parts lie elsewhere. -/
def OwnX {α : Type} (T : TypeId) (z B : Nat) (RS : (Nat → Prop) → World → List Value → α → Prop) (w : World) (v : Value) (L : List α) : Prop := OwnOf T z B (RS (fun b => B ≤ b ∧ v.ownBlock ≠ some b)) w v L
section
variable {α : Type} {T : TypeId} {z B : Nat} {RS : (Nat → Prop) → World → List Value → α → Prop} {w w3 w3' w4 : World} {v v' : Value} {L : List α}
def Keeps (RS : (Nat → Prop) → World → List Value → α → Prop) : Prop := ∀ (S S' : Nat → Prop) (w w' : World) (c : List Value) (x : α), RS S w c x → Stay S w w' → (∀ b, S b → b < w.heap.size → S' b) → RS S' w' c x
theorem OwnX.nil (T : TypeId) (z B : Nat) (RS : (Nat → Prop) → World → List Value → α → Prop) (w : World) : OwnX T z B RS w (.slice none 0 0) [] := OwnOf.nil _ _ _ _ _
theorem OwnX.own (hk : Keeps RS) (h : OwnX T z B RS w v L) : OwnOf T z B (RS (fun b => B ≤ b)) w v L := by
  obtain ⟨css, hr, h1, h2⟩ := h
  exact ⟨css, hr, h1.mono fun c x hc => hk _ _ _ _ _ _ hc (fun _ _ _ => rfl) (fun _ h _ => h.1), h2⟩
theorem OwnX.below (hk : Keeps RS) (h : OwnX T z B RS w v L) (hb : Below w.heap.size w w3) : OwnX T z B RS w3 v L := by
  obtain ⟨css, hr, h1, h2⟩ := h
  exact ⟨css, (Tn.of_below (F := fun _ => False) hb).row hr (fun _ _ h => h), h1.mono fun c x hc => hk _ _ _ _ _ _ hc (Stay.of_below hb) (fun _ h _ => h), h2⟩
theorem OwnX.tn {F : Nat → Prop} (hk : Keeps RS) (h : OwnX T z B RS w v L) (t : Tn F w w3) (hF : ∀ b, F b → b < B) : OwnX T z B RS w3 v L := by
  have hl := OwnOf.lt h
  obtain ⟨css, hr, h1, h2⟩ := h
  refine ⟨css, t.row hr (fun r e h => by have := hF r h; have := (hl r e).1; omega), h1.mono fun c x hc => hk _ _ _ _ _ _ hc (Stay.of_tn t fun b hb _ h => ?_) (fun _ h _ => h), h2⟩
  have := hF b h
  have := hb.1; omega
theorem OwnX.expl (h : OwnX T z B RS w v L) : ∃ a c, v = .slice a L.length c := by
  obtain ⟨css, hr, h1, h2⟩ := h
  obtain ⟨a, c, e, _⟩ := row_cellz hr
  exact ⟨a, c, e⟩
/-- One is appended, whose parts lie behind the world w. -/
theorem OwnX.snoc (hk : Keeps RS) {css : List (List Value)} {c : List Value} {x : α} (hr3 : w3.ownsRow B T z v L.length css.flatten) (h1 : All2 (RS (fun b => B ≤ b ∧ v.ownBlock ≠ some b) w3) css L) (h2 : ∀ d ∈ css, d.length = z)
    {C : Nat} (hc : RS (fun b => C ≤ b) w3 c x) (hC : ∀ r, v.ownBlock = some r → r < C) (hBC : B ≤ C) (hz : c.length = z)
    (hb : Below w3.heap.size w3 w3') (hr : w4.ownsRow B T z v' (L.length + 1) (css.flatten ++ c)) (hg : w3'.grownBy w4 v.ownBlock) (ho : v'.ownBlock = v.ownBlock ∨ v'.ownBlock = some w3'.heap.size) : OwnX T z B RS w4 v' (L ++ [x]) := by
  have hsz := hb.size
  have key : ∀ S : Nat → Prop, (∀ b, S b → v.ownBlock ≠ some b) → Stay S w3 w4 := fun S hS b h1 h2 => (hg.block b (by omega) (fun e => hS b h1 e.symm)).trans (hb.block b h2)
  have hne : ∀ b, b < w3.heap.size → v.ownBlock ≠ some b → v'.ownBlock ≠ some b := fun b h1 h2 => by
    rcases ho with e | e
    · rw [e]; exact h2
    · rw [e]; intro e'; injection e' with e'; omega
  refine ⟨css ++ [c], by rw [List.length_append, List.flatten_append]; simpa using hr, (h1.mono fun d y hd => hk _ _ _ _ _ _ hd (key _ fun b h => h.2) fun b h h' => ⟨h.1, hne b h' h.2⟩).app (All2.one (hk _ _ _ _ _ _ hc (key _ fun b h e => ?_) fun b h h' => ⟨?_, ?_⟩)), fun d hd => ?_⟩
  · have : C ≤ b := h
    have := hC b e; omega
  · have : C ≤ b := h
    omega
  · refine hne b h' fun e => ?_
    have : C ≤ b := h
    have := hC b e; omega
  · rcases List.mem_append.1 hd with h | h
    · exact h2 d h
    · rw [List.mem_singleton.1 h]; exact hz
end
theorem keeps_ver : Keeps VerR := fun _ _ _ _ _ _ h hs hS => h.keep hs hS
theorem keeps_fld : Keeps FldR := fun _ _ _ _ _ _ h hs hS => h.keep hs hS
end Go.Proofs.YtpdldbapagchfaaGreatDoor

/- own: a version that shares no memory. -/
namespace Go.Proofs.YtpdldbapagchfaaGreatDoor
open Go.RowKit Go.Shelf Go.Maps

/-- Small lists of fields, of versions. -/
def FsOk (l : List Fld) : Prop := l.length ≤ 1000 ∧ ∀ f ∈ l, f.subs.length ≤ 1000
theorem All2.mem {α β : Type} {R : α → β → Prop} : ∀ {l : List α} {m : List β}, All2 R l m → ∀ b ∈ m, ∃ a ∈ l, R a b
  | _, _, .nil, b, h => by simp at h
  | _, _, .cons g t, b, h => by
    rcases List.mem_cons.1 h with e | e
    · subst e; exact ⟨_, by simp, g⟩
    · obtain ⟨a, h1, h2⟩ := t.mem b e; exact ⟨a, by simp [h1], h2⟩
theorem All2.conj {α β : Type} {R R' : α → β → Prop} : ∀ {l : List α} {m : List β}, All2 R l m → All2 R' l m → All2 (fun a b => R a b ∧ R' a b) l m
  | _, _, .nil, .nil => .nil
  | _, _, .cons g t, .cons g' t' => .cons ⟨g, g'⟩ (t.conj t')
def VsOk (l : List Ver) : Prop := l.length ≤ 1000 ∧ ∀ v ∈ l, FsOk v.fs
theorem OwnOf.more {α : Type} {T : TypeId} {z B : Nat} {R : World → List Value → α → Prop} {w : World} {v : Value} {L M : List α} {css c : List (List Value)} (hr : w.ownsRow B T z v (L.length + M.length) (css.flatten ++ c.flatten)) (h1 : All2 (R w) css L) (h2 : All2 (R w) c M)
    (z1 : ∀ d ∈ css, d.length = z) (z2 : ∀ d ∈ c, d.length = z) : OwnOf T z B R w v (L ++ M) :=
  ⟨css ++ c, by rw [List.length_append, List.flatten_append]; exact hr, h1.app h2, fun d hd => (List.mem_append.1 hd).elim (z1 d) (z2 d)⟩
/-- A row that is being copied: the first k of its fields lie anew, the others where they lay; the row itself is block r. -/
def OwnK (B C r k : Nat) (w : World) (v : Value) (L : List Fld) : Prop :=
  ∃ css : List (List Value), w.ownsRow B 48 4 v L.length css.flatten ∧ css.length = L.length ∧ (∀ c ∈ css, c.length = 4) ∧ (∀ g, v.ownBlock = some g → g = r) ∧
    (∀ j (h : j < css.length) (h' : j < L.length), if j < k then FldR (fun b => B ≤ b ∧ b ≠ r) w css[j] L[j] else FldR (fun b => b < C) w css[j] L[j])
theorem FldR.len {S : Nat → Prop} {w : World} {cs : List Value} {f : Fld} (h : FldR S w cs f) : cs.length = 4 := by obtain ⟨sv, rfl, _⟩ := h; rfl
theorem OwnK.at {B C r k : Nat} {w : World} {v : Value} {L : List Fld} (h : OwnK B C r k w v L) (hk : k < L.length) : ∃ cap cs, v = .slice (some ⟨r, 0, none⟩) L.length cap ∧ L.length ≤ cap ∧ FldR (fun b => b < C) w cs L[k] ∧ w.rangeAt r (k * 4) cs ∧ w.there r (k * 4) 4 ∧ B ≤ r ∧ r < w.heap.size := by
  obtain ⟨css, hr, hl, hz, hg, hf⟩ := h
  obtain ⟨a, cap, rfl, h1, h2, h3, ⟨h4, _⟩ | ⟨g, rfl, h4, h5, h6, h7⟩⟩ := row_cellz hr
  · omega
  obtain rfl := hg g h4
  have hk' : k < css.length := by omega
  have h8 := hf k hk' hk
  rw [if_neg (by omega)] at h8
  have hget := fun i (hi : i < 4) => flat_get hz k hk' i hi
  have hlen := hz _ (List.getElem_mem hk')
  refine ⟨cap, css[k], rfl, h1, h8, fun j u hj => ?_, fun j hj => ?_, h5, h6⟩
  · have hj4 : j < 4 := by have := (List.getElem?_eq_some_iff.1 hj).1; omega
    exact h7 _ u (by rw [hget j hj4]; exact hj)
  · have := h7 (k * 4 + j) css[k][j] (by rw [hget j hj]; exact List.getElem?_eq_getElem _)
    exact ⟨by rw [this]; rfl, World.ownsRow.frozenAt hr _⟩
theorem OwnK.step {B C r k : Nat} {wr w3 : World} {v : Value} {L : List Fld} {cs : List Value} (h : OwnK B C r k wr v L) (hC : C ≤ B) (hB : B ≤ wr.heap.size) (hk : k < L.length) (hb : Below wr.heap.size wr w3)
    (hf : FldR (fun b => wr.heap.size ≤ b) w3 cs L[k]) : OwnK B C r (k + 1) (w3.setCells r (k * 4) cs) v L := by
  obtain ⟨cap, _, hv, _, _, _, _, hBr, hrl⟩ := h.at hk
  obtain ⟨css, hr, hl, hz, hg, hq⟩ := h
  have hk' : k < css.length := by omega
  have hr3 : w3.ownsRow B 48 4 v L.length css.flatten := (Tn.of_below (F := fun _ => False) hb).row hr (fun _ _ h => h)
  have hkn : k * 4 + 4 ≤ L.length * 4 := by omega
  have hr4 := row_sets (g := r) (by rw [hv]; rfl) cs hr3 (k * 4) (by rw [hf.len]; exact hkn)
  rw [flat_set hz (by omega) hk' hf.len] at hr4
  have T4 : ∀ S : Nat → Prop, (∀ b, S b → b ≠ r) → Stay S w3 (w3.setCells r (k * 4) cs) := fun S hS => Stay.of_tn (tn_setCells cs (k * 4) w3) fun b h1 _ h2 => hS b h1 h2
  refine ⟨css.set k cs, hr4, by simpa using hl, fun d hd => ?_, hg, fun j h1 h2 => ?_⟩
  · rcases List.mem_or_eq_of_mem_set hd with h | h
    · exact hz d h
    · rw [h]; exact hf.len
  · have h1' : j < css.length := by simpa using h1
    rw [List.getElem_set]
    by_cases e : k = j
    · subst e
      rw [if_pos (by omega), if_pos rfl]
      exact hf.keep (T4 _ fun b hb' => by have : wr.heap.size ≤ b := hb'; omega) (fun b hb' _ => by have : wr.heap.size ≤ b := hb'; show B ≤ b ∧ b ≠ r; omega)
    · rw [if_neg e]
      have h3 := hq j h1' h2
      by_cases hj : j < k
      · rw [if_pos hj] at h3
        rw [if_pos (by omega)]
        exact (h3.keep (Stay.of_below hb) (fun _ h _ => h)).keep (T4 _ fun b hb' => hb'.2) (fun _ h _ => h)
      · rw [if_neg hj] at h3
        rw [if_neg (by omega)]
        exact (h3.keep (Stay.of_below hb) (fun _ h _ => h)).keep (T4 _ fun b hb' => by have : b < C := hb'; omega) (fun _ h _ => h)
theorem OwnK.done {B C r : Nat} {w : World} {v : Value} {L : List Fld} (h : OwnK B C r L.length w v L) : OwnOf 48 4 B (FldR (fun b => B ≤ b)) w v L := by
  obtain ⟨css, hr, hl, hz, hg, hq⟩ := h
  refine ⟨css, hr, All2.of_get hl fun j h1 h2 => ?_, hz⟩
  have h3 := hq j h1 h2
  rw [if_pos h2] at h3
  exact h3.keep (fun _ _ _ => rfl) (fun _ h _ => h.1)
set_option maxRecDepth 100000 in
set_option maxHeartbeats 2000000 in
theorem own_any (S : Nat → Prop) {w : World} {cs : List Value} {x : Ver} (h : VerR S w cs x) (hl : FsOk x.fs) :
    Calls Tryz.prog 38 #[.agg cs.toArray] w fun e w' => ∃ cs', e = .returned (.agg cs'.toArray) ∧ VerR (fun b => w.heap.size ≤ b) w' cs' x ∧ Below w.heap.size w w' := by
  obtain ⟨fv, rfl, hs⟩ := h
  have HS : RowKit.Hid (FldsAt (fun b => b < w.heap.size) w fv x.fs) := Lib.hid (FldsAt.low hs)
  obtain ⟨a, cap, rfl, -⟩ := hs
  obtain ⟨n, hn⟩ : ∃ n, n = x.fs.length := ⟨_, rfl⟩
  have HFO := Lib.hid hl
  have hl1 : n ≤ 1000 := by rw [hn]; exact hl.1
  rw [← hn] at HS ⊢
  have HN := Lib.hid hn
  obtain ⟨r1, hr1⟩ : ∃ r1, r1 = x.r.1 := ⟨_, rfl⟩
  obtain ⟨r2, hr2⟩ : ∃ r2, r2 = x.r.2 := ⟨_, rfl⟩
  obtain ⟨nu, hnu⟩ : ∃ nu, nu = x.num := ⟨_, rfl⟩
  obtain ⟨ki, hki⟩ : ∃ ki, ki = x.kind := ⟨_, rfl⟩
  obtain ⟨le, hle⟩ : ∃ le, le = x.level := ⟨_, rfl⟩
  have HX : RowKit.Hid (∀ W fv', FldsAt (fun b => w.heap.size ≤ b) W fv' x.fs → VerR (fun b => w.heap.size ≤ b) W [.int .i64 r1, .int .i64 r2, .int .i64 nu, .int .u8 ki, .int .u8 le, fv'] x) := Lib.hid fun W fv' h => ⟨fv', by rw [hr1, hr2, hnu, hki, hle], h⟩
  rw [← hr1, ← hr2, ← hnu, ← hki, ← hle]
  clear hn hl hr1 hr2 hnu hki hle
  go_enter Tryz.func38, Tryz.ntmps38
  obtain ⟨W1, hW1⟩ : ∃ W1, W1 = (w.alloc (.cells #[.int .i64 r1, .int .i64 r2, .int .i64 nu, .int .u8 ki, .int .u8 le, .slice a n cap] 43)).alloc (.cells #[.int .i64 0, .int .i64 0, .int .i64 0, .int .u8 0, .int .u8 0, .slice none 0 0] 43) := ⟨_, rfl⟩
  have B1 : RowKit.Hid (Below w.heap.size w W1) := Lib.hid (by rw [hW1]; exact ((Below.refl _ _).alloc (Nat.le_refl _) _).alloc (by simp) _)
  have Z1 : RowKit.Hid (W1.heap.size = w.heap.size + 2) := Lib.hid (by rw [hW1]; simp)
  have K1 : RowKit.Hid (Blk W1 w.heap.size #[.int .i64 r1, .int .i64 r2, .int .i64 nu, .int .u8 ki, .int .u8 le, .slice a n cap] 43) := Lib.hid (by rw [hW1]; exact (Blk.new _ _ _).alloc _)
  have R1 : RowKit.Hid (Blk W1 (w.heap.size + 1) #[.int .i64 0, .int .i64 0, .int .i64 0, .int .u8 0, .int .u8 0, .slice none 0 0] 43) := Lib.hid (by rw [hW1]; exact Blk.at_new (by simp) _ _)
  have HS1 : RowKit.Hid (FldsAt (fun b => b < w.heap.size) W1 (.slice a n cap) x.fs) := Lib.hid (FldsAt.keep HS.out (Stay.of_below B1.out) (fun _ h _ => h))
  have c3 : W1.cell? ⟨w.heap.size, 5, none⟩ = some (.slice a n cap) := K1.out.cell 5
  go_wp2_with fail
  rw [← hW1]
  have HW := Lib.hid hW1
  clear hW1
  refine (cloneFlds _ HS1.out (by rw [← HN.out]; omega)).mono ?_
  rintro e w2 ⟨v', rfl, hO, hb⟩
  have B2 := Lib.hid hb
  obtain ⟨a', c', rfl⟩ : ∃ a' c', v' = .slice a' n c' := by obtain ⟨a', c', e, _⟩ := hO.sl; exact ⟨a', c', by rw [e, HN.out]⟩
  obtain ⟨r, hr⟩ : ∃ r, ∀ g, (Value.slice a' n c').ownBlock = some g → g = r := by
    cases hq : (Value.slice a' n c').ownBlock with
    | none => exact ⟨0, fun g h => by cases h⟩
    | some g => exact ⟨g, fun g' h => by injection h with h; exact h.symm⟩
  have H0 : RowKit.Hid (OwnK W1.heap.size w.heap.size r 0 w2 (.slice a' n c') x.fs) := Lib.hid (by
    obtain ⟨css, q1, q2, q3⟩ := hO
    exact ⟨css, q1, q2.length, q3, hr, fun j h h' => by rw [if_neg (by omega)]; exact q2.get j h h'⟩)
  clear c3 hb hO hr
  go_wp2_with fail
  go_loopw [11] (fun i wr => ∃ k : Nat, k ≤ n ∧ i = .int .i64 k ∧ Below W1.heap.size W1 wr ∧ OwnK W1.heap.size w.heap.size r k wr (.slice a' n c') x.fs) (fun i _ => n - (intOf i).toNat)
  case atStart => exact ⟨0, by omega, rfl, B2.out, H0.out⟩
  case round =>
    obtain ⟨k, hk, rfl, hb, hO⟩ := hrel
    have HB := Lib.hid hb
    have HO := Lib.hid hO
    clear hb hO
    by_cases hlt : k < n
    · have hlx : k < x.fs.length := by rw [← HN.out]; exact hlt
      obtain ⟨cap2, cs, e1, hcap, hF, hrg, hth, hBr, hrl⟩ := HO.out.at hlx
      have e2 : a' = some ⟨r, 0, none⟩ := by injection e1
      have e3 : c' = cap2 := by injection e1
      clear e1
      subst e2 e3
      have HF := Lib.hid hF
      have HH := Lib.hid hth
      obtain ⟨sv, rfl, hsv⟩ := hF
      obtain ⟨f, hf⟩ : ∃ f, f = x.fs[k] := ⟨_, rfl⟩
      rw [← hf] at HF
      simp only [← hf] at hrg
      have HFL : RowKit.Hid (f.subs.length ≤ 1000) := Lib.hid (by rw [hf]; exact HFO.out.2 _ (List.getElem_mem _))
      have HF' : RowKit.Hid (f = x.fs[k]) := Lib.hid hf
      have HBR := Lib.hid hBr
      have HRL := Lib.hid hrl
      clear hsv hf hcap hth hBr hrl
      have HG := Lib.hid hrg
      clear hrg
      go_wp2_with (refine wpList_load_mid rfl 48 (.tmp 18) rfl r (k * 4) rfl [.string f.tag, .string f.ind, .string f.data, sv] _ HG.out Tryz.underlying48 rfl (by kernel_rfl) ?_)
      refine (copied_any _ HF.out (by have := HFL.out; omega)).mono ?_
      rintro e w3 ⟨cs', rfl, hF', hb'⟩
      have HF3 : RowKit.Hid (FldR (fun b => wr.heap.size ≤ b) w3 cs' (x.fs[k]'hlx)) := Lib.hid (by rw [← HF'.out]; exact hF')
      have L4 : RowKit.Hid (cs'.toArray.size = 4) := Lib.hid (by simpa using hF'.len)
      have O4 : RowKit.Hid (cs'.toArray.all (·.oneCell') = true) := Lib.hid (by
        rw [Array.all_eq_true_iff_forall_mem]; intro u hu; exact one_fld _ _ _ _ hF' u (by simpa using hu))
      have HB3 := Lib.hid (HB.out.trans (hb'.mono HB.out.size))
      have TH3 : RowKit.Hid (w3.there r (k * 4) cs'.toArray.size) := Lib.hid (by
        rw [L4.out]; intro j hj
        have := HH.out j hj
        exact ⟨by rw [hb'.cell (p := ⟨r, k * 4 + j, none⟩) HRL.out]; exact this.1, by rw [hb'.frozen (p := ⟨r, k * 4 + j, none⟩) HRL.out]; exact this.2⟩)
      have HB' := Lib.hid hb'
      clear hF' hb'
      go_wp2_with (refine wpList_store_mid rfl 48 (.tmp 21) (.tmp 20) rfl r (k * 4) cs'.toArray rfl rfl TH3.out (by rw [L4.out]; kernel_rfl) O4.out ?_)
      have HT := Lib.hid (tn_setCells (g := r) cs' (k * 4) w3)
      exact ⟨⟨k + 1, hlt, by go_num, HB3.out.trans ((tn_setCells cs' (k * 4) w3).below HB3.out.size (fun b e => by rw [e]; exact HBR.out)), HO.out.step (by have := Z1.out; omega) HB.out.size hlx HB'.out HF3.out⟩, by simp [intOf]; omega⟩
    · obtain rfl : k = n := by omega
      have HD : RowKit.Hid (OwnOf 48 4 W1.heap.size (FldR (fun b => W1.heap.size ≤ b)) wr (.slice a' k c') x.fs) := Lib.hid (OwnK.done (by rw [← HN.out]; exact HO.out))
      have hl0 : w.heap.size < W1.heap.size := by have := Z1.out; omega
      have hl1 : w.heap.size + 1 < W1.heap.size := by have := Z1.out; omega
      have K2 := Lib.hid (K1.out.below HB.out hl0)
      have R2 := Lib.hid (R1.out.below HB.out hl1)
      have d5 : wr.cell? ⟨w.heap.size, 5, none⟩ = some (.slice a k cap) := K2.out.cell 5
      have f5 := K2.out.frozen 5
      have K3 := Lib.hid (K2.out.set 5 (.slice a' k c'))
      have R3 := Lib.hid (R2.out.set_ne ⟨w.heap.size, 5, none⟩ (.slice a' k c') (by simp))
      have F3 : RowKit.Hid (Below w.heap.size w (wr.setCell ⟨w.heap.size, 5, none⟩ (.slice a' k c'))) := Lib.hid ((B1.out.trans (HB.out.mono (by omega))).setCell (p := ⟨w.heap.size, 5, none⟩) (Nat.le_refl _) _)
      have HF3 : RowKit.Hid (FldsAt (fun b => W1.heap.size ≤ b) (wr.setCell ⟨w.heap.size, 5, none⟩ (.slice a' k c')) (.slice a' k c') x.fs) := Lib.hid (by
        refine FldsAt.keep (HD.out.slB (by omega)) (fun b hb' _ => Below.heap_setCell _ _ _ _ ?_) (fun b h _ => h)
        have : W1.heap.size ≤ b := hb'
        show b ≠ w.heap.size; omega)
      clear hl0 hl1
      go_wp2_with (first
        | refine wpList_load_row 43 (.tmp 1) rfl rfl rfl K3.out Tryz.underlying43 rfl (by kernel_rfl) ?_
        | refine wpList_store_row rfl 43 (.tmp 2) (.tmp 26) rfl (w.heap.size + 1) #[.int .i64 r1, .int .i64 r2, .int .i64 nu, .int .u8 ki, .int .u8 le, .slice a' k c'] rfl rfl 43 _ R3.out (by kernel_rfl) rfl (by simp [Value.oneCell']) ?_)
      (try simp only [Exit.inBlock, Exit.then])
      refine bodyPost_ret (results_cell_row rfl _ _ (w.heap.size + 1) 43 #[.int .i64 r1, .int .i64 r2, .int .i64 nu, .int .u8 ki, .int .u8 le, .slice a' k c'] (0, 0) _ rfl (setRow_heap _ _ _ _ _ _ R3.out) Tryz.underlying43 rfl (by kernel_rfl)) rfl ?_
      refine ⟨[.int .i64 r1, .int .i64 r2, .int .i64 nu, .int .u8 ki, .int .u8 le, .slice a' k c'], rfl, HX.out _ _ ?_, belowS F3.out (by omega)⟩
      refine FldsAt.keep HF3.out (fun b hb' _ => setRow_other _ _ _ _ ?_) (fun b h _ => ?_)
      · have h : W1.heap.size ≤ b := hb'
        have := Z1.out; omega
      · have h' : W1.heap.size ≤ b := h
        have := Z1.out
        show w.heap.size ≤ b; omega
end Go.Proofs.YtpdldbapagchfaaGreatDoor

/- The references' comparisons: fields, records, versions. -/
namespace Go.Proofs.YtpdldbapagchfaaGreatDoor
open Go.RowKit Go.Shelf Go.Maps

theorem FldR.expl {S : Nat → Prop} {w : World} {cs : List Value} {x : Fld} (h : FldR S w cs x) : ∃ a c, cs = [.string x.tag, .string x.ind, .string x.data, .slice a x.subs.length c] ∧ SubsAt S w (.slice a x.subs.length c) x.subs := by
  obtain ⟨sv, rfl, h⟩ := h
  have h' := h
  obtain ⟨a, c, rfl, _⟩ := h; exact ⟨a, c, rfl, h'⟩
theorem bytes_eq {a b : ByteArray} (h : a.toList = b.toList) : a = b := (Lib.bytes_beq_iff a b).1 (by simpa using h)
theorem range2 {w : World} {b o : Nat} {u v : Value} (h : w.rangeAt b o [u, v]) : w.cell? ⟨b, o, none⟩ = some u ∧ w.cell? ⟨b, o + 1, none⟩ = some v := ⟨h 0 u rfl, h 1 v rfl⟩
set_option maxRecDepth 100000 in
theorem neq_sub (a b : Sub) (W : World) : (binOp .neq 54 (.agg #[.int .u8 a.c, .string a.t]) (.agg #[.int .u8 b.c, .string b.t])).run Tryz.prog W = .ok (.bool (!decide (a = b))) W := by
  obtain ⟨c, t⟩ := a
  obtain ⟨d, u⟩ := b
  dsimp only
  have e : decide ((⟨c, t⟩ : Sub) = ⟨d, u⟩) = (((c : Int) == (d : Int)) && (t.toList == u.toList)) := by
    rw [Bool.eq_iff_iff, decide_eq_true_iff, Bool.and_eq_true, Lib.bytes_beq_iff, beq_iff_eq, Sub.mk.injEq]
    exact ⟨fun h => ⟨by omega, h.2⟩, fun h => ⟨by omega, h.2⟩⟩
  rw [e]
  clear e
  go_simp
  by_cases h1 : (c : Int) = d <;> by_cases h2 : t.toList = u.toList <;> simp [h1, h2]
set_option maxRecDepth 100000 in
set_option maxHeartbeats 2000000 in
theorem sameField_any (S S' : Nat → Prop) {w : World} {cs ds : List Value} {f g : Fld} (hf : FldR S w cs f) (hg : FldR S' w ds g) (hl : f.subs.length ≤ 1000) (hl' : g.subs.length ≤ 1000) :
    Calls Tryz.prog 22 #[.agg cs.toArray, .agg ds.toArray] w fun e w' => e = .returned (.bool (decide (f = g))) ∧ Below w.heap.size w w' := by
  obtain ⟨fa, fc, rfl, hfs⟩ := hf.expl
  obtain ⟨ga, gc, rfl, hgs⟩ := hg.expl
  clear hf hg
  obtain ⟨t1, i1, d1, s1⟩ := f
  obtain ⟨t2, i2, d2, s2⟩ := g
  dsimp only at *
  have HD : RowKit.Hid (∀ j, (∀ i, i < j → s1[i]? = s2[i]?) → s1.length = s2.length → j = s1.length → s1 = s2) := Lib.hid fun j h1 h2 h3 => List.ext_getElem? fun i => by
    by_cases h : i < j
    · exact h1 i h
    · rw [List.getElem?_eq_none (by omega), List.getElem?_eq_none (by omega)]
  obtain ⟨n, hn⟩ : ∃ n, n = s1.length := ⟨_, rfl⟩
  obtain ⟨m, hm⟩ : ∃ m, m = s2.length := ⟨_, rfl⟩
  rw [← hn] at hfs hl ⊢
  rw [← hm] at hgs hl' ⊢
  have HF := Lib.hid hfs
  have HG := Lib.hid hgs
  have N1 := Lib.hid hn
  have N2 := Lib.hid hm
  clear hfs hgs hn hm
  go_enter Tryz.func22, Tryz.ntmps22
  have HB : RowKit.Hid (∀ p q, Below w.heap.size w ((w.alloc p).alloc q)) := Lib.hid fun p q => ((Below.refl _ _).alloc (Nat.le_refl _) _).alloc (by simp) _
  go_wp2_with fail
  rotate_left 1
  · have h1 := bytes_eq ‹t1.toList = t2.toList›
    have h2 := bytes_eq ‹i1.toList = i2.toList›
    have h3 := bytes_eq ‹d1.toList = d2.toList›
    obtain rfl : n = m := by have h4 := ‹((n : Int) != (m : Int)) = false›; simp at h4; omega
    subst h1 h2 h3
    simp only [bne_self_eq_false] at *
    go_loopw [5] (fun i wr => ∃ k : Nat, k ≤ n ∧ i = .int .i64 k ∧ Below w.heap.size w wr ∧ wr.cell? ⟨w.heap.size, 3, none⟩ = some (.slice fa n fc) ∧ wr.cell? ⟨w.heap.size + 1, 3, none⟩ = some (.slice ga n gc) ∧ ∀ j, j < k → s1[j]? = s2[j]?) (fun i _ => n - (intOf i).toNat)
    case atStart => exact ⟨0, by omega, rfl, HB.out _ _, (Blk.new _ _ _).alloc _ |>.cell 3, Blk.at_new (by simp) _ _ |>.cell 3, fun j hj => by omega⟩
    case round =>
      obtain ⟨k, hk, rfl, hb, c3, d3, hall⟩ := hrel
      have HBr := Lib.hid hb
      have HA := Lib.hid hall
      clear hb hall
      by_cases hlt : k < n
      · have hlx : k < s1.length := by rw [← N1.out]; exact hlt
        have hly : k < s2.length := by rw [← N2.out]; exact hlt
        obtain ⟨b1, o1, cap1, cs1, e1, _, _, hR1, _, hg1, _⟩ := SlOf.range (by omega) (SubsAt.keep HF.out (Stay.of_below HBr.out) (fun _ h _ => h)) hlx
        obtain ⟨b2, o2, cap2, cs2, e2, _, _, hR2, _, hg2, _⟩ := SlOf.range (by omega) (SubsAt.keep HG.out (Stay.of_below HBr.out) (fun _ h _ => h)) hly
        have e1' : fa = some ⟨b1, o1, none⟩ := by injection e1
        have e2' : ga = some ⟨b2, o2, none⟩ := by injection e2
        clear e1 e2
        subst e1' e2'
        obtain ⟨x, hx⟩ : ∃ x, x = s1[k] := ⟨_, rfl⟩
        obtain ⟨y, hy⟩ : ∃ y, y = s2[k] := ⟨_, rfl⟩
        rw [← hx] at hR1
        rw [← hy] at hR2
        have HX : RowKit.Hid (s1[k]? = some x) := Lib.hid (by rw [hx]; exact List.getElem?_eq_getElem _)
        have HY : RowKit.Hid (s2[k]? = some y) := Lib.hid (by rw [hy]; exact List.getElem?_eq_getElem _)
        unfold SubR at hR1 hR2
        subst hR1 hR2
        obtain ⟨p0, p1⟩ := range2 hg1
        obtain ⟨q0, q1⟩ := range2 hg2
        have hq := neq_sub x y
        clear hg1 hg2 hx hy
        by_cases hxy : x = y
        · rw [decide_eq_true hxy] at hq
          have HXY := Lib.hid hxy
          clear hxy
          go_wp2_with fail
          go_quiet (fail)
          go_wp2_with fail
          exact ⟨⟨k + 1, hlt, by go_num, bdrewN HBr.out _, c3, d3, fun j hj => by
            by_cases e : j = k
            · subst e; rw [HX.out, HY.out, HXY.out]
            · exact HA.out j (by omega)⟩, by simp [intOf]; omega⟩
        · rw [decide_eq_false hxy] at hq
          have HXY := Lib.hid hxy
          clear hxy
          go_wp2_with fail
          go_quiet (fail)
          go_wp2_with fail
          go_ret
          exact ⟨ret_bool (by symm; rw [decide_eq_false_iff_not]; intro e; injection e with e1 e2 e3 e4; have := HX.out; rw [e4, HY.out] at this; injection this with this; exact HXY.out this.symm), bdrewN HBr.out _⟩
      · obtain rfl : k = n := by omega
        go_wp2_with fail
        go_ret
        exact ⟨ret_bool (by rw [decide_eq_true]; rw [HD.out k HA.out (by rw [← N1.out, ← N2.out]) N1.out]), HBr.out⟩
  · next h => go_ret; exact ⟨ret_bool (by symm; rw [decide_eq_false_iff_not]; intro e; injection e with e1 e2 e3 e4; exact h (by rw [e3])), HB.out _ _⟩
  · next h => go_ret; exact ⟨ret_bool (by symm; rw [decide_eq_false_iff_not]; intro e; injection e with e1 e2 e3 e4; exact h (by rw [e2])), HB.out _ _⟩
  · next h => go_ret; exact ⟨ret_bool (by symm; rw [decide_eq_false_iff_not]; intro e; injection e with e1 e2 e3 e4; exact h (by rw [e1])), HB.out _ _⟩
  · next h => go_ret; exact ⟨ret_bool (by symm; rw [decide_eq_false_iff_not]; intro e; injection e with e1 e2 e3 e4; have h1 := N1.out; have h2 := N2.out; rw [e4] at h1; rw [h1, h2] at h; simp at h), HB.out _ _⟩
end Go.Proofs.YtpdldbapagchfaaGreatDoor
