/- Maps as functions of their keys; keys that are deals. -/
import Derived.Test.YtpdldbapagchfaaGreatDoorQ02
import Derived.Test.YtpdldbapagchfaaGreatDoorProg
import Derived.DeepKeys4
import Derived.Maps.Own
import Derived.Maps.OwnSet
import Derived.Maps.OwnOps
import Derived.Maps.Views
import Derived.Laws.AppendOwnNone
import Derived.Lib.OthersKept
set_option linter.unusedVariables false
set_option linter.unusedSimpArgs false

namespace Go.Proofs.YtpdldbapagchfaaGreatDoor
open Go.RowKit Go.Shelf Go.Maps Go.ChangeMaps

/-- The map as read: what is at the keys. -/
structure RepL (D : DataW Unit) (f : Lit → Option (DataW Unit)) : Prop where
  isMap : IsMap D
  at_ : ∀ l z, D.atKey l z = (f l).getD z
  has : ∀ l, Maps.has D l = (f l).isSome
theorem repL_nil : RepL (.map []) (fun _ => none) where
  isMap := Maps.isMap_empty
  at_ := by intro x z; simp [DataW.atKey]
  has := by intro x; simp [Maps.has]
open Classical in
noncomputable def updL (f : Lit → Option (DataW Unit)) (l : Lit) (d : DataW Unit) : Lit → Option (DataW Unit) := fun x => if x = l then some d else f x
theorem repL_put {D : DataW Unit} {f : Lit → Option (DataW Unit)} {l : Lit} {d : DataW Unit} (h : RepL D f) (hl : WideAt.IsKeyLit l) : RepL (D.put l d) (updL f l d) where
  isMap := h.isMap.put _ _
  at_ := by
    intro y z
    unfold updL
    by_cases e : y = l
    · subst e
      rw [Maps.atKey_put_same h.isMap hl, if_pos rfl]; rfl
    · rw [Maps.atKey_put_other e, h.at_, if_neg e]
  has := by
    intro y
    unfold updL
    by_cases e : y = l
    · subst e
      rw [Maps.has_put_same h.isMap hl, if_pos rfl]; rfl
    · rw [Maps.has_put_other e, h.has, if_neg e]
/-- Block b is such a map. -/
def MapF (w : World) (P : Program) (k : TypeId) (R : Value → Option (DataW Unit × List MemPlace)) (b n : Nat) (f : Lit → Option (DataW Unit)) : Prop := ∃ D, w.ownsMap P k R b n D ∧ RepL D f
theorem MapF.keep {w w' : World} {P : Program} {k : TypeId} {R : Value → Option (DataW Unit × List MemPlace)} {F : Nat → Prop} {b n : Nat} {f : Lit → Option (DataW Unit)} (h : MapF w P k R b n f) (t : Tn F w w') (hn : ¬ F b) : MapF w' P k R b n f := by
  obtain ⟨D, h1, h2⟩ := h
  exact ⟨D, t.map h1 hn, h2⟩
theorem MapF.lt {w : World} {P : Program} {k : TypeId} {R : Value → Option (DataW Unit × List MemPlace)} {b n : Nat} {f : Lit → Option (DataW Unit)} (h : MapF w P k R b n f) : b < w.heap.size := by
  obtain ⟨D, h1, h2⟩ := h; exact h1.lt
theorem MapF.mono {w : World} {P : Program} {k : TypeId} {R : Value → Option (DataW Unit × List MemPlace)} {b n m : Nat} {f : Lit → Option (DataW Unit)} (h : MapF w P k R b n f) (hm : n ≤ m) : MapF w P k R b m f := by
  obtain ⟨D, h1, h2⟩ := h; exact ⟨D, h1.mono hm, h2⟩
theorem MapF.new (w : World) (P : Program) (k : TypeId) (R : Value → Option (DataW Unit × List MemPlace)) : MapF (w.alloc (.map #[] 0)) P k R w.heap.size 0 (fun _ => none) := ⟨_, World.ownsMap_made w P k R, repL_nil⟩
section
variable {w : World} {P : Program} {k t e : TypeId} {R : Value → Option (DataW Unit × List MemPlace)} {b n : Nat} {f : Lit → Option (DataW Unit)}
theorem MapF.look (h : MapF w P k R b n f) (K : Keyed P k) (ht : P.underlying t = some (.map k e)) {z : Value} (hz : (zeroValue e).run P w = .ok z w) {zd : DataW Unit} {zp : List MemPlace} (hzd : R z = some (zd, zp)) {key : Value} {l : Lit} (hk : keyOf P k key = some l) :
    ∃ v ps, (Instr.lookup t (.map (some b)) key false).run P w = .ok v w ∧ R v = some ((f l).getD zd, ps) := by
  obtain ⟨D, h1, h2⟩ := h
  obtain ⟨v, ps, hr, hv⟩ := h1.lookup K ht hz hzd hk
  exact ⟨v, ps, hr, by rw [← h2.at_]; exact hv⟩
theorem MapF.look_ok (h : MapF w P k R b n f) (K : Keyed P k) (ht : P.underlying t = some (.map k e)) {z : Value} (hz : (zeroValue e).run P w = .ok z w) {zd : DataW Unit} {zp : List MemPlace} (hzd : R z = some (zd, zp)) {key : Value} {l : Lit} (hk : keyOf P k key = some l) :
    ∃ v ps, (Instr.lookup t (.map (some b)) key true).run P w = .ok (.tuple #[v, .bool (f l).isSome]) w ∧ R v = some ((f l).getD zd, ps) := by
  obtain ⟨D, h1, h2⟩ := h
  obtain ⟨v, ps, hr, hv⟩ := h1.look_ok K ht hz hzd hk
  exact ⟨v, ps, by rw [← h2.has]; exact hr, by rw [← h2.at_]; exact hv⟩
theorem MapF.put (h : MapF w P k R b n f) (K : Keyed P k) (ht : P.underlying t = some (.map k e)) (hn : n < maxLen) {key val : Value} {l : Lit} {d : DataW Unit} {ps : List MemPlace} (hk : keyOf P k key = some l) (hv : R val = some (d, ps)) :
    ∃ w', (Instr.mapUpdate t (.map (some b)) key val).run P w = .ok () w' ∧ MapF w' P k R b (n + 1) (updL f l d) ∧ w.grownBy w' (some b) := by
  obtain ⟨D, h1, h2⟩ := h
  obtain ⟨w', hr, ho, hg⟩ := h1.update K ht hn hk hv
  exact ⟨w', hr, ⟨_, ho, repL_put h2 (K.key hk)⟩, hg⟩
end
/-! Keys that are deals. -/
theorem laidOut_ : laidOutB Tryz.prog = true := by kernel_rfl
end Go.Proofs.YtpdldbapagchfaaGreatDoor

/- Rows that are appended to, whatever comes. -/
namespace Go.Proofs.YtpdldbapagchfaaGreatDoor
open Go.RowKit Go.Shelf Go.Maps

theorem run_append_none_c {P : Program} {w : World} (base : Nat) (t ty e : TypeId) (i : TypeInfo) (size : Nat) (ht : P.underlying t = some (.slice e)) (hi : P.info? e = some i)
    (v : Value) (n : Nat) (xs : List Value) (hown : w.ownsRow base e size v n xs) (c : Nat) :
    (Builtin.append_ #[t, t] ty #[v, .slice none 0 c]).run P w = .ok v w := by
  rcases hown.2 with ⟨rfl, rfl⟩ | ⟨g, cap, cur, rfl, _, _, hnc, _⟩
  · simp [Builtin.append_, run_underlying ht, sizeOf, typeInfo, hi, Builtin.lenOf, Builtin.firstCells]
  · simp [Builtin.append_, run_underlying ht, sizeOf, typeInfo, hi, Builtin.lenOf, Builtin.firstCells, hnc, storeCells]
/-- What is appended: nothing, or cells that lie somewhere. -/
def Src (W : World) (size m : Nat) (ys : List Value) (y : Value) : Prop :=
  (∃ c, y = .slice none 0 c ∧ m = 0 ∧ ys = []) ∨ ∃ ad c, y = .slice (some ad) m c ∧ ys.length = m * size ∧ ∀ j u, ys[j]? = some u → W.cell? (ad.add j) = some u
/-- An append to a row of one's own, whatever comes. -/
theorem wp_append_all {P : Program} {W : World} {o : Oper} {a : Act} {K : Act → World → Prop} {Q : Exit → Act → World → Prop} (s x : Operand) (t : TypeId)
    (ho : o.op = .call { callee := .builtin .append, args := #[s, x], argTypes := #[t, t] })
    (base : Nat) (e : TypeId) (i : TypeInfo) (z : Value) (size bytes : Nat) (ht : P.underlying t = some (.slice e)) (hi : P.info? e = some i) (hz : i.zero = some z)
    (hsize : i.size = size) (hby : i.bytes = bytes) (hzs : z.cells.size = size) (hsz : 0 < size)
    (v : Value) (n : Nat) (xs : List Value) (hs : a.eval s = v) (hown : W.ownsRow base e size v n xs)
    (m : Nat) (ys : List Value) (y : Value) (hx : a.eval x = y) (hy : Src W size m ys y) (h1 : ∀ u ∈ ys, u.oneCell' = true)
    (h63 : n + m ≤ maxLen) (hbytes : (n + m) * bytes ≤ 140737488355328) (hbase : base ≤ W.heap.size)
    (h : ∀ v' w', w'.ownsRow base e size v' (n + m) (xs ++ ys) → W.grownBy w' v.ownBlock → (v'.ownBlock = v.ownBlock ∨ v'.ownBlock = some W.heap.size) → K (a.put o.dst v') w') :
    Oper.wp P o a W K Q := by
  rcases hy with ⟨c, rfl, rfl, rfl⟩ | ⟨ad, c, rfl, hl, hc⟩
  · have hrun := run_append_none_c (P := P) (w := W) base t o.type e i size ht hi v n xs hown c
    unfold Oper.wp
    simp [execOp, ho, resolve, invoke, builtin, hs, hx, hrun, Result.andThen]
    exact h _ _ (by simpa using hown) (World.grownBy.refl W _) (.inl rfl)
  · obtain ⟨v', w', hr, h2, h3, h4, h5⟩ := run_append_own_at (P := P) W base t o.type e i z size bytes ht hi hz hsize hby hzs hsz v n xs hown ad m c ys hl hc h1 h63 hbytes hbase
    unfold Oper.wp execOp
    simp only [ho, resolve, invoke, builtin, Sem.run_bind, Sem.run_pure, Result.andThen_ok, List.map_toArray, List.map_cons, List.map_nil, hs, hx, hr]
    exact h v' w' h2 h3 h5
theorem wpList_append_all {P : Program} {ops : Array Oper} {rest : List Oper} {W : World} {o : Oper} {a : Act} {Q : Exit → Act → World → Prop} (hgd : o.guard = none) (s x : Operand) (t : TypeId)
    (ho : o.op = .call { callee := .builtin .append, args := #[s, x], argTypes := #[t, t] })
    (base : Nat) (e : TypeId) (i : TypeInfo) (z : Value) (size bytes : Nat) (ht : P.underlying t = some (.slice e)) (hi : P.info? e = some i) (hz : i.zero = some z)
    (hsize : i.size = size) (hby : i.bytes = bytes) (hzs : z.cells.size = size) (hsz : 0 < size)
    (v : Value) (n : Nat) (xs : List Value) (hs : a.eval s = v) (hown : W.ownsRow base e size v n xs)
    (m : Nat) (ys : List Value) (y : Value) (hx : a.eval x = y) (hy : Src W size m ys y) (h1 : ∀ u ∈ ys, u.oneCell' = true)
    (h63 : n + m ≤ maxLen) (hbytes : (n + m) * bytes ≤ 140737488355328) (hbase : base ≤ W.heap.size)
    (h : ∀ v' w', w'.ownsRow base e size v' (n + m) (xs ++ ys) → W.grownBy w' v.ownBlock → (v'.ownBlock = v.ownBlock ∨ v'.ownBlock = some W.heap.size) → wpList P ops Q rest (a.put o.dst v') w') :
    wpList P ops Q (o :: rest) a W :=
  wpList_plain hgd fun K hK => wp_append_all s x t ho base e i z size bytes ht hi hz hsize hby hzs hsz v n xs hs hown m ys y hx hy h1 h63 hbytes hbase fun v' w' h2 h3 h5 => hK _ _ (h v' w' h2 h3 h5)
/-- A row's cells. -/
theorem row_cellz {w : World} {B : Nat} {e : TypeId} {z n : Nat} {v : Value} {xs : List Value} (h : w.ownsRow B e z v n xs) : ∃ a cap, v = .slice a n cap ∧ n ≤ cap ∧ cap ≤ maxLen ∧ xs.length = n * z ∧ ((n = 0 ∧ cap = 0 ∧ a = none) ∨ ∃ g, a = some ⟨g, 0, none⟩ ∧ v.ownBlock = some g ∧ B ≤ g ∧ g < w.heap.size ∧ ∀ j u, xs[j]? = some u → w.cell? ⟨g, j, none⟩ = some u) := by
  obtain ⟨h0, ⟨rfl, hn⟩ | ⟨g, c', cur, rfl, hg, hh, hn, hm, hcs, hx⟩⟩ := h
  · exact ⟨none, 0, by rw [hn], by omega, by omega, h0, .inl ⟨hn, rfl, rfl⟩⟩
  · refine ⟨_, _, rfl, hn, hm, h0, .inr ⟨g, rfl, rfl, hg, heap_lt hh, fun j u hj => ?_⟩⟩
    have hjl : j < xs.length := (List.getElem?_eq_some_iff.1 hj).1
    simp only [World.cell?, hh]
    rw [← hx] at hj
    rw [List.getElem?_take_of_lt (by rw [← h0]; exact hjl)] at hj
    simpa using hj
theorem row_fresh (w : World) (B : Nat) (xs : Array Value) (T : TypeId) (z n : Nat) (hx : xs.size = n * z) (hm : n ≤ maxLen) (hB : B ≤ w.heap.size) : (w.alloc (.cells xs T)).ownsRow B T z (.slice (some ⟨w.heap.size, 0, none⟩) n n) n xs.toList := by
  refine ⟨by simpa using hx, .inr ⟨w.heap.size, n, xs, rfl, hB, Blk.new w xs T, Nat.le_refl _, hm, hx, ?_⟩⟩
  rw [List.take_of_length_le (by simp [hx])]
theorem row_fresh' {g : Nat} (w : World) (hg : g = w.heap.size) (B : Nat) (xs : Array Value) (T : TypeId) (z n : Nat) (hx : xs.size = n * z) (hm : n ≤ maxLen) (hB : B ≤ w.heap.size) : (w.alloc (.cells xs T)).ownsRow B T z (.slice (some ⟨g, 0, none⟩) n n) n xs.toList := by
  subst hg; exact row_fresh w B xs T z n hx hm hB
theorem src_take {W : World} {g n cap z k : Nat} {xs : List Value} (hl : xs.length = n * z) (hk : k ≤ n) (h : ∀ j u, xs[j]? = some u → W.cell? ⟨g, j, none⟩ = some u) : Src W z k (xs.take (k * z)) (.slice (some ⟨g, 0, none⟩) k cap) := by
  refine .inr ⟨_, cap, rfl, ?_, fun j u hu => ?_⟩
  · rw [List.length_take, hl]; exact Nat.min_eq_left (Nat.mul_le_mul_right z hk)
  · rw [add_of]
    have hj := (List.getElem?_eq_some_iff.1 hu).1
    rw [List.length_take] at hj
    rw [List.getElem?_take_of_lt (by omega)] at hu
    exact h j u hu
theorem src_drop {W : World} {g n cap z k o : Nat} {xs : List Value} (ho : o = k * z) (hl : xs.length = n * z) (hk : k ≤ n) (h : ∀ j u, xs[j]? = some u → W.cell? ⟨g, j, none⟩ = some u) : Src W z (n - k) (xs.drop (k * z)) (.slice (some ⟨g, o, none⟩) (n - k) cap) := by
  subst ho
  refine .inr ⟨_, cap, rfl, ?_, fun j u hu => ?_⟩
  · rw [List.length_drop, hl, Nat.sub_mul]
  · rw [add_off]
    rw [List.getElem?_drop] at hu
    exact h _ u hu
theorem src_none {W : World} {z n k : Nat} {xs : List Value} (hl : xs.length = n * z) (hk : k = n) (a : Option Addr) (c : Nat) : Src W z (n - k) (xs.drop (k * z)) (.slice a 0 c) := by
  subst hk
  have e : xs.drop (k * z) = [] := List.drop_of_length_le (by omega)
  rw [e, Nat.sub_self]
  cases a with
  | none => exact .inl ⟨c, rfl, rfl, rfl⟩
  | some ad => exact .inr ⟨ad, c, rfl, by simp, fun j u hu => by simp at hu⟩
theorem Src.below {W W' : World} {z m : Nat} {ys : List Value} {y : Value} (h : Src W z m ys y) (hb : Below W.heap.size W W') : Src W' z m ys y := by
  rcases h with h | ⟨ad, c, e, hl, hc⟩
  · exact .inl h
  · exact .inr ⟨ad, c, e, hl, fun j u hu => Below.cellE hb (hc j u hu)⟩
theorem src_row {W : World} {B n z : Nat} {e : TypeId} {v : Value} {xs : List Value} (h : W.ownsRow B e z v n xs) : Src W z n xs v := by
  obtain ⟨a, cap, rfl, _, _, hl, ⟨rfl, rfl, rfl⟩ | ⟨g, rfl, _, _, _, hc⟩⟩ := row_cellz h
  · exact .inl ⟨0, rfl, rfl, List.eq_nil_of_length_eq_zero (by simpa using hl)⟩
  · exact .inr ⟨_, cap, rfl, hl, fun j u hu => by rw [add_of]; exact hc j u hu⟩
theorem news_same {W W' : World} {g : Nat} {xs : List Value} (hb : Below W.heap.size W W') (hg : g < W.heap.size) (h : ∀ j u, xs[j]? = some u → W.cell? ⟨g, j, none⟩ = some u) : ∀ j u, xs[j]? = some u → W'.cell? ⟨g, j, none⟩ = some u := fun j u hu => (hb.cell (p := ⟨g, j, none⟩) hg).trans (h j u hu)
theorem src_drop' {W : World} {g n z k o : Nat} {xs : List Value} (ho : o = k * z) (hl : xs.length = n * z) (hk : k ≤ n) (h : ∀ j u, xs[j]? = some u → W.cell? ⟨g, j, none⟩ = some u) {m : Nat} (hm : m = n - k) {c : Nat} : Src W z m (xs.drop (k * z)) (.slice (some ⟨g, o, none⟩) m c) := by
  subst hm; exact src_drop ho hl hk h
theorem src_none' {W : World} {z n k : Nat} {xs : List Value} (hl : xs.length = n * z) (hk : n ≤ k) {m : Nat} (hm : m = 0) (a : Option Addr) (c : Nat) : Src W z m (xs.drop (k * z)) (.slice a 0 c) := by
  subst hm
  have e : xs.drop (k * z) = [] := List.drop_of_length_le (by rw [hl]; exact Nat.mul_le_mul_right z hk)
  rw [e]
  cases a with
  | none => exact .inl ⟨c, rfl, rfl, rfl⟩
  | some ad => exact .inr ⟨ad, c, rfl, by simp, fun j u hu => by simp at hu⟩
theorem below_grown {w w' w1 : World} {B : Nat} {row : Option Nat} (hb : Below B w w') (hB : B ≤ w'.heap.size) (hg : w'.grownBy w1 row) (hrow : ∀ r, row = some r → B ≤ r) : Below B w w1 :=
  hb.trans ⟨hg.os, hg.tape, hg.output, hg.size, fun b h => hg.block b (by omega) (fun e => by have := hrow b e.symm; omega)⟩
theorem Src.take' {W : World} {z n k cap : Nat} {xs : List Value} {a : Option Addr} (h : Src W z n xs (.slice a n cap)) (hk : k ≤ n) : Src W z k (xs.take (k * z)) (sliced a 0 k cap z) := by
  rcases h with ⟨c, e, h1, h2⟩ | ⟨ad, c, e, hl, hc⟩
  · injection e with e1 _ e3
    subst e1 h1 h2
    obtain rfl : k = 0 := by omega
    exact .inl ⟨cap, by simp [sliced], rfl, by simp⟩
  · injection e with e1 _ e3
    subst e1
    refine .inr ⟨ad, cap, by simp [sliced, Addr.add], ?_, fun j u hj => ?_⟩
    · rw [List.length_take, hl]; exact Nat.min_eq_left (Nat.mul_le_mul_right z hk)
    · have hj' := (List.getElem?_eq_some_iff.1 hj).1
      rw [List.length_take] at hj'
      rw [List.getElem?_take_of_lt (by omega)] at hj
      exact hc j u hj
theorem add_add (ad : Addr) (i j : Nat) (h : ad.spot = none) : (ad.add i).add j = ad.add (i + j) := by
  obtain ⟨b, o, s⟩ := ad
  obtain rfl : s = none := h
  rw [add_off, add_off, add_off, Nat.add_assoc]
theorem Src.drop' {W : World} {z n k cap : Nat} {xs : List Value} {a : Option Addr} (h : Src W z n xs (.slice a n cap)) (hk : k ≤ n) (hn : n ≤ cap) (hs : ∀ ad, a = some ad → ad.spot = none) : Src W z (n - k) (xs.drop (k * z)) (sliced a k n cap z) := by
  rcases h with ⟨c, e, h1, h2⟩ | ⟨ad, c, e, hl, hc⟩
  · injection e with e1 _ e3
    subst e1 h1 h2
    obtain rfl : k = 0 := by omega
    exact .inl ⟨cap, by simp [sliced], rfl, by simp⟩
  · injection e with e1 _ e3
    subst e1
    by_cases hq : cap = k
    · have e0 : n = k := by omega
      subst hq e0
      have : xs.drop (n * z) = [] := List.drop_of_length_le (by omega)
      rw [this]
      exact .inr ⟨ad, 0, by simp [sliced], by simp, fun j u hj => by simp at hj⟩
    · refine .inr ⟨ad.add (k * z), cap - k, by simp [sliced, hq], ?_, fun j u hj => ?_⟩
      · rw [List.length_drop, hl, Nat.sub_mul]
      · rw [add_add _ _ _ (hs _ rfl)]
        rw [List.getElem?_drop] at hj
        exact hc _ u hj
/-- A slice is cut: what lies ahead of k. -/
theorem wpList_cut_to {P : Program} {ops : Array Oper} {rest : List Oper} {W : World} {o : Oper} {a : Act} {Q : Exit → Act → World → Prop} (hgd : o.guard = none) (x y : Operand) (t : TypeId)
    (ho : o.op = .slice t x none (some y) none) (ht : P.underlying t = some (.slice (P.elem t))) {z : Nat} (hz : (P.info? (P.elem t)).map (·.size) = some z)
    (ad : Option Addr) (n cap : Nat) (hx : a.eval x = .slice ad n cap) (k : Nat) (hy : a.eval y = .int .i64 k) (hk : k ≤ cap)
    (hkn : k ≤ n) (h : ∀ y', (∀ W xs, Src W z n xs (.slice ad n cap) → Src W z k (xs.take (k * z)) y') → wpList P ops Q rest (a.put o.dst y') W) : wpList P ops Q (o :: rest) a W := by
  refine wpList_plain hgd fun K hK => ?_
  have hr := run_slice_h (P := P) (w := W) t ad n cap ht .i64 (k : Int) (by omega) (by omega)
  have hsz : (sizeOf (P.elem t)).run P W = .ok z W := by
    cases hq : P.info? (P.elem t) with
    | none => simp [hq] at hz
    | some i => simp [hq] at hz; simp [sizeOf, typeInfo, hq, hz]
  rw [hsz] at hr
  simp only [Result.andThen, Int.toNat_natCast] at hr
  unfold Oper.wp execOp
  simp only [ho, hx, hy, Option.map_some, Option.map_none, run_sliceAt_slice (w := W) t _ _ _ _ ht, Sem.run_bind, hr, Result.andThen]
  exact hK _ _ (h _ fun W xs hs => hs.take' hkn)
theorem wpList_cut_from {P : Program} {ops : Array Oper} {rest : List Oper} {W : World} {o : Oper} {a : Act} {Q : Exit → Act → World → Prop} (hgd : o.guard = none) (x y : Operand) (t : TypeId)
    (ho : o.op = .slice t x (some y) none none) (ht : P.underlying t = some (.slice (P.elem t))) {z : Nat} (hz : (P.info? (P.elem t)).map (·.size) = some z)
    (ad : Option Addr) (n cap : Nat) (hx : a.eval x = .slice ad n cap) (k : Nat) (hy : a.eval y = .int .i64 k) (hk : k ≤ n)
    (hnc : n ≤ cap) (hsp : ∀ p, ad = some p → p.spot = none) (h : ∀ y', (∀ W xs, Src W z n xs (.slice ad n cap) → Src W z (n - k) (xs.drop (k * z)) y') → wpList P ops Q rest (a.put o.dst y') W) : wpList P ops Q (o :: rest) a W := by
  refine wpList_plain hgd fun K hK => ?_
  have hr := run_slice_l (P := P) (w := W) t ad n cap ht .i64 (k : Int) (by omega) (by omega)
  have hsz : (sizeOf (P.elem t)).run P W = .ok z W := by
    cases hq : P.info? (P.elem t) with
    | none => simp [hq] at hz
    | some i => simp [hq] at hz; simp [sizeOf, typeInfo, hq, hz]
  rw [hsz] at hr
  simp only [Result.andThen, Int.toNat_natCast] at hr
  unfold Oper.wp execOp
  simp only [ho, hx, hy, Option.map_some, Option.map_none, run_sliceAt_slice (w := W) t _ _ _ _ ht, Sem.run_bind, hr, Result.andThen]
  exact hK _ _ (h _ fun W xs hs => hs.drop' hk hnc hsp)
end Go.Proofs.YtpdldbapagchfaaGreatDoor

/- The table of letters: Cut, alphabet. -/
namespace Go.Proofs.YtpdldbapagchfaaGreatDoor
open Go.RowKit Go.Shelf Go.Maps

/-- A row of the table: what stands ahead of the blank, and the letters. -/
def cutP (s : ByteArray) : ByteArray × ByteArray :=
  if 0 ≤ Lib.indexByte s.data.toList 32 then (s.extract 0 (Lib.indexByte s.data.toList 32).toNat, s.extract ((Lib.indexByte s.data.toList 32).toNat + 1) s.size) else (s, ⟨#[]⟩)
theorem indexByte_lt (c : UInt8) : ∀ l : List UInt8, Lib.indexByte l c < l.length ∧ -1 ≤ Lib.indexByte l c
  | [] => ⟨by show (-1 : Int) < 0; omega, by show (-1 : Int) ≤ -1; omega⟩
  | b :: l => by
    have ih := indexByte_lt c l
    unfold Lib.indexByte
    simp only [List.length_cons]
    split
    · omega
    · split
      · omega
      · omega
set_option maxRecDepth 100000 in
theorem cut1_any (s : ByteArray) (hs : s.size ≤ 100000) (w : World) : Calls Tryz.prog 137 #[.string s, .string ⟨#[32]⟩] w fun e w' => (∃ b, e = .returned (.tuple #[.string (cutP s).1, .string (cutP s).2, .bool b])) ∧ ∃ n, w' = w.drewN n := by
  have HI := Lib.hid (Tryz.stringslite_Index_one s 32 w)
  have hb := indexByte_lt 32 s.data.toList
  have hsz : s.data.toList.length = s.size := Array.length_toList
  rw [hsz] at hb
  obtain ⟨i, hi⟩ : ∃ i, i = Lib.indexByte s.data.toList 32 := ⟨_, rfl⟩
  have HC : RowKit.Hid (cutP s = if 0 ≤ i then (s.extract 0 i.toNat, s.extract (i.toNat + 1) s.size) else (s, ⟨#[]⟩)) := Lib.hid (by rw [hi]; rfl)
  rw [← hi] at HI hb
  clear hi hsz
  go_enter Tryz.func137, Tryz.ntmps137
  go_wp2_with fail
  refine HI.out.mono ?_
  rintro e w' ⟨rfl, rfl⟩
  by_cases h0 : 0 ≤ i
  · obtain ⟨k, rfl⟩ : ∃ k : Nat, i = k := ⟨i.toNat, by omega⟩
    have hk : k < s.size := by omega
    have hwr : IntKind.i64.wrap ((k : Int) + 1) = ((k + 1 : Nat) : Int) := by rw [IntKind.wrap_i64]; omega
    have HC2 : RowKit.Hid (cutP s = (s.extract 0 k, s.extract (k + 1) s.size)) := Lib.hid (by rw [HC.out, if_pos h0, Int.toNat_natCast])
    clear h0 hb HI
    go_wp2_with fail
    go_quiet (fail)
    go_wp2_with fail
    go_ret3
    rw [HC2.out]
    exact ⟨⟨_, rfl⟩, _, rfl⟩
  · go_wp2_with fail
    go_ret3
    rw [HC.out, if_neg (by omega)]
    exact ⟨⟨_, rfl⟩, 0, rfl⟩
set_option maxRecDepth 100000 in
theorem cut_any (s : ByteArray) (hs : s.size ≤ 100000) (w : World) : Calls Tryz.prog 136 #[.string s, .string ⟨#[32]⟩] w fun e w' => (∃ b, e = .returned (.tuple #[.string (cutP s).1, .string (cutP s).2, .bool b])) ∧ ∃ n, w' = w.drewN n := by
  have HC := Lib.hid (cut1_any s hs w)
  obtain ⟨p, hp⟩ : ∃ p, p = cutP s := ⟨_, rfl⟩
  rw [← hp] at HC ⊢
  obtain ⟨p1, p2⟩ := p
  dsimp only at HC ⊢
  clear hp
  go_enter Tryz.func136, Tryz.ntmps136
  go_wp2_with fail
  refine HC.out.mono ?_
  rintro e w' ⟨⟨b, rfl⟩, n, rfl⟩
  go_wp2_with fail
  go_ret3
  exact ⟨⟨_, rfl⟩, _, rfl⟩
theorem cutP_small (s : ByteArray) (hs : s.size ≤ 1000) : (cutP s).2.size ≤ 1000 := by
  unfold cutP
  split
  · simp [ByteArray.size_extract]; omega
  · exact Nat.zero_le _
/-- A row of the table as characters. -/
def rowP (s : ByteArray) : List UInt8 × List Nat := ((cutP s).1.data.toList, runes (cutP s).2)
theorem tabLast_snoc (s : List UInt8) (l : List Nat) (c : Nat) : ∀ rows : List (List UInt8 × List Nat), tabLast (rows ++ [(s, l)]) c = if c ∈ l then some s else tabLast rows c
  | [] => by simp [tabLast]
  | (s', l') :: rows => by
    rw [List.cons_append, tabLast, tabLast_snoc s l c rows]
    by_cases h : c ∈ l
    · simp [h]
    · simp only [h, if_false]; rw [tabLast]
theorem tabLast_more (s : List UInt8) (l : List Nat) (rows : List (List UInt8 × List Nat)) (d c : Nat) : tabLast (rows ++ [(s, l ++ [d])]) c = if c = d then some s else tabLast (rows ++ [(s, l)]) c := by
  rw [tabLast_snoc, tabLast_snoc]
  by_cases h : c = d
  · simp [h]
  · simp [h]
theorem tabLast_none0 (s : List UInt8) (rows : List (List UInt8 × List Nat)) (c : Nat) : tabLast (rows ++ [(s, [])]) c = tabLast rows c := by rw [tabLast_snoc]; simp
/-- A text reads as itself. -/
def RS (v : Value) : Option (DataW Unit × List MemPlace) :=
  match v with
  | .string s => some (.lit (.string s.data.toList), [])
  | _ => none
theorem RS_inv {v : Value} {l : List UInt8} {ps : List MemPlace} (h : RS v = some (.lit (.string l), ps)) : v = .string (ofL l) := by
  unfold RS at h
  split at h
  · simp only [Option.some.injEq, Prod.mk.injEq, DataW.lit.injEq, Lit.string.injEq] at h
    rw [← h.1, ofL_data]
  · cases h
def keyC (c : Nat) : Lit := .int .i32 c
def FitT (f : Lit → Option (DataW Unit)) (rows : List (List UInt8 × List Nat)) : Prop := ∀ c : Nat, c ≤ 2147483647 → f (keyC c) = (tabLast rows c).map fun t => DataW.lit (.string t)
theorem keyed32 : Keyed Tryz.prog 21 := Maps.int_keyed Tryz.underlying21
theorem keyOf32 {c : Nat} (h : c ≤ 2147483647) : keyOf Tryz.prog 21 (.int .i32 c) = some (keyC c) := Maps.keyOf_int_mk Tryz.underlying21 (by simp [Lit.wf, IntKind.min, IntKind.max, IntKind.bits, IntKind.signed]; omega)
theorem keyC_inj {c d : Nat} (h : keyC c = keyC d) : c = d := by unfold keyC at h; injection h with _ h; omega
theorem FitT.put {f : Lit → Option (DataW Unit)} {rows : List (List UInt8 × List Nat)} {s : List UInt8} {l : List Nat} (h : FitT f (rows ++ [(s, l)])) (d : Nat) : FitT (updL f (keyC d) (.lit (.string s))) (rows ++ [(s, l ++ [d])]) := fun c hc => by
  rw [tabLast_more]
  unfold updL
  by_cases e : c = d
  · subst e; rw [if_pos rfl, if_pos rfl]; rfl
  · rw [if_neg (fun h' => e (keyC_inj h')), if_neg e, h c hc]
set_option maxRecDepth 100000 in
set_option maxHeartbeats 2000000 in
theorem alphabet_any {w : World} {bk cap : Nat} {rs : List ByteArray} (hc : ∀ j x, rs[j]? = some x → w.cell? ⟨bk, j, none⟩ = some (.string x)) (hl : rs.length ≤ 100) (hs : ∀ x ∈ rs, x.size ≤ 1000) :
    Calls Tryz.prog 132 #[.slice (some ⟨bk, 0, none⟩) rs.length cap] w fun e w' => ∃ nn f, e = .returned (.map (some w.heap.size)) ∧ MapF w' Tryz.prog 21 RS w.heap.size nn f ∧ FitT f (rs.map rowP) ∧ Below w.heap.size w w' := by
  obtain ⟨n, hn⟩ : ∃ n, n = rs.length := ⟨_, rfl⟩
  rw [← hn] at hl ⊢
  have HN := Lib.hid hn
  have HC := Lib.hid hc
  have HS := Lib.hid hs
  clear hn hc hs
  have hmk := run_makeMap (P := Tryz.prog) 170
  go_enter Tryz.func132, Tryz.ntmps132
  go_wp2_with fail
  go_loopw [14] (fun i wr => ∃ (k nn : Nat) (f : Lit → Option (DataW Unit)), k ≤ n ∧ i = .int .i64 k ∧ Below w.heap.size w wr ∧ MapF wr Tryz.prog 21 RS w.heap.size nn f ∧ nn ≤ k * 1000 ∧ FitT f ((rs.take k).map rowP)) (fun i _ => n - (intOf i).toNat)
  case atStart => exact ⟨0, 0, _, by omega, rfl, (Below.refl _ _).alloc (Nat.le_refl _) _, MapF.new w Tryz.prog 21 RS, by omega, fun c _ => rfl⟩
  case round =>
    obtain ⟨k, nn, f, hk, rfl, hb, hmp, hnn, hft⟩ := hrel
    have HB := Lib.hid hb
    have HMP := Lib.hid hmp
    have HFT := Lib.hid hft
    clear hb hmp hft
    obtain ⟨wo, rfl⟩ : ∃ wo, wo = wr := ⟨_, rfl⟩
    by_cases hlt : k < n
    · have hlx : k < rs.length := by rw [← HN.out]; exact hlt
      obtain ⟨x, hx⟩ : ∃ x, x = rs[k] := ⟨_, rfl⟩
      have hcx : wo.cell? ⟨bk, k, none⟩ = some (.string x) := Below.cellE HB.out (HC.out k x (by rw [hx]; exact List.getElem?_eq_getElem _))
      have HSX : RowKit.Hid (x.size ≤ 1000) := Lib.hid (by rw [hx]; exact HS.out _ (List.getElem_mem _))
      have HE : RowKit.Hid ((rs.take (k + 1)).map rowP = (rs.take k).map rowP ++ [rowP x]) := Lib.hid (by rw [List.take_succ_eq_append_getElem hlx, List.map_append, hx]; rfl)
      clear hx
      go_wp2_with fail
      refine (cut_any x (by have := HSX.out; omega) _).mono ?_
      rintro e w2 ⟨⟨bb, rfl⟩, q, rfl⟩
      obtain ⟨fo, hfo⟩ : ∃ fo, fo = (cutP x).1 := ⟨_, rfl⟩
      obtain ⟨le, hle⟩ : ∃ le, le = (cutP x).2 := ⟨_, rfl⟩
      have HLS : RowKit.Hid (le.size ≤ 1000) := Lib.hid (by rw [hle]; exact cutP_small x HSX.out)
      have HRX : RowKit.Hid (rowP x = (fo.data.toList, runes le)) := Lib.hid (by unfold rowP; rw [hfo, hle])
      rw [← hfo, ← hle]
      clear hfo hle
      obtain ⟨W2, hW2⟩ : ∃ W2, W2 = wo.drewN q := ⟨_, rfl⟩
      have B2 : RowKit.Hid (Below w.heap.size w W2) := Lib.hid (by rw [hW2]; exact bdrewN HB.out _)
      have M2 : RowKit.Hid (MapF W2 Tryz.prog 21 RS w.heap.size nn f) := Lib.hid (by rw [hW2]; exact HMP.out.keep ((Tn.refl (fun _ => False) wo).drewN _) (fun h => h))
      rw [← hW2]
      clear hW2 hcx
      have hit0 : (W2.iter le 0).heap[W2.heap.size]? = some (.stringIter le 0) := World.iter_heap W2 le 0
      have B3 : RowKit.Hid (Below w.heap.size w (W2.iter le 0)) := Lib.hid (B2.out.alloc B2.out.size _)
      have M3 : RowKit.Hid (MapF (W2.iter le 0) Tryz.prog 21 RS w.heap.size nn f) := Lib.hid (M2.out.keep ((Tn.refl (fun _ => False) W2).alloc _) (fun h => h))
      have HI0 := Lib.hid hit0
      have hzl : w.heap.size < W2.heap.size := M2.out.lt
      clear hit0
      have HFT0 : RowKit.Hid (FitT f ((rs.take k).map rowP ++ [(fo.data.toList, [])])) := Lib.hid fun c hc => by rw [tabLast_none0]; exact HFT.out c hc
      obtain ⟨itb, hitb⟩ : ∃ itb, itb = W2.heap.size := ⟨_, rfl⟩
      go_wp2_with fail
      rw [← hitb] at HI0 ⊢
      have hzi : w.heap.size < itb := by omega
      have HIT := Lib.hid hitb
      clear hitb hzl
      go_loopw [] (fun wr => ∃ (pos nm : Nat) (g : Lit → Option (DataW Unit)) (vis : List Nat), wr.heap[itb]? = some (.stringIter le pos) ∧ Below w.heap.size w wr ∧ MapF wr Tryz.prog 21 RS w.heap.size nm g ∧ nm ≤ nn + vis.length ∧ vis ++ runesAt le pos = runes le ∧ FitT g ((rs.take k).map rowP ++ [(fo.data.toList, vis)])) (fun wr => le.size - wr.iterPos itb)
      case atStart => exact ⟨0, nn, f, [], HI0.out, B3.out, M3.out, by simp, rfl, HFT0.out⟩
      case round =>
        obtain ⟨pos, nm, g, vis, hit, hb, hmp, hnm, hvis, hfg⟩ := hrel
        have HBi := Lib.hid hb
        have HMi := Lib.hid hmp
        have HVI := Lib.hid hvis
        have HFG := Lib.hid hfg
        have hvl : vis.length ≤ 1000 := by have h1 := congrArg List.length hvis; rw [List.length_append] at h1; have h2 := runes_len le; have h3 := HLS.out; omega
        clear hb hmp hvis hfg
        by_cases hp : pos < le.size
        · have hnx : ∀ ty, (Instr.next (.pointer (some ⟨itb, 0, none⟩)) true ty).run Tryz.prog wr = _ := fun ty => Lib.run_next_any_at wr itb le pos ty hit hp
          have hit2 := Lib.iterAt_heap wr itb le pos (pos + (Utf8.decode le pos).2) hit
          have hd1 := decode_le le pos
          have hdp := dec_pos le pos hp
          obtain ⟨W4, hW4⟩ : ∃ W4, W4 = wr.iterAt itb le (pos + (Utf8.decode le pos).2) := ⟨_, rfl⟩
          have T4 : Tn (fun b => b = itb) wr W4 := by
            rw [hW4]; exact ⟨rfl, rfl, rfl, by rw [Lib.iterAt_size]; exact Nat.le_refl _, fun b _ hb => Lib.iterAt_other wr itb b le _ hb⟩
          have M4 : MapF W4 Tryz.prog 21 RS w.heap.size nm g := HMi.out.keep T4 (fun h => by omega)
          have B4 : RowKit.Hid (Below w.heap.size w W4) := Lib.hid (by rw [hW4]; exact Lib.below_iterAt HBi.out (by omega) le _)
          rw [← hW4] at hit2 hnx
          obtain ⟨c, hc⟩ : ∃ c, c = (Utf8.decode le pos).1 := ⟨_, rfl⟩
          rw [← hc] at hnx hd1
          obtain ⟨w5, hr5, hm5, hg5⟩ := M4.put keyed32 Tryz.underlying170 (by unfold maxLen; omega) (keyOf32 hd1) (val := .string fo) (d := .lit (.string fo.data.toList)) rfl
          have HIT5 : RowKit.Hid (w5.heap[itb]? = some (.stringIter le (pos + (Utf8.decode le pos).2))) := Lib.hid ((hg5.block itb (heap_lt hit2) (fun e => by injection e with e; omega)).trans hit2)
          have B5 : RowKit.Hid (Below w.heap.size w w5) := Lib.hid (below_grown B4.out B4.out.size hg5 (fun r e => by injection e with e; omega))
          have M5 := Lib.hid hm5
          have FG5 := Lib.hid (HFG.out.put c)
          have VI5 : RowKit.Hid ((vis ++ [c]) ++ runesAt le (pos + (Utf8.decode le pos).2) = runes le) := Lib.hid (by rw [← HVI.out, runesAt_step le hp, hc]; simp)
          have HIT0 := Lib.hid hit
          clear hW4 T4 M4 hm5 hg5 hit2 hc hit
          go_wp2_with fail
          go_roundw
          case rel => exact ⟨_, nm + 1, _, vis ++ [c], HIT5.out, B5.out, M5.out, by simp; omega, VI5.out, FG5.out⟩
          case measure =>
            simp only [World.iterPos, HIT5.out, HIT0.out]
            omega
        · have hnx : ∀ ty, (Instr.next (.pointer (some ⟨itb, 0, none⟩)) true ty).run Tryz.prog wr = _ := fun ty => Lib.run_next_end_at wr itb le pos ty hit hp
          have HFE : RowKit.Hid (FitT g ((rs.take (k + 1)).map rowP)) := Lib.hid (by
            have h1 := HVI.out
            rw [runesAt_end le hp, List.append_nil] at h1
            rw [HE.out, HRX.out, ← h1]; exact HFG.out)
          clear hit
          go_wp2_with fail
          exact ⟨⟨k + 1, nm, g, hlt, by go_num, HBi.out, HMi.out, by omega, HFE.out⟩, by simp [intOf]; omega⟩
    · obtain rfl : k = n := by omega
      go_wp2_with fail
      go_ret
      refine ⟨nn, f, rfl, HMP.out, ?_, HB.out⟩
      have := HFT.out
      rw [HN.out, List.take_length] at this
      exact this
end Go.Proofs.YtpdldbapagchfaaGreatDoor

/- The table of letters. -/
namespace Go.Proofs.YtpdldbapagchfaaGreatDoor
open Go.RowKit Go.Shelf Go.Maps

def rowsL : List ByteArray := [⟨#[97, 32, 195, 160, 195, 161, 195, 162, 195, 163, 195, 164, 195, 165, 196, 129, 196, 131, 196, 133, 195, 128, 195, 129, 195, 130, 195, 131, 195, 132, 195, 133, 196, 128, 196, 130, 196, 132]⟩,
  ⟨#[99, 32, 195, 167, 196, 135, 196, 137, 196, 139, 196, 141, 195, 135, 196, 134, 196, 136, 196, 138, 196, 140]⟩,
  ⟨#[100, 32, 196, 143, 196, 145, 195, 176, 196, 142, 196, 144, 195, 144]⟩,
  ⟨#[101, 32, 195, 168, 195, 169, 195, 170, 195, 171, 196, 147, 196, 149, 196, 151, 196, 153, 196, 155, 195, 136, 195, 137, 195, 138, 195, 139, 196, 146, 196, 148, 196, 150, 196, 152, 196, 154]⟩,
  ⟨#[103, 32, 196, 157, 196, 159, 196, 161, 196, 163, 196, 156, 196, 158, 196, 160, 196, 162]⟩,
  ⟨#[104, 32, 196, 165, 196, 167, 196, 164, 196, 166]⟩,
  ⟨#[105, 32, 195, 172, 195, 173, 195, 174, 195, 175, 196, 169, 196, 171, 196, 173, 196, 175, 196, 177, 195, 140, 195, 141, 195, 142, 195, 143, 196, 168, 196, 170, 196, 172, 196, 174, 196, 176]⟩,
  ⟨#[106, 32, 196, 181, 196, 180]⟩,
  ⟨#[107, 32, 196, 183, 196, 182]⟩,
  ⟨#[108, 32, 196, 186, 196, 188, 196, 190, 197, 130, 196, 185, 196, 187, 196, 189, 197, 129]⟩,
  ⟨#[110, 32, 195, 177, 197, 132, 197, 134, 197, 136, 195, 145, 197, 131, 197, 133, 197, 135]⟩,
  ⟨#[111, 32, 195, 178, 195, 179, 195, 180, 195, 181, 195, 182, 195, 184, 197, 141, 197, 143, 197, 145, 198, 161, 195, 146, 195, 147, 195, 148, 195, 149, 195, 150, 195, 152, 197, 140, 197, 142, 197, 144, 198, 160]⟩,
  ⟨#[114, 32, 197, 149, 197, 151, 197, 153, 197, 148, 197, 150, 197, 152]⟩,
  ⟨#[115, 32, 197, 155, 197, 157, 197, 159, 197, 161, 197, 154, 197, 156, 197, 158, 197, 160]⟩,
  ⟨#[116, 32, 197, 163, 197, 165, 197, 167, 197, 162, 197, 164, 197, 166]⟩,
  ⟨#[117, 32, 195, 185, 195, 186, 195, 187, 195, 188, 197, 169, 197, 171, 197, 173, 197, 175, 197, 177, 197, 179, 198, 176, 195, 153, 195, 154, 195, 155, 195, 156, 197, 168, 197, 170, 197, 172, 197, 174, 197, 176, 197, 178, 198, 175]⟩,
  ⟨#[119, 32, 197, 181, 197, 180]⟩,
  ⟨#[121, 32, 195, 189, 195, 191, 197, 183, 195, 157, 197, 184, 197, 182]⟩,
  ⟨#[122, 32, 197, 186, 197, 188, 197, 190, 197, 185, 197, 187, 197, 189]⟩,
  ⟨#[97, 101, 32, 195, 166, 195, 134]⟩,
  ⟨#[111, 101, 32, 197, 147, 197, 146]⟩,
  ⟨#[115, 115, 32, 195, 159]⟩,
  ⟨#[116, 104, 32, 195, 190, 195, 158]⟩,
  ⟨#[206, 177, 32, 206, 172, 206, 134]⟩,
  ⟨#[206, 181, 32, 206, 173, 206, 136]⟩,
  ⟨#[206, 183, 32, 206, 174, 206, 137]⟩,
  ⟨#[206, 185, 32, 206, 175, 207, 138, 206, 144, 206, 138, 206, 170]⟩,
  ⟨#[206, 191, 32, 207, 140, 206, 140]⟩,
  ⟨#[207, 133, 32, 207, 141, 207, 139, 206, 176, 206, 142, 206, 171]⟩,
  ⟨#[207, 137, 32, 207, 142, 206, 143]⟩,
  ⟨#[208, 181, 32, 209, 145, 208, 129]⟩]
/-- The table of letters. -/
def tabC (c : Nat) : Option (List UInt8) := tabLast (rowsL.map rowP) c
theorem rowsL_small : ∀ s ∈ rowsL, s.size ≤ 1000 := by decide +kernel
set_option maxRecDepth 100000 in
set_option maxHeartbeats 1000000 in
theorem letters_any (w : World) : Calls Tryz.prog 123 #[] w fun e w' => ∃ nn f, e = .returned (.map (some (w.heap.size + 1))) ∧ MapF w' Tryz.prog 21 RS (w.heap.size + 1) nn f ∧ (∀ c : Nat, c ≤ 2147483647 → f (keyC c) = (tabC c).map fun t => DataW.lit (.string t)) ∧ Below w.heap.size w w' := by
  obtain ⟨W1, hW1⟩ : ∃ W1, W1 = w.alloc (.cells #[.string ⟨#[97, 32, 195, 160, 195, 161, 195, 162, 195, 163, 195, 164, 195, 165, 196, 129, 196, 131, 196, 133, 195, 128, 195, 129, 195, 130, 195, 131, 195, 132, 195, 133, 196, 128, 196, 130, 196, 132]⟩, .string ⟨#[99, 32, 195, 167, 196, 135, 196, 137, 196, 139, 196, 141, 195, 135, 196, 134, 196, 136, 196, 138, 196, 140]⟩, .string ⟨#[100, 32, 196, 143, 196, 145, 195, 176, 196, 142, 196, 144, 195, 144]⟩, .string ⟨#[101, 32, 195, 168, 195, 169, 195, 170, 195, 171, 196, 147, 196, 149, 196, 151, 196, 153, 196, 155, 195, 136, 195, 137, 195, 138, 195, 139, 196, 146, 196, 148, 196, 150, 196, 152, 196, 154]⟩, .string ⟨#[103, 32, 196, 157, 196, 159, 196, 161, 196, 163, 196, 156, 196, 158, 196, 160, 196, 162]⟩, .string ⟨#[104, 32, 196, 165, 196, 167, 196, 164, 196, 166]⟩, .string ⟨#[105, 32, 195, 172, 195, 173, 195, 174, 195, 175, 196, 169, 196, 171, 196, 173, 196, 175, 196, 177, 195, 140, 195, 141, 195, 142, 195, 143, 196, 168, 196, 170, 196, 172, 196, 174, 196, 176]⟩, .string ⟨#[106, 32, 196, 181, 196, 180]⟩, .string ⟨#[107, 32, 196, 183, 196, 182]⟩, .string ⟨#[108, 32, 196, 186, 196, 188, 196, 190, 197, 130, 196, 185, 196, 187, 196, 189, 197, 129]⟩, .string ⟨#[110, 32, 195, 177, 197, 132, 197, 134, 197, 136, 195, 145, 197, 131, 197, 133, 197, 135]⟩, .string ⟨#[111, 32, 195, 178, 195, 179, 195, 180, 195, 181, 195, 182, 195, 184, 197, 141, 197, 143, 197, 145, 198, 161, 195, 146, 195, 147, 195, 148, 195, 149, 195, 150, 195, 152, 197, 140, 197, 142, 197, 144, 198, 160]⟩, .string ⟨#[114, 32, 197, 149, 197, 151, 197, 153, 197, 148, 197, 150, 197, 152]⟩, .string ⟨#[115, 32, 197, 155, 197, 157, 197, 159, 197, 161, 197, 154, 197, 156, 197, 158, 197, 160]⟩, .string ⟨#[116, 32, 197, 163, 197, 165, 197, 167, 197, 162, 197, 164, 197, 166]⟩, .string ⟨#[117, 32, 195, 185, 195, 186, 195, 187, 195, 188, 197, 169, 197, 171, 197, 173, 197, 175, 197, 177, 197, 179, 198, 176, 195, 153, 195, 154, 195, 155, 195, 156, 197, 168, 197, 170, 197, 172, 197, 174, 197, 176, 197, 178, 198, 175]⟩, .string ⟨#[119, 32, 197, 181, 197, 180]⟩, .string ⟨#[121, 32, 195, 189, 195, 191, 197, 183, 195, 157, 197, 184, 197, 182]⟩, .string ⟨#[122, 32, 197, 186, 197, 188, 197, 190, 197, 185, 197, 187, 197, 189]⟩, .string ⟨#[97, 101, 32, 195, 166, 195, 134]⟩, .string ⟨#[111, 101, 32, 197, 147, 197, 146]⟩, .string ⟨#[115, 115, 32, 195, 159]⟩, .string ⟨#[116, 104, 32, 195, 190, 195, 158]⟩, .string ⟨#[206, 177, 32, 206, 172, 206, 134]⟩, .string ⟨#[206, 181, 32, 206, 173, 206, 136]⟩, .string ⟨#[206, 183, 32, 206, 174, 206, 137]⟩, .string ⟨#[206, 185, 32, 206, 175, 207, 138, 206, 144, 206, 138, 206, 170]⟩, .string ⟨#[206, 191, 32, 207, 140, 206, 140]⟩, .string ⟨#[207, 133, 32, 207, 141, 207, 139, 206, 176, 206, 142, 206, 171]⟩, .string ⟨#[207, 137, 32, 207, 142, 206, 143]⟩, .string ⟨#[208, 181, 32, 209, 145, 208, 129]⟩] 9) := ⟨_, rfl⟩
  have B1 : RowKit.Hid (Below w.heap.size w W1) := Lib.hid (by rw [hW1]; exact (Below.refl _ _).alloc (Nat.le_refl _) _)
  have Z1 : RowKit.Hid (W1.heap.size = w.heap.size + 1) := Lib.hid (by rw [hW1]; simp)
  have K1 : RowKit.Hid (Blk W1 w.heap.size (rowsL.map Value.string).toArray 9) := Lib.hid (by rw [hW1]; exact Blk.new _ _ _)
  have HA : RowKit.Hid (Calls Tryz.prog 132 #[.slice (some ⟨w.heap.size, 0, none⟩) 31 31] W1 fun e w' => ∃ nn f, e = .returned (.map (some W1.heap.size)) ∧ MapF w' Tryz.prog 21 RS W1.heap.size nn f ∧ FitT f (rowsL.map rowP) ∧ Below W1.heap.size W1 w') := Lib.hid (by
    refine alphabet_any (w := W1) (bk := w.heap.size) (cap := 31) (rs := rowsL) (fun j x hx => ?_) (by decide +kernel) rowsL_small
    rw [K1.out.cell j, List.getElem?_toArray, List.getElem?_map, hx]; rfl)
  go_enter Tryz.func123, Tryz.ntmps123
  go_wp2_with fail
  rw [← hW1]
  clear hW1
  refine HA.out.mono ?_
  rintro e w2 ⟨nn, f, rfl, hm, hf, hb⟩
  rw [Z1.out] at hm ⊢
  have HM := Lib.hid hm
  have HF := Lib.hid hf
  have HB := Lib.hid (B1.out.trans (hb.mono (by rw [Z1.out]; omega)))
  clear hm hf hb
  go_wp2_with fail
  go_ret
  exact ⟨nn, f, rfl, HM.out, HF.out, HB.out⟩
end Go.Proofs.YtpdldbapagchfaaGreatDoor
