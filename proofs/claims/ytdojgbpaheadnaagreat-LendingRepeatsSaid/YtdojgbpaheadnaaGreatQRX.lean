/- Rows that are appended to, whatever comes; a number put into a row in order, by the reference. -/
import Derived.Test.YtdojgbpaheadnaaGreatQP
import Derived.Test.YtdojgbpaheadnaaGreatQCR
import Derived.Test.YtdojgbpaheadnaaGreatQS
import Derived.Test.YtdojgbpaheadnaaGreatQCB
import Derived.Test.YtdojgbpaheadnaaGreatQA
import Derived.Laws.AppendOwnNone
set_option linter.unusedVariables false
set_option linter.unusedSimpArgs false

namespace Go.Proofs.YtdojgbpaheadnaaGreat
open Go.RowKit Go.Shelf Go.Maps

theorem run_append_none_c {P : Program} {w : World} (base : Nat) (t ty e : TypeId) (i : TypeInfo) (size : Nat) (ht : P.underlying t = some (.slice e)) (hi : P.info? e = some i)
  (v : Value) (n : Nat) (xs : List Value) (hown : w.ownsRow base e size v n xs) (c : Nat) :
  (Builtin.append_ #[t, t] ty #[v, .slice none 0 c]).run P w = .ok v w := by
 rcases hown.2 with ⟨rfl, rfl⟩ | ⟨g, cap, cur, rfl, _, _, hnc, _⟩
 ·simp [Builtin.append_, run_underlying ht, sizeOf, typeInfo, hi, Builtin.lenOf, Builtin.firstCells]
 ·simp [Builtin.append_, run_underlying ht, sizeOf, typeInfo, hi, Builtin.lenOf, Builtin.firstCells, hnc, storeCells]
def Src (W : World) (size m : Nat) (ys : List Value) (y : Value) : Prop :=
 (∃ c, y = .slice none 0 c ∧ m = 0 ∧ ys = []) ∨ ∃ ad c, y = .slice (some ad) m c ∧ ys.length = m * size ∧ ∀ j u, ys[j]? = some u → W.cell? (ad.add j) = some u
theorem wp_append_all {P : Program} {W : World} {o : Oper} {a : Act} {K : Act → World → Prop} {Q : Exit → Act → World → Prop} (s x : Operand) (t : TypeId)
  (ho : o.op = .call { callee := .builtin .append, args := #[s, x], argTypes := #[t, t] })
  (base : Nat) (e : TypeId) (i : TypeInfo) (z : Value) (size bytes : Nat) (ht : P.underlying t = some (.slice e)) (hi : P.info? e = some i) (hz : i.zero = some z)
  (hsize : i.size = size) (hby : i.bytes = bytes) (hzs : z.cells.size = size) (hsz : 0 < size)
  (v : Value) (n : Nat) (xs : List Value) (hs : a.eval s = v) (hown : W.ownsRow base e size v n xs)
  (m : Nat) (ys : List Value) (y : Value) (hx : a.eval x = y) (hy : Src W size m ys y) (h1 : ∀ u ∈ ys, u.oneCell' = true)
  (h63 : n + m ≤ maxLen) (hbytes : (n + m) * bytes ≤ 140737488355328) (hbase : base ≤ W.heap.size)
  (h : ∀ v' w', w'.ownsRow base e size v' (n + m) (xs ++ ys) → W.grownBy w' v.ownBlock → (v'.ownBlock = v.ownBlock ∨ v'.ownBlock = some W.heap.size) → K (a.put o.dst v') w') :
  Oper.wp P o a W K Q := by
 rcases hy with ⟨c, rfl, rfl, rfl⟩ | ⟨ad, c, rfl, hl, hc⟩
 ·have hrun := run_append_none_c (P := P) (w := W) base t o.type e i size ht hi v n xs hown c
  unfold Oper.wp
  simp [execOp, ho, resolve, invoke, builtin, hs, hx, hrun, Result.andThen]
  exact h _ _ (by simpa using hown) (World.grownBy.refl W _) (.inl rfl)
 ·obtain ⟨v', w', hr, h2, h3, h4, h5⟩ := run_append_own_at (P := P) W base t o.type e i z size bytes ht hi hz hsize hby hzs hsz v n xs hown ad m c ys hl hc h1 h63 hbytes hbase
  unfold Oper.wp execOp
  simp only [ho, resolve, invoke, builtin, Sem.run_bind, Sem.run_pure, Result.andThen_ok, List.map_toArray, List.map_cons, List.map_nil, hs, hx, hr]
  exact h v' w' h2 h3 h5
theorem wpList_append_all {P : Program} {ops : Array Oper} {rest : List Oper} {W : World} {o : Oper} {a : Act} {Q : Exit → Act → World → Prop} (hgd : o.guard = none) (s x : Operand) (t : TypeId)
  (ho : o.op = .call { callee := .builtin .append, args := #[s, x], argTypes := #[t, t] })
  (base : Nat) (e : TypeId) (i : TypeInfo) (z : Value) (size bytes : Nat) (ht : P.underlying t = some (.slice e)) (hi : P.info? e = some i) (hz : i.zero = some z)
  (hsize : i.size = size) (hby : i.bytes = bytes) (hzs : z.cells.size = size) (hsz : 0 < size)
  (v : Value) (n : Nat) (xs : List Value) (hs : a.eval s = v) (hown : W.ownsRow base e size v n xs)
  (m : Nat) (ys : List Value) (y : Value) (hx : a.eval x = y) (hy : Src W size m ys y) (h1 : ∀ u ∈ ys, u.oneCell' = true)
  (h63 : n + m ≤ maxLen) (hbytes : (n + m) * bytes ≤ 140737488355328) (hbase : base ≤ W.heap.size)
  (h : ∀ v' w', w'.ownsRow base e size v' (n + m) (xs ++ ys) → W.grownBy w' v.ownBlock → (v'.ownBlock = v.ownBlock ∨ v'.ownBlock = some W.heap.size) → wpList P ops Q rest (a.put o.dst v') w') :
  wpList P ops Q (o :: rest) a W :=
 wpList_plain hgd fun K hK => wp_append_all s x t ho base e i z size bytes ht hi hz hsize hby hzs hsz v n xs hs hown m ys y hx hy h1 h63 hbytes hbase fun v' w' h2 h3 h5 => hK _ _ (h v' w' h2 h3 h5)
theorem row_cellz {w : World} {B : Nat} {e : TypeId} {z n : Nat} {v : Value} {xs : List Value} (h : w.ownsRow B e z v n xs) : ∃ a cap, v = .slice a n cap ∧ n ≤ cap ∧ cap ≤ maxLen ∧ xs.length = n * z ∧ ((n = 0 ∧ cap = 0 ∧ a = none) ∨ ∃ g, a = some ⟨g, 0, none⟩ ∧ v.ownBlock = some g ∧ B ≤ g ∧ g < w.heap.size ∧ ∀ j u, xs[j]? = some u → w.cell? ⟨g, j, none⟩ = some u) := by
 obtain ⟨h0, ⟨rfl, hn⟩ | ⟨g, c', cur, rfl, hg, hh, hn, hm, hcs, hx⟩⟩ := h
 ·exact ⟨none, 0, by rw [hn], by omega, by omega, h0, .inl ⟨hn, rfl, rfl⟩⟩
 ·refine ⟨_, _, rfl, hn, hm, h0, .inr ⟨g, rfl, rfl, hg, heap_lt hh, fun j u hj => ?_⟩⟩
  have hjl : j < xs.length := (List.getElem?_eq_some_iff.1 hj).1
  simp only [World.cell?, hh]
  rw [← hx] at hj
  rw [List.getElem?_take_of_lt (by rw [← h0]; exact hjl)] at hj
  simpa using hj
theorem below_frozen {B : Nat} {w w' : World} (h : Below B w w') {g j : Nat} (hg : g < B) : w'.frozen? ⟨g, j, none⟩ = w.frozen? ⟨g, j, none⟩ := h.frozen (p := ⟨g, j, none⟩) hg
theorem pos_step {x : Int} : ∀ {l : List Int} {k : Nat} (_ : k ≤ pos x l) (hk : k < l.length), (l[k] < x → k + 1 ≤ pos x l) ∧ (¬ l[k] < x → k = pos x l)
 | [], _, _, hk => by simp at hk
 | y :: l, k, h, hk => by
  unfold pos at h ⊢
  rw [List.takeWhile_cons] at h ⊢
  by_cases hy : y < x
  ·rw [if_pos (by simpa using hy)] at h ⊢
   cases k with
   | zero => exact ⟨fun _ => by simp, fun hn => absurd hy hn⟩
   | succ k =>
    have ih := pos_step (x := x) (l := l) (k := k) (by simpa [pos] using h) (by simpa using hk)
    simp only [List.getElem_cons_succ, List.length_cons]
    unfold pos at ih
    exact ⟨fun hl => by have := ih.1 hl; omega, fun hl => by have := ih.2 hl; omega⟩
  ·rw [if_neg (by simpa using hy)] at h ⊢
   have : k = 0 := by simpa using h
   subst this
   exact ⟨fun hl => absurd hl hy, fun _ => rfl⟩
theorem row_fresh (w : World) (B : Nat) (xs : Array Value) (T : TypeId) (z n : Nat) (hx : xs.size = n * z) (hm : n ≤ maxLen) (hB : B ≤ w.heap.size) : (w.alloc (.cells xs T)).ownsRow B T z (.slice (some ⟨w.heap.size, 0, none⟩) n n) n xs.toList := by
 refine ⟨by simpa using hx, .inr ⟨w.heap.size, n, xs, rfl, hB, Blk.new w xs T, Nat.le_refl _, hm, hx, ?_⟩⟩
 rw [List.take_of_length_le (by simp [hx])]
theorem src_take {W : World} {g n cap z k : Nat} {xs : List Value} (hl : xs.length = n * z) (hk : k ≤ n) (h : ∀ j u, xs[j]? = some u → W.cell? ⟨g, j, none⟩ = some u) : Src W z k (xs.take (k * z)) (.slice (some ⟨g, 0, none⟩) k cap) := by
 refine .inr ⟨_, cap, rfl, ?_, fun j u hu => ?_⟩
 ·rw [List.length_take, hl]; exact Nat.min_eq_left (Nat.mul_le_mul_right z hk)
 ·rw [add_of]
  have hj := (List.getElem?_eq_some_iff.1 hu).1
  rw [List.length_take] at hj
  rw [List.getElem?_take_of_lt (by omega)] at hu
  exact h j u hu
theorem src_drop {W : World} {g n cap z k o : Nat} {xs : List Value} (ho : o = k * z) (hl : xs.length = n * z) (hk : k ≤ n) (h : ∀ j u, xs[j]? = some u → W.cell? ⟨g, j, none⟩ = some u) : Src W z (n - k) (xs.drop (k * z)) (.slice (some ⟨g, o, none⟩) (n - k) cap) := by
 subst ho
 refine .inr ⟨_, cap, rfl, ?_, fun j u hu => ?_⟩
 ·rw [List.length_drop, hl, Nat.sub_mul]
 ·rw [add_off]
  rw [List.getElem?_drop] at hu
  exact h _ u hu
theorem src_none {W : World} {z n k : Nat} {xs : List Value} (hl : xs.length = n * z) (hk : k = n) (a : Option Addr) (c : Nat) : Src W z (n - k) (xs.drop (k * z)) (.slice a 0 c) := by
 subst hk
 have e : xs.drop (k * z) = [] := List.drop_of_length_le (by omega)
 rw [e, Nat.sub_self]
 cases a with
 | none => exact .inl ⟨c, rfl, rfl, rfl⟩
 | some ad => exact .inr ⟨ad, c, rfl, by simp, fun j u hu => by simp at hu⟩
theorem Src.below {W W' : World} {z m : Nat} {ys : List Value} {y : Value} (h : Src W z m ys y) (hb : Below W.heap.size W W') : Src W' z m ys y := by
 rcases h with h | ⟨ad, c, e, hl, hc⟩
 ·exact .inl h
 ·exact .inr ⟨ad, c, e, hl, fun j u hu => Below.cellE hb (hc j u hu)⟩
theorem src_row {W : World} {B n z : Nat} {e : TypeId} {v : Value} {xs : List Value} (h : W.ownsRow B e z v n xs) : Src W z n xs v := by
 obtain ⟨a, cap, rfl, _, _, hl, ⟨rfl, rfl, rfl⟩ | ⟨g, rfl, _, _, _, hc⟩⟩ := row_cellz h
 ·exact .inl ⟨0, rfl, rfl, List.eq_nil_of_length_eq_zero (by simpa using hl)⟩
 ·exact .inr ⟨_, cap, rfl, hl, fun j u hu => by rw [add_of]; exact hc j u hu⟩
theorem ins_nil (x : Int) : ins x [] = [x] := rfl
theorem news_same {W W' : World} {g : Nat} {xs : List Value} (hb : Below W.heap.size W W') (hg : g < W.heap.size) (h : ∀ j u, xs[j]? = some u → W.cell? ⟨g, j, none⟩ = some u) : ∀ j u, xs[j]? = some u → W'.cell? ⟨g, j, none⟩ = some u := fun j u hu => (hb.cell (p := ⟨g, j, none⟩) hg).trans (h j u hu)
theorem ins_end {x : Int} {H : List Int} (h : pos x H = H.length) : (ins x H) = H ++ [x] := by
 rw [ins_eq, h]; simp
set_option maxRecDepth 100000 in
set_option maxHeartbeats 4000000 in
theorem insert_any {w : World} {B : Nat} {v : Value} {H : List Int} (x : Int) (h : w.ownsRow B 3 1 v H.length (H.map (Value.int .i64))) (hl : H.length ≤ 100000) :
  Calls Tryz.prog 75 #[v, i64 x] w fun e w' => ∃ v', e = .returned v' ∧ w'.ownsRow w.heap.size 3 1 v' (ins x H).length ((ins x H).map (Value.int .i64)) ∧ Below w.heap.size w w' := by
 obtain ⟨i0, hi, hz1, hz2, hz3⟩ := info_parts info3
 obtain ⟨a, cap, rfl, hc1, hc2, hxl, hc⟩ := row_cellz h
 have hcap : cap ≤ 9223372036854775807 := by unfold maxLen at hc2; omega
 by_cases hH : H.length = 0
 ·have HHH : Hid (H = []) := Lib.hid (List.eq_nil_of_length_eq_zero hH)
  rw [hH]
  have HS : Hid (∀ W, Src W 1 0 [] (.slice a 0 cap)) := Lib.hid fun W => by
   cases a with
   | none => exact .inl ⟨cap, rfl, rfl, rfl⟩
   | some ad => exact .inr ⟨ad, cap, rfl, rfl, fun j u hu => by simp at hu⟩
  have HS2 : Hid (∀ W, Src W 1 0 ((H.map (Value.int .i64)).take (0 * 1)) (.slice a 0 cap)) := Lib.hid fun W => by
   rw [Nat.zero_mul, List.take_zero]; exact HS.out W
  have HA : (a = none ∧ cap = 0) ∨ ∃ g, a = some ⟨g, 0, none⟩ := by
   rcases hc with ⟨_, h1, h2⟩ | ⟨g, h1, _⟩
   ·exact .inl ⟨h2, h1⟩
   ·exact .inr ⟨g, h1⟩
  have ON : ∀ u ∈ [i64 x] ++ ([] : List Value), u.oneCell' = true := fun u hu => by simp at hu; subst hu; rfl
  clear h hc hc1 hc2 hxl hH hl
  rcases HA with ⟨rfl, rfl⟩ | ⟨g, rfl⟩
  ·go_enter Tryz.func75, Tryz.ntmps75
   go_wp2_with fail
   refine wp_loop_rounds 1 ?_
   rw [rounds_succ]
   go_wp2_with (first
    | (refine wpList_append_all rfl (.tmp 22) (.tmp 25) 25 rfl w.heap.size 3 i0 (.int .i64 0) 1 8 Tryz.underlying25 hi hz1 hz2 hz3 rfl (by omega) _ 1 [i64 x] rfl (row_fresh w _ #[i64 x] 3 1 1 rfl (by unfold maxLen; omega) (Nat.le_refl _)) 0 [] _ rfl (HS.out _) (fun u hu => ON u (List.mem_append_right [i64 x] hu)) (by unfold maxLen; omega) (by omega) (by simp) ?_
       intro v6 w6 hown6 hg6 hat6
       have B6 : Hid (Below w.heap.size w w6) := Lib.hid (((Below.refl w.heap.size w).alloc (Nat.le_refl _) _).grown hg6 (by simp) (fun j e => by have := own_ge e; omega))
       have S6 := Lib.hid hown6
       clear hown6 hg6 hat6)
    | (refine wpList_append_all rfl (.tmp 27) (.tmp 30) 25 rfl w6.heap.size 3 i0 (.int .i64 0) 1 8 Tryz.underlying25 hi hz1 hz2 hz3 rfl (by omega) _ 0 [] rfl (row_fresh w6 _ #[] 3 1 0 rfl (by omega) (Nat.le_refl _)) 0 ((H.map (Value.int .i64)).take (0 * 1)) _ rfl (HS2.out _) (fun u hu => ints1 _ u (List.mem_of_mem_take hu)) (by unfold maxLen; omega) (by omega) (by simp) ?_
       intro v7 w7 hown7 hg7 hat7
       have B7 : Hid (Below w6.heap.size w6 w7) := Lib.hid (((Below.refl w6.heap.size w6).alloc (Nat.le_refl _) _).grown hg7 (by simp) (fun j e => by have := own_ge e; omega))
       have S7 := Lib.hid hown7
       clear hown7 hg7 hat7)
    | (refine wpList_append_all rfl (.tmp 31) (.tmp 32) 25 rfl w6.heap.size 3 i0 (.int .i64 0) 1 8 Tryz.underlying25 hi hz1 hz2 hz3 rfl (by omega) v7 _ _ rfl S7.out _ _ v6 rfl ((src_row S6.out).below B7.out) ON (by unfold maxLen; omega) (by omega) B7.out.size ?_
       intro v8 w8 hown8 hg8 hat8
       have B8 : Hid (Below w.heap.size w w8) := Lib.hid (B6.out.trans ((B7.out.grown hg8 B7.out.size (fun j e => (row_lt S7.out j e).1)).mono B6.out.size))
       have S8 : Hid (w8.ownsRow w.heap.size 3 1 v8 (ins x H).length ((ins x H).map (Value.int .i64))) := Lib.hid (by
        have e1 : 0 + 0 + (1 + 0) = (ins x H).length := (by rw [HHH.out]; rfl)
        have e2 : [] ++ (H.map (Value.int .i64)).take (0 * 1) ++ ([i64 x] ++ []) = (ins x H).map (Value.int .i64) := (by rw [HHH.out]; rfl)
        rw [← e1, ← e2]; exact row_mono hown8 B6.out.size)
       clear hown8 hg8 hat8))
   go_ret
   exact ⟨_, rfl, S8.out, B8.out⟩
  ·go_enter Tryz.func75, Tryz.ntmps75
   go_wp2_with fail
   refine wp_loop_rounds 1 ?_
   rw [rounds_succ]
   go_wp2_with (first
    | (refine wpList_append_all rfl (.tmp 22) (.tmp 25) 25 rfl w.heap.size 3 i0 (.int .i64 0) 1 8 Tryz.underlying25 hi hz1 hz2 hz3 rfl (by omega) _ 1 [i64 x] rfl (row_fresh w _ #[i64 x] 3 1 1 rfl (by unfold maxLen; omega) (Nat.le_refl _)) 0 [] _ rfl (HS.out _) (fun u hu => ON u (List.mem_append_right [i64 x] hu)) (by unfold maxLen; omega) (by omega) (by simp) ?_
       intro v6 w6 hown6 hg6 hat6
       have B6 : Hid (Below w.heap.size w w6) := Lib.hid (((Below.refl w.heap.size w).alloc (Nat.le_refl _) _).grown hg6 (by simp) (fun j e => by have := own_ge e; omega))
       have S6 := Lib.hid hown6
       clear hown6 hg6 hat6)
    | (refine wpList_append_all rfl (.tmp 27) (.tmp 30) 25 rfl w6.heap.size 3 i0 (.int .i64 0) 1 8 Tryz.underlying25 hi hz1 hz2 hz3 rfl (by omega) _ 0 [] rfl (row_fresh w6 _ #[] 3 1 0 rfl (by omega) (Nat.le_refl _)) 0 ((H.map (Value.int .i64)).take (0 * 1)) _ rfl (HS2.out _) (fun u hu => ints1 _ u (List.mem_of_mem_take hu)) (by unfold maxLen; omega) (by omega) (by simp) ?_
       intro v7 w7 hown7 hg7 hat7
       have B7 : Hid (Below w6.heap.size w6 w7) := Lib.hid (((Below.refl w6.heap.size w6).alloc (Nat.le_refl _) _).grown hg7 (by simp) (fun j e => by have := own_ge e; omega))
       have S7 := Lib.hid hown7
       clear hown7 hg7 hat7)
    | (refine wpList_append_all rfl (.tmp 31) (.tmp 32) 25 rfl w6.heap.size 3 i0 (.int .i64 0) 1 8 Tryz.underlying25 hi hz1 hz2 hz3 rfl (by omega) v7 _ _ rfl S7.out _ _ v6 rfl ((src_row S6.out).below B7.out) ON (by unfold maxLen; omega) (by omega) B7.out.size ?_
       intro v8 w8 hown8 hg8 hat8
       have B8 : Hid (Below w.heap.size w w8) := Lib.hid (B6.out.trans ((B7.out.grown hg8 B7.out.size (fun j e => (row_lt S7.out j e).1)).mono B6.out.size))
       have S8 : Hid (w8.ownsRow w.heap.size 3 1 v8 (ins x H).length ((ins x H).map (Value.int .i64))) := Lib.hid (by
        have e1 : 0 + 0 + (1 + 0) = (ins x H).length := (by rw [HHH.out]; rfl)
        have e2 : [] ++ (H.map (Value.int .i64)).take (0 * 1) ++ ([i64 x] ++ []) = (ins x H).map (Value.int .i64) := (by rw [HHH.out]; rfl)
        rw [← e1, ← e2]; exact row_mono hown8 B6.out.size)
       clear hown8 hg8 hat8))
   go_ret
   exact ⟨_, rfl, S8.out, B8.out⟩
 ·obtain ⟨g, rfl, -, hgB, hgl, hc⟩ := hc.resolve_left (fun h => hH h.1)
  have HC := Lib.hid hc
  have HX := Lib.hid hxl
  have ON : ∀ n, ∀ u ∈ [i64 x] ++ (H.map (Value.int .i64)).drop n, u.oneCell' = true := fun n u hu => by
   rcases List.mem_append.1 hu with hu | hu
   ·simp at hu; subst hu; rfl
   ·exact ints1 _ u (List.mem_of_mem_drop hu)
  have ON1 : ∀ u ∈ [i64 x] ++ ([] : List Value), u.oneCell' = true := fun u hu => by simp at hu; subst hu; rfl
  clear h hc hc2 hxl
  go_enter Tryz.func75, Tryz.ntmps75
  go_wp2_with fail
  go_loopw [5] (fun i wr => wr = w ∧ ∃ k : Nat, k ≤ pos x H ∧ i = .int .i64 k) (fun i _ => H.length - (intOf i).toNat)
  case atStart => exact ⟨rfl, 0, Nat.zero_le _, rfl⟩
  case round =>
   obtain ⟨hwr, k, hk, rfl⟩ := hrel
   rw [hwr]
   clear hwr
   have hp := pos_le x H
   by_cases hlt : k < H.length
   ·have hst := pos_step hk hlt
    have hgc : w.cell? ⟨g, k, none⟩ = some (i64 H[k]) := HC.out k _ (by simp [hlt])
    obtain ⟨y, hy⟩ : ∃ y, y = H[k] := ⟨_, rfl⟩
    rw [← hy] at hgc hst
    by_cases hyx : y < x
    ·have hk1 := hst.1 hyx
     clear hst hy
     go_wp2_with fail
     exact ⟨⟨trivial, k + 1, hk1, by go_num⟩, by simp [intOf]; omega⟩
    ·have hk1 := hst.2 hyx
     subst hk1
     have hce : ¬ cap = pos x H := by omega
     clear hst hy
     go_wp2_with (first
      | (refine wpList_append_all rfl (.tmp 22) (.tmp 25) 25 rfl w.heap.size 3 i0 (.int .i64 0) 1 8 Tryz.underlying25 hi hz1 hz2 hz3 rfl (by omega) _ 1 [i64 x] rfl (row_fresh w _ #[i64 x] 3 1 1 rfl (by unfold maxLen; omega) (Nat.le_refl _)) (H.length - pos x H) ((H.map (Value.int .i64)).drop (pos x H * 1)) _ rfl (src_drop (Nat.mul_one _).symm HX.out hp (news_same ((Below.refl w.heap.size w).alloc (Nat.le_refl _) _) hgl HC.out)) (fun u hu => (ON _) u (List.mem_append_right [i64 x] hu)) (by unfold maxLen; omega) (by omega) (by simp) ?_
         intro v6 w6 hown6 hg6 hat6
         have B6 : Hid (Below w.heap.size w w6) := Lib.hid (((Below.refl w.heap.size w).alloc (Nat.le_refl _) _).grown hg6 (by simp) (fun j e => by have := own_ge e; omega))
         have S6 := Lib.hid hown6
         clear hown6 hg6 hat6)
      | (refine wpList_append_all rfl (.tmp 27) (.tmp 30) 25 rfl w6.heap.size 3 i0 (.int .i64 0) 1 8 Tryz.underlying25 hi hz1 hz2 hz3 rfl (by omega) _ 0 [] rfl (row_fresh w6 _ #[] 3 1 0 rfl (by omega) (Nat.le_refl _)) (pos x H) ((H.map (Value.int .i64)).take ((pos x H) * 1)) _ rfl (src_take HX.out hp (news_same ((B6.out.alloc B6.out.size _)) hgl HC.out)) (fun u hu => ints1 _ u (List.mem_of_mem_take hu)) (by unfold maxLen; omega) (by omega) (by simp) ?_
         intro v7 w7 hown7 hg7 hat7
         have B7 : Hid (Below w6.heap.size w6 w7) := Lib.hid (((Below.refl w6.heap.size w6).alloc (Nat.le_refl _) _).grown hg7 (by simp) (fun j e => by have := own_ge e; omega))
         have S7 := Lib.hid hown7
         clear hown7 hg7 hat7)
      | (refine wpList_append_all rfl (.tmp 31) (.tmp 32) 25 rfl w6.heap.size 3 i0 (.int .i64 0) 1 8 Tryz.underlying25 hi hz1 hz2 hz3 rfl (by omega) v7 _ _ rfl S7.out _ _ v6 rfl ((src_row S6.out).below B7.out) (ON _) (by unfold maxLen; omega) (by omega) B7.out.size ?_
         intro v8 w8 hown8 hg8 hat8
         have B8 : Hid (Below w.heap.size w w8) := Lib.hid (B6.out.trans ((B7.out.grown hg8 B7.out.size (fun j e => (row_lt S7.out j e).1)).mono B6.out.size))
         have S8 : Hid (w8.ownsRow w.heap.size 3 1 v8 (ins x H).length ((ins x H).map (Value.int .i64))) := Lib.hid (by
          have e1 : 0 + (pos x H) + (1 + (H.length - pos x H)) = (ins x H).length := (by rw [ins_len]; omega)
          have e2 : [] ++ (H.map (Value.int .i64)).take ((pos x H) * 1) ++ ([i64 x] ++ ((H.map (Value.int .i64)).drop (pos x H * 1))) = (ins x H).map (Value.int .i64) := (by rw [ins_eq, Nat.mul_one, List.map_append, List.map_cons, List.map_take, List.map_drop]; simp)
          rw [← e1, ← e2]; exact row_mono hown8 B6.out.size)
         clear hown8 hg8 hat8))
     go_ret
     exact ⟨_, rfl, S8.out, B8.out⟩
   ·have HP : Hid (pos x H = H.length) := Lib.hid (by omega)
    have hk2 : k = H.length := by omega
    subst hk2
    clear hk hp hlt
    by_cases hce : cap = H.length
    ·subst hce
     go_wp2_with (first
      | (refine wpList_append_all rfl (.tmp 22) (.tmp 25) 25 rfl w.heap.size 3 i0 (.int .i64 0) 1 8 Tryz.underlying25 hi hz1 hz2 hz3 rfl (by omega) _ 1 [i64 x] rfl (row_fresh w _ #[i64 x] 3 1 1 rfl (by unfold maxLen; omega) (Nat.le_refl _)) 0 [] _ rfl (.inr ⟨_, _, rfl, rfl, fun j u hu => by simp at hu⟩) (fun u hu => ON1 u (List.mem_append_right [i64 x] hu)) (by unfold maxLen; omega) (by omega) (by simp) ?_
         intro v6 w6 hown6 hg6 hat6
         have B6 : Hid (Below w.heap.size w w6) := Lib.hid (((Below.refl w.heap.size w).alloc (Nat.le_refl _) _).grown hg6 (by simp) (fun j e => by have := own_ge e; omega))
         have S6 := Lib.hid hown6
         clear hown6 hg6 hat6)
      | (refine wpList_append_all rfl (.tmp 27) (.tmp 30) 25 rfl w6.heap.size 3 i0 (.int .i64 0) 1 8 Tryz.underlying25 hi hz1 hz2 hz3 rfl (by omega) _ 0 [] rfl (row_fresh w6 _ #[] 3 1 0 rfl (by omega) (Nat.le_refl _)) H.length ((H.map (Value.int .i64)).take (H.length * 1)) _ rfl (src_take HX.out (Nat.le_refl _) (news_same ((B6.out.alloc B6.out.size _)) hgl HC.out)) (fun u hu => ints1 _ u (List.mem_of_mem_take hu)) (by unfold maxLen; omega) (by omega) (by simp) ?_
         intro v7 w7 hown7 hg7 hat7
         have B7 : Hid (Below w6.heap.size w6 w7) := Lib.hid (((Below.refl w6.heap.size w6).alloc (Nat.le_refl _) _).grown hg7 (by simp) (fun j e => by have := own_ge e; omega))
         have S7 := Lib.hid hown7
         clear hown7 hg7 hat7)
      | (refine wpList_append_all rfl (.tmp 31) (.tmp 32) 25 rfl w6.heap.size 3 i0 (.int .i64 0) 1 8 Tryz.underlying25 hi hz1 hz2 hz3 rfl (by omega) v7 _ _ rfl S7.out _ _ v6 rfl ((src_row S6.out).below B7.out) ON1 (by unfold maxLen; omega) (by omega) B7.out.size ?_
         intro v8 w8 hown8 hg8 hat8
         have B8 : Hid (Below w.heap.size w w8) := Lib.hid (B6.out.trans ((B7.out.grown hg8 B7.out.size (fun j e => (row_lt S7.out j e).1)).mono B6.out.size))
         have S8 : Hid (w8.ownsRow w.heap.size 3 1 v8 (ins x H).length ((ins x H).map (Value.int .i64))) := Lib.hid (by
          have e1 : 0 + H.length + (1 + 0) = (ins x H).length := (by rw [ins_len]; omega)
          have e2 : [] ++ (H.map (Value.int .i64)).take (H.length * 1) ++ ([i64 x] ++ []) = (ins x H).map (Value.int .i64) := (by rw [ins_end HP.out, List.map_append, Nat.mul_one, List.take_of_length_le (by simp)]; rfl)
          rw [← e1, ← e2]; exact row_mono hown8 B6.out.size)
         clear hown8 hg8 hat8))
     go_ret
     exact ⟨_, rfl, S8.out, B8.out⟩
    ·skip
     go_wp2_with (first
      | (refine wpList_append_all rfl (.tmp 22) (.tmp 25) 25 rfl w.heap.size 3 i0 (.int .i64 0) 1 8 Tryz.underlying25 hi hz1 hz2 hz3 rfl (by omega) _ 1 [i64 x] rfl (row_fresh w _ #[i64 x] 3 1 1 rfl (by unfold maxLen; omega) (Nat.le_refl _)) 0 [] _ rfl (.inr ⟨_, _, rfl, rfl, fun j u hu => by simp at hu⟩) (fun u hu => ON1 u (List.mem_append_right [i64 x] hu)) (by unfold maxLen; omega) (by omega) (by simp) ?_
         intro v6 w6 hown6 hg6 hat6
         have B6 : Hid (Below w.heap.size w w6) := Lib.hid (((Below.refl w.heap.size w).alloc (Nat.le_refl _) _).grown hg6 (by simp) (fun j e => by have := own_ge e; omega))
         have S6 := Lib.hid hown6
         clear hown6 hg6 hat6)
      | (refine wpList_append_all rfl (.tmp 27) (.tmp 30) 25 rfl w6.heap.size 3 i0 (.int .i64 0) 1 8 Tryz.underlying25 hi hz1 hz2 hz3 rfl (by omega) _ 0 [] rfl (row_fresh w6 _ #[] 3 1 0 rfl (by omega) (Nat.le_refl _)) H.length ((H.map (Value.int .i64)).take (H.length * 1)) _ rfl (src_take HX.out (Nat.le_refl _) (news_same ((B6.out.alloc B6.out.size _)) hgl HC.out)) (fun u hu => ints1 _ u (List.mem_of_mem_take hu)) (by unfold maxLen; omega) (by omega) (by simp) ?_
         intro v7 w7 hown7 hg7 hat7
         have B7 : Hid (Below w6.heap.size w6 w7) := Lib.hid (((Below.refl w6.heap.size w6).alloc (Nat.le_refl _) _).grown hg7 (by simp) (fun j e => by have := own_ge e; omega))
         have S7 := Lib.hid hown7
         clear hown7 hg7 hat7)
      | (refine wpList_append_all rfl (.tmp 31) (.tmp 32) 25 rfl w6.heap.size 3 i0 (.int .i64 0) 1 8 Tryz.underlying25 hi hz1 hz2 hz3 rfl (by omega) v7 _ _ rfl S7.out _ _ v6 rfl ((src_row S6.out).below B7.out) ON1 (by unfold maxLen; omega) (by omega) B7.out.size ?_
         intro v8 w8 hown8 hg8 hat8
         have B8 : Hid (Below w.heap.size w w8) := Lib.hid (B6.out.trans ((B7.out.grown hg8 B7.out.size (fun j e => (row_lt S7.out j e).1)).mono B6.out.size))
         have S8 : Hid (w8.ownsRow w.heap.size 3 1 v8 (ins x H).length ((ins x H).map (Value.int .i64))) := Lib.hid (by
          have e1 : 0 + H.length + (1 + 0) = (ins x H).length := (by rw [ins_len]; omega)
          have e2 : [] ++ (H.map (Value.int .i64)).take (H.length * 1) ++ ([i64 x] ++ []) = (ins x H).map (Value.int .i64) := (by rw [ins_end HP.out, List.map_append, Nat.mul_one, List.take_of_length_le (by simp)]; rfl)
          rw [← e1, ← e2]; exact row_mono hown8 B6.out.size)
         clear hown8 hg8 hat8))
     go_ret
     exact ⟨_, rfl, S8.out, B8.out⟩
end Go.Proofs.YtdojgbpaheadnaaGreat
