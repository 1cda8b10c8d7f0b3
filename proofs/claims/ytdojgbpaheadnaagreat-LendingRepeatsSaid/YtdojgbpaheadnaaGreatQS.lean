/- slices.Sort on a row of the call's own. -/
import Derived.Test.YtdojgbpaheadnaaGreatQTN
import Derived.Test.YtdojgbpaheadnaaGreatQShelf
import Derived.Test.YtdojgbpaheadnaaGreatQP
import Derived.Shelf.Spec.SlicesInsertGrow
set_option linter.unusedVariables false
set_option linter.unusedSimpArgs false

namespace Go.Proofs.YtdojgbpaheadnaaGreat
open Go.RowKit Go.Shelf Go.Maps

theorem sort_own (a : Option Addr) (D : List Int) (cap B : Nat) (w : World) (hD : OwnSl w B a D cap) (hl : D.length ≤ 100000) :
  Calls Tryz.prog 67 #[.slice a D.length cap] w fun e w' => e = .returned (.tuple #[]) ∧ OwnSl w' B a (D.mergeSort fun x y => decide (x ≤ y)) cap ∧ Tn (fun b => ∃ o, a = some ⟨b, o, none⟩) w w' := by
 obtain ⟨hcap, rfl | ⟨g, rfl, hg, hgl, hh⟩⟩ := hD
 ·refine (Tryz.slices_Sort_int_none a cap w).mono ?_
  rintro e w' ⟨rfl, rfl⟩
  exact ⟨rfl, ⟨by simp, .inl (by simp)⟩, Tn.refl _ _⟩
 ·refine (Tryz.slices_Sort_int g 0 cap D w hh hgl (by omega)).mono ?_
  rintro e w' ⟨rfl, n, os, rfl⟩
  have hs : (D.mergeSort fun x y => decide (x ≤ y)).toArray.size = D.toArray.size := by simp
  refine ⟨rfl, ⟨by simpa using hcap, .inr ⟨g, rfl, hg, by simp [Go.Sort.ahead]; omega, ?_⟩⟩, ((tn_ahead w n _).trans ((tn_putRow _ g _ _).mono fun b e => ⟨0, by rw [e]⟩)).trans (tn_grow _ _ _)⟩
  exact Go.Sort.holds_grow _ _ _ _ _ _ (by simp [Go.Sort.ahead]; omega) (Go.Sort.holds_putRow _ _ _ _ D.toArray _ hh hs)

end Go.Proofs.YtdojgbpaheadnaaGreat

/- Rows of numbers in order: the search, one number taken out, one put in. -/
namespace Go.Proofs.YtdojgbpaheadnaaGreat
open Go.RowKit Go.Shelf Go.Maps

theorem row_mk {w : World} {B g n cap : Nat} {cur : Array Value} {xs : List Value} (hB : B ≤ g) (hb : Blk w g cur 3) (hn : n ≤ cap) (hm : cap ≤ maxLen) (hs : cur.size = cap) (hx : xs.length = n) (hc : ∀ j u, xs[j]? = some u → w.cell? ⟨g, j, none⟩ = some u) :
  w.ownsRow B 3 1 (.slice (some ⟨g, 0, none⟩) n cap) n xs := by
 refine ⟨by omega, .inr ⟨g, cap, cur, rfl, hB, hb, hn, hm, by omega, ?_⟩⟩
 apply List.ext_getElem?
 intro j
 rw [Nat.mul_one]
 rcases Nat.lt_or_ge j n with h | h
 ·rw [List.getElem?_take_of_lt h]
  have h1 := hc j xs[j] (by simp [show j < xs.length by omega])
  rw [hb.cell] at h1
  rw [List.getElem?_eq_getElem (show j < xs.length by omega)]
  simpa using h1
 ·rw [List.getElem?_eq_none (by simp; omega), List.getElem?_eq_none (by omega)]
theorem row_open {w : World} {B n : Nat} {v : Value} {xs : List Value} (h : w.ownsRow B 3 1 v n xs) :
  (v = .slice none 0 0 ∧ n = 0 ∧ xs = []) ∨ ∃ g cap cur, v = .slice (some ⟨g, 0, none⟩) n cap ∧ B ≤ g ∧ Blk w g cur 3 ∧ n ≤ cap ∧ cap ≤ maxLen ∧ cur.size = cap ∧ xs.length = n ∧ ∀ j u, xs[j]? = some u → w.cell? ⟨g, j, none⟩ = some u := by
 obtain ⟨h0, ⟨h1, h2⟩ | ⟨g, cap, cur, rfl, h3, h4, h5, h6, h7, h8⟩⟩ := h
 ·exact .inl ⟨h1, h2, List.eq_nil_of_length_eq_zero (by omega)⟩
 ·refine .inr ⟨g, cap, cur, rfl, h3, h4, h5, h6, by omega, by omega, fun j u hu => ?_⟩
  have hj : j < n := by have := (List.getElem?_eq_some_iff.1 hu).1; omega
  rw [← h8, Nat.mul_one, List.getElem?_take_of_lt hj] at hu
  have hb : Blk w g cur 3 := h4
  rw [hb.cell]
  simpa using hu
theorem blk_setCells {g : Nat} {T : TypeId} : ∀ (vs : List Value) (o : Nat) (w : World) (cur : Array Value), Blk w g cur T → ∃ cur', Blk (w.setCells g o vs) g cur' T ∧ cur'.size = cur.size
 | [], _, _, cur, h => ⟨cur, h, rfl⟩
 | v :: vs, o, w, cur, h => by
  obtain ⟨c', h1, h2⟩ := blk_setCells vs (o + 1) _ _ (h.set o v)
  exact ⟨c', h1, by simpa using h2⟩
theorem tn_setCells {g : Nat} : ∀ (vs : List Value) (o : Nat) (w : World), Tn (fun b => b = g) w (w.setCells g o vs)
 | [], _, w => Tn.refl _ _
 | v :: vs, o, w => ((Tn.refl (fun b => b = g) w).setCell (p := ⟨g, o, none⟩) (.inl rfl) v).trans (tn_setCells vs (o + 1) _)
theorem tn_drewN (F : Nat → Prop) (w : World) (n : Nat) : Tn F w (w.drewN n) := (Tn.refl F w).drewN n

theorem pos_count (x : Int) : ∀ l : List Int, l.Pairwise (· ≤ ·) → l.countP (· < x) = pos x l
 | [], _ => rfl
 | y :: l, h => by
  rw [List.pairwise_cons] at h
  unfold pos
  by_cases hy : y < x
  ·rw [List.countP_cons_of_pos (by simpa using hy), pos_count x l h.2, List.takeWhile_cons_of_pos (by simpa using hy)]; rfl
  ·rw [List.countP_cons_of_neg (by simpa using hy), List.takeWhile_cons_of_neg (by simpa using hy)]
   simp only [List.length_nil, List.countP_eq_zero, decide_eq_true_eq]
   intro z hz
   have := h.1 z hz
   omega
theorem pos_mem (x : Int) : ∀ l : List Int, l.Pairwise (· ≤ ·) → x ∈ l → l[pos x l]? = some x ∧ l.take (pos x l) ++ l.drop (pos x l + 1) = l.erase x
 | [], _, h => by simp at h
 | y :: l, h, hm => by
  rw [List.pairwise_cons] at h
  by_cases hy : y < x
  ·have hm' : x ∈ l := by
    rcases List.mem_cons.1 hm with e | e
    ·omega
    ·exact e
   obtain ⟨h1, h2⟩ := pos_mem x l h.2 hm'
   have hp : pos x (y :: l) = pos x l + 1 := by unfold pos; rw [List.takeWhile_cons_of_pos (by simpa using hy)]; rfl
   rw [hp]
   refine ⟨by simpa using h1, ?_⟩
   rw [List.take_succ_cons, List.drop_succ_cons, List.cons_append, h2, List.erase_cons_tail (by simp; omega)]
  ·have hx : y = x := by
    rcases List.mem_cons.1 hm with e | e
    ·exact e.symm
    ·have := h.1 x e; omega
   subst hx
   have hp : pos y (y :: l) = 0 := by unfold pos; rw [List.takeWhile_cons_of_neg (by simp)]; rfl
   rw [hp]
   simp
theorem erase_sorted {x : Int} {l : List Int} (h : l.Pairwise (· ≤ ·)) : (l.erase x).Pairwise (· ≤ ·) := h.sublist (List.erase_sublist ..)
theorem ins_sorted (x : Int) : ∀ l : List Int, l.Pairwise (· ≤ ·) → (ins x l).Pairwise (· ≤ ·)
 | [], _ => by simp [ins]
 | y :: l, h => by
  have hl := (List.pairwise_cons.1 h).1
  have ht := ins_sorted x l (List.pairwise_cons.1 h).2
  by_cases hy : y < x
  ·have e : ins x (y :: l) = y :: ins x l := by unfold ins; rw [List.takeWhile_cons_of_pos (by simpa using hy), List.dropWhile_cons_of_pos (by simpa using hy)]; rfl
   rw [e, List.pairwise_cons]
   refine ⟨fun z hz => ?_, ht⟩
   have hz' : z = x ∨ z ∈ l := by
    unfold ins at hz
    rcases List.mem_append.1 hz with h1 | h1
    ·exact .inr ((List.takeWhile_sublist _).mem h1)
    ·rcases List.mem_cons.1 h1 with h2 | h2
     ·exact .inl h2
     ·exact .inr ((List.dropWhile_sublist _).mem h2)
   rcases hz' with rfl | h1
   ·omega
   ·exact hl z h1
  ·have e : ins x (y :: l) = x :: y :: l := by unfold ins; rw [List.takeWhile_cons_of_neg (by simpa using hy), List.dropWhile_cons_of_neg (by simpa using hy)]; rfl
   rw [e, List.pairwise_cons]
   refine ⟨fun z hz => ?_, h⟩
   rcases List.mem_cons.1 hz with rfl | h1
   ·omega
   ·have := hl z h1; omega
end Go.Proofs.YtdojgbpaheadnaaGreat

/- The library's search, deletion and insertion on a row of one's own, in order. -/
namespace Go.Proofs.YtdojgbpaheadnaaGreat
open Go.RowKit Go.Shelf Go.Maps

theorem contains_dec (l : List Int) (x : Int) : l.contains x = decide (x ∈ l) := by
 by_cases h : x ∈ l
 ·simp [h]
 ·simp [h]
theorem cells_map {w : World} {g : Nat} {H : List Int} (h : ∀ j u, (H.map (Value.int .i64))[j]? = some u → w.cell? ⟨g, j, none⟩ = some u) : ∀ j, j < H.length → w.cell? ⟨g, 0 + j, none⟩ = some (.int .i64 (H.getD j 0)) := fun j hj => by
 rw [Nat.zero_add]
 exact h j _ (by rw [List.getElem?_map, List.getElem?_eq_getElem hj, getD_get _ _ hj]; rfl)
theorem search_own {w : World} {B : Nat} {v : Value} {H : List Int} (x : Int) (h : w.ownsRow B 3 1 v H.length (H.map (Value.int .i64))) (hs : H.Pairwise (· ≤ ·)) (hl : H.length ≤ 100000) :
  Calls Tryz.prog 71 #[v, .int .i64 x] w fun e w' => e = .returned (.tuple #[.int .i64 (pos x H), .bool (decide (x ∈ H))]) ∧ ∃ q, w' = w.drewN q := by
 rcases row_open h with ⟨rfl, h1, h2⟩ | ⟨g, cap, cur, rfl, h1, h2, h3, h4, h5, h6, h7⟩
 ·have : H = [] := List.eq_nil_of_length_eq_zero h1
  subst this
  refine (Tryz.slices_BinarySearch_int_empty none 0 x w).mono ?_
  rintro e w' ⟨rfl, rfl⟩
  exact ⟨rfl, 0, rfl⟩
 ·refine (Tryz.slices_BinarySearch_int g 0 H.length cap H x w (Nat.le_refl _) (by omega) (cells_map h7) (by rw [List.take_length]; exact hs)).mono ?_
  rintro e w' ⟨rfl, q, rfl⟩
  rw [List.take_length, contains_dec, pos_count x H hs]
  exact ⟨rfl, q, rfl⟩
theorem del_own {w : World} {B : Nat} {v : Value} {H : List Int} (x : Int) (h : w.ownsRow B 3 1 v H.length (H.map (Value.int .i64))) (hs : H.Pairwise (· ≤ ·)) (hx : x ∈ H) :
  Calls Tryz.prog 98 #[v, .int .i64 (pos x H), .int .i64 ((pos x H : Int) + 1)] w fun e w' => ∃ v', e = .returned v' ∧ w'.ownsRow B 3 1 v' (H.erase x).length ((H.erase x).map (Value.int .i64)) ∧ Tn (fun b => v.ownBlock = some b) w w' ∧ v'.ownBlock = v.ownBlock := by
 obtain ⟨hp1, hp2⟩ := pos_mem x H hs hx
 have hpl : pos x H < H.length := (List.getElem?_eq_some_iff.1 hp1).1
 have hel : (H.erase x).length = H.length - 1 := List.length_erase_of_mem hx
 rcases row_open h with ⟨rfl, h1, h2⟩ | ⟨g, cap, cur, rfl, h1, h2, h3, h4, h5, h6, h7⟩
 ·omega
 ·refine (Tryz.slices_Delete_int_cells g 0 H.length cap (pos x H) (pos x H + 1) H w (Nat.le_refl _) h3 (by unfold maxLen at h4; omega) (by omega) (by omega) (cells_map h7) (fun j _ => h2.frozen _)).mono ?_
  rintro e w' ⟨rfl, q, rfl⟩
  rw [List.take_length, hp2, show pos x H + 1 - pos x H = 1 by omega]
  obtain ⟨cur', hb, hsz⟩ := blk_setCells ((H.erase x ++ List.replicate 1 0).map (Value.int .i64)) 0 _ _ (h2.drewN q)
  refine ⟨_, rfl, ?_, ?_, rfl⟩
  ·rw [hel]
   refine row_mk h1 hb (by omega) h4 (by omega) (by simp; omega) fun j u hu => ?_
   have hj : j < (H.erase x).length := by have := (List.getElem?_eq_some_iff.1 hu).1; simpa using this
   have := World.cell?_setCells_in g ((H.erase x ++ List.replicate 1 0).map (Value.int .i64)) 0 (w.drewN q) (fun k hk => by
    have hk' : k < H.length := by simp at hk; omega
    rw [Nat.zero_add]
    have := h7 k (.int .i64 H[k]) (by simp [hk'])
    show (w.cell? _).isSome = true
    rw [this]; rfl) j (by simp; omega)
   rw [Nat.zero_add] at this
   rw [this]
   rw [List.getElem?_map, List.getElem?_eq_getElem hj] at hu
   rw [← hu, Option.map_some, List.getElem_map, List.getElem_append_left hj]
  ·exact (tn_drewN _ w q).trans ((tn_setCells _ _ _).mono fun b e => by rw [e]; rfl)
theorem mid_get {cs : List Value} {x : Value} {i j : Nat} (hi : i ≤ cs.length) : (cs.take i ++ x :: cs.drop i)[j]? = if j < i then cs[j]? else if j = i then some x else cs[j - 1]? := by
 by_cases h1 : j < i
 ·rw [if_pos h1, List.getElem?_append_left (by simp; omega), List.getElem?_take_of_lt h1]
 ·rw [if_neg h1, List.getElem?_append_right (by simp; omega)]
  have hl : (cs.take i).length = i := by simp; omega
  rw [hl]
  by_cases h2 : j = i
  ·subst h2; simp
  ·rw [if_neg h2]
   obtain ⟨k, rfl⟩ : ∃ k, j = i + (k + 1) := ⟨j - i - 1, by omega⟩
   rw [show i + (k + 1) - i = k + 1 by omega, List.getElem?_cons_succ, List.getElem?_drop, show i + (k + 1) - 1 = i + k by omega]
theorem row_new (w : World) (B : Nat) (xs : List Value) (n gc : Nat) (hn : xs.length = n) (hx : n ≤ gc) (hm : gc ≤ maxLen) (hB : B ≤ w.heap.size) :
  (w.drew.alloc (.cells (xs.toArray ++ Builtin.zeroCells (Value.int .i64 0).cells (gc - n)) 3)).ownsRow B 3 1 (.slice (some ⟨w.heap.size, 0, none⟩) n gc) n xs := by
 have hb : Blk (w.drew.alloc (.cells (xs.toArray ++ Builtin.zeroCells (Value.int .i64 0).cells (gc - n)) 3)) w.heap.size (xs.toArray ++ Builtin.zeroCells (Value.int .i64 0).cells (gc - n)) 3 := Blk.new w.drew _ 3
 refine row_mk hB hb hx hm (by rw [Array.size_append, size_zeroCells]; simp [Value.cells]; omega) hn fun j u hu => ?_
 have hj := (List.getElem?_eq_some_iff.1 hu).1
 rw [hb.cell, Array.getElem?_append_left (by simpa using hj)]
 simpa using hu
theorem own_ge {g n c b : Nat} (h : (Value.slice (some ⟨g, 0, none⟩) n c).ownBlock = some b) : g ≤ b := by
 obtain rfl : g = b := by injection h
 exact Nat.le_refl _
theorem row_mid {W : World} {B g n cap i : Nat} {cur : Array Value} {cs : List Value} {x : Value} (hB : B ≤ g) (hb : Blk W g cur 3) (hs : cur.size = cap) (hm : cap ≤ maxLen) (hn : cs.length = n) (hi : i ≤ n) (hroom : n + 1 ≤ cap)
  (c0 : ∀ j u, j < i → cs[j]? = some u → W.cell? ⟨g, j, none⟩ = some u) (c1 : W.cell? ⟨g, i, none⟩ = some x) (c2 : ∀ k u, cs[i + k]? = some u → W.cell? ⟨g, i + 1 + k, none⟩ = some u) :
  W.ownsRow B 3 1 (.slice (some ⟨g, 0, none⟩) (n + 1) cap) (n + 1) (cs.take i ++ x :: cs.drop i) := by
 refine row_mk hB hb hroom hm hs (by simp; omega) fun j u hu => ?_
 rw [mid_get (by omega)] at hu
 by_cases h1 : j < i
 ·rw [if_pos h1] at hu; exact c0 j u h1 hu
 ·rw [if_neg h1] at hu
  by_cases h2 : j = i
  ·rw [if_pos h2] at hu; injection hu with hu; subst hu; rw [h2]; exact c1
  ·rw [if_neg h2] at hu
   obtain ⟨k, rfl⟩ : ∃ k, j = i + 1 + k := ⟨j - i - 1, by omega⟩
   exact c2 k u (by rw [show i + 1 + k - 1 = i + k by omega] at hu; exact hu)
theorem set_in {w : World} {g o k : Nat} {cur : Array Value} {T : TypeId} {vs : List Value} (hb : Blk w g cur T) (h : o + vs.length ≤ cur.size) {u : Value} (hu : vs[k]? = some u) : (w.setCells g o vs).cell? ⟨g, o + k, none⟩ = some u := by
 have hk := (List.getElem?_eq_some_iff.1 hu).1
 have := World.cell?_setCells_in g vs o w (fun j hj => by rw [hb.cell]; simp; omega) k hk
 rw [this]
 exact (List.getElem?_eq_getElem hk).symm.trans hu
theorem set_out {w : World} {g o k : Nat} {vs : List Value} (h : k < o ∨ o + vs.length ≤ k) : (w.setCells g o vs).cell? ⟨g, k, none⟩ = w.cell? ⟨g, k, none⟩ := World.cell?_setCells_out g vs o w ⟨g, k, none⟩ fun _ _ => h
theorem ins_own {w : World} {B : Nat} {v : Value} {H : List Int} (x : Int) (h : w.ownsRow B 3 1 v H.length (H.map (Value.int .i64))) (hl : H.length ≤ 100000) {vb : Nat} (hv : Blk w vb #[.int .i64 x] 3) (hvb : v.ownBlock ≠ some vb) :
  Calls Tryz.prog 72 #[v, .int .i64 (pos x H), .slice (some ⟨vb, 0, none⟩) 1 1] w fun e w' => ∃ v', e = .returned v' ∧ w'.ownsRow (min B w.heap.size) 3 1 v' (ins x H).length ((ins x H).map (Value.int .i64)) ∧ Tn (fun b => v.ownBlock = some b) w w' ∧ ∀ b, v'.ownBlock = some b → v.ownBlock = some b ∨ w.heap.size ≤ b := by
 have hpl := pos_le x H
 have hil := ins_len x H
 have hvs : ∀ j u, [Value.int .i64 x][j]? = some u → w.cell? ⟨vb, 0 + j, none⟩ = some u := fun j u hu => by
  match j, hu with
  | 0, hu => rw [← hu]; exact hv.cell 0
 have h1v : ∀ u ∈ [Value.int .i64 x], u.oneCell' = true := by intro u hu; simp at hu; subst hu; rfl
 have h1c : ∀ u ∈ H.map (Value.int .i64), u.oneCell' = true := by intro u hu; obtain ⟨d, _, rfl⟩ := List.mem_map.1 hu; rfl
 have hie : (ins x H).map (Value.int .i64) = (H.map (Value.int .i64)).take (pos x H) ++ .int .i64 x :: (H.map (Value.int .i64)).drop (pos x H) := by rw [ins_eq]; simp
 have hlen : (H.map (Value.int .i64)).length = H.length := by simp
 have hmin : min B w.heap.size ≤ w.heap.size := Nat.min_le_right _ _
 rw [hie, hil]
 rcases row_open h with ⟨rfl, h1, h2⟩ | ⟨g, cap, cur, rfl, h1, h2, h3, h4, h5, h6, h7⟩
 ·have h0 : H = [] := List.eq_nil_of_length_eq_zero h1
  subst h0
  refine (Any2.slices_Insert_int_end_grow Tryz.laysNm221 none 0 0 vb 0 1 1 [] [.int .i64 x] w (by omega) (by omega) (by omega) (by omega) rfl rfl (fun _ => rfl) (fun a e => nomatch e) hvs h1v).mono ?_
  rintro e w' ⟨rfl, rfl⟩
  exact ⟨_, rfl, row_new w _ [.int .i64 x] 1 _ rfl (grownCap_ge w (0 + 1) 0 3) (grownCap_le_maxLen w (0 + 1) 0 3 (by unfold maxLen; omega)) hmin, (Tn.refl _ w).drew.alloc _, fun b hb => .inr (own_ge hb)⟩
 ·have hbg : B ≤ g := h1
  have hmg : min B w.heap.size ≤ g := Nat.le_trans (Nat.min_le_left _ _) hbg
  have hvg : vb ≠ g := fun e => hvb (by rw [e]; rfl)
  have hc : ∀ j u, (H.map (Value.int .i64))[j]? = some u → w.cell? ⟨g, 0 + j, none⟩ = some u := fun j u hu => by rw [Nat.zero_add]; exact h7 j u hu
  have hca : ∀ a : Addr, some (⟨g, 0, none⟩ : Addr) = some a → ∀ j u, (H.map (Value.int .i64))[j]? = some u → w.cell? (a.add j) = some u := fun a e j u hu => by
   injection e with e; subst e; rw [add_of]; exact h7 j u hu
  have hsome : ∀ k, k < cap → (w.cell? ⟨g, k, none⟩).isSome = true := fun k hk => by rw [h2.cell]; simp; omega
  by_cases hroom : H.length + 1 ≤ cap
  ·by_cases hi : pos x H < H.length
   ·refine (Any2.slices_Insert_int_shift Tryz.laysNm221 g 0 H.length cap (pos x H) vb 0 1 1 (H.map (Value.int .i64)) [.int .i64 x] w hi (by omega) hroom (by unfold maxLen at h4; omega) hvg hlen rfl hc (fun j hj => by rw [Nat.zero_add]; exact hsome j (by omega)) (fun j _ => h2.frozen _) hvs h1c h1v 3 3 1 cap (by unfold Blk at hv; simp [World.shape?, hv]) (by unfold Blk at h2; simp [World.shape?, h2, h5]) (by omega) (hv.frozen _) (hv.frozen _)).mono ?_
    rintro e w' ⟨rfl, rfl⟩
    rw [Nat.zero_add, Nat.zero_add]
    obtain ⟨k1, b1, z1⟩ := blk_setCells ((H.map (Value.int .i64)).drop (pos x H)) (pos x H + 1) _ _ h2.drew
    obtain ⟨k2, b2, z2⟩ := blk_setCells [.int .i64 x] (pos x H) _ _ b1
    have hd : ((H.map (Value.int .i64)).drop (pos x H)).length = H.length - pos x H := by simp
    refine ⟨_, rfl, row_mid hmg b2 (by omega) h4 hlen (by omega) hroom (fun j u hj hu => ?_) ?_ (fun k u hu => ?_), ((Tn.refl _ w).drew.trans ((tn_setCells _ _ _).mono fun b e => by rw [e]; rfl)).trans ((tn_setCells _ _ _).mono fun b e => by rw [e]; rfl), fun b hb => .inl hb⟩
    ·rw [set_out (.inl hj), set_out (.inl (by omega))]; exact h7 j u hu
    ·exact set_in (k := 0) b1 (by simp only [List.length_cons, List.length_nil]; omega) rfl
    ·rw [set_out (.inr (by simp only [List.length_cons, List.length_nil]; omega))]
     exact set_in h2.drew (by omega) (by rw [List.getElem?_drop]; exact hu)
   ·have hie2 : pos x H = H.length := by omega
    rw [hie2]
    refine (Any2.slices_Insert_int_end_room Tryz.laysNm221 g 0 H.length cap vb 0 1 1 [.int .i64 x] w (by omega) hroom (by unfold maxLen at h4; omega) rfl (fun j hj => by rw [Nat.zero_add]; exact hsome _ (by omega)) (fun j _ => h2.frozen _) hvs h1v).mono ?_
    rintro e w' ⟨rfl, rfl⟩
    rw [Nat.zero_add]
    obtain ⟨k1, b1, z1⟩ := blk_setCells [.int .i64 x] H.length _ _ h2
    refine ⟨_, rfl, row_mid hmg b1 (by omega) h4 hlen (Nat.le_refl _) hroom (fun j u hj hu => ?_) ?_ (fun k u hu => ?_), (tn_setCells _ _ _).mono fun b e => by rw [e]; rfl, fun b hb => .inl hb⟩
    ·rw [set_out (.inl hj)]; exact h7 j u hu
    ·exact set_in (k := 0) h2 (by simp only [List.length_cons, List.length_nil]; omega) rfl
    ·have := (List.getElem?_eq_some_iff.1 hu).1
     exfalso; rw [List.length_map] at this; omega
  ·by_cases hi : pos x H < H.length
   ·refine (Any2.slices_Insert_int_grow Tryz.laysNm221 g 0 H.length cap (pos x H) vb 0 1 1 (H.map (Value.int .i64)) [.int .i64 x] w hi (by omega) h3 (by omega) (by omega) hlen rfl hc hvs h1c h1v).mono ?_
    rintro e w' ⟨rfl, rfl⟩
    have hg := grownCap_ge w (H.length + 1) cap 3
    have hm := grownCap_le_maxLen w (H.length + 1) cap 3 (by unfold maxLen; omega)
    have hd : ((H.map (Value.int .i64)).drop (pos x H)).length = H.length - pos x H := by simp
    obtain ⟨gc, hgc⟩ : ∃ gc, gc = grownCap w (H.length + 1) cap 3 := ⟨_, rfl⟩
    obtain ⟨c0, hc0⟩ : ∃ c0, c0 = ((H.map (Value.int .i64)).take (pos x H)).toArray ++ Builtin.zeroCells (Value.int .i64 0).cells (H.length + 1 - pos x H) ++ Builtin.zeroCells (Value.int .i64 0).cells (gc - (H.length + 1)) := ⟨_, rfl⟩
    have hsz : c0.size = gc := by rw [hc0, Array.size_append, Array.size_append, size_zeroCells, size_zeroCells]; simp [Value.cells]; omega
    have e3 : Tryz.laysNm221_ren.t 3 = 3 := rfl
    rw [e3, ← hgc, ← hc0]
    rw [← hgc] at hg hm
    have b0 : Blk (w.alloc (.cells c0 3)).drew w.heap.size c0 3 := (Blk.new w c0 3).drew
    obtain ⟨k1, b1, z1⟩ := blk_setCells [.int .i64 x] (pos x H) _ _ b0
    obtain ⟨k2, b2, z2⟩ := blk_setCells ((H.map (Value.int .i64)).drop (pos x H)) (pos x H + 1) _ _ b1.drew
    refine ⟨_, rfl, row_mid hmin b2 (by omega) hm hlen (by omega) hg (fun j u hj hu => ?_) ?_ (fun k u hu => ?_), ?_, fun b hb => .inr (own_ge hb)⟩
    ·rw [set_out (.inl (by omega))]
     show ((((w.alloc (.cells c0 3)).drew).setCells w.heap.size (pos x H) [.int .i64 x])).cell? _ = _
     rw [set_out (.inl hj), b0.cell, hc0, Array.append_assoc, Array.getElem?_append_left (by simp; omega)]
     rw [← hu]
     simp [List.getElem?_take_of_lt hj]
    ·rw [set_out (.inl (by omega))]
     exact set_in (k := 0) b0 (by simp only [List.length_cons, List.length_nil]; omega) rfl
    ·exact set_in b1.drew (by omega) (by rw [List.getElem?_drop]; exact hu)
    ·have tw : ∀ {W W' : World} (h : Tn (fun b => b = w.heap.size) W W'), Tn (fun b => b = w.heap.size) w W → Tn (fun b => b = w.heap.size) w W' := fun h h' => h'.trans h
     have := ((((Tn.refl (fun b => b = w.heap.size) w).alloc (.cells c0 3)).drew.trans (tn_setCells [.int .i64 x] (pos x H) _)).drew).trans (tn_setCells ((H.map (Value.int .i64)).drop (pos x H)) (pos x H + 1) _)
     exact ⟨this.os, this.tape, this.output, this.size, fun b hb _ => this.block b hb (by omega)⟩
   ·have hie2 : pos x H = H.length := by omega
    rw [hie2]
    refine (Any2.slices_Insert_int_end_grow Tryz.laysNm221 (some ⟨g, 0, none⟩) H.length cap vb 0 1 1 (H.map (Value.int .i64)) [.int .i64 x] w (by omega) h3 (by omega) (by omega) hlen rfl (fun e => nomatch e) hca hvs h1v).mono ?_
    rintro e w' ⟨rfl, rfl⟩
    refine ⟨_, rfl, ?_, (Tn.refl _ w).drew.alloc _, fun b hb => .inr (own_ge hb)⟩
    rw [List.take_of_length_le (by omega), List.drop_of_length_le (by omega)]
    exact row_new w _ (H.map (Value.int .i64) ++ [.int .i64 x]) (H.length + 1) _ (by simp) (grownCap_ge w (H.length + 1) cap 3) (grownCap_le_maxLen w (H.length + 1) cap 3 (by unfold maxLen; omega)) hmin
end Go.Proofs.YtdojgbpaheadnaaGreat
