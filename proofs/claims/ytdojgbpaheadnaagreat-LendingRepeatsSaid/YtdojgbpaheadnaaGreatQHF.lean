/-
 DERIVED: THE SHELF's CONTRACTS AT THIS DUMP, IN PLAIN WORDS (tools/lay-plain.mjs out of 'YtdojgbpaheadnaaGreatSFraw.lean', which tools/lay-shelf.mjs wrote): THE SAME DECLARATIONS UNDER THE SAME NAMES: 'import', 'namespace', 'open', 'def', 'theorem' AND NOTHING ELSE: no command of the shelf's: FOR A HAND-IN. Each laying: the table of numbers ('.._ren') and one theorem, a field a fact of the dump's own or the kernel's comparison; each contract: ONE APPLICATION.
-/
import Derived.Shelf.SlGeneric
import Derived.Shelf.SlSortCmp.WholeK
import Derived.Shelf.SlicesG.Cmp
import Derived.Ground.SlsfProg
import Derived.Ground.SlgcProg
import Derived.Test.YtdojgbpaheadnaaGreatProg
import Derived.Test.YtdojgbpaheadnaaGreatQKY
import Derived.Shelf.SlSortCmp.NoneTotal
import Derived.Test.YtdojgbpaheadnaaGreatQP
import Derived.Test.YtdojgbpaheadnaaGreatQA
import Derived.Test.YtdojgbpaheadnaaGreatQBN
set_option linter.unusedVariables false
set_option linter.unusedSimpArgs false

namespace Go.Proofs
open Go.Shelf
def Tryz.sortF_ren : Go.Shelf.Ren := ⟨fun | 6 => 90 | 15 => 97 | 14 => 113 | 28 => 124 | 29 => 125 | 20 => 133 | 21 => 134 | 22 => 135 | 23 => 136 | 24 => 137 | 25 => 138 | 26 => 139 | 27 => 140 | 46 => 149 | 47 => 142 | 48 => 143 | 49 => 150 | 50 => 151 | 57 => 155 | n => n, fun | 22 => 123 | 24 => 106 | 25 => 128 | 3 => 3 | 39 => 202 | 0 => 0 | 53 => 232 | 55 => 187 | 4 => 4 | 46 => 226 | 45 => 225 | 50 => 154 | 5 => 5 | 9 => 9 | 66 => 248 | 70 => 251 | 76 => 259 | 77 => 260 | n => n, fun | n => n⟩
theorem Tryz.sortF : Go.Proofs.SlLaysF0.n6 Tryz.prog Tryz.sortF_ren := {
 mixed := by kernel_rfl
 f6 := ⟨Tryz.f90.name, by decide, Tryz.func90.trans (congrArg some (by kernel_rfl))⟩
 f14 := ⟨Tryz.f113.name, by decide, Tryz.func113.trans (congrArg some (by kernel_rfl))⟩
 f15 := Tryz.func97.trans (congrArg some (by kernel_rfl))
 f20 := ⟨Tryz.f133.name, by decide, Tryz.func133.trans (congrArg some (by kernel_rfl))⟩
 f21 := ⟨Tryz.f134.name, by decide, Tryz.func134.trans (congrArg some (by kernel_rfl))⟩
 f22 := ⟨Tryz.f135.name, by decide, Tryz.func135.trans (congrArg some (by kernel_rfl))⟩
 f23 := ⟨Tryz.f136.name, by decide, Tryz.func136.trans (congrArg some (by kernel_rfl))⟩
 f24 := ⟨Tryz.f137.name, by decide, Tryz.func137.trans (congrArg some (by kernel_rfl))⟩
 f25 := ⟨Tryz.f138.name, by decide, Tryz.func138.trans (congrArg some (by kernel_rfl))⟩
 f26 := ⟨Tryz.f139.name, by decide, Tryz.func139.trans (congrArg some (by kernel_rfl))⟩
 f27 := ⟨Tryz.f140.name, by decide, Tryz.func140.trans (congrArg some (by kernel_rfl))⟩
 f28 := Tryz.func124.trans (congrArg some (by kernel_rfl))
 f29 := Tryz.func125.trans (congrArg some (by kernel_rfl))
 f46 := ⟨Tryz.f149.name, by decide, Tryz.func149.trans (congrArg some (by kernel_rfl))⟩
 f47 := Tryz.func142.trans (congrArg some (by kernel_rfl))
 f48 := Tryz.func143.trans (congrArg some (by kernel_rfl))
 f49 := ⟨Tryz.f150.name, by decide, Tryz.func150.trans (congrArg some (by kernel_rfl))⟩
 f50 := ⟨Tryz.f151.name, by decide, Tryz.func151.trans (congrArg some (by kernel_rfl))⟩
 f57 := ⟨Tryz.f155.name, by decide, Tryz.func155.trans (congrArg some (by kernel_rfl))⟩
 t0 := Tryz.underlying0
 a0 := Tryz.isAgg0
 z0 := Tryz.sizeOf0
 v0 := Tryz.zeroValue0
 t3 := Tryz.underlying3
 a3 := Tryz.isAgg3
 z3 := Tryz.sizeOf3
 v3 := Tryz.zeroValue3
 t4 := Tryz.underlying4
 a4 := Tryz.isAgg4
 z4 := Tryz.sizeOf4
 v4 := Tryz.zeroValue4
 t5 := Tryz.underlying5
 a5 := Tryz.isAgg5
 z5 := Tryz.sizeOf5
 v5 := Tryz.zeroValue5
 t9 := Tryz.underlying9
 a9 := Tryz.isAgg9
 z9 := Tryz.sizeOf9
 v9 := Tryz.zeroValue9
 t22 := Tryz.underlying123
 a22 := Tryz.isAgg123
 z22 := Tryz.sizeOf123
 v22 := Tryz.zeroValue123
 t25 := Tryz.underlying128
 a25 := Tryz.isAgg128
 z25 := Tryz.sizeOf128
 v25 := Tryz.zeroValue128
 t39 := Tryz.underlying202
 a39 := Tryz.isAgg202
 z39 := Tryz.sizeOf202
 v39 := Tryz.zeroValue202
 t45 := Tryz.underlying225
 a45 := Tryz.isAgg225
 z45 := Tryz.sizeOf225
 v45 := Tryz.zeroValue225
 t46 := Tryz.underlying226
 a46 := Tryz.isAgg226
 z46 := Tryz.sizeOf226
 v46 := Tryz.zeroValue226
 t50 := Tryz.underlying154
 a50 := Tryz.isAgg154
 z50 := Tryz.sizeOf154
 v50 := Tryz.zeroValue154
 t53 := Tryz.underlying232
 a53 := Tryz.isAgg232
 z53 := Tryz.sizeOf232
 v53 := Tryz.zeroValue232
 t55 := Tryz.underlying187
 a55 := Tryz.isAgg187
 z55 := Tryz.sizeOf187
 v55 := Tryz.zeroValue187
 t66 := Tryz.underlying248
 a66 := Tryz.isAgg248
 z66 := Tryz.sizeOf248
 v66 := Tryz.zeroValue248
 t70 := Tryz.underlying251
 a70 := Tryz.isAgg251
 z70 := Tryz.sizeOf251
 v70 := Tryz.zeroValue251
 t76 := Tryz.underlying259
 a76 := Tryz.isAgg259
 z76 := Tryz.sizeOf259
 v76 := Tryz.zeroValue259
 t77 := Tryz.underlying260
 a77 := Tryz.isAgg260
 z77 := Tryz.sizeOf260
 v77 := Tryz.zeroValue260 }
def Tryz.cmpI_ren : Go.Shelf.Ren := ⟨fun | 5 => 93 | 7 => 114 | n => n, fun | 22 => 3 | 3 => 3 | 4 => 4 | n => n, fun | n => n⟩
theorem Tryz.cmpI : Go.Proofs.SlLaysC2.n5 Tryz.prog Tryz.cmpI_ren := {
 mixed := by kernel_rfl
 f5 := ⟨Tryz.f93.name, by decide, Tryz.func93.trans (congrArg some (by kernel_rfl))⟩
 f7 := ⟨Tryz.f114.name, by decide, Tryz.func114.trans (congrArg some (by kernel_rfl))⟩
 t3 := Tryz.underlying3
 a3 := Tryz.isAgg3
 z3 := Tryz.sizeOf3
 v3 := Tryz.zeroValue3
 t4 := Tryz.underlying4
 a4 := Tryz.isAgg4
 z4 := Tryz.sizeOf4
 v4 := Tryz.zeroValue4
 t22 := Tryz.underlying3
 a22 := Tryz.isAgg3
 z22 := Tryz.sizeOf3
 v22 := Tryz.zeroValue3 }
end Go.Proofs

/- The order of deals; the keys of a broker's cases in order. -/
namespace Go.Proofs.YtdojgbpaheadnaaGreat
open Go.RowKit Go.Shelf Go.Maps Go.Sort

def encP (x : PairI) : List Value := [i64 x.1, i64 x.2]
def cmpP (x y : PairI) : Int := if Lib.compareInt x.1 y.1 ≠ 0 then Lib.compareInt x.1 y.1 else Lib.compareInt x.2 y.2
theorem cmpInt_eq (x y : Int) : Lib.compareInt x y = if x < y then -1 else if x > y then 1 else 0 := rfl
theorem ltP (x y : PairI) : ltOf cmpP x y = decide (x.1 < y.1 ∨ x.1 = y.1 ∧ x.2 < y.2) := by
 unfold ltOf cmpP
 rw [cmpInt_eq, cmpInt_eq]
 by_cases h1 : x.1 < y.1
 ·simp [h1]
 ·by_cases h2 : x.1 > y.1
  ·have : ¬ x.1 = y.1 := by omega
   simp [h1, h2, this]
  ·have h3 : x.1 = y.1 := by omega
   by_cases h4 : x.2 < y.2
   ·simp [h1, h2, h3, h4]
   ·by_cases h5 : x.2 > y.2
    ·simp [h1, h2, h3, h4, h5]
    ·simp [h1, h2, h3, h4, h5]
theorem swoP : SWO (ltOf cmpP) where
 irrefl x := by rw [ltP]; simp
 trans x y z h1 h2 := by rw [ltP] at *; simp only [decide_eq_true_eq] at *; omega
 ntrans x y z h1 h2 := by rw [ltP] at *; simp only [decide_eq_false_iff_not] at *; omega
set_option maxRecDepth 100000 in
set_option maxHeartbeats 2000000 in
theorem or2_any (x y : Int) (b : Nat) (W : World) (hb : Blk W b #[i64 x, i64 y] 3) : Calls Tryz.prog 92 #[.slice (some ⟨b, 0, none⟩) 2 2] W fun e w' => e = .returned (i64 (if x ≠ 0 then x else y)) ∧ w' = W := by
 have c0 : W.cell? ⟨b, 0, none⟩ = some (i64 x) := hb.cell 0
 have c1 : W.cell? ⟨b, 1, none⟩ = some (i64 y) := hb.cell 1
 clear hb
 by_cases hx : x = 0
 ·subst hx
  by_cases hy : y = 0
  ·subst hy
   go_enter Tryz.func92, Tryz.ntmps92
   go_wp2_with fail
   refine wp_loop_rounds 3 ?_
   rw [rounds_succ]
   go_wp2_with fail
   rw [rounds_succ]
   go_wp2_with fail
   rw [rounds_succ]
   go_wp2_with fail
   go_ret
   exact ⟨rfl, rfl⟩
  ·have e1 : (y != 0) = true := by simpa using hy
   clear hy
   go_enter Tryz.func92, Tryz.ntmps92
   go_wp2_with fail
   refine wp_loop_rounds 2 ?_
   rw [rounds_succ]
   go_wp2_with fail
   rw [rounds_succ]
   go_wp2_with fail
   go_ret
   exact ⟨by simp, rfl⟩
 ·have e1 : (x != 0) = true := by simpa using hx
  have e2 : (if x ≠ 0 then x else y) = x := if_pos hx
  rw [e2]
  clear hx e2
  go_enter Tryz.func92, Tryz.ntmps92
  go_wp2_with fail
  refine wp_loop_rounds 1 ?_
  rw [rounds_succ]
  go_wp2_with fail
  go_ret
  exact ⟨rfl, rfl⟩
set_option maxRecDepth 100000 in
set_option maxHeartbeats 2000000 in
theorem compare_any (x y : PairI) (W : World) : Calls Tryz.prog 61 #[dealV x, dealV y] W fun e w' => e = .returned (i64 (cmpP x y)) ∧ ∃ q os', w' = grow (W.drewN q) os' := by
 have hcon := fun (a b : Int) (W' : World) => AnyG.cmp_Compare_int Tryz.cmpI a b W'
 change ∀ (a b : Int) (W' : World), Calls Tryz.prog 93 _ _ _ at hcon
 obtain ⟨xa, xr⟩ := x
 obtain ⟨ya, yr⟩ := y
 unfold dealV cmpP
 dsimp only
 have C1 := fun W' => hcon xa ya W'
 have C2 := fun W' => hcon xr yr W'
 generalize Lib.compareInt xa ya = p at *
 generalize Lib.compareInt xr yr = r at *
 obtain ⟨z, hz⟩ : ∃ z, z = if p ≠ 0 then p else r := ⟨_, rfl⟩
 rw [← hz]
 have HZ := Lib.hid hz
 clear hz
 have C1 := Lib.hid C1
 have C2 := Lib.hid C2
 clear hcon
 go_enter Tryz.func61, Tryz.ntmps61
 go_wp2_with fail
 obtain ⟨W1, hW1⟩ : ∃ W1, W1 = (W.alloc (.cells #[i64 xa, i64 xr] 106)).alloc (.cells #[i64 ya, i64 yr] 106) := ⟨_, rfl⟩
 have X1 : Hid (Blk W1 W.heap.size #[i64 xa, i64 xr] 106) := Lib.hid (by rw [hW1]; exact (Blk.new _ _ _).alloc _)
 have Y1 : Hid (Blk W1 (W.heap.size + 1) #[i64 ya, i64 yr] 106) := Lib.hid (by rw [hW1, show W.heap.size + 1 = (W.alloc (.cells #[i64 xa, i64 xr] 106)).heap.size from (size_alloc _ _).symm]; exact Blk.new _ _ _)
 have HW := Lib.hid hW1
 rw [← hW1]
 clear hW1
 obtain ⟨S, hS⟩ : ∃ S : World → Prop, S = fun V => ∃ n, V = W1.drewN n := ⟨_, rfl⟩
 have LD : Hid (∀ V, S V → V.cell? ⟨W.heap.size, 0, none⟩ = some (i64 xa) ∧ V.cell? ⟨W.heap.size, 1, none⟩ = some (i64 xr) ∧ V.cell? ⟨W.heap.size + 1, 0, none⟩ = some (i64 ya) ∧ V.cell? ⟨W.heap.size + 1, 1, none⟩ = some (i64 yr)) := Lib.hid (by
  rw [hS]; rintro V ⟨n, rfl⟩; exact ⟨(X1.out.drewN n).cell 0, (X1.out.drewN n).cell 1, (Y1.out.drewN n).cell 0, (Y1.out.drewN n).cell 1⟩)
 have SS : Hid (∀ V, S V → ∃ n, V = W1.drewN n) := Lib.hid (by rw [hS]; exact fun V h => h)
 have hHeld : S W1.drew := by rw [hS]; exact ⟨1, rfl⟩
 clear hS
 refine wp_region_sp 10 S (by kernel_rfl) (by kernel_rfl) ?_
 simp only [List.take_succ_cons, List.take_zero]
 apply wpAnyH_apart S
 case take =>
  intro R hR
  refine tk 0 (v := ?_) rfl hHeld ?_ ?_; rotate_left
  ·(intro w hSw; obtain ⟨l0, l1, l2, l3⟩ := LD.out w hSw; go_simp; try (with_reducible rfl))
  try simp only [gZ]
  refine tk 1 (v := ?_) rfl hHeld ?_ ?_; rotate_left
  ·(intro w hSw; obtain ⟨l0, l1, l2, l3⟩ := LD.out w hSw; go_simp; try (with_reducible rfl))
  try simp only [gZ]
  refine tk 2 (v := ?_) rfl hHeld ?_ ?_; rotate_left
  ·(intro w hSw; obtain ⟨l0, l1, l2, l3⟩ := LD.out w hSw; go_simp; try (with_reducible rfl))
  try simp only [gZ]
  refine tk 3 (v := ?_) rfl hHeld ?_ ?_; rotate_left
  ·(intro w hSw; obtain ⟨l0, l1, l2, l3⟩ := LD.out w hSw; go_simp; try (with_reducible rfl))
  try simp only [gZ]
  refine tk 5 (v := ?_) rfl hHeld ?_ ?_; rotate_left
  ·(intro w hSw; obtain ⟨l0, l1, l2, l3⟩ := LD.out w hSw; go_simp; try (with_reducible rfl))
  try simp only [gZ]
  refine tk 6 (v := ?_) rfl hHeld ?_ ?_; rotate_left
  ·(intro w hSw; obtain ⟨l0, l1, l2, l3⟩ := LD.out w hSw; go_simp; try (with_reducible rfl))
  try simp only [gZ]
  refine tk 7 (v := ?_) rfl hHeld ?_ ?_; rotate_left
  ·(intro w hSw; obtain ⟨l0, l1, l2, l3⟩ := LD.out w hSw; go_simp; try (with_reducible rfl))
  try simp only [gZ]
  refine tk 8 (v := ?_) rfl hHeld ?_ ?_; rotate_left
  ·(intro w hSw; obtain ⟨l0, l1, l2, l3⟩ := LD.out w hSw; go_simp; try (with_reducible rfl))
  try simp only [gZ]
  refine wpAnyH_one (i := 4) rfl (by kernel_rfl) (by rfl) ?_
  go_simp
  refine (C1.out _).mono ?_
  rintro e V ⟨rfl, rfl⟩
  refine ⟨hHeld, ?_⟩
  refine wpAnyH_one (i := 9) rfl (by kernel_rfl) (by rfl) ?_
  go_simp
  refine (C2.out _).mono ?_
  rintro e V ⟨rfl, rfl⟩
  refine ⟨hHeld, ?_⟩
  exact wpAnyH_done (by kernel_rfl) ⟨rfl, hR _ hHeld⟩ _
 intro V hV
 obtain ⟨n, rfl⟩ := SS.out V hV
 clear hV hHeld LD SS
 simp only [endN, List.drop_succ_cons, List.drop_zero, Act.put, List.setIfInBounds_toArray, List.set_cons_zero, List.set_cons_succ]
 go_wp2_with fail
 refine (or2_any p r _ _ (Blk.new _ _ _)).mono ?_
 rw [← HZ.out]
 rintro e V ⟨rfl, rfl⟩
 go_wp2_with fail
 go_ret
 refine ⟨rfl, n, #[.cells #[i64 xa, i64 xr] 106, .cells #[i64 ya, i64 yr] 106, .cells #[i64 p, i64 r] 3], ?_⟩
 rw [HW.out, alloc_eq_grow, alloc_eq_grow, alloc_eq_grow]
 show grow (grow (grow (W.drewN n) _) _) _ = _
 rw [grow_grow, grow_grow]; rfl
theorem cmpLays_ (blk off size : Nat) (w : World) : Go.Proofs.CmpLays Tryz.prog 61 #[] encP 2 cmpP blk off size w :=
 fun _ _ _ _ x y => compare_any x y _
theorem flatP (d : Array PairI) : (flatK encP 2 d).toList = pcells d.toList := by
 refine List.ext_getElem? fun t => ?_
 by_cases ht : t < d.size * 2
 ·rw [Array.getElem?_toList]
  unfold flatK
  rw [Array.getElem?_map, Array.getElem?_range, if_pos ht]
  have hk : t / 2 < d.size := by omega
  obtain ⟨l⟩ := d
  simp only [List.size_toArray] at ht hk
  show some _ = _
  have key : ∀ (l : List PairI) (t : Nat), t / 2 < l.length → (pcells l)[t]? = some ((encP l[t / 2]!)[t % 2]!) := by
   intro l
   induction l with
   | nil => intro t h; simp at h
   | cons x l ih =>
    intro t h
    unfold pcells at ih ⊢
    rw [List.flatMap_cons]
    rcases t with _ | _ | t
    ·rfl
    ·rfl
    ·rw [List.getElem?_append_right (by simp), show t + 1 + 1 - [i64 x.1, i64 x.2].length = t by simp, ih t (by simp at h; omega)]
     rw [show (t + 1 + 1) / 2 = t / 2 + 1 by omega, show (t + 1 + 1) % 2 = t % 2 by omega]
     rfl
  rw [key l t hk]
  simp
 ·rw [List.getElem?_eq_none (by rw [Array.length_toList, size_flatK]; omega), List.getElem?_eq_none (by rw [pcells_len, Array.length_toList]; omega)]
theorem heap_sortP {w : World} {g n : Nat} {os : Array Obj} {cur : Array Value} {e : TypeId} {fr : Nat × Nat} (d : Array PairI) (hb : w.heap[g]? = some (.cells cur e fr)) :
  (sortWorldK encP 2 w g 0 n d os).heap[g]? = some (.cells (putCells id 0 (flatK encP 2 d) cur) e fr) := by
 have hg : g < w.heap.size := (Array.getElem?_eq_some_iff.1 hb).1
 unfold sortWorldK putRowK
 rw [heap_grow_old _ _ (by simpa using hg)]
 simp [putRow, mapBlock, Sort.ahead, Array.getElem?_modify, hb, onCells]
theorem grown_sortP {w : World} {g n : Nat} {os : Array Obj} (d : Array PairI) : w.grownBy (sortWorldK encP 2 w g 0 n d os) (some g) := by
 unfold sortWorldK putRowK
 refine ⟨rfl, rfl, rfl, by simp, fun k hk hne => ?_⟩
 rw [heap_grow_old _ _ (by simpa using hk)]
 have : g ≠ k := fun e => hne (by rw [e])
 simp [putRow, mapBlock, Sort.ahead, Array.getElem?_modify, this]
theorem take_putP (cur F : Array Value) (h : F.size ≤ cur.size) : (putCells id 0 F cur).toList.take F.size = F.toList := by
 apply List.ext_getElem?
 intro j
 by_cases hj : j < F.size
 ·rw [List.getElem?_take_of_lt hj, Array.getElem?_toList]
  simp [putCells, hj, show j < cur.size by omega]
 ·rw [List.getElem?_take_eq_none (by omega), List.getElem?_eq_none (by simp; omega)]
theorem rowP_sorted {w : World} {base g cap n : Nat} {e : TypeId} {os : Array Obj} {cur : Array Value} {ss : List PairI} {d : Array PairI} (hl : d.size = ss.length) (hbase : base ≤ g) (hb : w.heap[g]? = some (.cells cur e (0, 0)))
  (h1 : ss.length ≤ cap) (h2 : cap ≤ maxLen) (h3 : cur.size = cap * 2) :
  (sortWorldK encP 2 w g 0 n d os).ownsRow base e 2 (.slice (some ⟨g, 0, none⟩) ss.length cap) ss.length (pcells d.toList) := by
 refine ⟨by rw [pcells_len, Array.length_toList, hl], .inr ⟨g, cap, _, rfl, hbase, heap_sortP _ hb, h1, h2, by simp [putCells, h3], ?_⟩⟩
 rw [← flatP]
 have hs : (flatK encP 2 d).size = ss.length * 2 := by rw [size_flatK, hl]
 rw [← hs]
 exact take_putP _ _ (by rw [hs, h3]; omega)
theorem holdsP {w : World} {g : Nat} {cur : Array Value} {e : TypeId} {ss : List PairI} (hb : w.heap[g]? = some (.cells cur e (0, 0))) (ht : cur.toList.take (ss.length * 2) = pcells ss) : HoldsK encP 2 w g 0 ss.toArray := by
 unfold HoldsK
 intro j hj
 rw [size_flatK, List.size_toArray] at hj
 refine ⟨?_, by simp [World.frozen?, hb]⟩
 have h1 : (cur.toList.take (ss.length * 2))[j]? = (pcells ss)[j]? := by rw [ht]
 rw [List.getElem?_take_of_lt hj] at h1
 have h2 : (pcells ss)[j]? = some (flatK encP 2 ss.toArray)[j]! := by
  have h3 := flatP ss.toArray
  rw [show ss.toArray.toList = ss from rfl] at h3
  rw [← h3, Array.getElem?_toList]
  have h4 : j < (flatK encP 2 ss.toArray).size := by rw [size_flatK, List.size_toArray]; exact hj
  rw [Array.getElem?_eq_getElem h4]; exact congrArg some (getElem!_pos (flatK encP 2 ss.toArray) j h4).symm
 simp only [World.cell?, hb, Nat.zero_add]
 simp only [Option.isSome_none, Bool.false_eq_true, if_false]
 rw [← Array.getElem?_toList, h1, h2]
 rfl
end Go.Proofs.YtdojgbpaheadnaaGreat

/- slices.SortedFunc(maps.Keys(b.cases), compare). -/
namespace Go.Proofs.YtdojgbpaheadnaaGreat
open Go.RowKit Go.Shelf Go.Maps Go.Sort Go.ChangeMaps

theorem keysC_any (mv : Option Nat) (w : World) : Calls Tryz.prog 60 #[.map mv] w fun e w' => e = .returned (.func (.func 91) #[] #[.pointer (some ⟨w.heap.size, 0, none⟩)]) ∧ w' = w.alloc (.cells #[.map mv] 56) := by
 have hmf : ∀ (fn : Fn) (first cap : Array Value) (w : World), (Instr.makeFunc fn first cap).run Tryz.prog w = .ok (.func fn first cap) w := fun _ _ _ _ => rfl
 go_enter Tryz.func60, Tryz.ntmps60
 go_wp2_with fail
 go_ret
 exact ⟨rfl, rfl⟩
set_option maxRecDepth 100000 in
set_option maxHeartbeats 2000000 in
theorem keysB_nil (n : Nat) (Bm : Nat) (w : World) (hBm : Bm < w.heap.size) (hm0 : w.cell? ⟨Bm, 0, none⟩ = some (.map none)) :
  SeqGives Fence.wide n Tryz.prog 91 #[.pointer (some ⟨Bm, 0, none⟩)] dealV (fun ss => ss = []) 0 w := fun l J W hW hJ hY h0 => by
 have hm : W.cell? ⟨Bm, 0, none⟩ = some (.map none) := (hW.cell (p := ⟨Bm, 0, none⟩) hBm).trans hm0
 clear hm0
 refine callsIn_of_wp Tryz.func91 rfl trivial ?_ rfl
 simp only [Tryz.ntmps91, List.size_toArray, List.length_cons, List.length_nil, Nat.reduceAdd, Nat.reduceSub, Array.replicate_succ, Array.replicate_zero, List.push_toArray, List.append_toArray, List.nil_append, List.cons_append]
 have hrg := run_range_nilMap (P := Tryz.prog) W 56 106 111 Tryz.underlying56
 have hnx : ∀ ty, (Instr.next (.pointer (some ⟨W.heap.size, 0, none⟩)) false ty).run Tryz.prog (W.alloc (.mapIter none 0 #[] 0)) = _ := fun ty => run_next_nilMap _ ty 0 0 #[]
 gi_wp2
 refine wpIn_loop_rounds 1 ?_
 rw [roundsIn_succ]
 gi_wp2
 go_end0
 exact ⟨⟨_, rfl⟩, [], rfl, hJ [] W _ none h0 (World.grownBy_alloc W _ none) (fun r e => by cases e)⟩
def prC (c : Cs) : PairI := (c.a, c.r)
abbrev leP : PairI → PairI → Bool := fun x y => !(ltOf cmpP) y x
theorem leP_iff {x y : PairI} : leP x y = true ↔ x.1 < y.1 ∨ x.1 = y.1 ∧ x.2 ≤ y.2 := by
 unfold leP
 rw [ltP, Bool.not_eq_true', decide_eq_false_iff_not]; omega
theorem partP (x y : PairI) (h1 : ltOf cmpP x y = false) (h2 : ltOf cmpP y x = false) : x = y := by
 rw [ltP, decide_eq_false_iff_not] at h1 h2
 exact Prod.ext (by omega) (by omega)
theorem sortC {L : List Cs} (hs : SortedC L) {ss : List PairI} (hp : ss.Perm (L.map prC)) : ss.mergeSort leP = L.map prC := by
 have tr : ∀ a b c : PairI, leP a b = true → leP b c = true → leP a c = true := fun a b c h1 h2 => by rw [leP_iff] at *; omega
 have to : ∀ a b : PairI, (leP a b || leP b a) = true := fun a b => by rw [Bool.or_eq_true, leP_iff, leP_iff]; omega
 refine List.Perm.eq_of_pairwise (le := fun a b => leP a b = true) (fun a b _ _ h1 h2 => ?_) (List.pairwise_mergeSort tr to ss) ?_ ((List.mergeSort_perm _ _).trans hp)
 ·rw [leP_iff] at h1 h2
  exact Prod.ext (by omega) (by omega)
 ·rw [List.pairwise_map]
  exact hs.imp fun {a b} h => by rw [leP_iff]; unfold csBefore at h; unfold prC; dsimp only; omega
theorem nodupC {L : List Cs} (hs : SortedC L) : (L.map prC).Nodup := by
 unfold List.Nodup
 rw [List.pairwise_map]
 exact hs.imp fun {a b} h e => by
  unfold csBefore at h; unfold prC at e
  injection e with e1 e2; omega
theorem gives_perm {w : World} {B b N : Nat} {s : Brk} {rv : Value} {G : List CsG} {o : Nat → Nat} {D : DataW Unit} {f : Lit → Option (DataW Unit)} {mv : Value} (h : BMem w B b s rv mv G o N) (hR : RepL D f) (hf : FitB f G) {ss : List PairI} (hS : GivesP D ss) : ss.Perm (s.L.map prC) := by
 refine (List.perm_ext_iff_of_nodup hS.1 (nodupC h.inOrder)).2 fun x => ?_
 have key : ∀ x : PairI, In64 x → (x ∈ ss ↔ x ∈ s.L.map prC) := fun x hx => by
  rw [hS.2.2 x hx, hR.has]
  show (f (klD x.1 x.2)).isSome = true ↔ _
  rw [hf x.1 x.2 hx.1 hx.2, Option.isSome_map, List.mem_map]
  have e1 := gcs_cs h.gs x.1 x.2
  constructor
  ·intro h2
   obtain ⟨g, hg⟩ := Option.isSome_iff_exists.1 h2
   rw [hg] at e1
   have := cs_some e1
   exact ⟨g.c, this.1, Prod.ext this.2.1 this.2.2⟩
  ·rintro ⟨c, hc, rfl⟩
   have := cs_mem h.inOrder hc
   unfold prC at e1 ⊢
   dsimp only at e1 ⊢
   rw [this] at e1
   cases hg : gcs G c.a c.r with
   | none => rw [hg] at e1; cases e1
   | some g => rfl
 constructor
 ·intro hx; exact (key x (hS.2.1 x hx)).1 hx
 ·intro hx
  have hx64 : In64 x := by
   obtain ⟨c, hc, rfl⟩ := List.mem_map.1 hx
   have := h.ids.2.2.2 c hc
   exact ⟨this.1, this.2.1⟩
  exact (key x hx64).2 hx
theorem BMem.data {w : World} {B b N : Nat} {s : Brk} {rv : Value} {G : List CsG} {o : Nat → Nat} {mb : Nat} (h : BMem w B b s rv (.map (some mb)) G o N) : ∃ D n f, w.ownsMap Tryz.prog 106 RPt mb n D ∧ RepL D f ∧ FitB f G ∧ Maps.size D ≤ 100000 := by
 rcases h.map with ⟨e, _⟩ | ⟨mb', n, f, e, ⟨D, hown, hR⟩, hf, hn, _⟩
 ·cases e
 ·injection e with e; injection e with e; subst e
  refine ⟨D, n, f, hown, hR, hf, ?_⟩
  have h1 := h.len
  have := hown.size_le
  omega
set_option maxRecDepth 100000 in
set_option maxHeartbeats 4000000 in
theorem sortedC_any {w : World} {B b N : Nat} {s : Brk} {rv : Value} {mv : Option Nat} {G : List CsG} {o : Nat → Nat} (h : BMem w B b s rv (.map mv) G o N) :
  Calls Tryz.prog 59 #[.func (.func 91) #[] #[.pointer (some ⟨w.heap.size, 0, none⟩)], .func (.func 61) #[] #[]] (w.alloc (.cells #[.map mv] 56)) fun e w' => ∃ v, e = .returned v ∧
   w'.ownsRow (w.heap.size + 1) 106 2 v s.L.length (pcells (s.L.map prC)) ∧ Below (w.heap.size + 1) (w.alloc (.cells #[.map mv] 56)) w' := by
 have eg : ∀ args w, (callFunc 91 args).run Tryz.prog w = .ok (.enter 91 args) w := enters_of Tryz.func91 (by kernel_rfl) rfl
 have SC := Lib.hid h.inOrder
 have HLL : Hid (s.L.length ≤ 100000) := Lib.hid (by rw [h.gs, List.length_map]; have := h.len; omega)
 obtain ⟨w0, hw0⟩ : ∃ w0, w0 = w.alloc (.cells #[.map mv] 56) := ⟨_, rfl⟩
 have hsz : w0.heap.size = w.heap.size + 1 := by rw [hw0]; exact size_alloc _ _
 have hc : w0.cell? ⟨w.heap.size, 0, none⟩ = some (.map mv) := by rw [hw0]; exact (Blk.new _ _ _).cell 0
 have hS : ∃ S N, N ≤ 100000 ∧ SeqGives Fence.wide 3 Tryz.prog 91 #[.pointer (some ⟨w.heap.size, 0, none⟩)] dealV S N w0 ∧ ∀ ss, S ss → ss.Perm (s.L.map prC) := by
  cases mv with
  | none =>
   refine ⟨_, 0, by omega, keysB_nil 3 w.heap.size w0 (by omega) hc, fun ss hss => ?_⟩
   rcases h.map with ⟨_, hG⟩ | ⟨mb, _, _, e, _⟩
   ·have : s.L = [] := by rw [h.gs, hG]; rfl
    rw [hss, this]; exact List.Perm.refl _
   ·cases e
  | some mb =>
   obtain ⟨D, n, f, hown, hR, hf, hn⟩ := h.data
   refine ⟨_, _, hn, keysB_gives 3 (by omega) w.heap.size mb n D w0 (by omega) hc ?_, fun ss hss => gives_perm h hR hf hss⟩
   have hbl := hown.lt
   obtain ⟨es, clock, hb, Ft, hs, hD⟩ := hown
   exact ⟨es, clock, by rw [hw0]; exact (Below.heap_alloc _ _ mb hbl).trans hb, Ft, hs, hD⟩
 obtain ⟨S, N0, hN0, hseq, hP⟩ := hS
 have cC := Lib.hid ((callsIn_wide (n := 5)).1 (collectD_in 5 (by omega) _ _ eg S N0 hN0 w0 hseq))
 have HP := Lib.hid hP
 rw [← hw0]
 clear hw0 hc hseq hP h
 go_enter Tryz.func59, Tryz.ntmps59
 go_wp2_with fail
 refine cC.out.mono ?_
 rintro e w1 ⟨v, ss, rfl, hss, hrow, hb⟩
 have PM := Lib.hid (HP.out ss hss)
 rw [hsz] at hrow hb
 have HB := Lib.hid hb
 clear hb hss
 rcases hrow.2 with ⟨rfl, hz⟩ | ⟨gb, cap, cur, rfl, hbase, hgb, r1, r2, r3, r4⟩
 ·have hss : ss = [] := List.eq_nil_of_length_eq_zero hz
  subst hss
  have NN := Lib.hid (AnyF.slices_SortFunc_none (P := Tryz.prog) (ρ := Tryz.sortF_ren) { Tryz.sortF with } none 0 (.func (.func 61) #[] #[]) w1)
  go_wp2_with fail
  refine NN.out.mono ?_
  rintro e w2 ⟨rfl, rfl⟩
  have e0 : s.L.map prC = [] := (PM.out.symm).eq_nil
  have FF : Hid (w2.ownsRow (w.heap.size + 1) 106 2 (.slice none 0 0) s.L.length (pcells (s.L.map prC))) := Lib.hid (by
   have hl : s.L.length = 0 := by rw [← List.length_map (f := prC), e0]; rfl
   rw [e0, hl]; exact World.ownsRow_nil _ _ _ _)
  clear hrow e0
  go_wp2_with fail
  go_ret
  exact ⟨_, rfl, FF.out, HB.out⟩
 ·have hH : HoldsK encP 2 w1 gb 0 ss.toArray := holdsP hgb r4
  have hgl : gb < w1.heap.size := (Array.getElem?_eq_some_iff.1 hgb).1
  have hsz : ss.length < 4611686018427387904 := by have := PM.out.length_eq; rw [List.length_map] at this; have := HLL.out; omega
  have eg : ∀ args w, (callFunc 61 args).run Tryz.prog w = .ok (.enter 61 args) w := enters_of Tryz.func61 (by kernel_rfl) rfl
  have SS := AnyQ.slices_SortFunc_total (P := Tryz.prog) (ρ := Tryz.sortF_ren) { Tryz.sortF with } 2 Tryz.isAgg106 Tryz.sizeOf106 encP (fun _ => rfl) (fun x v hv => by simp [encP] at hv; rcases hv with rfl | rfl <;> rfl) cmpP swoP 61 #[] gb 0 cap ss.toArray w1 eg (cmpLays_ gb 0 _ w1) hH hgl (by simpa using hsz) partP
  rw [show ss.toArray.toList = ss from rfl, show (fun x y => !(ltOf cmpP) y x) = leP from rfl, sortC SC.out PM.out, show ss.toArray.size = ss.length from rfl] at SS
  have SS := Lib.hid SS
  have hlen : s.L.length = ss.length := by have := PM.out.length_eq; rw [List.length_map] at this; exact this.symm
  have FF : Hid (∀ n os, (sortWorldK encP 2 w1 gb 0 n (s.L.map prC).toArray os).ownsRow (w.heap.size + 1) 106 2 (.slice (some ⟨gb, 0, none⟩) ss.length cap) s.L.length (pcells (s.L.map prC)) ∧ Below (w.heap.size + 1) w0 (sortWorldK encP 2 w1 gb 0 n (s.L.map prC).toArray os)) := Lib.hid fun n os =>
   ⟨by
    have := rowP_sorted (n := n) (os := os) (ss := ss) (d := (s.L.map prC).toArray) (by rw [List.size_toArray, List.length_map, hlen]) hbase hgb r1 r2 r3
    rw [hlen]; exact this, HB.out.grown (grown_sortP _) (by have := HB.out.size; omega) fun j hj => by cases hj; exact hbase⟩
  clear hrow r1 r2 r3 r4 hgb hH hlen eg
  go_wp2_with fail
  refine SS.out.mono ?_
  rintro e w2 ⟨rfl, n, os, rfl⟩
  go_wp2_with fail
  go_ret
  exact ⟨_, rfl, FF.out n os⟩
end Go.Proofs.YtdojgbpaheadnaaGreat

/- A broker ticks. -/
namespace Go.Proofs.YtdojgbpaheadnaaGreat
open Go.RowKit Go.Shelf Go.Maps Go.ChangeMaps

theorem gcs_mem : ∀ {G : List CsG}, SortedC (G.map (·.c)) → ∀ {x : CsG}, x ∈ G → gcs G x.c.a x.c.r = some x
 | [], _, x, hx => by cases hx
 | y :: G, h, x, hx => by
  unfold SortedC at h
  rw [List.map_cons, List.pairwise_cons] at h
  unfold gcs
  rw [List.find?_cons]
  rcases List.mem_cons.1 hx with rfl | hx
  ·simp [csHit]
  ·have := h.1 x.c (List.mem_map.2 ⟨x, hx, rfl⟩)
   unfold csBefore at this
   rw [show csHit x.c.a x.c.r y.c = false by rw [Bool.eq_false_iff]; intro e; rw [csHit_iff] at e; omega]
   exact gcs_mem h.2 hx
theorem takeG {s : Brk} {G : List CsG} (h : s.L = G.map (·.c)) {k : Nat} {x : CsG} (hk : G[k]? = some x) : s.L.take (k + 1) = s.L.take k ++ [x.c] := by
 have : s.L[k]? = some x.c := by rw [h, List.getElem?_map, hk]; rfl
 rw [List.take_add_one, this]; rfl
theorem pcells_get : ∀ (L : List PairI) (k : Nat) (x : PairI), L[k]? = some x → (pcells L)[k * 2]? = some (i64 x.1) ∧ (pcells L)[k * 2 + 1]? = some (i64 x.2)
 | [], k, x, h => by simp at h
 | y :: L, 0, x, h => by
  obtain rfl : y = x := by simpa using h
  exact ⟨rfl, rfl⟩
 | y :: L, k + 1, x, h => by
  have ih := pcells_get L k x (by simpa using h)
  unfold pcells at ih ⊢
  rw [List.flatMap_cons, List.getElem?_append_right (by simp; omega), List.getElem?_append_right (by simp; omega)]
  have e1 : (k + 1) * 2 - [i64 y.1, i64 y.2].length = k * 2 := by simp; omega
  have e2 : (k + 1) * 2 + 1 - [i64 y.1, i64 y.2].length = k * 2 + 1 := by simp; omega
  rw [e1, e2]; exact ih
theorem mapC_nil0 (W : World) (b : Nat) : (binOp .eql 26 (.pointer (some ⟨b, 0, none⟩)) (.pointer none)).run Tryz.prog W = .ok (.bool false) W := by kernel_rfl
set_option maxRecDepth 100000 in
set_option maxHeartbeats 8000000 in
theorem bTick_any (B b N : Nat) (s : Brk) (rv mv : Value) (G : List CsG) (o : Nat → Nat) (w : World) (h : BMem w B b s rv mv G o N) (hN : N < 90000) (hLn : s.L.length < 900) :
  Calls Tryz.prog 18 #[.pointer (some ⟨b, 0, none⟩)] w fun e w' => ∃ v, e = .returned v ∧ MRow w' w.heap.size v s.tick.2 ∧ BMem w' B b s.tick.1 rv mv G o (N + 1) ∧ Tn (fun k => k = b) w w' := by
 have hGL : G.length < 900 := by have h1 := congrArg List.length h.gs; rw [List.length_map] at h1; omega
 obtain ⟨i0, hi, hz1, hz2, hz3⟩ := info_partsM
 obtain ⟨mvo, rfl⟩ : ∃ mvo, mv = .map mvo := by
  rcases h.map with ⟨e, _⟩ | ⟨mb, _, _, e, _⟩
  ·exact ⟨_, e⟩
  ·exact ⟨_, e⟩
 have H := Lib.hid h
 have c3 : w.cell? ⟨b, 3, none⟩ = some (.map mvo) := h.blk.cell 3
 have hbl := h.blk.lt
 have SA := Lib.hid (sortedC_any h)
 have hl1 := h.len.1
 have hs0 := h.sent.1
 have hs1 := h.sent.2
 have HLG : Hid (s.L.length = G.length) := Lib.hid (by rw [h.gs, List.length_map])
 clear h
 go_enter Tryz.func18, Tryz.ntmps18
 go_wp2_with fail
 refine (keysC_any mvo w).mono ?_
 rintro e w1 ⟨rfl, hw1⟩
 rw [← hw1] at SA
 have B1 : Hid (Below w.heap.size w w1) := Lib.hid (by rw [hw1]; exact (Below.refl _ _).alloc (Nat.le_refl _) _)
 have hz : w1.heap.size = w.heap.size + 1 := by rw [hw1]; exact size_alloc _ _
 have HZ := Lib.hid hz
 clear hw1 hz
 go_wp2_with fail
 refine SA.out.mono ?_
 rintro e w2 ⟨v14, rfl, hrow, hb⟩
 rw [HLG.out] at hrow
 have R2 := Lib.hid hrow
 have B2 : Hid (Below w.heap.size w w2) := Lib.hid (B1.out.trans ⟨hb.os, hb.tape, hb.output, hb.size, fun i hi => hb.block i (by omega)⟩)
 obtain ⟨a14, c14, rfl, hc1, hc2, -, hcells⟩ := row_cellz hrow
 have hc14 : c14 ≤ 9223372036854775807 := by unfold maxLen at hc2; omega
 have HC := Lib.hid hcells
 have M2 := Lib.hid (H.out.up B2.out)
 have h2z : w.heap.size < w2.heap.size := by have := hb.size; have := HZ.out; omega
 clear hrow hb hcells SA B1 hc1 hc2
 go_wp2_with fail
 go_loopw [3, 16] (fun u i wr => ∃ (k : Nat) (lo : Value), k ≤ G.length ∧ i = .int .i64 k ∧ lo = u ∧ MRow wr w2.heap.size lo (tickB s (s.L.take k)).2 ∧ BMem wr B b (tickB s (s.L.take k)).1 rv (.map mvo) G o (N + 1) ∧ Tn (fun k => k = b) w wr ∧ Tn (fun k => k = b ∨ w2.heap.size ≤ k) w2 wr) (fun _ i _ => G.length - (intOf i).toNat)
 case atStart => exact ⟨0, _, Nat.zero_le _, rfl, rfl, MRow.nil _ _, M2.out.mono (Nat.le_succ _) (by omega), Tn.of_below B2.out, Tn.refl _ _⟩
 case round =>
  obtain ⟨k, lo, hk, rfl, rfl, hrow, hM, hT, hT2⟩ := hrel
  have RW := Lib.hid hrow
  have M3 := Lib.hid hM
  have T3 := Lib.hid hT
  have T32 := Lib.hid hT2
  clear hrow hM hT hT2 M2
  obtain ⟨j, hsame, hj0, hj1, hmany⟩ := tickB_same (s.L.take k) s
  have hlen : (s.L.take k).length ≤ k := by rw [List.length_take]; omega
  by_cases hlt : k < G.length
  ·obtain ⟨x, hx⟩ : ∃ x, G[k]? = some x := ⟨_, List.getElem?_eq_getElem hlt⟩
   have hxG : x ∈ G := List.mem_of_getElem? hx
   have HX : Hid (gcs G x.c.a x.c.r = some x) := Lib.hid (gcs_mem (by rw [← H.out.gs]; exact H.out.inOrder) hxG)
   obtain ⟨g, rfl, go, hgB, hgl, hgc⟩ := HC.out.resolve_left (fun h => by omega)
   have hpx : (s.L.map prC)[k]? = some (x.c.a, x.c.r) := by rw [H.out.gs, List.map_map, List.getElem?_map, hx]; rfl
   obtain ⟨p0, p1⟩ := pcells_get _ k _ hpx
   have hng : ¬ (g = b ∨ w2.heap.size ≤ g) := by have := B2.out; rintro (e | e) <;> omega
   have g0 : wr.cell? ⟨g, k * 2, none⟩ = some (i64 x.c.a) := T32.out.cell (hgc _ _ p0) hng
   have g1 : wr.cell? ⟨g, k * 2 + 1, none⟩ = some (i64 x.c.r) := T32.out.cell (hgc _ _ p1) hng
   have hsnoc := tickB_snoc x.c (s.L.take k) s
   rw [← takeG H.out.gs hx] at hsnoc
   obtain ⟨sk, hsk⟩ : ∃ sk, sk = tickB s (s.L.take k) := ⟨_, rfl⟩
   rw [← hsk] at RW M3 hsnoc hsame hmany
   have htk : (s.L.take k).length ≤ k := List.length_take_le k s.L
   have hsl : sk.1.sent < 1000 * ((N + 1 : Nat) : Int) := by rw [hsame]; dsimp only; omega
   have hml : sk.2.length ≤ 1000 := by omega
   obtain ⟨hxk, -, hxl⟩ := M3.out.cases_ x hxG
   have hI := H.out.ids.2.2.2 x.c (by rw [H.out.gs]; exact List.mem_map.2 ⟨x, hxG, rfl⟩)
   have HI := Lib.hid (And.intro hI.1 hI.2.1)
   have XK := Lib.hid hxk
   obtain ⟨va, vc, rfl, -⟩ := row_cellz RW.out
   obtain ⟨w4, hw4⟩ : ∃ w4, w4 = wr.alloc (.cells #[i64 x.c.a, i64 x.c.r] 106) := ⟨_, rfl⟩
   obtain ⟨db, hdb⟩ : ∃ db, db = wr.heap.size := ⟨_, rfl⟩
   have D4 : Hid (Blk w4 db #[i64 x.c.a, i64 x.c.r] 106) := Lib.hid (by rw [hw4, hdb]; exact Blk.new _ _ _)
   have B4 : Hid (Below wr.heap.size wr w4) := Lib.hid (by rw [hw4]; exact (Below.refl _ _).alloc (Nat.le_refl _) _)
   have HW4 := Lib.hid hw4
   have HDB := Lib.hid hdb
   clear hsk hsame hx hxG hj0 hj1 hmany hlen hpx p0 p1 hng hgc hgB hgl go hxk hxl hI hw4 hdb
   go_wp2_with fail
   rw [← HW4.out, ← HDB.out]
   obtain ⟨S, hS⟩ : ∃ S : World → Prop, S = fun W => ∃ n, W = w4.drewN n := ⟨_, rfl⟩
   have M4 := Lib.hid (M3.out.up B4.out)
   have LD : Hid (∀ W, S W → W.cell? ⟨b, 3, none⟩ = some (.map mvo) ∧ W.cell? ⟨db, 0, none⟩ = some (i64 x.c.a) ∧ W.cell? ⟨db, 1, none⟩ = some (i64 x.c.r) ∧ (Instr.lookup 56 (.map mvo) (.agg #[i64 x.c.a, i64 x.c.r]) false).run Tryz.prog W = .ok (.pointer (some ⟨x.k, 0, none⟩)) W) := Lib.hid (by
    rw [hS]; rintro W ⟨n, rfl⟩
    refine ⟨M4.out.blk.cell 3, D4.out.cell 0, D4.out.cell 1, ?_⟩
    have := (M4.out.up (bdrewN (Below.refl _ _) n)).look HI.out.1 HI.out.2
    rw [HX.out] at this; exact this)
   have SS : Hid (∀ W, S W → ∃ n, W = w4.drewN n) := Lib.hid (by rw [hS]; exact fun W h => h)
   have hHeld : S w4.drew := by rw [hS]; exact ⟨1, rfl⟩
   clear hS g0 g1
   refine wp_region_held_drew (S := S) (by kernel_rfl) hHeld (fun _ => ?_)
   apply wpAnyH_apart S
   case take =>
    intro R hR
    refine tk 0 (v := ?_) rfl hHeld ?_ ?_; rotate_left
    ·(intro w hSw; have l0 := (LD.out w hSw).1; go_simp; try (with_reducible rfl))
    try simp only [gZ]
    refine tk 1 (v := ?_) rfl hHeld ?_ ?_; rotate_left
    ·(intro w hSw; have l0 := (LD.out w hSw).1; go_simp; try (with_reducible rfl))
    try simp only [gZ]
    refine tk 2 (v := ?_) rfl hHeld ?_ ?_; rotate_left
    ·(intro w hSw; have l0 := (LD.out w hSw).1; go_simp; try (with_reducible rfl))
    try simp only [gZ]
    refine tk 3 (v := ?_) rfl hHeld ?_ ?_; rotate_left
    ·(intro w hSw; have l0 := (LD.out w hSw).1; go_simp; try (with_reducible rfl))
    try simp only [gZ]
    refine tk 4 (v := ?_) rfl hHeld ?_ ?_; rotate_left
    ·(intro w hSw; obtain ⟨-, l1, l2, -⟩ := LD.out w hSw; go_simp; try (with_reducible rfl))
    try simp only [gZ]
    refine tk 5 (v := ?_) rfl hHeld ?_ ?_; rotate_left
    ·(intro w hSw; have l0 := (LD.out w hSw).2.2.2; go_simp; try (with_reducible rfl))
    try simp only [gZ]
    refine tk 6 (v := ?_) rfl hHeld ?_ ?_; rotate_left
    ·(intro w hSw; clear hSw; go_simp; try (with_reducible rfl))
    try simp only [gZ]
    exact wpAnyH_done (by kernel_rfl) ⟨rfl, hR _ hHeld⟩ _
   intro w5 hW
   obtain ⟨n5, hn5⟩ := SS.out w5 hW
   have B5 : Hid (Below wr.heap.size wr w5) := Lib.hid (hn5 ▸ bdrewN B4.out n5)
   have D5 : Hid (Blk w5 db #[i64 x.c.a, i64 x.c.r] 106) := Lib.hid (hn5 ▸ D4.out.drewN n5)
   clear hn5 hW SS LD hHeld M4 D4 B4
   have M5 := Lib.hid (M3.out.up B5.out)
   have X5 := Lib.hid (XK.out.below B5.out XK.out.lt)
   have T5 := Lib.hid (T3.out.trans (Tn.of_below (F := fun k => k = b) B5.out))
   have T52 := Lib.hid (T32.out.trans (Tn.of_below (F := fun k => k = b ∨ w2.heap.size ≤ k) B5.out))
   have RW5 : Hid (MRow w5 w2.heap.size (.slice va sk.2.length vc) sk.2) := Lib.hid (ownsB_same RW.out fun r hr => B5.out.block r (row_lt RW.out r hr).2)
   have d0 : w5.cell? ⟨db, 0, none⟩ = some (i64 x.c.a) := D5.out.cell 0
   have d1 : w5.cell? ⟨db, 1, none⟩ = some (i64 x.c.r) := D5.out.cell 1
   obtain ⟨n, hn⟩ : ∃ n, n = x.c.left.length := ⟨_, rfl⟩
   have k1 : w5.cell? ⟨x.k, 1, none⟩ = some (.slice x.la n x.lc) := by rw [hn]; exact X5.out.cell 1
   have k2 : w5.cell? ⟨x.k, 2, none⟩ = some (.bool x.c.g) := X5.out.cell 2
   clear M3 T3 T32 RW B5
   by_cases ho : x.c.opn = true
   ·rw [if_pos ho] at hsnoc
    obtain ⟨⟨mf, mt, mn, mx⟩, hm⟩ := tellB sk.1 x.c
    have SN : Hid (tickB s (s.L.take (k + 1)) = ((sk.1.tell x.c).1, sk.2 ++ [⟨mf, mt, mn, mx⟩])) := Lib.hid (by rw [hsnoc, hm])
    have HM := Lib.hid hm
    obtain ⟨ho1, ho2⟩ := opn_iff.1 ho
    have hn0 : 0 < n := by rw [hn]; exact List.length_pos_iff.2 ho2
    have hn1 : (n : Int) > 0 := by omega
    rw [ho1] at k2
    clear ho ho1 ho2 hsnoc hm hn
    go_wp2_with fail
    refine (bTell_any B b (N + 1) sk.1 rv (.map mvo) G o x x.c.a x.c.r w5 M5.out HX.out hsl).mono ?_
    rintro e w6 ⟨v6, rfl, hm6, hM6, hT6⟩
    rw [HM.out] at hm6
    obtain ⟨g6, hg6, rfl, hb6⟩ := hm6
    have M6 := Lib.hid hM6
    have N6 := Lib.hid hb6
    have T6 := Lib.hid (T5.out.trans hT6)
    have T62 := Lib.hid (T52.out.trans (hT6.mono fun k hk => .inl hk))
    have RW6 : Hid (MRow w6 w2.heap.size (.slice va sk.2.length vc) sk.2) := Lib.hid (hT6.row RW5.out fun r hr e => by have := (row_lt RW5.out r hr).1; omega)
    have hz6 := T62.out.size
    clear hM6 hT6 hb6 d0 d1 k1 k2 M5 T5 T52 RW5
    go_wp2_with (first
     | (refine wpList_append_all rfl (.tmp 39) (.tmp 42) 38 rfl w2.heap.size 31 i0 _ 4 40 Tryz.underlying38 hi hz1 hz2 hz3 rfl (by omega) _ sk.2.length (mcells sk.2) rfl RW6.out 1 (encM ⟨mf, mt, mn, mx⟩).toList _ rfl (.inr ⟨_, _, rfl, rfl, blk_news N6.out⟩) (enc_one _) (by unfold maxLen; omega) (by omega) hz6 ?_
        intro v7 w7 hown7 hg7 hat7
        have R7 : Hid (MRow w7 w2.heap.size v7 (sk.2 ++ [⟨mf, mt, mn, mx⟩])) := Lib.hid (by
         unfold MRow
         rw [mcells_app, List.length_append]
         have e : mcells [⟨mf, mt, mn, mx⟩] = (encM ⟨mf, mt, mn, mx⟩).toList := by simp [mcells]
         rw [e]; exact hown7)
        have TG : Hid (Tn (fun j => (Value.slice va sk.2.length vc).ownBlock = some j) w6 w7) := Lib.hid ((Tn.of_grown hg7).mono fun k hk => hk)
        clear hown7 hg7 hat7))
    have hu : ∀ j, (Value.slice va sk.2.length vc).ownBlock = some j → w2.heap.size ≤ j := fun j hj => (row_lt RW6.out j hj).1
    have M7 := Lib.hid (M6.out.keep TG.out fun j hj => by
     rcases Nat.eq_zero_or_pos (o j) with h0 | h0
     ·exact h0
     ·have h1 := (H.out.olt j (by omega)).2
      have := hu j hj; omega)
    have T7 : Hid (Tn (fun k => k = b) w w7) := Lib.hid (T6.out.then_ TG.out fun j hj => .inr (by have := hu j hj; omega))
    have T72 : Hid (Tn (fun k => k = b ∨ w2.heap.size ≤ k) w2 w7) := Lib.hid (T62.out.then_ TG.out fun j hj => .inl (.inr (hu j hj)))
    exact ⟨⟨k + 1, _, hlt, by go_num, rfl, by rw [SN.out]; exact R7.out, by rw [SN.out]; exact M7.out, T7.out, T72.out⟩, by simp [intOf]; omega⟩
   ·rw [if_neg ho] at hsnoc
    have SN := Lib.hid hsnoc
    clear hsnoc
    by_cases hg : x.c.g = true
    ·rw [hg] at k2
     clear ho hg hn
     go_wp2_with fail
     exact ⟨⟨k + 1, _, hlt, by go_num, rfl, by rw [SN.out]; exact RW5.out, by rw [SN.out]; exact M5.out, T5.out, T52.out⟩, by simp [intOf]; omega⟩
    ·have hg0 : x.c.g = false := by simpa using hg
     have hn0 : n = 0 := by
      rw [hn]
      cases hl : x.c.left with
      | nil => rfl
      | cons y l => exact absurd (opn_iff.2 ⟨hg0, by rw [hl]; simp⟩) ho
     rw [hg0] at k2
     rw [hn0] at k1
     clear ho hg hg0 hn hn0
     go_wp2_with fail
     exact ⟨⟨k + 1, _, hlt, by go_num, rfl, by rw [SN.out]; exact RW5.out, by rw [SN.out]; exact M5.out, T5.out, T52.out⟩, by simp [intOf]; omega⟩
  ·have hk2 : k = G.length := by omega
   have e1 : tickB s (s.L.take k) = s.tick := by rw [List.take_of_length_le (by rw [HLG.out]; omega)]; rfl
   rw [e1] at RW M3
   subst hk2
   clear e1 hsame hj0 hj1 hmany hk
   go_wp2_with fail
   go_ret
   exact ⟨_, rfl, row_mono RW.out (by omega), M3.out, T3.out⟩
end Go.Proofs.YtdojgbpaheadnaaGreat
