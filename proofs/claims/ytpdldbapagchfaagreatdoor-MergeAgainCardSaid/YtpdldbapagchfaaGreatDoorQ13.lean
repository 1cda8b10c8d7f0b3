/- The collector all, whole. -/
import Derived.Test.YtpdldbapagchfaaGreatDoorQ12
import Derived.Test.YtpdldbapagchfaaGreatDoorQ08
set_option linter.unusedVariables false
set_option linter.unusedSimpArgs false

namespace Go.Proofs.YtpdldbapagchfaaGreatDoor
open Go.RowKit Go.Shelf Go.Maps

def delA (l : List Said) (j : Nat) : Bool := match l[j]? with
  | some x => hasK (l.take j) x.1
  | none => false
theorem keptA (l : List Said) : ∀ j, j ≤ l.length → keptD (delA l) l j = keepAll (foldS tabC) (l.take j)
  | 0, _ => by simp [keptD, keepAll]
  | j + 1, hj => by
    have hx := List.getElem?_eq_getElem (show j < l.length by omega)
    have hd : delA l j = hasK (l.take j) l[j].1 := by unfold delA; rw [hx]
    unfold keptD
    rw [hd, keptA l j (by omega), List.take_succ_eq_append_getElem (by omega), keepAll_snoc, hx]
    unfold hasK
    simp only [Option.toList_some]
theorem AllJ.below {sb mb j : Nat} {l : List Said} {W W' : World} (h : AllJ sb mb l j W) (hb : Below W.heap.size W W') : AllJ sb mb l j W' := by
  obtain ⟨f, h1, h2⟩ := h.m
  exact ⟨h.ne, Below.cellE hb h.s, f, h1.keep (Tn.of_below (F := fun _ => False) hb) (fun h => h), h2⟩
theorem AllJ.set {sb mb j g : Nat} {l : List Said} {W : World} (h : AllJ sb mb l j W) (h1 : sb ≠ g) (h2 : mb ≠ g) (o : Nat) (u : Value) : AllJ sb mb l j (W.setCell ⟨g, o, none⟩ u) := by
  obtain ⟨f, h3, h4⟩ := h.m
  refine ⟨h.ne, ?_, f, h3.keep ((Tn.refl (fun b => b = g) W).setCell (p := ⟨g, o, none⟩) (.inl rfl) u) h2, h4⟩
  rw [World.cell?_setCell_other _ _ _ _ (by intro e; injection e with e1 _; exact h1 e1.symm)]; exact h.s
set_option maxRecDepth 100000 in
set_option maxHeartbeats 2000000 in
theorem all_any {cb B g n cap : Nat} {S : Nat → Prop} {l : List Said} {w : World} (hn : l.length = n) (hn0 : 0 < n) (hn1 : n ≤ 100000) (hst : DelSt S B g n cap w [] l 0) (hc : w.cell? ⟨cb, 0, none⟩ = some (.slice (some ⟨g, 0, none⟩) n cap)) (hSg : ¬ S g) (hSw : ∀ b, S b → b < w.heap.size) (hK : ∀ x ∈ l, KOk x.1) :
    Calls Tryz.prog 51 #[.pointer (some ⟨cb, 0, none⟩)] w fun e W' => ∃ v', e = .returned v' ∧ SlOf 6 (fun b => b = g) (SaidC S) W' v' (keepAll (foldS tabC) l) ∧ Tn (fun b => b = g) w W' := by
  obtain ⟨hBg, hgl, hcap, hmx⟩ := hst.cells.resolve_right (by omega)
  obtain ⟨mb, hmb⟩ : ∃ mb, mb = w.heap.size := ⟨_, rfl⟩
  obtain ⟨sb, hsb⟩ : ∃ sb, sb = w.heap.size + 1 := ⟨_, rfl⟩
  have HKE : RowKit.Hid (keptD (delA l) l n = keepAll (foldS tabC) l) := Lib.hid (by rw [keptA l n (by omega), ← hn, List.take_length])
  obtain ⟨W1, hW1⟩ : ∃ W1, W1 = (w.alloc (.map #[] 0)).alloc (.cells #[.map (some w.heap.size)] 119) := ⟨_, rfl⟩
  have B1 : RowKit.Hid (Below w.heap.size w W1) := Lib.hid (by rw [hW1]; exact ((Below.refl _ _).alloc (Nat.le_refl _) _).alloc (by simp) _)
  have c1 : W1.cell? ⟨cb, 0, none⟩ = some (.slice (some ⟨g, 0, none⟩) n cap) := Below.cellE B1.out hc
  have S1 : RowKit.Hid (DelSt S B g n cap W1 [] l 0) := Lib.hid (hst.tn (Tn.of_below (F := fun _ => False) B1.out) (fun _ _ h => h) (fun h => h))
  have hz1 : W1.heap.size = w.heap.size + 2 := by rw [hW1]; simp
  have J1 : AllJ sb mb l 0 W1 := by
    refine ⟨by omega, ?_, fun _ => none, ?_, fun x hx => ?_⟩
    · have h1 : Blk W1 (w.heap.size + 1) #[.map (some w.heap.size)] 119 := by rw [hW1]; exact Blk.at_new (by simp) _ _
      rw [hsb, hmb]; exact h1.cell 0
    · have h1 := MapF.new w Tryz.prog 121 RB
      rw [hW1, hmb]
      exact h1.keep (Tn.alloc1 (F := fun _ => False) _ _) (fun h => h)
    · simp [hasK, keepAll]
  have eg : ∀ args w, (callFunc 74 args).run Tryz.prog w = .ok (.enter 74 args) w := enters_of Tryz.func74 (by kernel_rfl) rfl
  have HD := Lib.hid (deleteS_any (pf := 74) (pb := sb) (F := fun b => b = mb) (del := delA l) (J := fun j W => AllJ sb mb l j W) eg hn hn1 S1.out (by omega) hcap hmx hSg (by omega) (fun b hb e => by have := hSw b hb; omega) (fun b e => by omega)
    (fun j h W cs hj hx => (allC_any hj h (by omega) (hK _ (List.getElem_mem h)) hx).mono fun e W' ⟨h1, h2, h3⟩ => ⟨by rw [h1]; simp [delA, List.getElem?_eq_getElem h], h2, h3⟩)
    J1 (fun _ W o h => h.below ((Below.refl _ _).alloc (Nat.le_refl _) _))
    (fun d _ _ j W o u h _ => h.set (by omega) (by omega) o u))
  rw [HKE.out] at HD
  clear J1 hst eg hc hz1
  rw [hW1] at c1
  have hmk := run_makeMap (P := Tryz.prog) 119
  go_enter Tryz.func51, Tryz.ntmps51
  go_wp2_with fail
  rw [← hW1, ← hsb]
  refine HD.out.mono ?_
  rintro e w2 ⟨v', rfl, hs, ht⟩
  have HS := Lib.hid hs
  have HT : RowKit.Hid (Tn (fun b => b = g) w w2) := Lib.hid ⟨ht.os.trans B1.out.os, ht.tape.trans B1.out.tape, ht.output.trans B1.out.output, Nat.le_trans B1.out.size ht.size, fun b hb hn => (ht.block b (by have := B1.out.size; omega) (fun h => h.elim (fun e => by omega) hn)).trans (B1.out.block b hb)⟩
  obtain ⟨va, vc, rfl, -⟩ := hs
  clear ht hW1 hsb hmb
  go_wp2_with fail
  go_ret
  exact ⟨_, rfl, HS.out, HT.out⟩
end Go.Proofs.YtpdldbapagchfaaGreatDoor

/- The place of a tag's policy says its policy. -/
namespace Go.Proofs.YtpdldbapagchfaaGreatDoor
open Go.RowKit Go.Shelf Go.Maps

/-- The method that keeps as a policy says. -/
def polN : Pol → Nat
  | .loc => 49
  | .first => 50
  | .all => 51
def holdsL (b L : List UInt8) : Bool := decide (L = b) || (decide (b.length < 3) && b.isPrefixOf L)
theorem holdsB_L (b t : ByteArray) : holdsB b t = holdsL b.data.toList t.data.toList := by
  unfold holdsB holdsL Lib.hasPrefix
  have h1 : decide (t = b) = decide (t.data.toList = b.data.toList) := by
    by_cases h : t = b
    · subst h; simp
    · have h2 : ¬ t.data.toList = b.data.toList := fun e => h (toList_inj (by rw [toList_data, toList_data, e]))
      rw [decide_eq_false h, decide_eq_false h2]
  have h3 : b.data.toList.length = b.size := dsz b
  rw [h1, h3]
def fnL (L : List UInt8) : Nat :=
  if holdsL [57] L then 49 else if holdsL [48, 48] L then 50 else if holdsL [48, 49, 48] L then 50 else if holdsL [48, 52, 48] L then 50 else if holdsL [49, 48, 48] L then 50
  else if holdsL [49, 49, 48] L then 50 else if holdsL [50, 52, 53] L then 50 else 51
theorem fn_idx (t : ByteArray) : (polsL[idxP t]?).map (·.2) = some (fnL t.data.toList) := by
  unfold idxP fnL
  have e : ∀ b : ByteArray, holdsB b t = holdsL b.data.toList t.data.toList := fun b => holdsB_L b t
  have hn := holds_nil t
  rw [e] at hn
  have hn' : holdsL [] t.data.toList = true := hn
  simp only [polsL, List.findIdx_cons, e]
  clear hn e
  generalize t.data.toList = L at *
  cases h0 : holdsL [57] L
  · cases h1 : holdsL [48, 48] L
    · cases h2 : holdsL [48, 49, 48] L
      · cases h3 : holdsL [48, 52, 48] L
        · cases h4 : holdsL [49, 48, 48] L
          · cases h5 : holdsL [49, 49, 48] L
            · cases h6 : holdsL [50, 52, 53] L
              · simp [hn']
              · simp
            · simp
          · simp
        · simp
      · simp
    · simp
  · simp
theorem fn_pol (t : ByteArray) : fnL t.data.toList = polN (polP t) := by
  unfold polP
  rw [toList_data]
  generalize t.data.toList = L
  cases L with
  | nil => rfl
  | cons b l =>
    dsimp only
    have e0 : holdsL [57] (b :: l) = decide (b = 57) := by
      unfold holdsL
      by_cases h : b = 57
      · subst h; simp
      · have h' : ¬ (57 : UInt8) = b := fun e => h e.symm
        simp [h, h', List.isPrefixOf]
    have e1 : holdsL [48, 48] (b :: l) = decide (b = 48 ∧ l.head? = some 48) := by
      unfold holdsL
      by_cases h : b = 48
      · subst h
        cases l with
        | nil => simp
        | cons c l =>
          by_cases h2 : c = 48
          · subst h2; simp
          · have h2' : ¬ (48 : UInt8) = c := fun e => h2 e.symm
            simp [h2, h2', List.isPrefixOf]
      · have h' : ¬ (48 : UInt8) = b := fun e => h e.symm
        simp [h, h', List.isPrefixOf]
    have e3 : ∀ x y z : UInt8, holdsL [x, y, z] (b :: l) = decide (b :: l = [x, y, z]) := fun x y z => by simp [holdsL]
    unfold fnL
    rw [e0, e1, e3, e3, e3, e3, e3]
    by_cases h : b = 57
    · simp [h, polN]
    · simp only [decide_eq_true_eq]
      rw [if_neg h, if_neg h]
      by_cases h1 : b = 48 ∧ l.head? = some 48
      · rw [if_pos h1, if_pos (.inl h1)]; rfl
      · rw [if_neg h1]
        by_cases h2 : b :: l = [48, 49, 48]
        · rw [if_pos h2, if_pos (.inr (.inl h2))]; rfl
        · rw [if_neg h2]
          by_cases h3 : b :: l = [48, 52, 48]
          · rw [if_pos h3, if_pos (.inr (.inr (.inl h3)))]; rfl
          · rw [if_neg h3]
            by_cases h4 : b :: l = [49, 48, 48]
            · rw [if_pos h4, if_pos (.inr (.inr (.inr (.inl h4))))]; rfl
            · rw [if_neg h4]
              by_cases h5 : b :: l = [49, 49, 48]
              · rw [if_pos h5, if_pos (.inr (.inr (.inr (.inr (.inl h5)))))]; rfl
              · rw [if_neg h5]
                by_cases h6 : b :: l = [50, 52, 53]
                · rw [if_pos h6, if_pos (.inr (.inr (.inr (.inr (.inr h6)))))]; rfl
                · rw [if_neg h6, if_neg (by rintro (h | h | h | h | h | h) <;> contradiction)]; rfl
/-- The cells of a tag's policy in the row of policies. -/
theorem pol_cells (t : ByteArray) : (polCells polsL)[idxP t * 2 + 1]? = some (.func (.func (polN (polP t))) #[] #[]) := by
  have h1 := idxP_lt t
  have h2 := fn_idx t
  rw [fn_pol] at h2
  have h3 : idxP t < polsL.length := h1
  rw [polCells_at h3 1 (by omega)]
  rw [List.getElem?_eq_getElem h3] at h2
  have h4 : polsL[idxP t].2 = polN (polP t) := by injection h2
  unfold polV
  rw [h4]; rfl
end Go.Proofs.YtpdldbapagchfaaGreatDoor

/- The tags in order. -/
namespace Go.Proofs.YtpdldbapagchfaaGreatDoor

/-- The order of texts, byte by byte. -/
def ltT (a b : ByteArray) : Bool := decide (a.data.toList < b.data.toList)
theorem data_inj {a b : ByteArray} (h : a.data.toList = b.data.toList) : a = b := toList_inj (by rw [toList_data, toList_data, h])
theorem ltT_ord : TagOrd ltT where
  irr := fun a => by unfold ltT; exact decide_eq_false (List.lt_irrefl _)
  tr := fun {a b c} h1 h2 => by
    unfold ltT at *
    exact decide_eq_true (List.lt_trans (of_decide_eq_true h1) (of_decide_eq_true h2))
  tot := fun {a b} h => by
    unfold ltT at *
    have h1 : ¬ a.data.toList < b.data.toList := of_decide_eq_false h
    by_cases h2 : b.data.toList < a.data.toList
    · exact .inr (decide_eq_true h2)
    · exact .inl (data_inj (List.le_antisymm (List.not_lt.1 h2) (List.not_lt.1 h1)))
/-- The tags that came, each once, sorted. -/
theorem tags_sorted {l : List Said} {ts : List ByteArray} (hn : ts.Nodup) (h : ∀ t, t ∈ ts ↔ ∃ x ∈ l, x.1.tag = t) :
    ((ts.map (·.data.toList)).mergeSort fun x y => decide (x ≤ y)) = (tagsP ltT l).map (·.data.toList) := by
  have hp := List.mergeSort_perm (ts.map (·.data.toList)) (fun x y => decide (x ≤ y))
  have hs : ((ts.map (·.data.toList)).mergeSort fun x y => decide (x ≤ y)).Pairwise fun x y => decide (x ≤ y) = true :=
    List.pairwise_mergeSort (le := fun x y : List UInt8 => decide (x ≤ y)) (fun a b c h1 h2 => decide_eq_true (List.le_trans (of_decide_eq_true h1) (of_decide_eq_true h2))) (fun a b => by
      have h : a ≤ b ∨ b ≤ a := List.le_total a b
      rcases h with h | h <;> simp [h]) _
  have hnd : ((ts.map (·.data.toList)).mergeSort fun x y => decide (x ≤ y)).Nodup := hp.nodup_iff.2 (List.Pairwise.map _ (fun a b hab e => hab (data_inj e)) hn)
  obtain ⟨us, hus⟩ : ∃ us : List ByteArray, us.map (·.data.toList) = ((ts.map (·.data.toList)).mergeSort fun x y => decide (x ≤ y)) := by
    refine ⟨((ts.map (·.data.toList)).mergeSort fun x y => decide (x ≤ y)).map ofL, ?_⟩
    rw [List.map_map]
    refine (List.map_congr_left fun x _ => ?_).trans (List.map_id _)
    rfl
  rw [← hus] at hs hnd hp ⊢
  have he : us = tagsP ltT l := by
    refine tagsP_of ltT_ord ?_ fun t => ?_
    · unfold AscT
      rw [List.pairwise_map] at hs
      rw [List.Nodup, List.pairwise_map] at hnd
      refine hs.imp₂ (fun a b h1 h2 => ?_) hnd
      unfold ltT
      exact decide_eq_true (by
        by_cases h : a.data.toList < b.data.toList
        · exact h
        · exact absurd (List.le_antisymm (of_decide_eq_true h1) (List.not_lt.1 h)) h2)
    · rw [← h]
      constructor
      · intro ht
        have := hp.mem_iff.1 (List.mem_map.2 ⟨t, ht, rfl⟩)
        obtain ⟨u, hu, e⟩ := List.mem_map.1 this
        rw [← data_inj e]; exact hu
      · intro ht
        have := hp.mem_iff.2 (List.mem_map.2 ⟨t, ht, rfl⟩)
        obtain ⟨u, hu, e⟩ := List.mem_map.1 this
        rw [← data_inj e]; exact hu
  rw [he]
end Go.Proofs.YtpdldbapagchfaaGreatDoor

/- The sort of the tags in memory. -/
namespace Go.Proofs.YtpdldbapagchfaaGreatDoor
open Go.RowKit Go.Shelf Go.Maps Go.Sort

theorem tn_putStr (w : World) (g o : Nat) (d : Array (List UInt8)) : Tn (· = g) w (Go.Sort.putRow encStr w g o d) :=
  ⟨rfl, rfl, rfl, by rw [Go.Sort.size_putRow]; exact Nat.le_refl _, fun k _ hn => by
    show (w.heap.modify g _)[k]? = _
    rw [Array.getElem?_modify, if_neg (fun e => hn e.symm)]⟩
theorem encStr_txV (x : List UInt8) : encStr x = .string (ofL x) := rfl
/-- The tags' row is sorted. -/
theorem sortT_any {B g n cap : Nat} {ts : List ByteArray} {w : World} (hn : ts.length = n) (hn1 : n ≤ 100000) (hrow : w.ownsRow B 9 1 (.slice (some ⟨g, 0, none⟩) n cap) n (ts.map Value.string)) (hg : g < w.heap.size) :
    Calls Tryz.prog 31 #[.slice (some ⟨g, 0, none⟩) n cap] w fun e w' => e = .returned (.tuple #[]) ∧
      (∀ j x, ((ts.map (·.data.toList)).mergeSort fun x y => decide (x ≤ y))[j]? = some x → w'.cell? ⟨g, j, none⟩ = some (.string (ofL x))) ∧ Tn (fun k => k = g) w w' := by
  obtain ⟨ss, hss⟩ : ∃ ss : List (List UInt8), ss = ts.map (·.data.toList) := ⟨_, rfl⟩
  have hsl : ss.length = n := by rw [hss, List.length_map, hn]
  have hH : Holds encStr w g 0 ss.toArray := fun j hj => by
    have hj' : j < ss.length := by simpa using hj
    have hjt : j < ts.length := by omega
    obtain ⟨a, c', e, hc, hm, hxl, h0 | ⟨g', rfl, e2, hb, hgl, hcell⟩⟩ := row_cellz hrow
    · obtain ⟨_, _, rfl⟩ := h0; cases e
    injection e with e1 _ e3
    injection e1 with e1
    have e1' : g = g' := by injection e1
    subst e1'
    refine ⟨?_, World.ownsRow.frozenAt hrow _⟩
    rw [Nat.zero_add, hcell j (.string ts[j]) (by rw [List.getElem?_map, List.getElem?_eq_getElem hjt]; rfl)]
    rw [getElem!_pos _ j hj]
    have e4 : ss.toArray[j] = ts[j].data.toList := by
      show ss[j] = _
      simp only [hss, List.getElem_map]
    rw [e4, encStr_txV, ofL_data]
  have h1 := Tryz.slices_Sort_string g 0 cap ss w hH hg (by omega)
  rw [hsl] at h1
  refine h1.mono ?_
  rintro e w' ⟨rfl, q, os, rfl⟩
  rw [← hss]
  obtain ⟨M, hM⟩ : ∃ M, M = ss.mergeSort fun x y => decide (x ≤ y) := ⟨_, rfl⟩
  have hMl : M.length = ss.length := by rw [hM, List.length_mergeSort]
  rw [← hM]
  have hP := Go.Sort.holds_putRow encStr (Go.Sort.ahead w q) g 0 ss.toArray M.toArray hH (by simp [hMl])
  have T1 : Tn (fun k => k = g) w (putRow encStr (Sort.ahead w q) g 0 M.toArray) := (tn_ahead w q _).trans ((tn_putStr (Go.Sort.ahead w q) g 0 _).mono fun k hk => hk)
  refine ⟨rfl, fun j x hx => ?_, T1.trans (tn_grow _ _ _)⟩
  have hj : j < M.length := (List.getElem?_eq_some_iff.1 hx).1
  have h2 := (hP j (by simpa using hj)).1
  rw [Nat.zero_add, getElem!_pos _ j (by simpa using hj)] at h2
  have e5 : M.toArray[j]'(by simpa using hj) = x := by
    show M[j] = x
    exact (List.getElem?_eq_some_iff.1 hx).2
  rw [e5, encStr_txV] at h2
  have h3 := (tn_grow (putRow encStr (Sort.ahead w q) g 0 M.toArray) os (fun _ => False)).block g (by have := T1.size; omega) (fun h => h)
  simp only [World.cell?, h3] at h2 ⊢
  exact h2
end Go.Proofs.YtpdldbapagchfaaGreatDoor

/- The collectors in memory. -/
namespace Go.Proofs.YtpdldbapagchfaaGreatDoor
open Go.RowKit Go.Shelf Go.Maps

/-- How a pointer to a collector reads: its block's number and one; nil: 0. -/
def RPt (v : Value) : Option (DataW Unit × List MemPlace) :=
  match v with
  | .pointer none => some (.lit (.int .i64 0), [])
  | .pointer (some ⟨g, 0, none⟩) => some (.lit (.int .i64 ((g : Int) + 1)), [])
  | _ => none
def ptV (k : Option Nat) : Value := match k with | none => .pointer none | some g => .pointer (some ⟨g, 0, none⟩)
def ptD (k : Option Nat) : DataW Unit := match k with | none => .lit (.int .i64 0) | some g => .lit (.int .i64 ((g : Int) + 1))
theorem RPt_mk (k : Option Nat) : RPt (ptV k) = some (ptD k, []) := by cases k <;> rfl
theorem RPt_inv {v : Value} {k : Option Nat} {ps : List MemPlace} (h : RPt v = some (ptD k, ps)) : v = ptV k := by
  unfold RPt at h
  split at h
  · cases k with
    | none => rfl
    | some g =>
      simp only [Option.some.injEq, Prod.mk.injEq, ptD, DataW.lit.injEq, Lit.int.injEq, true_and] at h
      omega
  · rename_i g
    cases k with
    | none =>
      simp only [Option.some.injEq, Prod.mk.injEq, ptD, DataW.lit.injEq, Lit.int.injEq, true_and] at h
      omega
    | some g' =>
      simp only [Option.some.injEq, Prod.mk.injEq, ptD, DataW.lit.injEq, Lit.int.injEq, true_and] at h
      obtain rfl : g = g' := by omega
      rfl
  · cases h
def keyT (t : ByteArray) : Lit := .string t.data.toList
theorem keyedT : Keyed Tryz.prog 9 := string_keyed Tryz.underlying9
theorem keyOfT {t : ByteArray} (h : t.size ≤ 1000) : keyOf Tryz.prog 9 (.string t) = some (keyT t) := WideMaps.keyOf_string_mk Tryz.underlying9 (by unfold maxLen; omega)
theorem keyT_inj {t u : ByteArray} (h : keyT t = keyT u) : t = u := by unfold keyT at h; injection h with h; exact data_inj h

noncomputable instance decTag (t : ByteArray) (l : List ByteArray) : Decidable (t ∈ l) := Classical.propDecidable _
/-- The tags of what is said, in the order in which they come. -/
noncomputable def tagsO (l : List Said) : List ByteArray := l.foldl (fun a x => if x.1.tag ∈ a then a else a ++ [x.1.tag]) []
theorem tagsO_snoc (l : List Said) (x : Said) : tagsO (l ++ [x]) = if x.1.tag ∈ tagsO l then tagsO l else tagsO l ++ [x.1.tag] := by
  unfold tagsO; rw [List.foldl_append]; rfl
theorem mem_tagsO (t : ByteArray) : ∀ l : List Said, t ∈ tagsO l ↔ ∃ x ∈ l, x.1.tag = t := by
  refine snoc_cases (by simp [tagsO]) fun l x ih => ?_
  rw [tagsO_snoc]
  split
  · next h =>
    rw [ih]
    constructor
    · rintro ⟨y, hy, e⟩; exact ⟨y, by simp [hy], e⟩
    · rintro ⟨y, hy, e⟩
      rcases List.mem_append.1 hy with h' | h'
      · exact ⟨y, h', e⟩
      · obtain rfl : y = x := by simpa using h'
        rw [← ih, ← e]; exact h
  · rw [List.mem_append, ih]
    constructor
    · rintro (⟨y, hy, e⟩ | h')
      · exact ⟨y, by simp [hy], e⟩
      · exact ⟨x, by simp, (by simpa using h' : t = _).symm⟩
    · rintro ⟨y, hy, e⟩
      rcases List.mem_append.1 hy with h' | h'
      · exact .inl ⟨y, h', e⟩
      · obtain rfl : y = x := by simpa using h'
        right; simp [e]
theorem nodup_tagsO : ∀ l : List Said, (tagsO l).Nodup := by
  refine snoc_cases (by simp [tagsO]) fun l x ih => ?_
  rw [tagsO_snoc]
  split
  · exact ih
  · next h =>
    refine List.nodup_append.2 ⟨ih, by simp, fun a ha b hb e => ?_⟩
    obtain rfl : b = x.1.tag := by simpa using hb
    exact h (e ▸ ha)
theorem tagsO_len : ∀ l : List Said, (tagsO l).length ≤ l.length := by
  refine snoc_cases (by simp [tagsO]) fun l x ih => ?_
  rw [tagsO_snoc]
  split
  · simp; omega
  · simp; omega
theorem about_snoc (t : ByteArray) (l : List Said) (x : Said) : about t (l ++ [x]) = if x.1.tag = t then about t l ++ [x] else about t l := by
  unfold about
  rw [List.filter_append]
  by_cases h : x.1.tag = t <;> simp [h]
theorem about_none {t : ByteArray} {l : List Said} (h : t ∉ tagsO l) : about t l = [] := by
  refine List.filter_eq_nil_iff.2 fun x hx e => h ((mem_tagsO t l).2 ⟨x, hx, by simpa using e⟩)
theorem about_len (t : ByteArray) (l : List Said) : (about t l).length ≤ l.length := List.length_filter_le _ _

/-- Where a collector lies: its block, its row's block and capacity. -/
structure Ent where
  cb : Nat
  g : Nat
  cap : Nat
/-- A collector's block and its row. -/
def ColAt (S : Nat → Prop) (N : Nat) (e : Ent) (l : List Said) (w : World) : Prop :=
  Blk w e.cb #[.slice (some ⟨e.g, 0, none⟩) l.length e.cap] 69 ∧ DelSt S N e.g l.length e.cap w [] l 0 ∧ N ≤ e.cb
/-- Another row than a block of another type. -/
theorem del_ne {S : Nat → Prop} {N g n cap b : Nat} {w : World} {l : List Said} {xs : Array Value} {T : TypeId} (h : DelSt S N g n cap w [] l 0) (k : Blk w b xs T) (hT : T ≠ 71) : b ≠ g := by
  obtain ⟨css, hr, -⟩ := h
  intro e
  exact row_not k hT hr (by rw [e]; rfl)
theorem ColAt.tn {S F : Nat → Prop} {N : Nat} {e : Ent} {l : List Said} {w w' : World} (h : ColAt S N e l w) (t : Tn F w w') (hS : ∀ b, S b → ¬ F b) (h1 : ¬ F e.cb) (h2 : ¬ F e.g) : ColAt S N e l w' :=
  ⟨t.blk h.1 h1, h.2.1.tn t hS h2, h.2.2⟩
theorem ColAt.below {S : Nat → Prop} {N : Nat} {e : Ent} {l : List Said} {w w' : World} (h : ColAt S N e l w) (hb : Below w.heap.size w w') : ColAt S N e l w' :=
  h.tn (Tn.of_below (F := fun _ => False) hb) (fun _ _ h => h) (fun h => h) (fun h => h)
/-- The collectors, of which one is being added to: its block cb holds sv. -/
structure ColX (S : Nat → Prop) (N mb : Nat) (E : ByteArray → Ent) (t : ByteArray) (cb n : Nat) (pre : List Said) (w : World) (tv sv : Value) : Prop where
  row : w.ownsRow N 9 1 tv n ((if t ∈ tagsO pre then tagsO pre else tagsO pre ++ [t]).map Value.string)
  len : n = (if t ∈ tagsO pre then tagsO pre else tagsO pre ++ [t]).length
  map : ∃ f m, m ≤ pre.length + 1 ∧ MapF w Tryz.prog 9 RPt mb m f ∧ ∀ u, u.size ≤ 1000 → f (keyT u) = if u = t then some (ptD (some cb)) else if u ∈ tagsO pre then some (ptD (some (E u).cb)) else none
  each : ∀ u ∈ tagsO pre, u ≠ t → ColAt S N (E u) (about u pre) w ∧ (E u).cb ≠ cb ∧ sv.ownBlock ≠ some (E u).g
  apart : ∀ u ∈ tagsO pre, ∀ v ∈ tagsO pre, u ≠ t → v ≠ t → u ≠ v → (E u).cb ≠ (E v).cb ∧ (E u).g ≠ (E v).g
  blk : Blk w cb #[sv] 69
  cbN : N ≤ cb
  own : ∃ css : List (List Value), w.ownsRow N 71 6 sv (about t pre).length css.flatten ∧ css.length = (about t pre).length ∧ (∀ c ∈ css, c.length = 6) ∧ ∀ m (h : m < css.length) (h' : m < (about t pre).length), SaidC S w css[m] (about t pre)[m]
/-- The collectors. -/
structure Col (S : Nat → Prop) (N mb : Nat) (E : ByteArray → Ent) (pre : List Said) (w : World) (tv : Value) : Prop where
  row : w.ownsRow N 9 1 tv (tagsO pre).length ((tagsO pre).map Value.string)
  map : ∃ f m, m ≤ pre.length ∧ MapF w Tryz.prog 9 RPt mb m f ∧ ∀ u, u.size ≤ 1000 → f (keyT u) = if u ∈ tagsO pre then some (ptD (some (E u).cb)) else none
  each : ∀ u ∈ tagsO pre, ColAt S N (E u) (about u pre) w
  apart : ∀ u ∈ tagsO pre, ∀ v ∈ tagsO pre, u ≠ v → (E u).cb ≠ (E v).cb ∧ (E u).g ≠ (E v).g
theorem Col.below {S : Nat → Prop} {N mb : Nat} {E : ByteArray → Ent} {pre : List Said} {w w' : World} {tv : Value} (h : Col S N mb E pre w tv) (hb : Below w.heap.size w w') : Col S N mb E pre w' tv := by
  have t := Tn.of_below (F := fun _ => False) hb
  obtain ⟨f, m, h1, h2, h3⟩ := h.map
  exact ⟨t.row h.row (fun _ _ h => h), ⟨f, m, h1, h2.keep t (fun h => h), h3⟩, fun u hu => (h.each u hu).below hb, h.apart⟩
theorem ColX.below {S : Nat → Prop} {N mb : Nat} {E : ByteArray → Ent} {t : ByteArray} {cb n : Nat} {pre : List Said} {w w' : World} {tv sv : Value} (h : ColX S N mb E t cb n pre w tv sv) (hb : Below w.heap.size w w') : ColX S N mb E t cb n pre w' tv sv := by
  have tn := Tn.of_below (F := fun _ => False) hb
  obtain ⟨f, m, h1, h2, h3⟩ := h.map
  obtain ⟨css, r1, r2, r3, r4⟩ := h.own
  exact ⟨tn.row h.row (fun _ _ h => h), h.len, ⟨f, m, h1, h2.keep tn (fun h => h), h3⟩, fun u hu hne => ⟨((h.each u hu hne).1).below hb, (h.each u hu hne).2⟩, h.apart, tn.blk h.blk (fun h => h), h.cbN,
    css, tn.row r1 (fun _ _ h => h), r2, r3, fun m a b => keeps_said _ _ _ _ _ _ (r4 m a b) (Stay.of_below hb) (fun _ h _ => h)⟩
theorem Col.start {S : Nat → Prop} {N : Nat} {E : ByteArray → Ent} {w : World} : Col S N w.heap.size E [] (w.alloc (.map #[] 0)) (.slice none 0 0) :=
  ⟨World.ownsRow_nil _ _ _ _, ⟨_, 0, Nat.le_refl _, MapF.new w Tryz.prog 9 RPt, fun u _ => by simp [tagsO]⟩, fun u hu => by simp [tagsO] at hu, fun u hu => by simp [tagsO] at hu⟩
/-- A tag that has come is added to. -/
theorem ColX.of_col {S : Nat → Prop} {N mb : Nat} {E : ByteArray → Ent} {pre : List Said} {w : World} {tv : Value} (h : Col S N mb E pre w tv) {t : ByteArray} (ht : t ∈ tagsO pre) :
    ColX S N mb E t (E t).cb (tagsO pre).length pre w tv (.slice (some ⟨(E t).g, 0, none⟩) (about t pre).length (E t).cap) := by
  obtain ⟨f, m, h1, h2, h3⟩ := h.map
  obtain ⟨k1, k2, k3⟩ := h.each t ht
  obtain ⟨css, r1, r2, r3, -, r5⟩ := k2
  refine ⟨by rw [if_pos ht]; exact h.row, by rw [if_pos ht], ⟨f, m, by omega, h2, fun u hu => ?_⟩, fun u hu hne => ⟨h.each u hu, (h.apart u hu t ht hne).1, fun e => (h.apart u hu t ht hne).2 (by injection e with e; exact e.symm)⟩, fun u hu v hv _ _ hne => h.apart u hu v hv hne, k1, k3, css, r1, r2, r3, fun m a b => r5 m a b (Nat.zero_le _)⟩
  rw [h3 u hu]
  by_cases e : u = t
  · subst e; rw [if_pos ht, if_pos rfl]
  · rw [if_neg e]
theorem map_ne {w : World} {P : Program} {k : TypeId} {R : Value → Option (DataW Unit × List MemPlace)} {b n c : Nat} {f : Lit → Option (DataW Unit)} {xs : Array Value} {T : TypeId} (h : MapF w P k R b n f) (g : Blk w c xs T) : b ≠ c := by
  obtain ⟨D, ⟨es, clock, hb, _⟩, _⟩ := h
  intro e
  subst e
  unfold Blk at g
  rw [hb] at g; cases g
theorem map_neD {S : Nat → Prop} {N g m cap b n : Nat} {w : World} {P : Program} {k : TypeId} {R : Value → Option (DataW Unit × List MemPlace)} {f : Lit → Option (DataW Unit)} {l : List Said} (h : MapF w P k R b n f) (hd : DelSt S N g m cap w [] l 0) : b ≠ g := by
  obtain ⟨css, hr, -⟩ := hd
  obtain ⟨_, ⟨e, _⟩ | ⟨g', c', cur, e, hg, hh, -⟩⟩ := hr
  · cases e
  · injection e with e1 _ e3
    injection e1 with e1
    have e1' : g = g' := by injection e1
    subst e1'
    exact map_ne h (xs := cur) (T := 71) hh
theorem col_others {S : Nat → Prop} {N : Nat} {e : Ent} {l : List Said} {w w' : World} {v : Value} {n : Nat} {xs : List Value} (h : ColAt S N e l w) (hS : ∀ b, S b → b < N) (hr : w.ownsRow N 9 1 v n xs) (t : Tn (fun b => v.ownBlock = some b) w w') : ColAt S N e l w' := by
  refine h.tn t (fun b hb e => ?_) (fun e' => row_not h.1 (by decide) hr e'.symm) (fun e' => ?_)
  · have := hS b hb
    have := row_base hr b e; omega
  · obtain ⟨_, ⟨e1, _⟩ | ⟨g', c', cur, e1, hg, hh, -⟩⟩ := hr
    · rw [e1] at e'; cases e'
    · rw [e1] at e'
      have e2 : g' = e.g := by injection e'
      exact del_ne h.2.1 (b := g') (xs := cur) (T := 9) hh (by decide) e2
/-- A tag that comes the first time: its collector's block is new; then it goes into the map, then into the row of tags. -/
theorem ColX.of_new {S : Nat → Prop} {N mb : Nat} {E : ByteArray → Ent} {pre : List Said} {w w2 w3 : World} {tv tv' : Value} {cb : Nat} (h : Col S N mb E pre w tv) {t : ByteArray} (ht : t ∉ tagsO pre)
    (hcb : Blk w cb #[.slice none 0 0] 69) (hN : N ≤ cb) (hne : ∀ u ∈ tagsO pre, (E u).cb ≠ cb) (hS : ∀ b, S b → b < N) {f' : Lit → Option (DataW Unit)} {m : Nat} (hm : m ≤ pre.length + 1) (hmap : MapF w2 Tryz.prog 9 RPt mb m f')
    (hf : ∀ u, u.size ≤ 1000 → f' (keyT u) = if u = t then some (ptD (some cb)) else if u ∈ tagsO pre then some (ptD (some (E u).cb)) else none) (t2 : Tn (fun b => b = mb) w w2) (hmN : N ≤ mb)
    (hrow : w3.ownsRow N 9 1 tv' ((tagsO pre).length + 1) ((tagsO pre).map Value.string ++ [.string t])) (t3 : Tn (fun b => tv.ownBlock = some b) w2 w3) :
    ColX S N mb E t cb ((tagsO pre).length + 1) pre w3 tv' (.slice none 0 0) := by
  obtain ⟨f, m0, -, hm0, -⟩ := h.map
  have hrow2 : w2.ownsRow N 9 1 tv (tagsO pre).length ((tagsO pre).map Value.string) := t2.row h.row (fun r e e' => by
    obtain ⟨_, ⟨e1, _⟩ | ⟨g', c', cur, e1, hg, hh, -⟩⟩ := h.row
    · rw [e1] at e; cases e
    · rw [e1] at e
      have e2 : g' = r := by injection e
      exact map_ne hm0 (c := g') (xs := cur) (T := 9) hh (by rw [e2, e']))
  have hcb2 : Blk w2 cb #[.slice none 0 0] 69 := t2.blk hcb (fun e => map_ne hm0 hcb e.symm)
  have hmr : ¬ tv.ownBlock = some mb := fun e => by
    obtain ⟨_, ⟨e1, _⟩ | ⟨g', c', cur, e1, hg, hh, -⟩⟩ := hrow2
    · rw [e1] at e; cases e
    · rw [e1] at e
      have e2 : g' = mb := by injection e
      exact map_ne hmap (c := g') (xs := cur) (T := 9) hh e2.symm
  have h0 : about t pre = [] := about_none ht
  refine ⟨by rw [if_neg ht, List.map_append]; exact hrow, by rw [if_neg ht]; simp, ⟨f', m, hm, hmap.keep t3 hmr, hf⟩, fun u hu hut => ⟨?_, hne u hu, fun e => by cases e⟩, fun u hu v hv _ _ hne => h.apart u hu v hv hne, t3.blk hcb2 (fun e => row_not hcb2 (by decide) hrow2 e.symm), hN, [], ?_, by rw [h0]; rfl, by simp, fun m hm => by simp at hm⟩
  · refine col_others ((h.each u hu).tn t2 (fun b hb e => by have := hS b hb; omega) (fun e => map_ne hm0 (h.each u hu).1 e.symm) (fun e => map_neD hm0 (h.each u hu).2.1 e.symm)) hS hrow2 t3
  · rw [h0]; exact World.ownsRow_nil _ _ _ _
/-- The collector has been added to. -/
theorem ColX.done {S : Nat → Prop} {N mb : Nat} {E : ByteArray → Ent} {t : ByteArray} {cb n : Nat} {pre : List Said} {w w3 w4 : World} {tv sv v' : Value} (h : ColX S N mb E t cb n pre w tv sv) (hS : ∀ b, S b → b < N) (hb3 : Below w.heap.size w w3)
    {x : Said} (hxt : x.1.tag = t) {cs : List Value} (hx : SaidC S w3 cs x) {css : List (List Value)} (hcss : w.ownsRow N 71 6 sv (about t pre).length css.flatten ∧ css.length = (about t pre).length ∧ (∀ c ∈ css, c.length = 6) ∧ ∀ m (h : m < css.length) (h' : m < (about t pre).length), SaidC S w css[m] (about t pre)[m])
    (hr : w4.ownsRow N 71 6 v' ((about t pre).length + 1) (css.flatten ++ cs)) (hg : w3.grownBy w4 sv.ownBlock) (ho : v'.ownBlock = sv.ownBlock ∨ v'.ownBlock = some w3.heap.size) :
    ∃ E', Col S N mb E' (pre ++ [x]) (w4.setCell ⟨cb, 0, none⟩ v') tv := by
  obtain ⟨r1, r2, r3, r4⟩ := hcss
  have h3 := h.below hb3
  have hl := said_len hx
  have hr3 : w3.ownsRow N 71 6 sv (about t pre).length css.flatten := (Tn.of_below (F := fun _ => False) hb3).row r1 (fun _ _ h => h)
  have hbase : ∀ r, sv.ownBlock = some r → N ≤ r := row_base r1
  have t4 : Tn (fun b => sv.ownBlock = some b) w3 w4 := Tn.of_grown hg
  have hcb3 := h3.blk
  have hcb4 : Blk w4 cb #[sv] 69 := t4.blk hcb3 (fun e => row_not hcb3 (by decide) hr3 e.symm)
  obtain ⟨w5, hw5⟩ : ∃ w5, w5 = w4.setCell ⟨cb, 0, none⟩ v' := ⟨_, rfl⟩
  have t5 : Tn (fun b => b = cb) w4 w5 := by rw [hw5]; exact (Tn.refl (fun b => b = cb) w4).setCell (p := ⟨cb, 0, none⟩) (.inl rfl) _
  have hcb5 : Blk w5 cb #[v'] 69 := by rw [hw5]; exact hcb4.set 0 v'
  rw [← hw5]
  clear hw5
  obtain ⟨a, cap, rfl, hcap, hmx, hxl, ⟨h0, _⟩ | ⟨g, rfl, hgo, hNg, hg4, -⟩⟩ := row_cellz hr
  · omega
  have hrcb : ∀ r, (Value.slice (some ⟨g, 0, none⟩) ((about t pre).length + 1) cap).ownBlock = some r → ¬ r = cb := fun r e e' => row_not hcb4 (by decide) hr (by rw [e, e'])
  have hr5 := t5.row hr hrcb
  have hgs : sv.ownBlock = some g ∨ g = w3.heap.size := by
    rcases ho with e | e
    · left; rw [← e]; rfl
    · right; injection e
  have hgn : ∀ u ∈ tagsO pre, u ≠ t → (E u).g ≠ g := fun u hu hut e => by
    obtain ⟨k1, k2, k3⟩ := h3.each u hu hut
    rcases hgs with e' | e'
    · exact k3 (by rw [e', e])
    · obtain ⟨_, hgl, _⟩ | h0 := k1.2.1.cells
      · omega
      · obtain ⟨css', hr', -⟩ := k1.2.1
        obtain ⟨_, ⟨e1, _⟩ | ⟨g', c', cur, e1, hg', hh, -⟩⟩ := hr'
        · cases e1
        · injection e1 with e1 _ e3
          injection e1 with e1
          have e1' : (E u).g = g' := by injection e1
          have := heap_lt hh; omega
  have keepO : ∀ u ∈ tagsO pre, u ≠ t → ColAt S N (E u) (about u pre) w5 := fun u hu hut => by
    obtain ⟨k1, k2, k3⟩ := h3.each u hu hut
    have k4 := k1.tn t4 (fun b hb e => by have := hS b hb; have := hbase b e; omega) (fun e => row_not k1.1 (by decide) hr3 e.symm) k3
    exact k4.tn t5 (fun b hb e => by have := hS b hb; have := h.cbN; omega) k2 (fun e => del_ne k4.2.1 hcb4 (by decide) e.symm)
  have hmem : ∀ u, u ∈ tagsO (pre ++ [x]) ↔ u = t ∨ u ∈ tagsO pre := fun u => by
    rw [tagsO_snoc, hxt]
    split
    · next hm => constructor
                 · exact .inr
                 · rintro (e | e)
                   · rw [e]; exact hm
                   · exact e
    · rw [List.mem_append, List.mem_singleton]; exact Or.comm
  have htag : tagsO (pre ++ [x]) = if t ∈ tagsO pre then tagsO pre else tagsO pre ++ [t] := by rw [tagsO_snoc, hxt]
  obtain ⟨E', hE'⟩ : ∃ E' : ByteArray → Ent, E' = fun u => if u = t then ⟨cb, g, cap⟩ else E u := ⟨_, rfl⟩
  have eT : E' t = ⟨cb, g, cap⟩ := by rw [hE']; simp
  have eO : ∀ u, u ≠ t → E' u = E u := fun u hu => by rw [hE']; simp [hu]
  have hat : about t (pre ++ [x]) = about t pre ++ [x] := by rw [about_snoc, if_pos hxt]
  have hao : ∀ u, u ≠ t → about u (pre ++ [x]) = about u pre := fun u hu => by rw [about_snoc, if_neg (fun e => hu (by rw [← e, hxt]))]
  have kS : ∀ c y, SaidC S w3 c y → SaidC S w5 c y := fun c y hc => by
    have k1 := keeps_said _ _ _ _ _ _ hc (Stay.of_tn (S := S) t4 fun b hb _ e => by have := hS b hb; have := hbase b e; omega) (fun _ h _ => h)
    exact keeps_said _ _ _ _ _ _ k1 (Stay.of_tn (S := S) t5 fun b hb _ e => by have := hS b hb; have := h.cbN; omega) (fun _ h _ => h)
  refine ⟨E', ⟨?_, ?_, fun u hu => ?_, fun u hu v hv hne => ?_⟩⟩
  · rw [htag, ← h.len]
    have hrow4 := t4.row h3.row (fun r e e' => by
      obtain ⟨_, ⟨e1, _⟩ | ⟨g', c', cur, e1, hg', hh, -⟩⟩ := h3.row
      · rw [e1] at e; cases e
      · rw [e1] at e
        have e2 : g' = r := by injection e
        exact row_not (g := g') (cs := cur) (t := 9) hh (by decide) hr3 (by rw [e2, e']))
    exact t5.row hrow4 (fun r e e' => row_not hcb4 (by decide) hrow4 (by rw [e, e']))
  · obtain ⟨f, m, hm1, hm2, hm3⟩ := h3.map
    refine ⟨f, m, by simpa using hm1, (hm2.keep t4 (fun e => ?_)).keep t5 (fun e => map_ne (hm2.keep t4 ?_) hcb4 e), fun u hu => ?_⟩
    all_goals try
      (intro e
       obtain ⟨_, ⟨e1, _⟩ | ⟨g', c', cur, e1, hg', hh, -⟩⟩ := hr3
       · rw [e1] at e; cases e
       · rw [e1] at e
         have e2 : g' = mb := by injection e
         exact map_ne hm2 (c := g') (xs := cur) (T := 71) hh e2.symm)
    · obtain ⟨_, ⟨e1, _⟩ | ⟨g', c', cur, e1, hg', hh, -⟩⟩ := hr3
      · rw [e1] at e; cases e
      · rw [e1] at e
        have e2 : g' = mb := by injection e
        exact map_ne hm2 (c := g') (xs := cur) (T := 71) hh e2.symm
    · rw [hm3 u hu]
      by_cases e : u = t
      · subst e; rw [if_pos rfl, if_pos ((hmem u).2 (.inl rfl)), eT]
      · rw [if_neg e, eO u e]
        by_cases hu' : u ∈ tagsO pre
        · rw [if_pos hu', if_pos ((hmem u).2 (.inr hu'))]
        · rw [if_neg hu', if_neg (fun h' => ((hmem u).1 h').elim e hu')]
  · by_cases e : u = t
    · subst e
      rw [eT, hat]
      have hll : (about u pre ++ [x]).length = (about u pre).length + 1 := by simp
      refine ⟨by rw [hll]; exact hcb5, ⟨css ++ [cs], ?_, by simp [r2], fun c hc => ?_, fun m _ h' => by simp at h', fun m hm hm' _ => ?_⟩, h.cbN⟩
      · rw [hll, List.flatten_append]; simpa using hr5
      · rcases List.mem_append.1 hc with h' | h'
        · exact r3 c h'
        · rw [List.mem_singleton.1 h']; exact hl
      · by_cases hlt : m < css.length
        · rw [List.getElem_append_left hlt, List.getElem_append_left (by omega)]
          exact kS _ _ (keeps_said _ _ _ _ _ _ (r4 m hlt (by omega)) (Stay.of_below hb3) (fun _ h _ => h))
        · have em : m = css.length := by simp at hm; omega
          subst em
          have e1 : (css ++ [cs])[css.length]'hm = cs := by simp
          have e2 : (about u pre ++ [x])[css.length]'hm' = x := by simp [r2]
          rw [e1, e2]; exact kS _ _ hx
    · rw [eO u e, hao u e]
      exact keepO u (((hmem u).1 hu).resolve_left e) e
  · have key : ∀ u ∈ tagsO pre, u ≠ t → (E u).cb ≠ cb ∧ (E u).g ≠ g := fun u hu hut => ⟨(h3.each u hu hut).2.1, hgn u hu hut⟩
    by_cases e : u = t
    · have hv' : v ≠ t := fun e' => hne (e.trans e'.symm)
      have k := key v (((hmem v).1 hv).resolve_left hv') hv'
      rw [e, eT, eO v hv']; exact ⟨fun h' => k.1 h'.symm, fun h' => k.2 h'.symm⟩
    · by_cases e' : v = t
      · have k := key u (((hmem u).1 hu).resolve_left e) e
        rw [e', eT, eO u e]; exact k
      · rw [eO u e, eO v e']
        exact h.apart u (((hmem u).1 hu).resolve_left e) v (((hmem v).1 hv).resolve_left e') e e' hne
end Go.Proofs.YtpdldbapagchfaaGreatDoor

/- What a policy keeps, whichever it is. -/
namespace Go.Proofs.YtpdldbapagchfaaGreatDoor
open Go.RowKit Go.Shelf Go.Maps

theorem DelSt.sl {S : Nat → Prop} {B g n cap : Nat} {w : World} {l : List Said} (h : DelSt S B g n cap w [] l 0) (hn : l.length = n) : SlOf 6 (fun b => b = g) (SaidC S) w (.slice (some ⟨g, 0, none⟩) n cap) l := by
  obtain ⟨css, h1, h2, h3, -, h5⟩ := h
  subst hn
  have ho : OwnOf 71 6 B (SaidC S) w (.slice (some ⟨g, 0, none⟩) l.length cap) l := ⟨css, h1, All2.of_get h2 (fun j a b => h5 j a b (Nat.zero_le _)), h3⟩
  exact ho.sl.keep (by omega) (fun _ _ _ => rfl) (fun _ _ h => h) (fun b hb _ => by injection hb with hb; exact hb.symm)
theorem keep_any (p : Pol) {cb B g n cap : Nat} {S : Nat → Prop} {l : List Said} {w : World} (hn : l.length = n) (hn0 : 0 < n) (hn1 : n ≤ 100000) (hst : DelSt S B g n cap w [] l 0) (hc : w.cell? ⟨cb, 0, none⟩ = some (.slice (some ⟨g, 0, none⟩) n cap)) (hcg : cb ≠ g) (hSg : ¬ S g) (hSw : ∀ b, S b → b < w.heap.size) (hK : ∀ x ∈ l, KOk x.1) :
    Calls Tryz.prog (polN p) #[.pointer (some ⟨cb, 0, none⟩)] w fun e W' => ∃ v', e = .returned v' ∧ SlOf 6 (fun b => b = g) (SaidC S) W' v' (keepP (foldS tabC) p l) ∧ Tn (fun b => b = g) w W' := by
  cases p with
  | loc =>
    refine (local_any cb _ rfl w hc).mono fun e W' h => ?_
    obtain ⟨h1, h2⟩ := h
    subst h2
    exact ⟨_, h1, hst.sl hn, Tn.refl _ _⟩
  | first => exact first_any hn hn0 hn1 hst hc hcg hSg
  | all => exact all_any hn hn0 hn1 hst hc hSg hSw hK
theorem infoTag : (Tryz.prog.info? 9).map (fun i => (i.zero, i.size, i.bytes)) = some (some (.string ⟨#[]⟩), 1, 16) := by kernel_rfl
theorem info_Tag : ∃ i, Tryz.prog.info? 9 = some i ∧ i.zero = some (.string ⟨#[]⟩) ∧ i.size = 1 ∧ i.bytes = 16 := by
  obtain ⟨i, hi, h⟩ := Option.map_eq_some_iff.1 infoTag
  injection h with h1 h2
  injection h2 with h2 h3
  exact ⟨i, hi, h1, h2, h3⟩
theorem mem_tags (t : ByteArray) (l : List Said) : t ∈ tagsP ltT l ↔ t ∈ tagsO l := by rw [mem_tagsP, mem_tagsO]
/-- The tags that came are sorted. -/
theorem sortTags_any {B n tc : Nat} {ta : Option Addr} {l : List Said} {w : World} (hn : (tagsO l).length = n) (hn1 : n ≤ 100000) (hrow : w.ownsRow B 9 1 (.slice ta n tc) n ((tagsO l).map Value.string)) :
    Calls Tryz.prog 31 #[.slice ta n tc] w fun e w' => e = .returned (.tuple #[]) ∧ (∀ j t, (tagsP ltT l)[j]? = some t → ∃ tb, ta = some ⟨tb, 0, none⟩ ∧ w'.cell? ⟨tb, j, none⟩ = some (.string t)) ∧
      Tn (fun k => ta = some ⟨k, 0, none⟩) w w' ∧ (tagsP ltT l).length = n := by
  have hs := tags_sorted (nodup_tagsO l) (fun t => mem_tagsO t l)
  have hlen : (tagsP ltT l).length = n := by
    have h1 := congrArg List.length hs
    rw [List.length_mergeSort, List.length_map, List.length_map, hn] at h1
    exact h1.symm
  rcases row_cellz hrow with ⟨a', c', e1, hc, hm, _, ⟨h0, -⟩ | ⟨g, rfl, e2, hb, hg, hcell⟩⟩
  · subst h0
    refine (Tryz.slices_Sort_string_none ta tc w).mono fun e w' h => ?_
    obtain ⟨h1, h2⟩ := h
    subst h2
    exact ⟨h1, fun j t hj => by rw [List.eq_nil_of_length_eq_zero hlen] at hj; simp at hj, Tn.refl _ _, hlen⟩
  · injection e1 with e1 _ e3
    subst e1
    refine (sortT_any hn hn1 hrow hg).mono fun e w' h => ?_
    obtain ⟨h1, h2, h3⟩ := h
    refine ⟨h1, fun j t hj => ⟨g, rfl, ?_⟩, h3.mono fun k hk => by rw [hk], hlen⟩
    have h4 := h2 j t.data.toList (by rw [hs, List.getElem?_map, hj]; rfl)
    rw [h4, ofL_data]
end Go.Proofs.YtpdldbapagchfaaGreatDoor
