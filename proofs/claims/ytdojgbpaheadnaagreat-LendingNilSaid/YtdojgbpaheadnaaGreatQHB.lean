/- The reference's broker in memory; the rota of a case. -/
import Derived.Test.YtdojgbpaheadnaaGreatQRS
import Derived.Test.YtdojgbpaheadnaaGreatQBL
import Derived.Test.YtdojgbpaheadnaaGreatQSY
import Derived.Test.YtdojgbpaheadnaaGreatQP
set_option linter.unusedVariables false
set_option linter.unusedSimpArgs false

namespace Go.Proofs.YtdojgbpaheadnaaGreat
open Go.RowKit Go.Shelf Go.Maps

/-- A case of the reference: the same, and the turn. -/
abbrev CsN := Cs × Nat
def dn (c : Cs) : Int := if c.g then 1 else if c.left.isEmpty then 2 else 0
def ccell (p : CsN) : List Value := [i64 p.1.a, i64 p.1.r, i64 p.1.t, i64 (p.2 : Int), i64 (dn p.1)]
def ccells (L : List CsN) : List Value := L.flatMap ccell
theorem ccells_len (L : List CsN) : (ccells L).length = L.length * 5 := by
  unfold ccells
  induction L with
  | nil => rfl
  | cons d L ih => rw [List.flatMap_cons, List.length_append, ih]; simp [ccell]; omega
theorem ccells_app (L M : List CsN) : ccells (L ++ M) = ccells L ++ ccells M := by unfold ccells; rw [List.flatMap_append]
theorem ccells_take : ∀ (L : List CsN) (k : Nat), (ccells L).take (k * 5) = ccells (L.take k)
  | [], k => by simp [ccells]
  | x :: L, 0 => by simp [ccells]
  | x :: L, k + 1 => by
    have ih := ccells_take L k
    unfold ccells at ih ⊢
    rw [List.take_succ_cons, List.flatMap_cons, List.flatMap_cons, ← ih, List.take_append, show (ccell x).length = 5 from rfl, List.take_of_length_le (by simp [ccell]; omega)]
    congr 2; omega
theorem ccells_drop : ∀ (L : List CsN) (k : Nat), (ccells L).drop (k * 5) = ccells (L.drop k)
  | [], k => by simp [ccells]
  | x :: L, 0 => by simp [ccells]
  | x :: L, k + 1 => by
    have ih := ccells_drop L k
    unfold ccells at ih ⊢
    rw [List.drop_succ_cons, List.flatMap_cons, ← ih, List.drop_append, show (ccell x).length = 5 from rfl, List.drop_of_length_le (by simp [ccell]; omega), List.nil_append]
    congr 1; omega
theorem ccells_get : ∀ (L : List CsN) (k j : Nat) (d : CsN), L[k]? = some d → j < 5 → (ccells L)[5 * k + j]? = (ccell d)[j]?
  | [], k, j, d, h, _ => by simp at h
  | x :: L, 0, j, d, h, hj => by
    obtain rfl : x = d := by simpa using h
    unfold ccells
    rw [List.flatMap_cons, List.getElem?_append_left (by simp [ccell]; omega)]
    simp
  | x :: L, k + 1, j, d, h, hj => by
    have ih := ccells_get L k j d (by simpa using h) hj
    unfold ccells at ih ⊢
    rw [List.flatMap_cons, List.getElem?_append_right (by simp [ccell]; omega), ← ih]
    congr 1
    simp [ccell]; omega
theorem ccells_one (L : List CsN) : ∀ u ∈ ccells L, u.oneCell' = true := by
  intro u hu
  unfold ccells at hu
  obtain ⟨d, _, hd⟩ := List.mem_flatMap.1 hu
  simp [ccell] at hd
  rcases hd with rfl | rfl | rfl | rfl | rfl <;> rfl
theorem ccells_set {p p' : CsN} {i : Nat} {v : Value} (hi : i < 5) (hq : ccell p' = (ccell p).set i v) : ∀ (L : List CsN) (j : Nat), L[j]? = some p → ccells (L.set j p') = (ccells L).set (5 * j + i) v
  | [], j, h => by simp at h
  | x :: L, 0, h => by
    obtain rfl : x = p := by simpa using h
    unfold ccells
    rw [List.set_cons_zero, List.flatMap_cons, List.flatMap_cons, hq, List.set_append_left _ _ (by simp [ccell]; omega)]
    simp
  | x :: L, j + 1, h => by
    have ih := ccells_set hi hq L j (by simpa using h)
    unfold ccells at ih ⊢
    rw [List.set_cons_succ, List.flatMap_cons, ih, List.flatMap_cons, List.set_append_right _ _ (by simp [ccell]; omega)]
    congr 2
    simp [ccell]; omega
theorem infoC : (Tryz.prog.info? 119).map (fun i => (i.zero, i.size, i.bytes)) = some (some (.agg #[i64 0, i64 0, i64 0, i64 0, i64 0]), 5, 40) := by kernel_rfl
theorem info_partsC : ∃ i, Tryz.prog.info? 119 = some i ∧ i.zero = some (.agg #[i64 0, i64 0, i64 0, i64 0, i64 0]) ∧ i.size = 5 ∧ i.bytes = 40 := by
  obtain ⟨i, hi, h⟩ := Option.map_eq_some_iff.1 infoC
  injection h with h1 h2
  injection h2 with h2 h3
  exact ⟨i, hi, h1, h2, h3⟩
/-- What a turn says. -/
def FitN (rota : List Int) (p : CsN) : Prop := p.1.left = (rotOf rota p.1.a p.1.r).drop p.2 ∧ p.2 ≤ (rotOf rota p.1.a p.1.r).length ∧ (p.1.g = true → p.1.left ≠ [])
/-- The reference's broker in memory. -/
structure RBM (w : World) (B rb : Nat) (s : Brk) (rv lv : Value) (G : List CsN) (N : Nat) : Prop where
  blk : Blk w rb #[i64 s.id, i64 s.sent, rv, lv] 102
  rota : w.ownsRow B 3 1 rv s.rota.length (s.rota.map (Value.int .i64))
  row : w.ownsRow B 119 5 lv G.length (ccells G)
  gs : s.L = G.map (·.1)
  fit : ∀ p ∈ G, FitN s.rota p
  ne1 : rv.ownBlock ≠ some rb
  ne2 : lv.ownBlock ≠ some rb
  ne3 : ∀ k, rv.ownBlock = some k → lv.ownBlock ≠ some k
  lo : B ≤ rb
  sent : 0 ≤ s.sent ∧ s.sent ≤ 1000 * N
  ids : I64 s.id ∧ s.rota.length ≤ 1000 ∧ (∀ x ∈ s.rota, I64 x) ∧ ∀ c ∈ s.L, I64 c.a ∧ I64 c.r ∧ I64 c.t
  inOrder : SortedC s.L
  len : G.length ≤ N ∧ N ≤ 10000
def OwnRB (rb : Nat) (rv lv : Value) (k : Nat) : Prop := k = rb ∨ rv.ownBlock = some k ∨ lv.ownBlock = some k
section
variable {w : World} {B rb N : Nat} {s : Brk} {rv lv : Value} {G : List CsN}
theorem RBM.keep {w' : World} {F : Nat → Prop} (h : RBM w B rb s rv lv G N) (t : Tn F w w') (hF : ∀ k, F k → OwnRB rb rv lv k → False) : RBM w' B rb s rv lv G N :=
  ⟨t.blk h.blk fun hb => hF rb hb (.inl rfl), t.row h.rota fun k hk hb => hF k hb (.inr (.inl hk)), t.row h.row fun k hk hb => hF k hb (.inr (.inr hk)), h.gs, h.fit, h.ne1, h.ne2, h.ne3, h.lo, h.sent, h.ids, h.inOrder, h.len⟩
theorem RBM.up {w' : World} (h : RBM w B rb s rv lv G N) (hb : Below w.heap.size w w') : RBM w' B rb s rv lv G N := h.keep (F := fun _ => False) (Tn.of_below hb) fun _ h => h.elim
theorem RBM.mono {N' : Nat} (h : RBM w B rb s rv lv G N) (hN : N ≤ N') (hN' : N' ≤ 10000) : RBM w B rb s rv lv G N' :=
  ⟨h.blk, h.rota, h.row, h.gs, h.fit, h.ne1, h.ne2, h.ne3, h.lo, ⟨h.sent.1, by have := h.sent.2; omega⟩, h.ids, h.inOrder, ⟨by have := h.len.1; omega, hN'⟩⟩
theorem RBM.own_lt (h : RBM w B rb s rv lv G N) {k : Nat} (hk : OwnRB rb rv lv k) : B ≤ k ∧ k < w.heap.size := by
  rcases hk with rfl | hk | hk
  · exact ⟨h.lo, h.blk.lt⟩
  · exact row_lt h.rota k hk
  · exact row_lt h.row k hk
theorem RBM.case_ (h : RBM w B rb s rv lv G N) {j g : Nat} {d : CsN} {n cap : Nat} (hj : G[j]? = some d) (hlv : lv = .slice (some ⟨g, 0, none⟩) n cap) :
    w.cell? ⟨g, j * 5, none⟩ = some (i64 d.1.a) ∧ w.cell? ⟨g, j * 5 + 1, none⟩ = some (i64 d.1.r) ∧ w.cell? ⟨g, j * 5 + 2, none⟩ = some (i64 d.1.t) ∧ w.cell? ⟨g, j * 5 + 3, none⟩ = some (i64 (d.2 : Int)) ∧ w.cell? ⟨g, j * 5 + 4, none⟩ = some (i64 (dn d.1)) := by
  obtain ⟨a', c', e', _, _, _, ⟨h0, _, h1⟩ | ⟨g', h1, _, _, _, hc⟩⟩ := row_cellz h.row
  · subst h1; rw [hlv] at e'; cases e'
  · subst h1; rw [hlv] at e'; injection e' with e'; injection e' with e'; injection e' with e'; subst e'
    rw [Nat.mul_comm j 5]
    have := fun i hi => ccells_get G j i d hj hi
    exact ⟨hc _ _ (this 0 (by omega)), hc _ _ (this 1 (by omega)), hc _ _ (this 2 (by omega)), hc _ _ (this 3 (by omega)), hc _ _ (this 4 (by omega))⟩
/-- A message has been sent. -/
theorem RBM.sent1 {w' : World} (h : RBM w B rb s rv lv G N) (hs : s.sent < 1000 * N) (hb : Below w.heap.size (w.setCell ⟨rb, 1, none⟩ (i64 (s.sent + 1))) w') : RBM w' B rb { s with sent := s.sent + 1 } rv lv G N ∧ Tn (fun k => k = rb) w w' := by
  have t1 : Tn (fun k => k = rb) w (w.setCell ⟨rb, 1, none⟩ (i64 (s.sent + 1))) := (Tn.refl (fun k => k = rb) w).setCell (p := ⟨rb, 1, none⟩) (.inl rfl) _
  have hz : (w.setCell ⟨rb, 1, none⟩ (i64 (s.sent + 1))).heap.size = w.heap.size := by simp
  have t : Tn (fun k => k = rb) w w' := t1.trans (Tn.of_below (by rw [hz]; exact hb))
  exact ⟨⟨(((h.blk.set 1 (i64 (s.sent + 1))).below hb h.blk.lt).cast rfl), t.row h.rota fun k hk e => h.ne1 (by rw [← e]; exact hk), t.row h.row fun k hk e => h.ne2 (by rw [← e]; exact hk), h.gs, h.fit, h.ne1, h.ne2, h.ne3, h.lo, ⟨by have := h.sent.1; show 0 ≤ s.sent + 1; omega, by show s.sent + 1 ≤ _; omega⟩, h.ids, h.inOrder, h.len⟩, t⟩
end
theorem rot_get (rota : List Int) {K i : Nat} (hK : K < rota.length) (hi : i < rota.length) : (rota.drop K ++ rota.take K)[i]? = rota[(K + i) % rota.length]? := by
  by_cases h : i < rota.length - K
  · rw [List.getElem?_append_left (by rw [List.length_drop]; exact h), List.getElem?_drop, Nat.mod_eq_of_lt (by omega)]
  · rw [List.getElem?_append_right (by rw [List.length_drop]; omega), List.length_drop, List.getElem?_take_of_lt (by omega)]
    congr 1
    rw [show K + i = (i - (rota.length - K)) + rota.length by omega, Nat.add_mod_right, Nat.mod_eq_of_lt (by omega)]
set_option maxRecDepth 100000 in
set_option maxHeartbeats 4000000 in
theorem rrota_any' {B rb : Nat} {rv x0 x1 x3 : Value} {rota : List Int} (a r t n d : Int) {w : World} (hb : Blk w rb #[x0, x1, rv, x3] 102) (hrow : w.ownsRow B 3 1 rv rota.length (rota.map (Value.int .i64))) (hnl : rota.length ≤ 1000) :
    Calls Tryz.prog 58 #[.pointer (some ⟨rb, 0, none⟩), .agg #[i64 a, i64 r, i64 t, i64 n, i64 d]] w fun e w' => ∃ v, e = .returned v ∧ w'.ownsRow w.heap.size 3 1 v (rotOf rota a r).length ((rotOf rota a r).map (Value.int .i64)) ∧ Below w.heap.size w w' := by
  obtain ⟨i0, hi, hzz1, hz2, hz3⟩ := info_parts info3
  obtain ⟨ra, rc, hrv, h1, h2, h3, h4⟩ := row_cellz hrow
  have hrc : rc ≤ 9223372036854775807 := by unfold maxLen at h2; omega
  have HX := Lib.hid h3
  have HRV := Lib.hid hrv
  have HC := Lib.hid h4
  have hbl := hb.lt
  obtain ⟨w1, hw1⟩ : ∃ w1, w1 = w.alloc (.cells #[i64 a, i64 r, i64 t, i64 n, i64 d] 119) := ⟨_, rfl⟩
  obtain ⟨cb, hcb⟩ : ∃ cb, cb = w.heap.size := ⟨_, rfl⟩
  have D1 : RowKit.Hid (Blk w1 cb #[i64 a, i64 r, i64 t, i64 n, i64 d] 119) := Lib.hid (by rw [hw1, hcb]; exact Blk.new _ _ _)
  have B1 : RowKit.Hid (Below w.heap.size w w1) := Lib.hid (by rw [hw1]; exact (Below.refl _ _).alloc (Nat.le_refl _) _)
  have HW := Lib.hid hw1
  have HCB := Lib.hid hcb
  have c2 : w.cell? ⟨rb, 2, none⟩ = some (.slice ra rota.length rc) := (hb.cell 2).trans (congrArg some hrv)
  have C20 := Lib.hid c2
  clear hb hrow h2 h3 h4 hrv hw1 hcb
  go_enter Tryz.func58, Tryz.ntmps58
  go_wp2_with fail
  rw [← HW.out, ← HCB.out]
  clear c2
  go_loopw [5, 7] (fun v i wr => ∃ (k : Nat) (lv2 : Value), k ≤ rota.length ∧ i = .int .i64 k ∧ lv2 = v ∧ Below w1.heap.size w1 wr ∧ wr.ownsRow w1.heap.size 3 1 lv2 (((rota.drop (rotK rota.length a r) ++ rota.take (rotK rota.length a r)).take k).filter fun x => !decide (x = a)).length ((((rota.drop (rotK rota.length a r) ++ rota.take (rotK rota.length a r)).take k).filter fun x => !decide (x = a)).map (Value.int .i64))) (fun _ i _ => rota.length - (intOf i).toNat)
  case atStart => exact ⟨0, _, Nat.zero_le _, rfl, rfl, Below.refl _ _, World.ownsRow_nil _ _ _ _⟩
  case round =>
    obtain ⟨k, v, hk, rfl, rfl, hb, hr⟩ := hrel
    have BB := Lib.hid hb
    have R := Lib.hid hr
    clear hb hr
    by_cases hlt : k < rota.length
    · obtain ⟨K, hK⟩ : ∃ K, K = rotK rota.length a r := ⟨_, rfl⟩
      rw [← hK] at R ⊢
      have hKl : K < rota.length := by rw [hK]; exact rotK_lt a r (by omega)
      obtain ⟨X, hX⟩ : ∃ X, IntKind.i64.wrap (a + r) = X := ⟨_, rfl⟩
      have hn0 : (0 : Int) < rota.length := by omega
      have hXK : X % (rota.length : Int) = (K : Int) := by
        rw [hK, ← hX]
        unfold rotK wr64
        have := Int.emod_nonneg (IntKind.i64.wrap (a + r)) (show (rota.length : Int) ≠ 0 by omega)
        omega
      obtain ⟨J, hJ⟩ : ∃ J, J = (K + k) % rota.length := ⟨_, rfl⟩
      have hJl : J < rota.length := by rw [hJ]; exact Nat.mod_lt _ (by omega)
      have hw2 : IntKind.i64.wrap ((K : Int) + k) = (K : Int) + k := by rw [IntKind.wrap_i64]; omega
      have hm2 : ((K : Int) + k).tmod rota.length = (J : Int) := by
        rw [hJ, Int.tmod_eq_emod_of_nonneg (by omega)]; rfl
      obtain ⟨g, rfl, -, hgB, hgl, hc⟩ := HC.out.resolve_left (fun h => by omega)
      obtain ⟨y, hy⟩ : ∃ y, rota[J]? = some y := ⟨_, List.getElem?_eq_getElem hJl⟩
      have hnz : ¬ ((rota.length : Int) = 0) := by omega
      have hz1 := B1.out.size
      have e2 : wr.cell? ⟨rb, 2, none⟩ = some (.slice (some ⟨g, 0, none⟩) rota.length rc) := Below.cellE BB.out (Below.cellE B1.out C20.out)
      have ea : wr.cell? ⟨cb, 0, none⟩ = some (i64 a) := Below.cellE BB.out (D1.out.cell 0)
      have er : wr.cell? ⟨cb, 1, none⟩ = some (i64 r) := Below.cellE BB.out (D1.out.cell 1)
      have ey : wr.cell? ⟨g, J, none⟩ = some (i64 y) := Below.cellE BB.out (Below.cellE B1.out (hc J (i64 y) (by rw [List.getElem?_map, hy]; rfl)))
      have HS : RowKit.Hid ((((rota.drop K ++ rota.take K).take (k + 1)).filter fun x => !decide (x = a)) = (((rota.drop K ++ rota.take K).take k).filter fun x => !decide (x = a)) ++ if y = a then [] else [y]) := Lib.hid (by
        rw [List.take_add_one, rot_get rota hKl hlt, ← hJ, hy, List.filter_append]
        congr 1
        by_cases e : y = a <;> simp [e])
      obtain ⟨O, hO⟩ : ∃ O, O = (((rota.drop K ++ rota.take K).take k).filter fun x => !decide (x = a)) := ⟨_, rfl⟩
      rw [← hO] at R HS
      have hOl : O.length ≤ 1000 := by
        have h1 : O.length ≤ ((rota.drop K ++ rota.take K).take k).length := by rw [hO]; exact List.length_filter_le _ _
        rw [List.length_take] at h1; omega
      have MK : RowKit.Hid (∀ q, Calls Tryz.prog 14 #[.int .i64 X, .int .i64 (rota.length : Int)] (wr.drewN q) fun e w' => e = .returned (.int .i64 (K : Int)) ∧ w' = wr.drewN q) := Lib.hid fun q => by
        have := mod_any X rota.length (wr.drewN q) (by omega) (by omega)
        rw [hXK] at this; exact this.mono fun _ _ h => ⟨h.1, h.2.symm⟩
      obtain ⟨va, vc, rfl, -⟩ := row_cellz R.out
      clear hc hy hXK hJ hK hO hgB
      by_cases hya : y = a
      · subst hya
        have HS2 : RowKit.Hid ((((rota.drop K ++ rota.take K).take (k + 1)).filter fun x => !decide (x = y)) = O) := Lib.hid (by rw [HS.out, if_pos rfl, List.append_nil])
        go_wp2_with fail
        go_quiet ((go_at_call 14; exact Calls.quiet_of_same (MK.out _)))
        go_wp2_with fail
        exact ⟨⟨k + 1, _, hlt, by go_num, rfl, bdrewN BB.out _, by rw [HS2.out]; exact (Tn.of_below (F := fun _ => False) (bdrewN (Below.refl _ _) _)).row R.out fun _ _ => id⟩, by simp [intOf]; omega⟩
      · have HS2 : RowKit.Hid ((((rota.drop K ++ rota.take K).take (k + 1)).filter fun x => !decide (x = a)) = O ++ [y]) := Lib.hid (by rw [HS.out, if_neg hya])
        have ef : (y != a) = true := by simpa using hya
        clear hya
        go_wp2_with fail
        go_quiet ((go_at_call 14; exact Calls.quiet_of_same (MK.out _)))
        obtain ⟨w3, hw3⟩ : ∃ w3, w3 = wr.drewN nq := ⟨_, rfl⟩
        have B3 : RowKit.Hid (Below w1.heap.size w1 w3) := Lib.hid (by rw [hw3]; exact bdrewN BB.out _)
        have R3 : RowKit.Hid (w3.ownsRow w1.heap.size 3 1 (.slice va O.length vc) O.length (O.map (Value.int .i64))) := Lib.hid (by rw [hw3]; exact (Tn.of_below (F := fun _ => False) (bdrewN (Below.refl _ _) _)).row R.out fun _ _ => id)
        have ea3 : w3.cell? ⟨cb, 0, none⟩ = some (i64 a) := by rw [hw3]; exact ea
        rw [← hw3]
        clear hw3 e2 er ey ea
        have N3 : RowKit.Hid (Blk (w3.alloc (.cells #[i64 y] 3)) w3.heap.size #[i64 y] 3) := Lib.hid (Blk.new _ _ _)
        have R4 : RowKit.Hid ((w3.alloc (.cells #[i64 y] 3)).ownsRow w1.heap.size 3 1 (.slice va O.length vc) O.length (O.map (Value.int .i64))) := Lib.hid (R3.out.alloc _)
        have B4 : RowKit.Hid (Below w1.heap.size w1 (w3.alloc (.cells #[i64 y] 3))) := Lib.hid (B3.out.alloc B3.out.size _)
        go_wp2_with (refine wpList_append_all rfl (.tmp 40) (.tmp 42) 25 rfl w1.heap.size 3 i0 (.int .i64 0) 1 8 Tryz.underlying25 hi hzz1 hz2 hz3 rfl (by omega) _ O.length (O.map (Value.int .i64)) rfl R4.out 1 [i64 y] _ rfl (.inr ⟨_, _, rfl, rfl, blk_news N3.out⟩) (fun u hu => by simp at hu; rw [hu]; rfl) (by unfold maxLen; omega) (by omega) B4.out.size ?_; intro v6 w6 hown6 hg6 hat6; have B6 : RowKit.Hid (Below w1.heap.size w1 w6) := Lib.hid (B4.out.grown hg6 B4.out.size (fun j e => (row_lt R4.out j e).1)); have R6 : RowKit.Hid (w6.ownsRow w1.heap.size 3 1 v6 (O ++ [y]).length ((O ++ [y]).map (Value.int .i64))) := Lib.hid (by rw [List.length_append, List.map_append]; exact hown6); clear hown6 hg6 hat6)
        exact ⟨⟨k + 1, _, hlt, by go_num, rfl, B6.out, by rw [HS2.out]; exact R6.out⟩, by simp [intOf]; omega⟩
    · have hk2 : k = rota.length := by omega
      subst hk2
      have F : RowKit.Hid (wr.ownsRow w.heap.size 3 1 v (rotOf rota a r).length ((rotOf rota a r).map (Value.int .i64)) ∧ Below w.heap.size w wr) := Lib.hid ⟨by
        have := R.out
        rw [List.take_of_length_le (by rw [List.length_append, List.length_drop, List.length_take]; omega)] at this
        exact row_mono this B1.out.size, B1.out.trans (BB.out.mono B1.out.size)⟩
      go_wp2_with fail
      go_ret
      exact ⟨_, rfl, F.out⟩
theorem rrota_any (B rb N : Nat) (s : Brk) (rv lv : Value) (G : List CsN) (a r t n d : Int) (w : World) (h : RBM w B rb s rv lv G N) :
    Calls Tryz.prog 58 #[.pointer (some ⟨rb, 0, none⟩), .agg #[i64 a, i64 r, i64 t, i64 n, i64 d]] w fun e w' => ∃ v, e = .returned v ∧ w'.ownsRow w.heap.size 3 1 v (rotOf s.rota a r).length ((rotOf s.rota a r).map (Value.int .i64)) ∧ Below w.heap.size w w' :=
  rrota_any' a r t n d h.blk h.rota h.ids.2.1
end Go.Proofs.YtdojgbpaheadnaaGreat

/- The reference's broker sends a message; settle; now. -/
namespace Go.Proofs.YtdojgbpaheadnaaGreat
open Go.RowKit Go.Shelf Go.Maps

set_option maxRecDepth 100000 in
set_option maxHeartbeats 4000000 in
theorem rbsend_any (b : Nat) (id sent to k a r t n d v : Int) (w : World) (h0 : w.cell? ⟨b, 0, none⟩ = some (i64 id)) (h1 : w.cell? ⟨b, 1, none⟩ = some (i64 sent)) (hf : w.frozen? ⟨b, 1, none⟩ = false) (hs : 0 ≤ sent ∧ sent < 1000000000)
    (hk : I64 k) (ha : I64 a) (hr : I64 r) (hv : I64 v) :
    Calls Tryz.prog 88 #[.pointer (some ⟨b, 0, none⟩), i64 to, i64 k, .agg #[i64 a, i64 r, i64 t, i64 n, i64 d], i64 v] w (SendE b id sent to k a r v w) := by
  have hbl := cell_lt h0
  have HQ : RowKit.Hid (I64 k ∧ I64 a ∧ I64 r ∧ I64 v) := Lib.hid ⟨hk, ha, hr, hv⟩
  clear hk ha hr hv
  have hwr : IntKind.i64.wrap (sent + 1) = sent + 1 := by rw [IntKind.wrap_i64]; omega
  go_enter Tryz.func88, Tryz.ntmps88
  go_wp2_with fail
  obtain ⟨w0, hw0⟩ : ∃ w0, w0 = w.setCell ⟨b, 1, none⟩ (i64 (sent + 1)) := ⟨_, rfl⟩
  obtain ⟨W1, hW1⟩ : ∃ W1, W1 = w0.alloc (.cells #[i64 a, i64 r, i64 t, i64 n, i64 d] 119) := ⟨_, rfl⟩
  have hz0 : w0.heap.size = w.heap.size := by rw [hw0]; simp
  have W0 := Lib.hid hw0
  have a0 : W1.cell? ⟨b, 0, none⟩ = some (i64 id) := by
    rw [hW1]; refine Below.cellE ((Below.refl w0.heap.size w0).alloc (Nat.le_refl _) _) ?_; rw [hw0]; exact (World.cell?_setCell_other (h := fun e => by injection e with _ e _; cases e) ..).trans h0
  have a1 : W1.cell? ⟨b, 1, none⟩ = some (i64 (sent + 1)) := by
    rw [hW1]; refine Below.cellE ((Below.refl w0.heap.size w0).alloc (Nat.le_refl _) _) ?_; rw [hw0]; exact World.cell?_setCell_same (h := h1) ..
  have DB : RowKit.Hid (Blk W1 w.heap.size #[i64 a, i64 r, i64 t, i64 n, i64 d] 119) := Lib.hid (by rw [hW1]; exact Blk.at_new hz0.symm _ _)
  have B0 : RowKit.Hid (Below w0.heap.size w0 W1) := Lib.hid (by rw [hW1]; exact (Below.refl _ _).alloc (Nat.le_refl _) _)
  rw [← hw0, ← hW1]
  have hz1 : w.heap.size ≤ W1.heap.size := by rw [hW1, size_alloc]; omega
  obtain ⟨S, hS⟩ : ∃ S : World → Prop, S = fun W => Below W1.heap.size W1 W := ⟨_, rfl⟩
  have LD : RowKit.Hid (∀ W, S W → W.cell? ⟨b, 0, none⟩ = some (i64 id) ∧ W.cell? ⟨b, 1, none⟩ = some (i64 (sent + 1)) ∧ W.cell? ⟨w.heap.size, 0, none⟩ = some (i64 a) ∧ W.cell? ⟨w.heap.size, 1, none⟩ = some (i64 r)) := Lib.hid (by
    rw [hS]; intro W h; exact ⟨Below.cellE h a0, Below.cellE h a1, Below.cellE h (DB.out.cell 0), Below.cellE h (DB.out.cell 1)⟩)
  have SS : RowKit.Hid (∀ W, S W → Below W1.heap.size W1 W) := Lib.hid (by rw [hS]; exact fun W h => h)
  have UU : RowKit.Hid (∀ W, Below W1.heap.size W1 W → S W) := Lib.hid (by rw [hS]; exact fun W h => h)
  have hHeld := UU.out _ (Below.refl W1.heap.size W1).drew
  clear hS hW1 hw0 a0 a1 h0 h1 hf hwr hs
  refine wp_region_held_drew (S := S) (by kernel_rfl) hHeld (fun _ => ?_)
  apply wpAnyH_apart1 (fun g W => W1.heap.size ≤ g ∧ Blk W g (encM ⟨id, to, sent + 1, txt k a r v⟩) 31 ∧ Below W1.heap.size W1 W)
  case take =>
    intro R hR
    refine wpAnyH_take (i := 0) (v := ?_) rfl (by kernel_rfl) (by kernel_rfl) (by kernel_rfl) (fun _ _ _ h => only_panic h) (Or.inl ⟨by rfl, ?_⟩) hHeld ?_
    rotate_left
    · (intro w hSw; obtain ⟨l0, l1, l2, l3⟩ := LD.out w hSw; go_simp; try (with_reducible rfl))
    try simp only [gA, gB, gC, Act.put, gD, gE, gF]
    refine wpAnyH_take (i := 1) (v := ?_) rfl (by kernel_rfl) (by kernel_rfl) (by kernel_rfl) (fun _ _ _ h => only_panic h) (Or.inl ⟨by rfl, ?_⟩) hHeld ?_
    rotate_left
    · (intro w hSw; obtain ⟨l0, l1, l2, l3⟩ := LD.out w hSw; go_simp; try (with_reducible rfl))
    try simp only [gA, gB, gC, Act.put, gD, gE, gF]
    refine wpAnyH_take (i := 2) (v := ?_) rfl (by kernel_rfl) (by kernel_rfl) (by kernel_rfl) (fun _ _ _ h => only_panic h) (Or.inl ⟨by rfl, ?_⟩) hHeld ?_
    rotate_left
    · (intro w hSw; obtain ⟨l0, l1, l2, l3⟩ := LD.out w hSw; go_simp; try (with_reducible rfl))
    try simp only [gA, gB, gC, Act.put, gD, gE, gF]
    refine wpAnyH_take (i := 3) (v := ?_) rfl (by kernel_rfl) (by kernel_rfl) (by kernel_rfl) (fun _ _ _ h => only_panic h) (Or.inl ⟨by rfl, ?_⟩) hHeld ?_
    rotate_left
    · (intro w hSw; obtain ⟨l0, l1, l2, l3⟩ := LD.out w hSw; go_simp; try (with_reducible rfl))
    try simp only [gA, gB, gC, Act.put, gD, gE, gF]
    refine wpAnyH_take (i := 4) (v := ?_) rfl (by kernel_rfl) (by kernel_rfl) (by kernel_rfl) (fun _ _ _ h => only_panic h) (Or.inl ⟨by rfl, ?_⟩) hHeld ?_
    rotate_left
    · (intro w hSw; obtain ⟨l0, l1, l2, l3⟩ := LD.out w hSw; go_simp; try (with_reducible rfl))
    try simp only [gA, gB, gC, Act.put, gD, gE, gF]
    refine wpAnyH_take (i := 5) (v := ?_) rfl (by kernel_rfl) (by kernel_rfl) (by kernel_rfl) (fun _ _ _ h => only_panic h) (Or.inl ⟨by rfl, ?_⟩) hHeld ?_
    rotate_left
    · (intro w hSw; obtain ⟨l0, l1, l2, l3⟩ := LD.out w hSw; go_simp; try (with_reducible rfl))
    try simp only [gA, gB, gC, Act.put, gD, gE, gF]
    refine wpAnyH_take (i := 6) (v := ?_) rfl (by kernel_rfl) (by kernel_rfl) (by kernel_rfl) (fun _ _ _ h => only_panic h) (Or.inl ⟨by rfl, ?_⟩) hHeld ?_
    rotate_left
    · (intro w hSw; obtain ⟨l0, l1, l2, l3⟩ := LD.out w hSw; go_simp; try (with_reducible rfl))
    try simp only [gA, gB, gC, Act.put, gD, gE, gF]
    refine wpAnyH_take (i := 7) (v := ?_) rfl (by kernel_rfl) (by kernel_rfl) (by kernel_rfl) (fun _ _ _ h => only_panic h) (Or.inl ⟨by rfl, ?_⟩) hHeld ?_
    rotate_left
    · (intro w hSw; obtain ⟨l0, l1, l2, l3⟩ := LD.out w hSw; go_simp; try (with_reducible rfl))
    try simp only [gA, gB, gC, Act.put, gD, gE, gF]
    refine wpAnyH_take (i := 8) (v := ?_) rfl (by kernel_rfl) (by kernel_rfl) (by kernel_rfl) (fun _ _ _ h => only_panic h) (Or.inl ⟨by rfl, ?_⟩) hHeld ?_
    rotate_left
    · (intro w hSw; obtain ⟨l0, l1, l2, l3⟩ := LD.out w hSw; go_simp; try (with_reducible rfl))
    try simp only [gA, gB, gC, Act.put, gD, gE, gF]
    refine wpAnyH_take (i := 9) (v := ?_) rfl (by kernel_rfl) (by kernel_rfl) (by kernel_rfl) (fun _ _ _ h => only_panic h) (Or.inl ⟨by rfl, ?_⟩) hHeld ?_
    rotate_left
    · (intro w hSw; obtain ⟨l0, l1, l2, l3⟩ := LD.out w hSw; go_simp; try (with_reducible rfl))
    try simp only [gA, gB, gC, Act.put, gD, gE, gF]
    refine wpAnyH_take (i := 10) (v := ?_) rfl (by kernel_rfl) (by kernel_rfl) (by kernel_rfl) (fun _ _ _ h => only_panic h) (Or.inl ⟨by rfl, ?_⟩) hHeld ?_
    rotate_left
    · (intro w hSw; obtain ⟨l0, l1, l2, l3⟩ := LD.out w hSw; go_simp; try (with_reducible rfl))
    try simp only [gA, gB, gC, Act.put, gD, gE, gF]
    refine wpAnyH_take (i := 11) (v := ?_) rfl (by kernel_rfl) (by kernel_rfl) (by kernel_rfl) (fun _ _ _ h => only_panic h) (Or.inl ⟨by rfl, ?_⟩) hHeld ?_
    rotate_left
    · (intro w hSw; obtain ⟨l0, l1, l2, l3⟩ := LD.out w hSw; go_simp; try (with_reducible rfl))
    try simp only [gA, gB, gC, Act.put, gD, gE, gF]
    refine wpAnyH_take (i := 12) (v := ?_) rfl (by kernel_rfl) (by kernel_rfl) (by kernel_rfl) (fun _ _ _ h => only_panic h) (Or.inl ⟨by rfl, ?_⟩) hHeld ?_
    rotate_left
    · (intro w hSw; obtain ⟨l0, l1, l2, l3⟩ := LD.out w hSw; go_simp; try (with_reducible rfl))
    try simp only [gA, gB, gC, Act.put, gD, gE, gF]
    refine wpAnyH_take (i := 13) (v := ?_) rfl (by kernel_rfl) (by kernel_rfl) (by kernel_rfl) (fun _ _ _ h => only_panic h) (Or.inl ⟨by rfl, ?_⟩) hHeld ?_
    rotate_left
    · (intro w hSw; obtain ⟨l0, l1, l2, l3⟩ := LD.out w hSw; go_simp; try (with_reducible rfl))
    try simp only [gA, gB, gC, Act.put, gD, gE, gF]
    refine wpAnyH_take (i := 14) (v := ?_) rfl (by kernel_rfl) (by kernel_rfl) (by kernel_rfl) (fun _ _ _ h => only_panic h) (Or.inl ⟨by rfl, ?_⟩) hHeld ?_
    rotate_left
    · (intro w hSw; obtain ⟨l0, l1, l2, l3⟩ := LD.out w hSw; go_simp; try (with_reducible rfl))
    try simp only [gA, gB, gC, Act.put, gD, gE, gF]
    refine wpAnyH_one (i := 15) rfl (by kernel_rfl) (by rfl) ?_
    go_simp
    refine (text_any k a r v _ HQ.out.1 HQ.out.2.1 HQ.out.2.2.1 HQ.out.2.2.2).mono ?_
    rintro e W3 ⟨rfl, hb⟩
    have B3 := Lib.hid ((Below.refl W1.heap.size W1).drew.trans hb)
    have hHeld := UU.out _ B3.out
    clear hb
    refine ⟨hHeld, ?_⟩
    refine wpAnyH_take (i := 16) (v := ?_) rfl (by kernel_rfl) (by kernel_rfl) (by kernel_rfl) (fun _ _ _ h => only_panic h) (Or.inl ⟨by rfl, ?_⟩) hHeld ?_
    rotate_left
    · (intro w hSw; clear hSw; go_simp; try (with_reducible rfl))
    try simp only [gA, gB, gC, Act.put, gD, gE, gF]
    refine wpAnyH_one (i := 17) rfl (by kernel_rfl) (by rfl) ?_
    go_simp
    obtain ⟨W4, hW4⟩ : ∃ W4, W4 = W3.alloc (.cells #[i64 id, i64 to, i64 (sent + 1), strV (txt k a r v)] 31) := ⟨_, rfl⟩
    have M4 : RowKit.Hid (Blk W4 W3.heap.size (encM ⟨id, to, sent + 1, txt k a r v⟩) 31) := Lib.hid (by rw [hW4]; exact Blk.new _ _ _)
    have B4 : RowKit.Hid (Below W1.heap.size W1 W4) := Lib.hid (by rw [hW4]; exact B3.out.alloc B3.out.size _)
    have hz3 := B3.out.size
    obtain ⟨g, hg⟩ : ∃ g, g = W3.heap.size := ⟨_, rfl⟩
    rw [← hg] at M4 hz3
    rw [← hW4, ← hg]
    clear hW4 hg
    have hHeld := UU.out _ B4.out
    refine ⟨hHeld, ?_⟩
    refine wpAnyH_take (i := 18) (v := ?_) rfl (by kernel_rfl) (by kernel_rfl) (by kernel_rfl) (fun _ _ _ h => only_panic h) (Or.inl ⟨by rfl, ?_⟩) hHeld ?_
    rotate_left
    · (intro w hSw; clear hSw; go_simp; try (with_reducible rfl))
    try simp only [gA, gB, gC, Act.put, gD, gE, gF]
    exact wpAnyH_done (by kernel_rfl) ⟨rfl, hR _ _ ⟨hz3, M4.out, B4.out⟩⟩ _
  case rest =>
    rintro g W ⟨hg, hM, hB⟩
    have F : RowKit.Hid (SendE b id sent to k a r v w (.returned (.slice (some ⟨g, 0, none⟩) 1 1)) W) := Lib.hid ⟨g, rfl, by omega, hM, by rw [← W0.out]; exact (B0.out.trans (hB.mono B0.out.size)).mono (by omega)⟩
    go_wp2_with fail
    go_ret
    exact F.out
def RTellE (B rb N : Nat) (s : Brk) (rv lv : Value) (G : List CsN) (c : Cs) (w : World) (e : Ending) (w' : World) : Prop :=
  ∃ v, e = .returned v ∧ MsgsAt w' w.heap.size v (s.tell c).2 ∧ RBM w' B rb (s.tell c).1 rv lv G N ∧ Tn (fun k => k = rb) w w'
theorem rtell_send {B rb N : Nat} {s : Brk} {rv lv : Value} {G : List CsN} {c : Cs} {to k v : Int} {w w7 w' : World} {e : Ending} (hT : s.tell c = ({ s with sent := s.sent + 1 }, [mesg s.id s.sent to k c.a c.r v])) (M : RBM w7 B rb s rv lv G N) (hs : s.sent < 1000 * N) (T : Below w.heap.size w w7)
    (hS : SendE rb s.id s.sent to k c.a c.r v w7 e w') : RTellE B rb N s rv lv G c w e w' := by
  obtain ⟨g, rfl, hg, hM, hb⟩ := hS
  obtain ⟨M8, T8⟩ := M.sent1 hs hb
  exact ⟨_, rfl, by rw [hT]; exact ⟨g, Nat.le_trans T.size hg, rfl, hM⟩, by rw [hT]; exact M8, (Tn.of_below T).trans T8⟩
set_option maxRecDepth 100000 in
set_option maxHeartbeats 8000000 in
theorem rnow_any (B rb N : Nat) (s : Brk) (rv lv : Value) (G : List CsN) (j : Nat) (p : CsN) (w : World) (h : RBM w B rb s rv lv G N) (hj : G[j]? = some p) (hs : s.sent < 1000 * N) :
    Calls Tryz.prog 57 #[.pointer (some ⟨rb, 0, none⟩), i64 (j : Int)] w (RTellE B rb N s rv lv G p.1 w) := by
  have hpG : p ∈ G := List.mem_of_getElem? hj
  have hcL : p.1 ∈ s.L := by rw [h.gs]; exact List.mem_map.2 ⟨_, hpG, rfl⟩
  have HF := Lib.hid (h.fit p hpG)
  obtain ⟨c, n⟩ := p
  dsimp only at hcL HF ⊢
  have HI0 := h.ids.2.2.2 c hcL
  have HI := Lib.hid HI0
  have HXI : RowKit.Hid (∀ x ∈ rotOf s.rota c.a c.r, I64 x) := Lib.hid fun x hx => h.ids.2.2.1 x (rot_mem hx)
  obtain ⟨la, lcap, hlv, ld1, ld2, -, hlc⟩ := row_cellz h.row
  have hlcap : lcap ≤ 9223372036854775807 := by unfold maxLen at ld2; omega
  have hlt : j < G.length := (List.getElem?_eq_some_iff.1 hj).1
  obtain ⟨g, rfl, hgo, -⟩ := hlc.resolve_left (fun h => by omega)
  obtain ⟨d0, d1, d2, d3, d4⟩ := h.case_ hj hlv
  dsimp only at d0 d1 d2 d3 d4
  have c3 : w.cell? ⟨rb, 3, none⟩ = some (.slice (some ⟨g, 0, none⟩) G.length lcap) := (h.blk.cell 3).trans (congrArg some hlv)
  have H := Lib.hid h
  have HS := Lib.hid hs
  have hbl := h.blk.lt
  obtain ⟨w1, hw1⟩ : ∃ w1, w1 = w.alloc (.cells #[i64 c.a, i64 c.r, i64 c.t, i64 (n : Int), i64 (dn c)] 119) := ⟨_, rfl⟩
  obtain ⟨cb, hcb⟩ : ∃ cb, cb = w.heap.size := ⟨_, rfl⟩
  have C1 : RowKit.Hid (Blk w1 cb #[i64 c.a, i64 c.r, i64 c.t, i64 (n : Int), i64 (dn c)] 119) := Lib.hid (by rw [hw1, hcb]; exact Blk.new _ _ _)
  have B1 : RowKit.Hid (Below w.heap.size w w1) := Lib.hid (by rw [hw1]; exact (Below.refl _ _).alloc (Nat.le_refl _) _)
  have M1 := Lib.hid (h.up B1.out)
  have HW := Lib.hid hw1
  have HCB := Lib.hid hcb
  have hz1 : w1.heap.size = w.heap.size + 1 := by rw [hw1, size_alloc]
  have HZ := Lib.hid hz1
  clear h hs hj hpG hcL hw1 hcb hz1 HI0 ld2 hlc hgo hlv
  go_enter Tryz.func57, Tryz.ntmps57
  go_wp2_with fail
  rw [← HW.out, ← HCB.out]
  refine (rrota_any B rb N s rv lv G c.a c.r c.t n (dn c) w1 M1.out).mono ?_
  rintro e w2 ⟨v6, rfl, hr6, hb6⟩
  have M2 := Lib.hid (M1.out.up hb6)
  have C2 := Lib.hid (C1.out.below hb6 C1.out.lt)
  have B2 : RowKit.Hid (Below w.heap.size w w2) := Lib.hid (B1.out.trans (hb6.mono B1.out.size))
  obtain ⟨ha, hcap, rfl, hh1, hh2, -, hh4⟩ := row_cellz hr6
  have hhcap : hcap ≤ 9223372036854775807 := by unfold maxLen at hh2; omega
  clear d0 d1 d2 d3 d4 c3 hr6 hb6 hh2
  have e0 : w2.cell? ⟨cb, 0, none⟩ = some (i64 c.a) := C2.out.cell 0
  have e4 : w2.cell? ⟨cb, 4, none⟩ = some (i64 (dn c)) := C2.out.cell 4
  have HH := Lib.hid hh4
  clear hh4
  cases hl : c.left with
  | nil =>
    have hg : c.g = false := by
      cases hg : c.g with
      | false => rfl
      | true => exact absurd hl (HF.out.2.2 hg)
    have hd : dn c = 2 := by unfold dn; rw [hg, hl]; rfl
    have HT : RowKit.Hid (s.tell c = ({ s with sent := s.sent + 1 }, [mesg s.id s.sent c.a 6 c.a c.r 0])) := Lib.hid (by unfold Brk.tell; rw [hl])
    rw [hd] at e4
    clear hl hg hd
    have K2 := C2
    go_wp2_with (refine wpList_load_row 119 (.tmp 5) rfl rfl rfl K2.out Tryz.underlying119 rfl (by kernel_rfl) ?_)
    refine (rbsend_any rb s.id s.sent c.a 6 c.a c.r c.t n (dn c) 0 w2 (M2.out.blk.cell 0) (M2.out.blk.cell 1) (M2.out.blk.frozen 1) ⟨H.out.sent.1, by have := H.out.len; have := HS.out; omega⟩ ⟨by omega, by omega⟩ HI.out.1 HI.out.2.1 ⟨by omega, by omega⟩).mono ?_
    rintro e w4 hS4
    have F : RowKit.Hid (RTellE B rb N s rv lv G c w e w4) := Lib.hid (rtell_send HT.out M2.out HS.out B2.out hS4)
    obtain ⟨g4, rfl, -⟩ := hS4
    go_wp2_with fail
    go_ret
    exact F.out
  | cons x rest =>
    have hrn : (rotOf s.rota c.a c.r)[n]? = some x := by
      have := HF.out.1
      dsimp only at this
      rw [hl] at this
      have h1 := congrArg (·[0]?) this
      simpa using h1.symm
    have hnl := (List.getElem?_eq_some_iff.1 hrn).1
    have hxi : I64 x := HXI.out x (List.mem_of_getElem? hrn)
    have HX := Lib.hid hxi
    obtain ⟨h, rfl, hho, hhB, hhl, hhc⟩ := HH.out.resolve_left (fun h => by omega)
    have X2 : RowKit.Hid (w2.cell? ⟨h, n, none⟩ = some (i64 x)) := Lib.hid (hhc n (i64 x) (by rw [List.getElem?_map, hrn]; rfl))
    have NE : RowKit.Hid (¬ cb = rb ∧ ¬ h = rb) := Lib.hid ⟨by have := HCB.out; omega, by have := HZ.out; omega⟩
    have hn0 : (0 : Int) ≤ n := by omega
    have hnl2 : (n : Int) < (rotOf s.rota c.a c.r).length := by omega
    clear hxi hrn hho hhB hhl hhc
    cases hg : c.g with
    | true =>
      have hd : dn c = 1 := by unfold dn; rw [hg]; rfl
      have HT : RowKit.Hid (s.tell c = ({ s with sent := s.sent + 1 }, [mesg s.id s.sent c.a 5 c.a c.r x])) := Lib.hid (by unfold Brk.tell; rw [hl, hg]; rfl)
      rw [hd] at e4
      clear hl hg hd
      go_wp2_with fail
      obtain ⟨S, hS⟩ : ∃ S : World → Prop, S = fun W => Blk W cb #[i64 c.a, i64 c.r, i64 c.t, i64 (n : Int), i64 (dn c)] 119 ∧ W.cell? ⟨h, n, none⟩ = some (i64 x) := ⟨_, rfl⟩
      have LB : RowKit.Hid (∀ W, S W → Blk W cb #[i64 c.a, i64 c.r, i64 c.t, i64 (n : Int), i64 (dn c)] 119) := Lib.hid (by rw [hS]; exact fun W h => h.1)
      have LD : RowKit.Hid (∀ W, S W → W.cell? ⟨cb, 0, none⟩ = some (i64 c.a) ∧ W.cell? ⟨cb, 2, none⟩ = some (i64 c.t) ∧ W.cell? ⟨cb, 3, none⟩ = some (i64 (n : Int)) ∧ W.cell? ⟨h, n, none⟩ = some (i64 x)) := Lib.hid (by rw [hS]; exact fun W h => ⟨h.1.cell 0, h.1.cell 2, h.1.cell 3, h.2⟩)
      have UU : RowKit.Hid (∀ W, Blk W cb #[i64 c.a, i64 c.r, i64 c.t, i64 (n : Int), i64 (dn c)] 119 → W.cell? ⟨h, n, none⟩ = some (i64 x) → S W) := Lib.hid (by rw [hS]; exact fun W h h' => ⟨h, h'⟩)
      have hHeld := UU.out _ (C2.out.drew) X2.out
      clear hS
      refine wp_region_held_drew (S := S) (by kernel_rfl) hHeld (fun _ => ?_)
      apply wpAnyH_apart1 (fun g4 W => RTellE B rb N s rv lv G c w (.returned (.slice (some ⟨g4, 0, none⟩) 1 1)) W)
      case take =>
        intro R hR
        refine wpAnyH_take (i := 0) (v := ?_) rfl (by kernel_rfl) (by kernel_rfl) (by kernel_rfl) (fun _ _ _ h => only_panic h) (Or.inl ⟨by rfl, ?_⟩) hHeld ?_
        rotate_left
        · (intro w hSw; obtain ⟨l0, l2, l3, lx⟩ := LD.out w hSw; go_simp; try (with_reducible rfl))
        try simp only [gA, gB, gC, Act.put, gD, gE, gF]
        refine wpAnyH_take (i := 1) (v := ?_) rfl (by kernel_rfl) (by kernel_rfl) (by kernel_rfl) (fun _ _ _ h => only_panic h) (Or.inl ⟨by rfl, ?_⟩) hHeld ?_
        rotate_left
        · (intro w hSw; obtain ⟨l0, l2, l3, lx⟩ := LD.out w hSw; go_simp; try (with_reducible rfl))
        try simp only [gA, gB, gC, Act.put, gD, gE, gF]
        refine wpAnyH_take (i := 2) (v := ?_) rfl (by kernel_rfl) (by kernel_rfl) (by kernel_rfl) (fun _ _ _ h => only_panic h) (Or.inl ⟨by rfl, ?_⟩) hHeld ?_
        rotate_left
        · (intro w hSw; obtain ⟨l0, l2, l3, lx⟩ := LD.out w hSw; go_simp; try (with_reducible rfl))
        try simp only [gA, gB, gC, Act.put, gD, gE, gF]
        refine wpAnyH_take (i := 4) (v := ?_) rfl (by kernel_rfl) (by kernel_rfl) (by kernel_rfl) (fun _ _ _ h => only_panic h) (Or.inl ⟨by rfl, ?_⟩) hHeld ?_
        rotate_left
        · (intro w hSw; obtain ⟨l0, l2, l3, lx⟩ := LD.out w hSw; go_simp; try (with_reducible rfl))
        try simp only [gA, gB, gC, Act.put, gD, gE, gF]
        refine wpAnyH_take (i := 5) (v := ?_) rfl (by kernel_rfl) (by kernel_rfl) (by kernel_rfl) (fun _ _ _ h => only_panic h) (Or.inl ⟨by rfl, ?_⟩) hHeld ?_
        rotate_left
        · (intro w hSw; obtain ⟨l0, l2, l3, lx⟩ := LD.out w hSw; go_simp; try (with_reducible rfl))
        try simp only [gA, gB, gC, Act.put, gD, gE, gF]
        refine wpAnyH_take (i := 6) (v := ?_) rfl (by kernel_rfl) (by kernel_rfl) (by kernel_rfl) (fun _ _ _ h => only_panic h) (Or.inl ⟨by rfl, ?_⟩) hHeld ?_
        rotate_left
        · (intro w hSw; obtain ⟨l0, l2, l3, lx⟩ := LD.out w hSw; go_simp; try (with_reducible rfl))
        try simp only [gA, gB, gC, Act.put, gD, gE, gF]
        refine wpAnyH_take (i := 7) (v := ?_) rfl (by kernel_rfl) (by kernel_rfl) (by kernel_rfl) (fun _ _ _ h => only_panic h) (Or.inl ⟨by rfl, ?_⟩) hHeld ?_
        rotate_left
        · (intro w hSw; obtain ⟨l0, l2, l3, lx⟩ := LD.out w hSw; go_simp; try (with_reducible rfl))
        try simp only [gA, gB, gC, Act.put, gD, gE, gF]
        refine wpAnyH_take (i := 8) (v := ?_) rfl (by kernel_rfl) (by kernel_rfl) (by kernel_rfl) (fun _ _ _ h => only_panic h) (Or.inl ⟨by rfl, ?_⟩) hHeld ?_
        rotate_left
        · (intro w hSw; obtain ⟨l0, l2, l3, lx⟩ := LD.out w hSw; go_simp; try (with_reducible rfl))
        try simp only [gA, gB, gC, Act.put, gD, gE, gF]
        refine wpAnyH_take (i := 3) (v := .agg #[i64 c.a, i64 c.r, i64 c.t, i64 (n : Int), i64 (dn c)]) rfl (by kernel_rfl) (by kernel_rfl) (by kernel_rfl) (fun _ _ _ h => only_panic h) ?_ hHeld ?_
        · exact yields_row (.tmp 5) (by rfl) rfl rfl LB.out Tryz.underlying119 rfl (by kernel_rfl)
        try simp only [gA, gB, gC, Act.put, gD, gE, gF]
        refine wpAnyH_one (i := 9) rfl (by kernel_rfl) (by rfl) ?_
        go_simp
        have MD := M2.out.up (Below.refl w2.heap.size w2).drew
        refine (rbsend_any rb s.id s.sent c.a 5 c.a c.r c.t n (dn c) x w2.drew (MD.blk.cell 0) (MD.blk.cell 1) (MD.blk.frozen 1) ⟨H.out.sent.1, by have := H.out.len; have := HS.out; omega⟩ ⟨by omega, by omega⟩ HI.out.1 HI.out.2.1 HX.out).mono ?_
        rintro e w4 hS4
        have F : RowKit.Hid (RTellE B rb N s rv lv G c w e w4) := Lib.hid (rtell_send HT.out MD HS.out (B2.out.trans ((Below.refl w2.heap.size w2).drew.mono B2.out.size)) hS4)
        obtain ⟨g4, rfl, hg4, hM4, hb4⟩ := hS4
        have T4 := (MD.sent1 HS.out hb4).2
        have hHeld := UU.out _ (T4.blk (LB.out _ hHeld) NE.out.1) (T4.cell (LD.out _ hHeld).2.2.2 NE.out.2)
        clear hM4 hb4 T4 MD
        refine ⟨hHeld, ?_⟩
        refine wpAnyH_take (i := 10) (v := ?_) rfl (by kernel_rfl) (by kernel_rfl) (by kernel_rfl) (fun _ _ _ h => only_panic h) (Or.inl ⟨by rfl, ?_⟩) hHeld ?_
        rotate_left
        · (intro w hSw; clear hSw; go_simp; try (with_reducible rfl))
        try simp only [gA, gB, gC, Act.put, gD, gE, gF]
        exact wpAnyH_done (by kernel_rfl) ⟨rfl, hR g4 _ F.out⟩ _
      case rest =>
        rintro g4 W hF
        have F := Lib.hid hF
        clear hF
        go_wp2_with fail
        go_ret
        exact F.out
    | false =>
      have hd : dn c = 0 := by unfold dn; rw [hg, hl]; rfl
      have HT : RowKit.Hid (s.tell c = ({ s with sent := s.sent + 1 }, [mesg s.id s.sent x 2 c.a c.r c.t])) := Lib.hid (by unfold Brk.tell; rw [hl, hg]; rfl)
      rw [hd] at e4
      clear hl hg hd
      go_wp2_with fail
      obtain ⟨S, hS⟩ : ∃ S : World → Prop, S = fun W => Blk W cb #[i64 c.a, i64 c.r, i64 c.t, i64 (n : Int), i64 (dn c)] 119 ∧ W.cell? ⟨h, n, none⟩ = some (i64 x) := ⟨_, rfl⟩
      have LB : RowKit.Hid (∀ W, S W → Blk W cb #[i64 c.a, i64 c.r, i64 c.t, i64 (n : Int), i64 (dn c)] 119) := Lib.hid (by rw [hS]; exact fun W h => h.1)
      have LD : RowKit.Hid (∀ W, S W → W.cell? ⟨cb, 0, none⟩ = some (i64 c.a) ∧ W.cell? ⟨cb, 2, none⟩ = some (i64 c.t) ∧ W.cell? ⟨cb, 3, none⟩ = some (i64 (n : Int)) ∧ W.cell? ⟨h, n, none⟩ = some (i64 x)) := Lib.hid (by rw [hS]; exact fun W h => ⟨h.1.cell 0, h.1.cell 2, h.1.cell 3, h.2⟩)
      have UU : RowKit.Hid (∀ W, Blk W cb #[i64 c.a, i64 c.r, i64 c.t, i64 (n : Int), i64 (dn c)] 119 → W.cell? ⟨h, n, none⟩ = some (i64 x) → S W) := Lib.hid (by rw [hS]; exact fun W h h' => ⟨h, h'⟩)
      have hHeld := UU.out _ (C2.out.drew) X2.out
      clear hS
      refine wp_region_held_drew (S := S) (by kernel_rfl) hHeld (fun _ => ?_)
      apply wpAnyH_apart1 (fun g4 W => RTellE B rb N s rv lv G c w (.returned (.slice (some ⟨g4, 0, none⟩) 1 1)) W)
      case take =>
        intro R hR
        refine wpAnyH_take (i := 0) (v := ?_) rfl (by kernel_rfl) (by kernel_rfl) (by kernel_rfl) (fun _ _ _ h => only_panic h) (Or.inl ⟨by rfl, ?_⟩) hHeld ?_
        rotate_left
        · (intro w hSw; obtain ⟨l0, l2, l3, lx⟩ := LD.out w hSw; go_simp; try (with_reducible rfl))
        try simp only [gA, gB, gC, Act.put, gD, gE, gF]
        refine wpAnyH_take (i := 1) (v := ?_) rfl (by kernel_rfl) (by kernel_rfl) (by kernel_rfl) (fun _ _ _ h => only_panic h) (Or.inl ⟨by rfl, ?_⟩) hHeld ?_
        rotate_left
        · (intro w hSw; obtain ⟨l0, l2, l3, lx⟩ := LD.out w hSw; go_simp; try (with_reducible rfl))
        try simp only [gA, gB, gC, Act.put, gD, gE, gF]
        refine wpAnyH_take (i := 2) (v := ?_) rfl (by kernel_rfl) (by kernel_rfl) (by kernel_rfl) (fun _ _ _ h => only_panic h) (Or.inl ⟨by rfl, ?_⟩) hHeld ?_
        rotate_left
        · (intro w hSw; obtain ⟨l0, l2, l3, lx⟩ := LD.out w hSw; go_simp; try (with_reducible rfl))
        try simp only [gA, gB, gC, Act.put, gD, gE, gF]
        refine wpAnyH_take (i := 3) (v := ?_) rfl (by kernel_rfl) (by kernel_rfl) (by kernel_rfl) (fun _ _ _ h => only_panic h) (Or.inl ⟨by rfl, ?_⟩) hHeld ?_
        rotate_left
        · (intro w hSw; obtain ⟨l0, l2, l3, lx⟩ := LD.out w hSw; go_simp; try (with_reducible rfl))
        try simp only [gA, gB, gC, Act.put, gD, gE, gF]
        refine wpAnyH_take (i := 4) (v := ?_) rfl (by kernel_rfl) (by kernel_rfl) (by kernel_rfl) (fun _ _ _ h => only_panic h) (Or.inl ⟨by rfl, ?_⟩) hHeld ?_
        rotate_left
        · (intro w hSw; obtain ⟨l0, l2, l3, lx⟩ := LD.out w hSw; go_simp; try (with_reducible rfl))
        try simp only [gA, gB, gC, Act.put, gD, gE, gF]
        refine wpAnyH_take (i := 5) (v := ?_) rfl (by kernel_rfl) (by kernel_rfl) (by kernel_rfl) (fun _ _ _ h => only_panic h) (Or.inl ⟨by rfl, ?_⟩) hHeld ?_
        rotate_left
        · (intro w hSw; obtain ⟨l0, l2, l3, lx⟩ := LD.out w hSw; go_simp; try (with_reducible rfl))
        try simp only [gA, gB, gC, Act.put, gD, gE, gF]
        refine wpAnyH_take (i := 7) (v := ?_) rfl (by kernel_rfl) (by kernel_rfl) (by kernel_rfl) (fun _ _ _ h => only_panic h) (Or.inl ⟨by rfl, ?_⟩) hHeld ?_
        rotate_left
        · (intro w hSw; obtain ⟨l0, l2, l3, lx⟩ := LD.out w hSw; go_simp; try (with_reducible rfl))
        try simp only [gA, gB, gC, Act.put, gD, gE, gF]
        refine wpAnyH_take (i := 8) (v := ?_) rfl (by kernel_rfl) (by kernel_rfl) (by kernel_rfl) (fun _ _ _ h => only_panic h) (Or.inl ⟨by rfl, ?_⟩) hHeld ?_
        rotate_left
        · (intro w hSw; obtain ⟨l0, l2, l3, lx⟩ := LD.out w hSw; go_simp; try (with_reducible rfl))
        try simp only [gA, gB, gC, Act.put, gD, gE, gF]
        refine wpAnyH_take (i := 6) (v := .agg #[i64 c.a, i64 c.r, i64 c.t, i64 (n : Int), i64 (dn c)]) rfl (by kernel_rfl) (by kernel_rfl) (by kernel_rfl) (fun _ _ _ h => only_panic h) ?_ hHeld ?_
        · exact yields_row (.tmp 5) (by rfl) rfl rfl LB.out Tryz.underlying119 rfl (by kernel_rfl)
        try simp only [gA, gB, gC, Act.put, gD, gE, gF]
        refine wpAnyH_one (i := 9) rfl (by kernel_rfl) (by rfl) ?_
        go_simp
        have MD := M2.out.up (Below.refl w2.heap.size w2).drew
        refine (rbsend_any rb s.id s.sent x 2 c.a c.r c.t n (dn c) c.t w2.drew (MD.blk.cell 0) (MD.blk.cell 1) (MD.blk.frozen 1) ⟨H.out.sent.1, by have := H.out.len; have := HS.out; omega⟩ ⟨by omega, by omega⟩ HI.out.1 HI.out.2.1 HI.out.2.2).mono ?_
        rintro e w4 hS4
        have F : RowKit.Hid (RTellE B rb N s rv lv G c w e w4) := Lib.hid (rtell_send HT.out MD HS.out (B2.out.trans ((Below.refl w2.heap.size w2).drew.mono B2.out.size)) hS4)
        obtain ⟨g4, rfl, hg4, hM4, hb4⟩ := hS4
        have T4 := (MD.sent1 HS.out hb4).2
        have hHeld := UU.out _ (T4.blk (LB.out _ hHeld) NE.out.1) (T4.cell (LD.out _ hHeld).2.2.2 NE.out.2)
        clear hM4 hb4 T4 MD
        refine ⟨hHeld, ?_⟩
        refine wpAnyH_take (i := 10) (v := ?_) rfl (by kernel_rfl) (by kernel_rfl) (by kernel_rfl) (fun _ _ _ h => only_panic h) (Or.inl ⟨by rfl, ?_⟩) hHeld ?_
        rotate_left
        · (intro w hSw; clear hSw; go_simp; try (with_reducible rfl))
        try simp only [gA, gB, gC, Act.put, gD, gE, gF]
        exact wpAnyH_done (by kernel_rfl) ⟨rfl, hR g4 _ F.out⟩ _
      case rest =>
        rintro g4 W hF
        have F := Lib.hid hF
        clear hF
        go_wp2_with fail
        go_ret
        exact F.out
end Go.Proofs.YtdojgbpaheadnaaGreat

/- The reference's broker settles a case. -/
namespace Go.Proofs.YtdojgbpaheadnaaGreat
open Go.RowKit Go.Shelf Go.Maps

/-- .. where the cells of the cases are some others. -/
structure RBX (w : World) (B rb : Nat) (s : Brk) (rv lv : Value) (G : List CsN) (cells : List Value) (N : Nat) : Prop where
  blk : Blk w rb #[i64 s.id, i64 s.sent, rv, lv] 102
  rota : w.ownsRow B 3 1 rv s.rota.length (s.rota.map (Value.int .i64))
  row : w.ownsRow B 119 5 lv G.length cells
  gs : s.L = G.map (·.1)
  fit : ∀ p ∈ G, FitN s.rota p
  ne1 : rv.ownBlock ≠ some rb
  ne2 : lv.ownBlock ≠ some rb
  ne3 : ∀ k, rv.ownBlock = some k → lv.ownBlock ≠ some k
  lo : B ≤ rb
  sent : 0 ≤ s.sent ∧ s.sent ≤ 1000 * N
  ids : I64 s.id ∧ s.rota.length ≤ 1000 ∧ (∀ x ∈ s.rota, I64 x) ∧ ∀ c ∈ s.L, I64 c.a ∧ I64 c.r ∧ I64 c.t
  inOrder : SortedC s.L
  len : G.length ≤ N ∧ N ≤ 10000
section
variable {w : World} {B rb N : Nat} {s : Brk} {rv lv : Value} {G : List CsN} {cells : List Value}
theorem RBM.x (h : RBM w B rb s rv lv G N) : RBX w B rb s rv lv G (ccells G) N := ⟨h.blk, h.rota, h.row, h.gs, h.fit, h.ne1, h.ne2, h.ne3, h.lo, h.sent, h.ids, h.inOrder, h.len⟩
theorem RBX.m (h : RBX w B rb s rv lv G (ccells G) N) : RBM w B rb s rv lv G N := ⟨h.blk, h.rota, h.row, h.gs, h.fit, h.ne1, h.ne2, h.ne3, h.lo, h.sent, h.ids, h.inOrder, h.len⟩
theorem RBX.up {w' : World} (h : RBX w B rb s rv lv G cells N) (hb : Below w.heap.size w w') : RBX w' B rb s rv lv G cells N :=
  have t : Tn (fun _ => False) w w' := Tn.of_below hb
  ⟨t.blk h.blk id, t.row h.rota fun _ _ => id, t.row h.row fun _ _ => id, h.gs, h.fit, h.ne1, h.ne2, h.ne3, h.lo, h.sent, h.ids, h.inOrder, h.len⟩
/-- A cell of the cases is stored. -/
theorem RBX.store {g m n cap : Nat} {v : Value} (h : RBX w B rb s rv lv G cells N) (hlv : lv = .slice (some ⟨g, 0, none⟩) n cap) {cells' : List Value} (hc : cells' = cells.set m v) : RBX (w.setCell ⟨g, m, none⟩ v) B rb s rv lv G cells' N ∧ Tn (fun k => lv.ownBlock = some k) w (w.setCell ⟨g, m, none⟩ v) := by
  have hg : lv.ownBlock = some g := by rw [hlv]; rfl
  have t : Tn (fun k => lv.ownBlock = some k) w (w.setCell ⟨g, m, none⟩ v) := (Tn.refl (fun k => lv.ownBlock = some k) w).setCell (p := ⟨g, m, none⟩) (.inl hg) _
  have hd : (w.setCell ⟨g, m, none⟩ v).ownsRow B 119 5 lv G.length (cells.set m v) := by
    have h1 := h.row
    obtain ⟨a', c', e', _⟩ := row_cellz h1
    rw [hlv] at e' h1 ⊢
    injection e' with _ e2 e3
    subst e2
    exact (h1.stored _ _).1
  exact ⟨⟨t.blk h.blk h.ne2, t.row h.rota fun k hk e => h.ne3 k hk e, by rw [hc]; exact hd, h.gs, h.fit, h.ne1, h.ne2, h.ne3, h.lo, h.sent, h.ids, h.inOrder, h.len⟩, t⟩
theorem RBX.cells_at {g n cap : Nat} (h : RBX w B rb s rv lv G cells N) (hlv : lv = .slice (some ⟨g, 0, none⟩) n cap) : ∀ j u, cells[j]? = some u → w.cell? ⟨g, j, none⟩ = some u := by
  obtain ⟨a', c', e', _, _, _, ⟨h0, _, h1⟩ | ⟨g', h1, _, _, _, hc⟩⟩ := row_cellz h.row
  · subst h1; rw [hlv] at e'; cases e'
  · subst h1; rw [hlv] at e'; injection e' with e'; injection e' with e'; injection e' with e'; subst e'
    exact hc
end
/-- .. where a slice lies. -/
theorem wpAnyH_apartAN {P : Program} {md : Region.Mode} {ops : Array Oper} {Q : Exit → Act → World → Prop} {S : World → Prop} {fuel : Nat} {L : Array Bool} {a : Act} {w : World} {a1 : Option Addr → Nat → Act} (F : World → Prop)
    (take : ∀ R : Act → World → Prop, (∀ x y w', F w' → R (a1 x y) w') → wpAnyH P md ops (only R) S fuel L a w) (rest : ∀ x y w', F w' → Q .normal (a1 x y) w') : wpAnyH P md ops Q S fuel L a w :=
  wpAnyH_mono (fun _ _ _ h => nomatch h.1) (fun ⟨_, _, h⟩ => nomatch h.1) (fun _ _ h => h.2) fuel L a w (take (Q .normal) rest)
theorem dn_open {c : Cs} (h : c.g = false) : dn c = if c.left = [] then 2 else 0 := by
  unfold dn
  rw [h]
  cases c.left <;> rfl
set_option maxRecDepth 100000 in
set_option maxHeartbeats 4000000 in
theorem rsettle_any (B rb N : Nat) (s : Brk) (rv lv : Value) (G : List CsN) (j : Nat) (c : Cs) (n : Nat) (w : World) (h : RBX w B rb s rv lv G ((ccells G).set (5 * j + 4) (i64 0)) N) (hj : G[j]? = some (c, n)) (hg : c.g = false) :
    Calls Tryz.prog 56 #[.pointer (some ⟨rb, 0, none⟩), i64 (j : Int)] w fun e w' => e = .returned (.tuple #[]) ∧ RBM w' B rb s rv lv G N ∧ Tn (fun k => lv.ownBlock = some k) w w' := by
  have hpG : (c, n) ∈ G := List.mem_of_getElem? hj
  have HF := Lib.hid (h.fit _ hpG)
  obtain ⟨la, lcap, hlv, ld1, ld2, hxl, hlc⟩ := row_cellz h.row
  have hlcap : lcap ≤ 9223372036854775807 := by unfold maxLen at ld2; omega
  have hlt : j < G.length := (List.getElem?_eq_some_iff.1 hj).1
  obtain ⟨g, rfl, hgo, hgB, hgl, hgc⟩ := hlc.resolve_left (fun h => by omega)
  have hxl2 : (ccells G).length = G.length * 5 := ccells_len G
  have get := fun i (hi : i < 4) (u : Value) (hu : (ccell (c, n))[i]? = some u) => hgc (5 * j + i) u (by
    rw [List.getElem?_set_ne (by omega), ccells_get G j i (c, n) hj (by omega)]
    exact hu)
  have d0 : w.cell? ⟨g, j * 5, none⟩ = some (i64 c.a) := by rw [Nat.mul_comm j 5]; exact get 0 (by omega) _ rfl
  have d1 : w.cell? ⟨g, j * 5 + 1, none⟩ = some (i64 c.r) := by rw [Nat.mul_comm j 5]; exact get 1 (by omega) _ rfl
  have d2 : w.cell? ⟨g, j * 5 + 2, none⟩ = some (i64 c.t) := by rw [Nat.mul_comm j 5]; exact get 2 (by omega) _ rfl
  have d3 : w.cell? ⟨g, j * 5 + 3, none⟩ = some (i64 (n : Int)) := by rw [Nat.mul_comm j 5]; exact get 3 (by omega) _ rfl
  have d4 : w.cell? ⟨g, j * 5 + 4, none⟩ = some (i64 0) := by
    rw [Nat.mul_comm j 5]
    exact hgc (5 * j + 4) (i64 0) (by rw [List.getElem?_set_self (by omega)])
  have H := Lib.hid h
  have HLV := Lib.hid hlv
  have HJ := Lib.hid hj
  have HG := Lib.hid hg
  have hbl := h.blk.lt
  have HXL := Lib.hid hxl2
  obtain ⟨S, hS⟩ : ∃ S : World → Prop, S = fun W => Below w.heap.size w W := ⟨_, rfl⟩
  have LD : RowKit.Hid (∀ W, S W → W.cell? ⟨rb, 3, none⟩ = some (.slice (some ⟨g, 0, none⟩) G.length lcap) ∧ W.cell? ⟨g, j * 5, none⟩ = some (i64 c.a) ∧ W.cell? ⟨g, j * 5 + 1, none⟩ = some (i64 c.r) ∧ W.cell? ⟨g, j * 5 + 2, none⟩ = some (i64 c.t) ∧ W.cell? ⟨g, j * 5 + 3, none⟩ = some (i64 (n : Int)) ∧ W.cell? ⟨g, j * 5 + 4, none⟩ = some (i64 0)) := Lib.hid (by
    rw [hS]; exact fun W hW => ⟨Below.cellE hW ((h.blk.cell 3).trans (congrArg some hlv)), Below.cellE hW d0, Below.cellE hW d1, Below.cellE hW d2, Below.cellE hW d3, Below.cellE hW d4⟩)
  have UU : RowKit.Hid (∀ W, Below w.heap.size w W → S W) := Lib.hid (by rw [hS]; exact fun W h => h)
  have hHeld := UU.out _ (Below.refl w.heap.size w).drew
  clear h hS hpG hlc hgo hgB hgc get hlv ld2 hxl hj hxl2 hg
  go_enter Tryz.func56, Tryz.ntmps56
  go_wp2_with fail
  refine wp_region_held_drew (S := S) (by kernel_rfl) hHeld (fun _ => ?_)
  apply wpAnyH_apartAN (fun W => Below w.heap.size w W)
  case take =>
    intro R hR
    refine wpAnyH_take (i := 0) (v := ?_) rfl (by kernel_rfl) (by kernel_rfl) (by kernel_rfl) (fun _ _ _ h => only_panic h) (Or.inl ⟨by rfl, ?_⟩) hHeld ?_
    rotate_left
    · (intro w hSw; obtain ⟨l0, l1, l2, l3, l4, l5⟩ := LD.out w hSw; go_simp; try (with_reducible rfl))
    try simp only [gA, gB, gC, Act.put, gD, gE, gF]
    refine wpAnyH_take (i := 1) (v := ?_) rfl (by kernel_rfl) (by kernel_rfl) (by kernel_rfl) (fun _ _ _ h => only_panic h) (Or.inl ⟨by rfl, ?_⟩) hHeld ?_
    rotate_left
    · (intro w hSw; obtain ⟨l0, l1, l2, l3, l4, l5⟩ := LD.out w hSw; go_simp; try (with_reducible rfl))
    try simp only [gA, gB, gC, Act.put, gD, gE, gF]
    refine wpAnyH_take (i := 2) (v := ?_) rfl (by kernel_rfl) (by kernel_rfl) (by kernel_rfl) (fun _ _ _ h => only_panic h) (Or.inl ⟨by rfl, ?_⟩) hHeld ?_
    rotate_left
    · (intro w hSw; obtain ⟨l0, l1, l2, l3, l4, l5⟩ := LD.out w hSw; go_simp; try (with_reducible rfl))
    try simp only [gA, gB, gC, Act.put, gD, gE, gF]
    refine wpAnyH_take (i := 3) (v := ?_) rfl (by kernel_rfl) (by kernel_rfl) (by kernel_rfl) (fun _ _ _ h => only_panic h) (Or.inl ⟨by rfl, ?_⟩) hHeld ?_
    rotate_left
    · (intro w hSw; obtain ⟨l0, l1, l2, l3, l4, l5⟩ := LD.out w hSw; go_simp; try (with_reducible rfl))
    try simp only [gA, gB, gC, Act.put, gD, gE, gF]
    refine wpAnyH_take (i := 4) (v := ?_) rfl (by kernel_rfl) (by kernel_rfl) (by kernel_rfl) (fun _ _ _ h => only_panic h) (Or.inl ⟨by rfl, ?_⟩) hHeld ?_
    rotate_left
    · (intro w hSw; obtain ⟨l0, l1, l2, l3, l4, l5⟩ := LD.out w hSw; go_simp; try (with_reducible rfl))
    try simp only [gA, gB, gC, Act.put, gD, gE, gF]
    refine wpAnyH_take (i := 5) (v := ?_) rfl (by kernel_rfl) (by kernel_rfl) (by kernel_rfl) (fun _ _ _ h => only_panic h) (Or.inl ⟨by rfl, ?_⟩) hHeld ?_
    rotate_left
    · (intro w hSw; obtain ⟨l0, l1, l2, l3, l4, l5⟩ := LD.out w hSw; go_simp; try (with_reducible rfl))
    try simp only [gA, gB, gC, Act.put, gD, gE, gF]
    refine wpAnyH_take (i := 6) (v := ?_) rfl (by kernel_rfl) (by kernel_rfl) (by kernel_rfl) (fun _ _ _ h => only_panic h) (Or.inl ⟨by rfl, ?_⟩) hHeld ?_
    rotate_left
    · (intro w hSw; obtain ⟨l0, l1, l2, l3, l4, l5⟩ := LD.out w hSw; go_simp; try (with_reducible rfl))
    try simp only [gA, gB, gC, Act.put, gD, gE, gF]
    refine wpAnyH_take (i := 7) (v := ?_) rfl (by kernel_rfl) (by kernel_rfl) (by kernel_rfl) (fun _ _ _ h => only_panic h) (Or.inl ⟨by rfl, ?_⟩) hHeld ?_
    rotate_left
    · (intro w hSw; obtain ⟨l0, l1, l2, l3, l4, l5⟩ := LD.out w hSw; go_simp; try (with_reducible rfl))
    try simp only [gA, gB, gC, Act.put, gD, gE, gF]
    refine wpAnyH_take (i := 8) (v := ?_) rfl (by kernel_rfl) (by kernel_rfl) (by kernel_rfl) (fun _ _ _ h => only_panic h) (Or.inl ⟨by rfl, ?_⟩) hHeld ?_
    rotate_left
    · (intro w hSw; obtain ⟨l0, l1, l2, l3, l4, l5⟩ := LD.out w hSw; go_simp; try (with_reducible rfl))
    try simp only [gA, gB, gC, Act.put, gD, gE, gF]
    refine wpAnyH_take (i := 9) (v := ?_) rfl (by kernel_rfl) (by kernel_rfl) (by kernel_rfl) (fun _ _ _ h => only_panic h) (Or.inl ⟨by rfl, ?_⟩) hHeld ?_
    rotate_left
    · (intro w hSw; obtain ⟨l0, l1, l2, l3, l4, l5⟩ := LD.out w hSw; go_simp; try (with_reducible rfl))
    try simp only [gA, gB, gC, Act.put, gD, gE, gF]
    refine wpAnyH_take (i := 10) (v := ?_) rfl (by kernel_rfl) (by kernel_rfl) (by kernel_rfl) (fun _ _ _ h => only_panic h) (Or.inl ⟨by rfl, ?_⟩) hHeld ?_
    rotate_left
    · (intro w hSw; obtain ⟨l0, l1, l2, l3, l4, l5⟩ := LD.out w hSw; go_simp; try (with_reducible rfl))
    try simp only [gA, gB, gC, Act.put, gD, gE, gF]
    refine wpAnyH_take (i := 11) (v := ?_) rfl (by kernel_rfl) (by kernel_rfl) (by kernel_rfl) (fun _ _ _ h => only_panic h) (Or.inl ⟨by rfl, ?_⟩) hHeld ?_
    rotate_left
    · (intro w hSw; obtain ⟨l0, l1, l2, l3, l4, l5⟩ := LD.out w hSw; go_simp; try (with_reducible rfl))
    try simp only [gA, gB, gC, Act.put, gD, gE, gF]
    refine wpAnyH_take (i := 12) (v := ?_) rfl (by kernel_rfl) (by kernel_rfl) (by kernel_rfl) (fun _ _ _ h => only_panic h) (Or.inl ⟨by rfl, ?_⟩) hHeld ?_
    rotate_left
    · (intro w hSw; obtain ⟨l0, l1, l2, l3, l4, l5⟩ := LD.out w hSw; go_simp; try (with_reducible rfl))
    try simp only [gA, gB, gC, Act.put, gD, gE, gF]
    refine wpAnyH_take (i := 13) (v := ?_) rfl (by kernel_rfl) (by kernel_rfl) (by kernel_rfl) (fun _ _ _ h => only_panic h) (Or.inl ⟨by rfl, ?_⟩) hHeld ?_
    rotate_left
    · (intro w hSw; obtain ⟨l0, l1, l2, l3, l4, l5⟩ := LD.out w hSw; go_simp; try (with_reducible rfl))
    try simp only [gA, gB, gC, Act.put, gD, gE, gF]
    refine wpAnyH_take (i := 14) (v := ?_) rfl (by kernel_rfl) (by kernel_rfl) (by kernel_rfl) (fun _ _ _ h => only_panic h) (Or.inl ⟨by rfl, ?_⟩) hHeld ?_
    rotate_left
    · (intro w hSw; obtain ⟨l0, l1, l2, l3, l4, l5⟩ := LD.out w hSw; go_simp; try (with_reducible rfl))
    try simp only [gA, gB, gC, Act.put, gD, gE, gF]
    refine wpAnyH_take (i := 15) (v := ?_) rfl (by kernel_rfl) (by kernel_rfl) (by kernel_rfl) (fun _ _ _ h => only_panic h) (Or.inl ⟨by rfl, ?_⟩) hHeld ?_
    rotate_left
    · (intro w hSw; obtain ⟨l0, l1, l2, l3, l4, l5⟩ := LD.out w hSw; go_simp; try (with_reducible rfl))
    try simp only [gA, gB, gC, Act.put, gD, gE, gF]
    refine wpAnyH_one (i := 16) rfl (by kernel_rfl) (by rfl) ?_
    go_simp
    have HD := H.out.up (Below.refl w.heap.size w).drew
    refine (rrota_any' c.a c.r c.t n 0 HD.blk HD.rota HD.ids.2.1).mono ?_
    rintro e W1 ⟨v1, rfl, hr, hb⟩
    obtain ⟨ha, hcap, rfl, -⟩ := row_cellz hr
    have B1 : RowKit.Hid (Below w.heap.size w W1) := Lib.hid ((Below.refl w.heap.size w).drew.trans hb)
    have hHeld := UU.out _ B1.out
    clear hr hb HD
    refine ⟨hHeld, ?_⟩
    refine wpAnyH_take (i := 17) (v := ?_) rfl (by kernel_rfl) (by kernel_rfl) (by kernel_rfl) (fun _ _ _ h => only_panic h) (Or.inl ⟨by rfl, ?_⟩) hHeld ?_
    rotate_left
    · (intro w hSw; clear hSw; go_simp; try (with_reducible rfl))
    try simp only [gA, gB, gC, Act.put, gD, gE, gF]
    refine wpAnyH_take (i := 18) (v := ?_) rfl (by kernel_rfl) (by kernel_rfl) (by kernel_rfl) (fun _ _ _ h => only_panic h) (Or.inl ⟨by rfl, ?_⟩) hHeld ?_
    rotate_left
    · (intro w hSw; clear hSw; go_simp; try (with_reducible rfl))
    try simp only [gA, gB, gC, Act.put, gD, gE, gF]
    exact wpAnyH_done (by kernel_rfl) ⟨rfl, hR ha hcap _ B1.out⟩ _
  case rest =>
    rintro x y W hb
    have B1 := Lib.hid hb
    have XW := Lib.hid (H.out.up hb)
    obtain ⟨l0, l1, l2, l3, l4, l5⟩ := LD.out W (UU.out W hb)
    have hlen := congrArg List.length HF.out.1
    dsimp only at hlen
    rw [List.length_drop] at hlen
    by_cases hn : (rotOf s.rota c.a c.r).length ≤ n
    · have hnil : c.left = [] := List.eq_nil_of_length_eq_zero (by omega)
      have hd : dn c = 2 := by rw [dn_open HG.out, if_pos hnil]
      have hns : ((rotOf s.rota c.a c.r).length : Int) ≤ n := by omega
      obtain ⟨M5, T5⟩ := XW.out.store (m := j * 5 + 4) (v := i64 2) HLV.out (cells' := ccells G) (by
        rw [Nat.mul_comm j 5, List.set_set]
        refine (List.ext_getElem? fun i => ?_)
        by_cases e : 5 * j + 4 = i
        · subst e
          rw [List.getElem?_set_self (by rw [HXL.out]; omega), ccells_get G j 4 (c, n) HJ.out (by omega)]
          simp [ccell, hd]
        · rw [List.getElem?_set_ne e])
      have F : RowKit.Hid (RBM (W.setCell ⟨g, j * 5 + 4, none⟩ (i64 2)) B rb s rv lv G N ∧ Tn (fun k => lv.ownBlock = some k) w (W.setCell ⟨g, j * 5 + 4, none⟩ (i64 2))) := Lib.hid ⟨M5.m, (Tn.of_below hb).trans T5⟩
      have fd := World.ownsRow.frozenAt (HLV.out ▸ XW.out.row) (j * 5 + 4)
      clear hb hlen hnil hd M5 T5 LD UU hHeld
      (try simp only [hn, decide_true])
      simp only [Exit.then]
      apply_assumption
      go_wp2_with fail
      refine bodyPost_end (results_none rfl _ _ _) rfl ?_
      exact ⟨rfl, F.out⟩
    · have hnil : c.left ≠ [] := fun e => by rw [e] at hlen; simp at hlen; omega
      have hd : dn c = 0 := by rw [dn_open HG.out, if_neg hnil]
      have F : RowKit.Hid (RBM W B rb s rv lv G N ∧ Tn (fun k => lv.ownBlock = some k) w W) := Lib.hid ⟨by
        have e : (ccells G).set (5 * j + 4) (i64 0) = ccells G := List.ext_getElem? fun i => by
          by_cases e : 5 * j + 4 = i
          · subst e
            rw [List.getElem?_set_self (by rw [HXL.out]; omega), ccells_get G j 4 (c, n) HJ.out (by omega)]
            simp [ccell, hd]
          · rw [List.getElem?_set_ne e]
        have := XW.out
        rw [e] at this; exact this.m, Tn.of_below hb⟩
      clear hb hlen hnil hd LD UU hHeld l0 l1 l2 l3 l4 l5
      (try simp only [hn, decide_false])
      simp only [Exit.then]
      apply_assumption
      go_wp2_with fail
      refine bodyPost_end (results_none rfl _ _ _) rfl ?_
      exact ⟨rfl, F.out⟩
end Go.Proofs.YtdojgbpaheadnaaGreat

/- The place of a case in order, plainly. -/
namespace Go.Proofs.YtdojgbpaheadnaaGreat

/-- How many cases stand before it. -/
def posC (a r : Int) (L : List Cs) : Nat := (L.takeWhile (csLt a r)).length
theorem posC_le (a r : Int) (L : List Cs) : posC a r L ≤ L.length := by
  unfold posC
  exact (List.takeWhile_sublist _).length_le
theorem take_posC (a r : Int) : ∀ L : List Cs, L.take (posC a r L) = L.takeWhile (csLt a r) ∧ L.drop (posC a r L) = L.dropWhile (csLt a r)
  | [] => ⟨rfl, rfl⟩
  | x :: L => by
    obtain ⟨h1, h2⟩ := take_posC a r L
    unfold posC at h1 h2 ⊢
    by_cases h : csLt a r x = true
    · simp only [List.takeWhile_cons, List.dropWhile_cons, h, if_true, List.length_cons, List.take_succ_cons, List.drop_succ_cons, h1, h2, and_self]
    · have h' : csLt a r x = false := by simpa using h
      simp [List.takeWhile_cons, List.dropWhile_cons, h']
theorem insC_at (c : Cs) (L : List Cs) : insC c L = L.take (posC c.a c.r L) ++ c :: L.drop (posC c.a c.r L) := by
  rw [(take_posC c.a c.r L).1, (take_posC c.a c.r L).2]; rfl
theorem posC_step {a r : Int} : ∀ {L : List Cs} {k : Nat} {x : Cs}, k ≤ posC a r L → L[k]? = some x → (csLt a r x = true → k + 1 ≤ posC a r L) ∧ (csLt a r x = false → k = posC a r L)
  | [], k, x, _, h => by simp at h
  | y :: L, 0, x, _, h => by
    obtain rfl : y = x := by simpa using h
    unfold posC
    exact ⟨fun e => by simp [List.takeWhile_cons, e], fun e => by simp [List.takeWhile_cons, e]⟩
  | y :: L, k + 1, x, hk, h => by
    unfold posC at hk ⊢
    rw [List.takeWhile_cons] at hk ⊢
    by_cases hy : csLt a r y = true
    · rw [if_pos hy] at hk ⊢
      have ih := posC_step (a := a) (r := r) (L := L) (k := k) (x := x) (by unfold posC; simpa using hk) (by simpa using h)
      unfold posC at ih
      simp only [List.length_cons]
      exact ⟨fun e => by have := ih.1 e; omega, fun e => by have := ih.2 e; omega⟩
    · rw [if_neg hy] at hk; simp at hk
/-- The case at its place is it, or there is none. -/
theorem cs_at {a r : Int} : ∀ {L : List Cs}, SortedC L → cs L a r = match L[posC a r L]? with
      | some x => if x.a = a ∧ x.r = r then some x else none
      | none => none
  | [], _ => rfl
  | y :: L, h => by
    unfold SortedC at h
    rw [List.pairwise_cons] at h
    have ih := cs_at (a := a) (r := r) (L := L) h.2
    unfold posC at ih ⊢
    rw [List.takeWhile_cons]
    by_cases hy : csLt a r y = true
    · rw [if_pos hy, List.length_cons, List.getElem?_cons_succ, ← ih]
      unfold cs
      rw [List.find?_cons, show csHit a r y = false by rw [Bool.eq_false_iff]; intro e; rw [csHit_iff] at e; rw [csLt_iff] at hy; omega]
    · rw [if_neg hy, List.length_nil, List.getElem?_cons_zero]
      by_cases e : y.a = a ∧ y.r = r
      · dsimp only
        rw [if_pos e]
        unfold cs
        rw [List.find?_cons, csHit_iff.2 e]
      · dsimp only
        rw [if_neg e]
        refine cs_none.2 fun c hc e2 => ?_
        rcases List.mem_cons.1 hc with rfl | hc
        · exact e e2
        · have h1 := h.1 c hc
          unfold csBefore at h1
          have hy2 : ¬ (y.a < a ∨ y.a = a ∧ y.r < r) := fun e => hy (csLt_iff.2 e)
          omega
theorem setC_none {c : Cs} : ∀ {L : List Cs}, (∀ x ∈ L, ¬ (x.a = c.a ∧ x.r = c.r)) → setC c L = L
  | [], _ => rfl
  | x :: L, h => by
    have ih := setC_none (c := c) (L := L) fun d hd => h d (by simp [hd])
    unfold setC at ih ⊢
    rw [List.map_cons, ih, if_neg fun e => h x (by simp) (csHit_iff.1 e)]
theorem setC_at {c : Cs} : ∀ {L : List Cs} {j : Nat} {x : Cs}, SortedC L → L[j]? = some x → c.a = x.a ∧ c.r = x.r → setC c L = L.set j c
  | [], j, x, _, h, _ => by simp at h
  | y :: L, 0, x, hs, h, e => by
    obtain rfl : y = x := by simpa using h
    unfold SortedC at hs
    rw [List.pairwise_cons] at hs
    have := setC_none (c := c) (L := L) fun d hd => by have := hs.1 d hd; unfold csBefore at this; omega
    unfold setC at this ⊢
    rw [List.map_cons, this, if_pos (csHit_iff.2 ⟨e.1.symm, e.2.symm⟩)]; rfl
  | y :: L, j + 1, x, hs, h, e => by
    unfold SortedC at hs
    rw [List.pairwise_cons] at hs
    have hm : L[j]? = some x := by simpa using h
    have := setC_at (c := c) (L := L) (j := j) hs.2 hm e
    have hx := hs.1 x (List.mem_of_getElem? hm)
    unfold csBefore at hx
    unfold setC at this ⊢
    rw [List.map_cons, this, if_neg (by rw [csHit_iff]; omega)]; rfl
end Go.Proofs.YtdojgbpaheadnaaGreat
