/- The reference's asker in memory; find, State, send. -/
import Derived.Test.YtdojgbpaheadnaaGreatQRL
import Derived.Test.YtdojgbpaheadnaaGreatQAE
set_option linter.unusedVariables false
set_option linter.unusedSimpArgs false

namespace Go.Proofs.YtdojgbpaheadnaaGreat
open Go.RowKit Go.Shelf Go.Maps

def qcell (q : Rq) : List Value := [i64 q.n, i64 q.t, i64 q.st, i64 q.l]
def qcells (L : List Rq) : List Value := L.flatMap qcell
theorem qcells_len (L : List Rq) : (qcells L).length = L.length * 4 := by
  unfold qcells
  induction L with
  | nil => rfl
  | cons d L ih => rw [List.flatMap_cons, List.length_append, ih]; simp [qcell]; omega
theorem qcells_app (L M : List Rq) : qcells (L ++ M) = qcells L ++ qcells M := by unfold qcells; rw [List.flatMap_append]
theorem qcells_take : ∀ (L : List Rq) (k : Nat), (qcells L).take (k * 4) = qcells (L.take k)
  | [], k => by simp [qcells]
  | x :: L, 0 => by simp [qcells]
  | x :: L, k + 1 => by
    have ih := qcells_take L k
    unfold qcells at ih ⊢
    rw [List.take_succ_cons, List.flatMap_cons, List.flatMap_cons, ← ih, List.take_append, show (qcell x).length = 4 from rfl, List.take_of_length_le (by simp [qcell]; omega)]
    congr 2; omega
theorem qcells_drop : ∀ (L : List Rq) (k : Nat), (qcells L).drop (k * 4) = qcells (L.drop k)
  | [], k => by simp [qcells]
  | x :: L, 0 => by simp [qcells]
  | x :: L, k + 1 => by
    have ih := qcells_drop L k
    unfold qcells at ih ⊢
    rw [List.drop_succ_cons, List.flatMap_cons, ← ih, List.drop_append, show (qcell x).length = 4 from rfl, List.drop_of_length_le (by simp [qcell]; omega), List.nil_append]
    congr 1; omega
theorem qcells_get : ∀ (L : List Rq) (k j : Nat) (d : Rq), L[k]? = some d → j < 4 → (qcells L)[4 * k + j]? = (qcell d)[j]?
  | [], k, j, d, h, _ => by simp at h
  | x :: L, 0, j, d, h, hj => by
    obtain rfl : x = d := by simpa using h
    unfold qcells
    rw [List.flatMap_cons, List.getElem?_append_left (by simp [qcell]; omega)]
    simp
  | x :: L, k + 1, j, d, h, hj => by
    have ih := qcells_get L k j d (by simpa using h) hj
    unfold qcells at ih ⊢
    rw [List.flatMap_cons, List.getElem?_append_right (by simp [qcell]; omega), ← ih]
    congr 1
    simp [qcell]; omega
theorem qcells_one (L : List Rq) : ∀ u ∈ qcells L, u.oneCell' = true := by
  intro u hu
  unfold qcells at hu
  obtain ⟨d, _, hd⟩ := List.mem_flatMap.1 hu
  simp [qcell] at hd
  rcases hd with rfl | rfl | rfl | rfl <;> rfl
theorem infoQ : (Tryz.prog.info? 161).map (fun i => (i.zero, i.size, i.bytes)) = some (some (.agg #[i64 0, i64 0, i64 0, i64 0]), 4, 32) := by kernel_rfl
theorem info_partsQ : ∃ i, Tryz.prog.info? 161 = some i ∧ i.zero = some (.agg #[i64 0, i64 0, i64 0, i64 0]) ∧ i.size = 4 ∧ i.bytes = 32 := by
  obtain ⟨i, hi, h⟩ := Option.map_eq_some_iff.1 infoQ
  injection h with h1 h2
  injection h2 with h2 h3
  exact ⟨i, hi, h1, h2, h3⟩
/-- The reference's asker in memory. -/
structure RAM (w : World) (B rb : Nat) (s : Asr) (lv : Value) (N : Nat) : Prop where
  blk : Blk w rb #[i64 s.id, i64 s.cap, i64 s.sent, lv] 159
  reqs : w.ownsRow B 161 4 lv s.L.length (qcells s.L)
  ne : lv.ownBlock ≠ some rb
  lo : B ≤ rb
  sent : 0 ≤ s.sent ∧ s.sent ≤ 1000 * N
  ids : I64 s.id ∧ I64 s.cap ∧ ∀ q ∈ s.L, I64 q.n ∧ I64 q.t ∧ 1 ≤ q.st ∧ q.st ≤ 7 ∧ I64 q.l
  inOrder : SortedQ s.L
  len : s.L.length ≤ N ∧ N ≤ 10000
def OwnRA (rb : Nat) (lv : Value) (k : Nat) : Prop := k = rb ∨ lv.ownBlock = some k
section
variable {w : World} {B rb N : Nat} {s : Asr} {lv : Value}
theorem RAM.keep {w' : World} {F : Nat → Prop} (h : RAM w B rb s lv N) (t : Tn F w w') (hF : ∀ k, F k → OwnRA rb lv k → False) : RAM w' B rb s lv N :=
  ⟨t.blk h.blk fun hb => hF rb hb (.inl rfl), t.row h.reqs fun k hk hb => hF k hb (.inr hk), h.ne, h.lo, h.sent, h.ids, h.inOrder, h.len⟩
theorem RAM.up {w' : World} (h : RAM w B rb s lv N) (hb : Below w.heap.size w w') : RAM w' B rb s lv N := h.keep (F := fun _ => False) (Tn.of_below hb) fun _ h => h.elim
theorem RAM.mono {N' : Nat} (h : RAM w B rb s lv N) (hN : N ≤ N') (hN' : N' ≤ 10000) : RAM w B rb s lv N' :=
  ⟨h.blk, h.reqs, h.ne, h.lo, ⟨h.sent.1, by have := h.sent.2; omega⟩, h.ids, h.inOrder, ⟨by have := h.len.1; omega, hN'⟩⟩
theorem RAM.own_lt (h : RAM w B rb s lv N) {k : Nat} (hk : OwnRA rb lv k) : B ≤ k ∧ k < w.heap.size := by
  rcases hk with rfl | hk
  · exact ⟨h.lo, h.blk.lt⟩
  · exact row_lt h.reqs k hk
theorem RAM.req (h : RAM w B rb s lv N) {j g : Nat} {d : Rq} {n cap : Nat} (hj : s.L[j]? = some d) (hlv : lv = .slice (some ⟨g, 0, none⟩) n cap) :
    w.cell? ⟨g, j * 4, none⟩ = some (i64 d.n) ∧ w.cell? ⟨g, j * 4 + 1, none⟩ = some (i64 d.t) ∧ w.cell? ⟨g, j * 4 + 2, none⟩ = some (i64 d.st) ∧ w.cell? ⟨g, j * 4 + 3, none⟩ = some (i64 d.l) := by
  obtain ⟨a', c', e', _, _, _, ⟨h0, _, h1⟩ | ⟨g', h1, _, _, _, hc⟩⟩ := row_cellz h.reqs
  · subst h1; rw [hlv] at e'; cases e'
  · subst h1; rw [hlv] at e'; injection e' with e'; injection e' with e'; injection e' with e'; subst e'
    rw [Nat.mul_comm j 4]
    have := fun i hi => qcells_get s.L j i d hj hi
    exact ⟨hc _ _ (this 0 (by omega)), hc _ _ (this 1 (by omega)), hc _ _ (this 2 (by omega)), hc _ _ (this 3 (by omega))⟩
/-- A message has been sent. -/
theorem RAM.sent1 {w' : World} (h : RAM w B rb s lv N) (hs : s.sent < 1000 * N) (hb : Below w.heap.size (w.setCell ⟨rb, 2, none⟩ (i64 (s.sent + 1))) w') : RAM w' B rb { s with sent := s.sent + 1 } lv N ∧ Tn (fun k => k = rb) w w' := by
  have t1 : Tn (fun k => k = rb) w (w.setCell ⟨rb, 2, none⟩ (i64 (s.sent + 1))) := (Tn.refl (fun k => k = rb) w).setCell (p := ⟨rb, 2, none⟩) (.inl rfl) _
  have hz : (w.setCell ⟨rb, 2, none⟩ (i64 (s.sent + 1))).heap.size = w.heap.size := by simp
  have t : Tn (fun k => k = rb) w w' := t1.trans (Tn.of_below (by rw [hz]; exact hb))
  exact ⟨⟨(((h.blk.set 2 (i64 (s.sent + 1))).below hb h.blk.lt).cast rfl), t.row h.reqs fun k hk e => h.ne (by rw [← e]; exact hk), h.ne, h.lo, ⟨by have := h.sent.1; show 0 ≤ s.sent + 1; omega, by show s.sent + 1 ≤ _; omega⟩, h.ids, h.inOrder, h.len⟩, t⟩
end
theorem setQ_none {q : Rq} : ∀ {L : List Rq}, (∀ x ∈ L, x.n ≠ q.n) → setQ q L = L
  | [], _ => rfl
  | x :: L, h => by
    have ih := setQ_none (q := q) (L := L) fun d hd => h d (by simp [hd])
    unfold setQ at ih ⊢
    rw [List.map_cons, ih, if_neg (h x (by simp))]
theorem setQ_at {q' : Rq} : ∀ {L : List Rq} {j : Nat} {q : Rq}, SortedQ L → L[j]? = some q → q'.n = q.n → setQ q' L = L.set j q'
  | [], j, _, _, h, _ => by simp at h
  | x :: L, 0, q, hs, h, e => by
    obtain rfl : x = q := by simpa using h
    unfold SortedQ at hs
    rw [List.pairwise_cons] at hs
    have := setQ_none (q := q') (L := L) fun d hd => by have := hs.1 d hd; omega
    unfold setQ at this ⊢
    rw [List.map_cons, this, if_pos e.symm]; rfl
  | x :: L, j + 1, q, hs, h, e => by
    unfold SortedQ at hs
    rw [List.pairwise_cons] at hs
    have hm : L[j]? = some q := by simpa using h
    have := setQ_at (q' := q') (L := L) (j := j) hs.2 hm e
    have hx := hs.1 q (List.mem_of_getElem? hm)
    unfold setQ at this ⊢
    rw [List.map_cons, this, if_neg (by omega)]; rfl
theorem qcells_set {q q' : Rq} {i : Nat} {v : Value} (hi : i < 4) (hq : qcell q' = (qcell q).set i v) : ∀ (L : List Rq) (j : Nat), L[j]? = some q → qcells (L.set j q') = (qcells L).set (4 * j + i) v
  | [], j, h => by simp at h
  | x :: L, 0, h => by
    obtain rfl : x = q := by simpa using h
    unfold qcells
    rw [List.set_cons_zero, List.flatMap_cons, List.flatMap_cons, hq, List.set_append_left _ _ (by simp [qcell]; omega)]
    simp
  | x :: L, j + 1, h => by
    have ih := qcells_set hi hq L j (by simpa using h)
    unfold qcells at ih ⊢
    rw [List.set_cons_succ, List.flatMap_cons, ih, List.flatMap_cons, List.set_append_right _ _ (by simp [qcell]; omega)]
    congr 2
    simp [qcell]; omega
/-- A request changes. -/
theorem RAM.change {w : World} {B rb N : Nat} {s : Asr} {lv : Value} (h : RAM w B rb s lv N) {j g i : Nat} {q q' : Rq} {v : Value} {n cap : Nat} (hj : s.L[j]? = some q) (he : q'.n = q.n) (hlv : lv = .slice (some ⟨g, 0, none⟩) n cap) (hi : i < 4) (hq : qcell q' = (qcell q).set i v)
    (hid : I64 q'.n ∧ I64 q'.t ∧ 1 ≤ q'.st ∧ q'.st ≤ 7 ∧ I64 q'.l) :
    RAM (w.setCell ⟨g, j * 4 + i, none⟩ v) B rb { s with L := setQ q' s.L } lv N ∧ Tn (fun k => lv.ownBlock = some k) w (w.setCell ⟨g, j * 4 + i, none⟩ v) := by
  rw [Nat.mul_comm j 4]
  have hg : lv.ownBlock = some g := by rw [hlv]; rfl
  have t : Tn (fun k => lv.ownBlock = some k) w (w.setCell ⟨g, 4 * j + i, none⟩ v) := (Tn.refl (fun k => lv.ownBlock = some k) w).setCell (p := ⟨g, 4 * j + i, none⟩) (.inl hg) _
  have hs := setQ_at h.inOrder hj he
  have hd : (w.setCell ⟨g, 4 * j + i, none⟩ v).ownsRow B 161 4 lv s.L.length ((qcells s.L).set (4 * j + i) v) := by
    have h1 := h.reqs
    obtain ⟨a', c', e', _⟩ := row_cellz h1
    rw [hlv] at e' h1 ⊢
    injection e' with _ e2 e3
    subst e2
    exact (h1.stored _ _).1
  refine ⟨⟨t.blk h.blk h.ne, ?_, h.ne, h.lo, h.sent, ⟨h.ids.1, h.ids.2.1, fun y hy => ?_⟩, set_sortedQ h.inOrder, ⟨by show (setQ q' s.L).length ≤ N; rw [set_lenQ]; exact h.len.1, h.len.2⟩⟩, t⟩
  · show (w.setCell ⟨g, 4 * j + i, none⟩ v).ownsRow B 161 4 lv (setQ q' s.L).length (qcells (setQ q' s.L))
    rw [set_lenQ, hs, qcells_set hi hq s.L j hj]; exact hd
  · rcases set_memQ hy with rfl | hy
    · exact hid
    · exact h.ids.2.2 y hy
theorem rq_at {L : List Rq} (h : SortedQ L) {j : Nat} {q : Rq} (hj : L[j]? = some q) : rq L q.n = some q := rq_mem h (List.mem_of_getElem? hj)
/-- What find returns. -/
def RFind (L : List Rq) (n : Int) (e : Ending) : Prop := (e = .returned (i64 (-1)) ∧ rq L n = none) ∨ ∃ (j : Nat) (q : Rq), e = .returned (i64 j) ∧ L[j]? = some q ∧ rq L n = some q ∧ q.n = n
set_option maxRecDepth 100000 in
set_option maxHeartbeats 4000000 in
theorem rfind_any (B rb N : Nat) (s : Asr) (lv : Value) (n : Int) (w : World) (h : RAM w B rb s lv N) :
    Calls Tryz.prog 73 #[.pointer (some ⟨rb, 0, none⟩), i64 n] w fun e w' => w' = w ∧ RFind s.L n e := by
  obtain ⟨la, lcap, hlv, ld1, ld2, -, hlc⟩ := row_cellz h.reqs
  have hlcap : lcap ≤ 9223372036854775807 := by unfold maxLen at ld2; omega
  have H := Lib.hid h
  have HLV := Lib.hid hlv
  have HLC := Lib.hid hlc
  have hbl := h.blk.lt
  have c3 : w.cell? ⟨rb, 3, none⟩ = some (.slice la s.L.length lcap) := (h.blk.cell 3).trans (congrArg some hlv)
  clear h ld2 hlc hlv
  go_enter Tryz.func73, Tryz.ntmps73
  go_wp2_with fail
  go_loopw [5] (fun i wr => wr = w ∧ ∃ j : Nat, j ≤ s.L.length ∧ i = .int .i64 j ∧ ∀ p, p < j → ∀ q, s.L[p]? = some q → q.n ≠ n) (fun i _ => s.L.length - (intOf i).toNat)
  case atStart => exact ⟨rfl, 0, Nat.zero_le _, rfl, fun p hp => absurd hp (Nat.not_lt_zero _)⟩
  case round =>
    obtain ⟨hwr, j, hj, rfl, hno⟩ := hrel
    rw [hwr]
    clear hwr
    have NO := Lib.hid hno
    clear hno
    by_cases hlt : j < s.L.length
    · obtain ⟨g, rfl, -⟩ := HLC.out.resolve_left (fun h => by omega)
      obtain ⟨d, hd⟩ : ∃ d, s.L[j]? = some d := ⟨_, List.getElem?_eq_getElem hlt⟩
      obtain ⟨d0, -, -, -⟩ := H.out.req hd HLV.out
      have HD := Lib.hid hd
      clear hd
      by_cases h1 : d.n = n
      · have F : RowKit.Hid (RFind s.L n (.returned (i64 (j : Int)))) := Lib.hid (.inr ⟨j, d, rfl, HD.out, by rw [← h1]; exact rq_at H.out.inOrder HD.out, h1⟩)
        go_wp2_with fail
        go_ret
        exact ⟨by first | rfl | trivial, F.out⟩
      · have NO2 : RowKit.Hid (∀ p, p < j + 1 → ∀ q, s.L[p]? = some q → q.n ≠ n) := Lib.hid fun p hp q hq => by
          rcases (by omega : p < j ∨ p = j) with h | rfl
          · exact NO.out p h q hq
          · rw [HD.out] at hq; injection hq with hq; rw [← hq]; exact h1
        go_wp2_with fail
        exact ⟨⟨by first | rfl | trivial, j + 1, hlt, by go_num, NO2.out⟩, by simp [intOf]; omega⟩
    · have hk2 : j = s.L.length := by omega
      subst hk2
      have F : RowKit.Hid (RFind s.L n (.returned (i64 (-1)))) := Lib.hid (.inl ⟨rfl, rq_none.2 fun q hq => by
        obtain ⟨p, hp, rfl⟩ := List.getElem_of_mem hq
        exact NO.out p hp _ (List.getElem?_eq_getElem hp)⟩)
      go_wp2_with fail
      go_ret
      exact ⟨by first | rfl | trivial, F.out⟩
end Go.Proofs.YtdojgbpaheadnaaGreat

/- The reference's asker sends a message. -/
namespace Go.Proofs.YtdojgbpaheadnaaGreat
open Go.RowKit Go.Shelf Go.Maps

/-- The message that the reference's asker sends. -/
def rmsg (s : Asr) (to k : Int) (q : Rq) : Msg := mesg s.id s.sent to k s.id q.n (if k = 1 then q.t else 0)
set_option maxRecDepth 100000 in
set_option maxHeartbeats 4000000 in
theorem rasend_any (b : Nat) (s : Asr) (lv : Value) (to k : Int) (q : Rq) (w : World) (h : Blk w b #[i64 s.id, i64 s.cap, i64 s.sent, lv] 159) (hs : 0 ≤ s.sent ∧ s.sent < 1000000000) (hk : I64 k) (ha : I64 s.id) (hr : I64 q.n) (ht : I64 q.t) :
    Calls Tryz.prog 74 #[.pointer (some ⟨b, 0, none⟩), i64 to, i64 k, .agg #[i64 q.n, i64 q.t, i64 q.st, i64 q.l]] w fun e w' => e = .returned (.agg (encM (rmsg s to k q))) ∧ Below w.heap.size (w.setCell ⟨b, 2, none⟩ (i64 (s.sent + 1))) w' := by
  have hbl := h.lt
  have h0 := h.cell 0
  have h2 := h.cell 2
  have hf := h.frozen 2
  have HQ : RowKit.Hid (I64 k ∧ I64 s.id ∧ I64 q.n ∧ I64 q.t) := Lib.hid ⟨hk, ha, hr, ht⟩
  clear hk ha hr ht
  have hwr : IntKind.i64.wrap (s.sent + 1) = s.sent + 1 := by rw [IntKind.wrap_i64]; omega
  obtain ⟨w0, hw0⟩ : ∃ w0, w0 = w.setCell ⟨b, 2, none⟩ (i64 (s.sent + 1)) := ⟨_, rfl⟩
  have hz0 : w0.heap.size = w.heap.size := by rw [hw0]; simp
  obtain ⟨W1, hW1⟩ : ∃ W1, W1 = (w0.alloc (.cells #[i64 q.n, i64 q.t, i64 q.st, i64 q.l] 161)).alloc (.cells #[i64 0, i64 0, i64 0, .string { data := #[] }] 31) := ⟨_, rfl⟩
  have W0 := Lib.hid hw0
  have B0' : Below w0.heap.size w0 W1 := by rw [hW1]; exact ((Below.refl _ _).alloc (Nat.le_refl _) _).alloc (by simp) _
  have B0 : RowKit.Hid (Below w.heap.size w0 W1) := Lib.hid (by rw [← hz0]; exact B0')
  have a0 : W1.cell? ⟨b, 0, none⟩ = some (i64 s.id) := by
    refine Below.cellE B0' ?_; rw [hw0]; exact (World.cell?_setCell_other (h := fun e => by injection e with _ e _; cases e) ..).trans h0
  have a2 : W1.cell? ⟨b, 2, none⟩ = some (i64 (s.sent + 1)) := by
    refine Below.cellE B0' ?_; rw [hw0]; exact World.cell?_setCell_same (h := h2) ..
  have DB : RowKit.Hid (Blk W1 w.heap.size #[i64 q.n, i64 q.t, i64 q.st, i64 q.l] 161) := Lib.hid (by rw [hW1]; exact (Blk.at_new hz0.symm _ _).alloc _)
  have MB : RowKit.Hid (Blk W1 (w.heap.size + 1) #[i64 0, i64 0, i64 0, .string { data := #[] }] 31) := Lib.hid (by rw [hW1]; exact Blk.at_new (by rw [size_alloc, hz0]) _ _)
  have HZ1 : RowKit.Hid (W1.heap.size = w.heap.size + 2) := Lib.hid (by rw [hW1]; simp [hz0])
  obtain ⟨S, hS⟩ : ∃ S : World → Prop, S = fun W => Below W1.heap.size W1 W := ⟨_, rfl⟩
  have LD : RowKit.Hid (∀ W, S W → W.cell? ⟨b, 0, none⟩ = some (i64 s.id) ∧ W.cell? ⟨b, 2, none⟩ = some (i64 (s.sent + 1)) ∧ W.cell? ⟨w.heap.size, 0, none⟩ = some (i64 q.n) ∧ W.cell? ⟨w.heap.size, 1, none⟩ = some (i64 q.t)) := Lib.hid (by
    rw [hS]; intro W h; exact ⟨Below.cellE h a0, Below.cellE h a2, Below.cellE h (DB.out.cell 0), Below.cellE h (DB.out.cell 1)⟩)
  have SS : RowKit.Hid (∀ W, S W → Below W1.heap.size W1 W) := Lib.hid (by rw [hS]; exact fun W h => h)
  have UU : RowKit.Hid (∀ W, Below W1.heap.size W1 W → S W) := Lib.hid (by rw [hS]; exact fun W h => h)
  have hHeld := UU.out _ (Below.refl W1.heap.size W1).drew
  have d1 : W1.cell? ⟨w.heap.size, 1, none⟩ = some (i64 q.t) := DB.out.cell 1
  clear hS a0 a2 h0 B0' h
  go_enter Tryz.func74, Tryz.ntmps74
  by_cases hk1 : k = 1
  · subst hk1
    have HM : RowKit.Hid (Ending.returned (.agg (encM (mesg s.id s.sent to 1 s.id q.n q.t))) = .returned (.agg (encM (rmsg s to 1 q)))) := Lib.hid (by unfold rmsg; rw [if_pos rfl])
    have HV : RowKit.Hid (I64 q.t) := Lib.hid HQ.out.2.2.2
    go_wp2_with fail
    rw [← hw0, ← hW1]
    clear hW1 hw0 h2 hf hwr
    have TX : RowKit.Hid (∀ W, Below W1.heap.size W1 W → Calls Tryz.prog 13 #[i64 1, i64 s.id, i64 q.n, i64 q.t] W fun e w' => e = .returned (strV (txt 1 s.id q.n q.t)) ∧ Below W.heap.size W w') := Lib.hid fun W _ => text_any 1 s.id q.n q.t W HQ.out.1 HQ.out.2.1 HQ.out.2.2.1 HV.out
    go_wp2_with fail
    refine wp_region_sp 19 S (by kernel_rfl) (by kernel_rfl) ?_
    simp only [List.take_succ_cons, List.take_zero]
    apply wpAnyH_apart (fun W => Below W1.heap.size W1 W)
    case take =>
      intro R hR
      refine wpAnyH_take (i := 0) (v := ?_) rfl (by kernel_rfl) (by kernel_rfl) (by kernel_rfl) (fun _ _ _ h => only_panic h) (Or.inl ⟨by rfl, ?_⟩) hHeld ?_
      rotate_left
      · (intro w hSw; obtain ⟨l0, l2, l4, l5⟩ := LD.out w hSw; go_simp; try (with_reducible rfl))
      try simp only [gA, gB, gC, Act.put, gD, gE, gF]
      refine wpAnyH_take (i := 1) (v := ?_) rfl (by kernel_rfl) (by kernel_rfl) (by kernel_rfl) (fun _ _ _ h => only_panic h) (Or.inl ⟨by rfl, ?_⟩) hHeld ?_
      rotate_left
      · (intro w hSw; obtain ⟨l0, l2, l4, l5⟩ := LD.out w hSw; go_simp; try (with_reducible rfl))
      try simp only [gA, gB, gC, Act.put, gD, gE, gF]
      refine wpAnyH_take (i := 2) (v := ?_) rfl (by kernel_rfl) (by kernel_rfl) (by kernel_rfl) (fun _ _ _ h => only_panic h) (Or.inl ⟨by rfl, ?_⟩) hHeld ?_
      rotate_left
      · (intro w hSw; obtain ⟨l0, l2, l4, l5⟩ := LD.out w hSw; go_simp; try (with_reducible rfl))
      try simp only [gA, gB, gC, Act.put, gD, gE, gF]
      refine wpAnyH_take (i := 3) (v := ?_) rfl (by kernel_rfl) (by kernel_rfl) (by kernel_rfl) (fun _ _ _ h => only_panic h) (Or.inl ⟨by rfl, ?_⟩) hHeld ?_
      rotate_left
      · (intro w hSw; obtain ⟨l0, l2, l4, l5⟩ := LD.out w hSw; go_simp; try (with_reducible rfl))
      try simp only [gA, gB, gC, Act.put, gD, gE, gF]
      refine wpAnyH_take (i := 4) (v := ?_) rfl (by kernel_rfl) (by kernel_rfl) (by kernel_rfl) (fun _ _ _ h => only_panic h) (Or.inl ⟨by rfl, ?_⟩) hHeld ?_
      rotate_left
      · (intro w hSw; obtain ⟨l0, l2, l4, l5⟩ := LD.out w hSw; go_simp; try (with_reducible rfl))
      try simp only [gA, gB, gC, Act.put, gD, gE, gF]
      refine wpAnyH_take (i := 5) (v := ?_) rfl (by kernel_rfl) (by kernel_rfl) (by kernel_rfl) (fun _ _ _ h => only_panic h) (Or.inl ⟨by rfl, ?_⟩) hHeld ?_
      rotate_left
      · (intro w hSw; obtain ⟨l0, l2, l4, l5⟩ := LD.out w hSw; go_simp; try (with_reducible rfl))
      try simp only [gA, gB, gC, Act.put, gD, gE, gF]
      refine wpAnyH_take (i := 6) (v := ?_) rfl (by kernel_rfl) (by kernel_rfl) (by kernel_rfl) (fun _ _ _ h => only_panic h) (Or.inl ⟨by rfl, ?_⟩) hHeld ?_
      rotate_left
      · (intro w hSw; obtain ⟨l0, l2, l4, l5⟩ := LD.out w hSw; go_simp; try (with_reducible rfl))
      try simp only [gA, gB, gC, Act.put, gD, gE, gF]
      refine wpAnyH_take (i := 7) (v := ?_) rfl (by kernel_rfl) (by kernel_rfl) (by kernel_rfl) (fun _ _ _ h => only_panic h) (Or.inl ⟨by rfl, ?_⟩) hHeld ?_
      rotate_left
      · (intro w hSw; obtain ⟨l0, l2, l4, l5⟩ := LD.out w hSw; go_simp; try (with_reducible rfl))
      try simp only [gA, gB, gC, Act.put, gD, gE, gF]
      refine wpAnyH_take (i := 8) (v := ?_) rfl (by kernel_rfl) (by kernel_rfl) (by kernel_rfl) (fun _ _ _ h => only_panic h) (Or.inl ⟨by rfl, ?_⟩) hHeld ?_
      rotate_left
      · (intro w hSw; obtain ⟨l0, l2, l4, l5⟩ := LD.out w hSw; go_simp; try (with_reducible rfl))
      try simp only [gA, gB, gC, Act.put, gD, gE, gF]
      refine wpAnyH_take (i := 9) (v := ?_) rfl (by kernel_rfl) (by kernel_rfl) (by kernel_rfl) (fun _ _ _ h => only_panic h) (Or.inl ⟨by rfl, ?_⟩) hHeld ?_
      rotate_left
      · (intro w hSw; obtain ⟨l0, l2, l4, l5⟩ := LD.out w hSw; go_simp; try (with_reducible rfl))
      try simp only [gA, gB, gC, Act.put, gD, gE, gF]
      refine wpAnyH_take (i := 10) (v := ?_) rfl (by kernel_rfl) (by kernel_rfl) (by kernel_rfl) (fun _ _ _ h => only_panic h) (Or.inl ⟨by rfl, ?_⟩) hHeld ?_
      rotate_left
      · (intro w hSw; obtain ⟨l0, l2, l4, l5⟩ := LD.out w hSw; go_simp; try (with_reducible rfl))
      try simp only [gA, gB, gC, Act.put, gD, gE, gF]
      refine wpAnyH_take (i := 11) (v := ?_) rfl (by kernel_rfl) (by kernel_rfl) (by kernel_rfl) (fun _ _ _ h => only_panic h) (Or.inl ⟨by rfl, ?_⟩) hHeld ?_
      rotate_left
      · (intro w hSw; obtain ⟨l0, l2, l4, l5⟩ := LD.out w hSw; go_simp; try (with_reducible rfl))
      try simp only [gA, gB, gC, Act.put, gD, gE, gF]
      refine wpAnyH_take (i := 12) (v := ?_) rfl (by kernel_rfl) (by kernel_rfl) (by kernel_rfl) (fun _ _ _ h => only_panic h) (Or.inl ⟨by rfl, ?_⟩) hHeld ?_
      rotate_left
      · (intro w hSw; obtain ⟨l0, l2, l4, l5⟩ := LD.out w hSw; go_simp; try (with_reducible rfl))
      try simp only [gA, gB, gC, Act.put, gD, gE, gF]
      refine wpAnyH_take (i := 13) (v := ?_) rfl (by kernel_rfl) (by kernel_rfl) (by kernel_rfl) (fun _ _ _ h => only_panic h) (Or.inl ⟨by rfl, ?_⟩) hHeld ?_
      rotate_left
      · (intro w hSw; obtain ⟨l0, l2, l4, l5⟩ := LD.out w hSw; go_simp; try (with_reducible rfl))
      try simp only [gA, gB, gC, Act.put, gD, gE, gF]
      refine wpAnyH_take (i := 14) (v := ?_) rfl (by kernel_rfl) (by kernel_rfl) (by kernel_rfl) (fun _ _ _ h => only_panic h) (Or.inl ⟨by rfl, ?_⟩) hHeld ?_
      rotate_left
      · (intro w hSw; obtain ⟨l0, l2, l4, l5⟩ := LD.out w hSw; go_simp; try (with_reducible rfl))
      try simp only [gA, gB, gC, Act.put, gD, gE, gF]
      refine wpAnyH_take (i := 15) (v := ?_) rfl (by kernel_rfl) (by kernel_rfl) (by kernel_rfl) (fun _ _ _ h => only_panic h) (Or.inl ⟨by rfl, ?_⟩) hHeld ?_
      rotate_left
      · (intro w hSw; obtain ⟨l0, l2, l4, l5⟩ := LD.out w hSw; go_simp; try (with_reducible rfl))
      try simp only [gA, gB, gC, Act.put, gD, gE, gF]
      refine wpAnyH_take (i := 16) (v := ?_) rfl (by kernel_rfl) (by kernel_rfl) (by kernel_rfl) (fun _ _ _ h => only_panic h) (Or.inl ⟨by rfl, ?_⟩) hHeld ?_
      rotate_left
      · (intro w hSw; obtain ⟨l0, l2, l4, l5⟩ := LD.out w hSw; go_simp; try (with_reducible rfl))
      try simp only [gA, gB, gC, Act.put, gD, gE, gF]
      refine wpAnyH_one (i := 17) rfl (by kernel_rfl) (by rfl) ?_
      go_simp
      refine (TX.out _ (Below.refl W1.heap.size W1).drew).mono ?_
      rintro e W3 ⟨rfl, hb⟩
      have B3 := Lib.hid ((Below.refl W1.heap.size W1).drew.trans hb)
      have hHeld := UU.out _ B3.out
      clear hb
      refine ⟨hHeld, ?_⟩
      refine wpAnyH_take (i := 18) (v := ?_) rfl (by kernel_rfl) (by kernel_rfl) (by kernel_rfl) (fun _ _ _ h => only_panic h) (Or.inl ⟨by rfl, ?_⟩) hHeld ?_
      rotate_left
      · (intro w hSw; clear hSw; go_simp; try (with_reducible rfl))
      try simp only [gA, gB, gC, Act.put, gD, gE, gF]
      exact wpAnyH_done (by kernel_rfl) ⟨rfl, hR _ B3.out⟩ _
    case rest =>
      rintro W hB
      have V9 := Lib.hid (MB.out.below hB MB.out.lt)
      have FZ : RowKit.Hid (Below w.heap.size w0 (W.setRow (w.heap.size + 1) (encM (mesg s.id s.sent to 1 s.id q.n q.t)))) := Lib.hid
        (belowS ((B0.out.trans (hB.mono (by rw [HZ1.out]; omega)))) (by omega))
      clear hB LD UU SS hHeld TX
      simp only [endN, List.drop_succ_cons, List.drop_zero, Act.put, List.setIfInBounds_toArray, List.set_cons_zero, List.set_cons_succ]
      go_wp2_with (refine wpList_store_row rfl 31 (.tmp 8) (.tmp 39) rfl (w.heap.size + 1) (encM (mesg s.id s.sent to 1 s.id q.n q.t)) rfl rfl 31 _ V9.out (by kernel_rfl) rfl (by unfold encM strV; simp [Value.oneCell']) ?_)
      (try simp only [Exit.inBlock, Exit.then])
      refine bodyPost_ret (results_cell_row rfl _ _ (w.heap.size + 1) 31 (encM (mesg s.id s.sent to 1 s.id q.n q.t)) (0, 0) _ rfl (setRow_heap _ _ _ _ _ _ V9.out) Tryz.underlying31 rfl (by kernel_rfl)) rfl ⟨HM.out, ?_⟩
      rw [← W0.out]; exact FZ.out
  · have HM : RowKit.Hid (Ending.returned (.agg (encM (mesg s.id s.sent to k s.id q.n 0))) = .returned (.agg (encM (rmsg s to k q)))) := Lib.hid (by unfold rmsg; rw [if_neg hk1])
    have HV : RowKit.Hid (I64 0) := Lib.hid ⟨by omega, by omega⟩
    have e1 : (k == 1) = false := by simpa using hk1
    clear hk1
    go_wp2_with fail
    rw [← hw0, ← hW1]
    clear hW1 hw0 h2 hf hwr
    have TX : RowKit.Hid (∀ W, Below W1.heap.size W1 W → Calls Tryz.prog 13 #[i64 k, i64 s.id, i64 q.n, i64 0] W fun e w' => e = .returned (strV (txt k s.id q.n 0)) ∧ Below W.heap.size W w') := Lib.hid fun W _ => text_any k s.id q.n 0 W HQ.out.1 HQ.out.2.1 HQ.out.2.2.1 HV.out
    go_wp2_with fail
    refine wp_region_sp 19 S (by kernel_rfl) (by kernel_rfl) ?_
    simp only [List.take_succ_cons, List.take_zero]
    apply wpAnyH_apart (fun W => Below W1.heap.size W1 W)
    case take =>
      intro R hR
      refine wpAnyH_take (i := 0) (v := ?_) rfl (by kernel_rfl) (by kernel_rfl) (by kernel_rfl) (fun _ _ _ h => only_panic h) (Or.inl ⟨by rfl, ?_⟩) hHeld ?_
      rotate_left
      · (intro w hSw; obtain ⟨l0, l2, l4, l5⟩ := LD.out w hSw; go_simp; try (with_reducible rfl))
      try simp only [gA, gB, gC, Act.put, gD, gE, gF]
      refine wpAnyH_take (i := 1) (v := ?_) rfl (by kernel_rfl) (by kernel_rfl) (by kernel_rfl) (fun _ _ _ h => only_panic h) (Or.inl ⟨by rfl, ?_⟩) hHeld ?_
      rotate_left
      · (intro w hSw; obtain ⟨l0, l2, l4, l5⟩ := LD.out w hSw; go_simp; try (with_reducible rfl))
      try simp only [gA, gB, gC, Act.put, gD, gE, gF]
      refine wpAnyH_take (i := 2) (v := ?_) rfl (by kernel_rfl) (by kernel_rfl) (by kernel_rfl) (fun _ _ _ h => only_panic h) (Or.inl ⟨by rfl, ?_⟩) hHeld ?_
      rotate_left
      · (intro w hSw; obtain ⟨l0, l2, l4, l5⟩ := LD.out w hSw; go_simp; try (with_reducible rfl))
      try simp only [gA, gB, gC, Act.put, gD, gE, gF]
      refine wpAnyH_take (i := 3) (v := ?_) rfl (by kernel_rfl) (by kernel_rfl) (by kernel_rfl) (fun _ _ _ h => only_panic h) (Or.inl ⟨by rfl, ?_⟩) hHeld ?_
      rotate_left
      · (intro w hSw; obtain ⟨l0, l2, l4, l5⟩ := LD.out w hSw; go_simp; try (with_reducible rfl))
      try simp only [gA, gB, gC, Act.put, gD, gE, gF]
      refine wpAnyH_take (i := 4) (v := ?_) rfl (by kernel_rfl) (by kernel_rfl) (by kernel_rfl) (fun _ _ _ h => only_panic h) (Or.inl ⟨by rfl, ?_⟩) hHeld ?_
      rotate_left
      · (intro w hSw; obtain ⟨l0, l2, l4, l5⟩ := LD.out w hSw; go_simp; try (with_reducible rfl))
      try simp only [gA, gB, gC, Act.put, gD, gE, gF]
      refine wpAnyH_take (i := 5) (v := ?_) rfl (by kernel_rfl) (by kernel_rfl) (by kernel_rfl) (fun _ _ _ h => only_panic h) (Or.inl ⟨by rfl, ?_⟩) hHeld ?_
      rotate_left
      · (intro w hSw; obtain ⟨l0, l2, l4, l5⟩ := LD.out w hSw; go_simp; try (with_reducible rfl))
      try simp only [gA, gB, gC, Act.put, gD, gE, gF]
      refine wpAnyH_take (i := 6) (v := ?_) rfl (by kernel_rfl) (by kernel_rfl) (by kernel_rfl) (fun _ _ _ h => only_panic h) (Or.inl ⟨by rfl, ?_⟩) hHeld ?_
      rotate_left
      · (intro w hSw; obtain ⟨l0, l2, l4, l5⟩ := LD.out w hSw; go_simp; try (with_reducible rfl))
      try simp only [gA, gB, gC, Act.put, gD, gE, gF]
      refine wpAnyH_take (i := 7) (v := ?_) rfl (by kernel_rfl) (by kernel_rfl) (by kernel_rfl) (fun _ _ _ h => only_panic h) (Or.inl ⟨by rfl, ?_⟩) hHeld ?_
      rotate_left
      · (intro w hSw; obtain ⟨l0, l2, l4, l5⟩ := LD.out w hSw; go_simp; try (with_reducible rfl))
      try simp only [gA, gB, gC, Act.put, gD, gE, gF]
      refine wpAnyH_take (i := 8) (v := ?_) rfl (by kernel_rfl) (by kernel_rfl) (by kernel_rfl) (fun _ _ _ h => only_panic h) (Or.inl ⟨by rfl, ?_⟩) hHeld ?_
      rotate_left
      · (intro w hSw; obtain ⟨l0, l2, l4, l5⟩ := LD.out w hSw; go_simp; try (with_reducible rfl))
      try simp only [gA, gB, gC, Act.put, gD, gE, gF]
      refine wpAnyH_take (i := 9) (v := ?_) rfl (by kernel_rfl) (by kernel_rfl) (by kernel_rfl) (fun _ _ _ h => only_panic h) (Or.inl ⟨by rfl, ?_⟩) hHeld ?_
      rotate_left
      · (intro w hSw; obtain ⟨l0, l2, l4, l5⟩ := LD.out w hSw; go_simp; try (with_reducible rfl))
      try simp only [gA, gB, gC, Act.put, gD, gE, gF]
      refine wpAnyH_take (i := 10) (v := ?_) rfl (by kernel_rfl) (by kernel_rfl) (by kernel_rfl) (fun _ _ _ h => only_panic h) (Or.inl ⟨by rfl, ?_⟩) hHeld ?_
      rotate_left
      · (intro w hSw; obtain ⟨l0, l2, l4, l5⟩ := LD.out w hSw; go_simp; try (with_reducible rfl))
      try simp only [gA, gB, gC, Act.put, gD, gE, gF]
      refine wpAnyH_take (i := 11) (v := ?_) rfl (by kernel_rfl) (by kernel_rfl) (by kernel_rfl) (fun _ _ _ h => only_panic h) (Or.inl ⟨by rfl, ?_⟩) hHeld ?_
      rotate_left
      · (intro w hSw; obtain ⟨l0, l2, l4, l5⟩ := LD.out w hSw; go_simp; try (with_reducible rfl))
      try simp only [gA, gB, gC, Act.put, gD, gE, gF]
      refine wpAnyH_take (i := 12) (v := ?_) rfl (by kernel_rfl) (by kernel_rfl) (by kernel_rfl) (fun _ _ _ h => only_panic h) (Or.inl ⟨by rfl, ?_⟩) hHeld ?_
      rotate_left
      · (intro w hSw; obtain ⟨l0, l2, l4, l5⟩ := LD.out w hSw; go_simp; try (with_reducible rfl))
      try simp only [gA, gB, gC, Act.put, gD, gE, gF]
      refine wpAnyH_take (i := 13) (v := ?_) rfl (by kernel_rfl) (by kernel_rfl) (by kernel_rfl) (fun _ _ _ h => only_panic h) (Or.inl ⟨by rfl, ?_⟩) hHeld ?_
      rotate_left
      · (intro w hSw; obtain ⟨l0, l2, l4, l5⟩ := LD.out w hSw; go_simp; try (with_reducible rfl))
      try simp only [gA, gB, gC, Act.put, gD, gE, gF]
      refine wpAnyH_take (i := 14) (v := ?_) rfl (by kernel_rfl) (by kernel_rfl) (by kernel_rfl) (fun _ _ _ h => only_panic h) (Or.inl ⟨by rfl, ?_⟩) hHeld ?_
      rotate_left
      · (intro w hSw; obtain ⟨l0, l2, l4, l5⟩ := LD.out w hSw; go_simp; try (with_reducible rfl))
      try simp only [gA, gB, gC, Act.put, gD, gE, gF]
      refine wpAnyH_take (i := 15) (v := ?_) rfl (by kernel_rfl) (by kernel_rfl) (by kernel_rfl) (fun _ _ _ h => only_panic h) (Or.inl ⟨by rfl, ?_⟩) hHeld ?_
      rotate_left
      · (intro w hSw; obtain ⟨l0, l2, l4, l5⟩ := LD.out w hSw; go_simp; try (with_reducible rfl))
      try simp only [gA, gB, gC, Act.put, gD, gE, gF]
      refine wpAnyH_take (i := 16) (v := ?_) rfl (by kernel_rfl) (by kernel_rfl) (by kernel_rfl) (fun _ _ _ h => only_panic h) (Or.inl ⟨by rfl, ?_⟩) hHeld ?_
      rotate_left
      · (intro w hSw; obtain ⟨l0, l2, l4, l5⟩ := LD.out w hSw; go_simp; try (with_reducible rfl))
      try simp only [gA, gB, gC, Act.put, gD, gE, gF]
      refine wpAnyH_one (i := 17) rfl (by kernel_rfl) (by rfl) ?_
      go_simp
      refine (TX.out _ (Below.refl W1.heap.size W1).drew).mono ?_
      rintro e W3 ⟨rfl, hb⟩
      have B3 := Lib.hid ((Below.refl W1.heap.size W1).drew.trans hb)
      have hHeld := UU.out _ B3.out
      clear hb
      refine ⟨hHeld, ?_⟩
      refine wpAnyH_take (i := 18) (v := ?_) rfl (by kernel_rfl) (by kernel_rfl) (by kernel_rfl) (fun _ _ _ h => only_panic h) (Or.inl ⟨by rfl, ?_⟩) hHeld ?_
      rotate_left
      · (intro w hSw; clear hSw; go_simp; try (with_reducible rfl))
      try simp only [gA, gB, gC, Act.put, gD, gE, gF]
      exact wpAnyH_done (by kernel_rfl) ⟨rfl, hR _ B3.out⟩ _
    case rest =>
      rintro W hB
      have V9 := Lib.hid (MB.out.below hB MB.out.lt)
      have FZ : RowKit.Hid (Below w.heap.size w0 (W.setRow (w.heap.size + 1) (encM (mesg s.id s.sent to k s.id q.n 0)))) := Lib.hid
        (belowS ((B0.out.trans (hB.mono (by rw [HZ1.out]; omega)))) (by omega))
      clear hB LD UU SS hHeld TX
      simp only [endN, List.drop_succ_cons, List.drop_zero, Act.put, List.setIfInBounds_toArray, List.set_cons_zero, List.set_cons_succ]
      go_wp2_with (refine wpList_store_row rfl 31 (.tmp 8) (.tmp 39) rfl (w.heap.size + 1) (encM (mesg s.id s.sent to k s.id q.n 0)) rfl rfl 31 _ V9.out (by kernel_rfl) rfl (by unfold encM strV; simp [Value.oneCell']) ?_)
      (try simp only [Exit.inBlock, Exit.then])
      refine bodyPost_ret (results_cell_row rfl _ _ (w.heap.size + 1) 31 (encM (mesg s.id s.sent to k s.id q.n 0)) (0, 0) _ rfl (setRow_heap _ _ _ _ _ _ V9.out) Tryz.underlying31 rfl (by kernel_rfl)) rfl ⟨HM.out, ?_⟩
      rw [← W0.out]; exact FZ.out
/-- The reference's asker sends a message. -/
theorem rsendA {B rb N : Nat} {s : Asr} {lv : Value} {w : World} (h : RAM w B rb s lv N) (hs : s.sent < 1000 * N) (to k : Int) (q : Rq) (hk : I64 k) (hn : I64 q.n) (ht : I64 q.t) :
    Calls Tryz.prog 74 #[.pointer (some ⟨rb, 0, none⟩), i64 to, i64 k, .agg #[i64 q.n, i64 q.t, i64 q.st, i64 q.l]] w fun e w' => e = .returned (.agg (encM (rmsg s to k q))) ∧ RAM w' B rb { s with sent := s.sent + 1 } lv N ∧ Tn (fun k => k = rb) w w' := by
  refine (rasend_any rb s lv to k q w h.blk ⟨h.sent.1, by have := h.len.2; omega⟩ hk h.ids.1 hn ht).mono ?_
  rintro e w' ⟨rfl, hb⟩
  exact ⟨rfl, h.sent1 hs hb⟩
end Go.Proofs.YtdojgbpaheadnaaGreat
