/- A lender's answers by kinds of letters; what is here; a new lender. -/
import Derived.Test.YtdojgbpaheadnaaGreatQLE
import Derived.Test.YtdojgbpaheadnaaGreatQK
set_option linter.unusedVariables false
set_option linter.unusedSimpArgs false

namespace Go.Proofs.YtdojgbpaheadnaaGreat
open Go.RowKit Go.Shelf Go.Maps Go.ChangeMaps

theorem keyK : Keyed Tryz.prog 104 := Maps.int_keyed Tryz.underlying104
theorem wfI {x : Int} (h : I64 x) : (Lit.int .i64 x).wf = true := WalkArith.wf_i64 (by have := h.1; have := h.2; omega)
theorem keyOfK {x : Int} (h : I64 x) : keyOf Tryz.prog 104 (.int .i64 x) = some (.int .i64 x) := Maps.keyOf_int_mk Tryz.underlying104 (wfI h)
theorem zeroA (w : World) : (zeroValue 150).run Tryz.prog w = .ok (loanV 0 0) w := by kernel_rfl
def ansV (k : Int) : Value := match ans k with | some (p, q) => loanV (kd p) (kd q) | none => loanV 0 0
def AnsAt (w : World) (mb : Nat) : Prop := ∃ n f, MapF w Tryz.prog 104 RL mb n f ∧ ∀ k, I64 k → f (.int .i64 k) = (ans k).map fun x => loanD (kd x.1) (kd x.2)
theorem AnsAt.look {w : World} {mb : Nat} (h : AnsAt w mb) {k : Int} (hk : I64 k) :
  (Instr.lookup 152 (.map (some mb)) (.int .i64 k) true).run Tryz.prog w = .ok (.tuple #[ansV k, .bool (ans k).isSome]) w := by
 obtain ⟨n, f, hm, hf⟩ := h
 obtain ⟨v, ps, hr, hv⟩ := hm.look_ok keyK Tryz.underlying152 (zeroA w) (RL_mk 0 0) (keyOfK hk)
 rw [hf k hk] at hv hr
 rw [hr, Option.isSome_map]
 have : v = ansV k := by
  unfold ansV
  cases e : ans k with
  | none => rw [e] at hv; exact RL_inv hv
  | some x => obtain ⟨p, q⟩ := x; rw [e] at hv; exact RL_inv hv
 rw [this]
theorem AnsAt.up {w w' : World} {mb : Nat} (h : AnsAt w mb) (hb : Below w.heap.size w w') : AnsAt w' mb := by
 obtain ⟨n, f, hm, hf⟩ := h
 exact ⟨n, f, hm.keep (F := fun _ => False) (Tn.of_below hb) id, hf⟩
set_option maxRecDepth 100000 in
theorem answers_any (w : World) : Calls Tryz.prog 70 #[] w fun e w' => ∃ mb, e = .returned (.map (some mb)) ∧ AnsAt w' mb ∧ Below w.heap.size w w' := by
 have hmk := run_makeMap (P := Tryz.prog) 152
 have m0 := MapF.new w Tryz.prog 104 RL
 obtain ⟨mb, hmb⟩ : ∃ mb, mb = w.heap.size := ⟨_, rfl⟩
 obtain ⟨w0, hw0⟩ : ∃ w0, w0 = w.alloc (.map #[] 0) := ⟨_, rfl⟩
 rw [← hmb, ← hw0] at m0
 have i7 : I64 7 := ⟨by omega, by omega⟩
 have i9 : I64 9 := ⟨by omega, by omega⟩
 have i11 : I64 11 := ⟨by omega, by omega⟩
 obtain ⟨w1, r1, m1, g1⟩ := m0.put keyK Tryz.underlying152 (by decide) (keyOfK i7) (RL_mk 3 8)
 obtain ⟨w2, r2, m2, g2⟩ := m1.put keyK Tryz.underlying152 (by decide) (keyOfK i9) (RL_mk 8 10)
 obtain ⟨w3, r3, m3, g3⟩ := m2.put keyK Tryz.underlying152 (by decide) (keyOfK i11) (RL_mk 10 12)
 have A3 : Hid (AnsAt w3 mb) := Lib.hid ⟨_, _, m3, fun k hk => by
  have e : ∀ a b : Int, (Lit.int .i64 a = Lit.int .i64 b) ↔ a = b := fun a b => ⟨fun h => by injection h, fun h => by rw [h]⟩
  simp only [updL, e, ans]
  by_cases h7 : k = 7
  ·subst h7; rfl
  ·by_cases h9 : k = 9
   ·subst h9; rfl
   ·by_cases h11 : k = 11
    ·subst h11; rfl
    ·simp [h7, h9, h11]⟩
 have B3 : Hid (Below w.heap.size w w3) := Lib.hid (by
  have t : Tn (fun b => b = mb) w0 w3 := (((Tn.of_grown g1).trans (Tn.of_grown g2)).trans (Tn.of_grown g3)).mono fun b h => by injection h with h; exact h.symm
  have b0 : Below w.heap.size w w0 := by rw [hw0]; exact (Below.refl _ _).alloc (Nat.le_refl _) _
  exact b0.trans (t.below b0.size fun b h => by omega))
 have r1' : (Instr.mapUpdate 152 (.map (some mb)) (.int .i64 7) (.agg #[i64 3, i64 8])).run Tryz.prog w0 = .ok () w1 := r1
 have r2' : (Instr.mapUpdate 152 (.map (some mb)) (.int .i64 9) (.agg #[i64 8, i64 10])).run Tryz.prog w1 = .ok () w2 := r2
 have r3' : (Instr.mapUpdate 152 (.map (some mb)) (.int .i64 11) (.agg #[i64 10, i64 12])).run Tryz.prog w2 = .ok () w3 := r3
 have hmk' : (Instr.makeMap 152 none).run Tryz.prog w = .ok (.map (some mb)) w0 := by rw [hmk, hmb, hw0]
 clear hmk m0 hmb hw0 r1 r2 r3 m1 m2 m3 g1 g2 g3
 go_enter Tryz.func70, Tryz.ntmps70
 go_wp2_with fail
 go_ret
 exact ⟨mb, rfl, A3.out, B3.out⟩
theorem clone_any {w : World} {B : Nat} {v : Value} {H : List Int} (h : w.ownsRow B 3 1 v H.length (H.map (Value.int .i64))) (hl : H.length ≤ 100000) :
  Calls Tryz.prog 50 #[v] w fun e w' => ∃ v', e = .returned v' ∧ w'.ownsRow w.heap.size 3 1 v' H.length (H.map (Value.int .i64)) ∧ Below w.heap.size w w' := by
 rcases row_open h with ⟨rfl, h1, h2⟩ | ⟨g, cap, cur, rfl, h1, h2, h3, h4, h5, h6, h7⟩
 ·have h0 : H = [] := List.eq_nil_of_length_eq_zero h1
  subst h0
  refine (Tryz.slices_Clone_int_nil 0 0 w).mono ?_
  rintro e w' ⟨rfl, rfl⟩
  exact ⟨_, rfl, World.ownsRow_nil _ _ _ _, Below.refl _ _⟩
 ·refine (Tryz.slices_Clone_int g 0 H.length cap H w (Nat.le_refl _) (by omega) (cells_map h7)).mono ?_
  rintro e w' ⟨v', rfl, hr, _, hb⟩
  rw [List.take_length] at hr
  exact ⟨v', rfl, hr, hb⟩
end Go.Proofs.YtdojgbpaheadnaaGreat

/- Small lemmas on letters, messages and regions whose order is open. -/
namespace Go.Proofs.YtdojgbpaheadnaaGreat
open Go.RowKit Go.Shelf Go.Maps Go.ChangeMaps

theorem field_loan (t k : Int) (w : World) : (Instr.field 145 (.agg #[i64 t, i64 k]) 1).run Tryz.prog w = .ok (i64 k) w := by kernel_rfl
theorem kd_four {n : Nat} : kd n = 4 ↔ n = 1 := by
 unfold kd
 split <;> simp_all
theorem drewN_add (w : World) (m n : Nat) : (w.drewN m).drewN n = w.drewN (m + n) := by simp [World.drewN, Nat.add_assoc]
theorem kd_inv {n k : Nat} {v : Int} (h1 : 1 ≤ n) (h2 : n ≤ 5) (h : kd n = v) (hk : kd k = v ∧ 1 ≤ k ∧ k ≤ 5) : n = k := by
 obtain ⟨h3, h4, h5⟩ := hk
 rw [← h3] at h
 have e1 : n = 1 ∨ n = 2 ∨ n = 3 ∨ n = 4 ∨ n = 5 := by omega
 have e2 : k = 1 ∨ k = 2 ∨ k = 3 ∨ k = 4 ∨ k = 5 := by omega
 rcases e1 with rfl | rfl | rfl | rfl | rfl <;> rcases e2 with rfl | rfl | rfl | rfl | rfl <;> first | rfl | (exact absurd h (by decide))
theorem ans_ways {k : Int} {p q : Nat} (h : ans k = some (p, q)) : k = 7 ∧ p = 2 ∧ q = 3 ∨ k = 9 ∧ p = 3 ∧ q = 4 ∨ k = 11 ∧ p = 4 ∧ q = 5 := by
 unfold ans at h
 split at h
 ·simp at h; omega
 ·split at h
  ·simp at h; omega
  ·split at h
   ·simp at h; omega
   ·cases h
theorem take_other {s : Len} {m : Msg} {k a r v : Int} (hd : dec m.text = some (k, a, r, v)) (hto : m.to = s.id) (hw : ¬ (k = 2 ∧ m.frm = 0)) : s.take m =
  match at_ s.L a r with
   | none => (s, [])
   | some d =>
    match ans k with
    | none => (s, [])
    | some (p, q) =>
     if m.frm ≠ a ∨ d.st ≠ p ∧ d.st ≠ q then (s, [])
     else ({ s with here := if d.st = 4 ∧ q = 5 then ins d.t s.here else s.here, L := setSt s.L a r q } : Len).send a (kd q) a r := by
 unfold Len.take
 rw [hd]
 dsimp only
 rw [if_neg (by rw [hto]; simp), if_neg hw]
 cases at_ s.L a r with
 | none => rfl
 | some d => cases ans k <;> rfl
theorem wpAnyH_apart2 {P : Program} {md : Region.Mode} {ops : Array Oper} {Q : Exit → Act → World → Prop} {S : World → Prop} {fuel : Nat} {L : Array Bool} {a : Act} {w : World} {a1 : Nat → Nat → Act} (F : Nat → Nat → World → Prop)
  (take : ∀ R : Act → World → Prop, (∀ x g w', F x g w' → R (a1 x g) w') → wpAnyH P md ops (only R) S fuel L a w) (rest : ∀ x g w', F x g w' → Q .normal (a1 x g) w') : wpAnyH P md ops Q S fuel L a w :=
 wpAnyH_mono (fun _ _ _ h => nomatch h.1) (fun ⟨_, _, h⟩ => nomatch h.1) (fun _ _ h => h.2) fuel L a w (take (Q .normal) rest)
theorem wpAnyH_two {P : Program} {md : Region.Mode} {ops : Array Oper} {Q : Exit → Act → World → Prop} {S : World → Prop} {fuel : Nat} {L : Array Bool} {a : Act} {w : World} {i j : Nat} {o o' : Oper} (ho : ops[i]? = some o) (ho' : ops[j]? = some o') (hr : Region.ready md ops L = [i, j])
  (hw : Region.wanted o (yielded ops a.tmps) = true) (hw' : Region.wanted o' (yielded ops a.tmps) = true)
  (h : Oper.wp P o a w (fun a' w' => S w' ∧ wpAnyH P md ops Q S fuel (L.setIfInBounds i true) a' w') Q)
  (h' : Oper.wp P o' a w (fun a' w' => S w' ∧ wpAnyH P md ops Q S fuel (L.setIfInBounds j true) a' w') Q) : wpAnyH P md ops Q S (fuel + 1) L a w := by
 refine wpAnyH_all hr (by simp) fun x hx => ?_
 simp only [List.mem_cons, List.not_mem_nil, or_false] at hx
 rcases hx with rfl | rfl
 ·unfold wpOp; rw [ho]; dsimp only; rw [if_pos hw]; exact .inl h
 ·unfold wpOp; rw [ho']; dsimp only; rw [if_pos hw']; exact .inl h'
theorem belowS {B g : Nat} {w w' : World} {cs : Array Value} (h : Below B w w') (hg : B ≤ g) : Below B w (w'.setRow g cs) :=
 ⟨h.os, h.tape, h.output, by show _ ≤ (w'.heap.modify g _).size; rw [Array.size_modify]; exact h.size, fun k hk => by rw [setRow_other _ _ _ _ (by omega)]; exact h.block k hk⟩
structure Let (id : Int) (m : Msg) (lc : Array Value) (ok : Bool) : Prop where
 size : lc.size = 5
 one : lc.all (·.oneCell') = true
 yes : ok = true → ∃ q, dec m.text = some q ∧ m.to = id ∧ lc = #[i64 m.frm, i64 q.1, i64 q.2.1, i64 q.2.2.1, i64 q.2.2.2]
 no : ok = false → dec m.text = none ∨ m.to ≠ id
 zero : ok = false → lc = #[i64 0, i64 0, i64 0, i64 0, i64 0]
 opens : ∀ (b : Nat) (w : World), w.cell? ⟨b, 0, none⟩ = some (i64 id) → m.text.length ≤ 1000000 → Calls Tryz.prog 52 #[.pointer (some ⟨b, 0, none⟩), .agg (encM m)] w fun e w' => e = .returned (.tuple #[.agg lc, .bool ok]) ∧ Below w.heap.size w w'
theorem let_of (id : Int) (m : Msg) : ∃ lc ok, Let id m lc ok := by
 by_cases h : ∃ q, dec m.text = some q ∧ m.to = id
 ·obtain ⟨q, h1, h2⟩ := h
  refine ⟨_, true, rfl, by simp [Value.oneCell'], fun _ => ⟨q, h1, h2, rfl⟩, fun e => (by cases e), fun e => (by cases e), fun b w hb hs => (open_any b id m w hb hs).mono ?_⟩
  rintro e w' ⟨⟨q', h3, _, rfl⟩ | ⟨h3, rfl⟩, hb⟩
  ·rw [h1] at h3; injection h3 with h3; subst h3; exact ⟨rfl, hb⟩
  ·rcases h3 with h3 | h3
   ·rw [h1] at h3; cases h3
   ·exact absurd h2 h3
 ·have hn : dec m.text = none ∨ m.to ≠ id := by
   by_cases h1 : dec m.text = none
   ·exact .inl h1
   ·obtain ⟨q, hq⟩ := Option.ne_none_iff_exists'.1 h1
    exact .inr fun e => h ⟨q, hq, e⟩
  refine ⟨#[i64 0, i64 0, i64 0, i64 0, i64 0], false, rfl, by simp [Value.oneCell'], fun e => (by cases e), fun _ => hn, fun _ => rfl, fun b w hb hs => (open_any b id m w hb hs).mono ?_⟩
  rintro e w' ⟨⟨q', h3, h4, rfl⟩ | ⟨h3, rfl⟩, hb⟩
  ·exact absurd ⟨q', h3, h4⟩ h
  ·exact ⟨rfl, hb⟩
def MsgsAt (w : World) (B : Nat) (v : Value) : List Msg → Prop
 | [] => v = .slice none 0 0
 | [m] => ∃ g, B ≤ g ∧ v = .slice (some ⟨g, 0, none⟩) 1 1 ∧ Blk w g (encM m) 31
 | _ => False
end Go.Proofs.YtdojgbpaheadnaaGreat

/- What is here; a lender's tick; a new lender. -/
namespace Go.Proofs.YtdojgbpaheadnaaGreat
open Go.RowKit Go.Shelf Go.Maps Go.ChangeMaps

theorem here_any (B b e : Nat) (s : Len) (hv mv : Value) (w : World) (h : LMem w B b s hv mv e) (hl : s.here.length ≤ 100000) :
  Calls Tryz.prog 28 #[.pointer (some ⟨b, 0, none⟩)] w fun e w' => ∃ v', e = .returned v' ∧ w'.ownsRow w.heap.size 3 1 v' s.here.length (s.here.map (Value.int .i64)) ∧ Below w.heap.size w w' := by
 have H := Lib.hid h
 have c2 : w.cell? ⟨b, 2, none⟩ = some hv := h.blk.cell 2
 clear h
 go_enter Tryz.func28, Tryz.ntmps28
 go_wp2_with fail
 refine (clone_any H.out.row hl).mono ?_
 rintro e w' ⟨v', rfl, hr, hb⟩
 go_wp2_with fail
 go_ret
 exact ⟨v', rfl, hr, hb⟩
theorem tick_any (b : Nat) (w : World) : Calls Tryz.prog 27 #[.pointer (some ⟨b, 0, none⟩)] w fun e w' => e = .returned (.slice none 0 0) ∧ w' = w := by
 go_enter Tryz.func27, Tryz.ntmps27
 go_wp2_with fail
 go_ret
 exact ⟨rfl, rfl⟩
theorem sortedM (D : List Int) : (D.mergeSort fun x y => decide (x ≤ y)).Pairwise (· ≤ ·) := by
 have := List.pairwise_mergeSort (le := fun x y : Int => decide (x ≤ y)) (fun a b c h1 h2 => by simp at *; omega) (fun a b => by simp; omega) D
 simpa using this
theorem sort_row {w : World} {B : Nat} {v : Value} {D : List Int} (h : w.ownsRow B 3 1 v D.length (D.map (Value.int .i64))) (hl : D.length ≤ 100000) :
  Calls Tryz.prog 67 #[v] w fun e w' => e = .returned (.tuple #[]) ∧ w'.ownsRow B 3 1 v D.length ((D.mergeSort fun x y => decide (x ≤ y)).map (Value.int .i64)) ∧ Tn (fun b => v.ownBlock = some b) w w' := by
 have hsl : (D.mergeSort fun x y => decide (x ≤ y)).length = D.length := List.length_mergeSort _
 rcases row_open h with ⟨rfl, h1, h2⟩ | ⟨g, cap, cur, rfl, h1, h2, h3, h4, h5, h6, h7⟩
 ·have h0 : D = [] := List.eq_nil_of_length_eq_zero h1
  subst h0
  refine (Tryz.slices_Sort_int_none none 0 w).mono ?_
  rintro e w' ⟨rfl, rfl⟩
  exact ⟨rfl, by simpa using h, Tn.refl _ _⟩
 ·have hh : Go.Sort.Holds (Value.int .i64) w g 0 D.toArray := fun j hj => by
   have hj' : j < D.length := by simpa using hj
   refine ⟨?_, h2.frozen _⟩
   rw [cells_map h7 j hj', getElem!_pos _ j hj, getD_get _ _ hj']; simp
  refine (Tryz.slices_Sort_int g 0 cap D w hh h2.lt (by omega)).mono ?_
  rintro e w' ⟨rfl, n, os, rfl⟩
  have hs : (D.mergeSort fun x y => decide (x ≤ y)).toArray.size = D.toArray.size := by simp
  have hH : Go.Sort.Holds (Value.int .i64) (Go.Sort.grow (Go.Sort.putRow (Value.int .i64) (Go.Sort.ahead w n) g 0 (D.mergeSort fun x y => decide (x ≤ y)).toArray) os) g 0 (D.mergeSort fun x y => decide (x ≤ y)).toArray := Go.Sort.holds_grow _ _ _ _ _ _ (by rw [Go.Sort.size_putRow]; exact h2.lt) (Go.Sort.holds_putRow _ (Go.Sort.ahead w n) g 0 D.toArray _ hh hs)
  obtain ⟨cur', hb, hsz⟩ : ∃ cur', Blk (Go.Sort.grow (Go.Sort.putRow (Value.int .i64) (Go.Sort.ahead w n) g 0 (D.mergeSort fun x y => decide (x ≤ y)).toArray) os) g cur' 3 ∧ cur'.size = cur.size := by
   refine ⟨Go.Sort.putCells (Value.int .i64) 0 (D.mergeSort fun x y => decide (x ≤ y)).toArray cur, ?_, by simp [Go.Sort.putCells]⟩
   unfold Blk
   rw [Go.Sort.heap_grow_old _ _ (by rw [Go.Sort.size_putRow]; exact h2.lt)]
   show ((Go.Sort.ahead w n).heap.modify g _)[g]? = _
   rw [Array.getElem?_modify, if_pos rfl]
   have e : (Go.Sort.ahead w n).heap[g]? = some (.cells cur 3 (0, 0)) := h2
   rw [e]; rfl
  refine ⟨rfl, row_mk h1 hb h3 h4 (by omega) (by simp) fun j u hu => ?_, ((tn_ahead w n _).trans ((tn_putRow _ g _ _).mono fun b e => by rw [e]; rfl)).trans (tn_grow _ _ _)⟩
  have hj : j < (D.mergeSort fun x y => decide (x ≤ y)).length := by have := (List.getElem?_eq_some_iff.1 hu).1; simpa using this
  have := (hH j (by simpa using hj)).1
  rw [Nat.zero_add] at this
  rw [this, getElem!_pos _ j (by simpa using hj)]
  rw [List.getElem?_map, List.getElem?_eq_getElem hj] at hu
  rw [← hu]; simp
set_option maxRecDepth 100000 in
theorem new_any (id : Int) (hid : I64 id) (D : List Int) (hl : D.length ≤ 1000) (v : Value) (B : Nat) (w : World) (h : w.ownsRow B 3 1 v D.length (D.map (Value.int .i64))) :
  Calls Tryz.prog 48 #[i64 id, v] w fun e w' => ∃ b hv, e = .returned (.pointer (some ⟨b, 0, none⟩)) ∧ LMem w' w.heap.size b ⟨id, 0, D.mergeSort fun x y => decide (x ≤ y), []⟩ hv (.map none) 0 ∧ Below w.heap.size w w' := by
 have H := Lib.hid h
 clear h
 go_enter Tryz.func48, Tryz.ntmps48
 go_wp2_with fail
 refine (clone_any H.out (by omega)).mono ?_
 rintro e w1 ⟨v1, rfl, hr, hb⟩
 have R1 := Lib.hid hr
 have B1 := Lib.hid hb
 obtain ⟨a1, c1, rfl, -⟩ := row_cell hr
 clear hr hb
 go_wp2_with fail
 obtain ⟨bb, hbb⟩ : ∃ bb, bb = w1.heap.size := ⟨_, rfl⟩
 obtain ⟨w2, hw2⟩ : ∃ w2, w2 = w1.alloc (.cells #[i64 id, i64 0, .slice a1 D.length c1, .map none] 61) := ⟨_, rfl⟩
 have L2 : Hid (Blk w2 bb #[i64 id, i64 0, .slice a1 D.length c1, .map none] 61) := Lib.hid (by rw [hw2, hbb]; exact Blk.new _ _ _)
 have R2 : Hid (w2.ownsRow w.heap.size 3 1 (.slice a1 D.length c1) D.length (D.map (Value.int .i64))) := Lib.hid (by rw [hw2]; exact R1.out.alloc _)
 have B2 : Hid (Below w.heap.size w w2) := Lib.hid (by rw [hw2]; exact B1.out.alloc B1.out.size _)
 have HB : Hid (bb = w1.heap.size) := Lib.hid hbb
 rw [← hw2, ← hbb]
 clear hw2 hbb
 refine (sort_row R2.out (by omega)).mono ?_
 rintro e w3 ⟨rfl, hr, ht⟩
 have hne : (Value.slice a1 D.length c1).ownBlock ≠ some bb := fun e => by have := (row_lt R1.out bb e).2; have := HB.out; omega
 have hsl : (D.mergeSort fun x y => decide (x ≤ y)).length = D.length := List.length_mergeSort _
 have M : Hid (LMem w3 w.heap.size bb ⟨id, 0, D.mergeSort fun x y => decide (x ≤ y), []⟩ (.slice a1 D.length c1) (.map none) 0) := Lib.hid
  ⟨ht.blk L2.out hne, by dsimp only; rw [hsl]; exact hr, sortedM D, .inl ⟨rfl, rfl⟩, hne, by have := HB.out; have := B1.out.size; omega, by dsimp only; omega, by dsimp only; rw [hsl]; omega, hid, fun d hd => by simp at hd⟩
 have B3 : Hid (Below w.heap.size w w3) := Lib.hid (B2.out.trans (ht.below B2.out.size fun k hk => (row_lt R2.out k hk).1))
 clear hr ht hsl
 go_wp2_with fail
 go_ret
 exact ⟨bb, _, rfl, M.out, B3.out⟩
end Go.Proofs.YtdojgbpaheadnaaGreat
