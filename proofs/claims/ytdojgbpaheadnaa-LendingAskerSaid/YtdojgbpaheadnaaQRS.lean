/- Small functions of the reference and of the laws. -/
import Derived.Test.YtdojgbpaheadnaaQRN
import Derived.Test.YtdojgbpaheadnaaQAT
import Derived.Test.YtdojgbpaheadnaaQAL
set_option linter.unusedVariables false
set_option linter.unusedSimpArgs false

namespace Go.Proofs.Ytdojgbpaheadnaa
open Go.RowKit Go.Shelf Go.Maps

theorem tmod_mod (a b : Int) (h0 : 0 < b) : (a.tmod b + b).tmod b = a % b := by
  have := Int.lt_tmod_of_pos a h0
  rw [Int.tmod_eq_emod_of_nonneg (by omega)]
  rw [Int.add_emod_right, Int.tmod_eq_emod]
  split
  · simp
  · have hn : (b.natAbs : Int) = b := by omega
    rw [hn, Int.sub_emod]; simp
theorem mod_any (a b : Int) (w : World) (h0 : 0 < b) (h1 : b ≤ 1000000) :
    Calls Try.prog 9 #[.int .i64 a, .int .i64 b] w fun e w' => e = .returned (.int .i64 (a % b)) ∧ w = w' := by
  have hb : ¬ b = 0 := by omega
  have hw : IntKind.i64.wrap (a.tmod b + b) = a.tmod b + b := by
    have := Int.tmod_lt_of_pos a h0
    have := Int.lt_tmod_of_pos a h0
    rw [IntKind.wrap_i64]; omega
  have hq := tmod_mod a b h0
  have H := Lib.hid hw
  have Q := Lib.hid hq
  clear hq
  go_enter Try.func9, Try.ntmps9
  go_wp2_with fail
  go_ret
  exact ⟨ret_int Q.out, rfl⟩
theorem neq_msg (m : Msg) (W : World) : (binOp .neq 31 (.agg #[i64 m.frm, i64 m.to, i64 m.num, strV m.text]) (.agg #[i64 m.frm, i64 m.to, i64 m.num, strV m.text])).run Try.prog W = .ok (.bool false) W := by
  go_simp
/-- A list of messages that can be read. -/
def MSl (w : World) (v : Value) (l : List Msg) : Prop := ∃ a cap, v = .slice a l.length cap ∧ (l = [] ∨ ∃ b, a = some ⟨b, 0, none⟩ ∧ ∀ k m, l[k]? = some m → w.cell? ⟨b, k * 4, none⟩ = some (i64 m.frm) ∧ w.cell? ⟨b, k * 4 + 1, none⟩ = some (i64 m.to) ∧ w.cell? ⟨b, k * 4 + 2, none⟩ = some (i64 m.num) ∧ w.cell? ⟨b, k * 4 + 3, none⟩ = some (strV m.text))
theorem MSl.below {w w' : World} {v : Value} {l : List Msg} (h : MSl w v l) (hb : Below w.heap.size w w') : MSl w' v l := by
  obtain ⟨a, cap, e, h⟩ := h
  refine ⟨a, cap, e, h.imp id fun ⟨b, e, hc⟩ => ⟨b, e, fun k m hm => ?_⟩⟩
  obtain ⟨h0, h1, h2, h3⟩ := hc k m hm
  exact ⟨Below.cellE hb h0, Below.cellE hb h1, Below.cellE hb h2, Below.cellE hb h3⟩
theorem MSl.tn {w w' : World} {v : Value} {l : List Msg} {F : Nat → Prop} (h : MSl w v l) (t : Tn F w w') (hF : ∀ b n c, v = .slice (some ⟨b, 0, none⟩) n c → ¬ F b) : MSl w' v l := by
  obtain ⟨a, cap, rfl, h⟩ := h
  refine ⟨a, cap, rfl, h.imp id fun ⟨b, e, hc⟩ => ⟨b, e, fun k m hm => ?_⟩⟩
  subst e
  have hn := hF b _ _ rfl
  obtain ⟨h0, h1, h2, h3⟩ := hc k m hm
  exact ⟨t.cell h0 hn, t.cell h1 hn, t.cell h2 hn, t.cell h3 hn⟩
theorem MsgsAt.sl {w : World} {B : Nat} {v : Value} : ∀ {l : List Msg}, MsgsAt w B v l → MSl w v l
  | [], h => ⟨none, 0, h, .inl rfl⟩
  | [m], ⟨g, _, e, hb⟩ => ⟨_, 1, e, .inr ⟨g, rfl, fun k m' hm => by
      cases k with
      | zero => obtain rfl : m = m' := by simpa using hm
                exact ⟨hb.cell 0, hb.cell 1, hb.cell 2, hb.cell 3⟩
      | succ k => simp at hm⟩⟩
  | _ :: _ :: _, h => h.elim
theorem mcells_get : ∀ (l : List Msg) (k j : Nat) (m : Msg), l[k]? = some m → j < 4 → (mcells l)[k * 4 + j]? = (encM m)[j]?
  | [], k, j, m, h, _ => by simp at h
  | x :: l, 0, j, m, h, hj => by
    obtain rfl : x = m := by simpa using h
    unfold mcells
    rw [List.flatMap_cons, List.getElem?_append_left (by simp [encM]; omega)]
    simp
  | x :: l, k + 1, j, m, h, hj => by
    have ih := mcells_get l k j m (by simpa using h) hj
    unfold mcells at ih ⊢
    rw [List.flatMap_cons, List.getElem?_append_right (by simp [encM]; omega), ← ih]
    congr 1
    simp [encM]; omega
theorem MRow.sl {w : World} {B : Nat} {v : Value} {l : List Msg} (h : MRow w B v l) : MSl w v l := by
  obtain ⟨a, cap, e, _, _, hl, ⟨h0, _, _⟩ | ⟨g, h1, _, _, _, hc⟩⟩ := row_cellz h
  · exact ⟨a, cap, e, .inl (List.eq_nil_of_length_eq_zero h0)⟩
  · refine ⟨a, cap, e, .inr ⟨g, h1, fun k m hm => ?_⟩⟩
    have := fun j hj => mcells_get l k j m hm hj
    exact ⟨hc _ _ (this 0 (by omega)), hc _ _ (this 1 (by omega)), hc _ _ (this 2 (by omega)), hc _ _ (this 3 (by omega))⟩
set_option maxRecDepth 100000 in
set_option maxHeartbeats 4000000 in
/-- Two lists of the same messages are the same. -/
theorem msame_any (u v : Value) (l : List Msg) (w : World) (hu : MSl w u l) (hv : MSl w v l) (hl : l.length ≤ 1000000) :
    Calls Try.prog 11 #[u, v] w fun e w' => e = .returned (.bool true) ∧ Below w.heap.size w w' := by
  have HU := Lib.hid hu
  have HV := Lib.hid hv
  obtain ⟨a1, cap1, rfl, -⟩ := hu
  obtain ⟨a2, cap2, rfl, -⟩ := hv
  go_enter Try.func11, Try.ntmps11
  go_wp2_with fail
  go_loopw [5] (fun i wr => ∃ k : Nat, k ≤ l.length ∧ i = .int .i64 k ∧ Below w.heap.size w wr) (fun i _ => l.length - (intOf i).toNat)
  case atStart => exact ⟨0, by omega, rfl, Below.refl _ _⟩
  case round =>
    obtain ⟨k, hk, rfl, hb⟩ := hrel
    have HB := Lib.hid hb
    clear hb
    by_cases hlt : k < l.length
    · obtain ⟨b1, rfl, q0, q1, q2, q3⟩ : ∃ b1, a1 = some ⟨b1, 0, none⟩ ∧ wr.cell? ⟨b1, k * 4, none⟩ = some (i64 l[k].frm) ∧ wr.cell? ⟨b1, k * 4 + 1, none⟩ = some (i64 l[k].to) ∧ wr.cell? ⟨b1, k * 4 + 2, none⟩ = some (i64 l[k].num) ∧ wr.cell? ⟨b1, k * 4 + 3, none⟩ = some (strV l[k].text) := by
        obtain ⟨a, c, e, h⟩ := HU.out.below HB.out
        injection e with e1 e2 e3
        subst e1
        rcases h with h | ⟨b, h1, h2⟩
        · rw [h] at hlt; simp at hlt
        · exact ⟨b, h1, h2 k _ (List.getElem?_eq_getElem hlt)⟩
      obtain ⟨b2, rfl, r0, r1, r2, r3⟩ : ∃ b1, a2 = some ⟨b1, 0, none⟩ ∧ wr.cell? ⟨b1, k * 4, none⟩ = some (i64 l[k].frm) ∧ wr.cell? ⟨b1, k * 4 + 1, none⟩ = some (i64 l[k].to) ∧ wr.cell? ⟨b1, k * 4 + 2, none⟩ = some (i64 l[k].num) ∧ wr.cell? ⟨b1, k * 4 + 3, none⟩ = some (strV l[k].text) := by
        obtain ⟨a, c, e, h⟩ := HV.out.below HB.out
        injection e with e1 e2 e3
        subst e1
        rcases h with h | ⟨b, h1, h2⟩
        · rw [h] at hlt; simp at hlt
        · exact ⟨b, h1, h2 k _ (List.getElem?_eq_getElem hlt)⟩
      obtain ⟨⟨mf, mt, mn, mx⟩, hm⟩ : ∃ m, m = l[k] := ⟨_, rfl⟩
      rw [← hm] at q0 q1 q2 q3 r0 r1 r2 r3
      dsimp only at q0 q1 q2 q3 r0 r1 r2 r3
      clear hm
      go_wp2_with fail
      go_quiet (fail)
      go_wp2_with fail
      exact ⟨⟨k + 1, hlt, by go_num, bdrewN HB.out _⟩, by simp [intOf]; omega⟩
    · go_wp2_with fail
      go_ret
      exact ⟨rfl, HB.out⟩
set_option maxRecDepth 100000 in
set_option maxHeartbeats 4000000 in
/-- Two rows of the same numbers are the same. -/
theorem isame_any (u v : Value) (l : List Int) (w : World) {B : Nat} (hu : w.ownsRow B 3 1 u l.length (l.map (Value.int .i64))) {B' : Nat} (hv : w.ownsRow B' 3 1 v l.length (l.map (Value.int .i64))) (hl : l.length ≤ 1000000) :
    Calls Try.prog 14 #[u, v] w fun e w' => e = .returned (.bool true) ∧ Below w.heap.size w w' := by
  obtain ⟨a1, cap1, rfl, -, -, -, h1⟩ := row_cellz hu
  obtain ⟨a2, cap2, rfl, -, -, -, h2⟩ := row_cellz hv
  have H1 := Lib.hid h1
  have H2 := Lib.hid h2
  clear hu hv h1 h2
  go_enter Try.func14, Try.ntmps14
  go_wp2_with fail
  go_loopw [5] (fun i wr => ∃ k : Nat, k ≤ l.length ∧ i = .int .i64 k ∧ Below w.heap.size w wr) (fun i _ => l.length - (intOf i).toNat)
  case atStart => exact ⟨0, by omega, rfl, Below.refl _ _⟩
  case round =>
    obtain ⟨k, hk, rfl, hb⟩ := hrel
    have HB := Lib.hid hb
    clear hb
    by_cases hlt : k < l.length
    · obtain ⟨b1, rfl, -, -, -, q0⟩ := H1.out.resolve_left (fun h => by omega)
      obtain ⟨b2, rfl, -, -, -, r0⟩ := H2.out.resolve_left (fun h => by omega)
      have q1 : wr.cell? ⟨b1, k, none⟩ = some (i64 l[k]) := Below.cellE HB.out (q0 k _ (by simp [hlt]))
      have r1 : wr.cell? ⟨b2, k, none⟩ = some (i64 l[k]) := Below.cellE HB.out (r0 k _ (by simp [hlt]))
      obtain ⟨x, hx⟩ : ∃ x, x = l[k] := ⟨_, rfl⟩
      rw [← hx] at q1 r1
      clear hx q0 r0
      go_wp2_with fail
      go_quiet (fail)
      go_wp2_with fail
      exact ⟨⟨k + 1, hlt, by go_num, bdrewN HB.out _⟩, by simp [intOf]; omega⟩
    · go_wp2_with fail
      go_ret
      exact ⟨rfl, HB.out⟩
end Go.Proofs.Ytdojgbpaheadnaa
