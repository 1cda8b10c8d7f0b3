/- Small functions of the reference and of the laws. -/
import Derived.Test.YtdojgbpaheadnaaGreatQRNa
import Derived.Test.YtdojgbpaheadnaaGreatQAT
import Derived.Test.YtdojgbpaheadnaaGreatQAL
import Derived.Test.YtdojgbpaheadnaaGreatQRL
set_option linter.unusedVariables false
set_option linter.unusedSimpArgs false

namespace Go.Proofs.YtdojgbpaheadnaaGreat
open Go.RowKit Go.Shelf Go.Maps

theorem tmod_mod (a b : Int) (h0 : 0 < b) : (a.tmod b + b).tmod b = a % b := by
  have := Int.lt_tmod_of_pos a h0
  rw [Int.tmod_eq_emod_of_nonneg (by omega)]
  rw [Int.add_emod_right, Int.tmod_eq_emod]
  split
  · simp
  · have hn : (b.natAbs : Int) = b := by omega
    rw [hn, Int.sub_emod]; simp
theorem mod_any (a b : Int) (w : World) (h0 : 0 < b) (h1 : b ≤ 1000000) :
    Calls Tryz.prog 14 #[.int .i64 a, .int .i64 b] w fun e w' => e = .returned (.int .i64 (a % b)) ∧ w = w' := by
  have hb : ¬ b = 0 := by omega
  have hw : IntKind.i64.wrap (a.tmod b + b) = a.tmod b + b := by
    have := Int.tmod_lt_of_pos a h0
    have := Int.lt_tmod_of_pos a h0
    rw [IntKind.wrap_i64]; omega
  have hq := tmod_mod a b h0
  have H := Lib.hid hw
  have Q := Lib.hid hq
  clear hq
  go_enter Tryz.func14, Tryz.ntmps14
  go_wp2_with fail
  go_ret
  exact ⟨ret_int Q.out, rfl⟩
theorem neq_msg (m : Msg) (W : World) : (binOp .neq 31 (.agg #[i64 m.frm, i64 m.to, i64 m.num, strV m.text]) (.agg #[i64 m.frm, i64 m.to, i64 m.num, strV m.text])).run Tryz.prog W = .ok (.bool false) W := by
  go_simp
/-- A list of messages that can be read. -/
def MSl (w : World) (v : Value) (l : List Msg) : Prop := ∃ a cap, v = .slice a l.length cap ∧ (l = [] ∨ ∃ b, a = some ⟨b, 0, none⟩ ∧ ∀ k m, l[k]? = some m → w.cell? ⟨b, k * 4, none⟩ = some (i64 m.frm) ∧ w.cell? ⟨b, k * 4 + 1, none⟩ = some (i64 m.to) ∧ w.cell? ⟨b, k * 4 + 2, none⟩ = some (i64 m.num) ∧ w.cell? ⟨b, k * 4 + 3, none⟩ = some (strV m.text))
theorem MSl.below {w w' : World} {v : Value} {l : List Msg} (h : MSl w v l) (hb : Below w.heap.size w w') : MSl w' v l := by
  obtain ⟨a, cap, e, h⟩ := h
  refine ⟨a, cap, e, h.imp id fun ⟨b, e, hc⟩ => ⟨b, e, fun k m hm => ?_⟩⟩
  obtain ⟨h0, h1, h2, h3⟩ := hc k m hm
  exact ⟨Below.cellE hb h0, Below.cellE hb h1, Below.cellE hb h2, Below.cellE hb h3⟩
theorem MSl.tn {w w' : World} {v : Value} {l : List Msg} {F : Nat → Prop} (h : MSl w v l) (t : Tn F w w') (hF : ∀ b n c, v = .slice (some ⟨b, 0, none⟩) n c → ¬ F b) : MSl w' v l := by
  obtain ⟨a, cap, rfl, h⟩ := h
  refine ⟨a, cap, rfl, h.imp id fun ⟨b, e, hc⟩ => ⟨b, e, fun k m hm => ?_⟩⟩
  subst e
  have hn := hF b _ _ rfl
  obtain ⟨h0, h1, h2, h3⟩ := hc k m hm
  exact ⟨t.cell h0 hn, t.cell h1 hn, t.cell h2 hn, t.cell h3 hn⟩
theorem MsgsAt.sl {w : World} {B : Nat} {v : Value} : ∀ {l : List Msg}, MsgsAt w B v l → MSl w v l
  | [], h => ⟨none, 0, h, .inl rfl⟩
  | [m], ⟨g, _, e, hb⟩ => ⟨_, 1, e, .inr ⟨g, rfl, fun k m' hm => by
      cases k with
      | zero => obtain rfl : m = m' := by simpa using hm
                exact ⟨hb.cell 0, hb.cell 1, hb.cell 2, hb.cell 3⟩
      | succ k => simp at hm⟩⟩
  | _ :: _ :: _, h => h.elim
theorem mcells_get : ∀ (l : List Msg) (k j : Nat) (m : Msg), l[k]? = some m → j < 4 → (mcells l)[k * 4 + j]? = (encM m)[j]?
  | [], k, j, m, h, _ => by simp at h
  | x :: l, 0, j, m, h, hj => by
    obtain rfl : x = m := by simpa using h
    unfold mcells
    rw [List.flatMap_cons, List.getElem?_append_left (by simp [encM]; omega)]
    simp
  | x :: l, k + 1, j, m, h, hj => by
    have ih := mcells_get l k j m (by simpa using h) hj
    unfold mcells at ih ⊢
    rw [List.flatMap_cons, List.getElem?_append_right (by simp [encM]; omega), ← ih]
    congr 1
    simp [encM]; omega
theorem MRow.sl {w : World} {B : Nat} {v : Value} {l : List Msg} (h : MRow w B v l) : MSl w v l := by
  obtain ⟨a, cap, e, _, _, hl, ⟨h0, _, _⟩ | ⟨g, h1, _, _, _, hc⟩⟩ := row_cellz h
  · exact ⟨a, cap, e, .inl (List.eq_nil_of_length_eq_zero h0)⟩
  · refine ⟨a, cap, e, .inr ⟨g, h1, fun k m hm => ?_⟩⟩
    have := fun j hj => mcells_get l k j m hm hj
    exact ⟨hc _ _ (this 0 (by omega)), hc _ _ (this 1 (by omega)), hc _ _ (this 2 (by omega)), hc _ _ (this 3 (by omega))⟩
set_option maxRecDepth 100000 in
set_option maxHeartbeats 4000000 in
/-- Two lists of the same messages are the same. -/
theorem msame_any (u v : Value) (l : List Msg) (w : World) (hu : MSl w u l) (hv : MSl w v l) (hl : l.length ≤ 1000000) :
    Calls Tryz.prog 15 #[u, v] w fun e w' => e = .returned (.bool true) ∧ Below w.heap.size w w' := by
  have HU := Lib.hid hu
  have HV := Lib.hid hv
  obtain ⟨a1, cap1, rfl, -⟩ := hu
  obtain ⟨a2, cap2, rfl, -⟩ := hv
  go_enter Tryz.func15, Tryz.ntmps15
  go_wp2_with fail
  go_loopw [5] (fun i wr => ∃ k : Nat, k ≤ l.length ∧ i = .int .i64 k ∧ Below w.heap.size w wr) (fun i _ => l.length - (intOf i).toNat)
  case atStart => exact ⟨0, by omega, rfl, Below.refl _ _⟩
  case round =>
    obtain ⟨k, hk, rfl, hb⟩ := hrel
    have HB := Lib.hid hb
    clear hb
    by_cases hlt : k < l.length
    · obtain ⟨b1, rfl, q0, q1, q2, q3⟩ : ∃ b1, a1 = some ⟨b1, 0, none⟩ ∧ wr.cell? ⟨b1, k * 4, none⟩ = some (i64 l[k].frm) ∧ wr.cell? ⟨b1, k * 4 + 1, none⟩ = some (i64 l[k].to) ∧ wr.cell? ⟨b1, k * 4 + 2, none⟩ = some (i64 l[k].num) ∧ wr.cell? ⟨b1, k * 4 + 3, none⟩ = some (strV l[k].text) := by
        obtain ⟨a, c, e, h⟩ := HU.out.below HB.out
        injection e with e1 e2 e3
        subst e1
        rcases h with h | ⟨b, h1, h2⟩
        · rw [h] at hlt; simp at hlt
        · exact ⟨b, h1, h2 k _ (List.getElem?_eq_getElem hlt)⟩
      obtain ⟨b2, rfl, r0, r1, r2, r3⟩ : ∃ b1, a2 = some ⟨b1, 0, none⟩ ∧ wr.cell? ⟨b1, k * 4, none⟩ = some (i64 l[k].frm) ∧ wr.cell? ⟨b1, k * 4 + 1, none⟩ = some (i64 l[k].to) ∧ wr.cell? ⟨b1, k * 4 + 2, none⟩ = some (i64 l[k].num) ∧ wr.cell? ⟨b1, k * 4 + 3, none⟩ = some (strV l[k].text) := by
        obtain ⟨a, c, e, h⟩ := HV.out.below HB.out
        injection e with e1 e2 e3
        subst e1
        rcases h with h | ⟨b, h1, h2⟩
        · rw [h] at hlt; simp at hlt
        · exact ⟨b, h1, h2 k _ (List.getElem?_eq_getElem hlt)⟩
      obtain ⟨⟨mf, mt, mn, mx⟩, hm⟩ : ∃ m, m = l[k] := ⟨_, rfl⟩
      rw [← hm] at q0 q1 q2 q3 r0 r1 r2 r3
      dsimp only at q0 q1 q2 q3 r0 r1 r2 r3
      clear hm
      go_wp2_with fail
      go_quiet (fail)
      go_wp2_with fail
      exact ⟨⟨k + 1, hlt, by go_num, bdrewN HB.out _⟩, by simp [intOf]; omega⟩
    · go_wp2_with fail
      go_ret
      exact ⟨rfl, HB.out⟩
set_option maxRecDepth 100000 in
set_option maxHeartbeats 4000000 in
/-- Two rows of the same numbers are the same. -/
theorem isame_any (u v : Value) (l : List Int) (w : World) {B : Nat} (hu : w.ownsRow B 3 1 u l.length (l.map (Value.int .i64))) {B' : Nat} (hv : w.ownsRow B' 3 1 v l.length (l.map (Value.int .i64))) (hl : l.length ≤ 1000000) :
    Calls Tryz.prog 40 #[u, v] w fun e w' => e = .returned (.bool true) ∧ Below w.heap.size w w' := by
  obtain ⟨a1, cap1, rfl, -, -, -, h1⟩ := row_cellz hu
  obtain ⟨a2, cap2, rfl, -, -, -, h2⟩ := row_cellz hv
  have H1 := Lib.hid h1
  have H2 := Lib.hid h2
  clear hu hv h1 h2
  go_enter Tryz.func40, Tryz.ntmps40
  go_wp2_with fail
  go_loopw [5] (fun i wr => ∃ k : Nat, k ≤ l.length ∧ i = .int .i64 k ∧ Below w.heap.size w wr) (fun i _ => l.length - (intOf i).toNat)
  case atStart => exact ⟨0, by omega, rfl, Below.refl _ _⟩
  case round =>
    obtain ⟨k, hk, rfl, hb⟩ := hrel
    have HB := Lib.hid hb
    clear hb
    by_cases hlt : k < l.length
    · obtain ⟨b1, rfl, -, -, -, q0⟩ := H1.out.resolve_left (fun h => by omega)
      obtain ⟨b2, rfl, -, -, -, r0⟩ := H2.out.resolve_left (fun h => by omega)
      have q1 : wr.cell? ⟨b1, k, none⟩ = some (i64 l[k]) := Below.cellE HB.out (q0 k _ (by simp [hlt]))
      have r1 : wr.cell? ⟨b2, k, none⟩ = some (i64 l[k]) := Below.cellE HB.out (r0 k _ (by simp [hlt]))
      obtain ⟨x, hx⟩ : ∃ x, x = l[k] := ⟨_, rfl⟩
      rw [← hx] at q1 r1
      clear hx q0 r0
      go_wp2_with fail
      go_quiet (fail)
      go_wp2_with fail
      exact ⟨⟨k + 1, hlt, by go_num, bdrewN HB.out _⟩, by simp [intOf]; omega⟩
    · go_wp2_with fail
      go_ret
      exact ⟨rfl, HB.out⟩
end Go.Proofs.YtdojgbpaheadnaaGreat

/- A message of an act; the reference's lender, new, and what is here. -/
namespace Go.Proofs.YtdojgbpaheadnaaGreat
open Go.RowKit Go.Shelf Go.Maps

theorem ints_short (L : List Int) (hl : L.length ≤ 10) (hin : ∀ n ∈ L, -9223372036854775808 ≤ n ∧ n ≤ 9223372036854775807) : (ints L).length ≤ 10 + 10 * L.length := by
  unfold ints
  have h1 := grp_ten (n := L.length) (by omega)
  have h2 := body_len L hin
  rw [List.length_append, num_len]
  omega
theorem txt_short {k a r v : Int} (h : Q4.ok (k, a, r, v)) : (txt k a r v).length ≤ 50 := ints_short [k, a, r, v] (by simp) (q4_all.2 h)
def MessE (w : World) (e : Ending) (w' : World) : Prop := ∃ m : Msg, e = .returned (.agg (encM m)) ∧ m.text.length ≤ 100 ∧ (0 ≤ m.frm ∧ m.frm < 5) ∧ Below w.heap.size w w'
theorem intsAt3 (w : World) (k a r : Int) (T : TypeId) : IntsAt (w.alloc (.cells #[i64 k, i64 a, i64 r] T)) (some ⟨w.heap.size, 0, none⟩) [k, a, r] := by
  have h := Blk.new w #[i64 k, i64 a, i64 r] T
  refine .inr ⟨w.heap.size, 0, rfl, by rw [size_alloc]; omega, fun j hj => ?_⟩
  have hj' : j < 3 := hj
  rw [Nat.zero_add]
  rcases (by omega : j = 0 ∨ j = 1 ∨ j = 2) with rfl | rfl | rfl
  · exact h.cell 0
  · exact h.cell 1
  · exact h.cell 2
attribute [local go_sem] over_cell over_frozen
set_option maxRecDepth 100000 in
set_option maxHeartbeats 4000000 in
theorem message_any (c0 c1 c2 c3 c4 c5 id : Int) (w : World) (hid : 0 ≤ id ∧ id ≤ 100) :
    Calls Tryz.prog 12 #[.agg #[i64 c0, i64 c1, i64 c2, i64 c3, i64 c4, i64 c5], i64 id] w (MessE w) := by
  have i64s : ∀ x : Int, 0 ≤ x → x ≤ 100 → I64 x := fun x h1 h2 => ⟨by omega, by omega⟩
  obtain ⟨K, hK⟩ : ∃ K, K = c0 % 14 := ⟨_, rfl⟩
  obtain ⟨F, hF⟩ : ∃ F, F = c1 % 5 := ⟨_, rfl⟩
  obtain ⟨A, hA⟩ : ∃ A, A = 1 + c3 % 3 := ⟨_, rfl⟩
  have HK : RowKit.Hid (I64 K) := Lib.hid (i64s _ (by omega) (by omega))
  have HF : RowKit.Hid (0 ≤ F ∧ F < 5) := Lib.hid ⟨by omega, by omega⟩
  have HA : RowKit.Hid (I64 A) := Lib.hid (i64s _ (by omega) (by omega))
  have HR : RowKit.Hid (I64 (1 + c4 % 4)) := Lib.hid (i64s _ (by omega) (by omega))
  have HV : RowKit.Hid (I64 (c5 % 6)) := Lib.hid (i64s _ (by omega) (by omega))
  have I3 : RowKit.Hid (∀ n ∈ [K, A, 1], -9223372036854775808 ≤ n ∧ n ≤ 9223372036854775807) := Lib.hid (fun n hn => by
    simp at hn
    rcases hn with rfl | rfl | rfl
    · exact HK.out
    · exact HA.out
    · exact ⟨by omega, by omega⟩)
  go_enter Tryz.func12, Tryz.ntmps12
  by_cases h13 : (c2.tmod 13 == 12) = true
  · go_wp2_with (go_at_call 14; refine (mod_any _ _ _ (by omega) (by omega)).mono ?_; rintro e w1 ⟨rfl, rfl⟩)
    rw [← hK, ← hF, ← hA]
    clear hK hF hA
    have KO := Lib.hid (And.intro HK.out (And.intro HA.out (And.intro HR.out HV.out)))
    obtain ⟨W1, hW1⟩ : ∃ W1, W1 = (w.alloc (.cells #[i64 c0, i64 c1, i64 c2, i64 c3, i64 c4, i64 c5] 33)).alloc (.cells #[.int .i64 0, .int .i64 0, .int .i64 0, .string { data := #[] }] 31) := ⟨_, rfl⟩
    have VA : RowKit.Hid (Blk W1 w.heap.size #[i64 c0, i64 c1, i64 c2, i64 c3, i64 c4, i64 c5] 33) := Lib.hid (by rw [hW1]; exact (Blk.new _ _ _).alloc _)
    have VM : RowKit.Hid (Blk W1 (w.heap.size + 1) #[.int .i64 0, .int .i64 0, .int .i64 0, .string { data := #[] }] 31) := Lib.hid (by rw [hW1]; exact Blk.at_new (by rw [size_alloc]) _ _)
    have BW : RowKit.Hid (Below w.heap.size w W1) := Lib.hid (by rw [hW1]; exact ((Below.refl _ _).alloc (Nat.le_refl _) _).alloc (by rw [size_alloc]; omega) _)
    have HMB : RowKit.Hid (W1.heap.size = w.heap.size + 2) := Lib.hid (by rw [hW1]; simp)
    have x4 : W1.cell? ⟨w.heap.size, 4, none⟩ = some (i64 c4) := VA.out.cell 4
    have x5 : W1.cell? ⟨w.heap.size, 5, none⟩ = some (i64 c5) := VA.out.cell 5
    rw [← hW1]
    clear hW1
    have HTX : RowKit.Hid (∀ y, Calls Tryz.prog 13 #[i64 K, i64 A, i64 (1 + c4 % 4), i64 (c5 % 6)] (over W1 y) fun e w' => e = .returned (strV (txt K A (1 + c4 % 4) (c5 % 6))) ∧ Below (over W1 y).heap.size (over W1 y) w') := Lib.hid fun y => text_any _ _ _ _ _ KO.out.1 KO.out.2.1 KO.out.2.2.1 KO.out.2.2.2
    refine wp_region_over (by kernel_rfl) (by kernel_rfl) ?_
    repeat (first | go_big_quiet_step (first | (go_at_call 14; with_reducible exact inSame (mod_any _ _ _ (by omega) (by omega))) | (go_at_call 13; with_reducible exact inOver (HTX.out _))))
    refine wpQuiet_nil ?_
    rintro _ ⟨nq, rfl⟩
    have B8 : RowKit.Hid (Below (w.heap.size + 2) W1 (over W1 nq)) := Lib.hid (HMB.out ▸ below_over W1 nq)
    clear x4 x5
    obtain ⟨w8, hw8⟩ : ∃ w8, w8 = over W1 nq := ⟨_, rfl⟩
    rw [← hw8] at B8 ⊢
    clear hw8
    obtain ⟨X0, hX0⟩ : ∃ X0, X0 = txt K A (1 + c4 % 4) (c5 % 6) := ⟨_, rfl⟩
    have HX0 : RowKit.Hid (X0.length ≤ 50) := Lib.hid (by rw [hX0]; exact txt_short ⟨KO.out.1, KO.out.2.1, KO.out.2.2.1, KO.out.2.2.2⟩)
    rw [← hX0]
    clear hX0
    have a2 : w8.cell? ⟨w.heap.size, 2, none⟩ = some (i64 c2) := (VA.out.below B8.out (by omega)).cell 2
    have a5 : w8.cell? ⟨w.heap.size, 5, none⟩ = some (i64 c5) := (VA.out.below B8.out (by omega)).cell 5
    by_cases h17 : (c2.tmod 17 == 16) = true
    · have HX8 : RowKit.Hid ((X0 ++ [120]).length ≤ 100) := Lib.hid (by rw [List.length_append]; have := HX0.out; simp; omega)
      have hX50 : X0.length ≤ 50 := HX0.out
      have hX51 : X0.length + 1 ≤ 9223372036854775807 := by omega
      have hXX : (⟨X0.toArray⟩ : ByteArray) ++ ⟨#[120]⟩ = ⟨(X0 ++ [120]).toArray⟩ := by apply ByteArray.ext; simp
      by_cases h19 : (c2.tmod 19 == 18) = true
      · go_wp2_with fail
        refine (rints_any [K, A, 1] (some ⟨w8.heap.size, 0, none⟩) 3 (w8.alloc (.cells #[i64 K, i64 A, i64 1] 3)) (intsAt3 w8 K A 1 _) (by simp) (by simp) (by omega) I3.out).mono ?_
        rintro e w9 ⟨rfl, hb⟩
        have B9 : RowKit.Hid (Below (w.heap.size + 2) W1 w9) := Lib.hid (B8.out.trans ((((Below.refl w8.heap.size w8).alloc (Nat.le_refl _) _).trans (hb.mono (by simp))).mono (by have := B8.out.size; rw [HMB.out] at this; exact this)))
        clear hb
        have HX : RowKit.Hid ((ints [K, A, 1]).length ≤ 100) := Lib.hid (Nat.le_trans (ints_short [K, A, 1] (by simp) I3.out) (by simp))
        obtain ⟨X, hXX⟩ : ∃ X, X = ints [K, A, 1] := ⟨_, rfl⟩
        rw [← hXX] at HX ⊢
        clear hXX
        have a2 : w9.cell? ⟨w.heap.size, 2, none⟩ = some (i64 c2) := (VA.out.below B9.out (by omega)).cell 2
        have a5 : w9.cell? ⟨w.heap.size, 5, none⟩ = some (i64 c5) := (VA.out.below B9.out (by omega)).cell 5
        have V9 := Lib.hid (VM.out.below B9.out (Nat.lt_succ_self _))
        have FZ : RowKit.Hid (MessE w (.returned (.agg #[i64 F, i64 (id + 1), i64 c5, strV X])) (w9.setRow (w.heap.size + 1) #[i64 F, i64 (id + 1), i64 c5, strV X])) := Lib.hid
          ⟨⟨F, (id + 1), c5, X⟩, rfl, by dsimp only; exact HX.out, HF.out, belowR (n := 0) (BW.out.trans (B9.out.mono (by omega))) (by omega)⟩
        go_wp2_with (refine wpList_store_row rfl 31 (.tmp 4) (.tmp 56) rfl (w.heap.size + 1) #[i64 F, i64 (id + 1), i64 c5, strV X] rfl rfl 31 _ V9.out (by kernel_rfl) rfl (by simp [Value.oneCell']) ?_)
        (try simp only [Exit.inBlock, Exit.then])
        refine bodyPost_ret (results_cell_row rfl _ _ (w.heap.size + 1) 31 #[i64 F, i64 (id + 1), i64 c5, strV X] (0, 0) _ rfl (setRow_heap _ _ _ _ _ _ V9.out) Tryz.underlying31 rfl (by kernel_rfl)) rfl FZ.out
      · have h19 : (c2.tmod 19 == 18) = false := by simpa using h19
        obtain ⟨w9, hw9⟩ : ∃ w9, w9 = w8 := ⟨_, rfl⟩
        have B9 : RowKit.Hid (Below (w.heap.size + 2) W1 w9) := Lib.hid (hw9 ▸ B8.out)
        subst hw9
        have HX := HX8
        have V9 := Lib.hid (VM.out.below B9.out (Nat.lt_succ_self _))
        have FZ : RowKit.Hid (MessE w (.returned (.agg #[i64 F, i64 (id + 1), i64 c5, strV (X0 ++ [120])])) (w9.setRow (w.heap.size + 1) #[i64 F, i64 (id + 1), i64 c5, strV (X0 ++ [120])])) := Lib.hid
          ⟨⟨F, (id + 1), c5, (X0 ++ [120])⟩, rfl, by dsimp only; exact HX.out, HF.out, belowR (n := 0) (BW.out.trans (B9.out.mono (by omega))) (by omega)⟩
        go_wp2_with (refine wpList_store_row rfl 31 (.tmp 4) (.tmp 56) rfl (w.heap.size + 1) #[i64 F, i64 (id + 1), i64 c5, strV (X0 ++ [120])] rfl rfl 31 _ V9.out (by kernel_rfl) rfl (by simp [Value.oneCell']) ?_)
        (try simp only [Exit.inBlock, Exit.then])
        refine bodyPost_ret (results_cell_row rfl _ _ (w.heap.size + 1) 31 #[i64 F, i64 (id + 1), i64 c5, strV (X0 ++ [120])] (0, 0) _ rfl (setRow_heap _ _ _ _ _ _ V9.out) Tryz.underlying31 rfl (by kernel_rfl)) rfl FZ.out
    · have HX8 : RowKit.Hid (X0.length ≤ 100) := Lib.hid (by have := HX0.out; omega)
      have h17 : (c2.tmod 17 == 16) = false := by simpa using h17
      by_cases h19 : (c2.tmod 19 == 18) = true
      · go_wp2_with fail
        refine (rints_any [K, A, 1] (some ⟨w8.heap.size, 0, none⟩) 3 (w8.alloc (.cells #[i64 K, i64 A, i64 1] 3)) (intsAt3 w8 K A 1 _) (by simp) (by simp) (by omega) I3.out).mono ?_
        rintro e w9 ⟨rfl, hb⟩
        have B9 : RowKit.Hid (Below (w.heap.size + 2) W1 w9) := Lib.hid (B8.out.trans ((((Below.refl w8.heap.size w8).alloc (Nat.le_refl _) _).trans (hb.mono (by simp))).mono (by have := B8.out.size; rw [HMB.out] at this; exact this)))
        clear hb
        have HX : RowKit.Hid ((ints [K, A, 1]).length ≤ 100) := Lib.hid (Nat.le_trans (ints_short [K, A, 1] (by simp) I3.out) (by simp))
        obtain ⟨X, hXX⟩ : ∃ X, X = ints [K, A, 1] := ⟨_, rfl⟩
        rw [← hXX] at HX ⊢
        clear hXX
        have a2 : w9.cell? ⟨w.heap.size, 2, none⟩ = some (i64 c2) := (VA.out.below B9.out (by omega)).cell 2
        have a5 : w9.cell? ⟨w.heap.size, 5, none⟩ = some (i64 c5) := (VA.out.below B9.out (by omega)).cell 5
        have V9 := Lib.hid (VM.out.below B9.out (Nat.lt_succ_self _))
        have FZ : RowKit.Hid (MessE w (.returned (.agg #[i64 F, i64 (id + 1), i64 c5, strV X])) (w9.setRow (w.heap.size + 1) #[i64 F, i64 (id + 1), i64 c5, strV X])) := Lib.hid
          ⟨⟨F, (id + 1), c5, X⟩, rfl, by dsimp only; exact HX.out, HF.out, belowR (n := 0) (BW.out.trans (B9.out.mono (by omega))) (by omega)⟩
        go_wp2_with (refine wpList_store_row rfl 31 (.tmp 4) (.tmp 56) rfl (w.heap.size + 1) #[i64 F, i64 (id + 1), i64 c5, strV X] rfl rfl 31 _ V9.out (by kernel_rfl) rfl (by simp [Value.oneCell']) ?_)
        (try simp only [Exit.inBlock, Exit.then])
        refine bodyPost_ret (results_cell_row rfl _ _ (w.heap.size + 1) 31 #[i64 F, i64 (id + 1), i64 c5, strV X] (0, 0) _ rfl (setRow_heap _ _ _ _ _ _ V9.out) Tryz.underlying31 rfl (by kernel_rfl)) rfl FZ.out
      · have h19 : (c2.tmod 19 == 18) = false := by simpa using h19
        obtain ⟨w9, hw9⟩ : ∃ w9, w9 = w8 := ⟨_, rfl⟩
        have B9 : RowKit.Hid (Below (w.heap.size + 2) W1 w9) := Lib.hid (hw9 ▸ B8.out)
        subst hw9
        have HX := HX8
        have V9 := Lib.hid (VM.out.below B9.out (Nat.lt_succ_self _))
        have FZ : RowKit.Hid (MessE w (.returned (.agg #[i64 F, i64 (id + 1), i64 c5, strV X0])) (w9.setRow (w.heap.size + 1) #[i64 F, i64 (id + 1), i64 c5, strV X0])) := Lib.hid
          ⟨⟨F, (id + 1), c5, X0⟩, rfl, by dsimp only; exact HX.out, HF.out, belowR (n := 0) (BW.out.trans (B9.out.mono (by omega))) (by omega)⟩
        go_wp2_with (refine wpList_store_row rfl 31 (.tmp 4) (.tmp 56) rfl (w.heap.size + 1) #[i64 F, i64 (id + 1), i64 c5, strV X0] rfl rfl 31 _ V9.out (by kernel_rfl) rfl (by simp [Value.oneCell']) ?_)
        (try simp only [Exit.inBlock, Exit.then])
        refine bodyPost_ret (results_cell_row rfl _ _ (w.heap.size + 1) 31 #[i64 F, i64 (id + 1), i64 c5, strV X0] (0, 0) _ rfl (setRow_heap _ _ _ _ _ _ V9.out) Tryz.underlying31 rfl (by kernel_rfl)) rfl FZ.out
  · have h13 : (c2.tmod 13 == 12) = false := by simpa using h13
    go_wp2_with (go_at_call 14; refine (mod_any _ _ _ (by omega) (by omega)).mono ?_; rintro e w1 ⟨rfl, rfl⟩)
    rw [← hK, ← hF, ← hA]
    clear hK hF hA
    have KO := Lib.hid (And.intro HK.out (And.intro HA.out (And.intro HR.out HV.out)))
    obtain ⟨W1, hW1⟩ : ∃ W1, W1 = (w.alloc (.cells #[i64 c0, i64 c1, i64 c2, i64 c3, i64 c4, i64 c5] 33)).alloc (.cells #[.int .i64 0, .int .i64 0, .int .i64 0, .string { data := #[] }] 31) := ⟨_, rfl⟩
    have VA : RowKit.Hid (Blk W1 w.heap.size #[i64 c0, i64 c1, i64 c2, i64 c3, i64 c4, i64 c5] 33) := Lib.hid (by rw [hW1]; exact (Blk.new _ _ _).alloc _)
    have VM : RowKit.Hid (Blk W1 (w.heap.size + 1) #[.int .i64 0, .int .i64 0, .int .i64 0, .string { data := #[] }] 31) := Lib.hid (by rw [hW1]; exact Blk.at_new (by rw [size_alloc]) _ _)
    have BW : RowKit.Hid (Below w.heap.size w W1) := Lib.hid (by rw [hW1]; exact ((Below.refl _ _).alloc (Nat.le_refl _) _).alloc (by rw [size_alloc]; omega) _)
    have HMB : RowKit.Hid (W1.heap.size = w.heap.size + 2) := Lib.hid (by rw [hW1]; simp)
    have x4 : W1.cell? ⟨w.heap.size, 4, none⟩ = some (i64 c4) := VA.out.cell 4
    have x5 : W1.cell? ⟨w.heap.size, 5, none⟩ = some (i64 c5) := VA.out.cell 5
    rw [← hW1]
    clear hW1
    have HTX : RowKit.Hid (∀ y, Calls Tryz.prog 13 #[i64 K, i64 A, i64 (1 + c4 % 4), i64 (c5 % 6)] (over W1 y) fun e w' => e = .returned (strV (txt K A (1 + c4 % 4) (c5 % 6))) ∧ Below (over W1 y).heap.size (over W1 y) w') := Lib.hid fun y => text_any _ _ _ _ _ KO.out.1 KO.out.2.1 KO.out.2.2.1 KO.out.2.2.2
    refine wp_region_over (by kernel_rfl) (by kernel_rfl) ?_
    repeat (first | go_big_quiet_step (first | (go_at_call 14; with_reducible exact inSame (mod_any _ _ _ (by omega) (by omega))) | (go_at_call 13; with_reducible exact inOver (HTX.out _))))
    refine wpQuiet_nil ?_
    rintro _ ⟨nq, rfl⟩
    have B8 : RowKit.Hid (Below (w.heap.size + 2) W1 (over W1 nq)) := Lib.hid (HMB.out ▸ below_over W1 nq)
    clear x4 x5
    obtain ⟨w8, hw8⟩ : ∃ w8, w8 = over W1 nq := ⟨_, rfl⟩
    rw [← hw8] at B8 ⊢
    clear hw8
    obtain ⟨X0, hX0⟩ : ∃ X0, X0 = txt K A (1 + c4 % 4) (c5 % 6) := ⟨_, rfl⟩
    have HX0 : RowKit.Hid (X0.length ≤ 50) := Lib.hid (by rw [hX0]; exact txt_short ⟨KO.out.1, KO.out.2.1, KO.out.2.2.1, KO.out.2.2.2⟩)
    rw [← hX0]
    clear hX0
    have a2 : w8.cell? ⟨w.heap.size, 2, none⟩ = some (i64 c2) := (VA.out.below B8.out (by omega)).cell 2
    have a5 : w8.cell? ⟨w.heap.size, 5, none⟩ = some (i64 c5) := (VA.out.below B8.out (by omega)).cell 5
    by_cases h17 : (c2.tmod 17 == 16) = true
    · have HX8 : RowKit.Hid ((X0 ++ [120]).length ≤ 100) := Lib.hid (by rw [List.length_append]; have := HX0.out; simp; omega)
      have hX50 : X0.length ≤ 50 := HX0.out
      have hX51 : X0.length + 1 ≤ 9223372036854775807 := by omega
      have hXX : (⟨X0.toArray⟩ : ByteArray) ++ ⟨#[120]⟩ = ⟨(X0 ++ [120]).toArray⟩ := by apply ByteArray.ext; simp
      by_cases h19 : (c2.tmod 19 == 18) = true
      · go_wp2_with fail
        refine (rints_any [K, A, 1] (some ⟨w8.heap.size, 0, none⟩) 3 (w8.alloc (.cells #[i64 K, i64 A, i64 1] 3)) (intsAt3 w8 K A 1 _) (by simp) (by simp) (by omega) I3.out).mono ?_
        rintro e w9 ⟨rfl, hb⟩
        have B9 : RowKit.Hid (Below (w.heap.size + 2) W1 w9) := Lib.hid (B8.out.trans ((((Below.refl w8.heap.size w8).alloc (Nat.le_refl _) _).trans (hb.mono (by simp))).mono (by have := B8.out.size; rw [HMB.out] at this; exact this)))
        clear hb
        have HX : RowKit.Hid ((ints [K, A, 1]).length ≤ 100) := Lib.hid (Nat.le_trans (ints_short [K, A, 1] (by simp) I3.out) (by simp))
        obtain ⟨X, hXX⟩ : ∃ X, X = ints [K, A, 1] := ⟨_, rfl⟩
        rw [← hXX] at HX ⊢
        clear hXX
        have a2 : w9.cell? ⟨w.heap.size, 2, none⟩ = some (i64 c2) := (VA.out.below B9.out (by omega)).cell 2
        have a5 : w9.cell? ⟨w.heap.size, 5, none⟩ = some (i64 c5) := (VA.out.below B9.out (by omega)).cell 5
        have V9 := Lib.hid (VM.out.below B9.out (Nat.lt_succ_self _))
        have FZ : RowKit.Hid (MessE w (.returned (.agg #[i64 F, i64 id, i64 c5, strV X])) (w9.setRow (w.heap.size + 1) #[i64 F, i64 id, i64 c5, strV X])) := Lib.hid
          ⟨⟨F, id, c5, X⟩, rfl, by dsimp only; exact HX.out, HF.out, belowR (n := 0) (BW.out.trans (B9.out.mono (by omega))) (by omega)⟩
        go_wp2_with (refine wpList_store_row rfl 31 (.tmp 4) (.tmp 56) rfl (w.heap.size + 1) #[i64 F, i64 id, i64 c5, strV X] rfl rfl 31 _ V9.out (by kernel_rfl) rfl (by simp [Value.oneCell']) ?_)
        (try simp only [Exit.inBlock, Exit.then])
        refine bodyPost_ret (results_cell_row rfl _ _ (w.heap.size + 1) 31 #[i64 F, i64 id, i64 c5, strV X] (0, 0) _ rfl (setRow_heap _ _ _ _ _ _ V9.out) Tryz.underlying31 rfl (by kernel_rfl)) rfl FZ.out
      · have h19 : (c2.tmod 19 == 18) = false := by simpa using h19
        obtain ⟨w9, hw9⟩ : ∃ w9, w9 = w8 := ⟨_, rfl⟩
        have B9 : RowKit.Hid (Below (w.heap.size + 2) W1 w9) := Lib.hid (hw9 ▸ B8.out)
        subst hw9
        have HX := HX8
        have V9 := Lib.hid (VM.out.below B9.out (Nat.lt_succ_self _))
        have FZ : RowKit.Hid (MessE w (.returned (.agg #[i64 F, i64 id, i64 c5, strV (X0 ++ [120])])) (w9.setRow (w.heap.size + 1) #[i64 F, i64 id, i64 c5, strV (X0 ++ [120])])) := Lib.hid
          ⟨⟨F, id, c5, (X0 ++ [120])⟩, rfl, by dsimp only; exact HX.out, HF.out, belowR (n := 0) (BW.out.trans (B9.out.mono (by omega))) (by omega)⟩
        go_wp2_with (refine wpList_store_row rfl 31 (.tmp 4) (.tmp 56) rfl (w.heap.size + 1) #[i64 F, i64 id, i64 c5, strV (X0 ++ [120])] rfl rfl 31 _ V9.out (by kernel_rfl) rfl (by simp [Value.oneCell']) ?_)
        (try simp only [Exit.inBlock, Exit.then])
        refine bodyPost_ret (results_cell_row rfl _ _ (w.heap.size + 1) 31 #[i64 F, i64 id, i64 c5, strV (X0 ++ [120])] (0, 0) _ rfl (setRow_heap _ _ _ _ _ _ V9.out) Tryz.underlying31 rfl (by kernel_rfl)) rfl FZ.out
    · have HX8 : RowKit.Hid (X0.length ≤ 100) := Lib.hid (by have := HX0.out; omega)
      have h17 : (c2.tmod 17 == 16) = false := by simpa using h17
      by_cases h19 : (c2.tmod 19 == 18) = true
      · go_wp2_with fail
        refine (rints_any [K, A, 1] (some ⟨w8.heap.size, 0, none⟩) 3 (w8.alloc (.cells #[i64 K, i64 A, i64 1] 3)) (intsAt3 w8 K A 1 _) (by simp) (by simp) (by omega) I3.out).mono ?_
        rintro e w9 ⟨rfl, hb⟩
        have B9 : RowKit.Hid (Below (w.heap.size + 2) W1 w9) := Lib.hid (B8.out.trans ((((Below.refl w8.heap.size w8).alloc (Nat.le_refl _) _).trans (hb.mono (by simp))).mono (by have := B8.out.size; rw [HMB.out] at this; exact this)))
        clear hb
        have HX : RowKit.Hid ((ints [K, A, 1]).length ≤ 100) := Lib.hid (Nat.le_trans (ints_short [K, A, 1] (by simp) I3.out) (by simp))
        obtain ⟨X, hXX⟩ : ∃ X, X = ints [K, A, 1] := ⟨_, rfl⟩
        rw [← hXX] at HX ⊢
        clear hXX
        have a2 : w9.cell? ⟨w.heap.size, 2, none⟩ = some (i64 c2) := (VA.out.below B9.out (by omega)).cell 2
        have a5 : w9.cell? ⟨w.heap.size, 5, none⟩ = some (i64 c5) := (VA.out.below B9.out (by omega)).cell 5
        have V9 := Lib.hid (VM.out.below B9.out (Nat.lt_succ_self _))
        have FZ : RowKit.Hid (MessE w (.returned (.agg #[i64 F, i64 id, i64 c5, strV X])) (w9.setRow (w.heap.size + 1) #[i64 F, i64 id, i64 c5, strV X])) := Lib.hid
          ⟨⟨F, id, c5, X⟩, rfl, by dsimp only; exact HX.out, HF.out, belowR (n := 0) (BW.out.trans (B9.out.mono (by omega))) (by omega)⟩
        go_wp2_with (refine wpList_store_row rfl 31 (.tmp 4) (.tmp 56) rfl (w.heap.size + 1) #[i64 F, i64 id, i64 c5, strV X] rfl rfl 31 _ V9.out (by kernel_rfl) rfl (by simp [Value.oneCell']) ?_)
        (try simp only [Exit.inBlock, Exit.then])
        refine bodyPost_ret (results_cell_row rfl _ _ (w.heap.size + 1) 31 #[i64 F, i64 id, i64 c5, strV X] (0, 0) _ rfl (setRow_heap _ _ _ _ _ _ V9.out) Tryz.underlying31 rfl (by kernel_rfl)) rfl FZ.out
      · have h19 : (c2.tmod 19 == 18) = false := by simpa using h19
        obtain ⟨w9, hw9⟩ : ∃ w9, w9 = w8 := ⟨_, rfl⟩
        have B9 : RowKit.Hid (Below (w.heap.size + 2) W1 w9) := Lib.hid (hw9 ▸ B8.out)
        subst hw9
        have HX := HX8
        have V9 := Lib.hid (VM.out.below B9.out (Nat.lt_succ_self _))
        have FZ : RowKit.Hid (MessE w (.returned (.agg #[i64 F, i64 id, i64 c5, strV X0])) (w9.setRow (w.heap.size + 1) #[i64 F, i64 id, i64 c5, strV X0])) := Lib.hid
          ⟨⟨F, id, c5, X0⟩, rfl, by dsimp only; exact HX.out, HF.out, belowR (n := 0) (BW.out.trans (B9.out.mono (by omega))) (by omega)⟩
        go_wp2_with (refine wpList_store_row rfl 31 (.tmp 4) (.tmp 56) rfl (w.heap.size + 1) #[i64 F, i64 id, i64 c5, strV X0] rfl rfl 31 _ V9.out (by kernel_rfl) rfl (by simp [Value.oneCell']) ?_)
        (try simp only [Exit.inBlock, Exit.then])
        refine bodyPost_ret (results_cell_row rfl _ _ (w.heap.size + 1) 31 #[i64 F, i64 id, i64 c5, strV X0] (0, 0) _ rfl (setRow_heap _ _ _ _ _ _ V9.out) Tryz.underlying31 rfl (by kernel_rfl)) rfl FZ.out
end Go.Proofs.YtdojgbpaheadnaaGreat
