/- Small functions of the reference and of the laws. -/
import Derived.Test.YtdojgbpaheadnaaGreatQRNa
import Derived.Test.YtdojgbpaheadnaaGreatQAT
import Derived.Test.YtdojgbpaheadnaaGreatQA
import Derived.Test.YtdojgbpaheadnaaGreatQRLa
set_option linter.unusedVariables false
set_option linter.unusedSimpArgs false

namespace Go.Proofs.YtdojgbpaheadnaaGreat
open Go.RowKit Go.Shelf Go.Maps

theorem tmod_mod (a b : Int) (h0 : 0 < b) : (a.tmod b + b).tmod b = a % b := by
 have := Int.lt_tmod_of_pos a h0
 rw [Int.tmod_eq_emod_of_nonneg (by omega)]
 rw [Int.add_emod_right, Int.tmod_eq_emod]
 split
 ·simp
 ·have hn : (b.natAbs : Int) = b := by omega
  rw [hn, Int.sub_emod]; simp
theorem mod_any (a b : Int) (w : World) (h0 : 0 < b) (h1 : b ≤ 1000000) :
  Calls Tryz.prog 14 #[.int .i64 a, .int .i64 b] w fun e w' => e = .returned (.int .i64 (a % b)) ∧ w = w' := by
 have hb : ¬ b = 0 := by omega
 have hw : IntKind.i64.wrap (a.tmod b + b) = a.tmod b + b := by
  have := Int.tmod_lt_of_pos a h0
  have := Int.lt_tmod_of_pos a h0
  rw [IntKind.wrap_i64]; omega
 have hq := tmod_mod a b h0
 have H := Lib.hid hw
 have Q := Lib.hid hq
 clear hq
 go_enter Tryz.func14, Tryz.ntmps14
 go_wp2_with fail
 go_ret
 exact ⟨ret_int Q.out, rfl⟩
theorem neq_msg (m : Msg) (W : World) : (binOp .neq 31 (.agg #[i64 m.frm, i64 m.to, i64 m.num, strV m.text]) (.agg #[i64 m.frm, i64 m.to, i64 m.num, strV m.text])).run Tryz.prog W = .ok (.bool false) W := by
 go_simp
def MSl (w : World) (v : Value) (l : List Msg) : Prop := ∃ a cap, v = .slice a l.length cap ∧ (l = [] ∨ ∃ b, a = some ⟨b, 0, none⟩ ∧ ∀ k m, l[k]? = some m → w.cell? ⟨b, k * 4, none⟩ = some (i64 m.frm) ∧ w.cell? ⟨b, k * 4 + 1, none⟩ = some (i64 m.to) ∧ w.cell? ⟨b, k * 4 + 2, none⟩ = some (i64 m.num) ∧ w.cell? ⟨b, k * 4 + 3, none⟩ = some (strV m.text))
theorem MSl.below {w w' : World} {v : Value} {l : List Msg} (h : MSl w v l) (hb : Below w.heap.size w w') : MSl w' v l := by
 obtain ⟨a, cap, e, h⟩ := h
 refine ⟨a, cap, e, h.imp id fun ⟨b, e, hc⟩ => ⟨b, e, fun k m hm => ?_⟩⟩
 obtain ⟨h0, h1, h2, h3⟩ := hc k m hm
 exact ⟨Below.cellE hb h0, Below.cellE hb h1, Below.cellE hb h2, Below.cellE hb h3⟩
theorem MSl.tn {w w' : World} {v : Value} {l : List Msg} {F : Nat → Prop} (h : MSl w v l) (t : Tn F w w') (hF : ∀ b n c, v = .slice (some ⟨b, 0, none⟩) n c → ¬ F b) : MSl w' v l := by
 obtain ⟨a, cap, rfl, h⟩ := h
 refine ⟨a, cap, rfl, h.imp id fun ⟨b, e, hc⟩ => ⟨b, e, fun k m hm => ?_⟩⟩
 subst e
 have hn := hF b _ _ rfl
 obtain ⟨h0, h1, h2, h3⟩ := hc k m hm
 exact ⟨t.cell h0 hn, t.cell h1 hn, t.cell h2 hn, t.cell h3 hn⟩
theorem MsgsAt.sl {w : World} {B : Nat} {v : Value} : ∀ {l : List Msg}, MsgsAt w B v l → MSl w v l
 | [], h => ⟨none, 0, h, .inl rfl⟩
 | [m], ⟨g, _, e, hb⟩ => ⟨_, 1, e, .inr ⟨g, rfl, fun k m' hm => by
   cases k with
   | zero => obtain rfl : m = m' := by simpa using hm
             exact ⟨hb.cell 0, hb.cell 1, hb.cell 2, hb.cell 3⟩
   | succ k => simp at hm⟩⟩
 | _ :: _ :: _, h => h.elim
theorem mcells_get : ∀ (l : List Msg) (k j : Nat) (m : Msg), l[k]? = some m → j < 4 → (mcells l)[k * 4 + j]? = (encM m)[j]?
 | [], k, j, m, h, _ => by simp at h
 | x :: l, 0, j, m, h, hj => by
  obtain rfl : x = m := by simpa using h
  unfold mcells
  rw [List.flatMap_cons, List.getElem?_append_left (by simp [encM]; omega)]
  simp
 | x :: l, k + 1, j, m, h, hj => by
  have ih := mcells_get l k j m (by simpa using h) hj
  unfold mcells at ih ⊢
  rw [List.flatMap_cons, List.getElem?_append_right (by simp [encM]; omega), ← ih]
  congr 1
  simp [encM]; omega
theorem MRow.sl {w : World} {B : Nat} {v : Value} {l : List Msg} (h : MRow w B v l) : MSl w v l := by
 obtain ⟨a, cap, e, _, _, hl, ⟨h0, _, _⟩ | ⟨g, h1, _, _, _, hc⟩⟩ := row_cellz h
 ·exact ⟨a, cap, e, .inl (List.eq_nil_of_length_eq_zero h0)⟩
 ·refine ⟨a, cap, e, .inr ⟨g, h1, fun k m hm => ?_⟩⟩
  have := fun j hj => mcells_get l k j m hm hj
  exact ⟨hc _ _ (this 0 (by omega)), hc _ _ (this 1 (by omega)), hc _ _ (this 2 (by omega)), hc _ _ (this 3 (by omega))⟩
set_option maxRecDepth 100000 in
set_option maxHeartbeats 4000000 in
theorem msame_any (u v : Value) (l : List Msg) (w : World) (hu : MSl w u l) (hv : MSl w v l) (hl : l.length ≤ 1000000) :
  Calls Tryz.prog 15 #[u, v] w fun e w' => e = .returned (.bool true) ∧ Below w.heap.size w w' := by
 have HU := Lib.hid hu
 have HV := Lib.hid hv
 obtain ⟨a1, cap1, rfl, -⟩ := hu
 obtain ⟨a2, cap2, rfl, -⟩ := hv
 go_enter Tryz.func15, Tryz.ntmps15
 go_wp2_with fail
 go_loopw [5] (fun i wr => ∃ k : Nat, k ≤ l.length ∧ i = .int .i64 k ∧ Below w.heap.size w wr) (fun i _ => l.length - (intOf i).toNat)
 case atStart => exact ⟨0, by omega, rfl, Below.refl _ _⟩
 case round =>
  obtain ⟨k, hk, rfl, hb⟩ := hrel
  have HB := Lib.hid hb
  clear hb
  by_cases hlt : k < l.length
  ·obtain ⟨b1, rfl, q0, q1, q2, q3⟩ : ∃ b1, a1 = some ⟨b1, 0, none⟩ ∧ wr.cell? ⟨b1, k * 4, none⟩ = some (i64 l[k].frm) ∧ wr.cell? ⟨b1, k * 4 + 1, none⟩ = some (i64 l[k].to) ∧ wr.cell? ⟨b1, k * 4 + 2, none⟩ = some (i64 l[k].num) ∧ wr.cell? ⟨b1, k * 4 + 3, none⟩ = some (strV l[k].text) := by
    obtain ⟨a, c, e, h⟩ := HU.out.below HB.out
    injection e with e1 e2 e3
    subst e1
    rcases h with h | ⟨b, h1, h2⟩
    ·rw [h] at hlt; simp at hlt
    ·exact ⟨b, h1, h2 k _ (List.getElem?_eq_getElem hlt)⟩
   obtain ⟨b2, rfl, r0, r1, r2, r3⟩ : ∃ b1, a2 = some ⟨b1, 0, none⟩ ∧ wr.cell? ⟨b1, k * 4, none⟩ = some (i64 l[k].frm) ∧ wr.cell? ⟨b1, k * 4 + 1, none⟩ = some (i64 l[k].to) ∧ wr.cell? ⟨b1, k * 4 + 2, none⟩ = some (i64 l[k].num) ∧ wr.cell? ⟨b1, k * 4 + 3, none⟩ = some (strV l[k].text) := by
    obtain ⟨a, c, e, h⟩ := HV.out.below HB.out
    injection e with e1 e2 e3
    subst e1
    rcases h with h | ⟨b, h1, h2⟩
    ·rw [h] at hlt; simp at hlt
    ·exact ⟨b, h1, h2 k _ (List.getElem?_eq_getElem hlt)⟩
   obtain ⟨⟨mf, mt, mn, mx⟩, hm⟩ : ∃ m, m = l[k] := ⟨_, rfl⟩
   rw [← hm] at q0 q1 q2 q3 r0 r1 r2 r3
   dsimp only at q0 q1 q2 q3 r0 r1 r2 r3
   clear hm
   go_wp2_with fail
   go_quiet (fail)
   go_wp2_with fail
   exact ⟨⟨k + 1, hlt, by go_num, bdrewN HB.out _⟩, by simp [intOf]; omega⟩
  ·go_wp2_with fail
   go_ret
   exact ⟨rfl, HB.out⟩
set_option maxRecDepth 100000 in
set_option maxHeartbeats 4000000 in
theorem isame_any (u v : Value) (l : List Int) (w : World) {B : Nat} (hu : w.ownsRow B 3 1 u l.length (l.map (Value.int .i64))) {B' : Nat} (hv : w.ownsRow B' 3 1 v l.length (l.map (Value.int .i64))) (hl : l.length ≤ 1000000) :
  Calls Tryz.prog 40 #[u, v] w fun e w' => e = .returned (.bool true) ∧ Below w.heap.size w w' := by
 obtain ⟨a1, cap1, rfl, -, -, -, h1⟩ := row_cellz hu
 obtain ⟨a2, cap2, rfl, -, -, -, h2⟩ := row_cellz hv
 have H1 := Lib.hid h1
 have H2 := Lib.hid h2
 clear hu hv h1 h2
 go_enter Tryz.func40, Tryz.ntmps40
 go_wp2_with fail
 go_loopw [5] (fun i wr => ∃ k : Nat, k ≤ l.length ∧ i = .int .i64 k ∧ Below w.heap.size w wr) (fun i _ => l.length - (intOf i).toNat)
 case atStart => exact ⟨0, by omega, rfl, Below.refl _ _⟩
 case round =>
  obtain ⟨k, hk, rfl, hb⟩ := hrel
  have HB := Lib.hid hb
  clear hb
  by_cases hlt : k < l.length
  ·obtain ⟨b1, rfl, -, -, -, q0⟩ := H1.out.resolve_left (fun h => by omega)
   obtain ⟨b2, rfl, -, -, -, r0⟩ := H2.out.resolve_left (fun h => by omega)
   have q1 : wr.cell? ⟨b1, k, none⟩ = some (i64 l[k]) := Below.cellE HB.out (q0 k _ (by simp [hlt]))
   have r1 : wr.cell? ⟨b2, k, none⟩ = some (i64 l[k]) := Below.cellE HB.out (r0 k _ (by simp [hlt]))
   obtain ⟨x, hx⟩ : ∃ x, x = l[k] := ⟨_, rfl⟩
   rw [← hx] at q1 r1
   clear hx q0 r0
   go_wp2_with fail
   go_quiet (fail)
   go_wp2_with fail
   exact ⟨⟨k + 1, hlt, by go_num, bdrewN HB.out _⟩, by simp [intOf]; omega⟩
  ·go_wp2_with fail
   go_ret
   exact ⟨rfl, HB.out⟩
end Go.Proofs.YtdojgbpaheadnaaGreat

/- The acts of an argument, and bytes. -/
namespace Go.Proofs.YtdojgbpaheadnaaGreat
open Go.RowKit Go.Shelf Go.Maps

structure Act6 where
 k : Int
 f : Int
 t : Int
 a : Int
 r : Int
 v : Int
def za6 : Act6 := ⟨0, 0, 0, 0, 0, 0⟩
instance : Inhabited Act6 := ⟨za6⟩
def Act6.ok (c : Act6) : Prop := I64 c.k ∧ I64 c.f ∧ I64 c.t ∧ I64 c.a ∧ I64 c.r ∧ I64 c.v
def avs6 (c : Act6) : Array Value := #[i64 c.k, i64 c.f, i64 c.t, i64 c.a, i64 c.r, i64 c.v]
def Act6At (w : World) (b o : Nat) (c : Act6) : Prop :=
 w.cell? ⟨b, o, none⟩ = some (i64 c.k) ∧ w.cell? ⟨b, o + 1, none⟩ = some (i64 c.f) ∧ w.cell? ⟨b, o + 2, none⟩ = some (i64 c.t) ∧ w.cell? ⟨b, o + 3, none⟩ = some (i64 c.a) ∧ w.cell? ⟨b, o + 4, none⟩ = some (i64 c.r) ∧ w.cell? ⟨b, o + 5, none⟩ = some (i64 c.v)
theorem Act6At.below {w w' : World} {b o B : Nat} {c : Act6} (h : Act6At w b o c) (hb : Below B w w') (hl : b < B) : Act6At w' b o c := by
 have e : ∀ i, w'.cell? ⟨b, i, none⟩ = w.cell? ⟨b, i, none⟩ := fun i => hb.cell (p := ⟨b, i, none⟩) hl
 obtain ⟨h0, h1, h2, h3, h4, h5⟩ := h
 exact ⟨(e _).trans h0, (e _).trans h1, (e _).trans h2, (e _).trans h3, (e _).trans h4, (e _).trans h5⟩
structure InA6 (w : World) (a : Option Addr) (L : List Act6) (cap : Nat) : Prop where
 at_ : L = [] ∨ ∃ b o, a = some ⟨b, o, none⟩ ∧ b < w.heap.size ∧ ∀ k, k < L.length → Act6At w b (o + k * 6) (L.getD k za6)
 in_ : ∀ c ∈ L, c.ok
 len : L.length ≤ cap
 cap : cap ≤ 9223372036854775807
theorem InA6.below {w w' : World} {a : Option Addr} {L : List Act6} {cap B : Nat} (h : InA6 w a L cap) (hb : Below B w w') (hB : w.heap.size ≤ B) : InA6 w' a L cap := by
 refine ⟨?_, h.in_, h.len, h.cap⟩
 rcases h.at_ with h1 | ⟨b, o, h1, h2, h3⟩
 ·exact .inl h1
 ·exact .inr ⟨b, o, h1, by have := hb.size; omega, fun k hk => (h3 k hk).below hb (by omega)⟩
theorem InA6.get {w : World} {a : Option Addr} {L : List Act6} {cap : Nat} (h : InA6 w a L cap) (k : Nat) (hk : k < L.length) : ∃ b o, a = some ⟨b, o, none⟩ ∧ b < w.heap.size ∧ Act6At w b (o + k * 6) L[k] := by
 rcases h.at_ with h1 | ⟨b, o, h1, h2, h3⟩
 ·subst h1; simp at hk
 ·exact ⟨b, o, h1, h2, by have := h3 k hk; rwa [getD_get _ _ hk] at this⟩
structure U8 (w : World) (a : Option Addr) (bs : List Int) (cap : Nat) : Prop where
 at_ : bs = [] ∨ ∃ b o, a = some ⟨b, o, none⟩ ∧ b < w.heap.size ∧ ∀ j, j < bs.length → w.cell? ⟨b, o + j, none⟩ = some (.int .u8 (bs.getD j 0))
 bd : ∀ j, j < bs.length → 0 ≤ bs.getD j 0 ∧ bs.getD j 0 < 256
 len : bs.length ≤ 9223372036854775807
theorem U8.below {w w' : World} {a : Option Addr} {L : List Int} {cap B : Nat} (h : U8 w a L cap) (hb : Below B w w') (hB : w.heap.size ≤ B) : U8 w' a L cap := by
 refine ⟨?_, h.bd, h.len⟩
 rcases h.at_ with h1 | ⟨b, o, h1, h2, h3⟩
 ·exact .inl h1
 ·exact .inr ⟨b, o, h1, by have := hb.size; omega, fun k hk => (hb.cell (p := ⟨b, o + k, none⟩) (by show b < B; omega)).trans (h3 k hk)⟩
theorem Len.take_len (s : Len) (m : Msg) : (s.take m).1.sent ≤ s.sent + 1 ∧ s.sent ≤ (s.take m).1.sent ∧ (s.take m).2.length ≤ 1 := by
 unfold Len.take
 have hd : ∀ a r v, (s.deal a r v).sent = s.sent := fun a r v => by unfold Len.deal; split <;> rfl
 repeat' split
 all_goals (try simp only [Len.send, hd])
 all_goals (simp only [List.length_nil, List.length_cons]; omega)
theorem wpAnyH_apartV4 {P : Program} {md : Region.Mode} {ops : Array Oper} {Q : Exit → Act → World → Prop} {S : World → Prop} {fuel : Nat} {L : Array Bool} {a : Act} {w : World} {a1 : Value → Value → Value → Value → Act} (F : World → Prop)
  (take : ∀ R : Act → World → Prop, (∀ x y z u w', F w' → R (a1 x y z u) w') → wpAnyH P md ops (only R) S fuel L a w) (rest : ∀ x y z u w', F w' → Q .normal (a1 x y z u) w') : wpAnyH P md ops Q S fuel L a w :=
 wpAnyH_mono (fun _ _ _ h => nomatch h.1) (fun ⟨_, _, h⟩ => nomatch h.1) (fun _ _ h => h.2) fuel L a w (take (Q .normal) rest)
end Go.Proofs.YtdojgbpaheadnaaGreat
