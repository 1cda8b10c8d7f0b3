/- An asker in memory. -/
import Derived.Test.YtdojgbpaheadnaaGreatQP
import Derived.Test.YtdojgbpaheadnaaGreatQLE
import Derived.Sort.KeysCollected
import Derived.Lib.SlKeysI
import Derived.Test.YtdojgbpaheadnaaGreatQLF
import Derived.Test.YtdojgbpaheadnaaGreatQCB
import Derived.Test.YtdojgbpaheadnaaGreatQGC
import Derived.Maps.RangeWalk
import Derived.Test.YtdojgbpaheadnaaGreatQSK
import Derived.Shelf.SlIterI.Nil
import Derived.Laws.AppendOwnNone
set_option linter.unusedVariables false
set_option linter.unusedSimpArgs false

namespace Go.Proofs.YtdojgbpaheadnaaGreat
open Go.RowKit Go.Shelf Go.Maps Go.ChangeMaps

def rqD (q : Rq) : DataW Unit := .agg [.lit (.int .i64 q.t), .lit (.int .i64 q.st), .lit (.int .i64 q.l)]
def rqV (t st l : Int) : Value := .agg #[i64 t, i64 st, i64 l]
def RQ (v : Value) : Option (DataW Unit × List MemPlace) :=
 match v with
 | .agg ⟨[.int .i64 t, .int .i64 s, .int .i64 l]⟩ => some (.agg [.lit (.int .i64 t), .lit (.int .i64 s), .lit (.int .i64 l)], [])
 | _ => none
theorem RQ_mk (q : Rq) : RQ (rqV q.t q.st q.l) = some (rqD q, []) := rfl
theorem RQ_inv {v : Value} {q : Rq} {ps : List MemPlace} (h : RQ v = some (rqD q, ps)) : v = rqV q.t q.st q.l := by
 unfold RQ at h
 split at h
 ·simp only [Option.some.injEq, Prod.mk.injEq, rqD] at h
  obtain ⟨h, _⟩ := h
  injection h with h
  simp only [List.cons.injEq, DataW.lit.injEq, Lit.int.injEq, true_and, and_true] at h
  obtain ⟨h1, h2, h3⟩ := h
  subst h1 h2 h3; rfl
 ·cases h
def FitQ (f : Lit → Option (DataW Unit)) (L : List Rq) : Prop := ∀ l, f l = match l with | .int .i64 k => (rq L k).map rqD | _ => none
theorem FitQ.at_ {f : Lit → Option (DataW Unit)} {L : List Rq} (h : FitQ f L) (k : Int) : f (.int .i64 k) = (rq L k).map rqD := h _
theorem fitQ_upd {f : Lit → Option (DataW Unit)} {L L' : List Rq} {q : Rq} (h : FitQ f L) (hL : ∀ k, rq L' k = if k = q.n then some q else rq L k) : FitQ (updL f (.int .i64 q.n) (rqD q)) L' := fun l => by
 unfold updL
 by_cases e : l = .int .i64 q.n
 ·subst e; rw [if_pos rfl]; dsimp only; rw [hL, if_pos rfl]; rfl
 ·rw [if_neg e, h l]
  split
  ·rename_i k
   rw [hL, if_neg fun hk => e (by rw [hk])]
  ·rfl
theorem keyI : Keyed Tryz.prog 3 := Maps.int_keyed Tryz.underlying3
theorem wfI0 {x : Int} (h : I64 x) : (Lit.int .i64 x).wf = true := WalkArith.wf_i64 (by have := h.1; have := h.2; omega)
theorem keyOfI {x : Int} (h : I64 x) : keyOf Tryz.prog 3 (.int .i64 x) = some (.int .i64 x) := Maps.keyOf_int_mk Tryz.underlying3 (wfI0 h)
theorem isKeyI {x : Int} (h : I64 x) : WideAt.IsKeyLit (.int .i64 x) := keyI.key (keyOfI h)
structure AMem (w : World) (B b : Nat) (s : Asr) (mv : Value) (N : Nat) : Prop where
 blk : Blk w b #[i64 s.id, i64 s.sent, i64 s.cap, mv] 55
 map : (mv = .map none ∧ s.L = []) ∨ ∃ mb n f, mv = .map (some mb) ∧ MapF w Tryz.prog 3 RQ mb n f ∧ FitQ f s.L ∧ n ≤ N ∧ mb ≠ b ∧ B ≤ mb
 inOrder : SortedQ s.L
 lo : B ≤ b
 sent : 0 ≤ s.sent ∧ s.sent ≤ 1000 * N
 ids : I64 s.id ∧ I64 s.cap ∧ ∀ q ∈ s.L, I64 q.n ∧ I64 q.t ∧ 1 ≤ q.st ∧ q.st ≤ 7 ∧ I64 q.l
 len : s.L.length ≤ N ∧ N ≤ 100000
def OwnA (b : Nat) (mv : Value) (k : Nat) : Prop := k = b ∨ mv = .map (some k)
theorem zeroQ (w : World) : (zeroValue 130).run Tryz.prog w = .ok (rqV 0 0 0) w := by kernel_rfl
def rqAt (L : List Rq) (n : Int) : Rq := match rq L n with | some q => q | none => ⟨n, 0, 0, 0⟩
section
variable {w : World} {B b N : Nat} {s : Asr} {mv : Value}
theorem AMem.look (h : AMem w B b s mv N) {n : Int} (hn : I64 n) :
  (Instr.lookup 53 mv (i64 n) true).run Tryz.prog w = .ok (.tuple #[rqV (rqAt s.L n).t (rqAt s.L n).st (rqAt s.L n).l, .bool (rq s.L n).isSome]) w ∧
  (Instr.lookup 53 mv (i64 n) false).run Tryz.prog w = .ok (rqV (rqAt s.L n).t (rqAt s.L n).st (rqAt s.L n).l) w := by
 rcases h.map with ⟨rfl, hL⟩ | ⟨mb, n', f, rfl, hm, hf, _⟩
 ·have e0 : rq s.L n = none := by rw [hL]; rfl
  have h1 := Maps.look_nil (w := w) true keyI Tryz.underlying53 (zeroQ w) (keyOfI hn)
  have h2 := Maps.look_nil (w := w) false keyI Tryz.underlying53 (zeroQ w) (keyOfI hn)
  unfold rqAt
  rw [e0]
  exact ⟨h1, h2⟩
 ·have hzd : RQ (rqV 0 0 0) = some (rqD ⟨n, 0, 0, 0⟩, []) := rfl
  obtain ⟨v, ps, hr1, hv1⟩ := hm.look_ok keyI Tryz.underlying53 (zeroQ w) hzd (keyOfI hn)
  obtain ⟨v2, ps2, hr2, hv2⟩ := hm.look keyI Tryz.underlying53 (zeroQ w) hzd (keyOfI hn)
  have e : ((rq s.L n).map rqD).getD (rqD ⟨n, 0, 0, 0⟩) = rqD (rqAt s.L n) := by unfold rqAt; cases rq s.L n <;> rfl
  rw [hf.at_, e] at hv1 hv2
  rw [RQ_inv hv1, hf.at_, Option.isSome_map] at hr1
  rw [RQ_inv hv2] at hr2
  exact ⟨hr1, hr2⟩
theorem AMem.keep {w' : World} {F : Nat → Prop} (h : AMem w B b s mv N) (t : Tn F w w') (hF : ∀ k, F k → OwnA b mv k → False) : AMem w' B b s mv N where
 blk := t.blk h.blk fun hb => hF b hb (.inl rfl)
 map := h.map.imp id fun ⟨mb, n, f, e, hm, h2, h3, h4, h5⟩ => ⟨mb, n, f, e, hm.keep t fun hb => hF mb hb (.inr e), h2, h3, h4, h5⟩
 inOrder := h.inOrder
 lo := h.lo
 sent := h.sent
 ids := h.ids
 len := h.len
theorem AMem.up {w' : World} (h : AMem w B b s mv N) (hb : Below w.heap.size w w') : AMem w' B b s mv N := h.keep (F := fun _ => False) (Tn.of_below hb) fun _ h => h.elim
theorem AMem.drew (h : AMem w B b s mv N) : AMem w.drew B b s mv N := h.up (Below.refl _ _).drew
theorem AMem.drewN (h : AMem w B b s mv N) (n : Nat) : AMem (w.drewN n) B b s mv N := h.up (bdrewN (Below.refl _ _) n)
theorem AMem.mono {N' : Nat} (h : AMem w B b s mv N) (hN : N ≤ N') (hN' : N' ≤ 100000) : AMem w B b s mv N' :=
 ⟨h.blk, h.map.imp id fun ⟨mb, n, f, h1, h2, h3, h4, h5⟩ => ⟨mb, n, f, h1, h2, h3, by omega, h5⟩, h.inOrder, h.lo, ⟨h.sent.1, by have := h.sent.2; omega⟩, h.ids, ⟨by have := h.len.1; omega, hN'⟩⟩
theorem AMem.own_lt (h : AMem w B b s mv N) {k : Nat} (hk : OwnA b mv k) : B ≤ k ∧ k < w.heap.size := by
 rcases hk with rfl | rfl
 ·exact ⟨h.lo, h.blk.lt⟩
 ·rcases h.map with ⟨e, _⟩ | ⟨mb, n, f, e, hm, _, _, _, h5⟩
  ·cases e
  ·injection e with e; injection e with e; subst e; exact ⟨h5, hm.lt⟩
set_option maxRecDepth 100000 in
theorem AMem.put {mb : Nat} (h : AMem w B b s (.map (some mb)) N) {q : Rq} {L' : List Rq} (hL : ∀ k, rq L' k = if k = q.n then some q else rq s.L k) (hs : SortedQ L')
  (hid : ∀ q ∈ L', I64 q.n ∧ I64 q.t ∧ 1 ≤ q.st ∧ q.st ≤ 7 ∧ I64 q.l) (hn : I64 q.n) (hl : L'.length ≤ N + 1) (hN : N < 100000) :
  ∃ w', (Instr.mapUpdate 53 (.map (some mb)) (i64 q.n) (rqV q.t q.st q.l)).run Tryz.prog w = .ok () w' ∧ AMem w' B b { s with L := L' } (.map (some mb)) (N + 1) ∧ Tn (fun k => k = mb) w w' := by
 rcases h.map with ⟨e0, _⟩ | ⟨mb', n, f, e0, hm, hf, hn1, hne, hB⟩
 ·cases e0
 ·injection e0 with e0; injection e0 with e0; subst e0
  have hn2 : n < maxLen := Nat.lt_trans (show n < 100001 by omega) (by decide)
  obtain ⟨w', hr1, hm', hg⟩ := hm.put keyI Tryz.underlying53 hn2 (keyOfI hn) (RQ_mk q)
  have tt : Tn (fun k => k = mb) w w' := (Tn.of_grown hg).mono fun b hb => by injection hb with hb; exact hb.symm
  refine ⟨w', hr1, ⟨tt.blk h.blk (Ne.symm hne), .inr ⟨mb, n + 1, _, rfl, hm', fitQ_upd hf hL, by omega, hne, hB⟩, hs, h.lo, ⟨h.sent.1, by have := h.sent.2; show s.sent ≤ 1000 * ((N + 1 : Nat) : Int); omega⟩, ⟨h.ids.1, h.ids.2.1, hid⟩, ⟨hl, by omega⟩⟩, tt⟩
theorem AMem.sent1 {w' : World} (h : AMem w B b s mv N) (hs : s.sent < 1000 * N) (hb : Below w.heap.size (w.setCell ⟨b, 1, none⟩ (i64 (s.sent + 1))) w') : AMem w' B b { s with sent := s.sent + 1 } mv N ∧ Tn (fun k => k = b) w w' := by
 have t1 : Tn (fun k => k = b) w (w.setCell ⟨b, 1, none⟩ (i64 (s.sent + 1))) := (Tn.refl (fun k => k = b) w).setCell (p := ⟨b, 1, none⟩) (.inl rfl) _
 have hz : (w.setCell ⟨b, 1, none⟩ (i64 (s.sent + 1))).heap.size = w.heap.size := by simp
 have t : Tn (fun k => k = b) w w' := t1.trans (Tn.of_below (by rw [hz]; exact hb))
 exact ⟨⟨(((h.blk.set 1 (i64 (s.sent + 1))).below hb h.blk.lt).cast rfl), h.map.imp id fun ⟨mb, n, f, h1, h2, h3, h4, h5, h6⟩ => ⟨mb, n, f, h1, h2.keep t h5, h3, h4, h5, h6⟩, h.inOrder, h.lo, ⟨by have := h.sent.1; show 0 ≤ s.sent + 1; omega, by show s.sent + 1 ≤ _; omega⟩, h.ids, h.len⟩, t⟩
theorem AMem.keys {mb : Nat} (h : AMem w B b s (.map (some mb)) N) : ∃ D n f, w.ownsMap Tryz.prog 3 RQ mb n D ∧ n ≤ N ∧ RepL D f ∧ FitQ f s.L ∧ (s.L.map Rq.n).Perm (intKeys D) := by
 rcases h.map with ⟨e0, _⟩ | ⟨mb', n, f, e0, hm, hf, hn1, hne, hB⟩
 ·cases e0
 ·injection e0 with e0; injection e0 with e0; subst e0
  obtain ⟨D, hown, hR⟩ := hm
  refine ⟨D, n, f, hown, hn1, hR, hf, ?_⟩
  obtain ⟨es, rfl, hp⟩ := hown.tidy keyI
  obtain ⟨es', hD', hko⟩ := hown.keysOf
  obtain rfl : es = es' := by simpa using hD'
  refine perm_intKeys hp (fun p hp' => ?_) ?_ fun x => ?_
  ·obtain ⟨v, hv⟩ := hko p hp'
   obtain ⟨x, _, hx, _⟩ := Maps.keyOf_i64 Tryz.underlying3 hv
   exact ⟨x, hx⟩
  ·unfold List.Nodup
   rw [List.pairwise_map]
   exact h.inOrder.imp fun {a b} hab => by omega
  ·rw [hR.has, hf.at_, Option.isSome_map, List.mem_map]
   constructor
   ·rintro ⟨q, hq, rfl⟩; rw [rq_mem h.inOrder hq]; rfl
   ·intro hl
    obtain ⟨q, hq⟩ := Option.isSome_iff_exists.1 hl
    exact ⟨q, (rq_some hq).1, (rq_some hq).2⟩
end
def mkQ (c : Int × Int × Int) : Value := rqV c.1 c.2.1 c.2.2
theorem invQ (v : Value) (y : DataW Unit × List MemPlace) (h : RQ v = some y) : ∃ c, v = mkQ c := by
 unfold RQ at h
 split at h
 ·rename_i t s l; exact ⟨(t, s, l), rfl⟩
 ·cases h
theorem invI (key : Value) (kl : Lit) (h : keyOf Tryz.prog 3 key = some kl) : ∃ x, key = Value.int .i64 x := by
 obtain ⟨x, h1, _⟩ := Maps.keyOf_int_inv Tryz.underlying3 h
 exact ⟨x, h1⟩
theorem cameQ {D : DataW Unit} {f : Lit → Option (DataW Unit)} {L : List Rq} (hR : RepL D f) (hf : FitQ f L) {x : Int} {c : Int × Int × Int} {kl : Lit} {y : DataW Unit × List MemPlace} (hkey : keyOf Tryz.prog 3 (.int .i64 x) = some kl) (hv : RQ (mkQ c) = some y) (hat : ∀ zd, D.atKey kl zd = y.1) :
  ∃ q ∈ L, q.n = x ∧ kl = .int .i64 x ∧ mkQ c = rqV q.t q.st q.l := by
 obtain ⟨x', h1, rfl, _⟩ := Maps.keyOf_int_inv Tryz.underlying3 hkey
 injection h1 with _ h1
 subst h1
 cases hq : rq L x with
 | some q =>
  refine ⟨q, (rq_some hq).1, (rq_some hq).2, rfl, ?_⟩
  have h2 := hat .nil
  rw [hR.at_, hf.at_, hq] at h2
  obtain ⟨y1, y2⟩ := y
  obtain rfl : y1 = rqD q := h2.symm
  exact RQ_inv hv
 | none =>
  exfalso
  have h1 := hat .nil
  have h2 := hat (.lit (.int .i64 0))
  rw [hR.at_, hf.at_, hq] at h1 h2
  rw [← h1] at h2; cases h2
theorem filter_strike (P : Rq → Bool) (lf lf' : Int → Bool) (q : Rq) (hs : lf' q.n = false) (hne : ∀ z, z ≠ q.n → lf' z = lf z) (hl : lf q.n = true) : ∀ L : List Rq, SortedQ L → q ∈ L →
  (L.filter fun z => P z && !lf' z.n).Perm ((L.filter fun z => P z && !lf z.n) ++ if P q then [q] else [])
 | [], _, h => by cases h
 | x :: L, hso, h => by
  unfold SortedQ at hso
  rw [List.pairwise_cons] at hso
  rw [List.filter_cons, List.filter_cons]
  rcases List.mem_cons.1 h with rfl | h
  ·have e : (L.filter fun z => P z && !lf' z.n) = L.filter fun z => P z && !lf z.n := List.filter_congr fun z hz => by
    have := hso.1 z hz
    rw [hne z.n (by omega)]
   rw [e, hs, hl]
   cases P q with
   | true => simpa using (List.perm_append_comm (l₁ := [q])).symm.symm
   | false => simp
  ·have := hso.1 q h
   rw [hne x.n (by omega)]
   have ih := filter_strike P lf lf' q hs hne hl L hso.2 h
   split
   ·exact ih.cons x
   ·exact ih
theorem strikeQ_self (left : Lit → Bool) {x : Int} (hx : I64 x) : (left (.int .i64 x) && !(Lit.int .i64 x).sameKey (.int .i64 x)) = false := by
 rw [WideAt.sameKey_self (isKeyI hx)]; simp
theorem strikeQ_ne (left : Lit → Bool) {x z : Int} (h : z ≠ x) : (left (.int .i64 z) && !(Lit.int .i64 z).sameKey (.int .i64 x)) = left (.int .i64 z) := by
 cases e : (Lit.int .i64 z).sameKey (.int .i64 x) with
 | false => simp
 | true => have := WideAt.sameKey_eq e; injection this with _ this; exact absurd this h
end Go.Proofs.YtdojgbpaheadnaaGreat

/- An asker's tables, its messages, its states. -/
namespace Go.Proofs.YtdojgbpaheadnaaGreat
open Go.RowKit Go.Shelf Go.Maps Go.ChangeMaps

theorem zeroS (w : World) : (zeroValue 134).run Tryz.prog w = .ok (rqV 0 0 0) w := by kernel_rfl
def stpV (k : Int) : Value := match stp k with | some (p, q, z) => rqV p q z | none => rqV 0 0 0
def StpAt (w : World) (mb : Nat) : Prop := ∃ n f, MapF w Tryz.prog 104 RQ mb n f ∧ ∀ k, I64 k → f (.int .i64 k) = (stp k).map fun x => rqD ⟨0, x.1, x.2.1, x.2.2⟩
theorem StpAt.look {w : World} {mb : Nat} (h : StpAt w mb) {k : Int} (hk : I64 k) :
  (Instr.lookup 136 (.map (some mb)) (.int .i64 k) true).run Tryz.prog w = .ok (.tuple #[stpV k, .bool (stp k).isSome]) w := by
 obtain ⟨n, f, hm, hf⟩ := h
 have hzd : RQ (rqV 0 0 0) = some (rqD ⟨0, 0, 0, 0⟩, []) := rfl
 obtain ⟨v, ps, hr, hv⟩ := hm.look_ok keyK Tryz.underlying136 (zeroS w) hzd (keyOfK hk)
 rw [hf k hk] at hv hr
 rw [hr, Option.isSome_map]
 have : v = stpV k := by
  unfold stpV
  cases e : stp k with
  | none => rw [e] at hv; exact RQ_inv hv
  | some x => obtain ⟨p, q, z⟩ := x; rw [e] at hv; exact RQ_inv hv
 rw [this]
theorem StpAt.up {w w' : World} {mb : Nat} (h : StpAt w mb) (hb : Below w.heap.size w w') : StpAt w' mb := by
 obtain ⟨n, f, hm, hf⟩ := h
 exact ⟨n, f, hm.keep (F := fun _ => False) (Tn.of_below hb) id, hf⟩
set_option maxRecDepth 100000 in
theorem steps_any (w : World) : Calls Tryz.prog 63 #[] w fun e w' => ∃ mb, e = .returned (.map (some mb)) ∧ StpAt w' mb ∧ Below w.heap.size w w' := by
 have hmk := run_makeMap (P := Tryz.prog) 136
 have m0 := MapF.new w Tryz.prog 104 RQ
 obtain ⟨mb, hmb⟩ : ∃ mb, mb = w.heap.size := ⟨_, rfl⟩
 obtain ⟨w0, hw0⟩ : ∃ w0, w0 = w.alloc (.map #[] 0) := ⟨_, rfl⟩
 rw [← hmb, ← hw0] at m0
 have ii : ∀ x : Int, 0 ≤ x → x ≤ 100 → I64 x := fun x h1 h2 => ⟨by omega, by omega⟩
 obtain ⟨w1, r1, m1, g1⟩ := m0.put keyK Tryz.underlying136 (by decide) (keyOfK (ii 5 (by omega) (by omega))) (RQ_mk ⟨0, 1, 2, 7⟩)
 obtain ⟨w2, r2, m2, g2⟩ := m1.put keyK Tryz.underlying136 (by decide) (keyOfK (ii 6 (by omega) (by omega))) (RQ_mk ⟨0, 1, 7, 0⟩)
 obtain ⟨w3, r3, m3, g3⟩ := m2.put keyK Tryz.underlying136 (by decide) (keyOfK (ii 8 (by omega) (by omega))) (RQ_mk ⟨0, 2, 3, 9⟩)
 obtain ⟨w4, r4, m4, g4⟩ := m3.put keyK Tryz.underlying136 (by decide) (keyOfK (ii 10 (by omega) (by omega))) (RQ_mk ⟨0, 3, 4, 0⟩)
 obtain ⟨w5, r5, m5, g5⟩ := m4.put keyK Tryz.underlying136 (by decide) (keyOfK (ii 12 (by omega) (by omega))) (RQ_mk ⟨0, 5, 6, 0⟩)
 have A5 : Hid (StpAt w5 mb) := Lib.hid ⟨_, _, m5, fun k hk => by
  have e : ∀ a b : Int, (Lit.int .i64 a = Lit.int .i64 b) ↔ a = b := fun a b => ⟨fun h => by injection h, fun h => by rw [h]⟩
  simp only [updL, e, stp]
  by_cases h5 : k = 5
  ·subst h5; rfl
  ·by_cases h6 : k = 6
   ·subst h6; rfl
   ·by_cases h8 : k = 8
    ·subst h8; rfl
    ·by_cases h10 : k = 10
     ·subst h10; rfl
     ·by_cases h12 : k = 12
      ·subst h12; rfl
      ·simp [h5, h6, h8, h10, h12]⟩
 have B5 : Hid (Below w.heap.size w w5) := Lib.hid (by
  have t : Tn (fun b => b = mb) w0 w5 := (((((Tn.of_grown g1).trans (Tn.of_grown g2)).trans (Tn.of_grown g3)).trans (Tn.of_grown g4)).trans (Tn.of_grown g5)).mono fun b h => by injection h with h; exact h.symm
  have b0 : Below w.heap.size w w0 := by rw [hw0]; exact (Below.refl _ _).alloc (Nat.le_refl _) _
  exact b0.trans (t.below b0.size fun b h => by omega))
 have r1' : (Instr.mapUpdate 136 (.map (some mb)) (.int .i64 5) (.agg #[i64 1, i64 2, i64 7])).run Tryz.prog w0 = .ok () w1 := r1
 have r2' : (Instr.mapUpdate 136 (.map (some mb)) (.int .i64 6) (.agg #[i64 1, i64 7, i64 0])).run Tryz.prog w1 = .ok () w2 := r2
 have r3' : (Instr.mapUpdate 136 (.map (some mb)) (.int .i64 8) (.agg #[i64 2, i64 3, i64 9])).run Tryz.prog w2 = .ok () w3 := r3
 have r4' : (Instr.mapUpdate 136 (.map (some mb)) (.int .i64 10) (.agg #[i64 3, i64 4, i64 0])).run Tryz.prog w3 = .ok () w4 := r4
 have r5' : (Instr.mapUpdate 136 (.map (some mb)) (.int .i64 12) (.agg #[i64 5, i64 6, i64 0])).run Tryz.prog w4 = .ok () w5 := r5
 have hmk' : (Instr.makeMap 136 none).run Tryz.prog w = .ok (.map (some mb)) w0 := by rw [hmk, hmb, hw0]
 clear hmk m0 hmb hw0 r1 r2 r3 r4 r5 m1 m2 m3 m4 m5 g1 g2 g3 g4 g5
 go_enter Tryz.func63, Tryz.ntmps63
 go_wp2_with fail
 go_ret
 exact ⟨mb, rfl, A5.out, B5.out⟩
def RI (v : Value) : Option (DataW Unit × List MemPlace) :=
 match v with
 | .int .i64 x => some (.lit (.int .i64 x), [])
 | _ => none
theorem RI_inv {v : Value} {x : Int} {ps : List MemPlace} (h : RI v = some (.lit (.int .i64 x), ps)) : v = i64 x := by
 unfold RI at h
 split at h
 ·simp only [Option.some.injEq, Prod.mk.injEq, DataW.lit.injEq, Lit.int.injEq, true_and] at h
  rw [h.1]
 ·cases h
theorem zeroK (w : World) : (zeroValue 104).run Tryz.prog w = .ok (i64 0) w := by kernel_rfl
set_option maxRecDepth 100000 in
theorem repeated_any (st : Int) (hst : I64 st) (w : World) : Calls Tryz.prog 66 #[i64 st] w fun e w' => e = .returned (i64 (agn st)) ∧ Below w.heap.size w w' := by
 have hmk := run_makeMap (P := Tryz.prog) 199
 have m0 := MapF.new w Tryz.prog 3 RI
 obtain ⟨mb, hmb⟩ : ∃ mb, mb = w.heap.size := ⟨_, rfl⟩
 obtain ⟨w0, hw0⟩ : ∃ w0, w0 = w.alloc (.map #[] 0) := ⟨_, rfl⟩
 rw [← hmb, ← hw0] at m0
 have ii : ∀ x : Int, 0 ≤ x → x ≤ 100 → I64 x := fun x h1 h2 => ⟨by omega, by omega⟩
 have ri : ∀ x : Int, RI (i64 x) = some (.lit (.int .i64 x), []) := fun _ => rfl
 obtain ⟨w1, r1, m1, g1⟩ := m0.put keyI Tryz.underlying199 (by decide) (keyOfI (ii 1 (by omega) (by omega))) (ri 1)
 obtain ⟨w2, r2, m2, g2⟩ := m1.put keyI Tryz.underlying199 (by decide) (keyOfI (ii 2 (by omega) (by omega))) (ri 7)
 obtain ⟨w3, r3, m3, g3⟩ := m2.put keyI Tryz.underlying199 (by decide) (keyOfI (ii 3 (by omega) (by omega))) (ri 9)
 obtain ⟨w4, r4, m4, g4⟩ := m3.put keyI Tryz.underlying199 (by decide) (keyOfI (ii 5 (by omega) (by omega))) (ri 11)
 obtain ⟨v, ps, hlk, hv⟩ := m4.look keyI Tryz.underlying199 (zeroK w4) (ri 0) (keyOfI hst)
 have hv' : v = i64 (agn st) := by
  have e : ∀ a b : Int, (Lit.int .i64 a = Lit.int .i64 b) ↔ a = b := fun a b => ⟨fun h => by injection h, fun h => by rw [h]⟩
  simp only [updL, e] at hv
  unfold agn
  by_cases h1 : st = 1
  ·subst h1; exact RI_inv hv
  ·by_cases h2 : st = 2
   ·subst h2; exact RI_inv hv
   ·by_cases h3 : st = 3
    ·subst h3; exact RI_inv hv
    ·by_cases h5 : st = 5
     ·subst h5; exact RI_inv hv
     ·simp only [h1, h2, h3, h5, if_false] at hv ⊢
      exact RI_inv hv
 subst hv'
 have B4 : Hid (Below w.heap.size w w4) := Lib.hid (by
  have t : Tn (fun b => b = mb) w0 w4 := ((((Tn.of_grown g1).trans (Tn.of_grown g2)).trans (Tn.of_grown g3)).trans (Tn.of_grown g4)).mono fun b h => by injection h with h; exact h.symm
  have b0 : Below w.heap.size w w0 := by rw [hw0]; exact (Below.refl _ _).alloc (Nat.le_refl _) _
  exact b0.trans (t.below b0.size fun b h => by omega))
 have hmk' : (Instr.makeMap 199 none).run Tryz.prog w = .ok (.map (some mb)) w0 := by rw [hmk, hmb, hw0]
 clear hmk m0 hmb hw0 m1 m2 m3 m4 g1 g2 g3 g4 hv
 go_enter Tryz.func66, Tryz.ntmps66
 go_wp2_with fail
 go_ret
 exact ⟨rfl, B4.out⟩
set_option maxRecDepth 100000 in
theorem newAsker_any (id cap : Int) (hid : I64 id) (hcap : I64 cap) (w : World) :
  Calls Tryz.prog 47 #[i64 id, i64 cap] w fun e w' => e = .returned (.pointer (some ⟨w.heap.size, 0, none⟩)) ∧ AMem w' w.heap.size w.heap.size ⟨id, cap, 0, []⟩ (.map none) 0 ∧ Below w.heap.size w w' := by
 have B2 : Hid (Below w.heap.size w (w.alloc (.cells #[i64 id, i64 0, i64 cap, .map none] 55))) := Lib.hid ((Below.refl _ _).alloc (Nat.le_refl _) _)
 have M2 : Hid (AMem (w.alloc (.cells #[i64 id, i64 0, i64 cap, .map none] 55)) w.heap.size w.heap.size ⟨id, cap, 0, []⟩ (.map none) 0) := Lib.hid
  ⟨Blk.new _ _ _, .inl ⟨rfl, rfl⟩, List.Pairwise.nil, Nat.le_refl _, ⟨by dsimp only; omega, by dsimp only; omega⟩, ⟨hid, hcap, fun q hq => by cases hq⟩, ⟨Nat.le_refl _, by omega⟩⟩
 go_enter Tryz.func47, Tryz.ntmps47
 go_wp2_with fail
 go_ret
 exact ⟨rfl, M2.out, B2.out⟩
theorem rqAt_some {L : List Rq} {n : Int} {q : Rq} (h : rq L n = some q) : rqAt L n = q := by unfold rqAt; rw [h]
theorem field_rq1 (t s l : Int) (w : World) : (Instr.field 130 (.agg #[i64 t, i64 s, i64 l]) 1).run Tryz.prog w = .ok (i64 s) w := by kernel_rfl
set_option maxRecDepth 100000 in
theorem state_any (B b N : Nat) (s : Asr) (mv : Value) (n : Int) (hn : I64 n) (w : World) (h : AMem w B b s mv N) :
  Calls Tryz.prog 24 #[.pointer (some ⟨b, 0, none⟩), i64 n] w fun e w' => e = .returned (i64 (s.state n)) ∧ w' = w := by
 have c3 : w.cell? ⟨b, 3, none⟩ = some mv := h.blk.cell 3
 have hlk := (h.look hn).2
 have e : (rqAt s.L n).st = s.state n := by unfold rqAt Asr.state; cases rq s.L n <;> rfl
 rw [e] at hlk
 unfold rqV at hlk
 have hf := field_rq1 (rqAt s.L n).t (s.state n) (rqAt s.L n).l w
 clear h e
 go_enter Tryz.func24, Tryz.ntmps24
 go_wp2_with fail
 go_ret
 exact ⟨rfl, rfl⟩
def TellE (B b N : Nat) (s : Asr) (mv : Value) (q : Rq) (k : Int) (w : World) (e : Ending) (w' : World) : Prop :=
 ∃ v, e = .returned v ∧ MsgsAt w' w.heap.size v (s.tell q k).2 ∧ AMem w' B b (s.tell q k).1 mv N ∧ Tn (fun k => k = b) w w'
set_option maxRecDepth 100000 in
set_option maxHeartbeats 4000000 in
theorem tell_any (B b N : Nat) (s : Asr) (mv : Value) (n k : Int) (q : Rq) (w : World) (h : AMem w B b s mv N) (hB : B ≤ w.heap.size) (hq : rq s.L n = some q) (hs : s.sent < 1000 * N) (hn : I64 n) (hk : I64 k) :
  Calls Tryz.prog 62 #[.pointer (some ⟨b, 0, none⟩), i64 n, i64 k] w (TellE B b N s mv q k w) := by
 have H := Lib.hid h
 have c3 : w.cell? ⟨b, 3, none⟩ = some mv := h.blk.cell 3
 obtain ⟨hqm, hqn⟩ := rq_some hq
 have hlk := (h.look hn).2
 rw [rqAt_some hq] at hlk
 unfold rqV at hlk
 have hbl := h.blk.lt
 have HQ := Lib.hid (h.ids.2.2 q hqm)
 have HI := Lib.hid h.ids.1
 have HN := Lib.hid (And.intro hn hk)
 have HS := Lib.hid hs
 have hN := h.len.2
 have hs9 : s.sent < 1000000000 := by omega
 obtain ⟨g, hg⟩ : ∃ g, g = w.heap.size := ⟨_, rfl⟩
 obtain ⟨w1, hw1⟩ : ∃ w1, w1 = w.alloc (.cells #[i64 q.t, i64 q.st, i64 q.l] 130) := ⟨_, rfl⟩
 have B1 : Hid (Below w.heap.size w w1) := Lib.hid (by rw [hw1]; exact (Below.refl _ _).alloc (Nat.le_refl _) _)
 have M1 := Lib.hid (H.out.up B1.out)
 have G1 : Hid (Blk w1 g #[i64 q.t, i64 q.st, i64 q.l] 130) := Lib.hid (by rw [hw1, hg]; exact Blk.new _ _ _)
 subst hqn
 clear h hqm hn hs hN hq
 by_cases hk0 : k = 0
 ·subst hk0
  clear hk
  go_enter Tryz.func62, Tryz.ntmps62
  go_wp2_with fail
  rw [← hw1]
  go_ret
  exact ⟨_, rfl, rfl, M1.out, Tn.of_below B1.out⟩
 ·by_cases hk1 : k = 1
  ·subst hk1
   clear hk
   have RES : Hid (s.tell q 1 = ({ s with sent := s.sent + 1 }, [mesg s.id s.sent 0 1 s.id q.n q.t])) := Lib.hid rfl
   go_enter Tryz.func62, Tryz.ntmps62
   go_wp2_with fail
   rw [← hw1, ← hg]
   obtain ⟨S, hS⟩ : ∃ S : World → Prop, S = fun W => ∃ n, W = w1.drewN n := ⟨_, rfl⟩
   have LDD : Hid (∀ W, S W → W.cell? ⟨b, 0, none⟩ = some (i64 s.id) ∧ W.cell? ⟨g, 0, none⟩ = some (i64 q.t)) := Lib.hid (by rw [hS]; rintro W ⟨n, rfl⟩; exact ⟨M1.out.blk.cell 0, G1.out.cell 0⟩)
   have SS : Hid (∀ W, S W → ∃ n, W = w1.drewN n) := Lib.hid (by rw [hS]; exact fun W h => h)
   have hHeld : S w1.drew := by rw [hS]; exact ⟨1, rfl⟩
   clear hS hw1 hg c3 hlk
   refine wp_region_sp 12 S (by kernel_rfl) (by kernel_rfl) ?_
   simp only [List.take_succ_cons, List.take_zero]
   apply wpAnyH_apart S
   case take =>
    intro R hR
    refine tk 0 (v := ?_) rfl hHeld ?_ ?_; rotate_left
    ·(intro w hSw; obtain ⟨l0, l1⟩ := LDD.out w hSw; go_simp; try (with_reducible rfl))
    try simp only [gZ]
    refine tk 1 (v := ?_) rfl hHeld ?_ ?_; rotate_left
    ·(intro w hSw; obtain ⟨l0, l1⟩ := LDD.out w hSw; go_simp; try (with_reducible rfl))
    try simp only [gZ]
    refine tk 2 (v := ?_) rfl hHeld ?_ ?_; rotate_left
    ·(intro w hSw; obtain ⟨l0, l1⟩ := LDD.out w hSw; go_simp; try (with_reducible rfl))
    try simp only [gZ]
    refine tk 3 (v := ?_) rfl hHeld ?_ ?_; rotate_left
    ·(intro w hSw; obtain ⟨l0, l1⟩ := LDD.out w hSw; go_simp; try (with_reducible rfl))
    try simp only [gZ]
    refine tk 4 (v := ?_) rfl hHeld ?_ ?_; rotate_left
    ·(intro w hSw; obtain ⟨l0, l1⟩ := LDD.out w hSw; go_simp; try (with_reducible rfl))
    try simp only [gZ]
    refine tk 5 (v := ?_) rfl hHeld ?_ ?_; rotate_left
    ·(intro w hSw; obtain ⟨l0, l1⟩ := LDD.out w hSw; go_simp; try (with_reducible rfl))
    try simp only [gZ]
    refine tk 6 (v := ?_) rfl hHeld ?_ ?_; rotate_left
    ·(intro w hSw; obtain ⟨l0, l1⟩ := LDD.out w hSw; go_simp; try (with_reducible rfl))
    try simp only [gZ]
    refine tk 7 (v := ?_) rfl hHeld ?_ ?_; rotate_left
    ·(intro w hSw; obtain ⟨l0, l1⟩ := LDD.out w hSw; go_simp; try (with_reducible rfl))
    try simp only [gZ]
    refine tk 8 (v := ?_) rfl hHeld ?_ ?_; rotate_left
    ·(intro w hSw; obtain ⟨l0, l1⟩ := LDD.out w hSw; go_simp; try (with_reducible rfl))
    try simp only [gZ]
    refine tk 9 (v := ?_) rfl hHeld ?_ ?_; rotate_left
    ·(intro w hSw; obtain ⟨l0, l1⟩ := LDD.out w hSw; go_simp; try (with_reducible rfl))
    try simp only [gZ]
    refine tk 10 (v := ?_) rfl hHeld ?_ ?_; rotate_left
    ·(intro w hSw; obtain ⟨l0, l1⟩ := LDD.out w hSw; go_simp; try (with_reducible rfl))
    try simp only [gZ]
    refine tk 11 (v := ?_) rfl hHeld ?_ ?_; rotate_left
    ·(intro w hSw; obtain ⟨l0, l1⟩ := LDD.out w hSw; go_simp; try (with_reducible rfl))
    try simp only [gZ]
    exact wpAnyH_done (by kernel_rfl) ⟨rfl, hR _ hHeld⟩ _
   intro W hW
   obtain ⟨n1, rfl⟩ := SS.out W hW
   simp only [endN, List.drop_succ_cons, List.drop_zero, Act.put, List.setIfInBounds_toArray, List.set_cons_zero, List.set_cons_succ]
   have M2 := Lib.hid (M1.out.drewN n1)
   clear hHeld hW SS LDD S
   go_wp2_with fail
   refine (send_any b s.id s.sent 0 1 s.id q.n q.t (w1.drewN n1) (M2.out.blk.cell 0) (M2.out.blk.cell 1) (M2.out.blk.frozen 1) ⟨M2.out.sent.1, hs9⟩ ⟨by omega, by omega⟩ HI.out HQ.out.1 HQ.out.2.1).mono ?_
   rintro e w6 ⟨gm, rfl, hgm, hM, hb6⟩
   obtain ⟨M6, T6⟩ := M2.out.sent1 HS.out hb6
   have F : Hid (TellE B b N s mv q 1 w (.returned (.slice (some ⟨gm, 0, none⟩) 1 1)) w6) := Lib.hid (by
    refine ⟨_, rfl, ?_, ?_, ?_⟩
    ·rw [RES.out]; exact ⟨gm, Nat.le_trans B1.out.size hgm, rfl, hM⟩
    ·rw [RES.out]; exact M6
    ·exact (Tn.of_below (bdrewN B1.out n1)).trans T6)
   clear hM hb6 M6 T6
   go_wp2_with fail
   go_ret
   exact F.out
  ·have RES : Hid (s.tell q k = ({ s with sent := s.sent + 1 }, [mesg s.id s.sent q.l k s.id q.n 0])) := Lib.hid (by unfold Asr.tell; rw [if_neg hk0, if_neg hk1])
   clear hk
   go_enter Tryz.func62, Tryz.ntmps62
   go_wp2_with fail
   rw [← hw1, ← hg]
   obtain ⟨S, hS⟩ : ∃ S : World → Prop, S = fun W => ∃ n, W = w1.drewN n := ⟨_, rfl⟩
   have LDD : Hid (∀ W, S W → W.cell? ⟨b, 0, none⟩ = some (i64 s.id) ∧ W.cell? ⟨g, 2, none⟩ = some (i64 q.l)) := Lib.hid (by rw [hS]; rintro W ⟨n, rfl⟩; exact ⟨M1.out.blk.cell 0, G1.out.cell 2⟩)
   have SS : Hid (∀ W, S W → ∃ n, W = w1.drewN n) := Lib.hid (by rw [hS]; exact fun W h => h)
   have hHeld : S w1.drew := by rw [hS]; exact ⟨1, rfl⟩
   clear hS hw1 hg c3 hlk
   refine wp_region_sp 13 S (by kernel_rfl) (by kernel_rfl) ?_
   simp only [List.take_succ_cons, List.take_zero]
   apply wpAnyH_apart S
   case take =>
    intro R hR
    refine tk 0 (v := ?_) rfl hHeld ?_ ?_; rotate_left
    ·(intro w hSw; obtain ⟨l0, l1⟩ := LDD.out w hSw; go_simp; try (with_reducible rfl))
    try simp only [gZ]
    refine tk 1 (v := ?_) rfl hHeld ?_ ?_; rotate_left
    ·(intro w hSw; obtain ⟨l0, l1⟩ := LDD.out w hSw; go_simp; try (with_reducible rfl))
    try simp only [gZ]
    refine tk 2 (v := ?_) rfl hHeld ?_ ?_; rotate_left
    ·(intro w hSw; obtain ⟨l0, l1⟩ := LDD.out w hSw; go_simp; try (with_reducible rfl))
    try simp only [gZ]
    refine tk 3 (v := ?_) rfl hHeld ?_ ?_; rotate_left
    ·(intro w hSw; obtain ⟨l0, l1⟩ := LDD.out w hSw; go_simp; try (with_reducible rfl))
    try simp only [gZ]
    refine tk 4 (v := ?_) rfl hHeld ?_ ?_; rotate_left
    ·(intro w hSw; obtain ⟨l0, l1⟩ := LDD.out w hSw; go_simp; try (with_reducible rfl))
    try simp only [gZ]
    refine tk 5 (v := ?_) rfl hHeld ?_ ?_; rotate_left
    ·(intro w hSw; obtain ⟨l0, l1⟩ := LDD.out w hSw; go_simp; try (with_reducible rfl))
    try simp only [gZ]
    refine tk 6 (v := ?_) rfl hHeld ?_ ?_; rotate_left
    ·(intro w hSw; obtain ⟨l0, l1⟩ := LDD.out w hSw; go_simp; try (with_reducible rfl))
    try simp only [gZ]
    refine tk 7 (v := ?_) rfl hHeld ?_ ?_; rotate_left
    ·(intro w hSw; obtain ⟨l0, l1⟩ := LDD.out w hSw; go_simp; try (with_reducible rfl))
    try simp only [gZ]
    refine tk 8 (v := ?_) rfl hHeld ?_ ?_; rotate_left
    ·(intro w hSw; obtain ⟨l0, l1⟩ := LDD.out w hSw; go_simp; try (with_reducible rfl))
    try simp only [gZ]
    refine tk 9 (v := ?_) rfl hHeld ?_ ?_; rotate_left
    ·(intro w hSw; obtain ⟨l0, l1⟩ := LDD.out w hSw; go_simp; try (with_reducible rfl))
    try simp only [gZ]
    refine tk 10 (v := ?_) rfl hHeld ?_ ?_; rotate_left
    ·(intro w hSw; obtain ⟨l0, l1⟩ := LDD.out w hSw; go_simp; try (with_reducible rfl))
    try simp only [gZ]
    refine tk 11 (v := ?_) rfl hHeld ?_ ?_; rotate_left
    ·(intro w hSw; obtain ⟨l0, l1⟩ := LDD.out w hSw; go_simp; try (with_reducible rfl))
    try simp only [gZ]
    refine tk 12 (v := ?_) rfl hHeld ?_ ?_; rotate_left
    ·(intro w hSw; obtain ⟨l0, l1⟩ := LDD.out w hSw; go_simp; try (with_reducible rfl))
    try simp only [gZ]
    exact wpAnyH_done (by kernel_rfl) ⟨rfl, hR _ hHeld⟩ _
   intro W hW
   obtain ⟨n1, rfl⟩ := SS.out W hW
   simp only [endN, List.drop_succ_cons, List.drop_zero, Act.put, List.setIfInBounds_toArray, List.set_cons_zero, List.set_cons_succ]
   have M2 := Lib.hid (M1.out.drewN n1)
   clear hHeld hW SS LDD S
   go_wp2_with fail
   refine (send_any b s.id s.sent q.l k s.id q.n 0 (w1.drewN n1) (M2.out.blk.cell 0) (M2.out.blk.cell 1) (M2.out.blk.frozen 1) ⟨M2.out.sent.1, hs9⟩ HN.out.2 HI.out HQ.out.1 ⟨by omega, by omega⟩).mono ?_
   rintro e w6 ⟨gm, rfl, hgm, hM, hb6⟩
   obtain ⟨M6, T6⟩ := M2.out.sent1 HS.out hb6
   have F : Hid (TellE B b N s mv q k w (.returned (.slice (some ⟨gm, 0, none⟩) 1 1)) w6) := Lib.hid (by
    refine ⟨_, rfl, ?_, ?_, ?_⟩
    ·rw [RES.out]; exact ⟨gm, Nat.le_trans B1.out.size hgm, rfl, hM⟩
    ·rw [RES.out]; exact M6
    ·exact (Tn.of_below (bdrewN B1.out n1)).trans T6)
   clear hM hb6 M6 T6
   go_wp2_with fail
   go_ret
   exact F.out
end Go.Proofs.YtdojgbpaheadnaaGreat

/- What an asker has received. -/
namespace Go.Proofs.YtdojgbpaheadnaaGreat
open Go.RowKit Go.Shelf Go.Maps Go.ChangeMaps

theorem ranges_same {P : Program} {k : TypeId} {R : Value → Option (DataW Unit × List MemPlace)} {w w' : World} {b r n : Nat} {D : DataW Unit} {left : Lit → Bool} {cnt : Nat} (h : w.ranges P k R b r n D left cnt) (hb : w'.heap[b]? = w.heap[b]?) (hr : w'.heap[r]? = w.heap[r]?) : w'.ranges P k R b r n D left cnt := by
 obtain ⟨es, clock, since, seen, c0, h1, F, hs, hD, h2, rest⟩ := h
 exact ⟨es, clock, since, seen, c0, hb.trans h1, F, hs, hD, hr.trans h2, rest⟩
theorem news1' (w : World) (o : Obj) (x : Int) : ∀ (j : Nat) (u : Value), [Value.int .i64 x][j]? = some u → ((w.alloc o).alloc (.cells #[.int .i64 x] 3)).cell? (Addr.add ⟨w.heap.size + 1, 0, none⟩ j) = some u := by
 have := news1 (w.alloc o) (.int .i64 x) 3
 rwa [size_alloc] at this
def isHere (q : Rq) : Bool := decide (q.st = 4)
theorem here_perm {L : List Rq} {T : List Int} (h : T.Perm ((L.filter fun q => decide (q.st = 4)).map Rq.t)) : (T.mergeSort fun x y => decide (x ≤ y)) = ((L.filter fun q => decide (q.st = 4)).map Rq.t).mergeSort fun x y => decide (x ≤ y) := by
 refine List.Perm.eq_of_pairwise (le := fun x y : Int => x ≤ y) (fun a b _ _ h1 h2 => Int.le_antisymm h1 h2) (sortedM _) (sortedM _) ?_
 exact (List.mergeSort_perm _ _).trans (h.trans (List.mergeSort_perm _ _).symm)
set_option maxRecDepth 100000 in
set_option maxHeartbeats 4000000 in
theorem aHere_any (B b N : Nat) (s : Asr) (mv : Value) (w : World) (h : AMem w B b s mv N) :
  Calls Tryz.prog 25 #[.pointer (some ⟨b, 0, none⟩)] w fun e w' => ∃ v, e = .returned v ∧ w'.ownsRow w.heap.size 3 1 v s.here.length (s.here.map (Value.int .i64)) ∧ Below w.heap.size w w' := by
 have c3 : w.cell? ⟨b, 3, none⟩ = some mv := h.blk.cell 3
 have hbl := h.blk.lt
 rcases h.map with ⟨rfl, hL⟩ | ⟨mb, n0, f0, rfl, hm0⟩
 ·have F : Hid (∀ (v : Value) (W : World), W.ownsRow w.heap.size 3 1 v 0 [] → W.ownsRow w.heap.size 3 1 v s.here.length (s.here.map (Value.int .i64))) := Lib.hid fun v W hW => by
   have : s.here = [] := by unfold Asr.here; rw [hL]; simp
   rw [this]; exact hW
  have hrg := fun W => run_range_nilMap (P := Tryz.prog) W 53 3 130 Tryz.underlying53
  have hnx : ∀ ty, (Instr.next (.pointer (some ⟨w.heap.size, 0, none⟩)) false ty).run Tryz.prog (w.alloc (.mapIter none 0 #[] 0)) = _ := fun ty => run_next_nilMap w ty 0 0 #[]
  clear h hL
  go_enter Tryz.func25, Tryz.ntmps25
  go_wp2_with fail
  refine wp_loop_rounds 1 ?_
  rw [rounds_succ]
  go_wp2_with fail
  refine (sort_row (D := []) (B := w.heap.size) (by exact World.ownsRow_nil _ _ _ _) (by simp)).mono ?_
  rintro e w3 ⟨rfl, hr, ht⟩
  have R3 := Lib.hid (F.out _ _ (by simpa using hr))
  have B3 : Hid (Below w.heap.size w w3) := Lib.hid (((Below.refl _ _).alloc (Nat.le_refl _) _).trans (ht.below (by simp) fun k hk => by cases hk))
  clear hr ht hrg hnx
  go_wp2_with fail
  go_ret
  exact ⟨_, rfl, R3.out, B3.out⟩
 ·obtain ⟨D, n, f, hown, hn, hR, hf, -⟩ := h.keys
  have hmb := (h.own_lt (.inr rfl : OwnA b (.map (some mb)) mb)).2
  obtain ⟨i0, hi, hz1, hz2, hz3⟩ := info_parts info3
  have HS := Lib.hid h.inOrder
  have HI := Lib.hid h.ids.2.2
  have HR := Lib.hid (And.intro hR hf)
  have hlen := h.len
  have hLs := h.len.1
  clear h hm0 hR hf
  go_enter Tryz.func25, Tryz.ntmps25
  go_wp2_with (first
   | (at_range; refine wpList_range_own _ rfl _ 53 rfl 3 130 keyI Tryz.underlying53 RQ mb n D rfl hown ?_; intro w0 hrg0 hg0 hs0)
   | fail)
  go_frame
  have B0 : Hid (Below w.heap.size w w0) := Lib.hid ⟨hg0.os, hg0.tape, hg0.output, hg0.size, fun i hi => hg0.block i hi (by simp)⟩
  have RG0 := Lib.hid hrg0
  have hitn : w.heap.size ≠ mb := by omega
  clear hrg0 hg0 hown
  go_loopw [3] (fun sv wr => ∃ (left : Lit → Bool) (cnt : Nat) (T : List Int), wr.ranges Tryz.prog 3 RQ mb w.heap.size n D left cnt ∧ wr.ownsRow (w.heap.size + 1) 3 1 sv T.length (T.map (Value.int .i64)) ∧ T.Perm ((s.L.filter fun q => isHere q && !left (.int .i64 q.n)).map Rq.t) ∧ Below w.heap.size w wr) (fun _ wr => wr.rangeLeft mb w.heap.size)
  case atStart =>
   refine ⟨_, _, [], RG0.out, World.ownsRow_nil _ _ _ _, ?_, B0.out⟩
   have : (s.L.filter fun q => isHere q && !Maps.has D (.int .i64 q.n)) = [] := List.filter_eq_nil_iff.2 fun q hq => by
    have : Maps.has D (.int .i64 q.n) = true := by rw [HR.out.1.has, HR.out.2.at_, rq_mem HS.out hq]; rfl
    rw [this]; simp
   rw [this]; exact List.Perm.refl _
  case round =>
   obtain ⟨left, cnt, T, hrg, hrow, hperm, hb⟩ := hrel
   have RG := Lib.hid hrg
   have RW := Lib.hid hrow
   have PM := Lib.hid hperm
   have BW := Lib.hid hb
   have hwr := hb.size
   have hTl : T.length ≤ s.L.length := by have := hperm.length_eq; rw [List.length_map] at this; have h2 := List.length_filter_le (fun q => isHere q && !left (.int .i64 q.n)) s.L; omega
   clear hrg hrow hperm hb RG0 B0 hs0
   go_wp2_with (first
    | (at_next; refine wpList_next_ranges _ rfl _ rfl 3 keyI RQ (Value.int .i64) mkQ invI invQ mb w.heap.size n D left cnt rfl RG.out ?_ ?_)
    | fail)
   ·intro _ hl0
    have PE : Hid (T.Perm ((s.L.filter fun q => decide (q.st = 4)).map Rq.t)) := Lib.hid (by
     have := PM.out
     simp only [hl0, Bool.not_false, Bool.and_true] at this
     exact this)
    have hT2 : T.length ≤ 100000 := by omega
    obtain ⟨a0, cc, hsv, -⟩ := row_cell RW.out
    subst hsv
    clear RG PM hl0
    go_wp2_with fail
    refine (sort_row RW.out hT2).mono ?_
    rintro e w3 ⟨rfl, hr, ht⟩
    have e1 : (T.mergeSort fun x y => decide (x ≤ y)) = s.here := here_perm PE.out
    rw [e1] at hr
    have el : T.length = s.here.length := by rw [← e1]; exact (List.length_mergeSort _).symm
    have R3 : Hid (w3.ownsRow w.heap.size 3 1 (.slice a0 T.length cc) s.here.length (s.here.map (Value.int .i64))) := Lib.hid (by rw [← el]; exact row_mono hr (Nat.le_succ _))
    have B3 : Hid (Below w.heap.size w w3) := Lib.hid (BW.out.trans (ht.below hwr fun k hk => by have := (row_lt RW.out k hk).1; omega))
    clear hr ht e1 el PE
    go_wp2_with fail
    go_ret
    exact ⟨_, rfl, R3.out, B3.out⟩
   ·intro x t0 s0 l0 kl y1 y2 w6 cnt6 hkey hlx hv hat hrg1 hlt hg1 hs1 hen
    obtain ⟨q, hq, rfl, rfl, hmk⟩ := cameQ HR.out.1 HR.out.2 hkey hv hat
    rw [hmk] at hen ⊢
    unfold rqV at hen ⊢
    have hqi := (HI.out q hq).1
    have RG7 := Lib.hid hrg1
    have BW7 : Hid (Below w.heap.size w w6) := Lib.hid (BW.out.trans ⟨hg1.os, hg1.tape, hg1.output, hg1.size, fun i hi => hg1.block i (by omega) (by simp; omega)⟩)
    have RW7 : Hid (w6.ownsRow (w.heap.size + 1) 3 1 u3 T.length (T.map (Value.int .i64))) := Lib.hid (ownsB_same RW.out fun r hr => hg1.block r (row_lt RW.out r hr).2 (by have := (row_lt RW.out r hr).1; simp; omega))
    have PM7 : Hid (((s.L.filter fun z => isHere z && !(left (.int .i64 z.n) && !(Lit.int .i64 z.n).sameKey (.int .i64 q.n)))).Perm ((s.L.filter fun z => isHere z && !left (.int .i64 z.n)) ++ if isHere q then [q] else [])) :=
     Lib.hid (filter_strike isHere (fun z => left (.int .i64 z)) (fun z => left (.int .i64 z) && !(Lit.int .i64 z).sameKey (.int .i64 q.n)) q (strikeQ_self left hqi) (fun z hz => strikeQ_ne left hz) hlx s.L HS.out hq)
    have HLT := Lib.hid hlt
    have hw6 : wr.heap.size ≤ w6.heap.size := hg1.size
    have LE0 := Lib.hid RG.out.left_eq
    clear hrg1 hkey hlx hv hat hmk hg1 hlt RG BW RW hs1
    by_cases h4 : q.st = 4
    ·have e4 : isHere q = true := decide_eq_true h4
     rw [h4] at hen ⊢
     go_wp2_with (at_builtin; go_must (refine wpList_append_lies _ rfl (.tmp 20) (.tmp 23) 25 rfl (w.heap.size + 1) 3 i0 (.int .i64 0) 1 8 Tryz.underlying25 hi hz1 hz2 hz3 rfl (by omega) u3 T.length _ (by rfl) ((RW7.out.alloc _).alloc _) ⟨w6.heap.size + 1, 0, none⟩ 1 1 [.int .i64 q.t] (by rfl) (by rfl) (news1' w6 _ q.t) (one1 q.t) (by omega) (by unfold maxLen; omega) (by omega) (by simp; omega) (w6.heap.size + 2) (by simp) ?_; intro gg cap' w8 hown8 hgrow hat hlt5))
     have B8 : Hid (Below w.heap.size w w8) := Lib.hid (((BW7.out.alloc BW7.out.size (.cells #[i64 q.t, i64 4, i64 q.l] 130)).alloc (by rw [size_alloc]; have := BW7.out.size; omega) (.cells #[.int .i64 q.t] 3)).grown hgrow (by rw [size_alloc, size_alloc]; have := BW7.out.size; omega) (fun j e => by have := (row_lt RW7.out _ e).1; omega))
     have hgb : ∀ i, i ≤ w.heap.size → w8.heap[i]? = w6.heap[i]? := fun i hi => by
      have h1 := BW7.out.size
      have h2 := RG7.out.lt
      rw [hgrow.block i (by rw [size_alloc, size_alloc]; omega) (fun e => by have := (row_lt RW7.out i e.symm).1; omega)]
      rw [Below.heap_alloc _ _ _ (by rw [size_alloc]; omega), Below.heap_alloc _ _ _ (by omega)]
     have RG8 := Lib.hid (ranges_same RG7.out (hgb mb (by omega)) (hgb _ (Nat.le_refl _)))
     have R8 : Hid (w8.ownsRow (w.heap.size + 1) 3 1 (.slice (some ⟨gg, 0, none⟩) (T.length + 1) cap') (T ++ [q.t]).length ((T ++ [q.t]).map (Value.int .i64))) := Lib.hid (by
      rw [List.map_append, List.length_append]; exact hown8)
     clear hown8 hgrow hat hlt5 hgb RG7 RW7 BW7
     go_wp2_with fail
     refine ⟨⟨_, cnt6, T ++ [q.t], RG8.out, R8.out, ?_, B8.out⟩, by rw [RG8.out.left_eq, LE0.out]; exact HLT.out⟩
     have := PM7.out
     rw [e4, if_pos rfl] at this
     refine List.Perm.trans ?_ (this.map Rq.t).symm
     rw [List.map_append]
     exact PM.out.append_right _
    ·have e4 : isHere q = false := decide_eq_false h4
     go_wp2_with fail
     have RG8 : Hid ((w6.alloc (.cells #[i64 q.t, i64 q.st, i64 q.l] 130)).ranges Tryz.prog 3 RQ mb w.heap.size n D (fun z => left z && !z.sameKey (.int .i64 q.n)) cnt6) :=
      Lib.hid (ranges_same RG7.out (Below.heap_alloc _ _ _ RG7.out.owns.lt) (Below.heap_alloc _ _ _ RG7.out.lt))
     refine ⟨⟨_, cnt6, T, RG8.out, RW7.out.alloc _, ?_, BW7.out.alloc BW7.out.size _⟩, by rw [RG8.out.left_eq, LE0.out]; exact HLT.out⟩
     have := PM7.out
     rw [e4, if_neg (by simp), List.append_nil] at this
     exact PM.out.trans (this.map Rq.t).symm
end Go.Proofs.YtdojgbpaheadnaaGreat

/- The numbers of an asker's requests, in order. -/
namespace Go.Proofs.YtdojgbpaheadnaaGreat
open Go.RowKit Go.Shelf Go.Maps Go.ChangeMaps

theorem keys_any (mv : Option Nat) (w : World) : Calls Tryz.prog 65 #[.map mv] w fun e w' => e = .returned (.func (.func 95) #[] #[.pointer (some ⟨w.heap.size, 0, none⟩)]) ∧ w' = w.alloc (.cells #[.map mv] 53) :=
 (callsIn_wide (n := 5)).1 (AnyZI.keys_in Tryz.keysA Fence.wide 5 trivial rfl mv w)
theorem Tryz.sortsA (m : Nat) : AnyZI.SortsIn Tryz.prog Tryz.sortedA_ren Fence.wide m :=
 ⟨fun blk off cap ss W hH hblk hsz => callsIn_wide.2 (Tryz.slices_Sort_int blk off cap ss W hH hblk hsz),
  fun p cap W => callsIn_wide.2 (Tryz.slices_Sort_int_none p cap W)⟩
theorem sortedN {L : List Rq} (h : SortedQ L) {ss : List Int} (hp : ss.Perm (L.map Rq.n)) : ss.mergeSort (fun x y => decide (x ≤ y)) = L.map Rq.n := by
 refine List.Perm.eq_of_pairwise (le := fun x y : Int => x ≤ y) (fun a b _ _ h1 h2 => Int.le_antisymm h1 h2) (sortedM _) ?_ ((List.mergeSort_perm _ _).trans hp)
 rw [List.pairwise_map]
 exact h.imp fun {a b} h => by omega
set_option maxRecDepth 100000 in
set_option maxHeartbeats 1000000 in
theorem sorted_any {w : World} {B b N : Nat} {s : Asr} {mv : Option Nat} (h : AMem w B b s (.map mv) N) :
  Calls Tryz.prog 64 #[.func (.func 95) #[] #[.pointer (some ⟨w.heap.size, 0, none⟩)]] (w.alloc (.cells #[.map mv] 53)) fun e w' => ∃ v : Value, e = .returned v ∧
   w'.ownsRow (w.heap.size + 1) 3 1 v s.L.length ((s.L.map Rq.n).map (Value.int .i64)) ∧ Below (w.heap.size + 1) (w.alloc (.cells #[.map mv] 53)) w' := by
 have hsz : (w.alloc (.cells #[.map mv] 53)).heap.size = w.heap.size + 1 := size_alloc _ _
 have hll := h.len
 refine (callsIn_wide (n := 6)).1 ?_
 rcases h.map with ⟨e1, h2⟩ | ⟨mb, n0, f0, e1, hm0⟩
 ·injection e1 with e1
  subst e1
  have hseq : SeqGives Fence.wide 3 Tryz.prog 95 #[.pointer (some ⟨w.heap.size, 0, none⟩)] (Value.int .i64) (fun ss : List Int => ss = []) 0 (w.alloc (.cells #[.map none] 53)) :=
   AnyZI.keys_gives_nil (ρ := Tryz.keysA_ren) { Tryz.keysA with } Fence.wide _ trivial rfl w.heap.size _ (by simp) (by simp)
  have cS := AnyZI.sorted_in Tryz.sortedA Fence.wide 6 trivial trivial trivial trivial rfl (by omega) (Tryz.sortsA _) (enters_of Tryz.func67 (by kernel_rfl) rfl) 95 #[.pointer (some ⟨w.heap.size, 0, none⟩)] trivial (enters_of Tryz.func95 (by kernel_rfl) rfl) _ 0 (Nat.zero_le _) (by omega) _ hseq
  refine CallsIn.mono cS ?_
  rintro e w' ⟨v, ss, rfl, rfl, hrow, hnil, hb⟩
  rw [hsz] at hrow hb
  refine ⟨v, rfl, ?_, hb⟩
  rw [h2]
  have hrow2 := hrow
  simp only [List.mergeSort_nil, List.length_nil, List.map_nil] at hrow2
  exact hrow2
 ·injection e1 with e1
  subst e1
  obtain ⟨D, n, f, hown, hn, hR, hf, hperm⟩ := h.keys
  have hbl := hown.lt
  have hseq : SeqGives Fence.wide 3 Tryz.prog 95 #[.pointer (some ⟨w.heap.size, 0, none⟩)] (Value.int .i64) (fun ss => ss.Perm (intKeys D)) (Maps.size D) (w.alloc (.cells #[.map (some mb)] 53)) :=
   AnyZI.keys_gives (ρ := Tryz.keysA_ren) { Tryz.keysA with } Fence.wide _ trivial rfl (by omega) w.heap.size mb n D _ (by simp) (by simp) (by
    obtain ⟨es, clock, hb, Ft, hs, hD⟩ := hown
    exact ⟨es, clock, (Below.heap_alloc _ _ mb hbl).trans hb, Ft, hs, hD⟩)
  have hs : Maps.size D = s.L.length := by
   have := hperm.length_eq
   rw [List.length_map] at this
   rw [this]
   obtain ⟨es, rfl, hp⟩ := hown.tidy keyI
   obtain ⟨es', hD', hko⟩ := hown.keysOf
   obtain rfl : es = es' := by simpa using hD'
   simp [Maps.size, intKeys]
  have cS := AnyZI.sorted_in Tryz.sortedA Fence.wide 6 trivial trivial trivial trivial rfl (by omega) (Tryz.sortsA _) (enters_of Tryz.func67 (by kernel_rfl) rfl) 95 #[.pointer (some ⟨w.heap.size, 0, none⟩)] trivial (enters_of Tryz.func95 (by kernel_rfl) rfl) _ (Maps.size D) (by unfold maxLen; omega) (by omega) _ hseq
  refine CallsIn.mono cS ?_
  rintro e w' ⟨v, ss, rfl, hS, hrow, hnil, hb⟩
  rw [hsz] at hrow hb
  have hp2 : ss.Perm (s.L.map Rq.n) := hS.trans hperm.symm
  have e1 : ss.mergeSort (fun x y => decide (x ≤ y)) = s.L.map Rq.n := sortedN h.inOrder hp2
  refine ⟨v, rfl, ?_, hb⟩
  have hl := hp2.length_eq
  rw [List.length_map] at hl
  rw [← e1, ← hl]; exact hrow
end Go.Proofs.YtdojgbpaheadnaaGreat

/- An asker asks. -/
namespace Go.Proofs.YtdojgbpaheadnaaGreat
open Go.RowKit Go.Shelf Go.Maps Go.ChangeMaps

theorem MsgsAt.mono {w : World} {B B' : Nat} {v : Value} : ∀ {l : List Msg}, MsgsAt w B v l → B' ≤ B → MsgsAt w B' v l
 | [], h, _ => h
 | [_], ⟨g, h1, h2⟩, h => ⟨g, Nat.le_trans h h1, h2⟩
 | _ :: _ :: _, h, _ => h.elim
theorem mapQ_nil0 (W : World) : (binOp .eql 53 (.map none) (.map none)).run Tryz.prog W = .ok (.bool true) W := by kernel_rfl
theorem mapQ_nil1 (W : World) (b : Nat) : (binOp .eql 53 (.map (some b)) (.map none)).run Tryz.prog W = .ok (.bool false) W := by kernel_rfl
def notF (q : Rq) : Bool := decide (q.st ≠ 7)
theorem many_eq (L : List Rq) : ((L.filter fun q => notF q && !(false : Bool)).length : Int) = many L := by
 simp only [Bool.not_false, Bool.and_true]
 unfold many
 rw [List.countP_eq_length_filter]; rfl
def AskE (B b N : Nat) (s : Asr) (mv : Value) (r : (Asr × List Msg) × Int) (w : World) (e : Ending) (w' : World) : Prop :=
 ∃ v mv', e = .returned (.tuple #[v, i64 r.2]) ∧ MsgsAt w' w.heap.size v r.1.2 ∧ AMem w' B b r.1.1 mv' (N + 1) ∧ Tn (OwnA b mv) w w' ∧ ∀ k, OwnA b mv' k → OwnA b mv k ∨ w.heap.size ≤ k
set_option maxRecDepth 100000 in
set_option maxHeartbeats 4000000 in
theorem ask_any (B b N : Nat) (s : Asr) (mv : Value) (n t : Int) (w : World) (h : AMem w B b s mv N) (hB : B ≤ w.heap.size) (hN : N < 90000) (hn : I64 n) (ht : I64 t) :
  Calls Tryz.prog 20 #[.pointer (some ⟨b, 0, none⟩), i64 n, i64 t] w (AskE B b N s mv (s.ask n t) w) := by
 have H := Lib.hid h
 have HB := Lib.hid hB
 have HNT := Lib.hid (And.intro hn ht)
 have c2 : w.cell? ⟨b, 2, none⟩ = some (i64 s.cap) := h.blk.cell 2
 have c3 : w.cell? ⟨b, 3, none⟩ = some mv := h.blk.cell 3
 have f3 := h.blk.frozen 3
 have hlk := (h.look hn).2
 have hfd := fun W => field_rq1 (rqAt s.L n).t (rqAt s.L n).st (rqAt s.L n).l W
 unfold rqV at hlk
 have hbl := h.blk.lt
 have HL := Lib.hid h.len
 have FN : Hid (∀ c, s.ask n t = ((s, []), c) → ∀ W, Below w.heap.size w W → AskE B b N s mv (s.ask n t) w (.returned (.tuple #[.slice none 0 0, i64 c])) W) := Lib.hid fun c e W hW =>
  ⟨_, mv, by rw [e], by rw [e]; rfl, by rw [e]; exact (H.out.up hW).mono (Nat.le_succ _) (by omega), Tn.of_below hW, fun k h => .inl h⟩
 clear h hn ht hB
 by_cases h1 : n < 1
 ·have F := Lib.hid (FN.out 1 (by unfold Asr.ask; rw [if_pos (.inl h1)]) w (Below.refl _ _))
  clear hlk hfd
  go_enter Tryz.func20, Tryz.ntmps20
  go_wp2_with fail
  go_ret2
  exact F.out
 by_cases h2 : t < 1
 ·have F := Lib.hid (FN.out 1 (by unfold Asr.ask; rw [if_pos (.inr h2)]) w (Below.refl _ _))
  clear hlk hfd
  go_enter Tryz.func20, Tryz.ntmps20
  go_wp2_with fail
  go_ret2
  exact F.out
 cases hq : rq s.L n with
 | some q =>
  rw [rqAt_some hq] at hlk hfd
  have hst : ¬ q.st = 0 := by have := (H.out.ids.2.2 q (rq_some hq).1).2.2.1; omega
  have F := Lib.hid (FN.out 22 (by unfold Asr.ask; rw [if_neg (by omega), hq]; rfl) w (Below.refl _ _))
  clear hq
  go_enter Tryz.func20, Tryz.ntmps20
  go_wp2_with fail
  go_ret2
  exact F.out
 | none =>
  rw [show rqAt s.L n = ⟨n, 0, 0, 0⟩ from by unfold rqAt; rw [hq]] at hlk hfd
  rcases H.out.map with ⟨rfl, hL⟩ | ⟨mb, n0, f0, rfl, hm0⟩
  ·have hm0 : many s.L = 0 := by rw [hL]; rfl
   have hrg := fun W => run_range_nilMap (P := Tryz.prog) W 53 3 130 Tryz.underlying53
   have hnx : ∀ ty, (Instr.next (.pointer (some ⟨w.heap.size, 0, none⟩)) false ty).run Tryz.prog (w.alloc (.mapIter none 0 #[] 0)) = _ := fun ty => run_next_nilMap w ty 0 0 #[]
   have hq0 := mapQ_nil0
   have hmk := run_makeMap (P := Tryz.prog) 53
   have BC : Hid (Below w.heap.size w (w.alloc (.mapIter none 0 #[] 0))) := Lib.hid ((Below.refl _ _).alloc (Nat.le_refl _) _)
   have FC : Hid (s.cap ≤ (many s.L : Int) → AskE B b N s (.map none) (s.ask n t) w (.returned (.tuple #[.slice none 0 0, i64 63])) (w.alloc (.mapIter none 0 #[] 0))) := Lib.hid fun hc => FN.out 63 (by unfold Asr.ask; rw [if_neg (by omega), hq, if_neg (by simp), if_pos hc]) _ BC.out
   by_cases hcap : s.cap ≤ 0
   ·have F := Lib.hid (FC.out (by rw [hm0]; exact hcap))
    clear hq
    go_enter Tryz.func20, Tryz.ntmps20
    go_wp2_with fail
    refine wp_loop_rounds 1 ?_
    rw [rounds_succ]
    go_wp2_with fail
    go_ret2
    exact F.out
   ·have hcap' : ¬ s.cap ≤ (many s.L : Int) := by rw [hm0]; exact hcap
    obtain ⟨mb, hmb⟩ : ∃ mb, mb = w.heap.size + 1 := ⟨_, rfl⟩
    obtain ⟨w4, hw4⟩ : ∃ w4, w4 = ((w.setCell ⟨b, 3, none⟩ (.map (some mb))).alloc (.mapIter none 0 #[] 0)).alloc (.map #[] 0) := ⟨_, rfl⟩
    have T4 : Hid (Tn (OwnA b (.map none)) w w4) := Lib.hid (by rw [hw4]; exact (((Tn.refl _ w).setCell (p := ⟨b, 3, none⟩) (.inl (.inl rfl)) _).alloc _).alloc _)
    have M4 : Hid (AMem w4 B b s (.map (some mb)) N) := Lib.hid (by
     have h := H.out
     have k := (h.blk.set 3 (.map (some mb))).alloc (.mapIter none 0 #[] 0)
     refine ⟨?_, .inr ⟨mb, 0, fun _ => none, rfl, ?_, fun l => by rw [hL]; cases l <;> first | rfl | (rename_i k _; cases k <;> rfl), Nat.zero_le _, by omega, by have := HB.out; omega⟩, h.inOrder, h.lo, h.sent, h.ids, h.len⟩
     ·rw [hw4]; exact (k.alloc _).cast rfl
     ·have e : mb = ((w.setCell ⟨b, 3, none⟩ (.map (some mb))).alloc (.mapIter none 0 #[] 0)).heap.size := by rw [hmb]; simp
      rw [hw4]
      have := MapF.new ((w.setCell ⟨b, 3, none⟩ (.map (some mb))).alloc (.mapIter none 0 #[] 0)) Tryz.prog 3 RQ
      rw [← e] at this
      exact this)
    have O5 : Hid (∀ k, k = mb → OwnA b (.map none) k ∨ w.heap.size ≤ k) := Lib.hid fun k hk => .inr (by omega)
    have HW4 := Lib.hid hw4
    have HMB := Lib.hid hmb
    have hcap := hcap'
    have hN9 : N < 100000 := by omega
    have HNN : Hid (rq s.L (Rq.mk n t 1 0).n = none) := Lib.hid hq
    obtain ⟨w5, hrun, hM5, hT5⟩ := M4.out.put (q := ⟨n, t, 1, 0⟩) (L' := insQ ⟨n, t, 1, 0⟩ s.L) (rq_ins HNN.out) (ins_sortedQ M4.out.inOrder HNN.out) (fun y hy => by
     rcases ins_memQ.1 hy with rfl | hy
     ·exact ⟨HNT.out.1, HNT.out.2, by dsimp only; omega, by dsimp only; omega, ⟨by dsimp only; omega, by dsimp only; omega⟩⟩
     ·exact M4.out.ids.2.2 y hy) HNT.out.1 (by rw [ins_lenQ]; have := M4.out.len.1; omega) hN9
    have hrun' : (Instr.mapUpdate 53 (.map (some mb)) (i64 n) (.agg #[i64 t, i64 1, i64 0])).run Tryz.prog w4 = .ok () w5 := hrun
    have M5 := Lib.hid hM5
    have T5 : Hid (Tn (fun k => k = mb) (w4) w5) := Lib.hid hT5
    have RES : Hid (s.ask n t = (({ s with L := insQ ⟨n, t, 1, 0⟩ s.L } : Asr).tell ⟨n, t, 1, 0⟩ 1, 0)) := Lib.hid (by
     unfold Asr.ask; rw [if_neg (by omega), hq, if_neg (by simp), if_neg hcap])
    clear hrun hM5 hT5 hq
    rw [HW4.out, HMB.out] at hrun'
    have hc0 : s.cap ≤ 0 → False := fun h => hcap (by rw [hm0]; exact h)
    have hcap0 : ¬ s.cap ≤ 0 := hc0
    clear hcap hw4 hmb hc0
    rw [HMB.out] at M4 M5 T5 O5
    clear hm0 hcap'
    go_enter Tryz.func20, Tryz.ntmps20
    go_wp2_with fail
    refine wp_loop_rounds 1 ?_
    rw [rounds_succ]
    go_wp2_with fail
    refine (tell_any B b (N + 1) { s with L := insQ ⟨n, t, 1, 0⟩ s.L } (.map (some (w.heap.size + 1))) n 1 ⟨n, t, 1, 0⟩ w5 M5.out (Nat.le_trans HB.out (Nat.le_trans T4.out.size T5.out.size)) (by rw [rq_ins HNN.out, if_pos rfl]) (by have := M4.out.sent.2; show s.sent < 1000 * ((N + 1 : Nat) : Int); omega) HNT.out.1 ⟨by omega, by omega⟩).mono ?_
    rintro e w6 ⟨v6, rfl, hm6, hM6, hT6⟩
    have F : Hid (AskE B b N s (.map none) (s.ask n t) w (.returned (.tuple #[v6, i64 0])) w6) := Lib.hid (by
     rw [RES.out]
     exact ⟨v6, _, rfl, hm6.mono (Nat.le_trans T4.out.size T5.out.size), hM6, (T4.out.then_ T5.out fun k hk => O5.out k (by rw [hk])).trans (hT6.mono fun k hk => .inl hk), fun k hk => by
      rcases hk with rfl | hk
      ·exact .inl (.inl rfl)
      ·injection hk with hk; injection hk with hk; exact O5.out k hk.symm⟩)
    clear hm6 hM6 hT6 hrun'
    go_wp2_with fail
    go_ret2
    exact F.out
  ·obtain ⟨D, n1, f, hown, hn1, hR, hf, -⟩ := H.out.keys
   have hmb := (H.out.own_lt (.inr rfl : OwnA b (.map (some mb)) mb)).2
   have HS := Lib.hid H.out.inOrder
   have HI := Lib.hid H.out.ids.2.2
   have HR := Lib.hid (And.intro hR hf)
   have hq1 := mapQ_nil1
   clear hm0 hR hf
   go_enter Tryz.func20, Tryz.ntmps20
   go_wp2_with (first
    | (at_range; refine wpList_range_own _ rfl _ 53 rfl 3 130 keyI Tryz.underlying53 RQ mb n1 D rfl hown ?_; intro w0 hrg0 hg0 hs0)
    | fail)
   have B0 : Hid (Below w.heap.size w w0) := Lib.hid ⟨hg0.os, hg0.tape, hg0.output, hg0.size, fun i hi => hg0.block i hi (by simp)⟩
   have RG0 := Lib.hid hrg0
   have hitn : w.heap.size ≠ mb := by omega
   clear hrg0 hg0 hown hlk hfd
   go_loopw [8] (fun sv wr => ∃ (left : Lit → Bool) (cnt : Nat), wr.ranges Tryz.prog 3 RQ mb w.heap.size n1 D left cnt ∧ sv = .int .i64 ((s.L.filter fun q => notF q && !left (.int .i64 q.n)).length : Int) ∧ Below w.heap.size w wr) (fun _ wr => wr.rangeLeft mb w.heap.size)
   case atStart =>
    refine ⟨_, _, RG0.out, ?_, B0.out⟩
    have : (s.L.filter fun q => notF q && !Maps.has D (.int .i64 q.n)) = [] := List.filter_eq_nil_iff.2 fun q hq => by
     have : Maps.has D (.int .i64 q.n) = true := by rw [HR.out.1.has, HR.out.2.at_, rq_mem HS.out hq]; rfl
     rw [this]; simp
    rw [this]; rfl
   case round =>
    obtain ⟨left, cnt, hrg, rfl, hb⟩ := hrel
    have RG := Lib.hid hrg
    have BW := Lib.hid hb
    have hwr := hb.size
    have hTl : (s.L.filter fun q => notF q && !left (.int .i64 q.n)).length ≤ 100000 := by have h2 := List.length_filter_le (fun q => notF q && !left (.int .i64 q.n)) s.L; have := HL.out; omega
    clear hrg hb RG0 B0 hs0
    go_wp2_with (first
     | (at_next; refine wpList_next_ranges _ rfl _ rfl 3 keyI RQ (Value.int .i64) mkQ invI invQ mb w.heap.size n1 D left cnt rfl RG.out ?_ ?_)
     | fail)
    ·intro _ hl0
     have e1 : ((s.L.filter fun q => notF q && !left (.int .i64 q.n)).length : Int) = many s.L := by
      simp only [hl0]; exact many_eq s.L
     have M4 := Lib.hid (H.out.up BW.out)
     have T4 : Hid (Tn (OwnA b (.map (some mb))) w wr) := Lib.hid (Tn.of_below BW.out)
     have O5 : Hid (∀ k, k = mb → OwnA b (.map (some mb)) k ∨ w.heap.size ≤ k) := Lib.hid fun k hk => .inl (.inr (by rw [hk]))
     have BC := Lib.hid BW.out
     have FC : Hid (s.cap ≤ (many s.L : Int) → AskE B b N s (.map (some mb)) (s.ask n t) w (.returned (.tuple #[.slice none 0 0, i64 63])) wr) := Lib.hid fun hc => FN.out 63 (by unfold Asr.ask; rw [if_neg (by omega), hq, if_neg (by simp), if_pos hc]) _ BC.out
     rw [e1]
     clear RG hl0 e1 hTl c2 c3
     have c2 : wr.cell? ⟨b, 2, none⟩ = some (i64 s.cap) := M4.out.blk.cell 2
     have c3 : wr.cell? ⟨b, 3, none⟩ = some (.map (some mb)) := M4.out.blk.cell 3
     by_cases hcap : s.cap ≤ (many s.L : Int)
     ·have F := Lib.hid (FC.out hcap)
      clear hq
      obtain ⟨mm, hmm⟩ : ∃ mm : Int, mm = many s.L := ⟨_, rfl⟩
      rw [← hmm] at hcap ⊢
      clear hmm
      go_wp2_with fail
      go_ret2
      exact F.out
     ·have hN9 : N < 100000 := by omega
      have HNN : Hid (rq s.L (Rq.mk n t 1 0).n = none) := Lib.hid hq
      obtain ⟨w5, hrun, hM5, hT5⟩ := M4.out.put (q := ⟨n, t, 1, 0⟩) (L' := insQ ⟨n, t, 1, 0⟩ s.L) (rq_ins HNN.out) (ins_sortedQ M4.out.inOrder HNN.out) (fun y hy => by
       rcases ins_memQ.1 hy with rfl | hy
       ·exact ⟨HNT.out.1, HNT.out.2, by dsimp only; omega, by dsimp only; omega, ⟨by dsimp only; omega, by dsimp only; omega⟩⟩
       ·exact M4.out.ids.2.2 y hy) HNT.out.1 (by rw [ins_lenQ]; have := M4.out.len.1; omega) hN9
      have hrun' : (Instr.mapUpdate 53 (.map (some mb)) (i64 n) (.agg #[i64 t, i64 1, i64 0])).run Tryz.prog wr = .ok () w5 := hrun
      have M5 := Lib.hid hM5
      have T5 : Hid (Tn (fun k => k = mb) (wr) w5) := Lib.hid hT5
      have RES : Hid (s.ask n t = (({ s with L := insQ ⟨n, t, 1, 0⟩ s.L } : Asr).tell ⟨n, t, 1, 0⟩ 1, 0)) := Lib.hid (by
       unfold Asr.ask; rw [if_neg (by omega), hq, if_neg (by simp), if_neg hcap])
      clear hrun hM5 hT5 hq
      obtain ⟨mm, hmm⟩ : ∃ mm : Int, mm = many s.L := ⟨_, rfl⟩
      rw [← hmm] at hcap ⊢
      clear hmm
      go_wp2_with fail
      refine (tell_any B b (N + 1) { s with L := insQ ⟨n, t, 1, 0⟩ s.L } (.map (some mb)) n 1 ⟨n, t, 1, 0⟩ w5 M5.out (Nat.le_trans HB.out (Nat.le_trans T4.out.size T5.out.size)) (by rw [rq_ins HNN.out, if_pos rfl]) (by have := M4.out.sent.2; show s.sent < 1000 * ((N + 1 : Nat) : Int); omega) HNT.out.1 ⟨by omega, by omega⟩).mono ?_
      rintro e w6 ⟨v6, rfl, hm6, hM6, hT6⟩
      have F : Hid (AskE B b N s (.map (some mb)) (s.ask n t) w (.returned (.tuple #[v6, i64 0])) w6) := Lib.hid (by
       rw [RES.out]
       exact ⟨v6, _, rfl, hm6.mono (Nat.le_trans T4.out.size T5.out.size), hM6, (T4.out.then_ T5.out fun k hk => O5.out k (by rw [hk])).trans (hT6.mono fun k hk => .inl hk), fun k hk => by
        rcases hk with rfl | hk
        ·exact .inl (.inl rfl)
        ·injection hk with hk; injection hk with hk; exact O5.out k hk.symm⟩)
      clear hm6 hM6 hT6 hrun'
      go_wp2_with fail
      go_ret2
      exact F.out
    ·intro x t0 s0 l0 kl y1 y2 w6 cnt6 hkey hlx hv hat hrg1 hlt hg1 hs1 hen
     obtain ⟨q, hqm, rfl, rfl, hmk⟩ := cameQ HR.out.1 HR.out.2 hkey hv hat
     rw [hmk] at hen ⊢
     unfold rqV at hen ⊢
     have hqi := (HI.out q hqm).1
     have RG7 := Lib.hid hrg1
     have BW7 : Hid (Below w.heap.size w w6) := Lib.hid (BW.out.trans ⟨hg1.os, hg1.tape, hg1.output, hg1.size, fun i hi => hg1.block i (by omega) (by simp; omega)⟩)
     have PM7 : Hid (((s.L.filter fun z => notF z && !(left (.int .i64 z.n) && !(Lit.int .i64 z.n).sameKey (.int .i64 q.n)))).Perm ((s.L.filter fun z => notF z && !left (.int .i64 z.n)) ++ if notF q then [q] else [])) :=
      Lib.hid (filter_strike notF (fun z => left (.int .i64 z)) (fun z => left (.int .i64 z) && !(Lit.int .i64 z).sameKey (.int .i64 q.n)) q (strikeQ_self left hqi) (fun z hz => strikeQ_ne left hz) hlx s.L HS.out hqm)
     have HLT := Lib.hid hlt
     have LE0 := Lib.hid RG.out.left_eq
     have RG8 : Hid ((w6.alloc (.cells #[i64 q.t, i64 q.st, i64 q.l] 130)).ranges Tryz.prog 3 RQ mb w.heap.size n1 D (fun z => left z && !z.sameKey (.int .i64 q.n)) cnt6) :=
      Lib.hid (ranges_same RG7.out (Below.heap_alloc _ _ _ RG7.out.owns.lt) (Below.heap_alloc _ _ _ RG7.out.lt))
     have B8 := Lib.hid (BW7.out.alloc BW7.out.size (.cells #[i64 q.t, i64 q.st, i64 q.l] 130))
     have RF : Hid ((w6.alloc (.cells #[i64 q.t, i64 q.st, i64 q.l] 130)).rangeLeft mb w.heap.size < wr.rangeLeft mb w.heap.size) := Lib.hid (by rw [RG8.out.left_eq, LE0.out]; exact HLT.out)
     clear hrg1 hkey hlx hv hat hmk hg1 hlt RG BW hs1 hq c2 c3 f3
     by_cases h7 : q.st = 7
     ·have e7 : notF q = false := by unfold notF; simp [h7]
      have el : ((s.L.filter fun q => notF q && !left (.int .i64 q.n)).length : Int) = ((s.L.filter fun z => notF z && !(left (.int .i64 z.n) && !(Lit.int .i64 z.n).sameKey (.int .i64 q.n))).length : Int) := by
       rw [PM7.out.length_eq, e7]; simp
      have EL := Lib.hid el
      obtain ⟨c9, hc9⟩ : ∃ c9 : Int, c9 = ((s.L.filter fun q => notF q && !left (.int .i64 q.n)).length : Int) := ⟨_, rfl⟩
      rw [← hc9] at EL ⊢
      clear hc9 hTl el
      have RG9 := Lib.hid (And.intro RG8.out (And.intro B8.out RF.out))
      rw [h7] at RG9 hen ⊢
      clear RG8 B8 RF
      go_wp2_with fail
      exact ⟨⟨_, cnt6, RG9.out.1, by rw [EL.out], RG9.out.2.1⟩, RG9.out.2.2⟩
     ·have e7 : notF q = true := by unfold notF; simp [h7]
      have el : ((s.L.filter fun z => notF z && !(left (.int .i64 z.n) && !(Lit.int .i64 z.n).sameKey (.int .i64 q.n))).length : Int) = ((s.L.filter fun q => notF q && !left (.int .i64 q.n)).length : Int) + 1 := by
       rw [PM7.out.length_eq, e7]; simp
      have EL := Lib.hid el
      obtain ⟨c9, hc9⟩ : ∃ c9 : Int, c9 = ((s.L.filter fun q => notF q && !left (.int .i64 q.n)).length : Int) := ⟨_, rfl⟩
      have hc8 : 0 ≤ c9 ∧ c9 ≤ 100000 := by omega
      rw [← hc9] at EL ⊢
      clear hc9 hTl el
      have d7 : (q.st != 7) = true := by simp [h7]
      have hwr : IntKind.i64.wrap (c9 + 1) = c9 + 1 := by rw [IntKind.wrap_i64]; omega
      go_wp2_with fail
      exact ⟨⟨_, cnt6, RG8.out, by rw [EL.out], B8.out⟩, RF.out⟩
end Go.Proofs.YtdojgbpaheadnaaGreat

/- Lists of messages in memory; an asker's tick. -/
namespace Go.Proofs.YtdojgbpaheadnaaGreat
open Go.RowKit Go.Shelf Go.Maps Go.ChangeMaps

def mcells (l : List Msg) : List Value := l.flatMap fun m => (encM m).toList
def MRow (w : World) (B : Nat) (v : Value) (l : List Msg) : Prop := w.ownsRow B 31 4 v l.length (mcells l)
theorem mcells_len (l : List Msg) : (mcells l).length = l.length * 4 := by
 unfold mcells
 induction l with
 | nil => rfl
 | cons m l ih => rw [List.flatMap_cons, List.length_append, ih]; simp [encM]; omega
theorem mcells_app (l l' : List Msg) : mcells (l ++ l') = mcells l ++ mcells l' := by unfold mcells; rw [List.flatMap_append]
theorem infoM : (Tryz.prog.info? 31).map (fun i => (i.zero, i.size, i.bytes)) = some (some (.agg #[i64 0, i64 0, i64 0, .string ⟨#[]⟩]), 4, 40) := by kernel_rfl
theorem MRow.nil (w : World) (B : Nat) : MRow w B (.slice none 0 0) [] := World.ownsRow_nil _ _ _ _
theorem info_partsM : ∃ i, Tryz.prog.info? 31 = some i ∧ i.zero = some (.agg #[i64 0, i64 0, i64 0, .string ⟨#[]⟩]) ∧ i.size = 4 ∧ i.bytes = 40 := by
 obtain ⟨i, hi, h⟩ := Option.map_eq_some_iff.1 infoM
 injection h with h1 h2
 injection h2 with h2 h3
 exact ⟨i, hi, h1, h2, h3⟩
theorem enc_one (m : Msg) : ∀ u ∈ (encM m).toList, u.oneCell' = true := by
 intro u hu
 simp [encM] at hu
 rcases hu with rfl | rfl | rfl | rfl <;> rfl
theorem blk_news {w : World} {g : Nat} {xs : Array Value} {T : TypeId} (h : Blk w g xs T) : ∀ (j : Nat) (u : Value), xs.toList[j]? = some u → w.cell? (Addr.add ⟨g, 0, none⟩ j) = some u := fun j u hu => by
 rw [add_of, h.cell]
 simpa using hu
theorem tell_same (s : Asr) (q : Rq) (k : Int) : (s.tell q k).1.L = s.L ∧ (s.tell q k).1.id = s.id ∧ (s.tell q k).1.cap = s.cap ∧ s.sent ≤ (s.tell q k).1.sent ∧ (s.tell q k).1.sent ≤ s.sent + 1 ∧ (s.tell q k).2.length ≤ 1 := by
 unfold Asr.tell
 split
 ·exact ⟨rfl, rfl, rfl, Int.le_refl _, by dsimp only; omega, by simp⟩
 ·exact ⟨rfl, rfl, rfl, by dsimp only; omega, Int.le_refl _, by simp⟩
theorem tickL_snoc (q : Rq) : ∀ (A : List Rq) (s : Asr), tickL s (A ++ [q]) = (((tickL s A).1.tell q (agn q.st)).1, (tickL s A).2 ++ ((tickL s A).1.tell q (agn q.st)).2)
 | [], s => by simp [tickL]
 | x :: A, s => by
  have ih := tickL_snoc q A (s.tell x (agn x.st)).1
  simp only [List.cons_append, tickL, ih, List.append_assoc]
theorem tickL_same : ∀ (A : List Rq) (s : Asr), (tickL s A).1.L = s.L ∧ (tickL s A).1.id = s.id ∧ (tickL s A).1.cap = s.cap ∧ s.sent ≤ (tickL s A).1.sent ∧ (tickL s A).1.sent ≤ s.sent + A.length ∧ (tickL s A).2.length ≤ A.length
 | [], s => ⟨rfl, rfl, rfl, Int.le_refl _, by simp [tickL], by simp [tickL]⟩
 | x :: A, s => by
  obtain ⟨h1, h2, h3, h4, h5, h6⟩ := tickL_same A (s.tell x (agn x.st)).1
  obtain ⟨k1, k2, k3, k4, k5, k6⟩ := tell_same s x (agn x.st)
  refine ⟨h1.trans k1, h2.trans k2, h3.trans k3, Int.le_trans k4 h4, ?_, ?_⟩
  ·simp only [tickL, List.length_cons]; omega
  ·simp only [tickL, List.length_cons, List.length_append]; omega
theorem agn_i64 (st : Int) : I64 (agn st) := by
 unfold agn
 repeat' split
 all_goals exact ⟨by omega, by omega⟩
theorem tell_cases (s : Asr) (q : Rq) (k : Int) : (s.tell q k).2 = [] ∨ ∃ m, (s.tell q k).2 = [m] := by
 unfold Asr.tell
 split
 ·exact .inl rfl
 ·exact .inr ⟨_, rfl⟩
set_option maxRecDepth 100000 in
set_option maxHeartbeats 4000000 in
theorem aTick_any (B b N : Nat) (s : Asr) (mv : Value) (w : World) (h : AMem w B b s mv N) (hB : B ≤ w.heap.size) (hN : N < 90000) (hL : s.L.length < 1000) :
  Calls Tryz.prog 23 #[.pointer (some ⟨b, 0, none⟩)] w fun e w' => ∃ v, e = .returned v ∧ MRow w' w.heap.size v s.tick.2 ∧ AMem w' B b s.tick.1 mv (N + 1) ∧ Tn (fun k => k = b) w w' := by
 obtain ⟨mvo, rfl⟩ : ∃ mvo, mv = .map mvo := by
  rcases h.map with ⟨e, _⟩ | ⟨mb, _, _, e, _⟩
  ·exact ⟨_, e⟩
  ·exact ⟨_, e⟩
 have H := Lib.hid h
 have HB := Lib.hid hB
 have c3 : w.cell? ⟨b, 3, none⟩ = some (.map mvo) := h.blk.cell 3
 have hbl := h.blk.lt
 have SA := Lib.hid (sorted_any h)
 obtain ⟨i0, hi, hz1, hz2, hz3⟩ := info_partsM
 have hl1 := h.len.1
 have hs0 := h.sent.1
 have hs1 := h.sent.2
 clear h hB
 go_enter Tryz.func23, Tryz.ntmps23
 go_wp2_with fail
 refine (keys_any mvo w).mono ?_
 rintro e w1 ⟨rfl, hw1⟩
 rw [← hw1] at SA
 have B1 : Hid (Below w.heap.size w w1) := Lib.hid (by rw [hw1]; exact (Below.refl _ _).alloc (Nat.le_refl _) _)
 have hz : w1.heap.size = w.heap.size + 1 := by rw [hw1]; exact size_alloc _ _
 have HZ := Lib.hid hz
 clear hw1 hz
 go_wp2_with fail
 refine SA.out.mono ?_
 rintro e w2 ⟨v13, rfl, hrow, hb⟩
 have R2 := Lib.hid hrow
 have B2 : Hid (Below w.heap.size w w2) := Lib.hid (B1.out.trans ⟨hb.os, hb.tape, hb.output, hb.size, fun i hi => hb.block i (by omega)⟩)
 obtain ⟨a13, c13, rfl, hcells⟩ := row_cell hrow
 have HC := Lib.hid hcells
 have M2 := Lib.hid (H.out.up B2.out)
 have h2z : w.heap.size < w2.heap.size := by have := hb.size; have := HZ.out; omega
 clear hrow hb hcells SA B1
 go_wp2_with fail
 go_loopw [3, 15] (fun o i wr => ∃ k : Nat, k ≤ s.L.length ∧ i = .int .i64 k ∧ MRow wr w2.heap.size o (tickL s (s.L.take k)).2 ∧ AMem wr B b (tickL s (s.L.take k)).1 (.map mvo) (N + 1) ∧ Tn (fun k => k = b) w wr ∧ Tn (fun k => k = b ∨ w2.heap.size ≤ k) w2 wr) (fun _ i _ => s.L.length - (intOf i).toNat)
 case atStart =>
  refine ⟨0, Nat.zero_le _, rfl, ?_, ?_, Tn.of_below B2.out, Tn.refl _ _⟩
  ·exact MRow.nil _ _
  ·exact M2.out.mono (Nat.le_succ _) (by omega)
 case round =>
  obtain ⟨k, hk, rfl, hrow, hM, hT, hT2⟩ := hrel
  have RW := Lib.hid hrow
  have M3 := Lib.hid hM
  have T3 := Lib.hid hT
  have T32 := Lib.hid hT2
  clear hrow hM hT hT2 M2
  by_cases hlt : k < s.L.length
  ·obtain ⟨q, hq⟩ : ∃ q, s.L[k]? = some q := ⟨_, List.getElem?_eq_getElem hlt⟩
   have hqm : q ∈ s.L := List.mem_of_getElem? hq
   obtain ⟨g, hga, hcell⟩ : ∃ g, a13 = some ⟨g, 0, none⟩ ∧ wr.cell? ⟨g, k, none⟩ = some (i64 q.n) := by
    rcases HC.out with h0 | ⟨g, ha, ho, hc⟩
    ·omega
    ·have hg := row_lt R2.out g ho
     exact ⟨g, ha, T32.out.cell (hc k (i64 q.n) (by simp [hq])) (by rintro (h1 | h1) <;> (have : g = b ∨ w2.heap.size ≤ g := by first | exact .inl h1 | exact .inr h1); omega; omega)⟩
   subst hga
   obtain ⟨hsame, hsid, hscap, hs2, hs3, hmany⟩ := tickL_same (s.L.take k) s
   have hq2 : rq (tickL s (s.L.take k)).1.L q.n = some q := by rw [hsame]; exact rq_mem H.out.inOrder hqm
   have HQ := Lib.hid (H.out.ids.2.2 q hqm)
   have hlk := (M3.out.look HQ.out.1).2
   rw [rqAt_some hq2] at hlk
   unfold rqV at hlk
   have hfd := field_rq1 q.t q.st q.l wr
   have c3 : wr.cell? ⟨b, 3, none⟩ = some (.map mvo) := M3.out.blk.cell 3
   have hst : I64 q.st := ⟨by have := HQ.out.2.2.1; omega, by have := HQ.out.2.2.2.1; omega⟩
   have hlen : (s.L.take k).length ≤ k := by rw [List.length_take]; omega
   have hsnoc := tickL_snoc q (s.L.take k) s
   rw [show s.L.take k ++ [q] = s.L.take (k + 1) from by rw [List.take_add_one, hq]; rfl] at hsnoc
   obtain ⟨sk, hsk⟩ : ∃ sk, sk = tickL s (s.L.take k) := ⟨_, rfl⟩
   rw [← hsk] at RW M3 hsame hs2 hs3 hmany hq2 hsnoc
   have SN := Lib.hid hsnoc
   have HQ2 := Lib.hid hq2
   have hsl : sk.1.sent < 1000 * ((N + 1 : Nat) : Int) := by omega
   clear hsk hsnoc hq2 hsame hsid hscap hq
   go_wp2_with fail
   refine (repeated_any q.st hst wr).mono ?_
   rintro e w4 ⟨rfl, hb4⟩
   have M4 := Lib.hid (M3.out.up hb4)
   have RW4 : Hid (MRow w4 w2.heap.size u3 sk.2) := Lib.hid (ownsB_same RW.out fun r hr => hb4.block r (row_lt RW.out r hr).2)
   have T4 := Lib.hid (T3.out.trans (Tn.of_below hb4))
   have T42 := Lib.hid (T32.out.trans (Tn.of_below hb4))
   clear hb4 hlk hfd hcell c3 RW M3 T3 T32
   go_wp2_with fail
   refine (tell_any B b (N + 1) sk.1 (.map mvo) q.n (agn q.st) q w4 M4.out (Nat.le_trans HB.out T4.out.size) HQ2.out hsl HQ.out.1 (agn_i64 _)).mono ?_
   rintro e w5 ⟨v5, rfl, hm5, hM5, hT5⟩
   have hz4 := T4.out.size
   have M5 := Lib.hid hM5
   have RW5 : Hid (MRow w5 w2.heap.size u3 sk.2) := Lib.hid (hT5.row RW4.out fun r hr e => by have := (row_lt RW4.out r hr).1; omega)
   have T5 := Lib.hid (T4.out.trans hT5)
   have T52 := Lib.hid (T42.out.trans (hT5.mono fun k hk => .inl hk))
   have hms : (sk.1.tell q (agn q.st)).2 = [] ∨ ∃ m, (sk.1.tell q (agn q.st)).2 = [m] := tell_cases _ _ _
   have ML := Lib.hid hmany
   clear hM5 hT5 M4 RW4 T4 T42
   rcases hms with hms | ⟨m, hms⟩
   ·rw [hms] at hm5
    have hv5 : v5 = .slice none 0 0 := hm5
    subst hv5
    have MS := Lib.hid hms
    clear hms hm5
    go_wp2_with (at_builtin; go_must (refine Go.wpList_append_own_none rfl (.tmp 19) (.tmp 30) 38 rfl w2.heap.size 31 i0 4 Tryz.underlying38 hi u3 sk.2.length (mcells sk.2) (by rfl) RW5.out (by rfl) ?_))
    refine ⟨⟨k + 1, hlt, by go_num, ?_, ?_, T5.out, T52.out⟩, by simp [intOf]; omega⟩
    ·rw [SN.out, MS.out, List.append_nil]; exact RW5.out
    ·rw [SN.out]; exact M5.out
   ·rw [hms] at hm5
    obtain ⟨g5, hg5, rfl, hb5⟩ := hm5
    have MS := Lib.hid hms
    have G5 := Lib.hid hb5
    have hn1 : sk.2.length + 1 ≤ 1001 := by have := ML.out; omega
    clear hms hb5
    go_wp2_with (at_builtin; go_must (refine wpList_append_own_at _ rfl (.tmp 19) (.tmp 30) 38 rfl w2.heap.size 31 i0 (.agg #[i64 0, i64 0, i64 0, .string ⟨#[]⟩]) 4 40 Tryz.underlying38 hi hz1 hz2 hz3 rfl (by decide) u3 sk.2.length (mcells sk.2) (by rfl) RW5.out ⟨g5, 0, none⟩ 1 1 (encM m).toList (by rfl) (by simp [encM]) (blk_news G5.out) (enc_one m) (by unfold maxLen; omega) (by omega) (by have := T52.out.size; omega) ?_; intro v6 w6 hown6 hgrow hnil6 hat6))
    have R6 : Hid (MRow w6 w2.heap.size v6 (sk.2 ++ [m])) := Lib.hid (by
     unfold MRow
     rw [mcells_app, List.length_append]
     have e : mcells [m] = (encM m).toList := by simp [mcells]
     rw [e]; exact hown6)
    have TG : Hid (Tn (fun k => u3.ownBlock = some k) w5 w6) := Lib.hid ((Tn.of_grown hgrow).mono fun k hk => hk)
    have hu3 : ∀ k, u3.ownBlock = some k → w2.heap.size ≤ k := fun k hk => (row_lt RW5.out k hk).1
    have hu3b : ∀ k, u3.ownBlock = some k → k < w5.heap.size := fun k hk => (row_lt RW5.out k hk).2
    refine ⟨⟨k + 1, hlt, by go_num, ?_, ?_, ?_, ?_⟩, by simp [intOf]; omega⟩
    ·rw [SN.out, MS.out]; exact R6.out
    ·rw [SN.out]; refine M5.out.keep TG.out fun k hk ho => ?_
     have h1 := hu3 k hk
     have h2 := (H.out.own_lt ho).2
     omega
    ·exact T5.out.then_ TG.out fun k hk => .inr (by have := hu3 k hk; omega)
    ·exact T52.out.then_ TG.out fun k hk => .inl (.inr (hu3 k hk))
  ·have hkk : k = s.L.length := by omega
   subst hkk
   have e1 : tickL s (s.L.take s.L.length) = s.tick := by rw [List.take_length]; rfl
   rw [e1] at RW M3
   clear e1 hk
   go_wp2_with fail
   go_ret
   exact ⟨_, rfl, row_mono RW.out (by omega), M3.out, T3.out⟩
end Go.Proofs.YtdojgbpaheadnaaGreat

/- An asker sends a copy back. -/
namespace Go.Proofs.YtdojgbpaheadnaaGreat
open Go.RowKit Go.Shelf Go.Maps Go.ChangeMaps

set_option maxRecDepth 100000 in
set_option maxHeartbeats 4000000 in
theorem return_any (B b N : Nat) (s : Asr) (mv : Value) (n : Int) (w : World) (h : AMem w B b s mv N) (hB : B ≤ w.heap.size) (hN : N < 90000) (hn : I64 n) :
  Calls Tryz.prog 21 #[.pointer (some ⟨b, 0, none⟩), i64 n] w (AskE B b N s mv (s.ret n) w) := by
 have H := Lib.hid h
 have HB := Lib.hid hB
 have HN := Lib.hid hn
 have c3 : w.cell? ⟨b, 3, none⟩ = some mv := h.blk.cell 3
 have hlk := (h.look hn).1
 unfold rqV at hlk
 have hbl := h.blk.lt
 have HL := Lib.hid h.len
 have FN : Hid (∀ c, s.ret n = ((s, []), c) → ∀ W, Below w.heap.size w W → AskE B b N s mv (s.ret n) w (.returned (.tuple #[.slice none 0 0, i64 c])) W) := Lib.hid fun c e W hW =>
  ⟨_, mv, by rw [e], by rw [e]; rfl, by rw [e]; exact (H.out.up hW).mono (Nat.le_succ _) (by omega), Tn.of_below hW, fun k h => .inl h⟩
 clear h hn hB
 cases hq : rq s.L n with
 | none =>
  rw [hq] at hlk
  have F := Lib.hid (FN.out 32 (by unfold Asr.ret; rw [hq]))
  clear hq
  go_enter Tryz.func21, Tryz.ntmps21
  go_wp2_with fail
  go_ret2
  exact F.out _ ((Below.refl _ _).alloc (Nat.le_refl _) _)
 | some q =>
  rw [rqAt_some hq, hq] at hlk
  obtain ⟨hqm, hqn⟩ := rq_some hq
  by_cases hst : q.st = 4
  ·obtain ⟨mb, rfl⟩ : ∃ mb, mv = .map (some mb) := by
    rcases H.out.map with ⟨_, h⟩ | ⟨mb, _, _, h, _⟩
    ·rw [h] at hq; cases hq
    ·exact ⟨mb, h⟩
   have hmb := (H.out.own_lt (.inr rfl : OwnA b (.map (some mb)) mb)).2
   subst hqn
   have HQ := Lib.hid (H.out.ids.2.2 q hqm)
   have RES : Hid (s.ret q.n = (({ s with L := setQ { q with st := 5 } s.L } : Asr).tell { q with st := 5 } 11, 0)) := Lib.hid (by
    unfold Asr.ret; rw [hq]; dsimp only; rw [if_neg (by rw [hst]; simp)])
   have HQQ := Lib.hid hq
   rw [hst] at hlk
   obtain ⟨g, hg⟩ : ∃ g, g = w.heap.size := ⟨_, rfl⟩
   obtain ⟨w1, hw1⟩ : ∃ w1, w1 = w.alloc (.cells #[i64 q.t, i64 5, i64 q.l] 130) := ⟨_, rfl⟩
   have G1 : Hid (Blk w1 g #[i64 q.t, i64 5, i64 q.l] 130) := Lib.hid (by rw [hw1, hg]; exact Blk.new _ _ _)
   have B1 : Hid (Below w.heap.size w w1) := Lib.hid (by rw [hw1]; exact (Below.refl _ _).alloc (Nat.le_refl _) _)
   have M1 := Lib.hid (H.out.up B1.out)
   have HG := Lib.hid hg
   have HW := Lib.hid hw1
   clear hq hst hqm hw1 hg
   go_enter Tryz.func21, Tryz.ntmps21
   go_wp2_with fail
   rw [← HG.out, ← HW.out]
   obtain ⟨S, hS⟩ : ∃ S : World → Prop, S = fun W => ∃ n, W = w1.drewN n := ⟨_, rfl⟩
   have LDD : Hid (∀ W, S W → W.cell? ⟨b, 3, none⟩ = some (.map (some mb))) := Lib.hid (by rw [hS]; rintro W ⟨n, rfl⟩; exact M1.out.blk.cell 3)
   have LDB : Hid (∀ W, S W → Blk W g #[i64 q.t, i64 5, i64 q.l] 130) := Lib.hid (by rw [hS]; rintro W ⟨n, rfl⟩; exact G1.out.drewN n)
   have SS : Hid (∀ W, S W → ∃ n, W = w1.drewN n) := Lib.hid (by rw [hS]; exact fun W h => h)
   have hHeld : S w1.drew := by rw [hS]; exact ⟨1, rfl⟩
   clear hS c3 hlk
   refine wp_region_sp 6 S (by kernel_rfl) (by kernel_rfl) ?_
   simp only [List.take_succ_cons, List.take_zero]
   apply wpAnyH_apart S
   case take =>
    intro R hR
    refine tk 0 (v := ?_) rfl hHeld ?_ ?_; rotate_left
    ·(intro w hSw; have l0 := LDD.out w hSw; go_simp; try (with_reducible rfl))
    try simp only [gZ]
    refine tk 1 (v := ?_) rfl hHeld ?_ ?_; rotate_left
    ·(intro w hSw; have l0 := LDD.out w hSw; go_simp; try (with_reducible rfl))
    try simp only [gZ]
    refine tk 2 (v := ?_) rfl hHeld ?_ ?_; rotate_left
    ·(intro w hSw; have l0 := LDD.out w hSw; go_simp; try (with_reducible rfl))
    try simp only [gZ]
    refine tk 3 (v := ?_) rfl hHeld ?_ ?_; rotate_left
    ·(intro w hSw; have l0 := LDD.out w hSw; go_simp; try (with_reducible rfl))
    try simp only [gZ]
    refine tk 4 (v := ?_) rfl hHeld ?_ ?_; rotate_left
    ·(intro w hSw; have l0 := LDD.out w hSw; go_simp; try (with_reducible rfl))
    try simp only [gZ]
    refine wpAnyH_take (i := 5) (v := .agg #[i64 q.t, i64 5, i64 q.l]) rfl (by kernel_rfl) (by kernel_rfl) (by kernel_rfl) (fun _ _ _ h => only_panic h) ?_ hHeld ?_
    ·exact yields_row (.tmp 6) (by rfl) rfl rfl LDB.out Tryz.underlying130 rfl (by kernel_rfl)
    try simp only [gZ]
    exact wpAnyH_done (by kernel_rfl) ⟨rfl, hR _ hHeld⟩ _
   intro W hW
   obtain ⟨n1, rfl⟩ := SS.out W hW
   have hx : rq s.L ({ q with st := 5 } : Rq).n = some q := HQQ.out
   obtain ⟨w5, hrun, hM5, hT5⟩ := (M1.out.drewN n1).put (q := { q with st := 5 }) (L' := setQ { q with st := 5 } s.L) (rq_set' hx) (set_sortedQ M1.out.inOrder) (fun y hy => by
    rcases set_memQ hy with rfl | hy
    ·exact ⟨HQ.out.1, HQ.out.2.1, by dsimp only; omega, by dsimp only; omega, HQ.out.2.2.2.2⟩
    ·exact M1.out.ids.2.2 y hy) HQ.out.1 (by rw [set_lenQ]; have := M1.out.len.1; omega) (by omega)
   have hrun' : (Instr.mapUpdate 53 (.map (some mb)) (i64 q.n) (.agg #[i64 q.t, i64 5, i64 q.l])).run Tryz.prog (w1.drewN n1) = .ok () w5 := hrun
   have M5 := Lib.hid hM5
   have T5 : Hid (Tn (OwnA b (.map (some mb))) w w5) := Lib.hid ((Tn.of_below (bdrewN B1.out n1)).trans (hT5.mono fun k hk => .inr (by rw [hk])))
   simp only [endN, List.drop_succ_cons, List.drop_zero, Act.put, List.setIfInBounds_toArray, List.set_cons_zero, List.set_cons_succ]
   clear hHeld hW SS LDD LDB S hrun hM5 hT5
   go_wp2_with fail
   refine (tell_any B b (N + 1) { s with L := setQ { q with st := 5 } s.L } (.map (some mb)) q.n 11 { q with st := 5 } w5 M5.out (Nat.le_trans HB.out T5.out.size) ((rq_set' (q := { q with st := 5 }) hx q.n).trans (if_pos rfl)) (by have := M1.out.sent.2; show s.sent < 1000 * ((N + 1 : Nat) : Int); omega) HQ.out.1 ⟨by omega, by omega⟩).mono ?_
   rintro e w6 ⟨v6, rfl, hm6, hM6, hT6⟩
   have F : Hid (AskE B b N s (.map (some mb)) (s.ret q.n) w (.returned (.tuple #[v6, i64 0])) w6) := Lib.hid (by
    rw [RES.out]
    exact ⟨v6, _, rfl, hm6.mono T5.out.size, hM6, T5.out.trans (hT6.mono fun k hk => .inl hk), fun k hk => .inl hk⟩)
   clear hm6 hM6 hT6 hrun'
   go_wp2_with fail
   go_ret2
   exact F.out
  ·have F := Lib.hid (FN.out 50 (by unfold Asr.ret; rw [hq]; dsimp only; rw [if_pos hst]))
   have hst2 : (q.st != 4) = true := by simp [hst]
   clear hq hqm
   go_enter Tryz.func21, Tryz.ntmps21
   go_wp2_with fail
   go_ret2
   exact F.out _ ((Below.refl _ _).alloc (Nat.le_refl _) _)
end Go.Proofs.YtdojgbpaheadnaaGreat
