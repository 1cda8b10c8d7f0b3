/- An asker in memory. -/
import Derived.Test.YtdojgbpaheadnaaGreatQP
import Derived.Test.YtdojgbpaheadnaaGreatQLE
import Derived.Sort.KeysCollected
import Derived.Lib.SlKeysI
set_option linter.unusedVariables false
set_option linter.unusedSimpArgs false

namespace Go.Proofs.YtdojgbpaheadnaaGreat
open Go.RowKit Go.Shelf Go.Maps Go.ChangeMaps

def rqD (q : Rq) : DataW Unit := .agg [.lit (.int .i64 q.t), .lit (.int .i64 q.st), .lit (.int .i64 q.l)]
def rqV (t st l : Int) : Value := .agg #[i64 t, i64 st, i64 l]
/-- How a request reads. -/
def RQ (v : Value) : Option (DataW Unit × List MemPlace) :=
  match v with
  | .agg ⟨[.int .i64 t, .int .i64 s, .int .i64 l]⟩ => some (.agg [.lit (.int .i64 t), .lit (.int .i64 s), .lit (.int .i64 l)], [])
  | _ => none
theorem RQ_mk (q : Rq) : RQ (rqV q.t q.st q.l) = some (rqD q, []) := rfl
theorem RQ_inv {v : Value} {q : Rq} {ps : List MemPlace} (h : RQ v = some (rqD q, ps)) : v = rqV q.t q.st q.l := by
  unfold RQ at h
  split at h
  · simp only [Option.some.injEq, Prod.mk.injEq, rqD] at h
    obtain ⟨h, _⟩ := h
    injection h with h
    simp only [List.cons.injEq, DataW.lit.injEq, Lit.int.injEq, true_and, and_true] at h
    obtain ⟨h1, h2, h3⟩ := h
    subst h1 h2 h3; rfl
  · cases h
/-- The map says what the list says. -/
def FitQ (f : Lit → Option (DataW Unit)) (L : List Rq) : Prop := ∀ l, f l = match l with | .int .i64 k => (rq L k).map rqD | _ => none
theorem FitQ.at_ {f : Lit → Option (DataW Unit)} {L : List Rq} (h : FitQ f L) (k : Int) : f (.int .i64 k) = (rq L k).map rqD := h _
theorem fitQ_upd {f : Lit → Option (DataW Unit)} {L L' : List Rq} {q : Rq} (h : FitQ f L) (hL : ∀ k, rq L' k = if k = q.n then some q else rq L k) : FitQ (updL f (.int .i64 q.n) (rqD q)) L' := fun l => by
  unfold updL
  by_cases e : l = .int .i64 q.n
  · subst e; rw [if_pos rfl]; dsimp only; rw [hL, if_pos rfl]; rfl
  · rw [if_neg e, h l]
    split
    · rename_i k
      rw [hL, if_neg fun hk => e (by rw [hk])]
    · rfl
theorem keyI : Keyed Tryz.prog 3 := Maps.int_keyed Tryz.underlying3
theorem wfI0 {x : Int} (h : I64 x) : (Lit.int .i64 x).wf = true := WalkArith.wf_i64 (by have := h.1; have := h.2; omega)
theorem keyOfI {x : Int} (h : I64 x) : keyOf Tryz.prog 3 (.int .i64 x) = some (.int .i64 x) := Maps.keyOf_int_mk Tryz.underlying3 (wfI0 h)
theorem isKeyI {x : Int} (h : I64 x) : WideAt.IsKeyLit (.int .i64 x) := keyI.key (keyOfI h)
structure AMem (w : World) (B b : Nat) (s : Asr) (mv : Value) (N : Nat) : Prop where
  blk : Blk w b #[i64 s.id, i64 s.sent, i64 s.cap, mv] 55
  map : (mv = .map none ∧ s.L = []) ∨ ∃ mb n f, mv = .map (some mb) ∧ MapF w Tryz.prog 3 RQ mb n f ∧ FitQ f s.L ∧ n ≤ N ∧ mb ≠ b ∧ B ≤ mb
  inOrder : SortedQ s.L
  lo : B ≤ b
  sent : 0 ≤ s.sent ∧ s.sent ≤ 1000 * N
  ids : I64 s.id ∧ I64 s.cap ∧ ∀ q ∈ s.L, I64 q.n ∧ I64 q.t ∧ 1 ≤ q.st ∧ q.st ≤ 7 ∧ I64 q.l
  len : s.L.length ≤ N ∧ N ≤ 100000
/-- What an asker owns. -/
def OwnA (b : Nat) (mv : Value) (k : Nat) : Prop := k = b ∨ mv = .map (some k)
theorem zeroQ (w : World) : (zeroValue 130).run Tryz.prog w = .ok (rqV 0 0 0) w := by kernel_rfl
/-- What is at a number. -/
def rqAt (L : List Rq) (n : Int) : Rq := match rq L n with | some q => q | none => ⟨n, 0, 0, 0⟩
section
variable {w : World} {B b N : Nat} {s : Asr} {mv : Value}
theorem AMem.look (h : AMem w B b s mv N) {n : Int} (hn : I64 n) :
    (Instr.lookup 53 mv (i64 n) true).run Tryz.prog w = .ok (.tuple #[rqV (rqAt s.L n).t (rqAt s.L n).st (rqAt s.L n).l, .bool (rq s.L n).isSome]) w ∧
    (Instr.lookup 53 mv (i64 n) false).run Tryz.prog w = .ok (rqV (rqAt s.L n).t (rqAt s.L n).st (rqAt s.L n).l) w := by
  rcases h.map with ⟨rfl, hL⟩ | ⟨mb, n', f, rfl, hm, hf, _⟩
  · have e0 : rq s.L n = none := by rw [hL]; rfl
    have h1 := Maps.look_nil (w := w) true keyI Tryz.underlying53 (zeroQ w) (keyOfI hn)
    have h2 := Maps.look_nil (w := w) false keyI Tryz.underlying53 (zeroQ w) (keyOfI hn)
    unfold rqAt
    rw [e0]
    exact ⟨h1, h2⟩
  · have hzd : RQ (rqV 0 0 0) = some (rqD ⟨n, 0, 0, 0⟩, []) := rfl
    obtain ⟨v, ps, hr1, hv1⟩ := hm.look_ok keyI Tryz.underlying53 (zeroQ w) hzd (keyOfI hn)
    obtain ⟨v2, ps2, hr2, hv2⟩ := hm.look keyI Tryz.underlying53 (zeroQ w) hzd (keyOfI hn)
    have e : ((rq s.L n).map rqD).getD (rqD ⟨n, 0, 0, 0⟩) = rqD (rqAt s.L n) := by unfold rqAt; cases rq s.L n <;> rfl
    rw [hf.at_, e] at hv1 hv2
    rw [RQ_inv hv1, hf.at_, Option.isSome_map] at hr1
    rw [RQ_inv hv2] at hr2
    exact ⟨hr1, hr2⟩
theorem AMem.keep {w' : World} {F : Nat → Prop} (h : AMem w B b s mv N) (t : Tn F w w') (hF : ∀ k, F k → OwnA b mv k → False) : AMem w' B b s mv N where
  blk := t.blk h.blk fun hb => hF b hb (.inl rfl)
  map := h.map.imp id fun ⟨mb, n, f, e, hm, h2, h3, h4, h5⟩ => ⟨mb, n, f, e, hm.keep t fun hb => hF mb hb (.inr e), h2, h3, h4, h5⟩
  inOrder := h.inOrder
  lo := h.lo
  sent := h.sent
  ids := h.ids
  len := h.len
theorem AMem.up {w' : World} (h : AMem w B b s mv N) (hb : Below w.heap.size w w') : AMem w' B b s mv N := h.keep (F := fun _ => False) (Tn.of_below hb) fun _ h => h.elim
theorem AMem.drew (h : AMem w B b s mv N) : AMem w.drew B b s mv N := h.up (Below.refl _ _).drew
theorem AMem.drewN (h : AMem w B b s mv N) (n : Nat) : AMem (w.drewN n) B b s mv N := h.up (bdrewN (Below.refl _ _) n)
theorem AMem.mono {N' : Nat} (h : AMem w B b s mv N) (hN : N ≤ N') (hN' : N' ≤ 100000) : AMem w B b s mv N' :=
  ⟨h.blk, h.map.imp id fun ⟨mb, n, f, h1, h2, h3, h4, h5⟩ => ⟨mb, n, f, h1, h2, h3, by omega, h5⟩, h.inOrder, h.lo, ⟨h.sent.1, by have := h.sent.2; omega⟩, h.ids, ⟨by have := h.len.1; omega, hN'⟩⟩
theorem AMem.own_lt (h : AMem w B b s mv N) {k : Nat} (hk : OwnA b mv k) : B ≤ k ∧ k < w.heap.size := by
  rcases hk with rfl | rfl
  · exact ⟨h.lo, h.blk.lt⟩
  · rcases h.map with ⟨e, _⟩ | ⟨mb, n, f, e, hm, _, _, _, h5⟩
    · cases e
    · injection e with e; injection e with e; subst e; exact ⟨h5, hm.lt⟩
set_option maxRecDepth 100000 in
/-- A store into the map of requests. -/
theorem AMem.put {mb : Nat} (h : AMem w B b s (.map (some mb)) N) {q : Rq} {L' : List Rq} (hL : ∀ k, rq L' k = if k = q.n then some q else rq s.L k) (hs : SortedQ L')
    (hid : ∀ q ∈ L', I64 q.n ∧ I64 q.t ∧ 1 ≤ q.st ∧ q.st ≤ 7 ∧ I64 q.l) (hn : I64 q.n) (hl : L'.length ≤ N + 1) (hN : N < 100000) :
    ∃ w', (Instr.mapUpdate 53 (.map (some mb)) (i64 q.n) (rqV q.t q.st q.l)).run Tryz.prog w = .ok () w' ∧ AMem w' B b { s with L := L' } (.map (some mb)) (N + 1) ∧ Tn (fun k => k = mb) w w' := by
  rcases h.map with ⟨e0, _⟩ | ⟨mb', n, f, e0, hm, hf, hn1, hne, hB⟩
  · cases e0
  · injection e0 with e0; injection e0 with e0; subst e0
    have hn2 : n < maxLen := Nat.lt_trans (show n < 100001 by omega) (by decide)
    obtain ⟨w', hr1, hm', hg⟩ := hm.put keyI Tryz.underlying53 hn2 (keyOfI hn) (RQ_mk q)
    have tt : Tn (fun k => k = mb) w w' := (Tn.of_grown hg).mono fun b hb => by injection hb with hb; exact hb.symm
    refine ⟨w', hr1, ⟨tt.blk h.blk (Ne.symm hne), .inr ⟨mb, n + 1, _, rfl, hm', fitQ_upd hf hL, by omega, hne, hB⟩, hs, h.lo, ⟨h.sent.1, by have := h.sent.2; show s.sent ≤ 1000 * ((N + 1 : Nat) : Int); omega⟩, ⟨h.ids.1, h.ids.2.1, hid⟩, ⟨hl, by omega⟩⟩, tt⟩
/-- A message has been sent. -/
theorem AMem.sent1 {w' : World} (h : AMem w B b s mv N) (hs : s.sent < 1000 * N) (hb : Below w.heap.size (w.setCell ⟨b, 1, none⟩ (i64 (s.sent + 1))) w') : AMem w' B b { s with sent := s.sent + 1 } mv N ∧ Tn (fun k => k = b) w w' := by
  have t1 : Tn (fun k => k = b) w (w.setCell ⟨b, 1, none⟩ (i64 (s.sent + 1))) := (Tn.refl (fun k => k = b) w).setCell (p := ⟨b, 1, none⟩) (.inl rfl) _
  have hz : (w.setCell ⟨b, 1, none⟩ (i64 (s.sent + 1))).heap.size = w.heap.size := by simp
  have t : Tn (fun k => k = b) w w' := t1.trans (Tn.of_below (by rw [hz]; exact hb))
  exact ⟨⟨(((h.blk.set 1 (i64 (s.sent + 1))).below hb h.blk.lt).cast rfl), h.map.imp id fun ⟨mb, n, f, h1, h2, h3, h4, h5, h6⟩ => ⟨mb, n, f, h1, h2.keep t h5, h3, h4, h5, h6⟩, h.inOrder, h.lo, ⟨by have := h.sent.1; show 0 ≤ s.sent + 1; omega, by show s.sent + 1 ≤ _; omega⟩, h.ids, h.len⟩, t⟩
/-- The map as it is ranged over. -/
theorem AMem.keys {mb : Nat} (h : AMem w B b s (.map (some mb)) N) : ∃ D n f, w.ownsMap Tryz.prog 3 RQ mb n D ∧ n ≤ N ∧ RepL D f ∧ FitQ f s.L ∧ (s.L.map Rq.n).Perm (intKeys D) := by
  rcases h.map with ⟨e0, _⟩ | ⟨mb', n, f, e0, hm, hf, hn1, hne, hB⟩
  · cases e0
  · injection e0 with e0; injection e0 with e0; subst e0
    obtain ⟨D, hown, hR⟩ := hm
    refine ⟨D, n, f, hown, hn1, hR, hf, ?_⟩
    obtain ⟨es, rfl, hp⟩ := hown.tidy keyI
    obtain ⟨es', hD', hko⟩ := hown.keysOf
    obtain rfl : es = es' := by simpa using hD'
    refine perm_intKeys hp (fun p hp' => ?_) ?_ fun x => ?_
    · obtain ⟨v, hv⟩ := hko p hp'
      obtain ⟨x, _, hx, _⟩ := Maps.keyOf_i64 Tryz.underlying3 hv
      exact ⟨x, hx⟩
    · unfold List.Nodup
      rw [List.pairwise_map]
      exact h.inOrder.imp fun {a b} hab => by omega
    · rw [hR.has, hf.at_, Option.isSome_map, List.mem_map]
      constructor
      · rintro ⟨q, hq, rfl⟩; rw [rq_mem h.inOrder hq]; rfl
      · intro hl
        obtain ⟨q, hq⟩ := Option.isSome_iff_exists.1 hl
        exact ⟨q, (rq_some hq).1, (rq_some hq).2⟩
end
/-- What comes out of the range over the map. -/
def mkQ (c : Int × Int × Int) : Value := rqV c.1 c.2.1 c.2.2
theorem invQ (v : Value) (y : DataW Unit × List MemPlace) (h : RQ v = some y) : ∃ c, v = mkQ c := by
  unfold RQ at h
  split at h
  · rename_i t s l; exact ⟨(t, s, l), rfl⟩
  · cases h
theorem invI (key : Value) (kl : Lit) (h : keyOf Tryz.prog 3 key = some kl) : ∃ x, key = Value.int .i64 x := by
  obtain ⟨x, h1, _⟩ := Maps.keyOf_int_inv Tryz.underlying3 h
  exact ⟨x, h1⟩
theorem cameQ {D : DataW Unit} {f : Lit → Option (DataW Unit)} {L : List Rq} (hR : RepL D f) (hf : FitQ f L) {x : Int} {c : Int × Int × Int} {kl : Lit} {y : DataW Unit × List MemPlace} (hkey : keyOf Tryz.prog 3 (.int .i64 x) = some kl) (hv : RQ (mkQ c) = some y) (hat : ∀ zd, D.atKey kl zd = y.1) :
    ∃ q ∈ L, q.n = x ∧ kl = .int .i64 x ∧ mkQ c = rqV q.t q.st q.l := by
  obtain ⟨x', h1, rfl, _⟩ := Maps.keyOf_int_inv Tryz.underlying3 hkey
  injection h1 with _ h1
  subst h1
  cases hq : rq L x with
  | some q =>
    refine ⟨q, (rq_some hq).1, (rq_some hq).2, rfl, ?_⟩
    have h2 := hat .nil
    rw [hR.at_, hf.at_, hq] at h2
    obtain ⟨y1, y2⟩ := y
    obtain rfl : y1 = rqD q := h2.symm
    exact RQ_inv hv
  | none =>
    exfalso
    have h1 := hat .nil
    have h2 := hat (.lit (.int .i64 0))
    rw [hR.at_, hf.at_, hq] at h1 h2
    rw [← h1] at h2; cases h2
/-- One request more has come. -/
theorem filter_strike (P : Rq → Bool) (lf lf' : Int → Bool) (q : Rq) (hs : lf' q.n = false) (hne : ∀ z, z ≠ q.n → lf' z = lf z) (hl : lf q.n = true) : ∀ L : List Rq, SortedQ L → q ∈ L →
    (L.filter fun z => P z && !lf' z.n).Perm ((L.filter fun z => P z && !lf z.n) ++ if P q then [q] else [])
  | [], _, h => by cases h
  | x :: L, hso, h => by
    unfold SortedQ at hso
    rw [List.pairwise_cons] at hso
    rw [List.filter_cons, List.filter_cons]
    rcases List.mem_cons.1 h with rfl | h
    · have e : (L.filter fun z => P z && !lf' z.n) = L.filter fun z => P z && !lf z.n := List.filter_congr fun z hz => by
        have := hso.1 z hz
        rw [hne z.n (by omega)]
      rw [e, hs, hl]
      cases P q with
      | true => simpa using (List.perm_append_comm (l₁ := [q])).symm.symm
      | false => simp
    · have := hso.1 q h
      rw [hne x.n (by omega)]
      have ih := filter_strike P lf lf' q hs hne hl L hso.2 h
      split
      · exact ih.cons x
      · exact ih
theorem strikeQ_self (left : Lit → Bool) {x : Int} (hx : I64 x) : (left (.int .i64 x) && !(Lit.int .i64 x).sameKey (.int .i64 x)) = false := by
  rw [WideAt.sameKey_self (isKeyI hx)]; simp
theorem strikeQ_ne (left : Lit → Bool) {x z : Int} (h : z ≠ x) : (left (.int .i64 z) && !(Lit.int .i64 z).sameKey (.int .i64 x)) = left (.int .i64 z) := by
  cases e : (Lit.int .i64 z).sameKey (.int .i64 x) with
  | false => simp
  | true => have := WideAt.sameKey_eq e; injection this with _ this; exact absurd this h
end Go.Proofs.YtdojgbpaheadnaaGreat
