/- The key of a field. -/
import Derived.Test.YtpdldbapagchfaaGreatDoorQ06
import Derived.Test.YtpdldbapagchfaaGreatDoorQ07
import Derived.StillTail
import Derived.Test.YtpdldbapagchfaaGreatDoorQ03
set_option linter.unusedVariables false
set_option linter.unusedSimpArgs false

namespace Go.Proofs.YtpdldbapagchfaaGreatDoor
open Go.RowKit Go.Shelf Go.Maps

/-- What is kept of a field for its key. -/
structure FldOk (f : Fld) : Prop where
  data : f.data.size < 100
  subs : f.subs.length ≤ 1000
  each : ∀ s ∈ f.subs, s.c < 256 ∧ s.t.size ≤ 1000
def segP (s : Sub) : UInt8 × List UInt8 := (UInt8.ofNat s.c, (foldS tabC s.t).data.toList)
def keyP (f : Fld) : List UInt8 := keyL Lib.decDigits f.data.data.toList (f.subs.map segP)
/-- .. as far as it is written behind k subfields. -/
def keyN (f : Fld) (k : Nat) : List UInt8 := keyL Lib.decDigits f.data.data.toList ((f.subs.take k).map segP)
theorem segs_app : ∀ (a b : List (UInt8 × List UInt8)), segs (a ++ b) = segs a ++ segs b
  | [], b => rfl
  | (c, s) :: a, b => by simp [segs, segs_app a b]
theorem keyL_app (num : Nat → List UInt8) (d : List UInt8) (a b : List (UInt8 × List UInt8)) : keyL num d (a ++ b) = keyL num d a ++ segs b := by
  simp [keyL, segs_app]
theorem keyN_step {f : Fld} {k : Nat} {s : Sub} (h : f.subs[k]? = some s) : keyN f (k + 1) = ((keyN f k ++ [0]) ++ [UInt8.ofNat s.c]) ++ (foldS tabC s.t).data.toList := by
  unfold keyN
  rw [List.take_add_one, h, Option.toList_some, List.map_append, keyL_app]
  simp [segs, segP]
theorem keyN_all {f : Fld} : keyN f f.subs.length = keyP f := by unfold keyN keyP; rw [List.take_length]
theorem dsz (s : ByteArray) : s.data.toList.length = s.size := Array.length_toList
theorem keyN_zero {f : Fld} : keyN f 0 = Lib.decDigits f.data.size ++ 32 :: f.data.data.toList := by
  unfold keyN keyL; rw [dsz]; simp [segs]
theorem decD_len (i : Nat) (h : i < 100) : (Lib.decDigits i).length ≤ 2 := by
  have : ∀ i : Fin 100, (Lib.decDigits i.val).length ≤ 2 := by decide +kernel
  exact this ⟨i, h⟩
theorem keyN_len {f : Fld} (h : FldOk f) : ∀ k, k ≤ f.subs.length → (keyN f k).length ≤ 200 + k * 10100
  | 0, _ => by
    rw [keyN_zero, List.length_append, List.length_cons]
    have := decD_len f.data.size h.data
    have h2 := h.data
    have h3 := dsz f.data
    omega
  | k + 1, hk => by
    have hx := List.getElem?_eq_getElem (show k < f.subs.length by omega)
    have h1 := keyN_len h k (by omega)
    have h2 := foldS_size f.subs[k].t
    have h3 := (h.each _ (List.getElem_mem (show k < f.subs.length by omega))).2
    rw [keyN_step hx]
    simp only [List.length_append, List.length_cons, List.length_nil]
    have h4 := dsz (foldS tabC f.subs[k].t)
    omega
set_option maxRecDepth 100000 in
set_option maxHeartbeats 4000000 in
theorem key_any (S : Nat → Prop) {w : World} {cs : List Value} {f : Fld} (h : FldR S w cs f) (hf : FldOk f) :
    Calls Tryz.prog 75 #[.agg cs.toArray] w fun e w' => e = .returned (.string (ofL (keyP f))) ∧ Below w.heap.size w w' := by
  obtain ⟨sv, rfl, hs⟩ := h
  have HS : RowKit.Hid (SubsAt (fun b => b < w.heap.size) w sv f.subs) := Lib.hid (SlOf.keep (by omega) (SlOf.lowS (by omega) hs) (fun _ _ _ => rfl) (fun _ _ h => h) (fun _ h _ => h.2))
  obtain ⟨a, cap, rfl, -⟩ := hs
  obtain ⟨n, hn⟩ : ∃ n, n = f.subs.length := ⟨_, rfl⟩
  have HF := Lib.hid hf
  have hl1 : n ≤ 1000 := by rw [hn]; exact hf.subs
  obtain ⟨X, hX⟩ : ∃ X : ByteArray, X = ⟨(Lib.decDigits f.data.size).toArray⟩ := ⟨_, rfl⟩
  have HIT : RowKit.Hid (∀ w, Calls Tryz.prog 96 #[.int .i64 f.data.size] w fun e w' => e = .returned (.string X) ∧ w' = w) := Lib.hid (by rw [hX]; exact Tryz.strconv_Itoa_small f.data.size hf.data)
  have hXz : X.size ≤ 2 := by rw [hX]; exact decD_len _ hf.data
  obtain ⟨X2, hX2⟩ : ∃ X2 : ByteArray, X2 = X ++ ⟨#[32]⟩ := ⟨_, rfl⟩
  have hX2z : X2.size ≤ 3 := by rw [hX2, ByteArray.size_append]; show X.size + 1 ≤ 3; omega
  obtain ⟨Y, hY⟩ : ∃ Y : ByteArray, Y = X2 ++ f.data := ⟨_, rfl⟩
  have hYz : Y.size ≤ 200 := by rw [hY, ByteArray.size_append]; have := hf.data; omega
  have HYD : RowKit.Hid (Y.data.toList = keyN f 0) := Lib.hid (by rw [hY, hX2, hX, keyN_zero]; simp)
  have hcc1 : ∀ W, (Op.stringOp .add X ⟨#[32]⟩).run Tryz.prog W = .ok (.string X2) W := fun W => by rw [hX2]; exact run_string_add_sum W _ _ (by show X.size + 1 ≤ 9223372036854775807; omega)
  have hcc2 : ∀ W, (Op.stringOp .add X2 f.data).run Tryz.prog W = .ok (.string Y) W := fun W => by rw [hY]; exact run_string_add_sum W _ _ (by have := hf.data; omega)
  clear hX hXz hX2 hX2z hY
  rw [← hn] at HS ⊢
  have HN := Lib.hid hn
  clear hn hf
  obtain ⟨tg, htg⟩ : ∃ tg, tg = f.tag := ⟨_, rfl⟩
  obtain ⟨id, hid⟩ : ∃ id, id = f.ind := ⟨_, rfl⟩
  obtain ⟨da, hda⟩ : ∃ da, da = f.data := ⟨_, rfl⟩
  rw [← hda] at HIT hcc2
  rw [← htg, ← hid, ← hda]
  have HDA := Lib.hid hda
  clear htg hid hda
  go_enter Tryz.func75, Tryz.ntmps75
  obtain ⟨b, hb⟩ : ∃ b, b = w.heap.size + 1 := ⟨_, rfl⟩
  obtain ⟨W1, hW1⟩ : ∃ W1, W1 = (w.alloc (.cells #[.string tg, .string id, .string da, .slice a n cap] 48)).alloc (.cells #[.pointer none, .slice none 0 0] 140) := ⟨_, rfl⟩
  have B1 : RowKit.Hid (Below w.heap.size w W1) := Lib.hid (by rw [hW1]; exact ((Below.refl _ _).alloc (Nat.le_refl _) _).alloc (by simp) _)
  have K1 : RowKit.Hid (Blk W1 w.heap.size #[.string tg, .string id, .string da, .slice a n cap] 48) := Lib.hid (by rw [hW1]; exact (Blk.new _ _ _).alloc _)
  have I1 : RowKit.Hid (IsB b b [] W1) := Lib.hid (by
    have h1 := isB_new (w.alloc (.cells #[.string tg, .string id, .string da, .slice a n cap] 48)) (w.heap.size + 1) (by simp)
    rw [size_alloc] at h1
    rw [hW1, hb]; exact h1)
  have Z1 : RowKit.Hid (W1.heap.size = b + 1) := Lib.hid (by rw [hW1, hb]; simp)
  have c2 : W1.cell? ⟨w.heap.size, 2, none⟩ = some (.string da) := K1.out.cell 2
  have hbw : w.heap.size < b := by omega
  go_wp2_with fail
  rw [← hW1]
  rw [← hb]
  clear hW1 hb
  refine wp_region_still_tail 8 (by kernel_rfl) (by kernel_rfl) ?_
  simp only [List.take_succ_cons, List.take_zero, List.drop_succ_cons, List.drop_zero]
  repeat still_step
  still_call (HIT.out _)
  repeat still_step
  refine wpStill_nil ?_
  clear hcc1 hcc2 HIT
  go_wp2_with fail
  refine (wstr_any b b [] Y W1.drew (I1.out.kept fun _ _ h _ => h) (by simp only [List.length_nil]; omega) (by show b ≤ W1.heap.size; have := Z1.out; omega)).mono ?_
  rintro e w2 ⟨rfl, hi2, hb2, -⟩
  rw [List.nil_append, HYD.out] at hi2
  have HI2 := Lib.hid hi2
  have K2 : RowKit.Hid (Blk w2 w.heap.size #[.string tg, .string id, .string da, .slice a n cap] 48) := Lib.hid ((hb2.block w.heap.size hbw).trans K1.out)
  have B2 : RowKit.Hid (Below w.heap.size w w2) := Lib.hid ((B1.out.trans ((Below.refl _ _).drew)).trans (hb2.mono (by omega)))
  have Z2 : RowKit.Hid (b + 1 ≤ w2.heap.size) := Lib.hid (by have h1 : W1.heap.size ≤ w2.heap.size := hb2.size; have h2 := Z1.out; omega)
  have c3 : w2.cell? ⟨w.heap.size, 3, none⟩ = some (.slice a n cap) := K2.out.cell 3
  clear hi2 hb2 hYz c2
  go_wp2_with fail
  go_loopw [18] (fun i wr => ∃ k : Nat, k ≤ n ∧ i = .int .i64 k ∧ IsB b b (keyN f k) wr ∧ Below w.heap.size w wr ∧ b + 1 ≤ wr.heap.size) (fun i _ => n - (intOf i).toNat)
  case atStart => exact ⟨0, by omega, rfl, HI2.out, B2.out, Z2.out⟩
  case round =>
    obtain ⟨k, hk, rfl, hi, hb, hz⟩ := hrel
    have HB := Lib.hid hb
    have HI := Lib.hid hi
    clear hb hi
    by_cases hlt : k < n
    · have hlx : k < f.subs.length := by rw [← HN.out]; exact hlt
      obtain ⟨b1, o1, cap1, cs1, e1, hbl, _, hR1, _, hg1, _⟩ := SlOf.range (by omega) (SubsAt.keep HS.out (Stay.of_below HB.out) (fun _ h _ => h)) hlx
      have e1' : a = some ⟨b1, o1, none⟩ := by injection e1
      clear e1
      subst e1'
      obtain ⟨x, hx⟩ : ∃ x, x = f.subs[k] := ⟨_, rfl⟩
      rw [← hx] at hR1
      have HX : RowKit.Hid (f.subs[k]? = some x) := Lib.hid (by rw [hx]; exact List.getElem?_eq_getElem _)
      have hxo := HF.out.each x (by rw [hx]; exact List.getElem_mem _)
      unfold SubR at hR1
      subst hR1
      have HG := Lib.hid hg1
      have HN1 := Lib.hid (keyN_len HF.out k (by omega))
      have HFS := Lib.hid (foldS_size x.t)
      clear hg1 hx
      go_wp2_with (refine wpList_load_mid rfl 54 (.tmp 20) rfl b1 (o1 + k * 2) rfl [.int .u8 x.c, .string x.t] _ HG.out Tryz.underlying54 rfl (by kernel_rfl) ?_)
      obtain ⟨g, hg⟩ : ∃ g, g = wr.heap.size := ⟨_, rfl⟩
      obtain ⟨W4, hW4⟩ : ∃ W4, W4 = wr.alloc (.cells #[.int .u8 x.c, .string x.t] 54) := ⟨_, rfl⟩
      have X4 : RowKit.Hid (W4.heap[g]? = some (.cells #[.int .u8 x.c, .string x.t] 54 (0, 0))) := Lib.hid (by rw [hW4, hg]; exact World.alloc_heap_new _ _)
      have I4 : RowKit.Hid (IsB b b (keyN f k) W4) := Lib.hid (by rw [hW4]; exact HI.out.alloc _)
      have B4 : RowKit.Hid (Below w.heap.size w W4) := Lib.hid (by rw [hW4]; exact HB.out.alloc (by omega) _)
      have Z4 : RowKit.Hid (W4.heap.size = g + 1) := Lib.hid (by rw [hW4, hg]; simp)
      have hgb : b < g := by omega
      rw [← hW4, ← hg]
      have HGE := Lib.hid hg
      clear hW4 hg
      refine (wstr_any b b (keyN f k) ⟨#[0]⟩ W4 I4.out (by have := HN1.out; show _ + 1 ≤ _; omega) (by have := Z4.out; omega)).mono ?_
      rintro e w5 ⟨rfl, hi5, hb5, hk5⟩
      have I5 := Lib.hid hi5
      have X5 := Lib.hid (hk5 g _ X4.out (by intro e; injection e with e; omega) (fun _ _ e => by cases e))
      have B5 := Lib.hid (B4.out.trans (hb5.mono (by omega)))
      have Z5 : RowKit.Hid (g + 1 ≤ w5.heap.size) := Lib.hid (by have := hb5.size; have := Z4.out; omega)
      have d0 : w5.cell? ⟨g, 0, none⟩ = some (.int .u8 x.c) := Blk.cell X5.out 0
      clear hi5 hb5 hk5
      go_wp2_with fail
      have HWB := Lib.hid (wbyte_any b b (keyN f k ++ [0]) (UInt8.ofNat x.c) w5 I5.out (by have := HN1.out; simp only [List.length_append, List.length_cons, List.length_nil]; omega) (by have := Z5.out; omega))
      rw [show (((UInt8.ofNat x.c).toNat : Nat) : Int) = (x.c : Int) by rw [UInt8.toNat_ofNat']; have := hxo.1; omega] at HWB
      refine HWB.out.mono ?_
      rintro e w6 ⟨rfl, hi6, hb6, hk6⟩
      have I6 := Lib.hid hi6
      have X6 := Lib.hid (hk6 g _ X5.out (by intro e; injection e with e; omega) (fun _ _ e => by cases e))
      have B6 := Lib.hid (B5.out.trans (hb6.mono (by omega)))
      have Z6 : RowKit.Hid (g + 1 ≤ w6.heap.size) := Lib.hid (by have := hb6.size; have := Z5.out; omega)
      have d1 : w6.cell? ⟨g, 1, none⟩ = some (.string x.t) := Blk.cell X6.out 1
      clear hi6 hb6 hk6 HWB d0
      go_wp2_with fail
      refine (fold_text_any x.t hxo.2 w6).mono ?_
      rintro e w7 ⟨rfl, hb7⟩
      have I7 : RowKit.Hid (IsB b b ((keyN f k ++ [0]) ++ [UInt8.ofNat x.c]) w7) := Lib.hid (I6.out.kept fun j o hj _ => (hb7.block j (heap_lt hj)).trans hj)
      have B7 := Lib.hid (B6.out.trans (hb7.mono (by have := B6.out.size; exact this)))
      have Z7 : RowKit.Hid (g + 1 ≤ w7.heap.size) := Lib.hid (by have := hb7.size; have := Z6.out; omega)
      clear hb7 d1
      go_wp2_with fail
      refine (wstr_any b b _ (foldS tabC x.t) w7 I7.out (by have := HN1.out; have := HFS.out; have := hxo.2; simp only [List.length_append, List.length_cons, List.length_nil]; omega) (by have := Z7.out; omega)).mono ?_
      rintro e w8 ⟨rfl, hi8, hb8, -⟩
      rw [← keyN_step HX.out] at hi8
      have I8 := Lib.hid hi8
      have B8 := Lib.hid (B7.out.trans (hb8.mono (by omega)))
      have Z8 : RowKit.Hid (b + 1 ≤ w8.heap.size) := Lib.hid (by have := hb8.size; have := Z7.out; omega)
      clear hi8 hb8
      go_wp2_with fail
      exact ⟨⟨k + 1, hlt, by go_num, I8.out, B8.out, Z8.out⟩, by simp [intOf]; omega⟩
    · obtain rfl : k = n := by omega
      go_wp2_with fail
      refine (bstr_any b b _ wr HI.out (by omega)).mono ?_
      rintro e w3 ⟨rfl, -, hb3, -⟩
      have B3 := Lib.hid (HB.out.trans (hb3.mono (by omega)))
      have HK : RowKit.Hid (keyN f k = keyP f) := Lib.hid (by rw [HN.out]; exact keyN_all)
      clear hb3
      go_wp2_with fail
      go_ret
      exact ⟨by rw [← HK.out]; rfl, B3.out⟩
end Go.Proofs.YtpdldbapagchfaaGreatDoor

/- Merge, plainly: what is kept of a tag, and the merged record. -/
namespace Go.Proofs.YtpdldbapagchfaaGreatDoor

/-- A field with the record that says it. -/
abbrev Said := Fld × (Int × Int)

/-- All that is said, in order. -/
def saidOf (v : List Ver) : List Said := v.flatMap fun x => x.fs.map fun f => (f, x.r)

/-- Two fields are alike. -/
def Alike (fold : ByteArray → ByteArray) (a b : Fld) : Bool :=
  decide (a.tag = b.tag) && decide (a.data = b.data) && decide (a.subs.map (fun s => (s.c, fold s.t)) = b.subs.map fun s => (s.c, fold s.t))

theorem Alike.refl (fold : ByteArray → ByteArray) (a : Fld) : Alike fold a a = true := by simp [Alike]
theorem Alike.symm {fold : ByteArray → ByteArray} {a b : Fld} (h : Alike fold a b = true) : Alike fold b a = true := by
  simp only [Alike, Bool.and_eq_true, decide_eq_true_eq] at h ⊢
  exact ⟨⟨h.1.1.symm, h.1.2.symm⟩, h.2.symm⟩
theorem Alike.trans {fold : ByteArray → ByteArray} {a b c : Fld} (h : Alike fold a b = true) (h' : Alike fold b c = true) : Alike fold a c = true := by
  simp only [Alike, Bool.and_eq_true, decide_eq_true_eq] at h h' ⊢
  exact ⟨⟨h.1.1.trans h'.1.1, h.1.2.trans h'.1.2⟩, h.2.trans h'.2⟩

/-- What is kept by 'first': the fields of the first record. -/
def keepFirst : List Said → List Said
  | [] => []
  | x :: l => (x :: l).filter fun y => decide (y.2 = x.2)

/-- What is kept by 'all': those that no field kept before is like. -/
def keepAll (fold : ByteArray → ByteArray) (l : List Said) : List Said :=
  l.foldl (fun a x => if a.any (fun y => Alike fold y.1 x.1) then a else a ++ [x]) []

/-- The three policies. -/
inductive Pol where
  | first
  | all
  | loc
deriving DecidableEq

def keepP (fold : ByteArray → ByteArray) : Pol → List Said → List Said
  | .first, l => keepFirst l
  | .all, l => keepAll fold l
  | .loc, l => l

theorem keepAll_snoc (fold : ByteArray → ByteArray) (l : List Said) (x : Said) :
    keepAll fold (l ++ [x]) = if (keepAll fold l).any (fun y => Alike fold y.1 x.1) then keepAll fold l else keepAll fold l ++ [x] := by
  unfold keepAll; rw [List.foldl_append]; rfl

theorem snoc_cases {α : Type} {p : List α → Prop} (h0 : p []) (h1 : ∀ l x, p l → p (l ++ [x])) (l : List α) : p l := by
  suffices h : ∀ r : List α, p r.reverse by have := h l.reverse; rwa [List.reverse_reverse] at this
  intro r
  induction r with
  | nil => exact h0
  | cons x r ih => rw [List.reverse_cons]; exact h1 _ _ ih

theorem keepAll_sub (fold : ByteArray → ByteArray) : ∀ l : List Said, ∀ x ∈ keepAll fold l, x ∈ l := by
  refine snoc_cases (by simp [keepAll]) fun l x ih y hy => ?_
  rw [keepAll_snoc] at hy
  split at hy
  · have := ih y hy; simp [this]
  · rcases List.mem_append.1 hy with h | h
    · have := ih y h; simp [this]
    · simp at h; simp [h]

/-- Each field that was said is like one that is kept. -/
theorem keepAll_covers (fold : ByteArray → ByteArray) : ∀ l : List Said, ∀ x ∈ l, ∃ y ∈ keepAll fold l, Alike fold y.1 x.1 = true := by
  refine snoc_cases (by simp) fun l x ih z hz => ?_
  rw [keepAll_snoc]
  rcases List.mem_append.1 hz with h | h
  · obtain ⟨y, hy, ha⟩ := ih z h
    split
    · exact ⟨y, hy, ha⟩
    · exact ⟨y, by simp [hy], ha⟩
  · obtain rfl : z = x := by simpa using h
    split
    · next hs => obtain ⟨y, hy, ha⟩ := List.any_eq_true.1 hs; exact ⟨y, hy, ha⟩
    · exact ⟨z, by simp, Alike.refl _ _⟩

/-- No two that are kept are alike. -/
theorem keepAll_apart (fold : ByteArray → ByteArray) : ∀ l : List Said, (keepAll fold l).Pairwise fun a b => Alike fold a.1 b.1 = false := by
  refine snoc_cases (by simp [keepAll]) fun l x ih => ?_
  rw [keepAll_snoc]
  split
  · exact ih
  · next hs =>
    refine List.pairwise_append.2 ⟨ih, by simp, fun a ha b hb => ?_⟩
    obtain rfl : b = x := by simpa using hb
    cases h : Alike fold a.1 b.1 with
    | false => rfl
    | true => exact absurd (List.any_eq_true.2 ⟨a, ha, h⟩) hs

/-- A list of which no two are alike is kept whole. -/
theorem keepAll_whole (fold : ByteArray → ByteArray) : ∀ l : List Said, (l.Pairwise fun a b => Alike fold a.1 b.1 = false) → keepAll fold l = l := by
  refine snoc_cases (by simp [keepAll]) fun l x ih h => ?_
  obtain ⟨h1, _, h3⟩ := List.pairwise_append.1 h
  rw [keepAll_snoc, ih h1, if_neg]
  intro hs
  obtain ⟨y, hy, ha⟩ := List.any_eq_true.1 hs
  rw [h3 y hy x (by simp)] at ha; cases ha

theorem keepFirst_sub {l : List Said} {x : Said} (h : x ∈ keepFirst l) : x ∈ l := by
  cases l with
  | nil => exact h
  | cons y l => exact (List.mem_filter.1 h).1

theorem keepFirst_again : ∀ l : List Said, (∀ x ∈ l, ∀ y ∈ l, x.2 = y.2) → keepFirst l = l
  | [], _ => rfl
  | x :: l, h => by
    unfold keepFirst
    rw [List.filter_eq_self]
    intro y hy; simpa using h y hy x (by simp)

theorem keepP_sub (fold : ByteArray → ByteArray) (p : Pol) {l : List Said} {x : Said} (h : x ∈ keepP fold p l) : x ∈ l := by
  cases p with
  | first => exact keepFirst_sub h
  | all => exact keepAll_sub fold l x h
  | loc => exact h

/-- What is said about a tag. -/
def about (t : ByteArray) (l : List Said) : List Said := l.filter fun x => decide (x.1.tag = t)

/-- The merged record: tags in order, and of each what its policy keeps. -/
def mergeP (fold : ByteArray → ByteArray) (pol : ByteArray → Pol) (tags : List ByteArray) (v : List Ver) : List Said :=
  tags.flatMap fun t => keepP fold (pol t) (about t (saidOf v))

theorem mem_mergeP {fold : ByteArray → ByteArray} {pol : ByteArray → Pol} {tags : List ByteArray} {v : List Ver} {x : Said} (h : x ∈ mergeP fold pol tags v) :
    ∃ y ∈ v, y.r = x.2 ∧ x.1 ∈ y.fs := by
  obtain ⟨t, _, h1⟩ := List.mem_flatMap.1 h
  have h2 := (List.mem_filter.1 (keepP_sub fold _ h1)).1
  obtain ⟨y, hy, h3⟩ := List.mem_flatMap.1 h2
  obtain ⟨f, hf, rfl⟩ := List.mem_map.1 h3
  exact ⟨y, hy, rfl, hf⟩

end Go.Proofs.YtpdldbapagchfaaGreatDoor

/- Equal keys are alike fields; the keys as a map's. -/
namespace Go.Proofs.YtpdldbapagchfaaGreatDoor
open Go.RowKit Go.Shelf Go.Maps

/-- A numeral for every number: decimal below a hundred. -/
def numK (n : Nat) : List UInt8 := if n < 100 then Lib.decDigits n else List.replicate n 1
theorem numK_32 (n : Nat) : (32 : UInt8) ∉ numK n := by
  unfold numK
  split
  · next h =>
    have : ∀ i : Fin 100, (32 : UInt8) ∉ Lib.decDigits i.val := by decide +kernel
    exact this ⟨n, h⟩
  · intro h
    have := List.eq_of_mem_replicate h
    cases this
theorem numK_inj (m n : Nat) (h : numK m = numK n) : m = n := by
  unfold numK at h
  by_cases hm : m < 100
  · by_cases hn : n < 100
    · rw [if_pos hm, if_pos hn] at h
      have : ∀ i j : Fin 100, Lib.decDigits i.val = Lib.decDigits j.val → i = j := by decide +kernel
      have := this ⟨m, hm⟩ ⟨n, hn⟩ h
      exact congrArg Fin.val this
    · rw [if_pos hm, if_neg hn] at h
      have h1 := decD_len m hm
      rw [h, List.length_replicate] at h1; omega
  · by_cases hn : n < 100
    · rw [if_neg hm, if_pos hn] at h
      have h1 := decD_len n hn
      rw [← h, List.length_replicate] at h1; omega
    · rw [if_neg hm, if_neg hn] at h
      have := congrArg List.length h
      simpa using this
theorem keyP_num {f : Fld} (h : FldOk f) : keyP f = keyL numK f.data.data.toList (f.subs.map segP) := by
  unfold keyP keyL numK
  rw [dsz, if_pos h.data]
theorem tabC_ne (c : Nat) (s : List UInt8) (h : tabC c = some s) : (0 : UInt8) ∉ s := by
  obtain ⟨r, h1, h2⟩ := tabLast_mem _ c s h
  have : ∀ r ∈ rowsL.map rowP, (0 : UInt8) ∉ r.1 := by decide +kernel
  rw [← h2]; exact this r h1
theorem seg_ne (s : Sub) : (0 : UInt8) ∉ (segP s).2 := foldL_ne tabC_ne _
theorem map_inj_of {α β γ : Type} {f : α → β} {g : α → γ} : ∀ {a b : List α}, (∀ x ∈ a, ∀ y ∈ b, f x = f y ↔ g x = g y) → (a.map f = b.map f ↔ a.map g = b.map g)
  | [], [], _ => by simp
  | [], y :: b, _ => by simp
  | x :: a, [], _ => by simp
  | x :: a, y :: b, h => by
    simp only [List.map_cons, List.cons.injEq]
    rw [h x (by simp) y (by simp), map_inj_of (fun u hu v hv => h u (by simp [hu]) v (by simp [hv]))]
theorem segP_iff {s u : Sub} (hs : s.c < 256) (hu : u.c < 256) : segP s = segP u ↔ (s.c, foldS tabC s.t) = (u.c, foldS tabC u.t) := by
  unfold segP
  simp only [Prod.mk.injEq]
  constructor
  · rintro ⟨h1, h2⟩
    refine ⟨?_, ?_⟩
    · have := congrArg UInt8.toNat h1
      rw [UInt8.toNat_ofNat', UInt8.toNat_ofNat'] at this; omega
    · rw [← ofL_data (foldS tabC s.t), h2, ofL_data]
  · rintro ⟨h1, h2⟩
    rw [h1, h2]; exact ⟨rfl, rfl⟩
theorem alike_iff {x y : Fld} (hx : FldOk x) (hy : FldOk y) : Alike (foldS tabC) x y = true ↔ x.tag = y.tag ∧ keyP x = keyP y := by
  rw [keyP_num hx, keyP_num hy]
  have hm : x.subs.map segP = y.subs.map segP ↔ x.subs.map (fun s => (s.c, foldS tabC s.t)) = y.subs.map (fun s => (s.c, foldS tabC s.t)) :=
    map_inj_of fun s hs u hu => segP_iff (hx.each s hs).1 (hy.each u hu).1
  unfold Alike
  simp only [Bool.and_eq_true, decide_eq_true_eq]
  rw [← hm]
  constructor
  · rintro ⟨⟨h1, h2⟩, h3⟩
    rw [h2, h3]; exact ⟨h1, rfl⟩
  · rintro ⟨h1, h2⟩
    obtain ⟨h3, h4⟩ := keyL_inj numK_32 numK_inj (fun u hu => by obtain ⟨s, _, rfl⟩ := List.mem_map.1 hu; exact seg_ne s) (fun u hu => by obtain ⟨s, _, rfl⟩ := List.mem_map.1 hu; exact seg_ne s) h2
    refine ⟨⟨h1, ?_⟩, h4⟩
    rw [← ofL_data x.data, h3, ofL_data]
/-! ### The keys of the map seen: pairs of texts. -/
theorem lawK : WideMaps.KeyLaw Tryz.prog 121 := deep_law_laid laidOut_ (m := 3) (by omega) (of_decide_eq_true (by kernel_rfl)) (by kernel_rfl) (by kernel_rfl)
theorem keyK : Keyed Tryz.prog 121 := Keyed.of_law lawK
def kkA (a b : ByteArray) : Lit := .string (keyBytes [.string a.data.toList, .string b.data.toList])
theorem keyOfK {a b : ByteArray} (ha : a.size ≤ maxLen) (hb : b.size ≤ maxLen) : keyOf Tryz.prog 121 (.agg #[.string a, .string b]) = some (kkA a b) := by
  have h1 : Tryz.prog.keyType 121 = true := by kernel_rfl
  have c1 : Tryz.prog.cellsOf 121 = 2 := by kernel_rfl
  have c9 : Tryz.prog.cellsOf 9 = 1 := by kernel_rfl
  obtain ⟨n, hn⟩ : ∃ n, Tryz.prog.types.size = n + 1 := ⟨Tryz.prog.types.size - 1, by kernel_rfl⟩
  have k9 : ∀ x : ByteArray, x.size ≤ maxLen → Tryz.prog.keyLits (n + 1) 9 [.string x] = some [.string x.data.toList] := fun x hx => by
    unfold Program.keyLits; rw [Tryz.underlying9]; simp [hx]
  unfold keyOf
  rw [Tryz.underlying121]
  have hf : (Value.agg #[.string a, .string b]).formed Tryz.prog 121 = true := by simp [Value.formed, Tryz.underlying121, c1]
  simp only [h1, hf, Bool.and_self, if_true, hn]
  unfold Program.keyLits
  rw [Tryz.underlying121]
  have r2 : List.range 2 = [0, 1] := rfl
  simp [c1, c9, Value.cells, k9 a ha, k9 b hb, kkA, r2]
theorem kkA_inj {a b c d : ByteArray} (ha : a.size ≤ maxLen) (hb : b.size ≤ maxLen) (hc : c.size ≤ maxLen) (hd : d.size ≤ maxLen) (h : kkA a b = kkA c d) : a = c ∧ b = d := by
  have := keyK.inj (keyOfK ha hb) (by rw [h]; exact keyOfK hc hd)
  simpa using this
end Go.Proofs.YtpdldbapagchfaaGreatDoor

/- Merge, plainly: the tags in order, and a merged record merged again. -/
namespace Go.Proofs.YtpdldbapagchfaaGreatDoor

theorem strict_eq {α : Type} {R : α → α → Prop} (irr : ∀ a, ¬ R a a) (tr : ∀ {a b c}, R a b → R b c → R a c) :
    ∀ {a b : List α}, a.Pairwise R → b.Pairwise R → (∀ v, v ∈ a ↔ v ∈ b) → a = b
  | [], [], _, _, _ => rfl
  | [], y :: b, _, _, h => by have := (h y).2 (by simp); simp at this
  | x :: a, [], _, _, h => by have := (h x).1 (by simp); simp at this
  | x :: a, y :: b, ha, hb, h => by
    have ha' := List.pairwise_cons.1 ha
    have hb' := List.pairwise_cons.1 hb
    have hxy : x = y := by
      rcases List.mem_cons.1 ((h x).1 (by simp)) with e | e
      · exact e
      · rcases List.mem_cons.1 ((h y).2 (by simp)) with e' | e'
        · exact e'.symm
        · exact absurd (tr (hb'.1 x e) (ha'.1 y e')) (irr _)
    subst hxy
    congr 1
    refine strict_eq irr tr ha'.2 hb'.2 fun v => ?_
    constructor
    · intro hv
      rcases List.mem_cons.1 ((h v).1 (by simp [hv])) with e | e
      · subst e; exact absurd (ha'.1 v hv) (irr _)
      · exact e
    · intro hv
      rcases List.mem_cons.1 ((h v).2 (by simp [hv])) with e | e
      · subst e; exact absurd (hb'.1 v hv) (irr _)
      · exact e

/-- An order of tags. -/
structure TagOrd (lt : ByteArray → ByteArray → Bool) : Prop where
  irr : ∀ a, lt a a = false
  tr : ∀ {a b c}, lt a b = true → lt b c = true → lt a c = true
  tot : ∀ {a b}, lt a b = false → a = b ∨ lt b a = true

/-- A tag laid into ascending ones. -/
def insT (lt : ByteArray → ByteArray → Bool) (t : ByteArray) : List ByteArray → List ByteArray
  | [] => [t]
  | x :: l => if lt x t then x :: insT lt t l else if x = t then x :: l else t :: x :: l

theorem mem_insT (lt : ByteArray → ByteArray → Bool) (t x : ByteArray) : ∀ l : List ByteArray, x ∈ insT lt t l ↔ x = t ∨ x ∈ l
  | [] => by simp [insT]
  | y :: l => by
    unfold insT
    split
    · rw [List.mem_cons, mem_insT lt t x l, List.mem_cons]
      constructor
      · rintro (h | h | h) <;> simp [h]
      · rintro (h | h | h) <;> simp [h]
    · split
      · next _ he => subst he; simp
      · simp

def AscT (lt : ByteArray → ByteArray → Bool) (l : List ByteArray) : Prop := l.Pairwise fun a b => lt a b = true

theorem asc_insT {lt : ByteArray → ByteArray → Bool} (o : TagOrd lt) (t : ByteArray) : ∀ l : List ByteArray, AscT lt l → AscT lt (insT lt t l)
  | [], _ => by simp [insT, AscT]
  | y :: l, h => by
    have h' := List.pairwise_cons.1 h
    unfold insT
    split
    · next hlt =>
      refine List.pairwise_cons.2 ⟨fun x hx => ?_, asc_insT o t l h'.2⟩
      rcases (mem_insT lt t x l).1 hx with e | e
      · subst e; exact hlt
      · exact h'.1 x e
    · next hlt =>
      split
      · exact h
      · next hne =>
        have hty : lt t y = true := by
          rcases o.tot (by simpa using hlt) with e | e
          · exact absurd e hne
          · exact e
        refine List.pairwise_cons.2 ⟨fun x hx => ?_, h⟩
        rcases List.mem_cons.1 hx with e | e
        · subst e; exact hty
        · exact o.tr hty (h'.1 x e)

/-- The tags of what is said, in order, each once. -/
def tagsP (lt : ByteArray → ByteArray → Bool) (l : List Said) : List ByteArray := l.foldl (fun a x => insT lt x.1.tag a) []

theorem tagsP_snoc (lt : ByteArray → ByteArray → Bool) (l : List Said) (x : Said) : tagsP lt (l ++ [x]) = insT lt x.1.tag (tagsP lt l) := by
  unfold tagsP; rw [List.foldl_append]; rfl
theorem mem_tagsP (lt : ByteArray → ByteArray → Bool) (t : ByteArray) : ∀ l : List Said, t ∈ tagsP lt l ↔ ∃ x ∈ l, x.1.tag = t := by
  refine snoc_cases (by simp [tagsP]) fun l x ih => ?_
  rw [tagsP_snoc, mem_insT, ih]
  constructor
  · rintro (e | ⟨y, hy, e⟩)
    · exact ⟨x, by simp, e.symm⟩
    · exact ⟨y, by simp [hy], e⟩
  · rintro ⟨y, hy, e⟩
    rcases List.mem_append.1 hy with h | h
    · right; exact ⟨y, h, e⟩
    · left; obtain rfl : y = x := by simpa using h
      exact e.symm
theorem asc_tagsP {lt : ByteArray → ByteArray → Bool} (o : TagOrd lt) : ∀ l : List Said, AscT lt (tagsP lt l) := by
  refine snoc_cases (by simp [tagsP, AscT]) fun l x ih => ?_
  rw [tagsP_snoc]; exact asc_insT o _ _ ih
/-- What the code sorts. -/
theorem tagsP_of {lt : ByteArray → ByteArray → Bool} (o : TagOrd lt) {l : List Said} {a : List ByteArray} (ha : AscT lt a) (h : ∀ t, t ∈ a ↔ ∃ x ∈ l, x.1.tag = t) : a = tagsP lt l :=
  strict_eq (R := fun a b => lt a b = true) (fun t => by simp [o.irr]) (fun h h' => o.tr h h') ha (asc_tagsP o l) fun t => by rw [h, mem_tagsP]
theorem nodup_tagsP {lt : ByteArray → ByteArray → Bool} (o : TagOrd lt) (l : List Said) : (tagsP lt l).Nodup :=
  List.Pairwise.imp (fun {a b} h e => by subst e; rw [o.irr] at h; cases h) (asc_tagsP o l)

open Classical in
theorem about_flat {g : ByteArray → List Said} (hg : ∀ t, ∀ x ∈ g t, x.1.tag = t) (t : ByteArray) : ∀ tags : List ByteArray, tags.Nodup →
    about t (tags.flatMap g) = if t ∈ tags then g t else []
  | [], _ => by simp [about]
  | s :: tags, h => by
    have h' := List.nodup_cons.1 h
    have ih := about_flat hg t tags h'.2
    have e1 : about t ((s :: tags).flatMap g) = about t (g s) ++ about t (tags.flatMap g) := by simp [about, List.filter_append]
    rw [e1, ih]
    by_cases hs : s = t
    · subst hs
      rw [if_neg h'.1, if_pos (by simp), List.append_nil]
      exact List.filter_eq_self.2 fun x hx => by simpa using hg s x hx
    · have : about t (g s) = [] := List.filter_eq_nil_iff.2 fun x hx => by
        have := hg s x hx; simp [this, hs]
      rw [this, List.nil_append]
      by_cases ht : t ∈ tags
      · rw [if_pos ht, if_pos (by simp [ht])]
      · rw [if_neg ht, if_neg (by simp [ht, Ne.symm hs])]

theorem keepP_ne (fold : ByteArray → ByteArray) (p : Pol) {l : List Said} (h : l ≠ []) : keepP fold p l ≠ [] := by
  cases p with
  | first =>
    cases l with
    | nil => exact h
    | cons x l => simp [keepP, keepFirst]
  | all =>
    cases l with
    | nil => exact absurd rfl h
    | cons x l =>
      obtain ⟨y, hy, _⟩ := keepAll_covers fold (x :: l) x (by simp)
      intro e; simp only [keepP] at e; rw [e] at hy; cases hy
  | loc => exact h

/-- What is said, said by another record. -/
def by_ (r : Int × Int) (l : List Said) : List Said := l.map fun x => (x.1, r)

theorem keepP_again (fold : ByteArray → ByteArray) (p : Pol) (r : Int × Int) (l : List Said) : keepP fold p (by_ r (keepP fold p l)) = by_ r (keepP fold p l) := by
  cases p with
  | first =>
    refine keepFirst_again _ fun x hx y hy => ?_
    obtain ⟨_, _, rfl⟩ := List.mem_map.1 hx
    obtain ⟨_, _, rfl⟩ := List.mem_map.1 hy
    rfl
  | all =>
    refine keepAll_whole fold _ ?_
    unfold by_
    rw [List.pairwise_map]
    exact keepAll_apart fold l
  | loc => rfl

/-- A merged record alone yields its fields again. -/
theorem merge_again {lt : ByteArray → ByteArray → Bool} (o : TagOrd lt) (fold : ByteArray → ByteArray) (pol : ByteArray → Pol) (l : List Said) (r : Int × Int) (m : List Said)
    (hm : m = (tagsP lt l).flatMap fun t => keepP fold (pol t) (about t l)) :
    ((tagsP lt (by_ r m)).flatMap fun t => keepP fold (pol t) (about t (by_ r m))) = by_ r m := by
  have hg : ∀ t, ∀ x ∈ keepP fold (pol t) (about t l), x.1.tag = t := fun t x hx => by
    have := (List.mem_filter.1 (keepP_sub fold _ hx)).2; simpa using this
  have hab : ∀ t, about t (by_ r m) = by_ r (about t m) := fun t => by
    unfold about by_; rw [List.filter_map]; rfl
  have htags : tagsP lt (by_ r m) = tagsP lt l := by
    refine strict_eq (R := fun a b => lt a b = true) (fun t => by simp [o.irr]) (fun h h' => o.tr h h') (asc_tagsP o _) (asc_tagsP o l) fun t => ?_
    rw [mem_tagsP, mem_tagsP]
    constructor
    · rintro ⟨x, hx, rfl⟩
      obtain ⟨y, hy, rfl⟩ := List.mem_map.1 hx
      rw [hm] at hy
      obtain ⟨t, _, h1⟩ := List.mem_flatMap.1 hy
      exact ⟨y, (List.mem_filter.1 (keepP_sub fold _ h1)).1, rfl⟩
    · rintro ⟨x, hx, rfl⟩
      have hne : about x.1.tag l ≠ [] := fun e => by
        have : x ∈ about x.1.tag l := List.mem_filter.2 ⟨hx, by simp⟩
        rw [e] at this; cases this
      obtain ⟨y, hy⟩ := List.exists_mem_of_ne_nil _ (keepP_ne fold (pol x.1.tag) hne)
      refine ⟨(y.1, r), List.mem_map.2 ⟨y, ?_, rfl⟩, hg _ y hy⟩
      rw [hm]
      exact List.mem_flatMap.2 ⟨x.1.tag, (mem_tagsP lt _ l).2 ⟨x, hx, rfl⟩, hy⟩
  rw [htags]
  have hk : ∀ t ∈ tagsP lt l, keepP fold (pol t) (about t (by_ r m)) = by_ r (keepP fold (pol t) (about t l)) := fun t ht => by
    rw [hab, hm, about_flat hg t _ (nodup_tagsP o l), if_pos ht, keepP_again]
  have : ∀ ts : List ByteArray, (∀ t ∈ ts, t ∈ tagsP lt l) → (ts.flatMap fun t => keepP fold (pol t) (about t (by_ r m))) = by_ r (ts.flatMap fun t => keepP fold (pol t) (about t l)) := by
    intro ts hts
    induction ts with
    | nil => rfl
    | cons t ts ih =>
      rw [List.flatMap_cons, List.flatMap_cons, hk t (hts t (by simp)), ih fun s hs => hts s (by simp [hs])]
      simp [by_]
  rw [this _ fun _ h => h, ← hm]

end Go.Proofs.YtpdldbapagchfaaGreatDoor

/- Merge, plainly: the order of the versions plays no part. -/
namespace Go.Proofs.YtpdldbapagchfaaGreatDoor

/-- No two versions have the same record and number. -/
def Dist (l : List Ver) : Prop := ∀ i j, i < l.length → j < l.length → l[i]!.r = l[j]!.r → l[i]!.num = l[j]!.num → i = j

theorem getE_mem {l : List Ver} {i : Nat} (h : i < l.length) : l[i]! ∈ l := by
  rw [getElem!_pos l i h]; exact List.getElem_mem h
theorem mem_getE {l : List Ver} {v : Ver} (h : v ∈ l) : ∃ i, i < l.length ∧ l[i]! = v := by
  obtain ⟨i, h1, h2⟩ := List.mem_iff_getElem.1 h
  exact ⟨i, h1, by rw [getElem!_pos l i h1]; exact h2⟩

theorem mem_latest_dist {l : List Ver} (hd : Dist l) (v : Ver) : v ∈ latest l ↔ v ∈ l ∧ ∀ u ∈ l, u.r = v.r → u.num ≤ v.num := by
  rw [mem_latest]
  constructor
  · rintro ⟨k, ⟨h1, h2⟩, rfl⟩
    refine ⟨getE_mem h1, fun u hu hr => ?_⟩
    obtain ⟨j, hj, rfl⟩ := mem_getE hu
    have := h2 j hj hr
    unfold Beats at this; omega
  · rintro ⟨h1, h2⟩
    obtain ⟨k, hk, rfl⟩ := mem_getE h1
    refine ⟨k, ⟨hk, fun j hj hr => ?_⟩, rfl⟩
    have h3 := h2 _ (getE_mem hj) hr
    by_cases e : l[j]!.num = l[k]!.num
    · right; exact ⟨e, by rw [hd j k hj hk hr e]; exact Nat.le_refl _⟩
    · left; omega

/-- What counts is one of what is said. -/
theorem latest_sub {l : List Ver} {v : Ver} (h : v ∈ latest l) : v ∈ l := by
  obtain ⟨k, hk, rfl⟩ := (mem_latest l v).1 h
  exact getE_mem hk.1

theorem latest_set {l l' : List Ver} (hd : Dist l) (hd' : Dist l') (h : ∀ v, v ∈ l ↔ v ∈ l') : latest l = latest l' := by
  refine asc_eq (asc_latest l) (asc_latest l') fun v => ?_
  rw [mem_latest_dist hd, mem_latest_dist hd', h]
  constructor
  · rintro ⟨h1, h2⟩; exact ⟨h1, fun u hu => h2 u ((h u).2 hu)⟩
  · rintro ⟨h1, h2⟩; exact ⟨h1, fun u hu => h2 u ((h u).1 hu)⟩

theorem dist_iff (l : List Ver) : Dist l ↔ l.Pairwise fun a b => ¬ (a.r = b.r ∧ a.num = b.num) := by
  rw [List.pairwise_iff_getElem]
  constructor
  · rintro h i j hi hj hij ⟨h1, h2⟩
    have := h i j hi hj (by rw [getElem!_pos l i hi, getElem!_pos l j hj]; exact h1) (by rw [getElem!_pos l i hi, getElem!_pos l j hj]; exact h2)
    omega
  · intro h i j hi hj h1 h2
    rw [getElem!_pos l i hi, getElem!_pos l j hj] at h1 h2
    rcases Nat.lt_trichotomy i j with e | e | e
    · exact absurd ⟨h1, h2⟩ (h i j hi hj e)
    · exact e
    · exact absurd ⟨h1.symm, h2.symm⟩ (h j i hj hi e)

theorem Dist.perm {l l' : List Ver} (h : l.Perm l') (hd : Dist l) : Dist l' := by
  rw [dist_iff] at hd ⊢
  exact hd.perm h fun {a b} hn h' => hn ⟨h'.1.symm, h'.2.symm⟩
theorem Dist.sub {l l' : List Ver} (h : l'.Sublist l) (hd : Dist l) : Dist l' := by
  rw [dist_iff] at hd ⊢
  exact hd.sublist h

/-- The order plays no part. -/
theorem latest_perm {l l' : List Ver} (h : l.Perm l') (hd : Dist l) : latest l = latest l' :=
  latest_set hd (hd.perm h) fun _ => h.mem_iff

/-- A source taken away and added again. -/
theorem without_back (s : Int) (l : List Ver) : (without s l ++ l.filter fun v => decide (v.r.1 = s)).Perm l := by
  have := List.filter_append_perm (fun v : Ver => decide (v.r.1 ≠ s)) l
  have e : (l.filter fun v => !decide (v.r.1 ≠ s)) = l.filter fun v => decide (v.r.1 = s) := by
    congr 1; funext v; simp
  rw [e] at this; exact this

/-- The versions that count count again. -/
theorem latest_again (l : List Ver) : latest (latest l) = latest l := by
  have ha := asc_latest l
  have hu : ∀ u ∈ latest l, ∀ v ∈ latest l, u.r = v.r → u = v := fun u hu v hv h => by
    obtain ⟨i, hi, rfl⟩ := (mem_latest l u).1 hu
    obtain ⟨j, hj, rfl⟩ := (mem_latest l v).1 hv
    rw [cnt_uniq hi hj h]
  have hd : Dist (latest l) := by
    rw [dist_iff]
    exact ha.imp fun {a b} h e => by rw [e.1, ltR_irrefl] at h; cases h
  refine asc_eq (asc_latest _) ha fun v => ?_
  rw [mem_latest_dist hd]
  constructor
  · exact fun h => h.1
  · exact fun h => ⟨h, fun u hu' hr => by rw [hu u hu' v h hr]; exact Int.le_refl _⟩

end Go.Proofs.YtpdldbapagchfaaGreatDoor

/- Merge, plainly: what is said is covered, and what is merged was said, in order. -/
namespace Go.Proofs.YtpdldbapagchfaaGreatDoor

theorem mem_saidOf {v : List Ver} {x : Ver} {f : Fld} (hx : x ∈ v) (hf : f ∈ x.fs) : (f, x.r) ∈ saidOf v :=
  List.mem_flatMap.2 ⟨x, hx, List.mem_map.2 ⟨f, hf, rfl⟩⟩

/-- What is said ascends by records. -/
theorem said_asc : ∀ {v : List Ver}, Asc v → (saidOf v).Pairwise fun a b => a.2 = b.2 ∨ ltR a.2 b.2 = true
  | [], _ => by simp [saidOf]
  | x :: v, h => by
    have h' := List.pairwise_cons.1 h
    have e : saidOf (x :: v) = x.fs.map (fun f => (f, x.r)) ++ saidOf v := by simp [saidOf]
    rw [e]
    refine List.pairwise_append.2 ⟨?_, said_asc h'.2, fun a ha b hb => ?_⟩
    · rw [List.pairwise_map]
      exact List.pairwise_of_forall fun _ _ => Or.inl rfl
    · obtain ⟨f, _, rfl⟩ := List.mem_map.1 ha
      obtain ⟨y, hy, hb'⟩ := List.mem_flatMap.1 hb
      obtain ⟨g, _, rfl⟩ := List.mem_map.1 hb'
      right; exact h'.1 y hy

theorem merge_covers {lt : ByteArray → ByteArray → Bool} (fold : ByteArray → ByteArray) (pol : ByteArray → Pol) {v : List Ver} (hv : Asc v) {x : Ver} {f : Fld} (hx : x ∈ v) (hf : f ∈ x.fs) :
    (∃ y ∈ mergeP fold pol (tagsP lt (saidOf v)) v, Alike fold f y.1 = true) ∨
      (pol f.tag = .first ∧ ∃ y ∈ mergeP fold pol (tagsP lt (saidOf v)) v, y.1.tag = f.tag ∧ ltR y.2 x.r = true) := by
  have hs := mem_saidOf hx hf
  have ht : f.tag ∈ tagsP lt (saidOf v) := (mem_tagsP lt _ _).2 ⟨_, hs, rfl⟩
  have hab : (f, x.r) ∈ about f.tag (saidOf v) := List.mem_filter.2 ⟨hs, by simp⟩
  have put : ∀ y, y ∈ keepP fold (pol f.tag) (about f.tag (saidOf v)) → y ∈ mergeP fold pol (tagsP lt (saidOf v)) v := fun y hy =>
    List.mem_flatMap.2 ⟨f.tag, ht, hy⟩
  cases hp : pol f.tag with
  | loc =>
    rw [hp] at put
    exact Or.inl ⟨_, put _ hab, Alike.refl _ _⟩
  | all =>
    rw [hp] at put
    obtain ⟨y, hy, ha⟩ := keepAll_covers fold _ _ hab
    exact Or.inl ⟨y, put y hy, Alike.symm ha⟩
  | first =>
    rw [hp] at put
    have hasc : (about f.tag (saidOf v)).Pairwise fun a b => a.2 = b.2 ∨ ltR a.2 b.2 = true := (said_asc hv).sublist List.filter_sublist
    have htag : ∀ y ∈ about f.tag (saidOf v), y.1.tag = f.tag := fun y hy => by simpa using (List.mem_filter.1 hy).2
    revert hab hasc htag put
    cases about f.tag (saidOf v) with
    | nil => intro h; cases h
    | cons z l =>
      intro hab put hasc htag
      have hz : z ∈ keepP fold .first (z :: l) := by simp [keepP, keepFirst]
      have hcase : x.r = z.2 ∨ ltR z.2 x.r = true := by
        rcases List.mem_cons.1 hab with e | e
        · left; rw [← e]
        · rcases (List.pairwise_cons.1 hasc).1 _ e with h | h
          · left; exact h.symm
          · right; exact h
      rcases hcase with h | h
      · refine Or.inl ⟨(f, x.r), put _ ?_, Alike.refl _ _⟩
        exact List.mem_filter.2 ⟨hab, by simp [h]⟩
      · exact Or.inr ⟨rfl, z, put z hz, htag z (by simp), h⟩

/-- The tags of the merged record are in order. -/
theorem merge_asc {lt : ByteArray → ByteArray → Bool} (o : TagOrd lt) (fold : ByteArray → ByteArray) (pol : ByteArray → Pol) (v : List Ver) :
    (mergeP fold pol (tagsP lt (saidOf v)) v).Pairwise fun a b => lt b.1.tag a.1.tag = false := by
  have hg : ∀ t, ∀ x ∈ keepP fold (pol t) (about t (saidOf v)), x.1.tag = t := fun t x hx => by
    have := (List.mem_filter.1 (keepP_sub fold _ hx)).2; simpa using this
  have h := asc_tagsP o (saidOf v)
  unfold mergeP
  revert h
  generalize tagsP lt (saidOf v) = ts
  intro h
  induction ts with
  | nil => simp
  | cons t ts ih =>
    have h' := List.pairwise_cons.1 h
    rw [List.flatMap_cons]
    refine List.pairwise_append.2 ⟨?_, ih h'.2, fun a ha b hb => ?_⟩
    · refine List.pairwise_iff_getElem.2 fun i j hi hj _ => ?_
      rw [hg t _ (List.getElem_mem hi), hg t _ (List.getElem_mem hj), o.irr]
    · obtain ⟨s, hs, hb'⟩ := List.mem_flatMap.1 hb
      rw [hg t a ha, hg s b hb']
      cases e : lt s t with
      | false => rfl
      | true => have := o.tr e (h'.1 s hs); rw [o.irr] at this; cases this

/-- The policy of a tag. -/
def polP (t : ByteArray) : Pol :=
  match t.toList with
  | [] => .all
  | b :: l => if b = 57 then .loc else
      if (b = 48 ∧ l.head? = some 48) ∨ b :: l = [48, 49, 48] ∨ b :: l = [48, 52, 48] ∨ b :: l = [49, 48, 48] ∨ b :: l = [49, 49, 48] ∨ b :: l = [50, 52, 53] then .first else .all

end Go.Proofs.YtpdldbapagchfaaGreatDoor
