/- The contract of Close. -/
import Derived.Test.YtmnkgjgaileokaaFF
import Derived.Laws.EntriesVeiled
namespace Go.Proofs.Ytmnkgjgaileokaa
open Go.RowKit

theorem ranges_same {w w' : World} {b r n : Nat} {D : DataW Unit} {left : Lit → Bool} {cnt : Nat} (h : w.ranges Try.prog 3 R68 b r n D left cnt) (hb : w'.heap[b]? = w.heap[b]?) (hr : w'.heap[r]? = w.heap[r]?) : w'.ranges Try.prog 3 R68 b r n D left cnt := by
  obtain ⟨es, clock, since, seen, c0, h1, F, hs, hD, h2, rest⟩ := h
  exact ⟨es, clock, since, seen, c0, hb.trans h1, F, hs, hD, hr.trans h2, rest⟩
def mkV : Option Nat → Value
  | none => .pointer none
  | some g => ptr g
theorem invV (v : Value) (y : DataW Unit × List MemPlace) (h : R68 v = some y) : ∃ c, v = mkV c := by
  unfold R68 at h
  split at h
  · exact ⟨none, rfl⟩
  · rename_i g; exact ⟨some g, rfl⟩
  · cases h
theorem invK (key : Value) (kl : Lit) (h : keyOf Try.prog 3 key = some kl) : ∃ x, key = Value.int .i64 x := by
  obtain ⟨x, h1, _⟩ := Maps.keyOf_int_inv Try.underlying3 h
  exact ⟨x, h1⟩
/-- What has come is a fund's pointer. -/
theorem came {D : DataW Unit} {ids : List Int} {g : Int → Nat} (hR : Rep D ids g) {x : Int} {c : Option Nat} {kl : Lit} {y : DataW Unit × List MemPlace} (hkey : keyOf Try.prog 3 (.int .i64 x) = some kl) (hv : R68 (mkV c) = some y) (hat : ∀ zd, D.atKey kl zd = y.1) :
    kl = .int .i64 x ∧ x ∈ ids ∧ mkV c = ptr (g x) := by
  obtain ⟨x', h1, rfl, _⟩ := Maps.keyOf_int_inv Try.underlying3 hkey
  injection h1 with _ h1
  subst h1
  by_cases hx : x ∈ ids
  · refine ⟨rfl, hx, ?_⟩
    have := hat .nil
    rw [hR.at_, if_pos hx] at this
    obtain ⟨y1, y2⟩ := y
    obtain rfl : y1 = .lit (.int .i64 (g x)) := this.symm
    exact R68_lit hv
  · exfalso
    have h1 := hat .nil
    have h2 := hat (.lit (.int .i64 0))
    rw [hR.at_, if_neg hx] at h1 h2
    rw [← h1] at h2; cases h2
theorem strike_self (left : Lit → Bool) {x : Int} (h0 : -9223372036854775808 ≤ x) (h1 : x ≤ 9223372036854775807) (hl : left (.int .i64 x) = true) : (left (.int .i64 x) && !(Lit.int .i64 x).sameKey (.int .i64 x)) = false := by
  rw [hl, WideAt.sameKey_self (isKey64 h0 h1)]; rfl
theorem strike_ne (left : Lit → Bool) {x z : Int} (h : z ≠ x) : (left (.int .i64 z) && !(Lit.int .i64 z).sameKey (.int .i64 x)) = left (.int .i64 z) := by
  cases e : (Lit.int .i64 z).sameKey (.int .i64 x) with
  | false => simp
  | true => have := WideAt.sameKey_eq e; injection this with _ this; exact absurd this h
def alL (s : FS) (left : Lit → Bool) : Int → Int := fun z => if left (.int .i64 z) = true then s.al z else s.al z - s.sp z
def spL (s : FS) (left : Lit → Bool) : Int → Int := fun z => if left (.int .i64 z) = true then s.sp z else 0
def gone (s : FS) (left : Lit → Bool) : Int → Int := fun z => if left (.int .i64 z) = true then 0 else s.sp z
theorem alL_strike (s : FS) (left : Lit → Bool) {x : Int} (h0 : -9223372036854775808 ≤ x) (h1 : x ≤ 9223372036854775807) (hl : left (.int .i64 x) = true) : alL s (fun z => left z && !z.sameKey (.int .i64 x)) = upd (alL s left) x (s.al x - s.sp x) := by
  funext z
  unfold alL upd
  dsimp only
  by_cases e : z = x
  · subst e; rw [if_pos rfl]; simp only [strike_self left h0 h1 hl]; simp
  · rw [if_neg e]; simp only [strike_ne left e]
theorem spL_strike (s : FS) (left : Lit → Bool) {x : Int} (h0 : -9223372036854775808 ≤ x) (h1 : x ≤ 9223372036854775807) (hl : left (.int .i64 x) = true) : spL s (fun z => left z && !z.sameKey (.int .i64 x)) = upd (spL s left) x 0 := by
  funext z
  unfold spL upd
  dsimp only
  by_cases e : z = x
  · subst e; rw [if_pos rfl]; simp only [strike_self left h0 h1 hl]; simp
  · rw [if_neg e]; simp only [strike_ne left e]
theorem gone_strike (s : FS) (left : Lit → Bool) {x : Int} (h0 : -9223372036854775808 ≤ x) (h1 : x ≤ 9223372036854775807) (hl : left (.int .i64 x) = true) : gone s (fun z => left z && !z.sameKey (.int .i64 x)) = upd (gone s left) x (s.sp x) := by
  funext z
  unfold gone upd
  dsimp only
  by_cases e : z = x
  · subst e; rw [if_pos rfl]; simp only [strike_self left h0 h1 hl]; simp
  · rw [if_neg e]; simp only [strike_ne left e]
theorem sum_mono {f g : Int → Int} : ∀ ids : List Int, (∀ z ∈ ids, f z ≤ g z) → (ids.map f).sum ≤ (ids.map g).sum := by
  intro ids
  induction ids with
  | nil => intro _; simp
  | cons y l ih =>
    intro h
    simp only [List.map_cons, List.sum_cons]
    have h1 := h y (by simp)
    have h2 := ih fun z hz => h z (by simp [hz])
    omega
theorem Mem.congr {w : World} {s : FS} (h : Mem w s) (al sp : Int → Int) (h1 : ∀ z ∈ s.ids, al z = s.al z) (h2 : ∀ z ∈ s.ids, sp z = s.sp z) : Mem w { s with al := al, sp := sp } where
  fresh := h.fresh
  fb := h.fb
  ofb := h.ofb
  fund := fun x hx => by
    have := h.fund x hx
    rw [show ({ s with al := al, sp := sp } : FS).cells x = s.cells x by simp [FS.cells, h1 x hx, h2 x hx]]
    exact this
  ofund := h.ofund
  row := h.row
  orow := h.orow
  kin := h.kin
  map := h.map
set_option maxRecDepth 100000 in
set_option maxHeartbeats 4000000 in
theorem close_some {w : World} {s : FS} (h : Mem w s) (f : Fix s.ids s.sp s.en s.kids) (hB : Bal s.ids s.sp s.en s.al) (hm : s.m = (s.ids.map s.al).sum) (nd : Nat) (hd : ∀ x ∈ s.ids, Deep s.kids nd x) (b : Nat) (hb : s.bm = some b) :
    Calls Try.prog 27 #[.pointer (some ⟨s.fb, 0, none⟩)] w fun r w' => r = .returned (.int .i64 (s.ids.map s.sp).sum) ∧ ∃ (l : List Int) (al' : Int → Int), l.Nodup ∧ (∀ z, z ∈ l ↔ z ∈ s.ids ∧ s.pa z = 0) ∧ al' = l.foldl (fun al x => liftA s.kids (fun _ => 0) s.en nd al x) (fun z => s.al z - s.sp z) ∧
      Mem w' { s with m := s.m - (s.ids.map s.sp).sum, al := al', sp := fun _ => 0 } ∧ Turn s w { s with m := s.m - (s.ids.map s.sp).sum, al := al', sp := fun _ => 0 } w' := by
  rcases h.map with ⟨h2, _⟩ | ⟨b', D, h2, hob, hown, hR⟩
  · rw [h2] at hb; cases hb
  obtain rfl : b' = b := by rw [h2] at hb; injection hb
  obtain ⟨c0, c1⟩ := h.fbc
  rw [h2] at c0
  have HM := Lib.hid h
  have HF := Lib.hid f
  have HB := Lib.hid hB
  have HMM := Lib.hid hm
  have HD := Lib.hid hd
  have hz := h.fne
  clear h f hB hm hd hb
  go_enter Try.func27, Try.ntmps27
  go_wp2_with (first
    | (at_range; refine wpList_range_own _ rfl _ 51 rfl 3 68 key3 Try.underlying51 R68 b' s.ids.length D rfl hown ?_; intro w0 hrg0 hg0 hs0)
    | fail)
  go_frame
  have hor : s.o w.heap.size = .none := HM.out.fresh _ (Nat.le_refl _)
  have hrb : w.heap.size ≠ b' := by have := hown.lt; omega
  have M00 := Lib.hid (HM.out.keep hg0.size fun i hi => hg0.block i (HM.out.lt hi) (by simp))
  have T00 := Lib.hid (Turn.of_below (s := s) (show Below w.heap.size w w0 from ⟨hg0.os, hg0.tape, hg0.output, hg0.size, fun i hi => hg0.block i hi (by simp)⟩))
  have hst1 : Mem w0 { s with al := alL s (Maps.has D), sp := spL s (Maps.has D) } :=
    M00.out.congr _ _ (fun z hz => if_pos ((hR.has _).2 ⟨z, hz, rfl⟩)) (fun z hz => if_pos ((hR.has _).2 ⟨z, hz, rfl⟩))
  have hst2 : (s.ids.map (gone s (Maps.has D))).sum = 0 := by
    have : s.ids.map (gone s (Maps.has D)) = s.ids.map fun _ => 0 := List.map_congr_left fun z hz => if_pos ((hR.has _).2 ⟨z, hz, rfl⟩)
    rw [this]
    clear this
    induction s.ids with
    | nil => rfl
    | cons a l ih => simp at ih ⊢; exact ih
  have HS1 := Lib.hid hst1
  have HS2 := Lib.hid hst2
  have HRG := Lib.hid hrg0
  have HR := Lib.hid hR
  clear hst1 hst2 hrg0 hg0 hown hR
  go_loopw [3] (fun sv wr => ∃ (left : Lit → Bool) (cnt : Nat), wr.ranges Try.prog 3 R68 b' w.heap.size s.ids.length D left cnt ∧ sv = .int .i64 (s.ids.map (gone s left)).sum ∧ Mem wr { s with al := alL s left, sp := spL s left } ∧ Turn s w { s with al := alL s left, sp := spL s left } wr) (fun _ wr => wr.rangeLeft b' w.heap.size)
  case atStart => exact ⟨_, _, HRG.out, by rw [HS2.out], HS1.out, ⟨T00.out.os, T00.out.tape, T00.out.output, T00.out.size, T00.out.block, T00.out.none⟩⟩
  case round =>
    obtain ⟨left, cnt, hrg, rfl, hM, hT⟩ := hrel
    have M1 := Lib.hid hM
    have T1 := Lib.hid hT
    have RG := Lib.hid hrg
    clear hM hT hrg M00 T00 HS1 HS2 HRG hs0
    go_wp2_with (first
      | (at_next; refine wpList_next_ranges _ rfl _ rfl 3 key3 R68 (Value.int .i64) mkV invK invV b' w.heap.size s.ids.length D left cnt rfl RG.out ?_ ?_)
      | fail)
    · intro _ hl0
      have e1 : alL s left = fun z => s.al z - s.sp z := by funext z; simp [alL, hl0]
      have e2 : spL s left = fun _ => 0 := by funext z; simp [spL, hl0]
      have e3 : gone s left = s.sp := by funext z; simp [gone, hl0]
      have hS0 : 0 ≤ (s.ids.map s.sp).sum := sum_nonneg _ _ HF.out.sp
      have hS1 : (s.ids.map s.sp).sum ≤ s.m := by rw [HMM.out]; exact sum_mono _ fun z hz => by have := HB.out.le z hz; have := HF.out.en z hz; omega
      have hS2 : s.m ≤ 1000000000000000 := by rw [HMM.out]; exact HB.out.sum
      rw [e1, e2] at M1 T1
      rw [e3]
      obtain ⟨k0, k1⟩ := M1.out.fbc
      rw [show ({ s with al := fun z => s.al z - s.sp z, sp := fun _ => 0 } : FS).bm = some b' from h2] at k0
      have kf := M1.out.fb.frozen
      have kz := M1.out.fne
      simp only at k0 k1 kf kz
      have RO := Lib.hid RG.out.owns
      generalize hSS : (s.ids.map s.sp).sum = S at *
      clear e1 e2 e3 RG hl0
      -- the world behind the closure's making
      have hfx : s.fb ≠ wr.heap.size := by omega
      have M3 := M1.out.setM (s.m - S)
      have hoc : s.o wr.heap.size = .none := M1.out.fresh _ (Nat.le_refl _)
      have HC := Lib.hid (Blk.at_new (w := wr.setCell ⟨s.fb, 1, none⟩ (.int .i64 (s.m - S))) (n := wr.heap.size) (by simp) #[.func (.func 52) #[] #[.pointer (some ⟨wr.heap.size, 0, none⟩)]] 81)
      have M4 := Lib.hid (M3.alloc (.cells #[.func (.func 52) #[] #[.pointer (some ⟨wr.heap.size, 0, none⟩)]] 81))
      have T4 := Lib.hid (T1.out.trans ((Turn.setOwn (s := { s with al := fun z => s.al z - s.sp z, sp := fun _ => 0 }) ⟨s.fb, 1, none⟩ (.int .i64 (s.m - S)) (by show s.o s.fb ≠ .none; rw [HM.out.ofb]; simp) { s with m := s.m - S, al := fun z => s.al z - s.sp z, sp := fun _ => 0 } rfl).trans (Turn.alloc _ _ (.cells #[.func (.func 52) #[] #[.pointer (some ⟨wr.heap.size, 0, none⟩)]] 81))))
      have hbw : b' ≠ wr.heap.size := by have := RO.out.lt; omega
      have hbf : b' ≠ s.fb := own_ne (s := s) (a := .mp) (b := .fb) (by simp) hob HM.out.ofb
      have RO4 := Lib.hid (map_same (w' := (wr.setCell ⟨s.fb, 1, none⟩ (.int .i64 (s.m - S))).alloc (.cells #[.func (.func 52) #[] #[.pointer (some ⟨wr.heap.size, 0, none⟩)]] 81)) RO.out ((Below.heap_alloc _ _ _ (by have := RO.out.lt; simpa using this)).trans (Below.heap_setCell _ _ _ _ hbf)))
      have hsz4 : ((wr.setCell ⟨s.fb, 1, none⟩ (.int .i64 (s.m - S))).alloc (.cells #[.func (.func 52) #[] #[.pointer (some ⟨wr.heap.size, 0, none⟩)]] 81)).heap.size = wr.heap.size + 1 := by simp
      have HB1 : RowKit.Hid (Bal s.ids (fun _ => 0) s.en (fun z => s.al z - s.sp z)) := ⟨fun z hz => by have := HB.out.le z hz; show 0 + s.en z ≤ s.al z - s.sp z; omega,
        Int.le_trans (sum_mono _ fun z hz => by have := HF.out.sp z hz; show s.al z - s.sp z ≤ s.al z; omega) HB.out.sum⟩
      have HF1 : RowKit.Hid (Fix s.ids (fun _ => 0) s.en s.kids) := ⟨HF.out.nd, fun _ _ => Int.le_refl _, HF.out.en, HF.out.idb, HF.out.kin, HF.out.kl⟩
      have hsw : w.heap.size ≤ wr.heap.size := T1.out.size
      clear M3 M1 T1 RO
      have hmf : ∀ (fn : Fn) (first cap : Array Value) (w : World), (Instr.makeFunc fn first cap).run Try.prog w = .ok (.func fn first cap) w := fun _ _ _ _ => rfl
      go_wp2_with (first
        | (at_range; refine wpList_range_own _ rfl _ 51 rfl 3 68 key3 Try.underlying51 R68 b' s.ids.length D rfl RO4.out ?_; intro w3 hrg3 hg3 hs3)
        | fail)
      obtain ⟨W5, hW5⟩ : ∃ W5, W5 = (wr.setCell ⟨s.fb, 1, none⟩ (.int .i64 (s.m - S))).alloc (.cells #[.func (.func 52) #[] #[.pointer (some ⟨wr.heap.size, 0, none⟩)]] 81) := ⟨_, rfl⟩
      rw [← hW5] at hrg3 hg3 hs3 M4 T4 RO4 hsz4 HC
      try rw [← hW5]
      clear hW5
      have M5 := Lib.hid (M4.out.keep hg3.size fun i hi => hg3.block i (M4.out.lt hi) (by simp))
      have T5 := Lib.hid (T4.out.trans (Turn.of_below (show Below W5.heap.size W5 w3 from ⟨hg3.os, hg3.tape, hg3.output, hg3.size, fun i hi => hg3.block i hi (by simp)⟩)))
      have C5 := Lib.hid (HC.out.below (show Below W5.heap.size W5 w3 from ⟨hg3.os, hg3.tape, hg3.output, hg3.size, fun i hi => hg3.block i hi (by simp)⟩) HC.out.lt)
      have hor3 : s.o W5.heap.size = .none := M4.out.fresh _ (Nat.le_refl _)
      have RG3 := Lib.hid hrg3
      have hrc : W5.heap.size ≠ wr.heap.size := by omega
      rw [hsz4] at hor3 RG3 hrc
      clear hrg3 hg3 hs3 M4 T4 RO4 HC k0 k1 kf kz hsz4
      generalize wr.heap.size = cb at *
      go_loopw [8] (fun _ wq => ∃ (left : Lit → Bool) (cnt : Nat) (l : List Int), wq.ranges Try.prog 3 R68 b' (cb + 1) s.ids.length D left cnt ∧ l.Nodup ∧ (∀ z, z ∈ l ↔ (z ∈ s.ids ∧ s.pa z = 0) ∧ left (.int .i64 z) = false) ∧
        Mem wq { s with m := s.m - S, al := l.foldl (fun al x => liftA s.kids (fun _ => 0) s.en nd al x) (fun z => s.al z - s.sp z), sp := fun _ => 0 } ∧ Turn s w { s with m := s.m - S, al := l.foldl (fun al x => liftA s.kids (fun _ => 0) s.en nd al x) (fun z => s.al z - s.sp z), sp := fun _ => 0 } wq ∧
        Blk wq cb #[.func (.func 52) #[] #[.pointer (some ⟨cb, 0, none⟩)]] 81) (fun _ wq => wq.rangeLeft b' (cb + 1))
      case atStart =>
        exact ⟨_, _, [], RG3.out, List.nodup_nil, fun z => ⟨fun h => (by cases h), fun h => (by have h2 := h.2; rw [(HR.out.has _).2 ⟨z, h.1.1, rfl⟩] at h2; cases h2)⟩, M5.out, T5.out, C5.out⟩
      case round =>
        obtain ⟨left2, cnt2, l, hrg, hnd, hl, hM, hT, hC⟩ := hrel
        have M6 := Lib.hid hM
        have T6 := Lib.hid hT
        have C6 := Lib.hid hC
        have RG6 := Lib.hid hrg
        have ND := Lib.hid hnd
        have HL := Lib.hid hl
        clear hM hT hC hrg hnd hl M5 T5 C5 RG3
        go_wp2_with (first
          | (at_next; refine wpList_next_ranges _ rfl _ rfl 3 key3 R68 (Value.int .i64) mkV invK invV b' (cb + 1) s.ids.length D left2 cnt2 rfl RG6.out ?_ ?_)
          | fail)
        · intro _ hl0
          go_wp2_with fail
          go_ret
          rw [hSS]
          exact ⟨rfl, l, _, ND.out, fun z => ⟨fun h => ((HL.out z).1 h).1, fun h => (HL.out z).2 ⟨h, hl0 _⟩⟩, rfl, M6.out, T6.out⟩
        · intro x c kl y1 y2 w6 cnt6 hkey hlx hv hat hrg1 hlt hg1 hs1 hen
          obtain ⟨rfl, hx, hmk⟩ := came HR.out hkey hv hat
          rw [hmk] at hen ⊢
          have hxb := HF.out.idb x hx
          have M7 := Lib.hid (M6.out.keep hg1.size fun i hi => hg1.block i (M6.out.lt hi) (by intro e; injection e with e; rw [e] at hi; exact hi hor3))
          have T7 := Lib.hid (show Turn s w { s with m := s.m - S, al := l.foldl (fun al x => liftA s.kids (fun _ => 0) s.en nd al x) (fun z => s.al z - s.sp z), sp := fun _ => 0 } w6 from ⟨hg1.os.trans T6.out.os, hg1.tape.trans T6.out.tape, hg1.output.trans T6.out.output, Nat.le_trans T6.out.size hg1.size,
            fun i hi hn => (hg1.block i (Nat.lt_of_lt_of_le hi T6.out.size) (by intro e; injection e with e; omega)).trans (T6.out.block i hi hn), T6.out.none⟩)
          have C7 := Lib.hid (show Blk w6 cb #[.func (.func 52) #[] #[.pointer (some ⟨cb, 0, none⟩)]] 81 from grow_blk C6.out hg1 (Ne.symm hrc))
          obtain ⟨a0, a1, a2, a3, a4, a5⟩ := M7.out.fcell hx
          simp only at a0 a1 a2 a3 a4 a5
          have RG7 := Lib.hid hrg1
          have HX := Lib.hid hx
          have HLT := Lib.hid hlt
          have HLX := Lib.hid hlx
          have hcb : w6.cell? ⟨cb, 0, none⟩ = some (.func (.func 52) #[] #[.pointer (some ⟨cb, 0, none⟩)]) := C7.out.cell 0
          clear hrg1 hx hlt hkey hlx hv hat hmk M6 T6 C6
          by_cases hp : s.pa x = 0
          · have hBl : ∀ (l : List Int) (al : Int → Int), (∀ z ∈ l, z ∈ s.ids) → Bal s.ids (fun _ => 0) s.en al → Bal s.ids (fun _ => 0) s.en (l.foldl (fun al x => liftA s.kids (fun _ => 0) s.en nd al x) al) := by
              intro l
              induction l with
              | nil => intro al _ h; exact h
              | cons a l ih => intro al hal h; exact ih _ (fun z hz => hal z (by simp [hz])) (liftA_bal HF1.out nd al a (hal a (by simp)) h)
            have key := Lib.hid (lift_any nd w6 { s with m := s.m - S, al := l.foldl (fun al x => liftA s.kids (fun _ => 0) s.en nd al x) (fun z => s.al z - s.sp z), sp := fun _ => 0 } x cb M7.out HF1.out (hBl l _ (fun z hz => ((HL.out z).1 hz).1.1) HB1.out) HX.out (HD.out x HX.out) C7.out hoc)
            rw [hp] at a1
            clear hBl
            go_wp2_with fail
            refine key.out.mono ?_
            rintro e w8 ⟨rfl, hM8, hT8, hS8⟩
            have M8 := Lib.hid hM8
            have T8 := Lib.hid hT8
            have S8 := Lib.hid hS8
            clear hM8 hT8 hS8 key a0 a1 a2 a3 a4 a5 hcb hen
            go_wp2_with fail
            have hRG : w8.ranges Try.prog 3 R68 b' (cb + 1) s.ids.length D (fun z => left2 z && !z.sameKey (.int .i64 x)) cnt6 :=
              ranges_same RG7.out (S8.out b' RG7.out.owns.lt (fun z h => by have : s.o b' = .fund z := h; rw [hob] at this; cases this)) (S8.out _ RG7.out.lt (fun z h => by have : s.o (cb + 1) = .fund z := h; rw [hor3] at this; cases this))
            refine ⟨⟨_, cnt6, l ++ [x], hRG, ?_, ?_, ?_, ?_, ?_⟩, by rw [hRG.left_eq, RG6.out.left_eq]; exact HLT.out⟩
            · exact List.nodup_append.2 ⟨ND.out, by simp, fun a ha b hb e => by
                obtain rfl : b = x := by simpa using hb
                have := ((HL.out a).1 ha).2
                rw [e, HLX.out] at this; cases this⟩
            · intro z
              rw [List.mem_append]
              by_cases e : z = x
              · subst e
                exact ⟨fun _ => ⟨⟨HX.out, hp⟩, strike_self left2 (by omega) (by omega) HLX.out⟩, fun _ => .inr (by simp)⟩
              · constructor
                · rintro (h | h)
                  · exact ⟨((HL.out z).1 h).1, by rw [strike_ne left2 e]; exact ((HL.out z).1 h).2⟩
                  · exact absurd (by simpa using h) e
                · rintro ⟨h1, h2⟩
                  rw [strike_ne left2 e] at h2
                  exact .inl ((HL.out z).2 ⟨h1, h2⟩)
            · rw [List.foldl_append]; exact M8.out
            · rw [List.foldl_append]; exact T7.out.trans T8.out
            · exact T8.out.blk C7.out hoc
          · have hp' : (s.pa x == 0) = false := by simpa using hp
            go_wp2_with fail
            refine ⟨⟨_, cnt6, l, RG7.out, ND.out, ?_, M7.out, T7.out, C7.out⟩, by rw [RG7.out.left_eq, RG6.out.left_eq]; exact HLT.out⟩
            intro z
            by_cases e : z = x
            · subst e
              exact ⟨fun h => absurd ((HL.out z).1 h).1.2 hp, fun h => absurd h.1.2 hp⟩
            · rw [strike_ne left2 e]; exact HL.out z
    · intro x c kl y1 y2 w1 cnt1 hkey hlx hv hat hrg1 hlt hg1 hs1 hen
      obtain ⟨rfl, hx, hmk⟩ := came HR.out hkey hv hat
      rw [hmk] at hen ⊢
      have hxb := HF.out.idb x hx
      have M2 := Lib.hid (M1.out.keep hg1.size fun i hi => hg1.block i (M1.out.lt hi) (by intro e; injection e with e; rw [e] at hi; exact hi hor))
      have T2 := Lib.hid (show Turn s w { s with al := alL s left, sp := spL s left } w1 from ⟨hg1.os.trans T1.out.os, hg1.tape.trans T1.out.tape, hg1.output.trans T1.out.output, Nat.le_trans T1.out.size hg1.size,
        fun i hi hn => (hg1.block i (Nat.lt_of_lt_of_le hi T1.out.size) (by intro e; injection e with e; omega)).trans (T1.out.block i hi hn), T1.out.none⟩)
      obtain ⟨a0, a1, a2, a3, a4, a5⟩ := M2.out.fcell hx
      have af := (M2.out.fund x hx).frozen
      have el : alL s left x = s.al x := if_pos hlx
      have es : spL s left x = s.sp x := if_pos hlx
      simp only [el, es] at a0 a1 a2 a3 a4 a5 af
      have G := Lib.hid (gone_strike s left (by omega) (by omega) hlx)
      have HA := Lib.hid (alL_strike s left (by omega) (by omega) hlx)
      have HSp := Lib.hid (spL_strike s left (by omega) (by omega) hlx)
      have hg0 : (s.ids.map (gone s (fun z => left z && !z.sameKey (.int .i64 x)))).sum = (s.ids.map (gone s left)).sum + s.sp x := by
        rw [G.out, sum_upd _ _ _ _ HF.out.nd hx, show gone s left x = 0 from if_pos hlx]; omega
      have hb1 : (s.ids.map (gone s (fun z => left z && !z.sameKey (.int .i64 x)))).sum ≤ (s.ids.map s.al).sum := sum_mono _ fun z hz => by
        have h1 := HB.out.le z hz
        have h2 := HF.out.en z hz
        have h3 := HF.out.sp z hz
        unfold gone
        split <;> omega
      have hb2 := HB.out.sum
      have hb3 : 0 ≤ (s.ids.map (gone s left)).sum := sum_nonneg _ _ fun z hz => by
        have h3 := HF.out.sp z hz
        unfold gone
        split <;> omega
      have n1 := HF.out.sp x hx
      have n2 := HF.out.en x hx
      have n3 := HB.out.le x hx
      have hbd : (s.ids.map (gone s left)).sum + s.sp x ≤ 1000000000000000 := by omega
      have n4 : s.al x ≤ 1000000000000000 := Int.le_trans (le_sum s.al s.ids (fun z hz => by have := HB.out.le z hz; have := HF.out.sp z hz; have := HF.out.en z hz; omega) hx) hb2
      have HG0 := Lib.hid hg0
      have RG1 := Lib.hid hrg1
      have HX := Lib.hid hx
      have HLT := Lib.hid hlt
      obtain ⟨sm, hsm⟩ : ∃ sm, sm = (s.ids.map (gone s left)).sum := ⟨_, rfl⟩
      rw [← hsm] at hbd hb3 HG0 ⊢
      clear hg0 hrg1 hx hlt hb1 hb2 hkey hlx hv hat hmk el es G hsm
      go_wp2_with fail
      go_still_tail 11, (by kernel_rfl)
      go_wp2_with fail
      have hgb : b' ≠ s.g x := own_ne (s := s) (a := .mp) (b := .fund x) (by simp) hob (HM.out.ofund x HX.out)
      have hgr : w.heap.size ≠ s.g x := own_ne (s := s) (a := .none) (b := .fund x) (by simp) hor (HM.out.ofund x HX.out)
      have hRG : ((w1.setCell ⟨s.g x, 2, none⟩ (.int .i64 (s.al x - s.sp x))).setCell ⟨s.g x, 3, none⟩ (.int .i64 0)).drew.ranges Try.prog 3 R68 b' w.heap.size s.ids.length D (fun z => left z && !z.sameKey (.int .i64 x)) cnt1 :=
        ranges_same RG1.out ((Below.heap_setCell _ _ _ _ hgb).trans (Below.heap_setCell _ _ _ _ hgb)) ((Below.heap_setCell _ _ _ _ hgr).trans (Below.heap_setCell _ _ _ _ hgr))
      refine ⟨⟨_, cnt1, hRG, vint HG0.out.symm, ?_, ?_⟩, by rw [hRG.left_eq, RG.out.left_eq]; exact HLT.out⟩
      · rw [HA.out, HSp.out]
        exact ((M2.out.setAl HX.out _).setSp (x := x) HX.out _).drewN 1
      · rw [HA.out, HSp.out]
        exact T2.out.trans ((Turn.setOwn (s := { s with al := alL s left, sp := spL s left }) ⟨s.g x, 2, none⟩ _ (M2.out.fow HX.out) { s with al := upd (alL s left) x (s.al x - s.sp x), sp := spL s left } rfl).trans
          ((Turn.setOwn (s := { s with al := upd (alL s left) x (s.al x - s.sp x), sp := spL s left }) ⟨s.g x, 3, none⟩ (.int .i64 0) (M2.out.fow HX.out) { s with al := upd (alL s left) x (s.al x - s.sp x), sp := upd (spL s left) x 0 } rfl).trans (Turn.of_below (Below.refl _ _).drew)))
set_option maxRecDepth 100000 in
set_option maxHeartbeats 4000000 in
theorem close_none {w : World} {s : FS} (h : Mem w s) (hb : s.bm = none) (hids : s.ids = []) (h0 : 0 ≤ s.m) (h1 : s.m ≤ 1000000000000000) :
    Calls Try.prog 27 #[.pointer (some ⟨s.fb, 0, none⟩)] w fun r w' => r = .returned (.int .i64 0) ∧ Mem w' s ∧ Turn s w s w' := by
  obtain ⟨c0, c1⟩ := h.fbc
  have cf := h.fb.frozen
  rw [hb] at c0
  have HM := Lib.hid h
  have hz := h.fne
  have hz1 : s.fb < w.heap.size + 1 := by omega
  have hrg := fun W => run_range_nilMap (P := Try.prog) W 51 3 68 Try.underlying51
  have hnx : ∀ ty, (Instr.next (.pointer (some ⟨w.heap.size, 0, none⟩)) false ty).run Try.prog (w.alloc (.mapIter none 0 #[] 0)) = _ := fun ty => run_next_nilMap w ty 0 0 #[]
  have hmf : ∀ (fn : Fn) (first cap : Array Value) (w : World), (Instr.makeFunc fn first cap).run Try.prog w = .ok (.func fn first cap) w := fun _ _ _ _ => rfl
  clear h hb hids
  go_enter Try.func27, Try.ntmps27
  go_wp2_with fail
  refine wp_loop_rounds 1 ?_
  rw [rounds_succ]
  go_wp2_with fail
  have hnx2 : ∀ ty, (Instr.next (.pointer (some ⟨w.heap.size + 1 + 1, 0, none⟩)) false ty).run Try.prog ((((w.setCell ⟨s.fb, 1, none⟩ (.int .i64 s.m)).alloc (.mapIter none 0 #[] 0)).alloc (.cells #[.func (.func 52) #[] #[.pointer (some ⟨w.heap.size + 1, 0, none⟩)]] 81)).alloc (.mapIter none 0 #[] 0)) = .ok (.tuple #[.bool false]) ((((w.setCell ⟨s.fb, 1, none⟩ (.int .i64 s.m)).alloc (.mapIter none 0 #[] 0)).alloc (.cells #[.func (.func 52) #[] #[.pointer (some ⟨w.heap.size + 1, 0, none⟩)]] 81)).alloc (.mapIter none 0 #[] 0)) := fun ty => by
    have e : w.heap.size + 1 + 1 = (((w.setCell ⟨s.fb, 1, none⟩ (.int .i64 s.m)).alloc (.mapIter none 0 #[] 0)).alloc (.cells #[.func (.func 52) #[] #[.pointer (some ⟨w.heap.size + 1, 0, none⟩)]] 81)).heap.size := by simp
    have := run_next_nilMap (P := Try.prog) (((w.setCell ⟨s.fb, 1, none⟩ (.int .i64 s.m)).alloc (.mapIter none 0 #[] 0)).alloc (.cells #[.func (.func 52) #[] #[.pointer (some ⟨w.heap.size + 1, 0, none⟩)]] 81)) ty 0 0 #[]
    rwa [← e] at this
  refine wp_loop_rounds 1 ?_
  rw [rounds_succ]
  go_wp2_with fail
  go_ret
  exact ⟨rfl, (((HM.out.setM s.m).alloc _).alloc _).alloc _, (Turn.setOwn ⟨s.fb, 1, none⟩ _ (by show s.o s.fb ≠ .none; rw [HM.out.ofb]; simp) s rfl).trans ((Turn.alloc _ _ _).trans ((Turn.alloc _ _ _).trans (Turn.alloc _ _ _)))⟩
/-- Close: the result, and the state. -/
theorem close_any {w : World} {s : FS} (h : Mem w s) (f : Fix s.ids s.sp s.en s.kids) (hB : Bal s.ids s.sp s.en s.al) (hm : s.m = (s.ids.map s.al).sum) (nd : Nat) (hd : ∀ x ∈ s.ids, Deep s.kids nd x) :
    Calls Try.prog 27 #[.pointer (some ⟨s.fb, 0, none⟩)] w fun r w' => r = .returned (.int .i64 (s.ids.map s.sp).sum) ∧ ∃ (s' : FS) (l : List Int), l.Nodup ∧ (∀ z, z ∈ l ↔ z ∈ s.ids ∧ s.pa z = 0) ∧ Mem w' s' ∧ Turn s w s' w' ∧ s'.fb = s.fb ∧
      s'.m = s.m - (s.ids.map s.sp).sum ∧ s'.ids = s.ids ∧ s'.pa = s.pa ∧ s'.en = s.en ∧ s'.kids = s.kids ∧ (∀ z ∈ s.ids, s'.sp z = 0 ∧ s'.al z = l.foldl (fun al x => liftA s.kids (fun _ => 0) s.en nd al x) (fun z => s.al z - s.sp z) z) := by
  cases hb : s.bm with
  | none =>
    have hids : s.ids = [] := by
      rcases h.map with ⟨_, h3⟩ | ⟨b', D, h2, _⟩
      · exact h3
      · rw [h2] at hb; cases hb
    have e : (s.ids.map s.sp).sum = 0 := by rw [hids]; rfl
    have e2 : s.m = 0 := by rw [hm, hids]; rfl
    rw [e]
    exact (close_none h hb hids (by omega) (by omega)).mono fun r w' ⟨h1, h2, h3⟩ => ⟨h1, s, [], List.nodup_nil, fun z => by rw [hids]; simp, h2, h3, rfl, by omega, rfl, rfl, rfl, rfl, fun z hz => by rw [hids] at hz; cases hz⟩
  | some b =>
    exact (close_some h f hB hm nd hd b hb).mono fun r w' ⟨h1, l, al', h2, h3, h4, h5, h6⟩ => ⟨h1, _, l, h2, h3, h5, h6, rfl, rfl, rfl, rfl, rfl, rfl, fun z _ => ⟨rfl, by show al' z = _; rw [h4]⟩⟩
end Go.Proofs.Ytmnkgjgaileokaa
