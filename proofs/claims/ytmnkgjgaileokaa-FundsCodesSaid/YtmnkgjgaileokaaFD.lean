/- The contract of put: a fund more. -/
import Derived.Test.YtmnkgjgaileokaaFC
import Derived.StillTailTactics
namespace Go.Proofs.Ytmnkgjgaileokaa
open Go.RowKit

def FS.putS (s : FS) (x p a e f : Int) (b gn : Nat) : FS :=
  { s with bm := some b, m := s.m + a, ids := s.ids ++ [x], pa := upd s.pa x p, al := upd s.al x a, sp := upd s.sp x e, en := upd s.en x f
           g := fun y => if y = x then gn else s.g y, bl := fun y => if y = x then .slice none 0 0 else s.bl y, kids := fun y => if y = x then [] else s.kids y
           o := fun i => if i = gn then .fund x else if i = b then .mp else s.o i }
theorem isKey64 {x : Int} (h0 : -9223372036854775808 ≤ x) (h1 : x ≤ 9223372036854775807) : WideAt.IsKeyLit (.int .i64 x) := key3.key (Maps.keyOf_int_mk Try.underlying3 (wf64 h0 h1))
theorem rep_put {D : DataW Unit} {ids : List Int} {g g' : Int → Nat} {x : Int} {gn : Nat} (h : Rep D ids g) (hx : x ∉ ids) (h0 : -9223372036854775808 ≤ x) (h1 : x ≤ 9223372036854775807) (ht : Maps.Tidy (D.put (.int .i64 x) (.lit (.int .i64 gn))))
    (e1 : g' x = gn) (e2 : ∀ y ∈ ids, g' y = g y) : Rep (D.put (.int .i64 x) (.lit (.int .i64 gn))) (ids ++ [x]) g' where
  tidy := ht
  size := by
    have hh : Maps.has D (.int .i64 x) = false := by
      cases e : Maps.has D (.int .i64 x) with
      | false => rfl
      | true => obtain ⟨y, hy, e'⟩ := (h.has _).1 e; injection e' with _ e'; exact absurd (e' ▸ hy) hx
    rw [Maps.size_put h.tidy, hh]; simp [h.size]
  at_ := by
    intro y z
    by_cases e : y = x
    · subst e
      rw [Maps.atKey_put_same h.tidy.isMap (isKey64 h0 h1), if_pos (by simp), e1]
    · rw [Maps.atKey_put_other (by intro e'; injection e' with _ e'; exact e e'), h.at_]
      by_cases hy : y ∈ ids
      · rw [if_pos hy, if_pos (by simp [hy]), e2 y hy]
      · rw [if_neg hy, if_neg (by simp [hy, e])]
  has := by
    intro kl
    by_cases e : kl = .int .i64 x
    · subst e
      rw [Maps.has_put_same h.tidy.isMap (isKey64 h0 h1)]
      simp
    · rw [Maps.has_put_other e, h.has]
      constructor
      · rintro ⟨y, hy, rfl⟩; exact ⟨y, by simp [hy], rfl⟩
      · rintro ⟨y, hy, rfl⟩
        refine ⟨y, ?_, rfl⟩
        rcases List.mem_append.1 hy with h' | h'
        · exact h'
        · simp at h'; exact absurd (by rw [h']) e
theorem rep_nil (g : Int → Nat) : Rep (.map []) [] g where
  tidy := ⟨[], rfl, by simp⟩
  size := rfl
  at_ := by intro x z; simp [DataW.atKey]
  has := by intro kl; simp [Maps.has]
theorem Mem.put {w w' : World} {s : FS} (h : Mem w s) {x p a e f : Int} {b gn : Nat} {D : DataW Unit} (hx : x ∉ s.ids) (h0 : -9223372036854775808 ≤ x) (h1 : x ≤ 9223372036854775807)
    (hsz : w.heap.size ≤ w'.heap.size) (hk : ∀ i, s.o i ≠ .none → i ≠ s.fb → i ≠ b → w'.heap[i]? = w.heap[i]?) (hfb : Blk w' s.fb #[.map (some b), .int .i64 (s.m + a)] 53)
    (hg : Blk w' gn (fcells x p a e f (.slice none 0 0)) 71) (hgo : s.o gn = .none) (hgb : gn ≠ b) (hb : s.bm = some b ∨ (s.bm = none ∧ s.o b = .none))
    (hR : Rep D s.ids s.g) (hmap : w'.ownsMap (H := Unit) Try.prog 3 R68 b (s.ids.length + 1) (D.put (.int .i64 x) (.lit (.int .i64 gn)))) : Mem w' (s.putS x p a e f b gn) := by
  have hob : s.o b = .mp ∨ s.o b = .none := by
    rcases hb with hb | hb
    · rcases h.map with ⟨h2, _⟩ | ⟨b', _, h2, h3, _⟩
      · rw [h2] at hb; cases hb
      · rw [h2] at hb; injection hb with hb; exact .inl (hb ▸ h3)
    · exact .inr hb.2
  have nefg : ∀ i, s.o i ≠ .none → i ≠ gn := fun i hi e' => hi (by rw [e']; exact hgo)
  have nefb : ∀ i, s.o i ≠ .none → s.o i ≠ .mp → i ≠ b := fun i hi hi' e' => by rcases hob with h' | h' <;> (rw [← e'] at h'; contradiction)
  have oo : ∀ i, s.o i ≠ .none → s.o i ≠ .mp → (s.putS x p a e f b gn).o i = s.o i := fun i hi hi' => by
    show (if i = gn then Own.fund x else if i = b then Own.mp else s.o i) = s.o i
    rw [if_neg (nefg i hi), if_neg (nefb i hi hi')]
  have hne : ∀ y ∈ s.ids, y ≠ x := fun y hy e' => hx (e' ▸ hy)
  refine ⟨?_, ?_, ?_, ?_, ?_, ?_, ?_, ?_, ?_⟩
  · intro i hi
    show (if i = gn then Own.fund x else if i = b then Own.mp else s.o i) = .none
    have h2 := hg.lt
    have h3 := hmap.lt
    rw [if_neg (by omega), if_neg (by omega)]
    exact h.fresh i (by omega)
  · exact hfb
  · rw [show (s.putS x p a e f b gn).fb = s.fb from rfl, oo _ (by rw [h.ofb]; simp) (by rw [h.ofb]; simp)]; exact h.ofb
  · intro y hy
    rcases List.mem_append.1 hy with hy | hy
    · have e1 : (s.putS x p a e f b gn).g y = s.g y := if_neg (hne y hy)
      have e2 : (s.putS x p a e f b gn).cells y = s.cells y := by simp [FS.cells, FS.putS, upd_ne _ _ (hne y hy), hne y hy]
      rw [e1, e2]
      have h4 := h.ofund y hy
      unfold Blk
      rw [hk _ (by rw [h4]; simp) (own_ne (by simp) h4 h.ofb) (nefb _ (by rw [h4]; simp) (by rw [h4]; simp))]
      exact h.fund y hy
    · obtain rfl : y = x := by simpa using hy
      have e1 : (s.putS y p a e f b gn).g y = gn := if_pos rfl
      rw [e1]
      exact hg.cast (by simp [FS.cells, FS.putS, upd_same])
  · intro y hy
    rcases List.mem_append.1 hy with hy | hy
    · have e1 : (s.putS x p a e f b gn).g y = s.g y := if_neg (hne y hy)
      have h4 := h.ofund y hy
      rw [e1, oo _ (by rw [h4]; simp) (by rw [h4]; simp)]; exact h4
    · obtain rfl : y = x := by simpa using hy
      have e1 : (s.putS y p a e f b gn).g y = gn := if_pos rfl
      rw [e1]; exact if_pos rfl
  · intro y hy
    rcases List.mem_append.1 hy with hy | hy
    · have e1 : (s.putS x p a e f b gn).kids y = s.kids y := if_neg (hne y hy)
      have e2 : (s.putS x p a e f b gn).bl y = s.bl y := if_neg (hne y hy)
      have e3 : (s.kids y).map (fun z => ptr ((s.putS x p a e f b gn).g z)) = (s.kids y).map fun z => ptr (s.g z) :=
        List.map_congr_left fun z hz => by rw [show (s.putS x p a e f b gn).g z = s.g z from if_neg (hne z (h.kin y hy z hz))]
      rw [e1, e2, e3]
      refine owns_same (h.row y hy) fun r hr => ?_
      have h4 := h.orow y hy r hr
      exact hk r (by rw [h4]; simp) (own_ne (by simp) h4 h.ofb) (nefb r (by rw [h4]; simp) (by rw [h4]; simp))
    · obtain rfl : y = x := by simpa using hy
      have e1 : (s.putS y p a e f b gn).kids y = [] := if_pos rfl
      have e2 : (s.putS y p a e f b gn).bl y = .slice none 0 0 := if_pos rfl
      rw [e1, e2]
      exact World.ownsRow_nil _ _ _ _
  · intro y hy r hr
    rcases List.mem_append.1 hy with hy | hy
    · have e1 : (s.putS x p a e f b gn).bl y = s.bl y := if_neg (hne y hy)
      rw [e1] at hr
      have h4 := h.orow y hy r hr
      rw [oo _ (by rw [h4]; simp) (by rw [h4]; simp)]; exact h4
    · obtain rfl : y = x := by simpa using hy
      have e2 : (s.putS y p a e f b gn).bl y = .slice none 0 0 := if_pos rfl
      rw [e2] at hr; cases hr
  · intro y hy z hz
    rcases List.mem_append.1 hy with hy | hy
    · have e1 : (s.putS x p a e f b gn).kids y = s.kids y := if_neg (hne y hy)
      rw [e1] at hz
      exact List.mem_append.2 (.inl (h.kin y hy z hz))
    · obtain rfl : y = x := by simpa using hy
      have e1 : (s.putS y p a e f b gn).kids y = [] := if_pos rfl
      rw [e1] at hz; cases hz
  · refine .inr ⟨b, _, rfl, ?_, ?_, rep_put hR hx h0 h1 ?_ (if_pos rfl) (fun y hy => if_neg (hne y hy))⟩
    · show (if b = gn then Own.fund x else if b = b then Own.mp else s.o b) = .mp
      rw [if_neg (Ne.symm hgb), if_pos rfl]
    · have e1 : (s.putS x p a e f b gn).ids.length = s.ids.length + 1 := by simp [FS.putS]
      rw [e1]; exact hmap
    · obtain ⟨es, h5, h6, _⟩ := hmap.entries key3
      exact ⟨es, h5, h6⟩
theorem grow_blk {w w' : World} {i b : Nat} {xs : Array Value} {T : TypeId} (k : Blk w i xs T) (hg : w.grownBy w' (some b)) (hne : i ≠ b) : Blk w' i xs T := by
  unfold Blk; rw [hg.block i k.lt (by simpa using hne)]; exact k
theorem Turn.putS {s : FS} {w w' : World} {x p a e f : Int} {b gn : Nat} (os : w'.os = w.os) (tape : w'.tape = w.tape) (out : w'.output = w.output) (hsz : w.heap.size ≤ w'.heap.size)
    (hk : ∀ i, i < w.heap.size → i ≠ s.fb → i ≠ b → w'.heap[i]? = w.heap[i]?) (hfb : s.o s.fb = .fb) (hb : s.o b = .mp ∨ w.heap.size ≤ b) (hg : w.heap.size ≤ gn) : Turn s w (s.putS x p a e f b gn) w' :=
  ⟨os, tape, out, hsz, fun i hi hn => hk i hi (fun e' => by rw [e', hfb] at hn; cases hn) (fun e' => by
      rcases hb with h | h
      · rw [e', h] at hn; cases hn
      · omega), fun i hi hn => by
    show (if i = gn then Own.fund x else if i = b then Own.mp else s.o i) = .none
    rw [if_neg (by omega), if_neg (fun e' => by
      rcases hb with h | h
      · rw [e', h] at hn; cases hn
      · omega)]
    exact hn⟩
set_option maxRecDepth 100000 in
set_option maxHeartbeats 2000000 in
theorem put_some {w : World} {s : FS} (h : Mem w s) (x p a e f : Int) (b0 : Nat) (hbm : s.bm = some b0)
    (hx : x ∉ s.ids) (h0 : -9223372036854775808 ≤ x) (h1 : x ≤ 9223372036854775807) (hm0 : -2000000000000000000 ≤ s.m) (hm1 : s.m ≤ 2000000000000000000) (ha0 : -2000000000000000000 ≤ a) (ha1 : a ≤ 2000000000000000000) (hl : s.ids.length ≤ 100000) :
    Calls Try.prog 39 #[.pointer (some ⟨s.fb, 0, none⟩), .agg #[.int .i64 x, .int .i64 p, .int .i64 a, .int .i64 e, .int .i64 f]] w fun r w' => ∃ b gn, r = .returned (.pointer (some ⟨gn, 0, none⟩)) ∧ Mem w' (s.putS x p a e f b gn) ∧ Turn s w (s.putS x p a e f b gn) w' ∧ w.heap.size ≤ gn ∧ s.o gn = .none := by
  obtain ⟨c0, c1⟩ := h.fbc
  have hz := h.fne
  rcases h.map with ⟨h2, _⟩ | ⟨b', D, h2, hob, hown, hR⟩
  · rw [h2] at hbm; cases hbm
  have HO := Lib.hid ((hown.alloc (.cells #[.int .i64 x, .int .i64 p, .int .i64 a, .int .i64 e, .int .i64 f] 31)).alloc (.cells #[.int .i64 x, .int .i64 p, .int .i64 a, .int .i64 e, .int .i64 f, .slice none 0 0] 71))
  have HB0 := Lib.hid ((Blk.new w #[.int .i64 x, .int .i64 p, .int .i64 a, .int .i64 e, .int .i64 f] 31).alloc (.cells #[.int .i64 x, .int .i64 p, .int .i64 a, .int .i64 e, .int .i64 f, .slice none 0 0] 71))
  have HG0 := Lib.hid (Blk.at_new (w := w.alloc (.cells #[.int .i64 x, .int .i64 p, .int .i64 a, .int .i64 e, .int .i64 f] 31)) (n := w.heap.size + 1) (by simp) #[.int .i64 x, .int .i64 p, .int .i64 a, .int .i64 e, .int .i64 f, .slice none 0 0] 71)
  have HF0 := Lib.hid ((h.fb.alloc (.cells #[.int .i64 x, .int .i64 p, .int .i64 a, .int .i64 e, .int .i64 f] 31)).alloc (.cells #[.int .i64 x, .int .i64 p, .int .i64 a, .int .i64 e, .int .i64 f, .slice none 0 0] 71))
  rw [h2] at HF0
  have HE : RowKit.Hid (((w.alloc (.cells #[.int .i64 x, .int .i64 p, .int .i64 a, .int .i64 e, .int .i64 f] 31)).alloc (.cells #[.int .i64 x, .int .i64 p, .int .i64 a, .int .i64 e, .int .i64 f, .slice none 0 0] 71)).os = w.os ∧ ((w.alloc (.cells #[.int .i64 x, .int .i64 p, .int .i64 a, .int .i64 e, .int .i64 f] 31)).alloc (.cells #[.int .i64 x, .int .i64 p, .int .i64 a, .int .i64 e, .int .i64 f, .slice none 0 0] 71)).tape = w.tape ∧ ((w.alloc (.cells #[.int .i64 x, .int .i64 p, .int .i64 a, .int .i64 e, .int .i64 f] 31)).alloc (.cells #[.int .i64 x, .int .i64 p, .int .i64 a, .int .i64 e, .int .i64 f, .slice none 0 0] 71)).output = w.output ∧ ∀ i, i < w.heap.size → i ≠ s.fb → ((w.alloc (.cells #[.int .i64 x, .int .i64 p, .int .i64 a, .int .i64 e, .int .i64 f] 31)).alloc (.cells #[.int .i64 x, .int .i64 p, .int .i64 a, .int .i64 e, .int .i64 f, .slice none 0 0] 71)).heap[i]? = w.heap[i]?) :=
    ⟨rfl, rfl, rfl, fun i hi _ => (Below.heap_alloc _ _ _ (by rw [size_alloc]; omega)).trans (Below.heap_alloc _ _ _ hi)⟩
  have hbf : s.fb ≠ b' := own_ne (by simp) h.ofb hob
  have HQM : s.bm = some b' ∨ (s.bm = none ∧ s.o b' = .none) := .inl h2
  have HMP : s.o b' = .mp ∨ w.heap.size ≤ b' := .inl hob
  rw [h2] at c0
  have HM := Lib.hid h
  have HX := Lib.hid hx
  have hblt := hown.lt
  clear h hown hx hbm
  have hem := fun W r => run_eql_map_nil (P := Try.prog) W 51 3 68 r Try.underlying51
  go_enter Try.func39, Try.ntmps39
  go_wp2_with fail
  obtain ⟨W4, hW4⟩ : ∃ W4, W4 = (w.alloc (.cells #[.int .i64 x, .int .i64 p, .int .i64 a, .int .i64 e, .int .i64 f] 31)).alloc (.cells #[.int .i64 x, .int .i64 p, .int .i64 a, .int .i64 e, .int .i64 f, .slice none 0 0] 71) := ⟨_, rfl⟩
  have hsz4 : W4.heap.size = w.heap.size + 1 + 1 := by rw [hW4]; simp
  rw [← hW4] at HO HB0 HG0 HF0 HE
  rw [show (w.alloc (.cells #[.int .i64 x, .int .i64 p, .int .i64 a, .int .i64 e, .int .i64 f] 31)).alloc (.cells #[.int .i64 x, .int .i64 p, .int .i64 a, .int .i64 e, .int .i64 f, .slice none 0 0] 71) = W4 from hW4.symm]
  clear hW4 c0 c1
  have d0 : W4.cell? ⟨s.fb, 0, none⟩ = some (.map (some (b'))) := HF0.out.cell 0
  have d1 : W4.cell? ⟨w.heap.size, 0, none⟩ = some (.int .i64 x) := HB0.out.cell 0
  go_still_tail 7, (by kernel_rfl)
  have HO' := Lib.hid HO.out.drew
  have HB' := Lib.hid HB0.out.drew
  have HG' := Lib.hid HG0.out.drew
  have HF' := Lib.hid HF0.out.drew
  go_wp2_with (at_mapUpdate; refine wpList_mapUpdate_own _ rfl _ _ _ 51 rfl 3 68 key3 Try.underlying51 R68 (b') (s.ids.length) D rfl HO'.out (by unfold maxLen; omega) _ _ _ rfl rfl (Maps.keyOf_int_mk Try.underlying3 (wf64 h0 h1)) (.lit (.int .i64 (w.heap.size + 1 : Nat))) [] (R68_ptr _) ?_)
  intro w5 hown5 hgrow5
  have hbb : w.heap.size ≠ b' := by omega
  have hbg : w.heap.size + 1 ≠ b' := by omega
  have B5 := Lib.hid (grow_blk HB'.out hgrow5 hbb)
  have G5 := Lib.hid (grow_blk HG'.out hgrow5 hbg)
  have F5 := Lib.hid (grow_blk HF'.out hgrow5 hbf)
  have O5 := Lib.hid hown5
  have R5 := Lib.hid hgrow5
  have e1 : w5.cell? ⟨s.fb, 1, none⟩ = some (.int .i64 s.m) := F5.out.cell 1
  have e2 : w5.cell? ⟨w.heap.size, 2, none⟩ = some (.int .i64 a) := B5.out.cell 2
  have ef := F5.out.frozen
  clear hown5 hgrow5 HO' HB' HG' HF'
  go_wp2_with fail
  go_still_tail 7, (by kernel_rfl)
  have ef' : ∀ i, w5.drew.frozen? ⟨s.fb, i, none⟩ = false := ef
  have e1' : w5.drew.cell? ⟨s.fb, 1, none⟩ = some (.int .i64 s.m) := e1
  go_wp2_with fail
  go_ret
  have hfin : Blk (w5.drew.setCell ⟨s.fb, 1, none⟩ (.int .i64 (s.m + a))) s.fb #[.map (some (b')), .int .i64 (s.m + a)] 53 := (F5.out.drew.set 1 _).cast (by simp)
  have hK : ∀ i, i < w.heap.size → i ≠ s.fb → i ≠ b' → (w5.drew.setCell ⟨s.fb, 1, none⟩ (.int .i64 (s.m + a))).heap[i]? = w.heap[i]? := fun i hi h3 h4 =>
    (Below.heap_setCell _ _ _ _ h3).trans (((R5.out.block i (by show i < W4.heap.size; omega) (by simpa using h4))).trans (HE.out.2.2.2 i hi h3))
  have hsz : w.heap.size ≤ (w5.drew.setCell ⟨s.fb, 1, none⟩ (.int .i64 (s.m + a))).heap.size := by
    have := R5.out.size
    have e9 : W4.drew.heap.size = W4.heap.size := rfl
    have e8 : (w5.drew.setCell ⟨s.fb, 1, none⟩ (.int .i64 (s.m + a))).heap.size = w5.heap.size := by simp
    omega
  have hgo : s.o (w.heap.size + 1) = .none := HM.out.fresh _ (by omega)
  exact ⟨(b'), (w.heap.size + 1), rfl, Mem.put HM.out HX.out h0 h1 hsz (fun i hi => hK i (HM.out.lt hi)) hfin (G5.out.drew.set_ne _ _ (by show w.heap.size + 1 ≠ s.fb; omega)) hgo hbg HQM hR (map_same O5.out (Below.heap_setCell _ _ _ _ (Ne.symm hbf))),
    Turn.putS (R5.out.os.trans HE.out.1) (R5.out.tape.trans HE.out.2.1) (R5.out.output.trans HE.out.2.2.1) hsz hK HM.out.ofb HMP (by omega), by omega, hgo⟩
set_option maxRecDepth 100000 in
set_option maxHeartbeats 2000000 in
theorem put_nil {w : World} {s : FS} (h : Mem w s) (x p a e f : Int) (hbm : s.bm = none)
    (hx : x ∉ s.ids) (h0 : -9223372036854775808 ≤ x) (h1 : x ≤ 9223372036854775807) (hm0 : -2000000000000000000 ≤ s.m) (hm1 : s.m ≤ 2000000000000000000) (ha0 : -2000000000000000000 ≤ a) (ha1 : a ≤ 2000000000000000000) (hl : s.ids.length ≤ 100000) :
    Calls Try.prog 39 #[.pointer (some ⟨s.fb, 0, none⟩), .agg #[.int .i64 x, .int .i64 p, .int .i64 a, .int .i64 e, .int .i64 f]] w fun r w' => ∃ b gn, r = .returned (.pointer (some ⟨gn, 0, none⟩)) ∧ Mem w' (s.putS x p a e f b gn) ∧ Turn s w (s.putS x p a e f b gn) w' ∧ w.heap.size ≤ gn ∧ s.o gn = .none := by
  obtain ⟨c0, c1⟩ := h.fbc
  have hz := h.fne
  have hids : s.ids = [] := by
    rcases h.map with ⟨_, h3⟩ | ⟨b', D, h2, _⟩
    · exact h3
    · rw [h2] at hbm; cases hbm
  obtain ⟨D, hD⟩ : ∃ D : DataW Unit, D = .map [] := ⟨_, rfl⟩
  have hR : Rep D s.ids s.g := by rw [hD, hids]; exact rep_nil _
  have hsb : ((w.setCell ⟨s.fb, 0, none⟩ (.map (some (w.heap.size + 1)))).alloc (.cells #[.int .i64 x, .int .i64 p, .int .i64 a, .int .i64 e, .int .i64 f] 31)).heap.size = w.heap.size + 1 := by simp
  have hown0 : (((w.setCell ⟨s.fb, 0, none⟩ (.map (some (w.heap.size + 1)))).alloc (.cells #[.int .i64 x, .int .i64 p, .int .i64 a, .int .i64 e, .int .i64 f] 31)).alloc (.map #[] 0)).ownsMap (H := Unit) Try.prog 3 R68 (w.heap.size + 1) s.ids.length D := by
    have := World.ownsMap_made (H := Unit) ((w.setCell ⟨s.fb, 0, none⟩ (.map (some (w.heap.size + 1)))).alloc (.cells #[.int .i64 x, .int .i64 p, .int .i64 a, .int .i64 e, .int .i64 f] 31)) Try.prog 3 R68
    rw [hsb] at this
    rw [hD, hids]; exact this
  have hbf : s.fb ≠ w.heap.size + 1 := by omega
  have HO := Lib.hid (hown0.alloc (.cells #[.int .i64 x, .int .i64 p, .int .i64 a, .int .i64 e, .int .i64 f, .slice none 0 0] 71))
  have HB0 := Lib.hid (((Blk.at_new (w := (w.setCell ⟨s.fb, 0, none⟩ (.map (some (w.heap.size + 1))))) (n := w.heap.size) (by simp) #[.int .i64 x, .int .i64 p, .int .i64 a, .int .i64 e, .int .i64 f] 31).alloc (.map #[] 0)).alloc (.cells #[.int .i64 x, .int .i64 p, .int .i64 a, .int .i64 e, .int .i64 f, .slice none 0 0] 71))
  have HG0 := Lib.hid (Blk.at_new (w := ((w.setCell ⟨s.fb, 0, none⟩ (.map (some (w.heap.size + 1)))).alloc (.cells #[.int .i64 x, .int .i64 p, .int .i64 a, .int .i64 e, .int .i64 f] 31)).alloc (.map #[] 0)) (n := w.heap.size + 1 + 1) (by simp) #[.int .i64 x, .int .i64 p, .int .i64 a, .int .i64 e, .int .i64 f, .slice none 0 0] 71)
  have HF0 := Lib.hid (((((h.fb.set 0 (.map (some (w.heap.size + 1)))).cast (ys := #[.map (some (w.heap.size + 1)), .int .i64 s.m]) (by simp)).alloc (.cells #[.int .i64 x, .int .i64 p, .int .i64 a, .int .i64 e, .int .i64 f] 31)).alloc (.map #[] 0)).alloc (.cells #[.int .i64 x, .int .i64 p, .int .i64 a, .int .i64 e, .int .i64 f, .slice none 0 0] 71))
  have HE : RowKit.Hid (((((w.setCell ⟨s.fb, 0, none⟩ (.map (some (w.heap.size + 1)))).alloc (.cells #[.int .i64 x, .int .i64 p, .int .i64 a, .int .i64 e, .int .i64 f] 31)).alloc (.map #[] 0)).alloc (.cells #[.int .i64 x, .int .i64 p, .int .i64 a, .int .i64 e, .int .i64 f, .slice none 0 0] 71)).os = w.os ∧ ((((w.setCell ⟨s.fb, 0, none⟩ (.map (some (w.heap.size + 1)))).alloc (.cells #[.int .i64 x, .int .i64 p, .int .i64 a, .int .i64 e, .int .i64 f] 31)).alloc (.map #[] 0)).alloc (.cells #[.int .i64 x, .int .i64 p, .int .i64 a, .int .i64 e, .int .i64 f, .slice none 0 0] 71)).tape = w.tape ∧ ((((w.setCell ⟨s.fb, 0, none⟩ (.map (some (w.heap.size + 1)))).alloc (.cells #[.int .i64 x, .int .i64 p, .int .i64 a, .int .i64 e, .int .i64 f] 31)).alloc (.map #[] 0)).alloc (.cells #[.int .i64 x, .int .i64 p, .int .i64 a, .int .i64 e, .int .i64 f, .slice none 0 0] 71)).output = w.output ∧ ∀ i, i < w.heap.size → i ≠ s.fb → ((((w.setCell ⟨s.fb, 0, none⟩ (.map (some (w.heap.size + 1)))).alloc (.cells #[.int .i64 x, .int .i64 p, .int .i64 a, .int .i64 e, .int .i64 f] 31)).alloc (.map #[] 0)).alloc (.cells #[.int .i64 x, .int .i64 p, .int .i64 a, .int .i64 e, .int .i64 f, .slice none 0 0] 71)).heap[i]? = w.heap[i]?) :=
    ⟨rfl, rfl, rfl, fun i hi h3 => (Below.heap_alloc _ _ _ (by simp; omega)).trans ((Below.heap_alloc _ _ _ (by simp; omega)).trans ((Below.heap_alloc _ _ _ (by simp; omega)).trans (Below.heap_setCell _ _ _ _ h3)))⟩
  have HQM : s.bm = some (w.heap.size + 1) ∨ (s.bm = none ∧ s.o (w.heap.size + 1) = .none) := .inr ⟨hbm, h.fresh _ (by omega)⟩
  have HMP : s.o (w.heap.size + 1) = .mp ∨ w.heap.size ≤ w.heap.size + 1 := .inr (by omega)
  rw [hbm] at c0
  have cf := h.fb.frozen
  have HM := Lib.hid h
  have HX := Lib.hid hx
  have hz1 : s.fb < w.heap.size + 1 := by omega
  have hz2 : s.fb < (w.alloc (.cells #[.int .i64 x, .int .i64 p, .int .i64 a, .int .i64 e, .int .i64 f] 31)).heap.size := by rw [size_alloc]; omega
  clear h hown0 hx hbm hD hids
  have hem := fun W r => run_eql_map_nil (P := Try.prog) W 51 3 68 r Try.underlying51
  have hmm := @run_makeMap Try.prog
  go_enter Try.func39, Try.ntmps39
  go_wp2_with fail
  obtain ⟨W4, hW4⟩ : ∃ W4, W4 = (((w.setCell ⟨s.fb, 0, none⟩ (.map (some (w.heap.size + 1)))).alloc (.cells #[.int .i64 x, .int .i64 p, .int .i64 a, .int .i64 e, .int .i64 f] 31)).alloc (.map #[] 0)).alloc (.cells #[.int .i64 x, .int .i64 p, .int .i64 a, .int .i64 e, .int .i64 f, .slice none 0 0] 71) := ⟨_, rfl⟩
  have hsz4 : W4.heap.size = w.heap.size + 1 + 1 + 1 := by rw [hW4]; simp
  rw [← hW4] at HO HB0 HG0 HF0 HE
  rw [show (((w.setCell ⟨s.fb, 0, none⟩ (.map (some (w.heap.size + 1)))).alloc (.cells #[.int .i64 x, .int .i64 p, .int .i64 a, .int .i64 e, .int .i64 f] 31)).alloc (.map #[] 0)).alloc (.cells #[.int .i64 x, .int .i64 p, .int .i64 a, .int .i64 e, .int .i64 f, .slice none 0 0] 71) = W4 from hW4.symm]
  clear hW4 c0 c1
  have d0 : W4.cell? ⟨s.fb, 0, none⟩ = some (.map (some (w.heap.size + 1))) := HF0.out.cell 0
  have d1 : W4.cell? ⟨w.heap.size, 0, none⟩ = some (.int .i64 x) := HB0.out.cell 0
  go_still_tail 7, (by kernel_rfl)
  have HO' := Lib.hid HO.out.drew
  have HB' := Lib.hid HB0.out.drew
  have HG' := Lib.hid HG0.out.drew
  have HF' := Lib.hid HF0.out.drew
  go_wp2_with (at_mapUpdate; refine wpList_mapUpdate_own _ rfl _ _ _ 51 rfl 3 68 key3 Try.underlying51 R68 (w.heap.size + 1) (s.ids.length) D rfl HO'.out (by unfold maxLen; omega) _ _ _ rfl rfl (Maps.keyOf_int_mk Try.underlying3 (wf64 h0 h1)) (.lit (.int .i64 (w.heap.size + 1 + 1 : Nat))) [] (R68_ptr _) ?_)
  intro w5 hown5 hgrow5
  have hbb : w.heap.size ≠ w.heap.size + 1 := by omega
  have hbg : w.heap.size + 1 + 1 ≠ w.heap.size + 1 := by omega
  have B5 := Lib.hid (grow_blk HB'.out hgrow5 hbb)
  have G5 := Lib.hid (grow_blk HG'.out hgrow5 hbg)
  have F5 := Lib.hid (grow_blk HF'.out hgrow5 hbf)
  have O5 := Lib.hid hown5
  have R5 := Lib.hid hgrow5
  have e1 : w5.cell? ⟨s.fb, 1, none⟩ = some (.int .i64 s.m) := F5.out.cell 1
  have e2 : w5.cell? ⟨w.heap.size, 2, none⟩ = some (.int .i64 a) := B5.out.cell 2
  have ef := F5.out.frozen
  clear hown5 hgrow5 HO' HB' HG' HF'
  go_wp2_with fail
  go_still_tail 7, (by kernel_rfl)
  have ef' : ∀ i, w5.drew.frozen? ⟨s.fb, i, none⟩ = false := ef
  have e1' : w5.drew.cell? ⟨s.fb, 1, none⟩ = some (.int .i64 s.m) := e1
  go_wp2_with fail
  go_ret
  have hfin : Blk (w5.drew.setCell ⟨s.fb, 1, none⟩ (.int .i64 (s.m + a))) s.fb #[.map (some (w.heap.size + 1)), .int .i64 (s.m + a)] 53 := (F5.out.drew.set 1 _).cast (by simp)
  have hK : ∀ i, i < w.heap.size → i ≠ s.fb → i ≠ w.heap.size + 1 → (w5.drew.setCell ⟨s.fb, 1, none⟩ (.int .i64 (s.m + a))).heap[i]? = w.heap[i]? := fun i hi h3 h4 =>
    (Below.heap_setCell _ _ _ _ h3).trans (((R5.out.block i (by show i < W4.heap.size; omega) (by simpa using h4))).trans (HE.out.2.2.2 i hi h3))
  have hsz : w.heap.size ≤ (w5.drew.setCell ⟨s.fb, 1, none⟩ (.int .i64 (s.m + a))).heap.size := by
    have := R5.out.size
    have e9 : W4.drew.heap.size = W4.heap.size := rfl
    have e8 : (w5.drew.setCell ⟨s.fb, 1, none⟩ (.int .i64 (s.m + a))).heap.size = w5.heap.size := by simp
    omega
  have hgo : s.o (w.heap.size + 1 + 1) = .none := HM.out.fresh _ (by omega)
  exact ⟨(w.heap.size + 1), (w.heap.size + 1 + 1), rfl, Mem.put HM.out HX.out h0 h1 hsz (fun i hi => hK i (HM.out.lt hi)) hfin (G5.out.drew.set_ne _ _ (by show w.heap.size + 1 + 1 ≠ s.fb; omega)) hgo hbg HQM hR (map_same O5.out (Below.heap_setCell _ _ _ _ (Ne.symm hbf))),
    Turn.putS (R5.out.os.trans HE.out.1) (R5.out.tape.trans HE.out.2.1) (R5.out.output.trans HE.out.2.2.1) hsz hK HM.out.ofb HMP (by omega), by omega, hgo⟩
theorem put_any {w : World} {s : FS} (h : Mem w s) (x p a e f : Int)
    (hx : x ∉ s.ids) (h0 : -9223372036854775808 ≤ x) (h1 : x ≤ 9223372036854775807) (hm0 : -2000000000000000000 ≤ s.m) (hm1 : s.m ≤ 2000000000000000000) (ha0 : -2000000000000000000 ≤ a) (ha1 : a ≤ 2000000000000000000) (hl : s.ids.length ≤ 100000) :
    Calls Try.prog 39 #[.pointer (some ⟨s.fb, 0, none⟩), .agg #[.int .i64 x, .int .i64 p, .int .i64 a, .int .i64 e, .int .i64 f]] w fun r w' => ∃ b gn, r = .returned (.pointer (some ⟨gn, 0, none⟩)) ∧ Mem w' (s.putS x p a e f b gn) ∧ Turn s w (s.putS x p a e f b gn) w' ∧ w.heap.size ≤ gn ∧ s.o gn = .none := by
  cases hb : s.bm with
  | none => exact put_nil h x p a e f hb hx h0 h1 hm0 hm1 ha0 ha1 hl
  | some b => exact put_some h x p a e f b hb hx h0 h1 hm0 hm1 ha0 ha1 hl

end Go.Proofs.Ytmnkgjgaileokaa
