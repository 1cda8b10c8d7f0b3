/- A range over a function whose variable is boxed anew in each round; the body never leaves. -/
import Derived.Test.YtdojgbpaheadnaaGreatQRW
import Derived.RangeFuncGives
import Derived.Test.YtdojgbpaheadnaaGreatQBN
import Derived.Sort.MapsRangeIn
import Derived.Sort.KeysCollected
import Derived.RangeFuncBox
import Derived.Maps.AppendAt
import Derived.Shelf.SlIterI.Nil
set_option linter.unusedVariables false
set_option linter.unusedSimpArgs false

namespace Go.Proofs.YtdojgbpaheadnaaGreat
open Go.RowKit Go.Shelf

variable {F : Fence} {n : Nat} {P : Program}
theorem wpIn_rangeFunc_x {α : Type} {g : Operand} {ps : Array Tmp} {assign body : Code} {Q : Exit → Act → World → Prop} {a : Act} {w : World}
  (hro : F.round = none) (h1 : 1 ≤ n) {gf : Nat} {lb : Array Value} (hg : a.eval g = .func (.func gf) #[] lb) (hFg : F.fn gf) (eg : ∀ args w, (callFunc gf args).run P w = .ok (.enter gf args) w)
  {enc : α → Value} {S : List α → Prop} {N : Nat} (hseq : SeqGives F (n - 1) P gf lb enc S N w) (hps : ps.size = 1) (o : α → Obj)
  (I : List α → World → Prop) (hI : OwnFrom w.heap.size I) (h0 : I [] w) (a₁ : α → Nat → Act)
  (hassign : ∀ (l : Nat) (x : α) (W : World) (K : Act → World → Prop), K (a₁ x W.heap.size) (W.alloc (o x)) →
   assign.wpIn (F.inRound l) (n - 1 - 1) P (Exit.then K (fun _ _ _ => False)) { tmps := (ps.zip #[enc x]).foldl (fun t (p, v) => t.setIfInBounds p v) a.tmps, defers := [] } W)
  (hbody : ∀ (l : Nat) (pre : List α) (x : α) (b : Nat) (W : World), I pre W → pre.length < N → w.heap.size ≤ b → W.heap[b]? = some (o x) → body.wpIn (F.inRound l) (n - 1 - 1) P (goesOn fun W' => KeepsOthers W W' ∧ I (pre ++ [x]) W') (a₁ x b) W)
  (hdone : ∀ (D : Nat) (xs : List α) (W : World), w.heap.size ≤ D → S xs → I xs W → W.heap[D]? = some (.deferred (some [])) → Q .normal { a with defers := { target := .collected D, args := #[] } :: a.defers } W) :
  (Code.rangeFunc g ps assign body).wpIn F n P Q a w := by
 refine wpIn_rangeFunc ?_
 intro fn hfn
 rw [hro]
 obtain ⟨D, hD⟩ : ∃ D, D = w.heap.size := ⟨_, rfl⟩
 obtain ⟨L, hL⟩ : ∃ L, L = D + 1 := ⟨_, rfl⟩
 obtain ⟨rec, hrec⟩ : ∃ rec : LoopState → Loop, rec = fun st => { state := st, pending := none, fn, tmps := a.tmps, params := ps, assign, body, defers := D } := ⟨_, rfl⟩
 obtain ⟨W1, hW1⟩ : ∃ W1, (w.alloc (.deferred (some []))).alloc (.loop (rec .ready)) = W1 := ⟨_, rfl⟩
 have s1 : (w.alloc (.deferred (some []))).heap.size = L := by rw [World.size_alloc, hL, hD]
 have hL1 : W1.heap[L]? = some (.loop (rec .ready)) := by rw [← hW1, ← s1]; exact World.alloc_heap_new _ _
 have hK1 : W1.heap[D]? = some (.deferred (some [])) := by
  rw [← hW1, hD]; exact (Below.heap_alloc _ _ _ (by rw [World.size_alloc]; omega)).trans (World.alloc_heap_new w _)
 have hI1 : I [] W1 := by rw [← hW1]; exact hI.alloc _ (hI.alloc _ h0)
 have hb1 : Below w.heap.size w W1 := by rw [← hW1]; exact ((Below.refl _ w).alloc (Nat.le_refl _) _).alloc (by rw [World.size_alloc]; omega) _
 have hs1 : W1.heap.size = L + 1 := by rw [← hW1, World.size_alloc, s1]
 refine ⟨L, [{ target := .collected D, args := #[] }], W1, { target := .fn (.func gf) lb, args := #[.func (.yield L) #[] #[]] }, W1, gf, #[.func (.yield L) #[] #[]] ++ lb, W1, ?_, ?_, ?_, ?_, fun _ => h1, ?_⟩
 ·rw [← hW1, hrec, hL, hD]; exact run_enterLoop_outer _ _ _ _ _
 ·simp only [resolve, hg]
  simp [go_sem]
 ·intro f' hf'; simp [Target.leads] at hf'; subst hf'; exact hFg
 ·simp [invoke, go_sem, eg]
 ·refine (hseq L (fun pre W => I pre W ∧ W.heap[L]? = some (.loop (rec .ready)) ∧ W.heap[D]? = some (.deferred (some []))) W1 hb1 ?_ ?_ ⟨hI1, hL1, hK1⟩).mono ?_
  ·rintro s A B row ⟨h1, h2, h3⟩ hg' hr
   refine ⟨hI s A B row h1 hg' fun r e => ?_, (grownBy_keeps hg' (fun r e => (hr r e).2) h2 rfl).trans h2, (grownBy_keeps hg' (fun r e => (hr r e).2) h3 rfl).trans h3⟩
   obtain ⟨h4, ob, h5, h6⟩ := hr r e
   exact ⟨by omega, ob, h5, Obj.not_cells_of_walk h6⟩
  ·rintro pre x W ⟨hi, hl, hk⟩ hlen
   have hlt : L < W.heap.size := (Array.getElem?_eq_some_iff.1 hl).1
   have hkt : D < W.heap.size := (Array.getElem?_eq_some_iff.1 hk).1
   have hy := run_yield (P := P) (args := #[enc x]) hl (by rw [hrec]; simp [hps])
   rw [hrec] at hy
   obtain ⟨W0, hW0⟩ : ∃ W0, W0 = W.alloc (o x) := ⟨_, rfl⟩
   have hl0 : W0.heap[L]? = some (.loop (rec .ready)) := by rw [hW0]; exact (Below.heap_alloc _ _ _ hlt).trans hl
   have hk0 : W0.heap[D]? = some (.deferred (some [])) := by rw [hW0]; exact (Below.heap_alloc _ _ _ hkt).trans hk
   have ho0 : W0.heap[W.heap.size]? = some (o x) := by rw [hW0]; exact World.alloc_heap_new _ _
   have hi0 : I pre W0 := by rw [hW0]; exact hI.alloc _ hi
   have hlt0 : L < W0.heap.size := (Array.getElem?_eq_some_iff.1 hl0).1
   refine ⟨fn, _, assign, body, hy, roundIn_of_wpIn hfn (hassign _ x W _ ⟨_, run_beginRound (by rw [← hW0]; exact hl0) (by rw [hrec]), ?_⟩)⟩
   rw [← hW0]
   obtain ⟨W2, hW2⟩ : ∃ W2, W2 = W0.putObj L (.loop { rec .ready with state := .busy }) := ⟨_, rfl⟩
   have hl2 : W2.heap[L]? = some (.loop { rec .ready with state := .busy }) := by rw [hW2]; exact World.putObj_heap_same hlt0
   have hk2 : W2.heap[D]? = some (.deferred (some [])) := by rw [hW2]; exact (World.putObj_heap_other (by omega)).trans hk0
   have ho2 : W2.heap[W.heap.size]? = some (o x) := by rw [hW2]; exact (World.putObj_heap_other (by omega)).trans ho0
   have hi2 : I pre W2 := by rw [hW2]; exact hI.putObj _ hi0 (by omega) hl0 rfl
   have hw2 : KeepsWalks W W2 := by
    rw [hW2, hW0]
    rw [hW0] at hl0
    exact (KeepsWalks.alloc _ _).trans (KeepsWalks.putObj _ hl0 rfl)
   rw [← hW2]
   refine wpIn_mono (hbody _ pre x _ _ hi2 hlen (by omega) ho2) ?_
   rintro e a3 W3 hp
   cases e with
   | normal =>
    obtain ⟨hk3, hi3⟩ := hp
    have hl3 := hk3.same _ _ hl2 rfl
    have hr := run_endRound (P := P) none hl3
    refine ⟨_, _, hr, rfl, ⟨hI.putObj _ hi3 (by omega) hl3 rfl, ?_, ?_⟩, (hw2.trans hk3.walks).trans (KeepsWalks.putObj _ hl3 rfl)⟩
    ·rw [World.putObj_heap_same (Array.getElem?_eq_some_iff.1 hl3).1, hrec]; rfl
    ·exact (World.putObj_heap_other (by omega)).trans (hk3.same _ _ hk2 rfl)
   | ret => exact hp.elim
   | exit id => exact hp.elim
   | goto t => exact hp.elim
   | panic ch => exact hp.elim
   | outgrown => exact hp.elim
  ·rintro e W2 ⟨⟨v, rfl⟩, xs, hS, hi, hl, hk⟩
   have hr := run_endLoop (P := P) hl (by rw [hrec]; simp)
   rw [show (rec .ready).pending = none by rw [hrec]] at hr
   exact ⟨none, _, hr, hdone D xs _ (by omega) hS (hI.putObj _ hi (by omega) hl rfl) ((World.putObj_heap_other (by omega)).trans hk)⟩
end Go.Proofs.YtdojgbpaheadnaaGreat

/- The keys of a broker's cases, collected in whatever order. -/
namespace Go.Proofs.YtdojgbpaheadnaaGreat
open Go.RowKit Go.Shelf Go.Maps Go.ChangeMaps

abbrev PairI := Int × Int
def dealV (x : PairI) : Value := .agg #[i64 x.1, i64 x.2]
def In64 (x : PairI) : Prop := I64 x.1 ∧ I64 x.2
def klP (x : PairI) : Lit := klD x.1 x.2
theorem klP_inj {x y : PairI} (hx : In64 x) (hy : In64 y) (h : klP x = klP y) : x = y := by
 obtain ⟨h1, h2⟩ := klD_inj hx.1 hx.2 hy.1 hy.2 h
 exact Prod.ext h1 h2
theorem sameKeyP {x y : PairI} : (klP y).sameKey (klP x) = true ↔ klP y = klP x := by
 unfold klP klD
 simp [Lit.sameKey]
theorem wf_inv {a : Int} (h : (Lit.int .i64 a).wf = true) : I64 a := by
 simp [Lit.wf, IntKind.min, IntKind.max, IntKind.bits, IntKind.signed] at h
 exact ⟨by omega, by omega⟩
set_option maxRecDepth 100000 in
theorem keyD_inv {key : Value} {kl : Lit} (h : keyOf Tryz.prog 106 key = some kl) : ∃ x : PairI, In64 x ∧ key = dealV x ∧ kl = klP x := by
 have h1 : Tryz.prog.keyType 106 = true := by kernel_rfl
 have c1 : Tryz.prog.cellsOf 106 = 2 := by kernel_rfl
 have c3 : Tryz.prog.cellsOf 3 = 1 := by kernel_rfl
 have hu := Tryz.underlying106
 obtain ⟨n, hn⟩ : ∃ n, Tryz.prog.types.size = n + 1 := ⟨Tryz.prog.types.size - 1, by kernel_rfl⟩
 have k3 : ∀ (u : Value) (ls : List Lit), Tryz.prog.keyLits (n + 1) 3 [u] = some ls → ∃ a, I64 a ∧ u = i64 a ∧ ls = [.int .i64 a] := fun u ls hl => by
  unfold Program.keyLits at hl
  rw [Tryz.underlying3] at hl
  cases u <;> simp at hl
  obtain ⟨⟨rfl, h2⟩, h3⟩ := hl
  exact ⟨_, wf_inv h2, rfl, h3.symm⟩
 unfold keyOf at h
 rw [hu] at h
 dsimp only at h
 split at h
 ·rename_i hf
  rw [h1, Bool.true_and] at hf
  cases key with
  | agg cs =>
   have hs : cs.size = 2 := by
    unfold Value.formed at hf
    rw [hu] at hf
    simpa [c1] using hf
   obtain ⟨u, v, rfl⟩ : ∃ u v, cs = #[u, v] := by
    rcases cs with ⟨l⟩
    rcases l with _ | ⟨u, _ | ⟨v, _ | ⟨z, l⟩⟩⟩ <;> simp at hs
    exact ⟨u, v, rfl⟩
   rw [hn] at h
   unfold Program.keyLits at h
   rw [hu] at h
   cases e1 : Tryz.prog.keyLits (n + 1) 3 [u] with
   | none => simp [c1, c3, Value.cells, e1] at h
   | some l1 =>
    cases e2 : Tryz.prog.keyLits (n + 1) 3 [v] with
    | none => simp [c1, c3, Value.cells, e1, e2] at h
    | some l2 =>
     obtain ⟨a, ha, rfl, rfl⟩ := k3 _ _ e1
     obtain ⟨r, hr, rfl, rfl⟩ := k3 _ _ e2
     simp [c1, c3, Value.cells, e1, e2] at h
     exact ⟨(a, r), ⟨ha, hr⟩, rfl, h.symm⟩
  | _ => simp [Value.formed, hu] at hf
 ·cases h
def ColP (D0 : DataW Unit) (left : Lit → Bool) (ss : List PairI) : Prop := ss.Nodup ∧ (∀ x ∈ ss, In64 x) ∧ ∀ x, In64 x → (x ∈ ss ↔ has D0 (klP x) = true ∧ left (klP x) = false)
theorem ColP.start (D0 : DataW Unit) : ColP D0 (has D0) [] := ⟨List.nodup_nil, ⟨(fun x h => by cases h), (fun x _ => by cases has D0 (klP x) <;> simp)⟩⟩
theorem ColP.step {D0 : DataW Unit} {left : Lit → Bool} {ss : List PairI} (h : ColP D0 left ss) {x : PairI} (hx : In64 x) {y : DataW Unit} (hlk : left (klP x) = true) (hat : ∀ zd, D0.atKey (klP x) zd = y) : ColP D0 (fun z => left z && !z.sameKey (klP x)) (ss ++ [x]) := by
 have hhas : has D0 (klP x) = true := has_true_of_atKey hat
 have hnew : x ∉ ss := fun hm => by have := ((h.2.2 x hx).1 hm).2; rw [hlk] at this; cases this
 refine ⟨List.nodup_append.2 ⟨h.1, by simp, fun a ha b hb => by simp at hb; subst hb; exact fun e => hnew (e ▸ ha)⟩, fun z hz => ?_, fun y hy => ?_⟩
 ·rcases List.mem_append.1 hz with hz | hz
  ·exact h.2.1 z hz
  ·rw [List.mem_singleton.1 hz]; exact hx
 ·rw [List.mem_append, List.mem_singleton, h.2.2 y hy]
  by_cases e : y = x
  ·subst e
   have := sameKeyP (x := y) (y := y)
   simp [hhas, this]
  ·have h1 : (klP y).sameKey (klP x) = false := by
    rw [Bool.eq_false_iff]; intro e2; exact e (klP_inj hy hx (sameKeyP.1 e2))
   simp [e, h1]
theorem RPt_some {v : Value} {y : DataW Unit × List MemPlace} (h : RPt v = some y) : ∃ c, v = ptV c := by
 unfold RPt at h
 split at h
 ·exact ⟨none, rfl⟩
 ·rename_i g; exact ⟨some g, rfl⟩
 ·cases h
def GivesP (D0 : DataW Unit) (ss : List PairI) : Prop := ss.Nodup ∧ (∀ x ∈ ss, In64 x) ∧ ∀ x, In64 x → (x ∈ ss ↔ has D0 (klP x) = true)
set_option maxRecDepth 100000 in
set_option maxHeartbeats 2000000 in
theorem keysB_gives (n : Nat) (hn : 1 ≤ n) (Bm b nn : Nat) (D0 : DataW Unit) (w : World) (hBm : Bm < w.heap.size) (hm0 : w.cell? ⟨Bm, 0, none⟩ = some (.map (some b))) (hown0 : w.ownsMap Tryz.prog 106 RPt b nn D0) :
  SeqGives Fence.wide n Tryz.prog 91 #[.pointer (some ⟨Bm, 0, none⟩)] dealV (GivesP D0) (Maps.size D0) w := fun l J W hW hJ hY h0 => by
 have hm : W.cell? ⟨Bm, 0, none⟩ = some (.map (some b)) := (hW.cell (p := ⟨Bm, 0, none⟩) hBm).trans hm0
 have hown : W.ownsMap Tryz.prog 106 RPt b nn D0 := by
  have hbl := hown0.lt
  obtain ⟨es, clock, hb, Ft, hs, hD⟩ := hown0
  exact ⟨es, clock, (hW.block b hbl).trans hb, Ft, hs, hD⟩
 clear hm0 hown0
 refine callsIn_of_wp Tryz.func91 rfl trivial ?_ rfl
 simp only [Tryz.ntmps91, List.size_toArray, List.length_cons, List.length_nil, Nat.reduceAdd, Nat.reduceSub, Array.replicate_succ, Array.replicate_zero, List.push_toArray, List.append_toArray, List.nil_append, List.cons_append]
 gi_wp2_with (first
  | (gi_at_range; refine wpListIn_range_own _ rfl _ 56 rfl 106 111 keyD Tryz.underlying56 _ b nn _ rfl hown ?_; intro w0 hrg0 hg0 hs0)
  | gi_in)
 go_frame
 gi_loopw [3] (fun _ wr => ∃ (left : Lit → Bool) (cnt : Nat) (ss : List PairI), wr.ranges Tryz.prog 106 RPt b W.heap.size nn D0 left cnt ∧ ss.length + cnt ≤ Maps.size D0 ∧ ColP D0 left ss ∧ J ss wr)
  (fun _ wr => wr.rangeLeft b W.heap.size)
 case atStart =>
  exact ⟨_, _, [], hrg0, by simp, ColP.start D0, hJ [] W w0 none h0 hg0 (fun r e => by cases e)⟩
 case round =>
  obtain ⟨left, cnt, ss, hrg, hcs, hC, hJs⟩ := hrel
  gi_wp2_with (first
   | (gi_at_next; refine wpListIn_next_ranges _ rfl _ rfl 106 keyD RPt dealV ptV (fun key kl hk => by obtain ⟨x, _, hx, _⟩ := keyD_inv hk; exact ⟨x, hx⟩) (fun v y hv => RPt_some hv) b W.heap.size nn _ _ _ rfl hrg ?_ ?_)
   | gi_in)
  ·intro hc0 hl0
   gi_wp2
   go_end0
   exact ⟨⟨_, rfl⟩, ss, ⟨hC.1, hC.2.1, fun x hx => by rw [hC.2.2 x hx, hl0]; simp⟩, hJs⟩
  ·intro xa xr c kl yd yp w2 cnt2 hkey hlk hv hat hrg2 hlt hg2 hs2 hen
   obtain ⟨x, hx', ex, rfl⟩ := keyD_inv hkey
   obtain rfl : x = (xa, xr) := by
    unfold dealV at ex; simp at ex; exact Prod.ext ex.1.symm ex.2.symm
   clear ex
   generalize hxx : (xa, xr) = x at *
   obtain rfl : xa = x.1 := by rw [← hxx]
   obtain rfl : xr = x.2 := by rw [← hxx]
   have hJ2 : J ss w2 := hJ ss wr w2 (some W.heap.size) hJs hg2 (fun r e => by cases e; exact ⟨Nat.le_refl _, hrg.iter_walk⟩)
   have hJ3 : J ss (w2.alloc (.cells #[i64 x.1, i64 x.2] 106)) := hJ ss w2 _ none hJ2 (World.grownBy_alloc w2 _ none) (fun r e => by cases e)
   obtain ⟨fn, tmps, assign, body, hy, hR⟩ := hY ss x _ hJ3 (by omega)
   unfold dealV at hen hy
   clear hs2
   gi_wp2
   refine hR.mono ?_
   rintro e W3 ⟨rfl, hJ4, hk3⟩
   gi_wp2
   have hrg3 := hrg2.of_walks ((KeepsWalks.alloc _ _).trans hk3)
   go_roundw
   case rel => exact ⟨_, cnt2, ss ++ [x], hrg3, by simp; omega, hC.step hx' hlk hat, hJ4⟩
   case measure => rw [hrg3.left_eq, hrg.left_eq]; exact hlt
end Go.Proofs.YtdojgbpaheadnaaGreat

/- The keys of a broker's cases: slices.AppendSeq, slices.Collect. -/
namespace Go.Proofs.YtdojgbpaheadnaaGreat
open Go.RowKit Go.Shelf Go.Maps Go.ChangeMaps
attribute [local go_sem] Oper.semAt_some

def pcells (ss : List PairI) : List Value := ss.flatMap fun x => [i64 x.1, i64 x.2]
theorem pcells_len (ss : List PairI) : (pcells ss).length = ss.length * 2 := by
 unfold pcells
 induction ss with
 | nil => rfl
 | cons d L ih => rw [List.flatMap_cons, List.length_append, ih]; simp; omega
theorem pcells_app (L M : List PairI) : pcells (L ++ M) = pcells L ++ pcells M := by unfold pcells; rw [List.flatMap_append]
theorem infoKy : (Tryz.prog.info? 106).map (fun i => (i.zero, i.size, i.bytes)) = some (some (.agg #[i64 0, i64 0]), 2, 16) := by kernel_rfl
theorem info_partsKy : ∃ i, Tryz.prog.info? 106 = some i ∧ i.zero = some (.agg #[i64 0, i64 0]) ∧ i.size = 2 ∧ i.bytes = 16 := by
 obtain ⟨i, hi, h⟩ := Option.map_eq_some_iff.1 infoKy
 injection h with h1 h2
 injection h2 with h2 h3
 exact ⟨i, hi, h1, h2, h3⟩
def ApI (w : World) (Bs : Nat) (ss : List PairI) (W : World) : Prop := (∃ v, Boxed W Bs 123 v ∧ W.ownsRow w.heap.size 106 2 v ss.length (pcells ss)) ∧ Below w.heap.size w W
theorem apI_own (w : World) (Bs B : Nat) (hB : w.heap.size ≤ B) : OwnFrom B (ApI w Bs) := by
 have e1 := (holdsRow_own (β := List PairI) w.heap.size Bs 123 106 2 (fun pre => pre.length) (fun pre => pcells pre) (fun _ _ => True)).from B
 have e2 := ownFrom_below (β := List PairI) (w₀ := w) (Nat.le_refl _) hB
 rintro s W W' row ⟨⟨v, hv, hr⟩, hb⟩ hg hrow
 refine ⟨?_, e2 s W W' row hb hg hrow⟩
 obtain ⟨v', a, b, _⟩ := e1 s W W' row ⟨v, hv, hr, trivial⟩ hg hrow
 exact ⟨v', a, b⟩
theorem cells_new2 (W : World) (x : PairI) : ∀ j u, ([i64 x.1, i64 x.2] : List Value)[j]? = some u → (W.alloc (.cells #[i64 x.1, i64 x.2] 106)).cell? ((⟨W.heap.size, 0, none⟩ : Addr).add j) = some u := by
 intro j u hj
 have hb := Blk.new W #[i64 x.1, i64 x.2] 106
 rcases j with _ | _ | j
 ·simp at hj; subst hj; exact hb.cell 0
 ·simp at hj; subst hj; exact hb.cell 1
 ·simp at hj
set_option maxRecDepth 100000 in
set_option maxHeartbeats 2000000 in
theorem appendD_in (n : Nat) (hn : 2 ≤ n) (g : Nat) (lb : Array Value) (eg : ∀ args w, (callFunc g args).run Tryz.prog w = .ok (.enter g args) w) (S : List PairI → Prop) (N : Nat) (hN : N ≤ 100000) (w : World) (hseq : SeqGives Fence.wide (n - 1) Tryz.prog g lb dealV S N w) :
  CallsIn Fence.wide n Tryz.prog 112 #[.slice none 0 0, .func (.func g) #[] lb] w fun e w' => ∃ v ss, e = .returned v ∧ S ss ∧ w'.ownsRow w.heap.size 106 2 v ss.length (pcells ss) ∧ Below w.heap.size w w' := by
 obtain ⟨i0, hi, hz0, hz1, hz2⟩ := info_partsKy
 refine callsIn_of_wp_marks Tryz.func112 rfl trivial ?_ rfl
 simp only [Tryz.ntmps112, List.size_toArray, List.length_cons, List.length_nil, Nat.reduceAdd, Nat.reduceSub, Array.replicate_succ, Array.replicate_zero, List.push_toArray, List.append_toArray, List.nil_append, List.cons_append]
 gi_wp2
 have hb1 : Boxed (w.alloc (.cells #[.slice none 0 0] 123)) w.heap.size 123 (.slice none 0 0) := Boxed.new w 123 _
 have hbl : Below w.heap.size w (w.alloc (.cells #[.slice none 0 0] 123)) := (Below.refl _ w).alloc (Nat.le_refl _) _
 have hsz : (w.alloc (.cells #[.slice none 0 0] 123)).heap.size = w.heap.size + 1 := by simp
 generalize (w.alloc (.cells #[.slice none 0 0] 123)) = W at *
 refine wpIn_rangeFunc_x rfl (by omega) (gf := g) (lb := lb) rfl trivial eg (hseq.later hbl) rfl (fun x => .cells #[i64 x.1, i64 x.2] 106)
  (ApI w w.heap.size) (apI_own w _ _ (by omega)) ⟨⟨_, hb1, World.ownsRow_nil _ _ _ _⟩, hbl⟩
  (fun x b => { tmps := #[.slice none 0 0, .func (.func g) #[] lb, .pointer (some ⟨w.heap.size, 0, none⟩), undef, .slice none 0 0, .pointer (some ⟨b, 0, none⟩), .func (.func g) #[] lb, dealV x, undef, undef, undef, undef, undef], defers := [] }) ?assign ?body ?done
 case assign =>
  intro l x W1 K hK
  unfold dealV at *
  gi_wp2
  exact hK
 case body =>
  rintro l pre x b W1 ⟨⟨v, hv, hrow⟩, hB⟩ hlen hbz hx
  have hvc := hv.cell
  have x0 : W1.cell? ⟨b, 0, none⟩ = some (i64 x.1) := by simp [World.cell?, hx]
  have x1 : W1.cell? ⟨b, 1, none⟩ = some (i64 x.2) := by simp [World.cell?, hx]
  have h1n : 1 ≤ n - 1 - 1 ∨ n - 1 - 1 = 0 := by omega
  unfold dealV
  gi_wp2_with (gi_at_builtin; refine wpListIn_append_own _ rfl _ _ 123 rfl w.heap.size 106 i0 _ 2 16 Tryz.underlying123 hi hz0 hz1 hz2 rfl (by decide) _ _ _ rfl (hrow.alloc _) ⟨W1.heap.size, 0, none⟩ 1 1 [i64 x.1, i64 x.2] rfl rfl (cells_new2 W1 x) (by simp [Value.oneCell']) (by unfold maxLen; omega) (by omega) (by have := hB.size; simp; omega) ?_; intro v' w1 hown' hgrow _; obtain ⟨g', cap', rfl⟩ := ownsRow_succ hown'; obtain ⟨hv1, hv2, hr2, hk2, hb2⟩ := hv.appended (by decide) hrow hB.size (Nat.le_refl _) hown' hgrow; have hc1 := hv1.cell; have hf1 := hv1.frozen)
  refine ⟨hk2, ⟨_, hv2, ?_⟩, hB.trans hb2⟩
  rw [pcells_app, List.length_append]
  exact hr2
 case done =>
  rintro D xs W1 hD hS ⟨⟨v, hv, hrow⟩, hB⟩ hK
  have hvc := hv.cell
  have hb3 := hB.trans (belowK_b (w := w) (Nat.le_refl _) W1 D _ (.deferred none) (by omega) hK rfl rfl)
  gi_wp2
  refine ⟨by simp, .inl ⟨_, _, rfl, run_takeDeferred hK, ?_⟩⟩
  exact ⟨_, results_tmp rfl _ _ _, v, xs, rfl, hS, hrow.kept (grownBy_putObj' _ _ _) (ownsRow_ne_a hrow hK (fun cur e => by cases e)), hb3⟩
set_option maxHeartbeats 1000000 in
theorem collectD_in (n : Nat) (hn : 3 ≤ n) (g : Nat) (lb : Array Value) (eg : ∀ args w, (callFunc g args).run Tryz.prog w = .ok (.enter g args) w) (S : List PairI → Prop) (N : Nat) (hN : N ≤ 100000) (w : World) (hseq : SeqGives Fence.wide (n - 1 - 1) Tryz.prog g lb dealV S N w) :
  CallsIn Fence.wide n Tryz.prog 89 #[.func (.func g) #[] lb] w fun e w' => ∃ v ss, e = .returned v ∧ S ss ∧ w'.ownsRow w.heap.size 106 2 v ss.length (pcells ss) ∧ Below w.heap.size w w' := by
 have e11 : ∀ args w, (callFunc 112 args).run Tryz.prog w = .ok (.enter 112 args) w := enters_of Tryz.func112 (by kernel_rfl) rfl
 refine callsIn_of_wp Tryz.func89 rfl trivial ?_ rfl
 simp only [Tryz.ntmps89, List.size_toArray, List.length_cons, List.length_nil, Nat.reduceAdd, Nat.reduceSub, Array.replicate_succ, Array.replicate_zero, List.push_toArray, List.append_toArray, List.nil_append, List.cons_append]
 gi_wp2
 refine ⟨trivial, fun _ => by omega, ?_⟩
 refine (appendD_in (n - 1) (by omega) g lb eg S N hN _ hseq).mono ?_
 rintro e w' ⟨v, ss, rfl, hS, hrow, hb⟩
 gi_wp2
 go_ret
 exact ⟨v, ss, rfl, hS, hrow, hb⟩
end Go.Proofs.YtdojgbpaheadnaaGreat
