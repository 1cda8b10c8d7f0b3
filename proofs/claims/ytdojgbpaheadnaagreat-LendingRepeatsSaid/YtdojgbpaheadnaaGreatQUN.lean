/- Titles by numbers; a script of troubles. -/
import Derived.Test.YtdojgbpaheadnaaGreatQUE
import Derived.Test.YtdojgbpaheadnaaGreatQSW
import Derived.Test.YtdojgbpaheadnaaGreatQPP
set_option linter.unusedVariables false
set_option linter.unusedSimpArgs false

namespace Go.Proofs.YtdojgbpaheadnaaGreat
open Go.RowKit Go.Shelf Go.Maps Go.ChangeMaps

def ttF (x : Int) : Int := 1 + x % 4
def ttl (l : List Int) : List Int := (l.take 5).map ttF
theorem take_snocK {α β : Type} (f : α → β) (l : List α) (k : Nat) (h : k < l.length) : (l.take k).map f ++ [f l[k]] = (l.take (k + 1)).map f := by
 rw [List.take_succ_eq_append_getElem h, List.map_append]; rfl
set_option maxRecDepth 100000 in
set_option maxHeartbeats 4000000 in
theorem titles_any (bs : List Int) (a : Option Addr) (cap : Nat) (w : World) (h : U8 w a bs cap) (hc2 : bs.length ≤ cap ∧ cap ≤ 9223372036854775807) :
  Calls Tryz.prog 46 #[.slice a bs.length cap] w fun e w' => ∃ v, e = .returned v ∧ w'.ownsRow w.heap.size 3 1 v (ttl bs).length ((ttl bs).map (Value.int .i64)) ∧ Below w.heap.size w w' := by
 obtain ⟨i0, hi, hz1, hz2, hz3⟩ := info_parts info3
 have hblen := h.len
 have HU := Lib.hid h
 clear h
 go_enter Tryz.func46, Tryz.ntmps46
 go_wp2_with fail
 go_loopw [3, 4] (fun v i wr => ∃ (k : Nat), k ≤ bs.length ∧ k ≤ 5 ∧ i = .int .i64 k ∧ wr.ownsRow w.heap.size 3 1 v ((bs.take k).map ttF).length (((bs.take k).map ttF).map (Value.int .i64)) ∧ Below w.heap.size w wr) (fun _ i _ => 5 - (intOf i).toNat)
 case atStart => exact ⟨0, Nat.zero_le _, by omega, rfl, World.ownsRow_nil _ _ _ _, Below.refl _ _⟩
 case round =>
  obtain ⟨k, hk, hk5, rfl, hr, hb⟩ := hrel
  have R := Lib.hid hr
  have BB := Lib.hid hb
  clear hr hb
  by_cases hgo : k < bs.length ∧ k < 5
  ·obtain ⟨hlt, h8⟩ := hgo
   obtain ⟨b2, o2, rfl, hbl2, hcell⟩ := (HU.out.below BB.out (Nat.le_refl _)).at_.resolve_left (fun e => by rw [e] at hlt; simp at hlt)
   have hc := hcell k hlt
   have hbd := HU.out.bd k hlt
   obtain ⟨y, hy⟩ : ∃ y, y = bs.getD k 0 := ⟨_, rfl⟩
   have HY := Lib.hid hy
   rw [← hy] at hc hbd
   obtain ⟨D, hD⟩ : ∃ D, D = (bs.take k).map ttF := ⟨_, rfl⟩
   have hD5 : D.length ≤ 5 := by rw [hD]; simp; omega
   rw [← hD] at R
   have DD := Lib.hid hD
   obtain ⟨va, vc, rfl, -⟩ := row_cellz R.out
   have hw1 : IntKind.i64.wrap (y % 4) = y % 4 := wrap_small (by omega) (by omega)
   have hw2 : IntKind.i64.wrap (1 + y % 4) = 1 + y % 4 := wrap_small (by omega) (by omega)
   have N1 : Hid (Blk (wr.alloc (.cells #[i64 (1 + y % 4)] 3)) wr.heap.size #[i64 (1 + y % 4)] 3) := Lib.hid (Blk.new _ _ _)
   have R1 : Hid ((wr.alloc (.cells #[i64 (1 + y % 4)] 3)).ownsRow w.heap.size 3 1 (.slice va D.length vc) D.length (D.map (Value.int .i64))) := Lib.hid (R.out.alloc _)
   have B1 : Hid (Below w.heap.size w (wr.alloc (.cells #[i64 (1 + y % 4)] 3))) := Lib.hid (BB.out.alloc BB.out.size _)
   clear hcell hy hD
   go_wp2_with (first
    | (refine wpList_append_all rfl (.tmp 15) (.tmp 23) 25 rfl w.heap.size 3 i0 (.int .i64 0) 1 8 Tryz.underlying25 hi hz1 hz2 hz3 rfl (by omega) _ D.length (D.map (Value.int .i64)) rfl R1.out 1 [i64 (1 + y % 4)] _ rfl (.inr ⟨_, _, rfl, rfl, blk_news N1.out⟩) (fun u hu => by simp at hu; rw [hu]; rfl) (by unfold maxLen; omega) (by omega) B1.out.size ?_
       intro v6 w6 hown6 hg6 hat6
       have B6 : Hid (Below w.heap.size w w6) := Lib.hid (B1.out.grown hg6 B1.out.size (fun j e => (row_lt R1.out j e).1))
       have R6 : Hid (w6.ownsRow w.heap.size 3 1 v6 (D ++ [1 + y % 4]).length ((D ++ [1 + y % 4]).map (Value.int .i64))) := Lib.hid (by rw [List.length_append, List.map_append]; exact hown6)
       clear hown6 hg6 hat6))
   exact ⟨⟨k + 1, hlt, h8, by go_num, by
    have h1 := R6.out
    have e : D ++ [1 + y % 4] = (bs.take (k + 1)).map ttF := by rw [DD.out, HY.out, getD_get _ _ hlt, ← take_snocK ttF bs k hlt]; rfl
    rw [e] at h1
    exact h1, B6.out⟩, by simp [intOf]; omega⟩
  ·have hend : k = bs.length ∨ (k < bs.length ∧ k = 5) := by omega
   have fin : (bs.take k).map ttF = ttl bs := by
    unfold ttl
    rcases hend with rfl | ⟨-, rfl⟩
    ·rw [List.take_of_length_le (Nat.le_refl _), List.take_of_length_le hk5]
    ·rfl
   have FF := Lib.hid fin
   clear hgo fin
   rcases hend with rfl | ⟨hlt0, rfl⟩
   ·go_wp2_with fail
    go_ret
    exact ⟨_, rfl, FF.out ▸ R.out, BB.out⟩
   ·go_wp2_with fail
    go_ret
    exact ⟨_, rfl, FF.out ▸ R.out, BB.out⟩
theorem All2.snoc {α β : Type} {R : α → β → Prop} {a : α} {b : β} (hab : R a b) : ∀ {l : List α} {m : List β}, All2 R l m → All2 R (l ++ [a]) (m ++ [b])
 | _, _, .nil => .cons hab .nil
 | _, _, .cons g t => .cons g (All2.snoc hab t)
def TrIn (w : World) (a : Option Addr) (S : List Tr) : Prop := S = [] ∨ ∃ b o, a = some ⟨b, o, none⟩ ∧ b < w.heap.size ∧ ∀ k (hk : k < S.length), w.cell? ⟨b, o + k * 3, none⟩ = some (.bool S[k].1) ∧ w.cell? ⟨b, o + k * 3 + 1, none⟩ = some (i64 S[k].2.1) ∧ w.cell? ⟨b, o + k * 3 + 2, none⟩ = some (i64 S[k].2.2)
theorem TrIn.below {w w' : World} {a : Option Addr} {S : List Tr} (h : TrIn w a S) (hb : Below w.heap.size w w') : TrIn w' a S := by
 rcases h with h | ⟨b, o, h1, h2, h3⟩
 ·exact .inl h
 ·exact .inr ⟨b, o, h1, Nat.lt_of_lt_of_le h2 hb.size, fun k hk => ⟨(hb.cell (cell_lt (h3 k hk).1)).trans (h3 k hk).1, (hb.cell (cell_lt (h3 k hk).2.1)).trans (h3 k hk).2.1, (hb.cell (cell_lt (h3 k hk).2.2)).trans (h3 k hk).2.2⟩⟩
def trF (t : Tr) : Tr := (t.1, t.2.1, t.2.2.tmod 100)
def trs (S : List Tr) : List Tr := (S.take 40).map trF
set_option maxRecDepth 100000 in
set_option maxHeartbeats 4000000 in
theorem troubles_any {w : World} {a : Option Addr} {cap : Nat} {S : List Tr} (h : TrIn w a S) (hI : ∀ t ∈ S, I64 t.2.2) (hl : S.length ≤ 9223372036854775807) :
  Calls Tryz.prog 34 #[.slice a S.length cap] w fun e w' => ∃ v', e = .returned v' ∧ OwnOf 90 3 w.heap.size TrR w' v' (trs S) ∧ Below w.heap.size w w' := by
 obtain ⟨i0, hi, hz1, hz2, hz3⟩ := info_partsTr
 have HS := Lib.hid h
 have HI := Lib.hid hI
 obtain ⟨n, hn⟩ : ∃ n, n = S.length := ⟨_, rfl⟩
 rw [← hn] at hl ⊢
 have NN := Lib.hid hn
 clear hn hI h
 go_enter Tryz.func34, Tryz.ntmps34
 go_wp2_with fail
 go_loopw [3, 4] (fun v i wr => ∃ (k : Nat), k ≤ n ∧ k ≤ 40 ∧ i = .int .i64 k ∧ OwnOf 90 3 w.heap.size TrR wr v ((S.take k).map trF) ∧ Below w.heap.size w wr) (fun _ i _ => 40 - (intOf i).toNat)
 case atStart => exact ⟨0, Nat.zero_le _, by omega, rfl, OwnOf.nil _ _ _ _ _, Below.refl _ _⟩
 case round =>
  obtain ⟨k, hk, hk5, rfl, hr, hb⟩ := hrel
  have R := Lib.hid hr
  have BB := Lib.hid hb
  clear hr hb
  by_cases hgo : k < n ∧ k < 40
  ·obtain ⟨hlt, h8⟩ := hgo
   have hkS : k < S.length := by rw [← NN.out]; exact hlt
   obtain ⟨b, o, e0, -, hcc⟩ := HS.out.resolve_left (fun e => by rw [e] at hkS; simp at hkS)
   subst e0
   have hcc := hcc k hkS
   obtain ⟨t, ht⟩ : ∃ t, t = S[k] := ⟨_, rfl⟩
   rw [← ht] at hcc
   have HIt : Hid (I64 t.2.2) := Lib.hid (by rw [ht]; exact HI.out _ (List.getElem_mem _))
   have HT := Lib.hid ht
   obtain ⟨t0, t1, t2⟩ := t
   have c0 : wr.cell? ⟨b, o + k * 3, none⟩ = some (.bool t0) := (BB.out.cell (cell_lt hcc.1)).trans hcc.1
   have c1 : wr.cell? ⟨b, o + k * 3 + 1, none⟩ = some (i64 t1) := (BB.out.cell (cell_lt hcc.2.1)).trans hcc.2.1
   have c2 : wr.cell? ⟨b, o + k * 3 + 2, none⟩ = some (i64 t2) := (BB.out.cell (cell_lt hcc.2.2)).trans hcc.2.2
   obtain ⟨D, hD⟩ : ∃ D, D = (S.take k).map trF := ⟨_, rfl⟩
   rw [← hD] at R
   have hD40 : D.length ≤ 40 := by rw [hD]; simp; omega
   have DD := Lib.hid hD
   obtain ⟨va, vc, rfl, -⟩ := R.out.sl
   obtain ⟨css, hrow, hA, hZ⟩ := R.out
   have CA := Lib.hid hA
   have CZ := Lib.hid hZ
   obtain ⟨wA, hwA⟩ : ∃ wA, wA = (wr.alloc (.cells #[.bool t0, .int .i64 t1, .int .i64 (t2.tmod 100)] 90)).alloc (.cells #[.bool t0, .int .i64 t1, .int .i64 (t2.tmod 100)] 90) := ⟨_, rfl⟩
   have RA : Hid (wA.ownsRow w.heap.size 90 3 (.slice va D.length vc) D.length css.flatten) := Lib.hid (by rw [hwA]; exact (hrow.alloc _).alloc _)
   have NA : Hid (Src wA 3 1 [.bool t0, i64 t1, i64 (t2.tmod 100)] (.slice (some ⟨wr.heap.size + 1, 0, none⟩) 1 1)) := Lib.hid (by
    rw [hwA]
    exact src_row (row_fresh' (g := wr.heap.size + 1) _ (by rw [size_alloc]) 0 #[.bool t0, .int .i64 t1, .int .i64 (t2.tmod 100)] 90 3 1 rfl (by unfold maxLen; omega) (Nat.zero_le _)))
   have BA : Hid (Below w.heap.size w wA) := Lib.hid (by rw [hwA]; exact (BB.out.alloc BB.out.size _).alloc (by rw [size_alloc]; exact Nat.le_trans BB.out.size (Nat.le_succ _)) _)
   have HWA := Lib.hid hwA
   clear hcc ht hrow hA hZ R hD hwA
   go_wp2_with (first
    | (rw [← HWA.out]
       refine wpList_append_all rfl (.tmp 24) (.tmp 26) 68 rfl w.heap.size 90 i0 _ 3 24 Tryz.underlying68 hi hz1 hz2 hz3 rfl (by omega) _ D.length css.flatten rfl RA.out 1 [.bool t0, i64 t1, i64 (t2.tmod 100)] _ rfl NA.out (fun u hu => by simp at hu; rcases hu with rfl | rfl | rfl <;> rfl) (by unfold maxLen; omega) (by omega) BA.out.size ?_
       intro v6 w6 hown6 hg6 hat6
       have B6 : Hid (Below w.heap.size w w6) := Lib.hid (BA.out.grown hg6 BA.out.size (fun j e => (row_lt RA.out j e).1))
       have R6 : Hid (OwnOf 90 3 w.heap.size TrR w6 v6 (D ++ [(t0, t1, t2.tmod 100)])) := Lib.hid (by
        refine ⟨css ++ [[.bool t0, i64 t1, i64 (t2.tmod 100)]], ?_, ?_, ?_⟩
        ·rw [List.length_append, List.flatten_append, List.flatten_singleton]; exact hown6
        ·exact All2.snoc (R := TrR w6) (b := (t0, t1, t2.tmod 100)) (show TrR w6 [.bool t0, i64 t1, i64 (t2.tmod 100)] (t0, t1, t2.tmod 100) from rfl) (CA.out.mono fun _ _ h => h)
        ·intro c hc
         rcases List.mem_append.1 hc with hc | hc
         ·exact CZ.out c hc
         ·rw [List.mem_singleton.1 hc]; rfl)
       clear hown6 hg6 hat6))
   exact ⟨⟨k + 1, (by first | exact hlt | exact hkS), h8, by go_num, by
    have h1 := R6.out
    have e : D ++ [(t0, t1, t2.tmod 100)] = (S.take (k + 1)).map trF := by rw [DD.out, ← take_snocK trF S k hkS, ← HT.out]; rfl
    rw [e] at h1
    first
     | exact h1
     | (rw [← List.map_take]; exact h1), B6.out⟩, by simp [intOf]; omega⟩
  ·have hend : k = n ∨ (k < n ∧ k = 40) := by omega
   have fin : (S.take k).map trF = trs S := by
    unfold trs
    rcases hend with rfl | ⟨-, rfl⟩
    ·rw [NN.out, List.take_of_length_le (Nat.le_refl _), List.take_of_length_le (by rw [← NN.out]; exact hk5)]
    ·rfl
   have FF := Lib.hid fin
   clear hgo fin
   rcases hend with rfl | ⟨hlt0, rfl⟩
   ·go_wp2_with fail
    go_ret
    exact ⟨_, rfl, FF.out ▸ R.out, BB.out⟩
   ·go_wp2_with fail
    go_ret
    exact ⟨_, rfl, FF.out ▸ R.out, BB.out⟩
end Go.Proofs.YtdojgbpaheadnaaGreat

/- Where a machine's blocks lie; the library put together from its machines. -/
namespace Go.Proofs.YtdojgbpaheadnaaGreat
open Go.RowKit Go.Shelf Go.Maps Go.ChangeMaps

def InA (M : Assn) (lo hi : Nat) (w : World) : Prop := hi ≤ w.heap.size ∧ ∃ O, M.P w O ∧ ∀ k, O k → lo ≤ k ∧ k < hi
theorem InA.tn {M : Assn} {lo hi : Nat} {F : Nat → Prop} {w w' : World} (h : InA M lo hi w) (t : Tn F w w') (hF : ∀ k, F k → k < lo ∨ hi ≤ k) : InA M lo hi w' := by
 obtain ⟨h1, O, h2, h3⟩ := h
 refine ⟨Nat.le_trans h1 t.size, O, M.keep h2 t fun k hk ho => ?_, h3⟩
 have := h3 k ho
 rcases hF k hk with e | e <;> omega
theorem InA.up {M : Assn} {lo hi n : Nat} {w w' : World} (h : InA M lo hi w) (hb : Below n w w') (hn : hi ≤ n) : InA M lo hi w' := by
 obtain ⟨h1, O, h2, h3⟩ := h
 refine ⟨Nat.le_trans h1 hb.size, O, M.keep h2 (Tn.of_below' (F := fun k => n ≤ k) hb fun k hk _ => hk) fun k hk ho => ?_, h3⟩
 have := h3 k ho
 omega
theorem InA.box {g : Nat} {cs : Array Value} {T : TypeId} {w : World} (h : Blk w g cs T) : InA (boxA g cs T) g (g + 1) w := ⟨h.lt, _, ⟨h, rfl⟩, fun k e => by omega⟩
theorem Sys.ofInA {w : World} {Ms : List Assn} {B : Nat} (lo hi : Nat → Nat) (h : ∀ i (M : Assn), Ms[i]? = some M → InA M (lo i) (hi i) w ∧ B ≤ lo i) (hd : ∀ i j, i < Ms.length → j < Ms.length → i ≠ j → hi i ≤ lo j ∨ hi j ≤ lo i) : Sys B (fun _ _ => False) w Ms := by
 have hx : ∀ i, ∃ O : Nat → Prop, (∀ M : Assn, Ms[i]? = some M → M.P w O) ∧ ∀ k, O k → i < Ms.length ∧ lo i ≤ k ∧ k < hi i := fun i => by
  cases e : Ms[i]? with
  | none => exact ⟨fun _ => False, fun _ h => by simp at h, fun _ h => h.elim⟩
  | some M =>
   obtain ⟨-, O, h1, h2⟩ := (h i M e).1
   exact ⟨O, fun M' e' => by obtain rfl : M = M' := Option.some.inj e'; exact h1, fun k hk => ⟨(List.getElem?_eq_some_iff.1 e).1, h2 k hk⟩⟩
 obtain ⟨Os, hO⟩ := Classical.axiomOfChoice hx
 refine ⟨Os, fun i M e => (hO i).1 M e, fun i j k hij h1 h2 => ?_, fun i k h1 => ?_, fun _ _ h => h.elim⟩
 ·have a := (hO i).2 k h1
  have b := (hO j).2 k h2
  have := hd i j a.1 b.1 hij
  omega
 ·have a := (hO i).2 k h1
  have b := h i _ (List.getElem?_eq_getElem a.1)
  have c := b.1.1
  exact ⟨by omega, by omega, fun h => h⟩
theorem asrA_in {w : World} {B b N : Nat} {s : Asr} {mv : Value} (h : AMem w B b s mv N) : InA (asrA B b N s) B w.heap.size w := ⟨Nat.le_refl _, _, ⟨mv, h, rfl⟩, fun k hk => h.own_lt hk⟩
theorem brkA_in {w : World} {B b N : Nat} {s : Brk} {rv mv : Value} {G : List CsG} {o : Nat → Nat} (h : BMem w B b s rv mv G o N) : InA (brkA B b N s) B w.heap.size w := ⟨Nat.le_refl _, _, ⟨rv, mv, G, o, h, rfl⟩, fun k hk => h.olt k hk⟩
theorem lenA_in {w : World} {B b : Nat} {s : Len} {hv mv : Value} (h : LMem w B b s hv mv 0) : InA (lenA B b s) B w.heap.size w := ⟨Nat.le_refl _, _, ⟨hv, mv, h, rfl⟩, fun k hk => h.own_lt hk⟩
theorem netA_in {w : World} {B b : Nat} {nd : Int} {S : List Tr} {P : List Pc} {sent : Nat} {sc wv : Value} (h : NetM w B b nd sc S P sent wv) : InA (netA B b nd S P sent) B w.heap.size w := ⟨Nat.le_refl _, _, ⟨sc, wv, h, rfl⟩, fun k hk => h.own_lt hk⟩
end Go.Proofs.YtdojgbpaheadnaaGreat

/- The lenders of the library, one behind the other. -/
namespace Go.Proofs.YtdojgbpaheadnaaGreat
open Go.RowKit Go.Shelf Go.Maps Go.ChangeMaps

def srt (D : List Int) : List Int := D.mergeSort fun x y => decide (x ≤ y)
def idsN (k : Nat) : Int := if k = 0 then 3 else if k = 1 then 4 else 1
def lptr (p : Nat × Nat × Nat) : Value := .pointer (some ⟨p.1, 0, none⟩)
structure LInv (T : Nat → List Int) (wE : World) (xb : Nat) (c0 c1 c3 : Value) (ps : List (Nat × Nat × Nat)) (lv : Value) (wr : World) : Prop where
 blk : Blk wr xb #[c0, c1, lv, c3, i64 0] 78
 row : wr.ownsRow wE.heap.size 44 1 lv ps.length (ps.map lptr)
 ins : ∀ j p, ps[j]? = some p → InA (lenA p.2.1 p.1 ⟨idsN j, 0, srt (ttl (T j)), []⟩) p.2.1 p.2.2 wr ∧ wE.heap.size ≤ p.2.1 ∧ ∀ g, lv.ownBlock = some g → g < p.2.1 ∨ p.2.2 ≤ g
 ord : ps.Pairwise fun x y => x.2.2 ≤ y.2.1
 tn : Tn (fun j => j = xb) wE wr
theorem LInv.step {T : Nat → List Int} {wE wr W4 W5 : World} {xb : Nat} {c0 c1 c3 lv lv' : Value} {ps : List (Nat × Nat × Nat)} {b lo hi : Nat} (h : LInv T wE xb c0 c1 c3 ps lv wr) (hxb : xb < wE.heap.size) (hb : Below wr.heap.size wr W4) (hin : InA (lenA lo b ⟨idsN ps.length, 0, srt (ttl (T ps.length)), []⟩) lo hi W4) (hlo : wr.heap.size ≤ lo)
  (hr : W5.ownsRow wE.heap.size 44 1 lv' (ps.length + 1) (ps.map lptr ++ [.pointer (some ⟨b, 0, none⟩)])) (hg : W4.grownBy W5 lv.ownBlock) (ho : lv'.ownBlock = lv.ownBlock ∨ lv'.ownBlock = some W4.heap.size) : LInv T wE xb c0 c1 c3 (ps ++ [(b, lo, hi)]) lv' (W5.setCell ⟨xb, 2, none⟩ lv') := by
 have t5 : Tn (fun j => lv.ownBlock = some j) W4 W5 := Tn.of_grown hg
 have t6 : Tn (fun j => j = xb) W5 (W5.setCell ⟨xb, 2, none⟩ lv') := (Tn.refl (fun j => j = xb) W5).setCell (p := ⟨xb, 2, none⟩) (.inl rfl) _
 have s1 := h.tn.size
 have s2 := hb.size
 have s5 := t5.size
 have lvl : ∀ g, lv.ownBlock = some g → wE.heap.size ≤ g ∧ g < wr.heap.size := fun g e => row_lt h.row g e
 have b5 : Blk W5 xb #[c0, c1, lv, c3, i64 0] 78 := t5.blk (h.blk.below hb h.blk.lt) fun e => by have := lvl _ e; omega
 refine ⟨(b5.set 2 lv').cast rfl, ?_, fun j p hj => ?_, ?_, ?_⟩
 ·rw [List.length_append, List.map_append]
  exact t6.row hr fun g e e' => by have := (row_lt hr g e).1; omega
 ·by_cases hlt : j < ps.length
  ·rw [List.getElem?_append_left hlt] at hj
   obtain ⟨i1, i2, i3⟩ := h.ins j p hj
   have i0 := i1.1
   refine ⟨((i1.up hb i0).tn t5 fun k hk => i3 k hk).tn t6 fun k hk => by omega, i2, fun g e => ?_⟩
   rcases ho with ho | ho
   ·exact i3 g (ho ▸ e)
   ·rw [ho] at e; have e := Option.some.inj e; omega
  ·have e2 : j = ps.length := by
    have := (List.getElem?_eq_some_iff.1 hj).1
    rw [List.length_append] at this; simp at this; omega
   subst e2
   rw [List.getElem?_append_right (Nat.le_refl _), Nat.sub_self] at hj
   have hj : (b, lo, hi) = p := Option.some.inj hj
   subst hj
   refine ⟨(hin.tn t5 fun k hk => by have := lvl k hk; omega).tn t6 fun k hk => by omega, by dsimp only; omega, fun g e => ?_⟩
   have h1 := hin.1
   rcases ho with ho | ho
   ·have := lvl g (ho ▸ e); dsimp only; omega
   ·rw [ho] at e; have e := Option.some.inj e; dsimp only; omega
 ·rw [List.pairwise_append]
  refine ⟨h.ord, List.pairwise_singleton _ _, fun x hx y hy => ?_⟩
  rw [List.mem_singleton.1 hy]
  obtain ⟨j, hj, ej⟩ := List.getElem_of_mem hx
  have := (h.ins j x (by rw [List.getElem?_eq_getElem hj, ej])).1.1
  dsimp only
  omega
 ·have q : Tn (fun j => j = xb ∨ wE.heap.size ≤ j) wE (W5.setCell ⟨xb, 2, none⟩ lv') :=
   ((h.tn.mono fun j e => .inl e).trans ((Tn.of_below (F := fun j => j = xb ∨ wE.heap.size ≤ j) hb).trans (t5.mono fun j e => .inr (lvl j e).1))).trans (t6.mono fun j e => .inl e)
  exact ⟨q.os, q.tape, q.output, q.size, fun j hj hn => q.block j hj fun e => e.elim hn fun e => by omega⟩
end Go.Proofs.YtdojgbpaheadnaaGreat

/- The library at its start, put together. -/
namespace Go.Proofs.YtdojgbpaheadnaaGreat
open Go.RowKit Go.Shelf Go.Maps Go.ChangeMaps

theorem LibM.begin {wE wr : World} {T : Nat → List Int} {D : List Int} {S : List Tr} {ps : List (Nat × Nat × Nat)} {lv : Value} {B0 n1 n2 xb s4 s5 s8 s9 bb nb : Nat}
  (hl : LInv T wE xb (.slice (some ⟨s5, 0, none⟩) 2 2) (.pointer (some ⟨bb, 0, none⟩)) (.pointer (some ⟨nb, 0, none⟩)) ps lv wr) (h3 : ps.length = 3)
  (e1 : B0 ≤ n1) (e2 : n1 ≤ xb) (e3 : xb < s4) (e4 : s4 ≤ s5) (e5 : s5 < s8) (e6 : s8 ≤ s9) (e7 : s9 < wE.heap.size) (en : n2 = xb + 1) (en' : n2 ≤ s4)
  (hn : InA (netA n1 nb 5 S [] 0) n1 xb wr) (ha : InA (asrA n2 n2 0 ⟨1, 4, 0, []⟩) n2 s4 wr) (hb : InA (asrA s4 s4 0 ⟨2, 3, 0, []⟩) s4 s5 wr)
  (hab : Blk wr s5 #[.pointer (some ⟨n2, 0, none⟩), .pointer (some ⟨s4, 0, none⟩)] 43) (hbr : InA (brkA s8 bb 0 ⟨0, 0, D, []⟩) s8 s9 wr) :
  ∃ g : Lg, g.xb = xb ∧ g.B0 = B0 ∧ LibM g (fun _ _ => False) wr 0 S [] 0 (Lb.start D (srt (ttl (T 0))) (srt (ttl (T 1))) (srt (ttl (T 2)))) := by
 obtain ⟨p, q, r, rfl⟩ : ∃ p q r, ps = [p, q, r] := by
  match ps, h3 with
  | [p, q, r], _ => exact ⟨p, q, r, rfl⟩
 obtain ⟨hp1, hp2, hp3⟩ := hl.ins 0 p rfl
 obtain ⟨hq1, hq2, hq3⟩ := hl.ins 1 q rfl
 obtain ⟨hr1, hr2, hr3⟩ := hl.ins 2 r rfl
 have ho := hl.ord
 simp only [List.pairwise_cons, List.mem_cons, List.not_mem_nil, or_false, forall_eq_or_imp, forall_eq] at ho
 obtain ⟨⟨o1, o2⟩, o3, -⟩ := ho
 obtain ⟨h0, ⟨-, hz⟩ | ⟨gb, c', cur, rfl, hg, hh, hc, hm, hcs, hx⟩⟩ := hl.row
 ·simp at hz
 have hp3 := hp3 gb rfl
 have hq3 := hq3 gb rfl
 have hr3 := hr3 gb rfl
 have hcl : 3 ≤ c' := by simpa using hc
 have hx' : cur.toList.take 3 = [lptr p, lptr q, lptr r] := hx
 have hcur : ∀ j, j < 3 → cur[j]? = ([lptr p, lptr q, lptr r] : List Value)[j]? := fun j hj => by rw [← hx', List.getElem?_take_of_lt hj]; simp
 have hlb : Blk wr gb cur 44 := hh
 have hsz := hl.tn.size
 have hgl := hlb.lt
 refine ⟨⟨B0, n2, s4, bb, p.1, q.1, r.1, nb, xb, s5, gb, 2, c', fun i => ([n2, s4, s8, p.2.1, q.2.1, r.2.1, n1] : List Nat).getD i 0, #[.pointer (some ⟨n2, 0, none⟩), .pointer (some ⟨s4, 0, none⟩)], cur⟩, rfl, rfl, ⟨rfl, rfl, hcur 0 (by omega), hcur 1 (by omega), hcur 2 (by omega), Nat.le_refl _, hcl⟩, by dsimp only; omega, ⟨0, 0, 0, 0, Nat.le_refl _, Nat.le_refl _, Nat.le_refl _, ?_⟩, ?_⟩
 ·refine Sys.ofInA (fun i => ([n2, s4, s8, p.2.1, q.2.1, r.2.1, n1, xb, s5, gb] : List Nat).getD i 0) (fun i => ([s4, s5, s9, p.2.2, q.2.2, r.2.2, xb, xb + 1, s5 + 1, gb + 1] : List Nat).getD i 0) (fun i M hM => ?_) fun i j hi hj hij => ?_
  ·have hi : i < 10 := (List.getElem?_eq_some_iff.1 hM).1
   have : i = 0 ∨ i = 1 ∨ i = 2 ∨ i = 3 ∨ i = 4 ∨ i = 5 ∨ i = 6 ∨ i = 7 ∨ i = 8 ∨ i = 9 := by omega
   rcases this with rfl | rfl | rfl | rfl | rfl | rfl | rfl | rfl | rfl | rfl <;> cases hM
   ·exact ⟨ha, by show B0 ≤ n2; omega⟩
   ·exact ⟨hb, by show B0 ≤ s4; omega⟩
   ·exact ⟨hbr, by show B0 ≤ s8; omega⟩
   ·exact ⟨hp1, by show B0 ≤ p.2.1; omega⟩
   ·exact ⟨hq1, by show B0 ≤ q.2.1; omega⟩
   ·exact ⟨hr1, by show B0 ≤ r.2.1; omega⟩
   ·exact ⟨hn, by show B0 ≤ n1; omega⟩
   ·exact ⟨InA.box hl.blk, by show B0 ≤ xb; omega⟩
   ·exact ⟨InA.box hab, by show B0 ≤ s5; omega⟩
   ·exact ⟨InA.box hlb, by show B0 ≤ gb; omega⟩
  ·have hi : i < 10 := hi
   have hj : j < 10 := hj
   have t1 := hp1.1
   have t2 := hq1.1
   have t3 := hr1.1
   have di : i = 0 ∨ i = 1 ∨ i = 2 ∨ i = 3 ∨ i = 4 ∨ i = 5 ∨ i = 6 ∨ i = 7 ∨ i = 8 ∨ i = 9 := by omega
   have dj : j = 0 ∨ j = 1 ∨ j = 2 ∨ j = 3 ∨ j = 4 ∨ j = 5 ∨ j = 6 ∨ j = 7 ∨ j = 8 ∨ j = 9 := by omega
   clear hp1 hq1 hr1 hn ha hb hab hbr hlb hh hx hx' hcur hm hcs hc h0
   rcases di with rfl | rfl | rfl | rfl | rfl | rfl | rfl | rfl | rfl | rfl <;> rcases dj with rfl | rfl | rfl | rfl | rfl | rfl | rfl | rfl | rfl | rfl <;> first | exact absurd rfl hij | (simp only [List.getD_cons_zero, List.getD_cons_succ]; omega)
 ·rintro L (rfl | rfl | rfl) <;> exact Int.le_refl _
end Go.Proofs.YtdojgbpaheadnaaGreat
