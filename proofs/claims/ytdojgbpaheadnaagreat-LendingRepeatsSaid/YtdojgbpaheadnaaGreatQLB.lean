/- Messages in memory; what a machine makes of one. -/
import Derived.Test.YtdojgbpaheadnaaGreatQP
import Derived.Test.YtdojgbpaheadnaaGreatQK
import Derived.Test.YtdojgbpaheadnaaGreatQGC
import Derived.Deep.RegionHeld3
set_option linter.unusedVariables false
set_option linter.unusedSimpArgs false

namespace Go.Proofs.YtdojgbpaheadnaaGreat
open Go.RowKit Go.Shelf Go.Maps

abbrev i64 (n : Int) : Value := .int .i64 n
abbrev strV (l : List UInt8) : Value := .string ⟨l.toArray⟩
def encM (m : Msg) : Array Value := #[i64 m.frm, i64 m.to, i64 m.num, strV m.text]
def letV (f : Int) (q : Q4) : Value := .agg #[i64 f, i64 q.1, i64 q.2.1, i64 q.2.2.1, i64 q.2.2.2]
def OpenE (id : Int) (m : Msg) (e : Ending) : Prop :=
 (∃ q, dec m.text = some q ∧ m.to = id ∧ e = .returned (.tuple #[letV m.frm q, .bool true])) ∨ ((dec m.text = none ∨ m.to ≠ id) ∧ e = .returned (.tuple #[letV 0 (0, 0, 0, 0), .bool false]))
theorem list4 {L : List Int} (h : L.length = 4) : ∃ q : Q4, L = q4 q := by
 match L, h with
 | [a, b, c, d], _ => exact ⟨(a, b, c, d), rfl⟩
theorem ret_cell_tmp {P : Program} {fn : Func} {p u : Tmp} {ty : TypeId} (h : fn.results = #[.cell p ty, .tmp u]) {tmps : Array Value} {w : World} {g : Nat} {cs : Array Value} {d : TypeDesc}
  (hp : tmps.getD p undef = .pointer (some ⟨g, 0, none⟩)) (hg : Blk w g cs ty) (hu : P.underlying ty = some d) (hd : (match d with | .struct _ | .array _ _ => true | _ => false) = true) (hi : (P.info? ty).map (·.size) = some cs.size) :
  (results fn tmps).run P w = .ok (.tuple #[.agg cs, tmps.getD u undef]) w := by
 rw [results_cell_tmp h, hp]
 simp [asAddr, run_loadVar_row w g ty ty cs (0, 0) d hg hu hd hi]
theorem belowR {B g n : Nat} {w w' : World} {cs : Array Value} (h : Below B w w') (hg : B ≤ g) : Below B w ((w'.drewN n).setRow g cs) :=
 ⟨h.os, h.tape, h.output, by show _ ≤ (w'.heap.modify g _).size; rw [Array.size_modify]; exact h.size, fun k hk => by rw [setRow_other _ _ _ _ (by omega)]; exact h.block k hk⟩
set_option maxRecDepth 100000 in
set_option maxHeartbeats 4000000 in
theorem open_any (b : Nat) (id : Int) (m : Msg) (w : World) (hid : w.cell? ⟨b, 0, none⟩ = some (i64 id)) (hs : m.text.length ≤ 1000000) :
  Calls Tryz.prog 52 #[.pointer (some ⟨b, 0, none⟩), .agg (encM m)] w fun e w' => OpenE id m e ∧ Below w.heap.size w w' := by
 obtain ⟨f, t, n, x⟩ := m
 have hbl := cell_lt hid
 have HS : (⟨x.toArray⟩ : ByteArray).size ≤ 1000000 := by show x.toArray.size ≤ _; simpa using hs
 go_enter Tryz.func52, Tryz.ntmps52
 unfold encM
 go_wp2_with fail
 obtain ⟨W1, hW1⟩ : ∃ W1, W1 = (w.alloc (.cells #[i64 f, i64 t, i64 n, strV x] 31)).alloc (.cells #[i64 0, i64 0, i64 0, i64 0, i64 0] 108) := ⟨_, rfl⟩
 obtain ⟨mb, hmb⟩ : ∃ mb, mb = w.heap.size := ⟨_, rfl⟩
 have MB : Hid (Blk W1 mb #[i64 f, i64 t, i64 n, strV x] 31) := Lib.hid (by rw [hW1, hmb]; exact (Blk.new _ _ _).alloc _)
 have LBk : Hid (Blk W1 (mb + 1) #[i64 0, i64 0, i64 0, i64 0, i64 0] 108) := Lib.hid (by rw [hW1, hmb]; exact Blk.at_new (by rw [size_alloc]) _ _)
 have B1 : Hid (Below w.heap.size w W1) := Lib.hid (by rw [hW1]; exact ((Below.refl _ _).alloc (Nat.le_refl _) _).alloc (by rw [size_alloc]; omega) _)
 have HM := Lib.hid hmb
 rw [← hW1, ← hmb]
 have hz1 : W1.heap.size = mb + 2 := by rw [hW1, hmb]; simp
 clear hW1 hmb
 have m3 : W1.cell? ⟨mb, 3, none⟩ = some (strV x) := MB.out.cell 3
 go_wp2_with fail
 refine (creadints_any ⟨x.toArray⟩ W1 HS).mono ?_
 rintro e w2 ⟨hR, hb⟩
 have MB2 := Lib.hid (MB.out.below hb MB.out.lt)
 have LB2 := Lib.hid (LBk.out.below hb LBk.out.lt)
 have B2 := Lib.hid (B1.out.trans (hb.mono B1.out.size))
 clear hb m3 MB LBk B1
 have hmw : w.heap.size ≤ mb + 1 := by have := HM.out; omega
 rcases hR with ⟨L, a, cap, rfl, hx, hin, hI, hc1, hc2, hc3⟩ | ⟨c, rfl, hc, hno⟩
 ·have m1 : w2.cell? ⟨mb, 1, none⟩ = some (i64 t) := MB2.out.cell 1
  have i0 : w2.cell? ⟨b, 0, none⟩ = some (i64 id) := (B2.out.cell (p := ⟨b, 0, none⟩) hbl).trans hid
  by_cases hl : L.length = 4
  ·obtain ⟨q, rfl⟩ := list4 hl
   have hq := q4_all.1 hin
   have HD := Lib.hid (dec_some.2 ⟨hq, hx⟩)
   have h4 : (q4 q).length = 4 := rfl
   have e0 : decide (((q4 q).length : Int) ≠ 4) = false := by rw [h4]; rfl
   by_cases ht : t = id
   ·subst ht
    obtain ⟨k, d, r, v⟩ := q
    rcases hI with h | ⟨b', o, rfl, hb', hc⟩
    ·cases h
    have c0 : w2.cell? ⟨b', o, none⟩ = some (i64 k) := hc 0 (by rw [h4]; omega)
    have c1 : w2.cell? ⟨b', o + 1, none⟩ = some (i64 d) := hc 1 (by rw [h4]; omega)
    have c2 : w2.cell? ⟨b', o + 2, none⟩ = some (i64 r) := hc 2 (by rw [h4]; omega)
    have c3 : w2.cell? ⟨b', o + 3, none⟩ = some (i64 v) := hc 3 (by rw [h4]; omega)
    have f0 : w2.cell? ⟨mb, 0, none⟩ = some (i64 f) := MB2.out.cell 0
    obtain ⟨S, hS⟩ : ∃ S : World → Prop, S = fun W => ∃ n, W = w2.drewN n := ⟨_, rfl⟩
    have LD : Hid (∀ W, S W → W.cell? ⟨b', o, none⟩ = some (i64 k) ∧ W.cell? ⟨b', o + 1, none⟩ = some (i64 d) ∧ W.cell? ⟨b', o + 2, none⟩ = some (i64 r) ∧ W.cell? ⟨b', o + 3, none⟩ = some (i64 v) ∧ W.cell? ⟨mb, 0, none⟩ = some (i64 f)) := Lib.hid (by
     rw [hS]; rintro W ⟨n, rfl⟩; exact ⟨c0, c1, c2, c3, f0⟩)
    have HH : Hid (∀ n, S (w2.drewN n)) := Lib.hid (by rw [hS]; exact fun n => ⟨n, rfl⟩)
    have SS : Hid (∀ W, S W → ∃ n, W = w2.drewN n) := Lib.hid (by rw [hS]; exact fun W h => h)
    clear hS c0 c1 c2 c3 f0 hc
    go_wp2_with fail
    go_quiet (fail)
    go_wp2_with fail
    refine wp_region_sp 16 S (by kernel_rfl) (by kernel_rfl) ?_
    simp only [List.take_succ_cons, List.take_zero]
    have hHeld := HH.out (nq + 1)
    apply wpAnyH_apart S
    case take =>
     intro R hR
     refine tk 0 (v := ?_) rfl hHeld ?_ ?_; rotate_left
     ·(intro w hSw; obtain ⟨l0, l1, l2, l3, l4⟩ := LD.out w hSw; go_simp; try (with_reducible rfl))
     try simp only [gZ]
     refine tk 1 (v := ?_) rfl hHeld ?_ ?_; rotate_left
     ·(intro w hSw; obtain ⟨l0, l1, l2, l3, l4⟩ := LD.out w hSw; go_simp; try (with_reducible rfl))
     try simp only [gZ]
     refine tk 2 (v := ?_) rfl hHeld ?_ ?_; rotate_left
     ·(intro w hSw; obtain ⟨l0, l1, l2, l3, l4⟩ := LD.out w hSw; go_simp; try (with_reducible rfl))
     try simp only [gZ]
     refine tk 3 (v := ?_) rfl hHeld ?_ ?_; rotate_left
     ·(intro w hSw; obtain ⟨l0, l1, l2, l3, l4⟩ := LD.out w hSw; go_simp; try (with_reducible rfl))
     try simp only [gZ]
     refine tk 4 (v := ?_) rfl hHeld ?_ ?_; rotate_left
     ·(intro w hSw; obtain ⟨l0, l1, l2, l3, l4⟩ := LD.out w hSw; go_simp; try (with_reducible rfl))
     try simp only [gZ]
     refine tk 5 (v := ?_) rfl hHeld ?_ ?_; rotate_left
     ·(intro w hSw; obtain ⟨l0, l1, l2, l3, l4⟩ := LD.out w hSw; go_simp; try (with_reducible rfl))
     try simp only [gZ]
     refine tk 6 (v := ?_) rfl hHeld ?_ ?_; rotate_left
     ·(intro w hSw; obtain ⟨l0, l1, l2, l3, l4⟩ := LD.out w hSw; go_simp; try (with_reducible rfl))
     try simp only [gZ]
     refine tk 7 (v := ?_) rfl hHeld ?_ ?_; rotate_left
     ·(intro w hSw; obtain ⟨l0, l1, l2, l3, l4⟩ := LD.out w hSw; go_simp; try (with_reducible rfl))
     try simp only [gZ]
     refine tk 8 (v := ?_) rfl hHeld ?_ ?_; rotate_left
     ·(intro w hSw; obtain ⟨l0, l1, l2, l3, l4⟩ := LD.out w hSw; go_simp; try (with_reducible rfl))
     try simp only [gZ]
     refine tk 9 (v := ?_) rfl hHeld ?_ ?_; rotate_left
     ·(intro w hSw; obtain ⟨l0, l1, l2, l3, l4⟩ := LD.out w hSw; go_simp; try (with_reducible rfl))
     try simp only [gZ]
     refine tk 10 (v := ?_) rfl hHeld ?_ ?_; rotate_left
     ·(intro w hSw; obtain ⟨l0, l1, l2, l3, l4⟩ := LD.out w hSw; go_simp; try (with_reducible rfl))
     try simp only [gZ]
     refine tk 11 (v := ?_) rfl hHeld ?_ ?_; rotate_left
     ·(intro w hSw; obtain ⟨l0, l1, l2, l3, l4⟩ := LD.out w hSw; go_simp; try (with_reducible rfl))
     try simp only [gZ]
     refine tk 12 (v := ?_) rfl hHeld ?_ ?_; rotate_left
     ·(intro w hSw; obtain ⟨l0, l1, l2, l3, l4⟩ := LD.out w hSw; go_simp; try (with_reducible rfl))
     try simp only [gZ]
     refine tk 13 (v := ?_) rfl hHeld ?_ ?_; rotate_left
     ·(intro w hSw; obtain ⟨l0, l1, l2, l3, l4⟩ := LD.out w hSw; go_simp; try (with_reducible rfl))
     try simp only [gZ]
     refine tk 14 (v := ?_) rfl hHeld ?_ ?_; rotate_left
     ·(intro w hSw; obtain ⟨l0, l1, l2, l3, l4⟩ := LD.out w hSw; go_simp; try (with_reducible rfl))
     try simp only [gZ]
     refine tk 15 (v := ?_) rfl hHeld ?_ ?_; rotate_left
     ·(intro w hSw; obtain ⟨l0, l1, l2, l3, l4⟩ := LD.out w hSw; go_simp; try (with_reducible rfl))
     try simp only [gZ]
     exact wpAnyH_done (by kernel_rfl) ⟨rfl, hR _ hHeld⟩ _
    case rest =>
     intro W hW
     obtain ⟨n', rfl⟩ := SS.out W hW
     simp only [endN, List.drop_succ_cons, List.drop_zero, Act.put, List.setIfInBounds_toArray, List.set_cons_zero, List.set_cons_succ]
     go_wp2_with (refine wpList_store_row rfl 108 (.tmp 4) (.tmp 46) rfl (mb + 1) #[i64 f, i64 k, i64 d, i64 r, i64 v] rfl rfl 108 _ (LB2.out.drewN _) (by kernel_rfl) rfl (by simp [Value.oneCell']) ?_)
     (try simp only [Exit.inBlock, Exit.then])
     refine bodyPost_ret (ret_cell_tmp rfl rfl (g := mb + 1) (cs := #[i64 f, i64 k, i64 d, i64 r, i64 v]) (setRow_heap _ _ _ _ _ _ (LB2.out.drewN _)) Tryz.underlying108 rfl (by kernel_rfl)) rfl ⟨.inl ⟨_, HD.out, rfl, rfl⟩, ?_⟩
     exact belowR B2.out hmw
   ·have e1 : decide (t ≠ id) = true := by simpa using ht
    go_wp2_with fail
    go_quiet (fail)
    go_wp2_with (refine wpList_store_row rfl 108 (.tmp 4) (.tmp 30) rfl (mb + 1) #[i64 0, i64 0, i64 0, i64 0, i64 0] rfl rfl 108 _ (LB2.out.drewN _) (by kernel_rfl) rfl (by simp [Value.oneCell']) ?_)
    (try simp only [Exit.inBlock, Exit.then])
    refine bodyPost_ret (ret_cell_tmp rfl rfl (g := mb + 1) (cs := #[i64 0, i64 0, i64 0, i64 0, i64 0]) (setRow_heap _ _ _ _ _ _ (LB2.out.drewN _)) Tryz.underlying108 rfl (by kernel_rfl)) rfl ⟨.inr ⟨.inr ht, rfl⟩, ?_⟩
    exact belowR B2.out hmw
  ·have e0 : decide ((L.length : Int) ≠ 4) = true := by simp; omega
   have e1 : ¬ ((L.length : Int) = 4) := by omega
   go_wp2_with fail
   go_quiet (fail)
   go_wp2_with (refine wpList_store_row rfl 108 (.tmp 4) (.tmp 30) rfl (mb + 1) #[i64 0, i64 0, i64 0, i64 0, i64 0] rfl rfl 108 _ (LB2.out.drewN _) (by kernel_rfl) rfl (by simp [Value.oneCell']) ?_)
   (try simp only [Exit.inBlock, Exit.then])
   refine bodyPost_ret (ret_cell_tmp rfl rfl (g := mb + 1) (cs := #[i64 0, i64 0, i64 0, i64 0, i64 0]) (setRow_heap _ _ _ _ _ _ (LB2.out.drewN _)) Tryz.underlying108 rfl (by kernel_rfl)) rfl ⟨.inr ⟨.inl (dec_none.2 fun q _ e => hl (by rw [hx] at e; rw [ints_inj e]; rfl)), rfl⟩, ?_⟩
   exact belowR B2.out hmw
 ·have e0 : decide (c ≠ 0) = true := by simpa using hc
  go_wp2_with fail
  go_quiet (fail)
  go_wp2_with (refine wpList_store_row rfl 108 (.tmp 4) (.tmp 30) rfl (mb + 1) #[i64 0, i64 0, i64 0, i64 0, i64 0] rfl rfl 108 _ (LB2.out.drewN _) (by kernel_rfl) rfl (by simp [Value.oneCell']) ?_)
  (try simp only [Exit.inBlock, Exit.then])
  refine bodyPost_ret (ret_cell_tmp rfl rfl (g := mb + 1) (cs := #[i64 0, i64 0, i64 0, i64 0, i64 0]) (setRow_heap _ _ _ _ _ _ (LB2.out.drewN _)) Tryz.underlying108 rfl (by kernel_rfl)) rfl ⟨.inr ⟨.inl (dec_none.2 fun q hq => hno _ (q4_all.2 hq)), rfl⟩, ?_⟩
  exact belowR B2.out hmw
end Go.Proofs.YtdojgbpaheadnaaGreat

/- How a machine sends a message. -/
namespace Go.Proofs.YtdojgbpaheadnaaGreat
open Go.RowKit Go.Shelf Go.Maps

theorem news4 (w : World) (a b c d : Value) (T : TypeId) : (w.alloc (.cells #[a, b, c, d] T)).cell? ⟨w.heap.size, 0, none⟩ = some a ∧ (w.alloc (.cells #[a, b, c, d] T)).cell? ⟨w.heap.size, 1, none⟩ = some b ∧ (w.alloc (.cells #[a, b, c, d] T)).cell? ⟨w.heap.size, 2, none⟩ = some c ∧ (w.alloc (.cells #[a, b, c, d] T)).cell? ⟨w.heap.size, 3, none⟩ = some d := by
 have h := Blk.new w #[a, b, c, d] T
 exact ⟨h.cell 0, h.cell 1, h.cell 2, h.cell 3⟩
theorem intsAt4 (w : World) (k a r v : Int) (T : TypeId) : IntsAt (w.alloc (.cells #[i64 k, i64 a, i64 r, i64 v] T)) (some ⟨w.heap.size, 0, none⟩) [k, a, r, v] := by
 obtain ⟨h0, h1, h2, h3⟩ := news4 w (i64 k) (i64 a) (i64 r) (i64 v) T
 refine .inr ⟨w.heap.size, 0, rfl, by rw [size_alloc]; omega, fun j hj => ?_⟩
 have hj' : j < 4 := hj
 rw [Nat.zero_add]
 rcases (by omega : j = 0 ∨ j = 1 ∨ j = 2 ∨ j = 3) with rfl | rfl | rfl | rfl
 ·exact h0
 ·exact h1
 ·exact h2
 ·exact h3
def SendE (b : Nat) (id sent to k a r v : Int) (w : World) (e : Ending) (w' : World) : Prop :=
 ∃ g, e = .returned (.slice (some ⟨g, 0, none⟩) 1 1) ∧ w.heap.size ≤ g ∧ Blk w' g (encM ⟨id, to, sent + 1, txt k a r v⟩) 31 ∧ Below w.heap.size (w.setCell ⟨b, 1, none⟩ (i64 (sent + 1))) w'
set_option maxRecDepth 100000 in
set_option maxHeartbeats 4000000 in
theorem send_any (b : Nat) (id sent to k a r v : Int) (w : World) (h0 : w.cell? ⟨b, 0, none⟩ = some (i64 id)) (h1 : w.cell? ⟨b, 1, none⟩ = some (i64 sent)) (hf : w.frozen? ⟨b, 1, none⟩ = false) (hs : 0 ≤ sent ∧ sent < 1000000000)
  (hk : I64 k) (ha : I64 a) (hr : I64 r) (hv : I64 v) :
  Calls Tryz.prog 69 #[.pointer (some ⟨b, 0, none⟩), i64 to, i64 k, .agg #[i64 a, i64 r], i64 v] w (SendE b id sent to k a r v w) := by
 have hbl := cell_lt h0
 have HQ : Hid (Q4.ok (k, a, r, v)) := Lib.hid ⟨hk, ha, hr, hv⟩
 clear hk ha hr hv
 have hwr : IntKind.i64.wrap (sent + 1) = sent + 1 := by rw [IntKind.wrap_i64]; omega
 go_enter Tryz.func69, Tryz.ntmps69
 go_wp2_with fail
 obtain ⟨w0, hw0⟩ : ∃ w0, w0 = w.setCell ⟨b, 1, none⟩ (i64 (sent + 1)) := ⟨_, rfl⟩
 obtain ⟨W1, hW1⟩ : ∃ W1, W1 = w0.alloc (.cells #[i64 a, i64 r] 106) := ⟨_, rfl⟩
 have hz0 : w0.heap.size = w.heap.size := by rw [hw0]; simp
 have W0 := Lib.hid hw0
 have a0 : W1.cell? ⟨b, 0, none⟩ = some (i64 id) := by
  rw [hW1]; refine Below.cellE ((Below.refl w0.heap.size w0).alloc (Nat.le_refl _) _) ?_; rw [hw0]; exact (World.cell?_setCell_other (h := fun e => by injection e with _ e _; cases e) ..).trans h0
 have a1 : W1.cell? ⟨b, 1, none⟩ = some (i64 (sent + 1)) := by
  rw [hW1]; refine Below.cellE ((Below.refl w0.heap.size w0).alloc (Nat.le_refl _) _) ?_; rw [hw0]; exact World.cell?_setCell_same (h := h1) ..
 have DB : Hid (Blk W1 w.heap.size #[i64 a, i64 r] 106) := Lib.hid (by rw [hW1]; exact Blk.at_new hz0.symm _ _)
 have B0 : Hid (Below w0.heap.size w0 W1) := Lib.hid (by rw [hW1]; exact (Below.refl _ _).alloc (Nat.le_refl _) _)
 rw [← hw0, ← hW1]
 have hz1 : w.heap.size ≤ W1.heap.size := by rw [hW1, size_alloc]; omega
 obtain ⟨S, hS⟩ : ∃ S : World → Prop, S = fun W => Below W1.heap.size W1 W := ⟨_, rfl⟩
 have LD : Hid (∀ W, S W → W.cell? ⟨b, 0, none⟩ = some (i64 id) ∧ W.cell? ⟨b, 1, none⟩ = some (i64 (sent + 1)) ∧ W.cell? ⟨w.heap.size, 0, none⟩ = some (i64 a) ∧ W.cell? ⟨w.heap.size, 1, none⟩ = some (i64 r)) := Lib.hid (by
  rw [hS]; intro W h; exact ⟨Below.cellE h a0, Below.cellE h a1, Below.cellE h (DB.out.cell 0), Below.cellE h (DB.out.cell 1)⟩)
 have SS : Hid (∀ W, S W → Below W1.heap.size W1 W) := Lib.hid (by rw [hS]; exact fun W h => h)
 have UU : Hid (∀ W, Below W1.heap.size W1 W → S W) := Lib.hid (by rw [hS]; exact fun W h => h)
 have hHeld := UU.out _ (Below.refl W1.heap.size W1).drew
 clear hS hW1 hw0 a0 a1 h0 h1 hf hwr hs
 refine wp_region_held_drew (S := S) (by kernel_rfl) hHeld (fun _ => ?_)
 apply wpAnyH_apart1 (fun g W => W1.heap.size ≤ g ∧ Blk W g (encM ⟨id, to, sent + 1, txt k a r v⟩) 31 ∧ Below W1.heap.size W1 W)
 case take =>
  intro R hR
  refine tk 0 (v := ?_) rfl hHeld ?_ ?_; rotate_left
  ·(intro w hSw; obtain ⟨l0, l1, l2, l3⟩ := LD.out w hSw; go_simp; try (with_reducible rfl))
  try simp only [gZ]
  refine tk 1 (v := ?_) rfl hHeld ?_ ?_; rotate_left
  ·(intro w hSw; obtain ⟨l0, l1, l2, l3⟩ := LD.out w hSw; go_simp; try (with_reducible rfl))
  try simp only [gZ]
  refine tk 2 (v := ?_) rfl hHeld ?_ ?_; rotate_left
  ·(intro w hSw; obtain ⟨l0, l1, l2, l3⟩ := LD.out w hSw; go_simp; try (with_reducible rfl))
  try simp only [gZ]
  refine tk 3 (v := ?_) rfl hHeld ?_ ?_; rotate_left
  ·(intro w hSw; obtain ⟨l0, l1, l2, l3⟩ := LD.out w hSw; go_simp; try (with_reducible rfl))
  try simp only [gZ]
  refine tk 4 (v := ?_) rfl hHeld ?_ ?_; rotate_left
  ·(intro w hSw; obtain ⟨l0, l1, l2, l3⟩ := LD.out w hSw; go_simp; try (with_reducible rfl))
  try simp only [gZ]
  refine tk 5 (v := ?_) rfl hHeld ?_ ?_; rotate_left
  ·(intro w hSw; obtain ⟨l0, l1, l2, l3⟩ := LD.out w hSw; go_simp; try (with_reducible rfl))
  try simp only [gZ]
  refine tk 6 (v := ?_) rfl hHeld ?_ ?_; rotate_left
  ·(intro w hSw; obtain ⟨l0, l1, l2, l3⟩ := LD.out w hSw; go_simp; try (with_reducible rfl))
  try simp only [gZ]
  refine tk 7 (v := ?_) rfl hHeld ?_ ?_; rotate_left
  ·(intro w hSw; obtain ⟨l0, l1, l2, l3⟩ := LD.out w hSw; go_simp; try (with_reducible rfl))
  try simp only [gZ]
  refine tk 8 (v := ?_) rfl hHeld ?_ ?_; rotate_left
  ·(intro w hSw; obtain ⟨l0, l1, l2, l3⟩ := LD.out w hSw; go_simp; try (with_reducible rfl))
  try simp only [gZ]
  refine tk 9 (v := ?_) rfl hHeld ?_ ?_; rotate_left
  ·(intro w hSw; obtain ⟨l0, l1, l2, l3⟩ := LD.out w hSw; go_simp; try (with_reducible rfl))
  try simp only [gZ]
  refine tk 10 (v := ?_) rfl hHeld ?_ ?_; rotate_left
  ·(intro w hSw; obtain ⟨l0, l1, l2, l3⟩ := LD.out w hSw; go_simp; try (with_reducible rfl))
  try simp only [gZ]
  refine tk 11 (v := ?_) rfl hHeld ?_ ?_; rotate_left
  ·(intro w hSw; obtain ⟨l0, l1, l2, l3⟩ := LD.out w hSw; go_simp; try (with_reducible rfl))
  try simp only [gZ]
  refine tk 12 (v := ?_) rfl hHeld ?_ ?_; rotate_left
  ·(intro w hSw; obtain ⟨l0, l1, l2, l3⟩ := LD.out w hSw; go_simp; try (with_reducible rfl))
  try simp only [gZ]
  refine tk 13 (v := ?_) rfl hHeld ?_ ?_; rotate_left
  ·(intro w hSw; obtain ⟨l0, l1, l2, l3⟩ := LD.out w hSw; go_simp; try (with_reducible rfl))
  try simp only [gZ]
  refine tk 14 (v := ?_) rfl hHeld ?_ ?_; rotate_left
  ·(intro w hSw; obtain ⟨l0, l1, l2, l3⟩ := LD.out w hSw; go_simp; try (with_reducible rfl))
  try simp only [gZ]
  refine wpAnyH_one (i := 15) rfl (by kernel_rfl) (by rfl) ?_
  go_simp
  obtain ⟨W2, hW2⟩ : ∃ W2, W2 = (W1.alloc (.cells #[i64 k, i64 a, i64 r, i64 v] 3)).drew := ⟨_, rfl⟩
  have I2 : Hid (IntsAt W2 (some ⟨W1.heap.size, 0, none⟩) [k, a, r, v]) := Lib.hid (by rw [hW2]; exact intsAt4 W1 k a r v _)
  have B2 : Hid (Below W1.heap.size W1 W2) := Lib.hid (by rw [hW2]; exact ((Below.refl _ _).alloc (Nat.le_refl _) _).drew)
  rw [← hW2]
  clear hW2
  refine ⟨UU.out _ B2.out, ?_⟩
  refine wpAnyH_one (i := 16) rfl (by kernel_rfl) (by rfl) ?_
  go_simp
  refine (ints_any [k, a, r, v] (some ⟨W1.heap.size, 0, none⟩) 4 W2 I2.out (by simp) (by simp) (by omega) (q4_all.2 HQ.out)).mono ?_
  rintro e W3 ⟨rfl, hb⟩
  have B3 := Lib.hid (B2.out.trans (hb.mono B2.out.size))
  have hHeld := UU.out _ B3.out
  clear hb
  refine ⟨hHeld, ?_⟩
  refine tk 17 (v := ?_) rfl hHeld ?_ ?_; rotate_left
  ·(intro w hSw; clear hSw; go_simp; try (with_reducible rfl))
  try simp only [gZ]
  refine wpAnyH_one (i := 18) rfl (by kernel_rfl) (by rfl) ?_
  go_simp
  obtain ⟨W4, hW4⟩ : ∃ W4, W4 = W3.alloc (.cells #[i64 id, i64 to, i64 (sent + 1), strV (ints [k, a, r, v])] 31) := ⟨_, rfl⟩
  have M4 : Hid (Blk W4 W3.heap.size (encM ⟨id, to, sent + 1, txt k a r v⟩) 31) := Lib.hid (by rw [hW4]; exact Blk.new _ _ _)
  have B4 : Hid (Below W1.heap.size W1 W4) := Lib.hid (by rw [hW4]; exact B3.out.alloc B3.out.size _)
  have hz3 := B3.out.size
  obtain ⟨g, hg⟩ : ∃ g, g = W3.heap.size := ⟨_, rfl⟩
  rw [← hg] at M4 hz3
  rw [← hW4, ← hg]
  clear hW4 hg
  have hHeld := UU.out _ B4.out
  refine ⟨hHeld, ?_⟩
  refine tk 19 (v := ?_) rfl hHeld ?_ ?_; rotate_left
  ·(intro w hSw; clear hSw; go_simp; try (with_reducible rfl))
  try simp only [gZ]
  exact wpAnyH_done (by kernel_rfl) ⟨rfl, hR _ _ ⟨hz3, M4.out, B4.out⟩⟩ _
 case rest =>
  rintro g W ⟨hg, hM, hB⟩
  have F : Hid (SendE b id sent to k a r v w (.returned (.slice (some ⟨g, 0, none⟩) 1 1)) W) := Lib.hid ⟨g, rfl, by omega, hM, by rw [← W0.out]; exact (B0.out.trans (hB.mono B0.out.size)).mono (by omega)⟩
  go_wp2_with fail
  go_ret
  exact F.out
end Go.Proofs.YtdojgbpaheadnaaGreat
