/- The examples hold: sanity. -/
import Derived.Test.YtpdldbapagchfaaGreatDoorQ21
import Derived.Test.YtpdldbapagchfaaGreatDoorQ15
import Derived.Test.YtpdldbapagchfaaGreatDoorQ18
import Derived.Test.YtpdldbapagchfaaGreatDoorQ03
set_option linter.unusedVariables false
set_option linter.unusedSimpArgs false

namespace Go.Proofs.YtpdldbapagchfaaGreatDoor
open Go.RowKit Go.Shelf Go.Maps
attribute [local go_sem] over_cell over_frozen

def lokB (L : List Ver) : Bool := decide (L.length ≤ 100) && L.all fun x => decide (-9223372036854775808 ≤ x.r.1 ∧ x.r.1 ≤ 9223372036854775807) && decide (-9223372036854775808 ≤ x.r.2 ∧ x.r.2 ≤ 9223372036854775807) && decide (x.fs.length ≤ 1000) &&
  x.fs.all fun f => decide (f.data.size < 100) && decide (f.tag.size ≤ 1000) && decide (f.subs.length ≤ 1000) && f.subs.all fun s => decide (s.c < 256) && decide (s.t.size ≤ 1000)
theorem lok_of {L : List Ver} (h : lokB L = true) : LOk L := by
  simp only [lokB, Bool.and_eq_true, decide_eq_true_eq, List.all_eq_true] at h
  obtain ⟨h0, h⟩ := h
  refine ⟨⟨by omega, fun v hv => ⟨(h v hv).1.2, fun f hf => ((h v hv).2 f hf).1.2⟩⟩, fun v hv => ?_, h0, fun x hx f hf => ?_⟩
  · have h1 := (h v hv).1.1
    exact ⟨h1.1, h1.2⟩
  · have h1 := (h x hx).2 f hf
    exact ⟨⟨h1.1.1.1, h1.1.2, fun s hs => h1.2 s hs⟩, h1.1.1.2⟩
theorem latest_mem {L : List Ver} {v : Ver} (h : v ∈ latest L) : v ∈ L := by
  obtain ⟨k, h1, h2⟩ := (mem_latest L v).1 h
  rw [← h2, getElem!_pos L k h1.1]; exact List.getElem_mem _
theorem LOk.latest {L : List Ver} (h : LOk L) : LOk (latest L) := by
  have hl : (latTo L L.length).length ≤ L.length := latTo_len L L.length
  exact ⟨⟨Nat.le_trans hl h.vs.1, fun v hv => h.vs.2 v (latest_mem hv)⟩, fun v hv => h.recs v (latest_mem hv), Nat.le_trans hl h.few, fun x hx => h.fld x (latest_mem hx)⟩
theorem LOk.sub {L M : List Ver} (h : LOk L) (hl : M.length ≤ L.length) (hs : ∀ x ∈ M, x ∈ L) : LOk M :=
  ⟨⟨Nat.le_trans hl h.vs.1, fun v hv => h.vs.2 v (hs v hv)⟩, fun v hv => h.recs v (hs v hv), Nat.le_trans hl h.few, fun x hx => h.fld x (hs x hx)⟩
/-- A version that says, with its cells. -/
theorem saysC_any (s n v : Int) (l : List (ByteArray × ByteArray)) {gb cap n2 nl : Nat} {w : World} (hnl : nl = l.length) (hn2 : n2 = 2 * l.length) (hg : ∀ j x, (pairsL l)[j]? = some x → w.cell? ⟨gb, j, none⟩ = some (.string x)) (hl : l.length ≤ 100) :
    Calls Tryz.prog 27 #[.int .i64 s, .int .i64 n, .int .i64 v, .slice (some ⟨gb, 0, none⟩) n2 cap] w fun e w' => ∃ fa fc, e = .returned (.agg #[.int .i64 s, .int .i64 n, .int .i64 v, .int .u8 0, .int .u8 0, .slice fa nl fc]) ∧ VerR (fun b => w.heap.size ≤ b) w' [.int .i64 s, .int .i64 n, .int .i64 v, .int .u8 0, .int .u8 0, .slice fa nl fc] (saysP s n v l) ∧ Below w.heap.size w w' := by
  refine (says_any s n v l hn2 hg hl).mono fun e w' h => ?_
  obtain ⟨cs, rfl, h1, h2⟩ := h
  obtain ⟨fv, rfl, h3⟩ := h1
  have h4 := h3
  obtain ⟨fa, fc, rfl, -⟩ := h3
  have e : (saysP s n v l).fs.length = nl := by rw [hnl]; exact List.length_map _
  rw [e] at h4 ⊢
  exact ⟨fa, fc, rfl, ⟨_, rfl, h4⟩, h2⟩
/-- Versions laid side by side. -/
theorem vers_lit {S : Nat → Prop} {w : World} {css : List (List Value)} {L : List Ver} {g n : Nat} (hn : n = L.length) (hn1 : n ≤ 1000) (h : All2 (VerR S w) css L) (hk : Blk w g css.flatten.toArray 43) (hS : S g) : VersAt S w (.slice (some ⟨g, 0, none⟩) n n) L := by
  subst hn
  refine ⟨_, L.length, rfl, Nat.le_refl _, by unfold maxLen; omega, .inr ⟨g, 0, rfl, hS, css, h, ?_, fun j u hj => ?_⟩⟩
  · have : ∀ {css : List (List Value)} {L : List Ver}, All2 (VerR S w) css L → ∀ c ∈ css, c.length = 6 := by
      intro css L h
      induction h with
      | nil => intro c hc; cases hc
      | cons g t ih =>
        intro c hc
        rcases List.mem_cons.1 hc with e | e
        · rw [e]; obtain ⟨fv, e', _⟩ := g; rw [e']; rfl
        · exact ih c e
    exact this h
  · rw [Nat.zero_add]
    exact ⟨hk.cellE (by simpa using hj), hk.frozen _⟩
theorem lokBA : LOk [verC, verB, verA] := lok_of (by decide +kernel)
theorem lok1 : LOk [verB, verA] := lokBA.sub (by simp) (by intro x hx; simp at hx ⊢; rcases hx with h | h <;> simp [h])
theorem lokAB : LOk [verA, verB] := lokBA.sub (by simp) (by intro x hx; simp at hx ⊢; rcases hx with h | h <;> simp [h])
theorem lok2 : LOk (without 1 [verA, verB]) := lok1.sub (Nat.le_trans (List.length_filter_le _ _) (by simp)) (by intro x hx; have h := (List.mem_filter.1 hx).1; simp at h ⊢; rcases h with h | h <;> simp [h])
theorem row_int {W : World} {g : Nat} {t : TypeId} {l : List (Int)} (K : Blk W g (l.map (fun x => Value.int .i64 x)).toArray t) : ∀ j x, l[j]? = some x → W.cell? ⟨g, j, none⟩ = some (Value.int .i64 x) := fun j x hx => by
  refine K.cellE ?_
  rw [List.getElem?_toArray, List.getElem?_map, hx]; rfl
theorem row_str {W : World} {g : Nat} {t : TypeId} {l : List (ByteArray)} (K : Blk W g (l.map (fun x => Value.string x)).toArray t) : ∀ j x, l[j]? = some x → W.cell? ⟨g, j, none⟩ = some (Value.string x) := fun j x hx => by
  refine K.cellE ?_
  rw [List.getElem?_toArray, List.getElem?_map, hx]; rfl
set_option maxRecDepth 100000 in
set_option maxHeartbeats 8000000 in
theorem sanity_any (w : World) : Calls Tryz.prog 11 #[] w fun e w' => e = .returned (.bool true) ∧ Below w.heap.size w w' := by
  go_enter Tryz.func11, Tryz.ntmps11
  go_wp2_with fail
  refine (saysC_any 1 5 2 exA (nl := 3) rfl rfl (fun j x hx => ?_) (by decide)).mono ?_
  · refine (Blk.new _ _ _).cellE ?_
    have h : (pairsL exA)[j]? = some x := hx
    have h2 := congrArg (Option.map Value.string) h
    rw [← List.getElem?_map] at h2
    exact (List.getElem?_toArray).trans h2
  rintro e w1 ⟨fa, fc, rfl, hA, hb⟩
  have HA := Lib.hid hA
  have HB1 : RowKit.Hid (Below w.heap.size w w1) := Lib.hid (((Below.refl _ _).alloc (Nat.le_refl _) _).trans (hb.mono (by simp)))
  clear hA hb
  go_wp2_with fail
  refine (saysC_any 2 1 1 exB (nl := 4) rfl rfl (fun j x hx => ?_) (by decide)).mono ?_
  · refine (Blk.at_new (by simp) _ _).cellE ?_
    have h : (pairsL exB)[j]? = some x := hx
    have h2 := congrArg (Option.map Value.string) h
    rw [← List.getElem?_map] at h2
    exact (List.getElem?_toArray).trans h2
  rintro e w2 ⟨fb, fd, rfl, hB, hb⟩
  have HB := Lib.hid hB
  have HB2 : RowKit.Hid (Below w1.heap.size w1 w2) := Lib.hid ((((Below.refl _ _).alloc (Nat.le_refl _) _).alloc (by simp) _).trans (hb.mono (by simp; omega)))
  have KA2 : RowKit.Hid (Blk w2 w1.heap.size #[.int .i64 1, .int .i64 5, .int .i64 2, .int .u8 0, .int .u8 0, .slice fa 3 fc] 43) := Lib.hid (((Blk.new _ _ _).alloc _).below hb (by simp; omega))
  clear hB hb
  go_wp2_with fail
  refine (saysC_any 1 5 3 exC (nl := 1) rfl rfl (fun j x hx => ?_) (by decide)).mono ?_
  · refine (Blk.at_new (by simp) _ _).cellE ?_
    have h : (pairsL exC)[j]? = some x := hx
    have h2 := congrArg (Option.map Value.string) h
    rw [← List.getElem?_map] at h2
    exact (List.getElem?_toArray).trans h2
  rintro e w3 ⟨fe, ff, rfl, hC, hb⟩
  have HC := Lib.hid hC
  have HB3 : RowKit.Hid (Below w2.heap.size w2 w3) := Lib.hid ((((Below.refl _ _).alloc (Nat.le_refl _) _).alloc (by simp) _).trans (hb.mono (by simp; omega)))
  have KB3 : RowKit.Hid (Blk w3 w2.heap.size #[.int .i64 2, .int .i64 1, .int .i64 1, .int .u8 0, .int .u8 0, .slice fb 4 fd] 43) := Lib.hid (((Blk.new _ _ _).alloc _).below hb (by simp; omega))
  have KA3 := Lib.hid (KA2.out.below HB3.out KA2.out.lt)
  clear hC hb
  go_upto_region 4 with fail
  obtain ⟨W, hW⟩ : ∃ W, W = w3.alloc (.cells #[.int .i64 1, .int .i64 5, .int .i64 3, .int .u8 0, .int .u8 0, .slice fe 1 ff] 43) := ⟨_, rfl⟩
  obtain ⟨ga, hga⟩ : ∃ g, g = w1.heap.size := ⟨_, rfl⟩
  obtain ⟨gb, hgb⟩ : ∃ g, g = w2.heap.size := ⟨_, rfl⟩
  obtain ⟨gc, hgc⟩ : ∃ g, g = w3.heap.size := ⟨_, rfl⟩
  have BW3 : RowKit.Hid (Below w3.heap.size w3 W) := Lib.hid (by rw [hW]; exact (Below.refl _ _).alloc (Nat.le_refl _) _)
  have KC : RowKit.Hid (Blk W gc #[.int .i64 1, .int .i64 5, .int .i64 3, .int .u8 0, .int .u8 0, .slice fe 1 ff] 43) := Lib.hid (by rw [hW, hgc]; exact Blk.new _ _ _)
  have KA : RowKit.Hid (Blk W ga #[.int .i64 1, .int .i64 5, .int .i64 2, .int .u8 0, .int .u8 0, .slice fa 3 fc] 43) := Lib.hid (by rw [hga]; exact KA3.out.below BW3.out KA3.out.lt)
  have KB : RowKit.Hid (Blk W gb #[.int .i64 2, .int .i64 1, .int .i64 1, .int .u8 0, .int .u8 0, .slice fb 4 fd] 43) := Lib.hid (by rw [hgb]; exact KB3.out.below BW3.out KB3.out.lt)
  have B13 : Below w1.heap.size w1 W := HB2.out.trans ((HB3.out.trans (BW3.out.mono HB3.out.size)).mono HB2.out.size)
  have B23 : Below w2.heap.size w2 W := HB3.out.trans (BW3.out.mono HB3.out.size)
  have BW : RowKit.Hid (Below w.heap.size w W) := Lib.hid (HB1.out.trans (B13.mono HB1.out.size))
  have VA : RowKit.Hid (∀ W', Below W.heap.size W W' → VerR (fun _ => True) W' [.int .i64 1, .int .i64 5, .int .i64 2, .int .u8 0, .int .u8 0, .slice fa 3 fc] verA) := Lib.hid fun W' h => HA.out.keep (Stay.of_below (B13.trans (h.mono B13.size))) (fun _ _ _ => trivial)
  have VB : RowKit.Hid (∀ W', Below W.heap.size W W' → VerR (fun _ => True) W' [.int .i64 2, .int .i64 1, .int .i64 1, .int .u8 0, .int .u8 0, .slice fb 4 fd] verB) := Lib.hid fun W' h => HB.out.keep (Stay.of_below (B23.trans (h.mono B23.size))) (fun _ _ _ => trivial)
  have VC : RowKit.Hid (∀ W', Below W.heap.size W W' → VerR (fun _ => True) W' [.int .i64 1, .int .i64 5, .int .i64 3, .int .u8 0, .int .u8 0, .slice fe 1 ff] verC) := Lib.hid fun W' h => HC.out.keep (Stay.of_below (BW3.out.trans (h.mono BW3.out.size))) (fun _ _ _ => trivial)
  rw [← hW, ← hga, ← hgb, ← hgc]
  clear hW hga hgb hgc B13 B23 HA HB HC KA2 KA3 KB3 HB1 HB2 HB3 BW3
  go_wp2_with (first
    | refine wpList_load_row 43 (.tmp 1) rfl rfl rfl KA.out Tryz.underlying43 rfl (by kernel_rfl) ?_
    | refine wpList_load_row 43 (.tmp 2) rfl rfl rfl KB.out Tryz.underlying43 rfl (by kernel_rfl) ?_)
  refine (merge_any (S0 := fun _ => True) (L := [verB, verA]) (vers_lit (n := 2) rfl (by omega) (css := [[.int .i64 2, .int .i64 1, .int .i64 1, .int .u8 0, .int .u8 0, .slice fb 4 fd], [.int .i64 1, .int .i64 5, .int .i64 2, .int .u8 0, .int .u8 0, .slice fa 3 fc]]) (All2.cons (VB.out _ ((Below.refl _ _).alloc (Nat.le_refl _) _)) (All2.cons (VA.out _ ((Below.refl _ _).alloc (Nat.le_refl _) _)) .nil)) (Blk.new _ _ _) trivial) lok1 lok1.latest).mono ?_
  rintro e w5 ⟨cs1, rfl, hM, hb⟩
  have HM5 := Lib.hid hM
  have B5 : RowKit.Hid (Below W.heap.size W w5) := Lib.hid (((Below.refl _ _).alloc (Nat.le_refl _) _).trans (hb.mono (by simp)))
  clear hM hb
  go_wp2_with fail
  refine (is_any (ps := ps1) (MrgR.keep HM5.out (S' := fun _ => True) (Stay.of_below (((Below.refl _ _).alloc (Nat.le_refl _) _).alloc (by simp) _)) (fun _ _ _ => trivial)) (by rw [mrg_out]; exact out1) (by decide) rfl rfl (row_int ((Blk.new _ _ _).alloc _)) (row_str (Blk.at_new (by simp) _ _))).mono ?_
  rintro e w6 ⟨rfl, hb⟩
  have B6 : RowKit.Hid (Below W.heap.size W w6) := Lib.hid (B5.out.trans ((((Below.refl _ _).alloc (Nat.le_refl _) _).alloc (by simp) _).trans (hb.mono (by simp; omega)) |>.mono B5.out.size))
  have KA6 := Lib.hid (KA.out.below B6.out KA.out.lt)
  have KB6 := Lib.hid (KB.out.below B6.out KB.out.lt)
  clear hb HM5
  have a0 : w6.cell? ⟨ga, 0, none⟩ = some (.int .i64 1) := KA6.out.cell 0
  have a1 : w6.cell? ⟨ga, 1, none⟩ = some (.int .i64 5) := KA6.out.cell 1
  have a2 : w6.cell? ⟨ga, 2, none⟩ = some (.int .i64 2) := KA6.out.cell 2
  have a3 : w6.cell? ⟨ga, 3, none⟩ = some (.int .u8 0) := KA6.out.cell 3
  have a4 : w6.cell? ⟨ga, 4, none⟩ = some (.int .u8 0) := KA6.out.cell 4
  have a5 : w6.cell? ⟨ga, 5, none⟩ = some (.slice fa 3 fc) := KA6.out.cell 5
  have b0 : w6.cell? ⟨gb, 0, none⟩ = some (.int .i64 2) := KB6.out.cell 0
  have b1 : w6.cell? ⟨gb, 1, none⟩ = some (.int .i64 1) := KB6.out.cell 1
  have b2 : w6.cell? ⟨gb, 2, none⟩ = some (.int .i64 1) := KB6.out.cell 2
  have b3 : w6.cell? ⟨gb, 3, none⟩ = some (.int .u8 0) := KB6.out.cell 3
  have b4 : w6.cell? ⟨gb, 4, none⟩ = some (.int .u8 0) := KB6.out.cell 4
  have b5 : w6.cell? ⟨gb, 5, none⟩ = some (.slice fb 4 fd) := KB6.out.cell 5
  go_wp2_with fail
  clear a0 b0 a1 b1 a2 b2 a3 b3 a4 b4 a5 b5
  refine (without_any (fun _ => True) 1 (L := [verA, verB]) (vers_lit (n := 2) rfl (by omega) (css := [[.int .i64 1, .int .i64 5, .int .i64 2, .int .u8 0, .int .u8 0, .slice fa 3 fc], [.int .i64 2, .int .i64 1, .int .i64 1, .int .u8 0, .int .u8 0, .slice fb 4 fd]]) (All2.cons (VA.out _ (B6.out.trans (((Below.refl _ _).alloc (Nat.le_refl _) _).mono B6.out.size))) (All2.cons (VB.out _ (B6.out.trans (((Below.refl _ _).alloc (Nat.le_refl _) _).mono B6.out.size))) .nil)) (Blk.new _ _ _) trivial) lokAB.vs).mono ?_
  rintro e w7 ⟨v7, rfl, hO, hb⟩
  have HO7 := Lib.hid hO
  obtain ⟨oa, oc, rfl⟩ := hO.expl
  have B7 : RowKit.Hid (Below W.heap.size W w7) := Lib.hid (B6.out.trans ((((Below.refl _ _).alloc (Nat.le_refl _) _).trans (hb.mono (by simp))).mono B6.out.size))
  clear hO hb
  go_wp2_with fail
  refine (merge_any (L := without 1 [verA, verB]) (HO7.out.slB (by omega)) lok2 lok2.latest).mono ?_
  rintro e w8 ⟨cs2, rfl, hM, hb⟩
  have HM8 := Lib.hid hM
  have B8 : RowKit.Hid (Below W.heap.size W w8) := Lib.hid (B7.out.trans (hb.mono B7.out.size))
  clear hM hb HO7
  go_wp2_with fail
  refine (is_any (ps := ps2) (MrgR.keep HM8.out (S' := fun _ => True) (Stay.of_below (((Below.refl _ _).alloc (Nat.le_refl _) _).alloc (by simp) _)) (fun _ _ _ => trivial)) (by rw [mrg_out]; exact out2) (by decide) rfl rfl (row_int ((Blk.new _ _ _).alloc _)) (row_str (Blk.at_new (by simp) _ _))).mono ?_
  rintro e w9 ⟨rfl, hb⟩
  have B9 : RowKit.Hid (Below W.heap.size W w9) := Lib.hid (B8.out.trans ((((Below.refl _ _).alloc (Nat.le_refl _) _).alloc (by simp) _).trans (hb.mono (by simp; omega)) |>.mono B8.out.size))
  have KA9 := Lib.hid (KA.out.below B9.out KA.out.lt)
  have KB9 := Lib.hid (KB.out.below B9.out KB.out.lt)
  have KC9 := Lib.hid (KC.out.below B9.out KC.out.lt)
  clear hb HM8
  have a0 : w9.cell? ⟨ga, 0, none⟩ = some (.int .i64 1) := KA9.out.cell 0
  have a1 : w9.cell? ⟨ga, 1, none⟩ = some (.int .i64 5) := KA9.out.cell 1
  have a2 : w9.cell? ⟨ga, 2, none⟩ = some (.int .i64 2) := KA9.out.cell 2
  have a3 : w9.cell? ⟨ga, 3, none⟩ = some (.int .u8 0) := KA9.out.cell 3
  have a4 : w9.cell? ⟨ga, 4, none⟩ = some (.int .u8 0) := KA9.out.cell 4
  have a5 : w9.cell? ⟨ga, 5, none⟩ = some (.slice fa 3 fc) := KA9.out.cell 5
  have b0 : w9.cell? ⟨gb, 0, none⟩ = some (.int .i64 2) := KB9.out.cell 0
  have b1 : w9.cell? ⟨gb, 1, none⟩ = some (.int .i64 1) := KB9.out.cell 1
  have b2 : w9.cell? ⟨gb, 2, none⟩ = some (.int .i64 1) := KB9.out.cell 2
  have b3 : w9.cell? ⟨gb, 3, none⟩ = some (.int .u8 0) := KB9.out.cell 3
  have b4 : w9.cell? ⟨gb, 4, none⟩ = some (.int .u8 0) := KB9.out.cell 4
  have b5 : w9.cell? ⟨gb, 5, none⟩ = some (.slice fb 4 fd) := KB9.out.cell 5
  have c0 : w9.cell? ⟨gc, 0, none⟩ = some (.int .i64 1) := KC9.out.cell 0
  have c1 : w9.cell? ⟨gc, 1, none⟩ = some (.int .i64 5) := KC9.out.cell 1
  have c2 : w9.cell? ⟨gc, 2, none⟩ = some (.int .i64 3) := KC9.out.cell 2
  have c3 : w9.cell? ⟨gc, 3, none⟩ = some (.int .u8 0) := KC9.out.cell 3
  have c4 : w9.cell? ⟨gc, 4, none⟩ = some (.int .u8 0) := KC9.out.cell 4
  have c5 : w9.cell? ⟨gc, 5, none⟩ = some (.slice fe 1 ff) := KC9.out.cell 5
  go_wp2_with fail
  clear a0 b0 c0 a1 b1 c1 a2 b2 c2 a3 b3 c3 a4 b4 c4 a5 b5 c5
  have BN : ∀ o, Below W.heap.size W (w9.alloc o) := fun o => B9.out.trans (((Below.refl _ _).alloc (Nat.le_refl _) _).mono B9.out.size)
  refine (merge_any (S0 := fun _ => True) (L := [verC, verB, verA]) (vers_lit (n := 3) rfl (by omega) (css := [[.int .i64 1, .int .i64 5, .int .i64 3, .int .u8 0, .int .u8 0, .slice fe 1 ff], [.int .i64 2, .int .i64 1, .int .i64 1, .int .u8 0, .int .u8 0, .slice fb 4 fd], [.int .i64 1, .int .i64 5, .int .i64 2, .int .u8 0, .int .u8 0, .slice fa 3 fc]]) (All2.cons (VC.out _ (BN _)) (All2.cons (VB.out _ (BN _)) (All2.cons (VA.out _ (BN _)) .nil))) (Blk.new _ _ _) trivial) lokBA lokBA.latest).mono ?_
  rintro e wa ⟨cs3, rfl, hM, hb⟩
  have HMa := Lib.hid hM
  have Ba : RowKit.Hid (Below W.heap.size W wa) := Lib.hid (B9.out.trans ((((Below.refl _ _).alloc (Nat.le_refl _) _).trans (hb.mono (by simp))).mono B9.out.size))
  clear hM hb BN
  go_wp2_with fail
  refine (is_any (ps := ps3) (MrgR.keep HMa.out (S' := fun _ => True) (Stay.of_below (((Below.refl _ _).alloc (Nat.le_refl _) _).alloc (by simp) _)) (fun _ _ _ => trivial)) (by rw [mrg_out]; exact out3) (by decide) rfl rfl (row_int ((Blk.new _ _ _).alloc _)) (row_str (Blk.at_new (by simp) _ _))).mono ?_
  rintro e wb ⟨rfl, hb⟩
  have Bb : RowKit.Hid (Below w.heap.size w wb) := Lib.hid (BW.out.trans ((Ba.out.trans ((((Below.refl _ _).alloc (Nat.le_refl _) _).alloc (by simp) _).trans (hb.mono (by simp; omega)) |>.mono Ba.out.size)).mono BW.out.size))
  clear hb HMa
  go_wp2_with fail
  go_ret
  exact ⟨rfl, Bb.out⟩
end Go.Proofs.YtpdldbapagchfaaGreatDoor

/- The reference's tags. -/
namespace Go.Proofs.YtpdldbapagchfaaGreatDoor
open Go.RowKit Go.Shelf Go.Maps
attribute [local go_sem] over_cell over_frozen

theorem insT_eq {t : ByteArray} : ∀ (l : List ByteArray) (k : Nat) (hk : k < l.length), (∀ j (h : j < l.length), j < k → ltT l[j] t = true) → l[k] = t → insT ltT t l = l
  | y :: l, 0, _, _, h => by
    have e : y = t := h
    subst e
    unfold insT; rw [if_neg (by rw [ltT_ord.irr]; simp), if_pos rfl]
  | y :: l, k + 1, hk, h1, h2 => by
    have e := h1 0 (by simp) (by omega)
    unfold insT
    rw [if_pos (by simpa using e), insT_eq l k (by simpa using hk) (fun j h hj => h1 (j + 1) (by simpa using h) (by omega)) (by simpa using h2)]
theorem insT_at {t : ByteArray} : ∀ (l : List ByteArray) (k : Nat), k ≤ l.length → (∀ j (h : j < l.length), j < k → ltT l[j] t = true) → (∀ h : k < l.length, ltT l[k] t = false ∧ l[k] ≠ t) → insT ltT t l = l.take k ++ t :: l.drop k
  | [], k, hk, _, _ => by
    obtain rfl : k = 0 := by simpa using hk
    rfl
  | y :: l, 0, _, _, h => by
    have h' := h (by simp)
    unfold insT
    have a1 : ltT y t = false := h'.1
    have a2 : y ≠ t := h'.2
    rw [if_neg (by rw [a1]; simp), if_neg a2]; rfl
  | y :: l, k + 1, hk, h1, h2 => by
    have e := h1 0 (by simp) (by omega)
    unfold insT
    rw [if_pos (by simpa using e), insT_at l k (by simpa using hk) (fun j h hj => h1 (j + 1) (by simpa using h) (by omega)) (fun h => h2 (by simpa using h))]
    simp
theorem insT_len (t : ByteArray) : ∀ l : List ByteArray, (insT ltT t l).length ≤ l.length + 1
  | [] => by simp [insT]
  | y :: l => by
    have := insT_len t l
    unfold insT
    split
    · simp; omega
    · split <;> simp
theorem tagsP_len : ∀ l : List Said, (tagsP ltT l).length ≤ l.length := by
  refine snoc_cases (by simp [tagsP]) fun l x ih => ?_
  rw [tagsP_snoc, List.length_append]
  have := insT_len x.1.tag (tagsP ltT l)
  simp; omega
theorem bl_ne' {a b : ByteArray} (h : a ≠ b) : ¬ a.toList = b.toList := fun e => h (bytes_eq e)
theorem bless (a b : ByteArray) : Op.bytesLess a.toList b.toList = ltT a b := by
  unfold ltT
  rw [bytesLess_eq, toList_data, toList_data]
set_option maxRecDepth 100000 in
set_option maxHeartbeats 4000000 in
theorem tagsR_any {S : Nat → Prop} {w : World} {v : Value} {L : List Ver} (h : VersAt S w v L) (hl : LOk L) :
    Calls Tryz.prog 36 #[v] w fun e w' => ∃ v', e = .returned v' ∧ w'.ownsRow w.heap.size 9 1 v' (tagsP ltT (saidOf L)).length ((tagsP ltT (saidOf L)).map Value.string) ∧ Below w.heap.size w w' := by
  obtain ⟨it, hit, hy1, hy2, hy3⟩ := info_Tag
  have HV := Lib.hid h
  obtain ⟨a, cap, rfl, -⟩ := h
  obtain ⟨n, hn⟩ : ∃ n, n = L.length := ⟨_, rfl⟩
  rw [← hn] at HV ⊢
  have HN := Lib.hid hn
  have hn1 : n ≤ 100 := by rw [hn]; exact hl.few
  have HL := Lib.hid hl
  clear hn hl
  go_enter Tryz.func36, Tryz.ntmps36
  go_wp2_with fail
  go_loopw [3, 4] (fun ov i wr => ∃ k : Nat, k ≤ n ∧ i = .int .i64 k ∧ Below w.heap.size w wr ∧ wr.ownsRow w.heap.size 9 1 ov (tagsP ltT (saidOf (L.take k))).length ((tagsP ltT (saidOf (L.take k))).map Value.string)) (fun _ i _ => n - (intOf i).toNat)
  case atStart => exact ⟨0, by omega, rfl, Below.refl _ _, World.ownsRow_nil _ _ _ _⟩
  case round =>
    obtain ⟨k, hk, rfl, hb, hr⟩ := hrel
    have HB := Lib.hid hb
    have HR := Lib.hid hr
    clear hb hr
    by_cases hlt : k < n
    · have hlx : k < L.length := by rw [← HN.out]; exact hlt
      have HVS : RowKit.Hid (∀ W, Below w.heap.size w W → ∃ b o fa fc, a = some ⟨b, o, none⟩ ∧ W.cell? ⟨b, o + k * 6 + 5, none⟩ = some (.slice fa L[k].fs.length fc) ∧ FldsAt S W (.slice fa L[k].fs.length fc) L[k].fs) := Lib.hid fun W hW => by
        obtain ⟨b, o, cap2, cs, e1, _, _, hR, _, hrg, _⟩ := SlOf.range (by omega) (VersAt.keep HV.out (Stay.of_below hW) (fun _ h _ => h)) hlx
        obtain ⟨fa, fc, rfl, hf⟩ := hR.expl'
        exact ⟨b, o, fa, fc, by injection e1, (range6 hrg).2.2.2.2.2, hf⟩
      obtain ⟨b, o, fa, fc, e1, c5, hf⟩ := HVS.out wr HB.out
      subst e1
      obtain ⟨x, hx⟩ : ∃ x, x = L[k] := ⟨_, rfl⟩
      rw [← hx] at c5 hf
      have HXS : RowKit.Hid (saidOf (L.take (k + 1)) = saidOf (L.take k) ++ x.fs.map (fun f => (f, x.r))) := Lib.hid (by rw [saidOf_take hlx, ← hx])
      have hfl : x.fs.length ≤ 1000 := by rw [hx]; exact (HL.out.vs.2 _ (List.getElem_mem _)).1
      obtain ⟨fn, hfn⟩ : ∃ fn, fn = x.fs.length := ⟨_, rfl⟩
      rw [← hfn] at c5 hf hfl
      have HFN := Lib.hid hfn
      have HF := Lib.hid hf
      have C5 : RowKit.Hid (∀ W, Below w.heap.size w W → Below wr.heap.size wr W → W.cell? ⟨b, o + k * 6 + 5, none⟩ = some (.slice fa fn fc)) := Lib.hid fun W _ hW => Below.cellE hW c5
      have HPRE : RowKit.Hid (∀ q, q ≤ fn → (saidOf (L.take k) ++ (x.fs.take q).map (fun f => (f, x.r))).length ≤ 100000) := Lib.hid fun q hq => by
        have h1 := said_len_le HL.out
        have h2 : saidOf L = saidOf (L.take (k + 1)) ++ saidOf (L.drop (k + 1)) := by
          unfold saidOf; rw [← List.flatMap_append, List.take_append_drop]
        rw [h2, List.length_append, HXS.out, List.length_append] at h1
        rw [List.length_append]
        have h3 : ((x.fs.take q).map fun f => (f, x.r)).length ≤ (x.fs.map fun f => (f, x.r)).length := by rw [List.length_map, List.length_map, List.length_take]; omega
        omega
      clear c5 hf hfn HVS
      go_wp2_with fail
      obtain ⟨wo, rfl⟩ : ∃ wo, wo = wr := ⟨_, rfl⟩
      go_loopw [3, 5] (fun ov i wr => ∃ q : Nat, q ≤ fn ∧ i = .int .i64 q ∧ Below wo.heap.size wo wr ∧ wr.ownsRow w.heap.size 9 1 ov (tagsP ltT (saidOf (L.take k) ++ (x.fs.take q).map (fun f => (f, x.r)))).length ((tagsP ltT (saidOf (L.take k) ++ (x.fs.take q).map (fun f => (f, x.r)))).map Value.string)) (fun _ i _ => fn - (intOf i).toNat)
      case atStart => exact ⟨0, by omega, rfl, Below.refl _ _, by simpa using HR.out⟩
      case round =>
        obtain ⟨q, hq, rfl, hbk, hr⟩ := hrel
        have hbw : Below w.heap.size w wr := HB.out.trans (hbk.mono HB.out.size)
        obtain ⟨pre, hpre⟩ : ∃ pre, pre = saidOf (L.take k) ++ (x.fs.take q).map (fun f => (f, x.r)) := ⟨_, rfl⟩
        have HPL : RowKit.Hid (pre.length ≤ 100000) := Lib.hid (by rw [hpre]; exact HPRE.out q hq)
        rw [← hpre] at hr
        have HPE := Lib.hid hpre
        have HBK := Lib.hid hbw
        have HBO := Lib.hid hbk
        have HRR := Lib.hid hr
        have c5 := C5.out wr hbw hbk
        clear hbw hbk hr hpre
        by_cases hqt : q < fn
        · have hqx : q < x.fs.length := by rw [← HFN.out]; exact hqt
          obtain ⟨fb, fo, fcap, fcs, e1, -, -, hRf, -, hrgf, -⟩ := SlOf.range (by omega) (FldsAt.keep HF.out (Stay.of_below HBO.out) (fun _ h _ => h)) hqx
          have e2 : fa = some ⟨fb, fo, none⟩ := by injection e1
          clear e1
          subst e2
          obtain ⟨f, hf⟩ : ∃ f, f = x.fs[q] := ⟨_, rfl⟩
          rw [← hf] at hRf
          obtain ⟨sv, rfl, -⟩ := hRf
          obtain ⟨t, ht⟩ : ∃ t, t = f.tag := ⟨_, rfl⟩
          have HTG := Lib.hid ht
          have p0 : wr.cell? ⟨fb, fo + q * 4, none⟩ = some (.string t) := by rw [ht]; exact (range4 hrgf).1
          have HST : RowKit.Hid (saidOf (L.take k) ++ (x.fs.take (q + 1)).map (fun f => (f, x.r)) = pre ++ [(f, x.r)]) := Lib.hid (by
            rw [said_step hqx, ← HPE.out, ← hf])
          obtain ⟨M, hM⟩ : ∃ M, M = tagsP ltT pre := ⟨_, rfl⟩
          have HM := Lib.hid hM
          rw [← hM] at HRR
          obtain ⟨m, hm⟩ : ∃ m, m = M.length := ⟨_, rfl⟩
          have hm1 : m ≤ 100000 := by
            have h1 := tagsP_len pre
            have h2 := HPL.out
            rw [hm, hM]; omega
          rw [← hm] at HRR
          have HMN := Lib.hid hm
          have HON : RowKit.Hid (∀ u ∈ M.map Value.string, u.oneCell' = true) := Lib.hid fun u hu => by
            obtain ⟨y, _, rfl⟩ := List.mem_map.1 hu; rfl
          have HOW := Lib.hid HRR.out
          obtain ⟨oa, oc, rfl, hoc, -, -, hoc2⟩ := row_cellz HRR.out
          have HCL := Lib.hid hoc2
          have HSP : RowKit.Hid (∀ ad, oa = some ad → ad.spot = none) := Lib.hid fun ad e => by
            rcases hoc2 with ⟨_, _, h⟩ | ⟨g, h, _⟩
            · rw [h] at e; cases e
            · rw [h] at e; injection e with e; rw [← e]
          clear hrgf ht hf hM hm hoc2 HRR
          go_wp2_with fail
          go_loop [7] (fun i => ∃ at_ : Nat, at_ ≤ m ∧ i = .int .i64 at_ ∧ (∀ j (h : j < M.length), j < at_ → ltT M[j] t = true)) (fun i => m - (intOf i).toNat)
          case atStart => exact ⟨0, by omega, rfl, fun j _ h => by omega⟩
          case round =>
            obtain ⟨at_, hat, rfl, hlts⟩ := hrel
            have HLT := Lib.hid hlts
            clear hlts
            by_cases hal : at_ < m
            · have halx : at_ < M.length := by rw [← HMN.out]; exact hal
              obtain ⟨y, hy⟩ : ∃ y, y = M[at_] := ⟨_, rfl⟩
              obtain ⟨g, e1, hcl⟩ : ∃ g, oa = some ⟨g, 0, none⟩ ∧ wr.cell? ⟨g, at_, none⟩ = some (.string y) := by
                rcases HCL.out with ⟨h0, _⟩ | ⟨g, e, _, _, _, hc⟩
                · omega
                · exact ⟨g, e, hc at_ _ (by rw [hy, List.getElem?_map, List.getElem?_eq_getElem halx]; rfl)⟩
              subst e1
              have HY := Lib.hid hy
              obtain ⟨bb, hbb⟩ : ∃ bb, bb = ltT y t := ⟨_, rfl⟩
              have hless : Op.bytesLess y.toList t.toList = bb := by rw [bless, hbb]
              have HBB := Lib.hid hbb
              clear hy hbb
              cases bb with
              | true =>
                go_wp2_with fail
                go_round
                case rel =>
                  refine ⟨at_ + 1, hal, by go_num, fun j h hj => ?_⟩
                  by_cases e : j = at_
                  · subst e; rw [← HY.out]; exact HBB.out.symm
                  · exact HLT.out j h (by omega)
                case measure => simp [intOf]; omega
              | false =>
                by_cases hyt : y = t
                · have a1 : (y.toList == t.toList) = true := by rw [hyt]; simp
                  have a2 : decide (y.toList = t.toList) = true := by rw [hyt]; simp
                  have HYT := Lib.hid hyt
                  clear hyt
                  have HIN : RowKit.Hid (insT ltT t M = M) := Lib.hid (insT_eq M at_ halx HLT.out (by rw [← HY.out]; exact HYT.out))
                  go_wp2_with fail
                  refine ⟨⟨q + 1, hqt, by go_num, HBO.out, ?_⟩, by simp [intOf]; omega⟩
                  rw [HST.out, tagsP_snoc]
                  show wr.ownsRow w.heap.size 9 1 _ (insT ltT f.tag (tagsP ltT pre)).length ((insT ltT f.tag (tagsP ltT pre)).map Value.string)
                  rw [← HM.out, ← HTG.out, HIN.out, ← HMN.out]
                  exact HOW.out
                · have hn := bl_ne' hyt
                  have a1 : (y.toList == t.toList) = false := by simpa using hn
                  have a2 : decide (y.toList = t.toList) = false := by simpa using hn
                  have HYT := Lib.hid hyt
                  clear hyt hn
                  have HGE : RowKit.Hid (∀ h : at_ < M.length, ltT M[at_] t = false ∧ M[at_] ≠ t) := Lib.hid fun h => by rw [← HY.out]; exact ⟨HBB.out.symm, HYT.out⟩
                  have HIN : RowKit.Hid (insT ltT t M = M.take at_ ++ t :: M.drop at_) := Lib.hid (insT_at M at_ (by rw [← HMN.out]; omega) HLT.out HGE.out)
                  have S0 : RowKit.Hid (Src wr 1 m (M.map Value.string) (.slice (some ⟨g, 0, none⟩) m oc)) := Lib.hid (src_row HOW.out)
                  have Z1 := HBK.out.size
                  go_wp2_with (first
                    | (refine wpList_cut_to rfl (.tmp 63) (.tmp 64) 65 rfl Tryz.underlying65 (z := 1) (by kernel_rfl) (some ⟨g, 0, none⟩) m oc rfl at_ rfl (by omega) (by omega) ?_; intro y5 hy5; have HY5 := Lib.hid hy5; clear hy5)
                    | (refine wpList_cut_from rfl (.tmp 72) (.tmp 73) 65 rfl Tryz.underlying65 (z := 1) (by kernel_rfl) (some ⟨g, 0, none⟩) m oc rfl at_ rfl (by omega) hoc HSP.out ?_; intro y7 hy7; have HY7 := Lib.hid hy7; clear hy7)
                    | (refine wpList_append_all rfl (.tmp 62) (.tmp 65) 65 rfl w.heap.size 9 it _ 1 16 Tryz.underlying65 hit hy1 hy2 hy3 rfl (by omega) _ 0 [] rfl (World.ownsRow_nil _ _ _ _) at_ ((M.map Value.string).take (at_ * 1)) _ rfl (HY5.out _ _ S0.out) (fun u hu => HON.out u (List.mem_of_mem_take hu)) (by unfold maxLen; omega) (by omega) (by omega) ?_
                       intro v5 w5 hr5 hg5 ho5
                       have T5 : RowKit.Hid (Below wr.heap.size wr w5) := Lib.hid (below_grown (Below.refl _ _) (by omega) hg5 (fun r e => by cases e))
                       have R5 := Lib.hid hr5
                       have O5 : RowKit.Hid (∀ r, v5.ownBlock = some r → wr.heap.size ≤ r) := Lib.hid fun r e => by
                         rcases ho5 with h | h
                         · rw [h] at e; cases e
                         · rw [h] at e; injection e with e; omega
                       have Z5 := T5.out.size
                       clear hr5 hg5 ho5)
                    | (refine wpList_append_all rfl (.tmp 67) (.tmp 69) 65 rfl w.heap.size 9 it _ 1 16 Tryz.underlying65 hit hy1 hy2 hy3 rfl (by omega) _ (0 + at_) _ rfl (R5.out.alloc _) 1 [.string t] _ rfl (src_row (row_fresh' w5 (by simp) 0 _ 9 1 1 rfl (by unfold maxLen; omega) (Nat.zero_le _))) (by simp [Value.oneCell']) (by unfold maxLen; omega) (by omega) (by simp; omega) ?_
                       intro v6 w6 hr6 hg6 ho6
                       have T6 : RowKit.Hid (Below wr.heap.size wr w6) := Lib.hid (below_grown (T5.out.alloc Z5 _) (by simp; omega) hg6 (fun r e => O5.out r e))
                       have R6 := Lib.hid hr6
                       have O6 : RowKit.Hid (∀ r, v6.ownBlock = some r → wr.heap.size ≤ r) := Lib.hid fun r e => by
                         rcases ho6 with h | h
                         · rw [h] at e; exact O5.out r e
                         · rw [h] at e; injection e with e; simp at e; omega
                       have S6 := Lib.hid (S0.out.below T6.out)
                       have Z6 := T6.out.size
                       clear hr6 hg6 ho6)
                    | (refine wpList_append_all rfl (.tmp 71) (.tmp 74) 65 rfl w.heap.size 9 it _ 1 16 Tryz.underlying65 hit hy1 hy2 hy3 rfl (by omega) _ (0 + at_ + 1) _ rfl R6.out (m - at_) ((M.map Value.string).drop (at_ * 1)) _ rfl (HY7.out _ _ S6.out) (fun u hu => HON.out u (List.mem_of_mem_drop hu)) (by unfold maxLen; omega) (by omega) (by omega) ?_
                       intro v7 w7 hr7 hg7 ho7
                       have T7 : RowKit.Hid (Below wr.heap.size wr w7) := Lib.hid (below_grown T6.out (by omega) hg7 (fun r e => O6.out r e))
                       have R7 := Lib.hid hr7
                       clear hr7 hg7 ho7))
                  refine ⟨⟨q + 1, hqt, by go_num, HBO.out.trans (T7.out.mono HBO.out.size), ?_⟩, by simp [intOf]; omega⟩
                  rw [HST.out, tagsP_snoc]
                  show w7.ownsRow w.heap.size 9 1 v7 (insT ltT f.tag (tagsP ltT pre)).length ((insT ltT f.tag (tagsP ltT pre)).map Value.string)
                  rw [← HM.out, ← HTG.out, HIN.out]
                  have e1 : (M.take at_ ++ t :: M.drop at_).length = 0 + at_ + 1 + (m - at_) := by have := HMN.out; simp; omega
                  have e2 := R7.out
                  rw [e1, List.map_append, List.map_cons, List.map_take, List.map_drop]
                  simpa using e2
            · have HGE : RowKit.Hid (∀ h : at_ < M.length, ltT M[at_] t = false ∧ M[at_] ≠ t) := Lib.hid fun h => by have := HMN.out; omega
              have HIN : RowKit.Hid (insT ltT t M = M.take at_ ++ t :: M.drop at_) := Lib.hid (insT_at M at_ (by rw [← HMN.out]; omega) HLT.out HGE.out)
              have S0 : RowKit.Hid (Src wr 1 m (M.map Value.string) (.slice oa m oc)) := Lib.hid (src_row HOW.out)
              have Z1 := HBK.out.size
              go_wp2_with (first
                | (refine wpList_cut_to rfl (.tmp 63) (.tmp 64) 65 rfl Tryz.underlying65 (z := 1) (by kernel_rfl) oa m oc rfl at_ rfl (by omega) (by omega) ?_; intro y5 hy5; have HY5 := Lib.hid hy5; clear hy5)
                | (refine wpList_cut_from rfl (.tmp 72) (.tmp 73) 65 rfl Tryz.underlying65 (z := 1) (by kernel_rfl) oa m oc rfl at_ rfl (by omega) hoc HSP.out ?_; intro y7 hy7; have HY7 := Lib.hid hy7; clear hy7)
                | (refine wpList_append_all rfl (.tmp 62) (.tmp 65) 65 rfl w.heap.size 9 it _ 1 16 Tryz.underlying65 hit hy1 hy2 hy3 rfl (by omega) _ 0 [] rfl (World.ownsRow_nil _ _ _ _) at_ ((M.map Value.string).take (at_ * 1)) _ rfl (HY5.out _ _ S0.out) (fun u hu => HON.out u (List.mem_of_mem_take hu)) (by unfold maxLen; omega) (by omega) (by omega) ?_
                   intro v5 w5 hr5 hg5 ho5
                   have T5 : RowKit.Hid (Below wr.heap.size wr w5) := Lib.hid (below_grown (Below.refl _ _) (by omega) hg5 (fun r e => by cases e))
                   have R5 := Lib.hid hr5
                   have O5 : RowKit.Hid (∀ r, v5.ownBlock = some r → wr.heap.size ≤ r) := Lib.hid fun r e => by
                     rcases ho5 with h | h
                     · rw [h] at e; cases e
                     · rw [h] at e; injection e with e; omega
                   have Z5 := T5.out.size
                   clear hr5 hg5 ho5)
                | (refine wpList_append_all rfl (.tmp 67) (.tmp 69) 65 rfl w.heap.size 9 it _ 1 16 Tryz.underlying65 hit hy1 hy2 hy3 rfl (by omega) _ (0 + at_) _ rfl (R5.out.alloc _) 1 [.string t] _ rfl (src_row (row_fresh' w5 (by simp) 0 _ 9 1 1 rfl (by unfold maxLen; omega) (Nat.zero_le _))) (by simp [Value.oneCell']) (by unfold maxLen; omega) (by omega) (by simp; omega) ?_
                   intro v6 w6 hr6 hg6 ho6
                   have T6 : RowKit.Hid (Below wr.heap.size wr w6) := Lib.hid (below_grown (T5.out.alloc Z5 _) (by simp; omega) hg6 (fun r e => O5.out r e))
                   have R6 := Lib.hid hr6
                   have O6 : RowKit.Hid (∀ r, v6.ownBlock = some r → wr.heap.size ≤ r) := Lib.hid fun r e => by
                     rcases ho6 with h | h
                     · rw [h] at e; exact O5.out r e
                     · rw [h] at e; injection e with e; simp at e; omega
                   have S6 := Lib.hid (S0.out.below T6.out)
                   have Z6 := T6.out.size
                   clear hr6 hg6 ho6)
                | (refine wpList_append_all rfl (.tmp 71) (.tmp 74) 65 rfl w.heap.size 9 it _ 1 16 Tryz.underlying65 hit hy1 hy2 hy3 rfl (by omega) _ (0 + at_ + 1) _ rfl R6.out (m - at_) ((M.map Value.string).drop (at_ * 1)) _ rfl (HY7.out _ _ S6.out) (fun u hu => HON.out u (List.mem_of_mem_drop hu)) (by unfold maxLen; omega) (by omega) (by omega) ?_
                   intro v7 w7 hr7 hg7 ho7
                   have T7 : RowKit.Hid (Below wr.heap.size wr w7) := Lib.hid (below_grown T6.out (by omega) hg7 (fun r e => O6.out r e))
                   have R7 := Lib.hid hr7
                   clear hr7 hg7 ho7))
              refine ⟨⟨q + 1, hqt, by go_num, HBO.out.trans (T7.out.mono HBO.out.size), ?_⟩, by simp [intOf]; omega⟩
              rw [HST.out, tagsP_snoc]
              show w7.ownsRow w.heap.size 9 1 v7 (insT ltT f.tag (tagsP ltT pre)).length ((insT ltT f.tag (tagsP ltT pre)).map Value.string)
              rw [← HM.out, ← HTG.out, HIN.out]
              have e1 : (M.take at_ ++ t :: M.drop at_).length = 0 + at_ + 1 + (m - at_) := by have := HMN.out; simp; omega
              have e2 := R7.out
              rw [e1, List.map_append, List.map_cons, List.map_take, List.map_drop]
              simpa using e2
        · obtain rfl : q = fn := by omega
          have HSE : RowKit.Hid (saidOf (L.take (k + 1)) = pre) := Lib.hid (by rw [HXS.out, HPE.out, HFN.out, List.take_length])
          go_wp2_with fail
          refine ⟨⟨k + 1, hlt, by go_num, HBK.out, ?_⟩, by simp [intOf]; omega⟩
          rw [HSE.out]; exact HRR.out
    · obtain rfl : k = n := by omega
      go_wp2_with fail
      go_ret
      refine ⟨_, rfl, ?_, HB.out⟩
      have h1 := HR.out
      rw [HN.out, List.take_length] at h1
      exact h1
end Go.Proofs.YtpdldbapagchfaaGreatDoor

/- The reference's table of letters. -/
namespace Go.Proofs.YtpdldbapagchfaaGreatDoor
open Go.RowKit Go.Shelf Go.Maps

def rowsR : List (List UInt8 × List UInt8) := [([97], [195, 160, 195, 161, 195, 162, 195, 163, 195, 164, 195, 165, 196, 129, 196, 131, 196, 133, 195, 128, 195, 129, 195, 130, 195, 131, 195, 132, 195, 133, 196, 128, 196, 130, 196, 132]),
  ([99], [195, 167, 196, 135, 196, 137, 196, 139, 196, 141, 195, 135, 196, 134, 196, 136, 196, 138, 196, 140]),
  ([100], [196, 143, 196, 145, 195, 176, 196, 142, 196, 144, 195, 144]),
  ([101], [195, 168, 195, 169, 195, 170, 195, 171, 196, 147, 196, 149, 196, 151, 196, 153, 196, 155, 195, 136, 195, 137, 195, 138, 195, 139, 196, 146, 196, 148, 196, 150, 196, 152, 196, 154]),
  ([103], [196, 157, 196, 159, 196, 161, 196, 163, 196, 156, 196, 158, 196, 160, 196, 162]),
  ([104], [196, 165, 196, 167, 196, 164, 196, 166]),
  ([105], [195, 172, 195, 173, 195, 174, 195, 175, 196, 169, 196, 171, 196, 173, 196, 175, 196, 177, 195, 140, 195, 141, 195, 142, 195, 143, 196, 168, 196, 170, 196, 172, 196, 174, 196, 176]),
  ([106], [196, 181, 196, 180]),
  ([107], [196, 183, 196, 182]),
  ([108], [196, 186, 196, 188, 196, 190, 197, 130, 196, 185, 196, 187, 196, 189, 197, 129]),
  ([110], [195, 177, 197, 132, 197, 134, 197, 136, 195, 145, 197, 131, 197, 133, 197, 135]),
  ([111], [195, 178, 195, 179, 195, 180, 195, 181, 195, 182, 195, 184, 197, 141, 197, 143, 197, 145, 198, 161, 195, 146, 195, 147, 195, 148, 195, 149, 195, 150, 195, 152, 197, 140, 197, 142, 197, 144, 198, 160]),
  ([114], [197, 149, 197, 151, 197, 153, 197, 148, 197, 150, 197, 152]),
  ([115], [197, 155, 197, 157, 197, 159, 197, 161, 197, 154, 197, 156, 197, 158, 197, 160]),
  ([116], [197, 163, 197, 165, 197, 167, 197, 162, 197, 164, 197, 166]),
  ([117], [195, 185, 195, 186, 195, 187, 195, 188, 197, 169, 197, 171, 197, 173, 197, 175, 197, 177, 197, 179, 198, 176, 195, 153, 195, 154, 195, 155, 195, 156, 197, 168, 197, 170, 197, 172, 197, 174, 197, 176, 197, 178, 198, 175]),
  ([119], [197, 181, 197, 180]),
  ([121], [195, 189, 195, 191, 197, 183, 195, 157, 197, 184, 197, 182]),
  ([122], [197, 186, 197, 188, 197, 190, 197, 185, 197, 187, 197, 189]),
  ([97, 101], [195, 166, 195, 134]),
  ([111, 101], [197, 147, 197, 146]),
  ([115, 115], [195, 159]),
  ([116, 104], [195, 190, 195, 158]),
  ([206, 177], [206, 172, 206, 134]),
  ([206, 181], [206, 173, 206, 136]),
  ([206, 183], [206, 174, 206, 137]),
  ([206, 185], [206, 175, 207, 138, 206, 144, 206, 138, 206, 170]),
  ([206, 191], [207, 140, 206, 140]),
  ([207, 133], [207, 141, 207, 139, 206, 176, 206, 142, 206, 171]),
  ([207, 137], [207, 142, 206, 143]),
  ([208, 181], [209, 145, 208, 129])]
def rowsRV : List Value := rowsR.flatMap fun r => [.string (ofL r.1), .string (ofL r.2)]
set_option maxRecDepth 100000 in
set_option maxHeartbeats 4000000 in
theorem tableR_any (w : World) : Calls Tryz.prog 110 #[] w fun e w' => e = .returned (.slice (some ⟨w.heap.size, 0, none⟩) 31 31) ∧ w' = w.alloc (.cells rowsRV.toArray 121) := by
  go_enter Tryz.func110, Tryz.ntmps110
  go_wp2_with fail
  go_ret
  exact ⟨rfl, rfl⟩
end Go.Proofs.YtpdldbapagchfaaGreatDoor

/- The reference's table says what the code's says. -/
namespace Go.Proofs.YtpdldbapagchfaaGreatDoor
open Go.RowKit Go.Shelf Go.Maps

def rowF (r : List UInt8 × List UInt8) : List UInt8 × List Nat := (r.1, runes (ofL r.2))
theorem rows_same : rowsL.map rowP = rowsR.map rowF := by decide +kernel
theorem rows_apart : Apart (rowsR.map rowF) := by
  unfold Apart
  exact (by decide +kernel : (rowsR.map rowF).Pairwise fun a b => ∀ c ∈ a.2, c ∉ b.2)
theorem tabR_same (c : Nat) : tabFirst (rowsR.map rowF) c = tabC c := by
  unfold tabC
  rw [rows_same, tab_same rows_apart]
end Go.Proofs.YtpdldbapagchfaaGreatDoor
