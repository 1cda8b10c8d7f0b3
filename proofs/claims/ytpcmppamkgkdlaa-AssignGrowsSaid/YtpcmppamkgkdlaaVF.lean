/- The contract of the reference's Assign: the best assignment. -/
import Derived.Test.YtpcmppamkgkdlaaVD
import Derived.Test.YtpcmppamkgkdlaaSD
import Derived.Test.YtpcmppamkgkdlaaVG
namespace Go.Proofs.Ytpcmppamkgkdlaa
open Go.RowKit

def bools (S : Nat → Bool) (k : Nat) : List Value := (List.range k).map fun j => Value.bool (S j)
theorem bools_succ (S : Nat → Bool) (k : Nat) : bools S (k + 1) = bools S k ++ [.bool (S k)] := by simp [bools, List.range_succ]
theorem bools_congr {S S' : Nat → Bool} {k : Nat} (h : ∀ j, j < k → S j = S' j) : bools S k = bools S' k := List.map_congr_left fun j hj => by rw [h j (List.mem_range.1 hj)]
theorem bools_len (S : Nat → Bool) (k : Nat) : (bools S k).length = k := by simp [bools]
theorem bools_get (S : Nat → Bool) {k j : Nat} (h : j < k) : (bools S k)[j]? = some (.bool (S j)) := by simp [bools, h]
theorem bools_up (S : Nat → Bool) (k : Nat) (b : Bool) : bools (upU S k b) (k + 1) = bools S k ++ [.bool b] := by
  rw [bools_succ, bools_congr (S' := S) fun j hj => by unfold upU; rw [if_neg (by omega)]]
  unfold upU; rw [if_pos rfl]
/-- The search while it is decided who is served. -/
structure AM (lL n lC : Nat) (aw aa ac : Option Addr) (cw ca cc sb ub B : Nat) (w : World) (k : Nat) (S : Nat → Bool) (sv : Value) : Prop where
  blk : Blk w sb #[.slice aw lL cw, .slice aa n ca, .slice ac lC cc, sv, .slice (some ⟨ub, 0, none⟩) n n, .slice none 0 0, .int .i64 0, .slice none 0 0, .int .i64 0] 70
  used : Blk w ub (encB (fun _ => false) n) 4
  row : w.ownsRow B 4 1 sv k (bools S k)
  ne : sv.ownBlock ≠ some sb ∧ sv.ownBlock ≠ some ub ∧ sb ≠ ub ∧ B ≤ sb ∧ B ≤ ub
section
variable {lL n lC : Nat} {aw aa ac : Option Addr} {cw ca cc sb ub B : Nat} {w : World} {k : Nat} {S : Nat → Bool} {sv : Value}
theorem AM.lt (h : AM lL n lC aw aa ac cw ca cc sb ub B w k S sv) : sb < w.heap.size ∧ ub < w.heap.size := ⟨h.blk.lt, h.used.lt⟩
/-- One more is to be served. -/
theorem AM.grow {w1 w2 : World} {g cap : Nat} (h : AM lL n lC aw aa ac cw ca cc sb ub B w k S sv) (hb : Below w.heap.size w w1) (hrow : w2.ownsRow B 4 1 (.slice (some ⟨g, 0, none⟩) (k + 1) cap) (k + 1) (bools S k ++ [.bool true]))
    (hg : w1.grownBy w2 sv.ownBlock) (hat : sv.ownBlock = some g ∨ w.heap.size ≤ g) :
    AM lL n lC aw aa ac cw ca cc sb ub B (w2.setCell ⟨sb, 3, none⟩ (.slice (some ⟨g, 0, none⟩) (k + 1) cap)) (k + 1) (upU S k true) (.slice (some ⟨g, 0, none⟩) (k + 1) cap) := by
  obtain ⟨n1, n2, n3, n4, n5⟩ := h.ne
  have l1 := h.blk.lt
  have l2 := h.used.lt
  have b2 := (Tn.of_grown hg).blk (h.blk.below hb l1) n1
  have u2 := (Tn.of_grown hg).blk (h.used.below hb l2) n2
  have q1 : g ≠ sb := fun e => by
    rcases hat with h' | h'
    · rw [e] at h'; exact n1 h'
    · omega
  have q2 : g ≠ ub := fun e => by
    rcases hat with h' | h'
    · rw [e] at h'; exact n2 h'
    · omega
  have t : Tn (fun b => b = sb) w2 (w2.setCell ⟨sb, 3, none⟩ (.slice (some ⟨g, 0, none⟩) (k + 1) cap)) := (Tn.refl (fun b => b = sb) w2).setCell (p := ⟨sb, 3, none⟩) (.inl rfl) _
  refine ⟨(b2.set 3 _).cast rfl, t.blk u2 fun e => n3 e.symm, ?_, ⟨fun e => q1 (by injection e), fun e => q2 (by injection e), n3, n4, n5⟩⟩
  rw [bools_up]
  exact t.row hrow fun r hr e => by subst e; exact q1 (by injection hr)
/-- It is decided. -/
theorem AM.decide {g cap : Nat} {b : Bool} (h : AM lL n lC aw aa ac cw ca cc sb ub B w (k + 1) (upU S k true) (.slice (some ⟨g, 0, none⟩) (k + 1) cap)) :
    AM lL n lC aw aa ac cw ca cc sb ub B (w.setCell ⟨g, k, none⟩ (.bool b)) (k + 1) (upU S k b) (.slice (some ⟨g, 0, none⟩) (k + 1) cap) := by
  obtain ⟨n1, n2, n3, n4, n5⟩ := h.ne
  have t : Tn (fun b => b = g) w (w.setCell ⟨g, k, none⟩ (.bool b)) := (Tn.refl (fun b => b = g) w).setCell (p := ⟨g, k, none⟩) (.inl rfl) _
  refine ⟨t.blk h.blk fun e => n1 (by rw [e]; rfl), t.blk h.used fun e => n2 (by rw [e]; rfl), ?_, h.ne⟩
  have h1 := (h.row.stored k (.bool b)).1
  rw [bools_up] at h1 ⊢
  rw [List.set_append_right _ _ (by rw [bools_len]; exact Nat.le_refl _), bools_len, Nat.sub_self] at h1
  exact h1
theorem AM.keep {w' : World} (h : AM lL n lC aw aa ac cw ca cc sb ub B w k S sv) (hb : Below w.heap.size w w') : AM lL n lC aw aa ac cw ca cc sb ub B w' k S sv :=
  ⟨h.blk.below hb h.blk.lt, h.used.below hb h.used.lt, (Tn.of_below (F := fun _ => False) hb).row h.row (fun _ _ => id), h.ne⟩
theorem AM.srv {an : Option Addr} {cn : Nat} (h : AM lL n lC aw aa ac cw ca cc sb ub B w k S (.slice an k cn)) {j : Nat} (hj : j < k) : ∃ vb, an = some ⟨vb, 0, none⟩ ∧ vb ≠ sb ∧ vb ≠ ub ∧ w.cell? ⟨vb, j, none⟩ = some (.bool (S j)) := by
  obtain ⟨a, c, e, h0 | ⟨g, hg, ho, hc⟩⟩ := row_cell h.row
  · omega
  · obtain ⟨rfl, rfl⟩ : an = a ∧ cn = c := by injection e with e1 e2 e3; exact ⟨e1, e3⟩
    refine ⟨g, hg, fun e => ?_, fun e => ?_, hc j _ (bools_get S hj)⟩
    · exact h.ne.1 (by rw [← e]; exact ho)
    · exact h.ne.2.1 (by rw [← e]; exact ho)
end
def RAssignE (P : Prob) (w : World) (e : Ending) (w' : World) : Prop :=
  ∃ (g : Nat → Option Nat) (v : Value), e = .returned v ∧ Best P g ∧ Ints w' w'.heap.size v (outL g P.m) ∧ Below w.heap.size w w'
set_option maxRecDepth 100000 in
set_option maxHeartbeats 8000000 in
theorem rassign_any (L : List Wt) (A : List Int) (C : List (List Int)) (w : World) (B : Nat) (wv av cv : Value) (hL : Wants w B wv L) (hA : Ints w B av A) (hC : Rows2 w B cv C)
    (hl : L.length ≤ 1000) (ha : A.length ≤ 1000) (hl2 : ∀ k, (L.getD k noW).2.length ≤ 1000) (hc : ∀ k, ((C.getD k []).length : Int) ≤ 9223372036854775807) (hB : B ≤ w.heap.size) :
    Calls Try.prog 19 #[wv, av, cv] w (RAssignE (prob L A C) w) := by
  have HL := Lib.hid (hL.mono hB)
  have HA := Lib.hid (hA.mono hB)
  have HC := Lib.hid (hC.mono hB)
  have HL2 := Lib.hid hl2
  have HCC := Lib.hid hc
  obtain ⟨aw, cw, rfl, -⟩ := hL
  obtain ⟨aa, ca, rfl, -⟩ := hA
  obtain ⟨ac, cc, rfl, -⟩ := hC
  obtain ⟨P, hP⟩ : ∃ P, P = prob L A C := ⟨_, rfl⟩
  have HP := Lib.hid hP
  have HPM : RowKit.Hid (P.m = L.length ∧ P.n = A.length) := Lib.hid (by rw [hP]; exact ⟨rfl, rfl⟩)
  have hmk := mk47 A.length (by omega)
  rw [← hP]
  clear hP hl2 hc hB
  go_enter Try.func19, Try.ntmps19
  go_wp2_with fail
  obtain ⟨ub, hub⟩ : ∃ ub, ub = w.heap.size := ⟨_, rfl⟩
  obtain ⟨sb, hsb⟩ : ∃ sb, sb = w.heap.size + 1 := ⟨_, rfl⟩
  obtain ⟨W2, hW2⟩ : ∃ W2, W2 = (w.alloc (.cells (encB (fun _ => false) A.length) 4)).alloc (.cells #[.slice aw L.length cw, .slice aa A.length ca, .slice ac C.length cc, .slice none 0 0, .slice (some ⟨ub, 0, none⟩) A.length A.length, .slice none 0 0, .int .i64 0, .slice none 0 0, .int .i64 0] 70) := ⟨_, rfl⟩
  have AM0 : RowKit.Hid (AM L.length A.length C.length aw aa ac cw ca cc sb ub w.heap.size W2 0 (fun _ => false) (.slice none 0 0)) := Lib.hid (by
    refine ⟨?_, ?_, World.ownsRow_nil _ _ _ _, ⟨fun e => (by cases e), fun e => (by cases e), by omega, by omega, by omega⟩⟩
    · rw [hW2]; exact Blk.at_new (by rw [size_alloc]; omega) _ _
    · rw [hW2]; exact (Blk.at_new hub _ _).alloc _)
  have B2 : RowKit.Hid (Below w.heap.size w W2) := Lib.hid (by rw [hW2]; exact ((Below.refl _ _).alloc (Nat.le_refl _) _).alloc (by rw [size_alloc]; omega) _)
  have HSB : RowKit.Hid (ub = w.heap.size ∧ sb = w.heap.size + 1) := Lib.hid ⟨hub, hsb⟩
  rw [← hub, ← hW2, show ub + 1 = sb by omega]
  clear hmk hub hsb hW2
  go_loopw [8] (fun v wr => ∃ (k : Nat) (S : Nat → Bool) (sv : Value), k ≤ L.length ∧ v = .int .i64 k ∧ AM L.length A.length C.length aw aa ac cw ca cc sb ub w.heap.size wr k S sv ∧ SrvOk P S k ∧ Below w.heap.size w wr) (fun v _ => L.length - (intOf v).toNat)
  case atStart => exact ⟨0, _, _, by omega, rfl, AM0.out, SrvOk.start P, B2.out⟩
  case round =>
    obtain ⟨k, S, sv, hk, rfl, hM, hS, hb⟩ := hrel
    have M := Lib.hid hM
    have SO := Lib.hid hS
    have BB := Lib.hid hb
    obtain ⟨an, cn, rfl, -⟩ := row_cell hM.row
    have hz := hb.size
    clear hM hS hb
    by_cases hlt : k < L.length
    · obtain ⟨i4, hi, hi0, hi1, hi2⟩ := info_parts info4
      have s3 : wr.cell? ⟨sb, 3, none⟩ = some (.slice an k cn) := M.out.blk.cell 3
      have RN : RowKit.Hid ((wr.alloc (.cells #[.bool true] 4)).ownsRow w.heap.size 4 1 (.slice an k cn) k (bools S k)) := Lib.hid (M.out.row.alloc _)
      go_wp2_with (at_builtin; go_must (refine wpList_append_lies _ rfl (.tmp 28) (.tmp 29) 47 rfl w.heap.size 4 i4 (.bool false) 1 1 Try.underlying47 hi hi0 hi1 hi2 rfl (by decide) _ k _ rfl RN.out ⟨wr.heap.size, 0, none⟩ 1 1 [.bool true] rfl rfl (news_ wr _ 4) (one_ rfl) (by omega) (by unfold maxLen; omega) (by omega) (by rw [size_alloc]; omega) (wr.heap.size + 1) (size_alloc _ _) ?_))
      intro g cap w3 hown hgrow hat hlt5
      have M3 := Lib.hid (M.out.grow (w1 := wr.alloc (.cells #[.bool true] 4)) (g := g) (cap := cap) ((Below.refl _ _).alloc (Nat.le_refl _) _) hown hgrow (hat.imp id fun e => by omega))
      have T3 : RowKit.Hid (Tn (fun b => (Value.slice an k cn).ownBlock = some b) wr w3) := Lib.hid ((Tn.of_below ((Below.refl _ _).alloc (Nat.le_refl _) (.cells #[.bool true] 4))).then_ (Tn.of_grown hgrow) fun b e => .inl e)
      have z3 : w3.cell? ⟨sb, 3, none⟩ = some (.slice an k cn) := T3.out.cell s3 M.out.ne.1
      have zf : ∀ i, w3.frozen? ⟨sb, i, none⟩ = false := (T3.out.blk M.out.blk M.out.ne.1).frozen
      have BB3 : RowKit.Hid (Below w.heap.size w (w3.setCell ⟨sb, 3, none⟩ (.slice (some ⟨g, 0, none⟩) (k + 1) cap))) := Lib.hid ((BB.out.trans (T3.out.below hz fun b e => (row_lt M.out.row b e).1)).setCell (by show w.heap.size ≤ sb; have := HSB.out; omega) _)
      clear hown hgrow hat hlt5 hi hi0 hi1 hi2 s3 RN
      go_wp2_with fail
      have KC := Lib.hid (can_any L A C w.heap.size sb ub (k + 1) (upU S k true) aw aa (some ⟨g, 0, none⟩) cw ca cap hl ha HL2.out (by omega) (k + 2) 0 (fun _ => false) (w3.setCell ⟨sb, 3, none⟩ (.slice (some ⟨g, 0, none⟩) (k + 1) cap)) (by omega) (by omega)
        ⟨M3.out.blk.cell 0, M3.out.blk.cell 1, M3.out.blk.cell 3, M3.out.blk.cell 4, fun j hj => by
          obtain ⟨vb, h1, _, h2, h3⟩ := M3.out.srv hj
          exact ⟨vb, h1, h2, h3⟩, M3.out.used, HL.out.below BB3.out (Nat.le_refl _), by have := HSB.out; omega, M3.out.ne.2.2.1⟩)
      refine KC.out.mono ?_
      rintro e w4 ⟨b, rfl, hbc, hb4⟩
      have SO4 : RowKit.Hid (SrvOk P (upU S k b) (k + 1)) := Lib.hid (SO.out.step (by rw [HP.out]; exact hbc))
      have M4 := Lib.hid (M3.out.keep hb4)
      have M5 := Lib.hid (M4.out.decide (b := b))
      have BB4 : RowKit.Hid (Below w.heap.size w (w4.setCell ⟨g, k, none⟩ (.bool b))) := Lib.hid ((BB3.out.trans (hb4.mono BB3.out.size)).setCell (by show w.heap.size ≤ g; exact (row_lt M4.out.row g rfl).1) _)
      have y3 : w4.cell? ⟨sb, 3, none⟩ = some (.slice (some ⟨g, 0, none⟩) (k + 1) cap) := M4.out.blk.cell 3
      have yf := fun j => M4.out.row.frozenAt j
      have yc : w4.cell? ⟨g, k, none⟩ = some (.bool true) := by
        obtain ⟨vb, h1, _, _, h3⟩ := M4.out.srv (Nat.lt_succ_self k)
        obtain rfl : g = vb := by injection h1 with h1; injection h1
        rw [h3]; unfold upU; rw [if_pos rfl]
      clear hbc hb4 KC z3 zf
      go_wp2_with fail
      exact ⟨⟨k + 1, _, _, by omega, by go_num, M5.out, SO4.out, BB4.out⟩, by simp [intOf]; omega⟩
    · obtain rfl : k = L.length := by omega
      have TM : RowKit.Hid (TryM P ⟨sb, ub, w.heap.size, aw, aa, ac, an, cw, ca, cc, cn⟩ L A.length C.length S wr (fun _ => false) (fun _ => none) 0 (.slice none 0 0) (.slice none 0 0) 0 none) := Lib.hid
        ⟨M.out.blk, M.out.used, World.ownsRow_nil _ _ _ _, ⟨fun e => (by cases e), fun e => (by cases e), M.out.ne.2.2.1, M.out.ne.2.2.2.1, M.out.ne.2.2.2.2⟩, fun j hj => by
          obtain ⟨vb, h1, h2, h3, h4⟩ := M.out.srv hj
          exact ⟨vb, h1, h2, h3, fun e => (by cases e), h4⟩, rfl⟩
      have KT := Lib.hid (try_any L A C ⟨sb, ub, w.heap.size, aw, aa, ac, an, cw, ca, cc, cn⟩ S hl ha HL2.out HCC.out SO.out.2.1 wr (HL.out.below BB.out (Nat.le_refl _)) (HA.out.below BB.out (Nat.le_refl _)) (HC.out.below BB.out (Nat.le_refl _)) (L.length + 1) 0 (fun _ => false) (fun _ => none) (.slice none 0 0) (.slice none 0 0) 0 none wr (by omega) (by omega) (Below.refl _ _)
        ⟨mat_none _, fun _ _ => rfl, fun j hj => by omega, fun c => ⟨fun e => (by cases e), fun ⟨j, e⟩ => (by cases e)⟩⟩ (by rw [← HP.out]; exact TM.out))
      rw [← HP.out] at KT
      go_wp2_with fail
      refine KT.out.mono ?_
      rintro e w5 ⟨rfl, nv, bv, least, st, hM5, hE, hT5, -⟩
      obtain ⟨g, rfl, hbest⟩ := ref_best (by rw [HPM.out.1]; exact SO.out) hE
      obtain ⟨-, gb, cap, rfl, -, -, -, -, hgb, hcells⟩ := hM5.best
      have HF : RowKit.Hid (RAssignE P w (.returned (.slice (some ⟨gb, 0, none⟩) P.m cap)) w5) := Lib.hid ⟨g, _, rfl, hbest, ⟨_, cap, by rw [outL_len], .inr ⟨gb, 0, rfl, hgb, fun j hj => by
        rw [outL_len] at hj
        rw [outL_get g hj, Nat.zero_add]
        exact hcells j hj⟩⟩, BB.out.trans (TM.out.tb hT5)⟩
      have y7 : w5.cell? ⟨sb, 7, none⟩ = some (.slice (some ⟨gb, 0, none⟩) P.m cap) := hM5.blk.cell 7
      clear hM5 hE hT5 hbest hcells KT
      go_wp2_with fail
      go_ret
      exact HF.out
end Go.Proofs.Ytpcmppamkgkdlaa
