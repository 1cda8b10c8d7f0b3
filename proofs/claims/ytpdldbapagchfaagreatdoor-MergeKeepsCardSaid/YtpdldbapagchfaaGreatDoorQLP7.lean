/- Memory in which strings may have become others: shapes of records. -/
import Derived.Test.YtpdldbapagchfaaGreatDoorQ07
import Derived.Test.YtpdldbapagchfaaGreatDoorQ28
set_option linter.unusedVariables false
set_option linter.unusedSimpArgs false

namespace Go.Proofs.YtpdldbapagchfaaGreatDoor
open Go.RowKit Go.Shelf Go.Maps

/-- Of blocks F some strings are others now; all else is as it was. -/
structure StrT (F : Nat → Prop) (w w' : World) : Prop where
  tn : Tn F w w'
  froz : ∀ a : Addr, a.block < w.heap.size → w'.frozen? a = w.frozen? a
  oth : ∀ a u, w.cell? a = some u → (∀ t, u ≠ .string t) → w'.cell? a = some u
  str : ∀ a t, w.cell? a = some (.string t) → ∃ t', w'.cell? a = some (.string t')
namespace StrT
variable {F : Nat → Prop} {w w1 w2 : World}
theorem refl (F : Nat → Prop) (w : World) : StrT F w w := ⟨Tn.refl _ _, fun _ _ => rfl, fun _ _ h _ => h, fun _ t h => ⟨t, h⟩⟩
theorem trans (h : StrT F w w1) (h' : StrT F w1 w2) : StrT F w w2 :=
  ⟨h.tn.trans h'.tn, fun a ha => (h'.froz a (Nat.lt_of_lt_of_le ha h.tn.size)).trans (h.froz a ha), fun a u hu hn => h'.oth a u (h.oth a u hu hn) hn, fun a t ht => by
    obtain ⟨t', h1⟩ := h.str a t ht; exact h'.str a t' h1⟩
theorem of_below (h : Below w.heap.size w w1) : StrT F w w1 := by
  have k : ∀ a u, w.cell? a = some u → w1.cell? a = some u := fun a u hu => by rw [World.cell?_of_block (h.block _ (cell_lt hu))]; exact hu
  exact ⟨Tn.of_below h, fun a ha => World.frozen?_of_block (h.block _ ha), fun a u hu _ => k a u hu, fun a t ht => ⟨t, k a _ ht⟩⟩
theorem set {a : Addr} (hF : F a.block) {t0 : ByteArray} (h : w.cell? a = some (.string t0)) (t : ByteArray) : StrT F w (w.setCell a (.string t)) := by
  refine ⟨(Tn.refl F w).setCell (p := a) (.inl hF) _, fun b _ => World.frozen?_setCell _ _ _ _, fun b u hu hn => ?_, fun b t' ht => ?_⟩
  · have e : a ≠ b := fun e => by subst e; rw [h] at hu; injection hu with hu; exact hn _ hu.symm
    exact (World.cell?_setCell_other _ _ _ _ e).trans hu
  · by_cases e : a = b
    · subst e; exact ⟨t, World.cell?_setCell_same _ _ _ h⟩
    · exact ⟨t', (World.cell?_setCell_other _ _ _ _ e).trans ht⟩
end StrT
/-- Subfields whose texts may be written. -/
def SubsS (F : Nat → Prop) (w : World) (v : Value) : Prop := ∃ a n c, v = .slice a n c ∧ n ≤ 1000 ∧ n ≤ c ∧ c ≤ maxLen ∧ (n = 0 ∨ ∃ b o, a = some ⟨b, o, none⟩ ∧ F b ∧ b < w.heap.size ∧
  ∀ j, j < n → (∃ t, w.cell? ⟨b, o + j * 2 + 1, none⟩ = some (.string t)) ∧ w.frozen? ⟨b, o + j * 2 + 1, none⟩ = false)
/-- Fields whose tags, and whose subfields' texts, may be written. -/
def FldsS (F : Nat → Prop) (w : World) (v : Value) : Prop := ∃ a n c, v = .slice a n c ∧ n ≤ 1000 ∧ n ≤ c ∧ c ≤ maxLen ∧ (n = 0 ∨ ∃ b o, a = some ⟨b, o, none⟩ ∧ F b ∧ b < w.heap.size ∧
  ∀ j, j < n → (∃ t, w.cell? ⟨b, o + j * 4, none⟩ = some (.string t)) ∧ w.frozen? ⟨b, o + j * 4, none⟩ = false ∧ ∃ sa sn sc, w.cell? ⟨b, o + j * 4 + 3, none⟩ = some (.slice sa sn sc) ∧ SubsS F w (.slice sa sn sc))
/-- Versions of such fields. -/
def VersS (F : Nat → Prop) (w : World) (v : Value) : Prop := ∃ a n c, v = .slice a n c ∧ n ≤ 1000 ∧ n ≤ c ∧ c ≤ maxLen ∧ (n = 0 ∨ ∃ b o, a = some ⟨b, o, none⟩ ∧ F b ∧ b < w.heap.size ∧
  ∀ j, j < n → ∃ r1 r2 m k l : Int, ∃ fa fn fc, w.rangeAt b (o + j * 6) [.int .i64 r1, .int .i64 r2, .int .i64 m, .int .u8 k, .int .u8 l, .slice fa fn fc] ∧ FldsS F w (.slice fa fn fc))
section
variable {F : Nat → Prop} {w w' : World} {v : Value}
theorem SubsS.keep (h : SubsS F w v) (t : StrT F w w') : SubsS F w' v := by
  obtain ⟨a, n, c, e, h1, h2, h3, h4⟩ := h
  refine ⟨a, n, c, e, h1, h2, h3, h4.imp id ?_⟩
  rintro ⟨b, o, e, hF, hb, hj⟩
  refine ⟨b, o, e, hF, Nat.lt_of_lt_of_le hb t.tn.size, fun j hn => ?_⟩
  obtain ⟨⟨s, h5⟩, h6⟩ := hj j hn
  exact ⟨t.str _ _ h5, (t.froz _ hb).trans h6⟩
theorem FldsS.keep (h : FldsS F w v) (t : StrT F w w') : FldsS F w' v := by
  obtain ⟨a, n, c, e, h1, h2, h3, h4⟩ := h
  refine ⟨a, n, c, e, h1, h2, h3, h4.imp id ?_⟩
  rintro ⟨b, o, e, hF, hb, hj⟩
  refine ⟨b, o, e, hF, Nat.lt_of_lt_of_le hb t.tn.size, fun j hn => ?_⟩
  obtain ⟨⟨s, h5⟩, h6, sa, sn, sc, h7, h8⟩ := hj j hn
  exact ⟨t.str _ _ h5, (t.froz _ hb).trans h6, sa, sn, sc, t.oth _ _ h7 (fun t e => by cases e), h8.keep t⟩
theorem VersS.keep (h : VersS F w v) (t : StrT F w w') : VersS F w' v := by
  obtain ⟨a, n, c, e, h1, h2, h3, h4⟩ := h
  refine ⟨a, n, c, e, h1, h2, h3, h4.imp id ?_⟩
  rintro ⟨b, o, e, hF, hb, hj⟩
  refine ⟨b, o, e, hF, Nat.lt_of_lt_of_le hb t.tn.size, fun j hn => ?_⟩
  obtain ⟨r1, r2, m, k, l, fa, fn, fc, h5, h6⟩ := hj j hn
  refine ⟨r1, r2, m, k, l, fa, fn, fc, fun i u hu => ?_, h6.keep t⟩
  refine t.oth _ _ (h5 i u hu) fun s e => ?_
  have hm := List.mem_of_getElem? hu
  subst e
  simp at hm
end
/-- The head of a slice. -/
theorem SlOf.headz {α : Type} {z : Nat} (hz : 0 < z) {S : Nat → Prop} {R : World → List Value → α → Prop} {w : World} {v : Value} {L : List α} (h : SlOf z S R w v L) : ∃ a c, v = .slice a L.length c ∧ L.length ≤ c ∧ c ≤ maxLen ∧
    (L.length = 0 ∨ ∃ b o, a = some ⟨b, o, none⟩ ∧ S b ∧ b < w.heap.size ∧ ∀ j (hj : j < L.length), ∃ cs, R w cs L[j] ∧ cs.length = z ∧ w.rangeAt b (o + j * z) cs ∧ w.there b (o + j * z) z) := by
  have h' := h
  obtain ⟨a, c, rfl, h1, h2, _⟩ := h
  refine ⟨a, c, rfl, h1, h2, ?_⟩
  by_cases h0 : L.length = 0
  · exact .inl h0
  · obtain ⟨b, o, c', cs, e, hS, hb, _⟩ := SlOf.range hz h' (j := 0) (by omega)
    injection e with ea
    refine .inr ⟨b, o, ea, hS, hb, fun j hj => ?_⟩
    obtain ⟨b2, o2, c2, cs2, e2, _, _, hR, hl, hr, ht⟩ := SlOf.range hz h' hj
    injection e2 with ea2
    rw [ea] at ea2
    injection ea2 with ea2
    injection ea2 with eb eo
    subst eb eo
    exact ⟨cs2, hR, hl, hr, ht⟩
section
variable {S : Nat → Prop} {w : World} {v : Value}
theorem SubsAt.shape {L : List Sub} (h : SubsAt S w v L) (hl : L.length ≤ 1000) : SubsS S w v := by
  obtain ⟨a, c, rfl, h1, h2, h3⟩ := SlOf.headz (by omega) h
  refine ⟨a, _, c, rfl, hl, h1, h2, h3.imp id ?_⟩
  rintro ⟨b, o, rfl, hS, hb, hj⟩
  refine ⟨b, o, rfl, hS, hb, fun j hn => ?_⟩
  obtain ⟨cs, hR, hz, hr, ht⟩ := hj j hn
  unfold SubR at hR
  subst hR
  exact ⟨⟨_, hr 1 _ rfl⟩, (ht 1 (by omega)).2⟩
theorem FldsAt.shape {L : List Fld} (h : FldsAt S w v L) (hl : FsOk L) : FldsS S w v := by
  obtain ⟨a, c, rfl, h1, h2, h3⟩ := SlOf.headz (by omega) h
  refine ⟨a, _, c, rfl, hl.1, h1, h2, h3.imp id ?_⟩
  rintro ⟨b, o, rfl, hS, hb, hj⟩
  refine ⟨b, o, rfl, hS, hb, fun j hn => ?_⟩
  obtain ⟨cs, ⟨sv, rfl, hs⟩, hz, hr, ht⟩ := hj j hn
  have hsh := SubsAt.shape hs (hl.2 _ (List.getElem_mem _))
  obtain ⟨sa, sc, rfl, -⟩ := hs
  exact ⟨⟨_, hr 0 _ rfl⟩, (ht 0 (by omega)).2, sa, _, sc, hr 3 _ rfl, hsh⟩
theorem VersAt.shape {L : List Ver} (h : VersAt S w v L) (hl : VsOk L) : VersS S w v := by
  obtain ⟨a, c, rfl, h1, h2, h3⟩ := SlOf.headz (by omega) h
  refine ⟨a, _, c, rfl, hl.1, h1, h2, h3.imp id ?_⟩
  rintro ⟨b, o, rfl, hS, hb, hj⟩
  refine ⟨b, o, rfl, hS, hb, fun j hn => ?_⟩
  obtain ⟨cs, ⟨fv, rfl, hs⟩, hz, hr, ht⟩ := hj j hn
  have hsh := FldsAt.shape hs (hl.2 _ (List.getElem_mem _))
  obtain ⟨fa, fc, rfl, -⟩ := hs
  exact ⟨_, _, _, _, _, fa, _, fc, hr, hsh⟩
end
end Go.Proofs.YtpdldbapagchfaaGreatDoor

/- The closure spoil: tags and texts are written over. -/
namespace Go.Proofs.YtpdldbapagchfaaGreatDoor
open Go.RowKit Go.Shelf Go.Maps
attribute [local go_sem] over_cell over_frozen
set_option maxRecDepth 100000 in
set_option maxHeartbeats 4000000 in
theorem spoil_any (F : Nat → Prop) {w : World} {k l : Int} {fa : Option Addr} {n fc : Nat} (h : FldsS F w (.slice fa n fc)) :
    Calls Tryz.prog 26 #[.agg #[.int .u8 k, .int .u8 l, .slice fa n fc]] w fun e w' => e = .returned (.tuple #[]) ∧ StrT F w w' := by
  have HV := Lib.hid h
  obtain ⟨a', n', c', e0, hn, hc1, hc2, -⟩ := h
  injection e0 with e1 e2 e3
  subst e1 e2 e3
  go_enter Tryz.func26, Tryz.ntmps26
  go_wp2_with fail
  obtain ⟨W1, hW1⟩ : ∃ W1, W1 = w.alloc (.cells #[.int .u8 k, .int .u8 l, .slice fa n fc] 29) := ⟨_, rfl⟩
  try rw [← hW1]
  have T1 : RowKit.Hid (StrT F w W1) := Lib.hid (StrT.of_below (by rw [hW1]; exact (Below.refl _ _).alloc (Nat.le_refl _) _))
  have K1 : RowKit.Hid (Blk W1 w.heap.size #[.int .u8 k, .int .u8 l, .slice fa n fc] 29) := Lib.hid (by rw [hW1]; exact Blk.new _ _ _)
  clear hW1
  go_loopw [7] (fun i wr => ∃ j : Nat, j ≤ n ∧ i = .int .i64 j ∧ StrT F W1 wr) (fun i _ => n - (intOf i).toNat)
  case atStart => exact ⟨0, by omega, rfl, StrT.refl _ _⟩
  case round =>
    obtain ⟨j, hj, rfl, ht⟩ := hrel
    have HT := Lib.hid ht
    clear ht
    have x2 : wr.cell? ⟨w.heap.size, 2, none⟩ = some (.slice fa n fc) := HT.out.oth _ _ (K1.out.cell 2) (fun t e => by cases e)
    by_cases hlt : j < n
    · obtain ⟨a', n', c', e0, _, _, _, h4⟩ := HV.out.keep (T1.out.trans HT.out)
      injection e0 with e1 e2 e3
      subst e1 e2 e3
      rcases h4 with h4 | ⟨b, o, rfl, hF, hb, h5⟩
      · omega
      obtain ⟨⟨t, t0⟩, t0f, sa, sn, sc, s3, hS⟩ := h5 j hlt
      have HS := Lib.hid hS
      obtain ⟨a', n', c', e0, hsn, hsc1, hsc2, -⟩ := hS
      injection e0 with e1 e2 e3
      subst e1 e2 e3
      clear h5
      go_wp2_with fail
      obtain ⟨wo, rfl⟩ : ∃ wo, wo = wr := ⟨_, rfl⟩
      go_loopw [17] (fun i wt => ∃ i' : Nat, i' ≤ sn ∧ i = .int .i64 i' ∧ StrT F wo wt) (fun i _ => sn - (intOf i).toNat)
      case atStart => exact ⟨0, by omega, rfl, StrT.refl _ _⟩
      case round =>
        obtain ⟨i', hi', rfl, ht⟩ := hrel
        have HU := Lib.hid ht
        clear ht
        have y2 : wr.cell? ⟨w.heap.size, 2, none⟩ = some (.slice (some ⟨b, o, none⟩) n fc) := HU.out.oth _ _ x2 (fun t e => by cases e)
        have y3 : wr.cell? ⟨b, o + j * 4 + 3, none⟩ = some (.slice sa sn sc) := HU.out.oth _ _ s3 (fun t e => by cases e)
        by_cases hit : i' < sn
        · obtain ⟨a', n', c', e0, _, _, _, h4⟩ := HS.out.keep HU.out
          injection e0 with e1 e2 e3
          subst e1 e2 e3
          rcases h4 with h4 | ⟨b2, o2, rfl, hF2, hb2, h5⟩
          · omega
          obtain ⟨⟨u, u1⟩, u1f⟩ := h5 i' hit
          have HN := Lib.hid (StrT.set (F := F) hF2 u1 ⟨#[63]⟩)
          clear h5 x2 s3
          go_wp2_with fail
          exact ⟨⟨i' + 1, hit, by go_num, HU.out.trans HN.out⟩, by simp [intOf]; omega⟩
        · obtain rfl : i' = sn := by omega
          obtain ⟨t', v0⟩ := HU.out.str _ _ t0
          have v0f : wr.frozen? ⟨b, o + j * 4, none⟩ = false := (HU.out.froz _ hb).trans t0f
          have HN := Lib.hid (StrT.set (F := F) hF v0 ⟨#[63]⟩)
          clear x2 s3 t0 t0f
          go_wp2_with fail
          exact ⟨⟨j + 1, hlt, by go_num, HT.out.trans (HU.out.trans HN.out)⟩, by simp [intOf]; omega⟩
    · obtain rfl : j = n := by omega
      go_wp2_with fail
      refine bodyPost_end (results_none rfl _ _ _) rfl ?_
      exact ⟨rfl, T1.out.trans HT.out⟩
end Go.Proofs.YtpdldbapagchfaaGreatDoor

/- The law Keeps. -/
namespace Go.Proofs.YtpdldbapagchfaaGreatDoor
open Go.RowKit Go.Shelf Go.Maps
attribute [local go_sem] over_cell over_frozen
set_option maxRecDepth 100000 in
set_option maxHeartbeats 4000000 in
theorem keepsLaw (S : Nat → Prop) {w : World} {v : Value} {l : List SaidI} (h : SlOf 4 S (SaidR S) w v l) (hl : SOk l) :
    Calls Tryz.prog 10 #[v] w fun e w' => e = .returned (.bool true) ∧ Below w.heap.size w w' := by
  have HS := Lib.hid h
  have HL := Lib.hid (versP_lok hl)
  obtain ⟨a, cap, rfl, -⟩ := h
  obtain ⟨n, hn⟩ : ∃ n, n = l.length := ⟨_, rfl⟩
  rw [← hn] at HS ⊢
  clear hl hn
  go_enter Tryz.func10, Tryz.ntmps10
  go_wp2_with fail
  refine (sanity_any w).mono ?_
  rintro e w1 ⟨rfl, hb⟩
  have B1 := Lib.hid hb
  have HS1 := Lib.hid (HS.out.keep (S' := S) (R' := SaidR S) (by omega) (Stay.of_below hb) (fun _ _ h => h.keep (Stay.of_below hb) (fun _ h _ => h)) (fun _ h _ => h))
  clear hb HS
  go_wp2_with fail
  refine (versions_any S HS1.out).mono ?_
  rintro e w2 ⟨v2, rfl, hO, hb⟩
  have HO := Lib.hid hO
  have HS2 := Lib.hid (HS1.out.keep (S' := S) (R' := SaidR S) (by omega) (Stay.of_below hb) (fun _ _ h => h.keep (Stay.of_below hb) (fun _ h _ => h)) (fun _ h _ => h))
  obtain ⟨va, vc, rfl⟩ := hO.expl
  have B2 : RowKit.Hid (Below w.heap.size w w2) := Lib.hid (B1.out.trans (hb.mono B1.out.size))
  clear hO hb HS1
  go_wp2_with fail
  refine (versions_any S HS2.out).mono ?_
  rintro e w3 ⟨v3, rfl, hO, hb⟩
  obtain ⟨C, hC⟩ : ∃ C, C = w3.heap.size := ⟨_, rfl⟩
  have HVv : RowKit.Hid (VersAt (fun b => b < C) w3 (.slice va (versP l).length vc) (versP l)) := Lib.hid (by
    rw [hC]; exact VersAt.keep (VersAt.keep (S' := fun _ => True) HO.out.vers (Stay.of_below hb) (fun _ _ _ => trivial)) (fun _ _ _ => rfl) (fun _ _ h => h))
  have HVo : RowKit.Hid (VersAt (fun b => b < C) w3 v3 (versP l)) := Lib.hid (by rw [hC]; exact VersAt.keep hO.vers (fun _ _ _ => rfl) (fun _ _ h => h))
  obtain ⟨oa, oc, rfl⟩ := hO.expl
  have B3 : RowKit.Hid (Below w.heap.size w w3) := Lib.hid (B2.out.trans (hb.mono B2.out.size))
  have hwC : w.heap.size ≤ C := by rw [hC]; exact B3.out.size
  obtain ⟨m, hm⟩ : ∃ m, m = (versP l).length := ⟨_, rfl⟩
  rw [← hm] at HVv HVo ⊢
  have HC := Lib.hid hC
  clear hO hb hm HO HS2 hC
  obtain ⟨F, hF⟩ : ∃ F : Nat → Prop, F = fun b => C ≤ b := ⟨_, rfl⟩
  have FB : RowKit.Hid (∀ A B, C ≤ A.heap.size → StrT F A B → Below C A B) := Lib.hid (fun A B hA t => t.tn.below hA fun b e => by rw [hF] at e; exact e)
  have FI : RowKit.Hid (∀ b, C ≤ b → F b) := Lib.hid (fun b e => by rw [hF]; exact e)
  clear hF
  go_wp2_with fail
  refine (latest_any _ HVv.out HL.out.vs HL.out.recs).mono ?_
  rintro e w4 ⟨v4, rfl, hO, hb⟩
  have C4 : RowKit.Hid (Below C w3 w4 ∧ C ≤ w4.heap.size) := Lib.hid (by rw [HC.out]; exact ⟨hb, hb.size⟩)
  have H4 : RowKit.Hid (VersS F w4 v4) := Lib.hid (VersAt.shape (VersAt.keep (hO.slB (by omega)) (fun _ _ _ => rfl) (fun b h _ => FI.out b (by rw [HC.out]; exact h))) HL.out.latest.vs)
  obtain ⟨a4, c4, rfl⟩ := hO.expl
  obtain ⟨q4, hq4⟩ : ∃ q4, q4 = (latest (versP l)).length := ⟨_, rfl⟩
  rw [← hq4] at H4 ⊢
  have hq4b : q4 ≤ 100 := by rw [hq4]; exact HL.out.latest.few
  clear hO hb hq4
  go_wp2_with fail
  go_loopw [20] (fun i wr => ∃ k : Nat, k ≤ q4 ∧ i = .int .i64 k ∧ StrT F w4 wr) (fun i _ => q4 - (intOf i).toNat)
  case atStart => exact ⟨0, by omega, rfl, StrT.refl _ _⟩
  case round =>
    obtain ⟨k, hk, rfl, ht⟩ := hrel
    have HT := Lib.hid ht
    clear ht
    by_cases hlt : k < q4
    · obtain ⟨a', n', c', e0, _, _, _, h4⟩ := H4.out.keep HT.out
      injection e0 with e1 e2 e3
      subst e1 e2 e3
      rcases h4 with h4 | ⟨b, o, rfl, hF, hb, h5⟩
      · omega
      obtain ⟨r1, r2, num, kd, lv, fa, fn, fc, hg, hfs⟩ := h5 k hlt
      have HFS := Lib.hid hfs
      obtain ⟨g0, g1, g2, g3, g4, g5⟩ := range6 hg
      clear h5 hg hfs
      go_wp2_with fail
      refine (spoil_any F (HFS.out.keep (StrT.of_below ((Below.refl _ _).alloc (Nat.le_refl _) _)))).mono ?_
      rintro e wz ⟨rfl, ht⟩
      have HZ : RowKit.Hid (StrT F w4 wz) := Lib.hid (HT.out.trans ((StrT.of_below ((Below.refl _ _).alloc (Nat.le_refl _) _)).trans ht))
      clear ht g0 g1 g2 g3 g4 g5
      go_wp2_with fail
      exact ⟨⟨k + 1, hlt, by go_num, HZ.out⟩, by simp [intOf]; omega⟩
    · obtain rfl : k = q4 := by omega
      have C5 : RowKit.Hid (Below C w3 wr ∧ C ≤ wr.heap.size) := Lib.hid ⟨C4.out.1.trans (FB.out _ _ C4.out.2 HT.out), Nat.le_trans C4.out.2 HT.out.tn.size⟩
      obtain ⟨w5, rfl⟩ : ∃ w5, w5 = wr := ⟨_, rfl⟩
      go_wp2_with fail
      refine (without_any (fun b => b < C) 77 (VersAt.keep HVv.out (fun b h _ => C5.out.1.block b h) (fun _ h _ => h)) HL.out.vs).mono ?_
      rintro e w6 ⟨v6, rfl, hO, hb⟩
      have C6 : RowKit.Hid (Below C w3 w6 ∧ C ≤ w6.heap.size) := Lib.hid ⟨C5.out.1.trans (hb.mono C5.out.2), Nat.le_trans C5.out.2 hb.size⟩
      have HWO : RowKit.Hid (LOk (without 77 (versP l))) := Lib.hid (HL.out.sub (List.length_filter_le _ _) (fun x hx => (List.mem_filter.1 hx).1))
      have H6 : RowKit.Hid (VersS F w6 v6) := Lib.hid (VersAt.shape (VersAt.keep (hO.slB (by omega)) (fun _ _ _ => rfl) (fun b h _ => FI.out b (Nat.le_trans C5.out.2 h))) HWO.out.vs)
      obtain ⟨a6, c6, rfl⟩ := hO.expl
      obtain ⟨q6, hq6⟩ : ∃ q6, q6 = (without 77 (versP l)).length := ⟨_, rfl⟩
      rw [← hq6] at H6 ⊢
      have hq6b : q6 ≤ 100 := by rw [hq6]; exact HWO.out.few
      clear hO hb hq6 HT
      go_wp2_with fail
      go_loopw [32] (fun i wr => ∃ k : Nat, k ≤ q6 ∧ i = .int .i64 k ∧ StrT F w6 wr) (fun i _ => q6 - (intOf i).toNat)
      case atStart => exact ⟨0, by omega, rfl, StrT.refl _ _⟩
      case round =>
        obtain ⟨k, hk, rfl, ht⟩ := hrel
        have HT := Lib.hid ht
        clear ht
        by_cases hlt : k < q6
        · obtain ⟨a', n', c', e0, _, _, _, h4⟩ := H6.out.keep HT.out
          injection e0 with e1 e2 e3
          subst e1 e2 e3
          rcases h4 with h4 | ⟨b, o, rfl, hF, hb, h5⟩
          · omega
          obtain ⟨r1, r2, num, kd, lv, fa, fn, fc, hg, hfs⟩ := h5 k hlt
          have HFS := Lib.hid hfs
          obtain ⟨g0, g1, g2, g3, g4, g5⟩ := range6 hg
          clear h5 hg hfs
          go_wp2_with fail
          refine (spoil_any F (HFS.out.keep (StrT.of_below ((Below.refl _ _).alloc (Nat.le_refl _) _)))).mono ?_
          rintro e wz ⟨rfl, ht⟩
          have HZ : RowKit.Hid (StrT F w6 wz) := Lib.hid (HT.out.trans ((StrT.of_below ((Below.refl _ _).alloc (Nat.le_refl _) _)).trans ht))
          clear ht g0 g1 g2 g3 g4 g5
          go_wp2_with fail
          exact ⟨⟨k + 1, hlt, by go_num, HZ.out⟩, by simp [intOf]; omega⟩
        · obtain rfl : k = q6 := by omega
          have C7 : RowKit.Hid (Below C w3 wr ∧ C ≤ wr.heap.size) := Lib.hid ⟨C6.out.1.trans (FB.out _ _ C6.out.2 HT.out), Nat.le_trans C6.out.2 HT.out.tn.size⟩
          obtain ⟨w7, rfl⟩ : ∃ w7, w7 = wr := ⟨_, rfl⟩
          clear HT
          go_wp2_with fail
          refine (merge_any (VersAt.keep (S' := fun b => b < C) HVv.out (fun b h _ => C7.out.1.block b h) (fun _ h _ => h)) HL.out HL.out.latest).mono ?_
          rintro e w8 ⟨cs, rfl, hM, hb⟩
          have C8 : RowKit.Hid (Below C w3 w8 ∧ C ≤ w8.heap.size) := Lib.hid ⟨C7.out.1.trans (hb.mono C7.out.2), Nat.le_trans C7.out.2 hb.size⟩
          obtain ⟨G, hG⟩ : ∃ G, G = mrgV (latest (versP l)) := ⟨_, rfl⟩
          have OG : RowKit.Hid (FsOk G.fs) := Lib.hid (by rw [hG]; exact mrgV_ok HL.out.latest (few_latest (versP_len l) (versP_few l)))
          rw [← hG] at hM
          have HG := Lib.hid hG
          clear hG
          obtain ⟨fv, rv, rfl, hF, ra, rc, rfl, -⟩ := hM
          have H8 : RowKit.Hid (FldsS F w8 fv) := Lib.hid (FldsAt.shape (FldsAt.keep hF (fun _ _ _ => rfl) (fun b h _ => FI.out b (Nat.le_trans C7.out.2 h))) OG.out)
          obtain ⟨fa, fc, rfl, -⟩ := hF
          clear hb
          go_wp2_with fail
          refine (spoil_any F (H8.out.keep (StrT.of_below ((Below.refl _ _).alloc (Nat.le_refl _) _)))).mono ?_
          rintro e w9 ⟨rfl, ht⟩
          have C9 : RowKit.Hid (Below C w3 w9 ∧ C ≤ w9.heap.size) := Lib.hid (by
            have h1 := ((StrT.of_below (F := F) ((Below.refl _ _).alloc (Nat.le_refl _) _)).trans ht)
            exact ⟨C8.out.1.trans (FB.out _ _ C8.out.2 h1), Nat.le_trans C8.out.2 h1.tn.size⟩)
          clear ht
          go_wp2_with fail
          refine (sameVersions_any _ _ (VersAt.keep (S' := fun b => b < C) HVv.out (fun b h _ => C9.out.1.block b h) (fun _ h _ => h)) (VersAt.keep (S' := fun b => b < C) HVo.out (fun b h _ => C9.out.1.block b h) (fun _ h _ => h)) HL.out.vs).mono ?_
          rintro e wa ⟨rfl, hb⟩
          have CA : RowKit.Hid (Below C w3 wa ∧ C ≤ wa.heap.size) := Lib.hid ⟨C9.out.1.trans (hb.mono C9.out.2), Nat.le_trans C9.out.2 hb.size⟩
          clear hb
          go_wp2_with fail
          refine (merge_any (VersAt.keep (S' := fun b => b < C) HVv.out (fun b h _ => CA.out.1.block b h) (fun _ h _ => h)) HL.out HL.out.latest).mono ?_
          rintro e wb ⟨cs, rfl, hM, hb⟩
          have CB : RowKit.Hid (Below C w3 wb ∧ C ≤ wb.heap.size) := Lib.hid ⟨CA.out.1.trans (hb.mono CA.out.2), Nat.le_trans CA.out.2 hb.size⟩
          rw [← HG.out] at hM
          have HMb := Lib.hid hM
          clear hb hM
          go_wp2_with fail
          refine (merge_any (VersAt.keep (S' := fun b => b < C) HVo.out (fun b h _ => CB.out.1.block b h) (fun _ h _ => h)) HL.out HL.out.latest).mono ?_
          rintro e wc ⟨ds, rfl, hM, hb⟩
          have CC : RowKit.Hid (Below C w3 wc ∧ C ≤ wc.heap.size) := Lib.hid ⟨CB.out.1.trans (hb.mono CB.out.2), Nat.le_trans CB.out.2 hb.size⟩
          rw [← HG.out] at hM
          have HMc := Lib.hid hM
          have HMb' := Lib.hid (HMb.out.keep (S' := fun _ => True) (Stay.of_below hb) (fun _ _ _ => trivial))
          clear hb hM
          go_wp2_with fail
          refine (same_any _ _ HMb'.out HMc.out OG.out).mono ?_
          rintro e wd ⟨rfl, hb⟩
          have CD : RowKit.Hid (Below C w3 wd) := Lib.hid (CC.out.1.trans (hb.mono CC.out.2))
          clear hb
          go_wp2_with fail
          go_ret
          exact ⟨rfl, B3.out.trans (CD.out.mono hwC)⟩
end Go.Proofs.YtpdldbapagchfaaGreatDoor
