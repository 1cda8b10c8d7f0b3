/- The lenders of a case. -/
import Derived.Test.YtdojgbpaheadnaaGreatQP
import Derived.Test.YtdojgbpaheadnaaGreatQRS
import Derived.Test.YtdojgbpaheadnaaGreatQSK
import Derived.Test.YtdojgbpaheadnaaGreatQRNa
set_option linter.unusedVariables false
set_option linter.unusedSimpArgs false

namespace Go.Proofs.YtdojgbpaheadnaaGreat
open Go.RowKit Go.Shelf Go.Maps Go.Lib Go.Sort

theorem gives_same (a x : Int) (db : Nat) (W : World) (hc : W.cell? ⟨db, 0, none⟩ = some (i64 a)) :
  FnGives Tryz.prog 86 #[.pointer (some ⟨db, 0, none⟩)] #[.int .i64 x] (.bool (decide (x = a))) W := by
 show Calls Tryz.prog 86 #[.int .i64 x, .pointer (some ⟨db, 0, none⟩)] W _
 have e : (x == a) = decide (x = a) := by by_cases h : x = a <;> simp [h]
 have HE := Lib.hid e
 go_enter Tryz.func86, Tryz.ntmps86
 go_wp2_with fail
 go_ret
 exact ⟨ret_bool HE.out, 0, rfl⟩
theorem pred_same (a : Int) (db : Nat) (w : World) (hd : db < w.heap.size) (hc : w.cell? ⟨db, 0, none⟩ = some (i64 a)) :
  PredAt Tryz.prog 86 #[.pointer (some ⟨db, 0, none⟩)] (Value.int .i64) (fun x => decide (x = a)) w :=
 fun W x hb => gives_same a x db W ((hb.cell (p := ⟨db, 0, none⟩) hd).trans hc)
theorem over_same (a : Int) (db blk off size : Nat) (w : World) (hd : db < w.heap.size) (hne : db ≠ blk) (hc : w.cell? ⟨db, 0, none⟩ = some (i64 a)) :
  PredOver Tryz.prog 86 #[.pointer (some ⟨db, 0, none⟩)] (Value.int .i64) (fun x => decide (x = a)) blk off size w :=
 fun n os dk x _ => gives_same a x db _ (by
  unfold sortWorld
  rw [cell?_grow _ _ _ (by show db < (putRow _ _ _ _ _).heap.size; rw [size_putRow]; exact hd), cell?_putRow_other _ _ blk off _ _ (Or.inl hne)]
  exact hc)
theorem without_any {w : World} {B h c : Nat} {L : List Int} (a : Int) (db : Nat) (hr : w.ownsRow B 3 1 (.slice (some ⟨h, 0, none⟩) L.length c) L.length (L.map (Value.int .i64))) (hd : db < w.heap.size) (hne : db ≠ h) (hc : w.cell? ⟨db, 0, none⟩ = some (i64 a)) (hl : L.length ≤ 100000) :
  Calls Tryz.prog 85 #[.slice (some ⟨h, 0, none⟩) L.length c, .func (.func 86) #[] #[.pointer (some ⟨db, 0, none⟩)]] w fun e w' =>
   e = .returned (.slice (some ⟨h, 0, none⟩) (L.filter fun x => !decide (x = a)).length c) ∧ (∀ j u, ((L.filter fun x => !decide (x = a)).map (Value.int .i64))[j]? = some u → w'.cell? ⟨h, j, none⟩ = some u) ∧ Tn (fun k => k = h) w w' := by
 obtain ⟨_, cap, e, h1, h2, h3, ⟨_, _, e2⟩ | ⟨g, e2, _, hgB, hgl, hg⟩⟩ := row_cellz hr
 ·rw [e2] at e; cases e
 rw [e2] at e
 injection e with e _ e3
 injection e with e
 injection e with e
 subst e e3
 have hcap : c ≤ 9223372036854775807 := by unfold maxLen at h2; omega
 have hfz : ∀ j, w.frozen? ⟨h, j, none⟩ = false := World.ownsRow.frozenAt hr
 have hH : Go.Sort.Holds (Value.int .i64) w h 0 L.toArray := fun j hj => by
  have hj' : j < L.length := by simpa using hj
  rw [Nat.zero_add]
  exact ⟨by rw [hg j (i64 L[j]) (by simp [hj']), getElem!_pos L.toArray j hj]; simp, hfz j⟩
 have eg : ∀ args w, (callFunc 86 args).run Tryz.prog w = .ok (.enter 86 args) w := enters_of Tryz.func86 (by kernel_rfl) rfl
 have hcon := AnyE.slices_DeleteFunc Tryz.delF (Value.int .i64) (fun _ => rfl) (fun x => decide (x = a)) 86 #[.pointer (some ⟨db, 0, none⟩)] eg 0 Tryz.zeroValue3 h 0 c L.toArray w
  (pred_same a db w hd hc) (over_same a db h 0 L.toArray.size w hd hne hc) hH (by simp; omega) (by simpa using h1)
 have e0 : L.toArray.size = L.length := by simp
 have e1 : L.toArray.toList = L := by simp
 rw [e0, e1] at hcon
 change Calls Tryz.prog 85 _ _ _ at hcon
 refine hcon.mono ?_
 rintro e w' ⟨rfl, q, rfl⟩
 obtain ⟨M, hM⟩ : ∃ M, M = L.filter fun x => !decide (x = a) := ⟨_, rfl⟩
 have hMl : M.length ≤ L.length := by rw [hM]; exact List.length_filter_le _ _
 rw [← hM]
 have hs : (M ++ List.replicate (L.length - M.length) 0).toArray.size = L.toArray.size := by simp; omega
 have hP := Go.Sort.holds_putRow (Value.int .i64) (Go.Sort.ahead w q) h 0 L.toArray (M ++ List.replicate (L.length - M.length) 0).toArray hH hs
 refine ⟨rfl, fun j u hu => ?_, (tn_ahead w q _).trans ((tn_putRow (Go.Sort.ahead w q) h 0 _).mono fun k hk => hk)⟩
 have hj : j < M.length := by have := (List.getElem?_eq_some_iff.1 hu).1; simpa using this
 have := (hP j (by rw [hs]; simp; omega)).1
 rw [Nat.zero_add] at this
 rw [this, getElem!_pos _ j (by rw [hs]; simp; omega)]
 rw [List.getElem?_map, List.getElem?_eq_getElem hj] at hu
 rw [← hu]
 simp [List.getElem_append_left hj]
end Go.Proofs.YtdojgbpaheadnaaGreat

/- The rota of a case. -/
namespace Go.Proofs.YtdojgbpaheadnaaGreat
open Go.RowKit Go.Shelf Go.Maps

def LeftAt (w : World) (P : Nat → Prop) (la : Option Addr) (lc : Nat) (L : List Int) : Prop :=
 (L.length ≤ lc ∧ lc ≤ 9223372036854775807) ∧ (L = [] ∨ ∃ g o, la = some ⟨g, o, none⟩ ∧ P g ∧ ∀ j u, L[j]? = some u → w.cell? ⟨g, o + j, none⟩ = some (i64 u))
def LendE (rota : List Int) (a r : Int) (w : World) (e : Ending) (w' : World) : Prop :=
 ∃ la lc, e = .returned (.slice la (rotOf rota a r).length lc) ∧ LeftAt w' (fun g => w.heap.size ≤ g) la lc (rotOf rota a r) ∧ Below w.heap.size w w'
set_option maxRecDepth 100000 in
set_option maxHeartbeats 4000000 in
theorem lenders_any {w : World} {B b : Nat} {rv x0 x1 x3 : Value} {rota : List Int} (a r : Int) (hb : Blk w b #[x0, x1, rv, x3] 58) (hrow : w.ownsRow B 3 1 rv rota.length (rota.map (Value.int .i64))) (hl : rota.length ≤ 1000) :
  Calls Tryz.prog 53 #[.pointer (some ⟨b, 0, none⟩), .agg #[i64 a, i64 r]] w (LendE rota a r w) := by
 obtain ⟨i0, hi, hz1, hz2, hz3⟩ := info_parts info3
 obtain ⟨ra, rc, hrv, h1, h2, h3, h4⟩ := row_cellz hrow
 have c2 : w.cell? ⟨b, 2, none⟩ = some (.slice ra rota.length rc) := (hb.cell 2).trans (congrArg some hrv)
 have hbl := hb.lt
 have hrc : rc ≤ 9223372036854775807 := by unfold maxLen at h2; omega
 by_cases hn : rota.length = 0
 ·have h0 : rota = [] := List.eq_nil_of_length_eq_zero hn
  have hR : Hid (rotOf rota a r = []) := Lib.hid (by rw [h0]; simp [rotOf])
  rw [hn] at c2
  clear hb hrow h1 h2 h3 h4 hrv h0 hn
  go_enter Tryz.func53, Tryz.ntmps53
  go_wp2_with fail
  go_ret
  refine ⟨none, 0, by rw [hR.out]; rfl, ⟨⟨by rw [hR.out]; simp, by omega⟩, .inl hR.out⟩, ?_⟩
  exact (Below.refl _ _).alloc (Nat.le_refl _) _
 ·obtain ⟨g, rfl, -, hgB, hgl, hc⟩ := h4.resolve_left (fun h => hn h.1)
  have HC := Lib.hid hc
  have HX := Lib.hid h3
  obtain ⟨X, hX⟩ : ∃ X, IntKind.i64.wrap (a + r) = X := ⟨_, rfl⟩
  obtain ⟨K, hK⟩ : ∃ K, K = rotK rota.length a r := ⟨_, rfl⟩
  have hKl : K < rota.length := by rw [hK]; exact rotK_lt a r (by omega)
  have hn0 : (0 : Int) < rota.length := by omega
  have hwx : IntKind.i64.wrap (X.tmod (rota.length : Int) + rota.length) = X.tmod rota.length + rota.length := by
   have := Int.tmod_lt_of_pos X hn0
   have := Int.lt_tmod_of_pos X hn0
   rw [IntKind.wrap_i64]; omega
  have hq : (X.tmod (rota.length : Int) + rota.length).tmod rota.length = (K : Int) := by
   rw [tmod_mod _ _ hn0, hK, ← hX]
   unfold rotK wr64
   have := Int.emod_nonneg (IntKind.i64.wrap (a + r)) (show (rota.length : Int) ≠ 0 by omega)
   omega
  have hnz : ¬ ((rota.length : Int) = 0) := by omega
  have HK := Lib.hid hK
  clear hb hrow h2 h3 h4 hrv hc hK
  go_enter Tryz.func53, Tryz.ntmps53
  go_wp2_with fail
  obtain ⟨db, hdb⟩ : ∃ db, db = w.heap.size := ⟨_, rfl⟩
  obtain ⟨w1, hw1⟩ : ∃ w1, w1 = w.alloc (.cells #[i64 a, i64 r] 106) := ⟨_, rfl⟩
  have D1 : Hid (Blk w1 db #[i64 a, i64 r] 106) := Lib.hid (by rw [hw1, hdb]; exact Blk.new _ _ _)
  have B1 : Hid (Below w.heap.size w w1) := Lib.hid (by rw [hw1]; exact (Below.refl _ _).alloc (Nat.le_refl _) _)
  have HDB : Hid (db = w.heap.size) := Lib.hid hdb
  have C1 : Hid (w1.cell? ⟨b, 2, none⟩ = some (.slice (some ⟨g, 0, none⟩) rota.length rc)) := Lib.hid (Below.cellE B1.out c2)
  have G1 : Hid (∀ j u, (rota.map (Value.int .i64))[j]? = some u → w1.cell? ⟨g, j, none⟩ = some u) := Lib.hid (news_same B1.out hgl HC.out)
  have hgl1 : g < w1.heap.size := Nat.lt_of_lt_of_le hgl B1.out.size
  rw [← hw1, ← hdb]
  clear hw1 hdb hwx hq hX c2
  obtain ⟨S, hS⟩ : ∃ S : World → Prop, S = fun W => Below w1.heap.size w1 W := ⟨_, rfl⟩
  have LD : Hid (∀ W, S W → W.cell? ⟨b, 2, none⟩ = some (.slice (some ⟨g, 0, none⟩) rota.length rc)) := Lib.hid (by rw [hS]; exact fun W h => Below.cellE h C1.out)
  have UU : Hid (∀ W, Below w1.heap.size w1 W → S W) := Lib.hid (by rw [hS]; exact fun W h => h)
  have hHeld := UU.out _ (Below.refl w1.heap.size w1).drew
  have hce : ¬ rc = K := by omega
  clear hS
  refine wp_region_held_drew (S := S) (by kernel_rfl) hHeld (fun _ => ?_)
  apply wpAnyH_apartVV (fun u W => W.ownsRow w1.heap.size 3 1 u rota.length ((rota.drop K ++ rota.take K).map (Value.int .i64)) ∧ Below w1.heap.size w1 W)
  case take =>
   intro R hR
   refine tk 0 (v := ?_) rfl hHeld ?_ ?_; rotate_left
   ·(intro w hSw; have l0 := LD.out w hSw; go_simp; try (with_reducible rfl))
   try simp only [gZ]
   refine tk 1 (v := ?_) rfl hHeld ?_ ?_; rotate_left
   ·(intro w hSw; have l0 := LD.out w hSw; go_simp; try (with_reducible rfl))
   try simp only [gZ]
   refine tk 2 (v := ?_) rfl hHeld ?_ ?_; rotate_left
   ·(intro w hSw; have l0 := LD.out w hSw; go_simp; try (with_reducible rfl))
   try simp only [gZ]
   refine tk 3 (v := ?_) rfl hHeld ?_ ?_; rotate_left
   ·(intro w hSw; have l0 := LD.out w hSw; go_simp; try (with_reducible rfl))
   try simp only [gZ]
   refine tk 4 (v := ?_) rfl hHeld ?_ ?_; rotate_left
   ·(intro w hSw; have l0 := LD.out w hSw; go_simp; try (with_reducible rfl))
   try simp only [gZ]
   refine tk 5 (v := ?_) rfl hHeld ?_ ?_; rotate_left
   ·(intro w hSw; clear hSw; go_simp; rw [if_pos (by omega)]; try (with_reducible rfl))
   try simp only [gZ]
   refine tk 7 (v := ?_) rfl hHeld ?_ ?_; rotate_left
   ·(intro w hSw; have l0 := LD.out w hSw; go_simp; try (with_reducible rfl))
   try simp only [gZ]
   refine tk 8 (v := ?_) rfl hHeld ?_ ?_; rotate_left
   ·(intro w hSw; have l0 := LD.out w hSw; go_simp; try (with_reducible rfl))
   try simp only [gZ]
   refine tk 9 (v := ?_) rfl hHeld ?_ ?_; rotate_left
   ·(intro w hSw; have l0 := LD.out w hSw; go_simp; try (with_reducible rfl))
   try simp only [gZ]
   refine tk 10 (v := ?_) rfl hHeld ?_ ?_; rotate_left
   ·(intro w hSw; have l0 := LD.out w hSw; go_simp; try (with_reducible rfl))
   try simp only [gZ]
   refine tk 11 (v := ?_) rfl hHeld ?_ ?_; rotate_left
   ·(intro w hSw; have l0 := LD.out w hSw; go_simp; try (with_reducible rfl))
   try simp only [gZ]
   refine tk 12 (v := ?_) rfl hHeld ?_ ?_; rotate_left
   ·(intro w hSw; clear hSw; go_simp; rw [if_pos (by omega)]; try (with_reducible rfl))
   try simp only [gZ]
   refine wpAnyH_one (i := 6) rfl (by kernel_rfl) (by rfl) ?_
   go_simp
   refine (Tryz.slices_Clone_int g K (rota.length - K) (rc - K) (rota.drop K) w1.drew (by simp) (by omega) (fun j hj => by
    have hj' : j < rota.length - K := by simpa using hj
    show w1.cell? _ = _
    rw [G1.out (K + j) (i64 (rota.getD (K + j) 0)) (by rw [List.getElem?_map, List.getElem?_eq_getElem (show K + j < rota.length by omega), getD_get _ _ (show K + j < rota.length by omega)]; rfl)]
    simp [List.getD_eq_getElem?_getD, List.getElem?_drop])).mono ?_
   rintro e W2 ⟨v2, rfl, hr2, _, hb2⟩
   rw [show rota.length - K = (rota.drop K).length by simp, List.take_length] at hr2
   have B2 : Hid (Below w1.heap.size w1 W2) := Lib.hid ((Below.refl w1.heap.size w1).drew.trans hb2)
   have R2 : Hid (W2.ownsRow w1.heap.size 3 1 v2 (rota.drop K).length ((rota.drop K).map (Value.int .i64))) := Lib.hid hr2
   clear hr2 hb2
   refine ⟨UU.out _ B2.out, ?_⟩
   refine wpAnyH_one (i := 13) rfl (by kernel_rfl) (by rfl) ?_
   refine wp_append_all (.tmp 32) (.tmp 38) 25 rfl w1.heap.size 3 i0 (.int .i64 0) 1 8 Tryz.underlying25 hi hz1 hz2 hz3 rfl (by omega) v2 _ _ rfl R2.out K ((rota.map (Value.int .i64)).take (K * 1)) _ rfl (src_take HX.out (by omega) (news_same B2.out hgl1 G1.out)) (fun u hu => ints1 _ u (List.mem_of_mem_take hu)) (by unfold maxLen; rw [List.length_drop]; omega) (by rw [List.length_drop]; omega) B2.out.size ?_
   intro v3 W3 hown3 hg3 hat3
   have B3 : Hid (Below w1.heap.size w1 W3) := Lib.hid (B2.out.grown hg3 B2.out.size (fun j e => (row_lt R2.out j e).1))
   have R3 : Hid (W3.ownsRow w1.heap.size 3 1 v3 rota.length ((rota.drop K ++ rota.take K).map (Value.int .i64))) := Lib.hid (by
    have e1 : (rota.drop K).length + K = rota.length := by rw [List.length_drop]; omega
    have e2 : (rota.drop K).map (Value.int .i64) ++ (rota.map (Value.int .i64)).take (K * 1) = (rota.drop K ++ rota.take K).map (Value.int .i64) := by rw [Nat.mul_one, List.map_append, List.map_take]
    rw [← e1, ← e2, e1]; rw [e1] at hown3; exact hown3)
   have hHeld := UU.out _ B3.out
   clear hown3 hg3 hat3
   refine ⟨hHeld, ?_⟩
   refine tk 14 (v := ?_) rfl hHeld ?_ ?_; rotate_left
   ·(intro w hSw; clear hSw; go_simp; try (with_reducible rfl))
   try simp only [gZ]
   exact wpAnyH_done (by kernel_rfl) ⟨rfl, hR v2 v3 _ ⟨R3.out, B3.out⟩⟩ _
  case rest =>
   rintro x u W ⟨hu, hb⟩
   have hLl : (rota.drop K ++ rota.take K).length = rota.length := by rw [List.length_append, List.length_drop, List.length_take]; omega
   obtain ⟨ua, uc, rfl, u1, u2, u3, u4⟩ := row_cellz hu
   obtain ⟨h, rfl, -, hh1, hh2, -⟩ := u4.resolve_left (fun h => hn h.1)
   have DW : W.cell? ⟨db, 0, none⟩ = some (i64 a) := Below.cellE hb (D1.out.cell 0)
   have hdl : db < w1.heap.size := D1.out.lt
   rw [← hLl] at hu
   have WO := Lib.hid (without_any a db hu (Nat.lt_of_lt_of_le hdl hb.size) (by omega) DW (by rw [hLl]; omega))
   have hRO : rotOf rota a r = (rota.drop K ++ rota.take K).filter fun x => !decide (x = a) := by unfold rotOf; rw [← HK.out]
   rw [← hRO, hLl] at WO
   have BW : Hid (Below w.heap.size w W) := Lib.hid (B1.out.trans (hb.mono B1.out.size))
   have HH : Hid (w1.heap.size ≤ h) := Lib.hid hh1
   have huc : uc ≤ 9223372036854775807 := by unfold maxLen at u2; omega
   have HRL : Hid ((rotOf rota a r).length ≤ uc) := Lib.hid (Nat.le_trans (rot_len rota a r) u1)
   clear hu hb u2 u3 u4 hLl DW hRO
   go_wp2_with fail
   refine WO.out.mono ?_
   rintro e W5 ⟨rfl, hc5, ht5⟩
   have F : Hid (LendE rota a r w (.returned (.slice (some ⟨h, 0, none⟩) (rotOf rota a r).length uc)) W5) := Lib.hid
    ⟨_, uc, rfl, ⟨⟨HRL.out, huc⟩, .inr ⟨h, 0, rfl, Nat.le_trans B1.out.size HH.out, fun j u hu => by rw [Nat.zero_add]; exact hc5 j _ (by rw [List.getElem?_map, hu]; rfl)⟩⟩, BW.out.trans (ht5.below BW.out.size fun k hk => by rw [hk]; exact Nat.le_trans B1.out.size HH.out)⟩
   clear hc5 ht5
   go_wp2_with fail
   go_ret
   exact F.out
end Go.Proofs.YtdojgbpaheadnaaGreat
