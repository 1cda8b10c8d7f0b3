/- The lenders of a case. -/
import Derived.Test.YtdojgbpaheadnaaQP
import Derived.Test.YtdojgbpaheadnaaQRS
import Derived.Test.YtdojgbpaheadnaaQDF
set_option linter.unusedVariables false
set_option linter.unusedSimpArgs false

namespace Go.Proofs.Ytdojgbpaheadnaa
open Go.RowKit Go.Shelf Go.Maps Go.Lib Go.Sort

/-- The closure: is it the asker? -/
theorem gives_same (a x : Int) (db : Nat) (W : World) (hc : W.cell? ⟨db, 0, none⟩ = some (i64 a)) :
    FnGives Try.prog 73 #[.pointer (some ⟨db, 0, none⟩)] #[.int .i64 x] (.bool (decide (x = a))) W := by
  show Calls Try.prog 73 #[.int .i64 x, .pointer (some ⟨db, 0, none⟩)] W _
  have e : (x == a) = decide (x = a) := by by_cases h : x = a <;> simp [h]
  have HE := Lib.hid e
  go_enter Try.func73, Try.ntmps73
  go_wp2_with fail
  go_ret
  exact ⟨ret_bool HE.out, 0, rfl⟩
theorem pred_same (a : Int) (db : Nat) (w : World) (hd : db < w.heap.size) (hc : w.cell? ⟨db, 0, none⟩ = some (i64 a)) :
    PredAt Try.prog 73 #[.pointer (some ⟨db, 0, none⟩)] (Value.int .i64) (fun x => decide (x = a)) w :=
  fun W x hb => gives_same a x db W ((hb.cell (p := ⟨db, 0, none⟩) hd).trans hc)
theorem over_same (a : Int) (db blk off size : Nat) (w : World) (hd : db < w.heap.size) (hne : db ≠ blk) (hc : w.cell? ⟨db, 0, none⟩ = some (i64 a)) :
    PredOver Try.prog 73 #[.pointer (some ⟨db, 0, none⟩)] (Value.int .i64) (fun x => decide (x = a)) blk off size w :=
  fun n os dk x _ => gives_same a x db _ (by
    unfold sortWorld
    rw [cell?_grow _ _ _ (by show db < (putRow _ _ _ _ _).heap.size; rw [size_putRow]; exact hd), cell?_putRow_other _ _ blk off _ _ (Or.inl hne)]
    exact hc)
/-- The asker is taken out. -/
theorem without_any {w : World} {B h c : Nat} {L : List Int} (a : Int) (db : Nat) (hr : w.ownsRow B 3 1 (.slice (some ⟨h, 0, none⟩) L.length c) L.length (L.map (Value.int .i64))) (hd : db < w.heap.size) (hne : db ≠ h) (hc : w.cell? ⟨db, 0, none⟩ = some (i64 a)) (hl : L.length ≤ 100000) :
    Calls Try.prog 72 #[.slice (some ⟨h, 0, none⟩) L.length c, .func (.func 73) #[] #[.pointer (some ⟨db, 0, none⟩)]] w fun e w' =>
      e = .returned (.slice (some ⟨h, 0, none⟩) (L.filter fun x => !decide (x = a)).length c) ∧ (∀ j u, ((L.filter fun x => !decide (x = a)).map (Value.int .i64))[j]? = some u → w'.cell? ⟨h, j, none⟩ = some u) ∧ Tn (fun k => k = h) w w' := by
  obtain ⟨_, cap, e, h1, h2, h3, ⟨_, _, e2⟩ | ⟨g, e2, _, hgB, hgl, hg⟩⟩ := row_cellz hr
  · rw [e2] at e; cases e
  rw [e2] at e
  injection e with e _ e3
  injection e with e
  injection e with e
  subst e e3
  have hcap : c ≤ 9223372036854775807 := by unfold maxLen at h2; omega
  have hfz : ∀ j, w.frozen? ⟨h, j, none⟩ = false := World.ownsRow.frozenAt hr
  have hH : Go.Sort.Holds (Value.int .i64) w h 0 L.toArray := fun j hj => by
    have hj' : j < L.length := by simpa using hj
    rw [Nat.zero_add]
    exact ⟨by rw [hg j (i64 L[j]) (by simp [hj']), getElem!_pos L.toArray j hj]; simp, hfz j⟩
  have eg : ∀ args w, (callFunc 73 args).run Try.prog w = .ok (.enter 73 args) w := enters_of Try.func73 (by kernel_rfl) rfl
  have hcon := AnyE.slices_DeleteFunc Try.delF (Value.int .i64) (fun _ => rfl) (fun x => decide (x = a)) 73 #[.pointer (some ⟨db, 0, none⟩)] eg 0 Try.zeroValue3 h 0 c L.toArray w
    (pred_same a db w hd hc) (over_same a db h 0 L.toArray.size w hd hne hc) hH (by simp; omega) (by simpa using h1)
  have e0 : L.toArray.size = L.length := by simp
  have e1 : L.toArray.toList = L := by simp
  rw [e0, e1] at hcon
  change Calls Try.prog 72 _ _ _ at hcon
  refine hcon.mono ?_
  rintro e w' ⟨rfl, q, rfl⟩
  obtain ⟨M, hM⟩ : ∃ M, M = L.filter fun x => !decide (x = a) := ⟨_, rfl⟩
  have hMl : M.length ≤ L.length := by rw [hM]; exact List.length_filter_le _ _
  rw [← hM]
  have hs : (M ++ List.replicate (L.length - M.length) 0).toArray.size = L.toArray.size := by simp; omega
  have hP := Go.Sort.holds_putRow (Value.int .i64) (Go.Sort.ahead w q) h 0 L.toArray (M ++ List.replicate (L.length - M.length) 0).toArray hH hs
  refine ⟨rfl, fun j u hu => ?_, (tn_ahead w q _).trans ((tn_putRow (Go.Sort.ahead w q) h 0 _).mono fun k hk => hk)⟩
  have hj : j < M.length := by have := (List.getElem?_eq_some_iff.1 hu).1; simpa using this
  have := (hP j (by rw [hs]; simp; omega)).1
  rw [Nat.zero_add] at this
  rw [this, getElem!_pos _ j (by rw [hs]; simp; omega)]
  rw [List.getElem?_map, List.getElem?_eq_getElem hj] at hu
  rw [← hu]
  simp [List.getElem_append_left hj]
end Go.Proofs.Ytdojgbpaheadnaa
