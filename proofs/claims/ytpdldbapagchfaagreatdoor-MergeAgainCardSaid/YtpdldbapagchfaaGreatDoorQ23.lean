/- The reference's look for a letter. -/
import Derived.Test.YtpdldbapagchfaaGreatDoorQ22
import Derived.Test.YtpdldbapagchfaaGreatDoorQ06
import Derived.Laws.Cover4
set_option linter.unusedVariables false
set_option linter.unusedSimpArgs false

namespace Go.Proofs.YtpdldbapagchfaaGreatDoor
open Go.RowKit Go.Shelf Go.Maps

theorem rowsRV_at {k : Nat} (hk : k < rowsR.length) (i : Nat) (hi : i < 2) : rowsRV[k * 2 + i]? = ([.string (ofL rowsR[k].1), .string (ofL rowsR[k].2)] : List Value)[i]? := by
  have h := flat_get (css := rowsR.map fun r => [Value.string (ofL r.1), .string (ofL r.2)]) (z := 2) (fun c hc => by obtain ⟨r, _, rfl⟩ := List.mem_map.1 hc; rfl) k (by simpa using hk) i hi
  rw [← List.flatMap_def] at h
  rw [show rowsRV = rowsR.flatMap fun r => [Value.string (ofL r.1), .string (ofL r.2)] from rfl, h]
  simp
theorem rowsR_small : ∀ r ∈ rowsR, r.2.length ≤ 1000 := by decide +kernel
/-- '[]rune(s)'. -/
theorem runes_conv (s : ByteArray) (hs : s.size ≤ 100000) (w : World) : ∃ cap w', (convert 9 129 (.string s)).run Tryz.prog w = .ok (.slice (some ⟨w.heap.size, 0, none⟩) (runes s).length cap) w' ∧ (runes s).length ≤ cap ∧
    (∀ (j c : Nat), (runes s)[j]? = some c → w'.cell? ⟨w.heap.size, j, none⟩ = some (.int .i32 c)) ∧ Below w.heap.size w w' := by
  have hz : (Conv.runesFrom s s.size 0 #[]).size = (runes s).length := by rw [runesFrom_runes]; simp
  have hl := runes_len s
  have hr := run_runes_of_string (P := Tryz.prog) w 9 129 21 s Tryz.underlying9 Tryz.underlying129 Tryz.underlying21 (by rw [hz]; omega)
  rw [hz] at hr
  refine ⟨_, _, hr, ?_, fun j c hc => ?_, (Below.refl _ _).drew.alloc (Nat.le_refl _) _⟩
  · have := grownCap_ge w (runes s).length 0 21; omega
  · have hj := (List.getElem?_eq_some_iff.1 hc).1
    have hb := Blk.new w.drew (Conv.runesFrom s s.size 0 #[] ++ Array.replicate (grownCap w (runes s).length 0 21 - (runes s).length) (.int .i32 0)) 21
    refine (hb.cell j).trans ?_
    rw [Array.getElem?_append_left (by rw [hz]; exact hj), runesFrom_runes]
    simp [hc, runeV]
theorem tabFirst_at {c : Nat} : ∀ {rows : List (List UInt8 × List Nat)} {k : Nat} (hk : k < rows.length), c ∈ rows[k].2 → (∀ j (h : j < rows.length), j < k → c ∉ rows[j].2) → tabFirst rows c = some rows[k].1
  | (s, l) :: rows, 0, _, h, _ => by unfold tabFirst; rw [if_pos (show c ∈ l from h)]; rfl
  | (s, l) :: rows, k + 1, hk, h, h0 => by
    unfold tabFirst
    rw [if_neg (show c ∉ l from h0 0 (by simp) (by omega))]
    exact tabFirst_at (by simpa using hk) h fun j hj hjk => h0 (j + 1) (by simpa using hj) (by omega)
theorem tabFirst_none {c : Nat} : ∀ {rows : List (List UInt8 × List Nat)}, (∀ j (h : j < rows.length), c ∉ rows[j].2) → tabFirst rows c = none
  | [], _ => rfl
  | (s, l) :: rows, h => by
    unfold tabFirst
    rw [if_neg (show c ∉ l from h 0 (by simp))]
    exact tabFirst_none fun j hj => h (j + 1) (by simpa using hj)
def letS (o : Option (List UInt8)) : ByteArray := match o with
  | some s => ofL s
  | none => ⟨#[]⟩
set_option maxRecDepth 100000 in
set_option maxHeartbeats 4000000 in
theorem letterR_any (c : Nat) (w : World) : Calls Tryz.prog 103 #[.int .i32 c] w fun e w' => e = .returned (.string (letS (tabC c))) ∧ Below w.heap.size w w' := by
  obtain ⟨W1, hW1⟩ : ∃ W1, W1 = w.alloc (.cells rowsRV.toArray 121) := ⟨_, rfl⟩
  have B1 : RowKit.Hid (Below w.heap.size w W1) := Lib.hid (by rw [hW1]; exact (Below.refl _ _).alloc (Nat.le_refl _) _)
  have K1 : RowKit.Hid (Blk W1 w.heap.size rowsRV.toArray 121) := Lib.hid (by rw [hW1]; exact Blk.new _ _ _)
  have HT := Lib.hid (tableR_any w)
  go_enter Tryz.func103, Tryz.ntmps103
  go_wp2_with fail
  refine HT.out.mono ?_
  rintro e w1 ⟨rfl, rfl⟩
  go_wp2_with fail
  rw [← hW1]
  clear hW1 HT
  go_loopw [4] (fun i wr => ∃ k : Nat, k ≤ 31 ∧ i = .int .i64 k ∧ Blk wr w.heap.size rowsRV.toArray 121 ∧ Below w.heap.size w wr ∧ ∀ j (h : j < rowsR.length), j < k → c ∉ (rowF rowsR[j]).2) (fun i _ => 31 - (intOf i).toNat)
  case atStart => exact ⟨0, by omega, rfl, K1.out, B1.out, fun j _ h => by omega⟩
  case round =>
    obtain ⟨k, hk, rfl, hb, hB, hall⟩ := hrel
    have HK := Lib.hid hb
    have HB := Lib.hid hB
    have HA := Lib.hid hall
    clear hb hB hall
    by_cases hlt : k < 31
    · have hlx : k < rowsR.length := hlt
      obtain ⟨r, hr⟩ : ∃ r, r = rowsR[k] := ⟨_, rfl⟩
      have k0 : wr.cell? ⟨w.heap.size, k * 2, none⟩ = some (.string (ofL r.1)) := by
        rw [hr]; have := HK.out.cell (k * 2 + 0); rw [List.getElem?_toArray, rowsRV_at hlx 0 (by omega)] at this; exact this
      have k1 : wr.cell? ⟨w.heap.size, k * 2 + 1, none⟩ = some (.string (ofL r.2)) := by
        rw [hr]; have := HK.out.cell (k * 2 + 1); rw [List.getElem?_toArray, rowsRV_at hlx 1 (by omega)] at this; exact this
      have hrs : r.2.length ≤ 1000 := by rw [hr]; exact rowsR_small _ (List.getElem_mem hlx)
      have HR := Lib.hid hr
      obtain ⟨cap, w2, hcv, hcap, hcell, hb2⟩ := runes_conv (ofL r.2) (by rw [ofL_size]; omega) wr
      obtain ⟨m, hm⟩ : ∃ m, m = (runes (ofL r.2)).length := ⟨_, rfl⟩
      obtain ⟨g, hg⟩ : ∃ g, g = wr.heap.size := ⟨_, rfl⟩
      rw [← hm] at hcv hcap
      rw [← hg] at hcv hcell
      have hml : m ≤ 1000 := by rw [hm]; have := runes_len (ofL r.2); rw [ofL_size] at this; omega
      have HCELL := Lib.hid hcell
      have HM := Lib.hid hm
      have K2 : RowKit.Hid (Blk w2 w.heap.size rowsRV.toArray 121) := Lib.hid (HK.out.below hb2 HK.out.lt)
      have B2 := Lib.hid (HB.out.trans (hb2.mono HB.out.size))
      have e0 : w2.cell? ⟨w.heap.size, k * 2, none⟩ = some (.string (ofL r.1)) := Below.cellE hb2 k0
      have hd31 : decide ((k : Int) < 31) = true := by simp; omega
      clear hr hm hg hcell hb2 hrs
      go_wp2_with fail
      clear hd31 hcv
      go_loopw [6] (fun i wv => ∃ q : Nat, q ≤ m ∧ i = .int .i64 q ∧ wv = w2 ∧ ∀ j, j < q → (runes (ofL r.2))[j]? ≠ some c) (fun i _ => m - (intOf i).toNat)
      case atStart => exact ⟨0, by omega, rfl, rfl, fun j h => by omega⟩
      case round =>
        obtain ⟨q, hq, rfl, rfl, hno⟩ := hrel
        have HNO := Lib.hid hno
        clear hno
        by_cases hqm : q < m
        · have hqx : q < (runes (ofL r.2)).length := by rw [← HM.out]; exact hqm
          obtain ⟨x, hx⟩ : ∃ x, (runes (ofL r.2))[q]? = some x := ⟨_, List.getElem?_eq_getElem hqx⟩
          have hc1 := HCELL.out q x hx
          have HX := Lib.hid hx
          clear hx hqx
          by_cases hxc : x = c
          · subst hxc
            have HTC : RowKit.Hid (tabC x = some r.1) := Lib.hid (by
              have hk' : k < (rowsR.map rowF).length := by rw [List.length_map]; exact hlx
              have h1 := tabFirst_at (c := x) hk' (by
                rw [List.getElem_map]; unfold rowF; rw [← HR.out]
                exact List.mem_of_getElem? HX.out) (fun j h hj => by
                rw [List.getElem_map]
                exact HA.out j (by simpa using h) hj)
              rw [tabR_same] at h1
              rw [h1, List.getElem_map]; unfold rowF; rw [← HR.out])
            have heq : ((x : Int) == (x : Int)) = true := by simp
            go_wp2_with fail
            go_ret
            exact ⟨by rw [HTC.out]; rfl, B2.out⟩
          · have heq : ((x : Int) == (c : Int)) = false := by simp; omega
            have HNE := Lib.hid hxc
            clear hxc
            go_wp2_with fail
            exact ⟨⟨q + 1, hqm, by go_num, trivial, fun j hj => by
              by_cases e : j = q
              · subst e; rw [HX.out]; intro e'; injection e' with e'; exact HNE.out e'
              · exact HNO.out j (by omega)⟩, by simp [intOf]; omega⟩
        · obtain rfl : q = m := by omega
          go_wp2_with fail
          exact ⟨⟨k + 1, hlt, by go_num, K2.out, B2.out, fun j h hj => by
            by_cases e : j = k
            · subst e
              unfold rowF
              rw [← HR.out]
              intro hmem
              obtain ⟨i, hi, e2⟩ := List.getElem_of_mem hmem
              exact HNO.out i (by rw [HM.out]; exact hi) (by rw [List.getElem?_eq_getElem hi, e2])
            · exact HA.out j h (by omega)⟩, by simp [intOf]; omega⟩
    · obtain rfl : k = 31 := by omega
      have HTC : RowKit.Hid (tabC c = none) := Lib.hid (by
        rw [← tabR_same]
        exact tabFirst_none fun j h => by
          rw [List.getElem_map]
          exact HA.out j (by simpa using h) (by rw [List.length_map] at h; exact h))
      go_wp2_with fail
      go_ret
      exact ⟨by rw [HTC.out]; rfl, HB.out⟩
end Go.Proofs.YtpdldbapagchfaaGreatDoor

/- One character as a text. -/
namespace Go.Proofs.YtpdldbapagchfaaGreatDoor
open Go.RowKit Go.Shelf Go.Maps

/-- 'string([]rune{c})'. -/
theorem one_rune (w : World) (c : Int) (t : TypeId) : (convert 129 9 (.slice (some ⟨w.heap.size, 0, none⟩) 1 1)).run Tryz.prog (w.alloc (.cells #[.int .i32 c] t)) = .ok (.string (Utf8.encode c)) (w.alloc (.cells #[.int .i32 c] t)) := by
  have h := run_convert_runes (P := Tryz.prog) (w.alloc (.cells #[.int .i32 c] t)) 129 9 21 ⟨w.heap.size, 0, none⟩ 1 1 [c] (by simp) Tryz.underlying129 Tryz.underlying21 Tryz.underlying9 (fun j hj => by
    have : j = 0 := by simp at hj; omega
    subst this
    exact (Blk.new w #[.int .i32 c] t).cell 0)
  rw [h]
  have : runesBytes ([c].take 1) = Utf8.encode c := by
    simp [runesBytes]
  rw [this]
end Go.Proofs.YtpdldbapagchfaaGreatDoor
