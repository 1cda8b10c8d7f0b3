/- The contract of Funds.Encode, whole. -/
import Derived.Test.YtmnkgjgaileokaaCE
import Derived.Test.YtmnkgjgaileokaaFQ
import Derived.Deep.RegionHeld3
import Derived.Deep.AppendLies
namespace Go.Proofs.Ytmnkgjgaileokaa
open Go.RowKit Go.Shelf Go.Maps

def PV.row5 (v : PV) (x : Int) : List Int := [x, v.pa x, v.al x, v.sp x, v.en x]
def PV.codeOf (v : PV) (l : List Int) : List Int := l.flatMap v.row5
def PV.code (v : PV) : List Int := v.codeOf v.sorted
def PV.enc1 (v : PV) : ByteArray := ⟨(ints v.code).toArray⟩
theorem codeOf_len (v : PV) (l : List Int) : (v.codeOf l).length = 5 * l.length := by
  induction l with
  | nil => rfl
  | cons a l ih => unfold PV.codeOf at *; simp [List.flatMap_cons, PV.row5, ih]; omega
theorem codeOf_snoc (v : PV) (l : List Int) (x : Int) : v.codeOf (l ++ [x]) = v.codeOf l ++ v.row5 x := by simp [PV.codeOf]
theorem sorted_mem (v : PV) (x : Int) : x ∈ v.sorted ↔ x ∈ v.ids := (List.mergeSort_perm v.ids leI).mem_iff
theorem sorted_len (v : PV) : v.sorted.length = v.ids.length := (List.mergeSort_perm v.ids leI).length_eq
theorem code_in {v : PV} (h : Good v) : ∀ n ∈ v.code, -9223372036854775808 ≤ n ∧ n ≤ 9223372036854775807 := by
  intro n hn
  obtain ⟨x, hx, hn⟩ := List.mem_flatMap.1 hn
  rw [sorted_mem] at hx
  have h1 := h.fix.idb x hx
  have h2 := h.at0 x
  unfold PV.at0 PV.free0 PV.free at h2
  simp only [if_pos hx] at h2
  obtain ⟨a1, a2, a3, a4, a5⟩ := h2
  have hp : 0 ≤ v.pa x ∧ v.pa x ≤ 9223372036854775807 := by
    rcases h.par x hx with e | e
    · omega
    · have := h.fix.idb _ e; omega
  unfold PV.row5 at hn
  simp only [List.mem_cons, List.not_mem_nil, or_false] at hn
  rcases hn with rfl | rfl | rfl | rfl | rfl <;> omega
theorem slice_of {w : World} {B n : Nat} {v : Value} {L : List Int} (h : w.ownsRow B 3 1 v n (L.map encZ)) : ∃ a cap, v = .slice a L.length cap ∧ IntsAt w a L ∧ L.length ≤ cap ∧ cap ≤ 9223372036854775807 := by
  have hl : L.length = n := by have := h.1; simpa using this
  have h' := h
  rcases h.2 with ⟨rfl, e⟩ | ⟨g, cap, cur, rfl, _, h1, h2, h3, _⟩
  · have : L = [] := List.eq_nil_of_length_eq_zero (by omega)
    subst this
    exact ⟨none, 0, rfl, .inl rfl, by simp, by omega⟩
  · refine ⟨some ⟨g, 0, none⟩, cap, by rw [hl], .inr ⟨g, 0, rfl, heap_lt h1, fun k hk => ?_⟩, by omega, by unfold maxLen at h3; omega⟩
    have := rowE_cell h' k (.int .i64 (L.getD k 0)) (by rw [List.getElem?_map, List.getElem?_eq_getElem hk, getD_get _ _ hk]; rfl)
    simpa using this
theorem info3 : (Try.prog.info? 3).map (fun i => (i.zero, i.size, i.bytes)) = some (some (.int .i64 0), 1, 8) := by kernel_rfl
theorem news5 (w : World) (t : TypeId) (a b c d e : Value) : ∀ j u, [a, b, c, d, e][j]? = some u → (w.alloc (.cells #[a, b, c, d, e] t)).cell? ((⟨w.heap.size, 0, none⟩ : Addr).add j) = some u := by
  intro j u hj
  have h := Blk.new w #[a, b, c, d, e] t
  have e : (⟨w.heap.size, 0, none⟩ : Addr).add j = ⟨w.heap.size, j, none⟩ := by by_cases h0 : j = 0 <;> simp [Addr.add, h0]
  rw [e, h.cell j]
  simpa using hj
theorem one5 (a b c d e : Int) : ∀ u ∈ [Value.int .i64 a, .int .i64 b, .int .i64 c, .int .i64 d, .int .i64 e], u.oneCell' = true := by
  intro u hu
  simp only [List.mem_cons, List.not_mem_nil, or_false] at hu
  rcases hu with rfl | rfl | rfl | rfl | rfl <;> rfl
set_option maxRecDepth 100000 in
set_option maxHeartbeats 4000000 in
theorem encode_st {w : World} {s : FS} {v : PV} (h : Mem w s) (hv : s.pv = v) (hg : Good v) :
    Calls Try.prog 25 #[.pointer (some ⟨s.fb, 0, none⟩)] w fun e w' => e = .returned (.string v.enc1) ∧ Below w.heap.size w w' := by
  have hnd : s.ids.Nodup := by have := hg.fix.nd; rw [← hv] at this; exact this
  have hlen : s.ids.length ≤ 10000 := by have := hg.len; rw [← hv] at this; exact this
  obtain ⟨c0, c1⟩ := h.fbc
  have hz := h.fne
  obtain ⟨i0, hi, hz0, hz1, hz2⟩ := info_parts info3
  have HM := Lib.hid h
  have HV := Lib.hid hv
  have HG := Lib.hid hg
  have HND := Lib.hid hnd
  have HI0 := Lib.hid (And.intro hi (And.intro hz0 (And.intro hz1 hz2)))
  clear h hv hg hnd hi hz0 hz1 hz2
  go_enter Try.func25, Try.ntmps25
  go_wp2_with fail
  refine (keys_any s.bm w).mono ?_
  rintro e w1 ⟨rfl, rfl⟩
  go_wp2_with fail
  refine (sorted_any HM.out HND.out (by omega)).mono ?_
  rintro e w2 ⟨x, rfl, hrow, -, hb⟩
  obtain ⟨a, cap, rfl, hI, _, _⟩ := slice_of hrow
  have hsl : s.pv.sorted.length = s.ids.length := sorted_len _
  have B2 : RowKit.Hid (Below w.heap.size w w2) := ((Below.refl _ w).alloc (Nat.le_refl _) _).trans (hb.mono (Nat.le_succ _))
  have HI := Lib.hid hI
  have HM2 := Lib.hid (HM.out.below B2.out)
  rw [HV.out] at hsl HI
  rw [HV.out]
  have HC := Lib.hid (code_in HG.out)
  clear hb hI hrow c0 c1
  obtain ⟨S, hS⟩ : ∃ S, v.sorted = S := ⟨_, rfl⟩
  have hSm : ∀ y ∈ S, y ∈ s.ids := fun y hy => by rw [← hS, sorted_mem, ← HV.out] at hy; exact hy
  have HSM := Lib.hid hSm
  have HCS : RowKit.Hid (v.code = v.codeOf S) := by rw [← hS]; rfl
  rw [hS] at hsl HI
  rw [hS]
  clear hS hSm
  go_wp2_with fail
  go_loopw [3, 16] (fun l i wr => ∃ (k : Nat) (lv : Value), k ≤ S.length ∧ i = .int .i64 k ∧ lv = l ∧ Below w2.heap.size w2 wr ∧ wr.ownsRow w2.heap.size 3 1 lv (5 * k) ((v.codeOf (S.take k)).map encZ)) (fun _ i _ => S.length - (intOf i).toNat)
  case atStart => exact ⟨0, _, by omega, rfl, rfl, Below.refl _ _, World.ownsRow_nil _ _ _ _⟩
  case round =>
    obtain ⟨k, lv, hk, rfl, rfl, hB, hrow⟩ := hrel
    have B3 := Lib.hid hB
    have R3 := Lib.hid hrow
    have HM3 := Lib.hid (HM2.out.below hB)
    clear hB hrow
    by_cases hlt : k < S.length
    · rcases HI.out.below B3.out (Nat.le_refl _) with h3 | ⟨b, o, rfl, hbw, hcell⟩
      · subst h3; simp at hlt
      · have hcl := hcell k hlt
        rw [getD_get _ _ hlt] at hcl
        have hin := HSM.out S[k] (List.getElem_mem hlt)
        have hsn := codeOf_snoc v (S.take k) S[k]
        rw [← List.take_succ_eq_append_getElem hlt] at hsn
        have HSN := Lib.hid hsn
        have HIN := Lib.hid hin
        have hid := HG.out.fix.idb S[k] (by rw [← HV.out]; exact hin)
        generalize S[k] = x at *
        clear hcell hsn hbw hin
        have hlk := HM3.out.lookup x (by omega) hid.2
        rw [look_yes HIN.out] at hlk
        obtain ⟨d0, d1⟩ := HM3.out.fbc
        obtain ⟨q0, q1, q2, q3, q4, q5⟩ := HM3.out.fcell HIN.out
        have hzf := HM3.out.fne
        have hzg := (HM3.out.fund x HIN.out).lt
        go_wp2_with fail
        obtain ⟨hi, hz0, hz1, hz2⟩ := HI0.out
        have hzs := B3.out.size
        have hbk : k + 1 ≤ 1000000 := by omega
        have hag : lv.ownBlock ≠ some (s.g x) := fun e => by have := (R3.out.lt _ e).1; have := (HM2.out.fund x HIN.out).lt; omega
        go_region_held3 (fun w' => w'.cell? ⟨s.g x, 0, none⟩ = some (.int .i64 x) ∧ w'.cell? ⟨s.g x, 1, none⟩ = some (.int .i64 (s.pa x)) ∧ w'.cell? ⟨s.g x, 2, none⟩ = some (.int .i64 (s.al x)) ∧ w'.cell? ⟨s.g x, 3, none⟩ = some (.int .i64 (s.sp x)) ∧ w'.cell? ⟨s.g x, 4, none⟩ = some (.int .i64 (s.en x)))
          (first
            | go_keep
            | (go_split_ands
               refine ⟨?_, ?_, ?_, ?_, ?_⟩
               · (rw [hgrow.cell_far _ (by simp; omega) (Ne.symm hag)]; assumption)
               · (rw [hgrow.cell_far _ (by simp; omega) (Ne.symm hag)]; assumption)
               · (rw [hgrow.cell_far _ (by simp; omega) (Ne.symm hag)]; assumption)
               · (rw [hgrow.cell_far _ (by simp; omega) (Ne.symm hag)]; assumption)
               · (rw [hgrow.cell_far _ (by simp; omega) (Ne.symm hag)]; assumption)))

          ((refine step_append_lies _ (by rfl) _ _ _ (by rfl) w2.heap.size 3 i0 _ 1 8 Try.underlying56 hi hz0 hz1 hz2 rfl (by omega) lv (5 * k) _ (by rfl) ((R3.out.alloc _).drew)
              ⟨wr.heap.size, 0, none⟩ 5 5 [.int .i64 x, .int .i64 (s.pa x), .int .i64 (s.al x), .int .i64 (s.sp x), .int .i64 (s.en x)] (by rfl) (by rfl) (World.news_of_block (cs := #[.int .i64 x, .int .i64 (s.pa x), .int .i64 (s.al x), .int .i64 (s.sp x), .int .i64 (s.en x)]) (t := 3) (fr := (0, 0)) (heap_alloc_new wr _)) (one5 _ _ _ _ _)
              (by omega) (by unfold maxLen; omega) (by omega) (by simp; omega) (wr.heap.size + 1) (by simp) ?_; intro gg cap' w5 hown5 hgrow hat hlt5))
        have B5 : RowKit.Hid (Below w2.heap.size w2 w5) := ((B3.out.alloc hzs _).drew).grown hgrow (by simp; omega) (fun j e => (R3.out.lt _ e).1)
        have R5 : RowKit.Hid (w5.ownsRow w2.heap.size 3 1 (.slice (some ⟨gg, 0, none⟩) (5 * k + 5) cap') (5 * (k + 1)) ((v.codeOf (S.take (k + 1))).map encZ)) := by
          have e1 : 5 * (k + 1) = 5 * k + 5 := by omega
          have e2 : (v.codeOf (S.take (k + 1))).map encZ = (v.codeOf (S.take k)).map encZ ++ [.int .i64 x, .int .i64 (s.pa x), .int .i64 (s.al x), .int .i64 (s.sp x), .int .i64 (s.en x)] := by
            rw [HSN.out, List.map_append, ← HV.out]; rfl
          rw [e1, e2]
          exact hown5
        clear hown5 hgrow hat hlt5 hag q0 q1 q2 q3 q4 q5 hlk hcl d0 d1
        go_wp2_with fail
        exact ⟨⟨k + 1, _, by omega, by go_num, rfl, B5.out, R5.out⟩, by simp [intOf]; omega⟩
    · obtain rfl : k = S.length := by omega
      have R4 := R3.out
      rw [List.take_length] at R4
      obtain ⟨a', cap', rfl, hI', hc1, hc2⟩ := slice_of R4
      have hcl := codeOf_len v S
      have key := Lib.hid (ints_any (v.codeOf S) a' cap' wr hI' (by omega) hc1 hc2 (by rw [← HCS.out]; exact HC.out))
      clear R3 R4 hI' hcl
      go_wp2_with fail
      (with_reducible refine key.out.mono ?_)
      rintro e w6 ⟨rfl, hb⟩
      go_wp2_with fail
      go_ret
      refine ⟨?_, B2.out.trans ((B3.out.mono B2.out.size).trans (hb.mono (by have := B2.out.size; have := B3.out.size; omega)))⟩
      unfold PV.enc1
      rw [HCS.out]
      rfl
end Go.Proofs.Ytmnkgjgaileokaa
