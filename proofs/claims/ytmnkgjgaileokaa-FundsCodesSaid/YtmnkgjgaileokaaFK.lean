/- The contract of Total. -/
import Derived.Test.YtmnkgjgaileokaaFJ
namespace Go.Proofs.Ytmnkgjgaileokaa
open Go.RowKit

def totF (f : Int → Int) (kids : Int → List Int) : Nat → Int → Int
  | 0, x => f x
  | n + 1, x => f x + ((kids x).map (totF f kids n)).sum
theorem totF_nn {f : Int → Int} {ids : List Int} {kids : Int → List Int} (hf : ∀ z ∈ ids, 0 ≤ f z) (hk : ∀ x ∈ ids, ∀ y ∈ kids x, y ∈ ids ∧ y ≠ x) : ∀ (n : Nat) (x : Int), x ∈ ids → 0 ≤ totF f kids n x
  | 0, x, hx => hf x hx
  | n + 1, x, hx => by
    have h1 := hf x hx
    have h2 := sum_nonneg (totF f kids n) (kids x) fun z hz => totF_nn hf hk n z (hk x hx z hz).1
    show 0 ≤ f x + _
    omega
theorem sum_take {g : Int → Int} : ∀ (l : List Int) (k : Nat), (∀ z ∈ l, 0 ≤ g z) → ((l.take k).map g).sum ≤ (l.map g).sum
  | [], k, _ => by simp
  | a :: l, 0, h => by
    have := sum_nonneg g (a :: l) h
    simpa using this
  | a :: l, k + 1, h => by
    have := sum_take l k fun z hz => h z (by simp [hz])
    simp only [List.take_succ_cons, List.map_cons, List.sum_cons]
    omega
theorem sum_step {g : Int → Int} (l : List Int) (k : Nat) (h : k < l.length) : ((l.take (k + 1)).map g).sum = ((l.take k).map g).sum + g l[k] := by
  rw [List.take_succ_eq_append_getElem h, List.map_append, List.sum_append]; simp
structure TB (s : FS) (n : Nat) (x : Int) : Prop where
  al : totF s.al s.kids n x ≤ 1000000000000000000
  sp : totF s.sp s.kids n x ≤ 1000000000000000000
  en : totF s.en s.kids n x ≤ 1000000000000000000
theorem kid_le {f : Int → Int} {ids : List Int} {kids : Int → List Int} (hf : ∀ z ∈ ids, 0 ≤ f z) (hk : ∀ x ∈ ids, ∀ y ∈ kids x, y ∈ ids ∧ y ≠ x) {n : Nat} {x y : Int} (hx : x ∈ ids) (hy : y ∈ kids x) : totF f kids n y ≤ totF f kids (n + 1) x := by
  have h1 := hf x hx
  have h2 := le_sum (totF f kids n) (kids x) (fun z hz => totF_nn hf hk n z (hk x hx z hz).1) hy
  show _ ≤ f x + _
  omega
theorem part_le {f : Int → Int} {ids : List Int} {kids : Int → List Int} (hf : ∀ z ∈ ids, 0 ≤ f z) (hk : ∀ x ∈ ids, ∀ y ∈ kids x, y ∈ ids ∧ y ≠ x) {n : Nat} {x : Int} (hx : x ∈ ids) (k : Nat) : f x + (((kids x).take k).map (totF f kids n)).sum ≤ totF f kids (n + 1) x ∧ 0 ≤ (((kids x).take k).map (totF f kids n)).sum := by
  have h2 := sum_take (g := totF f kids n) (kids x) k (fun z hz => totF_nn hf hk n z (hk x hx z hz).1)
  have h3 := sum_nonneg (totF f kids n) ((kids x).take k) (fun z hz => totF_nn hf hk n z (hk x hx z (List.mem_of_mem_take hz)).1)
  show _ ≤ f x + _ ∧ _
  omega
theorem deep_up {kids : Int → List Int} : ∀ (n : Nat) (x : Int), Deep kids n x → Deep kids (n + 1) x
  | 0, x, h => deep_nil h 1
  | n + 1, x, h => fun y hy => deep_up n y (h y hy)
theorem five {w : World} {b : Nat} {v0 v1 v2 v3 v4 : Value} {T : TypeId} (h : Blk w b #[v0, v1, v2, v3, v4] T) :
    w.cell? ⟨b, 0, none⟩ = some v0 ∧ w.cell? ⟨b, 1, none⟩ = some v1 ∧ w.cell? ⟨b, 2, none⟩ = some v2 ∧ w.cell? ⟨b, 3, none⟩ = some v3 ∧ w.cell? ⟨b, 4, none⟩ = some v4 := ⟨h.cell 0, h.cell 1, h.cell 2, h.cell 3, h.cell 4⟩
theorem totF_nil {f : Int → Int} {kids : Int → List Int} {x : Int} (h : kids x = []) : ∀ n, totF f kids n x = f x
  | 0 => rfl
  | n + 1 => by show f x + ((kids x).map _).sum = f x; rw [h]; simp
set_option maxRecDepth 100000 in
set_option maxHeartbeats 4000000 in
theorem tot_none {w : World} {s : FS} {x : Int} {cb : Nat} (h : Mem w s) (hx : x ∈ s.ids) (hk : s.kids x = []) :
    Calls Try.prog 38 #[.pointer (some ⟨s.g x, 0, none⟩), .pointer (some ⟨cb, 0, none⟩)] w fun r w' => r = .returned (.agg #[.int .i64 x, .int .i64 (s.pa x), .int .i64 (s.al x), .int .i64 (s.sp x), .int .i64 (s.en x)]) ∧ Below w.heap.size w w' := by
    obtain ⟨c0, c1, c2, c3, c4, c5⟩ := h.fcell hx
    have hr := h.row x hx
    have hz := (h.fund x hx).lt
    have hz1 : s.g x < w.heap.size + 1 := by omega
    have hz2 : s.g x < w.heap.size + 1 + 1 := by omega
    rw [hk] at hr
    obtain ⟨ba, bc, hb⟩ : ∃ a c, s.bl x = .slice a 0 c := by
      rcases row_form hr with ⟨e, _⟩ | ⟨r, c, e⟩
      · exact ⟨_, _, e⟩
      · exact ⟨_, _, e⟩
    rw [hb] at c5
    have hb2 : Below w.heap.size w ((w.alloc (.cells #[.int .i64 0, .int .i64 0, .int .i64 0, .int .i64 0, .int .i64 0] 31)).alloc (.cells #[.int .i64 x, .int .i64 (s.pa x), .int .i64 (s.al x), .int .i64 (s.sp x), .int .i64 (s.en x)] 31)) := ((Below.refl _ _).alloc (Nat.le_refl _) _).alloc (by rw [size_alloc]; omega) _
    have B0 := Lib.hid hb2
    have R0 := Lib.hid ((Blk.new w #[.int .i64 0, .int .i64 0, .int .i64 0, .int .i64 0, .int .i64 0] 31).alloc (.cells #[.int .i64 x, .int .i64 (s.pa x), .int .i64 (s.al x), .int .i64 (s.sp x), .int .i64 (s.en x)] 31))
    have O0 := Lib.hid (Blk.at_new (w := w.alloc (.cells #[.int .i64 0, .int .i64 0, .int .i64 0, .int .i64 0, .int .i64 0] 31)) (n := w.heap.size + 1) (by simp) #[.int .i64 x, .int .i64 (s.pa x), .int .i64 (s.al x), .int .i64 (s.sp x), .int .i64 (s.en x)] 31)
    clear h hx hk hr hb hb2
    go_enter Try.func38, Try.ntmps38
    go_wp2_with fail
    go_loopw [17] (fun i wr => i = .int .i64 0 ∧ Below w.heap.size w wr ∧ Blk wr w.heap.size #[.int .i64 0, .int .i64 0, .int .i64 0, .int .i64 0, .int .i64 0] 31 ∧ Blk wr (w.heap.size + 1) #[.int .i64 x, .int .i64 (s.pa x), .int .i64 (s.al x), .int .i64 (s.sp x), .int .i64 (s.en x)] 31) (fun _ _ => 0)
    case atStart => exact ⟨rfl, B0.out, R0.out, O0.out⟩
    case round =>
      obtain ⟨rfl, hB, hR, hO⟩ := hrel
      have B1 := Lib.hid hB
      have R1 := Lib.hid hR
      have O1 := Lib.hid hO
      clear hB hR hO B0 R0 O0
      obtain ⟨o0, o1, o2, o3, o4⟩ := five O1.out
      obtain ⟨r0, r1, r2, r3, r4⟩ := five R1.out
      have of := R1.out.frozen
      go_wp2_with fail
      refine bodyPost_ret (v := .agg #[.int .i64 x, .int .i64 (s.pa x), .int .i64 (s.al x), .int .i64 (s.sp x), .int .i64 (s.en x)]) ?_ rfl ⟨rfl, ?_⟩
      · simp [results, Try.results38, go_sem, r0, r1, r2, r3, r4]
      · exact ((((B1.out.setCell (Nat.le_refl _) _).setCell (Nat.le_refl _) _).setCell (Nat.le_refl _) _).setCell (Nat.le_refl _) _).setCell (Nat.le_refl _) _
set_option maxRecDepth 100000 in
set_option maxHeartbeats 4000000 in
theorem tot_any : ∀ (n : Nat) (w : World) (s : FS) (x : Int) (cb : Nat), Mem w s → Fix s.ids s.sp s.en s.kids → (∀ z ∈ s.ids, 0 ≤ s.al z) → x ∈ s.ids → Deep s.kids n x → TB s (n + 1) x → Blk w cb #[.func (.func 38) #[] #[.pointer (some ⟨cb, 0, none⟩)]] 72 →
    Calls Try.prog 38 #[.pointer (some ⟨s.g x, 0, none⟩), .pointer (some ⟨cb, 0, none⟩)] w fun r w' => r = .returned (.agg #[.int .i64 x, .int .i64 (s.pa x), .int .i64 (totF s.al s.kids (n + 1) x), .int .i64 (totF s.sp s.kids (n + 1) x), .int .i64 (totF s.en s.kids (n + 1) x)]) ∧ Below w.heap.size w w' := by
  intro n
  induction n with
  | zero =>
    intro w s x cb h f ha hx hd hT hcb
    have hk : s.kids x = [] := hd
    rw [totF_nil hk, totF_nil hk, totF_nil hk]
    exact tot_none h hx hk
  | succ n ih =>
    intro w s x cb h f ha hx hd hT hcb
    obtain ⟨c0, c1, c2, c3, c4, c5⟩ := h.fcell hx
    have hr := h.row x hx
    have hz := (h.fund x hx).lt
    have hz1 : s.g x < w.heap.size + 1 := by omega
    have hz2 : s.g x < w.heap.size + 1 + 1 := by omega
    rcases row_form hr with ⟨e, e0⟩ | ⟨r, c, e⟩
    · have hk : s.kids x = [] := List.eq_nil_of_length_eq_zero e0
      rw [totF_nil hk, totF_nil hk, totF_nil hk]
      exact tot_none h hx hk
    · rw [e] at c5
      have HM := Lib.hid h
      have HF := Lib.hid f
      have HA := Lib.hid ha
      have HX := Lib.hid hx
      have HD := Lib.hid hd
      have HTB := Lib.hid hT
      have HC := Lib.hid hcb
      have HE := Lib.hid e
      have HI := Lib.hid ih
      have hkl := f.kl x hx
      have hb2 : Below w.heap.size w ((w.alloc (.cells #[.int .i64 0, .int .i64 0, .int .i64 0, .int .i64 0, .int .i64 0] 31)).alloc (.cells #[.int .i64 x, .int .i64 (s.pa x), .int .i64 (s.al x), .int .i64 (s.sp x), .int .i64 (s.en x)] 31)) := ((Below.refl _ _).alloc (Nat.le_refl _) _).alloc (by rw [size_alloc]; omega) _
      have B0 := Lib.hid hb2
      have R0 := Lib.hid ((Blk.new w #[.int .i64 0, .int .i64 0, .int .i64 0, .int .i64 0, .int .i64 0] 31).alloc (.cells #[.int .i64 x, .int .i64 (s.pa x), .int .i64 (s.al x), .int .i64 (s.sp x), .int .i64 (s.en x)] 31))
      have O0 := Lib.hid (Blk.at_new (w := w.alloc (.cells #[.int .i64 0, .int .i64 0, .int .i64 0, .int .i64 0, .int .i64 0] 31)) (n := w.heap.size + 1) (by simp) #[.int .i64 x, .int .i64 (s.pa x), .int .i64 (s.al x), .int .i64 (s.sp x), .int .i64 (s.en x)] 31)
      clear h f ha hx hd hT hcb hr e ih hb2
      go_enter Try.func38, Try.ntmps38
      go_wp2_with fail
      go_loopw [17] (fun i wr => ∃ k : Nat, k ≤ (s.kids x).length ∧ i = .int .i64 k ∧ Below w.heap.size w wr ∧ Blk wr w.heap.size #[.int .i64 0, .int .i64 0, .int .i64 0, .int .i64 0, .int .i64 0] 31 ∧
        Blk wr (w.heap.size + 1) #[.int .i64 x, .int .i64 (s.pa x), .int .i64 (s.al x + (((s.kids x).take k).map (totF s.al s.kids (n + 1))).sum), .int .i64 (s.sp x + (((s.kids x).take k).map (totF s.sp s.kids (n + 1))).sum), .int .i64 (s.en x + (((s.kids x).take k).map (totF s.en s.kids (n + 1))).sum)] 31) (fun i _ => (s.kids x).length - (intOf i).toNat)
      case atStart => exact ⟨0, by omega, rfl, B0.out, R0.out, by simpa using O0.out⟩
      case round =>
        obtain ⟨k, hk, rfl, hB, hR, hO⟩ := hrel
        have B1 := Lib.hid hB
        have R1 := Lib.hid hR
        have O1 := Lib.hid hO
        clear hB hR hO B0 R0 O0
        by_cases hlt : k < (s.kids x).length
        · obtain ⟨y, hy⟩ : ∃ y, y = (s.kids x)[k] := ⟨_, rfl⟩
          have hyk : y ∈ s.kids x := by rw [hy]; exact List.getElem_mem hlt
          have hyx := HF.out.kin x HX.out y hyk
          have M1 := HM.out.below B1.out
          have hrow : wr.ownsRow 0 68 1 (.slice (some ⟨r, 0, none⟩) (s.kids x).length c) (s.kids x).length ((s.kids x).map fun y => ptr (s.g y)) := by
            have := M1.row x HX.out
            rw [HE.out] at this
            exact this
          have hcell := row_cell hrow k (ptr (s.g y)) (by rw [List.getElem?_map, List.getElem?_eq_getElem hlt, ← hy]; rfl)
          have C1 := Lib.hid (HC.out.below B1.out HC.out.lt)
          have hc0 : wr.cell? ⟨cb, 0, none⟩ = some (.func (.func 38) #[] #[.pointer (some ⟨cb, 0, none⟩)]) := C1.out.cell 0
          have hI := Lib.hid (HI.out wr s y cb M1 HF.out HA.out hyx.1 (HD.out y hyk) ⟨Int.le_trans (kid_le HA.out HF.out.kin HX.out hyk) HTB.out.al, Int.le_trans (kid_le HF.out.sp HF.out.kin HX.out hyk) HTB.out.sp, Int.le_trans (kid_le HF.out.en HF.out.kin HX.out hyk) HTB.out.en⟩ C1.out)
          have p1 := part_le (f := s.al) HA.out HF.out.kin (n := n + 1) HX.out k
          have p2 := part_le (f := s.sp) HF.out.sp HF.out.kin (n := n + 1) HX.out k
          have p3 := part_le (f := s.en) HF.out.en HF.out.kin (n := n + 1) HX.out k
          have q1 := part_le (f := s.al) HA.out HF.out.kin (n := n + 1) HX.out (k + 1)
          have q2 := part_le (f := s.sp) HF.out.sp HF.out.kin (n := n + 1) HX.out (k + 1)
          have q3 := part_le (f := s.en) HF.out.en HF.out.kin (n := n + 1) HX.out (k + 1)
          have t1 := HTB.out.al
          have t2 := HTB.out.sp
          have t3 := HTB.out.en
          have a0 := HA.out x HX.out
          have a1 := HF.out.sp x HX.out
          have a2 := HF.out.en x HX.out
          have s1 := sum_step (g := totF s.al s.kids (n + 1)) (s.kids x) k hlt
          have s2 := sum_step (g := totF s.sp s.kids (n + 1)) (s.kids x) k hlt
          have s3 := sum_step (g := totF s.en s.kids (n + 1)) (s.kids x) k hlt
          rw [← hy] at s1 s2 s3
          have S1 := Lib.hid s1
          have S2 := Lib.hid s2
          have S3 := Lib.hid s3
          rw [s1] at q1
          rw [s2] at q2
          rw [s3] at q3
          generalize (((s.kids x).take k).map (totF s.al s.kids (n + 1))).sum = SA at *
          generalize (((s.kids x).take k).map (totF s.sp s.kids (n + 1))).sum = SS at *
          generalize (((s.kids x).take k).map (totF s.en s.kids (n + 1))).sum = SE at *
          have hI2 := hI
          generalize totF s.al s.kids (n + 1) y = TA at *
          generalize totF s.sp s.kids (n + 1) y = TS at *
          generalize totF s.en s.kids (n + 1) y = TE at *
          have b1 : -10 ≤ s.al x + SA ∧ s.al x + SA + TA ≤ 1000000000000000000 ∧ 0 ≤ s.al x + SA + TA := by omega
          have b2 : -10 ≤ s.sp x + SS ∧ s.sp x + SS + TS ≤ 1000000000000000000 ∧ 0 ≤ s.sp x + SS + TS := by omega
          have b3 : -10 ≤ s.en x + SE ∧ s.en x + SE + TE ≤ 1000000000000000000 ∧ 0 ≤ s.en x + SE + TE := by omega
          clear hyx M1 hrow hy hyk s1 s2 s3 p1 p2 p3 q1 q2 q3 t1 t2 t3 hI2
          go_wp2_with fail
          refine hI.out.mono ?_
          rintro e w1 ⟨rfl, hb⟩
          have B2 := Lib.hid (B1.out.trans (hb.mono B1.out.size))
          have R2 := Lib.hid (R1.out.below hb R1.out.lt)
          have O2 := Lib.hid (O1.out.below hb O1.out.lt)
          obtain ⟨o0, o1, o2, o3, o4⟩ : w1.cell? ⟨w.heap.size + 1, 0, none⟩ = some (.int .i64 x) ∧ w1.cell? ⟨w.heap.size + 1, 1, none⟩ = some (.int .i64 (s.pa x)) ∧ w1.cell? ⟨w.heap.size + 1, 2, none⟩ = some (.int .i64 (s.al x + SA)) ∧ w1.cell? ⟨w.heap.size + 1, 3, none⟩ = some (.int .i64 (s.sp x + SS)) ∧ w1.cell? ⟨w.heap.size + 1, 4, none⟩ = some (.int .i64 (s.en x + SE)) :=
            ⟨O2.out.cell 0, O2.out.cell 1, O2.out.cell 2, O2.out.cell 3, O2.out.cell 4⟩
          have of := O2.out.frozen
          have oz := O2.out.lt
          clear hb hcell hc0 hI
          go_wp2_with fail
          refine ⟨⟨k + 1, by omega, by go_num, ?_, ?_, ?_⟩, by simp [intOf]; omega⟩
          · exact (((B2.out.setCell (by show w.heap.size ≤ w.heap.size + 1; omega) _).setCell (by show w.heap.size ≤ w.heap.size + 1; omega) _).setCell (by show w.heap.size ≤ w.heap.size + 1; omega) _).alloc (by have := B2.out.size; simp; omega) _
          · exact (((R2.out.set_ne _ _ (by show w.heap.size ≠ w.heap.size + 1; omega)).set_ne _ _ (by show w.heap.size ≠ w.heap.size + 1; omega)).set_ne _ _ (by show w.heap.size ≠ w.heap.size + 1; omega)).alloc _
          · rw [S1.out, S2.out, S3.out, ← Int.add_assoc, ← Int.add_assoc, ← Int.add_assoc]
            exact ((((O2.out.set 2 _).set 3 _).set 4 _).alloc _).cast (by simp)
        · obtain rfl : k = (s.kids x).length := by omega
          rw [List.take_length] at O1
          obtain ⟨o0, o1, o2, o3, o4⟩ := five O1.out
          obtain ⟨r0, r1, r2, r3, r4⟩ := five R1.out
          have of := R1.out.frozen
          have v1 : s.al x + ((s.kids x).map (totF s.al s.kids (n + 1))).sum = totF s.al s.kids (n + 1 + 1) x := rfl
          have v2 : s.sp x + ((s.kids x).map (totF s.sp s.kids (n + 1))).sum = totF s.sp s.kids (n + 1 + 1) x := rfl
          have v3 : s.en x + ((s.kids x).map (totF s.en s.kids (n + 1))).sum = totF s.en s.kids (n + 1 + 1) x := rfl
          rw [v1] at o2
          rw [v2] at o3
          rw [v3] at o4
          clear v1 v2 v3
          go_wp2_with fail
          refine bodyPost_ret (v := .agg #[.int .i64 x, .int .i64 (s.pa x), .int .i64 (totF s.al s.kids (n + 1 + 1) x), .int .i64 (totF s.sp s.kids (n + 1 + 1) x), .int .i64 (totF s.en s.kids (n + 1 + 1) x)]) ?_ rfl ⟨rfl, ?_⟩
          · simp [results, Try.results38, go_sem, r0, r1, r2, r3, r4]
          · exact ((((B1.out.setCell (Nat.le_refl _) _).setCell (Nat.le_refl _) _).setCell (Nat.le_refl _) _).setCell (Nat.le_refl _) _).setCell (Nat.le_refl _) _
end Go.Proofs.Ytmnkgjgaileokaa
