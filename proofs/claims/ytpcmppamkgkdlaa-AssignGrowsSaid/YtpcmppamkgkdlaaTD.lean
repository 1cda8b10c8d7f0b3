/- The examples: sanity is true. -/
import Derived.Test.YtpcmppamkgkdlaaTA
import Derived.Test.YtpcmppamkgkdlaaTC
import Derived.Test.YtpcmppamkgkdlaaSP
namespace Go.Proofs.Ytpcmppamkgkdlaa
open Go.RowKit

theorem want_any (p : Int) (a : Option Addr) (n c : Nat) (w : World) : Calls Try.prog 22 #[.int .i64 p, .slice a n c] w fun e w' => e = .returned (.agg #[.int .i64 p, .slice a n c]) ∧ Below w.heap.size w w' := by
  go_enter Try.func22, Try.ntmps22
  go_wp2_with fail
  refine bodyPost_ret (v := .agg #[.int .i64 p, .slice a n c]) ?_ rfl ⟨rfl, ?_⟩
  · simp [results, Try.results22, go_sem]
  · exact (Below.refl _ _).alloc (Nat.le_refl _) _
theorem ints_blk {w : World} {g B T : Nat} {l : List Int} {cap : Nat} (h : Blk w g (l.map (Value.int .i64)).toArray T) (hB : g < B) : Ints w B (.slice (some ⟨g, 0, none⟩) l.length cap) l :=
  ⟨_, cap, rfl, .inr ⟨g, 0, rfl, hB, fun j hj => by
    rw [Nat.zero_add]
    refine h.cellE ?_
    rw [getD_get _ _ hj]; simp [hj]⟩⟩
theorem rows2_2 {w : World} {g B T : Nat} {u v : Value} {l m : List Int} {cap : Nat} (h : Blk w g #[u, v] T) (hB : g < B) (h1 : Ints w B u l) (h2 : Ints w B v m) : Rows2 w B (.slice (some ⟨g, 0, none⟩) 2 cap) [l, m] :=
  ⟨_, cap, rfl, .inr ⟨g, 0, rfl, hB, fun j hj => by
    have hj : j < 2 := hj
    match j, hj with
    | 0, _ => exact ⟨u, h.cell 0, h1⟩
    | 1, _ => exact ⟨v, h.cell 1, h2⟩⟩⟩
theorem wants_1 {w : World} {g B T : Nat} {p : Int} {u : Value} {l : List Int} {cap : Nat} (h : Blk w g #[.int .i64 p, u] T) (hB : g < B) (h1 : Ints w B u l) : Wants w B (.slice (some ⟨g, 0, none⟩) 1 cap) [(p, l)] :=
  ⟨_, cap, rfl, .inr ⟨g, 0, rfl, hB, fun j hj => by
    have hj : j < 1 := hj
    match j, hj with
    | 0, _ => exact ⟨u, h.cell 0, h.cell 1, h1⟩⟩⟩
theorem wants_2 {w : World} {g B T : Nat} {p p2 : Int} {u u2 : Value} {l l2 : List Int} {cap : Nat} (h : Blk w g #[.int .i64 p, u, .int .i64 p2, u2] T) (hB : g < B) (h1 : Ints w B u l) (h2 : Ints w B u2 l2) : Wants w B (.slice (some ⟨g, 0, none⟩) 2 cap) [(p, l), (p2, l2)] :=
  ⟨_, cap, rfl, .inr ⟨g, 0, rfl, hB, fun j hj => by
    have hj : j < 2 := hj
    match j, hj with
    | 0, _ => exact ⟨u, h.cell 0, h.cell 1, h1⟩
    | 1, _ => exact ⟨u2, h.cell 2, h.cell 3, h2⟩⟩⟩
theorem wants_3 {w : World} {g B T : Nat} {p p2 p3 : Int} {u u2 u3 : Value} {l l2 l3 : List Int} {cap : Nat} (h : Blk w g #[.int .i64 p, u, .int .i64 p2, u2, .int .i64 p3, u3] T) (hB : g < B) (h1 : Ints w B u l) (h2 : Ints w B u2 l2) (h3 : Ints w B u3 l3) : Wants w B (.slice (some ⟨g, 0, none⟩) 3 cap) [(p, l), (p2, l2), (p3, l3)] :=
  ⟨_, cap, rfl, .inr ⟨g, 0, rfl, hB, fun j hj => by
    have hj : j < 3 := hj
    match j, hj with
    | 0, _ => exact ⟨u, h.cell 0, h.cell 1, h1⟩
    | 1, _ => exact ⟨u2, h.cell 2, h.cell 3, h2⟩
    | 2, _ => exact ⟨u3, h.cell 4, h.cell 5, h3⟩⟩⟩
theorem acc5 : ints ((prob [(1, [0, 1])] [0, 1] [[0, 5], [5, 0]]).acc 0) = accI 2 [0, 1] := prob_ints _ _ _ 0
theorem san5 : costF (prob [(1, [0, 1])] [0, 1] [[0, 5], [5, 0]]) [0] = (5, true) := by
  have h : okB (prob [(1, [0, 1])] [0, 1] [[0, 5], [5, 0]]) [0] 1 = true := by
    have h1 := (okAt_yes (P := prob [(1, [0, 1])] [0, 1] [[0, 5], [5, 0]]) (l := [0]) (k := 0) (by simp) (by rw [acc5, mem_accI]; simp) (by simp)).1
    simp [okB, h1]
  rw [costF_yes rfl h]; rfl
theorem Ints.up {w w' : World} {v : Value} {l : List Int} (h : Ints w w.heap.size v l) (hb : Below w.heap.size w w') : Ints w' w'.heap.size v l := (h.below hb (Nat.le_refl _)).mono hb.size
theorem Rows2.up {w w' : World} {v : Value} {l : List (List Int)} (h : Rows2 w w.heap.size v l) (hb : Below w.heap.size w w') : Rows2 w' w'.heap.size v l := (h.below hb (Nat.le_refl _)).mono hb.size
theorem Wants.up {w w' : World} {v : Value} {l : List Wt} (h : Wants w w.heap.size v l) (hb : Below w.heap.size w w') : Wants w' w'.heap.size v l := (h.below hb (Nat.le_refl _)).mono hb.size
theorem outL_ints {w : World} {g m : Nat} {cp : Nat → Option Nat} (h : Blk w g (encO cp m) 3) : Ints w w.heap.size (.slice (some ⟨g, 0, none⟩) m m) (outL cp m) := by
  have e : encO cp m = ((outL cp m).map (Value.int .i64)).toArray := by simp [outL, arr, List.map_map, Function.comp_def]
  have := ints_blk (cap := m) (h.cast e) h.lt
  rwa [show (outL cp m).length = m by simp [outL]] at this
theorem assign_val {L : List Wt} {A : List Int} {C : List (List Int)} {w : World} {wv av cv : Value} (hL : Wants w w.heap.size wv L) (hA : Ints w w.heap.size av A) (hC : Rows2 w w.heap.size cv C)
    (hl : L.length ≤ 1000) (ha : A.length ≤ 1000) (hl2 : ∀ k, (L.getD k noW).2.length ≤ 1000) (hc : ∀ k, ((C.getD k []).length : Int) ≤ 9223372036854775807) {l0 : List (Option Nat)} (hb : Best (prob L A C) (of l0)) {n : Nat} (hn : L.length = n) {o : List Int} (ho : outL (of l0) n = o) :
    Calls Try.prog 14 #[wv, av, cv] w fun e w' => (∃ g, e = .returned (.slice (some ⟨g, 0, none⟩) n n) ∧ Ints w' w'.heap.size (.slice (some ⟨g, 0, none⟩) n n) o) ∧ Below w.heap.size w w' := by
  refine (assign_any L A C w w.heap.size wv av cv hL hA hC hl ha hl2 hc (Nat.le_refl _)).mono ?_
  rintro e w' ⟨cp, g, rfl, hB, hO, _, hbl⟩
  obtain rfl := hB.unique hb
  have hm : (prob L A C).m = n := hn
  rw [hm] at hO ⊢
  exact ⟨⟨g, rfl, by rw [← ho]; exact outL_ints hO⟩, hbl⟩
theorem same_val {u v : Value} {a : List Int} {w : World} (hu : Ints w w.heap.size u a) (hv : Ints w w.heap.size v a) (ha : (a.length : Int) ≤ 9223372036854775807) :
    Calls Try.prog 18 #[u, v] w fun e w' => e = .returned (.bool true) ∧ Below w.heap.size w w' :=
  (same_any w.heap.size u v a a w hu hv ha).mono fun e w' h => ⟨by rw [h.1]; simp, h.2⟩
theorem len_getD2 {L : List Wt} (h : ∀ x ∈ L, x.2.length ≤ 1000) (k : Nat) : (L.getD k noW).2.length ≤ 1000 := by
  rcases Nat.lt_or_ge k L.length with hk | hk
  · rw [getD_get _ _ hk]; exact h _ (List.getElem_mem hk)
  · rw [List.getD_eq_getElem?_getD, List.getElem?_eq_none hk]; simp [noW]
theorem len_getDC {C : List (List Int)} (h : ∀ x ∈ C, x.length ≤ 1000) (k : Nat) : ((C.getD k []).length : Int) ≤ 9223372036854775807 := by
  rcases Nat.lt_or_ge k C.length with hk | hk
  · rw [getD_get _ _ hk]; have := h _ (List.getElem_mem hk); omega
  · rw [List.getD_eq_getElem?_getD, List.getElem?_eq_none hk]; simp
set_option maxRecDepth 100000 in
set_option maxHeartbeats 8000000 in
theorem sanity_any (w : World) : Calls Try.prog 12 #[] w fun e w' => e = .returned (.bool true) ∧ Below w.heap.size w w' := by
  go_enter Try.func12, Try.ntmps12
  have B0 : RowKit.Hid (Below w.heap.size w w) := Lib.hid (Below.refl _ _)
  go_wp2_with fail
  obtain ⟨Y1, hY⟩ : ∃ Y, Y = (((((w.alloc (.cells #[.int .i64 0, .int .i64 1] 3)).alloc (.cells #[.int .i64 0, .int .i64 5] 3)).alloc (.cells #[.int .i64 5, .int .i64 0] 3)).alloc (.cells #[.slice (some ⟨w.heap.size + 1, 0, none⟩) 2 2, .slice (some ⟨w.heap.size + 1 + 1, 0, none⟩) 2 2] 30)).alloc (.cells #[.int .i64 0, .int .i64 1] 3)) := ⟨_, rfl⟩
  have bl : Below w.heap.size w Y1 := by rw [hY]; exact ((((((Below.refl _ _).alloc (by simp; try omega) _).alloc (by simp; try omega) _).alloc (by simp; try omega) _).alloc (by simp; try omega) _).alloc (by simp; try omega) _)
  have B1 : RowKit.Hid (Below w.heap.size w Y1) := Lib.hid (B0.out.trans (bl.mono B0.out.size))
  have hs : Y1.heap.size = w.heap.size + 1 + 1 + 1 + 1 + 1 := by rw [hY]; simp
  have k0 : Blk Y1 (w.heap.size) #[.int .i64 0, .int .i64 1] 3 := by rw [hY]; exact (((((Blk.new _ _ 3).alloc _).alloc _).alloc _).alloc _)
  have k1 : Blk Y1 (w.heap.size + 1) #[.int .i64 0, .int .i64 5] 3 := by rw [hY]; exact ((((Blk.at_new (by simp) _ 3).alloc _).alloc _).alloc _)
  have k2 : Blk Y1 (w.heap.size + 1 + 1) #[.int .i64 5, .int .i64 0] 3 := by rw [hY]; exact (((Blk.at_new (by simp) _ 3).alloc _).alloc _)
  have k3 : Blk Y1 (w.heap.size + 1 + 1 + 1) #[.slice (some ⟨w.heap.size + 1, 0, none⟩) 2 2, .slice (some ⟨w.heap.size + 1 + 1, 0, none⟩) 2 2] 30 := by rw [hY]; exact ((Blk.at_new (by simp) _ 30).alloc _)
  have k4 : Blk Y1 (w.heap.size + 1 + 1 + 1 + 1) #[.int .i64 0, .int .i64 1] 3 := by rw [hY]; exact (Blk.at_new (by simp) _ 3)
  have at_1 : RowKit.Hid (Ints Y1 Y1.heap.size (.slice (some ⟨w.heap.size, 0, none⟩) 2 2) [0, 1]) := Lib.hid (ints_blk (l := [0, 1]) (cap := 2) k0 (by omega))
  have co_1 : RowKit.Hid (Rows2 Y1 Y1.heap.size (.slice (some ⟨w.heap.size + 1 + 1 + 1, 0, none⟩) 2 2) [[0, 5], [5, 0]]) := Lib.hid (rows2_2 (cap := 2) k3 (by omega) (ints_blk (l := [0, 5]) (cap := 2) k1 (by omega)) (ints_blk (l := [5, 0]) (cap := 2) k2 (by omega)))
  have qa_1 : RowKit.Hid (Ints Y1 Y1.heap.size (.slice (some ⟨w.heap.size + 1 + 1 + 1 + 1, 0, none⟩) 2 2) [0, 1]) := Lib.hid (ints_blk (l := [0, 1]) (cap := 2) k4 (by omega))
  rw [← hY]
  clear hY bl hs k0 k1 k2 k3 k4  B0
  refine (want_any 1 _ _ _ _).mono ?_
  rintro e Z2 ⟨rfl, bl⟩
  have B2 : RowKit.Hid (Below w.heap.size w Z2) := Lib.hid (B1.out.trans (bl.mono B1.out.size))
  have at_2 : RowKit.Hid (Ints Z2 Z2.heap.size (.slice (some ⟨w.heap.size, 0, none⟩) 2 2) [0, 1]) := Lib.hid (at_1.out.up bl)
  have co_2 : RowKit.Hid (Rows2 Z2 Z2.heap.size (.slice (some ⟨w.heap.size + 1 + 1 + 1, 0, none⟩) 2 2) [[0, 5], [5, 0]]) := Lib.hid (co_1.out.up bl)
  have qa_2 : RowKit.Hid (Ints Z2 Z2.heap.size (.slice (some ⟨w.heap.size + 1 + 1 + 1 + 1, 0, none⟩) 2 2) [0, 1]) := Lib.hid (qa_1.out.up bl)
  clear bl at_1 co_1 qa_1 B1
  go_wp2_with fail
  obtain ⟨Y3, hY⟩ : ∃ Y, Y = (Z2.alloc (.cells #[.int .i64 1, .slice (some ⟨w.heap.size + 1 + 1 + 1 + 1, 0, none⟩) 2 2] 41)) := ⟨_, rfl⟩
  have bl : Below Z2.heap.size Z2 Y3 := by rw [hY]; exact ((Below.refl _ _).alloc (by simp; try omega) _)
  have B3 : RowKit.Hid (Below w.heap.size w Y3) := Lib.hid (B2.out.trans (bl.mono B2.out.size))
  have at_3 : RowKit.Hid (Ints Y3 Y3.heap.size (.slice (some ⟨w.heap.size, 0, none⟩) 2 2) [0, 1]) := Lib.hid (at_2.out.up bl)
  have co_3 : RowKit.Hid (Rows2 Y3 Y3.heap.size (.slice (some ⟨w.heap.size + 1 + 1 + 1, 0, none⟩) 2 2) [[0, 5], [5, 0]]) := Lib.hid (co_2.out.up bl)
  have qa_3 : RowKit.Hid (Ints Y3 Y3.heap.size (.slice (some ⟨w.heap.size + 1 + 1 + 1 + 1, 0, none⟩) 2 2) [0, 1]) := Lib.hid (qa_2.out.up bl)
  have hs : Y3.heap.size = Z2.heap.size + 1 := by rw [hY]; simp
  have k0 : Blk Y3 (Z2.heap.size) #[.int .i64 1, .slice (some ⟨w.heap.size + 1 + 1 + 1 + 1, 0, none⟩) 2 2] 41 := by rw [hY]; exact (Blk.new _ _ 41)
  have ws_3 : RowKit.Hid (Wants Y3 Y3.heap.size (.slice (some ⟨Z2.heap.size, 0, none⟩) 1 1) [(1, [0, 1])]) := Lib.hid (wants_1 (cap := 1) k0 (by omega) (qa_2.out.up bl))
  rw [← hY]
  clear hY bl hs k0 at_2 co_2 qa_2 B2
  refine (assign_val ws_3.out at_3.out co_3.out (by simp) (by simp) (len_getD2 (by simp)) (len_getDC (by simp)) san1 rfl (o := [1]) (by decide)).mono ?_
  rintro e Z4 ⟨⟨gra, rfl, hr⟩, bl⟩
  have B4 : RowKit.Hid (Below w.heap.size w Z4) := Lib.hid (B3.out.trans (bl.mono B3.out.size))
  have at_4 : RowKit.Hid (Ints Z4 Z4.heap.size (.slice (some ⟨w.heap.size, 0, none⟩) 2 2) [0, 1]) := Lib.hid (at_3.out.up bl)
  have co_4 : RowKit.Hid (Rows2 Z4 Z4.heap.size (.slice (some ⟨w.heap.size + 1 + 1 + 1, 0, none⟩) 2 2) [[0, 5], [5, 0]]) := Lib.hid (co_3.out.up bl)
  have qa_4 : RowKit.Hid (Ints Z4 Z4.heap.size (.slice (some ⟨w.heap.size + 1 + 1 + 1 + 1, 0, none⟩) 2 2) [0, 1]) := Lib.hid (qa_3.out.up bl)
  have ws_4 : RowKit.Hid (Wants Z4 Z4.heap.size (.slice (some ⟨Z2.heap.size, 0, none⟩) 1 1) [(1, [0, 1])]) := Lib.hid (ws_3.out.up bl)
  have ra_4 : RowKit.Hid (Ints Z4 Z4.heap.size (.slice (some ⟨gra, 0, none⟩) 1 1) [1]) := Lib.hid (hr)
  clear bl at_3 co_3 qa_3 ws_3 B3 hr
  go_wp2_with fail
  clear qa_4
  clear ws_4
  obtain ⟨Y5, hY⟩ : ∃ Y, Y = (Z4.alloc (.cells #[.int .i64 0, .int .i64 1] 3)) := ⟨_, rfl⟩
  have bl : Below Z4.heap.size Z4 Y5 := by rw [hY]; exact ((Below.refl _ _).alloc (by simp; try omega) _)
  have B5 : RowKit.Hid (Below w.heap.size w Y5) := Lib.hid (B4.out.trans (bl.mono B4.out.size))
  have at_5 : RowKit.Hid (Ints Y5 Y5.heap.size (.slice (some ⟨w.heap.size, 0, none⟩) 2 2) [0, 1]) := Lib.hid (at_4.out.up bl)
  have co_5 : RowKit.Hid (Rows2 Y5 Y5.heap.size (.slice (some ⟨w.heap.size + 1 + 1 + 1, 0, none⟩) 2 2) [[0, 5], [5, 0]]) := Lib.hid (co_4.out.up bl)
  have ra_5 : RowKit.Hid (Ints Y5 Y5.heap.size (.slice (some ⟨gra, 0, none⟩) 1 1) [1]) := Lib.hid (ra_4.out.up bl)
  have hs : Y5.heap.size = Z4.heap.size + 1 := by rw [hY]; simp
  have k0 : Blk Y5 (Z4.heap.size) #[.int .i64 0, .int .i64 1] 3 := by rw [hY]; exact (Blk.new _ _ 3)
  have qa_5 : RowKit.Hid (Ints Y5 Y5.heap.size (.slice (some ⟨Z4.heap.size, 0, none⟩) 2 2) [0, 1]) := Lib.hid (ints_blk (l := [0, 1]) (cap := 2) k0 (by omega))
  rw [← hY]
  clear hY bl hs k0 at_4 co_4 ra_4 B4
  refine (want_any 1 _ _ _ _).mono ?_
  rintro e Z6 ⟨rfl, bl⟩
  have B6 : RowKit.Hid (Below w.heap.size w Z6) := Lib.hid (B5.out.trans (bl.mono B5.out.size))
  have at_6 : RowKit.Hid (Ints Z6 Z6.heap.size (.slice (some ⟨w.heap.size, 0, none⟩) 2 2) [0, 1]) := Lib.hid (at_5.out.up bl)
  have co_6 : RowKit.Hid (Rows2 Z6 Z6.heap.size (.slice (some ⟨w.heap.size + 1 + 1 + 1, 0, none⟩) 2 2) [[0, 5], [5, 0]]) := Lib.hid (co_5.out.up bl)
  have ra_6 : RowKit.Hid (Ints Z6 Z6.heap.size (.slice (some ⟨gra, 0, none⟩) 1 1) [1]) := Lib.hid (ra_5.out.up bl)
  have qa_6 : RowKit.Hid (Ints Z6 Z6.heap.size (.slice (some ⟨Z4.heap.size, 0, none⟩) 2 2) [0, 1]) := Lib.hid (qa_5.out.up bl)
  clear bl at_5 co_5 ra_5 qa_5 B5
  go_wp2_with fail
  obtain ⟨Y7, hY⟩ : ∃ Y, Y = (Z6.alloc (.cells #[.int .i64 1] 3)) := ⟨_, rfl⟩
  have bl : Below Z6.heap.size Z6 Y7 := by rw [hY]; exact ((Below.refl _ _).alloc (by simp; try omega) _)
  have B7 : RowKit.Hid (Below w.heap.size w Y7) := Lib.hid (B6.out.trans (bl.mono B6.out.size))
  have at_7 : RowKit.Hid (Ints Y7 Y7.heap.size (.slice (some ⟨w.heap.size, 0, none⟩) 2 2) [0, 1]) := Lib.hid (at_6.out.up bl)
  have co_7 : RowKit.Hid (Rows2 Y7 Y7.heap.size (.slice (some ⟨w.heap.size + 1 + 1 + 1, 0, none⟩) 2 2) [[0, 5], [5, 0]]) := Lib.hid (co_6.out.up bl)
  have ra_7 : RowKit.Hid (Ints Y7 Y7.heap.size (.slice (some ⟨gra, 0, none⟩) 1 1) [1]) := Lib.hid (ra_6.out.up bl)
  have qa_7 : RowKit.Hid (Ints Y7 Y7.heap.size (.slice (some ⟨Z4.heap.size, 0, none⟩) 2 2) [0, 1]) := Lib.hid (qa_6.out.up bl)
  have hs : Y7.heap.size = Z6.heap.size + 1 := by rw [hY]; simp
  have k0 : Blk Y7 (Z6.heap.size) #[.int .i64 1] 3 := by rw [hY]; exact (Blk.new _ _ 3)
  have qb_7 : RowKit.Hid (Ints Y7 Y7.heap.size (.slice (some ⟨Z6.heap.size, 0, none⟩) 1 1) [1]) := Lib.hid (ints_blk (l := [1]) (cap := 1) k0 (by omega))
  rw [← hY]
  clear hY bl hs k0 at_6 co_6 ra_6 qa_6 B6
  refine (want_any 1 _ _ _ _).mono ?_
  rintro e Z8 ⟨rfl, bl⟩
  have B8 : RowKit.Hid (Below w.heap.size w Z8) := Lib.hid (B7.out.trans (bl.mono B7.out.size))
  have at_8 : RowKit.Hid (Ints Z8 Z8.heap.size (.slice (some ⟨w.heap.size, 0, none⟩) 2 2) [0, 1]) := Lib.hid (at_7.out.up bl)
  have co_8 : RowKit.Hid (Rows2 Z8 Z8.heap.size (.slice (some ⟨w.heap.size + 1 + 1 + 1, 0, none⟩) 2 2) [[0, 5], [5, 0]]) := Lib.hid (co_7.out.up bl)
  have ra_8 : RowKit.Hid (Ints Z8 Z8.heap.size (.slice (some ⟨gra, 0, none⟩) 1 1) [1]) := Lib.hid (ra_7.out.up bl)
  have qa_8 : RowKit.Hid (Ints Z8 Z8.heap.size (.slice (some ⟨Z4.heap.size, 0, none⟩) 2 2) [0, 1]) := Lib.hid (qa_7.out.up bl)
  have qb_8 : RowKit.Hid (Ints Z8 Z8.heap.size (.slice (some ⟨Z6.heap.size, 0, none⟩) 1 1) [1]) := Lib.hid (qb_7.out.up bl)
  clear bl at_7 co_7 ra_7 qa_7 qb_7 B7
  go_wp2_with fail
  obtain ⟨Y9, hY⟩ : ∃ Y, Y = (Z8.alloc (.cells #[.int .i64 1, .slice (some ⟨Z4.heap.size, 0, none⟩) 2 2, .int .i64 1, .slice (some ⟨Z6.heap.size, 0, none⟩) 1 1] 41)) := ⟨_, rfl⟩
  have bl : Below Z8.heap.size Z8 Y9 := by rw [hY]; exact ((Below.refl _ _).alloc (by simp; try omega) _)
  have B9 : RowKit.Hid (Below w.heap.size w Y9) := Lib.hid (B8.out.trans (bl.mono B8.out.size))
  have at_9 : RowKit.Hid (Ints Y9 Y9.heap.size (.slice (some ⟨w.heap.size, 0, none⟩) 2 2) [0, 1]) := Lib.hid (at_8.out.up bl)
  have co_9 : RowKit.Hid (Rows2 Y9 Y9.heap.size (.slice (some ⟨w.heap.size + 1 + 1 + 1, 0, none⟩) 2 2) [[0, 5], [5, 0]]) := Lib.hid (co_8.out.up bl)
  have ra_9 : RowKit.Hid (Ints Y9 Y9.heap.size (.slice (some ⟨gra, 0, none⟩) 1 1) [1]) := Lib.hid (ra_8.out.up bl)
  have qa_9 : RowKit.Hid (Ints Y9 Y9.heap.size (.slice (some ⟨Z4.heap.size, 0, none⟩) 2 2) [0, 1]) := Lib.hid (qa_8.out.up bl)
  have qb_9 : RowKit.Hid (Ints Y9 Y9.heap.size (.slice (some ⟨Z6.heap.size, 0, none⟩) 1 1) [1]) := Lib.hid (qb_8.out.up bl)
  have hs : Y9.heap.size = Z8.heap.size + 1 := by rw [hY]; simp
  have k0 : Blk Y9 (Z8.heap.size) #[.int .i64 1, .slice (some ⟨Z4.heap.size, 0, none⟩) 2 2, .int .i64 1, .slice (some ⟨Z6.heap.size, 0, none⟩) 1 1] 41 := by rw [hY]; exact (Blk.new _ _ 41)
  have ws_9 : RowKit.Hid (Wants Y9 Y9.heap.size (.slice (some ⟨Z8.heap.size, 0, none⟩) 2 2) [(1, [0, 1]), (1, [1])]) := Lib.hid (wants_2 (cap := 2) k0 (by omega) (qa_8.out.up bl) (qb_8.out.up bl))
  rw [← hY]
  clear hY bl hs k0 at_8 co_8 ra_8 qa_8 qb_8 B8
  refine (assign_val ws_9.out at_9.out co_9.out (by simp) (by simp) (len_getD2 (by simp)) (len_getDC (by simp)) san2 rfl (o := [0, 1]) (by decide)).mono ?_
  rintro e Z10 ⟨⟨grb, rfl, hr⟩, bl⟩
  have B10 : RowKit.Hid (Below w.heap.size w Z10) := Lib.hid (B9.out.trans (bl.mono B9.out.size))
  have at_10 : RowKit.Hid (Ints Z10 Z10.heap.size (.slice (some ⟨w.heap.size, 0, none⟩) 2 2) [0, 1]) := Lib.hid (at_9.out.up bl)
  have co_10 : RowKit.Hid (Rows2 Z10 Z10.heap.size (.slice (some ⟨w.heap.size + 1 + 1 + 1, 0, none⟩) 2 2) [[0, 5], [5, 0]]) := Lib.hid (co_9.out.up bl)
  have ra_10 : RowKit.Hid (Ints Z10 Z10.heap.size (.slice (some ⟨gra, 0, none⟩) 1 1) [1]) := Lib.hid (ra_9.out.up bl)
  have qa_10 : RowKit.Hid (Ints Z10 Z10.heap.size (.slice (some ⟨Z4.heap.size, 0, none⟩) 2 2) [0, 1]) := Lib.hid (qa_9.out.up bl)
  have qb_10 : RowKit.Hid (Ints Z10 Z10.heap.size (.slice (some ⟨Z6.heap.size, 0, none⟩) 1 1) [1]) := Lib.hid (qb_9.out.up bl)
  have ws_10 : RowKit.Hid (Wants Z10 Z10.heap.size (.slice (some ⟨Z8.heap.size, 0, none⟩) 2 2) [(1, [0, 1]), (1, [1])]) := Lib.hid (ws_9.out.up bl)
  have rb_10 : RowKit.Hid (Ints Z10 Z10.heap.size (.slice (some ⟨grb, 0, none⟩) 2 2) [0, 1]) := Lib.hid (hr)
  clear bl at_9 co_9 ra_9 qa_9 qb_9 ws_9 B9 hr
  go_wp2_with fail
  clear qa_10
  clear qb_10
  clear ws_10
  obtain ⟨Y11, hY⟩ : ∃ Y, Y = (Z10.alloc (.cells #[.int .i64 1] 3)) := ⟨_, rfl⟩
  have bl : Below Z10.heap.size Z10 Y11 := by rw [hY]; exact ((Below.refl _ _).alloc (by simp; try omega) _)
  have B11 : RowKit.Hid (Below w.heap.size w Y11) := Lib.hid (B10.out.trans (bl.mono B10.out.size))
  have at_11 : RowKit.Hid (Ints Y11 Y11.heap.size (.slice (some ⟨w.heap.size, 0, none⟩) 2 2) [0, 1]) := Lib.hid (at_10.out.up bl)
  have co_11 : RowKit.Hid (Rows2 Y11 Y11.heap.size (.slice (some ⟨w.heap.size + 1 + 1 + 1, 0, none⟩) 2 2) [[0, 5], [5, 0]]) := Lib.hid (co_10.out.up bl)
  have ra_11 : RowKit.Hid (Ints Y11 Y11.heap.size (.slice (some ⟨gra, 0, none⟩) 1 1) [1]) := Lib.hid (ra_10.out.up bl)
  have rb_11 : RowKit.Hid (Ints Y11 Y11.heap.size (.slice (some ⟨grb, 0, none⟩) 2 2) [0, 1]) := Lib.hid (rb_10.out.up bl)
  have hs : Y11.heap.size = Z10.heap.size + 1 := by rw [hY]; simp
  have k0 : Blk Y11 (Z10.heap.size) #[.int .i64 1] 3 := by rw [hY]; exact (Blk.new _ _ 3)
  have qa_11 : RowKit.Hid (Ints Y11 Y11.heap.size (.slice (some ⟨Z10.heap.size, 0, none⟩) 1 1) [1]) := Lib.hid (ints_blk (l := [1]) (cap := 1) k0 (by omega))
  rw [← hY]
  clear hY bl hs k0 at_10 co_10 ra_10 rb_10 B10
  refine (want_any 0 _ _ _ _).mono ?_
  rintro e Z12 ⟨rfl, bl⟩
  have B12 : RowKit.Hid (Below w.heap.size w Z12) := Lib.hid (B11.out.trans (bl.mono B11.out.size))
  have at_12 : RowKit.Hid (Ints Z12 Z12.heap.size (.slice (some ⟨w.heap.size, 0, none⟩) 2 2) [0, 1]) := Lib.hid (at_11.out.up bl)
  have co_12 : RowKit.Hid (Rows2 Z12 Z12.heap.size (.slice (some ⟨w.heap.size + 1 + 1 + 1, 0, none⟩) 2 2) [[0, 5], [5, 0]]) := Lib.hid (co_11.out.up bl)
  have ra_12 : RowKit.Hid (Ints Z12 Z12.heap.size (.slice (some ⟨gra, 0, none⟩) 1 1) [1]) := Lib.hid (ra_11.out.up bl)
  have rb_12 : RowKit.Hid (Ints Z12 Z12.heap.size (.slice (some ⟨grb, 0, none⟩) 2 2) [0, 1]) := Lib.hid (rb_11.out.up bl)
  have qa_12 : RowKit.Hid (Ints Z12 Z12.heap.size (.slice (some ⟨Z10.heap.size, 0, none⟩) 1 1) [1]) := Lib.hid (qa_11.out.up bl)
  clear bl at_11 co_11 ra_11 rb_11 qa_11 B11
  go_wp2_with fail
  obtain ⟨Y13, hY⟩ : ∃ Y, Y = (Z12.alloc (.cells #[.int .i64 1] 3)) := ⟨_, rfl⟩
  have bl : Below Z12.heap.size Z12 Y13 := by rw [hY]; exact ((Below.refl _ _).alloc (by simp; try omega) _)
  have B13 : RowKit.Hid (Below w.heap.size w Y13) := Lib.hid (B12.out.trans (bl.mono B12.out.size))
  have at_13 : RowKit.Hid (Ints Y13 Y13.heap.size (.slice (some ⟨w.heap.size, 0, none⟩) 2 2) [0, 1]) := Lib.hid (at_12.out.up bl)
  have co_13 : RowKit.Hid (Rows2 Y13 Y13.heap.size (.slice (some ⟨w.heap.size + 1 + 1 + 1, 0, none⟩) 2 2) [[0, 5], [5, 0]]) := Lib.hid (co_12.out.up bl)
  have ra_13 : RowKit.Hid (Ints Y13 Y13.heap.size (.slice (some ⟨gra, 0, none⟩) 1 1) [1]) := Lib.hid (ra_12.out.up bl)
  have rb_13 : RowKit.Hid (Ints Y13 Y13.heap.size (.slice (some ⟨grb, 0, none⟩) 2 2) [0, 1]) := Lib.hid (rb_12.out.up bl)
  have qa_13 : RowKit.Hid (Ints Y13 Y13.heap.size (.slice (some ⟨Z10.heap.size, 0, none⟩) 1 1) [1]) := Lib.hid (qa_12.out.up bl)
  have hs : Y13.heap.size = Z12.heap.size + 1 := by rw [hY]; simp
  have k0 : Blk Y13 (Z12.heap.size) #[.int .i64 1] 3 := by rw [hY]; exact (Blk.new _ _ 3)
  have qb_13 : RowKit.Hid (Ints Y13 Y13.heap.size (.slice (some ⟨Z12.heap.size, 0, none⟩) 1 1) [1]) := Lib.hid (ints_blk (l := [1]) (cap := 1) k0 (by omega))
  rw [← hY]
  clear hY bl hs k0 at_12 co_12 ra_12 rb_12 qa_12 B12
  refine (want_any 1 _ _ _ _).mono ?_
  rintro e Z14 ⟨rfl, bl⟩
  have B14 : RowKit.Hid (Below w.heap.size w Z14) := Lib.hid (B13.out.trans (bl.mono B13.out.size))
  have at_14 : RowKit.Hid (Ints Z14 Z14.heap.size (.slice (some ⟨w.heap.size, 0, none⟩) 2 2) [0, 1]) := Lib.hid (at_13.out.up bl)
  have co_14 : RowKit.Hid (Rows2 Z14 Z14.heap.size (.slice (some ⟨w.heap.size + 1 + 1 + 1, 0, none⟩) 2 2) [[0, 5], [5, 0]]) := Lib.hid (co_13.out.up bl)
  have ra_14 : RowKit.Hid (Ints Z14 Z14.heap.size (.slice (some ⟨gra, 0, none⟩) 1 1) [1]) := Lib.hid (ra_13.out.up bl)
  have rb_14 : RowKit.Hid (Ints Z14 Z14.heap.size (.slice (some ⟨grb, 0, none⟩) 2 2) [0, 1]) := Lib.hid (rb_13.out.up bl)
  have qa_14 : RowKit.Hid (Ints Z14 Z14.heap.size (.slice (some ⟨Z10.heap.size, 0, none⟩) 1 1) [1]) := Lib.hid (qa_13.out.up bl)
  have qb_14 : RowKit.Hid (Ints Z14 Z14.heap.size (.slice (some ⟨Z12.heap.size, 0, none⟩) 1 1) [1]) := Lib.hid (qb_13.out.up bl)
  clear bl at_13 co_13 ra_13 rb_13 qa_13 qb_13 B13
  go_wp2_with fail
  obtain ⟨Y15, hY⟩ : ∃ Y, Y = (Z14.alloc (.cells #[.int .i64 0, .int .i64 1] 3)) := ⟨_, rfl⟩
  have bl : Below Z14.heap.size Z14 Y15 := by rw [hY]; exact ((Below.refl _ _).alloc (by simp; try omega) _)
  have B15 : RowKit.Hid (Below w.heap.size w Y15) := Lib.hid (B14.out.trans (bl.mono B14.out.size))
  have at_15 : RowKit.Hid (Ints Y15 Y15.heap.size (.slice (some ⟨w.heap.size, 0, none⟩) 2 2) [0, 1]) := Lib.hid (at_14.out.up bl)
  have co_15 : RowKit.Hid (Rows2 Y15 Y15.heap.size (.slice (some ⟨w.heap.size + 1 + 1 + 1, 0, none⟩) 2 2) [[0, 5], [5, 0]]) := Lib.hid (co_14.out.up bl)
  have ra_15 : RowKit.Hid (Ints Y15 Y15.heap.size (.slice (some ⟨gra, 0, none⟩) 1 1) [1]) := Lib.hid (ra_14.out.up bl)
  have rb_15 : RowKit.Hid (Ints Y15 Y15.heap.size (.slice (some ⟨grb, 0, none⟩) 2 2) [0, 1]) := Lib.hid (rb_14.out.up bl)
  have qa_15 : RowKit.Hid (Ints Y15 Y15.heap.size (.slice (some ⟨Z10.heap.size, 0, none⟩) 1 1) [1]) := Lib.hid (qa_14.out.up bl)
  have qb_15 : RowKit.Hid (Ints Y15 Y15.heap.size (.slice (some ⟨Z12.heap.size, 0, none⟩) 1 1) [1]) := Lib.hid (qb_14.out.up bl)
  have hs : Y15.heap.size = Z14.heap.size + 1 := by rw [hY]; simp
  have k0 : Blk Y15 (Z14.heap.size) #[.int .i64 0, .int .i64 1] 3 := by rw [hY]; exact (Blk.new _ _ 3)
  have qc_15 : RowKit.Hid (Ints Y15 Y15.heap.size (.slice (some ⟨Z14.heap.size, 0, none⟩) 2 2) [0, 1]) := Lib.hid (ints_blk (l := [0, 1]) (cap := 2) k0 (by omega))
  rw [← hY]
  clear hY bl hs k0 at_14 co_14 ra_14 rb_14 qa_14 qb_14 B14
  refine (want_any 0 _ _ _ _).mono ?_
  rintro e Z16 ⟨rfl, bl⟩
  have B16 : RowKit.Hid (Below w.heap.size w Z16) := Lib.hid (B15.out.trans (bl.mono B15.out.size))
  have at_16 : RowKit.Hid (Ints Z16 Z16.heap.size (.slice (some ⟨w.heap.size, 0, none⟩) 2 2) [0, 1]) := Lib.hid (at_15.out.up bl)
  have co_16 : RowKit.Hid (Rows2 Z16 Z16.heap.size (.slice (some ⟨w.heap.size + 1 + 1 + 1, 0, none⟩) 2 2) [[0, 5], [5, 0]]) := Lib.hid (co_15.out.up bl)
  have ra_16 : RowKit.Hid (Ints Z16 Z16.heap.size (.slice (some ⟨gra, 0, none⟩) 1 1) [1]) := Lib.hid (ra_15.out.up bl)
  have rb_16 : RowKit.Hid (Ints Z16 Z16.heap.size (.slice (some ⟨grb, 0, none⟩) 2 2) [0, 1]) := Lib.hid (rb_15.out.up bl)
  have qa_16 : RowKit.Hid (Ints Z16 Z16.heap.size (.slice (some ⟨Z10.heap.size, 0, none⟩) 1 1) [1]) := Lib.hid (qa_15.out.up bl)
  have qb_16 : RowKit.Hid (Ints Z16 Z16.heap.size (.slice (some ⟨Z12.heap.size, 0, none⟩) 1 1) [1]) := Lib.hid (qb_15.out.up bl)
  have qc_16 : RowKit.Hid (Ints Z16 Z16.heap.size (.slice (some ⟨Z14.heap.size, 0, none⟩) 2 2) [0, 1]) := Lib.hid (qc_15.out.up bl)
  clear bl at_15 co_15 ra_15 rb_15 qa_15 qb_15 qc_15 B15
  go_wp2_with fail
  obtain ⟨Y17, hY⟩ : ∃ Y, Y = (Z16.alloc (.cells #[.int .i64 0, .slice (some ⟨Z10.heap.size, 0, none⟩) 1 1, .int .i64 1, .slice (some ⟨Z12.heap.size, 0, none⟩) 1 1, .int .i64 0, .slice (some ⟨Z14.heap.size, 0, none⟩) 2 2] 41)) := ⟨_, rfl⟩
  have bl : Below Z16.heap.size Z16 Y17 := by rw [hY]; exact ((Below.refl _ _).alloc (by simp; try omega) _)
  have B17 : RowKit.Hid (Below w.heap.size w Y17) := Lib.hid (B16.out.trans (bl.mono B16.out.size))
  have at_17 : RowKit.Hid (Ints Y17 Y17.heap.size (.slice (some ⟨w.heap.size, 0, none⟩) 2 2) [0, 1]) := Lib.hid (at_16.out.up bl)
  have co_17 : RowKit.Hid (Rows2 Y17 Y17.heap.size (.slice (some ⟨w.heap.size + 1 + 1 + 1, 0, none⟩) 2 2) [[0, 5], [5, 0]]) := Lib.hid (co_16.out.up bl)
  have ra_17 : RowKit.Hid (Ints Y17 Y17.heap.size (.slice (some ⟨gra, 0, none⟩) 1 1) [1]) := Lib.hid (ra_16.out.up bl)
  have rb_17 : RowKit.Hid (Ints Y17 Y17.heap.size (.slice (some ⟨grb, 0, none⟩) 2 2) [0, 1]) := Lib.hid (rb_16.out.up bl)
  have qa_17 : RowKit.Hid (Ints Y17 Y17.heap.size (.slice (some ⟨Z10.heap.size, 0, none⟩) 1 1) [1]) := Lib.hid (qa_16.out.up bl)
  have qb_17 : RowKit.Hid (Ints Y17 Y17.heap.size (.slice (some ⟨Z12.heap.size, 0, none⟩) 1 1) [1]) := Lib.hid (qb_16.out.up bl)
  have qc_17 : RowKit.Hid (Ints Y17 Y17.heap.size (.slice (some ⟨Z14.heap.size, 0, none⟩) 2 2) [0, 1]) := Lib.hid (qc_16.out.up bl)
  have hs : Y17.heap.size = Z16.heap.size + 1 := by rw [hY]; simp
  have k0 : Blk Y17 (Z16.heap.size) #[.int .i64 0, .slice (some ⟨Z10.heap.size, 0, none⟩) 1 1, .int .i64 1, .slice (some ⟨Z12.heap.size, 0, none⟩) 1 1, .int .i64 0, .slice (some ⟨Z14.heap.size, 0, none⟩) 2 2] 41 := by rw [hY]; exact (Blk.new _ _ 41)
  have ws_17 : RowKit.Hid (Wants Y17 Y17.heap.size (.slice (some ⟨Z16.heap.size, 0, none⟩) 3 3) [(0, [1]), (1, [1]), (0, [0, 1])]) := Lib.hid (wants_3 (cap := 3) k0 (by omega) (qa_16.out.up bl) (qb_16.out.up bl) (qc_16.out.up bl))
  rw [← hY]
  clear hY bl hs k0 at_16 co_16 ra_16 rb_16 qa_16 qb_16 qc_16 B16
  refine (assign_val ws_17.out at_17.out co_17.out (by simp) (by simp) (len_getD2 (by simp)) (len_getDC (by simp)) san3 rfl (o := [1, (-1), 0]) (by decide)).mono ?_
  rintro e Z18 ⟨⟨grc, rfl, hr⟩, bl⟩
  have B18 : RowKit.Hid (Below w.heap.size w Z18) := Lib.hid (B17.out.trans (bl.mono B17.out.size))
  have at_18 : RowKit.Hid (Ints Z18 Z18.heap.size (.slice (some ⟨w.heap.size, 0, none⟩) 2 2) [0, 1]) := Lib.hid (at_17.out.up bl)
  have co_18 : RowKit.Hid (Rows2 Z18 Z18.heap.size (.slice (some ⟨w.heap.size + 1 + 1 + 1, 0, none⟩) 2 2) [[0, 5], [5, 0]]) := Lib.hid (co_17.out.up bl)
  have ra_18 : RowKit.Hid (Ints Z18 Z18.heap.size (.slice (some ⟨gra, 0, none⟩) 1 1) [1]) := Lib.hid (ra_17.out.up bl)
  have rb_18 : RowKit.Hid (Ints Z18 Z18.heap.size (.slice (some ⟨grb, 0, none⟩) 2 2) [0, 1]) := Lib.hid (rb_17.out.up bl)
  have qa_18 : RowKit.Hid (Ints Z18 Z18.heap.size (.slice (some ⟨Z10.heap.size, 0, none⟩) 1 1) [1]) := Lib.hid (qa_17.out.up bl)
  have qb_18 : RowKit.Hid (Ints Z18 Z18.heap.size (.slice (some ⟨Z12.heap.size, 0, none⟩) 1 1) [1]) := Lib.hid (qb_17.out.up bl)
  have qc_18 : RowKit.Hid (Ints Z18 Z18.heap.size (.slice (some ⟨Z14.heap.size, 0, none⟩) 2 2) [0, 1]) := Lib.hid (qc_17.out.up bl)
  have ws_18 : RowKit.Hid (Wants Z18 Z18.heap.size (.slice (some ⟨Z16.heap.size, 0, none⟩) 3 3) [(0, [1]), (1, [1]), (0, [0, 1])]) := Lib.hid (ws_17.out.up bl)
  have rc_18 : RowKit.Hid (Ints Z18 Z18.heap.size (.slice (some ⟨grc, 0, none⟩) 3 3) [1, (-1), 0]) := Lib.hid (hr)
  clear bl at_17 co_17 ra_17 rb_17 qa_17 qb_17 qc_17 ws_17 B17 hr
  go_wp2_with fail
  clear qa_18
  clear qb_18
  clear qc_18
  clear ws_18
  obtain ⟨Y19, hY⟩ : ∃ Y, Y = (Z18.alloc (.cells #[.int .i64 0, .int .i64 1] 3)) := ⟨_, rfl⟩
  have bl : Below Z18.heap.size Z18 Y19 := by rw [hY]; exact ((Below.refl _ _).alloc (by simp; try omega) _)
  have B19 : RowKit.Hid (Below w.heap.size w Y19) := Lib.hid (B18.out.trans (bl.mono B18.out.size))
  have at_19 : RowKit.Hid (Ints Y19 Y19.heap.size (.slice (some ⟨w.heap.size, 0, none⟩) 2 2) [0, 1]) := Lib.hid (at_18.out.up bl)
  have co_19 : RowKit.Hid (Rows2 Y19 Y19.heap.size (.slice (some ⟨w.heap.size + 1 + 1 + 1, 0, none⟩) 2 2) [[0, 5], [5, 0]]) := Lib.hid (co_18.out.up bl)
  have ra_19 : RowKit.Hid (Ints Y19 Y19.heap.size (.slice (some ⟨gra, 0, none⟩) 1 1) [1]) := Lib.hid (ra_18.out.up bl)
  have rb_19 : RowKit.Hid (Ints Y19 Y19.heap.size (.slice (some ⟨grb, 0, none⟩) 2 2) [0, 1]) := Lib.hid (rb_18.out.up bl)
  have rc_19 : RowKit.Hid (Ints Y19 Y19.heap.size (.slice (some ⟨grc, 0, none⟩) 3 3) [1, (-1), 0]) := Lib.hid (rc_18.out.up bl)
  have hs : Y19.heap.size = Z18.heap.size + 1 := by rw [hY]; simp
  have k0 : Blk Y19 (Z18.heap.size) #[.int .i64 0, .int .i64 1] 3 := by rw [hY]; exact (Blk.new _ _ 3)
  have qa_19 : RowKit.Hid (Ints Y19 Y19.heap.size (.slice (some ⟨Z18.heap.size, 0, none⟩) 2 2) [0, 1]) := Lib.hid (ints_blk (l := [0, 1]) (cap := 2) k0 (by omega))
  rw [← hY]
  clear hY bl hs k0 at_18 co_18 ra_18 rb_18 rc_18 B18
  refine (want_any 0 _ _ _ _).mono ?_
  rintro e Z20 ⟨rfl, bl⟩
  have B20 : RowKit.Hid (Below w.heap.size w Z20) := Lib.hid (B19.out.trans (bl.mono B19.out.size))
  have at_20 : RowKit.Hid (Ints Z20 Z20.heap.size (.slice (some ⟨w.heap.size, 0, none⟩) 2 2) [0, 1]) := Lib.hid (at_19.out.up bl)
  have co_20 : RowKit.Hid (Rows2 Z20 Z20.heap.size (.slice (some ⟨w.heap.size + 1 + 1 + 1, 0, none⟩) 2 2) [[0, 5], [5, 0]]) := Lib.hid (co_19.out.up bl)
  have ra_20 : RowKit.Hid (Ints Z20 Z20.heap.size (.slice (some ⟨gra, 0, none⟩) 1 1) [1]) := Lib.hid (ra_19.out.up bl)
  have rb_20 : RowKit.Hid (Ints Z20 Z20.heap.size (.slice (some ⟨grb, 0, none⟩) 2 2) [0, 1]) := Lib.hid (rb_19.out.up bl)
  have rc_20 : RowKit.Hid (Ints Z20 Z20.heap.size (.slice (some ⟨grc, 0, none⟩) 3 3) [1, (-1), 0]) := Lib.hid (rc_19.out.up bl)
  have qa_20 : RowKit.Hid (Ints Z20 Z20.heap.size (.slice (some ⟨Z18.heap.size, 0, none⟩) 2 2) [0, 1]) := Lib.hid (qa_19.out.up bl)
  clear bl at_19 co_19 ra_19 rb_19 rc_19 qa_19 B19
  go_wp2_with fail
  obtain ⟨Y21, hY⟩ : ∃ Y, Y = (Z20.alloc (.cells #[.int .i64 0, .int .i64 1] 3)) := ⟨_, rfl⟩
  have bl : Below Z20.heap.size Z20 Y21 := by rw [hY]; exact ((Below.refl _ _).alloc (by simp; try omega) _)
  have B21 : RowKit.Hid (Below w.heap.size w Y21) := Lib.hid (B20.out.trans (bl.mono B20.out.size))
  have at_21 : RowKit.Hid (Ints Y21 Y21.heap.size (.slice (some ⟨w.heap.size, 0, none⟩) 2 2) [0, 1]) := Lib.hid (at_20.out.up bl)
  have co_21 : RowKit.Hid (Rows2 Y21 Y21.heap.size (.slice (some ⟨w.heap.size + 1 + 1 + 1, 0, none⟩) 2 2) [[0, 5], [5, 0]]) := Lib.hid (co_20.out.up bl)
  have ra_21 : RowKit.Hid (Ints Y21 Y21.heap.size (.slice (some ⟨gra, 0, none⟩) 1 1) [1]) := Lib.hid (ra_20.out.up bl)
  have rb_21 : RowKit.Hid (Ints Y21 Y21.heap.size (.slice (some ⟨grb, 0, none⟩) 2 2) [0, 1]) := Lib.hid (rb_20.out.up bl)
  have rc_21 : RowKit.Hid (Ints Y21 Y21.heap.size (.slice (some ⟨grc, 0, none⟩) 3 3) [1, (-1), 0]) := Lib.hid (rc_20.out.up bl)
  have qa_21 : RowKit.Hid (Ints Y21 Y21.heap.size (.slice (some ⟨Z18.heap.size, 0, none⟩) 2 2) [0, 1]) := Lib.hid (qa_20.out.up bl)
  have hs : Y21.heap.size = Z20.heap.size + 1 := by rw [hY]; simp
  have k0 : Blk Y21 (Z20.heap.size) #[.int .i64 0, .int .i64 1] 3 := by rw [hY]; exact (Blk.new _ _ 3)
  have qb_21 : RowKit.Hid (Ints Y21 Y21.heap.size (.slice (some ⟨Z20.heap.size, 0, none⟩) 2 2) [0, 1]) := Lib.hid (ints_blk (l := [0, 1]) (cap := 2) k0 (by omega))
  rw [← hY]
  clear hY bl hs k0 at_20 co_20 ra_20 rb_20 rc_20 qa_20 B20
  refine (want_any 0 _ _ _ _).mono ?_
  rintro e Z22 ⟨rfl, bl⟩
  have B22 : RowKit.Hid (Below w.heap.size w Z22) := Lib.hid (B21.out.trans (bl.mono B21.out.size))
  have at_22 : RowKit.Hid (Ints Z22 Z22.heap.size (.slice (some ⟨w.heap.size, 0, none⟩) 2 2) [0, 1]) := Lib.hid (at_21.out.up bl)
  have co_22 : RowKit.Hid (Rows2 Z22 Z22.heap.size (.slice (some ⟨w.heap.size + 1 + 1 + 1, 0, none⟩) 2 2) [[0, 5], [5, 0]]) := Lib.hid (co_21.out.up bl)
  have ra_22 : RowKit.Hid (Ints Z22 Z22.heap.size (.slice (some ⟨gra, 0, none⟩) 1 1) [1]) := Lib.hid (ra_21.out.up bl)
  have rb_22 : RowKit.Hid (Ints Z22 Z22.heap.size (.slice (some ⟨grb, 0, none⟩) 2 2) [0, 1]) := Lib.hid (rb_21.out.up bl)
  have rc_22 : RowKit.Hid (Ints Z22 Z22.heap.size (.slice (some ⟨grc, 0, none⟩) 3 3) [1, (-1), 0]) := Lib.hid (rc_21.out.up bl)
  have qa_22 : RowKit.Hid (Ints Z22 Z22.heap.size (.slice (some ⟨Z18.heap.size, 0, none⟩) 2 2) [0, 1]) := Lib.hid (qa_21.out.up bl)
  have qb_22 : RowKit.Hid (Ints Z22 Z22.heap.size (.slice (some ⟨Z20.heap.size, 0, none⟩) 2 2) [0, 1]) := Lib.hid (qb_21.out.up bl)
  clear bl at_21 co_21 ra_21 rb_21 rc_21 qa_21 qb_21 B21
  go_wp2_with fail
  obtain ⟨Y23, hY⟩ : ∃ Y, Y = (Z22.alloc (.cells #[.int .i64 0, .slice (some ⟨Z18.heap.size, 0, none⟩) 2 2, .int .i64 0, .slice (some ⟨Z20.heap.size, 0, none⟩) 2 2] 41)) := ⟨_, rfl⟩
  have bl : Below Z22.heap.size Z22 Y23 := by rw [hY]; exact ((Below.refl _ _).alloc (by simp; try omega) _)
  have B23 : RowKit.Hid (Below w.heap.size w Y23) := Lib.hid (B22.out.trans (bl.mono B22.out.size))
  have at_23 : RowKit.Hid (Ints Y23 Y23.heap.size (.slice (some ⟨w.heap.size, 0, none⟩) 2 2) [0, 1]) := Lib.hid (at_22.out.up bl)
  have co_23 : RowKit.Hid (Rows2 Y23 Y23.heap.size (.slice (some ⟨w.heap.size + 1 + 1 + 1, 0, none⟩) 2 2) [[0, 5], [5, 0]]) := Lib.hid (co_22.out.up bl)
  have ra_23 : RowKit.Hid (Ints Y23 Y23.heap.size (.slice (some ⟨gra, 0, none⟩) 1 1) [1]) := Lib.hid (ra_22.out.up bl)
  have rb_23 : RowKit.Hid (Ints Y23 Y23.heap.size (.slice (some ⟨grb, 0, none⟩) 2 2) [0, 1]) := Lib.hid (rb_22.out.up bl)
  have rc_23 : RowKit.Hid (Ints Y23 Y23.heap.size (.slice (some ⟨grc, 0, none⟩) 3 3) [1, (-1), 0]) := Lib.hid (rc_22.out.up bl)
  have qa_23 : RowKit.Hid (Ints Y23 Y23.heap.size (.slice (some ⟨Z18.heap.size, 0, none⟩) 2 2) [0, 1]) := Lib.hid (qa_22.out.up bl)
  have qb_23 : RowKit.Hid (Ints Y23 Y23.heap.size (.slice (some ⟨Z20.heap.size, 0, none⟩) 2 2) [0, 1]) := Lib.hid (qb_22.out.up bl)
  have hs : Y23.heap.size = Z22.heap.size + 1 := by rw [hY]; simp
  have k0 : Blk Y23 (Z22.heap.size) #[.int .i64 0, .slice (some ⟨Z18.heap.size, 0, none⟩) 2 2, .int .i64 0, .slice (some ⟨Z20.heap.size, 0, none⟩) 2 2] 41 := by rw [hY]; exact (Blk.new _ _ 41)
  have ws_23 : RowKit.Hid (Wants Y23 Y23.heap.size (.slice (some ⟨Z22.heap.size, 0, none⟩) 2 2) [(0, [0, 1]), (0, [0, 1])]) := Lib.hid (wants_2 (cap := 2) k0 (by omega) (qa_22.out.up bl) (qb_22.out.up bl))
  rw [← hY]
  clear hY bl hs k0 at_22 co_22 ra_22 rb_22 rc_22 qa_22 qb_22 B22
  refine (assign_val ws_23.out at_23.out co_23.out (by simp) (by simp) (len_getD2 (by simp)) (len_getDC (by simp)) san4 rfl (o := [0, 1]) (by decide)).mono ?_
  rintro e Z24 ⟨⟨grd, rfl, hr⟩, bl⟩
  have B24 : RowKit.Hid (Below w.heap.size w Z24) := Lib.hid (B23.out.trans (bl.mono B23.out.size))
  have at_24 : RowKit.Hid (Ints Z24 Z24.heap.size (.slice (some ⟨w.heap.size, 0, none⟩) 2 2) [0, 1]) := Lib.hid (at_23.out.up bl)
  have co_24 : RowKit.Hid (Rows2 Z24 Z24.heap.size (.slice (some ⟨w.heap.size + 1 + 1 + 1, 0, none⟩) 2 2) [[0, 5], [5, 0]]) := Lib.hid (co_23.out.up bl)
  have ra_24 : RowKit.Hid (Ints Z24 Z24.heap.size (.slice (some ⟨gra, 0, none⟩) 1 1) [1]) := Lib.hid (ra_23.out.up bl)
  have rb_24 : RowKit.Hid (Ints Z24 Z24.heap.size (.slice (some ⟨grb, 0, none⟩) 2 2) [0, 1]) := Lib.hid (rb_23.out.up bl)
  have rc_24 : RowKit.Hid (Ints Z24 Z24.heap.size (.slice (some ⟨grc, 0, none⟩) 3 3) [1, (-1), 0]) := Lib.hid (rc_23.out.up bl)
  have qa_24 : RowKit.Hid (Ints Z24 Z24.heap.size (.slice (some ⟨Z18.heap.size, 0, none⟩) 2 2) [0, 1]) := Lib.hid (qa_23.out.up bl)
  have qb_24 : RowKit.Hid (Ints Z24 Z24.heap.size (.slice (some ⟨Z20.heap.size, 0, none⟩) 2 2) [0, 1]) := Lib.hid (qb_23.out.up bl)
  have ws_24 : RowKit.Hid (Wants Z24 Z24.heap.size (.slice (some ⟨Z22.heap.size, 0, none⟩) 2 2) [(0, [0, 1]), (0, [0, 1])]) := Lib.hid (ws_23.out.up bl)
  have rd_24 : RowKit.Hid (Ints Z24 Z24.heap.size (.slice (some ⟨grd, 0, none⟩) 2 2) [0, 1]) := Lib.hid (hr)
  clear bl at_23 co_23 ra_23 rb_23 rc_23 qa_23 qb_23 ws_23 B23 hr
  go_wp2_with fail
  clear qa_24
  clear qb_24
  clear ws_24
  obtain ⟨Y25, hY⟩ : ∃ Y, Y = (Z24.alloc (.cells #[.int .i64 0, .int .i64 1] 3)) := ⟨_, rfl⟩
  have bl : Below Z24.heap.size Z24 Y25 := by rw [hY]; exact ((Below.refl _ _).alloc (by simp; try omega) _)
  have B25 : RowKit.Hid (Below w.heap.size w Y25) := Lib.hid (B24.out.trans (bl.mono B24.out.size))
  have at_25 : RowKit.Hid (Ints Y25 Y25.heap.size (.slice (some ⟨w.heap.size, 0, none⟩) 2 2) [0, 1]) := Lib.hid (at_24.out.up bl)
  have co_25 : RowKit.Hid (Rows2 Y25 Y25.heap.size (.slice (some ⟨w.heap.size + 1 + 1 + 1, 0, none⟩) 2 2) [[0, 5], [5, 0]]) := Lib.hid (co_24.out.up bl)
  have ra_25 : RowKit.Hid (Ints Y25 Y25.heap.size (.slice (some ⟨gra, 0, none⟩) 1 1) [1]) := Lib.hid (ra_24.out.up bl)
  have rb_25 : RowKit.Hid (Ints Y25 Y25.heap.size (.slice (some ⟨grb, 0, none⟩) 2 2) [0, 1]) := Lib.hid (rb_24.out.up bl)
  have rc_25 : RowKit.Hid (Ints Y25 Y25.heap.size (.slice (some ⟨grc, 0, none⟩) 3 3) [1, (-1), 0]) := Lib.hid (rc_24.out.up bl)
  have rd_25 : RowKit.Hid (Ints Y25 Y25.heap.size (.slice (some ⟨grd, 0, none⟩) 2 2) [0, 1]) := Lib.hid (rd_24.out.up bl)
  have hs : Y25.heap.size = Z24.heap.size + 1 := by rw [hY]; simp
  have k0 : Blk Y25 (Z24.heap.size) #[.int .i64 0, .int .i64 1] 3 := by rw [hY]; exact (Blk.new _ _ 3)
  have qa_25 : RowKit.Hid (Ints Y25 Y25.heap.size (.slice (some ⟨Z24.heap.size, 0, none⟩) 2 2) [0, 1]) := Lib.hid (ints_blk (l := [0, 1]) (cap := 2) k0 (by omega))
  rw [← hY]
  clear hY bl hs k0 at_24 co_24 ra_24 rb_24 rc_24 rd_24 B24
  refine (want_any 1 _ _ _ _).mono ?_
  rintro e Z26 ⟨rfl, bl⟩
  have B26 : RowKit.Hid (Below w.heap.size w Z26) := Lib.hid (B25.out.trans (bl.mono B25.out.size))
  have at_26 : RowKit.Hid (Ints Z26 Z26.heap.size (.slice (some ⟨w.heap.size, 0, none⟩) 2 2) [0, 1]) := Lib.hid (at_25.out.up bl)
  have co_26 : RowKit.Hid (Rows2 Z26 Z26.heap.size (.slice (some ⟨w.heap.size + 1 + 1 + 1, 0, none⟩) 2 2) [[0, 5], [5, 0]]) := Lib.hid (co_25.out.up bl)
  have ra_26 : RowKit.Hid (Ints Z26 Z26.heap.size (.slice (some ⟨gra, 0, none⟩) 1 1) [1]) := Lib.hid (ra_25.out.up bl)
  have rb_26 : RowKit.Hid (Ints Z26 Z26.heap.size (.slice (some ⟨grb, 0, none⟩) 2 2) [0, 1]) := Lib.hid (rb_25.out.up bl)
  have rc_26 : RowKit.Hid (Ints Z26 Z26.heap.size (.slice (some ⟨grc, 0, none⟩) 3 3) [1, (-1), 0]) := Lib.hid (rc_25.out.up bl)
  have rd_26 : RowKit.Hid (Ints Z26 Z26.heap.size (.slice (some ⟨grd, 0, none⟩) 2 2) [0, 1]) := Lib.hid (rd_25.out.up bl)
  have qa_26 : RowKit.Hid (Ints Z26 Z26.heap.size (.slice (some ⟨Z24.heap.size, 0, none⟩) 2 2) [0, 1]) := Lib.hid (qa_25.out.up bl)
  clear bl at_25 co_25 ra_25 rb_25 rc_25 rd_25 qa_25 B25
  go_wp2_with fail
  obtain ⟨Y27, hY⟩ : ∃ Y, Y = ((Z26.alloc (.cells #[.int .i64 1, .slice (some ⟨Z24.heap.size, 0, none⟩) 2 2] 41)).alloc (.cells #[.int .i64 0] 3)) := ⟨_, rfl⟩
  have bl : Below Z26.heap.size Z26 Y27 := by rw [hY]; exact (((Below.refl _ _).alloc (by simp; try omega) _).alloc (by simp; try omega) _)
  have B27 : RowKit.Hid (Below w.heap.size w Y27) := Lib.hid (B26.out.trans (bl.mono B26.out.size))
  have at_27 : RowKit.Hid (Ints Y27 Y27.heap.size (.slice (some ⟨w.heap.size, 0, none⟩) 2 2) [0, 1]) := Lib.hid (at_26.out.up bl)
  have co_27 : RowKit.Hid (Rows2 Y27 Y27.heap.size (.slice (some ⟨w.heap.size + 1 + 1 + 1, 0, none⟩) 2 2) [[0, 5], [5, 0]]) := Lib.hid (co_26.out.up bl)
  have ra_27 : RowKit.Hid (Ints Y27 Y27.heap.size (.slice (some ⟨gra, 0, none⟩) 1 1) [1]) := Lib.hid (ra_26.out.up bl)
  have rb_27 : RowKit.Hid (Ints Y27 Y27.heap.size (.slice (some ⟨grb, 0, none⟩) 2 2) [0, 1]) := Lib.hid (rb_26.out.up bl)
  have rc_27 : RowKit.Hid (Ints Y27 Y27.heap.size (.slice (some ⟨grc, 0, none⟩) 3 3) [1, (-1), 0]) := Lib.hid (rc_26.out.up bl)
  have rd_27 : RowKit.Hid (Ints Y27 Y27.heap.size (.slice (some ⟨grd, 0, none⟩) 2 2) [0, 1]) := Lib.hid (rd_26.out.up bl)
  have qa_27 : RowKit.Hid (Ints Y27 Y27.heap.size (.slice (some ⟨Z24.heap.size, 0, none⟩) 2 2) [0, 1]) := Lib.hid (qa_26.out.up bl)
  have hs : Y27.heap.size = Z26.heap.size + 1 + 1 := by rw [hY]; simp
  have k0 : Blk Y27 (Z26.heap.size) #[.int .i64 1, .slice (some ⟨Z24.heap.size, 0, none⟩) 2 2] 41 := by rw [hY]; exact ((Blk.new _ _ 41).alloc _)
  have k1 : Blk Y27 (Z26.heap.size + 1) #[.int .i64 0] 3 := by rw [hY]; exact (Blk.at_new (by simp) _ 3)
  have ws_27 : RowKit.Hid (Wants Y27 Y27.heap.size (.slice (some ⟨Z26.heap.size, 0, none⟩) 1 1) [(1, [0, 1])]) := Lib.hid (wants_1 (cap := 1) k0 (by omega) (qa_26.out.up bl))
  have ls_27 : RowKit.Hid (Ints Y27 Y27.heap.size (.slice (some ⟨Z26.heap.size + 1, 0, none⟩) 1 1) [0]) := Lib.hid (ints_blk (l := [0]) (cap := 1) k1 (by omega))
  rw [← hY]
  clear hY bl hs k0 k1 at_26 co_26 ra_26 rb_26 rc_26 rd_26 qa_26 B26
  have KC := Lib.hid (cost_any [(1, [0, 1])] [0, 1] [[0, 5], [5, 0]] [0] Y27 Y27.heap.size _ _ _ _ ws_27.out at_27.out co_27.out ls_27.out (by simp) (by simp) (len_getD2 (by simp)) (len_getDC (by simp)) (Nat.le_refl _) (by simp) (fun i hi => by have h0 : i = 0 := (by simpa using hi); subst h0; simp))
  refine (KC.out).mono ?_
  rintro e Z28 ⟨rfl, bl⟩
  have B28 : RowKit.Hid (Below w.heap.size w Z28) := Lib.hid (B27.out.trans (bl.mono B27.out.size))
  have at_28 : RowKit.Hid (Ints Z28 Z28.heap.size (.slice (some ⟨w.heap.size, 0, none⟩) 2 2) [0, 1]) := Lib.hid (at_27.out.up bl)
  have co_28 : RowKit.Hid (Rows2 Z28 Z28.heap.size (.slice (some ⟨w.heap.size + 1 + 1 + 1, 0, none⟩) 2 2) [[0, 5], [5, 0]]) := Lib.hid (co_27.out.up bl)
  have ra_28 : RowKit.Hid (Ints Z28 Z28.heap.size (.slice (some ⟨gra, 0, none⟩) 1 1) [1]) := Lib.hid (ra_27.out.up bl)
  have rb_28 : RowKit.Hid (Ints Z28 Z28.heap.size (.slice (some ⟨grb, 0, none⟩) 2 2) [0, 1]) := Lib.hid (rb_27.out.up bl)
  have rc_28 : RowKit.Hid (Ints Z28 Z28.heap.size (.slice (some ⟨grc, 0, none⟩) 3 3) [1, (-1), 0]) := Lib.hid (rc_27.out.up bl)
  have rd_28 : RowKit.Hid (Ints Z28 Z28.heap.size (.slice (some ⟨grd, 0, none⟩) 2 2) [0, 1]) := Lib.hid (rd_27.out.up bl)
  have qa_28 : RowKit.Hid (Ints Z28 Z28.heap.size (.slice (some ⟨Z24.heap.size, 0, none⟩) 2 2) [0, 1]) := Lib.hid (qa_27.out.up bl)
  have ws_28 : RowKit.Hid (Wants Z28 Z28.heap.size (.slice (some ⟨Z26.heap.size, 0, none⟩) 1 1) [(1, [0, 1])]) := Lib.hid (ws_27.out.up bl)
  have ls_28 : RowKit.Hid (Ints Z28 Z28.heap.size (.slice (some ⟨Z26.heap.size + 1, 0, none⟩) 1 1) [0]) := Lib.hid (ls_27.out.up bl)
  clear bl at_27 co_27 ra_27 rb_27 rc_27 rd_27 qa_27 ws_27 ls_27 B27
  rw [san5]
  clear KC
  go_wp2_with fail
  clear qa_28
  clear ws_28
  clear ls_28
  clear at_28
  clear co_28
  obtain ⟨Y29, hY⟩ : ∃ Y, Y = (Z28.alloc (.cells #[.int .i64 1] 3)) := ⟨_, rfl⟩
  have bl : Below Z28.heap.size Z28 Y29 := by rw [hY]; exact ((Below.refl _ _).alloc (by simp; try omega) _)
  have B29 : RowKit.Hid (Below w.heap.size w Y29) := Lib.hid (B28.out.trans (bl.mono B28.out.size))
  have ra_29 : RowKit.Hid (Ints Y29 Y29.heap.size (.slice (some ⟨gra, 0, none⟩) 1 1) [1]) := Lib.hid (ra_28.out.up bl)
  have rb_29 : RowKit.Hid (Ints Y29 Y29.heap.size (.slice (some ⟨grb, 0, none⟩) 2 2) [0, 1]) := Lib.hid (rb_28.out.up bl)
  have rc_29 : RowKit.Hid (Ints Y29 Y29.heap.size (.slice (some ⟨grc, 0, none⟩) 3 3) [1, (-1), 0]) := Lib.hid (rc_28.out.up bl)
  have rd_29 : RowKit.Hid (Ints Y29 Y29.heap.size (.slice (some ⟨grd, 0, none⟩) 2 2) [0, 1]) := Lib.hid (rd_28.out.up bl)
  have hs : Y29.heap.size = Z28.heap.size + 1 := by rw [hY]; simp
  have k0 : Blk Y29 (Z28.heap.size) #[.int .i64 1] 3 := by rw [hY]; exact (Blk.new _ _ 3)
  have qs_29 : RowKit.Hid (Ints Y29 Y29.heap.size (.slice (some ⟨Z28.heap.size, 0, none⟩) 1 1) [1]) := Lib.hid (ints_blk (l := [1]) (cap := 1) k0 (by omega))
  rw [← hY]
  clear hY bl hs k0 ra_28 rb_28 rc_28 rd_28 B28
  refine (same_val ra_29.out qs_29.out (by simp)).mono ?_
  rintro e Z30 ⟨rfl, bl⟩
  have B30 : RowKit.Hid (Below w.heap.size w Z30) := Lib.hid (B29.out.trans (bl.mono B29.out.size))
  have ra_30 : RowKit.Hid (Ints Z30 Z30.heap.size (.slice (some ⟨gra, 0, none⟩) 1 1) [1]) := Lib.hid (ra_29.out.up bl)
  have rb_30 : RowKit.Hid (Ints Z30 Z30.heap.size (.slice (some ⟨grb, 0, none⟩) 2 2) [0, 1]) := Lib.hid (rb_29.out.up bl)
  have rc_30 : RowKit.Hid (Ints Z30 Z30.heap.size (.slice (some ⟨grc, 0, none⟩) 3 3) [1, (-1), 0]) := Lib.hid (rc_29.out.up bl)
  have rd_30 : RowKit.Hid (Ints Z30 Z30.heap.size (.slice (some ⟨grd, 0, none⟩) 2 2) [0, 1]) := Lib.hid (rd_29.out.up bl)
  have qs_30 : RowKit.Hid (Ints Z30 Z30.heap.size (.slice (some ⟨Z28.heap.size, 0, none⟩) 1 1) [1]) := Lib.hid (qs_29.out.up bl)
  clear bl ra_29 rb_29 rc_29 rd_29 qs_29 B29
  go_wp2_with fail
  clear ra_30
  clear qs_30
  obtain ⟨Y31, hY⟩ : ∃ Y, Y = (Z30.alloc (.cells #[.int .i64 0, .int .i64 1] 3)) := ⟨_, rfl⟩
  have bl : Below Z30.heap.size Z30 Y31 := by rw [hY]; exact ((Below.refl _ _).alloc (by simp; try omega) _)
  have B31 : RowKit.Hid (Below w.heap.size w Y31) := Lib.hid (B30.out.trans (bl.mono B30.out.size))
  have rb_31 : RowKit.Hid (Ints Y31 Y31.heap.size (.slice (some ⟨grb, 0, none⟩) 2 2) [0, 1]) := Lib.hid (rb_30.out.up bl)
  have rc_31 : RowKit.Hid (Ints Y31 Y31.heap.size (.slice (some ⟨grc, 0, none⟩) 3 3) [1, (-1), 0]) := Lib.hid (rc_30.out.up bl)
  have rd_31 : RowKit.Hid (Ints Y31 Y31.heap.size (.slice (some ⟨grd, 0, none⟩) 2 2) [0, 1]) := Lib.hid (rd_30.out.up bl)
  have hs : Y31.heap.size = Z30.heap.size + 1 := by rw [hY]; simp
  have k0 : Blk Y31 (Z30.heap.size) #[.int .i64 0, .int .i64 1] 3 := by rw [hY]; exact (Blk.new _ _ 3)
  have qs_31 : RowKit.Hid (Ints Y31 Y31.heap.size (.slice (some ⟨Z30.heap.size, 0, none⟩) 2 2) [0, 1]) := Lib.hid (ints_blk (l := [0, 1]) (cap := 2) k0 (by omega))
  rw [← hY]
  clear hY bl hs k0 rb_30 rc_30 rd_30 B30
  refine (same_val rb_31.out qs_31.out (by simp)).mono ?_
  rintro e Z32 ⟨rfl, bl⟩
  have B32 : RowKit.Hid (Below w.heap.size w Z32) := Lib.hid (B31.out.trans (bl.mono B31.out.size))
  have rb_32 : RowKit.Hid (Ints Z32 Z32.heap.size (.slice (some ⟨grb, 0, none⟩) 2 2) [0, 1]) := Lib.hid (rb_31.out.up bl)
  have rc_32 : RowKit.Hid (Ints Z32 Z32.heap.size (.slice (some ⟨grc, 0, none⟩) 3 3) [1, (-1), 0]) := Lib.hid (rc_31.out.up bl)
  have rd_32 : RowKit.Hid (Ints Z32 Z32.heap.size (.slice (some ⟨grd, 0, none⟩) 2 2) [0, 1]) := Lib.hid (rd_31.out.up bl)
  have qs_32 : RowKit.Hid (Ints Z32 Z32.heap.size (.slice (some ⟨Z30.heap.size, 0, none⟩) 2 2) [0, 1]) := Lib.hid (qs_31.out.up bl)
  clear bl rb_31 rc_31 rd_31 qs_31 B31
  go_wp2_with fail
  clear rb_32
  clear qs_32
  obtain ⟨Y33, hY⟩ : ∃ Y, Y = (Z32.alloc (.cells #[.int .i64 1, .int .i64 (-1), .int .i64 0] 3)) := ⟨_, rfl⟩
  have bl : Below Z32.heap.size Z32 Y33 := by rw [hY]; exact ((Below.refl _ _).alloc (by simp; try omega) _)
  have B33 : RowKit.Hid (Below w.heap.size w Y33) := Lib.hid (B32.out.trans (bl.mono B32.out.size))
  have rc_33 : RowKit.Hid (Ints Y33 Y33.heap.size (.slice (some ⟨grc, 0, none⟩) 3 3) [1, (-1), 0]) := Lib.hid (rc_32.out.up bl)
  have rd_33 : RowKit.Hid (Ints Y33 Y33.heap.size (.slice (some ⟨grd, 0, none⟩) 2 2) [0, 1]) := Lib.hid (rd_32.out.up bl)
  have hs : Y33.heap.size = Z32.heap.size + 1 := by rw [hY]; simp
  have k0 : Blk Y33 (Z32.heap.size) #[.int .i64 1, .int .i64 (-1), .int .i64 0] 3 := by rw [hY]; exact (Blk.new _ _ 3)
  have qs_33 : RowKit.Hid (Ints Y33 Y33.heap.size (.slice (some ⟨Z32.heap.size, 0, none⟩) 3 3) [1, (-1), 0]) := Lib.hid (ints_blk (l := [1, (-1), 0]) (cap := 3) k0 (by omega))
  rw [← hY]
  clear hY bl hs k0 rc_32 rd_32 B32
  refine (same_val rc_33.out qs_33.out (by simp)).mono ?_
  rintro e Z34 ⟨rfl, bl⟩
  have B34 : RowKit.Hid (Below w.heap.size w Z34) := Lib.hid (B33.out.trans (bl.mono B33.out.size))
  have rc_34 : RowKit.Hid (Ints Z34 Z34.heap.size (.slice (some ⟨grc, 0, none⟩) 3 3) [1, (-1), 0]) := Lib.hid (rc_33.out.up bl)
  have rd_34 : RowKit.Hid (Ints Z34 Z34.heap.size (.slice (some ⟨grd, 0, none⟩) 2 2) [0, 1]) := Lib.hid (rd_33.out.up bl)
  have qs_34 : RowKit.Hid (Ints Z34 Z34.heap.size (.slice (some ⟨Z32.heap.size, 0, none⟩) 3 3) [1, (-1), 0]) := Lib.hid (qs_33.out.up bl)
  clear bl rc_33 rd_33 qs_33 B33
  go_wp2_with fail
  clear rc_34
  clear qs_34
  obtain ⟨Y35, hY⟩ : ∃ Y, Y = (Z34.alloc (.cells #[.int .i64 0, .int .i64 1] 3)) := ⟨_, rfl⟩
  have bl : Below Z34.heap.size Z34 Y35 := by rw [hY]; exact ((Below.refl _ _).alloc (by simp; try omega) _)
  have B35 : RowKit.Hid (Below w.heap.size w Y35) := Lib.hid (B34.out.trans (bl.mono B34.out.size))
  have rd_35 : RowKit.Hid (Ints Y35 Y35.heap.size (.slice (some ⟨grd, 0, none⟩) 2 2) [0, 1]) := Lib.hid (rd_34.out.up bl)
  have hs : Y35.heap.size = Z34.heap.size + 1 := by rw [hY]; simp
  have k0 : Blk Y35 (Z34.heap.size) #[.int .i64 0, .int .i64 1] 3 := by rw [hY]; exact (Blk.new _ _ 3)
  have qs_35 : RowKit.Hid (Ints Y35 Y35.heap.size (.slice (some ⟨Z34.heap.size, 0, none⟩) 2 2) [0, 1]) := Lib.hid (ints_blk (l := [0, 1]) (cap := 2) k0 (by omega))
  rw [← hY]
  clear hY bl hs k0 rd_34 B34
  refine (same_val rd_35.out qs_35.out (by simp)).mono ?_
  rintro e Z36 ⟨rfl, bl⟩
  have B36 : RowKit.Hid (Below w.heap.size w Z36) := Lib.hid (B35.out.trans (bl.mono B35.out.size))
  have rd_36 : RowKit.Hid (Ints Z36 Z36.heap.size (.slice (some ⟨grd, 0, none⟩) 2 2) [0, 1]) := Lib.hid (rd_35.out.up bl)
  have qs_36 : RowKit.Hid (Ints Z36 Z36.heap.size (.slice (some ⟨Z34.heap.size, 0, none⟩) 2 2) [0, 1]) := Lib.hid (qs_35.out.up bl)
  clear bl rd_35 qs_35 B35
  go_wp2_with fail
  clear rd_36
  clear qs_36
  go_ret
  exact ⟨rfl, B36.out⟩
end Go.Proofs.Ytpcmppamkgkdlaa
