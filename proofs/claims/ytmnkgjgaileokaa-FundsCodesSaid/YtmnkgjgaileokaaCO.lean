/- The contract of codec.Number. -/
import Derived.Test.YtmnkgjgaileokaaCN
import Derived.Lib.BufferRead
namespace Go.Proofs.Ytmnkgjgaileokaa
open Go.RowKit Go.Shelf Go.Maps
attribute [local go_sem] Oper.semAt_some

theorem groups_any (m : Nat) (w : World) : Calls Try.prog 85 #[.int .u64 (m : Int)] w fun e w' => e = .returned (.func (.func 99) #[] #[.pointer (some ⟨w.heap.size, 0, none⟩)]) ∧ w' = w.alloc (.cells #[.int .u64 (m : Int)] 87) := by
  have hmf : ∀ (fn : Fn) (first cap : Array Value) (w : World), (Instr.makeFunc fn first cap).run Try.prog w = .ok (.func fn first cap) w := fun _ _ _ _ => rfl
  go_enter Try.func85, Try.ntmps85
  go_wp2_with fail
  go_ret
  exact ⟨rfl, rfl⟩
theorem cells_grp (xs : List (Fin 128 × Bool)) : xs.map cellG = (xs.map grpByte).map fun b => Value.int .u8 (b.toNat : Int) := by
  rw [List.map_map]
  refine List.map_congr_left fun x _ => ?_
  show Value.int .u8 (grpVal x) = Value.int .u8 ((grpByte x).toNat : Int)
  rw [grpByte_val]
theorem rowE_cell {w : World} {base r n c : Nat} {e : TypeId} {xs : List Value} (h : w.ownsRow base e 1 (.slice (some ⟨r, 0, none⟩) n c) n xs) (k : Nat) (u : Value) (hk : xs[k]? = some u) : w.cell? ⟨r, k, none⟩ = some u := by
  obtain ⟨h0, ⟨h1, _⟩ | ⟨g, c', cur, h1, _, h3, h4, _, h5, h6⟩⟩ := h
  · cases h1
  · injection h1 with h1
    injection h1 with h1
    injection h1 with h1
    subst h1
    have hk' : k < n := by
      rcases Nat.lt_or_ge k xs.length with h | h
      · omega
      · simp [List.getElem?_eq_none h] at hk
    rw [← h6, List.getElem?_take_of_lt (by omega)] at hk
    simp only [World.cell?, h3]
    simpa using hk
theorem row_string {w : World} {base n : Nat} {v : Value} {l : List UInt8} (h : w.ownsRow base 5 1 v n (l.map fun b => Value.int .u8 (b.toNat : Int))) (hn : n = l.length) :
    (convert 57 9 v).run Try.prog w = .ok (.string ⟨l.toArray⟩) w := by
  subst hn
  have h' := h
  rcases h.2 with ⟨rfl, e⟩ | ⟨g, cap, cur, rfl, _⟩
  · have : l = [] := List.eq_nil_of_length_eq_zero e
    subst this
    exact Lib.run_convert_nil_bytes w 57 9 5 0 Try.underlying57 Try.underlying5 Try.underlying9
  · refine run_convert_bytes_back w 57 9 5 ⟨g, 0, none⟩ cap l Try.underlying57 Try.underlying5 Try.underlying9 fun j hj => ?_
    have := rowE_cell h' j (.int .u8 (l[j].toNat : Int)) (by simp [List.getElem?_eq_getElem hj])
    rw [← this]
    by_cases h0 : j = 0 <;> simp [Addr.add, h0]
set_option maxRecDepth 100000 in
set_option maxHeartbeats 2000000 in
theorem number_any (m : Nat) (hm : m < 18446744073709551616) (w : World) : Calls Try.prog 75 #[.int .u64 (m : Int)] w fun e w' => e = .returned (.string ⟨(num m).toArray⟩) ∧ Below w.heap.size w w' := by
  refine (callsIn_wide (n := 4)).1 ?_
  refine callsIn_of_wp_marks Try.func75 rfl trivial ?_ rfl
  simp only [Try.ntmps75, List.size_toArray, List.length_cons, List.length_nil, Nat.reduceAdd, Nat.reduceSub, Array.replicate_succ, Array.replicate_zero, List.push_toArray, List.append_toArray, List.nil_append, List.cons_append]
  have cG := groups_any m (w.alloc (.cells #[.slice none 0 0] 57))
  gi_wp2_with (refine ⟨trivial, ?_⟩; gi_at_call 85; refine (callsIn_wide.2 cG).mono ?_; rintro e w' ⟨rfl, rfl⟩)
  have hb2 : Boxed ((w.alloc (.cells #[.slice none 0 0] 57)).alloc (.cells #[.int .u64 (m : Int)] 87)) (w.heap.size + 1) 87 (.int .u64 (m : Int)) := by
    have := Boxed.new (w.alloc (.cells #[.slice none 0 0] 57)) 87 (.int .u64 (m : Int))
    rwa [World.size_alloc] at this
  have hb1 : Boxed ((w.alloc (.cells #[.slice none 0 0] 57)).alloc (.cells #[.int .u64 (m : Int)] 87)) w.heap.size 57 (.slice none 0 0) := (Boxed.new w 57 _).alloc _
  have hbl : Below w.heap.size w ((w.alloc (.cells #[.slice none 0 0] 57)).alloc (.cells #[.int .u64 (m : Int)] 87)) := ((Below.refl _ w).alloc (Nat.le_refl _) _).alloc (by simp) _
  have hsz : ((w.alloc (.cells #[.slice none 0 0] 57)).alloc (.cells #[.int .u64 (m : Int)] 87)).heap.size = w.heap.size + 2 := by simp
  have hten := grp_ten hm
  generalize (w.alloc (.cells #[.slice none 0 0] 57)).alloc (.cells #[.int .u64 (m : Int)] 87) = W at *
  clear cG
  refine wpIn_rangeFunc_w rfl (by omega) (gf := 99) (lb := #[.pointer (some ⟨w.heap.size + 1, 0, none⟩)]) rfl trivial (enters_of Try.func99 (by kernel_rfl) rfl) (gb := w.heap.size + 1) (by omega)
    (groups_gives Fence.wide _ trivial rfl (by omega) (w.heap.size + 1) m hm W hb2) (fun _ => rfl)
    (NumI w w.heap.size w.heap.size (w.heap.size + 1)) (numI_own w _ _ _ _ (Nat.le_refl _) (by omega)) (numI_set (by omega) (by omega))
    ⟨⟨_, hb1, World.ownsRow_nil _ _ _ _⟩, hbl, _, hb2⟩
    (fun x => { tmps := #[.int .u64 (m : Int), undef, .string { data := #[] }, .pointer (some ⟨w.heap.size, 0, none⟩), .int .u8 (x.1.val : Int), .bool x.2, .int .u64 (m : Int), .func (.func 99) #[] #[.pointer (some ⟨w.heap.size + 1, 0, none⟩)], .int .u8 (x.1.val : Int), .bool x.2, undef, undef, undef, undef, undef, undef, undef, undef, undef], defers := [] }) ?assign ?body ?done
  case assign => intro l x W K hK; unfold encG; gi_wp2; exact hK
  case body =>
    rintro l pre ⟨g, f⟩ W1 ⟨⟨v, hv, hrow⟩, hB, u, hu⟩ hlen
    obtain ⟨i0, hi, hz0, hz1, hz2⟩ := info_parts info5
    have hvc := hv.cell
    have h128 := or128 g.val g.isLt
    have h1n : 1 ≤ 4 - 1 - 1 := by omega
    have hgl := g.isLt
    cases f
    · dsimp only
      gi_wp2_with (gi_at_builtin; refine wpListIn_append_own _ rfl _ _ 57 rfl w.heap.size 5 i0 (.int .u8 0) 1 1 Try.underlying57 hi hz0 hz1 hz2 rfl (by decide) _ _ _ rfl (hrow.alloc _) ⟨W1.heap.size, 0, none⟩ 1 1 [cellG (g, false)] rfl rfl (cell_one_new _ _ _) (by simp [cellG, Value.oneCell']) (by unfold maxLen; omega) (by omega) (by have := hB.size; simp; omega) ?_; intro v' w1 hown' hgrow _; obtain ⟨g', cap', rfl⟩ := ownsRow_succ hown'; obtain ⟨hv1, hv2, hr2, hk2, hb2⟩ := hv.appended (by decide) hrow hB.size (Nat.le_refl _) hown' hgrow; have hc1 := hv1.cell; have hf1 := hv1.frozen)
      have hgb1 : w1.heap[w.heap.size + 1]? = W1.heap[w.heap.size + 1]? := ((hu.alloc _).kept hgrow (hu.not_row (by decide) hrow)).trans hu.symm
      refine ⟨hk2, (Below.heap_setCell _ _ _ _ (by show w.heap.size + 1 ≠ w.heap.size; omega)).trans hgb1, ⟨_, hv2, ?_⟩, hB.trans hb2, u, (Below.heap_setCell _ _ _ _ (by show w.heap.size + 1 ≠ w.heap.size; omega)).trans (hgb1.trans hu)⟩
      simpa using hr2
    · dsimp only
      gi_wp2_with (gi_at_builtin; refine wpListIn_append_own _ rfl _ _ 57 rfl w.heap.size 5 i0 (.int .u8 0) 1 1 Try.underlying57 hi hz0 hz1 hz2 rfl (by decide) _ _ _ rfl (hrow.alloc _) ⟨W1.heap.size, 0, none⟩ 1 1 [cellG (g, true)] rfl rfl (cell_one_new _ _ _) (by simp [cellG, Value.oneCell']) (by unfold maxLen; omega) (by omega) (by have := hB.size; simp; omega) ?_; intro v' w1 hown' hgrow _; obtain ⟨g', cap', rfl⟩ := ownsRow_succ hown'; obtain ⟨hv1, hv2, hr2, hk2, hb2⟩ := hv.appended (by decide) hrow hB.size (Nat.le_refl _) hown' hgrow; have hc1 := hv1.cell; have hf1 := hv1.frozen)
      have hgb1 : w1.heap[w.heap.size + 1]? = W1.heap[w.heap.size + 1]? := ((hu.alloc _).kept hgrow (hu.not_row (by decide) hrow)).trans hu.symm
      refine ⟨hk2, (Below.heap_setCell _ _ _ _ (by show w.heap.size + 1 ≠ w.heap.size; omega)).trans hgb1, ⟨_, hv2, ?_⟩, hB.trans hb2, u, (Below.heap_setCell _ _ _ _ (by show w.heap.size + 1 ≠ w.heap.size; omega)).trans (hgb1.trans hu)⟩
      simpa using hr2
  case done =>
    rintro D xs W1 hD rfl ⟨⟨v, hv, hrow⟩, hB, u, hu⟩ hK
    have hvc := hv.cell
    have hcv : (convert 57 9 v).run Try.prog W1 = .ok (.string ⟨(num m).toArray⟩) W1 := by
      rw [cells_grp] at hrow
      exact row_string hrow (num_len m).symm
    have hb3 := hB.trans (belowK_b (w := w) (Nat.le_refl _) W1 D _ (.deferred none) (by omega) hK rfl rfl)
    gi_wp2
    refine ⟨by simp, .inl ⟨_, _, rfl, run_takeDeferred hK, ?_⟩⟩
    exact ⟨_, results_tmp rfl _ _ _, rfl, hb3⟩
end Go.Proofs.Ytmnkgjgaileokaa
