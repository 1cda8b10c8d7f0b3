/- The contracts of codec.groups and codec.Number. -/
import Derived.Test.YtdojgbpaheadnaaGreatProg
import Derived.Test.YtdojgbpaheadnaaGreatQRW
import Derived.Test.YtdojgbpaheadnaaGreatQP
import Derived.Maps.AppendAt
import Derived.Lib.Hide
import Derived.Laws.IdiomStrings
import Derived.Lib.BufferRead
set_option linter.unusedVariables false
set_option linter.unusedSimpArgs false

namespace Go.Proofs.YtdojgbpaheadnaaGreat
open Go.RowKit Go.Shelf Go.Maps
attribute [local go_sem] Oper.semAt_some

def encG (x : Fin 128 × Bool) : Array Value := #[.int .u8 x.1.val, .bool x.2]
def boxNat (w : World) (b : Nat) : Nat := match w.cell? ⟨b, 0, none⟩ with | some (.int _ m) => m.toNat | _ => 0
theorem boxNat_of {w : World} {b m : Nat} (h : w.cell? ⟨b, 0, none⟩ = some (.int .u64 (m : Int))) : boxNat w b = m := by simp [boxNat, h]
set_option maxRecDepth 100000 in
set_option maxHeartbeats 1000000 in
theorem groups_gives (F : Fence) (n : Nat) (h99 : F.fn 154) (hro : F.round = none) (hn : 1 ≤ n) (gb m0 : Nat) (hm0 : m0 < 18446744073709551616) (w : World) (hgb : Boxed w gb 187 (.int .u64 (m0 : Int))) :
  SeqW F n Tryz.prog 154 #[.pointer (some ⟨gb, 0, none⟩)] gb encG (fun xs => xs = grp m0) (grp m0).length w := fun l J W hW hJ hJw hY h0 => by
 have hB : Boxed W gb 187 (.int .u64 (m0 : Int)) := (hW.block gb hgb.lt).trans hgb
 refine callsIn_of_wp Tryz.func154 rfl h99 ?_ hro
 simp only [Tryz.ntmps154, List.size_toArray, List.length_cons, List.length_nil, Nat.reduceAdd, Nat.reduceSub, Array.replicate_succ, Array.replicate_zero, List.push_toArray, List.append_toArray, List.nil_append, List.cons_append]
 gi_wp2
 gi_loopw [3] (fun _ wr => ∃ (m : Nat) (pre : List (Fin 128 × Bool)), m < 18446744073709551616 ∧ grp m0 = pre ++ grp m ∧ Boxed wr gb 187 (.int .u64 (m : Int)) ∧ J pre wr) (fun _ wr => boxNat wr gb)
 case atStart => exact ⟨m0, [], hm0, rfl, hB, h0⟩
 case round =>
  obtain ⟨m, pre, hm, hpre, hbx, hJp⟩ := hrel
  have c0 := hbx.cell
  have f0 := hbx.frozen
  have e1 : ((m % 128 : Nat) : Int) = (m : Int) % 128 := by omega
  have HP := Lib.hid hpre
  have B1 := Lib.hid (hbx.set (.int .u64 ((m : Int) / 128)))
  have HJ := Lib.hid (hJw pre wr (.int .u64 ((m : Int) / 128)) hJp)
  clear hJp hbx hpre
  by_cases hz : m / 128 = 0
  ·have hY1 := hY pre (⟨m % 128, Nat.mod_lt _ (by omega)⟩, false) _ HJ.out (by rw [HP.out, grp_last hz]; simp)
   obtain ⟨fn, tmps, assign, bd, hy, hR⟩ := hY1
   dsimp only [encG] at hy
   rw [e1] at hy
   have hd : decide (0 < (m : Int) / 128) = false := by simp; omega
   have hz0 : ((m : Int) / 128 == 0) = true := by simp; omega
   have HZ := Lib.hid hz
   clear e1 hz
   gi_wp2
   refine hR.mono ?_
   rintro e W' ⟨rfl, hJ', hk⟩
   have b2 : Boxed W' gb 187 (.int .u64 ((m : Int) / 128)) := hk.trans B1.out
   have c2 := b2.cell
   have HJ2 := Lib.hid hJ'
   have HK := Lib.hid hk
   clear hJ' hk c0 f0
   gi_wp2
   refine bodyPost_ret (results_none rfl _ _ _) rfl ?_
   exact ⟨⟨_, rfl⟩, _, (by rw [HP.out, grp_last HZ.out]), HJ2.out⟩
  ·have hY1 := hY pre (⟨m % 128, Nat.mod_lt _ (by omega)⟩, true) _ HJ.out (by rw [HP.out, List.length_append]; have := grp_pos m; omega)
   obtain ⟨fn, tmps, assign, bd, hy, hR⟩ := hY1
   dsimp only [encG] at hy
   rw [e1] at hy
   have hd : decide (0 < (m : Int) / 128) = true := by simp; omega
   have hz0 : ((m : Int) / 128 == 0) = false := by simp; omega
   have HZ := Lib.hid hz
   clear e1 hz
   gi_wp2
   refine hR.mono ?_
   rintro e W' ⟨rfl, hJ', hk⟩
   have b2 : Boxed W' gb 187 (.int .u64 ((m : Int) / 128)) := hk.trans B1.out
   have c2 := b2.cell
   have HJ2 := Lib.hid hJ'
   have B2 := Lib.hid b2
   clear hJ' hk b2
   gi_wp2
   have e2 : ((m / 128 : Nat) : Int) = (m : Int) / 128 := by omega
   go_roundw
   case rel => exact ⟨m / 128, _, by omega, by rw [HP.out, grp_more HZ.out, List.append_assoc]; rfl, by rw [e2]; exact B2.out, HJ2.out⟩
   case measure => rw [boxNat_of (by rw [← e2] at c2; exact c2), boxNat_of c0]; have := HZ.out; omega

theorem info5 : (Tryz.prog.info? 5).map (fun i => (i.zero, i.size, i.bytes)) = some (some (.int .u8 0), 1, 1) := by kernel_rfl
def cellG (x : Fin 128 × Bool) : Value := .int .u8 (grpVal x)
theorem or128 (g : Nat) (h : g < 128) : bits .or .u8 (g : Int) 128 = (g : Int) + 128 := by
 have : ∀ g : Fin 128, bits .or .u8 (g.val : Int) 128 = (g.val : Int) + 128 := by decide +kernel
 exact this ⟨g, h⟩
def NumI (w : World) (n₀ B gb : Nat) (pre : List (Fin 128 × Bool)) (W : World) : Prop :=
 (∃ v, Boxed W B 23 v ∧ W.ownsRow n₀ 5 1 v pre.length (pre.map cellG)) ∧ Below n₀ w W ∧ ∃ u, Boxed W gb 187 u
theorem numI_own (w : World) (n₀ B gb D : Nat) (h1 : n₀ ≤ w.heap.size) (h2 : n₀ ≤ D) : OwnFrom D (NumI w n₀ B gb) := by
 have e1 := (holdsRow_own (β := List (Fin 128 × Bool)) n₀ B 23 5 1 (fun pre => pre.length) (fun pre => pre.map cellG) (fun _ _ => True)).from D
 have e2 := ownFrom_below (β := List (Fin 128 × Bool)) (w₀ := w) h1 h2
 rintro s W W' row ⟨⟨v, hv, hr⟩, hb, u, hu⟩ hg hrow
 refine ⟨?_, e2 s W W' row hb hg hrow, u, hu.kept hg ?_⟩
 ·obtain ⟨v', a, b, _⟩ := e1 s W W' row ⟨v, hv, hr, trivial⟩ hg hrow
  exact ⟨v', a, b⟩
 ·intro e
  obtain ⟨_, o, ho, hc⟩ := hrow gb e.symm
  rw [show W.heap[gb]? = _ from hu] at ho
  cases ho; cases hc
theorem numI_set {w : World} {n₀ B gb : Nat} (hne : B ≠ gb) (hgb : n₀ ≤ gb) : ∀ s A v, NumI w n₀ B gb s A → NumI w n₀ B gb s (A.setCell ⟨gb, 0, none⟩ v) := by
 rintro s A v ⟨⟨x, hx, hr⟩, hb, u, hu⟩
 exact ⟨⟨x, hx.kept (grownBy_setCell' A gb v) (by simpa using hne), hr.kept (grownBy_setCell' A gb v) (.inr (hu.not_row (by decide) hr).symm)⟩, hb.setCell (p := ⟨gb, 0, none⟩) hgb _, v, hu.set v⟩
end Go.Proofs.YtdojgbpaheadnaaGreat

/- The contract of codec.Number. -/
namespace Go.Proofs.YtdojgbpaheadnaaGreat
open Go.RowKit Go.Shelf Go.Maps
attribute [local go_sem] Oper.semAt_some

theorem groups_any (m : Nat) (w : World) : Calls Tryz.prog 147 #[.int .u64 (m : Int)] w fun e w' => e = .returned (.func (.func 154) #[] #[.pointer (some ⟨w.heap.size, 0, none⟩)]) ∧ w' = w.alloc (.cells #[.int .u64 (m : Int)] 187) := by
 have hmf : ∀ (fn : Fn) (first cap : Array Value) (w : World), (Instr.makeFunc fn first cap).run Tryz.prog w = .ok (.func fn first cap) w := fun _ _ _ _ => rfl
 go_enter Tryz.func147, Tryz.ntmps147
 go_wp2_with fail
 go_ret
 exact ⟨rfl, rfl⟩
theorem cells_grp (xs : List (Fin 128 × Bool)) : xs.map cellG = (xs.map grpByte).map fun b => Value.int .u8 (b.toNat : Int) := by
 rw [List.map_map]
 refine List.map_congr_left fun x _ => ?_
 show Value.int .u8 (grpVal x) = Value.int .u8 ((grpByte x).toNat : Int)
 rw [grpByte_val]
theorem rowE_cell {w : World} {base r n c : Nat} {e : TypeId} {xs : List Value} (h : w.ownsRow base e 1 (.slice (some ⟨r, 0, none⟩) n c) n xs) (k : Nat) (u : Value) (hk : xs[k]? = some u) : w.cell? ⟨r, k, none⟩ = some u := by
 obtain ⟨h0, ⟨h1, _⟩ | ⟨g, c', cur, h1, _, h3, h4, _, h5, h6⟩⟩ := h
 ·cases h1
 ·injection h1 with h1
  injection h1 with h1
  injection h1 with h1
  subst h1
  have hk' : k < n := by
   rcases Nat.lt_or_ge k xs.length with h | h
   ·omega
   ·simp [List.getElem?_eq_none h] at hk
  rw [← h6, List.getElem?_take_of_lt (by omega)] at hk
  simp only [World.cell?, h3]
  simpa using hk
theorem row_string {w : World} {base n : Nat} {v : Value} {l : List UInt8} (h : w.ownsRow base 5 1 v n (l.map fun b => Value.int .u8 (b.toNat : Int))) (hn : n = l.length) :
  (convert 23 9 v).run Tryz.prog w = .ok (.string ⟨l.toArray⟩) w := by
 subst hn
 have h' := h
 rcases h.2 with ⟨rfl, e⟩ | ⟨g, cap, cur, rfl, _⟩
 ·have : l = [] := List.eq_nil_of_length_eq_zero e
  subst this
  exact Lib.run_convert_nil_bytes w 23 9 5 0 Tryz.underlying23 Tryz.underlying5 Tryz.underlying9
 ·refine run_convert_bytes_back w 23 9 5 ⟨g, 0, none⟩ cap l Tryz.underlying23 Tryz.underlying5 Tryz.underlying9 fun j hj => ?_
  have := rowE_cell h' j (.int .u8 (l[j].toNat : Int)) (by simp [List.getElem?_eq_getElem hj])
  rw [← this]
  by_cases h0 : j = 0 <;> simp [Addr.add, h0]
set_option maxRecDepth 100000 in
set_option maxHeartbeats 2000000 in
theorem number_any (m : Nat) (hm : m < 18446744073709551616) (w : World) : Calls Tryz.prog 127 #[.int .u64 (m : Int)] w fun e w' => e = .returned (.string ⟨(num m).toArray⟩) ∧ Below w.heap.size w w' := by
 refine (callsIn_wide (n := 4)).1 ?_
 refine callsIn_of_wp_marks Tryz.func127 rfl trivial ?_ rfl
 simp only [Tryz.ntmps127, List.size_toArray, List.length_cons, List.length_nil, Nat.reduceAdd, Nat.reduceSub, Array.replicate_succ, Array.replicate_zero, List.push_toArray, List.append_toArray, List.nil_append, List.cons_append]
 have cG := groups_any m (w.alloc (.cells #[.slice none 0 0] 23))
 gi_wp2_with (refine ⟨trivial, ?_⟩; gi_at_call 147; refine (callsIn_wide.2 cG).mono ?_; rintro e w' ⟨rfl, rfl⟩)
 have hb2 : Boxed ((w.alloc (.cells #[.slice none 0 0] 23)).alloc (.cells #[.int .u64 (m : Int)] 187)) (w.heap.size + 1) 187 (.int .u64 (m : Int)) := by
  have := Boxed.new (w.alloc (.cells #[.slice none 0 0] 23)) 187 (.int .u64 (m : Int))
  rwa [World.size_alloc] at this
 have hb1 : Boxed ((w.alloc (.cells #[.slice none 0 0] 23)).alloc (.cells #[.int .u64 (m : Int)] 187)) w.heap.size 23 (.slice none 0 0) := (Boxed.new w 23 _).alloc _
 have hbl : Below w.heap.size w ((w.alloc (.cells #[.slice none 0 0] 23)).alloc (.cells #[.int .u64 (m : Int)] 187)) := ((Below.refl _ w).alloc (Nat.le_refl _) _).alloc (by simp) _
 have hsz : ((w.alloc (.cells #[.slice none 0 0] 23)).alloc (.cells #[.int .u64 (m : Int)] 187)).heap.size = w.heap.size + 2 := by simp
 have hten := grp_ten hm
 generalize (w.alloc (.cells #[.slice none 0 0] 23)).alloc (.cells #[.int .u64 (m : Int)] 187) = W at *
 clear cG
 refine wpIn_rangeFunc_w rfl (by omega) (gf := 154) (lb := #[.pointer (some ⟨w.heap.size + 1, 0, none⟩)]) rfl trivial (enters_of Tryz.func154 (by kernel_rfl) rfl) (gb := w.heap.size + 1) (by omega)
  (groups_gives Fence.wide _ trivial rfl (by omega) (w.heap.size + 1) m hm W hb2) (fun _ => rfl)
  (NumI w w.heap.size w.heap.size (w.heap.size + 1)) (numI_own w _ _ _ _ (Nat.le_refl _) (by omega)) (numI_set (by omega) (by omega))
  ⟨⟨_, hb1, World.ownsRow_nil _ _ _ _⟩, hbl, _, hb2⟩
  (fun x => { tmps := #[.int .u64 (m : Int), undef, .string { data := #[] }, .pointer (some ⟨w.heap.size, 0, none⟩), .int .u8 (x.1.val : Int), .bool x.2, .int .u64 (m : Int), .func (.func 154) #[] #[.pointer (some ⟨w.heap.size + 1, 0, none⟩)], .int .u8 (x.1.val : Int), .bool x.2, undef, undef, undef, undef, undef, undef, undef, undef, undef], defers := [] }) ?assign ?body ?done
 case assign => intro l x W K hK; unfold encG; gi_wp2; exact hK
 case body =>
  rintro l pre ⟨g, f⟩ W1 ⟨⟨v, hv, hrow⟩, hB, u, hu⟩ hlen
  obtain ⟨i0, hi, hz0, hz1, hz2⟩ := info_parts info5
  have hvc := hv.cell
  have h128 := or128 g.val g.isLt
  have h1n : 1 ≤ 4 - 1 - 1 := by omega
  have hgl := g.isLt
  cases f
  ·dsimp only
   gi_wp2_with (gi_at_builtin; refine wpListIn_append_own _ rfl _ _ 23 rfl w.heap.size 5 i0 (.int .u8 0) 1 1 Tryz.underlying23 hi hz0 hz1 hz2 rfl (by decide) _ _ _ rfl (hrow.alloc _) ⟨W1.heap.size, 0, none⟩ 1 1 [cellG (g, false)] rfl rfl (cell_one_new _ _ _) (by simp [cellG, Value.oneCell']) (by unfold maxLen; omega) (by omega) (by have := hB.size; simp; omega) ?_; intro v' w1 hown' hgrow _; obtain ⟨g', cap', rfl⟩ := ownsRow_succ hown'; obtain ⟨hv1, hv2, hr2, hk2, hb2⟩ := hv.appended (by decide) hrow hB.size (Nat.le_refl _) hown' hgrow; have hc1 := hv1.cell; have hf1 := hv1.frozen)
   have hgb1 : w1.heap[w.heap.size + 1]? = W1.heap[w.heap.size + 1]? := ((hu.alloc _).kept hgrow (hu.not_row (by decide) hrow)).trans hu.symm
   refine ⟨hk2, (Below.heap_setCell _ _ _ _ (by show w.heap.size + 1 ≠ w.heap.size; omega)).trans hgb1, ⟨_, hv2, ?_⟩, hB.trans hb2, u, (Below.heap_setCell _ _ _ _ (by show w.heap.size + 1 ≠ w.heap.size; omega)).trans (hgb1.trans hu)⟩
   simpa using hr2
  ·dsimp only
   gi_wp2_with (gi_at_builtin; refine wpListIn_append_own _ rfl _ _ 23 rfl w.heap.size 5 i0 (.int .u8 0) 1 1 Tryz.underlying23 hi hz0 hz1 hz2 rfl (by decide) _ _ _ rfl (hrow.alloc _) ⟨W1.heap.size, 0, none⟩ 1 1 [cellG (g, true)] rfl rfl (cell_one_new _ _ _) (by simp [cellG, Value.oneCell']) (by unfold maxLen; omega) (by omega) (by have := hB.size; simp; omega) ?_; intro v' w1 hown' hgrow _; obtain ⟨g', cap', rfl⟩ := ownsRow_succ hown'; obtain ⟨hv1, hv2, hr2, hk2, hb2⟩ := hv.appended (by decide) hrow hB.size (Nat.le_refl _) hown' hgrow; have hc1 := hv1.cell; have hf1 := hv1.frozen)
   have hgb1 : w1.heap[w.heap.size + 1]? = W1.heap[w.heap.size + 1]? := ((hu.alloc _).kept hgrow (hu.not_row (by decide) hrow)).trans hu.symm
   refine ⟨hk2, (Below.heap_setCell _ _ _ _ (by show w.heap.size + 1 ≠ w.heap.size; omega)).trans hgb1, ⟨_, hv2, ?_⟩, hB.trans hb2, u, (Below.heap_setCell _ _ _ _ (by show w.heap.size + 1 ≠ w.heap.size; omega)).trans (hgb1.trans hu)⟩
   simpa using hr2
 case done =>
  rintro D xs W1 hD rfl ⟨⟨v, hv, hrow⟩, hB, u, hu⟩ hK
  have hvc := hv.cell
  have hcv : (convert 23 9 v).run Tryz.prog W1 = .ok (.string ⟨(num m).toArray⟩) W1 := by
   rw [cells_grp] at hrow
   exact row_string hrow (num_len m).symm
  have hb3 := hB.trans (belowK_b (w := w) (Nat.le_refl _) W1 D _ (.deferred none) (by omega) hK rfl rfl)
  gi_wp2
  refine ⟨by simp, .inl ⟨_, _, rfl, run_takeDeferred hK, ?_⟩⟩
  exact ⟨_, results_tmp rfl _ _ _, rfl, hb3⟩
end Go.Proofs.YtdojgbpaheadnaaGreat
