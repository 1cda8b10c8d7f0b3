/- The contracts of codec.groups and codec.Number. -/
import Derived.Test.YtmnkgjgaileokaaProg
import Derived.Test.YtmnkgjgaileokaaRW
import Derived.Test.YtmnkgjgaileokaaTC
import Derived.Maps.AppendAt
import Derived.Lib.Hide
import Derived.Laws.IdiomStrings
namespace Go.Proofs.Ytmnkgjgaileokaa
open Go.RowKit Go.Shelf Go.Maps
attribute [local go_sem] Oper.semAt_some

def encG (x : Fin 128 × Bool) : Array Value := #[.int .u8 x.1.val, .bool x.2]
def boxNat (w : World) (b : Nat) : Nat := match w.cell? ⟨b, 0, none⟩ with | some (.int _ m) => m.toNat | _ => 0
theorem boxNat_of {w : World} {b m : Nat} (h : w.cell? ⟨b, 0, none⟩ = some (.int .u64 (m : Int))) : boxNat w b = m := by simp [boxNat, h]
set_option maxRecDepth 100000 in
set_option maxHeartbeats 1000000 in
theorem groups_gives (F : Fence) (n : Nat) (h99 : F.fn 99) (hro : F.round = none) (hn : 1 ≤ n) (gb m0 : Nat) (hm0 : m0 < 18446744073709551616) (w : World) (hgb : Boxed w gb 87 (.int .u64 (m0 : Int))) :
    SeqW F n Try.prog 99 #[.pointer (some ⟨gb, 0, none⟩)] gb encG (fun xs => xs = grp m0) (grp m0).length w := fun l J W hW hJ hJw hY h0 => by
  have hB : Boxed W gb 87 (.int .u64 (m0 : Int)) := (hW.block gb hgb.lt).trans hgb
  refine callsIn_of_wp Try.func99 rfl h99 ?_ hro
  simp only [Try.ntmps99, List.size_toArray, List.length_cons, List.length_nil, Nat.reduceAdd, Nat.reduceSub, Array.replicate_succ, Array.replicate_zero, List.push_toArray, List.append_toArray, List.nil_append, List.cons_append]
  gi_wp2
  gi_loopw [3] (fun _ wr => ∃ (m : Nat) (pre : List (Fin 128 × Bool)), m < 18446744073709551616 ∧ grp m0 = pre ++ grp m ∧ Boxed wr gb 87 (.int .u64 (m : Int)) ∧ J pre wr) (fun _ wr => boxNat wr gb)
  case atStart => exact ⟨m0, [], hm0, rfl, hB, h0⟩
  case round =>
    obtain ⟨m, pre, hm, hpre, hbx, hJp⟩ := hrel
    have c0 := hbx.cell
    have f0 := hbx.frozen
    have e1 : ((m % 128 : Nat) : Int) = (m : Int) % 128 := by omega
    have HP := Lib.hid hpre
    have B1 := Lib.hid (hbx.set (.int .u64 ((m : Int) / 128)))
    have HJ := Lib.hid (hJw pre wr (.int .u64 ((m : Int) / 128)) hJp)
    clear hJp hbx hpre
    by_cases hz : m / 128 = 0
    · have hY1 := hY pre (⟨m % 128, Nat.mod_lt _ (by omega)⟩, false) _ HJ.out (by rw [HP.out, grp_last hz]; simp)
      obtain ⟨fn, tmps, assign, bd, hy, hR⟩ := hY1
      dsimp only [encG] at hy
      rw [e1] at hy
      have hd : decide (0 < (m : Int) / 128) = false := by simp; omega
      have hz0 : ((m : Int) / 128 == 0) = true := by simp; omega
      have HZ := Lib.hid hz
      clear e1 hz
      gi_wp2
      refine hR.mono ?_
      rintro e W' ⟨rfl, hJ', hk⟩
      have b2 : Boxed W' gb 87 (.int .u64 ((m : Int) / 128)) := hk.trans B1.out
      have c2 := b2.cell
      have HJ2 := Lib.hid hJ'
      have HK := Lib.hid hk
      clear hJ' hk c0 f0
      gi_wp2
      refine bodyPost_ret (results_none rfl _ _ _) rfl ?_
      exact ⟨⟨_, rfl⟩, _, (by rw [HP.out, grp_last HZ.out]), HJ2.out⟩
    · have hY1 := hY pre (⟨m % 128, Nat.mod_lt _ (by omega)⟩, true) _ HJ.out (by rw [HP.out, List.length_append]; have := grp_pos m; omega)
      obtain ⟨fn, tmps, assign, bd, hy, hR⟩ := hY1
      dsimp only [encG] at hy
      rw [e1] at hy
      have hd : decide (0 < (m : Int) / 128) = true := by simp; omega
      have hz0 : ((m : Int) / 128 == 0) = false := by simp; omega
      have HZ := Lib.hid hz
      clear e1 hz
      gi_wp2
      refine hR.mono ?_
      rintro e W' ⟨rfl, hJ', hk⟩
      have b2 : Boxed W' gb 87 (.int .u64 ((m : Int) / 128)) := hk.trans B1.out
      have c2 := b2.cell
      have HJ2 := Lib.hid hJ'
      have B2 := Lib.hid b2
      clear hJ' hk b2
      gi_wp2
      have e2 : ((m / 128 : Nat) : Int) = (m : Int) / 128 := by omega
      go_roundw
      case rel => exact ⟨m / 128, _, by omega, by rw [HP.out, grp_more HZ.out, List.append_assoc]; rfl, by rw [e2]; exact B2.out, HJ2.out⟩
      case measure => rw [boxNat_of (by rw [← e2] at c2; exact c2), boxNat_of c0]; have := HZ.out; omega

theorem info5 : (Try.prog.info? 5).map (fun i => (i.zero, i.size, i.bytes)) = some (some (.int .u8 0), 1, 1) := by kernel_rfl
def cellG (x : Fin 128 × Bool) : Value := .int .u8 (grpVal x)
theorem or128 (g : Nat) (h : g < 128) : bits .or .u8 (g : Int) 128 = (g : Int) + 128 := by
  have : ∀ g : Fin 128, bits .or .u8 (g.val : Int) 128 = (g.val : Int) + 128 := by decide +kernel
  exact this ⟨g, h⟩
/-- Between two rounds: the groups that have come are in the row; the iterator's own block is a number. -/
def NumI (w : World) (n₀ B gb : Nat) (pre : List (Fin 128 × Bool)) (W : World) : Prop :=
  (∃ v, Boxed W B 57 v ∧ W.ownsRow n₀ 5 1 v pre.length (pre.map cellG)) ∧ Below n₀ w W ∧ ∃ u, Boxed W gb 87 u
theorem numI_own (w : World) (n₀ B gb D : Nat) (h1 : n₀ ≤ w.heap.size) (h2 : n₀ ≤ D) : OwnFrom D (NumI w n₀ B gb) := by
  have e1 := (holdsRow_own (β := List (Fin 128 × Bool)) n₀ B 57 5 1 (fun pre => pre.length) (fun pre => pre.map cellG) (fun _ _ => True)).from D
  have e2 := ownFrom_below (β := List (Fin 128 × Bool)) (w₀ := w) h1 h2
  rintro s W W' row ⟨⟨v, hv, hr⟩, hb, u, hu⟩ hg hrow
  refine ⟨?_, e2 s W W' row hb hg hrow, u, hu.kept hg ?_⟩
  · obtain ⟨v', a, b, _⟩ := e1 s W W' row ⟨v, hv, hr, trivial⟩ hg hrow
    exact ⟨v', a, b⟩
  · intro e
    obtain ⟨_, o, ho, hc⟩ := hrow gb e.symm
    rw [show W.heap[gb]? = _ from hu] at ho
    cases ho; cases hc
theorem numI_set {w : World} {n₀ B gb : Nat} (hne : B ≠ gb) (hgb : n₀ ≤ gb) : ∀ s A v, NumI w n₀ B gb s A → NumI w n₀ B gb s (A.setCell ⟨gb, 0, none⟩ v) := by
  rintro s A v ⟨⟨x, hx, hr⟩, hb, u, hu⟩
  exact ⟨⟨x, hx.kept (grownBy_setCell' A gb v) (by simpa using hne), hr.kept (grownBy_setCell' A gb v) (.inr (hu.not_row (by decide) hr).symm)⟩, hb.setCell (p := ⟨gb, 0, none⟩) hgb _, v, hu.set v⟩
end Go.Proofs.Ytmnkgjgaileokaa
