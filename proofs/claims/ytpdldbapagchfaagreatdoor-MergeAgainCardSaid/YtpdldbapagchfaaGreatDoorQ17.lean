/- Versions that numbers make. -/
import Derived.Test.YtpdldbapagchfaaGreatDoorQ16
import Derived.Shelf.SlGeneric
import Derived.Shelf.SlSortCmp.WholeK
import Derived.Shelf.SlicesG.Cmp
import Derived.Ground.SlsfProg
import Derived.Ground.SlgcProg
import Derived.Test.YtpdldbapagchfaaGreatDoorProg
import Derived.Shelf.SlSortCmp.NoneTotal
import Derived.Lib.Hide
import Derived.Test.YtpdldbapagchfaaGreatDoorQ03
import Derived.Sort.MapsRangeIn
import Derived.Sort.KeysCollected
import Derived.RangeFuncSeq
import Derived.Maps.RangeWalk
set_option linter.unusedVariables false
set_option linter.unusedSimpArgs false

namespace Go.Proofs.YtpdldbapagchfaaGreatDoor
open Go.RowKit Go.Shelf Go.Maps
attribute [local go_sem] over_cell over_frozen

structure SaidI where
  s : Int
  n : Int
  v : Int
  fs : List Q4
deriving Inhabited
def SaidR (S : Nat → Prop) (w : World) (cs : List Value) (x : SaidI) : Prop := ∃ fv, cs = [.int .i64 x.s, .int .i64 x.n, .int .i64 x.v, fv] ∧ SlOf 4 S QR w fv x.fs
theorem SaidR.keep {S S' : Nat → Prop} {w w' : World} {cs : List Value} {x : SaidI} (h : SaidR S w cs x) (hs : Stay S w w') (hS : ∀ b, S b → b < w.heap.size → S' b) : SaidR S' w' cs x := by
  obtain ⟨fv, e, h⟩ := h; exact ⟨fv, e, h.keep (by omega) hs (fun _ _ h => h) hS⟩
def verP (x : SaidI) : Ver := ⟨(x.s, x.n), x.v, (97 + x.v % 3).toNat, 109, (x.fs.take 6).map fldP⟩
def versP (l : List SaidI) : List Ver := (l.take 10).map verP
theorem fldP_ok (q : Q4) : (fldP q).subs.length ≤ 3 := by
  unfold fldP
  split
  · simp
  · simp only [List.length_map, List.length_range]; omega
theorem verP_ok (x : SaidI) : FsOk (verP x).fs := by
  refine ⟨by simp only [verP, List.length_map, List.length_take]; omega, fun f hf => ?_⟩
  obtain ⟨q, _, rfl⟩ := List.mem_map.1 hf
  have := fldP_ok q; omega
theorem versP_ok (l : List SaidI) : VsOk (versP l) := by
  refine ⟨by simp only [versP, List.length_map, List.length_take]; omega, fun v hv => ?_⟩
  obtain ⟨x, _, rfl⟩ := List.mem_map.1 hv
  exact verP_ok x
theorem SlOf.take {α : Type} {z n cap : Nat} {S : Nat → Prop} {R : World → List Value → α → Prop} {w : World} {a : Option Addr} {L : List α} (h : SlOf z S R w (.slice a n cap) L) {k : Nat} (hk : k ≤ L.length) : SlOf z S R w (.slice a k cap) (L.take k) := by
  obtain ⟨a', cap', e, h1, h2, h3⟩ := h
  have e1 : a = a' := by injection e
  have e3 : cap = cap' := by injection e
  subst e1 e3
  refine ⟨a, cap, by rw [List.length_take, Nat.min_eq_left hk], by rw [List.length_take, Nat.min_eq_left hk]; omega, h2, ?_⟩
  rcases h3 with rfl | ⟨b, o, rfl, hb, css, h4, h5, h6⟩
  · exact .inl (by simp)
  · refine .inr ⟨b, o, rfl, hb, css.take k, h4.take k, fun c hc => h5 c (List.mem_of_mem_take hc), fun j u hj => h6 j u ?_⟩
    rw [← flat_take h5 k (by rw [h4.length]; exact hk)] at hj
    have hj' := (List.getElem?_eq_some_iff.1 hj).1
    rw [List.length_take] at hj'
    rwa [List.getElem?_take_of_lt (by omega)] at hj
set_option maxRecDepth 100000 in
set_option maxHeartbeats 4000000 in
theorem versions_any (S : Nat → Prop) {w : World} {v : Value} {l : List SaidI} (h : SlOf 4 S (SaidR S) w v l) :
    Calls Tryz.prog 12 #[v] w fun e w' => ∃ v', e = .returned v' ∧ OwnOf 43 6 w.heap.size (VerR (fun b => w.heap.size ≤ b)) w' v' (versP l) ∧ Below w.heap.size w w' := by
  obtain ⟨i0, hi, hz1, hz2, hz3⟩ := info_Ver
  have HV := Lib.hid h
  obtain ⟨a, cap, rfl, -⟩ := h
  obtain ⟨n, hn⟩ : ∃ n, n = l.length := ⟨_, rfl⟩
  rw [← hn] at HV ⊢
  have N1 := Lib.hid hn
  clear hn
  go_enter Tryz.func12, Tryz.ntmps12
  go_wp2_with fail
  go_loopw [3, 4] (fun o i wr => ∃ k : Nat, k ≤ n ∧ k ≤ 10 ∧ i = .int .i64 k ∧ Below w.heap.size w wr ∧ OwnX 43 6 w.heap.size VerR wr o ((l.take k).map verP)) (fun _ i _ => 10 - (intOf i).toNat)
  case atStart => exact ⟨0, by omega, by omega, rfl, Below.refl _ _, by simpa using OwnX.nil _ _ _ _ _⟩
  case round =>
    obtain ⟨k, hk, hk10, rfl, hb, hO⟩ := hrel
    have HB := Lib.hid hb
    have HO := Lib.hid hO
    clear hb hO
    by_cases hlt : k < n
    · by_cases h10 : k < 10
      · have hlx : k < l.length := by rw [← N1.out]; exact hlt
        obtain ⟨b1, o1, cap1, cs1, e1, _, hbl, hR1, _, hg1, _⟩ := SlOf.range (by omega) (SlOf.keep (R' := SaidR S) (S' := S) (by omega) HV.out (Stay.of_below HB.out) (fun _ _ h => h.keep (Stay.of_below HB.out) (fun _ h _ => h)) (fun _ h _ => h)) hlx
        have e1' : a = some ⟨b1, o1, none⟩ := by injection e1
        clear e1
        subst e1'
        obtain ⟨x, hx⟩ : ∃ x, x = l[k] := ⟨_, rfl⟩
        rw [← hx] at hR1
        have HX := Lib.hid hx
        obtain ⟨qv, rfl, hq⟩ := hR1
        have HQ := Lib.hid hq
        obtain ⟨qa, qc, rfl, hqc, -⟩ := hq
        have HG := Lib.hid hg1
        obtain ⟨qn, hqn⟩ : ∃ qn, qn = x.fs.length := ⟨_, rfl⟩
        rw [← hqn] at HQ HG hqc
        have HQN := Lib.hid hqn
        clear hg1 hx hqn
        obtain ⟨m, hm⟩ : ∃ m, m = min qn 6 := ⟨_, rfl⟩
        have hm1 : m ≤ qn ∧ m ≤ 6 := by omega
        have hmi : min (qn : Int) 6 = (m : Int) := by omega
        have HM := Lib.hid hm
        have hmc : m ≤ qc := by omega
        clear hm
        go_wp2_with (refine wpList_load_mid rfl 61 (.tmp 19) rfl b1 (o1 + k * 4) rfl [.int .i64 x.s, .int .i64 x.n, .int .i64 x.v, .slice qa qn qc] _ HG.out Tryz.underlying61 rfl (by kernel_rfl) ?_)
        obtain ⟨W1, hW1⟩ : ∃ W1, W1 = wr.alloc (.cells #[.int .i64 x.s, .int .i64 x.n, .int .i64 x.v, .slice qa qn qc] 61) := ⟨_, rfl⟩
        rw [← hW1]
        have B1 : RowKit.Hid (Below wr.heap.size wr W1) := Lib.hid (by rw [hW1]; exact (Below.refl _ _).alloc (Nat.le_refl _) _)
        have X1 : RowKit.Hid (Blk W1 wr.heap.size #[.int .i64 x.s, .int .i64 x.n, .int .i64 x.v, .slice qa qn qc] 61) := Lib.hid (by rw [hW1]; exact Blk.new _ _ _)
        clear hW1
        have HT : RowKit.Hid (SlOf 4 S QR W1 (.slice qa m qc) (x.fs.take 6)) := Lib.hid (by
          have h1 : SlOf 4 S QR W1 (.slice qa qn qc) x.fs := HQ.out.keep (by omega) (Stay.of_below B1.out) (fun _ _ h => h) (fun _ h _ => h)
          have h2 := h1.take (k := m) (by rw [← HQN.out]; exact hm1.1)
          have h3 : x.fs.take m = x.fs.take 6 := by
            rw [HM.out]
            by_cases h6 : 6 ≤ qn
            · rw [Nat.min_eq_right h6]
            · rw [Nat.min_eq_left (by omega), HQN.out, List.take_length, List.take_of_length_le (by rw [← HQN.out]; omega)]
          rw [h3] at h2; exact h2)
        refine (made_any S HT.out (by rw [List.length_take]; omega)).mono ?_
        rintro e w2 ⟨fv, rfl, hF, hb2⟩
        have hFe : ∃ fa fn fc, fv = .slice fa fn fc := by obtain ⟨css, hr, _⟩ := hF; obtain ⟨a', c', e, _⟩ := row_cellz hr; exact ⟨a', _, c', e⟩
        obtain ⟨fa, fn, fc, rfl⟩ := hFe
        have HF := Lib.hid (hF.slB (by omega))
        have B2 : RowKit.Hid (Below wr.heap.size wr w2) := Lib.hid (B1.out.trans (hb2.mono B1.out.size))
        have X2 := Lib.hid (X1.out.below hb2 X1.out.lt)
        have Z2 := hb2.size
        have Z1 : RowKit.Hid (wr.heap.size ≤ W1.heap.size) := Lib.hid B1.out.size
        clear hb2 hF
        have x0 : w2.cell? ⟨wr.heap.size, 0, none⟩ = some (.int .i64 x.s) := X2.out.cell 0
        have x1 : w2.cell? ⟨wr.heap.size, 1, none⟩ = some (.int .i64 x.n) := X2.out.cell 1
        have x2 : w2.cell? ⟨wr.heap.size, 2, none⟩ = some (.int .i64 x.v) := X2.out.cell 2
        have x2l : wr.heap.size < w2.heap.size := X2.out.lt
        go_wp2_with fail
        refine (mod_any x.v 3 _ (by omega) (by omega)).mono ?_
        rintro e w3 ⟨rfl, rfl⟩
        obtain ⟨mk, hmk⟩ : ∃ mk : Nat, x.v % 3 = mk := ⟨(x.v % 3).toNat, by omega⟩
        have hmk3 : mk < 3 := by omega
        have hwk : IntKind.u8.wrap (97 + (mk : Int)) = ((97 + mk : Nat) : Int) := by
          have : mk = 0 ∨ mk = 1 ∨ mk = 2 := by omega
          rcases this with rfl | rfl | rfl <;> rfl
        have hwk2 : IntKind.i64.wrap (97 + (mk : Int)) = 97 + (mk : Int) := by rw [IntKind.wrap_i64]; omega
        rw [hmk]
        have HMK := Lib.hid hmk
        clear hmk
        obtain ⟨kd, hkd⟩ : ∃ kd, kd = 97 + mk := ⟨_, rfl⟩
        rw [← hkd] at hwk
        have HKD := Lib.hid hkd
        clear hkd
        have HVR : RowKit.Hid (∀ W, Below w2.heap.size w2 W → VerR (fun b => W1.heap.size ≤ b) W [.int .i64 x.s, .int .i64 x.n, .int .i64 x.v, .int .u8 kd, .int .u8 109, .slice fa fn fc] (verP x)) := Lib.hid fun W hW => by
          have e1 : (verP x).kind = kd := by unfold verP; dsimp only; rw [HMK.out, HKD.out]; omega
          refine ⟨.slice fa fn fc, ?_, FldsAt.keep HF.out (Stay.of_below hW) (fun _ h _ => h)⟩
          rw [e1]; rfl
        have HE : RowKit.Hid ((l.take (k + 1)).map verP = (l.take k).map verP ++ [verP x]) := Lib.hid (by rw [List.take_succ_eq_append_getElem hlx, List.map_append, HX.out]; rfl)
        have HO2 := Lib.hid (HO.out.below keeps_ver B2.out)
        have HOL := Lib.hid (OwnOf.lt HO.out)
        obtain ⟨css, hrow, hA, hz⟩ := HO2.out
        obtain ⟨fl, hfl⟩ : ∃ fl, fl = ((l.take k).map verP).length := ⟨_, rfl⟩
        have NL : RowKit.Hid (fl ≤ 10) := Lib.hid (by rw [hfl, List.length_map, List.length_take]; omega)
        rw [← hfl] at hrow
        have FL := Lib.hid hfl
        have HOW := Lib.hid hrow
        have HA := Lib.hid hA
        have HZ := Lib.hid hz
        have HRw := Lib.hid (HVR.out w2 (Below.refl _ _))
        clear hrow hA hz hfl
        go_wp2_with (first
          | (at_builtin; go_loud (refine wpList_append_all rfl (.tmp 35) (.tmp 45) 24 rfl w.heap.size 43 i0 _ 6 56 Tryz.underlying24 hi hz1 hz2 hz3 rfl (by omega) _ fl css.flatten rfl ((HOW.out.alloc _).alloc _) 1 [.int .i64 x.s, .int .i64 x.n, .int .i64 x.v, .int .u8 kd, .int .u8 109, .slice fa fn fc] _ rfl (src_row (row_fresh' _ (by simp) 0 _ 43 6 1 rfl (by unfold maxLen; omega) (Nat.zero_le _))) (one_ver _ _ _ _ HRw.out) (by have := NL.out; unfold maxLen; omega) (by have := NL.out; omega) (by have := HB.out.size; have := Z1.out; simp; omega) ?_)
             intro v' w4 hr4 hg4 ho4; have HR4 := Lib.hid hr4; have HG4 := Lib.hid hg4; have HO4 := Lib.hid ho4; clear hr4 hg4 ho4))
        have HL1 : w.heap.size ≤ wr.heap.size := HB.out.size
        have HL2 := Z1.out
        have HB4 : RowKit.Hid (Below w.heap.size wr w4) := Lib.hid (below_grown (((B2.out.mono HL1).alloc (by omega) _).alloc (by simp; omega) _) (by simp; omega) HG4.out (fun r e => (HOL.out r e).1))
        refine ⟨⟨k + 1, hlt, by omega, by go_num, HB.out.trans HB4.out, ?_⟩, by simp [intOf]; omega⟩
        rw [HE.out]
        exact OwnX.snoc keeps_ver (by rw [← FL.out]; exact HOW.out) HA.out HZ.out HRw.out (fun r e => by have := (HOL.out r e).2; omega) (by omega) rfl (((Below.refl _ _).alloc (Nat.le_refl _) _).alloc (by simp) _) (by rw [← FL.out]; exact HR4.out) HG4.out HO4.out
      · obtain rfl : k = 10 := by omega
        go_wp2_with fail
        go_ret
        exact ⟨_, rfl, HO.out.own keeps_ver, HB.out⟩
    · obtain rfl : k = n := by omega
      go_wp2_with fail
      go_ret
      refine ⟨_, rfl, ?_, HB.out⟩
      have h1 := HO.out.own keeps_ver
      have h2 : l.take k = l.take 10 := by rw [N1.out, List.take_length, List.take_of_length_le (by rw [← N1.out]; exact hk10)]
      rw [h2] at h1
      exact h1
end Go.Proofs.YtpdldbapagchfaaGreatDoor

/-
  DERIVED: THE SHELF's CONTRACTS AT THIS DUMP, IN PLAIN WORDS (tools/lay-plain.mjs out of 'YtpdldbapagchfaaGreatDoorSFraw.lean', which tools/lay-shelf.mjs wrote): THE SAME DECLARATIONS UNDER THE SAME NAMES: 'import', 'namespace', 'open', 'def', 'theorem' AND NOTHING ELSE: no command of the shelf's: FOR A HAND-IN. Each laying: the table of numbers ('.._ren') and one theorem, a field a fact of the dump's own or the kernel's comparison; each contract: ONE APPLICATION.
-/
namespace Go.Proofs
open Go.Shelf
def Tryz.sortF_ren : Go.Shelf.Ren := ⟨fun | 6 => 39 | 15 => 48 | 14 => 56 | 28 => 70 | 29 => 71 | 20 => 78 | 21 => 79 | 22 => 80 | 23 => 81 | 24 => 82 | 25 => 83 | 26 => 84 | 27 => 85 | 46 => 100 | 47 => 89 | 48 => 90 | 49 => 101 | 50 => 102 | 57 => 109 | n => n, fun | 22 => 24 | 24 => 43 | 25 => 88 | 3 => 3 | 39 => 96 | 0 => 0 | 53 => 114 | 55 => 116 | 4 => 4 | 46 => 108 | 45 => 107 | 50 => 84 | 5 => 5 | 9 => 9 | 66 => 131 | 70 => 135 | 76 => 149 | 77 => 150 | n => n, fun | n => n⟩
theorem Tryz.sortF : Go.Proofs.SlLaysF0.n6 Tryz.prog Tryz.sortF_ren := {
  mixed := by kernel_rfl
  f6 := ⟨Tryz.f39.name, by decide, Tryz.func39.trans (congrArg some (by kernel_rfl))⟩
  f14 := ⟨Tryz.f56.name, by decide, Tryz.func56.trans (congrArg some (by kernel_rfl))⟩
  f15 := Tryz.func48.trans (congrArg some (by kernel_rfl))
  f20 := ⟨Tryz.f78.name, by decide, Tryz.func78.trans (congrArg some (by kernel_rfl))⟩
  f21 := ⟨Tryz.f79.name, by decide, Tryz.func79.trans (congrArg some (by kernel_rfl))⟩
  f22 := ⟨Tryz.f80.name, by decide, Tryz.func80.trans (congrArg some (by kernel_rfl))⟩
  f23 := ⟨Tryz.f81.name, by decide, Tryz.func81.trans (congrArg some (by kernel_rfl))⟩
  f24 := ⟨Tryz.f82.name, by decide, Tryz.func82.trans (congrArg some (by kernel_rfl))⟩
  f25 := ⟨Tryz.f83.name, by decide, Tryz.func83.trans (congrArg some (by kernel_rfl))⟩
  f26 := ⟨Tryz.f84.name, by decide, Tryz.func84.trans (congrArg some (by kernel_rfl))⟩
  f27 := ⟨Tryz.f85.name, by decide, Tryz.func85.trans (congrArg some (by kernel_rfl))⟩
  f28 := Tryz.func70.trans (congrArg some (by kernel_rfl))
  f29 := Tryz.func71.trans (congrArg some (by kernel_rfl))
  f46 := ⟨Tryz.f100.name, by decide, Tryz.func100.trans (congrArg some (by kernel_rfl))⟩
  f47 := Tryz.func89.trans (congrArg some (by kernel_rfl))
  f48 := Tryz.func90.trans (congrArg some (by kernel_rfl))
  f49 := ⟨Tryz.f101.name, by decide, Tryz.func101.trans (congrArg some (by kernel_rfl))⟩
  f50 := ⟨Tryz.f102.name, by decide, Tryz.func102.trans (congrArg some (by kernel_rfl))⟩
  f57 := ⟨Tryz.f109.name, by decide, Tryz.func109.trans (congrArg some (by kernel_rfl))⟩
  t0 := Tryz.underlying0
  a0 := Tryz.isAgg0
  z0 := Tryz.sizeOf0
  v0 := Tryz.zeroValue0
  t3 := Tryz.underlying3
  a3 := Tryz.isAgg3
  z3 := Tryz.sizeOf3
  v3 := Tryz.zeroValue3
  t4 := Tryz.underlying4
  a4 := Tryz.isAgg4
  z4 := Tryz.sizeOf4
  v4 := Tryz.zeroValue4
  t5 := Tryz.underlying5
  a5 := Tryz.isAgg5
  z5 := Tryz.sizeOf5
  v5 := Tryz.zeroValue5
  t9 := Tryz.underlying9
  a9 := Tryz.isAgg9
  z9 := Tryz.sizeOf9
  v9 := Tryz.zeroValue9
  t22 := Tryz.underlying24
  a22 := Tryz.isAgg24
  z22 := Tryz.sizeOf24
  v22 := Tryz.zeroValue24
  t25 := Tryz.underlying88
  a25 := Tryz.isAgg88
  z25 := Tryz.sizeOf88
  v25 := Tryz.zeroValue88
  t39 := Tryz.underlying96
  a39 := Tryz.isAgg96
  z39 := Tryz.sizeOf96
  v39 := Tryz.zeroValue96
  t45 := Tryz.underlying107
  a45 := Tryz.isAgg107
  z45 := Tryz.sizeOf107
  v45 := Tryz.zeroValue107
  t46 := Tryz.underlying108
  a46 := Tryz.isAgg108
  z46 := Tryz.sizeOf108
  v46 := Tryz.zeroValue108
  t50 := Tryz.underlying84
  a50 := Tryz.isAgg84
  z50 := Tryz.sizeOf84
  v50 := Tryz.zeroValue84
  t53 := Tryz.underlying114
  a53 := Tryz.isAgg114
  z53 := Tryz.sizeOf114
  v53 := Tryz.zeroValue114
  t55 := Tryz.underlying116
  a55 := Tryz.isAgg116
  z55 := Tryz.sizeOf116
  v55 := Tryz.zeroValue116
  t66 := Tryz.underlying131
  a66 := Tryz.isAgg131
  z66 := Tryz.sizeOf131
  v66 := Tryz.zeroValue131
  t70 := Tryz.underlying135
  a70 := Tryz.isAgg135
  z70 := Tryz.sizeOf135
  v70 := Tryz.zeroValue135
  t76 := Tryz.underlying149
  a76 := Tryz.isAgg149
  z76 := Tryz.sizeOf149
  v76 := Tryz.zeroValue149
  t77 := Tryz.underlying150
  a77 := Tryz.isAgg150
  z77 := Tryz.sizeOf150
  v77 := Tryz.zeroValue150 }
def Tryz.cmpI_ren : Go.Shelf.Ren := ⟨fun | 5 => 58 | 7 => 86 | n => n, fun | 22 => 3 | 3 => 3 | 4 => 4 | n => n, fun | n => n⟩
theorem Tryz.cmpI : Go.Proofs.SlLaysC2.n5 Tryz.prog Tryz.cmpI_ren := {
  mixed := by kernel_rfl
  f5 := ⟨Tryz.f58.name, by decide, Tryz.func58.trans (congrArg some (by kernel_rfl))⟩
  f7 := ⟨Tryz.f86.name, by decide, Tryz.func86.trans (congrArg some (by kernel_rfl))⟩
  t3 := Tryz.underlying3
  a3 := Tryz.isAgg3
  z3 := Tryz.sizeOf3
  v3 := Tryz.zeroValue3
  t4 := Tryz.underlying4
  a4 := Tryz.isAgg4
  z4 := Tryz.sizeOf4
  v4 := Tryz.zeroValue4
  t22 := Tryz.underlying3
  a22 := Tryz.isAgg3
  z22 := Tryz.sizeOf3
  v22 := Tryz.zeroValue3 }
end Go.Proofs

/- The order of records: cmp.Or, compare, the comparer of versions. -/
namespace Go.Proofs.YtpdldbapagchfaaGreatDoor
open Go.RowKit Go.Shelf Go.Maps Go.Sort

abbrev i64 (x : Int) : Value := .int .i64 x
def cmpP (x y : (Int × Int)) : Int := if Lib.compareInt x.1 y.1 ≠ 0 then Lib.compareInt x.1 y.1 else Lib.compareInt x.2 y.2
theorem cmpInt_eq (x y : Int) : Lib.compareInt x y = if x < y then -1 else if x > y then 1 else 0 := rfl
theorem ltP (x y : (Int × Int)) : ltOf cmpP x y = decide (x.1 < y.1 ∨ x.1 = y.1 ∧ x.2 < y.2) := by
  unfold ltOf cmpP
  rw [cmpInt_eq, cmpInt_eq]
  by_cases h1 : x.1 < y.1
  · simp [h1]
  · by_cases h2 : x.1 > y.1
    · have : ¬ x.1 = y.1 := by omega
      simp [h1, h2, this]
    · have h3 : x.1 = y.1 := by omega
      by_cases h4 : x.2 < y.2
      · simp [h1, h2, h3, h4]
      · by_cases h5 : x.2 > y.2
        · simp [h1, h2, h3, h4, h5]
        · simp [h1, h2, h3, h4, h5]
theorem swoP : SWO (ltOf cmpP) where
  irrefl x := by rw [ltP]; simp
  trans x y z h1 h2 := by rw [ltP] at *; simp only [decide_eq_true_eq] at *; omega
  ntrans x y z h1 h2 := by rw [ltP] at *; simp only [decide_eq_false_iff_not] at *; omega
set_option maxRecDepth 100000 in
set_option maxHeartbeats 2000000 in
theorem or2_any (x y : Int) (b : Nat) (W : World) (hb : Blk W b #[i64 x, i64 y] 3) : Calls Tryz.prog 57 #[.slice (some ⟨b, 0, none⟩) 2 2] W fun e w' => e = .returned (i64 (if x ≠ 0 then x else y)) ∧ w' = W := by
  have c0 : W.cell? ⟨b, 0, none⟩ = some (i64 x) := hb.cell 0
  have c1 : W.cell? ⟨b, 1, none⟩ = some (i64 y) := hb.cell 1
  clear hb
  by_cases hx : x = 0
  · subst hx
    by_cases hy : y = 0
    · subst hy
      go_enter Tryz.func57, Tryz.ntmps57
      go_wp2_with fail
      refine wp_loop_rounds 3 ?_
      rw [rounds_succ]
      go_wp2_with fail
      rw [rounds_succ]
      go_wp2_with fail
      rw [rounds_succ]
      go_wp2_with fail
      go_ret
      exact ⟨rfl, rfl⟩
    · have e1 : (y != 0) = true := by simpa using hy
      clear hy
      go_enter Tryz.func57, Tryz.ntmps57
      go_wp2_with fail
      refine wp_loop_rounds 2 ?_
      rw [rounds_succ]
      go_wp2_with fail
      rw [rounds_succ]
      go_wp2_with fail
      go_ret
      exact ⟨by simp, rfl⟩
  · have e1 : (x != 0) = true := by simpa using hx
    have e2 : (if x ≠ 0 then x else y) = x := if_pos hx
    rw [e2]
    clear hx e2
    go_enter Tryz.func57, Tryz.ntmps57
    go_wp2_with fail
    refine wp_loop_rounds 1 ?_
    rw [rounds_succ]
    go_wp2_with fail
    go_ret
    exact ⟨rfl, rfl⟩
set_option maxRecDepth 100000 in
set_option maxHeartbeats 2000000 in
theorem compare_any (x y : (Int × Int)) (W : World) : Calls Tryz.prog 41 #[recV x, recV y] W fun e w' => e = .returned (i64 (cmpP x y)) ∧ ∃ q os', w' = grow (W.drewN q) os' := by
  have hcon := fun (a b : Int) (W' : World) => AnyG.cmp_Compare_int Tryz.cmpI a b W'
  change ∀ (a b : Int) (W' : World), Calls Tryz.prog 58 _ _ _ at hcon
  obtain ⟨xa, xr⟩ := x
  obtain ⟨ya, yr⟩ := y
  unfold recV cmpP
  dsimp only
  have C1 := fun W' => hcon xa ya W'
  have C2 := fun W' => hcon xr yr W'
  generalize Lib.compareInt xa ya = p at *
  generalize Lib.compareInt xr yr = r at *
  obtain ⟨z, hz⟩ : ∃ z, z = if p ≠ 0 then p else r := ⟨_, rfl⟩
  rw [← hz]
  have HZ := Lib.hid hz
  clear hz
  have C1 := Lib.hid C1
  have C2 := Lib.hid C2
  clear hcon
  go_enter Tryz.func41, Tryz.ntmps41
  go_wp2_with fail
  obtain ⟨W1, hW1⟩ : ∃ W1, W1 = (W.alloc (.cells #[i64 xa, i64 xr] 41)).alloc (.cells #[i64 ya, i64 yr] 41) := ⟨_, rfl⟩
  have X1 : RowKit.Hid (Blk W1 W.heap.size #[i64 xa, i64 xr] 41) := Lib.hid (by rw [hW1]; exact (Blk.new _ _ _).alloc _)
  have Y1 : RowKit.Hid (Blk W1 (W.heap.size + 1) #[i64 ya, i64 yr] 41) := Lib.hid (by rw [hW1, show W.heap.size + 1 = (W.alloc (.cells #[i64 xa, i64 xr] 41)).heap.size from (size_alloc _ _).symm]; exact Blk.new _ _ _)
  have HW := Lib.hid hW1
  rw [← hW1]
  clear hW1
  obtain ⟨S, hS⟩ : ∃ S : World → Prop, S = fun V => ∃ n, V = W1.drewN n := ⟨_, rfl⟩
  have LD : RowKit.Hid (∀ V, S V → V.cell? ⟨W.heap.size, 0, none⟩ = some (i64 xa) ∧ V.cell? ⟨W.heap.size, 1, none⟩ = some (i64 xr) ∧ V.cell? ⟨W.heap.size + 1, 0, none⟩ = some (i64 ya) ∧ V.cell? ⟨W.heap.size + 1, 1, none⟩ = some (i64 yr)) := Lib.hid (by
    rw [hS]; rintro V ⟨n, rfl⟩; exact ⟨(X1.out.drewN n).cell 0, (X1.out.drewN n).cell 1, (Y1.out.drewN n).cell 0, (Y1.out.drewN n).cell 1⟩)
  have SS : RowKit.Hid (∀ V, S V → ∃ n, V = W1.drewN n) := Lib.hid (by rw [hS]; exact fun V h => h)
  have hHeld : S W1.drew := by rw [hS]; exact ⟨1, rfl⟩
  clear hS
  refine wp_region_sp 10 S (by kernel_rfl) (by kernel_rfl) ?_
  simp only [List.take_succ_cons, List.take_zero]
  apply wpAnyH_apart S
  case take =>
    intro R hR
    refine wpAnyH_take (i := 0) (v := ?_) rfl (by kernel_rfl) (by kernel_rfl) (by kernel_rfl) (fun _ _ _ h => only_panic h) (Or.inl ⟨by rfl, ?_⟩) hHeld ?_
    rotate_left
    · (intro w hSw; obtain ⟨l0, l1, l2, l3⟩ := LD.out w hSw; go_simp; try (with_reducible rfl))
    try simp only [List.getElem_toArray, List.getElem_cons_succ, List.getElem_cons_zero, Act.put, List.setIfInBounds_toArray, List.set_cons_zero, List.set_cons_succ]
    refine wpAnyH_take (i := 1) (v := ?_) rfl (by kernel_rfl) (by kernel_rfl) (by kernel_rfl) (fun _ _ _ h => only_panic h) (Or.inl ⟨by rfl, ?_⟩) hHeld ?_
    rotate_left
    · (intro w hSw; obtain ⟨l0, l1, l2, l3⟩ := LD.out w hSw; go_simp; try (with_reducible rfl))
    try simp only [List.getElem_toArray, List.getElem_cons_succ, List.getElem_cons_zero, Act.put, List.setIfInBounds_toArray, List.set_cons_zero, List.set_cons_succ]
    refine wpAnyH_take (i := 2) (v := ?_) rfl (by kernel_rfl) (by kernel_rfl) (by kernel_rfl) (fun _ _ _ h => only_panic h) (Or.inl ⟨by rfl, ?_⟩) hHeld ?_
    rotate_left
    · (intro w hSw; obtain ⟨l0, l1, l2, l3⟩ := LD.out w hSw; go_simp; try (with_reducible rfl))
    try simp only [List.getElem_toArray, List.getElem_cons_succ, List.getElem_cons_zero, Act.put, List.setIfInBounds_toArray, List.set_cons_zero, List.set_cons_succ]
    refine wpAnyH_take (i := 3) (v := ?_) rfl (by kernel_rfl) (by kernel_rfl) (by kernel_rfl) (fun _ _ _ h => only_panic h) (Or.inl ⟨by rfl, ?_⟩) hHeld ?_
    rotate_left
    · (intro w hSw; obtain ⟨l0, l1, l2, l3⟩ := LD.out w hSw; go_simp; try (with_reducible rfl))
    try simp only [List.getElem_toArray, List.getElem_cons_succ, List.getElem_cons_zero, Act.put, List.setIfInBounds_toArray, List.set_cons_zero, List.set_cons_succ]
    refine wpAnyH_take (i := 5) (v := ?_) rfl (by kernel_rfl) (by kernel_rfl) (by kernel_rfl) (fun _ _ _ h => only_panic h) (Or.inl ⟨by rfl, ?_⟩) hHeld ?_
    rotate_left
    · (intro w hSw; obtain ⟨l0, l1, l2, l3⟩ := LD.out w hSw; go_simp; try (with_reducible rfl))
    try simp only [List.getElem_toArray, List.getElem_cons_succ, List.getElem_cons_zero, Act.put, List.setIfInBounds_toArray, List.set_cons_zero, List.set_cons_succ]
    refine wpAnyH_take (i := 6) (v := ?_) rfl (by kernel_rfl) (by kernel_rfl) (by kernel_rfl) (fun _ _ _ h => only_panic h) (Or.inl ⟨by rfl, ?_⟩) hHeld ?_
    rotate_left
    · (intro w hSw; obtain ⟨l0, l1, l2, l3⟩ := LD.out w hSw; go_simp; try (with_reducible rfl))
    try simp only [List.getElem_toArray, List.getElem_cons_succ, List.getElem_cons_zero, Act.put, List.setIfInBounds_toArray, List.set_cons_zero, List.set_cons_succ]
    refine wpAnyH_take (i := 7) (v := ?_) rfl (by kernel_rfl) (by kernel_rfl) (by kernel_rfl) (fun _ _ _ h => only_panic h) (Or.inl ⟨by rfl, ?_⟩) hHeld ?_
    rotate_left
    · (intro w hSw; obtain ⟨l0, l1, l2, l3⟩ := LD.out w hSw; go_simp; try (with_reducible rfl))
    try simp only [List.getElem_toArray, List.getElem_cons_succ, List.getElem_cons_zero, Act.put, List.setIfInBounds_toArray, List.set_cons_zero, List.set_cons_succ]
    refine wpAnyH_take (i := 8) (v := ?_) rfl (by kernel_rfl) (by kernel_rfl) (by kernel_rfl) (fun _ _ _ h => only_panic h) (Or.inl ⟨by rfl, ?_⟩) hHeld ?_
    rotate_left
    · (intro w hSw; obtain ⟨l0, l1, l2, l3⟩ := LD.out w hSw; go_simp; try (with_reducible rfl))
    try simp only [List.getElem_toArray, List.getElem_cons_succ, List.getElem_cons_zero, Act.put, List.setIfInBounds_toArray, List.set_cons_zero, List.set_cons_succ]
    refine wpAnyH_one (i := 4) rfl (by kernel_rfl) (by rfl) ?_
    go_simp
    refine (C1.out _).mono ?_
    rintro e V ⟨rfl, rfl⟩
    refine ⟨hHeld, ?_⟩
    refine wpAnyH_one (i := 9) rfl (by kernel_rfl) (by rfl) ?_
    go_simp
    refine (C2.out _).mono ?_
    rintro e V ⟨rfl, rfl⟩
    refine ⟨hHeld, ?_⟩
    exact wpAnyH_done (by kernel_rfl) ⟨rfl, hR _ hHeld⟩ _
  intro V hV
  obtain ⟨n, rfl⟩ := SS.out V hV
  clear hV hHeld LD SS
  simp only [endN, List.drop_succ_cons, List.drop_zero, Act.put, List.setIfInBounds_toArray, List.set_cons_zero, List.set_cons_succ]
  go_wp2_with fail
  refine (or2_any p r _ _ (Blk.new _ _ _)).mono ?_
  rw [← HZ.out]
  rintro e V ⟨rfl, rfl⟩
  go_wp2_with fail
  go_ret
  refine ⟨rfl, n, #[.cells #[i64 xa, i64 xr] 41, .cells #[i64 ya, i64 yr] 41, .cells #[i64 p, i64 r] 3], ?_⟩
  rw [HW.out, alloc_eq_grow, alloc_eq_grow, alloc_eq_grow]
  show grow (grow (grow (W.drewN n) _) _) _ = _
  rw [grow_grow, grow_grow]; rfl
/-! Versions with the slice that holds their fields. -/
structure VC where
  v : Ver
  a : Option Addr
  n : Nat
  c : Nat
deriving Inhabited
def encV (x : VC) : List Value := [i64 x.v.r.1, i64 x.v.r.2, i64 x.v.num, .int .u8 x.v.kind, .int .u8 x.v.level, .slice x.a x.n x.c]
def cmpV (x y : VC) : Int := cmpP x.v.r y.v.r
theorem swoV : SWO (ltOf cmpV) where
  irrefl x := swoP.irrefl x.v.r
  trans x y z := swoP.trans x.v.r y.v.r z.v.r
  ntrans x y z := swoP.ntrans x.v.r y.v.r z.v.r
theorem ltV (x y : VC) : ltOf cmpV x y = ltR x.v.r y.v.r := by
  have h := ltP x.v.r y.v.r
  have e : ltOf cmpV x y = ltOf cmpP x.v.r y.v.r := rfl
  rw [e, h]
  unfold ltR
  by_cases h1 : x.v.r.1 = y.v.r.1
  · simp [h1]
  · simp [h1]
set_option maxRecDepth 100000 in
set_option maxHeartbeats 2000000 in
theorem cmpVers_any (x y : VC) (W : World) : Calls Tryz.prog 40 #[.agg (encV x).toArray, .agg (encV y).toArray] W fun e w' => e = .returned (i64 (cmpV x y)) ∧ ∃ q os', w' = grow (W.drewN q) os' := by
  unfold encV cmpV
  obtain ⟨⟨⟨r1, r2⟩, nu, kd, lv, fs⟩, a, n, c⟩ := x
  obtain ⟨⟨⟨s1, s2⟩, nu', kd', lv', fs'⟩, a', n', c'⟩ := y
  dsimp only
  have HC := Lib.hid (fun W' => compare_any (r1, r2) (s1, s2) W')
  go_enter Tryz.func40, Tryz.ntmps40
  go_wp2_with fail
  refine (HC.out _).mono ?_
  rintro e V ⟨rfl, q, os, rfl⟩
  go_wp2_with fail
  go_ret
  refine ⟨rfl, q, #[.cells #[i64 r1, i64 r2, i64 nu, .int .u8 kd, .int .u8 lv, .slice a n c] 43] ++ (#[.cells #[i64 s1, i64 s2, i64 nu', .int .u8 kd', .int .u8 lv', .slice a' n' c'] 43] ++ os), ?_⟩
  rw [alloc_eq_grow, alloc_eq_grow]
  show grow (grow (grow (W.drewN q) _) _) _ = _
  rw [grow_grow, grow_grow]
theorem cmpLaysV (blk off size : Nat) (w : World) : Go.Proofs.CmpLays Tryz.prog 40 #[] encV 6 cmpV blk off size w :=
  fun _ _ _ _ x y => cmpVers_any x y _
/-! Rows of structs, sorted. -/
theorem map_get {α : Type} {enc : α → List Value} {l : List α} {j : Nat} (hj : j < l.length) : (l.map enc)[j]'(by simpa using hj) = enc l[j] := by simp
section
variable {α : Type} [Inhabited α] {enc : α → List Value} {k : Nat}
theorem flatK_list (hk : ∀ x, (enc x).length = k) (hk0 : 0 < k) (d : Array α) : (flatK enc k d).toList = (d.toList.map enc).flatten := by
  have hz : ∀ c ∈ d.toList.map enc, c.length = k := fun c hc => by obtain ⟨x, _, rfl⟩ := List.mem_map.1 hc; exact hk x
  refine List.ext_getElem? fun t => ?_
  by_cases ht : t < d.size * k
  · rw [Array.getElem?_toList]
    unfold flatK
    rw [Array.getElem?_map, Array.getElem?_range, if_pos ht]
    have hq : t / k < d.size := Nat.div_lt_of_lt_mul (by rw [Nat.mul_comm]; exact ht)
    have hi : t % k < k := Nat.mod_lt _ hk0
    have e : t = t / k * k + t % k := by rw [Nat.mul_comm]; exact (Nat.div_add_mod t k).symm
    have r1 := flat_get hz (t / k) (by simpa using hq) (t % k) hi
    rw [← e] at r1
    rw [r1]
    simp only [Option.map_some, List.getElem_map, Array.getElem_toList]
    rw [getElem!_pos d (t / k) hq]
    have hi' : t % k < (enc d[t / k]).length := by rw [hk]; exact hi
    rw [getElem!_pos (enc d[t / k]) (t % k) hi', List.getElem?_eq_getElem hi']
  · rw [List.getElem?_eq_none (by rw [Array.length_toList, size_flatK]; omega), List.getElem?_eq_none (by rw [flat_len hz]; simp; omega)]
theorem heap_sortK {w : World} {g n : Nat} {os : Array Obj} {cur : Array Value} {e : TypeId} {fr : Nat × Nat} (d : Array α) (hb : w.heap[g]? = some (.cells cur e fr)) :
    (sortWorldK enc k w g 0 n d os).heap[g]? = some (.cells (putCells id 0 (flatK enc k d) cur) e fr) := by
  have hg : g < w.heap.size := (Array.getElem?_eq_some_iff.1 hb).1
  unfold sortWorldK putRowK
  rw [heap_grow_old _ _ (by simpa using hg)]
  simp [putRow, mapBlock, Sort.ahead, Array.getElem?_modify, hb, onCells]
theorem grown_sortK {w : World} {g n : Nat} {os : Array Obj} (d : Array α) : w.grownBy (sortWorldK enc k w g 0 n d os) (some g) := by
  unfold sortWorldK putRowK
  refine ⟨rfl, rfl, rfl, by simp, fun j hj hne => ?_⟩
  rw [heap_grow_old _ _ (by simpa using hj)]
  have : g ≠ j := fun e => hne (by rw [e])
  simp [putRow, mapBlock, Sort.ahead, Array.getElem?_modify, this]
theorem take_putP (cur F : Array Value) (h : F.size ≤ cur.size) : (putCells id 0 F cur).toList.take F.size = F.toList := by
  apply List.ext_getElem?
  intro j
  by_cases hj : j < F.size
  · rw [List.getElem?_take_of_lt hj, Array.getElem?_toList]
    simp [putCells, hj, show j < cur.size by omega]
  · rw [List.getElem?_take_eq_none (by omega), List.getElem?_eq_none (by simp; omega)]
theorem rowK_sorted (hk : ∀ x, (enc x).length = k) (hk0 : 0 < k) {w : World} {base g cap n m : Nat} {e : TypeId} {os : Array Obj} {cur : Array Value} {d : Array α} (hl : d.size = m) (hbase : base ≤ g) (hb : w.heap[g]? = some (.cells cur e (0, 0)))
    (h1 : m ≤ cap) (h2 : cap ≤ maxLen) (h3 : cur.size = cap * k) :
    (sortWorldK enc k w g 0 n d os).ownsRow base e k (.slice (some ⟨g, 0, none⟩) m cap) m (d.toList.map enc).flatten := by
  have hz : ∀ c ∈ d.toList.map enc, c.length = k := fun c hc => by obtain ⟨x, _, rfl⟩ := List.mem_map.1 hc; exact hk x
  refine ⟨by rw [flat_len hz, List.length_map, Array.length_toList, hl], .inr ⟨g, cap, _, rfl, hbase, heap_sortK _ hb, h1, h2, by simp [putCells, h3], ?_⟩⟩
  rw [← flatK_list hk hk0]
  have hs : (flatK enc k d).size = m * k := by rw [size_flatK, hl]
  rw [← hs]
  exact take_putP _ _ (by rw [hs, h3]; exact Nat.mul_le_mul_right k h1)
theorem holdsK_row (hk : ∀ x, (enc x).length = k) (hk0 : 0 < k) {w : World} {g : Nat} {cur : Array Value} {e : TypeId} {d : Array α} (hb : w.heap[g]? = some (.cells cur e (0, 0))) (ht : cur.toList.take (d.size * k) = (d.toList.map enc).flatten) : HoldsK enc k w g 0 d := by
  unfold HoldsK
  intro j hj
  have hj' := hj
  rw [size_flatK] at hj
  refine ⟨?_, by simp [World.frozen?, hb]⟩
  have h1 : (cur.toList.take (d.size * k))[j]? = ((d.toList.map enc).flatten)[j]? := by rw [ht]
  rw [List.getElem?_take_of_lt hj, ← flatK_list hk hk0, Array.getElem?_toList, Array.getElem?_toList, Array.getElem?_eq_getElem hj'] at h1
  simp only [World.cell?, hb, Nat.zero_add]
  simp only [Option.isSome_none, Bool.false_eq_true, if_false]
  rw [h1, getElem!_pos _ j hj']; rfl
end
end Go.Proofs.YtpdldbapagchfaaGreatDoor

/- Maps whose keys are records of sources. -/
namespace Go.Proofs.YtpdldbapagchfaaGreatDoor
open Go.RowKit Go.Shelf Go.Maps Go.ChangeMaps

def I64 (n : Int) : Prop := -9223372036854775808 ≤ n ∧ n ≤ 9223372036854775807
theorem lawD : WideMaps.KeyLaw Tryz.prog 41 := deep_law_laid laidOut_ (m := 3) (by omega) (of_decide_eq_true (by kernel_rfl)) (by kernel_rfl) (by kernel_rfl)
theorem keyD : Keyed Tryz.prog 41 := Keyed.of_law lawD
def klD (a r : Int) : Lit := .string (keyBytes [.int .i64 a, .int .i64 r])
theorem keyOfD {a r : Int} (ha : I64 a) (hr : I64 r) : keyOf Tryz.prog 41 (.agg #[.int .i64 a, .int .i64 r]) = some (klD a r) := by
  have h1 : Tryz.prog.keyType 41 = true := by kernel_rfl
  have c1 : Tryz.prog.cellsOf 41 = 2 := by kernel_rfl
  have c3 : Tryz.prog.cellsOf 3 = 1 := by kernel_rfl
  have wa : (Lit.int .i64 a).wf = true := WalkArith.wf_i64 (by have := ha.1; have := ha.2; omega)
  have wr : (Lit.int .i64 r).wf = true := WalkArith.wf_i64 (by have := hr.1; have := hr.2; omega)
  obtain ⟨n, hn⟩ : ∃ n, Tryz.prog.types.size = n + 1 := ⟨Tryz.prog.types.size - 1, by kernel_rfl⟩
  have k3 : ∀ x : Int, (Lit.int .i64 x).wf = true → Tryz.prog.keyLits (n + 1) 3 [.int .i64 x] = some [.int .i64 x] := fun x hx => by
    unfold Program.keyLits; rw [Tryz.underlying3]; simp [hx]
  unfold keyOf
  rw [Tryz.underlying41]
  have hf : (Value.agg #[.int .i64 a, .int .i64 r]).formed Tryz.prog 41 = true := by simp [Value.formed, Tryz.underlying41, c1]
  simp only [h1, hf, Bool.and_self, if_true, hn]
  unfold Program.keyLits
  rw [Tryz.underlying41]
  simp [c1, c3, Value.cells, k3 a wa, k3 r wr, klD]
theorem klD_inj {a r a' r' : Int} (ha : I64 a) (hr : I64 r) (ha' : I64 a') (hr' : I64 r') (h : klD a r = klD a' r') : a = a' ∧ r = r' := by
  have := keyD.inj (keyOfD ha hr) (by rw [h]; exact keyOfD ha' hr')
  simpa using this
def In64 (x : (Int × Int)) : Prop := I64 x.1 ∧ I64 x.2
def klP (x : (Int × Int)) : Lit := klD x.1 x.2
theorem klP_inj {x y : (Int × Int)} (hx : In64 x) (hy : In64 y) (h : klP x = klP y) : x = y := by
  obtain ⟨h1, h2⟩ := klD_inj hx.1 hx.2 hy.1 hy.2 h
  exact Prod.ext h1 h2
theorem sameKeyP {x y : (Int × Int)} : (klP y).sameKey (klP x) = true ↔ klP y = klP x := by
  unfold klP klD
  simp [Lit.sameKey]
theorem wf_inv {a : Int} (h : (Lit.int .i64 a).wf = true) : I64 a := by
  simp [Lit.wf, IntKind.min, IntKind.max, IntKind.bits, IntKind.signed] at h
  exact ⟨by omega, by omega⟩
set_option maxRecDepth 100000 in
theorem keyD_inv {key : Value} {kl : Lit} (h : keyOf Tryz.prog 41 key = some kl) : ∃ x : (Int × Int), In64 x ∧ key = recV x ∧ kl = klP x := by
  have h1 : Tryz.prog.keyType 41 = true := by kernel_rfl
  have c1 : Tryz.prog.cellsOf 41 = 2 := by kernel_rfl
  have c3 : Tryz.prog.cellsOf 3 = 1 := by kernel_rfl
  have hu := Tryz.underlying41
  obtain ⟨n, hn⟩ : ∃ n, Tryz.prog.types.size = n + 1 := ⟨Tryz.prog.types.size - 1, by kernel_rfl⟩
  have k3 : ∀ (u : Value) (ls : List Lit), Tryz.prog.keyLits (n + 1) 3 [u] = some ls → ∃ a, I64 a ∧ u = i64 a ∧ ls = [.int .i64 a] := fun u ls hl => by
    unfold Program.keyLits at hl
    rw [Tryz.underlying3] at hl
    cases u <;> simp at hl
    obtain ⟨⟨rfl, h2⟩, h3⟩ := hl
    exact ⟨_, wf_inv h2, rfl, h3.symm⟩
  unfold keyOf at h
  rw [hu] at h
  dsimp only at h
  split at h
  · rename_i hf
    rw [h1, Bool.true_and] at hf
    cases key with
    | agg cs =>
      have hs : cs.size = 2 := by
        unfold Value.formed at hf
        rw [hu] at hf
        simpa [c1] using hf
      obtain ⟨u, v, rfl⟩ : ∃ u v, cs = #[u, v] := by
        rcases cs with ⟨l⟩
        rcases l with _ | ⟨u, _ | ⟨v, _ | ⟨z, l⟩⟩⟩ <;> simp at hs
        exact ⟨u, v, rfl⟩
      rw [hn] at h
      unfold Program.keyLits at h
      rw [hu] at h
      cases e1 : Tryz.prog.keyLits (n + 1) 3 [u] with
      | none => simp [c1, c3, Value.cells, e1] at h
      | some l1 =>
        cases e2 : Tryz.prog.keyLits (n + 1) 3 [v] with
        | none => simp [c1, c3, Value.cells, e1, e2] at h
        | some l2 =>
          obtain ⟨a, ha, rfl, rfl⟩ := k3 _ _ e1
          obtain ⟨r, hr, rfl, rfl⟩ := k3 _ _ e2
          simp [c1, c3, Value.cells, e1, e2] at h
          exact ⟨(a, r), ⟨ha, hr⟩, rfl, h.symm⟩
    | _ => simp [Value.formed, hu] at hf
  · cases h
/-- No key twice; a key is on the list just where the map has it and it is no longer to come. -/
def ColP (D0 : DataW Unit) (left : Lit → Bool) (ss : List (Int × Int)) : Prop := ss.Nodup ∧ (∀ x ∈ ss, In64 x) ∧ ∀ x, In64 x → (x ∈ ss ↔ has D0 (klP x) = true ∧ left (klP x) = false)
theorem ColP.start (D0 : DataW Unit) : ColP D0 (has D0) [] := ⟨List.nodup_nil, ⟨(fun x h => by cases h), (fun x _ => by cases has D0 (klP x) <;> simp)⟩⟩
theorem ColP.step {D0 : DataW Unit} {left : Lit → Bool} {ss : List (Int × Int)} (h : ColP D0 left ss) {x : (Int × Int)} (hx : In64 x) {y : DataW Unit} (hlk : left (klP x) = true) (hat : ∀ zd, D0.atKey (klP x) zd = y) : ColP D0 (fun z => left z && !z.sameKey (klP x)) (ss ++ [x]) := by
  have hhas : has D0 (klP x) = true := has_true_of_atKey hat
  have hnew : x ∉ ss := fun hm => by have := ((h.2.2 x hx).1 hm).2; rw [hlk] at this; cases this
  refine ⟨List.nodup_append.2 ⟨h.1, by simp, fun a ha b hb => by simp at hb; subst hb; exact fun e => hnew (e ▸ ha)⟩, fun z hz => ?_, fun y hy => ?_⟩
  · rcases List.mem_append.1 hz with hz | hz
    · exact h.2.1 z hz
    · rw [List.mem_singleton.1 hz]; exact hx
  · rw [List.mem_append, List.mem_singleton, h.2.2 y hy]
    by_cases e : y = x
    · subst e
      have := sameKeyP (x := y) (y := y)
      simp [hhas, this]
    · have h1 : (klP y).sameKey (klP x) = false := by
        rw [Bool.eq_false_iff]; intro e2; exact e (klP_inj hy hx (sameKeyP.1 e2))
      simp [e, h1]
/-- An int reads as itself. -/
def RI (v : Value) : Option (DataW Unit × List MemPlace) :=
  match v with
  | .int .i64 x => some (.lit (.int .i64 x), [])
  | _ => none
theorem RI_inv {v : Value} {x : Int} {ps : List MemPlace} (h : RI v = some (.lit (.int .i64 x), ps)) : v = i64 x := by
  unfold RI at h
  split at h
  · simp only [Option.some.injEq, Prod.mk.injEq, DataW.lit.injEq, Lit.int.injEq, true_and] at h
    rw [h.1]
  · cases h
end Go.Proofs.YtpdldbapagchfaaGreatDoor
