/- The law: if no two wants accept a common copy, each one gets the cheapest copy that it accepts, and of several ones the least. -/
import Derived.Test.YtpcmppamkgkdlaaVS
import Derived.Test.YtpcmppamkgkdlaaVQ
import Derived.Test.YtpcmppamkgkdlaaVH
import Derived.Deep.LoopGhost
import Derived.Deep.DeepCutAuto
import Derived.Deep.RegionHeld3
namespace Go.Proofs.Ytpcmppamkgkdlaa
open Go.RowKit

/-- A whole problem is read, at a step of a statement whose order is open. -/
theorem step_load27 {ops : Array Oper} {o : Oper} {a : Act} {W : World} {K : Act → World → Prop} {Q : Exit → Act → World → Prop} {E : Prop} (x : Operand) (hgd : Region.wanted o (yielded ops a.tmps) = true) (ho : o.op = .load 27 x) {pb : Nat} {cells : Array Value}
    (hx : a.eval x = .pointer (some ⟨pb, 0, none⟩)) (h : Blk W pb cells 27) (hs : cells.size = 18) (k : K (a.put o.dst (.agg cells)) W) : if Region.wanted o (yielded ops a.tmps) = true then Oper.wp Try.prog o a W K Q else E := by
  rw [if_pos hgd]
  unfold Oper.wp execOp
  simp only [ho, hx, Instr.loadAt, Instr.sureAddr, Sem.run_bind, Sem.run_pure, Result.andThen_ok, run_loadVar_row W pb 27 27 cells (0, 0) _ h Try.underlying27 rfl (by rw [hs]; kernel_rfl)]
  exact k
/-- A whole problem is read, first, in a statement whose order is open. -/
theorem yields_load27 {ops : Array Oper} {S : World → Prop} {o : Oper} {a : Act} {pb : Nat} {cells : Array Value} (x : Operand) (hgd : Region.wanted o (yielded ops a.tmps) = true) (ho : o.op = .load 27 x)
    (hx : a.eval x = .pointer (some ⟨pb, 0, none⟩)) (h : ∀ W, S W → Blk W pb cells 27) (hs : cells.size = 18) : YieldsIf Try.prog ops S o (.agg cells) a :=
  .inl ⟨hgd, fun W hW => by
    unfold execOp
    simp only [ho, hx, Instr.loadAt, Instr.sureAddr, Sem.run_bind, Sem.run_pure, Result.andThen_ok, run_loadVar_row W pb 27 27 cells (0, 0) _ (h W hW) Try.underlying27 rfl (by rw [hs]; kernel_rfl)]⟩
/-- The wants while copies fall to them. -/
structure AW (B : Nat) (W : World) (wb : Nat) (L : List Wt) (us : Nat → Value) (cl : Nat → List Int) : Prop where
  mw : MW B W wb L.length (fun j => (L.getD j noW).1) us cl
  form : ∀ j, j < L.length → (us j = .slice none 0 0 ∧ cl j = []) ∨ ∃ g0 c, us j = .slice (some ⟨g0, 0, none⟩) (cl j).length c ∧ ∀ i u, ((cl j).map (Value.int .i64))[i]? = some u → W.cell? ⟨g0, i, none⟩ = some u
theorem cell_map {W : World} {g0 : Nat} {l : List Int} (h : ∀ i, i < l.length → W.cell? ⟨g0, i, none⟩ = some (.int .i64 (l.getD i 0))) : ∀ i u, (l.map (Value.int .i64))[i]? = some u → W.cell? ⟨g0, i, none⟩ = some u := fun i u hu => by
  rw [List.getElem?_map] at hu
  obtain ⟨x, hx, rfl⟩ := Option.map_eq_some_iff.1 hu
  have hi := (List.getElem?_eq_some_iff.1 hx).1
  rw [h i hi, List.getD_eq_getElem?_getD, hx]; rfl
theorem AW.keep {B : Nat} {W W' : World} {wb : Nat} {L : List Wt} {us : Nat → Value} {cl : Nat → List Int} (h : AW B W wb L us cl) (hb : Below W.heap.size W W') : AW B W' wb L us cl :=
  ⟨h.mw.keep hb, fun j hj => (h.form j hj).imp id fun ⟨g0, c, e, hc⟩ => ⟨g0, c, e, fun i u hu => Below.cellE hb (hc i u hu)⟩⟩
theorem AW.set {B : Nat} {W : World} {wb : Nat} {L : List Wt} {us : Nat → Value} {cl cl' : Nat → List Int} (h : AW B W wb L us cl) {k g0 c : Nat} (hk : k < L.length) {l : List Int} (hg : B ≤ g0 ∧ g0 ≠ wb) (hc : ∀ i, i < l.length → W.cell? ⟨g0, i, none⟩ = some (.int .i64 (l.getD i 0)))
    (e : ∀ j, j < L.length → (if j = k then l else cl j) = cl' j) : AW B (W.setCell ⟨wb, k * 2 + 1, none⟩ (.slice (some ⟨g0, 0, none⟩) l.length c)) wb L (fun j => if j = k then .slice (some ⟨g0, 0, none⟩) l.length c else us j) cl' := by
  have t : Tn (fun b => b = wb) W (W.setCell ⟨wb, k * 2 + 1, none⟩ (.slice (some ⟨g0, 0, none⟩) l.length c)) := (Tn.refl (fun b => b = wb) W).setCell (p := ⟨wb, k * 2 + 1, none⟩) (.inl rfl) _
  refine ⟨(h.mw.set hk (u := .slice (some ⟨g0, 0, none⟩) l.length c) (l := l) ⟨_, c, rfl, .inr ⟨g0, 0, rfl, hg, fun i hi => by rw [Nat.zero_add]; exact hc i hi⟩⟩).congr (fun _ _ => rfl) e, fun j hj => ?_⟩
  rw [← e j hj]
  by_cases ej : j = k
  · subst ej
    rw [if_pos rfl, if_pos rfl]
    exact .inr ⟨g0, c, rfl, cell_map fun i hi => t.cell (hc i hi) hg.2⟩
  · rw [if_neg ej, if_neg ej]
    refine (h.form j hj).imp id fun ⟨g1, c1, e1, hc1⟩ => ⟨g1, c1, e1, fun i u hu => t.cell (hc1 i u hu) fun eb => ?_⟩
    obtain ⟨a, cap, e2, h2 | ⟨b, o, h3, h4, _⟩⟩ := h.mw.el j hj
    · rw [h2] at hu; simp at hu
    · rw [e1] at e2
      injection e2 with e3
      rw [h3] at e3
      injection e3 with e3
      injection e3 with e3
      exact h4.2 (by rw [← e3]; exact eb)
set_option maxRecDepth 100000 in
set_option maxHeartbeats 8000000 in
theorem apartLaw (cells : Array Value) (wl : List (Int × Int)) (al : List Int) (cs : Nat → Int) (w : World) (hp : PrIn w w.heap.size cells wl al cs) (hcs : cells.size = 18) :
    Calls Try.prog 9 #[.agg cells] w fun e w' => e = .returned (.bool true) ∧ Below w.heap.size w w' := by
  have HP := Lib.hid hp
  have HS := Lib.hid hcs
  clear hp hcs
  go_enter Try.func9, Try.ntmps9
  go_wp2_with fail
  obtain ⟨pb, hpb⟩ : ∃ pb, pb = w.heap.size := ⟨_, rfl⟩
  obtain ⟨W1, hW1⟩ : ∃ W1, W1 = w.alloc (.cells cells 27) := ⟨_, rfl⟩
  have PB : RowKit.Hid (Blk W1 pb cells 27) := Lib.hid (by rw [hW1, hpb]; exact Blk.new _ _ _)
  have B1 : RowKit.Hid (Below w.heap.size w W1) := Lib.hid (by rw [hW1]; exact (Below.refl _ _).alloc (Nat.le_refl _) _)
  have HZ : RowKit.Hid (W1.heap.size = pb + 1 ∧ pb = w.heap.size) := Lib.hid ⟨by rw [hW1, hpb]; simp, hpb⟩
  rw [← hW1, ← hpb]
  clear hW1 hpb
  refine (sanity_any W1).mono ?_
  rintro e w2 ⟨rfl, hb2⟩
  have B2 := Lib.hid hb2
  have PB2 := Lib.hid (PB.out.below hb2 PB.out.lt)
  have hz2 := hb2.size
  clear hb2
  go_wp2_with (refine wpList_load27 (.tmp 1) rfl rfl rfl PB2.out HS.out ?_)
  have PR2 : RowKit.Hid (PrIn w2 w.heap.size cells wl al cs) := Lib.hid (HP.out.below ((B1.out).trans (B2.out.mono (by have := HZ.out; omega))))
  refine (lists_any cells wl al cs 16 w2 w.heap.size PR2.out (by have := HZ.out; omega) (by omega)).mono ?_
  rintro e w3 ⟨wv, av, w0, ps, rfl, hWB, h0, hat, hb3⟩
  have B3 : RowKit.Hid (Below W1.heap.size W1 w3) := Lib.hid (B2.out.trans (hb3.mono hz2))
  have ST3 : RowKit.Hid (Sit w w3 pb cells (wantsL wl 16) (atL al 16) wv av) := Lib.hid ⟨PB.out.below B3.out PB.out.lt, B1.out.trans (B3.out.mono (by have := HZ.out; omega)), hWB.done, hat.mono hWB.bel.size⟩
  obtain ⟨aw, cw, hwv, -⟩ := ST3.out.wants
  obtain ⟨aa, ca, hav, -⟩ := ST3.out.at_
  have HN := Lib.hid (wantsL_le wl 16)
  obtain ⟨L, hL⟩ : ∃ L, L = wantsL wl 16 := ⟨_, rfl⟩
  have HLC : RowKit.Hid (∀ k, (L.getD k noW).2.length ≤ 1000) := Lib.hid fun k => by rw [hL]; exact wantsL_cop wl 16 k
  rw [← hL] at ST3 HN hwv
  obtain ⟨A, hA⟩ : ∃ A, A = atL al 16 := ⟨_, rfl⟩
  have HAL : RowKit.Hid (A.length ≤ 16) := Lib.hid (by rw [hA]; exact atL_le al 16)
  rw [← hA] at ST3 hav
  have HLL := Lib.hid hL
  have HAA := Lib.hid hA
  have hn := HN.out
  have han := HAL.out
  subst hwv hav
  obtain ⟨P, hP⟩ : ∃ P, P = prob L A (costsM cs) := ⟨_, rfl⟩
  have HPP := Lib.hid hP
  have hPm : P.m = L.length := by rw [hP]; rfl
  have hPn : P.n = A.length := by rw [hP]; rfl
  have HPM := Lib.hid (And.intro hPm hPn)
  have WB3 := Lib.hid hWB
  have HW0 : RowKit.Hid (W1.heap.size ≤ w0.heap.size ∧ w0.heap.size ≤ w3.heap.size) := Lib.hid ⟨Nat.le_trans hz2 h0, hWB.bel.size⟩
  have AT0 := Lib.hid hat
  rw [← hL] at WB3
  rw [← hA] at AT0
  clear hWB h0 hat hb3 hL hA PR2 hP hPm hPn PB PB2
  by_cases hL0 : L.length = 0
  · have hl0 : ((L.length : Int) == 0) = true := by rw [hL0]; rfl
    have hl0' : (L.length == 0) = true := by simpa using hL0
    have hnil : L = [] := List.eq_nil_of_length_eq_zero hL0
    clear hn
    go_wp2_with (refine wpList_load27g (.tmp 1) rfl rfl rfl ST3.out.blk HS.out ?_)
    refine (costs_any cells cs w3 HP.out.c2).mono ?_
    rintro e w4 ⟨cv, rfl, hC, hb⟩
    have ST4 := Lib.hid (ST3.out.up hb)
    have Ccv := Lib.hid hC
    clear hb hC
    go_wp2_with fail
    refine (assign_any [] A (costsM cs) w4 w4.heap.size _ _ _ ⟨none, 0, rfl, .inl rfl⟩ ST4.out.at_ Ccv.out (by simp) (by omega) (fun k => by simp [noW]) (costsM_row cs) (Nat.le_refl _)).mono ?_
    rintro e w5 ⟨cp, g, rfl, hB, hblk, hg, hb⟩
    have hm0 : (prob [] A (costsM cs)).m = 0 := rfl
    rw [hm0]
    have F := Lib.hid (ST4.out.bel.trans (hb.mono ST4.out.bel.size))
    clear hB hblk hg hb hm0
    go_wp2_with fail
    go_ret
    exact ⟨rfl, F.out⟩
  obtain ⟨wb, wcap, us0, hwv, hmw⟩ := WB3.out.mw (by omega)
  obtain ⟨rfl, rfl⟩ : aw = some ⟨wb, 0, none⟩ ∧ cw = wcap := by injection hwv with e1 e2 e3; exact ⟨e1, e3⟩
  have MW3 := Lib.hid hmw
  have hl0 : ((L.length : Int) == 0) = false := beq_eq_false_iff_ne.2 (by omega)
  have hl0' : (L.length == 0) = false := by simpa using hL0
  obtain ⟨B5, hB5⟩ : ∃ B5, B5 = w0.heap.size := ⟨_, rfl⟩
  rw [← hB5] at MW3 HW0 AT0
  have SB3 : RowKit.Hid (Blk w3 pb cells 27) := Lib.hid ST3.out.blk
  have BL3 := Lib.hid ST3.out.bel
  have HPB : RowKit.Hid (pb < B5 ∧ w.heap.size ≤ B5) := Lib.hid (by have := HZ.out; have := HW0.out; omega)
  clear hwv hmw hB5 WB3
  go_wp2_with fail
  go_loopg [6] L.length (fun m v wr => ∃ k : Nat, k + m = L.length ∧ v = .int .i64 k ∧ Below B5 w3 wr ∧ ∃ us cl, MW B5 wr wb L.length (fun j => (L.getD j noW).1) us cl ∧ ∀ j, j < k → us j = .slice none 0 0 ∧ cl j = [])
  case atStart => exact ⟨0, by omega, rfl, Below.refl _ _, us0, _, MW3.out, fun j hj => by omega⟩
  case round =>
    obtain ⟨k, hk, rfl, hb, us, cl, hM, hN⟩ := hrel
    obtain ⟨g1, rfl⟩ : ∃ g1 : Nat, g1 = gk := ⟨_, rfl⟩
    obtain ⟨w4, rfl⟩ : ∃ w4 : World, w4 = wr := ⟨_, rfl⟩
    have M4 := Lib.hid hM
    have B4 := Lib.hid hb
    have N4 := Lib.hid hN
    have HKG := Lib.hid hk
    clear hM hb hN hk
    by_cases hlt : k < L.length
    · have c1 := M4.out.c1 k hlt
      have cf := M4.out.fz
      obtain ⟨u1, u2, u3, hus⟩ : ∃ u1 u2 u3, us k = .slice u1 u2 u3 := by obtain ⟨a, c, e, -⟩ := M4.out.el k hlt; exact ⟨a, _, c, e⟩
      rw [hus] at c1
      have M5 := Lib.hid (M4.out.set hlt (u := .slice none 0 0) (l := []) ⟨none, 0, rfl, .inl rfl⟩)
      have B5' : RowKit.Hid (Below B5 w3 (w4.setCell ⟨wb, k * 2 + 1, none⟩ (.slice none 0 0))) := Lib.hid (B4.out.setCell (by show B5 ≤ wb; exact M4.out.at_.1) _)
      have N5 : RowKit.Hid (∀ j, j < k + 1 → (fun j => if j = k then Value.slice none 0 0 else us j) j = .slice none 0 0 ∧ (fun j => if j = k then ([] : List Int) else cl j) j = []) := Lib.hid fun j hj => by
        by_cases e : j = k
        · simp [e]
        · simp only [e, if_false]; exact N4.out j (by omega)
      clear hus
      go_wp2_with fail
      go_roundg (g1 - 1)
      case measure => have := HKG.out; omega
      case rel => exact ⟨k + 1, by have := HKG.out; omega, by go_num, B5'.out, _, _, M5.out, N5.out⟩
    · obtain rfl : k = L.length := by have := HKG.out; omega
      obtain ⟨key, hkey⟩ : ∃ key : Nat → Nat, key = fun c => (c * 5 + (cs (c % 16)).toNat) % L.length := ⟨_, rfl⟩
      have HKEY := Lib.hid hkey
      have A4 : RowKit.Hid (AW B5 w4 wb L us (apL key 0)) := Lib.hid ⟨M4.out.congr (fun _ _ => rfl) fun j hj => (N4.out j hj).2, fun j hj => .inl ⟨(N4.out j hj).1, rfl⟩⟩
      clear M4 N4 hkey
      go_wp2_with fail
      go_loopg [7] A.length (fun m v wr => ∃ c : Nat, c + m = A.length ∧ v = .int .i64 c ∧ Below B5 w3 wr ∧ ∃ us, AW B5 wr wb L us (apL key c))
      case atStart => exact ⟨0, by omega, rfl, B4.out, us, A4.out⟩
      case round =>
        obtain ⟨c, hc, rfl, hb, us, hM⟩ := hrel
        obtain ⟨g2, rfl⟩ : ∃ g2 : Nat, g2 = gk := ⟨_, rfl⟩
        obtain ⟨w5, rfl⟩ : ∃ w5 : World, w5 = wr := ⟨_, rfl⟩
        have A5 := Lib.hid hM
        have BB5 := Lib.hid hb
        have HCG := Lib.hid hc
        clear hM hb hc
        by_cases hca : c < A.length
        · have PB5 : RowKit.Hid (Blk w5 pb cells 27) := Lib.hid (SB3.out.below BB5.out HPB.out.1)
          obtain ⟨q, hq⟩ : ∃ q, q = c % 16 := ⟨_, rfl⟩
          have hq16 : q < 16 := by omega
          obtain ⟨hy1, hy2⟩ := HP.out.c2 q hq16
          have hr1 : (c : Int) % 16 = (q : Int) := by omega
          have hr2 : (c : Int).tmod 16 = (q : Int) := by rw [Int.tmod_eq_emod_of_nonneg (by omega)]; exact hr1
          have e0 : w5.cell? ⟨pb, 2 + q, none⟩ = some (.int .u16 (cs q)) := PB5.out.cellE hy1
          obtain ⟨kk, hkk⟩ : ∃ kk, kk = key c := ⟨_, rfl⟩
          obtain ⟨y, hy⟩ : ∃ y, y = cs q := ⟨_, rfl⟩
          have hkd : kk = (c * 5 + y.toNat) % L.length := by rw [hkk, HKEY.out, hy, hq]
          have hkl : kk < L.length := by rw [hkd]; exact Nat.mod_lt _ (by omega)
          rw [← hy] at e0 hy2
          have hw1 : IntKind.i64.wrap ((c : Int) * 5) = (c : Int) * 5 := IntWalk.i64_in _ (by omega)
          have hw2 : IntKind.i64.wrap y = y := IntWalk.i64_in _ (by omega)
          have hw3 : IntKind.i64.wrap ((c : Int) * 5 + y) = (c : Int) * 5 + y := IntWalk.i64_in _ (by omega)
          have hrk : ((c : Int) * 5 + y).tmod (L.length : Int) = (kk : Int) := by
            rw [Int.tmod_eq_emod_of_nonneg (by omega), hkd, Int.natCast_emod]; congr 1; omega
          have hnl : ¬ L = [] := fun e => hL0 (by rw [e]; rfl)
          have HKK := Lib.hid hkk
          obtain ⟨m, hm⟩ : ∃ m, m = (apL key c kk).length := ⟨_, rfl⟩
          have hm16 : m ≤ 16 := by have := apL_len key kk c; omega
          have HM := Lib.hid hm
          obtain ⟨u1, u3, hus⟩ : ∃ u1 u3, us kk = .slice u1 m u3 := by obtain ⟨a, c', e, -⟩ := A5.out.mw.el kk hkl; exact ⟨a, c', by rw [hm]; exact e⟩
          have c1 : (w5.alloc (.cells #[.int .i64 c] 3)).cell? ⟨wb, kk * 2 + 1, none⟩ = some (.slice u1 m u3) := by
            rw [← hus]; exact (((Below.refl w5.heap.size w5).alloc (Nat.le_refl _) _).cell (p := ⟨wb, kk * 2 + 1, none⟩) A5.out.mw.at_.2).trans (A5.out.mw.c1 kk hkl)
          have SRC : RowKit.Hid ((Value.slice u1 m u3 = .slice none 0 0 ∧ m = 0 ∧ ((apL key c kk).map (Value.int .i64)) = []) ∨ ∃ g0 c', Value.slice u1 m u3 = .slice (some ⟨g0, 0, none⟩) m c' ∧ ((apL key c kk).map (Value.int .i64)).length = m ∧ ∀ j u, ((apL key c kk).map (Value.int .i64))[j]? = some u → (w5.alloc (.cells #[.int .i64 c] 3)).cell? ⟨g0, j, none⟩ = some u) := Lib.hid (by
            rcases A5.out.form kk hkl with ⟨h1, h2⟩ | ⟨g0, c', h1, h2⟩
            · exact .inl ⟨by rw [← hus]; exact h1, by rw [hm, h2]; rfl, by rw [h2]; rfl⟩
            · exact .inr ⟨g0, c', by rw [← hus, hm]; exact h1, by rw [hm]; simp, fun j u hj => Below.cellE ((Below.refl w5.heap.size w5).alloc (Nat.le_refl _) _) (h2 j u hj)⟩)
          have LIT : RowKit.Hid ((w5.alloc (.cells #[.int .i64 c] 3)).ownsRow w5.heap.size 3 1 (.slice (some ⟨w5.heap.size, 0, none⟩) 1 1) 1 [.int .i64 c]) := Lib.hid (World.ownsRow_lit w5 #[.int .i64 c] 1 (Nat.le_refl _) (by unfold maxLen; omega) rfl)
          obtain ⟨i3, hi, hi0, hi1, hi2⟩ := info_parts info3
          have hwbl := A5.out.mw.at_
          clear hq hy1 hkk hkd hus hm hr1 hy
          go_wp2_with (at_builtin; go_must (refine wpList_append_row rfl (.tmp 64) (.tmp 69) 30 rfl w5.heap.size 3 i3 (.int .i64 0) 8 Try.underlying30 hi hi0 hi1 hi2 rfl _ 1 _ rfl LIT.out m _ SRC.out (ints1 _) (by unfold maxLen; omega) (by omega) (by rw [size_alloc]; omega) ?_))
          intro v6 w6 hown hgrow
          obtain ⟨g0, c6, rfl, h6⟩ : ∃ g0 c6, v6 = .slice (some ⟨g0, 0, none⟩) (1 + m) c6 ∧ w5.heap.size ≤ g0 ∧ g0 < w6.heap.size := by
            rcases row_src hown with ⟨_, h, _⟩ | ⟨g0, c', h1, _, h2⟩
            · omega
            · exact ⟨g0, c', h1, row_lt hown g0 h2⟩
          have B56 : RowKit.Hid (Below w5.heap.size w5 w6) := Lib.hid (((Tn.of_below (F := fun b => (Value.slice (some ⟨w5.heap.size, 0, none⟩) 1 1).ownBlock = some b) ((Below.refl _ _).alloc (Nat.le_refl _) (.cells #[.int .i64 (c : Int)] 3))).then_ (Tn.of_grown hgrow) fun b e => .inl e).below (Nat.le_refl _) fun b e => by
            have e' : w5.heap.size = b := by injection e
            omega)
          have A6 := Lib.hid (A5.out.keep B56.out)
          have HR : RowKit.Hid (∀ i, i < ((c : Int) :: apL key c kk).length → w6.cell? ⟨g0, i, none⟩ = some (.int .i64 (((c : Int) :: apL key c kk).getD i 0))) := Lib.hid fun i hi => by
            have e : (((c : Int) :: apL key c kk).map (Value.int .i64)) = [.int .i64 c] ++ (apL key c kk).map (Value.int .i64) := rfl
            have := hown.cells (g := g0) rfl i (.int .i64 (((c : Int) :: apL key c kk).getD i 0)) (by
              show ((((c : Int) :: apL key c kk).map (Value.int .i64)))[i]? = _
              rw [List.getElem?_map, List.getElem?_eq_getElem hi, getD_get _ _ hi]; rfl)
            rwa [add_of] at this
          have c6' := A6.out.mw.c1 kk hkl
          have cf := A6.out.mw.fz
          obtain ⟨z1, z2, z3, hz⟩ : ∃ z1 z2 z3, us kk = .slice z1 z2 z3 := by obtain ⟨a, c', e, -⟩ := A6.out.mw.el kk hkl; exact ⟨a, _, c', e⟩
          rw [hz] at c6'
          have A7 : RowKit.Hid (AW B5 (w6.setCell ⟨wb, kk * 2 + 1, none⟩ (.slice (some ⟨g0, 0, none⟩) (1 + m) c6)) wb L (fun j => if j = kk then .slice (some ⟨g0, 0, none⟩) (1 + m) c6 else us j) (apL key (c + 1))) := Lib.hid (by
            have hl : ((c : Int) :: apL key c kk).length = 1 + m := by rw [HM.out]; simp; omega
            have := A6.out.set (k := kk) (g0 := g0) (c := c6) (cl' := apL key (c + 1)) hkl (by have := A5.out.mw.at_; omega) HR.out fun j hj => by
              have hap : apL key (c + 1) j = if key c = j then (c : Int) :: apL key c j else apL key c j := rfl
              rw [hap]
              by_cases e : j = kk
              · subst e; rw [if_pos rfl, if_pos HKK.out.symm]
              · rw [if_neg e, if_neg (fun h => e (by rw [HKK.out]; exact h.symm))]
            rw [hl] at this
            exact this)
          have B7 : RowKit.Hid (Below B5 w3 (w6.setCell ⟨wb, kk * 2 + 1, none⟩ (.slice (some ⟨g0, 0, none⟩) (1 + m) c6))) := Lib.hid ((BB5.out.trans (B56.out.mono (by have := A5.out.mw.at_; omega))).setCell (by show B5 ≤ wb; exact A5.out.mw.at_.1) _)
          clear hown hgrow hi hi0 hi1 hi2 hz e0 c1 hw1 hw2 hw3 hrk hr2
          go_wp2_with fail
          go_roundg (g2 - 1)
          case measure => have := HCG.out; omega
          case rel => exact ⟨c + 1, by have := HCG.out; omega, by go_num, B7.out, _, A7.out⟩
        · obtain rfl : c = A.length := by have := HCG.out; omega
          have PB5 : RowKit.Hid (Blk w5 pb cells 27) := Lib.hid (SB3.out.below BB5.out HPB.out.1)
          have AT5 : RowKit.Hid (Ints w5 w5.heap.size (.slice aa A.length ca) A) := Lib.hid ((AT0.out.below BB5.out (Nat.le_refl _)).mono (Nat.le_trans HW0.out.2 BB5.out.size))
          have WN5 : RowKit.Hid (Wants w5 w5.heap.size (.slice (some ⟨wb, 0, none⟩) L.length cw) (apW L key A.length)) := Lib.hid (A5.out.mw.wants cw)
          have BL5 : RowKit.Hid (Below w.heap.size w w5) := Lib.hid (BL3.out.trans (BB5.out.mono HPB.out.2))
          have hwl : wb < w5.heap.size := A5.out.mw.at_.2
          clear A5 SB3 BB5 MW3 ST3 AT0 HCG HKG A4 B4
          go_wp2_with (refine wpList_load27 (.tmp 1) rfl rfl rfl PB5.out HS.out ?_)
          refine (costs_any cells cs w5 HP.out.c2).mono ?_
          rintro e w6 ⟨cv, rfl, hC, hb⟩
          have PB6 := Lib.hid (PB5.out.below hb PB5.out.lt)
          have AT6 := Lib.hid (AT5.out.up hb)
          have WN6 := Lib.hid (WN5.out.up hb)
          have BL6 := Lib.hid (BL5.out.trans (hb.mono BL5.out.size))
          have C6 := Lib.hid hC
          clear hb hC PB5 AT5 WN5 BL5 hwl
          go_wp2_with fail
          refine (assign_any (apW L key A.length) A (costsM cs) w6 w6.heap.size _ _ _ WN6.out AT6.out C6.out (by rw [apW_len]; omega) (by omega) (apW_cop L key (by omega)) (costsM_row cs) (Nat.le_refl _)).mono ?_
          rintro e w7 ⟨cp, g, rfl, hB, hblk, hg, hb⟩
          have hm9 : (prob (apW L key A.length) A (costsM cs)).m = L.length := apW_len L key A.length
          rw [hm9] at hblk ⊢
          have PB7 := Lib.hid (PB6.out.below hb PB6.out.lt)
          have AT7 := Lib.hid (AT6.out.up hb)
          have WN7 := Lib.hid (WN6.out.up hb)
          have BL7 := Lib.hid (BL6.out.trans (hb.mono BL6.out.size))
          have G7 := Lib.hid hblk
          have LAW := Lib.hid (fun (k : Nat) (hk : k < L.length) => apart_law hB hk)
          clear hB hblk hg hb hm9 PB6 AT6 WN6 BL6 C6
          have hl1 : ((L.length : Int) != (L.length : Int)) = false := by simp
          go_wp2_with fail
          go_loopg [10] L.length (fun m v wr => ∃ k : Nat, k + m = L.length ∧ v = .int .i64 k ∧ Below w7.heap.size w7 wr)
          case atStart => exact ⟨0, by omega, rfl, Below.refl _ _⟩
          case round =>
            obtain ⟨k, hk, rfl, hb⟩ := hrel
            obtain ⟨g3, rfl⟩ : ∃ g3 : Nat, g3 = gk := ⟨_, rfl⟩
            obtain ⟨w8, rfl⟩ : ∃ w8 : World, w8 = wr := ⟨_, rfl⟩
            have B8 := Lib.hid hb
            have HKG := Lib.hid hk
            clear hb hk
            by_cases hlt : k < L.length
            · obtain ⟨lk, hlk⟩ : ∃ lk, lk = apL key A.length k := ⟨_, rfl⟩
              have HLK := Lib.hid hlk
              have hlkn : lk.length ≤ 16 := by rw [hlk]; have := apL_len key k A.length; omega
              have MEM : RowKit.Hid (∀ c : Nat, c < A.length → ((c : Int) ∈ lk ↔ key c = k)) := Lib.hid fun c hc => by
                rw [hlk, mem_apL]
                constructor
                · rintro ⟨d, h1, h2, h3⟩
                  obtain rfl : c = d := by omega
                  exact h2
                · intro h; exact ⟨c, hc, h, rfl⟩
              obtain ⟨a1, p1, hw, hw2⟩ := WN7.out
              obtain rfl : cw = p1 := by injection hw
              rcases hw2 with h | ⟨bw, ow, hbo, hbw, hcw⟩
              · have := apW_len L key A.length; rw [h] at this; simp at this; omega
              obtain ⟨rfl, rfl⟩ : wb = bw ∧ ow = 0 := by
                injection hw with h1 h2 h3
                rw [← h1] at hbo
                injection hbo with hbo
                injection hbo with h4 h5
                exact ⟨h4, h5.symm⟩
              obtain ⟨u, e0, e1, hu⟩ := hcw k (by rw [apW_len]; exact hlt)
              rw [apW_get L key A.length hlt] at e0 hu
              rw [Nat.zero_add] at e0 e1
              obtain ⟨au, cu, rfl, hI⟩ := hu
              obtain ⟨pp, hpp⟩ : ∃ pp, pp = (L.getD k noW).1 := ⟨_, rfl⟩
              have hI' : lk = [] ∨ ∃ b o, au = some ⟨b, o, none⟩ ∧ b < w7.heap.size ∧ ∀ j, j < lk.length → w7.cell? ⟨b, o + j, none⟩ = some (.int .i64 (lk.getD j 0)) := by rw [hlk]; exact hI
              have e0' : w7.cell? ⟨wb, k * 2, none⟩ = some (.int .i64 pp) := by rw [hpp]; exact e0
              have e1' : w7.cell? ⟨wb, k * 2 + 1, none⟩ = some (.slice au lk.length cu) := by rw [hlk]; exact e1
              have HI7 := Lib.hid hI'
              have E07 := Lib.hid e0'
              have E17 := Lib.hid e1'
              have HWB := Lib.hid hbw
              have LWK := LAW.out k hlt
              rw [← hpp] at LWK
              have LW := Lib.hid LWK
              obtain ⟨csk, hcsk⟩ : ∃ csk : Nat → Int, csk = fun c => wayI (costsM cs) (A.getD c 0) pp := ⟨_, rfl⟩
              obtain ⟨mine, hmine⟩ : ∃ mine : Nat → Bool, mine = fun c => decide (key c = k) := ⟨_, rfl⟩
              rw [← hcsk, ← hmine] at LW
              have HCSK := Lib.hid hcsk
              have HMINE := Lib.hid hmine
              clear hlk hw hbo hcw e0 e1 hI hpp hI' e0' e1' hbw LWK hcsk hmine
              go_wp2_with fail
              go_loopg [11, 12] A.length (fun m x v wr => ∃ t : Nat, t + m = A.length ∧ v = .int .i64 ((A.length : Int) - 1 - (t : Int)) ∧ x = .int .i64 (oi (bst mine csk A.length t)) ∧ Below w7.heap.size w7 wr)
              case atStart => exact ⟨0, by omega, by simp, rfl, B8.out⟩
              case round =>
                obtain ⟨t, ht, rfl, rfl, hb⟩ := hrel
                obtain ⟨g4, rfl⟩ : ∃ g4 : Nat, g4 = gk := ⟨_, rfl⟩
                obtain ⟨w9, rfl⟩ : ∃ w9 : World, w9 = wr := ⟨_, rfl⟩
                have B9 := Lib.hid hb
                have HTG := Lib.hid ht
                clear hb ht
                by_cases htn : t < A.length
                · obtain ⟨c, hc⟩ : ∃ c, c = A.length - 1 - t := ⟨_, rfl⟩
                  have hce : (A.length : Int) - 1 - (t : Int) = (c : Int) := by omega
                  rw [hce]
                  have hca : c < A.length := by omega
                  have HC := Lib.hid hc
                  obtain ⟨bo, hbo⟩ : ∃ bo, bo = bst mine csk A.length t := ⟨_, rfl⟩
                  have HBO := Lib.hid hbo
                  rw [← hbo]
                  obtain ⟨x0, hx0⟩ : ∃ x0, x0 = oi bo := ⟨_, rfl⟩
                  have HX0 := Lib.hid hx0
                  rw [← hx0]
                  have e19 := (B9.out.cell (p := ⟨wb, k * 2 + 1, none⟩) HWB.out).trans E17.out
                  clear hc hce hbo hx0
                  go_wp2_with fail
                  go_loopg [13, 14] lk.length (fun m x v wr => ∃ j : Nat, j + m = lk.length ∧ v = .int .i64 j ∧ x = .bool (decide ((c : Int) ∈ lk.take j)) ∧ wr = w9)
                  case atStart => exact ⟨0, by omega, rfl, by simp, rfl⟩
                  case round =>
                    obtain ⟨j, hj, rfl, rfl, rfl⟩ := hrel
                    obtain ⟨g5, rfl⟩ : ∃ g5 : Nat, g5 = gk := ⟨_, rfl⟩
                    have HJG := Lib.hid hj
                    clear hj
                    by_cases hjl : j < lk.length
                    · have TS : RowKit.Hid ((c : Int) ∈ lk.take (j + 1) ↔ (c : Int) ∈ lk.take j ∨ lk.getD j 0 = (c : Int)) := Lib.hid (by
                        rw [take_succD (d := 0) j hjl, List.mem_append, List.mem_singleton]
                        exact ⟨fun h => h.imp id fun e => e.symm, fun h => h.imp id fun e => e.symm⟩)
                      by_cases hin : (c : Int) ∈ lk.take j
                      · have T2 : RowKit.Hid (decide ((c : Int) ∈ lk.take (j + 1)) = true) := Lib.hid (decide_eq_true (TS.out.2 (.inl hin)))
                        rw [decide_eq_true hin]
                        clear hin
                        go_wp2_with fail
                        go_roundg (g5 - 1)
                        case measure => have := HJG.out; omega
                        case rel => exact ⟨j + 1, by have := HJG.out; omega, by go_num, by rw [T2.out], rfl⟩
                      · rcases HI7.out with h | ⟨bu, ou, rfl, hbu, hcu⟩
                        · rw [h] at hjl; simp at hjl
                        have e2 := (B9.out.cell (p := ⟨bu, ou + j, none⟩) hbu).trans (hcu j hjl)
                        have T2 : RowKit.Hid (decide ((c : Int) ∈ lk.take (j + 1)) = decide (lk.getD j 0 = (c : Int))) := Lib.hid (decide_eq_decide.2 (TS.out.trans ⟨fun h => h.resolve_left hin, .inr⟩))
                        rw [decide_eq_false hin]
                        obtain ⟨x, hx⟩ : ∃ x, x = lk.getD j 0 := ⟨_, rfl⟩
                        rw [← hx] at e2 T2
                        clear hcu hx hin
                        by_cases hxc : x = (c : Int)
                        · have q1 : (x == (c : Int)) = true := by simpa using hxc
                          have T3 : RowKit.Hid (decide ((c : Int) ∈ lk.take (j + 1)) = true) := Lib.hid (by rw [T2.out, decide_eq_true hxc])
                          clear hxc
                          go_wp2_with fail
                          go_roundg (g5 - 1)
                          case measure => have := HJG.out; omega
                          case rel => exact ⟨j + 1, by have := HJG.out; omega, by go_num, by rw [T3.out], rfl⟩
                        · have q1 : (x == (c : Int)) = false := by simpa using hxc
                          have T3 : RowKit.Hid (decide ((c : Int) ∈ lk.take (j + 1)) = false) := Lib.hid (by rw [T2.out, decide_eq_false hxc])
                          clear hxc
                          go_wp2_with fail
                          go_roundg (g5 - 1)
                          case measure => have := HJG.out; omega
                          case rel => exact ⟨j + 1, by have := HJG.out; omega, by go_num, by rw [T3.out], rfl⟩
                    · obtain rfl : j = lk.length := by have := HJG.out; omega
                      have hmc : decide ((c : Int) ∈ lk.take lk.length) = mine c := by
                        rw [List.take_length, HMINE.out]; exact decide_eq_decide.2 (MEM.out c hca)
                      rw [hmc]
                      clear hmc
                      obtain ⟨w9, rfl⟩ : ∃ w9 : World, w9 = wr := ⟨_, rfl⟩
                      go_wp2_with fail
                      obtain ⟨aA, pA, hAv, hA2⟩ := AT7.out
                      obtain ⟨rfl, rfl⟩ : aa = aA ∧ ca = pA := by injection hAv with q1 q2 q3; exact ⟨q1, q3⟩
                      rcases hA2 with h | ⟨ab, ao, rfl, hab, hac⟩
                      · rw [h] at hca; simp at hca
                      have HAC := Lib.hid hac
                      have HAB := Lib.hid hab
                      clear hAv hac hab
                      have HST : RowKit.Hid (bst mine csk A.length (t + 1) = if mine c = true ∧ (∀ d, bo = some d → csk c ≤ csk d) then some c else bo) := Lib.hid (by rw [bst, ← HC.out, ← HBO.out])
                      cases hmn : mine c with
                      | false =>
                        have TB : RowKit.Hid (oi (bst mine csk A.length (t + 1)) = x0) := Lib.hid (by rw [HST.out, if_neg (fun h => by rw [hmn] at h; cases h.1), HX0.out])
                        clear hmn
                        go_quiet (fail)
                        rename_i nq
                        have B10 := Lib.hid (bdrewN B9.out nq)
                        go_wp2_with fail
                        go_roundg (g4 - 1)
                        case measure => have := HTG.out; omega
                        case rel => exact ⟨t + 1, by have := HTG.out; omega, by have := HC.out; have := HTG.out; go_num, by rw [TB.out], B10.out⟩
                      | true =>
                        cases hbd : bo with
                        | none =>
                          have TB : RowKit.Hid (oi (bst mine csk A.length (t + 1)) = (c : Int)) := Lib.hid (by rw [HST.out, if_pos ⟨hmn, fun d e => by rw [hbd] at e; cases e⟩]; rfl)
                          have q1 : x0 = -1 := by rw [HX0.out, hbd]; rfl
                          subst q1
                          clear hmn hbd
                          go_quiet (fail)
                          rename_i nq
                          have B10 := Lib.hid (bdrewN B9.out nq)
                          go_wp2_with fail
                          go_roundg (g4 - 1)
                          case measure => have := HTG.out; omega
                          case rel => exact ⟨t + 1, by have := HTG.out; omega, by have := HC.out; have := HTG.out; go_num, by rw [TB.out], B10.out⟩
                        | some d =>
                          have q1 : x0 = (d : Int) := by rw [HX0.out, hbd]; rfl
                          have hda : d < A.length := ((bst_ok mine csk A.length t (by have := HTG.out; omega)).2 d (by rw [← HBO.out]; exact hbd)).2.1
                          subst q1
                          have qd : decide ((d : Int) < 0) = false := by simp
                          obtain ⟨xc, hxc⟩ : ∃ xc, xc = csk c := ⟨_, rfl⟩
                          obtain ⟨xd, hxd⟩ : ∃ xd, xd = csk d := ⟨_, rfl⟩
                          have TB : RowKit.Hid (oi (bst mine csk A.length (t + 1)) = if xc ≤ xd then (c : Int) else (d : Int)) := Lib.hid (by
                            rw [HST.out]
                            by_cases hle : xc ≤ xd
                            · rw [if_pos hle, if_pos ⟨hmn, fun d' e => by rw [hbd] at e; injection e with e; subst e; rw [← hxc, ← hxd]; exact hle⟩]; rfl
                            · rw [if_neg hle, if_neg (fun h => hle (by rw [hxc, hxd]; exact h.2 d hbd)), hbd]; rfl)
                          obtain ⟨ac, hcc⟩ : ∃ ac, ac = A.getD c 0 := ⟨_, rfl⟩
                          obtain ⟨ad, hdd⟩ : ∃ ad, ad = A.getD d 0 := ⟨_, rfl⟩
                          have W1' : RowKit.Hid (wayI (costsM cs) ac pp = xc) := Lib.hid (by rw [hxc, HCSK.out, hcc])
                          have W2' : RowKit.Hid (wayI (costsM cs) ad pp = xd) := Lib.hid (by rw [hxd, HCSK.out, hdd])
                          have s1 : w9.cell? ⟨ab, ao + c, none⟩ = some (.int .i64 ac) := by rw [hcc]; exact (B9.out.cell (p := ⟨ab, ao + c, none⟩) HAB.out).trans (HAC.out c hca)
                          have s2 : w9.cell? ⟨ab, ao + d, none⟩ = some (.int .i64 ad) := by rw [hdd]; exact (B9.out.cell (p := ⟨ab, ao + d, none⟩) HAB.out).trans (HAC.out d hda)
                          have s3 : w9.cell? ⟨wb, k * 2, none⟩ = some (.int .i64 pp) := (B9.out.cell (p := ⟨wb, k * 2, none⟩) HWB.out).trans E07.out
                          obtain ⟨SB, hSB⟩ : ∃ SB : World → Prop, SB = fun W => Below w9.heap.size w9 W := ⟨_, rfl⟩
                          obtain ⟨S, hS⟩ : ∃ S : World → Prop, S = fun W => (W.cell? ⟨ab, ao + c, none⟩ = some (.int .i64 ac) ∧ W.cell? ⟨ab, ao + d, none⟩ = some (.int .i64 ad) ∧ W.cell? ⟨wb, k * 2, none⟩ = some (.int .i64 pp) ∧ SB W) := ⟨_, rfl⟩
                          have HSS : RowKit.Hid (∀ W, S W → Below w9.heap.size w9 W) := Lib.hid fun W h => by rw [hS, hSB] at h; exact h.2.2.2
                          have SS : RowKit.Hid (∀ W, Below w9.heap.size w9 W → S W) := Lib.hid fun W h => by rw [hS, hSB]; exact ⟨Below.cellE h s1, Below.cellE h s2, Below.cellE h s3, h⟩
                          have UP : RowKit.Hid (∀ W W', Below W.heap.size W W' → S W → S W') := Lib.hid fun W W' hb h => SS.out W' ((HSS.out W h).trans (hb.mono (HSS.out W h).size))
                          have UB : RowKit.Hid (∀ W, S W → Blk W pb cells 27) := Lib.hid fun W h => (PB7.out.below B9.out PB7.out.lt).below (HSS.out W h) (PB7.out.below B9.out PB7.out.lt).lt
                          have LD : RowKit.Hid (∀ W, S W → W.cell? ⟨ab, ao + c, none⟩ = some (.int .i64 ac) ∧ W.cell? ⟨ab, ao + d, none⟩ = some (.int .i64 ad) ∧ W.cell? ⟨wb, k * 2, none⟩ = some (.int .i64 pp)) := Lib.hid fun W h => by rw [hS] at h; exact ⟨h.1, h.2.1, h.2.2.1⟩
                          have S9 := SS.out w9.drew (Below.refl _ _).drew
                          clear hmn hbd hxc hxd hcc hdd s1 s2 s3 HST hSB hS
                          refine wp_region_noPanic ?_
                          refine wp_region_held_drew (S := S) (by kernel_rfl) S9 (fun hHeld => ?_)
                          clear S9
                          refine wpAnyH_take (i := 0) (v := ?_) rfl (by kernel_rfl) (by kernel_rfl) (by kernel_rfl) (fun _ _ _ h => h) (Or.inl ⟨by rfl, ?_⟩) hHeld ?_
                          rotate_left
                          · (intro w hSw; clear hSw; go_simp; try (with_reducible rfl))
                          try simp only [List.getElem_toArray, List.getElem_cons_succ, List.getElem_cons_zero, Act.put, List.setIfInBounds_toArray, List.set_cons_zero, List.set_cons_succ]
                          refine wpAnyH_take (i := 1) (v := ?_) rfl (by kernel_rfl) (by kernel_rfl) (by kernel_rfl) (fun _ _ _ h => h) (Or.inl ⟨by rfl, ?_⟩) hHeld ?_
                          rotate_left
                          · (intro w hSw; clear hSw; go_simp; try (with_reducible rfl))
                          try simp only [List.getElem_toArray, List.getElem_cons_succ, List.getElem_cons_zero, Act.put, List.setIfInBounds_toArray, List.set_cons_zero, List.set_cons_succ]
                          refine wpAnyH_take (i := 2) (v := ?_) rfl (by kernel_rfl) (by kernel_rfl) (by kernel_rfl) (fun _ _ _ h => h) (Or.inl ⟨by rfl, ?_⟩) hHeld ?_
                          rotate_left
                          · (intro w hSw; clear hSw; go_simp; try (with_reducible rfl))
                          try simp only [List.getElem_toArray, List.getElem_cons_succ, List.getElem_cons_zero, Act.put, List.setIfInBounds_toArray, List.set_cons_zero, List.set_cons_succ]
                          refine wpAnyH_take (i := 3) (v := ?_) rfl (by kernel_rfl) (by kernel_rfl) (by kernel_rfl) (fun _ _ _ h => h) (Or.inl ⟨by rfl, ?_⟩) hHeld ?_
                          rotate_left
                          · (intro w hSw; clear hSw; go_simp; try (with_reducible rfl))
                          try simp only [List.getElem_toArray, List.getElem_cons_succ, List.getElem_cons_zero, Act.put, List.setIfInBounds_toArray, List.set_cons_zero, List.set_cons_succ]
                          refine wpAnyH_take (i := 4) (v := ?_) rfl (by kernel_rfl) (by kernel_rfl) (by kernel_rfl) (fun _ _ _ h => h) (Or.inl ⟨by rfl, ?_⟩) hHeld ?_
                          rotate_left
                          · (intro w hSw; clear hSw; go_simp; try (with_reducible rfl))
                          try simp only [List.getElem_toArray, List.getElem_cons_succ, List.getElem_cons_zero, Act.put, List.setIfInBounds_toArray, List.set_cons_zero, List.set_cons_succ]
                          refine wpAnyH_take (i := 5) (v := .agg cells) rfl (by kernel_rfl) (by kernel_rfl) (by kernel_rfl) (fun _ _ _ h => h) ?_ hHeld ?_
                          · exact yields_load27 (.tmp 1) (by kernel_rfl) rfl (by kernel_rfl) UB.out HS.out
                          try simp only [List.getElem_toArray, List.getElem_cons_succ, List.getElem_cons_zero, Act.put, List.setIfInBounds_toArray, List.set_cons_zero, List.set_cons_succ]
                          refine wpAnyH_take (i := 7) (v := ?_) rfl (by kernel_rfl) (by kernel_rfl) (by kernel_rfl) (fun _ _ _ h => h) (Or.inl ⟨by rfl, ?_⟩) hHeld ?_
                          rotate_left
                          · (intro w hSw; clear hSw; go_simp; try (with_reducible rfl))
                          try simp only [List.getElem_toArray, List.getElem_cons_succ, List.getElem_cons_zero, Act.put, List.setIfInBounds_toArray, List.set_cons_zero, List.set_cons_succ]
                          refine wpAnyH_take (i := 8) (v := ?_) rfl (by kernel_rfl) (by kernel_rfl) (by kernel_rfl) (fun _ _ _ h => h) (Or.inl ⟨by rfl, ?_⟩) hHeld ?_
                          rotate_left
                          · (intro w hSw; clear hSw; go_simp; try (with_reducible rfl))
                          try simp only [List.getElem_toArray, List.getElem_cons_succ, List.getElem_cons_zero, Act.put, List.setIfInBounds_toArray, List.set_cons_zero, List.set_cons_succ]
                          refine wpAnyH_take (i := 9) (v := ?_) rfl (by kernel_rfl) (by kernel_rfl) (by kernel_rfl) (fun _ _ _ h => h) (Or.inl ⟨by rfl, ?_⟩) hHeld ?_
                          rotate_left
                          · (intro w hSw; clear hSw; go_simp; try (with_reducible rfl))
                          try simp only [List.getElem_toArray, List.getElem_cons_succ, List.getElem_cons_zero, Act.put, List.setIfInBounds_toArray, List.set_cons_zero, List.set_cons_succ]
                          refine wpAnyH_take (i := 10) (v := ?_) rfl (by kernel_rfl) (by kernel_rfl) (by kernel_rfl) (fun _ _ _ h => h) (Or.inl ⟨by rfl, ?_⟩) hHeld ?_
                          rotate_left
                          · (intro w hSw; obtain ⟨l1, l2, l3⟩ := LD.out w hSw; go_simp; try (with_reducible rfl))
                          try simp only [List.getElem_toArray, List.getElem_cons_succ, List.getElem_cons_zero, Act.put, List.setIfInBounds_toArray, List.set_cons_zero, List.set_cons_succ]
                          refine wpAnyH_take (i := 11) (v := ?_) rfl (by kernel_rfl) (by kernel_rfl) (by kernel_rfl) (fun _ _ _ h => h) (Or.inl ⟨by rfl, ?_⟩) hHeld ?_
                          rotate_left
                          · (intro w hSw; clear hSw; go_simp; try (with_reducible rfl))
                          try simp only [List.getElem_toArray, List.getElem_cons_succ, List.getElem_cons_zero, Act.put, List.setIfInBounds_toArray, List.set_cons_zero, List.set_cons_succ]
                          refine wpAnyH_take (i := 12) (v := ?_) rfl (by kernel_rfl) (by kernel_rfl) (by kernel_rfl) (fun _ _ _ h => h) (Or.inl ⟨by rfl, ?_⟩) hHeld ?_
                          rotate_left
                          · (intro w hSw; clear hSw; go_simp; try (with_reducible rfl))
                          try simp only [List.getElem_toArray, List.getElem_cons_succ, List.getElem_cons_zero, Act.put, List.setIfInBounds_toArray, List.set_cons_zero, List.set_cons_succ]
                          refine wpAnyH_take (i := 13) (v := ?_) rfl (by kernel_rfl) (by kernel_rfl) (by kernel_rfl) (fun _ _ _ h => h) (Or.inl ⟨by rfl, ?_⟩) hHeld ?_
                          rotate_left
                          · (intro w hSw; clear hSw; go_simp; try (with_reducible rfl))
                          try simp only [List.getElem_toArray, List.getElem_cons_succ, List.getElem_cons_zero, Act.put, List.setIfInBounds_toArray, List.set_cons_zero, List.set_cons_succ]
                          refine wpAnyH_take (i := 14) (v := ?_) rfl (by kernel_rfl) (by kernel_rfl) (by kernel_rfl) (fun _ _ _ h => h) (Or.inl ⟨by rfl, ?_⟩) hHeld ?_
                          rotate_left
                          · (intro w hSw; clear hSw; go_simp; try (with_reducible rfl))
                          try simp only [List.getElem_toArray, List.getElem_cons_succ, List.getElem_cons_zero, Act.put, List.setIfInBounds_toArray, List.set_cons_zero, List.set_cons_succ]
                          refine wpAnyH_take (i := 15) (v := ?_) rfl (by kernel_rfl) (by kernel_rfl) (by kernel_rfl) (fun _ _ _ h => h) (Or.inl ⟨by rfl, ?_⟩) hHeld ?_
                          rotate_left
                          · (intro w hSw; obtain ⟨l1, l2, l3⟩ := LD.out w hSw; go_simp; try (with_reducible rfl))
                          try simp only [List.getElem_toArray, List.getElem_cons_succ, List.getElem_cons_zero, Act.put, List.setIfInBounds_toArray, List.set_cons_zero, List.set_cons_succ]
                          refine wpAnyH_take (i := 17) (v := .agg cells) rfl (by kernel_rfl) (by kernel_rfl) (by kernel_rfl) (fun _ _ _ h => h) ?_ hHeld ?_
                          · exact yields_load27 (.tmp 1) (by kernel_rfl) rfl (by kernel_rfl) UB.out HS.out
                          try simp only [List.getElem_toArray, List.getElem_cons_succ, List.getElem_cons_zero, Act.put, List.setIfInBounds_toArray, List.set_cons_zero, List.set_cons_succ]
                          refine wpAnyH_take (i := 19) (v := ?_) rfl (by kernel_rfl) (by kernel_rfl) (by kernel_rfl) (fun _ _ _ h => h) (Or.inl ⟨by rfl, ?_⟩) hHeld ?_
                          rotate_left
                          · (intro w hSw; clear hSw; go_simp; try (with_reducible rfl))
                          try simp only [List.getElem_toArray, List.getElem_cons_succ, List.getElem_cons_zero, Act.put, List.setIfInBounds_toArray, List.set_cons_zero, List.set_cons_succ]
                          refine wpAnyH_take (i := 20) (v := ?_) rfl (by kernel_rfl) (by kernel_rfl) (by kernel_rfl) (fun _ _ _ h => h) (Or.inl ⟨by rfl, ?_⟩) hHeld ?_
                          rotate_left
                          · (intro w hSw; clear hSw; go_simp; try (with_reducible rfl))
                          try simp only [List.getElem_toArray, List.getElem_cons_succ, List.getElem_cons_zero, Act.put, List.setIfInBounds_toArray, List.set_cons_zero, List.set_cons_succ]
                          refine wpAnyH_take (i := 21) (v := ?_) rfl (by kernel_rfl) (by kernel_rfl) (by kernel_rfl) (fun _ _ _ h => h) (Or.inl ⟨by rfl, ?_⟩) hHeld ?_
                          rotate_left
                          · (intro w hSw; clear hSw; go_simp; try (with_reducible rfl))
                          try simp only [List.getElem_toArray, List.getElem_cons_succ, List.getElem_cons_zero, Act.put, List.setIfInBounds_toArray, List.set_cons_zero, List.set_cons_succ]
                          refine wpAnyH_take (i := 22) (v := ?_) rfl (by kernel_rfl) (by kernel_rfl) (by kernel_rfl) (fun _ _ _ h => h) (Or.inl ⟨by rfl, ?_⟩) hHeld ?_
                          rotate_left
                          · (intro w hSw; obtain ⟨l1, l2, l3⟩ := LD.out w hSw; go_simp; try (with_reducible rfl))
                          try simp only [List.getElem_toArray, List.getElem_cons_succ, List.getElem_cons_zero, Act.put, List.setIfInBounds_toArray, List.set_cons_zero, List.set_cons_succ]
                          refine wpAnyH_take (i := 23) (v := ?_) rfl (by kernel_rfl) (by kernel_rfl) (by kernel_rfl) (fun _ _ _ h => h) (Or.inl ⟨by rfl, ?_⟩) hHeld ?_
                          rotate_left
                          · (intro w hSw; clear hSw; go_simp; try (with_reducible rfl))
                          try simp only [List.getElem_toArray, List.getElem_cons_succ, List.getElem_cons_zero, Act.put, List.setIfInBounds_toArray, List.set_cons_zero, List.set_cons_succ]
                          refine wpAnyH_take (i := 24) (v := ?_) rfl (by kernel_rfl) (by kernel_rfl) (by kernel_rfl) (fun _ _ _ h => h) (Or.inl ⟨by rfl, ?_⟩) hHeld ?_
                          rotate_left
                          · (intro w hSw; clear hSw; go_simp; try (with_reducible rfl))
                          try simp only [List.getElem_toArray, List.getElem_cons_succ, List.getElem_cons_zero, Act.put, List.setIfInBounds_toArray, List.set_cons_zero, List.set_cons_succ]
                          refine wpAnyH_take (i := 25) (v := ?_) rfl (by kernel_rfl) (by kernel_rfl) (by kernel_rfl) (fun _ _ _ h => h) (Or.inl ⟨by rfl, ?_⟩) hHeld ?_
                          rotate_left
                          · (intro w hSw; clear hSw; go_simp; try (with_reducible rfl))
                          try simp only [List.getElem_toArray, List.getElem_cons_succ, List.getElem_cons_zero, Act.put, List.setIfInBounds_toArray, List.set_cons_zero, List.set_cons_succ]
                          refine wpAnyH_take (i := 26) (v := ?_) rfl (by kernel_rfl) (by kernel_rfl) (by kernel_rfl) (fun _ _ _ h => h) (Or.inl ⟨by rfl, ?_⟩) hHeld ?_
                          rotate_left
                          · (intro w hSw; clear hSw; go_simp; try (with_reducible rfl))
                          try simp only [List.getElem_toArray, List.getElem_cons_succ, List.getElem_cons_zero, Act.put, List.setIfInBounds_toArray, List.set_cons_zero, List.set_cons_succ]
                          refine wpAnyH_take (i := 27) (v := ?_) rfl (by kernel_rfl) (by kernel_rfl) (by kernel_rfl) (fun _ _ _ h => h) (Or.inl ⟨by rfl, ?_⟩) hHeld ?_
                          rotate_left
                          · (intro w hSw; obtain ⟨l1, l2, l3⟩ := LD.out w hSw; go_simp; try (with_reducible rfl))
                          try simp only [List.getElem_toArray, List.getElem_cons_succ, List.getElem_cons_zero, Act.put, List.setIfInBounds_toArray, List.set_cons_zero, List.set_cons_succ]
                          refine wpAnyH_ready (rs := [6]) (by kernel_rfl) (by simp) ?_
                          refine AllReadyH.cons rfl (fun K hK => ?_) AllReadyH.nil
                          go_simp
                          go_at_call 15; refine (costs_any _ cs _ HP.out.c2).mono ?_; rintro e w16 ⟨cv, rfl, hC, hb⟩
                          have hH := UP.out _ _ hb hHeld
                          clear hHeld hb
                          refine hK.out _ _ hH (fun hHeld => ?_)
                          clear hH hK K
                          try simp only [List.getElem_toArray, List.getElem_cons_succ, List.getElem_cons_zero, Act.put, List.setIfInBounds_toArray, List.set_cons_zero, List.set_cons_succ]
                          refine wpAnyH_ready (rs := [16]) (by kernel_rfl) (by simp) ?_
                          refine AllReadyH.cons rfl (fun K hK => ?_) AllReadyH.nil
                          go_simp
                          go_at_call 21; refine (rway_any _ _ (costsM cs) _ _ _ hC (costsM_row cs)).mono ?_; rintro e w26 ⟨rfl, rfl⟩
                          have hH := hHeld
                          clear hHeld hC
                          refine hK.out _ _ hH (fun hHeld => ?_)
                          clear hH hK K
                          try simp only [List.getElem_toArray, List.getElem_cons_succ, List.getElem_cons_zero, Act.put, List.setIfInBounds_toArray, List.set_cons_zero, List.set_cons_succ]
                          refine wpAnyH_ready (rs := [18]) (by kernel_rfl) (by simp) ?_
                          refine AllReadyH.cons rfl (fun K hK => ?_) AllReadyH.nil
                          go_simp
                          go_at_call 15; refine (costs_any _ cs _ HP.out.c2).mono ?_; rintro e w28 ⟨cv, rfl, hC, hb⟩
                          have hH := UP.out _ _ hb hHeld
                          clear hHeld hb
                          refine hK.out _ _ hH (fun hHeld => ?_)
                          clear hH hK K
                          try simp only [List.getElem_toArray, List.getElem_cons_succ, List.getElem_cons_zero, Act.put, List.setIfInBounds_toArray, List.set_cons_zero, List.set_cons_succ]
                          refine wpAnyH_ready (rs := [28]) (by kernel_rfl) (by simp) ?_
                          refine AllReadyH.cons rfl (fun K hK => ?_) AllReadyH.nil
                          go_simp
                          go_at_call 21; refine (rway_any _ _ (costsM cs) _ _ _ hC (costsM_row cs)).mono ?_; rintro e w38 ⟨rfl, rfl⟩
                          have hH := hHeld
                          clear hHeld hC
                          refine hK.out _ _ hH (fun hHeld => ?_)
                          clear hH hK K
                          try simp only [List.getElem_toArray, List.getElem_cons_succ, List.getElem_cons_zero, Act.put, List.setIfInBounds_toArray, List.set_cons_zero, List.set_cons_succ]
                          refine wpAnyH_take (i := 29) (v := ?_) rfl (by kernel_rfl) (by kernel_rfl) (by kernel_rfl) (fun _ _ _ h => h) (Or.inl ⟨by rfl, ?_⟩) hHeld ?_
                          rotate_left
                          · (intro w hSw; clear hSw; go_simp; try (with_reducible rfl))
                          try simp only [List.getElem_toArray, List.getElem_cons_succ, List.getElem_cons_zero, Act.put, List.setIfInBounds_toArray, List.set_cons_zero, List.set_cons_succ]
                          refine wpAnyH_take (i := 30) (v := ?_) rfl (by kernel_rfl) (by kernel_rfl) (by kernel_rfl) (fun _ _ _ h => h) (Or.inl ⟨by rfl, ?_⟩) hHeld ?_
                          rotate_left
                          · (intro w hSw; clear hSw; go_simp; try (with_reducible rfl))
                          try simp only [List.getElem_toArray, List.getElem_cons_succ, List.getElem_cons_zero, Act.put, List.setIfInBounds_toArray, List.set_cons_zero, List.set_cons_succ]
                          refine wpAnyH_take (i := 31) (v := ?_) rfl (by kernel_rfl) (by kernel_rfl) (by kernel_rfl) (fun _ _ _ h => h) (Or.inl ⟨by rfl, ?_⟩) hHeld ?_
                          rotate_left
                          · (intro w hSw; clear hSw; go_simp; try (with_reducible rfl))
                          try simp only [List.getElem_toArray, List.getElem_cons_succ, List.getElem_cons_zero, Act.put, List.setIfInBounds_toArray, List.set_cons_zero, List.set_cons_succ]
                          refine wpAnyH_done (by kernel_rfl) ?_ _
                          refine NoPanic.normal ?_
                          all_goals
                            rw [W1'.out, W2'.out]
                            by_cases hle : xc ≤ xd
                            · have hd1 : decide (xc ≤ xd) = true := by simpa using hle
                              have TC : RowKit.Hid (oi (bst mine csk A.length (t + 1)) = (c : Int)) := Lib.hid (by rw [TB.out, if_pos hle])
                              have BX := Lib.hid (HSS.out _ hHeld)
                              have B10 := Lib.hid (B9.out.trans (BX.out.mono B9.out.size))
                              clear hle
                              rw [hd1]
                              go_wp2_with fail
                              go_roundg (g4 - 1)
                              case measure => have := HTG.out; omega
                              case rel => exact ⟨t + 1, by have := HTG.out; omega, by have := HC.out; have := HTG.out; go_num, by rw [TC.out], B10.out⟩
                            · have hd1 : decide (xc ≤ xd) = false := by simpa using hle
                              have TC : RowKit.Hid (oi (bst mine csk A.length (t + 1)) = (d : Int)) := Lib.hid (by rw [TB.out, if_neg hle])
                              have BX := Lib.hid (HSS.out _ hHeld)
                              have B10 := Lib.hid (B9.out.trans (BX.out.mono B9.out.size))
                              clear hle
                              rw [hd1]
                              go_wp2_with fail
                              go_roundg (g4 - 1)
                              case measure => have := HTG.out; omega
                              case rel => exact ⟨t + 1, by have := HTG.out; omega, by have := HC.out; have := HTG.out; go_num, by rw [TC.out], B10.out⟩
                · obtain rfl : t = A.length := by have := HTG.out; omega
                  have a0 : w9.cell? ⟨g, k, none⟩ = some (.int .i64 (oi (cp k))) := (G7.out.below B9.out G7.out.lt).cellE (arr_get _ hlt)
                  rw [LW.out] at a0
                  obtain ⟨x, hx⟩ : ∃ x, x = oi (bst mine csk A.length A.length) := ⟨_, rfl⟩
                  rw [← hx] at a0 ⊢
                  clear hx
                  have q1 : (x != x) = false := by simp
                  have q2 : (A.length : Int) - 1 - (A.length : Int) = -1 := by omega
                  rw [q2]
                  clear q2
                  go_wp2_with fail
                  go_roundg (g3 - 1)
                  case measure => have := HKG.out; omega
                  case rel => exact ⟨k + 1, by have := HKG.out; omega, by go_num, B9.out⟩
            · obtain rfl : k = L.length := by have := HKG.out; omega
              have F := Lib.hid (BL7.out.trans (B8.out.mono BL7.out.size))
              go_wp2_with fail
              go_ret
              exact ⟨rfl, F.out⟩
end Go.Proofs.Ytpcmppamkgkdlaa
