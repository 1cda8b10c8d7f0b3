/- The walk of LendingBroker. -/
import Derived.Test.YtdojgbpaheadnaaGreatQMB
import Derived.Test.YtdojgbpaheadnaaGreatQLX
import Derived.Test.YtdojgbpaheadnaaGreatQSN
import Derived.Test.YtdojgbpaheadnaaGreatQRS
import Derived.Deep.CutBlock
set_option linter.unusedVariables false
set_option linter.unusedSimpArgs false

namespace Go.Proofs.YtdojgbpaheadnaaGreat
open Go.RowKit Go.Shelf Go.Maps

theorem tn_rowB (w : World) (g : Nat) (cs : Array Value) : Tn (fun j => j = g) w (w.setRow g cs) :=
  ⟨rfl, rfl, rfl, by show _ ≤ (w.heap.modify g _).size; rw [Array.size_modify]; exact Nat.le_refl _, fun k _ hn => setRow_other _ _ _ _ (by omega)⟩
theorem encB_all (m : Msg) : (encM m).all (·.oneCell') = true := by unfold encM strV; simp [Value.oneCell']
theorem encB_inf (m : Msg) : (Tryz.prog.info? 31).map (·.size) = some (encM m).size := by
  rw [show (encM m).size = 4 from rfl]; kernel_rfl
/-- The message of a round, and both brokers. -/
def MsgB (B b rb k vb : Nat) (w : World) : Prop :=
  ∃ m s, Blk w vb (encM m) 31 ∧ m.text.length ≤ 1000 ∧ I64 m.frm ∧ BBo B b rb (2 * k) (fun j => j = vb) s w
theorem MsgB.up {B b rb k vb : Nat} {w w' : World} (h : MsgB B b rb k vb w) (hb : Below w.heap.size w w') : MsgB B b rb k vb w' := by
  obtain ⟨m, s, h1, h2, h3, h4⟩ := h
  exact ⟨m, s, h1.below hb h1.lt, h2, h3, h4.up hb⟩
/-- Its text is another. -/
theorem MsgB.text {B b rb k vb : Nat} {w : World} {m : Msg} {s : Brk} {x : List UInt8} (h1 : Blk w vb (encM m) 31) (hx : x.length ≤ 1000) (h3 : I64 m.frm) (h4 : BBo B b rb (2 * k) (fun j => j = vb) s w) : MsgB B b rb k vb (w.setCell ⟨vb, 3, none⟩ (strV x)) :=
  ⟨{ m with text := x }, s, (h1.set 3 (strV x)).cast rfl, hx, h3, h4.set ((Tn.refl (fun j => j = vb) w).setCell (p := ⟨vb, 3, none⟩) (.inl rfl) _)⟩
theorem InA6.act {w : World} {ba oa : Nat} {L : List Act6} {cap : Nat} (h : InA6 w (some ⟨ba, oa, none⟩) L cap) (k : Nat) (hk : k < L.length) : Act6At w ba (oa + k * 6) L[k] ∧ ba < w.heap.size := by
  obtain ⟨b, o, e, h1, h2⟩ := h.get k hk
  injection e with e
  injection e with e1 e2
  subst e1 e2
  exact ⟨h2, h1⟩
set_option maxRecDepth 100000 in
set_option maxHeartbeats 16000000 in
theorem brokerLaw (L : List Act6) (bs : List Int) (a a2 : Option Addr) (cap cap2 : Nat) (w : World) (h : InA6 w a L cap) (h2 : U8 w a2 bs cap2) (hc2 : bs.length ≤ cap2 ∧ cap2 ≤ 9223372036854775807) :
    Calls Tryz.prog 3 #[.slice a L.length cap, .slice a2 bs.length cap2] w fun r w' => r = .returned (.bool true) ∧ Below w.heap.size w w' := by
  obtain ⟨i0, hi, hz1, hz2, hz3⟩ := info_parts info3
  have hcap := h.cap
  have hlen := h.len
  have hblen := h2.len
  have HA0 := Lib.hid h
  have HU0 := Lib.hid h2
  clear h h2
  go_enter Tryz.func3, Tryz.ntmps3
  go_wp2_with fail
  refine (sanity_any w).mono ?_
  rintro e w0 ⟨rfl, hb0⟩
  have HA := Lib.hid (HA0.out.below hb0 (Nat.le_refl _))
  have HU := Lib.hid (HU0.out.below hb0 (Nat.le_refl _))
  have B0 := Lib.hid hb0
  clear hb0 HA0 HU0
  go_upto_block 0 with fail
  go_cut [6] from 14 to 32 (fun s6 W => ∃ (D : List Int) (lv2 : Value), s6 = lv2 ∧ D.length ≤ 8 ∧ (∀ x ∈ D, I64 x) ∧ W.ownsRow w0.heap.size 3 1 lv2 D.length (D.map (Value.int .i64)) ∧ Below w0.heap.size w0 W)
  case first =>
    go_wp2_with fail
    go_loopw [6, 7] (fun v i wr => ∃ (k : Nat) (D : List Int) (lv2 : Value), k ≤ bs.length ∧ k ≤ 8 ∧ i = .int .i64 k ∧ D.length = k ∧ lv2 = v ∧ (∀ x ∈ D, I64 x) ∧ wr.ownsRow w0.heap.size 3 1 lv2 D.length (D.map (Value.int .i64)) ∧ Below w0.heap.size w0 wr) (fun _ i _ => 8 - (intOf i).toNat)
    case atStart => exact ⟨0, [], _, Nat.zero_le _, by omega, rfl, rfl, rfl, (fun x hx => by cases hx), World.ownsRow_nil _ _ _ _, Below.refl _ _⟩
    case round =>
      obtain ⟨k, D, v, hk, hk8, rfl, hDk, rfl, hD64, hr, hb⟩ := hrel
      have R := Lib.hid hr
      have BB := Lib.hid hb
      have HD := Lib.hid (And.intro hDk hD64)
      clear hr hb hDk hD64
      by_cases hgo : k < bs.length ∧ k < 8
      · obtain ⟨hlt, h8⟩ := hgo
        obtain ⟨b2, o2, rfl, hbl2, hcell⟩ := (HU.out.below BB.out (Nat.le_refl _)).at_.resolve_left (fun e => by rw [e] at hlt; simp at hlt)
        have hc := hcell k hlt
        have hbd := HU.out.bd k hlt
        obtain ⟨y, hy⟩ : ∃ y, y = bs.getD k 0 := ⟨_, rfl⟩
        rw [← hy] at hc hbd
        obtain ⟨va, vc, rfl, -⟩ := row_cellz R.out
        have N1 : RowKit.Hid (Blk (wr.alloc (.cells #[i64 (y % 6)] 3)) wr.heap.size #[i64 (y % 6)] 3) := Lib.hid (Blk.new _ _ _)
        have R1 : RowKit.Hid ((wr.alloc (.cells #[i64 (y % 6)] 3)).ownsRow w0.heap.size 3 1 (.slice va D.length vc) D.length (D.map (Value.int .i64))) := Lib.hid (R.out.alloc _)
        have B1 : RowKit.Hid (Below w0.heap.size w0 (wr.alloc (.cells #[i64 (y % 6)] 3))) := Lib.hid (BB.out.alloc BB.out.size _)
        have hD8 : D.length ≤ 8 := by have := HD.out.1; omega
        have HY : RowKit.Hid (I64 (y % 6)) := Lib.hid ⟨by omega, by omega⟩
        clear hcell hy
        go_wp2_with (first
          | (refine wpList_append_all rfl (.tmp 24) (.tmp 31) 25 rfl w0.heap.size 3 i0 (.int .i64 0) 1 8 Tryz.underlying25 hi hz1 hz2 hz3 rfl (by omega) _ D.length (D.map (Value.int .i64)) rfl R1.out 1 [i64 (y % 6)] _ rfl (.inr ⟨_, _, rfl, rfl, blk_news N1.out⟩) (fun u hu => by simp at hu; rw [hu]; rfl) (by unfold maxLen; omega) (by omega) B1.out.size ?_
             intro v6 w6 hown6 hg6 hat6
             have B6 : RowKit.Hid (Below w0.heap.size w0 w6) := Lib.hid (B1.out.grown hg6 B1.out.size (fun j e => (row_lt R1.out j e).1))
             have R6 : RowKit.Hid (w6.ownsRow w0.heap.size 3 1 v6 (D ++ [y % 6]).length ((D ++ [y % 6]).map (Value.int .i64))) := Lib.hid (by rw [List.length_append, List.map_append]; exact hown6)
             clear hown6 hg6 hat6))
        exact ⟨⟨k + 1, D ++ [y % 6], _, hlt, h8, by go_num, by rw [List.length_append, HD.out.1]; rfl, rfl, fun x hx => by
          rcases List.mem_append.1 hx with hx | hx
          · exact HD.out.2 x hx
          · rw [List.mem_singleton.1 hx]; exact HY.out, R6.out, B6.out⟩, by simp [intOf]; omega⟩
      · have hend : k = bs.length ∨ (k < bs.length ∧ k = 8) := by omega
        clear hgo
        rcases hend with rfl | ⟨hlt0, rfl⟩
        · go_wp2_with fail
          go_meet
          case rel => exact ⟨D, v, rfl, by have := HD.out.1; omega, HD.out.2, R.out, BB.out⟩
        · go_wp2_with fail
          go_meet
          case rel => exact ⟨D, v, rfl, by have := HD.out.1; omega, HD.out.2, R.out, BB.out⟩
  case rest =>
    obtain ⟨D, lv2, rfl, hD8, hD64, hrow, hbw⟩ := hcut
    obtain ⟨wl, hwl⟩ : ∃ wl, wl = wc := ⟨_, rfl⟩
    subst hwl
    have R := Lib.hid hrow
    have BB := Lib.hid hbw
    have HD := Lib.hid hD64
    obtain ⟨va, vc, rfl, hvc1, hvc2, -, hva⟩ := row_cellz hrow
    have hvcap : vc ≤ 9223372036854775807 := by unfold maxLen at hvc2; omega
    have HVA := Lib.hid hva
    clear hrow hbw hD64 hvc2 hva
    go_wp2_with fail
    refine (newBroker_any 0 ⟨by omega, by omega⟩ D (by omega) HD.out _ _ wl R.out).mono ?_
    rintro e w1 ⟨b, rv, o, rfl, hM, hb⟩
    have M1 := Lib.hid hM
    have T1 := Lib.hid hb
    have R1 := Lib.hid ((Tn.of_below (F := fun _ => False) hb).row R.out fun _ _ => id)
    clear hM hb
    go_wp2_with fail
    refine (rbnew_any 0 ⟨by omega, by omega⟩ D (by omega) HD.out _ _ w1 R1.out).mono ?_
    rintro e w2 ⟨rb, rv2, rfl, hRM, hb⟩
    have BO : RowKit.Hid (BBo w0.heap.size b rb 0 (fun j => (Value.slice va D.length vc).ownBlock = some j) ⟨0, 0, D, []⟩ w2) := Lib.hid
      ⟨_, _, _, _, _, _, _, _, _, M1.out.up hb, hRM, fun j h1 h2 => by have := (M1.out.olt j h1).2; have := (hRM.own_lt h2).1; omega, BB.out.size, Nat.le_trans BB.out.size T1.out.size, fun j hj => by
        have h3 := (row_lt R.out j hj).2
        refine ⟨?_, fun e => by have := (hRM.own_lt e).1; have := T1.out.size; omega, Nat.lt_of_lt_of_le h3 (Nat.le_trans T1.out.size hb.size)⟩
        rcases Nat.eq_zero_or_pos (o j) with h0 | h0
        · exact h0
        · have := (M1.out.olt j (by omega)).1; omega⟩
    have B2 : RowKit.Hid (Below w0.heap.size w0 w2) := Lib.hid (BB.out.trans ((T1.out.trans (hb.mono T1.out.size)).mono BB.out.size))
    have R2 : RowKit.Hid (w2.ownsRow w0.heap.size 3 1 (.slice va D.length vc) D.length (D.map (Value.int .i64))) := Lib.hid ((Tn.of_below (F := fun _ => False) hb).row R1.out fun _ _ => id)
    clear hRM hb M1 T1 R1 BB R
    go_wp2_with fail
    go_loopw [10] (fun i wr => ∃ (k : Nat) (xs : List Value), k ≤ D.length ∧ i = .int .i64 k ∧ wr.ownsRow w0.heap.size 3 1 (.slice va D.length vc) D.length xs ∧ BBo w0.heap.size b rb 0 (fun j => (Value.slice va D.length vc).ownBlock = some j) ⟨0, 0, D, []⟩ wr ∧ Below w0.heap.size w0 wr) (fun i _ => D.length - (intOf i).toNat)
    case atStart => exact ⟨0, _, Nat.zero_le _, rfl, R2.out, BO.out, B2.out⟩
    case round =>
      obtain ⟨k, xs, hk, rfl, hr, hbo, hb⟩ := hrel
      have R := Lib.hid hr
      have BO := Lib.hid hbo
      have BB := Lib.hid hb
      clear hr hbo hb B2 R2
      by_cases hlt : k < D.length
      · obtain ⟨g, rfl, hgo, hgB, -⟩ := HVA.out.resolve_left (fun h => by omega)
        have fz := World.ownsRow.frozenAt R.out k
        obtain ⟨u, hu⟩ : ∃ u, wr.cell? ⟨g, k, none⟩ = some u := by
          obtain ⟨a', c', e', _, _, hx, ⟨h0, _⟩ | ⟨g', h1, _, _, _, hc⟩⟩ := row_cellz R.out
          · omega
          · subst h1; injection e' with e'; injection e' with e'; injection e' with e'; subst e'
            exact ⟨_, hc k xs[k] (List.getElem?_eq_getElem (by omega))⟩
        have F : RowKit.Hid ((wr.setCell ⟨g, k, none⟩ (i64 77)).ownsRow w0.heap.size 3 1 (.slice (some ⟨g, 0, none⟩) D.length vc) D.length (xs.set k (i64 77)) ∧ BBo w0.heap.size b rb 0 (fun j => (Value.slice (some ⟨g, 0, none⟩) D.length vc).ownBlock = some j) ⟨0, 0, D, []⟩ (wr.setCell ⟨g, k, none⟩ (i64 77)) ∧ Below w0.heap.size w0 (wr.setCell ⟨g, k, none⟩ (i64 77))) := Lib.hid
          ⟨(R.out.stored _ _).1, BO.out.set ((Tn.refl _ wr).setCell (p := ⟨g, k, none⟩) (.inl hgo) _), BB.out.setCell (p := ⟨g, k, none⟩) hgB _⟩
        clear hgo hgB
        go_wp2_with fail
        exact ⟨⟨k + 1, _, hlt, by go_num, F.out⟩, by simp [intOf]; omega⟩
      · have hk2 : k = D.length := by omega
        subst hk2
        have BO2 : RowKit.Hid (BBo w0.heap.size b rb 0 (fun _ => False) ⟨0, 0, D, []⟩ wr) := Lib.hid (BO.out.weak fun _ h => h.elim)
        obtain ⟨wm, hwm⟩ : ∃ wm, wm = wr := ⟨_, rfl⟩
        subst hwm
        clear hlt hk R BO
        go_wp2_with fail
        go_loopw [11] (fun i wr => ∃ (k : Nat) (s : Brk), k ≤ L.length ∧ k ≤ 60 ∧ i = .int .i64 k ∧ BBo w0.heap.size b rb (2 * k) (fun _ => False) s wr ∧ Below w0.heap.size w0 wr) (fun i _ => 60 - (intOf i).toNat)
        case atStart => exact ⟨0, _, Nat.zero_le _, by omega, rfl, BO2.out, BB.out⟩
        case round =>
          obtain ⟨k, s0, hk, hk6, rfl, hBo, hb⟩ := hrel
          have BO := Lib.hid hBo
          have BB := Lib.hid hb
          clear hBo hb BO2
          by_cases hgo : k < L.length ∧ k < 60
          · obtain ⟨hlt, h6⟩ := hgo
            obtain ⟨ba, oa, rfl, hbal, hact⟩ := (HA.out.below BB.out (Nat.le_refl _)).get k hlt
            obtain ⟨c, hc⟩ : ∃ c, c = L[k] := ⟨_, rfl⟩
            rw [← hc] at hact
            have AC := Lib.hid hact
            obtain ⟨a0, a1, a2c, a3, a4, a5⟩ := hact
            have HCQ := Lib.hid hc
            clear hc
            go_wp2_with fail
            refine (message_any c.k c.f c.t c.a c.r c.v 0 _ ⟨by omega, by omega⟩).mono ?_
            rintro e w4 ⟨m, rfl, hmt, hmf, hb4⟩
            have NB : RowKit.Hid (Blk (w4.alloc (.cells #[i64 0, i64 0, i64 0, .string { data := #[] }] 31)) w4.heap.size #[i64 0, i64 0, i64 0, .string { data := #[] }] 31) := Lib.hid (Blk.new _ _ _)
            obtain ⟨w5, hw5⟩ : ∃ w5, w5 = (w4.alloc (.cells #[i64 0, i64 0, i64 0, .string { data := #[] }] 31)).setRow w4.heap.size (encM m) := ⟨_, rfl⟩
            have K5 : Below w4.heap.size w4 w5 := by rw [hw5]; exact belowS ((Below.refl _ _).alloc (Nat.le_refl _) _) (Nat.le_refl _)
            obtain ⟨vb, hvb⟩ : ∃ vb, vb = w4.heap.size := ⟨_, rfl⟩
            have V5 : RowKit.Hid (Blk w5 vb (encM m) 31) := Lib.hid (by rw [hw5, hvb]; exact setRow_heap _ _ _ _ _ _ NB.out)
            have BO5 : RowKit.Hid (BBo w0.heap.size b rb (2 * k) (fun j => j = vb) s0 w5) := Lib.hid ((BO.out.up hb4).new K5 (Nat.le_of_eq hvb.symm) V5.out.lt)
            have B5 : RowKit.Hid (Below w0.heap.size w0 w5) := Lib.hid ((BB.out.trans (hb4.mono BB.out.size)).trans (K5.mono (Nat.le_trans BB.out.size hb4.size)))
            have A5 : RowKit.Hid (Act6At w5 ba (oa + k * 6) c) := Lib.hid ((AC.out.below hb4 hbal).below K5 (Nat.lt_of_lt_of_le hbal hb4.size))
            have MS5 : RowKit.Hid (MsgB w0.heap.size b rb k vb w5) := Lib.hid ⟨m, s0, V5.out, by omega, ⟨by omega, by omega⟩, BO5.out⟩
            have hvB : w0.heap.size ≤ vb := by rw [hvb]; exact Nat.le_trans BB.out.size hb4.size
            have HW5 := Lib.hid hw5
            have HVB := Lib.hid hvb
            clear hb4 hmt hmf K5 hw5 hvb a0 a1 a2c a3 a4 a5 hbal BO BB AC V5 BO5
            have a5 := A5.out.2.2.2.2.2
            go_upto_if 69 with (refine wpList_store_row rfl 31 (.tmp 12) (.tmp 62) rfl w4.heap.size (encM m) rfl rfl 31 _ NB.out (encB_inf m) rfl (encB_all m) ?_; rw [← HW5.out, ← HVB.out])
            go_cut [] from 66 to 87 (fun W => MsgB w0.heap.size b rb k vb W ∧ Below w0.heap.size w0 W)
            case first =>
              by_cases h1 : (c.v.tmod 4 == 1) = true
              · go_wp2_with fail
                obtain ⟨m', s', hV, ht', hf', hBO⟩ := MS5.out
                have V5 := Lib.hid hV
                have BO5 := Lib.hid hBO
                have HF := Lib.hid hf'
                obtain ⟨S, hS⟩ : ∃ S : World → Prop, S = fun W => Below w5.heap.size w5 W := ⟨_, rfl⟩
                have LD : RowKit.Hid (∀ W, S W → W.cell? ⟨vb, 0, none⟩ = some (i64 m'.frm) ∧ W.cell? ⟨ba, oa + k * 6 + 4, none⟩ = some (i64 c.r) ∧ W.cell? ⟨ba, oa + k * 6 + 5, none⟩ = some (i64 c.v)) := Lib.hid (by
                  rw [hS]; exact fun W h => ⟨Below.cellE h (V5.out.cell 0), Below.cellE h A5.out.2.2.2.2.1, Below.cellE h A5.out.2.2.2.2.2⟩)
                have UU : RowKit.Hid (∀ W, Below w5.heap.size w5 W → S W) := Lib.hid (by rw [hS]; exact fun W h => h)
                have hHeld := UU.out _ (Below.refl w5.heap.size w5).drew
                have hwr : IntKind.i64.wrap (1 + c.r % 4) = 1 + c.r % 4 := by rw [IntKind.wrap_i64]; omega
                have hwv : IntKind.i64.wrap (1 + c.v % 5) = 1 + c.v % 5 := by rw [IntKind.wrap_i64]; omega
                obtain ⟨X, hX⟩ : ∃ X, X = txt 1 m'.frm (1 + c.r % 4) (1 + c.v % 5) := ⟨_, rfl⟩
                have HX := Lib.hid hX
                have HXL : RowKit.Hid (X.length ≤ 1000) := Lib.hid (by
                  rw [hX]; refine Nat.le_trans (txt_short ⟨⟨?_, ?_⟩, HF.out, ⟨?_, ?_⟩, ⟨?_, ?_⟩⟩) (by omega) <;> dsimp only <;> omega)
                clear hS hX hV ht' hf' hBO a5
                refine wp_region_sp 18 S (by kernel_rfl) (by kernel_rfl) ?_
                simp only [List.take_succ_cons, List.take_zero]
                apply wpAnyH_apart (fun W => Below w5.heap.size w5 W)
                case take =>
                  intro R hR
                  refine wpAnyH_take (i := 0) (v := ?_) rfl (by kernel_rfl) (by kernel_rfl) (by kernel_rfl) (fun _ _ _ h => only_panic h) (Or.inl ⟨by rfl, ?_⟩) hHeld ?_
                  rotate_left
                  · (intro w hSw; obtain ⟨l0, l1, l2⟩ := LD.out w hSw; go_simp; try (with_reducible rfl))
                  try simp only [gA, gB, gC, Act.put, gD, gE, gF]
                  refine wpAnyH_take (i := 1) (v := ?_) rfl (by kernel_rfl) (by kernel_rfl) (by kernel_rfl) (fun _ _ _ h => only_panic h) (Or.inl ⟨by rfl, ?_⟩) hHeld ?_
                  rotate_left
                  · (intro w hSw; obtain ⟨l0, l1, l2⟩ := LD.out w hSw; go_simp; try (with_reducible rfl))
                  try simp only [gA, gB, gC, Act.put, gD, gE, gF]
                  refine wpAnyH_take (i := 2) (v := ?_) rfl (by kernel_rfl) (by kernel_rfl) (by kernel_rfl) (fun _ _ _ h => only_panic h) (Or.inl ⟨by rfl, ?_⟩) hHeld ?_
                  rotate_left
                  · (intro w hSw; obtain ⟨l0, l1, l2⟩ := LD.out w hSw; go_simp; try (with_reducible rfl))
                  try simp only [gA, gB, gC, Act.put, gD, gE, gF]
                  refine wpAnyH_take (i := 3) (v := ?_) rfl (by kernel_rfl) (by kernel_rfl) (by kernel_rfl) (fun _ _ _ h => only_panic h) (Or.inl ⟨by rfl, ?_⟩) hHeld ?_
                  rotate_left
                  · (intro w hSw; obtain ⟨l0, l1, l2⟩ := LD.out w hSw; go_simp; try (with_reducible rfl))
                  try simp only [gA, gB, gC, Act.put, gD, gE, gF]
                  refine wpAnyH_take (i := 4) (v := ?_) rfl (by kernel_rfl) (by kernel_rfl) (by kernel_rfl) (fun _ _ _ h => only_panic h) (Or.inl ⟨by rfl, ?_⟩) hHeld ?_
                  rotate_left
                  · (intro w hSw; obtain ⟨l0, l1, l2⟩ := LD.out w hSw; go_simp; try (with_reducible rfl))
                  try simp only [gA, gB, gC, Act.put, gD, gE, gF]
                  refine wpAnyH_take (i := 5) (v := ?_) rfl (by kernel_rfl) (by kernel_rfl) (by kernel_rfl) (fun _ _ _ h => only_panic h) (Or.inl ⟨by rfl, ?_⟩) hHeld ?_
                  rotate_left
                  · (intro w hSw; obtain ⟨l0, l1, l2⟩ := LD.out w hSw; go_simp; try (with_reducible rfl))
                  try simp only [gA, gB, gC, Act.put, gD, gE, gF]
                  refine wpAnyH_take (i := 6) (v := ?_) rfl (by kernel_rfl) (by kernel_rfl) (by kernel_rfl) (fun _ _ _ h => only_panic h) (Or.inl ⟨by rfl, ?_⟩) hHeld ?_
                  rotate_left
                  · (intro w hSw; obtain ⟨l0, l1, l2⟩ := LD.out w hSw; go_simp; try (with_reducible rfl))
                  try simp only [gA, gB, gC, Act.put, gD, gE, gF]
                  refine wpAnyH_take (i := 9) (v := ?_) rfl (by kernel_rfl) (by kernel_rfl) (by kernel_rfl) (fun _ _ _ h => only_panic h) (Or.inl ⟨by rfl, ?_⟩) hHeld ?_
                  rotate_left
                  · (intro w hSw; obtain ⟨l0, l1, l2⟩ := LD.out w hSw; go_simp; try (with_reducible rfl))
                  try simp only [gA, gB, gC, Act.put, gD, gE, gF]
                  refine wpAnyH_take (i := 10) (v := ?_) rfl (by kernel_rfl) (by kernel_rfl) (by kernel_rfl) (fun _ _ _ h => only_panic h) (Or.inl ⟨by rfl, ?_⟩) hHeld ?_
                  rotate_left
                  · (intro w hSw; obtain ⟨l0, l1, l2⟩ := LD.out w hSw; go_simp; try (with_reducible rfl))
                  try simp only [gA, gB, gC, Act.put, gD, gE, gF]
                  refine wpAnyH_take (i := 11) (v := ?_) rfl (by kernel_rfl) (by kernel_rfl) (by kernel_rfl) (fun _ _ _ h => only_panic h) (Or.inl ⟨by rfl, ?_⟩) hHeld ?_
                  rotate_left
                  · (intro w hSw; obtain ⟨l0, l1, l2⟩ := LD.out w hSw; go_simp; try (with_reducible rfl))
                  try simp only [gA, gB, gC, Act.put, gD, gE, gF]
                  refine wpAnyH_take (i := 12) (v := ?_) rfl (by kernel_rfl) (by kernel_rfl) (by kernel_rfl) (fun _ _ _ h => only_panic h) (Or.inl ⟨by rfl, ?_⟩) hHeld ?_
                  rotate_left
                  · (intro w hSw; obtain ⟨l0, l1, l2⟩ := LD.out w hSw; go_simp; try (with_reducible rfl))
                  try simp only [gA, gB, gC, Act.put, gD, gE, gF]
                  refine wpAnyH_take (i := 13) (v := ?_) rfl (by kernel_rfl) (by kernel_rfl) (by kernel_rfl) (fun _ _ _ h => only_panic h) (Or.inl ⟨by rfl, ?_⟩) hHeld ?_
                  rotate_left
                  · (intro w hSw; obtain ⟨l0, l1, l2⟩ := LD.out w hSw; go_simp; try (with_reducible rfl))
                  try simp only [gA, gB, gC, Act.put, gD, gE, gF]
                  refine wpAnyH_one (i := 7) rfl (by kernel_rfl) (by rfl) ?_
                  go_simp
                  refine (mod_any c.r 4 _ (by omega) (by omega)).mono ?_
                  rintro e W1 ⟨rfl, rfl⟩
                  refine ⟨hHeld, ?_⟩
                  refine wpAnyH_take (i := 8) (v := ?_) rfl (by kernel_rfl) (by kernel_rfl) (by kernel_rfl) (fun _ _ _ h => only_panic h) (Or.inl ⟨by rfl, ?_⟩) hHeld ?_
                  rotate_left
                  · (intro w hSw; clear hSw; go_simp; try (with_reducible rfl))
                  try simp only [gA, gB, gC, Act.put, gD, gE, gF]
                  refine wpAnyH_one (i := 14) rfl (by kernel_rfl) (by rfl) ?_
                  go_simp
                  refine (mod_any c.v 5 _ (by omega) (by omega)).mono ?_
                  rintro e W1 ⟨rfl, rfl⟩
                  refine ⟨hHeld, ?_⟩
                  refine wpAnyH_take (i := 15) (v := ?_) rfl (by kernel_rfl) (by kernel_rfl) (by kernel_rfl) (fun _ _ _ h => only_panic h) (Or.inl ⟨by rfl, ?_⟩) hHeld ?_
                  rotate_left
                  · (intro w hSw; clear hSw; go_simp; try (with_reducible rfl))
                  try simp only [gA, gB, gC, Act.put, gD, gE, gF]
                  refine wpAnyH_one (i := 16) rfl (by kernel_rfl) (by rfl) ?_
                  go_simp
                  refine (text_any 1 m'.frm (1 + c.r % 4) (1 + c.v % 5) _ ⟨by omega, by omega⟩ HF.out ⟨by omega, by omega⟩ ⟨by omega, by omega⟩).mono ?_
                  rw [← HX.out]
                  rintro e W3 ⟨rfl, hb⟩
                  have B3 := Lib.hid ((Below.refl w5.heap.size w5).drew.trans hb)
                  have hHeld := UU.out _ B3.out
                  clear hb
                  refine ⟨hHeld, ?_⟩
                  refine wpAnyH_take (i := 17) (v := ?_) rfl (by kernel_rfl) (by kernel_rfl) (by kernel_rfl) (fun _ _ _ h => only_panic h) (Or.inl ⟨by rfl, ?_⟩) hHeld ?_
                  rotate_left
                  · (intro w hSw; clear hSw; go_simp; try (with_reducible rfl))
                  try simp only [gA, gB, gC, Act.put, gD, gE, gF]
                  exact wpAnyH_done (by kernel_rfl) ⟨rfl, hR _ B3.out⟩ _
                rintro W hW
                have V6 := V5.out.below hW V5.out.lt
                have fz : W.frozen? ⟨vb, 3, none⟩ = false := V6.frozen 3
                have cz : W.cell? ⟨vb, 3, none⟩ = some (strV m'.text) := V6.cell 3
                have FF : RowKit.Hid (MsgB w0.heap.size b rb k vb (W.setCell ⟨vb, 3, none⟩ (strV X)) ∧ Below w0.heap.size w0 (W.setCell ⟨vb, 3, none⟩ (strV X))) := Lib.hid
                  ⟨MsgB.text V6 HXL.out HF.out (BO5.out.up hW), (B5.out.trans (hW.mono B5.out.size)).setCell (p := ⟨vb, 3, none⟩) hvB _⟩
                clear hW V6
                simp only [endN, List.drop_succ_cons, List.drop_zero, Act.put, List.setIfInBounds_toArray, List.set_cons_zero, List.set_cons_succ]
                go_wp2_with fail
                go_meet
                case rel => exact FF.out
              · have h1 : (c.v.tmod 4 == 1) = false := by simpa using h1
                go_wp2_with fail
                go_meet
                case rel => exact ⟨MS5.out, B5.out⟩
            case rest =>
              obtain ⟨w6, hw6⟩ : ∃ w6, w6 = wc := ⟨_, rfl⟩
              subst hw6
              have MS6 := Lib.hid hcut.1
              have B6 := Lib.hid hcut.2
              have A6 : RowKit.Hid (Act6At w6 ba (oa + k * 6) c) := Lib.hid (by
                have := ((HA.out.below B6.out (Nat.le_refl _)).act k hlt).1
                rw [← HCQ.out] at this; exact this)
              clear hcut a5 MS5 B5 A5 NB HW5
              have a5 := A6.out.2.2.2.2.2
              go_upto_if 94 with fail
              go_cut [] from 91 to 118 (fun W => MsgB w0.heap.size b rb k vb W ∧ Below w0.heap.size w0 W)
              case first =>
                by_cases h1 : (c.v.tmod 4 == 2) = true
                · go_wp2_with fail
                  obtain ⟨m', s', hV, ht', hf', hBO⟩ := MS6.out
                  have V6 := Lib.hid hV
                  have BO6 := Lib.hid hBO
                  have HF := Lib.hid hf'
                  obtain ⟨S, hS⟩ : ∃ S : World → Prop, S = fun W => Below w6.heap.size w6 W := ⟨_, rfl⟩
                  have LD : RowKit.Hid (∀ W, S W → W.cell? ⟨ba, oa + k * 6, none⟩ = some (i64 c.k) ∧ W.cell? ⟨ba, oa + k * 6 + 3, none⟩ = some (i64 c.a) ∧ W.cell? ⟨ba, oa + k * 6 + 4, none⟩ = some (i64 c.r)) := Lib.hid (by
                    rw [hS]; exact fun W h => ⟨Below.cellE h A6.out.1, Below.cellE h A6.out.2.2.2.1, Below.cellE h A6.out.2.2.2.2.1⟩)
                  have UU : RowKit.Hid (∀ W, Below w6.heap.size w6 W → S W) := Lib.hid (by rw [hS]; exact fun W h => h)
                  have hHeld := UU.out _ (Below.refl w6.heap.size w6).drew
                  have hwr : IntKind.i64.wrap (1 + c.r % 4) = 1 + c.r % 4 := by rw [IntKind.wrap_i64]; omega
                  have hwa : IntKind.i64.wrap (1 + c.a % 3) = 1 + c.a % 3 := by rw [IntKind.wrap_i64]; omega
                  clear hS hV ht' hf' hBO a5
                  rcases (by omega : c.k % 3 = 0 ∨ c.k % 3 = 1 ∨ c.k % 3 = 2) with hq | hq | hq
                  · have HQ := Lib.hid hq
                    clear hq
                    obtain ⟨X, hX⟩ : ∃ X, X = txt 3 (1 + c.a % 3) (1 + c.r % 4) 0 := ⟨_, rfl⟩
                    have HX := Lib.hid hX
                    have HXL : RowKit.Hid (X.length ≤ 1000) := Lib.hid (by
                      rw [hX]; refine Nat.le_trans (txt_short ⟨⟨?_, ?_⟩, ⟨?_, ?_⟩, ⟨?_, ?_⟩, ⟨?_, ?_⟩⟩) (by omega) <;> dsimp only <;> omega)
                    clear hX
                    refine wp_region_sp 24 S (by kernel_rfl) (by kernel_rfl) ?_
                    simp only [List.take_succ_cons, List.take_zero]
                    apply wpAnyH_apart (fun W => Below w6.heap.size w6 W)
                    case take =>
                      intro R hR
                      refine wpAnyH_take (i := 0) (v := ?_) rfl (by kernel_rfl) (by kernel_rfl) (by kernel_rfl) (fun _ _ _ h => only_panic h) (Or.inl ⟨by rfl, ?_⟩) hHeld ?_
                      rotate_left
                      · (intro w hSw; obtain ⟨l0, l1, l2⟩ := LD.out w hSw; go_simp; try (with_reducible rfl))
                      try simp only [gA, gB, gC, Act.put, gD, gE, gF]
                      refine wpAnyH_take (i := 1) (v := ?_) rfl (by kernel_rfl) (by kernel_rfl) (by kernel_rfl) (fun _ _ _ h => only_panic h) (Or.inl ⟨by rfl, ?_⟩) hHeld ?_
                      rotate_left
                      · (intro w hSw; obtain ⟨l0, l1, l2⟩ := LD.out w hSw; go_simp; try (with_reducible rfl))
                      try simp only [gA, gB, gC, Act.put, gD, gE, gF]
                      refine wpAnyH_take (i := 2) (v := ?_) rfl (by kernel_rfl) (by kernel_rfl) (by kernel_rfl) (fun _ _ _ h => only_panic h) (Or.inl ⟨by rfl, ?_⟩) hHeld ?_
                      rotate_left
                      · (intro w hSw; obtain ⟨l0, l1, l2⟩ := LD.out w hSw; go_simp; try (with_reducible rfl))
                      try simp only [gA, gB, gC, Act.put, gD, gE, gF]
                      refine wpAnyH_take (i := 3) (v := ?_) rfl (by kernel_rfl) (by kernel_rfl) (by kernel_rfl) (fun _ _ _ h => only_panic h) (Or.inl ⟨by rfl, ?_⟩) hHeld ?_
                      rotate_left
                      · (intro w hSw; obtain ⟨l0, l1, l2⟩ := LD.out w hSw; go_simp; try (with_reducible rfl))
                      try simp only [gA, gB, gC, Act.put, gD, gE, gF]
                      refine wpAnyH_take (i := 4) (v := ?_) rfl (by kernel_rfl) (by kernel_rfl) (by kernel_rfl) (fun _ _ _ h => only_panic h) (Or.inl ⟨by rfl, ?_⟩) hHeld ?_
                      rotate_left
                      · (intro w hSw; obtain ⟨l0, l1, l2⟩ := LD.out w hSw; go_simp; try (with_reducible rfl))
                      try simp only [gA, gB, gC, Act.put, gD, gE, gF]
                      refine wpAnyH_take (i := 8) (v := ?_) rfl (by kernel_rfl) (by kernel_rfl) (by kernel_rfl) (fun _ _ _ h => only_panic h) (Or.inl ⟨by rfl, ?_⟩) hHeld ?_
                      rotate_left
                      · (intro w hSw; obtain ⟨l0, l1, l2⟩ := LD.out w hSw; go_simp; try (with_reducible rfl))
                      try simp only [gA, gB, gC, Act.put, gD, gE, gF]
                      refine wpAnyH_take (i := 9) (v := ?_) rfl (by kernel_rfl) (by kernel_rfl) (by kernel_rfl) (fun _ _ _ h => only_panic h) (Or.inl ⟨by rfl, ?_⟩) hHeld ?_
                      rotate_left
                      · (intro w hSw; obtain ⟨l0, l1, l2⟩ := LD.out w hSw; go_simp; try (with_reducible rfl))
                      try simp only [gA, gB, gC, Act.put, gD, gE, gF]
                      refine wpAnyH_take (i := 10) (v := ?_) rfl (by kernel_rfl) (by kernel_rfl) (by kernel_rfl) (fun _ _ _ h => only_panic h) (Or.inl ⟨by rfl, ?_⟩) hHeld ?_
                      rotate_left
                      · (intro w hSw; obtain ⟨l0, l1, l2⟩ := LD.out w hSw; go_simp; try (with_reducible rfl))
                      try simp only [gA, gB, gC, Act.put, gD, gE, gF]
                      refine wpAnyH_take (i := 11) (v := ?_) rfl (by kernel_rfl) (by kernel_rfl) (by kernel_rfl) (fun _ _ _ h => only_panic h) (Or.inl ⟨by rfl, ?_⟩) hHeld ?_
                      rotate_left
                      · (intro w hSw; obtain ⟨l0, l1, l2⟩ := LD.out w hSw; go_simp; try (with_reducible rfl))
                      try simp only [gA, gB, gC, Act.put, gD, gE, gF]
                      refine wpAnyH_take (i := 12) (v := ?_) rfl (by kernel_rfl) (by kernel_rfl) (by kernel_rfl) (fun _ _ _ h => only_panic h) (Or.inl ⟨by rfl, ?_⟩) hHeld ?_
                      rotate_left
                      · (intro w hSw; obtain ⟨l0, l1, l2⟩ := LD.out w hSw; go_simp; try (with_reducible rfl))
                      try simp only [gA, gB, gC, Act.put, gD, gE, gF]
                      refine wpAnyH_take (i := 15) (v := ?_) rfl (by kernel_rfl) (by kernel_rfl) (by kernel_rfl) (fun _ _ _ h => only_panic h) (Or.inl ⟨by rfl, ?_⟩) hHeld ?_
                      rotate_left
                      · (intro w hSw; obtain ⟨l0, l1, l2⟩ := LD.out w hSw; go_simp; try (with_reducible rfl))
                      try simp only [gA, gB, gC, Act.put, gD, gE, gF]
                      refine wpAnyH_take (i := 16) (v := ?_) rfl (by kernel_rfl) (by kernel_rfl) (by kernel_rfl) (fun _ _ _ h => only_panic h) (Or.inl ⟨by rfl, ?_⟩) hHeld ?_
                      rotate_left
                      · (intro w hSw; obtain ⟨l0, l1, l2⟩ := LD.out w hSw; go_simp; try (with_reducible rfl))
                      try simp only [gA, gB, gC, Act.put, gD, gE, gF]
                      refine wpAnyH_take (i := 17) (v := ?_) rfl (by kernel_rfl) (by kernel_rfl) (by kernel_rfl) (fun _ _ _ h => only_panic h) (Or.inl ⟨by rfl, ?_⟩) hHeld ?_
                      rotate_left
                      · (intro w hSw; obtain ⟨l0, l1, l2⟩ := LD.out w hSw; go_simp; try (with_reducible rfl))
                      try simp only [gA, gB, gC, Act.put, gD, gE, gF]
                      refine wpAnyH_take (i := 18) (v := ?_) rfl (by kernel_rfl) (by kernel_rfl) (by kernel_rfl) (fun _ _ _ h => only_panic h) (Or.inl ⟨by rfl, ?_⟩) hHeld ?_
                      rotate_left
                      · (intro w hSw; obtain ⟨l0, l1, l2⟩ := LD.out w hSw; go_simp; try (with_reducible rfl))
                      try simp only [gA, gB, gC, Act.put, gD, gE, gF]
                      refine wpAnyH_take (i := 19) (v := ?_) rfl (by kernel_rfl) (by kernel_rfl) (by kernel_rfl) (fun _ _ _ h => only_panic h) (Or.inl ⟨by rfl, ?_⟩) hHeld ?_
                      rotate_left
                      · (intro w hSw; obtain ⟨l0, l1, l2⟩ := LD.out w hSw; go_simp; try (with_reducible rfl))
                      try simp only [gA, gB, gC, Act.put, gD, gE, gF]
                      refine wpAnyH_one (i := 5) rfl (by kernel_rfl) (by rfl) ?_
                      go_simp
                      refine (mod_any c.k 3 _ (by omega) (by omega)).mono ?_
                      rw [HQ.out]
                      rintro e W1 ⟨rfl, rfl⟩
                      refine ⟨hHeld, ?_⟩
                      refine wpAnyH_take (i := 6) (v := ?_) rfl (by kernel_rfl) (by kernel_rfl) (by kernel_rfl) (fun _ _ _ h => only_panic h) (Or.inl ⟨by rfl, ?_⟩) hHeld ?_
                      rotate_left
                      · (intro w hSw; clear hSw; go_simp; try (with_reducible rfl))
                      try simp only [gA, gB, gC, Act.put, gD, gE, gF]
                      refine wpAnyH_take (i := 7) (v := ?_) rfl (by kernel_rfl) (by kernel_rfl) (by kernel_rfl) (fun _ _ _ h => only_panic h) (Or.inl ⟨by rfl, ?_⟩) hHeld ?_
                      rotate_left
                      · (intro w hSw; clear hSw; go_simp; try (with_reducible rfl))
                      try simp only [gA, gB, gC, Act.put, gD, gE, gF]
                      refine wpAnyH_one (i := 13) rfl (by kernel_rfl) (by rfl) ?_
                      go_simp
                      refine (mod_any c.a 3 _ (by omega) (by omega)).mono ?_
                      rintro e W1 ⟨rfl, rfl⟩
                      refine ⟨hHeld, ?_⟩
                      refine wpAnyH_take (i := 14) (v := ?_) rfl (by kernel_rfl) (by kernel_rfl) (by kernel_rfl) (fun _ _ _ h => only_panic h) (Or.inl ⟨by rfl, ?_⟩) hHeld ?_
                      rotate_left
                      · (intro w hSw; clear hSw; go_simp; try (with_reducible rfl))
                      try simp only [gA, gB, gC, Act.put, gD, gE, gF]
                      refine wpAnyH_one (i := 20) rfl (by kernel_rfl) (by rfl) ?_
                      go_simp
                      refine (mod_any c.r 4 _ (by omega) (by omega)).mono ?_
                      rintro e W1 ⟨rfl, rfl⟩
                      refine ⟨hHeld, ?_⟩
                      refine wpAnyH_take (i := 21) (v := ?_) rfl (by kernel_rfl) (by kernel_rfl) (by kernel_rfl) (fun _ _ _ h => only_panic h) (Or.inl ⟨by rfl, ?_⟩) hHeld ?_
                      rotate_left
                      · (intro w hSw; clear hSw; go_simp; try (with_reducible rfl))
                      try simp only [gA, gB, gC, Act.put, gD, gE, gF]
                      refine wpAnyH_one (i := 22) rfl (by kernel_rfl) (by rfl) ?_
                      go_simp
                      refine (text_any 3 (1 + c.a % 3) (1 + c.r % 4) 0 _ ⟨by omega, by omega⟩ ⟨by omega, by omega⟩ ⟨by omega, by omega⟩ ⟨by omega, by omega⟩).mono ?_
                      rw [← HX.out]
                      rintro e W3 ⟨rfl, hb⟩
                      have B3 := Lib.hid ((Below.refl w6.heap.size w6).drew.trans hb)
                      have hHeld := UU.out _ B3.out
                      clear hb
                      refine ⟨hHeld, ?_⟩
                      refine wpAnyH_take (i := 23) (v := ?_) rfl (by kernel_rfl) (by kernel_rfl) (by kernel_rfl) (fun _ _ _ h => only_panic h) (Or.inl ⟨by rfl, ?_⟩) hHeld ?_
                      rotate_left
                      · (intro w hSw; clear hSw; go_simp; try (with_reducible rfl))
                      try simp only [gA, gB, gC, Act.put, gD, gE, gF]
                      exact wpAnyH_done (by kernel_rfl) ⟨rfl, hR _ B3.out⟩ _
                    rintro W hW
                    have V7 := V6.out.below hW V6.out.lt
                    have fz : W.frozen? ⟨vb, 3, none⟩ = false := V7.frozen 3
                    have cz : W.cell? ⟨vb, 3, none⟩ = some (strV m'.text) := V7.cell 3
                    have FF : RowKit.Hid (MsgB w0.heap.size b rb k vb (W.setCell ⟨vb, 3, none⟩ (strV X)) ∧ Below w0.heap.size w0 (W.setCell ⟨vb, 3, none⟩ (strV X))) := Lib.hid
                      ⟨MsgB.text V7 HXL.out HF.out (BO6.out.up hW), (B6.out.trans (hW.mono B6.out.size)).setCell (p := ⟨vb, 3, none⟩) hvB _⟩
                    clear hW V7
                    simp only [endN, List.drop_succ_cons, List.drop_zero, Act.put, List.setIfInBounds_toArray, List.set_cons_zero, List.set_cons_succ]
                    go_wp2_with fail
                    go_meet
                    case rel => exact FF.out
                  · have HQ := Lib.hid hq
                    clear hq
                    obtain ⟨X, hX⟩ : ∃ X, X = txt 3 (1 + c.a % 3) (1 + c.r % 4) 0 := ⟨_, rfl⟩
                    have HX := Lib.hid hX
                    have HXL : RowKit.Hid (X.length ≤ 1000) := Lib.hid (by
                      rw [hX]; refine Nat.le_trans (txt_short ⟨⟨?_, ?_⟩, ⟨?_, ?_⟩, ⟨?_, ?_⟩, ⟨?_, ?_⟩⟩) (by omega) <;> dsimp only <;> omega)
                    clear hX
                    refine wp_region_sp 24 S (by kernel_rfl) (by kernel_rfl) ?_
                    simp only [List.take_succ_cons, List.take_zero]
                    apply wpAnyH_apart (fun W => Below w6.heap.size w6 W)
                    case take =>
                      intro R hR
                      refine wpAnyH_take (i := 0) (v := ?_) rfl (by kernel_rfl) (by kernel_rfl) (by kernel_rfl) (fun _ _ _ h => only_panic h) (Or.inl ⟨by rfl, ?_⟩) hHeld ?_
                      rotate_left
                      · (intro w hSw; obtain ⟨l0, l1, l2⟩ := LD.out w hSw; go_simp; try (with_reducible rfl))
                      try simp only [gA, gB, gC, Act.put, gD, gE, gF]
                      refine wpAnyH_take (i := 1) (v := ?_) rfl (by kernel_rfl) (by kernel_rfl) (by kernel_rfl) (fun _ _ _ h => only_panic h) (Or.inl ⟨by rfl, ?_⟩) hHeld ?_
                      rotate_left
                      · (intro w hSw; obtain ⟨l0, l1, l2⟩ := LD.out w hSw; go_simp; try (with_reducible rfl))
                      try simp only [gA, gB, gC, Act.put, gD, gE, gF]
                      refine wpAnyH_take (i := 2) (v := ?_) rfl (by kernel_rfl) (by kernel_rfl) (by kernel_rfl) (fun _ _ _ h => only_panic h) (Or.inl ⟨by rfl, ?_⟩) hHeld ?_
                      rotate_left
                      · (intro w hSw; obtain ⟨l0, l1, l2⟩ := LD.out w hSw; go_simp; try (with_reducible rfl))
                      try simp only [gA, gB, gC, Act.put, gD, gE, gF]
                      refine wpAnyH_take (i := 3) (v := ?_) rfl (by kernel_rfl) (by kernel_rfl) (by kernel_rfl) (fun _ _ _ h => only_panic h) (Or.inl ⟨by rfl, ?_⟩) hHeld ?_
                      rotate_left
                      · (intro w hSw; obtain ⟨l0, l1, l2⟩ := LD.out w hSw; go_simp; try (with_reducible rfl))
                      try simp only [gA, gB, gC, Act.put, gD, gE, gF]
                      refine wpAnyH_take (i := 4) (v := ?_) rfl (by kernel_rfl) (by kernel_rfl) (by kernel_rfl) (fun _ _ _ h => only_panic h) (Or.inl ⟨by rfl, ?_⟩) hHeld ?_
                      rotate_left
                      · (intro w hSw; obtain ⟨l0, l1, l2⟩ := LD.out w hSw; go_simp; try (with_reducible rfl))
                      try simp only [gA, gB, gC, Act.put, gD, gE, gF]
                      refine wpAnyH_take (i := 8) (v := ?_) rfl (by kernel_rfl) (by kernel_rfl) (by kernel_rfl) (fun _ _ _ h => only_panic h) (Or.inl ⟨by rfl, ?_⟩) hHeld ?_
                      rotate_left
                      · (intro w hSw; obtain ⟨l0, l1, l2⟩ := LD.out w hSw; go_simp; try (with_reducible rfl))
                      try simp only [gA, gB, gC, Act.put, gD, gE, gF]
                      refine wpAnyH_take (i := 9) (v := ?_) rfl (by kernel_rfl) (by kernel_rfl) (by kernel_rfl) (fun _ _ _ h => only_panic h) (Or.inl ⟨by rfl, ?_⟩) hHeld ?_
                      rotate_left
                      · (intro w hSw; obtain ⟨l0, l1, l2⟩ := LD.out w hSw; go_simp; try (with_reducible rfl))
                      try simp only [gA, gB, gC, Act.put, gD, gE, gF]
                      refine wpAnyH_take (i := 10) (v := ?_) rfl (by kernel_rfl) (by kernel_rfl) (by kernel_rfl) (fun _ _ _ h => only_panic h) (Or.inl ⟨by rfl, ?_⟩) hHeld ?_
                      rotate_left
                      · (intro w hSw; obtain ⟨l0, l1, l2⟩ := LD.out w hSw; go_simp; try (with_reducible rfl))
                      try simp only [gA, gB, gC, Act.put, gD, gE, gF]
                      refine wpAnyH_take (i := 11) (v := ?_) rfl (by kernel_rfl) (by kernel_rfl) (by kernel_rfl) (fun _ _ _ h => only_panic h) (Or.inl ⟨by rfl, ?_⟩) hHeld ?_
                      rotate_left
                      · (intro w hSw; obtain ⟨l0, l1, l2⟩ := LD.out w hSw; go_simp; try (with_reducible rfl))
                      try simp only [gA, gB, gC, Act.put, gD, gE, gF]
                      refine wpAnyH_take (i := 12) (v := ?_) rfl (by kernel_rfl) (by kernel_rfl) (by kernel_rfl) (fun _ _ _ h => only_panic h) (Or.inl ⟨by rfl, ?_⟩) hHeld ?_
                      rotate_left
                      · (intro w hSw; obtain ⟨l0, l1, l2⟩ := LD.out w hSw; go_simp; try (with_reducible rfl))
                      try simp only [gA, gB, gC, Act.put, gD, gE, gF]
                      refine wpAnyH_take (i := 15) (v := ?_) rfl (by kernel_rfl) (by kernel_rfl) (by kernel_rfl) (fun _ _ _ h => only_panic h) (Or.inl ⟨by rfl, ?_⟩) hHeld ?_
                      rotate_left
                      · (intro w hSw; obtain ⟨l0, l1, l2⟩ := LD.out w hSw; go_simp; try (with_reducible rfl))
                      try simp only [gA, gB, gC, Act.put, gD, gE, gF]
                      refine wpAnyH_take (i := 16) (v := ?_) rfl (by kernel_rfl) (by kernel_rfl) (by kernel_rfl) (fun _ _ _ h => only_panic h) (Or.inl ⟨by rfl, ?_⟩) hHeld ?_
                      rotate_left
                      · (intro w hSw; obtain ⟨l0, l1, l2⟩ := LD.out w hSw; go_simp; try (with_reducible rfl))
                      try simp only [gA, gB, gC, Act.put, gD, gE, gF]
                      refine wpAnyH_take (i := 17) (v := ?_) rfl (by kernel_rfl) (by kernel_rfl) (by kernel_rfl) (fun _ _ _ h => only_panic h) (Or.inl ⟨by rfl, ?_⟩) hHeld ?_
                      rotate_left
                      · (intro w hSw; obtain ⟨l0, l1, l2⟩ := LD.out w hSw; go_simp; try (with_reducible rfl))
                      try simp only [gA, gB, gC, Act.put, gD, gE, gF]
                      refine wpAnyH_take (i := 18) (v := ?_) rfl (by kernel_rfl) (by kernel_rfl) (by kernel_rfl) (fun _ _ _ h => only_panic h) (Or.inl ⟨by rfl, ?_⟩) hHeld ?_
                      rotate_left
                      · (intro w hSw; obtain ⟨l0, l1, l2⟩ := LD.out w hSw; go_simp; try (with_reducible rfl))
                      try simp only [gA, gB, gC, Act.put, gD, gE, gF]
                      refine wpAnyH_take (i := 19) (v := ?_) rfl (by kernel_rfl) (by kernel_rfl) (by kernel_rfl) (fun _ _ _ h => only_panic h) (Or.inl ⟨by rfl, ?_⟩) hHeld ?_
                      rotate_left
                      · (intro w hSw; obtain ⟨l0, l1, l2⟩ := LD.out w hSw; go_simp; try (with_reducible rfl))
                      try simp only [gA, gB, gC, Act.put, gD, gE, gF]
                      refine wpAnyH_one (i := 5) rfl (by kernel_rfl) (by rfl) ?_
                      go_simp
                      refine (mod_any c.k 3 _ (by omega) (by omega)).mono ?_
                      rw [HQ.out]
                      rintro e W1 ⟨rfl, rfl⟩
                      refine ⟨hHeld, ?_⟩
                      refine wpAnyH_take (i := 6) (v := ?_) rfl (by kernel_rfl) (by kernel_rfl) (by kernel_rfl) (fun _ _ _ h => only_panic h) (Or.inl ⟨by rfl, ?_⟩) hHeld ?_
                      rotate_left
                      · (intro w hSw; clear hSw; go_simp; try (with_reducible rfl))
                      try simp only [gA, gB, gC, Act.put, gD, gE, gF]
                      refine wpAnyH_take (i := 7) (v := ?_) rfl (by kernel_rfl) (by kernel_rfl) (by kernel_rfl) (fun _ _ _ h => only_panic h) (Or.inl ⟨by rfl, ?_⟩) hHeld ?_
                      rotate_left
                      · (intro w hSw; clear hSw; go_simp; try (with_reducible rfl))
                      try simp only [gA, gB, gC, Act.put, gD, gE, gF]
                      refine wpAnyH_one (i := 13) rfl (by kernel_rfl) (by rfl) ?_
                      go_simp
                      refine (mod_any c.a 3 _ (by omega) (by omega)).mono ?_
                      rintro e W1 ⟨rfl, rfl⟩
                      refine ⟨hHeld, ?_⟩
                      refine wpAnyH_take (i := 14) (v := ?_) rfl (by kernel_rfl) (by kernel_rfl) (by kernel_rfl) (fun _ _ _ h => only_panic h) (Or.inl ⟨by rfl, ?_⟩) hHeld ?_
                      rotate_left
                      · (intro w hSw; clear hSw; go_simp; try (with_reducible rfl))
                      try simp only [gA, gB, gC, Act.put, gD, gE, gF]
                      refine wpAnyH_one (i := 20) rfl (by kernel_rfl) (by rfl) ?_
                      go_simp
                      refine (mod_any c.r 4 _ (by omega) (by omega)).mono ?_
                      rintro e W1 ⟨rfl, rfl⟩
                      refine ⟨hHeld, ?_⟩
                      refine wpAnyH_take (i := 21) (v := ?_) rfl (by kernel_rfl) (by kernel_rfl) (by kernel_rfl) (fun _ _ _ h => only_panic h) (Or.inl ⟨by rfl, ?_⟩) hHeld ?_
                      rotate_left
                      · (intro w hSw; clear hSw; go_simp; try (with_reducible rfl))
                      try simp only [gA, gB, gC, Act.put, gD, gE, gF]
                      refine wpAnyH_one (i := 22) rfl (by kernel_rfl) (by rfl) ?_
                      go_simp
                      refine (text_any 3 (1 + c.a % 3) (1 + c.r % 4) 0 _ ⟨by omega, by omega⟩ ⟨by omega, by omega⟩ ⟨by omega, by omega⟩ ⟨by omega, by omega⟩).mono ?_
                      rw [← HX.out]
                      rintro e W3 ⟨rfl, hb⟩
                      have B3 := Lib.hid ((Below.refl w6.heap.size w6).drew.trans hb)
                      have hHeld := UU.out _ B3.out
                      clear hb
                      refine ⟨hHeld, ?_⟩
                      refine wpAnyH_take (i := 23) (v := ?_) rfl (by kernel_rfl) (by kernel_rfl) (by kernel_rfl) (fun _ _ _ h => only_panic h) (Or.inl ⟨by rfl, ?_⟩) hHeld ?_
                      rotate_left
                      · (intro w hSw; clear hSw; go_simp; try (with_reducible rfl))
                      try simp only [gA, gB, gC, Act.put, gD, gE, gF]
                      exact wpAnyH_done (by kernel_rfl) ⟨rfl, hR _ B3.out⟩ _
                    rintro W hW
                    have V7 := V6.out.below hW V6.out.lt
                    have fz : W.frozen? ⟨vb, 3, none⟩ = false := V7.frozen 3
                    have cz : W.cell? ⟨vb, 3, none⟩ = some (strV m'.text) := V7.cell 3
                    have FF : RowKit.Hid (MsgB w0.heap.size b rb k vb (W.setCell ⟨vb, 3, none⟩ (strV X)) ∧ Below w0.heap.size w0 (W.setCell ⟨vb, 3, none⟩ (strV X))) := Lib.hid
                      ⟨MsgB.text V7 HXL.out HF.out (BO6.out.up hW), (B6.out.trans (hW.mono B6.out.size)).setCell (p := ⟨vb, 3, none⟩) hvB _⟩
                    clear hW V7
                    simp only [endN, List.drop_succ_cons, List.drop_zero, Act.put, List.setIfInBounds_toArray, List.set_cons_zero, List.set_cons_succ]
                    go_wp2_with fail
                    go_meet
                    case rel => exact FF.out
                  · have HQ := Lib.hid hq
                    clear hq
                    obtain ⟨X, hX⟩ : ∃ X, X = txt 4 (1 + c.a % 3) (1 + c.r % 4) 0 := ⟨_, rfl⟩
                    have HX := Lib.hid hX
                    have HXL : RowKit.Hid (X.length ≤ 1000) := Lib.hid (by
                      rw [hX]; refine Nat.le_trans (txt_short ⟨⟨?_, ?_⟩, ⟨?_, ?_⟩, ⟨?_, ?_⟩, ⟨?_, ?_⟩⟩) (by omega) <;> dsimp only <;> omega)
                    clear hX
                    refine wp_region_sp 24 S (by kernel_rfl) (by kernel_rfl) ?_
                    simp only [List.take_succ_cons, List.take_zero]
                    apply wpAnyH_apart (fun W => Below w6.heap.size w6 W)
                    case take =>
                      intro R hR
                      refine wpAnyH_take (i := 0) (v := ?_) rfl (by kernel_rfl) (by kernel_rfl) (by kernel_rfl) (fun _ _ _ h => only_panic h) (Or.inl ⟨by rfl, ?_⟩) hHeld ?_
                      rotate_left
                      · (intro w hSw; obtain ⟨l0, l1, l2⟩ := LD.out w hSw; go_simp; try (with_reducible rfl))
                      try simp only [gA, gB, gC, Act.put, gD, gE, gF]
                      refine wpAnyH_take (i := 1) (v := ?_) rfl (by kernel_rfl) (by kernel_rfl) (by kernel_rfl) (fun _ _ _ h => only_panic h) (Or.inl ⟨by rfl, ?_⟩) hHeld ?_
                      rotate_left
                      · (intro w hSw; obtain ⟨l0, l1, l2⟩ := LD.out w hSw; go_simp; try (with_reducible rfl))
                      try simp only [gA, gB, gC, Act.put, gD, gE, gF]
                      refine wpAnyH_take (i := 2) (v := ?_) rfl (by kernel_rfl) (by kernel_rfl) (by kernel_rfl) (fun _ _ _ h => only_panic h) (Or.inl ⟨by rfl, ?_⟩) hHeld ?_
                      rotate_left
                      · (intro w hSw; obtain ⟨l0, l1, l2⟩ := LD.out w hSw; go_simp; try (with_reducible rfl))
                      try simp only [gA, gB, gC, Act.put, gD, gE, gF]
                      refine wpAnyH_take (i := 3) (v := ?_) rfl (by kernel_rfl) (by kernel_rfl) (by kernel_rfl) (fun _ _ _ h => only_panic h) (Or.inl ⟨by rfl, ?_⟩) hHeld ?_
                      rotate_left
                      · (intro w hSw; obtain ⟨l0, l1, l2⟩ := LD.out w hSw; go_simp; try (with_reducible rfl))
                      try simp only [gA, gB, gC, Act.put, gD, gE, gF]
                      refine wpAnyH_take (i := 4) (v := ?_) rfl (by kernel_rfl) (by kernel_rfl) (by kernel_rfl) (fun _ _ _ h => only_panic h) (Or.inl ⟨by rfl, ?_⟩) hHeld ?_
                      rotate_left
                      · (intro w hSw; obtain ⟨l0, l1, l2⟩ := LD.out w hSw; go_simp; try (with_reducible rfl))
                      try simp only [gA, gB, gC, Act.put, gD, gE, gF]
                      refine wpAnyH_take (i := 8) (v := ?_) rfl (by kernel_rfl) (by kernel_rfl) (by kernel_rfl) (fun _ _ _ h => only_panic h) (Or.inl ⟨by rfl, ?_⟩) hHeld ?_
                      rotate_left
                      · (intro w hSw; obtain ⟨l0, l1, l2⟩ := LD.out w hSw; go_simp; try (with_reducible rfl))
                      try simp only [gA, gB, gC, Act.put, gD, gE, gF]
                      refine wpAnyH_take (i := 9) (v := ?_) rfl (by kernel_rfl) (by kernel_rfl) (by kernel_rfl) (fun _ _ _ h => only_panic h) (Or.inl ⟨by rfl, ?_⟩) hHeld ?_
                      rotate_left
                      · (intro w hSw; obtain ⟨l0, l1, l2⟩ := LD.out w hSw; go_simp; try (with_reducible rfl))
                      try simp only [gA, gB, gC, Act.put, gD, gE, gF]
                      refine wpAnyH_take (i := 10) (v := ?_) rfl (by kernel_rfl) (by kernel_rfl) (by kernel_rfl) (fun _ _ _ h => only_panic h) (Or.inl ⟨by rfl, ?_⟩) hHeld ?_
                      rotate_left
                      · (intro w hSw; obtain ⟨l0, l1, l2⟩ := LD.out w hSw; go_simp; try (with_reducible rfl))
                      try simp only [gA, gB, gC, Act.put, gD, gE, gF]
                      refine wpAnyH_take (i := 11) (v := ?_) rfl (by kernel_rfl) (by kernel_rfl) (by kernel_rfl) (fun _ _ _ h => only_panic h) (Or.inl ⟨by rfl, ?_⟩) hHeld ?_
                      rotate_left
                      · (intro w hSw; obtain ⟨l0, l1, l2⟩ := LD.out w hSw; go_simp; try (with_reducible rfl))
                      try simp only [gA, gB, gC, Act.put, gD, gE, gF]
                      refine wpAnyH_take (i := 12) (v := ?_) rfl (by kernel_rfl) (by kernel_rfl) (by kernel_rfl) (fun _ _ _ h => only_panic h) (Or.inl ⟨by rfl, ?_⟩) hHeld ?_
                      rotate_left
                      · (intro w hSw; obtain ⟨l0, l1, l2⟩ := LD.out w hSw; go_simp; try (with_reducible rfl))
                      try simp only [gA, gB, gC, Act.put, gD, gE, gF]
                      refine wpAnyH_take (i := 15) (v := ?_) rfl (by kernel_rfl) (by kernel_rfl) (by kernel_rfl) (fun _ _ _ h => only_panic h) (Or.inl ⟨by rfl, ?_⟩) hHeld ?_
                      rotate_left
                      · (intro w hSw; obtain ⟨l0, l1, l2⟩ := LD.out w hSw; go_simp; try (with_reducible rfl))
                      try simp only [gA, gB, gC, Act.put, gD, gE, gF]
                      refine wpAnyH_take (i := 16) (v := ?_) rfl (by kernel_rfl) (by kernel_rfl) (by kernel_rfl) (fun _ _ _ h => only_panic h) (Or.inl ⟨by rfl, ?_⟩) hHeld ?_
                      rotate_left
                      · (intro w hSw; obtain ⟨l0, l1, l2⟩ := LD.out w hSw; go_simp; try (with_reducible rfl))
                      try simp only [gA, gB, gC, Act.put, gD, gE, gF]
                      refine wpAnyH_take (i := 17) (v := ?_) rfl (by kernel_rfl) (by kernel_rfl) (by kernel_rfl) (fun _ _ _ h => only_panic h) (Or.inl ⟨by rfl, ?_⟩) hHeld ?_
                      rotate_left
                      · (intro w hSw; obtain ⟨l0, l1, l2⟩ := LD.out w hSw; go_simp; try (with_reducible rfl))
                      try simp only [gA, gB, gC, Act.put, gD, gE, gF]
                      refine wpAnyH_take (i := 18) (v := ?_) rfl (by kernel_rfl) (by kernel_rfl) (by kernel_rfl) (fun _ _ _ h => only_panic h) (Or.inl ⟨by rfl, ?_⟩) hHeld ?_
                      rotate_left
                      · (intro w hSw; obtain ⟨l0, l1, l2⟩ := LD.out w hSw; go_simp; try (with_reducible rfl))
                      try simp only [gA, gB, gC, Act.put, gD, gE, gF]
                      refine wpAnyH_take (i := 19) (v := ?_) rfl (by kernel_rfl) (by kernel_rfl) (by kernel_rfl) (fun _ _ _ h => only_panic h) (Or.inl ⟨by rfl, ?_⟩) hHeld ?_
                      rotate_left
                      · (intro w hSw; obtain ⟨l0, l1, l2⟩ := LD.out w hSw; go_simp; try (with_reducible rfl))
                      try simp only [gA, gB, gC, Act.put, gD, gE, gF]
                      refine wpAnyH_one (i := 5) rfl (by kernel_rfl) (by rfl) ?_
                      go_simp
                      refine (mod_any c.k 3 _ (by omega) (by omega)).mono ?_
                      rw [HQ.out]
                      rintro e W1 ⟨rfl, rfl⟩
                      refine ⟨hHeld, ?_⟩
                      refine wpAnyH_take (i := 6) (v := ?_) rfl (by kernel_rfl) (by kernel_rfl) (by kernel_rfl) (fun _ _ _ h => only_panic h) (Or.inl ⟨by rfl, ?_⟩) hHeld ?_
                      rotate_left
                      · (intro w hSw; clear hSw; go_simp; try (with_reducible rfl))
                      try simp only [gA, gB, gC, Act.put, gD, gE, gF]
                      refine wpAnyH_take (i := 7) (v := ?_) rfl (by kernel_rfl) (by kernel_rfl) (by kernel_rfl) (fun _ _ _ h => only_panic h) (Or.inl ⟨by rfl, ?_⟩) hHeld ?_
                      rotate_left
                      · (intro w hSw; clear hSw; go_simp; try (with_reducible rfl))
                      try simp only [gA, gB, gC, Act.put, gD, gE, gF]
                      refine wpAnyH_one (i := 13) rfl (by kernel_rfl) (by rfl) ?_
                      go_simp
                      refine (mod_any c.a 3 _ (by omega) (by omega)).mono ?_
                      rintro e W1 ⟨rfl, rfl⟩
                      refine ⟨hHeld, ?_⟩
                      refine wpAnyH_take (i := 14) (v := ?_) rfl (by kernel_rfl) (by kernel_rfl) (by kernel_rfl) (fun _ _ _ h => only_panic h) (Or.inl ⟨by rfl, ?_⟩) hHeld ?_
                      rotate_left
                      · (intro w hSw; clear hSw; go_simp; try (with_reducible rfl))
                      try simp only [gA, gB, gC, Act.put, gD, gE, gF]
                      refine wpAnyH_one (i := 20) rfl (by kernel_rfl) (by rfl) ?_
                      go_simp
                      refine (mod_any c.r 4 _ (by omega) (by omega)).mono ?_
                      rintro e W1 ⟨rfl, rfl⟩
                      refine ⟨hHeld, ?_⟩
                      refine wpAnyH_take (i := 21) (v := ?_) rfl (by kernel_rfl) (by kernel_rfl) (by kernel_rfl) (fun _ _ _ h => only_panic h) (Or.inl ⟨by rfl, ?_⟩) hHeld ?_
                      rotate_left
                      · (intro w hSw; clear hSw; go_simp; try (with_reducible rfl))
                      try simp only [gA, gB, gC, Act.put, gD, gE, gF]
                      refine wpAnyH_one (i := 22) rfl (by kernel_rfl) (by rfl) ?_
                      go_simp
                      refine (text_any 4 (1 + c.a % 3) (1 + c.r % 4) 0 _ ⟨by omega, by omega⟩ ⟨by omega, by omega⟩ ⟨by omega, by omega⟩ ⟨by omega, by omega⟩).mono ?_
                      rw [← HX.out]
                      rintro e W3 ⟨rfl, hb⟩
                      have B3 := Lib.hid ((Below.refl w6.heap.size w6).drew.trans hb)
                      have hHeld := UU.out _ B3.out
                      clear hb
                      refine ⟨hHeld, ?_⟩
                      refine wpAnyH_take (i := 23) (v := ?_) rfl (by kernel_rfl) (by kernel_rfl) (by kernel_rfl) (fun _ _ _ h => only_panic h) (Or.inl ⟨by rfl, ?_⟩) hHeld ?_
                      rotate_left
                      · (intro w hSw; clear hSw; go_simp; try (with_reducible rfl))
                      try simp only [gA, gB, gC, Act.put, gD, gE, gF]
                      exact wpAnyH_done (by kernel_rfl) ⟨rfl, hR _ B3.out⟩ _
                    rintro W hW
                    have V7 := V6.out.below hW V6.out.lt
                    have fz : W.frozen? ⟨vb, 3, none⟩ = false := V7.frozen 3
                    have cz : W.cell? ⟨vb, 3, none⟩ = some (strV m'.text) := V7.cell 3
                    have FF : RowKit.Hid (MsgB w0.heap.size b rb k vb (W.setCell ⟨vb, 3, none⟩ (strV X)) ∧ Below w0.heap.size w0 (W.setCell ⟨vb, 3, none⟩ (strV X))) := Lib.hid
                      ⟨MsgB.text V7 HXL.out HF.out (BO6.out.up hW), (B6.out.trans (hW.mono B6.out.size)).setCell (p := ⟨vb, 3, none⟩) hvB _⟩
                    clear hW V7
                    simp only [endN, List.drop_succ_cons, List.drop_zero, Act.put, List.setIfInBounds_toArray, List.set_cons_zero, List.set_cons_succ]
                    go_wp2_with fail
                    go_meet
                    case rel => exact FF.out
                · have h1 : (c.v.tmod 4 == 2) = false := by simpa using h1
                  go_wp2_with fail
                  go_meet
                  case rel => exact ⟨MS6.out, B6.out⟩
              case rest =>
                clear a5 A6 MS6 B6
                obtain ⟨m8, s, hV, ht8, -, hBO⟩ := hcut.1
                have V8 := Lib.hid hV
                have BO8 := Lib.hid hBO
                have HT8 := Lib.hid ht8
                have B8 := Lib.hid hcut.2
                clear hV hBO ht8 hcut
                obtain ⟨S, hS⟩ : ∃ S : World → Prop, S = fun W => Blk W vb (encM m8) 31 := ⟨_, rfl⟩
                have LB : RowKit.Hid (∀ W, S W → Blk W vb (encM m8) 31) := Lib.hid (by rw [hS]; exact fun W h => h)
                have UU : RowKit.Hid (∀ W, Blk W vb (encM m8) 31 → S W) := Lib.hid (by rw [hS]; exact fun W h => h)
                have hHeld : S wc.drew := UU.out _ V8.out.drew
                clear hS
                go_wp2_with fail
                refine wp_region_held_drew (S := S) (by kernel_rfl) hHeld (fun _ => ?_)
                apply wpAnyH_apartVV (fun _ W => BBo w0.heap.size b rb (2 * k + 1) (fun _ => False) (s.take m8).1 W ∧ Below w0.heap.size w0 W)
                case take =>
                  intro R0 hR0
                  refine wpAnyH_take (i := 0) (v := ?_) rfl (by kernel_rfl) (by kernel_rfl) (by kernel_rfl) (fun _ _ _ h => only_panic h) (Or.inl ⟨by rfl, ?_⟩) hHeld ?_
                  rotate_left
                  · (intro w hSw; clear hSw; go_simp; try (with_reducible rfl))
                  try simp only [gA, gB, gC, Act.put, gD, gE, gF]
                  refine wpAnyH_take (i := 3) (v := ?_) rfl (by kernel_rfl) (by kernel_rfl) (by kernel_rfl) (fun _ _ _ h => only_panic h) (Or.inl ⟨by rfl, ?_⟩) hHeld ?_
                  rotate_left
                  · (intro w hSw; clear hSw; go_simp; try (with_reducible rfl))
                  try simp only [gA, gB, gC, Act.put, gD, gE, gF]
                  refine wpAnyH_take (i := 1) (v := .agg (encM m8)) rfl (by kernel_rfl) (by kernel_rfl) (by kernel_rfl) (fun _ _ _ h => only_panic h) ?_ hHeld ?_
                  · exact yields_row (.tmp 12) (by rfl) rfl rfl LB.out Tryz.underlying31 rfl (encB_inf m8)
                  try simp only [gA, gB, gC, Act.put, gD, gE, gF]
                  refine wpAnyH_take (i := 4) (v := .agg (encM m8)) rfl (by kernel_rfl) (by kernel_rfl) (by kernel_rfl) (fun _ _ _ h => only_panic h) ?_ hHeld ?_
                  · exact yields_row (.tmp 12) (by rfl) rfl rfl LB.out Tryz.underlying31 rfl (encB_inf m8)
                  try simp only [gA, gB, gC, Act.put, gD, gE, gF]
                  refine wpAnyH_one (i := 2) rfl (by kernel_rfl) (by rfl) ?_
                  go_simp
                  refine ((BO8.out.up (Below.refl wc.heap.size wc).drew).take (by omega) m8 (by have := HT8.out; omega)).mono ?_
                  rintro e W1 ⟨v1, rfl, hm1, hC1⟩
                  have hHeld := UU.out _ (hC1.blk V8.out.drew (by simp))
                  refine ⟨hHeld, ?_⟩
                  refine wpAnyH_one (i := 5) rfl (by kernel_rfl) (by rfl) ?_
                  go_simp
                  refine (hm1.take (by omega) (by have := HT8.out; omega)).mono ?_
                  rintro e W2 ⟨v2, rfl, hm2, hC2⟩
                  have hHeld := UU.out _ (hC2.blk (LB.out _ hHeld) (by simp))
                  refine ⟨hHeld, ?_⟩
                  refine wpAnyH_one (i := 6) rfl (by kernel_rfl) (by rfl) ?_
                  go_simp
                  refine (hm2.same (Nat.le_trans (Brk.take_len s m8) (by omega))).mono ?_
                  rintro e W3 ⟨rfl, hb3⟩
                  have hHeld := UU.out _ ((LB.out _ hHeld).below hb3 (LB.out _ hHeld).lt)
                  have hz1 : wc.heap.size ≤ W1.heap.size := hC1.size
                  have FB : RowKit.Hid (BBo w0.heap.size b rb (2 * k + 1) (fun _ => False) (s.take m8).1 W3 ∧ Below w0.heap.size w0 W3) := Lib.hid ⟨(hm2.1.up hb3).weak fun _ h => h.elim,
                    ((B8.out.trans ((((Below.refl wc.heap.size wc).drew).mono B8.out.size).trans (hC1.below (B := w0.heap.size) B8.out.size fun j hj => hj.1))).trans (hC2.below (Nat.le_trans B8.out.size hz1) fun j hj => hj.1)).trans (hb3.mono (Nat.le_trans (Nat.le_trans B8.out.size hz1) hC2.size))⟩
                  clear hm1 hm2 hC1 hC2 hb3 hz1
                  refine ⟨hHeld, ?_⟩
                  refine wpAnyH_take (i := 7) (v := ?_) rfl (by kernel_rfl) (by kernel_rfl) (by kernel_rfl) (fun _ _ _ h => only_panic h) (Or.inl ⟨by rfl, ?_⟩) hHeld ?_
                  rotate_left
                  · (intro w hSw; clear hSw; go_simp; try (with_reducible rfl))
                  try simp only [gA, gB, gC, Act.put, gD, gE, gF]
                  exact wpAnyH_done (by kernel_rfl) ⟨rfl, hR0 v1 v2 _ FB.out⟩ _
                case rest =>
                  rintro x y w9 ⟨hA, hb⟩
                  have BO9 := Lib.hid hA
                  have B9 := Lib.hid hb
                  clear hA hb
                  obtain ⟨s1, hs1⟩ : ∃ s1, s1 = (s.take m8).1 := ⟨_, rfl⟩
                  rw [← hs1] at BO9
                  clear hs1
                  have hact := ((HA.out.below B9.out (Nat.le_refl _)).act k hlt).1
                  rw [← HCQ.out] at hact
                  have a0 := hact.1
                  clear hact
                  by_cases h5 : (c.k.tmod 5 == 4) = true
                  · skip
                    go_wp2_with fail
                    refine (BO9.out.tick (by omega)).mono ?_
                    rintro e W1 ⟨v1, rfl, hm1, hC1⟩
                    go_wp2_with fail
                    refine (hm1.tick (by omega)).mono ?_
                    rintro e W2 ⟨v2, rfl, hm2, hC2⟩
                    go_wp2_with fail
                    refine (hm2.same (Nat.le_trans (Brk.tick_len s1) (by have := BO9.out.len; omega))).mono ?_
                    rintro e W3 ⟨rfl, hb3⟩
                    have BOA : RowKit.Hid (BBo w0.heap.size b rb (2 * (k + 1)) (fun _ => False) s1.tick.1 W3) := Lib.hid (hm2.1.up hb3)
                    have BA : RowKit.Hid (Below w0.heap.size w0 W3) := Lib.hid (((B9.out.trans (hC1.below (B := w0.heap.size) B9.out.size fun j hj => hj.1)).trans (hC2.below (Nat.le_trans B9.out.size hC1.size) fun j hj => hj.1)).trans (hb3.mono (Nat.le_trans (Nat.le_trans B9.out.size hC1.size) hC2.size)))
                    clear hm1 hm2 hC1 hC2 hb3
                    go_wp2_with fail
                    go_roundw
                    case rel => exact ⟨k + 1, _, hlt, h6, by go_num, BOA.out, BA.out⟩
                    case measure => simp [intOf]; omega
                  · have h5 : (c.k.tmod 5 == 4) = false := by simpa using h5
                    have BOA : RowKit.Hid (BBo w0.heap.size b rb (2 * (k + 1)) (fun _ => False) s1 w9) := Lib.hid (BO9.out.more (by omega) (by omega))
                    go_wp2_with fail
                    go_roundw
                    case rel => exact ⟨k + 1, _, hlt, h6, by go_num, BOA.out, B9.out⟩
                    case measure => simp [intOf]; omega
          · have hend : k = L.length ∨ (k < L.length ∧ k = 60) := by omega
            have FZ : RowKit.Hid (Below w.heap.size w wr) := Lib.hid (B0.out.trans (BB.out.mono B0.out.size))
            clear hgo
            rcases hend with rfl | ⟨hlt, rfl⟩
            · go_wp2_with fail
              go_ret
              exact ⟨rfl, FZ.out⟩
            · go_wp2_with fail
              go_ret
              exact ⟨rfl, FZ.out⟩
end Go.Proofs.YtdojgbpaheadnaaGreat
