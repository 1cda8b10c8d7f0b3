/- The law: no free copy would be cheaper, no exchange of two or three copies makes it cheaper. -/
import Derived.Test.YtpcmppamkgkdlaaVL
import Derived.Test.YtpcmppamkgkdlaaVH
import Derived.RegionTactic
import Derived.Deep.DeepCutAuto
import Derived.Deep.LoopGhost
namespace Go.Proofs.Ytpcmppamkgkdlaa
open Go.RowKit

set_option maxRecDepth 100000 in
set_option maxHeartbeats 8000000 in
theorem cheapLaw (cells : Array Value) (wl : List (Int × Int)) (al : List Int) (cs : Nat → Int) (w : World) (hp : PrIn w w.heap.size cells wl al cs) (hcs : cells.size = 18) :
    Calls Try.prog 7 #[.agg cells] w fun e w' => e = .returned (.bool true) ∧ Below w.heap.size w w' := by
  have HP := Lib.hid hp
  have HS := Lib.hid hcs
  clear hp hcs
  go_enter Try.func7, Try.ntmps7
  go_wp2_with fail
  obtain ⟨pb, hpb⟩ : ∃ pb, pb = w.heap.size := ⟨_, rfl⟩
  obtain ⟨W1, hW1⟩ : ∃ W1, W1 = w.alloc (.cells cells 27) := ⟨_, rfl⟩
  have PB : RowKit.Hid (Blk W1 pb cells 27) := Lib.hid (by rw [hW1, hpb]; exact Blk.new _ _ _)
  have B1 : RowKit.Hid (Below w.heap.size w W1) := Lib.hid (by rw [hW1]; exact (Below.refl _ _).alloc (Nat.le_refl _) _)
  have HZ : RowKit.Hid (W1.heap.size = pb + 1 ∧ pb = w.heap.size) := Lib.hid ⟨by rw [hW1, hpb]; simp, hpb⟩
  rw [← hW1, ← hpb]
  clear hW1 hpb
  refine (sanity_any W1).mono ?_
  rintro e w2 ⟨rfl, hb2⟩
  have B2 := Lib.hid hb2
  have PB2 := Lib.hid (PB.out.below hb2 PB.out.lt)
  have hz2 := hb2.size
  clear hb2
  go_wp2_with (refine wpList_load27 (.tmp 1) rfl rfl rfl PB2.out HS.out ?_)
  have PR2 : RowKit.Hid (PrIn w2 w.heap.size cells wl al cs) := Lib.hid (HP.out.below ((B1.out).trans (B2.out.mono (by have := HZ.out; omega))))
  refine (lists_any cells wl al cs 16 w2 w.heap.size PR2.out (by have := HZ.out; omega) (by omega)).mono ?_
  rintro e w3 ⟨wv, av, w0, ps, rfl, hWB, h0, hat, hb3⟩
  have B3 : RowKit.Hid (Below W1.heap.size W1 w3) := Lib.hid (B2.out.trans (hb3.mono hz2))
  have ST3 : RowKit.Hid (Sit w w3 pb cells (wantsL wl 16) (atL al 16) wv av) := Lib.hid ⟨PB.out.below B3.out PB.out.lt, B1.out.trans (B3.out.mono (by have := HZ.out; omega)), hWB.done, hat.mono hWB.bel.size⟩
  obtain ⟨aw, cw, hwv, -⟩ := ST3.out.wants
  obtain ⟨aa, ca, hav, -⟩ := ST3.out.at_
  have HN := Lib.hid (wantsL_le wl 16)
  obtain ⟨L, hL⟩ : ∃ L, L = wantsL wl 16 := ⟨_, rfl⟩
  have HLC : RowKit.Hid (∀ k, (L.getD k noW).2.length ≤ 1000) := Lib.hid fun k => by rw [hL]; exact wantsL_cop wl 16 k
  rw [← hL] at ST3 HN hwv
  obtain ⟨A, hA⟩ : ∃ A, A = atL al 16 := ⟨_, rfl⟩
  have HAL : RowKit.Hid (A.length ≤ 16) := Lib.hid (by rw [hA]; exact atL_le al 16)
  rw [← hA] at ST3 hav
  have HLL := Lib.hid hL
  have HAA := Lib.hid hA
  have hn := HN.out
  have han := HAL.out
  subst hwv hav
  obtain ⟨P, hP⟩ : ∃ P, P = prob L A (costsM cs) := ⟨_, rfl⟩
  have HPP := Lib.hid hP
  have hPm : P.m = L.length := by rw [hP]; rfl
  have hPn : P.n = A.length := by rw [hP]; rfl
  have HPM := Lib.hid (And.intro hPm hPn)
  clear hWB h0 hat hb3 hL hA PR2 hP hPm hPn PB PB2
  go_wp2_with (refine wpList_load27 (.tmp 1) rfl rfl rfl ST3.out.blk HS.out ?_)
  refine (costs_any cells cs w3 HP.out.c2).mono ?_
  rintro e w4 ⟨cv, rfl, hC, hb⟩
  have ST4 := Lib.hid (ST3.out.up hb)
  have Ccv := Lib.hid hC
  clear hb hC
  go_wp2_with fail
  refine (assign_any L A (costsM cs) w4 w4.heap.size _ _ _ ST4.out.wants ST4.out.at_ Ccv.out (by omega) (by omega) HLC.out (costsM_row cs) (Nat.le_refl _)).mono ?_
  rw [← HPP.out]
  rintro e w5 ⟨cp, g, rfl, hB, hblk, hg, hb⟩
  rw [HPM.out.1] at hblk ⊢
  have ST5 := Lib.hid (ST4.out.up hb)
  have C5 := Lib.hid (Ccv.out.up hb)
  have BB := Lib.hid hB
  have G5 := Lib.hid hblk
  clear hb hB hg hblk
  obtain ⟨ac, cc, hcv, -⟩ := C5.out
  subst hcv
  go_wp2_with fail
  have hpn : P.n ≤ 1000 := by have := HPM.out; omega
  have I5 : RowKit.Hid (Ints w5 w5.heap.size (.slice (some ⟨g, 0, none⟩) L.length L.length) (outL cp P.m)) := Lib.hid (by rw [HPM.out.1]; exact outL_ints G5.out)
  refine (cost_any L A (costsM cs) (outL cp P.m) w5 w5.heap.size _ _ _ _ ST5.out.wants ST5.out.at_ C5.out I5.out (by omega) (by omega) HLC.out (costsM_row cs) (Nat.le_refl _) (by rw [outL_len]; have := HPM.out; omega) (outL_bd BB.out.mat hpn)).mono ?_
  rw [← HPP.out]
  rintro e w6 ⟨rfl, hb⟩
  rw [out_cost BB.out.mat]
  have ST6 := Lib.hid (ST5.out.up hb)
  have G6 := Lib.hid (G5.out.below hb G5.out.lt)
  have C6 := Lib.hid (C5.out.up hb)
  clear hb
  obtain ⟨n, hn2⟩ : ∃ n, n = P.tot cp := ⟨_, rfl⟩
  have HN2 := Lib.hid hn2
  rw [← hn2]
  clear hn2
  dsimp only
  -- what a changed list costs
  have KC : RowKit.Hid (∀ (W : World) (B gb cap : Nat) (f : Nat → Option Nat), Below w6.heap.size w6 W → RowF B W gb L.length cap f → (∀ j, ∃ x, f j = x ∧ (x = none ∨ ∃ c, x = some c ∧ c < 1000000)) →
      Calls Try.prog 16 #[.slice aw L.length cw, .slice aa A.length ca, .slice ac (costsM cs).length cc, .slice (some ⟨gb, 0, none⟩) L.length cap] W (CostE P (outL f L.length) W)) := Lib.hid fun W B gb cap f hb hr hx => by
    rw [HPP.out]
    refine cost_any L A (costsM cs) (outL f L.length) W W.heap.size _ _ _ _ (ST6.out.wants.up hb) (ST6.out.at_.up hb) (C6.out.up hb) hr.ints (by omega) (by omega) HLC.out (costsM_row cs) (Nat.le_refl _) (by rw [outL_len]; omega) fun i hi => ?_
    rw [outL_len] at hi
    rw [outL_get f hi]
    obtain ⟨x, h1, h2 | ⟨c, h2, h3⟩⟩ := hx i
    · rw [h1, h2]; simp [oi]
    · rw [h1, h2]; simp [oi]; omega
  have FB : RowKit.Hid (∀ j, ∃ x, cp j = x ∧ (x = none ∨ ∃ c, x = some c ∧ c < 1000000)) := Lib.hid fun j => ⟨_, rfl, by
    cases e : cp j with
    | none => exact .inl rfl
    | some c => exact .inr ⟨c, rfl, by have := P.lt j c (BB.out.mat.ok e).2; omega⟩⟩
  have hone : RowKit.Hid (∀ {k c d : Nat} {f : Nat → Option Nat} {n' : Int}, k < L.length → cp k = some d → f = upd cp k (some c) → costF P (outL f L.length) = (n', true) → n ≤ n' ∧ (n' = n → d ≤ c)) := Lib.hid fun hk ha hf h => by
    rw [HN2.out]; exact cheap_one BB.out (by rw [HPM.out.1]; exact hk) ha hf (by rw [HPM.out.1]; exact h)
  have hswap : RowKit.Hid (∀ {k j i : Nat} {f : Nat → Option Nat} {n' : Int}, (∀ x, x ≠ k → x ≠ j → x ≠ i → f x = cp x) → costF P (outL f L.length) = (n', true) → k < L.length → j < L.length → i < L.length →
      decide (0 ≤ oi (f k)) = decide (0 ≤ oi (cp k)) → decide (0 ≤ oi (f j)) = decide (0 ≤ oi (cp j)) → decide (0 ≤ oi (f i)) = decide (0 ≤ oi (cp i)) → n ≤ n') := Lib.hid fun hoff h hk hj hi e1 e2 e3 => by
    rw [HN2.out]; exact cheap_swap BB.out hoff (by rw [HPM.out.1]; exact h) (by rw [HPM.out.1]; exact hk) (by rw [HPM.out.1]; exact hj) (by rw [HPM.out.1]; exact hi) (by rw [isSome_oi, isSome_oi, e1]) (by rw [isSome_oi, isSome_oi, e2]) (by rw [isSome_oi, isSome_oi, e3])
  obtain ⟨i3, hi, hi0, hi1, hi2⟩ := info_parts info3
  have HI := Lib.hid (And.intro hi (And.intro hi0 (And.intro hi1 hi2)))
  clear hi hi0 hi1 hi2
  go_wp2_with fail
  go_loopg [10] L.length (fun m v wr => ∃ k : Nat, k + m = L.length ∧ v = .int .i64 k ∧ Below w6.heap.size w6 wr)
  case atStart => exact ⟨0, by omega, rfl, Below.refl _ _⟩
  case round =>
    obtain ⟨k, hk, rfl, hb⟩ := hrel
    have B1 := Lib.hid hb
    obtain ⟨g1, rfl⟩ : ∃ g1 : Nat, g1 = gk := ⟨_, rfl⟩
    clear hb
    by_cases hlt : k < L.length
    · obtain ⟨wo, rfl⟩ : ∃ wo : World, wo = wr := ⟨_, rfl⟩
      go_wp2_with fail
      go_loopg [11] A.length (fun m v wr => ∃ c : Nat, c + m = A.length ∧ v = .int .i64 c ∧ Below w6.heap.size w6 wr)
      case atStart => exact ⟨0, by omega, rfl, B1.out⟩
      case round =>
        obtain ⟨c, hc, rfl, hb⟩ := hrel
        obtain ⟨g2, rfl⟩ : ∃ g2 : Nat, g2 = gk := ⟨_, rfl⟩
        obtain ⟨w7, rfl⟩ : ∃ w7 : World, w7 = wr := ⟨_, rfl⟩
        have B7 := Lib.hid hb
        have G7 := Lib.hid (G6.out.below hb G6.out.lt)
        clear hb
        go_upto_region 12 with fail
        go_cut [58] (fun v wx => v = .bool (decide (c < A.length ∧ (cp k).isSome = true)) ∧ wx = w7)
        case first =>
          have a1 : w7.cell? ⟨g, k, none⟩ = some (.int .i64 (oi (cp k))) := G7.out.cellE (arr_get _ hlt)
          by_cases hcl : c < A.length
          · cases hn0 : cp k with
            | none =>
              rw [hn0] at a1
              have a1' : w7.cell? ⟨g, k, none⟩ = some (.int .i64 (-1)) := a1
              clear a1
              have HN0 := Lib.hid hn0
              clear hn0
              go_wp2_with fail
              go_meet
              case rel => exact ⟨by rw [decide_eq_false (fun h => by have := h.2; rw [HN0.out] at this; cases this)], rfl⟩
            | some d =>
              rw [hn0] at a1
              have a1' : w7.cell? ⟨g, k, none⟩ = some (.int .i64 (d : Int)) := a1
              clear a1
              have HN0 := Lib.hid hn0
              clear hn0
              go_wp2_with fail
              go_meet
              case rel => exact ⟨by rw [decide_eq_true (show c < A.length ∧ (cp k).isSome = true from ⟨hcl, by rw [HN0.out]; rfl⟩)], rfl⟩
          · clear a1
            go_wp2_with fail
            go_meet
            case rel => exact ⟨by rw [decide_eq_false (fun h => hcl h.1)], rfl⟩
        case rest =>
          obtain ⟨hv, hw⟩ := hcut
          subst hv
          obtain rfl : w7 = wc := hw.symm
          by_cases hgo : c < A.length ∧ (cp k).isSome = true
          case pos =>
            rw [decide_eq_true hgo]
            obtain ⟨hcl, hsome⟩ := hgo
            obtain ⟨d, hd⟩ := Option.isSome_iff_exists.1 hsome
            have a1' : w7.cell? ⟨g, k, none⟩ = some (.int .i64 (d : Int)) := by have h := G7.out.cellE (arr_get (fun j => .int .i64 (oi (cp j))) hlt); rw [hd] at h; exact h
            have HD := Lib.hid hd
            have hbz : RowKit.Hid ((w7.alloc (.cells #[] 3)).ownsRow w7.heap.size 3 1 (.slice (some ⟨w7.heap.size, 0, none⟩) 0 0) 0 []) := Lib.hid (World.ownsRow_lit w7 #[] 0 (Nat.le_refl _) (by unfold maxLen; omega) rfl)
            have RN : RowKit.Hid ((w7.alloc (.cells #[] 3)).ownsRow g 3 1 (.slice (some ⟨g, 0, none⟩) L.length L.length) L.length ((outL cp L.length).map (Value.int .i64))) := Lib.hid ((row_of_blk G7.out (by unfold maxLen; omega)).alloc _)
            obtain ⟨hi, hi0, hi1, hi2⟩ := HI.out
            clear hsome hd
            go_wp2_with (at_builtin; go_must (refine wpList_append_copy rfl (.tmp 61) (.tmp 62) 30 rfl g w7.heap.size 3 i3 (.int .i64 0) 8 Try.underlying30 hi hi0 hi1 hi2 rfl rfl hbz.out _ L.length _ RN.out rfl (ints1 _) (by unfold maxLen; omega) (by omega) ?_))
            intro gb cap w8 hrow hg
            have R8 : RowKit.Hid (RowF w7.heap.size w8 gb L.length cap cp) := Lib.hid hrow
            have B78 : RowKit.Hid (Below w7.heap.size w7 w8) := Lib.hid ((((Tn.refl (fun _ => False) w7).alloc (.cells #[] 3)).then_ (Tn.of_grown hg) fun b e => .inr (by injection e with e; omega)).below (Nat.le_refl _) fun _ h => h.elim)
            have e8 : w8.cell? ⟨gb, k, none⟩ = some (.int .i64 (oi (cp k))) := R8.out.cell hlt
            have ef := R8.out.fz
            have R9 := Lib.hid (R8.out.set k (some c))
            have R9' : RowKit.Hid (RowF w7.heap.size (w8.setCell ⟨gb, k, none⟩ (.int .i64 (c : Int))) gb L.length cap (upd cp k (some c))) := R9
            have B9 : RowKit.Hid (Below w6.heap.size w6 (w8.setCell ⟨gb, k, none⟩ (.int .i64 (c : Int)))) := Lib.hid (B7.out.trans ((B78.out.setCell (by exact R8.out.at_.1) _).mono B7.out.size))
            clear hrow hg hi hi0 hi1 hi2 a1'
            go_wp2_with fail
            refine (KC.out _ w7.heap.size gb cap (upd cp k (some c)) B9.out R9'.out fun j => ⟨_, rfl, ?_⟩).mono ?_
            · by_cases e : j = k
              · subst e; rw [upd_eq]; exact .inr ⟨c, rfl, by omega⟩
              · rw [upd_ne _ _ e]; obtain ⟨x, h1, h2⟩ := FB.out j; rw [h1]; exact h2
            rintro e w10 ⟨rfl, hb⟩
            have B10 := Lib.hid (B9.out.trans (hb.mono B9.out.size))
            have G10 := Lib.hid (G6.out.below B10.out G6.out.lt)
            have a10 : w10.cell? ⟨g, k, none⟩ = some (.int .i64 (d : Int)) := by have := G10.out.cellE (arr_get (fun j => .int .i64 (oi (cp j))) hlt); rw [HD.out] at this; exact this
            have ON := Lib.hid (fun n' h => hone.out (f := upd cp k (some c)) (c := c) (n' := n') hlt HD.out rfl h)
            obtain ⟨r, hr⟩ : ∃ r, r = costF P (outL (upd cp k (some c)) L.length) := ⟨_, rfl⟩
            rw [← hr] at ON
            rw [← hr]
            clear hr hb e8 ef
            obtain ⟨n', fine⟩ := r
            dsimp only
            cases fine
            · go_wp2_with fail
              go_roundg (g2 - 1)
              case measure => omega
              case rel => exact ⟨c + 1, by omega, by go_num, B10.out⟩
            · obtain ⟨h1, h2⟩ := ON.out n' rfl
              have d1 : decide (n' < n) = false := decide_eq_false (by omega)
              by_cases hnn : n' = n
              · have h3 := h2 hnn
                have d2 : (n' == n) = true := by simpa using hnn
                have d3 : decide ((c : Int) < (d : Int)) = false := decide_eq_false (by omega)
                clear h1 h2
                go_wp2_with fail
                go_roundg (g2 - 1)
                case measure => omega
                case rel => exact ⟨c + 1, by omega, by go_num, B10.out⟩
              · have d2 : (n' == n) = false := by simpa using hnn
                clear h1 h2
                go_wp2_with fail
                go_roundg (g2 - 1)
                case measure => omega
                case rel => exact ⟨c + 1, by omega, by go_num, B10.out⟩
          case neg =>
            rw [decide_eq_false hgo]
            clear hgo hw
            go_wp2_with fail
            go_loopg [15] k (fun m v wr => ∃ j : Nat, j + m = k ∧ v = .int .i64 j ∧ Below w6.heap.size w6 wr)
            case atStart => exact ⟨0, by omega, rfl, B7.out⟩
            case round =>
              obtain ⟨j, hj, rfl, hb⟩ := hrel
              obtain ⟨g3, rfl⟩ : ∃ g3 : Nat, g3 = gk := ⟨_, rfl⟩
              obtain ⟨w8, rfl⟩ : ∃ w8 : World, w8 = wr := ⟨_, rfl⟩
              have B8 := Lib.hid hb
              clear hb
              by_cases hjk : j < k
              · go_wp2_with fail
                go_loopg [16] (j + 1) (fun m v wr => ∃ i : Nat, i + m = j + 1 ∧ v = .int .i64 i ∧ Below w6.heap.size w6 wr)
                case atStart => exact ⟨0, by omega, rfl, B8.out⟩
                case round =>
                  obtain ⟨i, hi9, rfl, hb⟩ := hrel
                  obtain ⟨g4, rfl⟩ : ∃ g4 : Nat, g4 = gk := ⟨_, rfl⟩
                  obtain ⟨w9, rfl⟩ : ∃ w9 : World, w9 = wr := ⟨_, rfl⟩
                  have B9 := Lib.hid hb
                  have G9 := Lib.hid (G6.out.below hb G6.out.lt)
                  clear hb
                  by_cases hij : i ≤ j
                  case pos =>
                    have hbz : RowKit.Hid ((w9.alloc (.cells #[] 3)).ownsRow w9.heap.size 3 1 (.slice (some ⟨w9.heap.size, 0, none⟩) 0 0) 0 []) := Lib.hid (World.ownsRow_lit w9 #[] 0 (Nat.le_refl _) (by unfold maxLen; omega) rfl)
                    have RN : RowKit.Hid ((w9.alloc (.cells #[] 3)).ownsRow g 3 1 (.slice (some ⟨g, 0, none⟩) L.length L.length) L.length ((outL cp L.length).map (Value.int .i64))) := Lib.hid ((row_of_blk G9.out (by unfold maxLen; omega)).alloc _)
                    obtain ⟨hi, hi0, hi1, hi2⟩ := HI.out
                    go_wp2_with (at_builtin; go_must (refine wpList_append_copy rfl (.tmp 105) (.tmp 106) 30 rfl g w9.heap.size 3 i3 (.int .i64 0) 8 Try.underlying30 hi hi0 hi1 hi2 rfl rfl hbz.out _ L.length _ RN.out rfl (ints1 _) (by unfold maxLen; omega) (by omega) ?_))
                    intro gb cap w10 hrow hg
                    have R10 : RowKit.Hid (RowF w9.heap.size w10 gb L.length cap cp) := Lib.hid hrow
                    have B910 : RowKit.Hid (Below w9.heap.size w9 w10) := Lib.hid ((((Tn.refl (fun _ => False) w9).alloc (.cells #[] 3)).then_ (Tn.of_grown hg) fun b e => .inr (by injection e with e; omega)).below (Nat.le_refl _) fun _ h => h.elim)
                    have G10 := Lib.hid (G9.out.below B910.out G9.out.lt)
                    clear hrow hg hi hi0 hi1 hi2
                    have hil : i < L.length := by omega
                    have hjl : j < L.length := by omega
                    obtain ⟨xk, hxk⟩ : ∃ xk, xk = oi (cp k) := ⟨_, rfl⟩
                    obtain ⟨xj, hxj⟩ : ∃ xj, xj = oi (cp j) := ⟨_, rfl⟩
                    obtain ⟨xi, hxi⟩ : ∃ xi, xi = oi (cp i) := ⟨_, rfl⟩
                    have XK := Lib.hid hxk
                    have XJ := Lib.hid hxj
                    have XI := Lib.hid hxi
                    clear hxk hxj hxi
                    have ak : w10.cell? ⟨g, k, none⟩ = some (.int .i64 xk) := by rw [XK.out]; exact G10.out.cellE (arr_get _ hlt)
                    have aj : w10.cell? ⟨g, j, none⟩ = some (.int .i64 xj) := by rw [XJ.out]; exact G10.out.cellE (arr_get _ hjl)
                    have ai : w10.cell? ⟨g, i, none⟩ = some (.int .i64 xi) := by rw [XI.out]; exact G10.out.cellE (arr_get _ hil)
                    have bk : w10.cell? ⟨gb, k, none⟩ = some (.int .i64 xk) := by rw [XK.out]; exact R10.out.cell hlt
                    have bf := R10.out.fz
                    have R11 : RowKit.Hid (RowF w9.heap.size (w10.setCell ⟨gb, k, none⟩ (.int .i64 xj)) gb L.length cap (upd cp k (cp j))) := Lib.hid (by rw [XJ.out]; exact R10.out.set k (cp j))
                    have R12 : RowKit.Hid (RowF w9.heap.size ((w10.setCell ⟨gb, k, none⟩ (.int .i64 xj)).setCell ⟨gb, j, none⟩ (.int .i64 xi)) gb L.length cap (upd (upd cp k (cp j)) j (cp i))) := Lib.hid (by rw [XI.out]; exact R11.out.set j (cp i))
                    have R13 : RowKit.Hid (RowF w9.heap.size (((w10.setCell ⟨gb, k, none⟩ (.int .i64 xj)).setCell ⟨gb, j, none⟩ (.int .i64 xi)).setCell ⟨gb, i, none⟩ (.int .i64 xk)) gb L.length cap (upd (upd (upd cp k (cp j)) j (cp i)) i (cp k))) := Lib.hid (by rw [XK.out]; exact R12.out.set i (cp k))
                    have c1 : (w10.setCell ⟨gb, k, none⟩ (.int .i64 xj)).cell? ⟨gb, j, none⟩ = some (.int .i64 xj) := by rw [R11.out.cell hjl, upd_ne _ _ (by omega), ← XJ.out]
                    have c2 : ((w10.setCell ⟨gb, k, none⟩ (.int .i64 xj)).setCell ⟨gb, j, none⟩ (.int .i64 xi)).cell? ⟨gb, i, none⟩ = some (.int .i64 xi) := by
                      rw [R12.out.cell hil]
                      by_cases e : i = j
                      · subst e; rw [upd_eq, ← XI.out]
                      · rw [upd_ne _ _ e, upd_ne _ _ (by omega), ← XI.out]
                    go_wp2_with fail
                    go_region
                    obtain ⟨f, hf⟩ : ∃ f, f = upd (upd (upd cp k (cp j)) j (cp i)) i (cp k) := ⟨_, rfl⟩
                    obtain ⟨w14, hw14⟩ : ∃ w14, w14 = (((w10.setCell ⟨gb, k, none⟩ (.int .i64 xj)).setCell ⟨gb, j, none⟩ (.int .i64 xi)).setCell ⟨gb, i, none⟩ (.int .i64 xk)).drew := ⟨_, rfl⟩
                    have R14 : RowKit.Hid (RowF w9.heap.size w14 gb L.length cap f) := Lib.hid (by rw [hw14, hf]; exact R13.out.keep (Below.refl _ _).drew)
                    have B10 : RowKit.Hid (Below w9.heap.size w9 w14) := Lib.hid (by rw [hw14]; exact (((B910.out.setCell R10.out.at_.1 _).setCell R10.out.at_.1 _).setCell R10.out.at_.1 _).drew)
                    have OFF : RowKit.Hid (∀ x, x ≠ k → x ≠ j → x ≠ i → f x = cp x) := Lib.hid fun x h1 h2 h3 => by rw [hf, upd_ne _ _ h3, upd_ne _ _ h2, upd_ne _ _ h1]
                    have FV : RowKit.Hid (∀ x, ∃ y, f x = cp y) := Lib.hid fun x => by
                      rw [hf]
                      by_cases e1 : x = i
                      · exact ⟨k, by rw [e1, upd_eq]⟩
                      rw [upd_ne _ _ e1]
                      by_cases e2 : x = j
                      · exact ⟨i, by rw [e2, upd_eq]⟩
                      rw [upd_ne _ _ e2]
                      by_cases e3 : x = k
                      · exact ⟨j, by rw [e3, upd_eq]⟩
                      exact ⟨x, by rw [upd_ne _ _ e3]⟩
                    rw [← hw14]
                    have ak : w14.cell? ⟨g, k, none⟩ = some (.int .i64 xk) := by rw [XK.out]; exact (G9.out.below B10.out G9.out.lt).cellE (arr_get _ hlt)
                    have aj : w14.cell? ⟨g, j, none⟩ = some (.int .i64 xj) := by rw [XJ.out]; exact (G9.out.below B10.out G9.out.lt).cellE (arr_get _ hjl)
                    clear hw14 hf bk bf c1 c2 ai B910 G10 R10 R11 R12 R13
                    go_upto_if 131 with fail
                    go_cut [] (fun wx => ∃ f2, RowF w9.heap.size wx gb L.length cap f2 ∧ Below w9.heap.size w9 wx ∧ (∀ x, x ≠ k → x ≠ j → x ≠ i → f2 x = cp x) ∧ ∀ x, ∃ y, f2 x = cp y)
                    case first =>
                      by_cases hij2 : i = j
                      · have e27 : ((i : Int) == (j : Int)) = true := by simp; omega
                        have e27' : (i == j) = true := by simpa using hij2
                        clear hij2
                        obtain ⟨zk, hzk⟩ : ∃ zk, zk = oi (f k) := ⟨_, rfl⟩
                        obtain ⟨zj, hzj⟩ : ∃ zj, zj = oi (f j) := ⟨_, rfl⟩
                        have bk : w14.cell? ⟨gb, k, none⟩ = some (.int .i64 zk) := by rw [hzk]; exact R14.out.cell hlt
                        have bf := R14.out.fz
                        have R15 : RowKit.Hid (RowF w9.heap.size (w14.setCell ⟨gb, k, none⟩ (.int .i64 xj)) gb L.length cap (upd f k (cp j))) := Lib.hid (by rw [XJ.out]; exact R14.out.set k (cp j))
                        have R16 : RowKit.Hid (RowF w9.heap.size ((w14.setCell ⟨gb, k, none⟩ (.int .i64 xj)).setCell ⟨gb, j, none⟩ (.int .i64 xk)) gb L.length cap (upd (upd f k (cp j)) j (cp k))) := Lib.hid (by rw [XK.out]; exact R15.out.set j (cp k))
                        have c1 : (w14.setCell ⟨gb, k, none⟩ (.int .i64 xj)).cell? ⟨gb, j, none⟩ = some (.int .i64 zj) := by rw [R15.out.cell hjl, upd_ne _ _ (by omega), ← hzj]
                        clear hzk hzj
                        go_wp2_with fail
                        go_region
                        obtain ⟨f2, hf⟩ : ∃ f2, f2 = upd (upd f k (cp j)) j (cp k) := ⟨_, rfl⟩
                        obtain ⟨w16, hw16⟩ : ∃ w16, w16 = ((w14.setCell ⟨gb, k, none⟩ (.int .i64 xj)).setCell ⟨gb, j, none⟩ (.int .i64 xk)).drew := ⟨_, rfl⟩
                        have R17 : RowKit.Hid (RowF w9.heap.size w16 gb L.length cap f2) := Lib.hid (by rw [hw16, hf]; exact R16.out.keep (Below.refl _ _).drew)
                        have B16 : RowKit.Hid (Below w9.heap.size w9 w16) := Lib.hid (by rw [hw16]; exact ((B10.out.setCell R14.out.at_.1 _).setCell R14.out.at_.1 _).drew)
                        have OFF2 : RowKit.Hid (∀ x, x ≠ k → x ≠ j → x ≠ i → f2 x = cp x) := Lib.hid fun x h1 h2 h3 => by rw [hf, upd_ne _ _ h2, upd_ne _ _ h1]; exact OFF.out x h1 h2 h3
                        have FV2 : RowKit.Hid (∀ x, ∃ y, f2 x = cp y) := Lib.hid fun x => by
                          rw [hf]
                          by_cases e2 : x = j
                          · exact ⟨k, by rw [e2, upd_eq]⟩
                          rw [upd_ne _ _ e2]
                          by_cases e3 : x = k
                          · exact ⟨j, by rw [e3, upd_eq]⟩
                          rw [upd_ne _ _ e3]; exact FV.out x
                        rw [← hw16]
                        clear hw16 hf bk bf c1 R15 R16 e27 e27' aj ak R14 B10 OFF FV
                        go_wp2_with fail
                        go_meet
                        case rel => exact ⟨f2, R17.out, B16.out, OFF2.out, FV2.out⟩
                      · have e27 : ((i : Int) == (j : Int)) = false := by simp; omega
                        have e27' : (i == j) = false := by simpa using hij2
                        clear hij2
                        go_wp2_with fail
                        go_meet
                        case rel => exact ⟨f, R14.out, B10.out, OFF.out, FV.out⟩
                    case rest =>
                      obtain ⟨f2, hc1, hc2, hc3, hc4⟩ := hcut
                      obtain ⟨w16, rfl⟩ : ∃ w16 : World, w16 = wc := ⟨_, rfl⟩
                      have R17 := Lib.hid hc1
                      have B16 := Lib.hid hc2
                      have OFF2 := Lib.hid hc3
                      have FV2 := Lib.hid hc4
                      clear hc1 hc2 hc3 hc4 aj ak R14 B10 OFF FV
                      go_wp2_with fail
                      refine (KC.out _ w9.heap.size gb cap f2 (B9.out.trans (B16.out.mono B9.out.size)) R17.out fun x => ⟨_, rfl, by
                        obtain ⟨y, hy⟩ := FV2.out x
                        obtain ⟨z, h1, h2⟩ := FB.out y
                        rw [hy, h1]; exact h2⟩).mono ?_
                      rintro e w17 ⟨rfl, hb⟩
                      have B17 := Lib.hid ((B9.out.trans (B16.out.mono B9.out.size)).trans (hb.mono ((B9.out.trans (B16.out.mono B9.out.size))).size))
                      have R18 := Lib.hid (R17.out.keep hb)
                      have G17 := Lib.hid (G6.out.below B17.out G6.out.lt)
                      have SW := Lib.hid (fun n' h e1 e2 e3 => hswap.out (f := f2) (n' := n') OFF2.out h hlt hjl hil e1 e2 e3)
                      have ak : w17.cell? ⟨g, k, none⟩ = some (.int .i64 xk) := by rw [XK.out]; exact G17.out.cellE (arr_get _ hlt)
                      have aj : w17.cell? ⟨g, j, none⟩ = some (.int .i64 xj) := by rw [XJ.out]; exact G17.out.cellE (arr_get _ hjl)
                      have ai : w17.cell? ⟨g, i, none⟩ = some (.int .i64 xi) := by rw [XI.out]; exact G17.out.cellE (arr_get _ hil)
                      rw [← XK.out, ← XJ.out, ← XI.out] at SW
                      have bk := R18.out.cell hlt
                      have bj := R18.out.cell hjl
                      have bi := R18.out.cell hil
                      obtain ⟨yk, hyk⟩ : ∃ yk, yk = oi (f2 k) := ⟨_, rfl⟩
                      obtain ⟨yj, hyj⟩ : ∃ yj, yj = oi (f2 j) := ⟨_, rfl⟩
                      obtain ⟨yi, hyi⟩ : ∃ yi, yi = oi (f2 i) := ⟨_, rfl⟩
                      rw [← hyk] at bk SW
                      rw [← hyj] at bj SW
                      rw [← hyi] at bi SW
                      obtain ⟨r, hr⟩ : ∃ r, r = costF P (outL f2 L.length) := ⟨_, rfl⟩
                      rw [← hr] at SW ⊢
                      clear hr hb hyk hyj hyi
                      obtain ⟨n', fine⟩ := r
                      dsimp only
                      go_upto_region 30 with fail
                      go_cut [198] (fun v wx => v = .bool false ∧ Below w17.heap.size w17 wx)
                      case first =>
                        cases fine
                        · clear SW
                          go_wp2_with fail
                          go_quiet (fail)
                          rename_i nq
                          have B18 := Lib.hid (bdrewN (Below.refl w17.heap.size w17) nq)
                          go_wp2_with fail
                          go_meet
                          case rel => exact ⟨rfl, B18.out⟩
                        · by_cases hnn : n' < n
                          · have hno := SW.out n' rfl
                            clear SW
                            by_cases e1 : decide (0 ≤ yk) = decide (0 ≤ xk)
                            · have q1 : (decide (0 ≤ yk) == decide (0 ≤ xk)) = true := by rw [e1]; simp
                              by_cases e2 : decide (0 ≤ yj) = decide (0 ≤ xj)
                              · have q2 : (decide (0 ≤ yj) == decide (0 ≤ xj)) = true := by rw [e2]; simp
                                have e3 : ¬ decide (0 ≤ yi) = decide (0 ≤ xi) := fun e3 => by have := hno e1 e2 e3; omega
                                have q3 : (decide (0 ≤ yi) == decide (0 ≤ xi)) = false := by simpa using e3
                                clear hno e1 e2 e3
                                go_wp2_with fail
                                go_quiet (fail)
                                rename_i nq
                                have B18 := Lib.hid (bdrewN (Below.refl w17.heap.size w17) nq)
                                go_wp2_with fail
                                go_meet
                                case rel => exact ⟨rfl, B18.out⟩
                              · have q2 : (decide (0 ≤ yj) == decide (0 ≤ xj)) = false := by simpa using e2
                                clear hno e1 e2
                                go_wp2_with fail
                                go_quiet (fail)
                                rename_i nq
                                have B18 := Lib.hid (bdrewN (Below.refl w17.heap.size w17) nq)
                                go_wp2_with fail
                                go_meet
                                case rel => exact ⟨rfl, B18.out⟩
                            · have q1 : (decide (0 ≤ yk) == decide (0 ≤ xk)) = false := by simpa using e1
                              clear hno e1
                              go_wp2_with fail
                              go_quiet (fail)
                              rename_i nq
                              have B18 := Lib.hid (bdrewN (Below.refl w17.heap.size w17) nq)
                              go_wp2_with fail
                              go_meet
                              case rel => exact ⟨rfl, B18.out⟩
                          · have d1 : decide (n' < n) = false := decide_eq_false hnn
                            clear SW
                            go_wp2_with fail
                            go_quiet (fail)
                            rename_i nq
                            have B18 := Lib.hid (bdrewN (Below.refl w17.heap.size w17) nq)
                            go_wp2_with fail
                            go_meet
                            case rel => exact ⟨rfl, B18.out⟩
                      case rest =>
                        obtain ⟨hv, hw⟩ := hcut
                        subst hv
                        have B18 := Lib.hid (B17.out.trans (hw.mono B17.out.size))
                        clear hw SW ak aj ai bk bj bi
                        go_wp2_with fail
                        go_roundg (g4 - 1)
                        case measure => omega
                        case rel => exact ⟨i + 1, by omega, by go_num, B18.out⟩
                  case neg =>
                    obtain rfl : i = j + 1 := by omega
                    go_wp2_with fail
                    go_roundg (g3 - 1)
                    case measure => omega
                    case rel => exact ⟨j + 1, by omega, by go_num, B9.out⟩
              · obtain rfl : j = k := by omega
                go_wp2_with fail
                go_roundg (g1 - 1)
                case measure => omega
                case rel => exact ⟨j + 1, by omega, by go_num, B8.out⟩
    · obtain rfl : k = L.length := by omega
      have F := Lib.hid (ST6.out.bel.trans (B1.out.mono ST6.out.bel.size))
      go_wp2_with fail
      go_ret
      exact ⟨rfl, F.out⟩
end Go.Proofs.Ytpcmppamkgkdlaa
