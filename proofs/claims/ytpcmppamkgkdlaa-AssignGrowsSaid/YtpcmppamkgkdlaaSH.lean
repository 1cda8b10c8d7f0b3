/- The contract of paths. -/
import Derived.Test.YtpcmppamkgkdlaaSG
import Derived.Test.YtpcmppamkgkdlaaSD
import Derived.RegionTactic
import Derived.IntWalk
import Derived.Deep.RegionHeld3
namespace Go.Proofs.Ytpcmppamkgkdlaa
open Go.RowKit

def PathsE (w : World) (E : List Edge) (src : Option Nat) (N : Nat) (e : Ending) (w' : World) : Prop :=
  ∃ (cb bb k : Nat), k < N ∧ e = .returned (.tuple #[.slice (some ⟨cb, 0, none⟩) N N, .slice (some ⟨bb, 0, none⟩) N N, .int .i64 (oi (rounds E src (k + 1)).chg)]) ∧
    BM w' cb bb N (rounds E src (k + 1)) ∧ w.heap.size ≤ cb ∧ w.heap.size ≤ bb ∧ Below w.heap.size w w' ∧ ((rounds E src (k + 1)).chg = none ∨ k + 1 = N)
set_option maxRecDepth 100000 in
set_option maxHeartbeats 4000000 in
theorem paths_any {P : Prob} (hP : Fits P) (s : SL) (cp wn : Nat → Option Nat) (w : World) (src : Option Nat) (E : List Edge) (ev : Value) (B : Nat) (hs : ∀ a, src = some a → a < P.n + 1)
    (hE : EOk E (P.n + 1)) (hev : EdAt w B ev E) (h : SM P s w cp wn) :
    Calls Try.prog 34 #[pt s.sb, .int .i64 (oi src), ev] w (PathsE w E src (P.n + 1)) := by
  have hn1 := hP.n
  have hmk : ∀ W, (Instr.makeSlice 30 (.int .i64 ((P.n : Int) + 1)) (.int .i64 ((P.n : Int) + 1))).run Try.prog W = .ok (.slice (some ⟨W.heap.size, 0, none⟩) (P.n + 1) (P.n + 1)) (W.alloc (.cells (encC (fun _ => 0) (P.n + 1)) 3)) := fun W => mk30 (P.n + 1) (by omega) W
  have s2 : w.cell? ⟨s.sb, 2, none⟩ = some (.int .i64 P.n) := h.blk.cell 2
  obtain ⟨ea, ecap, rfl, hev⟩ := hev
  obtain ⟨z, hz⟩ : ∃ z, z = oi src := ⟨_, rfl⟩
  have HZ := Lib.hid hz
  have HE := Lib.hid hE
  have HEV := Lib.hid hev
  have HS := Lib.hid hs
  have H := Lib.hid h
  have hel := hE.len
  rw [← hz]
  clear hE hev hs h hP hz
  go_enter Try.func34, Try.ntmps34
  go_wp2_with fail
  go_region
  obtain ⟨W, hW⟩ : ∃ W, W = ((w.alloc (Obj.cells (encC (fun x => 0) (P.n + 1)) 3)).alloc (Obj.cells (encC (fun x => 0) (P.n + 1)) 3)).drew := ⟨_, rfl⟩
  obtain ⟨cb, hcb⟩ : ∃ cb, cb = w.heap.size := ⟨_, rfl⟩
  obtain ⟨bb, hbb⟩ : ∃ bb, bb = w.heap.size + 1 := ⟨_, rfl⟩
  have WB : RowKit.Hid (Below w.heap.size w W) := Lib.hid (by rw [hW]; exact (((Below.refl _ _).alloc (Nat.le_refl _) _).alloc (by simp) _).drew)
  have WC : RowKit.Hid (Blk W cb (encC (fun x => 0) (P.n + 1)) 3) := Lib.hid (by rw [hW, hcb]; exact (Blk.new w _ 3).alloc _)
  have WBB : RowKit.Hid (Blk W bb (encC (fun x => 0) (P.n + 1)) 3) := Lib.hid (by rw [hW, hbb]; exact Blk.at_new (by simp) _ 3)
  have hlc : w.heap.size ≤ cb ∧ w.heap.size ≤ bb := by omega
  have hne : cb ≠ bb := by omega
  rw [← hW]
  rw [← hbb, ← hcb]
  clear hW hcb hbb
  rotate_left
  obtain ⟨W, hW⟩ : ∃ W, W = ((w.alloc (Obj.cells (encC (fun x => 0) (P.n + 1)) 3)).alloc (Obj.cells (encC (fun x => 0) (P.n + 1)) 3)).drew := ⟨_, rfl⟩
  obtain ⟨cb, hcb⟩ : ∃ cb, cb = w.heap.size + 1 := ⟨_, rfl⟩
  obtain ⟨bb, hbb⟩ : ∃ bb, bb = w.heap.size := ⟨_, rfl⟩
  have WB : RowKit.Hid (Below w.heap.size w W) := Lib.hid (by rw [hW]; exact (((Below.refl _ _).alloc (Nat.le_refl _) _).alloc (by simp) _).drew)
  have WC : RowKit.Hid (Blk W cb (encC (fun x => 0) (P.n + 1)) 3) := Lib.hid (by rw [hW, hcb]; exact Blk.at_new (by simp) _ 3)
  have WBB : RowKit.Hid (Blk W bb (encC (fun x => 0) (P.n + 1)) 3) := Lib.hid (by rw [hW, hbb]; exact (Blk.new w _ 3).alloc _)
  have hlc : w.heap.size ≤ cb ∧ w.heap.size ≤ bb := by omega
  have hne : cb ≠ bb := by omega
  rw [← hW]
  rw [← hcb, ← hbb]
  clear hW hcb hbb
  rotate_left
  all_goals (
    obtain ⟨N, hN⟩ : ∃ N, N = P.n + 1 := ⟨_, rfl⟩
    have HNN := Lib.hid hN
    have hN1 : 1 ≤ N ∧ N ≤ 1001 := by omega
    rw [show (P.n : Int) + 1 = (N : Int) by omega, ← hN]
    rw [← hN] at HE HS WC WBB
    have NE := Lib.hid hne
    clear hN hmk s2
    go_wp2_with fail
    go_loopw [27] (fun x wr => ∃ c : Nat, c ≤ N ∧ x = .int .i64 c ∧ Tn (fun b => b = cb ∨ b = bb) W wr ∧ Blk wr cb (encC (fun v => if v < c then (start src).cost v else 0) N) 3 ∧ Blk wr bb (encC (fun v => if v < c then -1 else 0) N) 3) (fun x _ => N - (intOf x).toNat)
    case atStart => exact ⟨0, by omega, rfl, Tn.refl _ _, WC.out, WBB.out⟩
    case round =>
      obtain ⟨c, hc, rfl, hT, hC, hB⟩ := hrel
      have T1 := Lib.hid hT
      have C1 := Lib.hid hC
      have B1 := Lib.hid hB
      clear hT hC hB
      by_cases hlt : c < N
      · have b0 := B1.out.cellE (arr_get _ hlt)
        have bf := B1.out.frozen
        have B2 : RowKit.Hid (Blk (wr.setCell ⟨bb, c, none⟩ (.int .i64 (-1))) bb (encC (fun v => if v < c + 1 then -1 else 0) N) 3) := Lib.hid ((B1.out.set c _).cast (fill_set (fun _ => -1) hlt (-1) rfl))
        have C2 := Lib.hid (C1.out.set_ne ⟨bb, c, none⟩ (.int .i64 (-1)) NE.out)
        have T2 : RowKit.Hid (Tn (fun b => b = cb ∨ b = bb) W (wr.setCell ⟨bb, c, none⟩ (.int .i64 (-1)))) := Lib.hid (T1.out.setCell (p := ⟨bb, c, none⟩) (.inl (.inr rfl)) _)
        by_cases hz : z = -1
        · have hz1 : (z != -1) = false := by simpa using hz
          have hsn : src = none := oi_none.1 (by rw [← HZ.out]; exact hz)
          have C3 : RowKit.Hid (Blk (wr.setCell ⟨bb, c, none⟩ (.int .i64 (-1))) cb (encC (fun v => if v < c + 1 then (start src).cost v else 0) N) 3) := Lib.hid (C2.out.cast (fill_skip _ (by rw [hsn]; rfl)))
          clear hz hsn
          go_wp2_with fail
          exact ⟨⟨c + 1, by omega, by go_num, T2.out, C3.out, B2.out⟩, by simp [intOf]; omega⟩
        · have hz1 : (z != -1) = true := by simpa using hz
          have HSA : RowKit.Hid (∃ a : Nat, src = some a ∧ z = (a : Int)) := Lib.hid (by
            cases e : src with
            | none => rw [e] at HZ; exact absurd HZ.out hz
            | some a => rw [e] at HZ; exact ⟨a, rfl, HZ.out⟩)
          clear hz
          by_cases hcz : (c : Int) = z
          · have hcz1 : ((c : Int) != z) = false := by simpa using hcz
            have C3 : RowKit.Hid (Blk (wr.setCell ⟨bb, c, none⟩ (.int .i64 (-1))) cb (encC (fun v => if v < c + 1 then (start src).cost v else 0) N) 3) := Lib.hid (C2.out.cast (fill_skip _ (by
              obtain ⟨a, h1, h2⟩ := HSA.out
              rw [h1, show c = a by omega]; exact start_same a)))
            clear hcz
            go_wp2_with fail
            exact ⟨⟨c + 1, by omega, by go_num, T2.out, C3.out, B2.out⟩, by simp [intOf]; omega⟩
          · have hcz1 : ((c : Int) != z) = true := by simpa using hcz
            have c0 := C2.out.cellE (arr_get _ hlt)
            have cf := C2.out.frozen
            have C3 : RowKit.Hid (Blk ((wr.setCell ⟨bb, c, none⟩ (.int .i64 (-1))).setCell ⟨cb, c, none⟩ (.int .i64 1152921504606846976)) cb (encC (fun v => if v < c + 1 then (start src).cost v else 0) N) 3) := Lib.hid ((C2.out.set c _).cast (fill_set _ hlt _ (by
              obtain ⟨a, h1, h2⟩ := HSA.out
              rw [h1]; exact (start_other (by omega)).symm)))
            have B3 := Lib.hid (B2.out.set_ne ⟨cb, c, none⟩ (.int .i64 1152921504606846976) (Ne.symm NE.out))
            have T3 := Lib.hid (T2.out.setCell (p := ⟨cb, c, none⟩) (.inl (.inl rfl)) (.int .i64 1152921504606846976))
            clear hcz
            go_wp2_with fail
            exact ⟨⟨c + 1, by omega, by go_num, T3.out, C3.out, B3.out⟩, by simp [intOf]; omega⟩
      · obtain rfl : c = N := by omega
        have M1 : RowKit.Hid (BM wr cb bb c (rounds E src 0)) := Lib.hid ⟨by show Blk wr cb (encC (start src).cost c) 3; rw [← (start_done src c).1]; exact C1.out, by show Blk wr bb (encO (start src).bef c) 3; rw [← (start_done src c).2]; exact B1.out, NE.out⟩
        obtain ⟨N, rfl⟩ : ∃ N, N = c := ⟨_, rfl⟩
        clear C1 B1 WC WBB
        go_wp2_with fail
        have T0 := T1
        clear T1
        go_loopw [8, 45] (fun v x wr => ∃ (k : Nat) (y : Int), k ≤ N ∧ x = .int .i64 k ∧ v = .int .i64 y ∧ BM wr cb bb N (rounds E src k) ∧ Tn (fun b => b = cb ∨ b = bb) W wr ∧ (k < N → y = -1) ∧ (k = N → y = oi (rounds E src N).chg)) (fun _ x _ => N - (intOf x).toNat)
        case atStart => exact ⟨0, -1, by omega, rfl, rfl, M1.out, T0.out, fun _ => rfl, fun e => by omega⟩
        case round =>
          obtain ⟨wo, rfl⟩ : ∃ wo : World, wo = wr := ⟨_, rfl⟩
          obtain ⟨k, y, hk, rfl, rfl, hM, hT, hy1, hy2⟩ := hrel
          have M2 := Lib.hid hM
          have T2 := Lib.hid hT
          clear hM hT M1 T0
          by_cases hkN : k < N
          · obtain rfl := hy1 hkN
            clear hy1 hy2
            have M3 : RowKit.Hid (BM wo cb bb N (mid E src k 0)) := Lib.hid M2.out.again
            go_wp2_with fail
            go_loopw [12, 50] (fun v x wr => ∃ (j : Nat) (s : BF) (q : Int), j ≤ E.length ∧ x = .int .i64 j ∧ s = mid E src k j ∧ q = oi s.chg ∧ v = .int .i64 q ∧ BM wr cb bb N s ∧ Tn (fun b => b = cb ∨ b = bb) W wr) (fun _ x _ => E.length - (intOf x).toNat)
            case atStart => exact ⟨0, _, _, by omega, rfl, rfl, rfl, rfl, M3.out, T2.out⟩
            case round =>
              obtain ⟨j, t, q, hj, rfl, ht, hq, rfl, hM, hT⟩ := hrel
              have M4 := Lib.hid hM
              have T4 := Lib.hid hT
              have HT := Lib.hid ht
              have HQ := Lib.hid hq
              clear hM hT hq
              by_cases hjE : j < E.length
              · have hbd := mid_bd (src := src) HE.out k j hj
                have MS := Lib.hid (mid_succ E src k hjE)
                rw [← ht] at hbd MS
                have hmem : E[j] ∈ E := List.getElem_mem hjE
                have he1 := HE.out.lt _ hmem
                have he2 := HE.out.wt _ hmem
                rcases HEV.out with h | ⟨g, rfl, hg, hcl⟩
                · rw [h] at hjE; simp at hjE
                have hgl := cell_lt ((hcl j hjE 0 (by omega)).trans (List.getElem?_eq_getElem (l := enc3 E[j]) (by simp [enc3])))
                have hgl' : g < w.heap.size := hgl
                have cells : ∀ i, i < 3 → wr.cell? ⟨g, j * 3 + i, none⟩ = (enc3 E[j])[i]? := fun i hi => by
                  rw [← hcl j hjE i hi]
                  have hgW : g < W.heap.size := Nat.lt_of_lt_of_le hgl' WB.out.size
                  rw [World.cell?_of_block (a := ⟨g, j * 3 + i, none⟩) (T4.out.block g hgW (by show ¬ (g = cb ∨ g = bb); omega))]
                  exact WB.out.cell (p := ⟨g, j * 3 + i, none⟩) hgl'
                have e0 := cells 0 (by omega)
                have e1 := cells 1 (by omega)
                have e2 := cells 2 (by omega)
                have HCL := Lib.hid hcl
                obtain ⟨⟨a, b, x⟩, hex⟩ : ∃ e : Edge, e = E[j] := ⟨_, rfl⟩
                rw [← hex] at he1 he2 e0 e1 e2 MS
                have f0 : wr.cell? ⟨g, j * 3, none⟩ = some (.int .i64 (a : Int)) := e0
                have f1 : wr.cell? ⟨g, j * 3 + 1, none⟩ = some (.int .i64 (b : Int)) := e1
                have f2 : wr.cell? ⟨g, j * 3 + 2, none⟩ = some (.int .i64 x) := e2
                obtain ⟨ha, hb, hab⟩ := he1
                obtain ⟨hx1, hx2⟩ := he2
                have ha' : a < N := ha
                have hb' : b < N := hb
                have hab' : a ≠ b := hab
                have hx1' : -1000000 ≤ x := hx1
                have hx2' : x ≤ 1000000 := hx2
                have bda := hbd a
                have bdb := hbd b
                clear e0 e1 e2 hcl cells hex hmem hgl ha hb hab hx1 hx2 ht hbd
                obtain ⟨ca, hca⟩ : ∃ ca, ca = t.cost a := ⟨_, rfl⟩
                obtain ⟨cc, hcc⟩ : ∃ cc, cc = t.cost b := ⟨_, rfl⟩
                rw [← hca] at bda
                rw [← hcc] at bdb
                have HCA := Lib.hid hca
                have HCC := Lib.hid hcc
                clear hca hcc
                go_wp2_with fail
                obtain ⟨eb, heb⟩ : ∃ eb, eb = wr.heap.size := ⟨_, rfl⟩
                obtain ⟨W1, hW1⟩ : ∃ W1, W1 = wr.alloc (.cells #[.int .i64 (a : Int), .int .i64 (b : Int), .int .i64 x] 81) := ⟨_, rfl⟩
                have EB : RowKit.Hid (Blk W1 eb #[.int .i64 (a : Int), .int .i64 (b : Int), .int .i64 x] 81) := Lib.hid (by rw [hW1, heb]; exact Blk.new _ _ _)
                have M5 : RowKit.Hid (BM W1 cb bb N t) := Lib.hid (by rw [hW1]; exact M4.out.below ((Below.refl _ _).alloc (Nat.le_refl _) _))
                have T5 : RowKit.Hid (Tn (fun b => b = cb ∨ b = bb) W W1) := Lib.hid (by rw [hW1]; exact T4.out.alloc _)
                have nec : eb ≠ cb ∧ eb ≠ bb := by have := M4.out.cost.lt; have := M4.out.bef.lt; omega
                have NEC := Lib.hid nec
                rw [← hW1, ← heb]
                clear hW1 heb nec f0 f1 f2
                have g0 : W1.cell? ⟨eb, 0, none⟩ = some (.int .i64 (a : Int)) := EB.out.cell 0
                have g1 : W1.cell? ⟨eb, 1, none⟩ = some (.int .i64 (b : Int)) := EB.out.cell 1
                have g2 : W1.cell? ⟨eb, 2, none⟩ = some (.int .i64 x) := EB.out.cell 2
                have k0 : W1.cell? ⟨cb, a, none⟩ = some (.int .i64 ca) := by rw [HCA.out]; exact M5.out.cost.cellE (arr_get _ ha')
                have k1 : W1.cell? ⟨cb, b, none⟩ = some (.int .i64 cc) := by rw [HCC.out]; exact M5.out.cost.cellE (arr_get _ hb')
                have ia : (0 : Int) ≤ (a : Int) := by omega
                have ia1 : (a : Int) < (N : Int) := by omega
                have ib : (0 : Int) ≤ (b : Int) := by omega
                have ib1 : (b : Int) < (N : Int) := by omega
                by_cases h1 : ca < 1152921504606846976
                · have h1' : decide (ca < 1152921504606846976) = true := by simpa using h1
                  by_cases h2 : ca + x < cc
                  · have h2' : decide (ca + x < cc) = true := by simpa using h2
                    have hwr : IntKind.i64.wrap (ca + x) = ca + x := IntWalk.i64_in _ (by omega)
                    have HC : RowKit.Hid (t.cost a < endl ∧ t.cost a + x < t.cost b) := Lib.hid (by rw [← HCA.out, ← HCC.out]; exact ⟨h1, h2⟩)
                    clear h1 h2
                    go_quiet (fail)
                    rename_i nq
                    clear hwr h1' h2' k1
                    have EB2 := Lib.hid (EB.out.drewN nq)
                    have M6 := Lib.hid (M5.out.below (bdrewN (Below.refl _ _) nq))
                    have T6 := Lib.hid (T5.out.drewN nq)
                    clear g0 g1 g2 k0 EB M5 T5
                    generalize W1.drewN nq = w2 at *
                    have g0 : w2.cell? ⟨eb, 0, none⟩ = some (.int .i64 (a : Int)) := EB2.out.cell 0
                    have g1 : w2.cell? ⟨eb, 1, none⟩ = some (.int .i64 (b : Int)) := EB2.out.cell 1
                    have g2 : w2.cell? ⟨eb, 2, none⟩ = some (.int .i64 x) := EB2.out.cell 2
                    have k0 : w2.cell? ⟨cb, a, none⟩ = some (.int .i64 ca) := by rw [HCA.out]; exact M6.out.cost.cellE (arr_get _ ha')
                    have k1 : w2.cell? ⟨cb, b, none⟩ = some (.int .i64 cc) := by rw [HCC.out]; exact M6.out.cost.cellE (arr_get _ hb')
                    have kf := M6.out.cost.frozen
                    have E1 := Lib.hid (EB2.out.set_ne ⟨cb, b, none⟩ (.int .i64 (ca + x)) NEC.out.1)
                    have E2 := Lib.hid (E1.out.set_ne ⟨bb, b, none⟩ (.int .i64 (a : Int)) NEC.out.2)
                    have C1 := Lib.hid (M6.out.cost.set b (.int .i64 (ca + x)))
                    have C2 := Lib.hid (C1.out.set_ne ⟨bb, b, none⟩ (.int .i64 (a : Int)) NE.out)
                    have B1 := Lib.hid (M6.out.bef.set_ne ⟨cb, b, none⟩ (.int .i64 (ca + x)) (Ne.symm NE.out))
                    have CA : RowKit.Hid (((encC t.cost N).setIfInBounds b (.int .i64 (ca + x)))[a]? = some (.int .i64 ca)) := Lib.hid (by
                      rw [Array.getElem?_setIfInBounds_ne (fun e => hab' e.symm), arr_get _ ha', HCA.out])
                    have c1 : (w2.setCell ⟨cb, b, none⟩ (.int .i64 (ca + x))).cell? ⟨bb, b, none⟩ = some (.int .i64 (oi (t.bef b))) := B1.out.cellE (arr_get _ hb')
                    have cf1 := B1.out.frozen
                    have HX1 : RowKit.Hid ((w2.setCell ⟨cb, b, none⟩ (.int .i64 (ca + x))).drew.cell? ⟨eb, 0, none⟩ = some (.int .i64 (a : Int)) ∧ (w2.setCell ⟨cb, b, none⟩ (.int .i64 (ca + x))).drew.cell? ⟨eb, 1, none⟩ = some (.int .i64 (b : Int)) ∧ (w2.setCell ⟨cb, b, none⟩ (.int .i64 (ca + x))).drew.cell? ⟨eb, 2, none⟩ = some (.int .i64 x) ∧ (w2.setCell ⟨cb, b, none⟩ (.int .i64 (ca + x))).drew.cell? ⟨cb, a, none⟩ = some (.int .i64 ca)) := Lib.hid ⟨E1.out.cell 0, E1.out.cell 1, E1.out.cell 2, (C1.out.cell a).trans CA.out⟩
                    have HX2 : RowKit.Hid (((w2.setCell ⟨cb, b, none⟩ (.int .i64 (ca + x))).setCell ⟨bb, b, none⟩ (.int .i64 (a : Int))).drew.cell? ⟨eb, 0, none⟩ = some (.int .i64 (a : Int)) ∧ ((w2.setCell ⟨cb, b, none⟩ (.int .i64 (ca + x))).setCell ⟨bb, b, none⟩ (.int .i64 (a : Int))).drew.cell? ⟨eb, 1, none⟩ = some (.int .i64 (b : Int)) ∧ ((w2.setCell ⟨cb, b, none⟩ (.int .i64 (ca + x))).setCell ⟨bb, b, none⟩ (.int .i64 (a : Int))).drew.cell? ⟨eb, 2, none⟩ = some (.int .i64 x) ∧ ((w2.setCell ⟨cb, b, none⟩ (.int .i64 (ca + x))).setCell ⟨bb, b, none⟩ (.int .i64 (a : Int))).drew.cell? ⟨cb, a, none⟩ = some (.int .i64 ca)) := Lib.hid ⟨E2.out.cell 0, E2.out.cell 1, E2.out.cell 2, (C2.out.cell a).trans CA.out⟩
                    have M7 : RowKit.Hid (BM ((w2.setCell ⟨cb, b, none⟩ (.int .i64 (ca + x))).setCell ⟨bb, b, none⟩ (.int .i64 (a : Int))).drew cb bb N (mid E src k (j + 1))) := Lib.hid (by
                      rw [MS.out, HCA.out]; exact (M6.out.relax hb' HC.out).below (Below.refl _ _).drew)
                    have T7 : RowKit.Hid (Tn (fun b => b = cb ∨ b = bb) W ((w2.setCell ⟨cb, b, none⟩ (.int .i64 (ca + x))).setCell ⟨bb, b, none⟩ (.int .i64 (a : Int))).drew) := Lib.hid ((T6.out.setCell (p := ⟨cb, b, none⟩) (.inl (.inl rfl)) _).setCell (p := ⟨bb, b, none⟩) (.inl (.inr rfl)) _).drew
                    have Q7 : RowKit.Hid ((b : Int) = oi (mid E src k (j + 1)).chg) := Lib.hid (by rw [MS.out, relax_yes HC.out]; rfl)
                    go_wp2_with fail
                    have hwr : IntKind.i64.wrap (ca + x) = ca + x := IntWalk.i64_in _ (by omega)
                    go_region_held3 (fun w' => w'.cell? ⟨eb, 0, none⟩ = some (.int .i64 (a : Int)) ∧ w'.cell? ⟨eb, 1, none⟩ = some (.int .i64 (b : Int)) ∧ w'.cell? ⟨eb, 2, none⟩ = some (.int .i64 x) ∧ w'.cell? ⟨cb, a, none⟩ = some (.int .i64 ca)) (first | exact ⟨g0, g1, g2, k0⟩ | exact HX1.out | exact HX2.out) (fail)
                    clear hwr g0 g1 g2 k0 k1 kf c1 cf1
                    have g1 : ((w2.setCell ⟨cb, b, none⟩ (.int .i64 (ca + x))).setCell ⟨bb, b, none⟩ (.int .i64 (a : Int))).cell? ⟨eb, 1, none⟩ = some (.int .i64 (b : Int)) := E2.out.cell 1
                    go_wp2_with fail
                    exact ⟨⟨j + 1, _, _, by omega, by go_num, rfl, rfl, vint Q7.out, M7.out, T7.out⟩, by simp [intOf]; omega⟩
                  · have h2' : decide (ca + x < cc) = false := by simpa using h2
                    have hwr : IntKind.i64.wrap (ca + x) = ca + x := IntWalk.i64_in _ (by omega)
                    have HC : RowKit.Hid (¬ (t.cost a < endl ∧ t.cost a + x < t.cost b)) := Lib.hid (by rw [← HCA.out, ← HCC.out]; exact fun h => h2 h.2)
                    clear h1 h2
                    go_quiet (fail)
                    rename_i nq
                    clear hwr
                    have M6 : RowKit.Hid (BM (W1.drewN nq) cb bb N (mid E src k (j + 1))) := Lib.hid (by rw [MS.out, relax_no HC.out]; exact M5.out.below (bdrewN (Below.refl _ _) nq))
                    have T6 := Lib.hid (T5.out.drewN nq)
                    have Q6 : RowKit.Hid (q = oi (mid E src k (j + 1)).chg) := Lib.hid (by rw [MS.out, relax_no HC.out]; exact HQ.out)
                    go_wp2_with fail
                    exact ⟨⟨j + 1, _, _, by omega, by go_num, rfl, rfl, vint Q6.out, M6.out, T6.out⟩, by simp [intOf]; omega⟩
                · have h1' : decide (ca < 1152921504606846976) = false := by simpa using h1
                  have HC : RowKit.Hid (¬ (t.cost a < endl ∧ t.cost a + x < t.cost b)) := Lib.hid (by rw [← HCA.out, ← HCC.out]; exact fun h => h1 h.1)
                  clear h1
                  go_quiet (fail)
                  rename_i nq
                  have M6 : RowKit.Hid (BM (W1.drewN nq) cb bb N (mid E src k (j + 1))) := Lib.hid (by rw [MS.out, relax_no HC.out]; exact M5.out.below (bdrewN (Below.refl _ _) nq))
                  have T6 := Lib.hid (T5.out.drewN nq)
                  have Q6 : RowKit.Hid (q = oi (mid E src k (j + 1)).chg) := Lib.hid (by rw [MS.out, relax_no HC.out]; exact HQ.out)
                  go_wp2_with fail
                  exact ⟨⟨j + 1, _, _, by omega, by go_num, rfl, rfl, vint Q6.out, M6.out, T6.out⟩, by simp [intOf]; omega⟩
              · obtain rfl : j = E.length := by omega
                subst ht
                have hma := mid_all E src k
                rw [hma] at M4 HQ
                clear hma HT
                have HBB : RowKit.Hid (Below w.heap.size w wr) := Lib.hid (WB.out.trans (T4.out.below WB.out.size fun b hb => by omega))
                cases hch : (rounds E src (k + 1)).chg with
                | none =>
                  rw [hch] at HQ
                  have hq : q = -1 := HQ.out
                  have HFIN : RowKit.Hid (PathsE w E src N (.returned (.tuple #[.slice (some ⟨cb, 0, none⟩) N N, .slice (some ⟨bb, 0, none⟩) N N, .int .i64 (-1)])) wr) := Lib.hid
                    ⟨cb, bb, k, hkN, by rw [hch]; rfl, M4.out, hlc.1, hlc.2, HBB.out, .inl hch⟩
                  clear hch
                  subst hq
                  go_wp2_with fail
                  go_ret3
                  (rw [← HNN.out]; exact HFIN.out)
                | some v =>
                  rw [hch] at HQ
                  have HCH := Lib.hid hch
                  obtain rfl : q = (v : Int) := HQ.out
                  have hv1 : ((v : Int) == -1) = false := by simp
                  clear hch HQ
                  by_cases hlast : k + 1 = N
                  · have hl1 : ((k : Int) == (N : Int) - 1) = true := by simp; omega
                    have HL : RowKit.Hid ((v : Int) = oi (rounds E src N).chg) := Lib.hid (by rw [← hlast, HCH.out]; rfl)
                    have hlt1 : k + 1 ≤ N := by omega
                    have HLL := Lib.hid hlast
                    clear hlast
                    go_wp2_with fail
                    exact ⟨⟨k + 1, v, by omega, by go_num, rfl, M4.out, T4.out, fun h => by have := HLL.out; omega, fun _ => HL.out⟩, by simp [intOf]; omega⟩
                  · have hl1 : ((k : Int) == (N : Int) - 1) = false := by simp; omega
                    go_wp2_with fail
                    exact ⟨⟨k + 1, -1, by omega, by go_num, rfl, M4.out, T4.out, fun _ => rfl, fun h => absurd h hlast⟩, by simp [intOf]; omega⟩
          · obtain rfl : k = N := by omega
            have HY := hy2 rfl
            have HBB : RowKit.Hid (Below w.heap.size w wo) := Lib.hid (WB.out.trans (T2.out.below WB.out.size fun b hb => by omega))
            obtain ⟨n, hn⟩ : ∃ n, k = n + 1 := ⟨k - 1, by omega⟩
            have HFIN : RowKit.Hid (PathsE w E src k (.returned (.tuple #[.slice (some ⟨cb, 0, none⟩) k k, .slice (some ⟨bb, 0, none⟩) k k, .int .i64 y])) wo) := Lib.hid
              ⟨cb, bb, n, by omega, by rw [← hn, HY], by rw [← hn]; exact M2.out, hlc.1, hlc.2, HBB.out, .inr hn.symm⟩
            clear hy1 hy2 HY hn hkN
            go_wp2_with fail
            go_ret3
            (rw [← HNN.out]; exact HFIN.out))
end Go.Proofs.Ytpcmppamkgkdlaa
