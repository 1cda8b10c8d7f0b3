/- The contract of Assign: the best assignment. -/
import Derived.Test.YtpcmppamkgkdlaaRE
import Derived.Test.YtpcmppamkgkdlaaSL
import Derived.Test.YtpcmppamkgkdlaaSO
import Derived.RegionTactic
namespace Go.Proofs.Ytpcmppamkgkdlaa
open Go.RowKit Go.Shelf

theorem prob_fits (L : List Wt) (A : List Int) (C : List (List Int)) (hl : L.length ≤ 1000) (ha : A.length ≤ 1000) (hl2 : ∀ k, (L.getD k noW).2.length ≤ 1000) : Fits (prob L A C) where
  m := hl
  n := ha
  len := fun k => by
    show ((accI A.length (L.getD k noW).2).map Int.toNat).length ≤ 1000
    rw [List.length_map]
    have := accI_len A.length (L.getD k noW).2
    have := hl2 k
    omega
  sort := prob_sorted L A C
  bd := prob_cst L A C
/-- Who is served is served want by want. -/
def Grd (P : Prob) (cp : Nat → Option Nat) (k : Nat) : Prop := ∀ i, i < k → cp i = none → ∀ q, Mat P q → (∀ j, j < i → (cp j).isSome → (q j).isSome) → q i = none
theorem isSome_none {a b : Option Nat} (h : a.isSome = b.isSome) : a = none ↔ b = none := by cases a <;> cases b <;> simp_all
theorem Grd.step {P : Prob} {cp cp' : Nat → Option Nat} {k : Nat} (h : Grd P cp k) (hz : ∀ j, k ≤ j → cp j = none) (hs : ∀ j, j ≠ k → (cp' j).isSome = (cp j).isSome)
    (hk : (cp' k).isSome ∨ (cp' k = none ∧ ∀ q, Mat P q → (∀ j, (cp j).isSome → (q j).isSome) → q k = none)) : Grd P cp' (k + 1) ∧ ∀ j, k + 1 ≤ j → cp' j = none := by
  refine ⟨fun i hi hn q hq hqs => ?_, fun j hj => (isSome_none (hs j (by omega))).2 (hz j (by omega))⟩
  by_cases e : i = k
  · subst e
    rcases hk with hk | ⟨_, hk⟩
    · rw [hn] at hk; cases hk
    · refine hk q hq fun j hj => ?_
      rcases Nat.lt_or_ge j i with g | g
      · exact hqs j g (by rw [hs j (by omega)]; exact hj)
      · rw [hz j g] at hj; cases hj
  · exact h i (by omega) ((isSome_none (hs i e)).1 hn) q hq fun j hj hsj => hqs j hj (by rw [hs j (by omega)]; exact hsj)
theorem mat_nothing (P : Prob) : Mat P (fun _ => none) := ⟨fun h => (by cases h), fun h => (by cases h)⟩
theorem con_nothing : Con (fun _ => none) (fun _ => none) := fun k c => by simp
theorem lex_none {P : Prob} {cp : Nat → Option Nat} {k : Nat} (h : Lex P cp k) (hn : cp k = none) : Lex P cp (k + 1) := h.next (fun _ _ => rfl) (Same.refl _) rfl fun c d hc => by rw [hn] at hc; cases hc
/-- The result, as a list. -/
def outL (cp : Nat → Option Nat) (m : Nat) : List Int := (List.range m).map fun k => oi (cp k)
def AssignE (P : Prob) (w : World) (e : Ending) (w' : World) : Prop :=
  ∃ (cp : Nat → Option Nat) (g : Nat), e = .returned (.slice (some ⟨g, 0, none⟩) P.m P.m) ∧ Best P cp ∧ Blk w' g (encO cp P.m) 3 ∧ w.heap.size ≤ g ∧ Below w.heap.size w w'
set_option maxRecDepth 100000 in
set_option maxHeartbeats 8000000 in
theorem assign_any (L : List Wt) (A : List Int) (C : List (List Int)) (w : World) (B : Nat) (wv av cv : Value) (hL : Wants w B wv L) (hA : Ints w B av A) (hC : Rows2 w B cv C)
    (hl : L.length ≤ 1000) (ha : A.length ≤ 1000) (hl2 : ∀ k, (L.getD k noW).2.length ≤ 1000) (hc : ∀ k, ((C.getD k []).length : Int) ≤ 9223372036854775807) (hB : B ≤ w.heap.size) :
    Calls Try.prog 14 #[wv, av, cv] w (AssignE (prob L A C) w) := by
  have KO := Lib.hid (open_any L A C w B wv av cv hL hA hC hl ha hl2 hc hB)
  have HP := Lib.hid (prob_fits L A C hl ha hl2)
  obtain ⟨aw, capw, rfl, -⟩ := hL
  obtain ⟨aa, capa, rfl, -⟩ := hA
  obtain ⟨P, hP⟩ : ∃ P, P = prob L A C := ⟨_, rfl⟩
  have hPm : L.length = P.m := by rw [hP]; rfl
  have hPn : A.length = P.n := by rw [hP]; rfl
  rw [← hP] at KO HP ⊢
  have hm1 : P.m ≤ 1000 := by omega
  have hn1 : P.n ≤ 1000 := by omega
  rw [hPm, hPn] at KO ⊢
  have hmf : ∀ (fn : Fn) (first cap : Array Value) (w : World), (Instr.makeFunc fn first cap).run Try.prog w = .ok (.func fn first cap) w := fun _ _ _ _ => rfl
  have hmkm := mk30 P.m (by omega)
  have hmkn := mk30 P.n (by omega)
  clear hC hP hPm hPn hl ha hl2 hc hB
  go_enter Try.func14, Try.ntmps14
  go_wp2_with fail
  refine KO.out.mono ?_
  rintro e w1 ⟨av, kv, rfl, hpm, hb1⟩
  obtain ⟨a1, c1, hav, -⟩ := hpm.acc
  obtain ⟨a2, c2, hkv, -⟩ := hpm.cst
  have PM1 := Lib.hid hpm
  have B1 := Lib.hid hb1
  subst hav hkv
  clear hpm hb1
  go_wp2_with fail
  obtain ⟨sb, hsb⟩ : ∃ sb, sb = w1.heap.size := ⟨_, rfl⟩
  obtain ⟨W, hW⟩ : ∃ W, W = w1.alloc (.cells #[.slice a1 P.m c1, .slice a2 P.m c2, .int .i64 P.n, .slice none 0 0, .slice none 0 0] 62) := ⟨_, rfl⟩
  have SB : RowKit.Hid (Blk W sb #[.slice a1 P.m c1, .slice a2 P.m c2, .int .i64 P.n, .slice none 0 0, .slice none 0 0] 62) := Lib.hid (by rw [hW, hsb]; exact Blk.new _ _ _)
  have BW : RowKit.Hid (Below w1.heap.size w1 W) := Lib.hid (by rw [hW]; exact (Below.refl _ _).alloc (Nat.le_refl _) _)
  have HSB : RowKit.Hid (sb = w1.heap.size ∧ W.heap.size = sb + 1) := Lib.hid ⟨hsb, by rw [hW, hsb]; simp⟩
  rw [← hW, ← hsb]
  have hsz : sb < W.heap.size := by rw [hW, hsb]; simp
  clear hW hsb
  have b3 : W.cell? ⟨sb, 3, none⟩ = some (.slice none 0 0) := SB.out.cell 3
  have b4 : W.cell? ⟨sb, 4, none⟩ = some (.slice none 0 0) := SB.out.cell 4
  have bf := SB.out.frozen
  go_region
  obtain ⟨W2, hW2⟩ : ∃ W2, W2 = ((((W.setCell { block := sb, off := 3 } (Value.slice (some { block := W.heap.size, off := 0 }) P.m P.m)).setCell { block := sb, off := 4 } (Value.slice (some { block := W.heap.size + 1, off := 0 }) P.n P.n)).alloc (Obj.cells (arr (fun x => Value.int IntKind.i64 0) P.m) 3)).alloc (Obj.cells (arr (fun x => Value.int IntKind.i64 0) P.n) 3)).drew := ⟨_, rfl⟩
  obtain ⟨cb, hcb⟩ : ∃ cb, cb = W.heap.size := ⟨_, rfl⟩
  obtain ⟨wb, hwb⟩ : ∃ wb, wb = W.heap.size + 1 := ⟨_, rfl⟩
  have SB2 : RowKit.Hid (Blk W2 sb #[.slice a1 P.m c1, .slice a2 P.m c2, .int .i64 P.n, .slice (some ⟨cb, 0, none⟩) P.m P.m, .slice (some ⟨wb, 0, none⟩) P.n P.n] 62) := Lib.hid (by
    rw [hW2, hcb, hwb]
    exact ((((((SB.out.set 3 _).set 4 _).cast (by simp)).alloc _).alloc _).drew))
  have CB2 : RowKit.Hid (Blk W2 cb (encO (fun _ => some 0) P.m) 3) := Lib.hid (by rw [hW2, hcb]; exact (Blk.at_new (by simp) _ 3).alloc _)
  have WB2 : RowKit.Hid (Blk W2 wb (encO (fun _ => some 0) P.n) 3) := Lib.hid (by rw [hW2, hwb]; exact Blk.at_new (by simp) _ 3)
  have BW2 : RowKit.Hid (Below w1.heap.size w1 W2) := Lib.hid (by
    rw [hW2]
    exact (((((BW.out.setCell (by have := HSB.out; show _ ≤ sb; omega) _).setCell (by have := HSB.out; show _ ≤ sb; omega) _).alloc (by simp; exact BW.out.size) _).alloc (by simp; have := BW.out.size; omega) _).drew))
  have hne : cb ≠ wb ∧ sb ≠ cb ∧ sb ≠ wb ∧ w1.heap.size ≤ sb ∧ w1.heap.size ≤ cb ∧ w1.heap.size ≤ wb := by have := HSB.out; omega
  rw [← hW2]
  rw [← hwb, ← hcb]
  have HNE := Lib.hid hne
  clear hW2 hcb hwb hne
  rotate_left
  obtain ⟨W2, hW2⟩ : ∃ W2, W2 = ((((W.setCell { block := sb, off := 3 } (Value.slice (some { block := W.heap.size + 1, off := 0 }) P.m P.m)).setCell { block := sb, off := 4 } (Value.slice (some { block := W.heap.size, off := 0 }) P.n P.n)).alloc (Obj.cells (arr (fun x => Value.int IntKind.i64 0) P.n) 3)).alloc (Obj.cells (arr (fun x => Value.int IntKind.i64 0) P.m) 3)).drew := ⟨_, rfl⟩
  obtain ⟨cb, hcb⟩ : ∃ cb, cb = W.heap.size + 1 := ⟨_, rfl⟩
  obtain ⟨wb, hwb⟩ : ∃ wb, wb = W.heap.size := ⟨_, rfl⟩
  have SB2 : RowKit.Hid (Blk W2 sb #[.slice a1 P.m c1, .slice a2 P.m c2, .int .i64 P.n, .slice (some ⟨cb, 0, none⟩) P.m P.m, .slice (some ⟨wb, 0, none⟩) P.n P.n] 62) := Lib.hid (by
    rw [hW2, hcb, hwb]
    exact ((((((SB.out.set 3 _).set 4 _).cast (by simp)).alloc _).alloc _).drew))
  have CB2 : RowKit.Hid (Blk W2 cb (encO (fun _ => some 0) P.m) 3) := Lib.hid (by rw [hW2, hcb]; exact Blk.at_new (by simp) _ 3)
  have WB2 : RowKit.Hid (Blk W2 wb (encO (fun _ => some 0) P.n) 3) := Lib.hid (by rw [hW2, hwb]; exact (Blk.at_new (by simp) _ 3).alloc _)
  have BW2 : RowKit.Hid (Below w1.heap.size w1 W2) := Lib.hid (by
    rw [hW2]
    exact (((((BW.out.setCell (by have := HSB.out; show _ ≤ sb; omega) _).setCell (by have := HSB.out; show _ ≤ sb; omega) _).alloc (by simp; exact BW.out.size) _).alloc (by simp; have := BW.out.size; omega) _).drew))
  have hne : cb ≠ wb ∧ sb ≠ cb ∧ sb ≠ wb ∧ w1.heap.size ≤ sb ∧ w1.heap.size ≤ cb ∧ w1.heap.size ≤ wb := by have := HSB.out; omega
  rw [← hW2]
  rw [← hcb, ← hwb]
  have HNE := Lib.hid hne
  clear hW2 hcb hwb hne
  rotate_left
  all_goals (
    clear b3 b4 bf hmkm hmkn KO hmf
    obtain ⟨s, hs⟩ : ∃ s : SL, s = ⟨sb, cb, wb, .slice a1 P.m c1, .slice a2 P.m c2, w1.heap.size⟩ := ⟨_, rfl⟩
    have S0 : RowKit.Hid (SM P s W2 (fun _ => some 0) (fun _ => some 0)) := Lib.hid (by
      rw [hs]
      have := HNE.out
      exact ⟨SB2.out, CB2.out, WB2.out, PM1.out.below BW2.out (Nat.le_refl _), ⟨by show w1.heap.size ≤ sb; omega, by show w1.heap.size ≤ cb; omega, by show w1.heap.size ≤ wb; omega⟩, ⟨by show sb ≠ cb; omega, by show sb ≠ wb; omega, by show cb ≠ wb; omega⟩⟩)
    have hsb' : sb = s.sb := by rw [hs]
    have hcb' : cb = s.cb := by rw [hs]
    have hwb' : wb = s.wb := by rw [hs]
    have LO : RowKit.Hid (w1.heap.size ≤ s.cb ∧ w1.heap.size ≤ s.wb) := Lib.hid (by rw [hs]; exact ⟨HNE.out.2.2.2.2.1, HNE.out.2.2.2.2.2⟩)
    clear SB2 CB2 WB2 SB HSB HNE hs hsz
    subst hsb' hcb' hwb'
    have s4 : W2.cell? ⟨s.sb, 4, none⟩ = some (.slice (some ⟨s.wb, 0, none⟩) P.n P.n) := S0.out.blk.cell 4
    have BF : RowKit.Hid (∀ w', Tn s.F W2 w' → Below w.heap.size w w') := Lib.hid (fun w' t => by
      have h1 := B1.out.size
      have h2 := BW2.out.size
      exact (B1.out.trans (BW2.out.mono h1)).trans (t.below (by omega) fun b e => by
        have := LO.out
        rcases e with e | e
        · omega
        · omega))
    go_wp2_with fail
    go_loopw [35] (fun x wr => ∃ c : Nat, c ≤ P.n ∧ x = .int .i64 c ∧ SM P s wr (fun _ => some 0) (clr (fun _ => some 0) c) ∧ Tn s.F W2 wr) (fun x _ => P.n - (intOf x).toNat)
    case atStart => exact ⟨0, by omega, rfl, S0.out.congr (fun _ _ => rfl) (fun x _ => by simp [clr]), Tn.refl _ _⟩
    case round =>
      obtain ⟨c, hcn, rfl, hS, hT⟩ := hrel
      have S1 := Lib.hid hS
      have T1 := Lib.hid hT
      clear hS hT
      by_cases hlt : c < P.n
      · have w0 := S1.out.wn_at hlt
        have wf := S1.out.want.frozen
        have s4 : wr.cell? ⟨s.sb, 4, none⟩ = some (.slice (some ⟨s.wb, 0, none⟩) P.n P.n) := S1.out.blk.cell 4
        have S2 : RowKit.Hid (SM P s (wr.setCell ⟨s.wb, c, none⟩ (.int .i64 (-1))) (fun _ => some 0) (clr (fun _ => some 0) (c + 1))) := Lib.hid ((S1.out.setWn hlt none).congr (fun _ _ => rfl) (fun x _ => by
          unfold clr
          by_cases e : x = c
          · subst e; rw [upd_eq, if_pos (by omega)]
          · rw [upd_ne _ _ e]
            by_cases g : x < c
            · rw [if_pos g, if_pos (by omega)]
            · rw [if_neg g, if_neg (by omega)]))
        have T2 : RowKit.Hid (Tn s.F W2 (wr.setCell ⟨s.wb, c, none⟩ (.int .i64 (-1)))) := Lib.hid (T1.out.setCell (p := ⟨s.wb, c, none⟩) (.inl (.inr rfl)) _)
        go_wp2_with fail
        exact ⟨⟨c + 1, by omega, by go_num, S2.out, T2.out⟩, by simp [intOf]; omega⟩
      · obtain rfl : c = P.n := by omega
        have S2 : RowKit.Hid (SM P s wr (ext 0 (fun _ => none)) (fun _ => none)) := Lib.hid (S1.out.congr (fun x _ => by simp [ext]) (fun x hx => by simp [clr, hx]))
        obtain ⟨w3, rfl⟩ : ∃ w3 : World, w3 = wr := ⟨_, rfl⟩
        clear S1 S0
        go_wp2_with fail
        go_loopw [47] (fun x wr => ∃ (k : Nat) (cp wn : Nat → Option Nat), k ≤ P.m ∧ x = .int .i64 k ∧ SM P s wr (ext k cp) wn ∧ Tn s.F W2 wr ∧ Mat P cp ∧ Con cp wn ∧ Grd P cp k ∧ ∀ j, k ≤ j → cp j = none) (fun x _ => P.m - (intOf x).toNat)
        case atStart => exact ⟨0, _, _, by omega, rfl, S2.out, T1.out, mat_nothing P, con_nothing, fun i hi => by omega, fun _ _ => rfl⟩
        case round =>
          obtain ⟨k, cp, wn, hkm, rfl, hS, hT, hM, hCn, hG, hz⟩ := hrel
          have S3 := Lib.hid hS
          have T3 := Lib.hid hT
          have M3 := Lib.hid hM
          have C3 := Lib.hid hCn
          have G3 := Lib.hid hG
          have Z3 := Lib.hid hz
          clear hS hT hM hCn hG hz
          by_cases hlt : k < P.m
          · have c0 := S3.out.cp_at hlt
            have cf := S3.out.copy.frozen
            have s3 : wr.cell? ⟨s.sb, 3, none⟩ = some (.slice (some ⟨s.cb, 0, none⟩) P.m P.m) := S3.out.blk.cell 3
            have S4 : RowKit.Hid (SM P s (wr.setCell ⟨s.cb, k, none⟩ (.int .i64 (-1))) (ext (k + 1) cp) wn) := Lib.hid (by
              have h := S3.out.setCp hlt none
              rw [ext_none (Z3.out k (Nat.le_refl _))] at h
              exact h)
            have T4 : RowKit.Hid (Tn s.F W2 (wr.setCell ⟨s.cb, k, none⟩ (.int .i64 (-1)))) := Lib.hid (T3.out.setCell (p := ⟨s.cb, k, none⟩) (.inl (.inl rfl)) _)
            go_wp2_with fail
            have KS := Lib.hid (serve_any HP.out s cp wn _ k hlt (Z3.out k (Nat.le_refl _)) M3.out C3.out Z3.out S4.out)
            refine KS.out.mono ?_
            rintro e w4 ⟨t, cp', wn', rfl, hS, hT, hM, hCn, hsm, hgot⟩
            have S5 := Lib.hid hS
            have T5 := Lib.hid (T4.out.trans hT)
            have M5 := Lib.hid hM
            have C5 := Lib.hid hCn
            have G5 := Lib.hid (G3.out.step Z3.out hsm hgot)
            clear hS hT hM hCn hsm hgot KS
            go_wp2_with fail
            exact ⟨⟨k + 1, cp', wn', by omega, by go_num, S5.out, T5.out, M5.out, C5.out, G5.out.1, G5.out.2⟩, by simp [intOf]; omega⟩
          · obtain rfl : k = P.m := by omega
            have S4 : RowKit.Hid (SM P s wr cp wn) := Lib.hid (S3.out.congr (fun x hx => by simp [ext, hx]) (fun _ _ => rfl))
            have GR : RowKit.Hid (Greedy P cp) := Lib.hid (Greedy.of M3.out (fun i hi hn q hq hqs => G3.out i hi hn q hq hqs))
            obtain ⟨w4, rfl⟩ : ∃ w4 : World, w4 = wr := ⟨_, rfl⟩
            clear S3 G3 Z3 S2 T1
            go_wp2_with fail
            have KC := Lib.hid (cheapen_any HP.out s M3.out C3.out w4 S4.out)
            refine KC.out.mono ?_
            rintro e w5 ⟨cp1, wn1, rfl, hS, hT, hM, hCn, hsm, f, hf⟩
            have S5 := Lib.hid hS
            have T5 := Lib.hid (T3.out.trans hT)
            have M5 := Lib.hid hM
            have C5 := Lib.hid hCn
            have A5 := Lib.hid hsm
            have F5 := Lib.hid hf
            clear hS hT hM hCn hsm hf KC S4 T3 M3 C3
            go_wp2_with fail
            go_loopw [64] (fun x wr => ∃ (k : Nat) (cp wn : Nat → Option Nat), k ≤ P.m ∧ x = .int .i64 k ∧ SM P s wr cp wn ∧ Tn s.F W2 wr ∧ Mat P cp ∧ Con cp wn ∧ Same cp1 cp ∧ Pot P 0 cp wn f ∧ Lex P cp k) (fun x _ => P.m - (intOf x).toNat)
            case atStart => exact ⟨0, _, _, by omega, rfl, S5.out, T5.out, M5.out, C5.out, Same.refl _, F5.out, Lex.zero _ _⟩
            case round =>
              obtain ⟨k, cq, wq, hkm, rfl, hS, hT, hM, hCn, hsm, hf, hlx⟩ := hrel
              have S6 := Lib.hid hS
              have T6 := Lib.hid hT
              have M6 := Lib.hid hM
              have C6 := Lib.hid hCn
              have A6 := Lib.hid hsm
              have F6 := Lib.hid hf
              have L6 := Lib.hid hlx
              clear hS hT hM hCn hsm hf hlx
              have s3 : wr.cell? ⟨s.sb, 3, none⟩ = some (.slice (some ⟨s.cb, 0, none⟩) P.m P.m) := S6.out.blk.cell 3
              by_cases hlt : k < P.m
              · have c0 := S6.out.cp_at hlt
                cases hck : cq k with
                | none =>
                  rw [hck] at c0
                  have c0' : wr.cell? ⟨s.cb, k, none⟩ = some (.int .i64 (-1)) := c0
                  have L7 := Lib.hid (lex_none L6.out hck)
                  clear c0 hck
                  go_wp2_with fail
                  exact ⟨⟨k + 1, cq, wq, by omega, by go_num, S6.out, T6.out, M6.out, C6.out, A6.out, F6.out, L7.out⟩, by simp [intOf]; omega⟩
                | some old =>
                  rw [hck] at c0
                  have c0' : wr.cell? ⟨s.cb, k, none⟩ = some (.int .i64 (old : Int)) := c0
                  have ho1 : ((old : Int) != -1) = true := by simp
                  have KL := Lib.hid (lower_any HP.out s M6.out C6.out F6.out wr hck S6.out)
                  clear c0 hck
                  go_wp2_with fail
                  refine KL.out.mono ?_
                  rintro e w7 ⟨cp', wn', rfl, hS, hT, hM, hCn, hsm, hag, htt, hf, hlx⟩
                  have S7 := Lib.hid hS
                  have T7 := Lib.hid (T6.out.trans hT)
                  have M7 := Lib.hid hM
                  have C7 := Lib.hid hCn
                  have A7 := Lib.hid (A6.out.trans hsm)
                  have F7 := Lib.hid hf
                  have L7 := Lib.hid (hlx L6.out)
                  clear hS hT hM hCn hsm hf hlx hag htt KL
                  go_wp2_with fail
                  exact ⟨⟨k + 1, cp', wn', by omega, by go_num, S7.out, T7.out, M7.out, C7.out, A7.out, F7.out, L7.out⟩, by simp [intOf]; omega⟩
              · obtain rfl : k = P.m := by omega
                have HFIN : RowKit.Hid (AssignE P w (.returned (.slice (some ⟨s.cb, 0, none⟩) P.m P.m)) wr) := Lib.hid
                  ⟨cq, s.cb, rfl, Best.of M6.out C6.out (GR.out.same (A5.out.trans A6.out)) F6.out L6.out, S6.out.copy, by have := LO.out; have := B1.out.size; omega, BF.out wr T6.out⟩
                go_wp2_with fail
                go_ret
                exact HFIN.out)
end Go.Proofs.Ytpcmppamkgkdlaa
