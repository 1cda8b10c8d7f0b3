/- The contract of the law's served: a copy for a want, where others get other copies. -/
import Derived.Test.YtpcmppamkgkdlaaVH
namespace Go.Proofs.Ytpcmppamkgkdlaa
open Go.RowKit

/-- What the loop over a want's numbers has seen. -/
structure LookR (P : Prob) (wn : Nat → Option Nat) (seen si : Nat → Bool) (l : List Int) (i : Nat) : Prop where
  more : ∀ c, seen c = true → si c = true
  all : ∀ c : Nat, c < P.n → (c : Int) ∈ l.take i → si c = true
  own : ∀ c, si c = true → seen c = false → ∃ j, wn c = some j ∧ ∀ d, d ∈ P.acc j → si d = true
theorem LookR.start (P : Prob) (wn : Nat → Option Nat) (seen : Nat → Bool) (l : List Int) : LookR P wn seen seen l 0 := ⟨fun _ h => h, fun c _ hc => by simp at hc, fun c h1 h2 => by rw [h1] at h2; cases h2⟩
theorem LookR.skip {P : Prob} {wn : Nat → Option Nat} {seen si : Nat → Bool} {l : List Int} {i : Nat} (h : LookR P wn seen si l i) (hi : i < l.length) (hc : ∀ c : Nat, c < P.n → l.getD i 0 = c → si c = true) : LookR P wn seen si l (i + 1) :=
  ⟨h.more, fun c hn hm => by
    rw [take_succD (d := 0) i hi] at hm
    rcases List.mem_append.1 hm with hm | hm
    · exact h.all c hn hm
    · simp at hm; exact hc c hn (by rw [hm]; simp), h.own⟩
theorem LookR.lost {P : Prob} {wn : Nat → Option Nat} {seen si s2 : Nat → Bool} {l : List Int} {i j c : Nat} (h : LookR P wn seen si l i) (hi : i < l.length) (hc : l.getD i 0 = c) (hw : wn c = some j) (hl : Lost P wn (upd si c true) s2 j) : LookR P wn seen s2 l (i + 1) := by
  have up : ∀ d, si d = true → s2 d = true := fun d hd => hl.more d (by
    by_cases e : d = c
    · rw [e, upd_eq]
    · rw [upd_ne _ _ e]; exact hd)
  have hcc : s2 c = true := hl.more _ (upd_eq _ _ _)
  refine ⟨fun d hd => up d (h.more d hd), fun d hn hm => ?_, fun d h1 h2 => ?_⟩
  · rw [take_succD (d := 0) i hi] at hm
    rcases List.mem_append.1 hm with hm | hm
    · exact up d (h.all d hn hm)
    · rw [hc] at hm
      simp at hm
      obtain rfl : d = c := by omega
      exact hcc
  · cases e : si d with
    | true =>
      obtain ⟨j', h3, h4⟩ := h.own d e h2
      exact ⟨j', h3, fun x hx => up x (h4 x hx)⟩
    | false =>
      by_cases e2 : d = c
      · rw [e2]; exact ⟨j, hw, hl.all⟩
      · exact hl.own d h1 (by rw [upd_ne _ _ e2]; exact e)
theorem LookR.done {P : Prob} {wn : Nat → Option Nat} {seen si : Nat → Bool} {l : List Int} {k i : Nat} (h : LookR P wn seen si l i) (hi : l.length ≤ i) (ha : ∀ c, c ∈ P.acc k → (c : Int) ∈ l) : Lost P wn seen si k :=
  ⟨h.more, fun c hc => h.all c (P.lt k c hc) (by rw [List.take_of_length_le hi]; exact ha c hc), h.own⟩
def SF (tb g b : Nat) : Prop := b = tb ∨ b = g
def SrvE (P : Prob) (tb g : Nat) (w : World) (cp wn : Nat → Option Nat) (seen : Nat → Bool) (k : Nat) (e : Ending) (w' : World) : Prop :=
  ∃ (t : Bool) (cp' wn' : Nat → Option Nat) (seen' : Nat → Bool), e = .returned (.bool t) ∧ Blk w' tb (encO wn' P.n) 3 ∧ Blk w' g (encB seen' P.n) 4 ∧ Tn (SF tb g) w w' ∧
    (t = true → Found P cp wn cp' wn' seen k) ∧ (t = false → cp' = cp ∧ wn' = wn ∧ Lost P wn seen seen' k)
set_option maxRecDepth 100000 in
set_option maxHeartbeats 4000000 in
theorem served_any (L : List Wt) (A : List Int) (C : List (List Int)) (B tb g : Nat) (aw : Option Addr) (cw : Nat) (hl : L.length ≤ 1000) (ha : A.length ≤ 1000) (hl2 : ∀ k, (L.getD k noW).2.length ≤ 1000) (w0 : World) (hL : Wants w0 B (.slice aw L.length cw) L)
    (hBt : B ≤ tb) (hBg : B ≤ g) (hne : tb ≠ g) (cp wn : Nat → Option Nat) (hm : Mat (prob L A C) cp) (hc : Con cp wn) :
    ∀ (n : Nat) (seen : Nat → Bool) (k : Nat) (w : World), cntF seen A.length < n → k < L.length → (∀ d, cp k = some d → seen d = true) → Below B w0 w → Blk w tb (encO wn A.length) 3 → Blk w g (encB seen A.length) 4 →
      Calls Try.prog 20 #[.slice aw L.length cw, .int .i64 A.length, .slice (some ⟨tb, 0, none⟩) A.length A.length, .slice (some ⟨g, 0, none⟩) A.length A.length, .int .i64 k] w (SrvE (prob L A C) tb g w cp wn seen k) := by
  intro n
  induction n with
  | zero => intro seen k w h; omega
  | succ n ih =>
    intro seen k w hcnt hk hown hb hT hG
    have IH := Lib.hid ih
    have HL := Lib.hid hL
    have HM := Lib.hid hm
    have HC := Lib.hid hc
    have HOW := Lib.hid hown
    have HB := Lib.hid hb
    have HT := Lib.hid hT
    have HG := Lib.hid hG
    have HL2 := Lib.hid hl2
    obtain ⟨P, hP⟩ : ∃ P, P = prob L A C := ⟨_, rfl⟩
    have HAC : RowKit.Hid (∀ k c, c < A.length → (c ∈ P.acc k ↔ (c : Int) ∈ (L.getD k noW).2)) := Lib.hid fun k c hc => by rw [hP]; exact acc_nat hc
    have HPM : RowKit.Hid (P.m = L.length ∧ P.n = A.length) := Lib.hid (by rw [hP]; exact ⟨rfl, rfl⟩)
    rw [← hP] at IH HM ⊢
    obtain ⟨a1, c1, hw, hw2⟩ := hL
    obtain ⟨rfl, rfl⟩ : aw = a1 ∧ cw = c1 := by injection hw with h1 h2 h3; exact ⟨h1, h3⟩
    rcases hw2 with h | ⟨bw, ow, rfl, hbw, hcw⟩
    · rw [h] at hk; simp at hk
    obtain ⟨u, g0, g1, hu⟩ := hcw k hk
    obtain ⟨au, cu, rfl, hI⟩ := hu
    have hll := hl2 k
    have HAK := Lib.hid (HAC.out k)
    have e1 := (hb.cell (p := ⟨bw, ow + k * 2 + 1, none⟩) hbw).trans g1
    obtain ⟨lk, hlk⟩ : ∃ lk, lk = (L.getD k noW).2 := ⟨_, rfl⟩
    rw [← hlk] at e1 HAK hll hI
    have HI := Lib.hid hI
    have E1 := Lib.hid (g1)
    rw [← hlk] at E1
    have HBW := Lib.hid hbw
    clear ih hm hc hown hb hT hG hl2 hP hw hcw g0 g1 hlk hI hbw
    go_enter Try.func20, Try.ntmps20
    go_wp2_with fail
    clear e1
    go_loopw [11] (fun v wr => ∃ (i : Nat) (si : Nat → Bool), i ≤ lk.length ∧ v = .int .i64 i ∧ Blk wr tb (encO wn A.length) 3 ∧ Blk wr g (encB si A.length) 4 ∧ Tn (SF tb g) w wr ∧ LookR P wn seen si lk i) (fun v _ => lk.length - (intOf v).toNat)
    case atStart => exact ⟨0, seen, by omega, rfl, HT.out, HG.out, Tn.refl _ _, LookR.start _ _ _ _⟩
    case round =>
      obtain ⟨i, si, hi, rfl, hT, hG, hTn, hLk⟩ := hrel
      have T1 := Lib.hid hT
      have G1 := Lib.hid hG
      have N1 := Lib.hid hTn
      have L1 := Lib.hid hLk
      have B1 : RowKit.Hid (Below B w0 wr) := Lib.hid (HB.out.trans (hTn.below (by have := hT.lt; have := HT.out.lt; omega) fun b e => by unfold SF at e; omega))
      have e1 := (B1.out.cell (p := ⟨bw, ow + k * 2 + 1, none⟩) HBW.out).trans E1.out
      clear hT hG hTn hLk
      by_cases hlt : i < lk.length
      · rcases HI.out with h | ⟨b, o, rfl, hb, hcl⟩
        · rw [h] at hlt; simp at hlt
        have e0 := (B1.out.cell (p := ⟨b, o + i, none⟩) hb).trans (hcl i hlt)
        have LSK := Lib.hid (fun h => L1.out.skip hlt h)
        have LLO := Lib.hid (fun s2 j c (h0 : lk.getD i 0 = ((c : Nat) : Int)) (h1 : wn c = some j) (h2 : Lost P wn (upd si c true) s2 j) => L1.out.lost hlt h0 h1 h2)
        have HMEM : RowKit.Hid (lk.getD i 0 ∈ lk) := Lib.hid (by rw [getD_get _ _ hlt]; exact List.getElem_mem hlt)
        obtain ⟨x, hx⟩ : ∃ x, x = lk.getD i 0 := ⟨_, rfl⟩
        rw [← hx] at e0 LSK LLO HMEM
        clear hcl hx
        by_cases hx0 : x < 0
        · have L2 := Lib.hid (LSK.out fun c _ e => by omega)
          go_wp2_with fail
          exact ⟨⟨i + 1, si, by omega, by go_num, T1.out, G1.out, N1.out, L2.out⟩, by simp [intOf]; omega⟩
        by_cases hxn : (A.length : Int) ≤ x
        · have L2 := Lib.hid (LSK.out fun c hc e => by have := HPM.out; omega)
          go_wp2_with fail
          exact ⟨⟨i + 1, si, by omega, by go_num, T1.out, G1.out, N1.out, L2.out⟩, by simp [intOf]; omega⟩
        obtain ⟨c, rfl⟩ : ∃ c : Nat, x = (c : Int) := ⟨x.toNat, by omega⟩
        have hcn : c < A.length := by omega
        have hpc : RowKit.Hid (c ∈ P.acc k) := Lib.hid ((HAK.out c hcn).2 HMEM.out)
        have g0 : wr.cell? ⟨g, c, none⟩ = some (.bool (si c)) := G1.out.cellE (arr_get _ hcn)
        cases hsc : si c
        case true =>
          rw [hsc] at g0
          have L2 := Lib.hid (LSK.out fun d _ e => by
            obtain rfl : d = c := by omega
            exact hsc)
          clear hsc
          go_wp2_with fail
          exact ⟨⟨i + 1, si, by omega, by go_num, T1.out, G1.out, N1.out, L2.out⟩, by simp [intOf]; omega⟩
        case false =>
          rw [hsc] at g0
          have HSC := Lib.hid hsc
          have gf := G1.out.frozen
          clear hsc
          have G2 : RowKit.Hid (Blk (wr.setCell ⟨g, c, none⟩ (.bool true)) g (encB (upd si c true) A.length) 4) := Lib.hid ((G1.out.set c _).cast (encB_set si hcn true))
          have T2 : RowKit.Hid (Blk (wr.setCell ⟨g, c, none⟩ (.bool true)) tb (encO wn A.length) 3) := Lib.hid (T1.out.set_ne _ _ hne)
          have N2 : RowKit.Hid (Tn (SF tb g) w (wr.setCell ⟨g, c, none⟩ (.bool true))) := Lib.hid (N1.out.setCell (p := ⟨g, c, none⟩) (.inl (.inr rfl)) _)
          have B2 : RowKit.Hid (Below B w0 (wr.setCell ⟨g, c, none⟩ (.bool true))) := Lib.hid (B1.out.setCell hBg _)
          have w4 : (wr.setCell ⟨g, c, none⟩ (.bool true)).cell? ⟨tb, c, none⟩ = some (.int .i64 (oi (wn c))) := T2.out.cellE (arr_get _ hcn)
          have tf := T2.out.frozen
          cases hw : wn c with
          | none =>
            rw [hw] at w4
            have w4' : (wr.setCell ⟨g, c, none⟩ (.bool true)).cell? ⟨tb, c, none⟩ = some (.int .i64 (-1)) := w4
            have HF : RowKit.Hid (SrvE P tb g w cp wn seen k (.returned (.bool true)) ((wr.setCell ⟨g, c, none⟩ (.bool true)).setCell ⟨tb, c, none⟩ (.int .i64 k))) := Lib.hid
              ⟨true, _, _, _, rfl, by rw [HPM.out.2]; exact (T2.out.set c _).cast (encO_set wn hcn (some k)), by rw [HPM.out.2]; exact G2.out.set_ne _ _ fun e => hne e.symm, N2.out.setCell (p := ⟨tb, c, none⟩) (.inl (.inl rfl)) _,
                fun _ => (Found.free HM.out HC.out (by have := HPM.out; omega) hpc.out HSC.out hw).weaken L1.out.more, fun e => Bool.noConfusion e⟩
            clear w4 hw
            go_wp2_with fail
            go_ret
            exact HF.out
          | some j =>
            rw [hw] at w4
            have w4' : (wr.setCell ⟨g, c, none⟩ (.bool true)).cell? ⟨tb, c, none⟩ = some (.int .i64 (j : Int)) := w4
            have hcj := (HC.out j c).2 hw
            have hjm : j < L.length := by have := (HM.out.ok hcj).1; have := HPM.out; omega
            have HW := Lib.hid hw
            have HJ : RowKit.Hid (∀ d, cp j = some d → upd si c true d = true) := Lib.hid (fun d hd => by rw [hcj] at hd; injection hd with hd; subst hd; exact upd_eq _ _ _)
            have HCT : RowKit.Hid (cntF (upd si c true) A.length < n) := Lib.hid (by have h1 := cntF_upd HSC.out A.length hcn; have h2 := cntF_mono L1.out.more A.length; omega)
            clear w4 hw hcj
            go_wp2_with fail
            refine (IH.out (upd si c true) j _ HCT.out hjm HJ.out B2.out T2.out G2.out).mono ?_
            rintro e w5 ⟨t, cp', wn', seen', rfl, hT5, hG5, hN5, hyes, hno⟩
            rw [HPM.out.2] at hT5 hG5
            have N5 := Lib.hid (N2.out.trans hN5)
            have T5 := Lib.hid hT5
            have G5 := Lib.hid hG5
            clear hT5 hG5 hN5 w4' tf g0 gf e0 e1
            cases t
            · obtain ⟨rfl, rfl, hlo⟩ := hno rfl
              have L2 := Lib.hid (LLO.out seen' j c rfl HW.out hlo)
              clear hyes hno hlo
              go_wp2_with fail
              exact ⟨⟨i + 1, seen', by omega, by go_num, T5.out, G5.out, N5.out, L2.out⟩, by simp [intOf]; omega⟩
            · have FND := (Found.take HC.out (by have := HPM.out; omega) hpc.out HSC.out HW.out (fun d hd => L1.out.more d (HOW.out d hd)) (hyes rfl)).weaken L1.out.more
              have HF : RowKit.Hid (SrvE P tb g w cp wn seen k (.returned (.bool true)) (w5.setCell ⟨tb, c, none⟩ (.int .i64 k))) := Lib.hid
                ⟨true, _, _, _, rfl, by rw [HPM.out.2]; exact (T5.out.set c _).cast (encO_set wn' hcn (some k)), by rw [HPM.out.2]; exact G5.out.set_ne _ _ fun e => hne e.symm, N5.out.setCell (p := ⟨tb, c, none⟩) (.inl (.inl rfl)) _, fun _ => FND, fun e => Bool.noConfusion e⟩
              have t5 : w5.cell? ⟨tb, c, none⟩ = some (.int .i64 (oi (wn' c))) := T5.out.cellE (arr_get _ hcn)
              have tf := T5.out.frozen
              clear hyes hno FND
              go_wp2_with fail
              go_ret
              exact HF.out
      · obtain rfl : i = lk.length := by omega
        have hd := L1.out.done (k := k) (Nat.le_refl _) (fun c hc => (HAK.out c (by have := P.lt k c hc; have := HPM.out; omega)).1 hc)
        have HD : RowKit.Hid (SrvE P tb g w cp wn seen k (.returned (.bool false)) wr) := Lib.hid ⟨false, cp, wn, si, rfl, by rw [HPM.out.2]; exact T1.out, by rw [HPM.out.2]; exact G1.out, N1.out, fun e => Bool.noConfusion e, fun _ => ⟨rfl, rfl, hd⟩⟩
        clear hd
        go_wp2_with fail
        go_ret
        exact HD.out
end Go.Proofs.Ytpcmppamkgkdlaa
