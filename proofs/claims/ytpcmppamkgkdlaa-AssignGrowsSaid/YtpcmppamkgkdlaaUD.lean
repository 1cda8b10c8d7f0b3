/- The contract of the reference's Cost. -/
import Derived.Test.YtpcmppamkgkdlaaTC
import Derived.Test.YtpcmppamkgkdlaaRB
import Derived.Deep.QuietTactic
import Derived.BigQuiet
namespace Go.Proofs.Ytpcmppamkgkdlaa
open Go.RowKit

theorem acc_iff {L : List Wt} {A : List Int} {C : List (List Int)} {k : Nat} {c : Int} : c ∈ ints ((prob L A C).acc k) ↔ c ∈ (L.getD k noW).2 ∧ 0 ≤ c ∧ c < A.length := by rw [prob_ints, mem_accI]
theorem mem_take_lt {l : List Int} {k : Nat} {x : Int} (hk : k ≤ l.length) : x ∈ l.take k ↔ ∃ j, j < k ∧ l.getD j 0 = x := by
  constructor
  · intro h
    obtain ⟨j, hj, e⟩ := List.mem_iff_getElem.1 h
    have hj' : j < k ∧ j < l.length := by simp at hj; omega
    exact ⟨j, hj'.1, by rw [List.getD_eq_getElem?_getD, List.getElem?_eq_getElem hj'.2, ← e]; simp⟩
  · rintro ⟨j, hj, rfl⟩
    refine List.mem_iff_getElem.2 ⟨j, by simp; omega, ?_⟩
    rw [List.getD_eq_getElem?_getD, List.getElem?_eq_getElem (by omega)]; simp
set_option maxRecDepth 100000 in
set_option maxHeartbeats 4000000 in
theorem rcost_any (L : List Wt) (A : List Int) (C : List (List Int)) (l : List Int) (w : World) (B : Nat) (wv av cv lv : Value) (hL : Wants w B wv L) (hA : Ints w B av A) (hC : Rows2 w B cv C) (hI : Ints w B lv l)
    (hl : L.length ≤ 1000) (ha : A.length ≤ 1000) (hl2 : ∀ k, (L.getD k noW).2.length ≤ 1000) (hc : ∀ k, ((C.getD k []).length : Int) ≤ 9223372036854775807) (hB : B ≤ w.heap.size) (hll : l.length ≤ 100000)
    (hlb : ∀ i, i < l.length → -9223372036854775808 ≤ l.getD i 0 ∧ l.getD i 0 ≤ 9223372036854775807) :
    Calls Try.prog 17 #[wv, av, cv, lv] w (CostE (prob L A C) l w) := by
  have HBD : RowKit.Hid (∀ k c, 0 ≤ (prob L A C).cst k c ∧ (prob L A C).cst k c ≤ 1000000) := Lib.hid (prob_cst L A C)
  have HAC : RowKit.Hid (∀ k c, c ∈ ints ((prob L A C).acc k) ↔ c ∈ (L.getD k noW).2 ∧ 0 ≤ c ∧ c < A.length) := Lib.hid fun k c => acc_iff
  have HCS : RowKit.Hid (∀ k c, (prob L A C).cst k c = wayI C (A.getD c 0) (L.getD k noW).1) := Lib.hid fun k c => rfl
  have KW : RowKit.Hid (∀ W, Below w.heap.size w W → ∀ n a b, Calls Try.prog 21 #[cv, .int .i64 a, .int .i64 b] (W.drewN n) fun e w' => e = .returned (.int .i64 (wayI C a b)) ∧ W.drewN n = w') :=
    Lib.hid fun W hb n a b => rway_any B cv C a b _ (hC.below (bdrewN hb n) hB) hc
  have KA : RowKit.Hid (∀ W, Below w.heap.size w W → ∀ k u p c, Ints w B u (L.getD k noW).2 → Calls Try.prog 28 #[.agg #[.int .i64 p, u], .int .i64 c] W (AccE W (L.getD k noW).2 c)) :=
    Lib.hid fun W hb k u p c hu => accepts_any B p u _ c W (hu.below hb hB) (by have := hl2 k; omega)
  obtain ⟨aw, capw, rfl, hwn⟩ := hL
  obtain ⟨aa, capa, rfl, han⟩ := hA
  obtain ⟨al, capl, rfl, hln⟩ := hI
  obtain ⟨ac, capc, rfl, -⟩ := hC
  have HI := Lib.hid hln
  have HW := Lib.hid hwn
  have HA := Lib.hid han
  have HLB := Lib.hid hlb
  obtain ⟨P, hP⟩ : ∃ P, P = prob L A C := ⟨_, rfl⟩
  have hPm : L.length = P.m := by rw [hP]; rfl
  have hPn : A.length = P.n := by rw [hP]; rfl
  rw [← hP] at HBD HAC HCS ⊢
  have hm1 : P.m ≤ 1000 := by omega
  have hn1 : P.n ≤ 1000 := by omega
  rw [hPm] at HW
  rw [hPn] at HA HAC
  rw [hPm, hPn]
  have HPM := Lib.hid hPm
  have HPN := Lib.hid hPn
  clear hP hPm hPn hl ha hl2 hc hln hwn han hlb
  by_cases hlen : l.length = P.m
  case neg =>
    have HF : RowKit.Hid (CostE P l w (.returned (.tuple #[.int .i64 0, .bool false])) w) := Lib.hid ⟨by rw [costF_len hlen], Below.refl _ _⟩
    have h1 : ((P.m : Int) != (l.length : Int)) = true := by simp; omega
    have h2 : (P.m != l.length) = true := by simpa using fun e => hlen e.symm
    clear hlen
    go_enter Try.func17, Try.ntmps17
    go_wp2_with fail
    go_ret2
    exact HF.out
  have HLEN := Lib.hid hlen
  rw [hlen] at hll HLB HI ⊢
  clear hlen
  go_enter Try.func17, Try.ntmps17
  go_wp2_with fail
  go_loopw [10, 11] (fun v x wr => ∃ (k : Nat) (y : Int), k ≤ P.m ∧ x = .int .i64 k ∧ y = sumL P l k ∧ v = .int .i64 y ∧ okB P l k = true ∧ Below w.heap.size w wr) (fun _ x _ => P.m - (intOf x).toNat)
  case atStart => exact ⟨0, 0, by omega, rfl, rfl, rfl, rfl, Below.refl _ _⟩
  case round =>
    obtain ⟨k, y, hk, rfl, hy, rfl, hok, hbb⟩ := hrel
    obtain ⟨wo, rfl⟩ : ∃ wo : World, wo = wr := ⟨_, rfl⟩
    have HY := Lib.hid hy
    have OK := Lib.hid hok
    have BB := Lib.hid hbb
    have hsb := sumL_bd HBD.out l k
    rw [← hy] at hsb
    clear hy hok hbb
    by_cases hlt : k < P.m
    · rcases HI.out with h | ⟨b, o, rfl, hbB, hcl⟩
      · have := HLEN.out; rw [h] at this; simp at this; omega
      rcases HW.out with h | ⟨bw, ow, rfl, hbW, hwl⟩
      · have := HPM.out; rw [h] at this; simp at this; omega
      obtain ⟨u, g0, g1, gu⟩ := hwl k hlt
      have q0 := (BB.out.cell (p := ⟨bw, ow + k * 2, none⟩) (by show bw < w.heap.size; omega)).trans g0
      have q1 := (BB.out.cell (p := ⟨bw, ow + k * 2 + 1, none⟩) (by show bw < w.heap.size; omega)).trans g1
      have KA1 : RowKit.Hid (∀ c, Calls Try.prog 28 #[.agg #[.int .i64 (L.getD k noW).1, u], .int .i64 c] wo (AccE wo (L.getD k noW).2 c)) := Lib.hid fun c => KA.out wo BB.out k u _ c gu
      have e0 := (BB.out.cell (p := ⟨b, o + k, none⟩) (by show b < w.heap.size; omega)).trans (hcl k hlt)
      have hlk : k < l.length := by have := HLEN.out; omega
      have bdc := HLB.out k hlt
      have NO := Lib.hid (fun h2 h3 => costF_no (P := P) (l := l) (k := k) (okAt_not h2 h3) hlt)
      have NN := Lib.hid (fun h => okAt_none (P := P) (l := l) (k := k) h)
      have YY := Lib.hid (fun h h1 h2 => okAt_yes (P := P) (l := l) (k := k) h h1 h2)
      have KK : RowKit.Hid (okAt P l k = true → okB P l (k + 1) = true) := Lib.hid (fun h => by rw [okB, OK.out, h]; rfl)
      have SS : RowKit.Hid (sumL P l (k + 1) = y + oneL P l k) := Lib.hid (by rw [HY.out]; rfl)
      have MT : RowKit.Hid (∀ x, x ∈ l.take k ↔ ∃ j, j < k ∧ l.getD j 0 = x) := Lib.hid fun x => mem_take_lt (Nat.le_of_lt hlk)
      have HCL := Lib.hid hcl
      have HACk := Lib.hid (HAC.out k)
      have HG0 := Lib.hid g0
      obtain ⟨pp, hpp⟩ : ∃ pp, pp = (L.getD k noW).1 := ⟨_, rfl⟩
      obtain ⟨lk, hlk2⟩ : ∃ lk, lk = (L.getD k noW).2 := ⟨_, rfl⟩
      have HCS2 : RowKit.Hid (∀ c, P.cst k c = wayI C (A.getD c 0) pp) := Lib.hid fun c => by rw [hpp]; exact HCS.out k c
      obtain ⟨c, hc⟩ : ∃ c, c = l.getD k 0 := ⟨_, rfl⟩
      rw [← hc] at e0 bdc NO NN YY
      rw [← hpp] at q0 KA1 HG0
      rw [← hlk2] at KA1 HACk
      clear hc hcl hlk hpp hlk2 g0 g1 gu hwl
      by_cases hcn : c = -1
      · have c1' : (c == -1) = true := by simpa using hcn
        obtain ⟨z1, z2⟩ := NN.out hcn
        have OK2 := Lib.hid (KK.out z1)
        have SS2 : RowKit.Hid (y = sumL P l (k + 1)) := Lib.hid (by rw [SS.out, z2]; omega)
        have HCN := Lib.hid hcn
        clear hcn z1 z2 SS KK YY NN NO
        go_wp2_with fail
        exact ⟨⟨k + 1, y, by omega, by go_num, SS2.out, rfl, OK2.out, BB.out⟩, by simp [intOf]; omega⟩
      · have c1' : (c == -1) = false := by simpa using hcn
        have HCN := Lib.hid hcn
        clear hcn
        go_wp2_with fail
        refine (KA1.out c).mono ?_
        rintro e w1 ⟨rfl, hb1⟩
        have B1 := Lib.hid (BB.out.trans (hb1.mono BB.out.size))
        clear hb1 q0 q1 e0
        by_cases h1 : c ∈ lk
        case neg =>
          have d1 := decide_eq_false h1
          have HR : RowKit.Hid (CostE P l w (.returned (.tuple #[.int .i64 0, .bool false])) w1) := Lib.hid ⟨by rw [NO.out HCN.out (.inl fun h => h1 ((HACk.out c).1 h).1)], B1.out⟩
          clear h1 SS KK YY NN NO
          rw [d1]
          go_wp2_with fail
          go_ret2
          exact HR.out
        have d1 := decide_eq_true h1
        have H1 := Lib.hid h1
        clear h1
        rw [d1]
        by_cases h2 : c < 0
        · have d2 := decide_eq_true h2
          have HR : RowKit.Hid (CostE P l w (.returned (.tuple #[.int .i64 0, .bool false])) w1) := Lib.hid ⟨by rw [NO.out HCN.out (.inl fun h => by have := ((HACk.out c).1 h).2.1; omega)], B1.out⟩
          clear h2 SS KK YY NN NO
          go_wp2_with fail
          go_ret2
          exact HR.out
        have d2 := decide_eq_false h2
        by_cases h3 : c < P.n
        case neg =>
          have d3 : decide ((P.n : Int) ≤ c) = true := decide_eq_true (by omega)
          have HR : RowKit.Hid (CostE P l w (.returned (.tuple #[.int .i64 0, .bool false])) w1) := Lib.hid ⟨by rw [NO.out HCN.out (.inl fun h => by have := ((HACk.out c).1 h).2.2; omega)], B1.out⟩
          clear h2 h3 SS KK YY NN NO
          go_wp2_with fail
          go_ret2
          exact HR.out
        have d3 : decide ((P.n : Int) ≤ c) = false := decide_eq_false (by omega)
        have ME := Lib.hid ((HACk.out c).2 ⟨H1.out, by omega, by omega⟩)
        obtain ⟨cn, rfl⟩ : ∃ cn : Nat, c = (cn : Int) := ⟨c.toNat, by omega⟩
        have d4 : decide (P.n ≤ cn) = false := decide_eq_false (by omega)
        have hcn : cn < P.n := by omega
        clear d1 h2 h3
        go_wp2_with fail
        go_loop [14] (fun i => ∃ j : Nat, j ≤ k ∧ i = .int .i64 j ∧ ∀ q, q < j → l.getD q 0 ≠ (cn : Int)) (fun i => k - (intOf i).toNat)
        case atStart => exact ⟨0, by omega, rfl, fun q hq => by omega⟩
        case round =>
          obtain ⟨j, hj, rfl, hn⟩ := hrel
          have HN := Lib.hid hn
          clear hn
          by_cases hjk : j < k
          · have f0 := (B1.out.cell (p := ⟨b, o + j, none⟩) (by show b < w.heap.size; omega)).trans (HCL.out j (by omega))
            obtain ⟨x, hx⟩ : ∃ x, x = l.getD j 0 := ⟨_, rfl⟩
            rw [← hx] at f0
            have HX := Lib.hid hx
            clear hx
            by_cases hxc : x = (cn : Int)
            · have hxc' : (x == (cn : Int)) = true := by simpa using hxc
              have HR : RowKit.Hid (CostE P l w (.returned (.tuple #[.int .i64 0, .bool false])) w1) := Lib.hid ⟨by rw [NO.out HCN.out (.inr ((MT.out _).2 ⟨j, hjk, by rw [← HX.out]; exact hxc⟩))], B1.out⟩
              clear hxc SS KK YY NN NO
              go_wp2_with fail
              go_ret2
              exact HR.out
            · have hxc' : (x == (cn : Int)) = false := by simpa using hxc
              have HXC := Lib.hid hxc
              clear hxc
              go_wp2_with fail
              go_round
              case rel => exact ⟨j + 1, by omega, by go_num, fun q hq => by
                rcases Nat.lt_or_ge q j with h' | h'
                · exact HN.out q h'
                · obtain rfl : q = j := by omega
                  rw [← HX.out]; exact HXC.out⟩
              case measure => simp [intOf]; omega
          · obtain rfl : j = k := by omega
            obtain ⟨z1, z2⟩ := YY.out HCN.out ME.out (fun h => by
              obtain ⟨q, hq, e⟩ := (MT.out _).1 h
              exact HN.out q hq e)
            rcases HA.out with h | ⟨ba, oa, rfl, hbA, hacl⟩
            · have := HPN.out; rw [h] at this; simp at this; omega
            have f1 := (B1.out.cell (p := ⟨ba, oa + cn, none⟩) (by show ba < w.heap.size; omega)).trans (hacl cn hcn)
            have f2 := (B1.out.cell (p := ⟨bw, ow + j * 2, none⟩) (by show bw < w.heap.size; omega)).trans HG0.out
            have OK2 := Lib.hid (KK.out z1)
            have hz := HCS2.out cn
            have SS2 : RowKit.Hid (y + P.cst j cn = sumL P l (j + 1)) := Lib.hid (by rw [SS.out, z2]; simp)
            have hbd := HBD.out j cn
            rw [hz] at hbd SS2
            have KW1 := Lib.hid (KW.out w1 B1.out)
            obtain ⟨ax, hax⟩ : ∃ ax, ax = A.getD cn 0 := ⟨_, rfl⟩
            rw [← hax] at hbd SS2 f1
            obtain ⟨z, hz2⟩ : ∃ z, z = wayI C ax pp := ⟨_, rfl⟩
            rw [← hz2] at hbd SS2
            have KW2 : RowKit.Hid (∀ n, Calls Try.prog 21 #[.slice ac C.length capc, .int .i64 ax, .int .i64 pp] (w1.drewN n) fun e w' => e = .returned (.int .i64 z) ∧ w' = w1.drewN n) := Lib.hid fun n => by rw [hz2]; exact (KW1.out n _ _).mono fun _ _ h => ⟨h.1, h.2.symm⟩
            have hwr : IntKind.i64.wrap (y + z) = y + z := IntWalk.i64_in _ (by omega)
            have hcnb : (cn : Int) < (P.n : Int) := by omega
            have hjb : (j : Int) < (P.m : Int) := by omega
            clear z1 z2 hz hz2 hax hacl SS KK YY NN NO
            go_wp2_with fail
            go_quiet ((go_at_call 21; exact Calls.quiet_of_same (KW2.out _)))
            rename_i nq
            have B9 := Lib.hid (bdrewN B1.out nq)
            clear hwr
            go_wp2_with fail
            exact ⟨⟨j + 1, y + z, by omega, by go_num, SS2.out, rfl, OK2.out, B9.out⟩, by simp [intOf]; omega⟩
    · obtain rfl : k = P.m := by omega
      have HR : RowKit.Hid (CostE P l w (.returned (.tuple #[.int .i64 y, .bool true])) wo) := Lib.hid ⟨by rw [costF_yes HLEN.out OK.out, HY.out], BB.out⟩
      go_wp2_with fail
      go_ret2
      exact HR.out
end Go.Proofs.Ytpcmppamkgkdlaa
