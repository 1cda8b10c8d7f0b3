/- The contract of Cost. -/
import Derived.Test.YtpcmppamkgkdlaaTB
import Derived.Test.YtpcmppamkgkdlaaSA
namespace Go.Proofs.Ytpcmppamkgkdlaa
open Go.RowKit Go.Maps

theorem okAt_none {P : Prob} {l : List Int} {k : Nat} (h : l.getD k 0 = -1) : okAt P l k = true ∧ oneL P l k = 0 := by
  unfold okAt oneL; rw [if_pos h, decide_eq_true h]; exact ⟨rfl, rfl⟩
theorem okAt_not {P : Prob} {l : List Int} {k : Nat} (h : l.getD k 0 ≠ -1) (h2 : l.getD k 0 ∉ ints (P.acc k) ∨ l.getD k 0 ∈ l.take k) : okAt P l k = false := by
  unfold okAt
  rw [decide_eq_false h, Bool.false_or]
  rcases h2 with h2 | h2
  · rw [mem_ints] at h2
    by_cases h0 : 0 ≤ l.getD k 0
    · have : (P.acc k).contains (l.getD k 0).toNat = false := by simpa using fun e => h2 ⟨h0, e⟩
      rw [this]; simp
    · rw [decide_eq_false h0]; simp
  · have : (l.take k).contains (l.getD k 0) = true := by simpa using h2
    rw [this]; simp
theorem okAt_yes {P : Prob} {l : List Int} {k : Nat} (h : l.getD k 0 ≠ -1) (h1 : l.getD k 0 ∈ ints (P.acc k)) (h2 : l.getD k 0 ∉ l.take k) : okAt P l k = true ∧ oneL P l k = P.cst k (l.getD k 0).toNat := by
  obtain ⟨h0, h3⟩ := mem_ints.1 h1
  refine ⟨?_, by unfold oneL; rw [if_neg h]⟩
  unfold okAt
  have a1 : (P.acc k).contains (l.getD k 0).toNat = true := by simpa using h3
  have a2 : (l.take k).contains (l.getD k 0) = false := by simpa using h2
  rw [a1, a2, decide_eq_true h0]; simp
def usedL (l : List Int) (k : Nat) : List Int := (l.take k).filter fun c => decide (c ≠ -1)
theorem usedL_skip {l : List Int} {k : Nat} (hk : k < l.length) (h : l.getD k 0 = -1) : usedL l (k + 1) = usedL l k := by
  unfold usedL; rw [take_succD (d := 0) k hk, List.filter_append, h]; simp
theorem usedL_take {l : List Int} {k : Nat} (hk : k < l.length) (h : l.getD k 0 ≠ -1) : usedL l (k + 1) = usedL l k ++ [l.getD k 0] := by
  unfold usedL; rw [take_succD (d := 0) k hk, List.filter_append]; simp only [List.filter_cons, decide_eq_true h]; rfl
theorem mem_usedL {l : List Int} {k : Nat} {x : Int} (h : x ≠ -1) : x ∈ usedL l k ↔ x ∈ l.take k := by simp [usedL, h]
theorem sumL_succ (P : Prob) (l : List Int) (k : Nat) : sumL P l (k + 1) = sumL P l k + oneL P l k := rfl
set_option maxRecDepth 100000 in
set_option maxHeartbeats 4000000 in
theorem cost_any (L : List Wt) (A : List Int) (C : List (List Int)) (l : List Int) (w : World) (B : Nat) (wv av cv lv : Value) (hL : Wants w B wv L) (hA : Ints w B av A) (hC : Rows2 w B cv C) (hI : Ints w B lv l)
    (hl : L.length ≤ 1000) (ha : A.length ≤ 1000) (hl2 : ∀ k, (L.getD k noW).2.length ≤ 1000) (hc : ∀ k, ((C.getD k []).length : Int) ≤ 9223372036854775807) (hB : B ≤ w.heap.size) (hll : l.length ≤ 100000)
    (hlb : ∀ i, i < l.length → -9223372036854775808 ≤ l.getD i 0 ∧ l.getD i 0 ≤ 9223372036854775807) :
    Calls Try.prog 16 #[wv, av, cv, lv] w (CostE (prob L A C) l w) := by
  have KO := Lib.hid (open_any L A C w B wv av cv hL hA hC hl ha hl2 hc hB)
  have HBD : RowKit.Hid (∀ k c, 0 ≤ (prob L A C).cst k c ∧ (prob L A C).cst k c ≤ 1000000) := Lib.hid (prob_cst L A C)
  obtain ⟨aw, capw, rfl, -⟩ := hL
  obtain ⟨aa, capa, rfl, -⟩ := hA
  obtain ⟨al, capl, rfl, hI⟩ := hI
  have HI := Lib.hid hI
  have HLB := Lib.hid hlb
  obtain ⟨P, hP⟩ : ∃ P, P = prob L A C := ⟨_, rfl⟩
  have hPm : L.length = P.m := by rw [hP]; rfl
  have hPn : A.length = P.n := by rw [hP]; rfl
  rw [← hP] at KO HBD ⊢
  have hm1 : P.m ≤ 1000 := by omega
  have hn1 : P.n ≤ 1000 := by omega
  rw [hPm, hPn] at KO ⊢
  have hmf : ∀ (fn : Fn) (first cap : Array Value) (w : World), (Instr.makeFunc fn first cap).run Try.prog w = .ok (.func fn first cap) w := fun _ _ _ _ => rfl
  have hmm := @run_makeMap Try.prog
  clear hC hP hPm hPn hl ha hl2 hc hI hlb
  by_cases hlen : l.length = P.m
  case neg =>
    have HF : RowKit.Hid (CostE P l w (.returned (.tuple #[.int .i64 0, .bool false])) w) := Lib.hid ⟨by rw [costF_len hlen], Below.refl _ _⟩
    have h1 : ((l.length : Int) != (P.m : Int)) = true := by simp; omega
    have h2 : (l.length != P.m) = true := by simpa using hlen
    clear hlen
    go_enter Try.func16, Try.ntmps16
    go_wp2_with fail
    go_ret2
    exact HF.out
  have HLEN := Lib.hid hlen
  rw [hlen] at hll HLB HI ⊢
  clear hlen
  go_enter Try.func16, Try.ntmps16
  go_wp2_with fail
  refine KO.out.mono ?_
  rintro e w1 ⟨av, kv, rfl, hpm, hb1⟩
  obtain ⟨a1, c1, hav, -⟩ := hpm.acc
  obtain ⟨a2, c2, hkv, -⟩ := hpm.cst
  have PM1 := Lib.hid hpm
  have B1 := Lib.hid hb1
  subst hav hkv
  have hz1 := hb1.size
  clear hpm hb1
  go_wp2_with fail
  obtain ⟨pb, hpb⟩ : ∃ pb, pb = w1.heap.size := ⟨_, rfl⟩
  obtain ⟨ub, hub⟩ : ∃ ub, ub = w1.heap.size + 1 := ⟨_, rfl⟩
  obtain ⟨w3, hw3⟩ : ∃ w3, w3 = (w1.alloc (Obj.cells #[Value.slice a1 P.m c1, Value.slice a2 P.m c2, Value.int IntKind.i64 ↑P.n] 57)).alloc (Obj.map #[] 0) := ⟨_, rfl⟩
  have PB : RowKit.Hid (Blk w3 pb #[.slice a1 P.m c1, .slice a2 P.m c2, .int .i64 P.n] 57) := Lib.hid (by rw [hw3, hpb]; exact (Blk.new _ _ _).alloc _)
  have UB : RowKit.Hid (w3.ownsMap (H := Unit) Try.prog 3 (plainElem Try.prog 4) ub 0 (.map [])) := Lib.hid (by
    rw [hw3, hub, show w1.heap.size + 1 = (w1.alloc (Obj.cells #[Value.slice a1 P.m c1, Value.slice a2 P.m c2, Value.int IntKind.i64 ↑P.n] 57)).heap.size by simp]
    exact World.ownsMap_made _ _ _ _)
  have B3 : RowKit.Hid (Below w1.heap.size w1 w3) := Lib.hid (by rw [hw3]; exact ((Below.refl _ _).alloc (Nat.le_refl _) _).alloc (by simp) _)
  have hbs : w1.heap.size ≤ pb ∧ w1.heap.size ≤ ub ∧ pb ≠ ub := by omega
  have HBS := Lib.hid hbs
  have hz3 : w1.heap.size ≤ w3.heap.size := by rw [hw3]; simp; omega
  rw [← hw3, ← hub, ← hpb]
  clear hw3 hpb hub hbs
  go_loopw [11, 30] (fun v x wr => ∃ (k : Nat) (y : Int) (D : DataW Unit), k ≤ P.m ∧ x = .int .i64 k ∧ y = sumL P l k ∧ v = .int .i64 y ∧ okB P l k = true ∧ wr.ownsMap (H := Unit) Try.prog 3 (plainElem Try.prog 4) ub k D ∧ RepB D (usedL l k) ∧ Tn (fun b => b = ub) w3 wr) (fun _ x _ => P.m - (intOf x).toNat)
  case atStart => exact ⟨0, 0, _, by omega, rfl, rfl, rfl, rfl, UB.out, repB_nil, Tn.refl _ _⟩
  case round =>
    obtain ⟨k, y, D, hk, rfl, hy, rfl, hok, hmp, hrp, hT⟩ := hrel
    have HY := Lib.hid hy
    have OK := Lib.hid hok
    have MP := Lib.hid hmp
    have RP := Lib.hid hrp
    have T1 := Lib.hid hT
    have BB : RowKit.Hid (Below w.heap.size w wr) := Lib.hid (B1.out.trans ((B3.out.mono hz1).trans (hT.below (by omega) fun b e => by have := HBS.out; omega)))
    have PM2 := Lib.hid (PM1.out.below (B3.out.trans (hT.below (B := w1.heap.size) hz3 fun b e => by have := HBS.out; omega)) (Nat.le_refl _))
    have hsb := sumL_bd HBD.out l k
    rw [← hy] at hsb
    clear hy hok hmp hrp hT
    by_cases hlt : k < P.m
    · rcases HI.out with h | ⟨b, o, rfl, hbB, hcl⟩
      · have := HLEN.out; rw [h] at this; simp at this; omega
      have e0 := (BB.out.cell (p := ⟨b, o + k, none⟩) (by show b < w.heap.size; omega)).trans (hcl k hlt)
      have hlk : k < l.length := by have := HLEN.out; omega
      have bdc := HLB.out k hlt
      have NO := Lib.hid (fun h2 h3 => costF_no (P := P) (l := l) (k := k) (okAt_not h2 h3) hlt)
      have NN := Lib.hid (fun h => okAt_none (P := P) (l := l) (k := k) h)
      have YY := Lib.hid (fun h h1 h2 => okAt_yes (P := P) (l := l) (k := k) h h1 h2)
      have US := Lib.hid (fun h => usedL_skip hlk h)
      have UT := Lib.hid (fun h => usedL_take hlk h)
      have KK : RowKit.Hid (okAt P l k = true → okB P l (k + 1) = true) := Lib.hid (fun h => by rw [okB, OK.out, h]; rfl)
      have SS : RowKit.Hid (sumL P l (k + 1) = y + oneL P l k) := Lib.hid (by rw [HY.out]; rfl)
      have HCL := Lib.hid hcl
      obtain ⟨c, hc⟩ : ∃ c, c = l.getD k 0 := ⟨_, rfl⟩
      rw [← hc] at e0 bdc NO NN YY US UT
      clear hc hcl hlk
      by_cases hcn : c = -1
      · have c1' : (c == -1) = true := by simpa using hcn
        obtain ⟨q1, q2⟩ := NN.out hcn
        have OK2 := Lib.hid (KK.out q1)
        have SS2 : RowKit.Hid (y = sumL P l (k + 1)) := Lib.hid (by rw [SS.out, q2]; omega)
        have RP2 : RowKit.Hid (RepB D (usedL l (k + 1))) := Lib.hid (by rw [US.out hcn]; exact RP.out)
        have MP2 := Lib.hid (MP.out.mono (Nat.le_succ k))
        have HCN := Lib.hid hcn
        clear hcn q1 q2 SS KK US UT YY NN NO
        go_wp2_with fail
        exact ⟨⟨k + 1, y, D, by omega, by go_num, SS2.out, rfl, OK2.out, MP2.out, RP2.out, T1.out⟩, by simp [intOf]; omega⟩
      · have c1' : (c == -1) = false := by simpa using hcn
        have p1 : wr.cell? ⟨pb, 1, none⟩ = some (.slice a2 P.m c2) := (T1.out.blk PB.out HBS.out.2.2).cell 1
        obtain ⟨a3, c3, he, hh⟩ := PM2.out.cst
        obtain ⟨g, mb, hga, hgl, hgc, hmb, hM⟩ := hh k hlt
        obtain ⟨rfl, rfl⟩ : a2 = a3 ∧ c2 = c3 := by injection he with h1 h2 h3; exact ⟨h1, h3⟩
        subst hga
        have lk := hM.look_ok c bdc.1 bdc.2
        have lu := lookB MP.out RP.out c bdc.1 bdc.2
        have HCN := Lib.hid hcn
        have HUS : RowKit.Hid (c ∈ usedL l k ↔ c ∈ l.take k) := Lib.hid (mem_usedL hcn)
        clear he hh hM
        by_cases h1 : c ∈ ints (P.acc k)
        · rw [if_pos h1, decide_eq_true h1] at lk
          by_cases h2 : c ∈ usedL l k
          · rw [decide_eq_true h2] at lu
            have HR : RowKit.Hid (CostE P l w (.returned (.tuple #[.int .i64 0, .bool false])) wr) := Lib.hid ⟨by rw [NO.out hcn (.inr (HUS.out.1 h2))], BB.out⟩
            clear hcn h1 h2 SS KK US UT YY NN NO
            go_wp2_with fail
            go_ret2
            exact HR.out
          · rw [decide_eq_false h2] at lu
            obtain ⟨q1, q2⟩ := YY.out hcn h1 (fun h => h2 (HUS.out.2 h))
            have bdn := HBD.out k c.toNat
            have OK2 := Lib.hid (KK.out q1)
            have SS2 : RowKit.Hid (y + P.cst k c.toNat = sumL P l (k + 1)) := Lib.hid (by rw [SS.out, q2])
            have UT2 := Lib.hid (UT.out hcn)
            obtain ⟨nn, hnn⟩ : ∃ nn, nn = P.cst k c.toNat := ⟨_, rfl⟩
            rw [← hnn] at lk bdn SS2
            clear hcn h1 h2 SS KK US UT YY NN NO q1 q2 hnn
            go_wp2_with (at_mapUpdate; go_must (refine wpList_mapUpdate_own _ rfl _ _ _ 65 rfl 3 4 key3 Try.underlying65 (plainElem Try.prog 4) ub k D rfl MP.out (by unfold maxLen; omega) _ _ _ rfl rfl (keyOf3 bdc.1 bdc.2) (.lit (.bool true)) [] (plainElem_bool Try.underlying4 true) ?_))
            intro w5 hown5 hgrow5
            have MP5 := Lib.hid hown5
            have RP5 : RowKit.Hid (RepB (D.put (.int .i64 c) (.lit (.bool true))) (usedL l (k + 1))) := Lib.hid (by rw [UT2.out]; exact repB_put RP.out bdc.1 bdc.2)
            have T5 : RowKit.Hid (Tn (fun b => b = ub) w3 w5) := Lib.hid (T1.out.then_ (Tn.of_grown hgrow5) fun b hb => .inl (by injection hb with hb; exact hb.symm))
            clear hown5 hgrow5
            go_wp2_with fail
            exact ⟨⟨k + 1, _, _, by omega, by go_num, SS2.out, rfl, OK2.out, MP5.out, RP5.out, T5.out⟩, by simp [intOf]; omega⟩
        · rw [if_neg h1, decide_eq_false h1] at lk
          have HR : RowKit.Hid (CostE P l w (.returned (.tuple #[.int .i64 0, .bool false])) wr) := Lib.hid ⟨by rw [NO.out hcn (.inl h1)], BB.out⟩
          clear hcn h1 SS KK US UT YY NN NO
          go_wp2_with fail
          go_ret2
          exact HR.out
    · obtain rfl : k = P.m := by omega
      have HR : RowKit.Hid (CostE P l w (.returned (.tuple #[.int .i64 y, .bool true])) wr) := Lib.hid ⟨by rw [costF_yes HLEN.out OK.out, HY.out], BB.out⟩
      go_wp2_with fail
      go_ret2
      exact HR.out
end Go.Proofs.Ytpcmppamkgkdlaa
