/- FundsAdd: the walk. -/
import Derived.Test.YtmnkgjgaileokaaFP
namespace Go.Proofs.Ytmnkgjgaileokaa
open Go.RowKit

def PV.at0 (v : PV) (f : Int → Int) (x : Int) : Int := if x ∈ v.ids then f x else 0
def sumTo (f : Int → Int) : Nat → Int
  | 0 => 0
  | n + 1 => sumTo f n + f ((n : Int) + 1)
theorem sumTo_add (f g : Int → Int) : ∀ n, sumTo (fun x => f x + g x) n = sumTo f n + sumTo g n
  | 0 => rfl
  | n + 1 => by simp only [sumTo, sumTo_add f g n]; omega
theorem sumTo_one (a c : Int) : ∀ n : Nat, sumTo (fun x => if x = a then c else 0) n = if 1 ≤ a ∧ a ≤ n then c else 0
  | 0 => by rw [if_neg (by omega)]; rfl
  | n + 1 => by
    simp only [sumTo, sumTo_one a c n]
    by_cases h : (n : Int) + 1 = a
    · rw [if_pos h, if_neg (by omega), if_pos (by omega)]; omega
    · rw [if_neg h]
      by_cases h2 : 1 ≤ a ∧ a ≤ n
      · rw [if_pos h2, if_pos (by omega)]; omega
      · rw [if_neg h2, if_neg (by omega)]; omega
theorem sumTo_congr {f g : Int → Int} (h : ∀ x, f x = g x) (n : Nat) : sumTo f n = sumTo g n := by rw [funext h]
theorem nine_sum (f : Int → Int) : ∀ ids : List Int, ids.Nodup → (∀ x ∈ ids, 1 ≤ x ∧ x ≤ 9) → sumTo (fun x => if x ∈ ids then f x else 0) 9 = (ids.map f).sum
  | [], _, _ => by simp [sumTo]
  | a :: l, hn, h => by
    obtain ⟨h1, h2⟩ := List.nodup_cons.1 hn
    have ih := nine_sum f l h2 fun x hx => h x (by simp [hx])
    have ha := h a (by simp)
    have e : ∀ x, (if x ∈ a :: l then f x else 0) = (if x = a then f a else 0) + (if x ∈ l then f x else 0) := by
      intro x
      by_cases hx : x = a
      · subst hx; rw [if_pos (by simp), if_pos rfl, if_neg h1]; omega
      · rw [if_neg hx]
        by_cases hl : x ∈ l
        · rw [if_pos (by simp [hl]), if_pos hl]; omega
        · rw [if_neg (by simp [hx, hl]), if_neg hl]; omega
    rw [sumTo_congr e, sumTo_add, ih, sumTo_one, if_pos (by omega)]
    simp
structure At0 (A S E F : Int) : Prop where
  sum : A = S + E + F
  s : 0 ≤ S
  e : 0 ≤ E
  f : 0 ≤ F
  le : A ≤ 1000000000000000
theorem Good.at0 {v : PV} (h : Good v) (x : Int) : At0 (v.at0 v.al x) (v.at0 v.sp x) (v.at0 v.en x) (v.free0 x) := by
  unfold PV.at0 PV.free0 PV.free
  by_cases hx : x ∈ v.ids
  · simp only [if_pos hx]
    have h1 := h.bal.le x hx
    have h2 := h.fix.sp x hx
    have h3 := h.fix.en x hx
    have h4 := le_sum v.al v.ids (fun z hz => by have := h.bal.le z hz; have := h.fix.sp z hz; have := h.fix.en z hz; omega) hx
    have h5 := h.bal.sum
    constructor <;> omega
  · simp only [if_neg hx]
    constructor <;> omega
theorem fund5_at0 (v : PV) (x : Int) : ∃ I P, v.fund5 x = #[.int .i64 I, .int .i64 P, .int .i64 (v.at0 v.al x), .int .i64 (v.at0 v.sp x), .int .i64 (v.at0 v.en x)] := by
  unfold PV.at0 PV.fund5
  by_cases hx : x ∈ v.ids
  · simp only [if_pos hx]; exact ⟨_, _, rfl⟩
  · simp only [if_neg hx]; exact ⟨_, _, rfl⟩
theorem sumTo_bd {v : PV} (h : Good v) : ∀ n : Nat, 0 ≤ sumTo (v.at0 v.al) n ∧ sumTo (v.at0 v.al) n ≤ n * 1000000000000000
  | 0 => by simp [sumTo]
  | n + 1 => by
    have := sumTo_bd h n
    obtain ⟨h1, h2, h3, h4, h5⟩ := h.at0 ((n : Int) + 1)
    simp only [sumTo]
    omega
theorem all_sum {v : PV} (h : Good v) (hn : Nine v) : sumTo (v.at0 v.al) 9 = v.m := by
  rw [h.sum]; exact nine_sum v.al v.ids h.fix.nd hn
/-- What becomes of the sum of all money. -/
theorem do_m {v v' : PV} {a : Act4} (h : Good v) (hi : In64 a) (hd : DoR v a v') : (a.k % 9 < 2 → (doC v a = 0 → v'.m = v.m + a.n) ∧ (doC v a ≠ 0 → v'.m = v.m)) ∧ (a.k % 9 = 8 → v'.m = v.m - doC v a ∧ 0 ≤ doC v a) ∧ (2 ≤ a.k % 9 → a.k % 9 ≠ 8 → v'.m = v.m) := by
  have k0 := hi.k0
  unfold DoR at hd
  unfold doC
  split at hd
  · rename_i hk
    rw [if_pos hk]
    obtain ⟨h1, h2, h3⟩ := good_add (x := a.a) (p := a.b) (a := a.n) h hi.a1
    exact ⟨fun _ => ⟨fun e => by rw [hd]; exact (h3 e).1, fun e => by rw [hd, h2 e]⟩, fun _ => by omega, fun _ => by omega⟩
  rename_i n1
  split at hd
  · exact ⟨fun _ => by omega, fun _ => by omega, fun _ _ => by rw [hd]; exact (good_move h _ _ _).2.2⟩
  rename_i n2
  split at hd
  · exact ⟨fun _ => by omega, fun _ => by omega, fun _ _ => by rw [hd]; exact (good_enc h _ _).2.2⟩
  rename_i n3
  split at hd
  · exact ⟨fun _ => by omega, fun _ => by omega, fun _ _ => by rw [hd]; exact (good_rel h _ _).2.2⟩
  rename_i n4
  split at hd
  · exact ⟨fun _ => by omega, fun _ => by omega, fun _ _ => by rw [hd]; exact (good_spend h _ _).2.2⟩
  rename_i n5
  rw [if_neg n1, if_neg n2, if_neg n3, if_neg n4, if_neg n5]
  exact ⟨fun _ => by omega, fun _ => ⟨(good_close h hd).2.2, sum_nonneg _ _ h.fix.sp⟩, fun _ _ => by omega⟩
def m4 (x y z u : Int) : Int := if u < (if z < (if y < x then y else x) then z else (if y < x then y else x)) then u else (if z < (if y < x then y else x) then z else (if y < x then y else x))
theorem run_min4 {P : Program} (w : World) (ts : Array TypeId) (t : TypeId) (k k' k'' k3 : IntKind) (x y z u : Int) : (Builtin.min_ ts t #[.int k x, .int k' y, .int k'' z, .int k3 u]).run P w = .ok (.int k (m4 x y z u)) w := by
  simp [Builtin.min_, Builtin.min2, m4]
theorem m4_nn {x y z u : Int} (hx : 0 ≤ x) (hy : 0 ≤ y) (hz : 0 ≤ z) (hu : 0 ≤ u) : 0 ≤ m4 x y z u := by
  unfold m4
  repeat' split
  all_goals assumption
attribute [local go_sem] over_cell over_frozen run_min4
set_option maxRecDepth 100000 in
set_option maxHeartbeats 4000000 in
theorem addLaw (L : List Act4) (a : Option Addr) (cap : Nat) (w : World) (h : InA w a L cap) :
    Calls Try.prog 3 #[.slice a L.length cap] w fun r w' => r = .returned (.bool true) ∧ Below w.heap.size w w' := by
  have hcap := h.cap
  have hlen := h.len
  have HI0 := Lib.hid h
  clear h
  go_enter Try.func3, Try.ntmps3
  go_wp2_with fail
  refine (sanity_any w).mono ?_
  rintro e w0 ⟨rfl, hb0⟩
  have HI := Lib.hid (HI0.out.below hb0 (Nat.le_refl _))
  have HB0 := Lib.hid hb0
  clear hb0 HI0
  go_wp2_with fail
  refine (new_any w0).mono ?_
  rintro e w1 ⟨rfl, hM, hw⟩
  have S0 := Lib.hid (St.start hM hw)
  clear hM hw
  generalize FS.new w0.heap.size = s0 at *
  go_wp2_with fail
  go_loopw [5, 6] (fun al i wr => ∃ k : Nat, k ≤ L.length ∧ k ≤ 60 ∧ i = .int .i64 k ∧ ∃ s v, St w0 w0.heap.size wr s v ∧ Run L k v ∧ al = .int .i64 v.m) (fun _ i _ => 60 - (intOf i).toNat)
  case atStart => exact ⟨0, by omega, by omega, rfl, s0, q0, S0.out, run0 L, rfl⟩
  case round =>
    obtain ⟨k, hk, hk6, rfl, s, v, hS, hR, rfl⟩ := hrel
    have S := Lib.hid hS
    have R := Lib.hid hR
    clear hS hR S0
    have hm0 := R.out.good.m0
    by_cases hlt : k < L.length
    · by_cases h6 : k < 60
      · obtain ⟨b, o, rfl, hA⟩ := HI.out.get k hlt
        have hA' := hA.below S.out.below (by
          rcases HI.out.at_ with h1 | ⟨b', o', h1, h2, h3⟩
          · subst h1; simp at hlt
          · cases h1; exact h2)
        have hin : In64 L[k] := HI.out.in_ _ (List.getElem_mem hlt)
        have HN := Lib.hid hin
        obtain ⟨c, hc⟩ : ∃ c, c = L[k] := ⟨_, rfl⟩
        rw [← hc] at hA' HN
        have HC := Lib.hid hc
        obtain ⟨a0, a1, a2, a3⟩ := hA'
        clear hA hin hc
        go_wp2_with fail
        refine (small_any c _).mono ?_
        rintro e w2 ⟨rfl, hb⟩
        have hA2 := small_in HN.out
        have HA2 := Lib.hid hA2
        have sk0 : 0 ≤ c.small.k := hA2.k0
        have sk1 : c.small.k ≤ 255 := hA2.k1
        have sn0 : -1 ≤ c.small.n ∧ c.small.n ≤ 58 := by unfold Act4.small; dsimp only; omega
        have R2 := Lib.hid (fun v' (hd : DoR v c.small v') => R.out.step (v' := v') hlt (by rw [← HC.out]; exact HN.out) (by rw [← HC.out]; exact hd))
        have HDM := Lib.hid (fun v' (hd : DoR v c.small v') => do_m R.out.good hA2 hd)
        have hr : c.small.k.tmod 9 = c.small.k % 9 := by rw [Int.tmod_eq_emod_of_nonneg sk0]
        have S1 := Lib.hid ((S.out.read hb).read ((Below.refl _ _).alloc (Nat.le_refl _) (.cells (avs c.small) 27)))
        have A1 := Lib.hid (Blk.new w2 (avs c.small) 27)
        have OA := Lib.hid ((S.out.read hb).mem.fresh _ (Nat.le_refl _))
        obtain ⟨k', a', b', n', hk'⟩ : ∃ k' a' b' n', (⟨k', a', b', n'⟩ : Act4) = c.small := ⟨_, _, _, _, rfl⟩
        have e1 : c.small.k = k' := by rw [← hk']
        have e2 : c.small.n = n' := by rw [← hk']
        rw [e1] at sk0 sk1 hr
        rw [e2] at sn0
        rw [← hk'] at S1 A1 R2 HDM HA2
        rw [← hk']
        clear hb S a0 a1 a2 a3 hA2 hk' e1 e2
        go_wp2_with fail
        obtain ⟨W, hW⟩ : ∃ W, W = w2.alloc (.cells #[.int .u8 k', .int .i64 a', .int .i64 b', .int .i64 n'] 27) := ⟨_, rfl⟩
        unfold avs at S1 A1
        dsimp only at S1 A1
        rw [← hW] at S1 A1 ⊢
        clear hW
        obtain ⟨A, hA⟩ : ∃ A, A = w2.heap.size := ⟨_, rfl⟩
        rw [← hA] at A1 OA ⊢
        clear hA
        obtain ⟨x0, x1, x2, x3⟩ : W.cell? ⟨A, 0, none⟩ = some (.int .u8 k') ∧ W.cell? ⟨A, 1, none⟩ = some (.int .i64 a') ∧ W.cell? ⟨A, 2, none⟩ = some (.int .i64 b') ∧ W.cell? ⟨A, 3, none⟩ = some (.int .i64 n') := ⟨A1.out.cell 0, A1.out.cell 1, A1.out.cell 2, A1.out.cell 3⟩
        go_wp2_with fail
        clear x0 x1 x2 x3
        have h3 : k' % 9 < 2 ∨ k' % 9 = 8 ∨ (2 ≤ k' % 9 ∧ k' % 9 ≠ 8) := by omega
        have hr0 : 0 ≤ k' % 9 := by omega
        have kind : (k' % 9 < 2 ∧ doC v ⟨k', a', b', n'⟩ = 0) ∨ (k' % 9 < 2 ∧ doC v ⟨k', a', b', n'⟩ ≠ 0) ∨ k' % 9 = 8 ∨ (2 ≤ k' % 9 ∧ k' % 9 ≠ 8) := by
          rcases h3 with h | h | h
          · by_cases e : doC v ⟨k', a', b', n'⟩ = 0
            · exact .inl ⟨h, e⟩
            · exact .inr (.inl ⟨h, e⟩)
          · exact .inr (.inr (.inl h))
          · exact .inr (.inr (.inr h))
        clear h3
        obtain ⟨cc, hcc⟩ : ∃ cc, doC v ⟨k', a', b', n'⟩ = cc := ⟨_, rfl⟩
        have key := do_st S1.out.mem S1.out.pv R.out.good HA2.out hcc
        rw [S1.out.fb] at key
        refine key.mono ?_
        clear key
        rintro e w3 ⟨rfl, s', hM, hT, hf, hd⟩
        have S2 := Lib.hid (S1.out.step hM hT hf rfl)
        have A2 := Lib.hid (hT.blk A1.out OA.out)
        have R3 := Lib.hid (R2.out _ hd)
        have D3 := HDM.out _ hd
        rw [hcc] at kind D3
        generalize s'.pv = u at *
        have G2 := Lib.hid R3.out.good
        have hm1 := R3.out.good.m0
        obtain ⟨x0, x1, x2, x3⟩ : w3.cell? ⟨A, 0, none⟩ = some (.int .u8 k') ∧ w3.cell? ⟨A, 1, none⟩ = some (.int .i64 a') ∧ w3.cell? ⟨A, 2, none⟩ = some (.int .i64 b') ∧ w3.cell? ⟨A, 3, none⟩ = some (.int .i64 n') := ⟨A2.out.cell 0, A2.out.cell 1, A2.out.cell 2, A2.out.cell 3⟩
        clear hM hT hf hd A1 S1 OA R2 HDM R hcc
        generalize k' % 9 = r at *
        rcases kind with ⟨h1, rfl⟩ | ⟨h1, h2⟩ | rfl | ⟨h1, h2⟩
        · have HM := Lib.hid ((D3.1 h1).1 rfl)
          have h8 : (r == 8) = false := by simp; omega
          clear D3
          go_wp2_with fail
          go_loopw [9, 10] (fun sm i wr => ∃ (n : Nat) (SM : Int), n ≤ 9 ∧ i = .int .i64 ((n : Int) + 1) ∧ sm = .int .i64 SM ∧ SM = sumTo (u.at0 u.al) n ∧ St w0 w0.heap.size wr s' u) (fun _ i _ => 10 - (intOf i).toNat)
          case atStart => exact ⟨0, 0, by omega, rfl, rfl, rfl, S2.out⟩
          case round =>
            obtain ⟨n, SM, hn, rfl, rfl, hSM, hS⟩ := hrel
            have S3 := Lib.hid hS
            have HSM := Lib.hid hSM
            have bd := sumTo_bd G2.out n
            rw [← hSM] at bd
            clear hS hSM
            by_cases hn9 : n < 9
            · obtain ⟨I, P, hf5⟩ := fund5_at0 u ((n : Int) + 1)
              have h0 := G2.out.at0 ((n : Int) + 1)
              have HS5 : RowKit.Hid (sumTo (u.at0 u.al) (n + 1) = sumTo (u.at0 u.al) n + u.at0 u.al ((n : Int) + 1)) := rfl
              have HF0 := Lib.hid (fun (w' : World) (s : FS) (hM : Mem w' s) (hp : s.pv = u) => free_st (x := (n : Int) + 1) hM hp G2.out rfl (by omega) (by omega))
              obtain ⟨FA, hFA⟩ : ∃ z, u.at0 u.al ((n : Int) + 1) = z := ⟨_, rfl⟩
              obtain ⟨FS', hFS⟩ : ∃ z, u.at0 u.sp ((n : Int) + 1) = z := ⟨_, rfl⟩
              obtain ⟨FE, hFE⟩ : ∃ z, u.at0 u.en ((n : Int) + 1) = z := ⟨_, rfl⟩
              obtain ⟨FF, hFF⟩ : ∃ z, u.free0 ((n : Int) + 1) = z := ⟨_, rfl⟩
              rw [hFA, hFS, hFE] at hf5
              rw [hFA, hFS, hFE, hFF] at h0
              rw [hFA] at HS5
              rw [hFF] at HF0
              obtain ⟨q1, q2, q3, q4, q5⟩ := h0
              subst q1
              have HF5 := Lib.hid hf5
              have hm4 : decide (m4 (FS' + FE + FF) FS' FE FF < 0) = false := by have := m4_nn (x := FS' + FE + FF) (by omega) q2 q3 q4; simpa using this
              clear hFA hFS hFE hFF hf5
              go_wp2_with fail
              have key := fund_st (x := (n : Int) + 1) S3.out.mem S3.out.pv HF5.out rfl (by omega) (by omega)
              rw [S3.out.fb] at key
              refine key.mono ?_
              clear key
              rintro e w5 ⟨rfl, hb⟩
              have R4 := Lib.hid (S3.out.read hb)
              clear hb S3
              go_wp2_with fail
              have S4 := Lib.hid (R4.out.read ((Below.refl _ _).alloc (Nat.le_refl _) (.cells #[.int .i64 I, .int .i64 P, .int .i64 (FS' + FE + FF), .int .i64 FS', .int .i64 FE] 31)))
              have K4 := Lib.hid (Blk.new w5 #[.int .i64 I, .int .i64 P, .int .i64 (FS' + FE + FF), .int .i64 FS', .int .i64 FE] 31)
              generalize w5.alloc (.cells #[.int .i64 I, .int .i64 P, .int .i64 (FS' + FE + FF), .int .i64 FS', .int .i64 FE] 31) = W5 at *
              generalize w5.heap.size = B5 at *
              obtain ⟨c0, c1, c2, c3, c4⟩ := five K4.out
              have hz5 := K4.out.lt
              have hFr : RowKit.Hid (∀ y, Calls Try.prog 18 #[.pointer (some ⟨w0.heap.size, 0, none⟩), .int .i64 ((n : Int) + 1)] (over W5 y) fun r w' => r = .returned (.int .i64 FF) ∧ Below (over W5 y).heap.size (over W5 y) w') := fun y => by
                have h1 := S4.out.read (below_over W5 y)
                have := HF0.out _ _ h1.mem h1.pv
                rwa [h1.fb] at this
              clear R4
              refine wp_region_over (by kernel_rfl) (by kernel_rfl) ?_
              repeat (go_big_quiet_step ((go_at_call 18; exact inOver (hFr.out _))))
              refine wpQuiet_nil ?_
              rintro _ ⟨nq, rfl⟩
              have S5 := Lib.hid (S4.out.read (below_over W5 nq))
              have K5 := Lib.hid (K4.out.over nq)
              clear c0 c1 c2 c3 c4 hz5 hFr HF0 HF5 S4 K4
              generalize over W5 nq = W6 at *
              obtain ⟨c0, c1, c2, c3, c4⟩ := five K5.out
              go_wp2_with fail
              refine ⟨⟨n + 1, SM + (FS' + FE + FF), by omega, by go_num, rfl, by rw [HS5.out, ← HSM.out], S5.out⟩, by simp [intOf]; omega⟩
            · obtain rfl : n = 9 := by omega
              have hSM9 : SM = u.m := by rw [HSM.out]; exact all_sum G2.out R3.out.nine
              rw [HM.out] at hSM9
              subst hSM9
              go_wp2_with fail
              refine ⟨⟨k + 1, by omega, by omega, by go_num, s', u, S3.out, R3.out, by rw [HM.out]⟩, by simp [intOf]; omega⟩
        · have HM := Lib.hid ((D3.1 h1).2 h2)
          have h8 : (r == 8) = false := by simp; omega
          have h2' : (cc == 0) = false := by simpa using h2
          clear D3 h2
          go_wp2_with fail
          go_loopw [9, 10] (fun sm i wr => ∃ (n : Nat) (SM : Int), n ≤ 9 ∧ i = .int .i64 ((n : Int) + 1) ∧ sm = .int .i64 SM ∧ SM = sumTo (u.at0 u.al) n ∧ St w0 w0.heap.size wr s' u) (fun _ i _ => 10 - (intOf i).toNat)
          case atStart => exact ⟨0, 0, by omega, rfl, rfl, rfl, S2.out⟩
          case round =>
            obtain ⟨n, SM, hn, rfl, rfl, hSM, hS⟩ := hrel
            have S3 := Lib.hid hS
            have HSM := Lib.hid hSM
            have bd := sumTo_bd G2.out n
            rw [← hSM] at bd
            clear hS hSM
            by_cases hn9 : n < 9
            · obtain ⟨I, P, hf5⟩ := fund5_at0 u ((n : Int) + 1)
              have h0 := G2.out.at0 ((n : Int) + 1)
              have HS5 : RowKit.Hid (sumTo (u.at0 u.al) (n + 1) = sumTo (u.at0 u.al) n + u.at0 u.al ((n : Int) + 1)) := rfl
              have HF0 := Lib.hid (fun (w' : World) (s : FS) (hM : Mem w' s) (hp : s.pv = u) => free_st (x := (n : Int) + 1) hM hp G2.out rfl (by omega) (by omega))
              obtain ⟨FA, hFA⟩ : ∃ z, u.at0 u.al ((n : Int) + 1) = z := ⟨_, rfl⟩
              obtain ⟨FS', hFS⟩ : ∃ z, u.at0 u.sp ((n : Int) + 1) = z := ⟨_, rfl⟩
              obtain ⟨FE, hFE⟩ : ∃ z, u.at0 u.en ((n : Int) + 1) = z := ⟨_, rfl⟩
              obtain ⟨FF, hFF⟩ : ∃ z, u.free0 ((n : Int) + 1) = z := ⟨_, rfl⟩
              rw [hFA, hFS, hFE] at hf5
              rw [hFA, hFS, hFE, hFF] at h0
              rw [hFA] at HS5
              rw [hFF] at HF0
              obtain ⟨q1, q2, q3, q4, q5⟩ := h0
              subst q1
              have HF5 := Lib.hid hf5
              have hm4 : decide (m4 (FS' + FE + FF) FS' FE FF < 0) = false := by have := m4_nn (x := FS' + FE + FF) (by omega) q2 q3 q4; simpa using this
              clear hFA hFS hFE hFF hf5
              go_wp2_with fail
              have key := fund_st (x := (n : Int) + 1) S3.out.mem S3.out.pv HF5.out rfl (by omega) (by omega)
              rw [S3.out.fb] at key
              refine key.mono ?_
              clear key
              rintro e w5 ⟨rfl, hb⟩
              have R4 := Lib.hid (S3.out.read hb)
              clear hb S3
              go_wp2_with fail
              have S4 := Lib.hid (R4.out.read ((Below.refl _ _).alloc (Nat.le_refl _) (.cells #[.int .i64 I, .int .i64 P, .int .i64 (FS' + FE + FF), .int .i64 FS', .int .i64 FE] 31)))
              have K4 := Lib.hid (Blk.new w5 #[.int .i64 I, .int .i64 P, .int .i64 (FS' + FE + FF), .int .i64 FS', .int .i64 FE] 31)
              generalize w5.alloc (.cells #[.int .i64 I, .int .i64 P, .int .i64 (FS' + FE + FF), .int .i64 FS', .int .i64 FE] 31) = W5 at *
              generalize w5.heap.size = B5 at *
              obtain ⟨c0, c1, c2, c3, c4⟩ := five K4.out
              have hz5 := K4.out.lt
              have hFr : RowKit.Hid (∀ y, Calls Try.prog 18 #[.pointer (some ⟨w0.heap.size, 0, none⟩), .int .i64 ((n : Int) + 1)] (over W5 y) fun r w' => r = .returned (.int .i64 FF) ∧ Below (over W5 y).heap.size (over W5 y) w') := fun y => by
                have h1 := S4.out.read (below_over W5 y)
                have := HF0.out _ _ h1.mem h1.pv
                rwa [h1.fb] at this
              clear R4
              refine wp_region_over (by kernel_rfl) (by kernel_rfl) ?_
              repeat (go_big_quiet_step ((go_at_call 18; exact inOver (hFr.out _))))
              refine wpQuiet_nil ?_
              rintro _ ⟨nq, rfl⟩
              have S5 := Lib.hid (S4.out.read (below_over W5 nq))
              have K5 := Lib.hid (K4.out.over nq)
              clear c0 c1 c2 c3 c4 hz5 hFr HF0 HF5 S4 K4
              generalize over W5 nq = W6 at *
              obtain ⟨c0, c1, c2, c3, c4⟩ := five K5.out
              go_wp2_with fail
              refine ⟨⟨n + 1, SM + (FS' + FE + FF), by omega, by go_num, rfl, by rw [HS5.out, ← HSM.out], S5.out⟩, by simp [intOf]; omega⟩
            · obtain rfl : n = 9 := by omega
              have hSM9 : SM = u.m := by rw [HSM.out]; exact all_sum G2.out R3.out.nine
              rw [HM.out] at hSM9
              subst hSM9
              go_wp2_with fail
              refine ⟨⟨k + 1, by omega, by omega, by go_num, s', u, S3.out, R3.out, by rw [HM.out]⟩, by simp [intOf]; omega⟩
        · have D4 := D3.2.1 rfl
          have HM := Lib.hid D4.1
          clear D3
          go_wp2_with fail
          go_loopw [9, 10] (fun sm i wr => ∃ (n : Nat) (SM : Int), n ≤ 9 ∧ i = .int .i64 ((n : Int) + 1) ∧ sm = .int .i64 SM ∧ SM = sumTo (u.at0 u.al) n ∧ St w0 w0.heap.size wr s' u) (fun _ i _ => 10 - (intOf i).toNat)
          case atStart => exact ⟨0, 0, by omega, rfl, rfl, rfl, S2.out⟩
          case round =>
            obtain ⟨n, SM, hn, rfl, rfl, hSM, hS⟩ := hrel
            have S3 := Lib.hid hS
            have HSM := Lib.hid hSM
            have bd := sumTo_bd G2.out n
            rw [← hSM] at bd
            clear hS hSM
            by_cases hn9 : n < 9
            · obtain ⟨I, P, hf5⟩ := fund5_at0 u ((n : Int) + 1)
              have h0 := G2.out.at0 ((n : Int) + 1)
              have HS5 : RowKit.Hid (sumTo (u.at0 u.al) (n + 1) = sumTo (u.at0 u.al) n + u.at0 u.al ((n : Int) + 1)) := rfl
              have HF0 := Lib.hid (fun (w' : World) (s : FS) (hM : Mem w' s) (hp : s.pv = u) => free_st (x := (n : Int) + 1) hM hp G2.out rfl (by omega) (by omega))
              obtain ⟨FA, hFA⟩ : ∃ z, u.at0 u.al ((n : Int) + 1) = z := ⟨_, rfl⟩
              obtain ⟨FS', hFS⟩ : ∃ z, u.at0 u.sp ((n : Int) + 1) = z := ⟨_, rfl⟩
              obtain ⟨FE, hFE⟩ : ∃ z, u.at0 u.en ((n : Int) + 1) = z := ⟨_, rfl⟩
              obtain ⟨FF, hFF⟩ : ∃ z, u.free0 ((n : Int) + 1) = z := ⟨_, rfl⟩
              rw [hFA, hFS, hFE] at hf5
              rw [hFA, hFS, hFE, hFF] at h0
              rw [hFA] at HS5
              rw [hFF] at HF0
              obtain ⟨q1, q2, q3, q4, q5⟩ := h0
              subst q1
              have HF5 := Lib.hid hf5
              have hm4 : decide (m4 (FS' + FE + FF) FS' FE FF < 0) = false := by have := m4_nn (x := FS' + FE + FF) (by omega) q2 q3 q4; simpa using this
              clear hFA hFS hFE hFF hf5
              go_wp2_with fail
              have key := fund_st (x := (n : Int) + 1) S3.out.mem S3.out.pv HF5.out rfl (by omega) (by omega)
              rw [S3.out.fb] at key
              refine key.mono ?_
              clear key
              rintro e w5 ⟨rfl, hb⟩
              have R4 := Lib.hid (S3.out.read hb)
              clear hb S3
              go_wp2_with fail
              have S4 := Lib.hid (R4.out.read ((Below.refl _ _).alloc (Nat.le_refl _) (.cells #[.int .i64 I, .int .i64 P, .int .i64 (FS' + FE + FF), .int .i64 FS', .int .i64 FE] 31)))
              have K4 := Lib.hid (Blk.new w5 #[.int .i64 I, .int .i64 P, .int .i64 (FS' + FE + FF), .int .i64 FS', .int .i64 FE] 31)
              generalize w5.alloc (.cells #[.int .i64 I, .int .i64 P, .int .i64 (FS' + FE + FF), .int .i64 FS', .int .i64 FE] 31) = W5 at *
              generalize w5.heap.size = B5 at *
              obtain ⟨c0, c1, c2, c3, c4⟩ := five K4.out
              have hz5 := K4.out.lt
              have hFr : RowKit.Hid (∀ y, Calls Try.prog 18 #[.pointer (some ⟨w0.heap.size, 0, none⟩), .int .i64 ((n : Int) + 1)] (over W5 y) fun r w' => r = .returned (.int .i64 FF) ∧ Below (over W5 y).heap.size (over W5 y) w') := fun y => by
                have h1 := S4.out.read (below_over W5 y)
                have := HF0.out _ _ h1.mem h1.pv
                rwa [h1.fb] at this
              clear R4
              refine wp_region_over (by kernel_rfl) (by kernel_rfl) ?_
              repeat (go_big_quiet_step ((go_at_call 18; exact inOver (hFr.out _))))
              refine wpQuiet_nil ?_
              rintro _ ⟨nq, rfl⟩
              have S5 := Lib.hid (S4.out.read (below_over W5 nq))
              have K5 := Lib.hid (K4.out.over nq)
              clear c0 c1 c2 c3 c4 hz5 hFr HF0 HF5 S4 K4
              generalize over W5 nq = W6 at *
              obtain ⟨c0, c1, c2, c3, c4⟩ := five K5.out
              go_wp2_with fail
              refine ⟨⟨n + 1, SM + (FS' + FE + FF), by omega, by go_num, rfl, by rw [HS5.out, ← HSM.out], S5.out⟩, by simp [intOf]; omega⟩
            · obtain rfl : n = 9 := by omega
              have hSM9 : SM = u.m := by rw [HSM.out]; exact all_sum G2.out R3.out.nine
              rw [HM.out] at hSM9
              subst hSM9
              go_wp2_with fail
              refine ⟨⟨k + 1, by omega, by omega, by go_num, s', u, S3.out, R3.out, by rw [HM.out]⟩, by simp [intOf]; omega⟩
        · have HM := Lib.hid (D3.2.2 h1 h2)
          clear D3
          go_wp2_with fail
          go_loopw [9, 10] (fun sm i wr => ∃ (n : Nat) (SM : Int), n ≤ 9 ∧ i = .int .i64 ((n : Int) + 1) ∧ sm = .int .i64 SM ∧ SM = sumTo (u.at0 u.al) n ∧ St w0 w0.heap.size wr s' u) (fun _ i _ => 10 - (intOf i).toNat)
          case atStart => exact ⟨0, 0, by omega, rfl, rfl, rfl, S2.out⟩
          case round =>
            obtain ⟨n, SM, hn, rfl, rfl, hSM, hS⟩ := hrel
            have S3 := Lib.hid hS
            have HSM := Lib.hid hSM
            have bd := sumTo_bd G2.out n
            rw [← hSM] at bd
            clear hS hSM
            by_cases hn9 : n < 9
            · obtain ⟨I, P, hf5⟩ := fund5_at0 u ((n : Int) + 1)
              have h0 := G2.out.at0 ((n : Int) + 1)
              have HS5 : RowKit.Hid (sumTo (u.at0 u.al) (n + 1) = sumTo (u.at0 u.al) n + u.at0 u.al ((n : Int) + 1)) := rfl
              have HF0 := Lib.hid (fun (w' : World) (s : FS) (hM : Mem w' s) (hp : s.pv = u) => free_st (x := (n : Int) + 1) hM hp G2.out rfl (by omega) (by omega))
              obtain ⟨FA, hFA⟩ : ∃ z, u.at0 u.al ((n : Int) + 1) = z := ⟨_, rfl⟩
              obtain ⟨FS', hFS⟩ : ∃ z, u.at0 u.sp ((n : Int) + 1) = z := ⟨_, rfl⟩
              obtain ⟨FE, hFE⟩ : ∃ z, u.at0 u.en ((n : Int) + 1) = z := ⟨_, rfl⟩
              obtain ⟨FF, hFF⟩ : ∃ z, u.free0 ((n : Int) + 1) = z := ⟨_, rfl⟩
              rw [hFA, hFS, hFE] at hf5
              rw [hFA, hFS, hFE, hFF] at h0
              rw [hFA] at HS5
              rw [hFF] at HF0
              obtain ⟨q1, q2, q3, q4, q5⟩ := h0
              subst q1
              have HF5 := Lib.hid hf5
              have hm4 : decide (m4 (FS' + FE + FF) FS' FE FF < 0) = false := by have := m4_nn (x := FS' + FE + FF) (by omega) q2 q3 q4; simpa using this
              clear hFA hFS hFE hFF hf5
              go_wp2_with fail
              have key := fund_st (x := (n : Int) + 1) S3.out.mem S3.out.pv HF5.out rfl (by omega) (by omega)
              rw [S3.out.fb] at key
              refine key.mono ?_
              clear key
              rintro e w5 ⟨rfl, hb⟩
              have R4 := Lib.hid (S3.out.read hb)
              clear hb S3
              go_wp2_with fail
              have S4 := Lib.hid (R4.out.read ((Below.refl _ _).alloc (Nat.le_refl _) (.cells #[.int .i64 I, .int .i64 P, .int .i64 (FS' + FE + FF), .int .i64 FS', .int .i64 FE] 31)))
              have K4 := Lib.hid (Blk.new w5 #[.int .i64 I, .int .i64 P, .int .i64 (FS' + FE + FF), .int .i64 FS', .int .i64 FE] 31)
              generalize w5.alloc (.cells #[.int .i64 I, .int .i64 P, .int .i64 (FS' + FE + FF), .int .i64 FS', .int .i64 FE] 31) = W5 at *
              generalize w5.heap.size = B5 at *
              obtain ⟨c0, c1, c2, c3, c4⟩ := five K4.out
              have hz5 := K4.out.lt
              have hFr : RowKit.Hid (∀ y, Calls Try.prog 18 #[.pointer (some ⟨w0.heap.size, 0, none⟩), .int .i64 ((n : Int) + 1)] (over W5 y) fun r w' => r = .returned (.int .i64 FF) ∧ Below (over W5 y).heap.size (over W5 y) w') := fun y => by
                have h1 := S4.out.read (below_over W5 y)
                have := HF0.out _ _ h1.mem h1.pv
                rwa [h1.fb] at this
              clear R4
              refine wp_region_over (by kernel_rfl) (by kernel_rfl) ?_
              repeat (go_big_quiet_step ((go_at_call 18; exact inOver (hFr.out _))))
              refine wpQuiet_nil ?_
              rintro _ ⟨nq, rfl⟩
              have S5 := Lib.hid (S4.out.read (below_over W5 nq))
              have K5 := Lib.hid (K4.out.over nq)
              clear c0 c1 c2 c3 c4 hz5 hFr HF0 HF5 S4 K4
              generalize over W5 nq = W6 at *
              obtain ⟨c0, c1, c2, c3, c4⟩ := five K5.out
              go_wp2_with fail
              refine ⟨⟨n + 1, SM + (FS' + FE + FF), by omega, by go_num, rfl, by rw [HS5.out, ← HSM.out], S5.out⟩, by simp [intOf]; omega⟩
            · obtain rfl : n = 9 := by omega
              have hSM9 : SM = u.m := by rw [HSM.out]; exact all_sum G2.out R3.out.nine
              rw [HM.out] at hSM9
              subst hSM9
              go_wp2_with fail
              refine ⟨⟨k + 1, by omega, by omega, by go_num, s', u, S3.out, R3.out, by rw [HM.out]⟩, by simp [intOf]; omega⟩

      · go_wp2_with fail
        go_ret
        exact ⟨rfl, HB0.out.trans (S.out.below.mono HB0.out.size)⟩
    · go_wp2_with fail
      go_ret
      exact ⟨rfl, HB0.out.trans (S.out.below.mono HB0.out.size)⟩
end Go.Proofs.Ytmnkgjgaileokaa
