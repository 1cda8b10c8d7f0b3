/- The law: the assignment is that of the reference, for any numbers. -/
import Derived.Test.YtpcmppamkgkdlaaVH
import Derived.RegionTactic
import Derived.StillTailTactics
namespace Go.Proofs.Ytpcmppamkgkdlaa
open Go.RowKit

theorem add_off (b o i : Nat) : (⟨b, o, none⟩ : Addr).add i = ⟨b, o + i, none⟩ := by by_cases h : i = 0 <;> simp [Addr.add, h]
/-- Wants copied behind an empty list. -/
theorem wpList_append_wants {w : World} {ops : Array Oper} {rest : List Oper} {o : Oper} {a : Act} {Q : Exit → Act → World → Prop} (hgd : o.guard = none) (s x : Operand)
    (ho : o.op = .call { callee := .builtin .append, args := #[s, x], argTypes := #[29, 29] }) (b0 : Nat) (hs : a.eval s = .slice (some ⟨b0, 0, none⟩) 0 0) (h0 : w.ownsRow b0 41 2 (.slice (some ⟨b0, 0, none⟩) 0 0) 0 [])
    (ad : Option Addr) (n c : Nat) (xs : List Value) (hx : a.eval x = .slice ad n c) (hcn : ad = none → c = 0) (hl : xs.length = n * 2) (hn : n ≤ 6) (hnews : n = 0 ∨ ∃ b o, ad = some ⟨b, o, none⟩ ∧ ∀ j u, xs[j]? = some u → w.cell? ⟨b, o + j, none⟩ = some u) (h1 : ∀ u ∈ xs, u.oneCell' = true)
    (h : ∀ g cap w', w'.ownsRow b0 41 2 (.slice (some ⟨g, 0, none⟩) n cap) n xs → w.grownBy w' (some b0) → wpList Try.prog ops Q rest (a.put o.dst (.slice (some ⟨g, 0, none⟩) n cap)) w') :
    wpList Try.prog ops Q (o :: rest) a w := by
  have hb0 : b0 < w.heap.size := (row_lt h0 b0 rfl).2
  obtain ⟨i, hi, hz, hsize, hby⟩ := info_parts info41
  rcases Nat.eq_zero_or_pos n with rfl | hpos
  · obtain rfl : xs = [] := List.eq_nil_of_length_eq_zero (by simpa using hl)
    cases ad with
    | none =>
      obtain rfl := hcn rfl
      exact wpList_append_own_none hgd s x 29 ho b0 41 i 2 Try.underlying29 hi _ 0 [] hs h0 hx (h b0 0 w h0 (World.grownBy.refl w _))
    | some ad =>
      refine wpList_append_own_at w hgd s x 29 ho b0 41 i _ 2 _ Try.underlying29 hi hz hsize hby rfl (by decide) _ 0 [] hs h0 ad 0 c [] hx rfl (fun j u hj => by simp at hj) (fun u hu => by cases hu) (by unfold maxLen; omega) (by omega) (by omega) fun v' w' h2 h3 h4 h5 => ?_
      obtain ⟨hl2, ⟨rfl, _⟩ | ⟨g2, c2, cur2, rfl, q⟩⟩ := h2
      · have := h4.1 rfl
        cases this.1
      · exact h g2 c2 w' ⟨hl2, .inr ⟨g2, c2, cur2, rfl, q⟩⟩ h3
  · rcases hnews with h' | ⟨b, o1, rfl, hc⟩
    · omega
    refine wpList_append_lies w hgd s x 29 ho b0 41 i _ 2 _ Try.underlying29 hi hz hsize hby rfl (by decide) _ 0 [] hs h0 ⟨b, o1, none⟩ n c xs hx hl (fun j u hj => by rw [add_off]; exact hc j u hj) h1 hpos (by unfold maxLen; omega) (by omega) (by omega) _ rfl fun g2 cap w' h2 h3 h4 h5 => ?_
    rw [Nat.zero_add] at h2 ⊢
    exact h g2 cap w' (by simpa using h2) h3
/-- Wants that came in. -/
structure WIn (w : World) (a : Option Addr) (cap : Nat) (L : List Wt) (ua : Nat → Option Addr) (uc : Nat → Nat) : Prop where
  at_ : L = [] ∨ ∃ b o, a = some ⟨b, o, none⟩ ∧ b < w.heap.size ∧ ∀ j, j < L.length → w.cell? ⟨b, o + j * 2, none⟩ = some (.int .i64 (L.getD j noW).1) ∧ w.cell? ⟨b, o + j * 2 + 1, none⟩ = some (.slice (ua j) (L.getD j noW).2.length (uc j)) ∧ Ints w w.heap.size (.slice (ua j) (L.getD j noW).2.length (uc j)) (L.getD j noW).2
  caps : ∀ j, j < L.length → (L.getD j noW).2.length ≤ uc j ∧ uc j ≤ 9223372036854775807
  nil : a = none → cap = 0
  len : L.length ≤ cap ∧ cap ≤ 9223372036854775807
def cutW (p : Wt) : Wt := (p.1, p.2.take 10)
def cutL (L : List Wt) : List Wt := (L.take 6).map cutW
def cutN (L : List Wt) (k j : Nat) : Nat := if j < k then min (L.getD j noW).2.length 10 else (L.getD j noW).2.length
theorem cutL_len (L : List Wt) : (cutL L).length = min L.length 6 := by simp [cutL]; omega
theorem cutL_get (L : List Wt) {j : Nat} (h : j < min L.length 6) : (cutL L).getD j noW = cutW (L.getD j noW) := by
  rw [List.getD_eq_getElem?_getD, List.getElem?_eq_getElem (by rw [cutL_len]; exact h), List.getD_eq_getElem?_getD, List.getElem?_eq_getElem (by omega)]
  simp [cutL]
theorem cutL_cop (L : List Wt) (k : Nat) : ((cutL L).getD k noW).2.length ≤ 1000 := by
  rcases Nat.lt_or_ge k (cutL L).length with h | h
  · rw [cutL_get L (by rw [cutL_len] at h; exact h)]; simp [cutW]; omega
  · rw [List.getD_eq_getElem?_getD, List.getElem?_eq_none h]; simp [noW]
theorem Ints.cut {w : World} {B n cap : Nat} {a : Option Addr} {l : List Int} (h : Ints w B (.slice a n cap) l) (k : Nat) : Ints w B (.slice a (min n k) cap) (l.take k) := by
  obtain ⟨a', cap', e, h⟩ := h
  obtain ⟨rfl, rfl, rfl⟩ : a = a' ∧ n = l.length ∧ cap = cap' := by injection e with e1 e2 e3; exact ⟨e1, e2, e3⟩
  refine ⟨a, cap, by rw [List.length_take, Nat.min_comm], ?_⟩
  rcases h with h | ⟨b, o, h1, h2, h3⟩
  · exact .inl (by rw [h]; simp)
  · refine .inr ⟨b, o, h1, h2, fun j hj => ?_⟩
    have hj : j < k ∧ j < l.length := by rw [List.length_take] at hj; omega
    rw [h3 j hj.2, List.getD_eq_getElem?_getD, List.getD_eq_getElem?_getD, List.getElem?_take, if_pos hj.1]
/-- The copy, cut up to k. -/
structure CW (w W : World) (g n : Nat) (L : List Wt) (ua : Nat → Option Addr) (uc : Nat → Nat) (k : Nat) : Prop where
  c0 : ∀ j, j < n → W.cell? ⟨g, j * 2, none⟩ = some (.int .i64 (L.getD j noW).1)
  c1 : ∀ j, j < n → W.cell? ⟨g, j * 2 + 1, none⟩ = some (.slice (ua j) (cutN L k j) (uc j))
  fz : ∀ i, W.frozen? ⟨g, i, none⟩ = false
  bel : Below w.heap.size w W
  at_ : w.heap.size ≤ g ∧ g < W.heap.size
theorem CW.keep {w W W' : World} {g n : Nat} {L : List Wt} {ua : Nat → Option Addr} {uc : Nat → Nat} {k : Nat} (h : CW w W g n L ua uc k) (hb : Below W.heap.size W W') : CW w W' g n L ua uc k :=
  ⟨fun j hj => (hb.cell (p := ⟨g, j * 2, none⟩) h.at_.2).trans (h.c0 j hj), fun j hj => (hb.cell (p := ⟨g, j * 2 + 1, none⟩) h.at_.2).trans (h.c1 j hj), fun i => (hb.frozen (p := ⟨g, i, none⟩) h.at_.2).trans (h.fz i), h.bel.trans (hb.mono h.bel.size), h.at_.1, Nat.lt_of_lt_of_le h.at_.2 hb.size⟩
theorem CW.step {w W : World} {g n : Nat} {L : List Wt} {ua : Nat → Option Addr} {uc : Nat → Nat} {k : Nat} (h : CW w W g n L ua uc k) (hk : k < n) :
    CW w (W.setCell ⟨g, k * 2 + 1, none⟩ (.slice (ua k) (min (L.getD k noW).2.length 10) (uc k))) g n L ua uc (k + 1) := by
  refine ⟨fun j hj => ?_, fun j hj => ?_, fun i => by rw [World.frozen?_setCell]; exact h.fz i, h.bel.setCell h.at_.1 _, h.at_.1, by simpa using h.at_.2⟩
  · have hn : (⟨g, k * 2 + 1, none⟩ : Addr) ≠ ⟨g, j * 2, none⟩ := by intro e; injection e with _ e; omega
    exact (World.cell?_setCell_other _ _ _ _ hn).trans (h.c0 j hj)
  · by_cases e : j = k
    · subst e
      refine (World.cell?_setCell_same (h := h.c1 j hj) ..).trans ?_
      unfold cutN; rw [if_pos (by omega)]
    · have hn : (⟨g, k * 2 + 1, none⟩ : Addr) ≠ ⟨g, j * 2 + 1, none⟩ := by intro e'; injection e' with _ e'; omega
      refine (World.cell?_setCell_other _ _ _ _ hn).trans ((h.c1 j hj).trans ?_)
      unfold cutN
      by_cases hjk : j < k
      · rw [if_pos hjk, if_pos (by omega)]
      · rw [if_neg hjk, if_neg (by omega)]
theorem CW.wants {w W : World} {g n cap : Nat} {L : List Wt} {ua : Nat → Option Addr} {uc : Nat → Nat} (h : CW w W g n L ua uc n) (hn : n = min L.length 6) (hI : ∀ j, j < L.length → Ints w w.heap.size (.slice (ua j) (L.getD j noW).2.length (uc j)) (L.getD j noW).2) :
    Wants W W.heap.size (.slice (some ⟨g, 0, none⟩) n cap) (cutL L) := by
  refine ⟨_, cap, by rw [cutL_len, hn], .inr ⟨g, 0, rfl, h.at_.2, fun j hj => ?_⟩⟩
  rw [cutL_len, ← hn] at hj
  have c1 := h.c1 j hj
  unfold cutN at c1
  rw [if_pos hj] at c1
  rw [Nat.zero_add, cutL_get L (by omega)]
  exact ⟨_, h.c0 j hj, c1, ((hI j (by omega)).cut 10).below h.bel (Nat.le_refl _) |>.mono h.bel.size⟩
def wsN (L : List Wt) (ua : Nat → Option Addr) (uc : Nat → Nat) (n : Nat) : List (Int × Value) := (List.range n).map fun j => ((L.getD j noW).1, .slice (ua j) (L.getD j noW).2.length (uc j))
theorem wsN_len (L : List Wt) (ua : Nat → Option Addr) (uc : Nat → Nat) (n : Nat) : (wsN L ua uc n).length = n := by simp [wsN]
theorem encW_len : ∀ l : List (Int × Value), (encW l).length = l.length * 2
  | [] => rfl
  | q :: l => by simp [encW, encW_len l]; omega
theorem wsN_get (L : List Wt) (ua : Nat → Option Addr) (uc : Nat → Nat) {n j : Nat} (h : j < n) : (encW (wsN L ua uc n))[j * 2]? = some (.int .i64 (L.getD j noW).1) ∧ (encW (wsN L ua uc n))[j * 2 + 1]? = some (.slice (ua j) (L.getD j noW).2.length (uc j)) := by
  have := encW_get (wsN L ua uc n) j (by rw [wsN_len]; exact h)
  simpa [wsN] using this
theorem wsN_each {L : List Wt} {ua : Nat → Option Addr} {uc : Nat → Nat} {n : Nat} {p : Nat → Value → Prop} (h0 : ∀ j, j < n → p (j * 2) (.int .i64 (L.getD j noW).1)) (h1 : ∀ j, j < n → p (j * 2 + 1) (.slice (ua j) (L.getD j noW).2.length (uc j))) {i : Nat} {u : Value} (h : (encW (wsN L ua uc n))[i]? = some u) : p i u := by
  have hi : i < n * 2 := by
    have := (List.getElem?_eq_some_iff.1 h).1
    rwa [encW_len, wsN_len] at this
  rcases Nat.mod_two_eq_zero_or_one i with e | e
  · obtain ⟨j, rfl⟩ : ∃ j, i = j * 2 := ⟨i / 2, by omega⟩
    have := (wsN_get L ua uc (n := n) (j := j) (by omega)).1
    rw [h] at this
    injection this with this
    rw [this]; exact h0 j (by omega)
  · obtain ⟨j, rfl⟩ : ∃ j, i = j * 2 + 1 := ⟨i / 2, by omega⟩
    have := (wsN_get L ua uc (n := n) (j := j) (by omega)).2
    rw [h] at this
    injection this with this
    rw [this]; exact h1 j (by omega)
set_option maxRecDepth 100000 in
set_option maxHeartbeats 8000000 in
theorem anyLaw (L : List Wt) (A : List Int) (C : List (List Int)) (w : World) (aw aa ac : Option Addr) (cw ca cc : Nat) (ua : Nat → Option Addr) (uc : Nat → Nat) (hL : WIn w aw cw L ua uc) (hA : Ints w w.heap.size (.slice aa A.length ca) A) (hac : A.length ≤ ca ∧ ca ≤ 9223372036854775807)
    (hC : Rows2 w w.heap.size (.slice ac C.length cc) C) (hc : ∀ k, ((C.getD k []).length : Int) ≤ 9223372036854775807) :
    Calls Try.prog 4 #[.slice aw L.length cw, .slice aa A.length ca, .slice ac C.length cc] w fun e w' => e = .returned (.bool true) ∧ Below w.heap.size w w' := by
  have HL := Lib.hid hL
  have HA := Lib.hid hA
  have HC := Lib.hid hC
  have HCC := Lib.hid hc
  have hcl := hL.len
  have h1 := hac.1
  have h2 := hac.2
  clear hL hA hC hc hac
  go_enter Try.func4, Try.ntmps4
  go_wp2_with fail
  refine (sanity_any w).mono ?_
  rintro e w1 ⟨rfl, hb1⟩
  have B1 := Lib.hid hb1
  clear hb1
  obtain ⟨n, hn⟩ : ∃ n, n = min L.length 6 := ⟨_, rfl⟩
  have HN := Lib.hid hn
  have hmin : min (L.length : Int) 6 = (n : Int) := by omega
  have hn6 : n ≤ 6 := by omega
  have hnl : n ≤ L.length := by omega
  clear hn
  have H0 : RowKit.Hid ((w1.alloc (.cells #[] 41)).ownsRow w1.heap.size 41 2 (.slice (some ⟨w1.heap.size, 0, none⟩) 0 0) 0 []) := Lib.hid (World.ownsRow_lit w1 #[] 0 (Nat.le_refl _) (by unfold maxLen; omega) rfl)
  have NW : RowKit.Hid (n = 0 ∨ ∃ b o, aw = some ⟨b, o, none⟩ ∧ ∀ j u, (encW (wsN L ua uc n))[j]? = some u → (w1.alloc (.cells #[] 41)).cell? ⟨b, o + j, none⟩ = some u) := Lib.hid (by
    rcases HL.out.at_ with h | ⟨b, o, h1, h2, h3⟩
    · left; rw [HN.out, h]; rfl
    · refine .inr ⟨b, o, h1, fun j u hj => ?_⟩
      have up : ∀ i v, w.cell? ⟨b, i, none⟩ = some v → (w1.alloc (.cells #[] 41)).cell? ⟨b, i, none⟩ = some v := fun i v h =>
        ((B1.out.alloc B1.out.size (.cells #[] 41)).cell (p := ⟨b, i, none⟩) h2).trans h
      refine wsN_each (p := fun i v => (w1.alloc (.cells #[] 41)).cell? ⟨b, o + i, none⟩ = some v) (fun j hj => up _ _ (h3 j (by omega)).1) (fun j hj => up _ _ (h3 j (by omega)).2.1) hj)
  have ONE : RowKit.Hid (∀ u ∈ encW (wsN L ua uc n), u.oneCell' = true) := Lib.hid fun u hu => by
    obtain ⟨i, hi, e⟩ := List.mem_iff_getElem.1 hu
    exact wsN_each (p := fun _ v => v.oneCell' = true) (fun j hj => rfl) (fun j hj => rfl) (i := i) (by rw [List.getElem?_eq_getElem hi, e])
  go_wp2_with (at_builtin; go_must (refine wpList_append_wants rfl (.tmp 12) (.tmp 17) rfl w1.heap.size rfl H0.out aw n cw (encW (wsN L ua uc n)) rfl HL.out.nil (by rw [encW_len, wsN_len]) (by omega) NW.out ONE.out ?_))
  intro g cap w2 hrow hg
  have C0 : RowKit.Hid (CW w w2 g n L ua uc 0) := Lib.hid (by
    have hg2 : w1.heap.size ≤ g ∧ g < w2.heap.size := row_lt hrow g rfl
    have bel : Below w1.heap.size w1 w2 := (((Tn.refl (fun _ => False) w1).alloc (.cells #[] 41)).then_ (Tn.of_grown hg) fun b e => .inr (by injection e with e; omega)).below (Nat.le_refl _) fun _ h => h.elim
    have hc : ∀ j u, (encW (wsN L ua uc n))[j]? = some u → w2.cell? ⟨g, j, none⟩ = some u := fun j u hj => by
      have := hrow.cells (g := g) rfl j u hj
      rwa [add_off, Nat.zero_add] at this
    exact ⟨fun j hj => hc _ _ (wsN_get L ua uc hj).1, fun j hj => by
      have := hc _ _ (wsN_get L ua uc hj).2
      unfold cutN; rw [if_neg (by omega)]; exact this, fun i => hrow.frozenAt i, B1.out.trans (bel.mono B1.out.size), by have := B1.out.size; omega, hg2.2⟩)
  clear hrow hg H0 NW ONE
  go_wp2_with fail
  go_loopw [9] (fun v wr => ∃ k : Nat, k ≤ n ∧ v = .int .i64 k ∧ CW w wr g n L ua uc k) (fun v _ => n - (intOf v).toNat)
  case atStart => exact ⟨0, by omega, rfl, C0.out⟩
  case round =>
    obtain ⟨k, hk, rfl, hM⟩ := hrel
    have M := Lib.hid hM
    clear hM
    by_cases hlt : k < n
    · have d1 : decide ((k : Int) < ((n : Nat) : Int)) = true := by simp only [decide_eq_true_eq]; omega
      have e1 : wr.cell? ⟨g, k * 2 + 1, none⟩ = some (.slice (ua k) (L.getD k noW).2.length (uc k)) := by
        have := M.out.c1 k hlt
        unfold cutN at this; rwa [if_neg (Nat.lt_irrefl _)] at this
      have ef := M.out.fz
      have hcc := HL.out.caps k (by omega)
      have M2 := Lib.hid (M.out.step hlt)
      obtain ⟨z, hz⟩ : ∃ z, z = (L.getD k noW).2.length := ⟨_, rfl⟩
      obtain ⟨y, hy⟩ : ∃ y, y = min z 10 := ⟨_, rfl⟩
      have hminz : min (z : Int) 10 = (y : Int) := by omega
      have hyz : y ≤ z := by omega
      rw [← hz] at e1 hcc M2
      rw [← hy] at M2
      clear hz hy
      go_wp2_with fail
      have M3 : RowKit.Hid (CW w ((wr.setCell ⟨g, k * 2 + 1, none⟩ (.slice (ua k) y (uc k))).drew) g n L ua uc (k + 1)) := Lib.hid (M2.out.keep (Below.refl _ _).drew)
      go_region
      go_wp2_with fail
      exact ⟨⟨k + 1, by omega, by go_num, M3.out⟩, by simp [intOf]; omega⟩
    · have hkn : n = k := by omega
      subst hkn
      have d1 : decide (((n : Nat) : Int) < ((n : Nat) : Int)) = false := by simp
      have HI : ∀ j, j < L.length → Ints w w.heap.size (.slice (ua j) (L.getD j noW).2.length (uc j)) (L.getD j noW).2 := fun j hj => by
        rcases HL.out.at_ with h | ⟨b, o, h1, h2, h3⟩
        · rw [h] at hj; simp at hj
        · exact (h3 j hj).2.2
      have WN := Lib.hid (M.out.wants (cap := cap) HN.out HI)
      have BB := Lib.hid M.out.bel
      obtain ⟨na, hna⟩ : ∃ na, na = min A.length 6 := ⟨_, rfl⟩
      have hmina : min (A.length : Int) 6 = (na : Int) := by omega
      have hnaa : na ≤ A.length := by omega
      have AN : RowKit.Hid (Ints wr wr.heap.size (.slice aa na ca) (A.take 6)) := Lib.hid (by rw [hna]; exact ((HA.out.cut 6).below BB.out (Nat.le_refl _)).mono BB.out.size)
      have CN : RowKit.Hid (Rows2 wr wr.heap.size (.slice ac C.length cc) C) := Lib.hid ((HC.out.below BB.out (Nat.le_refl _)).mono BB.out.size)
      have hll : (cutL L).length ≤ 1000 := by rw [cutL_len]; omega
      have hal : (A.take 6).length ≤ 1000 := by simp; omega
      clear HI hna
      obtain ⟨w3, rfl⟩ : ∃ w3, w3 = wr := ⟨_, rfl⟩
      go_wp2_with fail
      refine (assign_any (cutL L) (A.take 6) C w3 w3.heap.size _ _ _ WN.out AN.out CN.out hll hal (cutL_cop L) HCC.out (Nat.le_refl _)).mono ?_
      rintro e w4 ⟨cp, g4, rfl, hB, hblk, hg, hb⟩
      have I4 := Lib.hid (outL_ints hblk)
      have BP := Lib.hid hB
      have W4 := Lib.hid (WN.out.up hb)
      have A4 := Lib.hid (AN.out.up hb)
      have C4 := Lib.hid (CN.out.up hb)
      have B4 := Lib.hid (BB.out.trans (hb.mono BB.out.size))
      obtain ⟨P, hP⟩ : ∃ P, P = prob (cutL L) (A.take 6) C := ⟨_, rfl⟩
      have HPP := Lib.hid hP
      have hpm : P.m ≤ 1000 := by rw [hP]; exact hll
      rw [← hP] at I4 BP ⊢
      clear hB hblk hg hb hP
      go_wp2_with fail
      refine (rassign_any (cutL L) (A.take 6) C w4 w4.heap.size _ _ _ W4.out A4.out C4.out hll hal (cutL_cop L) HCC.out (Nat.le_refl _)).mono ?_
      rw [← HPP.out]
      rintro e w5 ⟨q, v, rfl, hQ, hI, hb⟩
      obtain rfl : cp = q := Best.unique BP.out hQ
      have I5 := Lib.hid (I4.out.up hb)
      have J5 := Lib.hid hI
      have B5 := Lib.hid (B4.out.trans (hb.mono B4.out.size))
      clear hb hQ hI
      go_wp2_with fail
      refine (same_any w5.heap.size _ _ (outL cp P.m) (outL cp P.m) w5 I5.out J5.out (by rw [outL_len]; omega)).mono ?_
      rintro e w6 ⟨rfl, hb⟩
      have F := Lib.hid (B5.out.trans (hb.mono B5.out.size))
      rw [decide_eq_true rfl]
      clear hb
      go_wp2_with fail
      go_ret
      exact ⟨rfl, F.out⟩
end Go.Proofs.Ytpcmppamkgkdlaa
