/- The contract of table: the walk. -/
import Derived.Test.YtjikgoeinilnjaaWB
namespace Go.Proofs.Ytjikgoeinilnjaa
open Go.RowKit

theorem ret_slice {a : Option Addr} {n m c : Nat} (h : n = m) : Ending.returned (.slice a n c) = .returned (.slice a m c) := by rw [h]
theorem add_eq (b o j : Nat) : Addr.add ⟨b, o, none⟩ j = ⟨b, o + j, none⟩ := by
  by_cases h : j = 0 <;> simp [Addr.add, h]
theorem tabK_0 (A : List Rule) (j : Nat) : tabK A 0 j = A.getD j zr := by simp [tabK]
theorem tabR_keep {r : Rule} (h : (r.d.tmod 3 != 0) = false) : tabR r = r := by simp at h; simp [tabR, h]
theorem tabR_turn {r : Rule} (h : (r.d.tmod 3 != 0) = true) : tabR r = { r with p := r.p % 4 - 1, i := r.i % 4 - 1, b := r.b % 4 - 1 } := by simp at h; simp [tabR, h]
theorem tabK_step {w w' : World} {g n k : Nat} {A : List Rule} {x y z : Int} (hk : k < n) (h : ∀ j, j < n → RuleAt w g (j * 7) (tabK A k j)) (hw : w' = set3 w g (k * 7) x y z) (ht : tabR (A.getD k zr) = { A.getD k zr with p := x, i := y, b := z }) :
    ∀ j, j < n → RuleAt w' g (j * 7) (tabK A (k + 1) j) := by
  intro j hj
  subst hw
  by_cases e : j = k
  · subst e
    have := set3_same x y z (h j hk)
    simp only [tabK, Nat.lt_irrefl, if_false] at this
    rw [tabK, if_pos (by omega), ht]; exact this
  · have := set3_other (o := k * 7) x y z (h j hj) (by omega)
    have e2 : tabK A (k + 1) j = tabK A k j := by
      unfold tabK
      by_cases h1 : j < k
      · rw [if_pos h1, if_pos (by omega)]
      · rw [if_neg h1, if_neg (by omega)]
    rw [e2]; exact this
theorem tabK_skip {w : World} {g n k : Nat} {A : List Rule} (h : ∀ j, j < n → RuleAt w g (j * 7) (tabK A k j)) (ht : tabR (A.getD k zr) = A.getD k zr) :
    ∀ j, j < n → RuleAt w g (j * 7) (tabK A (k + 1) j) := by
  intro j hj
  have e2 : tabK A (k + 1) j = tabK A k j := by
    unfold tabK
    by_cases e : j = k
    · subst e; rw [if_pos (by omega), if_neg (by omega), ht]
    · by_cases h1 : j < k
      · rw [if_pos h1, if_pos (by omega)]
      · rw [if_neg h1, if_neg (by omega)]
  rw [e2]; exact h j hj

set_option maxHeartbeats 4000000 in
theorem table_some (L : List Rule) (ad : Addr) (cap : Nat) (w : World) (hL : L = [] ∨ ∃ b o, ad = ⟨b, o, none⟩ ∧ b < w.heap.size ∧ RulesAt w b o L) (hc : L.length ≤ cap) (hcap : cap ≤ 9223372036854775807) :
    Calls Try.prog 12 #[.slice (some ad) L.length cap] w fun e w' => (∃ g cap', e = .returned (.slice (some ⟨g, 0, none⟩) (L.take 20).length cap') ∧ g < w'.heap.size ∧ (L.take 20).length ≤ cap' ∧ RulesAt w' g 0 ((L.take 20).map tabR)) ∧ Below w.heap.size w w' := by
  obtain ⟨i0, hi, hz0, hz1, hz2⟩ := info_parts info28
  obtain ⟨A, hA⟩ : ∃ A, A = L.take 20 := ⟨_, rfl⟩
  have hAn : A.length = min 20 L.length := by rw [hA]; simp
  have hown : (w.alloc (.cells #[] 28)).ownsRow w.heap.size 28 7 (.slice (some ⟨w.heap.size, 0, none⟩) 0 0) 0 [] :=
    ⟨rfl, .inr ⟨w.heap.size, 0, #[], rfl, Nat.le_refl _, Blk.new w #[] 28, Nat.le_refl _, by unfold maxLen; omega, rfl, rfl⟩⟩
  have hnews : ∀ j u, (cellsOf A)[j]? = some u → (w.alloc (.cells #[] 28)).cell? (Addr.add ad j) = some u := by
    rcases hL with rfl | ⟨b, o, rfl, hb, hR⟩
    · intro j u hu; rw [hA] at hu; simp [cellsOf] at hu
    · have hRA : RulesAt (w.alloc (.cells #[] 28)) b o A := by
        intro k hk
        rw [hA] at hk ⊢
        exact (rules_take hR 20 k hk).below ((Below.refl _ _).alloc (Nat.le_refl _) _) hb
      intro j u h
      rw [add_eq]; exact cells_rules hRA j u h
  have hcl := cellsOf_len A
  have h1 := cellsOf_one A
  have HA := Lib.hid hA
  rw [← hA]
  clear hA hL
  by_cases h20 : L.length ≤ 20
  case pos =>
    have hm : A.length = L.length := by omega
    rw [hm] at hcl
    have HM := Lib.hid hm
    clear hm hAn
    go_enter Try.func12, Try.ntmps12
    go_wp2_with (at_builtin; refine wpList_append_own _ rfl (.tmp 5) (.tmp 10) 22 rfl w.heap.size 28 i0 _ 7 56 Try.underlying22 hi hz0 hz1 hz2 rfl (by decide) _ 0 [] rfl hown ad (L.length) cap (cellsOf A) ?_ hcl hnews h1 ?_ ?_ ?_ ?_)
    · rfl
    · unfold maxLen; omega
    · omega
    · simp
    intro v' w' hown' hgrow hiff
    have hbl := (((Below.refl w.heap.size w).alloc (Nat.le_refl _) (.cells #[] 28))).grown hgrow (by simp) (by intro k hk; have hk' : some w.heap.size = some k := hk; injection hk' with hk'; omega)
    obtain ⟨_, ⟨hv, hz⟩ | ⟨g, cap', cur, hv, hg, hh, hnc, hcm, hcs, hx⟩⟩ := hown'
    · exact (hiff hv).elim
    rw [hv]
    have hx2 : cur.toList.take (A.length * 7) = cellsOf A := by rw [HM.out]; simpa using hx
    obtain ⟨hR, hfr⟩ := rules_owned hh hx2
    have hgl := heap_lt hh
    have HH := Lib.hid hbl
    have HR := Lib.hid hR
    have hnc' : A.length ≤ cap' := by rw [HM.out]; omega
    have HNC := Lib.hid hnc'
    clear hbl hR hv hiff hgrow hh hx hx2 hcs hcm hnews h1 hcl hown hnc' hnc
    go_wp2_with fail
    go_loopw [4] (fun i wr => ∃ k : Nat, k ≤ L.length ∧ i = .int .i64 k ∧ Below w.heap.size w wr ∧ g < wr.heap.size ∧ (∀ j, wr.frozen? ⟨g, j, none⟩ = false) ∧ ∀ j, j < L.length → RuleAt wr g (j * 7) (tabK A k j)) (fun i _ => L.length - (intOf i).toNat)
    case atStart => exact ⟨0, by omega, rfl, HH.out, hgl, hfr, fun j hj => by rw [tabK_0]; have := HR.out j (by rw [HM.out]; exact hj); simpa using this⟩
    case round =>
      obtain ⟨k, hk, rfl, hbl, hgl', hfr', hRk⟩ := hrel
      have HRK := Lib.hid hRk
      have HBL := Lib.hid hbl
      clear hRk hbl
      by_cases hlt : k < L.length
      · have hr := HRK.out k hlt
        have et : tabK A k k = A.getD k zr := by simp [tabK]
        rw [et] at hr
        obtain ⟨r, hrk⟩ : ∃ r, r = A.getD k zr := ⟨_, rfl⟩
        rw [← hrk] at hr
        obtain ⟨c0, c1, c2, c3, c4, c5, c6⟩ := hr
        have HRk := Lib.hid hrk
        clear hrk et
        have m0 : 0 ≤ r.p % 4 ∧ r.p % 4 < 4 := by omega
        have m1 : 0 ≤ r.i % 4 ∧ r.i % 4 < 4 := by omega
        have m2 : 0 ≤ r.b % 4 ∧ r.b % 4 < 4 := by omega
        cases ht : (r.d.tmod 3 != 0)
        · have T := Lib.hid (tabR_keep ht)
          go_wp2_with fail
          exact ⟨⟨k + 1, by omega, by go_num, HBL.out, hgl', hfr', tabK_skip HRK.out (by rw [← HRk.out, T.out])⟩, by simp [intOf]; omega⟩
        · have T := Lib.hid (tabR_turn ht)
          go_wp2_with (go_at_call 13; refine (mod_any _ _ _ (by omega) (by omega)).mono ?_; rintro e w' ⟨rfl, rfl⟩)
          exact ⟨⟨k + 1, by omega, by go_num, ((HBL.out.setCell (by exact hg) _).setCell (by exact hg) _).setCell (by exact hg) _, by simpa using hgl', by simpa using hfr', tabK_step hlt HRK.out rfl (by rw [← HRk.out, T.out])⟩, by simp [intOf]; omega⟩
      · obtain rfl : k = L.length := by omega
        go_wp2_with fail
        go_ret
        refine ⟨⟨g, cap', ret_slice HM.out.symm, hgl', HNC.out, fun j hj => ?_⟩, HBL.out⟩
        have hj' : j < A.length := by simpa using hj
        have := HRK.out j (by rw [← HM.out]; exact hj')
        rw [tabK, if_pos (by rw [← HM.out]; exact hj')] at this
        have e : (A.map tabR).getD j zr = tabR (A.getD j zr) := by rw [getD_get _ _ hj, getD_get _ _ hj']; simp
        rw [e]; simpa using this
  case neg =>
    have h20' : 20 ≤ L.length := by omega
    have hm : A.length = 20 := by omega
    rw [hm] at hcl
    have HM := Lib.hid hm
    clear hm hAn
    go_enter Try.func12, Try.ntmps12
    go_wp2_with (at_builtin; refine wpList_append_own _ rfl (.tmp 5) (.tmp 10) 22 rfl w.heap.size 28 i0 _ 7 56 Try.underlying22 hi hz0 hz1 hz2 rfl (by decide) _ 0 [] rfl hown ad (20) cap (cellsOf A) ?_ hcl hnews h1 ?_ ?_ ?_ ?_)
    · rfl
    · unfold maxLen; omega
    · omega
    · simp
    intro v' w' hown' hgrow hiff
    have hbl := (((Below.refl w.heap.size w).alloc (Nat.le_refl _) (.cells #[] 28))).grown hgrow (by simp) (by intro k hk; have hk' : some w.heap.size = some k := hk; injection hk' with hk'; omega)
    obtain ⟨_, ⟨hv, hz⟩ | ⟨g, cap', cur, hv, hg, hh, hnc, hcm, hcs, hx⟩⟩ := hown'
    · exact (hiff hv).elim
    rw [hv]
    have hx2 : cur.toList.take (A.length * 7) = cellsOf A := by rw [HM.out]; simpa using hx
    obtain ⟨hR, hfr⟩ := rules_owned hh hx2
    have hgl := heap_lt hh
    have HH := Lib.hid hbl
    have HR := Lib.hid hR
    have hnc' : A.length ≤ cap' := by rw [HM.out]; omega
    have HNC := Lib.hid hnc'
    clear hbl hR hv hiff hgrow hh hx hx2 hcs hcm hnews h1 hcl hown hnc' hnc
    go_wp2_with fail
    go_loopw [4] (fun i wr => ∃ k : Nat, k ≤ 20 ∧ i = .int .i64 k ∧ Below w.heap.size w wr ∧ g < wr.heap.size ∧ (∀ j, wr.frozen? ⟨g, j, none⟩ = false) ∧ ∀ j, j < 20 → RuleAt wr g (j * 7) (tabK A k j)) (fun i _ => 20 - (intOf i).toNat)
    case atStart => exact ⟨0, by omega, rfl, HH.out, hgl, hfr, fun j hj => by rw [tabK_0]; have := HR.out j (by rw [HM.out]; exact hj); simpa using this⟩
    case round =>
      obtain ⟨k, hk, rfl, hbl, hgl', hfr', hRk⟩ := hrel
      have HRK := Lib.hid hRk
      have HBL := Lib.hid hbl
      clear hRk hbl
      by_cases hlt : k < 20
      · have hr := HRK.out k hlt
        have et : tabK A k k = A.getD k zr := by simp [tabK]
        rw [et] at hr
        obtain ⟨r, hrk⟩ : ∃ r, r = A.getD k zr := ⟨_, rfl⟩
        rw [← hrk] at hr
        obtain ⟨c0, c1, c2, c3, c4, c5, c6⟩ := hr
        have HRk := Lib.hid hrk
        clear hrk et
        have m0 : 0 ≤ r.p % 4 ∧ r.p % 4 < 4 := by omega
        have m1 : 0 ≤ r.i % 4 ∧ r.i % 4 < 4 := by omega
        have m2 : 0 ≤ r.b % 4 ∧ r.b % 4 < 4 := by omega
        cases ht : (r.d.tmod 3 != 0)
        · have T := Lib.hid (tabR_keep ht)
          go_wp2_with fail
          exact ⟨⟨k + 1, by omega, by go_num, HBL.out, hgl', hfr', tabK_skip HRK.out (by rw [← HRk.out, T.out])⟩, by simp [intOf]; omega⟩
        · have T := Lib.hid (tabR_turn ht)
          go_wp2_with (go_at_call 13; refine (mod_any _ _ _ (by omega) (by omega)).mono ?_; rintro e w' ⟨rfl, rfl⟩)
          exact ⟨⟨k + 1, by omega, by go_num, ((HBL.out.setCell (by exact hg) _).setCell (by exact hg) _).setCell (by exact hg) _, by simpa using hgl', by simpa using hfr', tabK_step hlt HRK.out rfl (by rw [← HRk.out, T.out])⟩, by simp [intOf]; omega⟩
      · obtain rfl : k = 20 := by omega
        go_wp2_with fail
        go_ret
        refine ⟨⟨g, cap', ret_slice HM.out.symm, hgl', HNC.out, fun j hj => ?_⟩, HBL.out⟩
        have hj' : j < A.length := by simpa using hj
        have := HRK.out j (by rw [← HM.out]; exact hj')
        rw [tabK, if_pos (by rw [← HM.out]; exact hj')] at this
        have e : (A.map tabR).getD j zr = tabR (A.getD j zr) := by rw [getD_get _ _ hj, getD_get _ _ hj']; simp
        rw [e]; simpa using this

def InSl (w : World) (a : Option Addr) (L : List Rule) (cap : Nat) : Prop :=
  (a = none ∧ L = [] ∧ cap = 0) ∨ ∃ ad, a = some ad ∧ (L = [] ∨ ∃ b o, ad = ⟨b, o, none⟩ ∧ b < w.heap.size ∧ RulesAt w b o L) ∧ L.length ≤ cap ∧ cap ≤ 9223372036854775807
theorem table_nil (w : World) :
    Calls Try.prog 12 #[.slice none 0 0] w fun e w' => e = .returned (.slice (some ⟨w.heap.size, 0, none⟩) 0 0) ∧ Below w.heap.size w w' ∧ w.heap.size < w'.heap.size := by
  go_enter Try.func12, Try.ntmps12
  go_wp2_with fail
  go_loop [4] (fun i => i = .int .i64 0) (fun _ => 0)
  case atStart => rfl
  case round =>
    subst hrel
    go_wp2_with fail
    go_ret
    exact ⟨rfl, (Below.refl _ _).alloc (Nat.le_refl _) _, by simp⟩
theorem table_any (L : List Rule) (a : Option Addr) (cap : Nat) (w : World) (h : InSl w a L cap) :
    Calls Try.prog 12 #[.slice a L.length cap] w fun e w' => (∃ g cap', e = .returned (.slice (some ⟨g, 0, none⟩) ((L.take 20).map tabR).length cap') ∧ g < w'.heap.size ∧ ((L.take 20).map tabR).length ≤ cap' ∧ RulesAt w' g 0 ((L.take 20).map tabR)) ∧ Below w.heap.size w w' := by
  rcases h with ⟨rfl, rfl, rfl⟩ | ⟨ad, rfl, hR, hc, hcap⟩
  · exact (table_nil w).mono fun e w' ⟨h1, h2, h3⟩ => ⟨⟨_, 0, h1, h3, by simp, fun k hk => by simp at hk⟩, h2⟩
  · rw [List.length_map]; exact table_some L ad cap w hR hc hcap
end Go.Proofs.Ytjikgoeinilnjaa
