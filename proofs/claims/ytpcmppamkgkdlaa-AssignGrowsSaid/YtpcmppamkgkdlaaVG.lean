/- What Cost says of an assignment. -/
import Derived.Test.YtpcmppamkgkdlaaTB
import Derived.Test.YtpcmppamkgkdlaaSP
namespace Go.Proofs.Ytpcmppamkgkdlaa

theorem outL_len (g : Nat → Option Nat) (m : Nat) : (outL g m).length = m := by simp [outL]
theorem outL_get (g : Nat → Option Nat) {m j : Nat} (h : j < m) : (outL g m).getD j 0 = oi (g j) := by simp [outL, List.getD_eq_getElem?_getD, h]
theorem outL_congr {g h : Nat → Option Nat} {m : Nat} (e : ∀ j, j < m → g j = h j) : outL g m = outL h m := List.map_congr_left fun j hj => by rw [e j (List.mem_range.1 hj)]
theorem outL_take (g : Nat → Option Nat) {m k : Nat} (h : k ≤ m) : (outL g m).take k = outL g k := by
  unfold outL
  rw [← List.map_take, List.take_range, Nat.min_eq_left h]
theorem mem_outL {g : Nat → Option Nat} {m : Nat} {x : Int} : x ∈ outL g m ↔ ∃ j, j < m ∧ oi (g j) = x := by simp [outL]
theorem okB_iff {P : Prob} {l : List Int} : ∀ m, okB P l m = true ↔ ∀ k, k < m → okAt P l k = true
  | 0 => by simp [okB]
  | m + 1 => by
    rw [okB, Bool.and_eq_true, okB_iff m]
    constructor
    · rintro ⟨h1, h2⟩ k hk
      rcases Nat.lt_or_ge k m with h | h
      · exact h1 k h
      · obtain rfl : k = m := by omega
        exact h2
    · exact fun h => ⟨fun k hk => h k (by omega), h m (by omega)⟩
theorem oi_nn {o : Option Nat} : o = none ∨ ∃ c : Nat, o = some c ∧ oi o = (c : Int) := by
  cases o with
  | none => exact .inl rfl
  | some c => exact .inr ⟨c, rfl, rfl⟩
theorem out_ok {P : Prob} {q : Nat → Option Nat} (h : Mat P q) : okB P (outL q P.m) P.m = true := by
  refine (okB_iff _).2 fun k hk => ?_
  unfold okAt
  rw [outL_get q hk, outL_take q (by omega)]
  rcases @oi_nn (q k) with e | ⟨c, e, e2⟩
  · rw [e]; simp [oi]
  · rw [e2]
    have h1 : decide ((0 : Int) ≤ (c : Int)) = true := by simp
    have h2 : (P.acc k).contains (c : Int).toNat = true := by simpa using (h.ok e).2
    have h3 : (outL q k).contains (c : Int) = false := by
      rw [← Bool.not_eq_true, List.contains_iff_mem]
      intro hm
      obtain ⟨j, hj, e3⟩ := mem_outL.1 hm
      have := h.inj (oi_some.1 e3) e
      omega
    rw [h1, h2, h3]; simp
theorem out_sum (P : Prob) (q : Nat → Option Nat) : sumL P (outL q P.m) P.m = P.tot q := by
  refine sumN_congr fun j hj => ?_
  unfold oneL Prob.one
  rw [outL_get q hj]
  rcases @oi_nn (q j) with e | ⟨c, e, e2⟩
  · rw [e]; rfl
  · rw [e2, if_neg (by omega), e]; rfl
theorem out_cost {P : Prob} {q : Nat → Option Nat} (h : Mat P q) : costF P (outL q P.m) = (P.tot q, true) := by
  rw [costF_yes (outL_len _ _) (out_ok h), out_sum]
/-- A list that Cost takes is an assignment. -/
theorem cost_mat {P : Prob} {l : List Int} {n : Int} (h : costF P l = (n, true)) : ∃ q, Mat P q ∧ l = outL q P.m ∧ n = P.tot q := by
  unfold costF at h
  split at h
  case isFalse => cases h
  case isTrue hh =>
    obtain ⟨hl, hok⟩ := hh
    have hok := (okB_iff _).1 hok
    have hq : ∃ q : Nat → Option Nat, (∀ k, k < P.m → oi (q k) = l.getD k 0) ∧ ∀ k, P.m ≤ k → q k = none := by
      refine ⟨fun k => if k < P.m then (if l.getD k 0 < 0 then none else some (l.getD k 0).toNat) else none, fun k hk => ?_, fun k hk => if_neg (by omega)⟩
      have := hok k hk
      simp only [hk, if_true]
      by_cases hn : l.getD k 0 < 0
      · rw [if_pos hn]
        unfold okAt at this
        have h0 : ¬ (0 ≤ l.getD k 0) := by omega
        simp only [h0, decide_false, Bool.false_and, Bool.or_false, decide_eq_true_eq] at this
        rw [this]; rfl
      · rw [if_neg hn]
        show ((l.getD k 0).toNat : Int) = _
        omega
    obtain ⟨q, hq, hn⟩ := hq
    have e : l = outL q P.m := by
      refine List.ext_getElem (by rw [outL_len, hl]) fun i h1 h2 => ?_
      have h3 := hq i (by omega)
      rw [List.getD_eq_getElem?_getD, List.getElem?_eq_getElem h1] at h3
      simp only [Option.getD_some] at h3
      rw [← h3]; simp [outL]
    have hm : Mat P q := by
      refine ⟨fun {k c} e1 => ?_, fun {i j c} e1 e2 => ?_⟩
      · have hk : k < P.m := by
          rcases Nat.lt_or_ge k P.m with h | h
          · exact h
          · rw [hn k h] at e1; cases e1
        have h1 := hok k hk
        unfold okAt at h1
        rw [← hq k hk, e1] at h1
        have h0 : ¬ ((c : Int) = -1) := by omega
        simp [oi, h0] at h1
        exact ⟨hk, h1.1⟩
      · have lt : ∀ {k}, q k = some c → k < P.m := fun {k} e1 => by
          rcases Nat.lt_or_ge k P.m with h | h
          · exact h
          · rw [hn k h] at e1; cases e1
        have no : ∀ {a b}, q a = some c → q b = some c → ¬ a < b := fun {a b} ea eb hab => by
          have h1 := hok b (lt eb)
          unfold okAt at h1
          rw [← hq b (lt eb), eb, e, outL_take q (Nat.le_of_lt (lt eb))] at h1
          have h0 : ¬ ((c : Int) = -1) := by omega
          have hm : (c : Int) ∈ outL q b := mem_outL.2 ⟨a, hab, by rw [ea]; rfl⟩
          simp [oi, h0, hm] at h1
        have := no e1 e2
        have := no e2 e1
        omega
    refine ⟨q, hm, e, ?_⟩
    rw [← out_sum, ← e]
    injection h with h
    exact h.symm
theorem outL_bd {P : Prob} {q : Nat → Option Nat} (h : Mat P q) (hn : P.n ≤ 1000) : ∀ i, i < (outL q P.m).length → -9223372036854775808 ≤ (outL q P.m).getD i 0 ∧ (outL q P.m).getD i 0 ≤ 9223372036854775807 := fun i hi => by
  rw [outL_len] at hi
  rw [outL_get q hi]
  rcases @oi_nn (q i) with e | ⟨c, e, e2⟩
  · rw [e]; simp [oi]
  · rw [e2]
    have := P.lt i c (h.ok e).2
    omega
end Go.Proofs.Ytpcmppamkgkdlaa
