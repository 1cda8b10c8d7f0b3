/- What lower does, plainly. -/
import Derived.Test.YtpcmppamkgkdlaaSK
namespace Go.Proofs.Ytpcmppamkgkdlaa
open Go.RowKit

def LowE (P : Prob) (s : SL) (cp : Nat → Option Nat) (k : Nat) (f : Nat → Int) (w : World) (e : Ending) (w' : World) : Prop :=
  ∃ cp' wn', e = .returned (.tuple #[]) ∧ SM P s w' cp' wn' ∧ Tn s.F w w' ∧ Mat P cp' ∧ Con cp' wn' ∧ Same cp cp' ∧ (∀ j, j < k → cp' j = cp j) ∧ P.tot cp' = P.tot cp ∧ Pot P 0 cp' wn' f ∧ (Lex P cp k → Lex P cp' (k + 1))
variable {P : Prob} {s : SL} {cp wn : Nat → Option Nat} {k : Nat} {f : Nat → Int} {w w' : World}
theorem low_keep {old : Nat} (hm : Mat P cp) (hc : Con cp wn) (hf : Pot P 0 cp wn f) (hk : cp k = some old) (hr : ∀ d, d ∈ P.acc k → d < old → Rej P cp k d) (hS : SM P s w' cp wn) (hT : Tn s.F w w') : LowE P s cp k f w (.returned (.tuple #[])) w' :=
  ⟨cp, wn, rfl, hS, hT, hm, hc, Same.refl _, fun _ _ => rfl, rfl, hf, fun hl => hl.next (fun _ _ => rfl) (Same.refl _) rfl fun c d hcc hd hlt => by
    rw [hk] at hcc; injection hcc with hcc; subst hcc; exact hr d hd hlt⟩
/-- What the search from a copy shows. -/
structure Low (P : Prob) (cp wn : Nat → Option Nat) (k old c : Nat) (S : BF) : Prop where
  rej : S.cost old + (P.cst k c - P.cst k old) ≠ 0 → Rej P cp k c
  yes : S.cost old + (P.cst k c - P.cst k old) = 0 → ∃ L, L ≤ P.n ∧ (∀ i, i < L → S.bef (itr S.pre i old) = some (itr S.pre (i + 1) old)) ∧ (∀ i, i ≤ L → itr S.pre i old < P.n + 1) ∧ itr S.pre L old = c ∧ (∀ i, i < L → itr S.pre i old ≠ c) ∧
    Circle P k cp wn (L + 1) (fun j => itr S.pre (L + 1 - 1 - j) old) ∧ P.tot (moved (L + 1) (fun j => itr S.pre (L + 1 - 1 - j) old) cp) = P.tot cp ∧ moved (L + 1) (fun j => itr S.pre (L + 1 - 1 - j) old) cp k = some c
theorem low_of (hP : Fits P) (hm : Mat P cp) (hc : Con cp wn) (hf : Pot P 0 cp wn f) {old c n : Nat} (hk : cp k = some old) (ha : c ∈ P.acc k) (hne : c ≠ old) (hn : n < P.n + 1)
    (hend : (rounds (edL P k cp wn) (some c) (n + 1)).chg = none ∨ n + 1 = P.n + 1) : Low P cp wn k old c (rounds (edL P k cp wn) (some c) (n + 1)) := by
  have hE := edL_edges (first := k) hm hc
  have hO := edges_ok (first := k) hP hm hc
  have hfk : Pot P k cp wn f := hf.mono (Nat.zero_le _)
  have hchg : (rounds (edL P k cp wn) (some c) (n + 1)).chg = none := by
    rcases hend with h | h
    · exact h
    · rw [h]; exact must_stop hE hm hc hfk
  obtain ⟨tm, rd, T, hi⟩ := rounds_inv (src := some c) (fun {u v w} he => hE.hw hm he) n
  have hs : ∀ {u v}, Ed P k cp wn u v → (rounds (edL P k cp wn) (some c) (n + 1)).cost u < endl → (rounds (edL P k cp wn) (some c) (n + 1)).cost v ≤ (rounds (edL P k cp wn) (some c) (n + 1)).cost u + P.wt wn u v := fun {u v} he hu => settled hE hm n hchg he hu
  have hwn := (hc k old).1 hk
  have hol := P.lt k old (hm.ok hk).2
  have hcl := P.lt k c ha
  have hwt : P.wt wn old c = P.cst k c - P.cst k old := by
    unfold Prob.wt; rw [if_pos ⟨hol, hcl⟩, hwn]; rfl
  constructor
  · intro h q hq hsame ht hag hqk
    have := lower_no hE hm hc hf hi hs hP.bd (by have := hP.n; omega) hk ha (by rw [hwt]; exact h) hq hsame hag hqk
    omega
  · intro h
    have b1 := hP.bd k c
    have b2 := hP.bd k old
    obtain ⟨L, hw⟩ := way hE hm hc hfk hi hs (v := old) (by omega) (by show _ < (1152921504606846976 : Int); omega)
    obtain ⟨c1, c2⟩ := lower_yes hE hi hk ha hne hw (by rw [hwt]; exact h)
    have e : (fun j => itr (rounds (edL P k cp wn) (some c) (n + 1)).pre (L + 1 - 1 - j) old) = fun j => itr (rounds (edL P k cp wn) (some c) (n + 1)).pre (L - j) old := by
      funext j; rw [Nat.add_sub_cancel]
    refine ⟨L, ?_⟩
    rw [e]
    refine ⟨hw.len, hw.back, fun i hi' => ?_, hw.stop, hw.first, c1, ?_, ?_⟩
    · rcases Nat.eq_zero_or_pos i with rfl | hp
      · show old < _; omega
      · obtain ⟨j, rfl⟩ : ∃ j, i = j + 1 := ⟨i - 1, by omega⟩
        exact (Back.lt hO hi hw.back (i := j) (by omega)).2
    · have h3 := c1.tot hm hc
      omega
    · unfold moved
      rw [hk]
      show some _ = _
      have h4 := nx_on c1.dis (i := L) (Nat.lt_succ_self L)
      simp only [Nat.sub_self, Nat.mod_self, Nat.sub_zero] at h4
      rw [show itr (rounds (edL P k cp wn) (some c) (n + 1)).pre 0 old = old from rfl] at h4
      rw [h4, hw.stop]
theorem low_go {p c : Nat} {cc : Nat → Nat} {wn' : Nat → Option Nat} (hm : Mat P cp) (hc : Con cp wn) (hf : Pot P 0 cp wn f) (hC : Circle P k cp wn p cc) (ht : P.tot (moved p cc cp) = P.tot cp) (hk : moved p cc cp k = some c) (hr : ∀ d, d ∈ P.acc k → d < c → Rej P cp k d)
    (hS : SM P s w' (moved p cc cp) wn') (hc' : Con (moved p cc cp) wn') (hT : Tn s.F w w') : LowE P s cp k f w (.returned (.tuple #[])) w' := by
  have h3 := hC.tot hm hc
  exact ⟨_, wn', rfl, hS, hT, hC.mat hm hc, hc', moved_same _ _ _, fun j hj => hC.early hm hc hj, ht, hC.pot hf hm hc hc' (by omega), fun hl => hl.next (fun j hj => hC.early hm hc hj) (moved_same _ _ _) ht fun x d hx hd hlt => by
    rw [hk] at hx; injection hx with hx; subst hx; exact hr d hd hlt⟩
theorem row_zero {w : World} {B g : Nat} {T : TypeId} (h : Blk w g #[] T) (hB : B ≤ g) : w.ownsRow B T 1 (.slice (some ⟨g, 0, none⟩) 0 0) 0 [] :=
  ⟨rfl, .inr ⟨g, 0, #[], rfl, hB, h, Nat.le_refl _, by decide, rfl, rfl⟩⟩
/-- In an increasing list, what is less stands before. -/
theorem before_of {l : List Nat} (h : l.Pairwise (· < ·)) {i d : Nat} (hi : i < l.length) (hd : d ∈ l) (hlt : d < l.getD i 0) : d ∈ l.take i := by
  obtain ⟨j, hj, rfl⟩ := List.getElem_of_mem hd
  rw [getD_get _ _ hi] at hlt
  have : j < i := by
    rcases Nat.lt_or_ge j i with g | g
    · exact g
    · rcases Nat.lt_or_ge i j with g' | g'
      · have := List.pairwise_iff_getElem.1 h i j hi hj g'; omega
      · obtain rfl : i = j := by omega
        omega
  exact List.mem_take_iff_getElem.2 ⟨j, by omega, rfl⟩
end Go.Proofs.Ytpcmppamkgkdlaa
