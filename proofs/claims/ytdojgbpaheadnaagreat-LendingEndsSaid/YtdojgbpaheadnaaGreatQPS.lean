/- LendingEnds, plainly: rounds over a net without troubles lead to an end. -/
import Derived.Test.YtdojgbpaheadnaaGreatQPQ
set_option linter.unusedVariables false
set_option linter.unusedSimpArgs false

namespace Go.Proofs.YtdojgbpaheadnaaGreat

section
variable {init : Int → List Int} {s : Lb} {P P' : List Pc} {k : Nat}
def QE (k : Nat) (s : Lb) (P : List Pc) : Prop := qcost 1 (P.map Pc.m) ≤ 24 ∧ (1 ≤ k → Far 5 s) ∧ (2 ≤ k → Far 6 s)
def JE (k i : Nat) (s : Lb) (P : List Pc) : Prop := JS s (P.map Pc.m) ∧ pot 1 s + qcost 1 (P.map Pc.m) + i ≤ 400 ∧ (1 ≤ k → Far 5 s) ∧ (2 ≤ k → Far 6 s)
def RE (k : Nat) (s : Lb) (P : List Pc) : Prop := P = [] ∧ Far 4 s ∧ (1 ≤ k → Far 6 s)
theorem JE.tick (hk : KS init s) (h : QE k s P) {n : Nat} (hs : SentL 5 [] n s.tickMs P P') : JE k 0 s.tickM P' := by
 obtain ⟨h1, h2⟩ := tick_inv hk Cl.one (by omega) hs
 have h3 := pot_le hk.gi
 have h4 := qcost_le 1 s.tickMs
 have h5 := hk.tickMs_len
 have h6 := h.1
 exact ⟨h1, by rw [pot_tick, h2]; omega, fun e => (h.2.1 e).tick, fun e => (h.2.2 e).tick⟩
theorem JE.del {i : Nat} {r : List Pc} {p : Pc} (hk : KS init s) (hm : p.m ∈ s.W) (h : JE k i s P) (hp : (r ++ [p]).Perm P) {n : Nat} (hs : SentL 5 [] n (s.delMs p.m) r P') : JE k (i + 1) (s.del p.m) P' := by
 obtain ⟨h1, h2, h3⟩ := del_inv hk Cl.one (.inl rfl) h.1 hp hm hs
 have := h.2.1
 exact ⟨h1, by omega, fun e => h3 5 (h.2.2.1 e), fun e => h3 6 (h.2.2.2 e)⟩
theorem RE.of {i : Nat} (hk : KS init s) (h : JE k i s P) (hi : i = 400 ∨ P = []) : RE k s P := by
 have hP : P = [] := by
  rcases hi with rfl | hi
  ·have h1 := h.2.1
   have h2 := qcost_len 1 (P.map Pc.m)
   rw [List.length_map] at h2
   exact List.eq_nil_of_length_eq_zero (by omega)
  ·exact hi
 subst hP
 have hj : JS s [] := h.1
 obtain ⟨h4, h5⟩ := Far.end_ hk hj
 exact ⟨rfl, h4, fun e => h5 (h.2.2.1 e)⟩
theorem QE.fin (hk : KS init s) (h : RE k s P) {ms : List Msg} (hW : s.fin.W = s.W ++ ms) (hl : ms.length ≤ 12) {n : Nat} (hs : SentL 5 [] n ms P P') : QE (k + 1) s.fin P' := by
 obtain ⟨rfl, h4, h6⟩ := h
 have hkf := hk.fin
 have hp := hs.clean Cl.one fun x hx => vm_to hkf.gi (hkf.gi.mv x (by rw [hW, List.mem_append]; exact .inr hx))
 have hq := qcost_le 1 ms
 refine ⟨?_, fun _ => h4.fin4 hk, fun e => (h6 (by omega)).fin⟩
 rw [qcost_perm 1 hp, qcost_app, qcost_rep]
 have : qcost 1 (([] : List Pc).map Pc.m) = 0 := rfl
 omega
end
end Go.Proofs.YtdojgbpaheadnaaGreat
