/- Liveness, plainly: a message that goes on with each open request; what is still to be done. -/
import Derived.Test.YtdojgbpaheadnaaGreatQPP
set_option linter.unusedVariables false
set_option linter.unusedSimpArgs false

namespace Go.Proofs.YtdojgbpaheadnaaGreat

def JD (x : Dv) (a : Int) (T : Int → Int → Int → Prop) : Prop := ∀ q, x.q = some q →
 (q.st = 1 → (x.c = none ∧ T 1 a 0) ∨ (∃ c L, x.c = some c ∧ c.opn = true ∧ c.hd L ∧ (T 2 0 L ∨ T 3 L 0 ∨ T 4 L 0)) ∨ (∃ c, x.c = some c ∧ c.opn = false ∧ (T 1 a 0 ∨ T 5 0 a ∨ T 6 0 a))) ∧
 (q.st = 2 → T 7 a q.l ∨ T 8 q.l a) ∧ (q.st = 3 → T 9 a q.l ∨ T 10 q.l a) ∧ (q.st = 5 → T 11 a q.l ∨ T 12 q.l a)
def phiC (n : Nat) (c : Option Cs) : Nat := match c with
 | none => 7 * (n * (n + 1))
 | some c => if c.opn then n * (n + 1) * c.left.length else 0
def phiQ (n : Nat) (st : Int) : Nat := if st = 1 then 2 * (n * (n + 1)) else if st = 2 then n * (n + 1) else 0
def phi (n : Nat) (x : Dv) : Nat := match x.q with
 | none => 0
 | some q => phiQ n q.st + phiC n x.c
def cost (n : Nat) (k : Int) : Nat := if k = 1 ∨ k = 2 ∨ k = 7 ∨ k = 9 ∨ k = 11 then n + 1 else 1
theorem cost_pos (n : Nat) (k : Int) : 1 ≤ cost n k := by unfold cost; split <;> omega
theorem cost_le (n : Nat) (k : Int) : cost n k ≤ n + 1 := by unfold cost; split <;> omega
theorem phi_eq {n : Nat} {x : Dv} {q : Rq} (hq : x.q = some q) : phi n x = phiQ n q.st + phiC n x.c := by
 unfold phi; rw [hq]
theorem phi_none {n : Nat} {x : Dv} (hq : x.q = none) : phi n x = 0 := by
 unfold phi; rw [hq]
section
variable {x : Dv} {a : Int} {T T' : Int → Int → Int → Prop}
theorem JD.mono (h : JD x a T) (ht : ∀ k f t, T k f t → T' k f t) : JD x a T' := by
 intro q hq
 obtain ⟨h1, h2, h3, h5⟩ := h q hq
 refine ⟨fun e => ?_, fun e => (h2 e).imp (ht _ _ _) (ht _ _ _), fun e => (h3 e).imp (ht _ _ _) (ht _ _ _), fun e => (h5 e).imp (ht _ _ _) (ht _ _ _)⟩
 rcases h1 e with ⟨a1, a2⟩ | ⟨c, L, a1, a2, a3, a4⟩ | ⟨c, a1, a2, a3⟩
 ·exact .inl ⟨a1, ht _ _ _ a2⟩
 ·exact .inr (.inl ⟨c, L, a1, a2, a3, a4.imp (ht _ _ _) (Or.imp (ht _ _ _) (ht _ _ _))⟩)
 ·exact .inr (.inr ⟨c, a1, a2, a3.imp (ht _ _ _) (Or.imp (ht _ _ _) (ht _ _ _))⟩)
theorem JD.end_ (h : JD x a fun _ _ _ => False) {q : Rq} (hq : x.q = some q) : q.st ≠ 1 ∧ q.st ≠ 2 ∧ q.st ≠ 3 ∧ q.st ≠ 5 := by
 obtain ⟨h1, h2, h3, h5⟩ := h q hq
 refine ⟨fun e => ?_, fun e => (h2 e).elim id id, fun e => (h3 e).elim id id, fun e => (h5 e).elim id id⟩
 rcases h1 e with ⟨_, a2⟩ | ⟨c, L, _, _, _, a4⟩ | ⟨c, _, _, a3⟩
 ·exact a2
 ·exact a4.elim id (·.elim id id)
 ·exact a3.elim id (·.elim id id)
theorem JD.asked {q' : Rq} {k p st z : Int} (hs : stp k = some (p, st, z)) (h4 : q'.st = st) (hz : z ≠ 0 → T' z a q'.l) : JD { x with q := some q' } a T' := by
 intro r hr
 have e : q' = r := by have := hr; dsimp only at this; exact Option.some.inj this
 subst e
 have := stp_some hs
 rcases this with ⟨-, -, e1, e2⟩ | ⟨-, -, e1, e2⟩ | ⟨-, -, e1, e2⟩ | ⟨-, -, e1, e2⟩ | ⟨-, -, e1, e2⟩ <;> subst e1 e2 <;> refine ⟨fun e => ?_, fun e => ?_, fun e => ?_, fun e => ?_⟩ <;> first | omega | skip
 ·exact .inl (hz (by omega))
 ·exact .inl (hz (by omega))
theorem JD.ignA {k f t : Int} (h : JD x a T) (hk : k = 5 ∨ k = 6 ∨ k = 8 ∨ k = 10 ∨ k = 12) (hf : (k = 5 → f = 0) ∧ (k = 6 → f = 0))
  (hi : ∀ q, x.q = some q → ∀ p st z, stp k = some (p, st, z) → q.st = p → f ≠ (if q.st = 1 then 0 else q.l)) (ht : ∀ k' f' t', T k' f' t' → ¬ (k' = k ∧ f' = f ∧ t' = t) → T' k' f' t') : JD x a T' := by
 intro q hq
 obtain ⟨h1, h2, h3, h5⟩ := h q hq
 have hi := hi q hq
 have s5 : stp 5 = some (1, 2, 7) := by decide
 have s6 : stp 6 = some (1, 7, 0) := by decide
 have s8 : stp 8 = some (2, 3, 9) := by decide
 have s10 : stp 10 = some (3, 4, 0) := by decide
 have s12 : stp 12 = some (5, 6, 0) := by decide
 refine ⟨fun e => ?_, fun e => ?_, fun e => ?_, fun e => ?_⟩
 ·have n5 : k ≠ 5 := fun e5 => by subst e5; exact hi _ _ _ s5 e (by rw [if_pos e]; exact hf.1 rfl)
  have n6 : k ≠ 6 := fun e5 => by subst e5; exact hi _ _ _ s6 e (by rw [if_pos e]; exact hf.2 rfl)
  have up : ∀ k' f' t', k' ≤ 6 → T k' f' t' → T' k' f' t' := fun k' f' t' hk' h' => ht _ _ _ h' fun e => by omega
  rcases h1 e with ⟨a1, a2⟩ | ⟨c, L, a1, a2, a3, a4⟩ | ⟨c, a1, a2, a3⟩
  ·exact .inl ⟨a1, up _ _ _ (by omega) a2⟩
  ·exact .inr (.inl ⟨c, L, a1, a2, a3, a4.imp (up _ _ _ (by omega)) (Or.imp (up _ _ _ (by omega)) (up _ _ _ (by omega)))⟩)
  ·exact .inr (.inr ⟨c, a1, a2, a3.imp (up _ _ _ (by omega)) (Or.imp (up _ _ _ (by omega)) (up _ _ _ (by omega)))⟩)
 ·refine (h2 e).imp (fun h' => ht _ _ _ h' fun e' => by omega) fun h' => ht _ _ _ h' fun e' => ?_
  obtain ⟨e1, e2, -⟩ := e'
  subst e1
  exact hi _ _ _ s8 e (by rw [if_neg (by omega)]; exact e2.symm)
 ·refine (h3 e).imp (fun h' => ht _ _ _ h' fun e' => by omega) fun h' => ht _ _ _ h' fun e' => ?_
  obtain ⟨e1, e2, -⟩ := e'
  subst e1
  exact hi _ _ _ s10 e (by rw [if_neg (by omega)]; exact e2.symm)
 ·refine (h5 e).imp (fun h' => ht _ _ _ h' fun e' => by omega) fun h' => ht _ _ _ h' fun e' => ?_
  obtain ⟨e1, e2, -⟩ := e'
  subst e1
  exact hi _ _ _ s12 e (by rw [if_neg (by omega)]; exact e2.symm)
theorem JD.ignB {k f : Int} (h : JD x a T) (hk : k = 1 ∨ k = 3 ∨ k = 4) (h0 : x.c = none → ¬ (k = 1 ∧ f = a)) (hc : ∀ c, x.c = some c → (k = 1 ∧ f = a → c.opn = true) ∧ (c.opn = true → c.left.head? = some f → k ≠ 3 ∧ k ≠ 4))
  (ht : ∀ k' f' t', T k' f' t' → ¬ (k' = k ∧ f' = f ∧ t' = 0) → T' k' f' t') : JD x a T' := by
 intro q hq
 obtain ⟨h1, h2, h3, h5⟩ := h q hq
 have up : ∀ k' f' t', 5 ≤ k' ∨ k' = 2 → T k' f' t' → T' k' f' t' := fun k' f' t' hk' h' => ht _ _ _ h' fun e => by omega
 refine ⟨fun e => ?_, fun e => (h2 e).imp (up _ _ _ (by omega)) (up _ _ _ (by omega)), fun e => (h3 e).imp (up _ _ _ (by omega)) (up _ _ _ (by omega)), fun e => (h5 e).imp (up _ _ _ (by omega)) (up _ _ _ (by omega))⟩
 rcases h1 e with ⟨a1, a2⟩ | ⟨c, L, a1, a2, a3, a4⟩ | ⟨c, a1, a2, a3⟩
 ·exact .inl ⟨a1, ht _ _ _ a2 fun e' => h0 a1 ⟨e'.1.symm, e'.2.1.symm⟩⟩
 ·have hcc := (hc c a1).2 a2
  refine .inr (.inl ⟨c, L, a1, a2, a3, a4.imp (up _ _ _ (by omega)) (Or.imp (fun h' => ht _ _ _ h' fun e' => ?_) fun h' => ht _ _ _ h' fun e' => ?_)⟩)
  ·obtain ⟨e1, e2, -⟩ := e'
   subst e2
   exact (hcc a3).1 e1.symm
  ·obtain ⟨e1, e2, -⟩ := e'
   subst e2
   exact (hcc a3).2 e1.symm
 ·refine .inr (.inr ⟨c, a1, a2, a3.imp (fun h' => ht _ _ _ h' fun e' => ?_) (Or.imp (up _ _ _ (by omega)) (up _ _ _ (by omega)))⟩)
  have := (hc c a1).1 ⟨e'.1.symm, e'.2.1.symm⟩
  rw [a2] at this; cases this
def TB (a : Int) (c : Cs) (T : Int → Int → Int → Prop) : Prop := (c.left = [] → T 6 0 a) ∧ (∀ L, c.hd L → c.g = true → T 5 0 a) ∧ (∀ L, c.hd L → c.g = false → T 2 0 L)
theorem JD.told {k f : Int} {c : Cs} (h : JD x a T) (hk : k = 1 ∨ k = 3 ∨ k = 4) (hb : TB a c T') (ht : ∀ k' f' t', T k' f' t' → ¬ (k' = k ∧ f' = f ∧ t' = 0) → T' k' f' t') : JD { x with c := some c } a T' := by
 intro q hq
 obtain ⟨h1, h2, h3, h5⟩ := h q hq
 have up : ∀ k' f' t', 5 ≤ k' ∨ k' = 2 → T k' f' t' → T' k' f' t' := fun k' f' t' hk' h' => ht _ _ _ h' fun e => by omega
 refine ⟨fun e => ?_, fun e => (h2 e).imp (up _ _ _ (by omega)) (up _ _ _ (by omega)), fun e => (h3 e).imp (up _ _ _ (by omega)) (up _ _ _ (by omega)), fun e => (h5 e).imp (up _ _ _ (by omega)) (up _ _ _ (by omega))⟩
 cases hl : c.left with
 | nil =>
  refine .inr (.inr ⟨c, rfl, ?_, .inr (.inr (hb.1 hl))⟩)
  unfold Cs.opn; rw [hl]; simp
 | cons L r =>
  have hd : c.hd L := by unfold Cs.hd; rw [hl]; rfl
  cases hg : c.g with
  | true =>
   refine .inr (.inr ⟨c, rfl, ?_, .inr (.inl (hb.2.1 L hd hg))⟩)
   unfold Cs.opn; rw [hg]; simp
  | false =>
   refine .inr (.inl ⟨c, L, rfl, ?_, hd, .inl (hb.2.2 L hd hg)⟩)
   unfold Cs.opn; rw [hg, hl]; simp
theorem JD.wanted {L : Int} {d : Int → Option Deal} (h : JD x a T) (hb : T' 3 L 0 ∨ T' 4 L 0) (ht : ∀ k' f' t', T k' f' t' → ¬ (k' = 2 ∧ f' = 0 ∧ t' = L) → T' k' f' t') : JD { x with d := d } a T' := by
 intro q hq
 obtain ⟨h1, h2, h3, h5⟩ := h q hq
 have up : ∀ k' f' t', k' ≠ 2 → T k' f' t' → T' k' f' t' := fun k' f' t' hk' h' => ht _ _ _ h' fun e => by omega
 refine ⟨fun e => ?_, fun e => (h2 e).imp (up _ _ _ (by omega)) (up _ _ _ (by omega)), fun e => (h3 e).imp (up _ _ _ (by omega)) (up _ _ _ (by omega)), fun e => (h5 e).imp (up _ _ _ (by omega)) (up _ _ _ (by omega))⟩
 rcases h1 e with ⟨a1, a2⟩ | ⟨c, M, a1, a2, a3, a4⟩ | ⟨c, a1, a2, a3⟩
 ·exact .inl ⟨a1, up _ _ _ (by omega) a2⟩
 ·refine .inr (.inl ⟨c, M, a1, a2, a3, ?_⟩)
  rcases a4 with a4 | a4
  ·by_cases e' : M = L
   ·subst e'; exact .inr hb
   ·exact .inl (ht _ _ _ a4 fun e => e' e.2.2)
  ·exact .inr (a4.imp (up _ _ _ (by omega)) (up _ _ _ (by omega)))
 ·exact .inr (.inr ⟨c, a1, a2, a3.imp (up _ _ _ (by omega)) (Or.imp (up _ _ _ (by omega)) (up _ _ _ (by omega)))⟩)
theorem JD.answered {L k : Int} {p q' : Nat} {d : Int → Option Deal} (h : JD x a T) (hk : ans k = some (p, q')) (hb : T' (kd q') L a) (ht : ∀ k' f' t', T k' f' t' → ¬ (k' = k ∧ f' = a ∧ t' = L) → T' k' f' t') : JD { x with d := d } a T' := by
 intro q hq
 obtain ⟨h1, h2, h3, h5⟩ := h q hq
 have hk' := ans_some hk
 have k3 : kd 3 = 8 := rfl
 have k4 : kd 4 = 10 := rfl
 have k5 : kd 5 = 12 := rfl
 have up : ∀ k' f' t', k' ≤ 6 ∨ k' = 8 ∨ k' = 10 ∨ k' = 12 → T k' f' t' → T' k' f' t' := fun k' f' t' hk' h' => ht _ _ _ h' fun e => by omega
 refine ⟨fun e => ?_, fun e => ?_, fun e => ?_, fun e => ?_⟩
 ·rcases h1 e with ⟨a1, a2⟩ | ⟨c, L, a1, a2, a3, a4⟩ | ⟨c, a1, a2, a3⟩
  ·exact .inl ⟨a1, up _ _ _ (by omega) a2⟩
  ·exact .inr (.inl ⟨c, L, a1, a2, a3, a4.imp (up _ _ _ (by omega)) (Or.imp (up _ _ _ (by omega)) (up _ _ _ (by omega)))⟩)
  ·exact .inr (.inr ⟨c, a1, a2, a3.imp (up _ _ _ (by omega)) (Or.imp (up _ _ _ (by omega)) (up _ _ _ (by omega)))⟩)
 ·rcases h2 e with h' | h'
  ·by_cases e' : k = 7 ∧ q.l = L
   ·obtain ⟨e1, e2⟩ := e'
    obtain rfl : q' = 3 := by omega
    rw [e2]; exact .inr hb
   ·exact .inl (ht _ _ _ h' fun e => e' ⟨e.1.symm, e.2.2⟩)
  ·exact .inr (up _ _ _ (by omega) h')
 ·rcases h3 e with h' | h'
  ·by_cases e' : k = 9 ∧ q.l = L
   ·obtain ⟨e1, e2⟩ := e'
    obtain rfl : q' = 4 := by omega
    rw [e2]; exact .inr hb
   ·exact .inl (ht _ _ _ h' fun e => e' ⟨e.1.symm, e.2.2⟩)
  ·exact .inr (up _ _ _ (by omega) h')
 ·rcases h5 e with h' | h'
  ·by_cases e' : k = 11 ∧ q.l = L
   ·obtain ⟨e1, e2⟩ := e'
    obtain rfl : q' = 5 := by omega
    rw [e2]; exact .inr hb
   ·exact .inl (ht _ _ _ h' fun e => e' ⟨e.1.symm, e.2.2⟩)
  ·exact .inr (up _ _ _ (by omega) h')
theorem JD.ignL {L k : Int} {p q' : Nat} (hx : DI x) (h : JD x a T) (hk : ans k = some (p, q')) (hi : ∀ e, x.d L = some e → e.st ≠ p ∧ e.st ≠ q') (ht : ∀ k' f' t', T k' f' t' → ¬ (k' = k ∧ f' = a ∧ t' = L) → T' k' f' t') : JD x a T' := by
 intro q hq
 obtain ⟨h1, h2, h3, h5⟩ := h q hq
 have hk' := ans_some hk
 have up : ∀ k' f' t', k' ≤ 6 ∨ k' = 8 ∨ k' = 10 ∨ k' = 12 → T k' f' t' → T' k' f' t' := fun k' f' t' hk' h' => ht _ _ _ h' fun e => by omega
 have no : 2 ≤ q.st → q.st ≤ 6 → q.l = L → ∃ n : Nat, OKs q.st n ∧ n ≠ p ∧ n ≠ q' := fun a1 a2 a3 => by
  obtain ⟨e, he, ho⟩ := hx.lend hq a1 a2
  rw [a3] at he
  exact ⟨e.st, ho, hi e he⟩
 refine ⟨fun e => ?_, fun e => ?_, fun e => ?_, fun e => ?_⟩
 ·rcases h1 e with ⟨a1, a2⟩ | ⟨c, L, a1, a2, a3, a4⟩ | ⟨c, a1, a2, a3⟩
  ·exact .inl ⟨a1, up _ _ _ (by omega) a2⟩
  ·exact .inr (.inl ⟨c, L, a1, a2, a3, a4.imp (up _ _ _ (by omega)) (Or.imp (up _ _ _ (by omega)) (up _ _ _ (by omega)))⟩)
  ·exact .inr (.inr ⟨c, a1, a2, a3.imp (up _ _ _ (by omega)) (Or.imp (up _ _ _ (by omega)) (up _ _ _ (by omega)))⟩)
 ·refine (h2 e).imp (fun h' => ht _ _ _ h' fun e' => ?_) (up _ _ _ (by omega))
  obtain ⟨n, ho, n1, n2⟩ := no (by omega) (by omega) e'.2.2
  unfold OKs at ho; clear h1 h2 h3 h5 no up hi ht; omega
 ·refine (h3 e).imp (fun h' => ht _ _ _ h' fun e' => ?_) (up _ _ _ (by omega))
  obtain ⟨n, ho, n1, n2⟩ := no (by omega) (by omega) e'.2.2
  unfold OKs at ho; clear h1 h2 h3 h5 no up hi ht; omega
 ·refine (h5 e).imp (fun h' => ht _ _ _ h' fun e' => ?_) (up _ _ _ (by omega))
  obtain ⟨n, ho, n1, n2⟩ := no (by omega) (by omega) e'.2.2
  unfold OKs at ho; clear h1 h2 h3 h5 no up hi ht; omega
theorem phi_le {n : Nat} (hn : n = 1 ∨ n = 2) (hl : ∀ c, x.c = some c → c.left.length ≤ 6) : phi n x ≤ 9 * (n * (n + 1)) := by
 unfold phi
 cases x.q with
 | none => simp
 | some q =>
  dsimp only
  have h1 : phiQ n q.st ≤ 2 * (n * (n + 1)) := by unfold phiQ; rcases hn with rfl | rfl <;> split <;> (try split) <;> omega
  have h2 : phiC n x.c ≤ 7 * (n * (n + 1)) := by
   cases hc : x.c with
   | none => exact Nat.le_refl _
   | some c =>
    have := hl c hc
    show (if c.opn then n * (n + 1) * c.left.length else 0) ≤ _
    rcases hn with rfl | rfl <;> split <;> omega
  rcases hn with rfl | rfl <;> omega
end
end Go.Proofs.YtdojgbpaheadnaaGreat

/- Liveness, plainly: what each machine's step makes of the messages on their way, and of what is left to do. -/
namespace Go.Proofs.YtdojgbpaheadnaaGreat

def Tk (Q : List Msg) (a r k f t : Int) : Prop := ∃ m ∈ Q, (∃ v, dec m.text = some (k, a, r, v)) ∧ m.frm = f ∧ m.to = t
noncomputable def mcost (n : Nat) (m : Msg) : Nat := match dec m.text with
 | none => 1
 | some t => cost n t.1
noncomputable def qcost (n : Nat) (Q : List Msg) : Nat := (Q.map (mcost n)).sum
theorem mcost_dec {n : Nat} {m : Msg} {k a r v : Int} (h : dec m.text = some (k, a, r, v)) : mcost n m = cost n k := by unfold mcost; rw [h]
theorem mcost_pos (n : Nat) (m : Msg) : 1 ≤ mcost n m := by unfold mcost; split <;> first | omega | exact cost_pos _ _
theorem mcost_le (n : Nat) (m : Msg) : mcost n m ≤ n + 1 := by unfold mcost; split <;> first | omega | exact cost_le _ _
theorem qcost_nil (n : Nat) : qcost n [] = 0 := rfl
theorem qcost_one (n : Nat) (m : Msg) : qcost n [m] = mcost n m := by unfold qcost; simp
theorem qcost_app (n : Nat) (P Q : List Msg) : qcost n (P ++ Q) = qcost n P + qcost n Q := by unfold qcost; simp
theorem qcost_le (n : Nat) (Q : List Msg) : qcost n Q ≤ (n + 1) * Q.length := by
 induction Q with
 | nil => simp [qcost]
 | cons m Q ih =>
  rw [← List.singleton_append, qcost_app, qcost_one, List.length_append, Nat.mul_add]
  have := mcost_le n m
  simp; omega
theorem qcost_len (n : Nat) (Q : List Msg) : Q.length ≤ qcost n Q := by
 induction Q with
 | nil => simp [qcost]
 | cons m Q ih => rw [← List.singleton_append, qcost_app, qcost_one, List.length_append]; have := mcost_pos n m; simp; omega
structure Sp (s s' : Lb) (m : Msg) (out : List Msg) (k a r : Int) : Prop where
 other : ∀ a' r', ¬ (a' = a ∧ r' = r) → s'.view a' r' = s.view a' r'
 own : ∀ T T' : Int → Int → Int → Prop, JD (s.view a r) a T → (∀ k' f t, T k' f t → ¬ (k' = k ∧ f = m.frm ∧ t = m.to) → T' k' f t) → (∀ x ∈ out, ∀ k' v, dec x.text = some (k', a, r, v) → T' k' x.frm x.to) → JD (s'.view a r) a T'
 pot : ∀ n, n = 1 ∨ n = 2 → phi n (s'.view a r) + n * qcost n out + 1 ≤ phi n (s.view a r) + cost n k
 st : ∀ q', (s'.view a r).q = some q' → ∃ q, (s.view a r).q = some q ∧ q.st ≤ q'.st
section
variable {s : Lb} {m : Msg} {k a r v : Int}
theorem Sp.same {s' : Lb} (hv : ∀ a' r', s'.view a' r' = s.view a' r') (h : ∀ T T' : Int → Int → Int → Prop, JD (s.view a r) a T → (∀ k' f t, T k' f t → ¬ (k' = k ∧ f = m.frm ∧ t = m.to) → T' k' f t) → JD (s.view a r) a T') : Sp s s' m [] k a r where
 other := fun a' r' _ => hv a' r'
 own := fun T T' h1 h2 _ => by rw [hv]; exact h T T' h1 h2
 pot := fun n hn => by rw [hv, qcost_nil]; have := cost_pos n k; omega
 st := fun q' hq => ⟨q', by rw [hv] at hq; exact hq, Int.le_refl _⟩
theorem upd_idP {α : Type} (f : Int → α) (i : Int) : upd f i (f i) = f := funext fun j => by unfold upd; split <;> simp_all
theorem dlA (h : GI s) (ha : IsA a) (hd : dec m.text = some (k, a, r, v)) (hv : MV (s.view a r) a k v m.frm m.to) (hk : k = 5 ∨ k = 6 ∨ k = 8 ∨ k = 10 ∨ k = 12) : Sp s (s.takeA a m) m ((s.as a).take m).2 k a r := by
 have hto : m.to = a := by
  rcases hk with rfl | rfl | rfl | rfl | rfl
  ·exact (hv.granted rfl).2.1
  ·exact (hv.failed rfl).2.1
  ·exact (hv.shipped rfl).1
  ·exact (hv.lent rfl).1
  ·exact (hv.closed rfl).1
 have hvq : ∀ q, (s.view a r).q = some q ↔ rq (s.as a).L r = some q := fun q => by unfold Lb.view; dsimp only; rw [if_pos ha]
 rcases takeA_out (s.as a) m hd with ⟨e, hno⟩ | ⟨h1, h2, q, p, st, z, hq, hs, hp, hf, e⟩
 ·rw [e]
  have e0 : s.takeA a m = s := by unfold Lb.takeA; rw [e]; dsimp only; rw [upd_idP, List.append_nil]
  rw [e0]
  refine Sp.same (fun _ _ => rfl) fun T T' hj ht => hj.ignA hk ⟨fun e => (hv.granted e).1, fun e => (hv.failed e).1⟩ (fun q hq p st z hs hp hf => ?_) ht
  exact hno ⟨by rw [h.ia a ha]; exact hto, (h.ia a ha).symm, q, p, st, z, (hvq q).1 hq, hs, hp, hf⟩
 ·have hqn : q.n = r := (rq_some hq).2
  obtain ⟨q', hq'⟩ : ∃ q' : Rq, q' = { q with st := st, l := if k = 5 then v else q.l } := ⟨_, rfl⟩
  have hn' : q'.n = r := by rw [hq']; exact hqn
  have hst : q'.st = st := by rw [hq']
  have hr := h.rg a r q ((hvq q).2 hq)
  rw [← hq'] at e
  have hz1 : z ≠ 1 := by have := stp_some hs; omega
  obtain ⟨t1, t2, -⟩ := tell_L ({ s.as a with L := setQ q' (s.as a).L } : Asr) q' z
  have V := view_setA (s := s) ha (({ s.as a with L := setQ q' (s.as a).L } : Asr).tell q' z).1 (s.W ++ (({ s.as a with L := setQ q' (s.as a).L } : Asr).tell q' z).2) (q := q') (p := q) (by rw [hn']; exact hq) t1
  rw [hn'] at V
  have es : s.takeA a m = { s with as := upd s.as a (({ s.as a with L := setQ q' (s.as a).L } : Asr).tell q' z).1, W := s.W ++ (({ s.as a with L := setQ q' (s.as a).L } : Asr).tell q' z).2 } := by unfold Lb.takeA; rw [e]
  rw [es, e]
  have hout : (({ s.as a with L := setQ q' (s.as a).L } : Asr).tell q' z).2 = if z = 0 then [] else [mesg a (s.as a).sent q'.l z a r 0] := by
   unfold Asr.tell
   split
   ·rfl
   ·first
     | (dsimp only; rw [if_neg hz1, hn', h.ia a ha])
     | rw [hn', h.ia a ha]
  have hzz : I64 z := i64_small (by have := stp_some hs; omega)
  have hdz : ∀ f : Int, dec (mesg a (s.as a).sent f z a r 0).text = some (z, a, r, 0) := fun f => dec_txt hzz ha.i64 (i64_small (by omega)) (i64_small (by omega))
  refine ⟨V.1, fun T T' hj ht ho => ?_, ?_, fun q2 hq2 => ?_⟩
  ·rw [V.2]
   refine JD.asked hs hst fun hz => ?_
   refine ho (mesg a (s.as a).sent q'.l z a r 0) (by rw [hout, if_neg hz]; simp) z 0 (hdz _)
  ·intro n hn
   rw [V.2, hout]
   have hqv := (hvq q).2 hq
   rw [phi_eq (x := { s.view a r with q := some q' }) rfl, phi_eq hqv]
   dsimp only
   obtain ⟨C, hC⟩ : ∃ C : Nat, C = phiC n (s.view a r).c := ⟨_, rfl⟩
   have hqc : qcost n (if z = 0 then [] else [mesg a (s.as a).sent q'.l z a r 0]) = if z = 0 then 0 else cost n z := by
    by_cases h0 : z = 0
    ·rw [if_pos h0, if_pos h0, qcost_nil]
    ·rw [if_neg h0, if_neg h0, qcost_one, mcost_dec (hdz _)]
   rw [← hC, hst, hp, hqc]
   rcases hn with rfl | rfl <;> rcases stp_some hs with ⟨e1, e2, e3, e4⟩ | ⟨e1, e2, e3, e4⟩ | ⟨e1, e2, e3, e4⟩ | ⟨e1, e2, e3, e4⟩ | ⟨e1, e2, e3, e4⟩ <;> rw [e1, e2, e3, e4] <;> simp [cost, phiQ] <;> omega
  ·rw [V.2] at hq2
   have hq2 := Option.some.inj hq2
   subst hq2
   refine ⟨q, (hvq q).2 hq, ?_⟩
   have := stp_some hs
   omega
theorem tellB_out {b : Brk} {c : Cs} (hi : b.id = 0) (ha : IsA c.a) (hr : I64 c.r) (ht : I64 c.t) (hl : ∀ X ∈ c.left, IsL X) :
  ∃ x k v, (b.tell c).2 = [x] ∧ dec x.text = some (k, c.a, c.r, v) ∧ x.frm = 0 ∧ (c.left = [] → k = 6 ∧ x.to = c.a) ∧ (∀ L, c.hd L → c.g = true → k = 5 ∧ x.to = c.a) ∧ (∀ L, c.hd L → c.g = false → k = 2 ∧ x.to = L) := by
 unfold Brk.tell
 dsimp only
 cases hc : c.left with
 | nil =>
  refine ⟨_, 6, 0, rfl, dec_txt (i64_small (by omega)) ha.i64 hr (i64_small (by omega)), hi, fun _ => ⟨rfl, rfl⟩, fun L h => ?_, fun L h => ?_⟩ <;> exact (Cs.hd_nil h hc).elim
 | cons X l =>
  have hX := (hl X (by rw [hc]; simp)).i64
  have hh : ∀ L, c.hd L → X = L := fun L h => by unfold Cs.hd at h; rw [hc] at h; exact Option.some.inj h
  cases hg : c.g with
  | true => exact ⟨_, 5, X, rfl, dec_txt (i64_small (by omega)) ha.i64 hr hX, hi, nofun, fun L _ _ => ⟨rfl, rfl⟩, fun L _ h => (by cases h)⟩
  | false => exact ⟨_, 2, c.t, rfl, dec_txt (i64_small (by omega)) ha.i64 hr ht, hi, nofun, fun L _ h => (by cases h), fun L h _ => ⟨rfl, hh L h⟩⟩
theorem TB.of {b : Brk} {c : Cs} {T : Int → Int → Int → Prop} {x : Msg} {k v : Int} (he : (b.tell c).2 = [x]) (hd : dec x.text = some (k, c.a, c.r, v)) (hf : x.frm = 0) (h0 : c.left = [] → k = 6 ∧ x.to = c.a) (h1 : ∀ L, c.hd L → c.g = true → k = 5 ∧ x.to = c.a) (h2 : ∀ L, c.hd L → c.g = false → k = 2 ∧ x.to = L)
  (ho : ∀ x ∈ (b.tell c).2, ∀ k' v, dec x.text = some (k', c.a, c.r, v) → T k' x.frm x.to) : TB c.a c T := by
 have hT := ho x (by rw [he]; simp) k v hd
 rw [hf] at hT
 refine ⟨fun e => ?_, fun L e1 e2 => ?_, fun L e1 e2 => ?_⟩
 ·obtain ⟨e1, e2⟩ := h0 e; rw [e1, e2] at hT; exact hT
 ·obtain ⟨e1, e2⟩ := h1 L e1 e2; rw [e1, e2] at hT; exact hT
 ·obtain ⟨e1, e2⟩ := h2 L e1 e2; rw [e1, e2] at hT; exact hT
theorem phi_c {n : Nat} {x : Dv} {q : Rq} (hq : x.q = some q) {c : Cs} (hc : x.c = some c) : phi n x = phiQ n q.st + if c.opn then n * (n + 1) * c.left.length else 0 := by
 rw [phi_eq hq, hc]; rfl
theorem phi_c0 {n : Nat} {x : Dv} {q : Rq} (hq : x.q = some q) (hc : x.c = none) : phi n x = phiQ n q.st + 7 * (n * (n + 1)) := by
 rw [phi_eq hq, hc]; rfl
theorem dlB (h : GI s) (hd : dec m.text = some (k, a, r, v)) (hv : MV (s.view a r) a k v m.frm m.to) (hk : k = 1 ∨ k = 3 ∨ k = 4) : Sp s (s.takeB m) m (s.b.take m).2 k a r := by
 have hto : m.to = 0 := by
  rcases hk with rfl | rfl | rfl
  ·exact (hv.ask rfl).2.1
  ·exact (hv.yes rfl).1
  ·exact (hv.no rfl).1
 have hvc : (s.view a r).c = cs s.b.L a r := rfl
 have key : ∀ c : Cs, (s.view a r).c = some c → IsA a ∧ (1 ≤ r ∧ r ≤ 6) ∧ I64 c.t ∧ (∀ X ∈ c.left, IsL X) ∧ c.left.length ≤ 6 ∧ ∃ q, (s.view a r).q = some q := fun c hc => by
  obtain ⟨q, hq, hqt⟩ := (h.di a r).c_q c hc
  have hr := h.rg a r q hq
  have hl := h.lf a r c hc
  exact ⟨hr.1, ⟨hr.2.1, hr.2.2.1⟩, by rw [← hqt]; exact i64_small (by omega), hl.1, hl.2, q, hq⟩
 rcases takeB_out s.b m hd with ⟨e, hno⟩ | ⟨h1, hc, hk1, hf, e⟩ | ⟨c, h1, hc, hk1, hf, ho, e⟩ | ⟨c, h1, hc, hk1, ho, hh, e⟩ | ⟨c, h1, hc, hk1, ho, hh, e⟩
 ·rw [e]
  have e0 : s.takeB m = s := by unfold Lb.takeB; rw [e]; dsimp only; rw [List.append_nil]
  rw [e0]
  have hno := hno (by rw [h.ib]; exact hto)
  refine Sp.same (fun _ _ => rfl) fun T T' hj ht => hj.ignB (k := k) (f := m.frm) hk (fun e => hno.1 (hvc ▸ e)) (fun c hc => hno.2 c (hvc ▸ hc)) fun k' f' t' h1 h2 => ht k' f' t' h1 fun e => h2 ⟨e.1, e.2.1, by rw [e.2.2, hto]⟩
 ·subst hk1
  obtain ⟨-, -, q, hq, hqt⟩ := hv.ask rfl
  have hr := h.rg a r q hq
  obtain ⟨c, hcd⟩ : ∃ c : Cs, c = ⟨a, r, v, rotOf s.b.rota a r, false⟩ := ⟨_, rfl⟩
  have e1 : c.a = a := by rw [hcd]
  have e2 : c.r = r := by rw [hcd]
  have e4 : c.t = q.t := by rw [hcd]; exact hqt.symm
  have e5 : ∀ X ∈ c.left, IsL X := fun X hX => h.ro X (rot_mem (by rw [hcd] at hX; exact hX))
  have e6 : c.left.length ≤ 6 := by rw [hcd]; exact Nat.le_trans (rot_len _ _ _) h.rl
  rw [← hcd] at e
  have V := view_setB (s := s) (({ s.b with L := insC c s.b.L } : Brk).tell c).1 (s.W ++ (({ s.b with L := insC c s.b.L } : Brk).tell c).2) (c := c) (fun a' r' => cs_ins (by rw [e1, e2]; exact hc) a' r')
  obtain ⟨x, k', v', g1, g2, g3, g4, g5, g6⟩ := tellB_out (b := ({ s.b with L := insC c s.b.L } : Brk)) (c := c) h.ib (by rw [e1]; exact hr.1) (by rw [e2]; exact i64_small (by omega)) (by rw [e4]; exact i64_small (by omega)) e5
  have es : s.takeB m = { s with b := (({ s.b with L := insC c s.b.L } : Brk).tell c).1, W := s.W ++ (({ s.b with L := insC c s.b.L } : Brk).tell c).2 } := by unfold Lb.takeB; rw [e]
  rw [es, e]
  refine ⟨fun a' r' hn => V.1 a' r' (by rw [e1, e2]; exact hn), fun T T' hj ht hO => ?_, ?_, fun q' hq' => ⟨q', ?_, Int.le_refl _⟩⟩
  ·have V2 := V.2
   rw [e1, e2] at V2
   rw [V2]
   have hTB := TB.of (T := T') g1 g2 g3 g4 g5 g6 (by rw [e1, e2]; exact hO)
   rw [e1] at hTB
   exact hj.told (k := 1) (f := m.frm) (.inl rfl) hTB fun k' f' t' h1 h2 => ht k' f' t' h1 fun e => h2 ⟨e.1, e.2.1, by rw [e.2.2, hto]⟩
  ·intro n hn
   have V2 := V.2
   rw [e1, e2] at V2
   rw [V2, phi_c0 hq (hvc.trans hc), phi_c (x := { s.view a r with c := some c }) hq rfl, g1, qcost_one]
   have := mcost_le n x
   rcases hn with rfl | rfl
   ·have h6 : (if c.opn then 1 * (1 + 1) * c.left.length else 0) ≤ 12 := by split <;> omega
    rw [show cost 1 1 = 2 from rfl]; omega
   ·have h6 : (if c.opn then 2 * (2 + 1) * c.left.length else 0) ≤ 36 := by split <;> omega
    rw [show cost 2 1 = 3 from rfl]; omega
  ·have V2 := V.2
   rw [e1, e2] at V2
   rw [V2] at hq'; exact hq'
 ·subst hk1
  have hcc := cs_some hc
  obtain ⟨kA, kr, kt, kl, k6, q, hq⟩ := key c (hvc.trans hc)
  obtain ⟨x, k', v', g1, g2, g3, g4, g5, g6⟩ := tellB_out (b := s.b) (c := c) h.ib (by rw [hcc.2.1]; exact kA) (by rw [hcc.2.2]; exact i64_small (by omega)) kt kl
  have es : s.takeB m = { s with b := (s.b.tell c).1, W := s.W ++ (s.b.tell c).2 } := by unfold Lb.takeB; rw [e]
  rw [es, e]
  have V : ∀ a' r', ({ s with b := (s.b.tell c).1, W := s.W ++ (s.b.tell c).2 } : Lb).view a' r' = s.view a' r' := fun _ _ => rfl
  refine ⟨fun a' r' _ => V a' r', fun T T' hj ht hO => ?_, ?_, fun q' hq' => ⟨q', hq', Int.le_refl _⟩⟩
  ·rw [V]
   have hTB := TB.of (T := T') g1 g2 g3 g4 g5 g6 (by rw [hcc.2.1, hcc.2.2]; exact hO)
   rw [hcc.2.1] at hTB
   have := hj.told (k := 1) (f := m.frm) (.inl rfl) hTB fun k' f' t' h1 h2 => ht k' f' t' h1 fun e => h2 ⟨e.1, e.2.1, by rw [e.2.2, hto]⟩
   have e7 : ({ s.view a r with c := some c } : Dv) = s.view a r := by rw [← hvc.trans hc]
   rw [e7] at this
   exact this
  ·intro n hn
   rw [V, g1, qcost_one, mcost_dec g2]
   have hk' : k' = 5 ∨ k' = 6 := by
    cases hl : c.left with
    | nil => exact .inr (g4 hl).1
    | cons X l =>
     have hdX : c.hd X := by unfold Cs.hd; rw [hl]; rfl
     cases hg : c.g with
     | true => exact .inl (g5 X hdX hg).1
     | false => unfold Cs.opn at ho; rw [hl, hg] at ho; simp at ho
   rcases hk' with rfl | rfl <;> simp [cost] <;> omega
 ·subst hk1
  obtain ⟨hg, hne⟩ := opn_iffP.1 ho
  have hcc := cs_some hc
  obtain ⟨kA, kr, kt, kl, k6, q, hq⟩ := key c (hvc.trans hc)
  obtain ⟨c', hcd⟩ : ∃ c' : Cs, c' = { c with g := true } := ⟨_, rfl⟩
  have e1 : c'.a = a := by rw [hcd]; exact hcc.2.1
  have e2 : c'.r = r := by rw [hcd]; exact hcc.2.2
  have e4 : c'.t = c.t := by rw [hcd]
  have e5 : c'.left = c.left := by rw [hcd]
  have e6 : c'.g = true := by rw [hcd]
  rw [← hcd] at e
  have V := view_setB (s := s) (({ s.b with L := setC c' s.b.L } : Brk).tell c').1 (s.W ++ (({ s.b with L := setC c' s.b.L } : Brk).tell c').2) (c := c') (fun a' r' => cs_set' (x := c) (by rw [e1, e2]; exact hc) a' r')
  obtain ⟨x, k', v', g1, g2, g3, g4, g5, g6⟩ := tellB_out (b := ({ s.b with L := setC c' s.b.L } : Brk)) (c := c') h.ib (by rw [e1]; exact kA) (by rw [e2]; exact i64_small (by omega)) (by rw [e4]; exact kt) (by rw [e5]; exact kl)
  have es : s.takeB m = { s with b := (({ s.b with L := setC c' s.b.L } : Brk).tell c').1, W := s.W ++ (({ s.b with L := setC c' s.b.L } : Brk).tell c').2 } := by unfold Lb.takeB; rw [e]
  rw [es, e]
  have V2 := V.2
  rw [e1, e2] at V2
  refine ⟨fun a' r' hn => V.1 a' r' (by rw [e1, e2]; exact hn), fun T T' hj ht hO => ?_, ?_, fun q' hq' => ⟨q', by rw [V2] at hq'; exact hq', Int.le_refl _⟩⟩
  ·rw [V2]
   have hTB := TB.of (T := T') g1 g2 g3 g4 g5 g6 (by rw [e1, e2]; exact hO)
   rw [e1] at hTB
   exact hj.told (k := 3) (f := m.frm) (.inr (.inl rfl)) hTB fun k' f' t' h1 h2 => ht k' f' t' h1 fun e => h2 ⟨e.1, e.2.1, by rw [e.2.2, hto]⟩
  ·intro n hn
   rw [V2, phi_c hq (hvc.trans hc), phi_c (x := { s.view a r with c := some c' }) hq rfl, g1, qcost_one, mcost_dec g2]
   have ho' : c'.opn = false := by unfold Cs.opn; rw [e6]; rfl
   have hdX : ∃ X, c'.hd X := by
    unfold Cs.hd; rw [e5]
    cases hl : c.left with
    | nil => exact absurd hl hne
    | cons X l => exact ⟨X, rfl⟩
   obtain ⟨X, hX⟩ := hdX
   have hk5 := (g5 X hX e6).1
   subst hk5
   have : 1 ≤ c.left.length := by
    cases hl : c.left with
    | nil => exact absurd hl hne
    | cons X l => simp
   rw [ho', ho]
   rcases hn with rfl | rfl
   ·rw [show cost 1 5 = 1 from rfl, show cost 1 3 = 1 from rfl, if_neg (by simp), if_pos rfl]; omega
   ·rw [show cost 2 5 = 1 from rfl, show cost 2 3 = 1 from rfl, if_neg (by simp), if_pos rfl]; omega
 ·subst hk1
  obtain ⟨hg, hne⟩ := opn_iffP.1 ho
  have hcc := cs_some hc
  obtain ⟨kA, kr, kt, kl, k6, q, hq⟩ := key c (hvc.trans hc)
  obtain ⟨c', hcd⟩ : ∃ c' : Cs, c' = { c with left := c.left.tail } := ⟨_, rfl⟩
  have e1 : c'.a = a := by rw [hcd]; exact hcc.2.1
  have e2 : c'.r = r := by rw [hcd]; exact hcc.2.2
  have e4 : c'.t = c.t := by rw [hcd]
  have e5 : c'.left = c.left.tail := by rw [hcd]
  rw [← hcd] at e
  have V := view_setB (s := s) (({ s.b with L := setC c' s.b.L } : Brk).tell c').1 (s.W ++ (({ s.b with L := setC c' s.b.L } : Brk).tell c').2) (c := c') (fun a' r' => cs_set' (x := c) (by rw [e1, e2]; exact hc) a' r')
  obtain ⟨x, k', v', g1, g2, g3, g4, g5, g6⟩ := tellB_out (b := ({ s.b with L := setC c' s.b.L } : Brk)) (c := c') h.ib (by rw [e1]; exact kA) (by rw [e2]; exact i64_small (by omega)) (by rw [e4]; exact kt) (by rw [e5]; exact fun X hX => kl X (List.mem_of_mem_tail hX))
  have es : s.takeB m = { s with b := (({ s.b with L := setC c' s.b.L } : Brk).tell c').1, W := s.W ++ (({ s.b with L := setC c' s.b.L } : Brk).tell c').2 } := by unfold Lb.takeB; rw [e]
  rw [es, e]
  have V2 := V.2
  rw [e1, e2] at V2
  refine ⟨fun a' r' hn => V.1 a' r' (by rw [e1, e2]; exact hn), fun T T' hj ht hO => ?_, ?_, fun q' hq' => ⟨q', by rw [V2] at hq'; exact hq', Int.le_refl _⟩⟩
  ·rw [V2]
   have hTB := TB.of (T := T') g1 g2 g3 g4 g5 g6 (by rw [e1, e2]; exact hO)
   rw [e1] at hTB
   exact hj.told (k := 4) (f := m.frm) (.inr (.inr rfl)) hTB fun k' f' t' h1 h2 => ht k' f' t' h1 fun e => h2 ⟨e.1, e.2.1, by rw [e.2.2, hto]⟩
  ·intro n hn
   rw [V2, phi_c hq (hvc.trans hc), phi_c (x := { s.view a r with c := some c' }) hq rfl, g1, qcost_one]
   have := mcost_le n x
   have : 1 ≤ c.left.length := by
    cases hl : c.left with
    | nil => exact absurd hl hne
    | cons X l => simp
   rw [if_pos ho]
   rcases hn with rfl | rfl
   ·have h6 : (if c'.opn then 1 * (1 + 1) * c'.left.length else 0) ≤ 2 * (c.left.length - 1) := by rw [e5, List.length_tail]; split <;> omega
    simp only [show cost 1 4 = 1 from rfl]; omega
   ·have h6 : (if c'.opn then 2 * (2 + 1) * c'.left.length else 0) ≤ 6 * (c.left.length - 1) := by rw [e5, List.length_tail]; split <;> omega
    simp only [show cost 2 4 = 1 from rfl]; omega
theorem dlL {L : Int} (h : GI s) (hL : IsL L) (hto : m.to = L) (hd : dec m.text = some (k, a, r, v)) (hv : MV (s.view a r) a k v m.frm m.to) (hk : k = 2 ∨ k = 7 ∨ k = 9 ∨ k = 11) : Sp s (s.takeL L m) m ((s.ls L).take m).2 k a r := by
 have hvd : (s.view a r).d L = at_ (s.ls L).L a r := by unfold Lb.view; dsimp only; rw [if_pos hL]
 have hid := h.il L hL
 have hrg : IsA a ∧ 1 ≤ r ∧ r ≤ 6 := by
  have : ∃ q, (s.view a r).q = some q := by
   rcases hk with rfl | rfl | rfl | rfl
   ·obtain ⟨-, c, hc, -⟩ := hv.want rfl
    obtain ⟨q, hq, -⟩ := (h.di a r).c_q c hc
    exact ⟨q, hq⟩
   ·obtain ⟨-, q, hq, -⟩ := hv.accept rfl; exact ⟨q, hq⟩
   ·obtain ⟨-, q, hq, -⟩ := hv.got rfl; exact ⟨q, hq⟩
   ·obtain ⟨-, q, hq, -⟩ := hv.back rfl; exact ⟨q, hq⟩
  obtain ⟨q, hq⟩ := this
  have := h.rg a r q hq
  exact ⟨this.1, this.2.1, this.2.2.1⟩
 have hf0 : k = 2 → m.frm = 0 := fun e => (hv.want e).1
 have hfa : k = 7 ∨ k = 9 ∨ k = 11 → m.frm = a := fun e => by
  rcases e with e | e | e
  ·exact (hv.accept e).1
  ·exact (hv.got e).1
  ·exact (hv.back e).1
 have dz : ∀ (z : Int) (n t : Int), -100 ≤ z ∧ z ≤ 100 → dec (mesg L n t z a r 0).text = some (z, a, r, 0) := fun z n t hz => dec_txt (i64_small hz) hrg.1.i64 (i64_small (by omega)) (i64_small (by omega))
 rcases takeL_out (s.ls L) m hd with ⟨e, hno⟩ | ⟨h1, hk2, hf, hn, e⟩ | ⟨d, h1, hk2, hf, hs, e⟩ | ⟨d, p, q, h1, hs, ha, hf, hst, e⟩
 ·rw [e]
  have e0 : s.takeL L m = s := by unfold Lb.takeL; rw [e]; dsimp only; rw [upd_idP, List.append_nil]
  rw [e0]
  have hno := hno (by rw [hid]; exact hto)
  refine Sp.same (fun _ _ => rfl) fun T T' hj ht => ?_
  have hk7 : k = 7 ∨ k = 9 ∨ k = 11 := by
   rcases hk with hk | hk
   ·exact absurd ⟨hk, hf0 hk⟩ hno.1
   ·exact hk
  obtain ⟨p, q, hpq⟩ : ∃ p q, ans k = some (p, q) := by
   rcases hk7 with rfl | rfl | rfl
   ·exact ⟨2, 3, by decide⟩
   ·exact ⟨3, 4, by decide⟩
   ·exact ⟨4, 5, by decide⟩
  exact hj.ignL (L := L) (h.di a r) hpq (fun e he => hno.2 e p q (hvd ▸ he) hpq (hfa hk7)) fun k' f' t' h1 h2 => ht k' f' t' h1 fun e => h2 ⟨e.1, by rw [e.2.1, hfa hk7], by rw [e.2.2, hto]⟩
 ·subst hk2
  have es : s.takeL L m = { s with ls := upd s.ls L (((s.ls L).deal a r v).send 0 (if v ∈ (s.ls L).here then 3 else 4) a r).1, W := s.W ++ (((s.ls L).deal a r v).send 0 (if v ∈ (s.ls L).here then 3 else 4) a r).2 } := by unfold Lb.takeL; rw [e]
  have hx : ∃ d : Deal, ∀ a' r', at_ (((s.ls L).deal a r v).send 0 (if v ∈ (s.ls L).here then 3 else 4) a r).1.L a' r' = if a' = a ∧ r' = r then some d else at_ (s.ls L).L a' r' := by
   unfold Len.send Len.deal
   dsimp only
   split
   ·exact ⟨⟨a, r, v, 2⟩, fun a' r' => at_snocP (d := ⟨a, r, v, 2⟩) hn a' r'⟩
   ·exact ⟨⟨a, r, v, 1⟩, fun a' r' => at_snocP (d := ⟨a, r, v, 1⟩) hn a' r'⟩
  obtain ⟨d, hx⟩ := hx
  have V := view_setL (s := s) hL _ (s.W ++ (((s.ls L).deal a r v).send 0 (if v ∈ (s.ls L).here then 3 else 4) a r).2) hx
  rw [es, e]
  have hout : ∃ n : Int, (((s.ls L).deal a r v).send 0 (if v ∈ (s.ls L).here then 3 else 4) a r).2 = [mesg L n 0 (if v ∈ (s.ls L).here then 3 else 4) a r 0] := by
   unfold Len.send Len.deal
   dsimp only
   split
   ·exact ⟨(s.ls L).sent, by rw [hid]⟩
   ·exact ⟨(s.ls L).sent, by rw [hid]⟩
  obtain ⟨n, hout⟩ := hout
  refine ⟨V.1, fun T T' hj ht hO => ?_, ?_, fun q' hq' => ⟨q', by rw [V.2] at hq'; exact hq', Int.le_refl _⟩⟩
  ·rw [V.2]
   refine hj.wanted (L := L) ?_ fun k' f' t' h1 h2 => ht k' f' t' h1 fun e => h2 ⟨e.1, by rw [e.2.1, hf], by rw [e.2.2, hto]⟩
   have := hO _ (by rw [hout]; exact List.mem_singleton.2 rfl) _ 0 (dz _ _ _ (by split <;> omega))
   by_cases hv2 : v ∈ (s.ls L).here
   ·rw [if_pos hv2] at this; exact .inl this
   ·rw [if_neg hv2] at this; exact .inr this
  ·intro n hn
   rw [V.2, hout, qcost_one, mcost_dec (dz _ _ _ (by split <;> omega))]
   show phi n (s.view a r) + _ + 1 ≤ _
   by_cases hv2 : v ∈ (s.ls L).here
   ·rw [if_pos hv2]; simp [cost]; omega
   ·rw [if_neg hv2]; simp [cost]; omega
 ·subst hk2
  have es : s.takeL L m = { s with ls := upd s.ls L ((s.ls L).send 0 (if d.st = 1 then 4 else 3) a r).1, W := s.W ++ ((s.ls L).send 0 (if d.st = 1 then 4 else 3) a r).2 } := by unfold Lb.takeL; rw [e]
  have V := view_setL (s := s) hL ((s.ls L).send 0 (if d.st = 1 then 4 else 3) a r).1 (s.W ++ ((s.ls L).send 0 (if d.st = 1 then 4 else 3) a r).2) (a0 := a) (r0 := r) (e := d) (fun a' r' => by
   show at_ (s.ls L).L a' r' = _
   by_cases e : a' = a ∧ r' = r
   ·rw [if_pos e, e.1, e.2]; exact hs
   ·rw [if_neg e])
  rw [es, e]
  have hout : ((s.ls L).send 0 (if d.st = 1 then 4 else 3) a r).2 = [mesg L (s.ls L).sent 0 (if d.st = 1 then 4 else 3) a r 0] := by unfold Len.send; dsimp only; rw [hid]
  refine ⟨V.1, fun T T' hj ht hO => ?_, ?_, fun q' hq' => ⟨q', by rw [V.2] at hq'; exact hq', Int.le_refl _⟩⟩
  ·rw [V.2]
   refine hj.wanted (L := L) ?_ fun k' f' t' h1 h2 => ht k' f' t' h1 fun e => h2 ⟨e.1, by rw [e.2.1, hf], by rw [e.2.2, hto]⟩
   have := hO _ (by rw [hout]; exact List.mem_singleton.2 rfl) _ 0 (dz _ _ _ (by split <;> omega))
   by_cases hv2 : d.st = 1
   ·rw [if_pos hv2] at this; exact .inr this
   ·rw [if_neg hv2] at this; exact .inl this
  ·intro n hn
   rw [V.2, hout, qcost_one, mcost_dec (dz _ _ _ (by split <;> omega))]
   show phi n (s.view a r) + _ + 1 ≤ _
   by_cases hv2 : d.st = 1
   ·rw [if_pos hv2]; simp [cost]; omega
   ·rw [if_neg hv2]; simp [cost]; omega
 ·have ha' := ans_some ha
  have es : s.takeL L m = { s with ls := upd s.ls L (({ s.ls L with here := if d.st = 4 ∧ q = 5 then ins d.t (s.ls L).here else (s.ls L).here, L := setSt (s.ls L).L a r q } : Len).send a (kd q) a r).1, W := s.W ++ (({ s.ls L with here := if d.st = 4 ∧ q = 5 then ins d.t (s.ls L).here else (s.ls L).here, L := setSt (s.ls L).L a r q } : Len).send a (kd q) a r).2 } := by unfold Lb.takeL; rw [e]
  have V := view_setL (s := s) hL (({ s.ls L with here := if d.st = 4 ∧ q = 5 then ins d.t (s.ls L).here else (s.ls L).here, L := setSt (s.ls L).L a r q } : Len).send a (kd q) a r).1 (s.W ++ (({ s.ls L with here := if d.st = 4 ∧ q = 5 then ins d.t (s.ls L).here else (s.ls L).here, L := setSt (s.ls L).L a r q } : Len).send a (kd q) a r).2) (a0 := a) (r0 := r) (e := { d with st := q }) (fun a' r' => by
   show at_ (setSt (s.ls L).L a r q) a' r' = _
   rw [at_setStP]
   have hdd := at_some hs
   by_cases e : a' = a ∧ r' = r
   ·rw [if_pos e, e.1, e.2, hs, Option.map_some, if_pos (hit_iffP.2 hdd.2)]
   ·rw [if_neg e]
    cases h9 : at_ (s.ls L).L a' r' with
    | none => rfl
    | some d' =>
     have hd' := at_some h9
     rw [Option.map_some, if_neg (fun h => e (by have := hit_iffP.1 h; exact ⟨hd'.2.1.symm.trans this.1, hd'.2.2.symm.trans this.2⟩))])
  rw [es, e]
  have hout : (({ s.ls L with here := if d.st = 4 ∧ q = 5 then ins d.t (s.ls L).here else (s.ls L).here, L := setSt (s.ls L).L a r q } : Len).send a (kd q) a r).2 = [mesg L (s.ls L).sent a (kd q) a r 0] := by unfold Len.send; dsimp only; rw [hid]
  have hkd : -100 ≤ kd q ∧ kd q ≤ 100 := by rcases ha' with h' | h' | h' <;> (rw [h'.2.2]; decide)
  refine ⟨V.1, fun T T' hj ht hO => ?_, ?_, fun q' hq' => ⟨q', by rw [V.2] at hq'; exact hq', Int.le_refl _⟩⟩
  ·rw [V.2]
   exact hj.answered (L := L) ha (hO _ (by rw [hout]; exact List.mem_singleton.2 rfl) _ 0 (dz _ _ _ hkd)) fun k' f' t' h1 h2 => ht k' f' t' h1 fun e => h2 ⟨e.1, by rw [e.2.1, hf], by rw [e.2.2, hto]⟩
  ·intro n hn
   rw [V.2, hout, qcost_one, mcost_dec (dz _ _ _ hkd)]
   show phi n (s.view a r) + _ + 1 ≤ _
   rcases ha' with ⟨e1, e2, e3⟩ | ⟨e1, e2, e3⟩ | ⟨e1, e2, e3⟩ <;> subst e1 e2 e3 <;> simp [cost, kd] <;> omega
end
end Go.Proofs.YtdojgbpaheadnaaGreat

/- Liveness, plainly: a message is delivered; a round. -/
namespace Go.Proofs.YtdojgbpaheadnaaGreat

theorem takeA_ign {x : Asr} {m : Msg} {k a r v : Int} (hd : dec m.text = some (k, a, r, v)) (hk : stp k = none) : x.take m = (x, []) := by
 rcases takeA_out x m hd with ⟨e, -⟩ | ⟨_, _, q, p, st, z, _, hs, _⟩
 ·exact e
 ·rw [hk] at hs; cases hs
theorem takeL_ign {x : Len} {m : Msg} {k a r v : Int} (hd : dec m.text = some (k, a, r, v)) (hk : ans k = none) (h2 : k ≠ 2) : x.take m = (x, []) := by
 rcases takeL_out x m hd with ⟨e, -⟩ | ⟨_, h, _⟩ | ⟨d, _, h, _⟩ | ⟨d, p, q, _, _, h, _⟩
 ·exact e
 ·exact absurd h h2
 ·exact absurd h h2
 ·rw [hk] at h; cases h
theorem view_W (s : Lb) (W : List Msg) : ({ s with W := W } : Lb).view = s.view := rfl
section
variable {s : Lb} {m : Msg}
theorem vm_kind (h : GI s) {k a r v : Int} (hv : MV (s.view a r) a k v m.frm m.to) : (k = 1 ∨ k = 3 ∨ k = 4 → m.to = 0) ∧ (k = 5 ∨ k = 6 ∨ k = 8 ∨ k = 10 ∨ k = 12 → m.to = a ∧ IsA a) ∧ (k = 2 ∨ k = 7 ∨ k = 9 ∨ k = 11 → IsL m.to) := by
 have hB : k = 1 ∨ k = 3 ∨ k = 4 → m.to = 0 := fun e => by
  rcases e with e | e | e
  ·exact (hv.ask e).2.1
  ·exact (hv.yes e).1
  ·exact (hv.no e).1
 have hA : k = 5 ∨ k = 6 ∨ k = 8 ∨ k = 10 ∨ k = 12 → m.to = a ∧ IsA a := fun e => by
  have hto : m.to = a := by
   rcases e with e | e | e | e | e
   ·exact (hv.granted e).2.1
   ·exact (hv.failed e).2.1
   ·exact (hv.shipped e).1
   ·exact (hv.lent e).1
   ·exact (hv.closed e).1
  have hq : ∃ q, (s.view a r).q = some q := by
   have ofc : ∀ c, (s.view a r).c = some c → ∃ q, (s.view a r).q = some q := fun c hc => by obtain ⟨q, hq, -⟩ := (h.di a r).c_q c hc; exact ⟨q, hq⟩
   have ofd : ∀ L e, (s.view a r).d L = some e → ∃ q, (s.view a r).q = some q := fun L e he => by obtain ⟨⟨c, hc, -⟩, -⟩ := (h.di a r).d_c L e he; exact ofc c hc
   rcases e with e | e | e | e | e
   ·obtain ⟨-, -, c, hc, -⟩ := hv.granted e; exact ofc c hc
   ·obtain ⟨-, -, c, hc, -⟩ := hv.failed e; exact ofc c hc
   ·obtain ⟨-, d, hd, -⟩ := hv.shipped e; exact ofd _ d hd
   ·obtain ⟨-, d, hd, -⟩ := hv.lent e; exact ofd _ d hd
   ·obtain ⟨-, d, hd, -⟩ := hv.closed e; exact ofd _ d hd
  obtain ⟨q, hq⟩ := hq
  exact ⟨hto, (h.rg a r q hq).1⟩
 have hL : k = 2 ∨ k = 7 ∨ k = 9 ∨ k = 11 → IsL m.to := fun e => by
  have ofd : ∀ L e, (s.view a r).d L = some e → IsL L := fun L e he => by
   unfold Lb.view at he; dsimp only at he
   by_cases hL : IsL L
   ·exact hL
   ·rw [if_neg hL] at he; cases he
  have ofq : ∀ q, (s.view a r).q = some q → q.l = m.to → 2 ≤ q.st → q.st ≤ 6 → IsL m.to := fun q hq e1 e2 e3 => by
   obtain ⟨e, he, -⟩ := (h.di a r).lend hq e2 e3
   rw [e1] at he; exact ofd _ e he
  rcases e with e | e | e | e
  ·obtain ⟨-, c, hc, -, hh⟩ := hv.want e
   rcases hh with hh | ⟨e', he', -⟩
   ·exact (h.lf a r c hc).1 _ (List.mem_of_mem_head? hh)
   ·exact ofd _ e' he'
  ·obtain ⟨-, q, hq, e1, e2, e3⟩ := hv.accept e; exact ofq q hq e1 (by omega) e3
  ·obtain ⟨-, q, hq, e1, e2, e3⟩ := hv.got e; exact ofq q hq e1 (by omega) e3
  ·obtain ⟨-, q, hq, e1, e2, e3⟩ := hv.back e; exact ofq q hq e1 (by omega) e3
 exact ⟨hB, hA, hL⟩
theorem vm_to (h : GI s) (hm : Vm s m) : 0 ≤ m.to ∧ m.to < 5 := by
 obtain ⟨k, a, r, v, hd, hv⟩ := hm
 obtain ⟨hB, hA, hL⟩ := vm_kind h hv
 have hk := hv.rng
 have hk' : (k = 1 ∨ k = 3 ∨ k = 4) ∨ (k = 5 ∨ k = 6 ∨ k = 8 ∨ k = 10 ∨ k = 12) ∨ (k = 2 ∨ k = 7 ∨ k = 9 ∨ k = 11) := by omega
 unfold IsA at hA
 unfold IsL at hL
 rcases hk' with e | e | e
 ·have := hB e; omega
 ·have := hA e; omega
 ·have := hL e; omega
theorem del_step (h : GI s) (hm : Vm s m) : ∃ k a r v, dec m.text = some (k, a, r, v) ∧ Sp s (s.del m) m (s.delMs m) k a r := by
 obtain ⟨k, a, r, v, hd, hv⟩ := hm
 refine ⟨k, a, r, v, hd, ?_⟩
 obtain ⟨hB, hA, hL⟩ := vm_kind h hv
 have hk := hv.rng
 have hk' : (k = 1 ∨ k = 3 ∨ k = 4) ∨ (k = 5 ∨ k = 6 ∨ k = 8 ∨ k = 10 ∨ k = 12) ∨ (k = 2 ∨ k = 7 ∨ k = 9 ∨ k = 11) := by omega
 have sn : (k = 2 ∨ k = 7 ∨ k = 9 ∨ k = 11) → stp k = none := fun e => by rcases e with rfl | rfl | rfl | rfl <;> decide
 have an : (k = 5 ∨ k = 6 ∨ k = 8 ∨ k = 10 ∨ k = 12) → ans k = none := fun e => by rcases e with rfl | rfl | rfl | rfl | rfl <;> decide
 rcases hk' with e | e | e
 ·have e1 : s.del m = s.takeB m := by unfold Lb.del; rw [if_pos (hB e)]
  have e2 : s.delMs m = (s.b.take m).2 := by unfold Lb.delMs; rw [if_pos (hB e)]
  rw [e1, e2]
  exact dlB h hd hv e
 ·obtain ⟨hto, ha⟩ := hA e
  have sp := dlA h ha hd hv e
  rcases ha with rfl | rfl
  ·have ig := takeL_ign (x := (s.ls 1)) hd (an e) (by omega)
   have e1 : s.del m = s.takeA 1 m := by
    unfold Lb.del; rw [if_neg (by omega), if_pos hto]
    show ({ s.takeA 1 m with ls := upd s.ls 1 ((s.ls 1).take m).1, W := (s.takeA 1 m).W ++ ((s.ls 1).take m).2 } : Lb) = _
    rw [ig]; dsimp only; rw [upd_idP, List.append_nil]; rfl
   have e2 : s.delMs m = ((s.as 1).take m).2 := by unfold Lb.delMs; rw [if_neg (by omega), if_pos hto, ig, List.append_nil]
   rw [e1, e2]; exact sp
  ·have e1 : s.del m = s.takeA 2 m := by unfold Lb.del; rw [if_neg (by omega), if_neg (by omega), if_pos hto]
   have e2 : s.delMs m = ((s.as 2).take m).2 := by unfold Lb.delMs; rw [if_neg (by omega), if_neg (by omega), if_pos hto]
   rw [e1, e2]; exact sp
 ·have hl := hL e
  have sp := dlL h hl rfl hd hv e
  rcases hl with h3 | h4 | h1
  ·rw [h3] at sp
   have e1 : s.del m = s.takeL 3 m := by unfold Lb.del; rw [if_neg (by omega), if_neg (by omega), if_neg (by omega), if_pos h3]
   have e2 : s.delMs m = ((s.ls 3).take m).2 := by unfold Lb.delMs; rw [if_neg (by omega), if_neg (by omega), if_neg (by omega), if_pos h3]
   rw [e1, e2]; exact sp
  ·rw [h4] at sp
   have e1 : s.del m = s.takeL 4 m := by unfold Lb.del; rw [if_neg (by omega), if_neg (by omega), if_neg (by omega), if_neg (by omega), if_pos h4]
   have e2 : s.delMs m = ((s.ls 4).take m).2 := by unfold Lb.delMs; rw [if_neg (by omega), if_neg (by omega), if_neg (by omega), if_neg (by omega), if_pos h4]
   rw [e1, e2]; exact sp
  ·rw [h1] at sp
   have ig := takeA_ign (x := (s.as 1)) hd (sn e)
   have e0 : s.takeA 1 m = s := by unfold Lb.takeA; rw [ig]; dsimp only; rw [upd_idP, List.append_nil]
   have e1 : s.del m = s.takeL 1 m := by unfold Lb.del; rw [if_neg (by omega), if_pos h1, e0]
   have e2 : s.delMs m = ((s.ls 1).take m).2 := by unfold Lb.delMs; rw [if_neg (by omega), if_pos h1, ig]; rfl
   rw [e1, e2]; exact sp
end
def JS (s : Lb) (Q : List Msg) : Prop := ∀ a r, JD (s.view a r) a (Tk Q a r)
def pairs : List (Int × Int) := [(1, 1), (1, 2), (1, 3), (1, 4), (1, 5), (1, 6), (2, 1), (2, 2), (2, 3), (2, 4), (2, 5), (2, 6)]
def pot (n : Nat) (s : Lb) : Nat := (pairs.map fun p => phi n (s.view p.1 p.2)).sum
theorem sum_one {α : Type} [DecidableEq α] {f g : α → Nat} {x : α} {n m : Nat} : ∀ {l : List α}, l.Nodup → x ∈ l → (∀ y ∈ l, y ≠ x → f y = g y) → f x + n ≤ g x + m → (l.map f).sum + n ≤ (l.map g).sum + m
 | y :: l, hn, hx, he, h => by
  rw [List.map_cons, List.map_cons, List.sum_cons, List.sum_cons]
  rw [List.nodup_cons] at hn
  by_cases e : y = x
  ·subst e
   have : l.map f = l.map g := List.map_congr_left fun z hz => he z (List.mem_cons_of_mem _ hz) fun e => hn.1 (e ▸ hz)
   rw [this]; omega
  ·have hx' : x ∈ l := (List.mem_cons.1 hx).resolve_left fun h => e h.symm
   have := sum_one hn.2 hx' (fun z hz hne => he z (List.mem_cons_of_mem _ hz) hne) h
   rw [he y (by simp) e]; omega
theorem pairs_mem {a r : Int} (ha : IsA a) (h1 : 1 ≤ r) (h6 : r ≤ 6) : (a, r) ∈ pairs := by
 have : r = 1 ∨ r = 2 ∨ r = 3 ∨ r = 4 ∨ r = 5 ∨ r = 6 := by omega
 rcases ha with rfl | rfl <;> rcases this with rfl | rfl | rfl | rfl | rfl | rfl <;> decide
theorem pot_le {s : Lb} (h : GI s) : pot 1 s ≤ 216 := by
 have : ∀ l : List (Int × Int), (l.map fun p => phi 1 (s.view p.1 p.2)).sum ≤ 18 * l.length := fun l => by
  induction l with
  | nil => simp
  | cons p l ih =>
   rw [List.map_cons, List.sum_cons, List.length_cons]
   have := phi_le (n := 1) (x := s.view p.1 p.2) (.inl rfl) fun c hc => (h.lf p.1 p.2 c hc).2
   omega
 exact this pairs
theorem qcost_perm (n : Nat) {P Q : List Msg} (h : P.Perm Q) : qcost n P = qcost n Q := (h.map (mcost n)).sum_nat
theorem Tk.perm {P Q : List Msg} (h : P.Perm Q) {a r k f t : Int} (ht : Tk P a r k f t) : Tk Q a r k f t := by
 obtain ⟨m, h1, h2⟩ := ht; exact ⟨m, h.mem_iff.1 h1, h2⟩
theorem JS.perm {s : Lb} {P Q : List Msg} (h : JS s P) (hp : P.Perm Q) : JS s Q := fun a r => (h a r).mono fun _ _ _ => Tk.perm hp
def Far (n : Int) (s : Lb) : Prop := ∀ a r q, (s.view a r).q = some q → n ≤ q.st
theorem JS.del {s : Lb} {m : Msg} {R : List Msg} (h : GI s) (hm : Vm s m) (hj : JS s (R ++ [m])) : JS (s.del m) (R ++ s.delMs m) ∧ (∀ n, n = 1 ∨ n = 2 → pot n (s.del m) + n * qcost n (s.delMs m) + 1 ≤ pot n s + mcost n m) ∧ ∀ n, Far n s → Far n (s.del m) := by
 obtain ⟨k, a, r, v, hd, sp⟩ := del_step h hm
 have hq : ∃ q, (s.view a r).q = some q := by
  obtain ⟨k', a', r', v', hd', hv⟩ := hm
  rw [hd] at hd'
  injection hd' with e
  injection e with e1 e
  injection e with e2 e
  injection e with e3 e4
  subst e1 e2 e3 e4
  have ofc : ∀ c, (s.view a r).c = some c → ∃ q, (s.view a r).q = some q := fun c hc => by obtain ⟨q, hq, -⟩ := (h.di a r).c_q c hc; exact ⟨q, hq⟩
  have ofd : ∀ L e, (s.view a r).d L = some e → ∃ q, (s.view a r).q = some q := fun L e he => by obtain ⟨⟨c, hc, -⟩, -⟩ := (h.di a r).d_c L e he; exact ofc c hc
  have hk := hv.rng
  have : k = 1 ∨ k = 2 ∨ k = 3 ∨ k = 4 ∨ k = 5 ∨ k = 6 ∨ k = 7 ∨ k = 8 ∨ k = 9 ∨ k = 10 ∨ k = 11 ∨ k = 12 := by omega
  rcases this with e | e | e | e | e | e | e | e | e | e | e | e
  ·obtain ⟨-, -, q, hq, -⟩ := hv.ask e; exact ⟨q, hq⟩
  ·obtain ⟨-, c, hc, -⟩ := hv.want e; exact ofc c hc
  ·obtain ⟨-, d, hd, -⟩ := hv.yes e; exact ofd _ d hd
  ·obtain ⟨-, d, hd, -⟩ := hv.no e; exact ofd _ d hd
  ·obtain ⟨-, -, c, hc, -⟩ := hv.granted e; exact ofc c hc
  ·obtain ⟨-, -, c, hc, -⟩ := hv.failed e; exact ofc c hc
  ·obtain ⟨-, q, hq, -⟩ := hv.accept e; exact ⟨q, hq⟩
  ·obtain ⟨-, d, hd, -⟩ := hv.shipped e; exact ofd _ d hd
  ·obtain ⟨-, q, hq, -⟩ := hv.got e; exact ⟨q, hq⟩
  ·obtain ⟨-, d, hd, -⟩ := hv.lent e; exact ofd _ d hd
  ·obtain ⟨-, q, hq, -⟩ := hv.back e; exact ⟨q, hq⟩
  ·obtain ⟨-, d, hd, -⟩ := hv.closed e; exact ofd _ d hd
 obtain ⟨q, hq⟩ := hq
 have hrg := h.rg a r q hq
 refine ⟨fun a' r' => ?_, fun n hn => ?_, fun n hn a' r' q' hq' => ?_⟩
 ·by_cases e : a' = a ∧ r' = r
  ·obtain ⟨rfl, rfl⟩ := e
   refine sp.own _ _ (hj a' r') (fun k' f t ht hne => ?_) fun x hx k' v' hxd => ⟨x, List.mem_append.2 (.inr hx), ⟨v', hxd⟩, rfl, rfl⟩
   obtain ⟨x, hx, ⟨v', hxd⟩, e1, e2⟩ := ht
   rcases List.mem_append.1 hx with hx | hx
   ·exact ⟨x, List.mem_append.2 (.inl hx), ⟨v', hxd⟩, e1, e2⟩
   ·have hx := List.mem_singleton.1 hx
    subst hx
    rw [hd] at hxd
    injection hxd with e3
    injection e3 with e3 _
    exact absurd ⟨e3.symm, e1.symm, e2.symm⟩ hne
  ·rw [sp.other a' r' e]
   refine (hj a' r').mono fun k' f t ht => ?_
   obtain ⟨x, hx, ⟨v', hxd⟩, e1, e2⟩ := ht
   rcases List.mem_append.1 hx with hx | hx
   ·exact ⟨x, List.mem_append.2 (.inl hx), ⟨v', hxd⟩, e1, e2⟩
   ·have hx := List.mem_singleton.1 hx
    subst hx
    rw [hd] at hxd
    injection hxd with e3
    injection e3 with _ e3
    injection e3 with e4 e3
    injection e3 with e5 _
    exact absurd ⟨e4.symm, e5.symm⟩ e
 ·rw [mcost_dec hd]
  unfold pot
  have := sum_one (f := fun p : Int × Int => phi n ((s.del m).view p.1 p.2)) (g := fun p => phi n (s.view p.1 p.2)) (x := (a, r)) (n := n * qcost n (s.delMs m) + 1) (m := cost n k) (l := pairs) (by decide) (pairs_mem hrg.1 hrg.2.1 hrg.2.2.1)
   (fun y _ hne => by rw [sp.other y.1 y.2 fun e => hne (Prod.ext e.1 e.2)]) (by have := sp.pot n hn; dsimp only; omega)
  omega
 ·by_cases e : a' = a ∧ r' = r
  ·obtain ⟨rfl, rfl⟩ := e
   obtain ⟨q0, h0, h1⟩ := sp.st q' hq'
   have := hn _ _ q0 h0
   omega
  ·rw [sp.other a' r' e] at hq'
   exact hn _ _ q' hq'
theorem JS.end_ {s : Lb} (h : JS s []) {a r : Int} {q : Rq} (hq : (s.view a r).q = some q) : q.st ≠ 1 ∧ q.st ≠ 2 ∧ q.st ≠ 3 ∧ q.st ≠ 5 :=
 ((h a r).mono (T' := fun _ _ _ => False) fun k f t ⟨m, hm, _⟩ => by cases hm).end_ hq
end Go.Proofs.YtdojgbpaheadnaaGreat
