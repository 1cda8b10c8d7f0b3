/- A statement whose order is open: one relation of what is listed, the frame and the world serves every order: each operation is met once. -/
import Derived.Test.YtpcmppamkgkdlaaSp
namespace Go.Proofs.Ytpcmppamkgkdlaa
open Go.RowKit
section
variable {P : Program} {md : Region.Mode}

def lowB (md : Region.Mode) (ops : Array Oper) : Bool := (List.range ops.size).all fun j => (ops[j]?).all fun o => o.after.all fun e => !Region.binds md e || decide (e.on < j)
theorem lowB_spec {ops : Array Oper} (h : lowB md ops = true) {j : Nat} {o : Oper} (ho : ops[j]? = some o) {e} (he : e ∈ o.after) (hb : Region.binds md e = true) : e.on < j := by
  have hj : j < ops.size := (Array.getElem?_eq_some_iff.1 ho).1
  have h1 := List.all_eq_true.1 h j (List.mem_range.2 hj)
  rw [ho] at h1
  simp only [Option.all_some] at h1
  have := Array.all_eq_true_iff_forall_mem.1 h1 e he
  simpa [hb] using this
def unl (L : Array Bool) : Nat → Nat
  | 0 => 0
  | n + 1 => unl L n + if L.getD n true = false then 1 else 0
theorem unl_set_ge {L : Array Bool} {i : Nat} : ∀ n, n ≤ i → unl (L.setIfInBounds i true) n = unl L n
  | 0, _ => rfl
  | n + 1, h => by rw [unl, unl, unl_set_ge n (by omega), getD_set_ne true (by omega)]
theorem unl_set {L : Array Bool} {i : Nat} (hi : L.getD i true = false) (hs : i < L.size) : ∀ n, i < n → unl (L.setIfInBounds i true) n + 1 = unl L n
  | 0, h => by omega
  | n + 1, h => by
    rw [unl, unl]
    by_cases e : i = n
    · subst e
      rw [unl_set_ge i (Nat.le_refl _), hi]
      simp [hs]
    · have := unl_set hi hs n (by omega)
      rw [getD_set_ne true e]
      omega
theorem unl_pos {L : Array Bool} {i : Nat} (hi : L.getD i true = false) : ∀ n, i < n → 0 < unl L n
  | 0, h => by omega
  | n + 1, h => by
    rw [unl]
    by_cases e : i = n
    · subst e; rw [hi]; simp
    · have := unl_pos hi n (by omega); omega
theorem all_of_ready {ops : Array Oper} (hl : lowB md ops = true) {L : Array Bool} (hr : Region.ready md ops L = []) (hs : L.size = ops.size) : ∀ i, i < ops.size → L.getD i true = true := by
  intro i
  induction i using Nat.strongRecOn with
  | _ i ih =>
    intro hi
    cases e : L.getD i true with
    | true => rfl
    | false =>
      have : i ∈ Region.ready md ops L := mem_ready.2 ⟨e, ops[i], by simp [hi], fun e' he hb => by
        have h1 := lowB_spec hl (j := i) (o := ops[i]) (by simp [hi]) he hb
        have := ih e'.on h1 (by omega)
        rw [← getD_tf (by omega)]; exact this⟩
      rw [hr] at this; cases this
/-- THE RULE. -/
theorem wpAnyH_inv {ops : Array Oper} {Q : Exit → Act → World → Prop} {S : World → Prop} (I : Array Bool → Act → World → Prop) (hl : lowB md ops = true) (hS : ∀ L a w, I L a w → S w)
    (step : ∀ L a w, I L a w → ∀ i o, ops[i]? = some o → L.getD i true = false → L.size = ops.size → (∀ e ∈ o.after, Region.binds md e = true → L.getD e.on false = true) →
      ∀ K : Act → World → Prop, (∀ a' w', I (L.setIfInBounds i true) a' w' → K a' w') → if Region.wanted o (yielded ops a.tmps) = true then Oper.wp P o a w K Q else K (a.put o.dst undef) w)
    (fin : ∀ L a w, I L a w → L.size = ops.size → (∀ i, i < ops.size → L.getD i true = true) → Q .normal a w) :
    ∀ (fuel : Nat) (L : Array Bool) (a : Act) (w : World), L.size = ops.size → unl L ops.size ≤ fuel → I L a w → wpAnyH P md ops Q S fuel L a w := by
  intro fuel
  induction fuel with
  | zero =>
    intro L a w hs hu hI
    have hr : Region.ready md ops L = [] := by
      rcases hr : Region.ready md ops L with _ | ⟨j, r⟩
      · rfl
      · have hj : j ∈ Region.ready md ops L := by rw [hr]; exact List.mem_cons_self ..
        obtain ⟨g1, o, g2, _⟩ := mem_ready.1 hj
        have := unl_pos g1 ops.size (Array.getElem?_eq_some_iff.1 g2).1
        omega
    exact ⟨hr, fin L a w hI hs (all_of_ready hl hr hs)⟩
  | succ fuel ih =>
    intro L a w hs hu hI
    refine ⟨fun hr => fin L a w hI hs (all_of_ready hl hr hs), fun i hi => ?_⟩
    obtain ⟨g1, o, g2, g3⟩ := mem_ready.1 hi
    have hio := (Array.getElem?_eq_some_iff.1 g2).1
    have hst := step L a w hI i o g2 g1 hs g3 (fun a' w' => S w' ∧ wpAnyH P md ops Q S fuel (L.setIfInBounds i true) a' w') fun a' w' hI' =>
      ⟨hS _ _ _ hI', ih _ a' w' (by simpa using hs) (by have := unl_set g1 (by omega) ops.size hio; omega) hI'⟩
    unfold wpOp
    rw [g2]
    dsimp only
    split
    · rename_i hw; rw [if_pos hw] at hst; exact .inl hst
    · rename_i hw; rw [if_neg hw] at hst; exact hst
end
end Go.Proofs.Ytpcmppamkgkdlaa
