/- A statement whose order is open, and whose last operations come last in a fixed order: the others are a statement of their own. -/
import Derived.Test.YtpdldbapagchfaaGreatDoorQ11
import Derived.Deep.RegionHeld
import Derived.Test.YtpdldbapagchfaaGreatDoorQ02
import Derived.Test.YtpdldbapagchfaaGreatDoorQ08
import Derived.Test.YtpdldbapagchfaaGreatDoorQ10
set_option linter.unusedVariables false
set_option linter.unusedSimpArgs false

namespace Go.Proofs.YtpdldbapagchfaaGreatDoor
open Go.RowKit
section
variable {P : Program}
theorem Oper.wp_exits {o : Oper} {a : Act} {w : World} {K : Act → World → Prop} {Q Q' : Exit → Act → World → Prop} (hp : ∀ c a w, Q' (.panic c) a w → Q (.panic c) a w) (ho : LetsOut Q' → LetsOut Q)
    (hh : o.wp P a w K Q') : o.wp P a w K Q := by
  unfold Oper.wp at *
  generalize (execOp a.eval o).run P w = r at *
  cases r with
  | ok n w' =>
    cases n <;> simp only [Oper.upon] at hh ⊢ <;>
      first
        | exact hh
        | exact Calls.mono hh (fun e w'' he => by cases e <;> first | exact hp _ _ _ he | exact ho he | exact he)
  | halt x w' => cases x <;> simp only [Oper.upon] at hh ⊢ <;> first | exact hp _ _ _ hh | exact hh
def spB (l : List Oper) (n : Nat) : Bool :=
  decide (n < l.length) && sinkT l n && headT l n && Region.seqB .any l.toArray (l.length - n) n (Array.replicate n true ++ Array.replicate (l.length - n) false)
theorem spOk {l : List Oper} {n : Nat} (h : spB l n = true) : TlOk l n := by
  simp only [spB, Bool.and_eq_true, decide_eq_true_eq] at h
  obtain ⟨⟨⟨h2, h4⟩, h5⟩, h7⟩ := h
  simp only [sinkT, Bool.and_eq_true] at h4
  refine ⟨h2, fun i hi => ?_, fun t ht htl => ?_, ?_, h7⟩
  · have := List.all_eq_true.1 h4.1 i (List.mem_range.2 hi)
    obtain ⟨j, hj, hh⟩ := List.any_eq_true.1 this
    simp only [Bool.and_eq_true, decide_eq_true_eq] at hh
    exact ⟨j, hh.1, by have := List.mem_range.1 hj; omega, hh.2⟩
  · have := List.all_eq_true.1 h4.2 t (List.mem_range.2 htl)
    simp only [Bool.or_eq_true, decide_eq_true_eq] at this
    rcases this with h | h
    · omega
    · exact h
  · intro j o hj ho
    have := List.all_eq_true.1 h5 j (List.mem_range.2 hj)
    rw [ho] at this
    simp only [Option.all_some, Bool.and_eq_true] at this
    obtain ⟨a1, a3⟩ := this
    refine ⟨fun e he hb => ?_, fun g b hg => ?_⟩
    · have := Array.all_eq_true_iff_forall_mem.1 a1 e he
      simpa [hb] using this
    · rw [hg] at a3; simpa using a3
theorem yielded_take {l : List Oper} {n g : Nat} {tmps : Array Value} (hg : g < n) : yielded (l.take n).toArray tmps g = yielded l.toArray tmps g := by
  unfold yielded
  simp only [List.getElem?_toArray, List.getElem?_take_of_lt hg]
theorem wanted_take {l : List Oper} {n : Nat} {o : Oper} {tmps : Array Value} (h : ∀ g b, o.guard = some (g, b) → g < n) : Region.wanted o (yielded (l.take n).toArray tmps) = Region.wanted o (yielded l.toArray tmps) := by
  unfold Region.wanted
  split
  · rfl
  · rename_i g b hg
    rw [yielded_take (h g b hg)]
theorem getD_tf {L : Array Bool} {i : Nat} (hi : i < L.size) : L.getD i true = L.getD i false := by simp [hi]
theorem ready_take {l : List Oper} {n : Nat} (ok : TlOk l n) {H L : Array Bool} (h1 : H.size = n) (h2 : L.size = l.length) (h : ∀ i, i < n → H.getD i true = L.getD i true) {i : Nat} (hi : i < n) :
    i ∈ Region.ready .any (l.take n).toArray H ↔ i ∈ Region.ready .any l.toArray L := by
  have hn := ok.hn
  have hF : ∀ j, j < n → H.getD j false = L.getD j false := fun j hj => by rw [← getD_tf (by omega), ← getD_tf (by omega), h j hj]
  constructor
  · intro hr
    obtain ⟨g1, o, g2, g3⟩ := mem_ready.1 hr
    have g2' : l[i]? = some o := by simpa [List.getElem?_take_of_lt hi] using g2
    refine mem_ready.2 ⟨by rw [← h i hi]; exact g1, o, by simpa using g2', fun e he hb => ?_⟩
    rw [← hF _ (by have := (ok.head i o hi g2').1 e he hb; omega)]
    exact g3 e he hb
  · intro hr
    obtain ⟨g1, o, g2, g3⟩ := mem_ready.1 hr
    have g2' : l[i]? = some o := by simpa using g2
    refine mem_ready.2 ⟨by rw [h i hi]; exact g1, o, by simpa [List.getElem?_take_of_lt hi] using g2', fun e he hb => ?_⟩
    rw [hF _ (by have := (ok.head i o hi g2').1 e he hb; omega)]
    exact g3 e he hb
theorem simS {l : List Oper} {n : Nat} {Q Q' : Exit → Act → World → Prop} (ok : TlOk l n) (hp : ∀ c a w, Q' (.panic c) a w → Q (.panic c) a w) (ho : LetsOut Q' → LetsOut Q)
    (hQ : ∀ a w, Q' .normal a w → wpList P l.toArray Q (l.drop n) a w) :
    ∀ (f : Nat) (H L : Array Bool) (a : Act) (w : World), H.size = n → L.size = l.length → (∀ i, i < n → H.getD i true = L.getD i true) → (∀ t, n ≤ t → t < l.length → L.getD t true = false) → Shut l L →
      wpAny P .any (l.take n).toArray Q' f H a w → wpAny P .any l.toArray Q (f + (l.length - n)) L a w := by
  have hn := ok.hn
  have fin : ∀ (L : Array Bool) (a : Act) (w : World), L.size = l.length → (¬ ∃ i, i < n ∧ L.getD i true = false) → (∀ t, n ≤ t → t < l.length → L.getD t true = false) → Q' .normal a w → wpAny P .any l.toArray Q (l.length - n) L a w := by
    intro L a w hsz hb htl hq
    have hL := listed_eq (Nat.le_of_lt hn) hsz (fun i hi e => hb ⟨i, hi, e⟩) htl
    have hdl : (l.drop n).length = l.length - n := by simp
    have := wpAny_of_seq (P := P) (md := .any) (Q' := Q) (l.drop n) n L a w (fun j => by simp [List.getElem?_drop]) (by rw [hdl]; exact hL ▸ ok.seq) (hQ a w hq)
    rwa [hdl] at this
  intro f
  induction f with
  | zero =>
    intro H L a w h1 h2 hHL htl hsh h
    by_cases hb : ∃ i, i < n ∧ L.getD i true = false
    · obtain ⟨i, hi, hun⟩ := hb
      obtain ⟨j, hj⟩ := ready_someT ok h2 i hi hun
      have hjn : j < n := by
        rcases Nat.lt_or_ge j n with h' | h'
        · exact h'
        · exact absurd hj (tail_notT ok hsh htl hi hun h')
      have := (ready_take ok h1 h2 hHL hjn).2 hj
      rw [h.1] at this; cases this
    · rw [Nat.zero_add]
      exact fin L a w h2 hb htl h.2
  | succ f ih =>
    intro H L a w h1 h2 hHL htl hsh h
    by_cases hb : ∃ i, i < n ∧ L.getD i true = false
    case neg =>
      have h0 : Region.ready .any (l.take n).toArray H = [] := by
        rcases hr : Region.ready .any (l.take n).toArray H with _ | ⟨j, r⟩
        · rfl
        · have hj : j ∈ Region.ready .any (l.take n).toArray H := by rw [hr]; exact List.mem_cons_self ..
          obtain ⟨g1, o, g2, _⟩ := mem_ready.1 hj
          have hjn : j < n := by
            have := (Array.getElem?_eq_some_iff.1 g2).1
            simp at this; omega
          exact absurd ⟨j, hjn, by rw [← hHL j hjn]; exact g1⟩ hb
      exact wpAny_up (by omega) (fin L a w h2 hb htl (h.1 h0))
    case pos =>
      obtain ⟨i0, hi0, hun0⟩ := hb
      rw [show f + 1 + (l.length - n) = (f + (l.length - n)) + 1 by omega]
      refine ⟨fun h0 => ?_, fun i hi => ?_⟩
      · obtain ⟨j, hj⟩ := ready_someT ok h2 i0 hi0 hun0
        rw [h0] at hj; cases hj
      have hin : i < n := by
        rcases Nat.lt_or_ge i n with h' | h'
        · exact h'
        · exact absurd hi (tail_notT ok hsh htl hi0 hun0 h')
      obtain ⟨hiu, o, hoa, _⟩ := mem_ready.1 hi
      have hol : l[i]? = some o := by simpa using hoa
      have hot : (l.take n).toArray[i]? = some o := by simpa [List.getElem?_take_of_lt hin] using hol
      have hc := h.2 i ((ready_take ok h1 h2 hHL hin).2 hi)
      have hK : ∀ a' w', wpAny P .any (l.take n).toArray Q' f (H.setIfInBounds i true) a' w' → wpAny P .any l.toArray Q (f + (l.length - n)) (L.setIfInBounds i true) a' w' := fun a' w' h' =>
        ih _ _ a' w' (by simpa using h1) (by simpa using h2) (fun j hj => by
          by_cases e : i = j
          · subst e; simp [h1, h2, hin, show i < l.length by omega]
          · rw [getD_set_ne true e, getD_set_ne true e]; exact hHL j hj)
          (fun t ht ht' => by rw [getD_set_ne true (by omega)]; exact htl t ht ht') (hsh.set hi) h'
      unfold wpOp at hc ⊢
      rw [hot] at hc
      rw [hoa]
      dsimp only at hc ⊢
      rw [wanted_take (fun g b hg => (ok.head i o hin hol).2 g b hg)] at hc
      split
      · rename_i hw
        rw [if_pos hw] at hc
        exact hc.imp (fun h' => Oper.wp_exits hp ho (Oper.wp_mono hK h')) (fun ⟨h', h''⟩ => ⟨h', ho h''⟩)
      · rename_i hw
        rw [if_neg hw] at hc
        exact hK _ _ hc
def endN (Q : Exit → Act → World → Prop) (R : Act → World → Prop) : Exit → Act → World → Prop
  | .normal, a, w => R a w
  | e, a, w => Q e a w
/-- THE REGION. n: the operations before the tail. -/
theorem wp_region_sp {id : Nat} {Q : Exit → Act → World → Prop} {a : Act} {w : World} {l : List Oper} (n : Nat) (S : World → Prop) (hm : P.follows .mixedOrders = true) (hB : spB l n = true)
    (h : wpAnyH P .any (l.take n).toArray (endN Q (fun a' w' => wpList P l.toArray Q (l.drop n) a' w')) S n (Array.replicate n false) a w.drew) :
    (Code.region id l.toArray true).wp P Q a w := by
  have ok := spOk hB
  have hn := ok.hn
  refine wp_region_any hm ?_
  have := simS (P := P) (Q := Q) (Q' := endN Q (fun a' w' => wpList P l.toArray Q (l.drop n) a' w')) ok (fun _ _ _ h => h) (fun ⟨a, w, h⟩ => ⟨a, w, h⟩) (fun _ _ h => h) n (Array.replicate n false) (Array.replicate l.length false) a w.drew
    (by simp) (by simp) (fun i hi => by simp [hi, show i < l.length by omega]) (fun t _ ht => by simp [ht]) (fun j o ho hj => by
      have hjl : j < l.length := (List.getElem?_eq_some_iff.1 ho).1
      simp [hjl] at hj) (wpAny_of_held _ _ _ _ h)
  rw [show n + (l.length - n) = l.length by omega] at this
  simpa using this
/-- One operation that comes up. -/
theorem held_step {ops : Array Oper} {Q : Exit → Act → World → Prop} {md : Region.Mode} {S : World → Prop} {fuel : Nat} {listed : Array Bool} {a : Act} {w : World} {i : Nat} {o : Oper} {rs : List Nat} (ho : ops[i]? = some o)
    (h : ∀ K' : Act → World → Prop, (∀ a w, S w → wpAnyH P md ops Q S fuel (listed.setIfInBounds i true) a w → K' a w) → if Region.wanted o (yielded ops a.tmps) = true then Oper.wp P o a w K' Q else K' (a.put o.dst undef) w)
    (hs : AllReadyH P md ops Q S fuel listed a w rs) : AllReadyH P md ops Q S fuel listed a w (i :: rs) :=
  AllReadyH.cons ho (fun K' hK => h K' (fun a w h1 h2 => hK.out a w h1 fun _ => h2)) hs
end
end Go.Proofs.YtpdldbapagchfaaGreatDoor

/- A statement whose order is open: one relation of what is listed, the frame and the world serves every order: each operation is met once. -/
namespace Go.Proofs.YtpdldbapagchfaaGreatDoor
open Go.RowKit
section
variable {P : Program} {md : Region.Mode}

def lowB (md : Region.Mode) (ops : Array Oper) : Bool := (List.range ops.size).all fun j => (ops[j]?).all fun o => o.after.all fun e => !Region.binds md e || decide (e.on < j)
theorem lowB_spec {ops : Array Oper} (h : lowB md ops = true) {j : Nat} {o : Oper} (ho : ops[j]? = some o) {e} (he : e ∈ o.after) (hb : Region.binds md e = true) : e.on < j := by
  have hj : j < ops.size := (Array.getElem?_eq_some_iff.1 ho).1
  have h1 := List.all_eq_true.1 h j (List.mem_range.2 hj)
  rw [ho] at h1
  simp only [Option.all_some] at h1
  have := Array.all_eq_true_iff_forall_mem.1 h1 e he
  simpa [hb] using this
def unl (L : Array Bool) : Nat → Nat
  | 0 => 0
  | n + 1 => unl L n + if L.getD n true = false then 1 else 0
theorem unl_set_ge {L : Array Bool} {i : Nat} : ∀ n, n ≤ i → unl (L.setIfInBounds i true) n = unl L n
  | 0, _ => rfl
  | n + 1, h => by rw [unl, unl, unl_set_ge n (by omega), getD_set_ne true (by omega)]
theorem unl_set {L : Array Bool} {i : Nat} (hi : L.getD i true = false) (hs : i < L.size) : ∀ n, i < n → unl (L.setIfInBounds i true) n + 1 = unl L n
  | 0, h => by omega
  | n + 1, h => by
    rw [unl, unl]
    by_cases e : i = n
    · subst e
      rw [unl_set_ge i (Nat.le_refl _), hi]
      simp [hs]
    · have := unl_set hi hs n (by omega)
      rw [getD_set_ne true e]
      omega
theorem unl_pos {L : Array Bool} {i : Nat} (hi : L.getD i true = false) : ∀ n, i < n → 0 < unl L n
  | 0, h => by omega
  | n + 1, h => by
    rw [unl]
    by_cases e : i = n
    · subst e; rw [hi]; simp
    · have := unl_pos hi n (by omega); omega
theorem all_of_ready {ops : Array Oper} (hl : lowB md ops = true) {L : Array Bool} (hr : Region.ready md ops L = []) (hs : L.size = ops.size) : ∀ i, i < ops.size → L.getD i true = true := by
  intro i
  induction i using Nat.strongRecOn with
  | _ i ih =>
    intro hi
    cases e : L.getD i true with
    | true => rfl
    | false =>
      have : i ∈ Region.ready md ops L := mem_ready.2 ⟨e, ops[i], by simp [hi], fun e' he hb => by
        have h1 := lowB_spec hl (j := i) (o := ops[i]) (by simp [hi]) he hb
        have := ih e'.on h1 (by omega)
        rw [← getD_tf (by omega)]; exact this⟩
      rw [hr] at this; cases this
/-- THE RULE. -/
theorem wpAnyH_inv {ops : Array Oper} {Q : Exit → Act → World → Prop} {S : World → Prop} (I : Array Bool → Act → World → Prop) (hl : lowB md ops = true) (hS : ∀ L a w, I L a w → S w)
    (step : ∀ L a w, I L a w → ∀ i o, ops[i]? = some o → L.getD i true = false → L.size = ops.size → (∀ e ∈ o.after, Region.binds md e = true → L.getD e.on false = true) →
      ∀ K : Act → World → Prop, (∀ a' w', I (L.setIfInBounds i true) a' w' → K a' w') → if Region.wanted o (yielded ops a.tmps) = true then Oper.wp P o a w K Q else K (a.put o.dst undef) w)
    (fin : ∀ L a w, I L a w → L.size = ops.size → (∀ i, i < ops.size → L.getD i true = true) → Q .normal a w) :
    ∀ (fuel : Nat) (L : Array Bool) (a : Act) (w : World), L.size = ops.size → unl L ops.size ≤ fuel → I L a w → wpAnyH P md ops Q S fuel L a w := by
  intro fuel
  induction fuel with
  | zero =>
    intro L a w hs hu hI
    have hr : Region.ready md ops L = [] := by
      rcases hr : Region.ready md ops L with _ | ⟨j, r⟩
      · rfl
      · have hj : j ∈ Region.ready md ops L := by rw [hr]; exact List.mem_cons_self ..
        obtain ⟨g1, o, g2, _⟩ := mem_ready.1 hj
        have := unl_pos g1 ops.size (Array.getElem?_eq_some_iff.1 g2).1
        omega
    exact ⟨hr, fin L a w hI hs (all_of_ready hl hr hs)⟩
  | succ fuel ih =>
    intro L a w hs hu hI
    refine ⟨fun hr => fin L a w hI hs (all_of_ready hl hr hs), fun i hi => ?_⟩
    obtain ⟨g1, o, g2, g3⟩ := mem_ready.1 hi
    have hio := (Array.getElem?_eq_some_iff.1 g2).1
    have hst := step L a w hI i o g2 g1 hs g3 (fun a' w' => S w' ∧ wpAnyH P md ops Q S fuel (L.setIfInBounds i true) a' w') fun a' w' hI' =>
      ⟨hS _ _ _ hI', ih _ a' w' (by simpa using hs) (by have := unl_set g1 (by omega) ops.size hio; omega) hI'⟩
    unfold wpOp
    rw [g2]
    dsimp only
    split
    · rename_i hw; rw [if_pos hw] at hst; exact .inl hst
    · rename_i hw; rw [if_neg hw] at hst; exact hst
end
end Go.Proofs.YtpdldbapagchfaaGreatDoor

/- A statement whose order is open, shown apart from what follows it. -/
namespace Go.Proofs.YtpdldbapagchfaaGreatDoor
open Go.RowKit

theorem wpAnyH_inv0 {P : Program} {md : Region.Mode} {ops : Array Oper} {Q : Exit → Act → World → Prop} {S : World → Prop} (I : Act → Array Bool → Act → World → Prop) {fuel : Nat} {L0 : Array Bool} {a0 : Act} {w0 : World} (hl : lowB md ops = true)
    (hs : L0.size = ops.size) (hu : (unl L0 ops.size).ble fuel = true) (h0 : I a0 L0 a0 w0) (hS : ∀ L a w, I a0 L a w → S w)
    (step : ∀ L a w, I a0 L a w → ∀ i o, ops[i]? = some o → L.getD i true = false → L.size = ops.size → (∀ e ∈ o.after, Region.binds md e = true → L.getD e.on false = true) →
      ∀ K : Act → World → Prop, (∀ a' w', I a0 (L.setIfInBounds i true) a' w' → K a' w') → if Region.wanted o (yielded ops a.tmps) = true then Oper.wp P o a w K Q else K (a.put o.dst undef) w)
    (fin : ∀ L a w, I a0 L a w → L.size = ops.size → (∀ i, i < ops.size → L.getD i true = true) → Q .normal a w) : wpAnyH P md ops Q S fuel L0 a0 w0 :=
  wpAnyH_inv (I a0) hl hS step fin fuel L0 a0 w0 hs (Nat.le_of_ble_eq_true hu) h0
/-- The end of a statement, and nothing else. -/
def only (R : Act → World → Prop) (e : Exit) (a : Act) (w : World) : Prop := e = .normal ∧ R a w
theorem only_panic {R : Act → World → Prop} {c : List PanicEntry} {a a' : Act} {w w' : World} (h : only R (.panic c) a w) : only R (.panic c) a' w' := nomatch h.1
theorem wpAnyH_mono {P : Program} {md : Region.Mode} {ops : Array Oper} {Q Q' : Exit → Act → World → Prop} {S : World → Prop} (hp : ∀ c a w, Q' (.panic c) a w → Q (.panic c) a w) (ho : LetsOut Q' → LetsOut Q) (hn : ∀ a w, Q' .normal a w → Q .normal a w) :
    ∀ (fuel : Nat) (L : Array Bool) (a : Act) (w : World), wpAnyH P md ops Q' S fuel L a w → wpAnyH P md ops Q S fuel L a w := by
  intro fuel
  induction fuel with
  | zero => intro L a w h; exact ⟨h.1, hn _ _ h.2⟩
  | succ fuel ih =>
    intro L a w h
    refine ⟨fun e => hn _ _ (h.1 e), fun i hi => ?_⟩
    have hc := h.2 i hi
    have hK : ∀ a' w', (S w' ∧ wpAnyH P md ops Q' S fuel (L.setIfInBounds i true) a' w') → (S w' ∧ wpAnyH P md ops Q S fuel (L.setIfInBounds i true) a' w') := fun a' w' h' => ⟨h'.1, ih _ _ _ h'.2⟩
    unfold wpOp at hc ⊢
    split at hc
    · exact hK _ _ hc
    · split
      · rename_i hw
        rw [if_pos hw] at hc
        exact hc.imp (fun h' => Oper.wp_exits hp ho (Oper.wp_mono hK h')) (fun ⟨h', h''⟩ => ⟨h', ho h''⟩)
      · rename_i hw
        rw [if_neg hw] at hc
        exact hK _ _ hc
/-- A statement whose order is open is shown apart from what follows. -/
theorem wpAnyH_genI {P : Program} {md : Region.Mode} {ops : Array Oper} {Q : Exit → Act → World → Prop} {S : World → Prop} (I : Act → Array Bool → Act → World → Prop) (n : Nat) {fuel : Nat} {L : Array Bool} {a : Act} {w : World} {a0 : Act}
    (take : ∀ R : Act → World → Prop, (∀ M a' w', I a0 M a' w' → (∀ j, j < n → M.getD j false = true) → R a' w') → wpAnyH P md ops (only R) S fuel L a w)
    (rest : ∀ M a' w', I a0 M a' w' → (∀ j, j < n → M.getD j false = true) → Q .normal a' w') : wpAnyH P md ops Q S fuel L a w :=
  wpAnyH_mono (fun _ _ _ h => nomatch h.1) (fun ⟨_, _, h⟩ => nomatch h.1) (fun _ _ h => h.2) fuel L a w (take (Q .normal) rest)
theorem lset {L : Array Bool} {i : Nat} (h : i < L.size) : (fun j => (L.setIfInBounds i true).getD j false) = fun j => decide (i = j) || L.getD j false := funext fun j => by
  by_cases e : i = j
  · subst e; simp [h]
  · rw [getD_set_ne false e]; simp [e]
/-- The operations before the tail are shown apart, by what they leave. -/
theorem wpAnyH_apart {P : Program} {md : Region.Mode} {ops : Array Oper} {Q : Exit → Act → World → Prop} {S : World → Prop} {fuel : Nat} {L : Array Bool} {a : Act} {w : World} {a1 : Act} (F : World → Prop)
    (take : ∀ R : Act → World → Prop, (∀ w', F w' → R a1 w') → wpAnyH P md ops (only R) S fuel L a w) (rest : ∀ w', F w' → Q .normal a1 w') : wpAnyH P md ops Q S fuel L a w :=
  wpAnyH_mono (fun _ _ _ h => nomatch h.1) (fun ⟨_, _, h⟩ => nomatch h.1) (fun _ _ h => h.2) fuel L a w (take (Q .normal) rest)
/-- .. where the frame bears a number that is not known ahead. -/
theorem wpAnyH_apart1 {P : Program} {md : Region.Mode} {ops : Array Oper} {Q : Exit → Act → World → Prop} {S : World → Prop} {fuel : Nat} {L : Array Bool} {a : Act} {w : World} {a1 : Nat → Act} (F : Nat → World → Prop)
    (take : ∀ R : Act → World → Prop, (∀ g w', F g w' → R (a1 g) w') → wpAnyH P md ops (only R) S fuel L a w) (rest : ∀ g w', F g w' → Q .normal (a1 g) w') : wpAnyH P md ops Q S fuel L a w :=
  wpAnyH_mono (fun _ _ _ h => nomatch h.1) (fun ⟨_, _, h⟩ => nomatch h.1) (fun _ _ h => h.2) fuel L a w (take (Q .normal) rest)
/-- .. or a value. -/
theorem wpAnyH_apartV {P : Program} {md : Region.Mode} {ops : Array Oper} {Q : Exit → Act → World → Prop} {S : World → Prop} {fuel : Nat} {L : Array Bool} {a : Act} {w : World} {a1 : Value → Act} (F : Value → World → Prop)
    (take : ∀ R : Act → World → Prop, (∀ g w', F g w' → R (a1 g) w') → wpAnyH P md ops (only R) S fuel L a w) (rest : ∀ g w', F g w' → Q .normal (a1 g) w') : wpAnyH P md ops Q S fuel L a w :=
  wpAnyH_mono (fun _ _ _ h => nomatch h.1) (fun ⟨_, _, h⟩ => nomatch h.1) (fun _ _ h => h.2) fuel L a w (take (Q .normal) rest)
/-- A whole struct is read, first, in a statement whose order is open. -/
theorem yields_row {P : Program} {ops : Array Oper} {S : World → Prop} {o : Oper} {a : Act} {T : TypeId} {g : Nat} {cells : Array Value} {d : TypeDesc} (x : Operand) (hgd : Region.wanted o (yielded ops a.tmps) = true) (ho : o.op = .load T x)
    (hx : a.eval x = .pointer (some ⟨g, 0, none⟩)) (h : ∀ W, S W → Blk W g cells T) (hu : P.underlying T = some d) (hd : (match d with | .struct _ | .array _ _ => true | _ => false) = true) (hi : (P.info? T).map (·.size) = some cells.size) : YieldsIf P ops S o (.agg cells) a :=
  .inl ⟨hgd, fun W hW => by
    unfold execOp
    simp only [ho, hx, Instr.loadAt, Instr.sureAddr, Sem.run_bind, Sem.run_pure, Result.andThen_ok, run_loadVar_row W g T T cells (0, 0) d (h W hW) hu hd hi]⟩
/-- One operation alone may come. -/
theorem wpAnyH_one {P : Program} {md : Region.Mode} {ops : Array Oper} {Q : Exit → Act → World → Prop} {S : World → Prop} {fuel : Nat} {L : Array Bool} {a : Act} {w : World} {i : Nat} {o : Oper} (ho : ops[i]? = some o) (hr : Region.ready md ops L = [i]) (hw : Region.wanted o (yielded ops a.tmps) = true)
    (h : Oper.wp P o a w (fun a' w' => S w' ∧ wpAnyH P md ops Q S fuel (L.setIfInBounds i true) a' w') Q) : wpAnyH P md ops Q S (fuel + 1) L a w := by
  refine wpAnyH_all hr (by simp) fun j hj => ?_
  obtain rfl : j = i := by simpa using hj
  unfold wpOp
  rw [ho]
  dsimp only
  rw [if_pos hw]
  exact .inl h
end Go.Proofs.YtpdldbapagchfaaGreatDoor

/- The closure of all. -/
namespace Go.Proofs.YtpdldbapagchfaaGreatDoor
open Go.RowKit Go.Shelf Go.Maps

/-- One of two operations comes first. -/
theorem wpAnyH_two {P : Program} {md : Region.Mode} {ops : Array Oper} {Q : Exit → Act → World → Prop} {S : World → Prop} {fuel : Nat} {L : Array Bool} {a : Act} {w : World} {i j : Nat} {o o' : Oper} (ho : ops[i]? = some o) (ho' : ops[j]? = some o') (hr : Region.ready md ops L = [i, j])
    (hw : Region.wanted o (yielded ops a.tmps) = true) (hw' : Region.wanted o' (yielded ops a.tmps) = true)
    (h : Oper.wp P o a w (fun a' w' => S w' ∧ wpAnyH P md ops Q S fuel (L.setIfInBounds i true) a' w') Q)
    (h' : Oper.wp P o' a w (fun a' w' => S w' ∧ wpAnyH P md ops Q S fuel (L.setIfInBounds j true) a' w') Q) : wpAnyH P md ops Q S (fuel + 1) L a w := by
  refine wpAnyH_all hr (by simp) fun x hx => ?_
  simp only [List.mem_cons, List.not_mem_nil, or_false] at hx
  rcases hx with rfl | rfl
  · unfold wpOp; rw [ho]; dsimp only; rw [if_pos hw]; exact .inl h
  · unfold wpOp; rw [ho']; dsimp only; rw [if_pos hw']; exact .inl h'
def RB (v : Value) : Option (DataW Unit × List MemPlace) :=
  match v with
  | .bool b => some (.lit (.bool b), [])
  | _ => none
theorem RB_inv {v : Value} {b : Bool} {ps : List MemPlace} (h : RB v = some (.lit (.bool b), ps)) : v = .bool b := by
  unfold RB at h
  split at h
  · simp only [Option.some.injEq, Prod.mk.injEq, DataW.lit.injEq, Lit.bool.injEq] at h
    rw [h.1]
  · cases h
/-- A field whose key can be told. -/
structure KOk (x : Fld) : Prop where
  f : FldOk x
  tag : x.tag.size ≤ 1000
def kkF (x : Fld) : Lit := kkA x.tag (ofL (keyP x))
theorem keyP_size {x : Fld} (h : FldOk x) : (ofL (keyP x)).size ≤ maxLen := by
  rw [ofL_size, ← keyN_all]
  have := keyN_len h x.subs.length (Nat.le_refl _)
  have := h.subs
  unfold maxLen; omega
theorem kkF_iff {x y : Fld} (hx : KOk x) (hy : KOk y) : kkF x = kkF y ↔ Alike (foldS tabC) x y = true := by
  rw [alike_iff hx.f hy.f]
  constructor
  · intro h
    obtain ⟨h1, h2⟩ := kkA_inj (by have := hx.tag; unfold maxLen; omega) (keyP_size hx.f) (by have := hy.tag; unfold maxLen; omega) (keyP_size hy.f) h
    exact ⟨h1, ofL_inj h2⟩
  · rintro ⟨h1, h2⟩
    unfold kkF; rw [h1, h2]
/-- Is a field like one that is kept? -/
def hasK (l : List Said) (x : Fld) : Bool := (keepAll (foldS tabC) l).any fun y => Alike (foldS tabC) y.1 x
/-- What the closure of all knows. -/
structure AllJ (sb mb : Nat) (l : List Said) (j : Nat) (W : World) : Prop where
  ne : sb ≠ mb
  s : W.cell? ⟨sb, 0, none⟩ = some (.map (some mb))
  m : ∃ f, MapF W Tryz.prog 121 RB mb j f ∧ ∀ x, KOk x → f (kkF x) = if hasK (l.take j) x then some (.lit (.bool true)) else none
theorem hasK_step {l : List Said} {j : Nat} (hj : j < l.length) (x : Fld) : hasK (l.take (j + 1)) x = if hasK (l.take j) l[j].1 then hasK (l.take j) x else (hasK (l.take j) x || Alike (foldS tabC) l[j].1 x) := by
  unfold hasK
  rw [List.take_succ_eq_append_getElem hj, keepAll_snoc]
  split
  · rfl
  · rw [List.any_append]; simp
end Go.Proofs.YtpdldbapagchfaaGreatDoor

/- The closure of all: the walk. -/
namespace Go.Proofs.YtpdldbapagchfaaGreatDoor
open Go.RowKit Go.Shelf Go.Maps

set_option maxRecDepth 100000 in
set_option maxHeartbeats 4000000 in
theorem allC_any {sb mb j : Nat} {l : List Said} {S : Nat → Prop} {W : World} {cs : List Value} (hj : AllJ sb mb l j W) (hlt : j < l.length) (hl : l.length ≤ 100000) (hk : KOk l[j].1) (hx : SaidC S W cs l[j]) :
    Calls Tryz.prog 74 #[.agg cs.toArray, .pointer (some ⟨sb, 0, none⟩)] W fun e W' => e = .returned (.bool (hasK (l.take j) l[j].1)) ∧ AllJ sb mb l (j + 1) W' ∧ Tn (fun k => k = mb) W W' := by
  have HKS := Lib.hid (fun x => hasK_step hlt x)
  obtain ⟨x, hxe⟩ : ∃ x, x = l[j] := ⟨_, rfl⟩
  rw [← hxe] at hx hk ⊢
  have HKS2 : RowKit.Hid (∀ y, hasK (l.take (j + 1)) y = if hasK (l.take j) x.1 then hasK (l.take j) y else (hasK (l.take j) y || Alike (foldS tabC) x.1 y)) := Lib.hid (by rw [hxe]; exact HKS.out)
  clear HKS hxe
  have HF : RowKit.Hid (∃ c1, FldR S W c1 x.1 ∧ cs = c1 ++ [.int .i64 x.2.1, .int .i64 x.2.2]) := Lib.hid (by
    obtain ⟨sv, e, h⟩ := hx; exact ⟨_, ⟨sv, rfl, h⟩, e⟩)
  obtain ⟨sv, rfl, hsub⟩ := hx
  have HSUB := Lib.hid hsub
  obtain ⟨sa, sc, rfl, -⟩ := hsub
  have HKOK := Lib.hid hk
  have HJ := Lib.hid hj
  clear hk hj HF
  obtain ⟨sn, hsn⟩ : ∃ y, y = x.1.subs.length := ⟨_, rfl⟩
  obtain ⟨y1, hy1⟩ : ∃ y, y = x.1.tag := ⟨_, rfl⟩
  obtain ⟨y2, hy2⟩ : ∃ y, y = x.1.ind := ⟨_, rfl⟩
  obtain ⟨y3, hy3⟩ : ∃ y, y = x.1.data := ⟨_, rfl⟩
  have HFR : RowKit.Hid (∀ V, Below W.heap.size W V → FldR (fun b => b < W.heap.size) V [.string y1, .string y2, .string y3, .slice sa sn sc] x.1) := Lib.hid fun V hV => by
    refine ⟨.slice sa sn sc, by rw [hy1, hy2, hy3], ?_⟩
    rw [hsn]
    exact SubsAt.keep (SlOf.keep (by omega) (SlOf.lowS (by omega) HSUB.out) (fun _ _ _ => rfl) (fun _ _ h => h) (fun _ h _ => h.2)) (Stay.of_below hV) (fun _ h _ => h)
  rw [← hsn, ← hy1, ← hy2, ← hy3]
  have HY1 := Lib.hid hy1
  clear hsn hy1 hy2 hy3 HSUB
  obtain ⟨r1, hr1⟩ : ∃ y, y = x.2.1 := ⟨_, rfl⟩
  obtain ⟨r2, hr2⟩ : ∃ y, y = x.2.2 := ⟨_, rfl⟩
  rw [← hr1, ← hr2]
  clear hr1 hr2
  obtain ⟨kt, hkt⟩ : ∃ kt, kt = ofL (keyP x.1) := ⟨_, rfl⟩
  have HKT := Lib.hid hkt
  obtain ⟨W0, hW0⟩ : ∃ W0, W0 = W.alloc (.cells #[.string y1, .string y2, .string y3, .slice sa sn sc, .int .i64 r1, .int .i64 r2] 71) := ⟨_, rfl⟩
  have B0 : RowKit.Hid (Below W.heap.size W W0) := Lib.hid (by rw [hW0]; exact (Below.refl _ _).alloc (Nat.le_refl _) _)
  have K0 : RowKit.Hid (Blk W0 W.heap.size #[.string y1, .string y2, .string y3, .slice sa sn sc, .int .i64 r1, .int .i64 r2] 71) := Lib.hid (by rw [hW0]; exact Blk.new _ _ _)
  obtain ⟨S', hS'⟩ : ∃ S' : World → Prop, S' = fun V => Below W0.heap.size W0 V := ⟨_, rfl⟩
  have LD : RowKit.Hid (∀ V, S' V → V.cell? ⟨W.heap.size, 0, none⟩ = some (.string y1) ∧ V.cell? ⟨W.heap.size, 1, none⟩ = some (.string y2) ∧ V.cell? ⟨W.heap.size, 2, none⟩ = some (.string y3) ∧ V.cell? ⟨W.heap.size, 3, none⟩ = some (.slice sa sn sc)) := Lib.hid (by
    rw [hS']; intro V hV
    have := K0.out.below hV K0.out.lt
    exact ⟨this.cell 0, this.cell 1, this.cell 2, this.cell 3⟩)
  have UU : RowKit.Hid (∀ V, Below W0.heap.size W0 V → S' V) := Lib.hid (by rw [hS']; exact fun W h => h)
  have SS : RowKit.Hid (∀ V, S' V → Below W0.heap.size W0 V) := Lib.hid (by rw [hS']; exact fun W h => h)
  have hHeld := UU.out _ (Below.refl W0.heap.size W0).drew
  have HKEY : RowKit.Hid (∀ V, Below W0.heap.size W0 V → Calls Tryz.prog 75 #[.agg #[.string y1, .string y2, .string y3, .slice sa sn sc]] V fun e w' => e = .returned (.string kt) ∧ Below V.heap.size V w') := Lib.hid fun V hV => by
    rw [hkt]
    exact key_any _ (HFR.out V (B0.out.trans (hV.mono B0.out.size))) HKOK.out.f
  clear hS' hkt HFR
  go_enter Tryz.func74, Tryz.ntmps74
  go_wp2_with fail
  rw [← hW0]
  clear hW0
  refine wp_region_sp 8 S' (by kernel_rfl) (by kernel_rfl) ?_
  simp only [List.take_succ_cons, List.take_zero]
  apply wpAnyH_apart1 (fun g V => W0.heap.size ≤ g ∧ Blk V g #[.string ⟨#[]⟩, .string ⟨#[]⟩] 121 ∧ Below W0.heap.size W0 V)
  case take =>
    intro R hR
    refine wpAnyH_take (i := 0) (v := ?_) rfl (by kernel_rfl) (by kernel_rfl) (by kernel_rfl) (fun _ _ _ h => only_panic h) (Or.inl ⟨by rfl, ?_⟩) hHeld ?_
    rotate_left
    · (intro w hSw; obtain ⟨l0, l1, l2, l3⟩ := LD.out w hSw; go_simp; try (with_reducible rfl))
    try simp only [List.getElem_toArray, List.getElem_cons_succ, List.getElem_cons_zero, Act.put, List.setIfInBounds_toArray, List.set_cons_zero, List.set_cons_succ]
    refine wpAnyH_take (i := 1) (v := ?_) rfl (by kernel_rfl) (by kernel_rfl) (by kernel_rfl) (fun _ _ _ h => only_panic h) (Or.inl ⟨by rfl, ?_⟩) hHeld ?_
    rotate_left
    · (intro w hSw; obtain ⟨l0, l1, l2, l3⟩ := LD.out w hSw; go_simp; try (with_reducible rfl))
    try simp only [List.getElem_toArray, List.getElem_cons_succ, List.getElem_cons_zero, Act.put, List.setIfInBounds_toArray, List.set_cons_zero, List.set_cons_succ]
    refine wpAnyH_take (i := 2) (v := ?_) rfl (by kernel_rfl) (by kernel_rfl) (by kernel_rfl) (fun _ _ _ h => only_panic h) (Or.inl ⟨by rfl, ?_⟩) hHeld ?_
    rotate_left
    · (intro w hSw; obtain ⟨l0, l1, l2, l3⟩ := LD.out w hSw; go_simp; try (with_reducible rfl))
    try simp only [List.getElem_toArray, List.getElem_cons_succ, List.getElem_cons_zero, Act.put, List.setIfInBounds_toArray, List.set_cons_zero, List.set_cons_succ]
    refine wpAnyH_take (i := 3) (v := ?_) rfl (by kernel_rfl) (by kernel_rfl) (by kernel_rfl) (fun _ _ _ h => only_panic h) (Or.inl ⟨by rfl, ?_⟩) hHeld ?_
    rotate_left
    · (intro w hSw; obtain ⟨l0, l1, l2, l3⟩ := LD.out w hSw; go_simp; try (with_reducible rfl))
    try simp only [List.getElem_toArray, List.getElem_cons_succ, List.getElem_cons_zero, Act.put, List.setIfInBounds_toArray, List.set_cons_zero, List.set_cons_succ]
    refine wpAnyH_take (i := 4) (v := ?_) rfl (by kernel_rfl) (by kernel_rfl) (by kernel_rfl) (fun _ _ _ h => only_panic h) (Or.inl ⟨by rfl, ?_⟩) hHeld ?_
    rotate_left
    · (intro w hSw; obtain ⟨l0, l1, l2, l3⟩ := LD.out w hSw; go_simp; try (with_reducible rfl))
    try simp only [List.getElem_toArray, List.getElem_cons_succ, List.getElem_cons_zero, Act.put, List.setIfInBounds_toArray, List.set_cons_zero, List.set_cons_succ]
    refine wpAnyH_two (i := 5) (j := 7) rfl rfl (by kernel_rfl) (by rfl) (by rfl) ?_ ?_
    · go_simp
      refine (HKEY.out _ (Below.refl W0.heap.size W0).drew).mono ?_
      rintro e V ⟨rfl, hb⟩
      have hbV : Below W0.heap.size W0 V := (Below.refl W0.heap.size W0).drew.trans (hb.mono (Nat.le_refl _))
      have HBV := Lib.hid hbV
      have hHeld := UU.out _ hbV
      clear hb hbV
      refine ⟨hHeld, ?_⟩
      refine wpAnyH_take (i := 6) (v := ?_) rfl (by kernel_rfl) (by kernel_rfl) (by kernel_rfl) (fun _ _ _ h => only_panic h) (Or.inl ⟨by rfl, ?_⟩) hHeld ?_
      rotate_left
      · (intro w hSw; clear hSw; go_simp; try (with_reducible rfl))
      try simp only [List.getElem_toArray, List.getElem_cons_succ, List.getElem_cons_zero, Act.put, List.setIfInBounds_toArray, List.set_cons_zero, List.set_cons_succ]
      have hHeld2 := UU.out _ (HBV.out.alloc HBV.out.size (.cells #[.string ⟨#[]⟩, .string ⟨#[]⟩] 121))
      refine wpAnyH_one (i := 7) rfl (by kernel_rfl) (by rfl) ?_
      go_simp
      refine ⟨hHeld2, ?_⟩
      obtain ⟨g, hg⟩ : ∃ g, g = V.heap.size := ⟨_, rfl⟩
      rw [← hg]
      exact wpAnyH_done (by kernel_rfl) ⟨rfl, hR g _ ⟨by rw [hg]; exact HBV.out.size, by rw [hg]; exact Blk.new _ _ _, HBV.out.alloc HBV.out.size _⟩⟩ _
    · go_simp
      obtain ⟨g, hg⟩ : ∃ g, g = W0.heap.size := ⟨_, rfl⟩
      obtain ⟨V0, hV0⟩ : ∃ V0, V0 = (W0.alloc (.cells #[.string ⟨#[]⟩, .string ⟨#[]⟩] 121)).drew := ⟨_, rfl⟩
      have HV0 : RowKit.Hid (Below W0.heap.size W0 V0) := Lib.hid (by rw [hV0]; exact ((Below.refl W0.heap.size W0).alloc (Nat.le_refl _) _).drew)
      have KV0 : RowKit.Hid (Blk V0 g #[.string ⟨#[]⟩, .string ⟨#[]⟩] 121) := Lib.hid (by rw [hV0, hg]; exact Blk.new _ _ _)
      have hgw : W0.heap.size ≤ g := by omega
      rw [← hV0, ← hg]
      clear hV0 hg
      have hHeld := UU.out _ HV0.out
      refine ⟨hHeld, ?_⟩
      refine wpAnyH_one (i := 5) rfl (by kernel_rfl) (by rfl) ?_
      go_simp
      refine (HKEY.out _ HV0.out).mono ?_
      rintro e V ⟨rfl, hb⟩
      have HBV : RowKit.Hid (Below W0.heap.size W0 V) := Lib.hid (HV0.out.trans (hb.mono HV0.out.size))
      have KV : RowKit.Hid (Blk V g #[.string ⟨#[]⟩, .string ⟨#[]⟩] 121) := Lib.hid (KV0.out.below hb KV0.out.lt)
      have hHeld := UU.out _ HBV.out
      clear hb
      refine ⟨hHeld, ?_⟩
      refine wpAnyH_take (i := 6) (v := ?_) rfl (by kernel_rfl) (by kernel_rfl) (by kernel_rfl) (fun _ _ _ h => only_panic h) (Or.inl ⟨by rfl, ?_⟩) hHeld ?_
      rotate_left
      · (intro w hSw; clear hSw; go_simp; try (with_reducible rfl))
      try simp only [List.getElem_toArray, List.getElem_cons_succ, List.getElem_cons_zero, Act.put, List.setIfInBounds_toArray, List.set_cons_zero, List.set_cons_succ]
      exact wpAnyH_done (by kernel_rfl) ⟨rfl, hR g _ ⟨hgw, KV.out, HBV.out⟩⟩ _
  case rest =>
    rintro g V ⟨hg, hK, hB⟩
    simp only [endN, List.drop_succ_cons, List.drop_zero, Act.put, List.setIfInBounds_toArray, List.set_cons_zero, List.set_cons_succ]
    have hgW : W.heap.size ≤ g := by have := B0.out.size; omega
    have KV : RowKit.Hid (Blk V g #[.string ⟨#[]⟩, .string ⟨#[]⟩] 121) := Lib.hid hK
    have BV : RowKit.Hid (Below W.heap.size W V) := Lib.hid (B0.out.trans (hB.mono B0.out.size))
    obtain ⟨W2, hW2⟩ : ∃ W2, W2 = (V.setCell ⟨g, 0, none⟩ (.string y1)).setCell ⟨g, 1, none⟩ (.string kt) := ⟨_, rfl⟩
    have K2 : RowKit.Hid (Blk W2 g #[.string y1, .string kt] 121) := Lib.hid (by rw [hW2]; exact (KV.out.set 0 (.string y1)).set 1 (.string kt))
    have B2 : RowKit.Hid (Below W.heap.size W W2) := Lib.hid (by rw [hW2]; exact (BV.out.setCell (p := ⟨g, 0, none⟩) hgW _).setCell (p := ⟨g, 1, none⟩) hgW _)
    have g0 : V.cell? ⟨g, 0, none⟩ = some (.string ⟨#[]⟩) := KV.out.cell 0
    have g1 : (V.setCell ⟨g, 0, none⟩ (.string y1)).cell? ⟨g, 1, none⟩ = some (.string ⟨#[]⟩) := (KV.out.set 0 (.string y1)).cell 1
    have f0 := KV.out.frozen 0
    have f1 := (KV.out.set 0 (.string y1)).frozen 1
    have hs2 : W2.cell? ⟨sb, 0, none⟩ = some (.map (some mb)) := Below.cellE B2.out HJ.out.s
    have ks0 : W2.cell? ⟨g, 0, none⟩ = some (.string y1) := K2.out.cell 0
    have ks1 : W2.cell? ⟨g, 1, none⟩ = some (.string kt) := K2.out.cell 1
    obtain ⟨f, hm, hf⟩ := HJ.out.m
    have HM2 : RowKit.Hid (MapF W2 Tryz.prog 121 RB mb j f) := Lib.hid (hm.keep (Tn.of_below (F := fun _ => False) B2.out) (fun h => h))
    have HFF := Lib.hid hf
    have HKL : RowKit.Hid (keyOf Tryz.prog 121 (.agg #[.string y1, .string kt]) = some (kkF x.1)) := Lib.hid (by
      rw [keyOfK (by rw [HY1.out]; have := HKOK.out.tag; unfold maxLen; omega) (by rw [HKT.out]; exact keyP_size HKOK.out.f), HY1.out, HKT.out]; rfl)
    obtain ⟨v, ps, hlr, hlv⟩ := HM2.out.look keyK Tryz.underlying119 (Tryz.zeroValue4 _) (zd := .lit (.bool false)) (zp := []) rfl HKL.out
    have hmb : mb < W.heap.size := hm.lt
    clear hK hB LD UU SS hHeld HKEY KV hm hf
    by_cases hb : hasK (l.take j) x.1 = true
    · rw [HFF.out x.1 HKOK.out, if_pos hb] at hlv
      obtain rfl := RB_inv hlv
      have HBB := Lib.hid hb
      have HJ2 : RowKit.Hid (AllJ sb mb l (j + 1) W2) := Lib.hid ⟨HJ.out.ne, hs2, f, HM2.out.mono (by omega), fun y hy => by rw [HKS2.out y, if_pos HBB.out]; exact HFF.out y hy⟩
      have HT2 : RowKit.Hid (Tn (fun k => k = mb) W W2) := Lib.hid (Tn.of_below B2.out)
      clear hlv hb HM2 B2 K2
      subst hW2
      go_wp2_with fail
      go_ret
      exact ⟨by rw [HBB.out]; rfl, HJ2.out, HT2.out⟩
    · rw [HFF.out x.1 HKOK.out, if_neg hb] at hlv
      obtain rfl := RB_inv hlv
      have HBB : RowKit.Hid (hasK (l.take j) x.1 = false) := Lib.hid (by simpa using hb)
      obtain ⟨w3, hr3, hm3, hg3⟩ := HM2.out.put keyK Tryz.underlying119 (by unfold maxLen; omega) HKL.out (val := .bool true) (d := .lit (.bool true)) (ps := []) rfl
      have HJ3 : RowKit.Hid (AllJ sb mb l (j + 1) w3) := Lib.hid (by
        refine ⟨HJ.out.ne, ?_, _, hm3, fun y hy => ?_⟩
        · have h1 := hg3.block sb (cell_lt hs2) (fun e => HJ.out.ne (by injection e))
          have h2 := hs2
          simp only [World.cell?, h1] at h2 ⊢
          exact h2
        · have e0 : hasK (l.take (j + 1)) y = (hasK (l.take j) y || Alike (foldS tabC) x.1 y) := by
            have h := HKS2.out y
            rw [HBB.out, if_neg (by simp)] at h; exact h
          rw [e0]
          unfold updL
          by_cases e : kkF y = kkF x.1
          · have ha := (kkF_iff HKOK.out hy).1 e.symm
            rw [if_pos e, ha]; simp
          · have ha : Alike (foldS tabC) x.1 y = false := by
              cases hq : Alike (foldS tabC) x.1 y with
              | false => rfl
              | true => exact absurd ((kkF_iff HKOK.out hy).2 hq).symm e
            rw [if_neg e, ha, Bool.or_false]
            exact HFF.out y hy)
      have HT3 : RowKit.Hid (Tn (fun k => k = mb) W w3) := Lib.hid ((Tn.of_below (F := fun k => k = mb) B2.out).trans ((Tn.of_grown hg3).weak fun b hb => by injection hb with hb; exact hb.symm))
      clear hlv hb HM2 B2 K2 hm3 hg3
      subst hW2
      go_wp2_with fail
      go_ret
      exact ⟨by rw [HBB.out]; rfl, HJ3.out, HT3.out⟩
end Go.Proofs.YtpdldbapagchfaaGreatDoor
