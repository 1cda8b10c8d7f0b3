/- A statement whose order is open, and whose last operations come last in a fixed order: the others are a statement of their own. -/
import Derived.Test.YtpcmppamkgkdlaaMk3
import Derived.Deep.RegionHeld
namespace Go.Proofs.Ytpcmppamkgkdlaa
open Go.RowKit
section
variable {P : Program}
theorem Oper.wp_exits {o : Oper} {a : Act} {w : World} {K : Act → World → Prop} {Q Q' : Exit → Act → World → Prop} (hp : ∀ c a w, Q' (.panic c) a w → Q (.panic c) a w) (ho : LetsOut Q' → LetsOut Q)
    (hh : o.wp P a w K Q') : o.wp P a w K Q := by
  unfold Oper.wp at *
  generalize (execOp a.eval o).run P w = r at *
  cases r with
  | ok n w' =>
    cases n <;> simp only [Oper.upon] at hh ⊢ <;>
      first
        | exact hh
        | exact Calls.mono hh (fun e w'' he => by cases e <;> first | exact hp _ _ _ he | exact ho he | exact he)
  | halt x w' => cases x <;> simp only [Oper.upon] at hh ⊢ <;> first | exact hp _ _ _ hh | exact hh
def spB (l : List Oper) (n : Nat) : Bool :=
  decide (n < l.length) && sinkT l n && headT l n && Region.seqB .any l.toArray (l.length - n) n (Array.replicate n true ++ Array.replicate (l.length - n) false)
theorem spOk {l : List Oper} {n : Nat} (h : spB l n = true) : TlOk l n := by
  simp only [spB, Bool.and_eq_true, decide_eq_true_eq] at h
  obtain ⟨⟨⟨h2, h4⟩, h5⟩, h7⟩ := h
  simp only [sinkT, Bool.and_eq_true] at h4
  refine ⟨h2, fun i hi => ?_, fun t ht htl => ?_, ?_, h7⟩
  · have := List.all_eq_true.1 h4.1 i (List.mem_range.2 hi)
    obtain ⟨j, hj, hh⟩ := List.any_eq_true.1 this
    simp only [Bool.and_eq_true, decide_eq_true_eq] at hh
    exact ⟨j, hh.1, by have := List.mem_range.1 hj; omega, hh.2⟩
  · have := List.all_eq_true.1 h4.2 t (List.mem_range.2 htl)
    simp only [Bool.or_eq_true, decide_eq_true_eq] at this
    rcases this with h | h
    · omega
    · exact h
  · intro j o hj ho
    have := List.all_eq_true.1 h5 j (List.mem_range.2 hj)
    rw [ho] at this
    simp only [Option.all_some, Bool.and_eq_true] at this
    obtain ⟨a1, a3⟩ := this
    refine ⟨fun e he hb => ?_, fun g b hg => ?_⟩
    · have := Array.all_eq_true_iff_forall_mem.1 a1 e he
      simpa [hb] using this
    · rw [hg] at a3; simpa using a3
theorem yielded_take {l : List Oper} {n g : Nat} {tmps : Array Value} (hg : g < n) : yielded (l.take n).toArray tmps g = yielded l.toArray tmps g := by
  unfold yielded
  simp only [List.getElem?_toArray, List.getElem?_take_of_lt hg]
theorem wanted_take {l : List Oper} {n : Nat} {o : Oper} {tmps : Array Value} (h : ∀ g b, o.guard = some (g, b) → g < n) : Region.wanted o (yielded (l.take n).toArray tmps) = Region.wanted o (yielded l.toArray tmps) := by
  unfold Region.wanted
  split
  · rfl
  · rename_i g b hg
    rw [yielded_take (h g b hg)]
theorem getD_tf {L : Array Bool} {i : Nat} (hi : i < L.size) : L.getD i true = L.getD i false := by simp [hi]
theorem ready_take {l : List Oper} {n : Nat} (ok : TlOk l n) {H L : Array Bool} (h1 : H.size = n) (h2 : L.size = l.length) (h : ∀ i, i < n → H.getD i true = L.getD i true) {i : Nat} (hi : i < n) :
    i ∈ Region.ready .any (l.take n).toArray H ↔ i ∈ Region.ready .any l.toArray L := by
  have hn := ok.hn
  have hF : ∀ j, j < n → H.getD j false = L.getD j false := fun j hj => by rw [← getD_tf (by omega), ← getD_tf (by omega), h j hj]
  constructor
  · intro hr
    obtain ⟨g1, o, g2, g3⟩ := mem_ready.1 hr
    have g2' : l[i]? = some o := by simpa [List.getElem?_take_of_lt hi] using g2
    refine mem_ready.2 ⟨by rw [← h i hi]; exact g1, o, by simpa using g2', fun e he hb => ?_⟩
    rw [← hF _ (by have := (ok.head i o hi g2').1 e he hb; omega)]
    exact g3 e he hb
  · intro hr
    obtain ⟨g1, o, g2, g3⟩ := mem_ready.1 hr
    have g2' : l[i]? = some o := by simpa using g2
    refine mem_ready.2 ⟨by rw [h i hi]; exact g1, o, by simpa [List.getElem?_take_of_lt hi] using g2', fun e he hb => ?_⟩
    rw [hF _ (by have := (ok.head i o hi g2').1 e he hb; omega)]
    exact g3 e he hb
theorem simS {l : List Oper} {n : Nat} {Q Q' : Exit → Act → World → Prop} (ok : TlOk l n) (hp : ∀ c a w, Q' (.panic c) a w → Q (.panic c) a w) (ho : LetsOut Q' → LetsOut Q)
    (hQ : ∀ a w, Q' .normal a w → wpList P l.toArray Q (l.drop n) a w) :
    ∀ (f : Nat) (H L : Array Bool) (a : Act) (w : World), H.size = n → L.size = l.length → (∀ i, i < n → H.getD i true = L.getD i true) → (∀ t, n ≤ t → t < l.length → L.getD t true = false) → Shut l L →
      wpAny P .any (l.take n).toArray Q' f H a w → wpAny P .any l.toArray Q (f + (l.length - n)) L a w := by
  have hn := ok.hn
  have fin : ∀ (L : Array Bool) (a : Act) (w : World), L.size = l.length → (¬ ∃ i, i < n ∧ L.getD i true = false) → (∀ t, n ≤ t → t < l.length → L.getD t true = false) → Q' .normal a w → wpAny P .any l.toArray Q (l.length - n) L a w := by
    intro L a w hsz hb htl hq
    have hL := listed_eq (Nat.le_of_lt hn) hsz (fun i hi e => hb ⟨i, hi, e⟩) htl
    have hdl : (l.drop n).length = l.length - n := by simp
    have := wpAny_of_seq (P := P) (md := .any) (Q' := Q) (l.drop n) n L a w (fun j => by simp [List.getElem?_drop]) (by rw [hdl]; exact hL ▸ ok.seq) (hQ a w hq)
    rwa [hdl] at this
  intro f
  induction f with
  | zero =>
    intro H L a w h1 h2 hHL htl hsh h
    by_cases hb : ∃ i, i < n ∧ L.getD i true = false
    · obtain ⟨i, hi, hun⟩ := hb
      obtain ⟨j, hj⟩ := ready_someT ok h2 i hi hun
      have hjn : j < n := by
        rcases Nat.lt_or_ge j n with h' | h'
        · exact h'
        · exact absurd hj (tail_notT ok hsh htl hi hun h')
      have := (ready_take ok h1 h2 hHL hjn).2 hj
      rw [h.1] at this; cases this
    · rw [Nat.zero_add]
      exact fin L a w h2 hb htl h.2
  | succ f ih =>
    intro H L a w h1 h2 hHL htl hsh h
    by_cases hb : ∃ i, i < n ∧ L.getD i true = false
    case neg =>
      have h0 : Region.ready .any (l.take n).toArray H = [] := by
        rcases hr : Region.ready .any (l.take n).toArray H with _ | ⟨j, r⟩
        · rfl
        · have hj : j ∈ Region.ready .any (l.take n).toArray H := by rw [hr]; exact List.mem_cons_self ..
          obtain ⟨g1, o, g2, _⟩ := mem_ready.1 hj
          have hjn : j < n := by
            have := (Array.getElem?_eq_some_iff.1 g2).1
            simp at this; omega
          exact absurd ⟨j, hjn, by rw [← hHL j hjn]; exact g1⟩ hb
      exact wpAny_up (by omega) (fin L a w h2 hb htl (h.1 h0))
    case pos =>
      obtain ⟨i0, hi0, hun0⟩ := hb
      rw [show f + 1 + (l.length - n) = (f + (l.length - n)) + 1 by omega]
      refine ⟨fun h0 => ?_, fun i hi => ?_⟩
      · obtain ⟨j, hj⟩ := ready_someT ok h2 i0 hi0 hun0
        rw [h0] at hj; cases hj
      have hin : i < n := by
        rcases Nat.lt_or_ge i n with h' | h'
        · exact h'
        · exact absurd hi (tail_notT ok hsh htl hi0 hun0 h')
      obtain ⟨hiu, o, hoa, _⟩ := mem_ready.1 hi
      have hol : l[i]? = some o := by simpa using hoa
      have hot : (l.take n).toArray[i]? = some o := by simpa [List.getElem?_take_of_lt hin] using hol
      have hc := h.2 i ((ready_take ok h1 h2 hHL hin).2 hi)
      have hK : ∀ a' w', wpAny P .any (l.take n).toArray Q' f (H.setIfInBounds i true) a' w' → wpAny P .any l.toArray Q (f + (l.length - n)) (L.setIfInBounds i true) a' w' := fun a' w' h' =>
        ih _ _ a' w' (by simpa using h1) (by simpa using h2) (fun j hj => by
          by_cases e : i = j
          · subst e; simp [h1, h2, hin, show i < l.length by omega]
          · rw [getD_set_ne true e, getD_set_ne true e]; exact hHL j hj)
          (fun t ht ht' => by rw [getD_set_ne true (by omega)]; exact htl t ht ht') (hsh.set hi) h'
      unfold wpOp at hc ⊢
      rw [hot] at hc
      rw [hoa]
      dsimp only at hc ⊢
      rw [wanted_take (fun g b hg => (ok.head i o hin hol).2 g b hg)] at hc
      split
      · rename_i hw
        rw [if_pos hw] at hc
        exact hc.imp (fun h' => Oper.wp_exits hp ho (Oper.wp_mono hK h')) (fun ⟨h', h''⟩ => ⟨h', ho h''⟩)
      · rename_i hw
        rw [if_neg hw] at hc
        exact hK _ _ hc
def endN (Q : Exit → Act → World → Prop) (R : Act → World → Prop) : Exit → Act → World → Prop
  | .normal, a, w => R a w
  | e, a, w => Q e a w
/-- THE REGION. n: the operations before the tail. -/
theorem wp_region_sp {id : Nat} {Q : Exit → Act → World → Prop} {a : Act} {w : World} {l : List Oper} (n : Nat) (S : World → Prop) (hm : P.follows .mixedOrders = true) (hB : spB l n = true)
    (h : wpAnyH P .any (l.take n).toArray (endN Q (fun a' w' => wpList P l.toArray Q (l.drop n) a' w')) S n (Array.replicate n false) a w.drew) :
    (Code.region id l.toArray true).wp P Q a w := by
  have ok := spOk hB
  have hn := ok.hn
  refine wp_region_any hm ?_
  have := simS (P := P) (Q := Q) (Q' := endN Q (fun a' w' => wpList P l.toArray Q (l.drop n) a' w')) ok (fun _ _ _ h => h) (fun ⟨a, w, h⟩ => ⟨a, w, h⟩) (fun _ _ h => h) n (Array.replicate n false) (Array.replicate l.length false) a w.drew
    (by simp) (by simp) (fun i hi => by simp [hi, show i < l.length by omega]) (fun t _ ht => by simp [ht]) (fun j o ho hj => by
      have hjl : j < l.length := (List.getElem?_eq_some_iff.1 ho).1
      simp [hjl] at hj) (wpAny_of_held _ _ _ _ h)
  rw [show n + (l.length - n) = l.length by omega] at this
  simpa using this
/-- One operation that comes up. -/
theorem held_step {ops : Array Oper} {Q : Exit → Act → World → Prop} {md : Region.Mode} {S : World → Prop} {fuel : Nat} {listed : Array Bool} {a : Act} {w : World} {i : Nat} {o : Oper} {rs : List Nat} (ho : ops[i]? = some o)
    (h : ∀ K' : Act → World → Prop, (∀ a w, S w → wpAnyH P md ops Q S fuel (listed.setIfInBounds i true) a w → K' a w) → if Region.wanted o (yielded ops a.tmps) = true then Oper.wp P o a w K' Q else K' (a.put o.dst undef) w)
    (hs : AllReadyH P md ops Q S fuel listed a w rs) : AllReadyH P md ops Q S fuel listed a w (i :: rs) :=
  AllReadyH.cons ho (fun K' hK => h K' (fun a w h1 h2 => hK.out a w h1 fun _ => h2)) hs
end
end Go.Proofs.Ytpcmppamkgkdlaa
