/- A statement whose order is open, that only reads and calls, makes one new block, and ends in a fixed tail (a store into that block): one walk in the order of the text serves every order. -/
import Derived.Test.YtdojgbpaheadnaaGreatQLib
import Derived.StillTail
import Derived.Deep.RegionHeld
import Derived.Test.YtdojgbpaheadnaaGreatQTN
set_option linter.unusedVariables false
set_option linter.unusedSimpArgs false

namespace Go.Proofs.YtdojgbpaheadnaaGreat
open Go.RowKit
section
variable {P : Program} {ops : Array Oper} {md : Region.Mode} {w0 : World}

def calmUpon (P : Program) (w : World) (v : Value) : Result Next → Prop
 | .ok (.value u) w' => w' = w ∧ u = v
 | .ok .skip w' => w' = w ∧ v = undef
 | .ok (.enter f args) w' => w' = w ∧ Calls P f args w (fun e w'' => e = .returned v ∧ Below w.heap.size w w'')
 | _ => False
def calmAt (P : Program) (w0 : World) (o : Oper) (a : Act) (v : Value) : Prop := ∀ x, calmUpon P (over w0 x) v ((execOp a.eval o).run P (over w0 x))
def calm (P : Program) (w0 : World) (o : Oper) (a : Act) (K : Act → Prop) : Prop := ∃ v, calmAt P w0 o a v ∧ K (a.put o.dst v)
def cOp (P : Program) (ops : Array Oper) (w0 : World) (i : Nat) (K : Act → Prop) (a : Act) : Prop :=
 match ops[i]? with
 | none => K a
 | some o => if Region.wanted o (yielded ops a.tmps) then calm P w0 o a K else K (a.put o.dst undef)
def wpCalm (P : Program) (ops : Array Oper) (w0 : World) (Q : Act → Prop) : List Oper → Act → Prop
 | [], a => Q a
 | o :: rest, a => if Region.wanted o (yielded ops a.tmps) then calm P w0 o a (wpCalm P ops w0 Q rest) else wpCalm P ops w0 Q rest (a.put o.dst undef)
theorem wpCalm_nil {Q : Act → Prop} {a : Act} (h : Q a) : wpCalm P ops w0 Q [] a := h
theorem wpCalm_step {Q : Act → Prop} {a : Act} {o : Oper} {rest : List Oper}
  (h : ∀ K : Act → Prop, (∀ a, wpCalm P ops w0 Q rest a → K a) → if Region.wanted o (yielded ops a.tmps) then calm P w0 o a K else K (a.put o.dst undef)) : wpCalm P ops w0 Q (o :: rest) a :=
 h _ fun _ h => h
theorem cOp_mono {i : Nat} {a : Act} {K K' : Act → Prop} (h : ∀ a, K a → K' a) (hh : cOp P ops w0 i K a) : cOp P ops w0 i K' a := by
 unfold cOp at *
 split
 ·rename_i e; rw [e] at hh; exact h _ hh
 ·rename_i o e
  rw [e] at hh
  dsimp only at hh
  split
  ·rename_i hw; rw [if_pos hw] at hh; obtain ⟨v, h1, h2⟩ := hh; exact ⟨v, h1, h _ h2⟩
  ·rename_i hw; rw [if_neg hw] at hh; exact h _ hh
def puts (P : Program) (ops : Array Oper) (w0 : World) (o : Oper) (v : Value) (a : Act) : Prop :=
 (Region.wanted o (yielded ops a.tmps) = true ∧ calmAt P w0 o a v) ∨ (Region.wanted o (yielded ops a.tmps) = false ∧ v = undef)
theorem puts.cOp {i : Nat} {o : Oper} {v : Value} {a : Act} (hi : ops[i]? = some o) (hy : puts P ops w0 o v a) {K : Act → Prop} (h : K (a.put o.dst v)) : cOp P ops w0 i K a := by
 unfold YtdojgbpaheadnaaGreat.cOp
 rw [hi]
 dsimp only
 rcases hy with ⟨hw, hv⟩ | ⟨hw, rfl⟩
 ·rw [if_pos hw]; exact ⟨v, hv, h⟩
 ·rw [if_neg (by rw [hw]; exact Bool.false_ne_true)]; exact h
theorem puts_of_cOp {i : Nat} {o : Oper} {a : Act} {K : Act → Prop} (hi : ops[i]? = some o) (h : cOp P ops w0 i K a) : ∃ v, puts P ops w0 o v a ∧ K (a.put o.dst v) := by
 unfold cOp at h
 rw [hi] at h
 dsimp only at h
 by_cases hw : Region.wanted o (yielded ops a.tmps) = true
 ·rw [if_pos hw] at h
  obtain ⟨v, h1, h2⟩ := h
  exact ⟨v, .inl ⟨hw, h1⟩, h2⟩
 ·rw [if_neg hw] at h
  exact ⟨undef, .inr ⟨by simpa using hw, rfl⟩, h⟩
theorem puts.same {o : Oper} {v : Value} {a a' : Act} (hy : puts P ops w0 o v a) (he : execOp a'.eval o = execOp a.eval o)
  (hw : Region.wanted o (yielded ops a'.tmps) = Region.wanted o (yielded ops a.tmps)) : puts P ops w0 o v a' := by
 unfold puts calmAt at *
 rw [he, hw]; exact hy
def anyC (P : Program) (md : Region.Mode) (ops : Array Oper) (w0 : World) (Q : Act → Prop) : Nat → Array Bool → Act → Prop
 | 0, listed, a => Region.ready md ops listed = [] ∧ Q a
 | f + 1, listed, a => (Region.ready md ops listed = [] → Q a) ∧ ∀ i ∈ Region.ready md ops listed, cOp P ops w0 i (anyC P md ops w0 Q f (listed.setIfInBounds i true)) a
theorem cOp_past {j : Nat} {oi oj : Oper} {v : Value} (hj : ops[j]? = some oj) (hap : oi.apart ops oj = true)
  (hsi : ∀ cs b, oi.op ≠ .select cs b) (hsj : ∀ cs b, oj.op ≠ .select cs b) {K : Act → Prop} {a : Act}
  (hy : puts P ops w0 oi v a) (h : cOp P ops w0 j K (a.put oi.dst v)) : cOp P ops w0 j (fun a' => puts P ops w0 oi v a' ∧ K (a'.put oi.dst v)) a := by
 obtain ⟨h1, h2, h3⟩ := Oper.apart_spec hap
 obtain ⟨u, hu, hK⟩ := puts_of_cOp hj h
 have hu' : puts P ops w0 oj u a := hu.same (execOp_put oj hsj a oi.dst v h1).symm (wanted_put oj a oi.dst v h1).symm
 refine hu'.cOp hj ⟨hy.same (execOp_put oi hsi a oj.dst u h3) (wanted_put oi a oj.dst u h3), ?_⟩
 rw [← Act.put_comm a v u h2]; exact hK
theorem anyC_first {Q : Act → Prop} {i : Nat} {oi : Oper} {v : Value} (hi : ops[i]? = some oi) (hsel : ∀ (j : Nat) (o : Oper) cs b, ops[j]? = some o → o.op ≠ .select cs b) :
  ∀ (f : Nat) (listed : Array Bool) (a : Act),
   (∀ j oj, ops[j]? = some oj → j ≠ i → listed.getD j true = false → (∀ e ∈ oj.after, Region.binds md e = true → e.on ≠ i) → oi.apart ops oj = true) →
   i ∈ Region.ready md ops listed → puts P ops w0 oi v a →
   anyC P md ops w0 Q f (listed.setIfInBounds i true) (a.put oi.dst v) → anyC P md ops w0 Q (f + 1) listed a := by
 intro f
 induction f with
 | zero =>
  intro listed a _ hr hy H
  refine ⟨fun h => (by rw [h] at hr; cases hr), fun j hj => ?_⟩
  rcases Nat.decEq j i with hne | rfl
  ·have hm := ready_mono hj hne
   rw [H.1] at hm; cases hm
  ·exact hy.cOp hi H
 | succ f ih =>
  intro listed a hfree hr hy H
  refine ⟨fun h => (by rw [h] at hr; cases hr), fun j hj => ?_⟩
  rcases Nat.decEq j i with hne | rfl
  case isTrue => exact hy.cOp hi H
  have h1 := H.2 j (ready_mono hj hne)
  obtain ⟨hjun, oj, hoj, hall⟩ := mem_ready.1 hj
  have hun := (mem_ready.1 hr).1
  have hnot : ∀ e ∈ oj.after, Region.binds md e = true → e.on ≠ i := by
   intro e he hb heq
   have := hall e he hb
   rw [heq, getD_both hun] at this
   cases this
  refine cOp_mono (fun a' h3 => ih (listed.setIfInBounds j true) a' ?_ (ready_mono hr (Ne.symm hne)) h3.1 ?_) (cOp_past hoj (hfree j oj hoj hne hjun hnot) (fun cs b => hsel i oi cs b hi) (fun cs b => hsel j oj cs b hoj) hy h1)
  ·intro k ok hk hki hkun hno
   refine hfree k ok hk hki ?_ hno
   rcases Nat.decEq j k with h | rfl
   ·rwa [getD_set_ne true h] at hkun
   ·exact hjun
  ·rw [Array.setIfInBounds_comm _ _ hne]; exact h3.2
theorem anyC_lex {Q : Act → Prop} (hs : Region.noSelect ops = true) : ∀ (l : List Oper) (k : Nat) (listed : Array Bool) (a : Act), (∀ j, l[j]? = ops[k + j]?) →
  Region.lexFrom md ops l.length k listed = true → wpCalm P ops w0 Q l a → anyC P md ops w0 Q l.length listed a
 | [], _, _, _, _, hB, h => ⟨by simpa [Region.lexFrom] using hB, h⟩
 | o :: l, k, listed, a, hl, hB, h => by
  have hk : ops[k]? = some o := by simpa using (hl 0).symm
  simp only [List.length_cons, Region.lexFrom, Bool.and_eq_true] at hB
  have hc : cOp P ops w0 k (wpCalm P ops w0 Q l) a := by unfold cOp; rw [hk]; exact h
  obtain ⟨v, hy, hK⟩ := puts_of_cOp hk hc
  exact anyC_first hk (Region.noSelect_spec hs) l.length listed a (Region.free_spec hk hB.1.2) (by simpa using hB.1.1) hy
   (anyC_lex hs l (k + 1) _ _ (fun j => by have := hl (j + 1); simpa [Nat.add_assoc, Nat.add_comm 1 j] using this) hB.2 hK)
end

def vmove (o : Oper) : Oper := { o with op := .move (.const undef) }
def vtail (o : Oper) : Oper := { o with op := .move (.const undef), dst := none }
def virt (n m : Nat) : Nat → List Oper → List Oper
 | _, [] => []
 | k, o :: l => (if k = m then vmove o else if n ≤ k then vtail o else o) :: virt n m (k + 1) l
theorem virt_get (n m : Nat) : ∀ (l : List Oper) (k j : Nat), (virt n m k l)[j]? = (l[j]?).map fun o => if k + j = m then vmove o else if n ≤ k + j then vtail o else o
 | [], _, _ => by simp [virt]
 | o :: l, k, 0 => by simp [virt]
 | o :: l, k, j + 1 => by
  rw [virt, List.getElem?_cons_succ, virt_get n m l (k + 1) j, List.getElem?_cons_succ]
  have e : k + 1 + j = k + (j + 1) := by omega
  rw [e]
def tailB (l : List Oper) (n : Nat) : Bool := (List.range l.length).all fun t => decide (t < n) || ((l[t]?).all fun o => o.guard.isNone) && (List.range t).all fun i => Region.waitsFor .any l.toArray t i
def headB (l : List Oper) (n m : Nat) (d : Tmp) : Bool := (List.range n).all fun j => (l[j]?).all fun o => (o.after.all fun e => !Region.binds .any e || decide (e.on < j)) &&
 (j == m || (!(o.looksAt l.toArray).contains d && o.dst != some d)) && (match o.guard with | some (g, _) => decide (g < n) && decide (g ≠ m) | none => true)
def mkB (l : List Oper) (n m : Nat) (d : Tmp) : Bool :=
 Region.lexB .any (virt n m 0 l).toArray && decide (n < l.length) && decide (m < n) && tailB l n && headB l n m d && ((l[m]?).all fun o => o.guard.isNone && o.dst == some d) &&
 Region.seqB .any l.toArray (l.length - n) n (Array.replicate n true ++ Array.replicate (l.length - n) false)
section
variable {P : Program}
theorem wpAny_le {ops : Array Oper} {md : Region.Mode} {Q : Exit → Act → World → Prop} : ∀ (f : Nat) (listed : Array Bool) (a : Act) (w : World), wpAny P md ops Q f listed a w → wpAny P md ops Q (f + 1) listed a w
 | 0, _, _, _, h => ⟨fun _ => h.2, fun i hi => by rw [h.1] at hi; cases hi⟩
 | f + 1, _, _, _, h => ⟨h.1, fun i hi => wpOp_mono (fun a' w' h' => wpAny_le f _ a' w' h') (h.2 i hi)⟩
theorem wpAny_up {ops : Array Oper} {md : Region.Mode} {Q : Exit → Act → World → Prop} {f g : Nat} {listed : Array Bool} {a : Act} {w : World} (hg : f ≤ g) (h : wpAny P md ops Q f listed a w) : wpAny P md ops Q g listed a w := by
 induction g with
 | zero => obtain rfl : f = 0 := by omega
           exact h
 | succ g ih =>
  rcases Nat.lt_or_ge f (g + 1) with h' | h'
  ·exact wpAny_le _ _ _ _ (ih (by omega))
  ·obtain rfl : f = g + 1 := by omega
   exact h
theorem mem_virt {l : List Oper} {n m j : Nat} {listed : Array Bool} : j ∈ Region.ready .any (virt n m 0 l).toArray listed ↔ j ∈ Region.ready .any l.toArray listed := by
 rw [mem_ready, mem_ready]
 simp only [List.getElem?_toArray, virt_get, Nat.zero_add]
 cases l[j]? with
 | none => simp
 | some o =>
  simp only [Option.map_some, Option.some.injEq, exists_eq_left']
  have e : (if j = m then vmove o else if n ≤ j then vtail o else o).after = o.after := by
   split
   ·rfl
   ·split <;> rfl
  rw [e]
theorem virt_empty {l : List Oper} {n m : Nat} {listed : Array Bool} : Region.ready .any (virt n m 0 l).toArray listed = [] ↔ Region.ready .any l.toArray listed = [] := by
 rw [List.eq_nil_iff_forall_not_mem, List.eq_nil_iff_forall_not_mem]
 simp only [mem_virt]
theorem tail_end {l : List Oper} {n m : Nat} {w : World} {Q : Act → Prop} (hmn : m < n) : ∀ (r k f : Nat) (listed : Array Bool) (a : Act), n ≤ k → Region.seqB .any l.toArray r k listed = true →
  anyC P .any (virt n m 0 l).toArray w Q f listed a → Q a ∧ r ≤ f := by
 intro r
 induction r with
 | zero =>
  intro k f listed a hk hs h
  have h0 : Region.ready .any (virt n m 0 l).toArray listed = [] := virt_empty.2 (by simpa [Region.seqB] using hs)
  cases f with
  | zero => exact ⟨h.2, by omega⟩
  | succ f => exact ⟨h.1 h0, by omega⟩
 | succ r ih =>
  intro k f listed a hk hs h
  simp only [Region.seqB, Bool.and_eq_true, decide_eq_true_eq] at hs
  have hkr : k ∈ Region.ready .any (virt n m 0 l).toArray listed := by rw [mem_virt, hs.1]; simp
  cases f with
  | zero => rw [h.1] at hkr; cases hkr
  | succ f =>
   have hc := h.2 k hkr
   obtain ⟨_, o, ho, _⟩ := mem_ready.1 (mem_virt.1 hkr)
   have ho' : l[k]? = some o := by simpa using ho
   have hv : (virt n m 0 l).toArray[k]? = some (vtail o) := by
    simp only [List.getElem?_toArray, virt_get, Nat.zero_add, ho', Option.map_some]
    rw [if_neg (by omega), if_pos hk]
   obtain ⟨v, _, hK⟩ := puts_of_cOp hv hc
   have := ih (k + 1) f _ _ (by omega) hs.2 hK
   exact ⟨this.1, by omega⟩
theorem put_put (a : Act) (d : Tmp) (u v : Value) : (a.put (some d) u).put (some d) v = a.put (some d) v := by
 simp [Act.put, Array.setIfInBounds_setIfInBounds]

structure MkOk (l : List Oper) (n m : Nat) (d : Tmp) : Prop where
 hn : n < l.length
 hm : m < n
 tail : ∀ t, n ≤ t → t < l.length → ∀ i, i < t → Region.waitsFor .any l.toArray t i = true
 head : ∀ j o, j < n → l[j]? = some o → (∀ e ∈ o.after, Region.binds .any e = true → e.on < j) ∧ (j ≠ m → d ∉ o.looksAt l.toArray ∧ o.dst ≠ some d) ∧ (∀ g b, o.guard = some (g, b) → g < n ∧ g ≠ m)
 made : ∃ o, l[m]? = some o ∧ o.guard = none ∧ o.dst = some d
 seq : Region.seqB .any l.toArray (l.length - n) n (Array.replicate n true ++ Array.replicate (l.length - n) false) = true
theorem mkOk {l : List Oper} {n m : Nat} {d : Tmp} (h : mkB l n m d = true) : MkOk l n m d ∧ Region.lexB .any (virt n m 0 l).toArray = true := by
 simp only [mkB, Bool.and_eq_true, decide_eq_true_eq] at h
 obtain ⟨⟨⟨⟨⟨⟨h1, h2⟩, h3⟩, h4⟩, h5⟩, h6⟩, h7⟩ := h
 refine ⟨⟨h2, h3, ?_, ?_, ?_, h7⟩, h1⟩
 ·intro t ht htl i hi
  have := List.all_eq_true.1 h4 t (List.mem_range.2 htl)
  simp only [Bool.or_eq_true, decide_eq_true_eq, Bool.and_eq_true] at this
  rcases this with h | h
  ·omega
  ·exact List.all_eq_true.1 h.2 i (List.mem_range.2 hi)
 ·intro j o hj ho
  have := List.all_eq_true.1 h5 j (List.mem_range.2 hj)
  rw [ho] at this
  simp only [Option.all_some, Bool.and_eq_true, Bool.or_eq_true] at this
  obtain ⟨⟨a1, a2⟩, a3⟩ := this
  refine ⟨fun e he hb => ?_, fun hne => ?_, fun g b hg => ?_⟩
  ·have := Array.all_eq_true_iff_forall_mem.1 a1 e he
   simpa [hb] using this
  ·rcases a2 with h | h
   ·exact absurd (by simpa using h) hne
   ·simp at h; exact ⟨h.1, fun e => h.2 e⟩
  ·rw [hg] at a3; simpa using a3
 ·have hl : m < l.length := by omega
  rw [List.getElem?_eq_getElem hl] at h6 ⊢
  simp at h6
  exact ⟨_, rfl, h6.1, h6.2⟩
theorem getD_of {listed : Array Bool} {i : Nat} (h : listed.getD i true ≠ false) (hi : i < listed.size) : listed.getD i false = true := by
 simp [hi] at h ⊢; exact h
theorem ready_some {l : List Oper} {n m : Nat} {d : Tmp} (ok : MkOk l n m d) {listed : Array Bool} (hsz : listed.size = l.length) : ∀ i, i < n → listed.getD i true = false → ∃ j, j ∈ Region.ready .any l.toArray listed := by
 intro i
 induction i using Nat.strongRecOn with
 | _ i ih =>
  intro hi hun
  have hl : i < l.length := by have := ok.hn; omega
  by_cases h : ∃ k, k < i ∧ listed.getD k true = false
  ·obtain ⟨k, hk, hku⟩ := h
   exact ih k hk (by omega) hku
  ·refine ⟨i, mem_ready.2 ⟨hun, l[i], by simp [hl], fun e he hb => ?_⟩⟩
   have := (ok.head i l[i] hi (List.getElem?_eq_getElem hl)).1 e he hb
   exact getD_of (fun e0 => h ⟨e.on, this, e0⟩) (by omega)
theorem tail_not {l : List Oper} {n m : Nat} {d : Tmp} (ok : MkOk l n m d) {listed : Array Bool} {i t : Nat} (hi : i < n) (hun : listed.getD i true = false) (ht : n ≤ t) : t ∉ Region.ready .any l.toArray listed := by
 intro hr
 obtain ⟨_, o, ho, hall⟩ := mem_ready.1 hr
 have htl : t < l.length := by have := (Array.getElem?_eq_some_iff.1 ho).1; simpa using this
 obtain ⟨o', ho', e, he, hb, hon⟩ := Region.waitsFor_spec (ok.tail t ht htl i (by omega))
 obtain rfl : o' = o := Option.some.inj (ho'.symm.trans ho)
 have := hall e he hb
 rw [hon, getD_both hun] at this
 cases this
def Made (w : World) (m : Nat) (d : Tmp) (zs : Array Value) (T : TypeId) (listed : Array Bool) (a a' : Act) (w' : World) : Prop :=
 (listed.getD m true = false ∧ a' = a) ∨ (listed.getD m false = true ∧ ∃ g, a' = a.put (some d) (.pointer (some ⟨g, 0, none⟩)) ∧ w.heap.size ≤ g ∧ Blk w' g zs T)
theorem yielded_virt {l : List Oper} {n m g : Nat} {tmps : Array Value} (hg : g < n) (hm : g ≠ m) : yielded (virt n m 0 l).toArray tmps g = yielded l.toArray tmps g := by
 unfold yielded
 simp only [List.getElem?_toArray, virt_get, Nat.zero_add]
 cases l[g]? with
 | none => rfl
 | some o => simp only [Option.map_some, if_neg hm, if_neg (show ¬ n ≤ g by omega)]
theorem wanted_virt {l : List Oper} {n m : Nat} {o : Oper} {tmps : Array Value} (h : ∀ g b, o.guard = some (g, b) → g < n ∧ g ≠ m) : Region.wanted o (yielded (virt n m 0 l).toArray tmps) = Region.wanted o (yielded l.toArray tmps) := by
 unfold Region.wanted
 split
 ·rfl
 ·rename_i g b hg
  rw [yielded_virt (h g b hg).1 (h g b hg).2]
theorem listed_eq {n len : Nat} (hn : n ≤ len) {listed : Array Bool} (hsz : listed.size = len) (h1 : ∀ i, i < n → listed.getD i true ≠ false) (h2 : ∀ t, n ≤ t → t < len → listed.getD t true = false) :
  listed = Array.replicate n true ++ Array.replicate (len - n) false := by
 apply Array.ext
 ·simp; omega
 ·intro i hi hi'
  rcases Nat.lt_or_ge i n with h | h
  ·have := h1 i h
   rw [Array.getElem_append_left (by simpa using h)]
   simp [hi] at this ⊢; exact this
  ·have := h2 i h (by omega)
   rw [Array.getElem_append_right (by simpa using h)]
   simp [hi] at this ⊢; exact this
theorem simMk {l : List Oper} {n m : Nat} {d : Tmp} {zs : Array Value} {T : TypeId} {w : World} {Q : Exit → Act → World → Prop} {Qv : Act → Prop} (ok : MkOk l n m d) (hsel : Region.noSelect (virt n m 0 l).toArray = true)
  (hz : ∀ o, l[m]? = some o → ∀ (a : Act) (w : World), (execOp a.eval o).run P w = .ok (.value (.pointer (some ⟨w.heap.size, 0, none⟩))) (w.alloc (.cells zs T)))
  (hQ : ∀ a, Qv a → ∀ x g, w.heap.size ≤ g → Blk (over w x) g zs T → wpList P l.toArray Q (l.drop n) (a.put (some d) (.pointer (some ⟨g, 0, none⟩))) (over w x)) :
  ∀ (f : Nat) (listed : Array Bool) (a a' : Act) (w' : World), listed.size = l.length → (∀ t, n ≤ t → t < l.length → listed.getD t true = false) → (∃ x, w' = over w x) → Made w m d zs T listed a a' w' →
   anyC P .any (virt n m 0 l).toArray w Qv f listed a → wpAny P .any l.toArray Q f listed a' w' := by
 intro f
 induction f with
 | zero =>
  intro listed a a' w' hsz htl hw hM h
  have he := virt_empty.1 h.1
  by_cases hb : ∃ i, i < n ∧ listed.getD i true = false
  ·obtain ⟨i, hi, hun⟩ := hb
   obtain ⟨j, hj⟩ := ready_some ok hsz i hi hun
   rw [he] at hj; cases hj
  ·have hL := listed_eq (Nat.le_of_lt ok.hn) hsz (fun i hi e => hb ⟨i, hi, e⟩) htl
   have := (tail_end ok.hm _ n 0 listed a (Nat.le_refl _) (hL ▸ ok.seq) h).2
   have := ok.hn
   omega
 | succ f ih =>
  intro listed a a' w' hsz htl hw hM h
  by_cases hb : ∃ i, i < n ∧ listed.getD i true = false
  case neg =>
   have hL := listed_eq (Nat.le_of_lt ok.hn) hsz (fun i hi e => hb ⟨i, hi, e⟩) htl
   obtain ⟨hq, hf⟩ := tail_end ok.hm _ n (f + 1) listed a (Nat.le_refl _) (hL ▸ ok.seq) h
   rcases hM with ⟨hm, _⟩ | ⟨_, g, rfl, hg, hB⟩
   ·exact absurd ⟨m, ok.hm, hm⟩ hb
   obtain ⟨x, rfl⟩ := hw
   have hdl : (l.drop n).length = l.length - n := by simp
   have := wpAny_of_seq (P := P) (md := .any) (Q' := Q) (l.drop n) n listed _ (over w x) (fun j => by simp [List.getElem?_drop]) (by rw [hdl]; exact hL ▸ ok.seq) (hQ a hq x g hg hB)
   rw [hdl] at this
   exact wpAny_up hf this
  case pos =>
   obtain ⟨i0, hi0, hun0⟩ := hb
   refine ⟨fun h0 => ?_, fun i hi => ?_⟩
   ·obtain ⟨j, hj⟩ := ready_some ok hsz i0 hi0 hun0
    rw [h0] at hj; cases hj
   have hin : i < n := by
    rcases Nat.lt_or_ge i n with h' | h'
    ·exact h'
    ·exact absurd hi (tail_not ok hi0 hun0 h')
   have hil : i < l.length := by have := ok.hn; omega
   obtain ⟨hiu, o, ho, _⟩ := mem_ready.1 hi
   have ho' : l[i]? = some o := by simpa using ho
   have hc := h.2 i (mem_virt.2 hi)
   have hsz' : (listed.setIfInBounds i true).size = l.length := by simpa using hsz
   have htl' : ∀ t, n ≤ t → t < l.length → (listed.setIfInBounds i true).getD t true = false := fun t ht ht' => by rw [getD_set_ne true (by omega)]; exact htl t ht ht'
   have hset : (listed.setIfInBounds i true).getD i false = true := by simp [hsz, hil]
   by_cases him : i = m
   ·subst him
    obtain ⟨om, hom, hgd, hds⟩ := ok.made
    obtain rfl : om = o := Option.some.inj (hom.symm.trans ho')
    have hv : (virt n i 0 l).toArray[i]? = some (vmove om) := by
     simp only [List.getElem?_toArray, virt_get, Nat.zero_add, ho', Option.map_some, if_true]
    obtain ⟨v, _, hK⟩ := puts_of_cOp hv hc
    have hdv : (vmove om).dst = some d := hds
    rw [hdv] at hK
    rcases hM with ⟨_, rfl⟩ | ⟨hl, _⟩
    case inr => rw [getD_both hiu] at hl; cases hl
    obtain ⟨x, rfl⟩ := hw
    unfold wpOp
    rw [ho]
    dsimp only
    have hwant : Region.wanted om (yielded l.toArray a'.tmps) = true := by simp [Region.wanted, hgd]
    rw [if_pos hwant]
    refine .inl ?_
    unfold Oper.wp
    rw [hz om hom a' (over w x), Oper.upon_value, hds]
    refine ih _ (a'.put (some d) v) _ _ hsz' htl' (is_over ((below_over w x).alloc (over_size_le w x) _)) (.inr ⟨hset, (over w x).heap.size, (put_put a' d v _).symm, over_size_le w x, Blk.new _ _ _⟩) hK
   ·have hv : (virt n m 0 l).toArray[i]? = some o := by
     simp only [List.getElem?_toArray, virt_get, Nat.zero_add, ho', Option.map_some, if_neg him, if_neg (show ¬ n ≤ i by omega)]
    obtain ⟨v, hy, hK⟩ := puts_of_cOp hv hc
    obtain ⟨_, hap, hgd⟩ := ok.head i o hin ho'
    obtain ⟨hd1, hd2⟩ := hap him
    have hsl := Region.noSelect_spec hsel i o
    have hsl' : ∀ cs b, o.op ≠ .select cs b := fun cs b => hsl cs b hv
    have hwa : Region.wanted o (yielded l.toArray a'.tmps) = Region.wanted o (yielded (virt n m 0 l).toArray a.tmps) := by
     rw [wanted_virt hgd]
     rcases hM with ⟨_, rfl⟩ | ⟨_, g, rfl, _⟩
     ·rfl
     ·exact wanted_put o a (some d) _ (fun d' e => by injection e with e; rw [← e]; exact hd1)
    have hex : execOp a'.eval o = execOp a.eval o := by
     rcases hM with ⟨_, rfl⟩ | ⟨_, g, rfl, _⟩
     ·rfl
     ·exact execOp_put (ops := l.toArray) o hsl' a (some d) _ (fun d' e => by injection e with e; rw [← e]; exact hd1)
    have hgo : ∀ w'', Below w'.heap.size w' w'' → wpAny P .any l.toArray Q f (listed.setIfInBounds i true) (a'.put o.dst v) w'' := by
     intro w'' hb
     refine ih _ (a.put o.dst v) _ _ hsz' htl' ?_ ?_ hK
     ·obtain ⟨x, rfl⟩ := hw
      exact is_over ((below_over w x).trans (hb.mono (over_size_le w x)))
     ·rcases hM with ⟨hm, rfl⟩ | ⟨hm, g, rfl, hg, hB⟩
      ·exact .inl ⟨by rw [getD_set_ne true him]; exact hm, rfl⟩
      ·exact .inr ⟨getD_set_true hm, g, Act.put_comm a _ v (fun d' e => by injection e with e; rw [← e]; exact hd2), hg, hB.below hb hB.lt⟩
    unfold wpOp
    rw [ho]
    dsimp only
    rw [hwa]
    rcases hy with ⟨hw1, hcalm⟩ | ⟨hw1, rfl⟩
    ·rw [if_pos hw1]
     refine .inl ?_
     obtain ⟨x, rfl⟩ := hw
     have h3 := hcalm x
     unfold Oper.wp
     rw [hex]
     generalize (execOp a.eval o).run P (over w x) = r at h3
     cases r with
     | halt e w1 => exact h3.elim
     | ok nx w1 =>
      cases nx with
      | value u => obtain ⟨rfl, rfl⟩ := h3; exact hgo _ (Below.refl _ _)
      | skip => obtain ⟨rfl, rfl⟩ := h3; exact hgo _ (Below.refl _ _)
      | enter fn args =>
       obtain ⟨rfl, h4⟩ := h3
       rw [Oper.upon_enter]
       refine h4.mono ?_
       rintro e w2 ⟨rfl, hb⟩
       exact hgo _ hb
      | _ => exact h3.elim
    ·rw [if_neg (by rw [hw1]; exact Bool.false_ne_true)]
     exact hgo _ (Below.refl _ _)
theorem wp_region_mk {id : Nat} {Q : Exit → Act → World → Prop} {a : Act} {w : World} {l : List Oper} (n m : Nat) (d : Tmp) (zs : Array Value) (T : TypeId) (hm : P.follows .mixedOrders = true) (hB : mkB l n m d = true)
  (hz : ∀ o, l[m]? = some o → ∀ (a : Act) (w : World), (execOp a.eval o).run P w = .ok (.value (.pointer (some ⟨w.heap.size, 0, none⟩))) (w.alloc (.cells zs T)))
  (h : wpCalm P (virt n m 0 l).toArray w (fun a' => ∀ x g, w.heap.size ≤ g → Blk (over w x) g zs T → wpList P l.toArray Q (l.drop n) (a'.put (some d) (.pointer (some ⟨g, 0, none⟩))) (over w x)) (virt n m 0 l) a) :
  (Code.region id l.toArray true).wp P Q a w := by
 obtain ⟨ok, hlex⟩ := mkOk hB
 simp only [Region.lexB, Bool.and_eq_true] at hlex
 refine wp_region_any hm ?_
 have hlen : (virt n m 0 l).length = l.length := by
  have : ∀ (l : List Oper) k, (virt n m k l).length = l.length := by
   intro l
   induction l with
   | nil => intro k; rfl
   | cons o l ih => intro k; simp [virt, ih]
  exact this l 0
 have H := anyC_lex (P := P) (md := .any) (w0 := w) hlex.1 (virt n m 0 l) 0 _ a (by simp) (by simpa using hlex.2) h
 rw [hlen] at H
 have := simMk ok hlex.1 hz (fun a hq => hq) l.length (Array.replicate l.length false) a a { w with drawn := w.drawn + 1 } (by simp)
  (fun t _ ht => by simp [ht]) (is_over (Below.refl _ _).drew) (.inl ⟨by have h1 := ok.hn; have h2 := ok.hm; simp [show m < l.length by omega], rfl⟩) (by simpa [hlen] using H)
 simpa using this
end
theorem calmSame {P : Program} {f : FuncId} {args : Array Value} {v : Value} {w : World} (h : Calls P f args w fun e w' => e = .returned v ∧ w = w') :
  Calls P f args w fun e w' => e = .returned v ∧ Below w.heap.size w w' := h.mono fun _ _ ⟨he, hb⟩ => ⟨he, hb ▸ Below.refl _ _⟩
end Go.Proofs.YtdojgbpaheadnaaGreat

/- A statement whose order is open, that reads and calls functions that only make memory, and ends in a fixed tail: one walk in the order of the text serves every order. -/
namespace Go.Proofs.YtdojgbpaheadnaaGreat
open Go.RowKit
section
variable {P : Program}

def headT (l : List Oper) (n : Nat) : Bool := (List.range n).all fun j => (l[j]?).all fun o => (o.after.all fun e => !Region.binds .any e || decide (e.on < j)) && (match o.guard with | some (g, _) => decide (g < n) | none => true)
def sinkT (l : List Oper) (n : Nat) : Bool := ((List.range n).all fun i => (List.range (n + 1)).any fun j => decide (i < j) && Region.waitsFor .any l.toArray j i) && ((List.range l.length).all fun t => decide (t ≤ n) || Region.waitsFor .any l.toArray t n)
def tlB (l : List Oper) (n : Nat) : Bool :=
 Region.lexB .any (virt n l.length 0 l).toArray && decide (n < l.length) && sinkT l n && headT l n && Region.seqB .any l.toArray (l.length - n) n (Array.replicate n true ++ Array.replicate (l.length - n) false)
structure TlOk (l : List Oper) (n : Nat) : Prop where
 hn : n < l.length
 sink : ∀ i, i < n → ∃ j, i < j ∧ j ≤ n ∧ Region.waitsFor .any l.toArray j i = true
 chain : ∀ t, n < t → t < l.length → Region.waitsFor .any l.toArray t n = true
 head : ∀ j o, j < n → l[j]? = some o → (∀ e ∈ o.after, Region.binds .any e = true → e.on < j) ∧ (∀ g b, o.guard = some (g, b) → g < n)
 seq : Region.seqB .any l.toArray (l.length - n) n (Array.replicate n true ++ Array.replicate (l.length - n) false) = true
theorem tlOk {l : List Oper} {n : Nat} (h : tlB l n = true) : TlOk l n ∧ Region.lexB .any (virt n l.length 0 l).toArray = true := by
 simp only [tlB, Bool.and_eq_true, decide_eq_true_eq] at h
 obtain ⟨⟨⟨⟨h1, h2⟩, h4⟩, h5⟩, h7⟩ := h
 simp only [sinkT, Bool.and_eq_true] at h4
 refine ⟨⟨h2, fun i hi => ?_, fun t ht htl => ?_, ?_, h7⟩, h1⟩
 ·have := List.all_eq_true.1 h4.1 i (List.mem_range.2 hi)
  obtain ⟨j, hj, hh⟩ := List.any_eq_true.1 this
  simp only [Bool.and_eq_true, decide_eq_true_eq] at hh
  exact ⟨j, hh.1, by have := List.mem_range.1 hj; omega, hh.2⟩
 ·have := List.all_eq_true.1 h4.2 t (List.mem_range.2 htl)
  simp only [Bool.or_eq_true, decide_eq_true_eq] at this
  rcases this with h | h
  ·omega
  ·exact h
 ·intro j o hj ho
  have := List.all_eq_true.1 h5 j (List.mem_range.2 hj)
  rw [ho] at this
  simp only [Option.all_some, Bool.and_eq_true] at this
  obtain ⟨a1, a3⟩ := this
  refine ⟨fun e he hb => ?_, fun g b hg => ?_⟩
  ·have := Array.all_eq_true_iff_forall_mem.1 a1 e he
   simpa [hb] using this
  ·rw [hg] at a3; simpa using a3
theorem tail_endT {l : List Oper} {n : Nat} {w : World} {Q : Act → Prop} : ∀ (r k f : Nat) (listed : Array Bool) (a : Act), n ≤ k → Region.seqB .any l.toArray r k listed = true →
  anyC P .any (virt n l.length 0 l).toArray w Q f listed a → Q a ∧ r ≤ f := by
 intro r
 induction r with
 | zero =>
  intro k f listed a hk hs h
  have h0 : Region.ready .any (virt n l.length 0 l).toArray listed = [] := virt_empty.2 (by simpa [Region.seqB] using hs)
  cases f with
  | zero => exact ⟨h.2, by omega⟩
  | succ f => exact ⟨h.1 h0, by omega⟩
 | succ r ih =>
  intro k f listed a hk hs h
  simp only [Region.seqB, Bool.and_eq_true, decide_eq_true_eq] at hs
  have hkr : k ∈ Region.ready .any (virt n l.length 0 l).toArray listed := by rw [mem_virt, hs.1]; simp
  cases f with
  | zero => rw [h.1] at hkr; cases hkr
  | succ f =>
   have hc := h.2 k hkr
   obtain ⟨_, o, ho, _⟩ := mem_ready.1 (mem_virt.1 hkr)
   have ho' : l[k]? = some o := by simpa using ho
   have hkl : k < l.length := (List.getElem?_eq_some_iff.1 ho').1
   have hv : (virt n l.length 0 l).toArray[k]? = some (vtail o) := by
    simp only [List.getElem?_toArray, virt_get, Nat.zero_add, ho', Option.map_some]
    rw [if_neg (by omega), if_pos hk]
   obtain ⟨v, _, hK⟩ := puts_of_cOp hv hc
   have := ih (k + 1) f _ _ (by omega) hs.2 hK
   exact ⟨this.1, by omega⟩
theorem ready_someT {l : List Oper} {n : Nat} (ok : TlOk l n) {listed : Array Bool} (hsz : listed.size = l.length) : ∀ i, i < n → listed.getD i true = false → ∃ j, j ∈ Region.ready .any l.toArray listed := by
 intro i
 induction i using Nat.strongRecOn with
 | _ i ih =>
  intro hi hun
  have hl : i < l.length := by have := ok.hn; omega
  by_cases h : ∃ k, k < i ∧ listed.getD k true = false
  ·obtain ⟨k, hk, hku⟩ := h
   exact ih k hk (by omega) hku
  ·refine ⟨i, mem_ready.2 ⟨hun, l[i], by simp [hl], fun e he hb => ?_⟩⟩
   have := (ok.head i l[i] hi (List.getElem?_eq_getElem hl)).1 e he hb
   exact getD_of (fun e0 => h ⟨e.on, this, e0⟩) (by omega)
def Shut (l : List Oper) (listed : Array Bool) : Prop := ∀ j o, l[j]? = some o → listed.getD j false = true → ∀ e ∈ o.after, Region.binds .any e = true → listed.getD e.on false = true
theorem Shut.set {l : List Oper} {listed : Array Bool} {i : Nat} (h : Shut l listed) (hr : i ∈ Region.ready .any l.toArray listed) : Shut l (listed.setIfInBounds i true) := by
 obtain ⟨_, oi, hoi, hall⟩ := mem_ready.1 hr
 intro j o ho hj e he hb
 by_cases hji : i = j
 ·subst hji
  obtain rfl : oi = o := Option.some.inj (hoi.symm.trans (by simpa using ho))
  exact getD_set_true (hall e he hb)
 ·rw [getD_set_ne false hji] at hj
  exact getD_set_true (h j o ho hj e he hb)
theorem all_listed {l : List Oper} {n : Nat} (ok : TlOk l n) {listed : Array Bool} (h : Shut l listed) (hr : n ∈ Region.ready .any l.toArray listed) : ∀ (d i : Nat), i < n → n ≤ i + d → listed.getD i false = true := by
 intro d
 induction d with
 | zero => intro i hi hd; omega
 | succ d ih =>
  intro i hi hd
  obtain ⟨j, hij, hjn, hw⟩ := ok.sink i hi
  obtain ⟨o, ho, e, he, hb, hon⟩ := Region.waitsFor_spec hw
  by_cases hjn' : j = n
  ·subst hjn'
   obtain ⟨_, o', ho', hall⟩ := mem_ready.1 hr
   obtain rfl : o' = o := Option.some.inj (ho'.symm.trans ho)
   rw [← hon]; exact hall e he hb
  ·have hj := ih j (by omega) (by omega)
   rw [← hon]; exact h j o (by simpa using ho) hj e he hb
theorem tail_notT {l : List Oper} {n : Nat} (ok : TlOk l n) {listed : Array Bool} (h : Shut l listed) (htl : ∀ t, n ≤ t → t < l.length → listed.getD t true = false) {i t : Nat} (hi : i < n) (hun : listed.getD i true = false) (ht : n ≤ t) : t ∉ Region.ready .any l.toArray listed := by
 intro hr
 by_cases htn : t = n
 ·subst htn
  have := all_listed ok h hr t i hi (by omega)
  rw [getD_both hun] at this; cases this
 ·obtain ⟨_, o, ho, hall⟩ := mem_ready.1 hr
  have htlen : t < l.length := by have := (Array.getElem?_eq_some_iff.1 ho).1; simpa using this
  obtain ⟨o', ho', e, he, hb, hon⟩ := Region.waitsFor_spec (ok.chain t (by omega) htlen)
  obtain rfl : o' = o := Option.some.inj (ho'.symm.trans ho)
  have := hall e he hb
  rw [hon, getD_both (htl n (Nat.le_refl _) ok.hn)] at this
  cases this
theorem simT {l : List Oper} {n : Nat} {w : World} {Q : Exit → Act → World → Prop} {Qv : Act → Prop} (ok : TlOk l n)
  (hQ : ∀ a, Qv a → ∀ x, wpList P l.toArray Q (l.drop n) a (over w x)) :
  ∀ (f : Nat) (listed : Array Bool) (a : Act) (w' : World), listed.size = l.length → (∀ t, n ≤ t → t < l.length → listed.getD t true = false) → Shut l listed → (∃ x, w' = over w x) →
   anyC P .any (virt n l.length 0 l).toArray w Qv f listed a → wpAny P .any l.toArray Q f listed a w' := by
 intro f
 induction f with
 | zero =>
  intro listed a w' hsz htl hsh hw h
  have he := virt_empty.1 h.1
  by_cases hb : ∃ i, i < n ∧ listed.getD i true = false
  ·obtain ⟨i, hi, hun⟩ := hb
   obtain ⟨j, hj⟩ := ready_someT ok hsz i hi hun
   rw [he] at hj; cases hj
  ·have hL := listed_eq (Nat.le_of_lt ok.hn) hsz (fun i hi e => hb ⟨i, hi, e⟩) htl
   have := (tail_endT _ n 0 listed a (Nat.le_refl _) (hL ▸ ok.seq) h).2
   have := ok.hn
   omega
 | succ f ih =>
  intro listed a w' hsz htl hsh hw h
  by_cases hb : ∃ i, i < n ∧ listed.getD i true = false
  case neg =>
   have hL := listed_eq (Nat.le_of_lt ok.hn) hsz (fun i hi e => hb ⟨i, hi, e⟩) htl
   obtain ⟨hq, hf⟩ := tail_endT _ n (f + 1) listed a (Nat.le_refl _) (hL ▸ ok.seq) h
   obtain ⟨x, rfl⟩ := hw
   have hdl : (l.drop n).length = l.length - n := by simp
   have := wpAny_of_seq (P := P) (md := .any) (Q' := Q) (l.drop n) n listed _ (over w x) (fun j => by simp [List.getElem?_drop]) (by rw [hdl]; exact hL ▸ ok.seq) (hQ a hq x)
   rw [hdl] at this
   exact wpAny_up hf this
  case pos =>
   obtain ⟨i0, hi0, hun0⟩ := hb
   refine ⟨fun h0 => ?_, fun i hi => ?_⟩
   ·obtain ⟨j, hj⟩ := ready_someT ok hsz i0 hi0 hun0
    rw [h0] at hj; cases hj
   have hin : i < n := by
    rcases Nat.lt_or_ge i n with h' | h'
    ·exact h'
    ·exact absurd hi (tail_notT ok hsh htl hi0 hun0 h')
   have hil : i < l.length := by have := ok.hn; omega
   obtain ⟨hiu, o, ho, _⟩ := mem_ready.1 hi
   have ho' : l[i]? = some o := by simpa using ho
   have hc := h.2 i (mem_virt.2 hi)
   have hsz' : (listed.setIfInBounds i true).size = l.length := by simpa using hsz
   have htl' : ∀ t, n ≤ t → t < l.length → (listed.setIfInBounds i true).getD t true = false := fun t ht ht' => by rw [getD_set_ne true (by omega)]; exact htl t ht ht'
   have hv : (virt n l.length 0 l).toArray[i]? = some o := by
    simp only [List.getElem?_toArray, virt_get, Nat.zero_add, ho', Option.map_some, if_neg (show ¬ i = l.length by omega), if_neg (show ¬ n ≤ i by omega)]
   obtain ⟨v, hy, hK⟩ := puts_of_cOp hv hc
   obtain ⟨_, hgd⟩ := ok.head i o hin ho'
   have hwa : Region.wanted o (yielded l.toArray a.tmps) = Region.wanted o (yielded (virt n l.length 0 l).toArray a.tmps) := by
    rw [wanted_virt (fun g b hg => ⟨hgd g b hg, by have := hgd g b hg; have := ok.hn; omega⟩)]
   have hgo : ∀ w'', Below w'.heap.size w' w'' → wpAny P .any l.toArray Q f (listed.setIfInBounds i true) (a.put o.dst v) w'' := by
    intro w'' hb
    refine ih _ (a.put o.dst v) _ hsz' htl' (hsh.set hi) ?_ hK
    obtain ⟨x, rfl⟩ := hw
    exact is_over ((below_over w x).trans (hb.mono (over_size_le w x)))
   unfold wpOp
   rw [ho]
   dsimp only
   rw [hwa]
   rcases hy with ⟨hw1, hcalm⟩ | ⟨hw1, rfl⟩
   ·rw [if_pos hw1]
    refine .inl ?_
    obtain ⟨x, rfl⟩ := hw
    have h3 := hcalm x
    unfold Oper.wp
    generalize (execOp a.eval o).run P (over w x) = r at h3
    cases r with
    | halt e w1 => exact h3.elim
    | ok nx w1 =>
     cases nx with
     | value u => obtain ⟨rfl, rfl⟩ := h3; exact hgo _ (Below.refl _ _)
     | skip => obtain ⟨rfl, rfl⟩ := h3; exact hgo _ (Below.refl _ _)
     | enter fn args =>
      obtain ⟨rfl, h4⟩ := h3
      rw [Oper.upon_enter]
      refine h4.mono ?_
      rintro e w2 ⟨rfl, hb⟩
      exact hgo _ hb
     | _ => exact h3.elim
   ·rw [if_neg (by rw [hw1]; exact Bool.false_ne_true)]
    exact hgo _ (Below.refl _ _)
theorem wp_region_tl {id : Nat} {Q : Exit → Act → World → Prop} {a : Act} {w : World} {l : List Oper} (n : Nat) (hm : P.follows .mixedOrders = true) (hB : tlB l n = true)
  (h : wpCalm P (virt n l.length 0 l).toArray w (fun a' => ∀ x, wpList P l.toArray Q (l.drop n) a' (over w x)) (virt n l.length 0 l) a) :
  (Code.region id l.toArray true).wp P Q a w := by
 obtain ⟨ok, hlex⟩ := tlOk hB
 simp only [Region.lexB, Bool.and_eq_true] at hlex
 refine wp_region_any hm ?_
 have hlen : (virt n l.length 0 l).length = l.length := by
  have : ∀ (m : Nat) (l : List Oper) k, (virt n m k l).length = l.length := by
   intro m l
   induction l with
   | nil => intro k; rfl
   | cons o l ih => intro k; simp [virt, ih]
  exact this _ l 0
 have H := anyC_lex (P := P) (md := .any) (w0 := w) hlex.1 (virt n l.length 0 l) 0 _ a (by simp) (by simpa using hlex.2) h
 rw [hlen] at H
 have := simT ok (fun a hq => hq) l.length (Array.replicate l.length false) a { w with drawn := w.drawn + 1 } (by simp)
  (fun t _ ht => by simp [ht]) (fun j o ho hj => by
   have hjl : j < l.length := (List.getElem?_eq_some_iff.1 ho).1
   simp [hjl] at hj) (is_over (Below.refl _ _).drew) (by simpa [hlen] using H)
 simpa using this
end
end Go.Proofs.YtdojgbpaheadnaaGreat

/- A statement whose order is open, and whose last operations come last in a fixed order: the others are a statement of their own. -/
namespace Go.Proofs.YtdojgbpaheadnaaGreat
open Go.RowKit
section
variable {P : Program}
theorem Oper.wp_exits {o : Oper} {a : Act} {w : World} {K : Act → World → Prop} {Q Q' : Exit → Act → World → Prop} (hp : ∀ c a w, Q' (.panic c) a w → Q (.panic c) a w) (ho : LetsOut Q' → LetsOut Q)
  (hh : o.wp P a w K Q') : o.wp P a w K Q := by
 unfold Oper.wp at *
 generalize (execOp a.eval o).run P w = r at *
 cases r with
 | ok n w' =>
  cases n <;> simp only [Oper.upon] at hh ⊢ <;>
   first
    | exact hh
    | exact Calls.mono hh (fun e w'' he => by cases e <;> first | exact hp _ _ _ he | exact ho he | exact he)
 | halt x w' => cases x <;> simp only [Oper.upon] at hh ⊢ <;> first | exact hp _ _ _ hh | exact hh
def spB (l : List Oper) (n : Nat) : Bool :=
 decide (n < l.length) && sinkT l n && headT l n && Region.seqB .any l.toArray (l.length - n) n (Array.replicate n true ++ Array.replicate (l.length - n) false)
theorem spOk {l : List Oper} {n : Nat} (h : spB l n = true) : TlOk l n := by
 simp only [spB, Bool.and_eq_true, decide_eq_true_eq] at h
 obtain ⟨⟨⟨h2, h4⟩, h5⟩, h7⟩ := h
 simp only [sinkT, Bool.and_eq_true] at h4
 refine ⟨h2, fun i hi => ?_, fun t ht htl => ?_, ?_, h7⟩
 ·have := List.all_eq_true.1 h4.1 i (List.mem_range.2 hi)
  obtain ⟨j, hj, hh⟩ := List.any_eq_true.1 this
  simp only [Bool.and_eq_true, decide_eq_true_eq] at hh
  exact ⟨j, hh.1, by have := List.mem_range.1 hj; omega, hh.2⟩
 ·have := List.all_eq_true.1 h4.2 t (List.mem_range.2 htl)
  simp only [Bool.or_eq_true, decide_eq_true_eq] at this
  rcases this with h | h
  ·omega
  ·exact h
 ·intro j o hj ho
  have := List.all_eq_true.1 h5 j (List.mem_range.2 hj)
  rw [ho] at this
  simp only [Option.all_some, Bool.and_eq_true] at this
  obtain ⟨a1, a3⟩ := this
  refine ⟨fun e he hb => ?_, fun g b hg => ?_⟩
  ·have := Array.all_eq_true_iff_forall_mem.1 a1 e he
   simpa [hb] using this
  ·rw [hg] at a3; simpa using a3
theorem yielded_take {l : List Oper} {n g : Nat} {tmps : Array Value} (hg : g < n) : yielded (l.take n).toArray tmps g = yielded l.toArray tmps g := by
 unfold yielded
 simp only [List.getElem?_toArray, List.getElem?_take_of_lt hg]
theorem wanted_take {l : List Oper} {n : Nat} {o : Oper} {tmps : Array Value} (h : ∀ g b, o.guard = some (g, b) → g < n) : Region.wanted o (yielded (l.take n).toArray tmps) = Region.wanted o (yielded l.toArray tmps) := by
 unfold Region.wanted
 split
 ·rfl
 ·rename_i g b hg
  rw [yielded_take (h g b hg)]
theorem getD_tf {L : Array Bool} {i : Nat} (hi : i < L.size) : L.getD i true = L.getD i false := by simp [hi]
theorem ready_take {l : List Oper} {n : Nat} (ok : TlOk l n) {H L : Array Bool} (h1 : H.size = n) (h2 : L.size = l.length) (h : ∀ i, i < n → H.getD i true = L.getD i true) {i : Nat} (hi : i < n) :
  i ∈ Region.ready .any (l.take n).toArray H ↔ i ∈ Region.ready .any l.toArray L := by
 have hn := ok.hn
 have hF : ∀ j, j < n → H.getD j false = L.getD j false := fun j hj => by rw [← getD_tf (by omega), ← getD_tf (by omega), h j hj]
 constructor
 ·intro hr
  obtain ⟨g1, o, g2, g3⟩ := mem_ready.1 hr
  have g2' : l[i]? = some o := by simpa [List.getElem?_take_of_lt hi] using g2
  refine mem_ready.2 ⟨by rw [← h i hi]; exact g1, o, by simpa using g2', fun e he hb => ?_⟩
  rw [← hF _ (by have := (ok.head i o hi g2').1 e he hb; omega)]
  exact g3 e he hb
 ·intro hr
  obtain ⟨g1, o, g2, g3⟩ := mem_ready.1 hr
  have g2' : l[i]? = some o := by simpa using g2
  refine mem_ready.2 ⟨by rw [h i hi]; exact g1, o, by simpa [List.getElem?_take_of_lt hi] using g2', fun e he hb => ?_⟩
  rw [hF _ (by have := (ok.head i o hi g2').1 e he hb; omega)]
  exact g3 e he hb
theorem simS {l : List Oper} {n : Nat} {Q Q' : Exit → Act → World → Prop} (ok : TlOk l n) (hp : ∀ c a w, Q' (.panic c) a w → Q (.panic c) a w) (ho : LetsOut Q' → LetsOut Q)
  (hQ : ∀ a w, Q' .normal a w → wpList P l.toArray Q (l.drop n) a w) :
  ∀ (f : Nat) (H L : Array Bool) (a : Act) (w : World), H.size = n → L.size = l.length → (∀ i, i < n → H.getD i true = L.getD i true) → (∀ t, n ≤ t → t < l.length → L.getD t true = false) → Shut l L →
   wpAny P .any (l.take n).toArray Q' f H a w → wpAny P .any l.toArray Q (f + (l.length - n)) L a w := by
 have hn := ok.hn
 have fin : ∀ (L : Array Bool) (a : Act) (w : World), L.size = l.length → (¬ ∃ i, i < n ∧ L.getD i true = false) → (∀ t, n ≤ t → t < l.length → L.getD t true = false) → Q' .normal a w → wpAny P .any l.toArray Q (l.length - n) L a w := by
  intro L a w hsz hb htl hq
  have hL := listed_eq (Nat.le_of_lt hn) hsz (fun i hi e => hb ⟨i, hi, e⟩) htl
  have hdl : (l.drop n).length = l.length - n := by simp
  have := wpAny_of_seq (P := P) (md := .any) (Q' := Q) (l.drop n) n L a w (fun j => by simp [List.getElem?_drop]) (by rw [hdl]; exact hL ▸ ok.seq) (hQ a w hq)
  rwa [hdl] at this
 intro f
 induction f with
 | zero =>
  intro H L a w h1 h2 hHL htl hsh h
  by_cases hb : ∃ i, i < n ∧ L.getD i true = false
  ·obtain ⟨i, hi, hun⟩ := hb
   obtain ⟨j, hj⟩ := ready_someT ok h2 i hi hun
   have hjn : j < n := by
    rcases Nat.lt_or_ge j n with h' | h'
    ·exact h'
    ·exact absurd hj (tail_notT ok hsh htl hi hun h')
   have := (ready_take ok h1 h2 hHL hjn).2 hj
   rw [h.1] at this; cases this
  ·rw [Nat.zero_add]
   exact fin L a w h2 hb htl h.2
 | succ f ih =>
  intro H L a w h1 h2 hHL htl hsh h
  by_cases hb : ∃ i, i < n ∧ L.getD i true = false
  case neg =>
   have h0 : Region.ready .any (l.take n).toArray H = [] := by
    rcases hr : Region.ready .any (l.take n).toArray H with _ | ⟨j, r⟩
    ·rfl
    ·have hj : j ∈ Region.ready .any (l.take n).toArray H := by rw [hr]; exact List.mem_cons_self ..
     obtain ⟨g1, o, g2, _⟩ := mem_ready.1 hj
     have hjn : j < n := by
      have := (Array.getElem?_eq_some_iff.1 g2).1
      simp at this; omega
     exact absurd ⟨j, hjn, by rw [← hHL j hjn]; exact g1⟩ hb
   exact wpAny_up (by omega) (fin L a w h2 hb htl (h.1 h0))
  case pos =>
   obtain ⟨i0, hi0, hun0⟩ := hb
   rw [show f + 1 + (l.length - n) = (f + (l.length - n)) + 1 by omega]
   refine ⟨fun h0 => ?_, fun i hi => ?_⟩
   ·obtain ⟨j, hj⟩ := ready_someT ok h2 i0 hi0 hun0
    rw [h0] at hj; cases hj
   have hin : i < n := by
    rcases Nat.lt_or_ge i n with h' | h'
    ·exact h'
    ·exact absurd hi (tail_notT ok hsh htl hi0 hun0 h')
   obtain ⟨hiu, o, hoa, _⟩ := mem_ready.1 hi
   have hol : l[i]? = some o := by simpa using hoa
   have hot : (l.take n).toArray[i]? = some o := by simpa [List.getElem?_take_of_lt hin] using hol
   have hc := h.2 i ((ready_take ok h1 h2 hHL hin).2 hi)
   have hK : ∀ a' w', wpAny P .any (l.take n).toArray Q' f (H.setIfInBounds i true) a' w' → wpAny P .any l.toArray Q (f + (l.length - n)) (L.setIfInBounds i true) a' w' := fun a' w' h' =>
    ih _ _ a' w' (by simpa using h1) (by simpa using h2) (fun j hj => by
     by_cases e : i = j
     ·subst e; simp [h1, h2, hin, show i < l.length by omega]
     ·rw [getD_set_ne true e, getD_set_ne true e]; exact hHL j hj)
     (fun t ht ht' => by rw [getD_set_ne true (by omega)]; exact htl t ht ht') (hsh.set hi) h'
   unfold wpOp at hc ⊢
   rw [hot] at hc
   rw [hoa]
   dsimp only at hc ⊢
   rw [wanted_take (fun g b hg => (ok.head i o hin hol).2 g b hg)] at hc
   split
   ·rename_i hw
    rw [if_pos hw] at hc
    exact hc.imp (fun h' => Oper.wp_exits hp ho (Oper.wp_mono hK h')) (fun ⟨h', h''⟩ => ⟨h', ho h''⟩)
   ·rename_i hw
    rw [if_neg hw] at hc
    exact hK _ _ hc
def endN (Q : Exit → Act → World → Prop) (R : Act → World → Prop) : Exit → Act → World → Prop
 | .normal, a, w => R a w
 | e, a, w => Q e a w
theorem wp_region_sp {id : Nat} {Q : Exit → Act → World → Prop} {a : Act} {w : World} {l : List Oper} (n : Nat) (S : World → Prop) (hm : P.follows .mixedOrders = true) (hB : spB l n = true)
  (h : wpAnyH P .any (l.take n).toArray (endN Q (fun a' w' => wpList P l.toArray Q (l.drop n) a' w')) S n (Array.replicate n false) a w.drew) :
  (Code.region id l.toArray true).wp P Q a w := by
 have ok := spOk hB
 have hn := ok.hn
 refine wp_region_any hm ?_
 have := simS (P := P) (Q := Q) (Q' := endN Q (fun a' w' => wpList P l.toArray Q (l.drop n) a' w')) ok (fun _ _ _ h => h) (fun ⟨a, w, h⟩ => ⟨a, w, h⟩) (fun _ _ h => h) n (Array.replicate n false) (Array.replicate l.length false) a w.drew
  (by simp) (by simp) (fun i hi => by simp [hi, show i < l.length by omega]) (fun t _ ht => by simp [ht]) (fun j o ho hj => by
   have hjl : j < l.length := (List.getElem?_eq_some_iff.1 ho).1
   simp [hjl] at hj) (wpAny_of_held _ _ _ _ h)
 rw [show n + (l.length - n) = l.length by omega] at this
 simpa using this
theorem held_step {ops : Array Oper} {Q : Exit → Act → World → Prop} {md : Region.Mode} {S : World → Prop} {fuel : Nat} {listed : Array Bool} {a : Act} {w : World} {i : Nat} {o : Oper} {rs : List Nat} (ho : ops[i]? = some o)
  (h : ∀ K' : Act → World → Prop, (∀ a w, S w → wpAnyH P md ops Q S fuel (listed.setIfInBounds i true) a w → K' a w) → if Region.wanted o (yielded ops a.tmps) = true then Oper.wp P o a w K' Q else K' (a.put o.dst undef) w)
  (hs : AllReadyH P md ops Q S fuel listed a w rs) : AllReadyH P md ops Q S fuel listed a w (i :: rs) :=
 AllReadyH.cons ho (fun K' hK => h K' (fun a w h1 h2 => hK.out a w h1 fun _ => h2)) hs
end
end Go.Proofs.YtdojgbpaheadnaaGreat

/- A statement whose order is open: one relation of what is listed, the frame and the world serves every order: each operation is met once. -/
namespace Go.Proofs.YtdojgbpaheadnaaGreat
open Go.RowKit
section
variable {P : Program} {md : Region.Mode}

def lowB (md : Region.Mode) (ops : Array Oper) : Bool := (List.range ops.size).all fun j => (ops[j]?).all fun o => o.after.all fun e => !Region.binds md e || decide (e.on < j)
theorem lowB_spec {ops : Array Oper} (h : lowB md ops = true) {j : Nat} {o : Oper} (ho : ops[j]? = some o) {e} (he : e ∈ o.after) (hb : Region.binds md e = true) : e.on < j := by
 have hj : j < ops.size := (Array.getElem?_eq_some_iff.1 ho).1
 have h1 := List.all_eq_true.1 h j (List.mem_range.2 hj)
 rw [ho] at h1
 simp only [Option.all_some] at h1
 have := Array.all_eq_true_iff_forall_mem.1 h1 e he
 simpa [hb] using this
def unl (L : Array Bool) : Nat → Nat
 | 0 => 0
 | n + 1 => unl L n + if L.getD n true = false then 1 else 0
theorem unl_set_ge {L : Array Bool} {i : Nat} : ∀ n, n ≤ i → unl (L.setIfInBounds i true) n = unl L n
 | 0, _ => rfl
 | n + 1, h => by rw [unl, unl, unl_set_ge n (by omega), getD_set_ne true (by omega)]
theorem unl_set {L : Array Bool} {i : Nat} (hi : L.getD i true = false) (hs : i < L.size) : ∀ n, i < n → unl (L.setIfInBounds i true) n + 1 = unl L n
 | 0, h => by omega
 | n + 1, h => by
  rw [unl, unl]
  by_cases e : i = n
  ·subst e
   rw [unl_set_ge i (Nat.le_refl _), hi]
   simp [hs]
  ·have := unl_set hi hs n (by omega)
   rw [getD_set_ne true e]
   omega
theorem unl_pos {L : Array Bool} {i : Nat} (hi : L.getD i true = false) : ∀ n, i < n → 0 < unl L n
 | 0, h => by omega
 | n + 1, h => by
  rw [unl]
  by_cases e : i = n
  ·subst e; rw [hi]; simp
  ·have := unl_pos hi n (by omega); omega
theorem all_of_ready {ops : Array Oper} (hl : lowB md ops = true) {L : Array Bool} (hr : Region.ready md ops L = []) (hs : L.size = ops.size) : ∀ i, i < ops.size → L.getD i true = true := by
 intro i
 induction i using Nat.strongRecOn with
 | _ i ih =>
  intro hi
  cases e : L.getD i true with
  | true => rfl
  | false =>
   have : i ∈ Region.ready md ops L := mem_ready.2 ⟨e, ops[i], by simp [hi], fun e' he hb => by
    have h1 := lowB_spec hl (j := i) (o := ops[i]) (by simp [hi]) he hb
    have := ih e'.on h1 (by omega)
    rw [← getD_tf (by omega)]; exact this⟩
   rw [hr] at this; cases this
theorem wpAnyH_inv {ops : Array Oper} {Q : Exit → Act → World → Prop} {S : World → Prop} (I : Array Bool → Act → World → Prop) (hl : lowB md ops = true) (hS : ∀ L a w, I L a w → S w)
  (step : ∀ L a w, I L a w → ∀ i o, ops[i]? = some o → L.getD i true = false → L.size = ops.size → (∀ e ∈ o.after, Region.binds md e = true → L.getD e.on false = true) →
   ∀ K : Act → World → Prop, (∀ a' w', I (L.setIfInBounds i true) a' w' → K a' w') → if Region.wanted o (yielded ops a.tmps) = true then Oper.wp P o a w K Q else K (a.put o.dst undef) w)
  (fin : ∀ L a w, I L a w → L.size = ops.size → (∀ i, i < ops.size → L.getD i true = true) → Q .normal a w) :
  ∀ (fuel : Nat) (L : Array Bool) (a : Act) (w : World), L.size = ops.size → unl L ops.size ≤ fuel → I L a w → wpAnyH P md ops Q S fuel L a w := by
 intro fuel
 induction fuel with
 | zero =>
  intro L a w hs hu hI
  have hr : Region.ready md ops L = [] := by
   rcases hr : Region.ready md ops L with _ | ⟨j, r⟩
   ·rfl
   ·have hj : j ∈ Region.ready md ops L := by rw [hr]; exact List.mem_cons_self ..
    obtain ⟨g1, o, g2, _⟩ := mem_ready.1 hj
    have := unl_pos g1 ops.size (Array.getElem?_eq_some_iff.1 g2).1
    omega
  exact ⟨hr, fin L a w hI hs (all_of_ready hl hr hs)⟩
 | succ fuel ih =>
  intro L a w hs hu hI
  refine ⟨fun hr => fin L a w hI hs (all_of_ready hl hr hs), fun i hi => ?_⟩
  obtain ⟨g1, o, g2, g3⟩ := mem_ready.1 hi
  have hio := (Array.getElem?_eq_some_iff.1 g2).1
  have hst := step L a w hI i o g2 g1 hs g3 (fun a' w' => S w' ∧ wpAnyH P md ops Q S fuel (L.setIfInBounds i true) a' w') fun a' w' hI' =>
   ⟨hS _ _ _ hI', ih _ a' w' (by simpa using hs) (by have := unl_set g1 (by omega) ops.size hio; omega) hI'⟩
  unfold wpOp
  rw [g2]
  dsimp only
  split
  ·rename_i hw; rw [if_pos hw] at hst; exact .inl hst
  ·rename_i hw; rw [if_neg hw] at hst; exact hst
end
end Go.Proofs.YtdojgbpaheadnaaGreat

/- A statement whose order is open, shown apart from what follows it. -/
namespace Go.Proofs.YtdojgbpaheadnaaGreat
open Go.RowKit

theorem wpAnyH_inv0 {P : Program} {md : Region.Mode} {ops : Array Oper} {Q : Exit → Act → World → Prop} {S : World → Prop} (I : Act → Array Bool → Act → World → Prop) {fuel : Nat} {L0 : Array Bool} {a0 : Act} {w0 : World} (hl : lowB md ops = true)
  (hs : L0.size = ops.size) (hu : (unl L0 ops.size).ble fuel = true) (h0 : I a0 L0 a0 w0) (hS : ∀ L a w, I a0 L a w → S w)
  (step : ∀ L a w, I a0 L a w → ∀ i o, ops[i]? = some o → L.getD i true = false → L.size = ops.size → (∀ e ∈ o.after, Region.binds md e = true → L.getD e.on false = true) →
   ∀ K : Act → World → Prop, (∀ a' w', I a0 (L.setIfInBounds i true) a' w' → K a' w') → if Region.wanted o (yielded ops a.tmps) = true then Oper.wp P o a w K Q else K (a.put o.dst undef) w)
  (fin : ∀ L a w, I a0 L a w → L.size = ops.size → (∀ i, i < ops.size → L.getD i true = true) → Q .normal a w) : wpAnyH P md ops Q S fuel L0 a0 w0 :=
 wpAnyH_inv (I a0) hl hS step fin fuel L0 a0 w0 hs (Nat.le_of_ble_eq_true hu) h0
def only (R : Act → World → Prop) (e : Exit) (a : Act) (w : World) : Prop := e = .normal ∧ R a w
theorem only_panic {R : Act → World → Prop} {c : List PanicEntry} {a a' : Act} {w w' : World} (h : only R (.panic c) a w) : only R (.panic c) a' w' := nomatch h.1
theorem wpAnyH_mono {P : Program} {md : Region.Mode} {ops : Array Oper} {Q Q' : Exit → Act → World → Prop} {S : World → Prop} (hp : ∀ c a w, Q' (.panic c) a w → Q (.panic c) a w) (ho : LetsOut Q' → LetsOut Q) (hn : ∀ a w, Q' .normal a w → Q .normal a w) :
  ∀ (fuel : Nat) (L : Array Bool) (a : Act) (w : World), wpAnyH P md ops Q' S fuel L a w → wpAnyH P md ops Q S fuel L a w := by
 intro fuel
 induction fuel with
 | zero => intro L a w h; exact ⟨h.1, hn _ _ h.2⟩
 | succ fuel ih =>
  intro L a w h
  refine ⟨fun e => hn _ _ (h.1 e), fun i hi => ?_⟩
  have hc := h.2 i hi
  have hK : ∀ a' w', (S w' ∧ wpAnyH P md ops Q' S fuel (L.setIfInBounds i true) a' w') → (S w' ∧ wpAnyH P md ops Q S fuel (L.setIfInBounds i true) a' w') := fun a' w' h' => ⟨h'.1, ih _ _ _ h'.2⟩
  unfold wpOp at hc ⊢
  split at hc
  ·exact hK _ _ hc
  ·split
   ·rename_i hw
    rw [if_pos hw] at hc
    exact hc.imp (fun h' => Oper.wp_exits hp ho (Oper.wp_mono hK h')) (fun ⟨h', h''⟩ => ⟨h', ho h''⟩)
   ·rename_i hw
    rw [if_neg hw] at hc
    exact hK _ _ hc
theorem wpAnyH_genI {P : Program} {md : Region.Mode} {ops : Array Oper} {Q : Exit → Act → World → Prop} {S : World → Prop} (I : Act → Array Bool → Act → World → Prop) (n : Nat) {fuel : Nat} {L : Array Bool} {a : Act} {w : World} {a0 : Act}
  (take : ∀ R : Act → World → Prop, (∀ M a' w', I a0 M a' w' → (∀ j, j < n → M.getD j false = true) → R a' w') → wpAnyH P md ops (only R) S fuel L a w)
  (rest : ∀ M a' w', I a0 M a' w' → (∀ j, j < n → M.getD j false = true) → Q .normal a' w') : wpAnyH P md ops Q S fuel L a w :=
 wpAnyH_mono (fun _ _ _ h => nomatch h.1) (fun ⟨_, _, h⟩ => nomatch h.1) (fun _ _ h => h.2) fuel L a w (take (Q .normal) rest)
theorem lset {L : Array Bool} {i : Nat} (h : i < L.size) : (fun j => (L.setIfInBounds i true).getD j false) = fun j => decide (i = j) || L.getD j false := funext fun j => by
 by_cases e : i = j
 ·subst e; simp [h]
 ·rw [getD_set_ne false e]; simp [e]
theorem wpAnyH_apart {P : Program} {md : Region.Mode} {ops : Array Oper} {Q : Exit → Act → World → Prop} {S : World → Prop} {fuel : Nat} {L : Array Bool} {a : Act} {w : World} {a1 : Act} (F : World → Prop)
  (take : ∀ R : Act → World → Prop, (∀ w', F w' → R a1 w') → wpAnyH P md ops (only R) S fuel L a w) (rest : ∀ w', F w' → Q .normal a1 w') : wpAnyH P md ops Q S fuel L a w :=
 wpAnyH_mono (fun _ _ _ h => nomatch h.1) (fun ⟨_, _, h⟩ => nomatch h.1) (fun _ _ h => h.2) fuel L a w (take (Q .normal) rest)
theorem wpAnyH_apart1 {P : Program} {md : Region.Mode} {ops : Array Oper} {Q : Exit → Act → World → Prop} {S : World → Prop} {fuel : Nat} {L : Array Bool} {a : Act} {w : World} {a1 : Nat → Act} (F : Nat → World → Prop)
  (take : ∀ R : Act → World → Prop, (∀ g w', F g w' → R (a1 g) w') → wpAnyH P md ops (only R) S fuel L a w) (rest : ∀ g w', F g w' → Q .normal (a1 g) w') : wpAnyH P md ops Q S fuel L a w :=
 wpAnyH_mono (fun _ _ _ h => nomatch h.1) (fun ⟨_, _, h⟩ => nomatch h.1) (fun _ _ h => h.2) fuel L a w (take (Q .normal) rest)
theorem wpAnyH_apartV {P : Program} {md : Region.Mode} {ops : Array Oper} {Q : Exit → Act → World → Prop} {S : World → Prop} {fuel : Nat} {L : Array Bool} {a : Act} {w : World} {a1 : Value → Act} (F : Value → World → Prop)
  (take : ∀ R : Act → World → Prop, (∀ g w', F g w' → R (a1 g) w') → wpAnyH P md ops (only R) S fuel L a w) (rest : ∀ g w', F g w' → Q .normal (a1 g) w') : wpAnyH P md ops Q S fuel L a w :=
 wpAnyH_mono (fun _ _ _ h => nomatch h.1) (fun ⟨_, _, h⟩ => nomatch h.1) (fun _ _ h => h.2) fuel L a w (take (Q .normal) rest)
theorem yields_row {P : Program} {ops : Array Oper} {S : World → Prop} {o : Oper} {a : Act} {T : TypeId} {g : Nat} {cells : Array Value} {d : TypeDesc} (x : Operand) (hgd : Region.wanted o (yielded ops a.tmps) = true) (ho : o.op = .load T x)
  (hx : a.eval x = .pointer (some ⟨g, 0, none⟩)) (h : ∀ W, S W → Blk W g cells T) (hu : P.underlying T = some d) (hd : (match d with | .struct _ | .array _ _ => true | _ => false) = true) (hi : (P.info? T).map (·.size) = some cells.size) : YieldsIf P ops S o (.agg cells) a :=
 .inl ⟨hgd, fun W hW => by
  unfold execOp
  simp only [ho, hx, Instr.loadAt, Instr.sureAddr, Sem.run_bind, Sem.run_pure, Result.andThen_ok, run_loadVar_row W g T T cells (0, 0) d (h W hW) hu hd hi]⟩
theorem wpAnyH_one {P : Program} {md : Region.Mode} {ops : Array Oper} {Q : Exit → Act → World → Prop} {S : World → Prop} {fuel : Nat} {L : Array Bool} {a : Act} {w : World} {i : Nat} {o : Oper} (ho : ops[i]? = some o) (hr : Region.ready md ops L = [i]) (hw : Region.wanted o (yielded ops a.tmps) = true)
  (h : Oper.wp P o a w (fun a' w' => S w' ∧ wpAnyH P md ops Q S fuel (L.setIfInBounds i true) a' w') Q) : wpAnyH P md ops Q S (fuel + 1) L a w := by
 refine wpAnyH_all hr (by simp) fun j hj => ?_
 obtain rfl : j = i := by simpa using hj
 unfold wpOp
 rw [ho]
 dsimp only
 rw [if_pos hw]
 exact .inl h
end Go.Proofs.YtdojgbpaheadnaaGreat

/- A statement whose order is open, and whose last operations each wait for all the others and come in a fixed order. -/
namespace Go.Proofs.YtdojgbpaheadnaaGreat
open Go.RowKit
section
variable {P : Program}
structure SqOk (l : List Oper) (n : Nat) : Prop where
 hn : n < l.length
 all : ∀ t, n ≤ t → t < l.length → ∀ i, i < n → Region.waitsFor .any l.toArray t i = true
 head : ∀ j o, j < n → l[j]? = some o → (∀ e ∈ o.after, Region.binds .any e = true → e.on < j) ∧ (∀ g b, o.guard = some (g, b) → g < n)
 seq : Region.seqB .any l.toArray (l.length - n) n (Array.replicate n true ++ Array.replicate (l.length - n) false) = true
def sqB (l : List Oper) (n : Nat) : Bool :=
 decide (n < l.length) && ((List.range l.length).all fun t => decide (t < n) || (List.range n).all fun i => Region.waitsFor .any l.toArray t i) && headT l n && Region.seqB .any l.toArray (l.length - n) n (Array.replicate n true ++ Array.replicate (l.length - n) false)
theorem sqOk {l : List Oper} {n : Nat} (h : sqB l n = true) : SqOk l n := by
 simp only [sqB, Bool.and_eq_true, decide_eq_true_eq] at h
 obtain ⟨⟨⟨h2, h4⟩, h5⟩, h7⟩ := h
 refine ⟨h2, fun t ht htl i hi => ?_, ?_, h7⟩
 ·have := List.all_eq_true.1 h4 t (List.mem_range.2 htl)
  simp only [Bool.or_eq_true, decide_eq_true_eq] at this
  rcases this with h | h
  ·omega
  ·exact List.all_eq_true.1 h i (List.mem_range.2 hi)
 ·intro j o hj ho
  have := List.all_eq_true.1 h5 j (List.mem_range.2 hj)
  rw [ho] at this
  simp only [Option.all_some, Bool.and_eq_true] at this
  obtain ⟨a1, a3⟩ := this
  refine ⟨fun e he hb => ?_, fun g b hg => ?_⟩
  ·have := Array.all_eq_true_iff_forall_mem.1 a1 e he
   simpa [hb] using this
  ·rw [hg] at a3; simpa using a3
theorem ready_someQ {l : List Oper} {n : Nat} (ok : SqOk l n) {listed : Array Bool} (hsz : listed.size = l.length) : ∀ i, i < n → listed.getD i true = false → ∃ j, j ∈ Region.ready .any l.toArray listed := by
 intro i
 induction i using Nat.strongRecOn with
 | _ i ih =>
  intro hi hun
  have hl : i < l.length := by have := ok.hn; omega
  by_cases h : ∃ k, k < i ∧ listed.getD k true = false
  ·obtain ⟨k, hk, hku⟩ := h
   exact ih k hk (by omega) hku
  ·refine ⟨i, mem_ready.2 ⟨hun, l[i], by simp [hl], fun e he hb => ?_⟩⟩
   have := (ok.head i l[i] hi (List.getElem?_eq_getElem hl)).1 e he hb
   exact getD_of (fun e0 => h ⟨e.on, this, e0⟩) (by omega)
theorem tail_notQ {l : List Oper} {n : Nat} (ok : SqOk l n) {listed : Array Bool} {i t : Nat} (hi : i < n) (hun : listed.getD i true = false) (ht : n ≤ t) : t ∉ Region.ready .any l.toArray listed := by
 intro hr
 obtain ⟨_, o, ho, hall⟩ := mem_ready.1 hr
 have htlen : t < l.length := by have := (Array.getElem?_eq_some_iff.1 ho).1; simpa using this
 obtain ⟨o', ho', e, he, hb, hon⟩ := Region.waitsFor_spec (ok.all t ht htlen i hi)
 obtain rfl : o' = o := Option.some.inj (ho'.symm.trans ho)
 have := hall e he hb
 rw [hon, getD_both hun] at this
 cases this
theorem ready_takeQ {l : List Oper} {n : Nat} (ok : SqOk l n) {H L : Array Bool} (h1 : H.size = n) (h2 : L.size = l.length) (h : ∀ i, i < n → H.getD i true = L.getD i true) {i : Nat} (hi : i < n) :
  i ∈ Region.ready .any (l.take n).toArray H ↔ i ∈ Region.ready .any l.toArray L := by
 have hn := ok.hn
 have hF : ∀ j, j < n → H.getD j false = L.getD j false := fun j hj => by rw [← getD_tf (by omega), ← getD_tf (by omega), h j hj]
 constructor
 ·intro hr
  obtain ⟨g1, o, g2, g3⟩ := mem_ready.1 hr
  have g2' : l[i]? = some o := by simpa [List.getElem?_take_of_lt hi] using g2
  refine mem_ready.2 ⟨by rw [← h i hi]; exact g1, o, by simpa using g2', fun e he hb => ?_⟩
  rw [← hF _ (by have := (ok.head i o hi g2').1 e he hb; omega)]
  exact g3 e he hb
 ·intro hr
  obtain ⟨g1, o, g2, g3⟩ := mem_ready.1 hr
  have g2' : l[i]? = some o := by simpa using g2
  refine mem_ready.2 ⟨by rw [h i hi]; exact g1, o, by simpa [List.getElem?_take_of_lt hi] using g2', fun e he hb => ?_⟩
  rw [hF _ (by have := (ok.head i o hi g2').1 e he hb; omega)]
  exact g3 e he hb
theorem simQ {l : List Oper} {n : Nat} {Q Q' : Exit → Act → World → Prop} (ok : SqOk l n) (hp : ∀ c a w, Q' (.panic c) a w → Q (.panic c) a w) (ho : LetsOut Q' → LetsOut Q)
  (hQ : ∀ a w, Q' .normal a w → wpList P l.toArray Q (l.drop n) a w) :
  ∀ (f : Nat) (H L : Array Bool) (a : Act) (w : World), H.size = n → L.size = l.length → (∀ i, i < n → H.getD i true = L.getD i true) → (∀ t, n ≤ t → t < l.length → L.getD t true = false) → Shut l L →
   wpAny P .any (l.take n).toArray Q' f H a w → wpAny P .any l.toArray Q (f + (l.length - n)) L a w := by
 have hn := ok.hn
 have fin : ∀ (L : Array Bool) (a : Act) (w : World), L.size = l.length → (¬ ∃ i, i < n ∧ L.getD i true = false) → (∀ t, n ≤ t → t < l.length → L.getD t true = false) → Q' .normal a w → wpAny P .any l.toArray Q (l.length - n) L a w := by
  intro L a w hsz hb htl hq
  have hL := listed_eq (Nat.le_of_lt hn) hsz (fun i hi e => hb ⟨i, hi, e⟩) htl
  have hdl : (l.drop n).length = l.length - n := by simp
  have := wpAny_of_seq (P := P) (md := .any) (Q' := Q) (l.drop n) n L a w (fun j => by simp [List.getElem?_drop]) (by rw [hdl]; exact hL ▸ ok.seq) (hQ a w hq)
  rwa [hdl] at this
 intro f
 induction f with
 | zero =>
  intro H L a w h1 h2 hHL htl hsh h
  by_cases hb : ∃ i, i < n ∧ L.getD i true = false
  ·obtain ⟨i, hi, hun⟩ := hb
   obtain ⟨j, hj⟩ := ready_someQ ok h2 i hi hun
   have hjn : j < n := by
    rcases Nat.lt_or_ge j n with h' | h'
    ·exact h'
    ·exact absurd hj (tail_notQ ok hi hun h')
   have := (ready_takeQ ok h1 h2 hHL hjn).2 hj
   rw [h.1] at this; cases this
  ·rw [Nat.zero_add]
   exact fin L a w h2 hb htl h.2
 | succ f ih =>
  intro H L a w h1 h2 hHL htl hsh h
  by_cases hb : ∃ i, i < n ∧ L.getD i true = false
  case neg =>
   have h0 : Region.ready .any (l.take n).toArray H = [] := by
    rcases hr : Region.ready .any (l.take n).toArray H with _ | ⟨j, r⟩
    ·rfl
    ·have hj : j ∈ Region.ready .any (l.take n).toArray H := by rw [hr]; exact List.mem_cons_self ..
     obtain ⟨g1, o, g2, _⟩ := mem_ready.1 hj
     have hjn : j < n := by
      have := (Array.getElem?_eq_some_iff.1 g2).1
      simp at this; omega
     exact absurd ⟨j, hjn, by rw [← hHL j hjn]; exact g1⟩ hb
   exact wpAny_up (by omega) (fin L a w h2 hb htl (h.1 h0))
  case pos =>
   obtain ⟨i0, hi0, hun0⟩ := hb
   rw [show f + 1 + (l.length - n) = (f + (l.length - n)) + 1 by omega]
   refine ⟨fun h0 => ?_, fun i hi => ?_⟩
   ·obtain ⟨j, hj⟩ := ready_someQ ok h2 i0 hi0 hun0
    rw [h0] at hj; cases hj
   have hin : i < n := by
    rcases Nat.lt_or_ge i n with h' | h'
    ·exact h'
    ·exact absurd hi (tail_notQ ok hi0 hun0 h')
   obtain ⟨hiu, o, hoa, _⟩ := mem_ready.1 hi
   have hol : l[i]? = some o := by simpa using hoa
   have hot : (l.take n).toArray[i]? = some o := by simpa [List.getElem?_take_of_lt hin] using hol
   have hc := h.2 i ((ready_takeQ ok h1 h2 hHL hin).2 hi)
   have hK : ∀ a' w', wpAny P .any (l.take n).toArray Q' f (H.setIfInBounds i true) a' w' → wpAny P .any l.toArray Q (f + (l.length - n)) (L.setIfInBounds i true) a' w' := fun a' w' h' =>
    ih _ _ a' w' (by simpa using h1) (by simpa using h2) (fun j hj => by
     by_cases e : i = j
     ·subst e; simp [h1, h2, hin, show i < l.length by omega]
     ·rw [getD_set_ne true e, getD_set_ne true e]; exact hHL j hj)
     (fun t ht ht' => by rw [getD_set_ne true (by omega)]; exact htl t ht ht') (hsh.set hi) h'
   unfold wpOp at hc ⊢
   rw [hot] at hc
   rw [hoa]
   dsimp only at hc ⊢
   rw [wanted_take (fun g b hg => (ok.head i o hin hol).2 g b hg)] at hc
   split
   ·rename_i hw
    rw [if_pos hw] at hc
    exact hc.imp (fun h' => Oper.wp_exits hp ho (Oper.wp_mono hK h')) (fun ⟨h', h''⟩ => ⟨h', ho h''⟩)
   ·rename_i hw
    rw [if_neg hw] at hc
    exact hK _ _ hc
theorem wp_region_sq {id : Nat} {Q : Exit → Act → World → Prop} {a : Act} {w : World} {l : List Oper} (n : Nat) (S : World → Prop) (hm : P.follows .mixedOrders = true) (hB : sqB l n = true)
  (h : wpAnyH P .any (l.take n).toArray (endN Q (fun a' w' => wpList P l.toArray Q (l.drop n) a' w')) S n (Array.replicate n false) a w.drew) :
  (Code.region id l.toArray true).wp P Q a w := by
 have ok := sqOk hB
 have hn := ok.hn
 refine wp_region_any hm ?_
 have := simQ (P := P) (Q := Q) (Q' := endN Q (fun a' w' => wpList P l.toArray Q (l.drop n) a' w')) ok (fun _ _ _ h => h) (fun ⟨a, w, h⟩ => ⟨a, w, h⟩) (fun _ _ h => h) n (Array.replicate n false) (Array.replicate l.length false) a w.drew
  (by simp) (by simp) (fun i hi => by simp [hi, show i < l.length by omega]) (fun t _ ht => by simp [ht]) (fun j o ho hj => by
   have hjl : j < l.length := (List.getElem?_eq_some_iff.1 ho).1
   simp [hjl] at hj) (wpAny_of_held _ _ _ _ h)
 rw [show n + (l.length - n) = l.length by omega] at this
 simpa using this
end
theorem tk {P : Program} {md : Region.Mode} {ops : Array Oper} {R : Act → World → Prop} {S : World → Prop} {oi : Oper} {v : Value} {fuel : Nat} {listed : Array Bool} {a : Act} {w : World} (i : Nat) (hi : ops[i]? = some oi) (hS : S w) (hy : ∀ w, S w → (execOp a.eval oi).run P w = .ok (.value v) w)
  (h : wpAnyH P md ops (only R) S fuel (listed.setIfInBounds i true) (a.put oi.dst v) w) (hc : (Region.noSelect ops && Region.free md ops listed i && (Region.ready md ops listed).contains i) = true := by kernel_rfl) (hw : Region.wanted oi (yielded ops a.tmps) = true := by rfl) : wpAnyH P md ops (only R) S (fuel + 1) listed a w := by
 simp only [Bool.and_eq_true] at hc
 exact wpAnyH_take hi hc.1.1 hc.1.2 hc.2 (fun _ _ _ h => only_panic h) (Or.inl ⟨hw, hy⟩) hS h
end Go.Proofs.YtdojgbpaheadnaaGreat
