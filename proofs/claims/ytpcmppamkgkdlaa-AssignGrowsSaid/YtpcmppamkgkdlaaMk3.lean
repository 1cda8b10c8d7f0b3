/- A statement whose order is open, that reads and calls functions that only make memory, and ends in a fixed tail: one walk in the order of the text serves every order. -/
import Derived.Test.YtpcmppamkgkdlaaMk
namespace Go.Proofs.Ytpcmppamkgkdlaa
open Go.RowKit
section
variable {P : Program}

def headT (l : List Oper) (n : Nat) : Bool := (List.range n).all fun j => (l[j]?).all fun o => (o.after.all fun e => !Region.binds .any e || decide (e.on < j)) && (match o.guard with | some (g, _) => decide (g < n) | none => true)
def sinkT (l : List Oper) (n : Nat) : Bool := ((List.range n).all fun i => (List.range (n + 1)).any fun j => decide (i < j) && Region.waitsFor .any l.toArray j i) && ((List.range l.length).all fun t => decide (t ≤ n) || Region.waitsFor .any l.toArray t n)
def tlB (l : List Oper) (n : Nat) : Bool :=
  Region.lexB .any (virt n l.length 0 l).toArray && decide (n < l.length) && sinkT l n && headT l n && Region.seqB .any l.toArray (l.length - n) n (Array.replicate n true ++ Array.replicate (l.length - n) false)
structure TlOk (l : List Oper) (n : Nat) : Prop where
  hn : n < l.length
  sink : ∀ i, i < n → ∃ j, i < j ∧ j ≤ n ∧ Region.waitsFor .any l.toArray j i = true
  chain : ∀ t, n < t → t < l.length → Region.waitsFor .any l.toArray t n = true
  head : ∀ j o, j < n → l[j]? = some o → (∀ e ∈ o.after, Region.binds .any e = true → e.on < j) ∧ (∀ g b, o.guard = some (g, b) → g < n)
  seq : Region.seqB .any l.toArray (l.length - n) n (Array.replicate n true ++ Array.replicate (l.length - n) false) = true
theorem tlOk {l : List Oper} {n : Nat} (h : tlB l n = true) : TlOk l n ∧ Region.lexB .any (virt n l.length 0 l).toArray = true := by
  simp only [tlB, Bool.and_eq_true, decide_eq_true_eq] at h
  obtain ⟨⟨⟨⟨h1, h2⟩, h4⟩, h5⟩, h7⟩ := h
  simp only [sinkT, Bool.and_eq_true] at h4
  refine ⟨⟨h2, fun i hi => ?_, fun t ht htl => ?_, ?_, h7⟩, h1⟩
  · have := List.all_eq_true.1 h4.1 i (List.mem_range.2 hi)
    obtain ⟨j, hj, hh⟩ := List.any_eq_true.1 this
    simp only [Bool.and_eq_true, decide_eq_true_eq] at hh
    exact ⟨j, hh.1, by have := List.mem_range.1 hj; omega, hh.2⟩
  · have := List.all_eq_true.1 h4.2 t (List.mem_range.2 htl)
    simp only [Bool.or_eq_true, decide_eq_true_eq] at this
    rcases this with h | h
    · omega
    · exact h
  · intro j o hj ho
    have := List.all_eq_true.1 h5 j (List.mem_range.2 hj)
    rw [ho] at this
    simp only [Option.all_some, Bool.and_eq_true] at this
    obtain ⟨a1, a3⟩ := this
    refine ⟨fun e he hb => ?_, fun g b hg => ?_⟩
    · have := Array.all_eq_true_iff_forall_mem.1 a1 e he
      simpa [hb] using this
    · rw [hg] at a3; simpa using a3
theorem tail_endT {l : List Oper} {n : Nat} {w : World} {Q : Act → Prop} : ∀ (r k f : Nat) (listed : Array Bool) (a : Act), n ≤ k → Region.seqB .any l.toArray r k listed = true →
    anyC P .any (virt n l.length 0 l).toArray w Q f listed a → Q a ∧ r ≤ f := by
  intro r
  induction r with
  | zero =>
    intro k f listed a hk hs h
    have h0 : Region.ready .any (virt n l.length 0 l).toArray listed = [] := virt_empty.2 (by simpa [Region.seqB] using hs)
    cases f with
    | zero => exact ⟨h.2, by omega⟩
    | succ f => exact ⟨h.1 h0, by omega⟩
  | succ r ih =>
    intro k f listed a hk hs h
    simp only [Region.seqB, Bool.and_eq_true, decide_eq_true_eq] at hs
    have hkr : k ∈ Region.ready .any (virt n l.length 0 l).toArray listed := by rw [mem_virt, hs.1]; simp
    cases f with
    | zero => rw [h.1] at hkr; cases hkr
    | succ f =>
      have hc := h.2 k hkr
      obtain ⟨_, o, ho, _⟩ := mem_ready.1 (mem_virt.1 hkr)
      have ho' : l[k]? = some o := by simpa using ho
      have hkl : k < l.length := (List.getElem?_eq_some_iff.1 ho').1
      have hv : (virt n l.length 0 l).toArray[k]? = some (vtail o) := by
        simp only [List.getElem?_toArray, virt_get, Nat.zero_add, ho', Option.map_some]
        rw [if_neg (by omega), if_pos hk]
      obtain ⟨v, _, hK⟩ := puts_of_cOp hv hc
      have := ih (k + 1) f _ _ (by omega) hs.2 hK
      exact ⟨this.1, by omega⟩
theorem ready_someT {l : List Oper} {n : Nat} (ok : TlOk l n) {listed : Array Bool} (hsz : listed.size = l.length) : ∀ i, i < n → listed.getD i true = false → ∃ j, j ∈ Region.ready .any l.toArray listed := by
  intro i
  induction i using Nat.strongRecOn with
  | _ i ih =>
    intro hi hun
    have hl : i < l.length := by have := ok.hn; omega
    by_cases h : ∃ k, k < i ∧ listed.getD k true = false
    · obtain ⟨k, hk, hku⟩ := h
      exact ih k hk (by omega) hku
    · refine ⟨i, mem_ready.2 ⟨hun, l[i], by simp [hl], fun e he hb => ?_⟩⟩
      have := (ok.head i l[i] hi (List.getElem?_eq_getElem hl)).1 e he hb
      exact getD_of (fun e0 => h ⟨e.on, this, e0⟩) (by omega)
/-- What is listed waits for nothing that is not. -/
def Shut (l : List Oper) (listed : Array Bool) : Prop := ∀ j o, l[j]? = some o → listed.getD j false = true → ∀ e ∈ o.after, Region.binds .any e = true → listed.getD e.on false = true
theorem Shut.set {l : List Oper} {listed : Array Bool} {i : Nat} (h : Shut l listed) (hr : i ∈ Region.ready .any l.toArray listed) : Shut l (listed.setIfInBounds i true) := by
  obtain ⟨_, oi, hoi, hall⟩ := mem_ready.1 hr
  intro j o ho hj e he hb
  by_cases hji : i = j
  · subst hji
    obtain rfl : oi = o := Option.some.inj (hoi.symm.trans (by simpa using ho))
    exact getD_set_true (hall e he hb)
  · rw [getD_set_ne false hji] at hj
    exact getD_set_true (h j o ho hj e he hb)
theorem all_listed {l : List Oper} {n : Nat} (ok : TlOk l n) {listed : Array Bool} (h : Shut l listed) (hr : n ∈ Region.ready .any l.toArray listed) : ∀ (d i : Nat), i < n → n ≤ i + d → listed.getD i false = true := by
  intro d
  induction d with
  | zero => intro i hi hd; omega
  | succ d ih =>
    intro i hi hd
    obtain ⟨j, hij, hjn, hw⟩ := ok.sink i hi
    obtain ⟨o, ho, e, he, hb, hon⟩ := Region.waitsFor_spec hw
    by_cases hjn' : j = n
    · subst hjn'
      obtain ⟨_, o', ho', hall⟩ := mem_ready.1 hr
      obtain rfl : o' = o := Option.some.inj (ho'.symm.trans ho)
      rw [← hon]; exact hall e he hb
    · have hj := ih j (by omega) (by omega)
      rw [← hon]; exact h j o (by simpa using ho) hj e he hb
theorem tail_notT {l : List Oper} {n : Nat} (ok : TlOk l n) {listed : Array Bool} (h : Shut l listed) (htl : ∀ t, n ≤ t → t < l.length → listed.getD t true = false) {i t : Nat} (hi : i < n) (hun : listed.getD i true = false) (ht : n ≤ t) : t ∉ Region.ready .any l.toArray listed := by
  intro hr
  by_cases htn : t = n
  · subst htn
    have := all_listed ok h hr t i hi (by omega)
    rw [getD_both hun] at this; cases this
  · obtain ⟨_, o, ho, hall⟩ := mem_ready.1 hr
    have htlen : t < l.length := by have := (Array.getElem?_eq_some_iff.1 ho).1; simpa using this
    obtain ⟨o', ho', e, he, hb, hon⟩ := Region.waitsFor_spec (ok.chain t (by omega) htlen)
    obtain rfl : o' = o := Option.some.inj (ho'.symm.trans ho)
    have := hall e he hb
    rw [hon, getD_both (htl n (Nat.le_refl _) ok.hn)] at this
    cases this
theorem simT {l : List Oper} {n : Nat} {w : World} {Q : Exit → Act → World → Prop} {Qv : Act → Prop} (ok : TlOk l n)
    (hQ : ∀ a, Qv a → ∀ x, wpList P l.toArray Q (l.drop n) a (over w x)) :
    ∀ (f : Nat) (listed : Array Bool) (a : Act) (w' : World), listed.size = l.length → (∀ t, n ≤ t → t < l.length → listed.getD t true = false) → Shut l listed → (∃ x, w' = over w x) →
      anyC P .any (virt n l.length 0 l).toArray w Qv f listed a → wpAny P .any l.toArray Q f listed a w' := by
  intro f
  induction f with
  | zero =>
    intro listed a w' hsz htl hsh hw h
    have he := virt_empty.1 h.1
    by_cases hb : ∃ i, i < n ∧ listed.getD i true = false
    · obtain ⟨i, hi, hun⟩ := hb
      obtain ⟨j, hj⟩ := ready_someT ok hsz i hi hun
      rw [he] at hj; cases hj
    · have hL := listed_eq (Nat.le_of_lt ok.hn) hsz (fun i hi e => hb ⟨i, hi, e⟩) htl
      have := (tail_endT _ n 0 listed a (Nat.le_refl _) (hL ▸ ok.seq) h).2
      have := ok.hn
      omega
  | succ f ih =>
    intro listed a w' hsz htl hsh hw h
    by_cases hb : ∃ i, i < n ∧ listed.getD i true = false
    case neg =>
      have hL := listed_eq (Nat.le_of_lt ok.hn) hsz (fun i hi e => hb ⟨i, hi, e⟩) htl
      obtain ⟨hq, hf⟩ := tail_endT _ n (f + 1) listed a (Nat.le_refl _) (hL ▸ ok.seq) h
      obtain ⟨x, rfl⟩ := hw
      have hdl : (l.drop n).length = l.length - n := by simp
      have := wpAny_of_seq (P := P) (md := .any) (Q' := Q) (l.drop n) n listed _ (over w x) (fun j => by simp [List.getElem?_drop]) (by rw [hdl]; exact hL ▸ ok.seq) (hQ a hq x)
      rw [hdl] at this
      exact wpAny_up hf this
    case pos =>
      obtain ⟨i0, hi0, hun0⟩ := hb
      refine ⟨fun h0 => ?_, fun i hi => ?_⟩
      · obtain ⟨j, hj⟩ := ready_someT ok hsz i0 hi0 hun0
        rw [h0] at hj; cases hj
      have hin : i < n := by
        rcases Nat.lt_or_ge i n with h' | h'
        · exact h'
        · exact absurd hi (tail_notT ok hsh htl hi0 hun0 h')
      have hil : i < l.length := by have := ok.hn; omega
      obtain ⟨hiu, o, ho, _⟩ := mem_ready.1 hi
      have ho' : l[i]? = some o := by simpa using ho
      have hc := h.2 i (mem_virt.2 hi)
      have hsz' : (listed.setIfInBounds i true).size = l.length := by simpa using hsz
      have htl' : ∀ t, n ≤ t → t < l.length → (listed.setIfInBounds i true).getD t true = false := fun t ht ht' => by rw [getD_set_ne true (by omega)]; exact htl t ht ht'
      have hv : (virt n l.length 0 l).toArray[i]? = some o := by
        simp only [List.getElem?_toArray, virt_get, Nat.zero_add, ho', Option.map_some, if_neg (show ¬ i = l.length by omega), if_neg (show ¬ n ≤ i by omega)]
      obtain ⟨v, hy, hK⟩ := puts_of_cOp hv hc
      obtain ⟨_, hgd⟩ := ok.head i o hin ho'
      have hwa : Region.wanted o (yielded l.toArray a.tmps) = Region.wanted o (yielded (virt n l.length 0 l).toArray a.tmps) := by
        rw [wanted_virt (fun g b hg => ⟨hgd g b hg, by have := hgd g b hg; have := ok.hn; omega⟩)]
      have hgo : ∀ w'', Below w'.heap.size w' w'' → wpAny P .any l.toArray Q f (listed.setIfInBounds i true) (a.put o.dst v) w'' := by
        intro w'' hb
        refine ih _ (a.put o.dst v) _ hsz' htl' (hsh.set hi) ?_ hK
        obtain ⟨x, rfl⟩ := hw
        exact is_over ((below_over w x).trans (hb.mono (over_size_le w x)))
      unfold wpOp
      rw [ho]
      dsimp only
      rw [hwa]
      rcases hy with ⟨hw1, hcalm⟩ | ⟨hw1, rfl⟩
      · rw [if_pos hw1]
        refine .inl ?_
        obtain ⟨x, rfl⟩ := hw
        have h3 := hcalm x
        unfold Oper.wp
        generalize (execOp a.eval o).run P (over w x) = r at h3
        cases r with
        | halt e w1 => exact h3.elim
        | ok nx w1 =>
          cases nx with
          | value u => obtain ⟨rfl, rfl⟩ := h3; exact hgo _ (Below.refl _ _)
          | skip => obtain ⟨rfl, rfl⟩ := h3; exact hgo _ (Below.refl _ _)
          | enter fn args =>
            obtain ⟨rfl, h4⟩ := h3
            rw [Oper.upon_enter]
            refine h4.mono ?_
            rintro e w2 ⟨rfl, hb⟩
            exact hgo _ hb
          | _ => exact h3.elim
      · rw [if_neg (by rw [hw1]; exact Bool.false_ne_true)]
        exact hgo _ (Below.refl _ _)
/-- THE REGION. n: the operations before the tail. -/
theorem wp_region_tl {id : Nat} {Q : Exit → Act → World → Prop} {a : Act} {w : World} {l : List Oper} (n : Nat) (hm : P.follows .mixedOrders = true) (hB : tlB l n = true)
    (h : wpCalm P (virt n l.length 0 l).toArray w (fun a' => ∀ x, wpList P l.toArray Q (l.drop n) a' (over w x)) (virt n l.length 0 l) a) :
    (Code.region id l.toArray true).wp P Q a w := by
  obtain ⟨ok, hlex⟩ := tlOk hB
  simp only [Region.lexB, Bool.and_eq_true] at hlex
  refine wp_region_any hm ?_
  have hlen : (virt n l.length 0 l).length = l.length := by
    have : ∀ (m : Nat) (l : List Oper) k, (virt n m k l).length = l.length := by
      intro m l
      induction l with
      | nil => intro k; rfl
      | cons o l ih => intro k; simp [virt, ih]
    exact this _ l 0
  have H := anyC_lex (P := P) (md := .any) (w0 := w) hlex.1 (virt n l.length 0 l) 0 _ a (by simp) (by simpa using hlex.2) h
  rw [hlen] at H
  have := simT ok (fun a hq => hq) l.length (Array.replicate l.length false) a { w with drawn := w.drawn + 1 } (by simp)
    (fun t _ ht => by simp [ht]) (fun j o ho hj => by
      have hjl : j < l.length := (List.getElem?_eq_some_iff.1 ho).1
      simp [hjl] at hj) (is_over (Below.refl _ _).drew) (by simpa [hlen] using H)
  simpa using this
end
end Go.Proofs.Ytpcmppamkgkdlaa
