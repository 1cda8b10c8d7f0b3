/- A statement whose order is open, that only reads and calls, makes one new block out of one value, and ends in a fixed tail (an append, a store): one walk in the order of the text serves every order. -/
import Derived.Test.YtmnkgjgaileokaaMk
namespace Go.Proofs.Ytmnkgjgaileokaa
open Go.RowKit
/-! ### One new block, and a fixed tail -/
def vmoveS (src : Operand) (o : Oper) : Oper := { o with op := .move src }
def virtS (src : Operand) (n m : Nat) : Nat → List Oper → List Oper
  | _, [] => []
  | k, o :: l => (if k = m then vmoveS src o else if n ≤ k then vtail o else o) :: virtS src n m (k + 1) l
theorem virtS_get (src : Operand) (n m : Nat) : ∀ (l : List Oper) (k j : Nat), (virtS src n m k l)[j]? = (l[j]?).map fun o => if k + j = m then vmoveS src o else if n ≤ k + j then vtail o else o
  | [], _, _ => by simp [virtS]
  | o :: l, k, 0 => by simp [virtS]
  | o :: l, k, j + 1 => by
    rw [virtS, List.getElem?_cons_succ, virtS_get src n m l (k + 1) j, List.getElem?_cons_succ]
    have e : k + 1 + j = k + (j + 1) := by omega
    rw [e]
def mkSB (src : Operand) (l : List Oper) (n m : Nat) (d : Tmp) : Bool :=
  Region.lexB .any (virtS src n m 0 l).toArray && decide (n < l.length) && decide (m < n) && (Region.sinkB .any l.toArray n && Region.chainB .any l.toArray n) && headB l n m d && ((l[m]?).all fun o => o.guard.isNone && o.dst == some d) &&
  Region.seqB .any l.toArray (l.length - n) n (Array.replicate n true ++ Array.replicate (l.length - n) false)
section
variable {P : Program}
theorem mem_virtS {src : Operand} {l : List Oper} {n m j : Nat} {listed : Array Bool} : j ∈ Region.ready .any (virtS src n m 0 l).toArray listed ↔ j ∈ Region.ready .any l.toArray listed := by
  rw [mem_ready, mem_ready]
  simp only [List.getElem?_toArray, virtS_get, Nat.zero_add]
  cases l[j]? with
  | none => simp
  | some o =>
    simp only [Option.map_some, Option.some.injEq, exists_eq_left']
    have e : (if j = m then vmoveS src o else if n ≤ j then vtail o else o).after = o.after := by
      split
      · rfl
      · split <;> rfl
    rw [e]
theorem virtS_empty {src : Operand} {l : List Oper} {n m : Nat} {listed : Array Bool} : Region.ready .any (virtS src n m 0 l).toArray listed = [] ↔ Region.ready .any l.toArray listed = [] := by
  rw [List.eq_nil_iff_forall_not_mem, List.eq_nil_iff_forall_not_mem]
  simp only [mem_virtS]
theorem tail_endS {src : Operand} {l : List Oper} {n m : Nat} {w : World} {Q : Act → Prop} (hmn : m < n) : ∀ (r k f : Nat) (listed : Array Bool) (a : Act), n ≤ k → Region.seqB .any l.toArray r k listed = true →
    anyC P .any (virtS src n m 0 l).toArray w Q f listed a → Q a ∧ r ≤ f := by
  intro r
  induction r with
  | zero =>
    intro k f listed a hk hs h
    have h0 : Region.ready .any (virtS src n m 0 l).toArray listed = [] := virtS_empty.2 (by simpa [Region.seqB] using hs)
    cases f with
    | zero => exact ⟨h.2, by omega⟩
    | succ f => exact ⟨h.1 h0, by omega⟩
  | succ r ih =>
    intro k f listed a hk hs h
    simp only [Region.seqB, Bool.and_eq_true, decide_eq_true_eq] at hs
    have hkr : k ∈ Region.ready .any (virtS src n m 0 l).toArray listed := by rw [mem_virtS, hs.1]; simp
    cases f with
    | zero => rw [h.1] at hkr; cases hkr
    | succ f =>
      have hc := h.2 k hkr
      obtain ⟨_, o, ho, _⟩ := mem_ready.1 (mem_virtS.1 hkr)
      have ho' : l[k]? = some o := by simpa using ho
      have hv : (virtS src n m 0 l).toArray[k]? = some (vtail o) := by
        simp only [List.getElem?_toArray, virtS_get, Nat.zero_add, ho', Option.map_some]
        rw [if_neg (by omega), if_pos hk]
      obtain ⟨v, _, hK⟩ := puts_of_cOp hv hc
      have := ih (k + 1) f _ _ (by omega) hs.2 hK
      exact ⟨this.1, by omega⟩
structure MkSOk (l : List Oper) (n m : Nat) (d : Tmp) : Prop where
  hn : n < l.length
  hm : m < n
  sink : Region.sinkB .any l.toArray n = true
  chain : Region.chainB .any l.toArray n = true
  head : ∀ j o, j < n → l[j]? = some o → (∀ e ∈ o.after, Region.binds .any e = true → e.on < j) ∧ (j ≠ m → d ∉ o.looksAt l.toArray ∧ o.dst ≠ some d) ∧ (∀ g b, o.guard = some (g, b) → g < n ∧ g ≠ m)
  made : ∃ o, l[m]? = some o ∧ o.guard = none ∧ o.dst = some d
  seq : Region.seqB .any l.toArray (l.length - n) n (Array.replicate n true ++ Array.replicate (l.length - n) false) = true
theorem mkSOk {src : Operand} {l : List Oper} {n m : Nat} {d : Tmp} (h : mkSB src l n m d = true) : MkSOk l n m d ∧ Region.lexB .any (virtS src n m 0 l).toArray = true := by
  simp only [mkSB, Bool.and_eq_true, decide_eq_true_eq] at h
  obtain ⟨⟨⟨⟨⟨⟨h1, h2⟩, h3⟩, h4⟩, h5⟩, h6⟩, h7⟩ := h
  refine ⟨⟨h2, h3, h4.1, h4.2, ?_, ?_, h7⟩, h1⟩
  · intro j o hj ho
    have := List.all_eq_true.1 h5 j (List.mem_range.2 hj)
    rw [ho] at this
    simp only [Option.all_some, Bool.and_eq_true, Bool.or_eq_true] at this
    obtain ⟨⟨a1, a2⟩, a3⟩ := this
    refine ⟨fun e he hb => ?_, fun hne => ?_, fun g b hg => ?_⟩
    · have := Array.all_eq_true_iff_forall_mem.1 a1 e he
      simpa [hb] using this
    · rcases a2 with h | h
      · exact absurd (by simpa using h) hne
      · simp at h; exact ⟨h.1, fun e => h.2 e⟩
    · rw [hg] at a3; simpa using a3
  · have hl : m < l.length := by omega
    rw [List.getElem?_eq_getElem hl] at h6 ⊢
    simp at h6
    exact ⟨_, rfl, h6.1, h6.2⟩
theorem ready_someS {l : List Oper} {n m : Nat} {d : Tmp} (ok : MkSOk l n m d) {listed : Array Bool} (hsz : listed.size = l.length) : ∀ i, i < n → listed.getD i true = false → ∃ j, j ∈ Region.ready .any l.toArray listed := by
  intro i
  induction i using Nat.strongRecOn with
  | _ i ih =>
    intro hi hun
    have hl : i < l.length := by have := ok.hn; omega
    by_cases h : ∃ k, k < i ∧ listed.getD k true = false
    · obtain ⟨k, hk, hku⟩ := h
      exact ih k hk (by omega) hku
    · refine ⟨i, mem_ready.2 ⟨hun, l[i], by simp [hl], fun e he hb => ?_⟩⟩
      have := (ok.head i l[i] hi (List.getElem?_eq_getElem hl)).1 e he hb
      exact getD_of (fun e0 => h ⟨e.on, this, e0⟩) (by omega)
theorem tail_notS {l : List Oper} {n m : Nat} {d : Tmp} (ok : MkSOk l n m d) {listed : Array Bool} (inv : HeadInv .any l.toArray n listed) {i t : Nat} (hi : i < n) (hun : listed.getD i true = false) (ht : n ≤ t) : t ∉ Region.ready .any l.toArray listed :=
  tail_waits ok.sink ok.chain (by simpa using ok.hn) inv _ i rfl hi hun t ht
/-- Where the block is, if it has been made. -/
def MadeS (w : World) (m : Nat) (d : Tmp) (zs : Array Value) (V : Nat → Value) (T : TypeId) (listed : Array Bool) (a a' : Act) (w' : World) : Prop :=
  d < a.tmps.size ∧ ((listed.getD m true = false ∧ a' = a) ∨ (listed.getD m false = true ∧ ∃ g, a' = a.put (some d) (V g) ∧ w.heap.size ≤ g ∧ Blk w' g zs T))
theorem eval_put_same {a : Act} {d : Tmp} (v : Value) (hd : d < a.tmps.size) : (a.put (some d) v).eval (.tmp d) = v := by
  simp [Act.put, Act.eval, hd]
theorem eval_put_ne {a : Act} {d : Tmp} {e : Option Tmp} (v : Value) (hne : e ≠ some d) : (a.put e v).eval (.tmp d) = a.eval (.tmp d) := by
  cases e with
  | none => rfl
  | some e =>
    have : e ≠ d := fun h => hne (by rw [h])
    simp [Act.put, Act.eval, Array.getElem?_setIfInBounds, this]
theorem size_put (a : Act) (e : Option Tmp) (v : Value) : (a.put e v).tmps.size = a.tmps.size := by
  cases e <;> simp [Act.put]
theorem calm_move {P : Program} {w : World} {o : Oper} {a : Act} {src : Operand} {v : Value} (h : calmAt P w (vmoveS src o) a v) : v = a.eval src := by
  have := h w
  simp [vmoveS, execOp, calmUpon] at this
  exact this.symm
theorem yielded_virtS {src : Operand} {l : List Oper} {n m g : Nat} {tmps : Array Value} (hg : g < n) (hm : g ≠ m) : yielded (virtS src n m 0 l).toArray tmps g = yielded l.toArray tmps g := by
  unfold yielded
  simp only [List.getElem?_toArray, virtS_get, Nat.zero_add]
  cases l[g]? with
  | none => rfl
  | some o => simp only [Option.map_some, if_neg hm, if_neg (show ¬ n ≤ g by omega)]
theorem wanted_virtS {src : Operand} {l : List Oper} {n m : Nat} {o : Oper} {tmps : Array Value} (h : ∀ g b, o.guard = some (g, b) → g < n ∧ g ≠ m) : Region.wanted o (yielded (virtS src n m 0 l).toArray tmps) = Region.wanted o (yielded l.toArray tmps) := by
  unfold Region.wanted
  split
  · rfl
  · rename_i g b hg
    rw [yielded_virtS (h g b hg).1 (h g b hg).2]
theorem anyC_endS {src : Operand} {l : List Oper} {n m : Nat} {d : Tmp} {w : World} {Qv : Act → Prop} (ok : MkSOk l n m d) :
    ∀ (f : Nat) (listed : Array Bool) (a : Act), listed.size = l.length → listed.getD m false = true → d < a.tmps.size → anyC P .any (virtS src n m 0 l).toArray w Qv f listed a → ∃ a2, Qv a2 ∧ a2.eval (.tmp d) = a.eval (.tmp d) := by
  intro f
  induction f with
  | zero => intro listed a _ _ _ h; exact ⟨a, h.2, rfl⟩
  | succ f ih =>
    intro listed a hsz hl hd h
    by_cases hr : Region.ready .any (virtS src n m 0 l).toArray listed = []
    · exact ⟨a, h.1 hr, rfl⟩
    obtain ⟨j, hj⟩ := List.exists_mem_of_ne_nil _ hr
    have hc := h.2 j hj
    obtain ⟨hju, o, ho, _⟩ := mem_ready.1 (mem_virtS.1 hj)
    have ho' : l[j]? = some o := by simpa using ho
    have hjm : j ≠ m := fun e => by rw [e] at hju; rw [getD_both hju] at hl; cases hl
    have hv : (virtS src n m 0 l).toArray[j]? = some (if n ≤ j then vtail o else o) := by
      simp only [List.getElem?_toArray, virtS_get, Nat.zero_add, ho', Option.map_some, if_neg hjm]
    obtain ⟨v, _, hK⟩ := puts_of_cOp hv hc
    have hne : (if n ≤ j then vtail o else o).dst ≠ some d := by
      split
      · simp [vtail]
      · exact ((ok.head j o (by omega) ho').2.1 hjm).2
    obtain ⟨a2, h1, h2⟩ := ih _ _ (by simpa using hsz) (getD_set_true hl) (by rw [size_put]; exact hd) hK
    exact ⟨a2, h1, h2.trans (eval_put_ne v hne)⟩
theorem simMkS {src : Operand} {l : List Oper} {n m : Nat} {d : Tmp} {zs : Array Value} {v0 : Value} {V : Nat → Value} {T : TypeId} {w : World} {Q : Exit → Act → World → Prop} {Qv : Act → Prop} (ok : MkSOk l n m d) (hv0 : ∀ a, Qv a → a.eval (.tmp d) = v0) (hsel : Region.noSelect (virtS src n m 0 l).toArray = true)
    (hz : ∀ o, l[m]? = some o → ∀ (a : Act) (w : World), a.eval src = v0 → (execOp a.eval o).run P w = .ok (.value (V w.heap.size)) (w.alloc (.cells zs T)))
    (hQ : ∀ a, Qv a → ∀ x g, w.heap.size ≤ g → Blk (over w x) g zs T → wpList P l.toArray Q (l.drop n) (a.put (some d) (V g)) (over w x)) :
    ∀ (f : Nat) (listed : Array Bool) (a a' : Act) (w' : World), HeadInv .any l.toArray n listed → (∃ x, w' = over w x) → MadeS w m d zs V T listed a a' w' →
      anyC P .any (virtS src n m 0 l).toArray w Qv f listed a → wpAny P .any l.toArray Q f listed a' w' := by
  intro f
  induction f with
  | zero =>
    intro listed a a' w' inv hw hM h
    have hsz : listed.size = l.length := by simpa using inv.size
    have htl : ∀ t, n ≤ t → t < l.length → listed.getD t true = false := fun t h1 h2 => inv.tail t h1 (by simpa using h2)
    have he := virtS_empty.1 h.1
    by_cases hb : ∃ i, i < n ∧ listed.getD i true = false
    · obtain ⟨i, hi, hun⟩ := hb
      obtain ⟨j, hj⟩ := ready_someS ok hsz i hi hun
      rw [he] at hj; cases hj
    · have hL := listed_eq (Nat.le_of_lt ok.hn) hsz (fun i hi e => hb ⟨i, hi, e⟩) htl
      have := (tail_endS ok.hm _ n 0 listed a (Nat.le_refl _) (hL ▸ ok.seq) h).2
      have := ok.hn
      omega
  | succ f ih =>
    intro listed a a' w' inv hw hM h
    have hsz : listed.size = l.length := by simpa using inv.size
    have htl : ∀ t, n ≤ t → t < l.length → listed.getD t true = false := fun t h1 h2 => inv.tail t h1 (by simpa using h2)
    by_cases hb : ∃ i, i < n ∧ listed.getD i true = false
    case neg =>
      have hL := listed_eq (Nat.le_of_lt ok.hn) hsz (fun i hi e => hb ⟨i, hi, e⟩) htl
      obtain ⟨hq, hf⟩ := tail_endS ok.hm _ n (f + 1) listed a (Nat.le_refl _) (hL ▸ ok.seq) h
      rcases hM with ⟨_, ⟨hm, _⟩ | ⟨_, g, rfl, hg, hB⟩⟩
      · exact absurd ⟨m, ok.hm, hm⟩ hb
      obtain ⟨x, rfl⟩ := hw
      have hdl : (l.drop n).length = l.length - n := by simp
      have := wpAny_of_seq (P := P) (md := .any) (Q' := Q) (l.drop n) n listed _ (over w x) (fun j => by simp [List.getElem?_drop]) (by rw [hdl]; exact hL ▸ ok.seq) (hQ a hq x g hg hB)
      rw [hdl] at this
      exact wpAny_up hf this
    case pos =>
      obtain ⟨i0, hi0, hun0⟩ := hb
      refine ⟨fun h0 => ?_, fun i hi => ?_⟩
      · obtain ⟨j, hj⟩ := ready_someS ok hsz i0 hi0 hun0
        rw [h0] at hj; cases hj
      have hin : i < n := by
        rcases Nat.lt_or_ge i n with h' | h'
        · exact h'
        · exact absurd hi (tail_notS ok inv hi0 hun0 h')
      have hil : i < l.length := by have := ok.hn; omega
      obtain ⟨hiu, o, ho, _⟩ := mem_ready.1 hi
      have ho' : l[i]? = some o := by simpa using ho
      have hc := h.2 i (mem_virtS.2 hi)
      have inv' := inv.set hi hin
      have hset : (listed.setIfInBounds i true).getD i false = true := by simp [hsz, hil]
      obtain ⟨hd0, hM⟩ := hM
      by_cases him : i = m
      · subst him
        obtain ⟨om, hom, hgd, hds⟩ := ok.made
        obtain rfl : om = o := Option.some.inj (hom.symm.trans ho')
        have hv : (virtS src n i 0 l).toArray[i]? = some (vmoveS src om) := by
          simp only [List.getElem?_toArray, virtS_get, Nat.zero_add, ho', Option.map_some, if_true]
        obtain ⟨v, hpv, hK⟩ := puts_of_cOp hv hc
        have hdv : (vmoveS src om).dst = some d := hds
        have hve : v = a.eval src := by
          rcases hpv with ⟨_, hcalm⟩ | ⟨hw0, _⟩
          · exact calm_move hcalm
          · have : Region.wanted (vmoveS src om) (yielded (virtS src n i 0 l).toArray a.tmps) = true := by simp [Region.wanted, vmoveS, hgd]
            rw [this] at hw0; cases hw0
        rw [hdv] at hK
        rcases hM with ⟨_, rfl⟩ | ⟨hl, _⟩
        case inr => rw [getD_both hiu] at hl; cases hl
        obtain ⟨x, rfl⟩ := hw
        unfold wpOp
        rw [ho]
        dsimp only
        have hwant : Region.wanted om (yielded l.toArray a'.tmps) = true := by simp [Region.wanted, hgd]
        rw [if_pos hwant]
        refine .inl ?_
        unfold Oper.wp
        have hes : a'.eval src = v0 := by
          obtain ⟨a2, hq2, he2⟩ := anyC_endS ok f _ _ (by simpa using hsz) hset (by rw [size_put]; exact hd0) hK
          rw [← hve, ← hv0 a2 hq2, he2, eval_put_same v hd0]
        rw [hz om hom a' (over w x) hes, Oper.upon_value, hds]
        refine ih _ (a'.put (some d) v) _ _ inv' (is_over ((below_over w x).alloc (over_size_le w x) _)) ⟨by rw [size_put]; exact hd0, .inr ⟨hset, (over w x).heap.size, (put_put a' d v _).symm, over_size_le w x, Blk.new _ _ _⟩⟩ hK
      · have hv : (virtS src n m 0 l).toArray[i]? = some o := by
          simp only [List.getElem?_toArray, virtS_get, Nat.zero_add, ho', Option.map_some, if_neg him, if_neg (show ¬ n ≤ i by omega)]
        obtain ⟨v, hy, hK⟩ := puts_of_cOp hv hc
        obtain ⟨_, hap, hgd⟩ := ok.head i o hin ho'
        obtain ⟨hd1, hd2⟩ := hap him
        have hsl := Region.noSelect_spec hsel i o
        have hsl' : ∀ cs b, o.op ≠ .select cs b := fun cs b => hsl cs b hv
        have hwa : Region.wanted o (yielded l.toArray a'.tmps) = Region.wanted o (yielded (virtS src n m 0 l).toArray a.tmps) := by
          rw [wanted_virtS hgd]
          rcases hM with ⟨_, rfl⟩ | ⟨_, g, rfl, _⟩
          · rfl
          · exact wanted_put o a (some d) _ (fun d' e => by injection e with e; rw [← e]; exact hd1)
        have hex : execOp a'.eval o = execOp a.eval o := by
          rcases hM with ⟨_, rfl⟩ | ⟨_, g, rfl, _⟩
          · rfl
          · exact execOp_put (ops := l.toArray) o hsl' a (some d) _ (fun d' e => by injection e with e; rw [← e]; exact hd1)
        have hgo : ∀ w'', Below w'.heap.size w' w'' → wpAny P .any l.toArray Q f (listed.setIfInBounds i true) (a'.put o.dst v) w'' := by
          intro w'' hb
          refine ih _ (a.put o.dst v) _ _ inv' ?_ ⟨by rw [size_put]; exact hd0, ?_⟩ hK
          · obtain ⟨x, rfl⟩ := hw
            exact is_over ((below_over w x).trans (hb.mono (over_size_le w x)))
          · rcases hM with ⟨hm, rfl⟩ | ⟨hm, g, rfl, hg, hB⟩
            · exact .inl ⟨by rw [getD_set_ne true him]; exact hm, rfl⟩
            · exact .inr ⟨getD_set_true hm, g, Act.put_comm a _ v (fun d' e => by injection e with e; rw [← e]; exact hd2), hg, hB.below hb hB.lt⟩
        unfold wpOp
        rw [ho]
        dsimp only
        rw [hwa]
        rcases hy with ⟨hw1, hcalm⟩ | ⟨hw1, rfl⟩
        · rw [if_pos hw1]
          refine .inl ?_
          obtain ⟨x, rfl⟩ := hw
          have h3 := hcalm x
          unfold Oper.wp
          rw [hex]
          generalize (execOp a.eval o).run P (over w x) = r at h3
          cases r with
          | halt e w1 => exact h3.elim
          | ok nx w1 =>
            cases nx with
            | value u => obtain ⟨rfl, rfl⟩ := h3; exact hgo _ (Below.refl _ _)
            | skip => obtain ⟨rfl, rfl⟩ := h3; exact hgo _ (Below.refl _ _)
            | enter fn args =>
              obtain ⟨rfl, h4⟩ := h3
              rw [Oper.upon_enter]
              refine h4.mono ?_
              rintro e w2 ⟨rfl, hb⟩
              exact hgo _ hb
            | _ => exact h3.elim
        · rw [if_neg (by rw [hw1]; exact Bool.false_ne_true)]
          exact hgo _ (Below.refl _ _)
/-- THE REGION. n: the operations before the tail; m: the one that makes the block, out of the operand src, into slot d. -/
theorem wp_region_mkS {id : Nat} {Q : Exit → Act → World → Prop} {a : Act} {w : World} {l : List Oper} (src : Operand) (n m : Nat) (d : Tmp) (v0 : Value) (zs : Array Value) (V : Nat → Value) (T : TypeId) (hm : P.follows .mixedOrders = true) (hB : mkSB src l n m d = true) (hd : d < a.tmps.size)
    (hz : ∀ o, l[m]? = some o → ∀ (a : Act) (w : World), a.eval src = v0 → (execOp a.eval o).run P w = .ok (.value (V w.heap.size)) (w.alloc (.cells zs T)))
    (h : wpCalm P (virtS src n m 0 l).toArray w (fun a' => a'.eval (.tmp d) = v0 ∧ ∀ x g, w.heap.size ≤ g → Blk (over w x) g zs T → wpList P l.toArray Q (l.drop n) (a'.put (some d) (V g)) (over w x)) (virtS src n m 0 l) a) :
    (Code.region id l.toArray true).wp P Q a w := by
  obtain ⟨ok, hlex⟩ := mkSOk hB
  simp only [Region.lexB, Bool.and_eq_true] at hlex
  refine wp_region_any hm ?_
  have hlen : (virtS src n m 0 l).length = l.length := by
    have : ∀ (l : List Oper) k, (virtS src n m k l).length = l.length := by
      intro l
      induction l with
      | nil => intro k; rfl
      | cons o l ih => intro k; simp [virtS, ih]
    exact this l 0
  have H := anyC_lex (P := P) (md := .any) (w0 := w) hlex.1 (virtS src n m 0 l) 0 _ a (by simp) (by simpa using hlex.2) h
  rw [hlen] at H
  have inv0 : HeadInv .any l.toArray n (Array.replicate l.length false) :=
    ⟨by simp, fun j oj _ hl => (by rw [getD_replicate_false] at hl; cases hl), fun t _ ht => getD_in (by simpa using ht) (getD_replicate_false _ _)⟩
  have := simMkS (Qv := fun a' => a'.eval (.tmp d) = v0 ∧ ∀ x g, w.heap.size ≤ g → Blk (over w x) g zs T → wpList P l.toArray Q (l.drop n) (a'.put (some d) (V g)) (over w x)) ok (fun a hq => hq.1) hlex.1 hz (fun a hq => hq.2) l.length (Array.replicate l.length false) a a { w with drawn := w.drawn + 1 } inv0
    (is_over (Below.refl _ _).drew) ⟨hd, .inl ⟨by have h1 := ok.hn; have h2 := ok.hm; simp [show m < l.length by omega], rfl⟩⟩ (by simpa [hlen] using H)
  simpa using this
end
end Go.Proofs.Ytmnkgjgaileokaa
