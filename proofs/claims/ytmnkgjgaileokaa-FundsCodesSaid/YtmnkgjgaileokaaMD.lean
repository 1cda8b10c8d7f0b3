import Derived.Test.YtmnkgjgaileokaaMk
import Derived.Test.YtmnkgjgaileokaaMC

/- A statement whose order is open, that reads and calls functions that only make memory, and ends in a fixed tail: one walk in the order of the text serves every order. -/
namespace Go.Proofs.Ytmnkgjgaileokaa
open Go.RowKit
section
variable {P : Program}

def headT (l : List Oper) (n : Nat) : Bool := (List.range n).all fun j => (l[j]?).all fun o => (o.after.all fun e => !Region.binds .any e || decide (e.on < j)) && (match o.guard with | some (g, _) => decide (g < n) | none => true)
def sinkT (l : List Oper) (n : Nat) : Bool := ((List.range n).all fun i => (List.range (n + 1)).any fun j => decide (i < j) && Region.waitsFor .any l.toArray j i) && ((List.range l.length).all fun t => decide (t ≤ n) || Region.waitsFor .any l.toArray t n)
def tlB (l : List Oper) (n : Nat) : Bool :=
  Region.lexB .any (virt n l.length 0 l).toArray && decide (n < l.length) && sinkT l n && headT l n && Region.seqB .any l.toArray (l.length - n) n (Array.replicate n true ++ Array.replicate (l.length - n) false)
structure TlOk (l : List Oper) (n : Nat) : Prop where
  hn : n < l.length
  sink : ∀ i, i < n → ∃ j, i < j ∧ j ≤ n ∧ Region.waitsFor .any l.toArray j i = true
  chain : ∀ t, n < t → t < l.length → Region.waitsFor .any l.toArray t n = true
  head : ∀ j o, j < n → l[j]? = some o → (∀ e ∈ o.after, Region.binds .any e = true → e.on < j) ∧ (∀ g b, o.guard = some (g, b) → g < n)
  seq : Region.seqB .any l.toArray (l.length - n) n (Array.replicate n true ++ Array.replicate (l.length - n) false) = true
theorem tlOk {l : List Oper} {n : Nat} (h : tlB l n = true) : TlOk l n ∧ Region.lexB .any (virt n l.length 0 l).toArray = true := by
  simp only [tlB, Bool.and_eq_true, decide_eq_true_eq] at h
  obtain ⟨⟨⟨⟨h1, h2⟩, h4⟩, h5⟩, h7⟩ := h
  simp only [sinkT, Bool.and_eq_true] at h4
  refine ⟨⟨h2, fun i hi => ?_, fun t ht htl => ?_, ?_, h7⟩, h1⟩
  · have := List.all_eq_true.1 h4.1 i (List.mem_range.2 hi)
    obtain ⟨j, hj, hh⟩ := List.any_eq_true.1 this
    simp only [Bool.and_eq_true, decide_eq_true_eq] at hh
    exact ⟨j, hh.1, by have := List.mem_range.1 hj; omega, hh.2⟩
  · have := List.all_eq_true.1 h4.2 t (List.mem_range.2 htl)
    simp only [Bool.or_eq_true, decide_eq_true_eq] at this
    rcases this with h | h
    · omega
    · exact h
  · intro j o hj ho
    have := List.all_eq_true.1 h5 j (List.mem_range.2 hj)
    rw [ho] at this
    simp only [Option.all_some, Bool.and_eq_true] at this
    obtain ⟨a1, a3⟩ := this
    refine ⟨fun e he hb => ?_, fun g b hg => ?_⟩
    · have := Array.all_eq_true_iff_forall_mem.1 a1 e he
      simpa [hb] using this
    · rw [hg] at a3; simpa using a3
theorem tail_endT {l : List Oper} {n : Nat} {w : World} {Q : Act → Prop} : ∀ (r k f : Nat) (listed : Array Bool) (a : Act), n ≤ k → Region.seqB .any l.toArray r k listed = true →
    anyC P .any (virt n l.length 0 l).toArray w Q f listed a → Q a ∧ r ≤ f := by
  intro r
  induction r with
  | zero =>
    intro k f listed a hk hs h
    have h0 : Region.ready .any (virt n l.length 0 l).toArray listed = [] := virt_empty.2 (by simpa [Region.seqB] using hs)
    cases f with
    | zero => exact ⟨h.2, by omega⟩
    | succ f => exact ⟨h.1 h0, by omega⟩
  | succ r ih =>
    intro k f listed a hk hs h
    simp only [Region.seqB, Bool.and_eq_true, decide_eq_true_eq] at hs
    have hkr : k ∈ Region.ready .any (virt n l.length 0 l).toArray listed := by rw [mem_virt, hs.1]; simp
    cases f with
    | zero => rw [h.1] at hkr; cases hkr
    | succ f =>
      have hc := h.2 k hkr
      obtain ⟨_, o, ho, _⟩ := mem_ready.1 (mem_virt.1 hkr)
      have ho' : l[k]? = some o := by simpa using ho
      have hkl : k < l.length := (List.getElem?_eq_some_iff.1 ho').1
      have hv : (virt n l.length 0 l).toArray[k]? = some (vtail o) := by
        simp only [List.getElem?_toArray, virt_get, Nat.zero_add, ho', Option.map_some]
        rw [if_neg (by omega), if_pos hk]
      obtain ⟨v, _, hK⟩ := puts_of_cOp hv hc
      have := ih (k + 1) f _ _ (by omega) hs.2 hK
      exact ⟨this.1, by omega⟩
theorem ready_someT {l : List Oper} {n : Nat} (ok : TlOk l n) {listed : Array Bool} (hsz : listed.size = l.length) : ∀ i, i < n → listed.getD i true = false → ∃ j, j ∈ Region.ready .any l.toArray listed := by
  intro i
  induction i using Nat.strongRecOn with
  | _ i ih =>
    intro hi hun
    have hl : i < l.length := by have := ok.hn; omega
    by_cases h : ∃ k, k < i ∧ listed.getD k true = false
    · obtain ⟨k, hk, hku⟩ := h
      exact ih k hk (by omega) hku
    · refine ⟨i, mem_ready.2 ⟨hun, l[i], by simp [hl], fun e he hb => ?_⟩⟩
      have := (ok.head i l[i] hi (List.getElem?_eq_getElem hl)).1 e he hb
      exact getD_of (fun e0 => h ⟨e.on, this, e0⟩) (by omega)
/-- What is listed waits for nothing that is not. -/
def Shut (l : List Oper) (listed : Array Bool) : Prop := ∀ j o, l[j]? = some o → listed.getD j false = true → ∀ e ∈ o.after, Region.binds .any e = true → listed.getD e.on false = true
theorem Shut.set {l : List Oper} {listed : Array Bool} {i : Nat} (h : Shut l listed) (hr : i ∈ Region.ready .any l.toArray listed) : Shut l (listed.setIfInBounds i true) := by
  obtain ⟨_, oi, hoi, hall⟩ := mem_ready.1 hr
  intro j o ho hj e he hb
  by_cases hji : i = j
  · subst hji
    obtain rfl : oi = o := Option.some.inj (hoi.symm.trans (by simpa using ho))
    exact getD_set_true (hall e he hb)
  · rw [getD_set_ne false hji] at hj
    exact getD_set_true (h j o ho hj e he hb)
theorem all_listed {l : List Oper} {n : Nat} (ok : TlOk l n) {listed : Array Bool} (h : Shut l listed) (hr : n ∈ Region.ready .any l.toArray listed) : ∀ (d i : Nat), i < n → n ≤ i + d → listed.getD i false = true := by
  intro d
  induction d with
  | zero => intro i hi hd; omega
  | succ d ih =>
    intro i hi hd
    obtain ⟨j, hij, hjn, hw⟩ := ok.sink i hi
    obtain ⟨o, ho, e, he, hb, hon⟩ := Region.waitsFor_spec hw
    by_cases hjn' : j = n
    · subst hjn'
      obtain ⟨_, o', ho', hall⟩ := mem_ready.1 hr
      obtain rfl : o' = o := Option.some.inj (ho'.symm.trans ho)
      rw [← hon]; exact hall e he hb
    · have hj := ih j (by omega) (by omega)
      rw [← hon]; exact h j o (by simpa using ho) hj e he hb
theorem tail_notT {l : List Oper} {n : Nat} (ok : TlOk l n) {listed : Array Bool} (h : Shut l listed) (htl : ∀ t, n ≤ t → t < l.length → listed.getD t true = false) {i t : Nat} (hi : i < n) (hun : listed.getD i true = false) (ht : n ≤ t) : t ∉ Region.ready .any l.toArray listed := by
  intro hr
  by_cases htn : t = n
  · subst htn
    have := all_listed ok h hr t i hi (by omega)
    rw [getD_both hun] at this; cases this
  · obtain ⟨_, o, ho, hall⟩ := mem_ready.1 hr
    have htlen : t < l.length := by have := (Array.getElem?_eq_some_iff.1 ho).1; simpa using this
    obtain ⟨o', ho', e, he, hb, hon⟩ := Region.waitsFor_spec (ok.chain t (by omega) htlen)
    obtain rfl : o' = o := Option.some.inj (ho'.symm.trans ho)
    have := hall e he hb
    rw [hon, getD_both (htl n (Nat.le_refl _) ok.hn)] at this
    cases this
theorem simT {l : List Oper} {n : Nat} {w : World} {Q : Exit → Act → World → Prop} {Qv : Act → Prop} (ok : TlOk l n)
    (hQ : ∀ a, Qv a → ∀ x, wpList P l.toArray Q (l.drop n) a (over w x)) :
    ∀ (f : Nat) (listed : Array Bool) (a : Act) (w' : World), listed.size = l.length → (∀ t, n ≤ t → t < l.length → listed.getD t true = false) → Shut l listed → (∃ x, w' = over w x) →
      anyC P .any (virt n l.length 0 l).toArray w Qv f listed a → wpAny P .any l.toArray Q f listed a w' := by
  intro f
  induction f with
  | zero =>
    intro listed a w' hsz htl hsh hw h
    have he := virt_empty.1 h.1
    by_cases hb : ∃ i, i < n ∧ listed.getD i true = false
    · obtain ⟨i, hi, hun⟩ := hb
      obtain ⟨j, hj⟩ := ready_someT ok hsz i hi hun
      rw [he] at hj; cases hj
    · have hL := listed_eq (Nat.le_of_lt ok.hn) hsz (fun i hi e => hb ⟨i, hi, e⟩) htl
      have := (tail_endT _ n 0 listed a (Nat.le_refl _) (hL ▸ ok.seq) h).2
      have := ok.hn
      omega
  | succ f ih =>
    intro listed a w' hsz htl hsh hw h
    by_cases hb : ∃ i, i < n ∧ listed.getD i true = false
    case neg =>
      have hL := listed_eq (Nat.le_of_lt ok.hn) hsz (fun i hi e => hb ⟨i, hi, e⟩) htl
      obtain ⟨hq, hf⟩ := tail_endT _ n (f + 1) listed a (Nat.le_refl _) (hL ▸ ok.seq) h
      obtain ⟨x, rfl⟩ := hw
      have hdl : (l.drop n).length = l.length - n := by simp
      have := wpAny_of_seq (P := P) (md := .any) (Q' := Q) (l.drop n) n listed _ (over w x) (fun j => by simp [List.getElem?_drop]) (by rw [hdl]; exact hL ▸ ok.seq) (hQ a hq x)
      rw [hdl] at this
      exact wpAny_up hf this
    case pos =>
      obtain ⟨i0, hi0, hun0⟩ := hb
      refine ⟨fun h0 => ?_, fun i hi => ?_⟩
      · obtain ⟨j, hj⟩ := ready_someT ok hsz i0 hi0 hun0
        rw [h0] at hj; cases hj
      have hin : i < n := by
        rcases Nat.lt_or_ge i n with h' | h'
        · exact h'
        · exact absurd hi (tail_notT ok hsh htl hi0 hun0 h')
      have hil : i < l.length := by have := ok.hn; omega
      obtain ⟨hiu, o, ho, _⟩ := mem_ready.1 hi
      have ho' : l[i]? = some o := by simpa using ho
      have hc := h.2 i (mem_virt.2 hi)
      have hsz' : (listed.setIfInBounds i true).size = l.length := by simpa using hsz
      have htl' : ∀ t, n ≤ t → t < l.length → (listed.setIfInBounds i true).getD t true = false := fun t ht ht' => by rw [getD_set_ne true (by omega)]; exact htl t ht ht'
      have hv : (virt n l.length 0 l).toArray[i]? = some o := by
        simp only [List.getElem?_toArray, virt_get, Nat.zero_add, ho', Option.map_some, if_neg (show ¬ i = l.length by omega), if_neg (show ¬ n ≤ i by omega)]
      obtain ⟨v, hy, hK⟩ := puts_of_cOp hv hc
      obtain ⟨_, hgd⟩ := ok.head i o hin ho'
      have hwa : Region.wanted o (yielded l.toArray a.tmps) = Region.wanted o (yielded (virt n l.length 0 l).toArray a.tmps) := by
        rw [wanted_virt (fun g b hg => ⟨hgd g b hg, by have := hgd g b hg; have := ok.hn; omega⟩)]
      have hgo : ∀ w'', Below w'.heap.size w' w'' → wpAny P .any l.toArray Q f (listed.setIfInBounds i true) (a.put o.dst v) w'' := by
        intro w'' hb
        refine ih _ (a.put o.dst v) _ hsz' htl' (hsh.set hi) ?_ hK
        obtain ⟨x, rfl⟩ := hw
        exact is_over ((below_over w x).trans (hb.mono (over_size_le w x)))
      unfold wpOp
      rw [ho]
      dsimp only
      rw [hwa]
      rcases hy with ⟨hw1, hcalm⟩ | ⟨hw1, rfl⟩
      · rw [if_pos hw1]
        refine .inl ?_
        obtain ⟨x, rfl⟩ := hw
        have h3 := hcalm x
        unfold Oper.wp
        generalize (execOp a.eval o).run P (over w x) = r at h3
        cases r with
        | halt e w1 => exact h3.elim
        | ok nx w1 =>
          cases nx with
          | value u => obtain ⟨rfl, rfl⟩ := h3; exact hgo _ (Below.refl _ _)
          | skip => obtain ⟨rfl, rfl⟩ := h3; exact hgo _ (Below.refl _ _)
          | enter fn args =>
            obtain ⟨rfl, h4⟩ := h3
            rw [Oper.upon_enter]
            refine h4.mono ?_
            rintro e w2 ⟨rfl, hb⟩
            exact hgo _ hb
          | _ => exact h3.elim
      · rw [if_neg (by rw [hw1]; exact Bool.false_ne_true)]
        exact hgo _ (Below.refl _ _)
/-- THE REGION. n: the operations before the tail. -/
theorem wp_region_tl {id : Nat} {Q : Exit → Act → World → Prop} {a : Act} {w : World} {l : List Oper} (n : Nat) (hm : P.follows .mixedOrders = true) (hB : tlB l n = true)
    (h : wpCalm P (virt n l.length 0 l).toArray w (fun a' => ∀ x, wpList P l.toArray Q (l.drop n) a' (over w x)) (virt n l.length 0 l) a) :
    (Code.region id l.toArray true).wp P Q a w := by
  obtain ⟨ok, hlex⟩ := tlOk hB
  simp only [Region.lexB, Bool.and_eq_true] at hlex
  refine wp_region_any hm ?_
  have hlen : (virt n l.length 0 l).length = l.length := by
    have : ∀ (m : Nat) (l : List Oper) k, (virt n m k l).length = l.length := by
      intro m l
      induction l with
      | nil => intro k; rfl
      | cons o l ih => intro k; simp [virt, ih]
    exact this _ l 0
  have H := anyC_lex (P := P) (md := .any) (w0 := w) hlex.1 (virt n l.length 0 l) 0 _ a (by simp) (by simpa using hlex.2) h
  rw [hlen] at H
  have := simT ok (fun a hq => hq) l.length (Array.replicate l.length false) a { w with drawn := w.drawn + 1 } (by simp)
    (fun t _ ht => by simp [ht]) (fun j o ho hj => by
      have hjl : j < l.length := (List.getElem?_eq_some_iff.1 ho).1
      simp [hjl] at hj) (is_over (Below.refl _ _).drew) (by simpa [hlen] using H)
  simpa using this
end
end Go.Proofs.Ytmnkgjgaileokaa

/- The walk of FundsCodes. -/
namespace Go.Proofs.Ytmnkgjgaileokaa
open Go.RowKit Go.Shelf Go.Maps

attribute [local go_sem] over_cell over_frozen calm calmAt calmUpon
set_option maxRecDepth 100000 in
set_option maxHeartbeats 8000000 in
theorem codesLaw (L : List Act4) (a : Option Addr) (cap : Nat) (q0 q1 q2 : Int) (M : List Int) (ma : Option Addr) (mcap : Nat) (w : World) (h : InA w a L cap) (hq : (0 ≤ q0 ∧ q0 ≤ 65535) ∧ (0 ≤ q1 ∧ q1 ≤ 65535) ∧ (0 ≤ q2 ∧ q2 ≤ 65535))
    (hm : IntsAt w ma M) (hmi : AllIn M) (hm1 : M.length ≤ mcap) (hm2 : mcap ≤ 9223372036854775807) :
    Calls Try.prog 12 #[.slice a L.length cap, .agg #[.int .u16 q0, .int .u16 q1, .int .u16 q2], .slice ma M.length mcap] w fun r w' => r = .returned (.bool true) ∧ Below w.heap.size w w' := by
  have hcap := h.cap
  have hlen := h.len
  obtain ⟨⟨q00, q01⟩, ⟨q10, q11⟩, q20, q21⟩ := hq
  have B0 := Lib.hid ((Below.refl _ w).alloc (Nat.le_refl _) (.cells #[.int .u16 q0, .int .u16 q1, .int .u16 q2] 55))
  have K0 := Lib.hid (Blk.new w #[.int .u16 q0, .int .u16 q1, .int .u16 q2] 55)
  have HI0 := Lib.hid (h.below ((Below.refl _ w).alloc (Nat.le_refl _) (.cells #[.int .u16 q0, .int .u16 q1, .int .u16 q2] 55)) (Nat.le_refl _))
  have HMM := Lib.hid hm
  have HMI := Lib.hid hmi
  clear h hm hmi
  go_enter Try.func12, Try.ntmps12
  go_wp2_with fail
  generalize w.alloc (.cells #[.int .u16 q0, .int .u16 q1, .int .u16 q2] 55) = wA at *
  obtain ⟨Q, hQ⟩ : ∃ Q, Q = w.heap.size := ⟨_, rfl⟩
  rw [← hQ] at K0 ⊢
  have HQ := Lib.hid hQ
  clear hQ
  refine (sanity_any wA).mono ?_
  rintro e w0 ⟨rfl, hb0⟩
  have HI := Lib.hid (HI0.out.below hb0 (Nat.le_refl _))
  have B1 := Lib.hid (B0.out.trans (hb0.mono B0.out.size))
  have K1 := Lib.hid (K0.out.below hb0 K0.out.lt)
  clear hb0 HI0 B0 K0
  go_wp2_with fail
  refine (played_any L a cap w0 HI.out).mono ?_
  rintro e w1 ⟨rfl, s, v, hS, hR⟩
  have S0 := Lib.hid hS
  have G : RowKit.Hid (Good v) := hR.good
  have K2 := Lib.hid (K1.out.below hS.below K1.out.lt)
  have B2 := Lib.hid (B1.out.trans (hS.below.mono B1.out.size))
  clear hS hR K1 B1 HI
  go_wp2_with fail
  have key := encode_st S0.out.mem S0.out.pv G.out
  rw [S0.out.fb] at key
  refine key.mono ?_
  clear key
  rintro e w2 ⟨rfl, hb⟩
  have K3 := Lib.hid (K2.out.below hb K2.out.lt)
  have B3 := Lib.hid (B2.out.trans (hb.mono B2.out.size))
  have hE := enc1_size G.out
  have HIN := Lib.hid (code_in G.out)
  have HE : RowKit.Hid (v.enc1.data.toList = ints v.code) := Lib.hid (by unfold PV.enc1; simp)
  have HCL : v.code.length ≤ 50000 := by unfold PV.code; rw [codeOf_len, sorted_len]; have := G.out.len; omega
  clear hb K2 B2 S0 G
  generalize v.enc1 = E at *
  generalize v.code = C at *
  obtain ⟨bcap, w3, hrun, hc1, hc2, hb, hz, _, hcell, hfz⟩ := bytes_made E w2 (by unfold maxLen; omega)
  have K4 := Lib.hid (K3.out.below hb K3.out.lt)
  have B4 := Lib.hid (B3.out.trans (hb.mono B3.out.size))
  obtain ⟨X, hX⟩ : ∃ X, X = w2.heap.size := ⟨_, rfl⟩
  rw [← hX] at hrun hcell hfz hz
  have Y4 : RowKit.Hid (BytesAt w3 X E.data.toList) := Lib.hid ⟨by omega, fun j hj => by
    rw [dlen] at hj
    exact ⟨hcell j hj, hfz j hj⟩⟩
  have HX := Lib.hid hX
  have hQX : Q < X := by have := K3.out.lt; omega
  have hwX : w.heap.size ≤ X := by have := B3.out.size; omega
  have hc3 : bcap ≤ 9223372036854775807 := by unfold maxLen at hc2; omega
  clear hb hz hcell hfz hX hc2 K3 B3
  have hpos : 0 < E.size := by
    rw [← dlen, HE.out, ints, List.length_append, num_len]
    have := grp_pos C.length
    omega
  have hpos2 : decide (0 < E.size) = true := by simpa using hpos
  obtain ⟨i, hi⟩ : ∃ i : Nat, q0.tmod (E.size : Int) = (i : Int) := ⟨(q0.tmod (E.size : Int)).toNat, by rw [Int.tmod_eq_emod_of_nonneg q00]; have := Int.emod_nonneg q0 (show (E.size : Int) ≠ 0 by omega); omega⟩
  have hiE : i < E.size := by
    have := Int.emod_lt_of_pos q0 (show 0 < (E.size : Int) by omega)
    rw [Int.tmod_eq_emod_of_nonneg q00] at hi
    omega
  obtain ⟨j, hj⟩ : ∃ j : Nat, q1.tmod 255 = (j : Int) := ⟨(q1.tmod 255).toNat, by rw [Int.tmod_eq_emod_of_nonneg q10]; omega⟩
  have hj5 : j < 255 := by
    rw [Int.tmod_eq_emod_of_nonneg q10] at hj
    omega
  obtain ⟨hci, hfi⟩ := Y4.out.2 i (by rw [dlen]; exact hiE)
  obtain ⟨y, hy⟩ := xor_byte (E.data.toList[i]'(by rw [dlen]; exact hiE)).toNat (j + 1)
  have hbl := (E.data.toList[i]'(by rw [dlen]; exact hiE)).toNat_lt
  have Y5 := Lib.hid (Y4.out.set (i := i) (by rw [dlen]; exact hiE) y)
  generalize (E.data.toList[i]'(by rw [dlen]; exact hiE)).toNat = bi at *
  have hy' : bits .xor .u8 (bi : Int) (1 + (j : Int)) = (y.toNat : Int) := by rw [← hy]; congr 1; omega
  have K5a : w3.cell? ⟨Q, 0, none⟩ = some (.int .u16 q0) := K4.out.cell 0
  have K5b : w3.cell? ⟨Q, 1, none⟩ = some (.int .u16 q1) := K4.out.cell 1
  have hw1 : IntKind.u16.wrap (1 + (j : Int)) = 1 + (j : Int) := by unfold IntKind.wrap; simp only [IntKind.bits, IntKind.signed]; simp; omega
  have hw2 : IntKind.u8.wrap (1 + (j : Int)) = 1 + (j : Int) := by unfold IntKind.wrap; simp only [IntKind.bits, IntKind.signed]; simp; omega
  have hi0 : (0 : Int) ≤ (i : Int) := by omega
  have hi1 : (i : Int) < (E.size : Int) := by omega
  have hQ3 : Q < w3.heap.size := K4.out.lt
  have hX3 : X < w3.heap.size := Y4.out.1
  have hw3 : IntKind.i64.wrap (i : Int) = (i : Int) := IntWalk.i64_in _ (by omega)
  have hw0 : IntKind.i64.wrap q0 = q0 := IntWalk.i64_in _ (by omega)
  have hn0 : ((E.size : Int) == 0) = false := by rw [beq_eq_false_iff_ne]; omega
  have hn1 : ¬ (E.size : Int) = 0 := by omega
  have hn2 : ¬ E.size = 0 := by omega
  have HJ := Lib.hid hj5
  clear hy hiE hj5
  go_wp2_with fail
  go_still_tail 16, (by kernel_rfl)
  go_wp2_with fail
  have Y6 : RowKit.Hid (BytesAt (w3.setCell ⟨X, i, none⟩ (.int .u8 (y.toNat : Int))).drew X (E.data.toList.set i y)) := Lib.hid (Y5.out.below (Below.refl _ _).drew)
  have B6 : RowKit.Hid (Below w.heap.size w (w3.setCell ⟨X, i, none⟩ (.int .u8 (y.toNat : Int))).drew) := Lib.hid ((B4.out.setCell (p := ⟨X, i, none⟩) hwX _).drew)
  have K6 : RowKit.Hid (Blk (w3.setCell ⟨X, i, none⟩ (.int .u8 (y.toNat : Int))).drew Q #[.int .u16 q0, .int .u16 q1, .int .u16 q2] 55) := Lib.hid (Blk.drew (K4.out.set_ne ⟨X, i, none⟩ _ (by show Q ≠ X; omega)))
  have hDL : (E.data.toList.set i y).length = E.size := by rw [List.length_set, dlen]
  have HDL := Lib.hid hDL
  have hX6 : X < (w3.setCell ⟨X, i, none⟩ (.int .u8 (y.toNat : Int))).drew.heap.size := Y6.out.1
  generalize (w3.setCell ⟨X, i, none⟩ (.int .u8 (y.toNat : Int))).drew = w6 at *
  generalize E.data.toList.set i y = DD at *
  clear Y4 Y5 B4 K4 K5a K5b hci hfi hy' hbl hw0 hw1 hw2 hw3 hn0 hi hj hi0 hi1 hQ3 hX3 hrun hpos2 hDL
  refine (rreadints_any E w6 (by omega)).mono ?_
  rintro e w7 ⟨hRi, hb⟩
  rcases hRi with ⟨C', la, lcap, rfl, hl, _, hI, hlc1, hlc2, hlc3⟩ | ⟨c, rfl, _, hno⟩
  rotate_left
  · exact absurd HE.out (hno C HIN.out)
  obtain rfl : C' = C := ints_inj (hl.symm.trans HE.out)
  have Y7 := Lib.hid (Y6.out.below hb)
  have B7 := Lib.hid (B6.out.trans (hb.mono B6.out.size))
  have K7 := Lib.hid (K6.out.below hb K6.out.lt)
  have I7 := Lib.hid hI
  have hX7 : X < w7.heap.size := Y7.out.1
  have HLC := Lib.hid hlc3
  have OW := Lib.hid (World.ownsRow_made (base := 0) (e := 3) (size := 1) w7 #[] 0 (Nat.zero_le _) (by unfold maxLen; omega) rfl)
  have hz7 := B7.out.size
  clear hb hI Y6 B6 K6 hl hX6 hlc3
  go_wp2_with (at_builtin; go_must (refine append_copy _ rfl (.tmp 52) (.tmp 53) rfl w7.heap.size rfl OW.out C' la lcap rfl (I7.out.below ((Below.refl _ w7).alloc (Nat.le_refl _) _) (Nat.le_refl _)) HLC.out HCL ?_; intro gm mc w8 hRow hmc1 hmc2 hgrow hgm))
  have hb8 : Below w7.heap.size w7 w8 := ((Below.refl _ w7).alloc (Nat.le_refl _) _).grown hgrow (by rw [size_alloc]; omega) (fun j e => by injection e with e; omega)
  have hgm7 : w7.heap.size ≤ gm := by rw [size_alloc] at hgm; omega
  have Y8 := Lib.hid (Y7.out.below hb8)
  have K8 := Lib.hid (K7.out.below hb8 K7.out.lt)
  have B8 := Lib.hid (B7.out.trans (hb8.mono hz7))
  have R8 := Lib.hid hRow
  have hgX : X < gm := by omega
  have hgw : w.heap.size ≤ gm := by omega
  have HCI := Lib.hid (show AllIn C' from HIN.out)
  obtain ⟨n, hn⟩ : ∃ n, n = C'.length := ⟨_, rfl⟩
  rw [← hn] at hmc1 HCL ⊢
  have HN := Lib.hid hn
  clear hRow hgrow hgm hb8 Y7 K7 B7 I7 OW HLC hz7 hn hgm7 HE HIN hlc1 hlc2 hX7
  go_wp2_with fail
  go_loopw [14] (fun iv wr => ∃ (k : Nat) (Z : List Int), k ≤ M.length ∧ k ≤ 60 ∧ iv = .int .i64 k ∧ Z.length = n ∧ AllIn Z ∧ RowAt wr gm Z ∧ BytesAt wr X DD ∧ Blk wr Q #[.int .u16 q0, .int .u16 q1, .int .u16 q2] 55 ∧ Below w.heap.size w wr) (fun iv _ => 60 - (intOf iv).toNat)
  case atStart => exact ⟨0, C', by omega, by omega, rfl, HN.out.symm, HCI.out, R8.out, Y8.out, K8.out, B8.out⟩
  case round =>
    obtain ⟨k, Z, hk, hk6, rfl, hZ, hZI, hRow, hY, hK, hB⟩ := hrel
    have HZ := Lib.hid hZ
    have ZI := Lib.hid hZI
    have R9 := Lib.hid hRow
    have Y9 := Lib.hid hY
    have K9 := Lib.hid hK
    have B9 := Lib.hid hB
    clear hZ hZI hRow hY hK hB R8 Y8 K8 B8 HCI HN
    by_cases hgo : k < M.length ∧ k < 60 ∧ 0 < n
    · obtain ⟨h1, h2, h3⟩ := hgo
      by_cases hk3 : k < 3
      · obtain ⟨b, o, rfl, hbw, hcm⟩ : ∃ b o, ma = some ⟨b, o, none⟩ ∧ b < w.heap.size ∧ ∀ j, j < M.length → w.cell? ⟨b, o + j, none⟩ = some (.int .i64 (M.getD j 0)) := by
          rcases HMM.out with h | h
          · rw [h] at h1; simp at h1
          · exact h
        have hck : wr.cell? ⟨b, o + k, none⟩ = some (.int .i64 (M.getD k 0)) := by
          rw [← hcm k h1]
          exact B9.out.cell (p := ⟨b, o + k, none⟩) hbw
        have hzb := HMI.out (M.getD k 0) (by rw [getD_get _ _ h1]; exact List.getElem_mem h1)
        have hbr : b < wr.heap.size := by have := B9.out.size; omega
        generalize M.getD k 0 = z at *
        obtain ⟨i2, hi2⟩ : ∃ i : Nat, z % (n : Int) = (i : Int) := ⟨(z % (n : Int)).toNat, by have := Int.emod_nonneg z (show (n : Int) ≠ 0 by omega); omega⟩
        have hi3 : i2 < n := by have := Int.emod_lt_of_pos z (show 0 < (n : Int) by omega); omega
        obtain ⟨d, hd⟩ : ∃ d : Int, z.tdiv 100 = d := ⟨_, rfl⟩
        have hdb : -9223372036854775808 ≤ d ∧ d ≤ 9223372036854775807 := by
          rw [← hd]
          rcases Int.le_total 0 z with h | h
          · rw [Int.tdiv_eq_ediv_of_nonneg h]; omega
          · have e : z.tdiv 100 = -((-z).tdiv 100) := by rw [Int.neg_tdiv, Int.neg_neg]
            rw [e, Int.tdiv_eq_ediv_of_nonneg (by omega)]; omega
        have hwd : IntKind.i64.wrap d = d := IntWalk.i64_in _ (by omega)
        obtain ⟨e2, he2⟩ : ∃ e : Nat, d % 12 = (e : Int) := ⟨(d % 12).toNat, by omega⟩
        have he3 : e2 < 12 := by omega
        have hwe : IntKind.i64.wrap ((e2 : Int) - 1) = (e2 : Int) - 1 := IntWalk.i64_in _ (by omega)
        have hi4 : (i2 : Int) < (n : Int) := by omega
        have hi5 : (0 : Int) ≤ (i2 : Int) := by omega
        obtain ⟨hr1, hr2⟩ := R9.out.2 i2 (by rw [HZ.out]; exact hi3)
        have hgr : gm < wr.heap.size := R9.out.1
        have RS := Lib.hid (R9.out.set i2 ((e2 : Int) - 1))
        have YS := Lib.hid (Y9.out)
        have KM1 : RowKit.Hid (∀ W : World, Calls Try.prog 32 #[.int .i64 z, .int .i64 n] W fun e w' => e = .returned (.int .i64 (i2 : Int)) ∧ w' = W) := Lib.hid fun W => by
          have := mod_any z n W (by omega) (by omega)
          rw [hi2] at this
          exact this.mono fun _ _ ⟨h1, h2⟩ => ⟨h1, h2.symm⟩
        have KM2 : RowKit.Hid (∀ W : World, Calls Try.prog 32 #[.int .i64 d, .int .i64 12] W fun e w' => e = .returned (.int .i64 (e2 : Int)) ∧ w' = W) := Lib.hid fun W => by
          have := mod_any d 12 W (by omega) (by omega)
          rw [he2] at this
          exact this.mono fun _ _ ⟨h1, h2⟩ => ⟨h1, h2.symm⟩
        have HE3 := Lib.hid he3
        clear hi2 he2 hcm he3
        go_wp2_with fail
        refine wp_region_still_tail 16 (by kernel_rfl) (by kernel_rfl) ?_
        simp only [List.take_succ_cons, List.take_zero, List.drop_succ_cons, List.drop_zero]
        repeat still_step
        still_call (KM1.out _)
        repeat still_step
        still_call (KM2.out _)
        repeat still_step
        refine wpStill_nil ?_
        go_wp2_with fail
        refine ⟨⟨k + 1, Z.set i2 ((e2 : Int) - 1), by omega, by omega, by go_num, by rw [List.length_set, HZ.out], fun y hy => ?_, RS.out.below (Below.refl _ _).drew, ?_, ?_, (B9.out.setCell (p := ⟨gm, i2, none⟩) hgw _).drew⟩, by simp [intOf]; omega⟩
        · rcases List.mem_or_eq_of_mem_set hy with h | h
          · exact ZI.out y h
          · subst h; have := HE3.out; omega
        · refine ⟨by simpa using Y9.out.1, fun j hj => ?_⟩
          obtain ⟨f1, f2⟩ := Y9.out.2 j hj
          have hXg : X ≠ gm := by omega
          refine ⟨?_, ?_⟩
          · show (wr.setCell ⟨gm, i2, none⟩ (.int .i64 ((e2 : Int) - 1))).cell? ⟨X, j, none⟩ = _
            rw [World.cell?_setCell_other (h := by intro e; injection e with e; exact hXg e.symm)]; exact f1
          · show (wr.setCell ⟨gm, i2, none⟩ (.int .i64 ((e2 : Int) - 1))).frozen? ⟨X, j, none⟩ = _
            rw [World.frozen?_setCell]; exact f2
        · exact Blk.drew (K9.out.set_ne ⟨gm, i2, none⟩ _ (by show Q ≠ gm; omega))
      · go_wp2_with fail
        exact ⟨⟨k + 1, Z, by omega, by omega, by go_num, HZ.out, ZI.out, R9.out, Y9.out, K9.out, B9.out⟩, by simp [intOf]; omega⟩
    · have hend : (¬ k < M.length) ∨ (k < M.length ∧ ¬ k < 60) ∨ (k < M.length ∧ k < 60 ∧ ¬ 0 < n) := by omega
      clear hgo
      have hHN := HZ.out
      obtain ⟨p, hp⟩ : ∃ p : Nat, q2.tmod ((E.size : Int) + 1) = (p : Int) := ⟨(q2.tmod ((E.size : Int) + 1)).toNat, by rw [Int.tmod_eq_emod_of_nonneg q20]; have := Int.emod_nonneg q2 (show (E.size : Int) + 1 ≠ 0 by omega); omega⟩
      have hpE : p ≤ E.size := by
        have := Int.emod_lt_of_pos q2 (show 0 < (E.size : Int) + 1 by omega)
        rw [Int.tmod_eq_emod_of_nonneg q20] at hp
        omega
      have KM : RowKit.Hid (∀ x, Calls Try.prog 33 #[.slice (some ⟨gm, 0, none⟩) n mc] (over wr x) fun e w' => e = .returned (.string ⟨(ints Z).toArray⟩) ∧ Below (over wr x).heap.size (over wr x) w') := Lib.hid fun x => by
        have := rints_any Z (some ⟨gm, 0, none⟩) mc (over wr x) (R9.out.ints.below (below_over wr x) (Nat.le_refl _)) (by omega) (by omega) hmc2 ZI.out
        rwa [HZ.out] at this
      obtain ⟨mm, hmm⟩ : ∃ mm : Nat, mm = min M.length 60 := ⟨_, rfl⟩
      have KN : RowKit.Hid (∀ x, Calls Try.prog 33 #[.slice ma mm mcap] (over wr x) fun e w' => e = .returned (.string ⟨(ints (M.take mm)).toArray⟩) ∧ Below (over wr x).heap.size (over wr x) w') := Lib.hid fun x => by
        have hI : IntsAt (over wr x) ma (M.take mm) := by
          rcases HMM.out with h | ⟨b, o, h1, h2, h3⟩
          · left; rw [h]; simp
          · right
            refine ⟨b, o, h1, by have := B9.out.size; have := over_size_le wr x; omega, fun j hj => ?_⟩
            rw [List.length_take] at hj
            have e1 : (over wr x).cell? ⟨b, o + j, none⟩ = w.cell? ⟨b, o + j, none⟩ := ((below_over wr x).cell (p := ⟨b, o + j, none⟩) (by show b < wr.heap.size; have := B9.out.size; omega)).trans (B9.out.cell (p := ⟨b, o + j, none⟩) h2)
            rw [e1, h3 j (by omega)]
            congr 2
            rw [getD_get _ _ (by omega), getD_get _ _ (by rw [List.length_take]; omega), List.getElem_take]
        have hl : (M.take mm).length = mm := by rw [List.length_take]; omega
        have := rints_any (M.take mm) ma mcap (over wr x) hI (by omega) (by omega) hm2 (fun z hz => HMI.out z (List.mem_of_mem_take hz))
        rwa [hl] at this
      have hcv : ∀ x, (convert 57 9 (.slice (some ⟨X, 0, none⟩) E.size bcap)).run Try.prog (over wr x) = .ok (.string ⟨DD.toArray⟩) (over wr x) := fun x => by
        have := (Y9.out.below (below_over wr x)).string bcap
        rwa [HDL.out] at this
      have hcat : ∀ w : World, (Op.stringOp .add E ⟨#[0]⟩).run Try.prog w = .ok (.string ⟨(E.data.toList ++ [0]).toArray⟩) w := fun w => by
        have := run_string_add_lists (P := Try.prog) (w := w) E.data.toList [0] (by rw [dlen]; omega) (by simp)
        simpa using this
      have hmn1 : (if (60 : Int) < (M.length : Int) then (60 : Int) else (M.length : Int)) = (mm : Int) := by split <;> omega
      have hmn2 : (if 60 < M.length then (60 : Int) else (M.length : Int)) = (mm : Int) := by split <;> omega
      have hmn3 : min (M.length : Int) 60 = (mm : Int) := by omega
      have hm0 : (0 : Int) ≤ (mm : Int) := by omega
      have hm4 : (mm : Int) ≤ (mcap : Int) := by omega
      have hm5 : IntKind.i64.wrap (mm : Int) = (mm : Int) := IntWalk.i64_in _ (by omega)
      have k92 : wr.cell? ⟨Q, 2, none⟩ = some (.int .u16 q2) := K9.out.cell 2
      have hQr : Q < wr.heap.size := K9.out.lt
      have ww1 : IntKind.i64.wrap q2 = q2 := IntWalk.i64_in _ (by omega)
      have ww2 : IntKind.i64.wrap ((E.size : Int) + 1) = (E.size : Int) + 1 := IntWalk.i64_in _ (by omega)
      have ww3 : ¬ (E.size : Int) + 1 = 0 := by omega
      have ww4 : (((E.size : Int) + 1) == 0) = false := by rw [beq_eq_false_iff_ne]; omega
      have ww5 : IntKind.i64.wrap (p : Int) = (p : Int) := IntWalk.i64_in _ (by omega)
      have ww6 : (0 : Int) ≤ (p : Int) := by omega
      have ww7 : (p : Int) ≤ (E.size : Int) := by omega
      have HMM2 := Lib.hid hmm
      have HPE := Lib.hid hpE
      clear hmm hHN hpE
      rcases hend with he1 | ⟨he1, he2⟩ | ⟨he1, he2, he3⟩
      all_goals
        go_wp2_with fail
        refine wp_region_tl 22 (by kernel_rfl) (by kernel_rfl) ?_
        simp only [virt, vmove, vtail, List.length_cons, List.length_nil, Nat.reduceAdd, Nat.reduceLeDiff, Nat.reduceEqDiff, if_true, if_false]
        repeat (refine wpCalm_step (fun K hK => ?_); go_simp; first | (refine hK _ ?_; clear hK K) | (apply Exists.intro; refine ⟨fun _ => ?_, hK _ ?_⟩; (go_at_call 33; first | (with_reducible exact KM.out _) | (with_reducible exact KN.out _)); clear hK K))
        refine wpCalm_nil ?_
        intro x
        have Bx := Lib.hid (B9.out.trans (bover x B9.out.size))
        clear KM KN hcv hcat k92 hQr ww1 ww2 ww3 ww4 ww5 ww6 ww7 hmn1 hmn2 hmn3 hm0 hm4 hm5 R9 Y9 K9 B9 hp
        generalize over wr x = W at *
        simp only [List.drop_succ_cons, List.drop_zero]
        go_wp2_with fail
        have hs0 : E.size ≤ 1000000 := by omega
        have hs1 : (⟨DD.toArray⟩ : ByteArray).size ≤ 1000000 := by rw [str_size, HDL.out]; omega
        have hs2 : (E.extract 0 p).size ≤ 1000000 := by rw [ByteArray.size_extract]; omega
        have hs3 : (⟨(E.data.toList ++ [0]).toArray⟩ : ByteArray).size ≤ 1000000 := by rw [str_size, List.length_append, dlen, List.length_singleton]; omega
        have hs4 : (⟨(ints Z).toArray⟩ : ByteArray).size ≤ 1000000 := by rw [str_size]; have := ints_len ZI.out (by rw [HZ.out]; omega); rw [HZ.out] at this; omega
        have hs5 : (⟨(ints (M.take mm)).toArray⟩ : ByteArray).size ≤ 1000000 := by
          rw [str_size]
          have h1 : (M.take mm).length ≤ 60 := by rw [List.length_take]; have := HMM2.out; omega
          have := ints_len (L := M.take mm) (fun z hz => HMI.out z (List.mem_of_mem_take hz)) (by omega)
          omega
        generalize (⟨DD.toArray⟩ : ByteArray) = t1 at *
        generalize E.extract 0 p = t2 at *
        generalize (⟨(E.data.toList ++ [0]).toArray⟩ : ByteArray) = t3 at *
        generalize (⟨(ints Z).toArray⟩ : ByteArray) = t4 at *
        generalize (⟨(ints (M.take mm)).toArray⟩ : ByteArray) = t5 at *
        have KG := Lib.hid (Blk.new W #[.string E, .string t1, .string t2, .string t3, .string t4, .string t5] 9)
        have BG := Lib.hid (Bx.out.alloc Bx.out.size (.cells #[.string E, .string t1, .string t2, .string t3, .string t4, .string t5] 9))
        have HALL : RowKit.Hid (∀ t : Nat, t < 6 → ∃ str : ByteArray, (#[.string E, .string t1, .string t2, .string t3, .string t4, .string t5] : Array Value)[t]? = some (.string str) ∧ str.size ≤ 1000000) := Lib.hid fun t ht => by
          have : t = 0 ∨ t = 1 ∨ t = 2 ∨ t = 3 ∨ t = 4 ∨ t = 5 := by omega
          rcases this with rfl | rfl | rfl | rfl | rfl | rfl
          · exact ⟨E, rfl, hs0⟩
          · exact ⟨t1, rfl, hs1⟩
          · exact ⟨t2, rfl, hs2⟩
          · exact ⟨t3, rfl, hs3⟩
          · exact ⟨t4, rfl, hs4⟩
          · exact ⟨t5, rfl, hs5⟩
        clear hs0 hs1 hs2 hs3 hs4 hs5 Bx
        generalize W.alloc (.cells #[.string E, .string t1, .string t2, .string t3, .string t4, .string t5] 9) = W9 at *
        generalize W.heap.size = GG at *
        go_loopw [16] (fun iv wq => ∃ t : Nat, t ≤ 6 ∧ iv = .int .i64 t ∧ Blk wq GG #[.string E, .string t1, .string t2, .string t3, .string t4, .string t5] 9 ∧ Below w.heap.size w wq) (fun iv _ => 6 - (intOf iv).toNat)
        case atStart => exact ⟨0, by omega, rfl, KG.out, BG.out⟩
        case round =>
          obtain ⟨t, ht, rfl, hK, hB⟩ := hrel
          have KH := Lib.hid hK
          have BH := Lib.hid hB
          clear hK hB KG BG
          by_cases hlt : t < 6
          · obtain ⟨str, hstr, hsz⟩ := HALL.out t hlt
            have hcell := (KH.out.cell t).trans hstr
            have hGG := KH.out.lt
            clear hstr
            go_wp2_with fail
            refine (open_any str _ hsz).mono ?_
            rintro e w11 ⟨hO, hb⟩
            have KI := Lib.hid (KH.out.below hb KH.out.lt)
            have BI := Lib.hid (BH.out.trans (hb.mono BH.out.size))
            have hcell2 : w11.cell? ⟨GG, t, none⟩ = some (.string str) := ((hb.cell (p := ⟨GG, t, none⟩) hGG)).trans hcell
            have hGG2 := KI.out.lt
            clear hb hcell
            rcases hO with ⟨LL, nn, ss, hl1, hl2, hl3, rfl, hM, hOp, _, _⟩ | ⟨rfl, hno⟩
            · have HM := Lib.hid hM
              have HOp := Lib.hid hOp
              have H1 := Lib.hid hl1
              have H2 := Lib.hid hl2
              have H3 := Lib.hid hl3
              clear hM hOp hl1 hl2 hl3
              go_wp2_with fail
              refine (ropen_any str _ hsz).mono ?_
              rintro e w12 ⟨hR, hb⟩
              rcases hR with ⟨LL', nn', rbb, ssl, hl1, _, hl3, rfl, hRM, _, _⟩ | ⟨_, hno⟩
              rotate_left
              · exact absurd H3.out (hno LL nn H1.out H2.out)
              obtain rfl : LL = LL' := ints_inj (H1.out.symm.trans hl1)
              obtain rfl : nn = nn' := by have h4 := H3.out.len; have h5 := hl3.len; omega
              have KEY := Lib.hid (opened_agree (HM.out.below hb) HOp.out H3.out H2.out hRM)
              have KJ := Lib.hid (KI.out.below hb KI.out.lt)
              have BJ := Lib.hid (BI.out.trans (hb.mono BI.out.size))
              clear hb hRM hl1 hl3 hcell2
              go_wp2_with fail
              refine KEY.out.mono ?_
              rintro e w13 ⟨rfl, hb⟩
              have KL := Lib.hid (KJ.out.below hb KJ.out.lt)
              have BL := Lib.hid (BJ.out.trans (hb.mono BJ.out.size))
              clear hb
              go_wp2_with fail
              exact ⟨⟨t + 1, by omega, by go_num, KL.out, BL.out⟩, by simp [intOf]; omega⟩
            · have HNO := Lib.hid hno
              clear hno
              go_wp2_with fail
              refine (ropen_any str _ hsz).mono ?_
              rintro e w12 ⟨hR, hb⟩
              rcases hR with ⟨LL', nn', rbb, ssl, hl1, hl2, hl3, _⟩ | ⟨rfl, _⟩
              · exact absurd hl3 (HNO.out LL' nn' hl1 hl2)
              have KJ := Lib.hid (KI.out.below hb KI.out.lt)
              have BJ := Lib.hid (BI.out.trans (hb.mono BI.out.size))
              clear hb hcell2
              go_wp2_with fail
              exact ⟨⟨t + 1, by omega, by go_num, KJ.out, BJ.out⟩, by simp [intOf]; omega⟩
          · obtain rfl : t = 6 := by omega
            go_wp2_with fail
            go_ret
            exact ⟨rfl, BH.out⟩
end Go.Proofs.Ytmnkgjgaileokaa
