/- Least costs of ways, plainly: rounds over a list of edges. -/
import Derived.Test.YtpcmppamkgkdlaaPA
namespace Go.Proofs.Ytpcmppamkgkdlaa

structure BF where
  cost : Nat → Int
  bef : Nat → Option Nat
  chg : Option Nat

def upd {α : Type} (f : Nat → α) (a : Nat) (x : α) : Nat → α := fun b => if b = a then x else f b
theorem upd_eq {α : Type} (f : Nat → α) (a : Nat) (x : α) : upd f a x a = x := by simp [upd]
theorem upd_ne {α : Type} (f : Nat → α) {a b : Nat} (x : α) (h : b ≠ a) : upd f a x b = f b := by simp [upd, h]

abbrev Edge := Nat × Nat × Int
def endl : Int := 1152921504606846976

def relaxE (s : BF) (e : Edge) : BF :=
  if s.cost e.1 < endl ∧ s.cost e.1 + e.2.2 < s.cost e.2.1 then ⟨upd s.cost e.2.1 (s.cost e.1 + e.2.2), upd s.bef e.2.1 (some e.1), some e.2.1⟩ else s

theorem relax_yes {s : BF} {a b : Nat} {w : Int} (h : s.cost a < endl ∧ s.cost a + w < s.cost b) : relaxE s (a, b, w) = ⟨upd s.cost b (s.cost a + w), upd s.bef b (some a), some b⟩ := if_pos h
theorem relax_no {s : BF} {a b : Nat} {w : Int} (h : ¬ (s.cost a < endl ∧ s.cost a + w < s.cost b)) : relaxE s (a, b, w) = s := if_neg h

/-- What holds in round r, when some edges have been looked at. `tm`: when a node was changed last; `rd`: in which round (and one more); `T`: the time. -/
structure Inv (E : List Edge) (wt : Nat → Nat → Int) (src : Option Nat) (r : Nat) (done : Nat → Nat → Prop) (s : BF) (tm rd : Nat → Nat) (T : Nat) : Prop where
  time : ∀ v, tm v < T
  top : ∀ v, s.cost v ≤ endl
  late : ∀ v, rd v ≤ r + 1
  nb : ∀ v, s.bef v = none → rd v = 0 ∧ s.cost v = match src with | none => 0 | some a => if v = a then 0 else endl
  edge : ∀ {u v}, s.bef v = some u → (u, v, wt u v) ∈ E ∧ s.cost u < endl ∧ s.cost u + wt u v ≤ s.cost v ∧ (s.cost u + wt u v = s.cost v → tm u < tm v) ∧ rd v ≤ rd u + 1
  sb : ∀ {u v}, s.bef v = some u → 1 ≤ rd v
  al : ∀ {u v}, (u, v, wt u v) ∈ E → s.cost u < endl → s.cost v ≤ s.cost u + wt u v ∨ r ≤ rd u
  doneI : ∀ {u v}, done u v → s.cost u < endl → s.cost v ≤ s.cost u + wt u v ∨ r + 1 ≤ rd u
  chgI : ∀ {v}, s.chg = some v → rd v = r + 1
  noI : s.chg = none → ∀ v, rd v ≤ r

variable {E : List Edge} {wt : Nat → Nat → Int} {src : Option Nat} {r : Nat} {done d d' : Nat → Nat → Prop} {s : BF} {tm rd : Nat → Nat} {T : Nat}
theorem Inv.relax (h : Inv E wt src r done s tm rd T) {a b : Nat} {w : Int} (he : (a, b, w) ∈ E) (hw : ∀ {u v w}, (u, v, w) ∈ E → w = wt u v ∧ u ≠ v) :
    ∃ tm' rd' T', Inv E wt src r (fun u v => done u v ∨ (u = a ∧ v = b)) (relaxE s (a, b, w)) tm' rd' T' := by
  obtain ⟨rfl, hab⟩ := hw he
  by_cases hc : s.cost a < endl ∧ s.cost a + wt a b < s.cost b
  · rw [relax_yes hc]
    obtain ⟨hc1, hc2⟩ := hc
    have htop := h.top
    have hrd : ∀ v, rd v ≤ upd rd b (r + 1) v := fun v => by
      by_cases hv : v = b
      · subst hv; rw [upd_eq]; exact h.late _
      · rw [upd_ne _ _ hv]; exact Nat.le_refl _
    have ha : r ≤ rd a := by
      rcases h.al he hc1 with h1 | h1
      · omega
      · exact h1
    refine ⟨upd tm b T, upd rd b (r + 1), T + 1, ?_⟩
    refine { time := fun v => ?_, top := fun v => ?_, late := fun v => ?_, nb := fun v hv => ?_, edge := fun {u v} hv => ?_, sb := fun {u v} hv => ?_, al := fun {u v} hv hu => ?_, doneI := fun {u v} hv hu => ?_, chgI := fun {v} hv => ?_, noI := fun hv => ?_ }
    · by_cases hv : v = b
      · subst hv; rw [upd_eq]; omega
      · rw [upd_ne _ _ hv]; have := h.time v; omega
    · show upd s.cost b _ v ≤ endl
      by_cases hv : v = b
      · subst hv; rw [upd_eq]; have := htop v; omega
      · rw [upd_ne _ _ hv]; exact htop v
    · by_cases hv : v = b
      · subst hv; rw [upd_eq]; exact Nat.le_refl _
      · rw [upd_ne _ _ hv]; exact h.late v
    · have hv' : upd s.bef b (some a) v = none := hv
      by_cases hvb : v = b
      · subst hvb; rw [upd_eq] at hv'; cases hv'
      · rw [upd_ne _ _ hvb] at hv'
        show upd rd b _ v = 0 ∧ upd s.cost b _ v = _
        rw [upd_ne _ _ hvb, upd_ne _ _ hvb]
        exact h.nb v hv'
    · have hv' : upd s.bef b (some a) v = some u := hv
      show _ ∈ E ∧ upd s.cost b _ u < endl ∧ upd s.cost b _ u + _ ≤ upd s.cost b _ v ∧ (upd s.cost b _ u + _ = upd s.cost b _ v → _) ∧ _
      by_cases hvb : v = b
      · subst hvb
        rw [upd_eq] at hv'
        obtain rfl : a = u := by injection hv'
        rw [upd_eq, upd_ne _ _ hab, upd_eq, upd_eq, upd_ne _ _ hab, upd_ne _ _ hab]
        exact ⟨he, hc1, Int.le_refl _, fun _ => h.time _, by omega⟩
      · rw [upd_ne _ _ hvb] at hv'
        obtain ⟨g1, g2, g3, g4, g5⟩ := h.edge hv'
        rw [upd_ne _ _ hvb, upd_ne _ _ hvb, upd_ne _ _ hvb]
        by_cases hub : u = b
        · subst hub
          rw [upd_eq, upd_eq, upd_eq]
          have := htop u
          exact ⟨g1, by omega, by omega, fun _ => by omega, by have := h.late v; omega⟩
        · rw [upd_ne _ _ hub, upd_ne _ _ hub, upd_ne _ _ hub]
          exact ⟨g1, g2, g3, g4, g5⟩
    · have hv' : upd s.bef b (some a) v = some u := hv
      by_cases hvb : v = b
      · subst hvb; rw [upd_eq]; omega
      · rw [upd_ne _ _ hvb] at hv' ⊢
        exact h.sb hv'
    · have hu' : upd s.cost b (s.cost a + wt a b) u < endl := hu
      show upd s.cost b _ v ≤ upd s.cost b _ u + _ ∨ _
      by_cases hub : u = b
      · subst hub; right; rw [upd_eq]; omega
      · rw [upd_ne _ _ hub] at hu' ⊢
        rw [upd_ne _ _ hub]
        rcases h.al hv hu' with g | g
        · left
          by_cases hvb : v = b
          · subst hvb; rw [upd_eq]; omega
          · rw [upd_ne _ _ hvb]; exact g
        · exact .inr g
    · have hu' : upd s.cost b (s.cost a + wt a b) u < endl := hu
      show upd s.cost b _ v ≤ upd s.cost b _ u + _ ∨ _
      by_cases hub : u = b
      · subst hub; right; rw [upd_eq]; omega
      · rw [upd_ne _ _ hub] at hu' ⊢
        rw [upd_ne _ _ hub]
        rcases hv with hv | ⟨rfl, rfl⟩
        · rcases h.doneI hv hu' with g | g
          · left
            by_cases hvb : v = b
            · subst hvb; rw [upd_eq]; omega
            · rw [upd_ne _ _ hvb]; exact g
          · exact .inr g
        · left; rw [upd_eq]; exact Int.le_refl _
    · have : some b = some v := hv
      obtain rfl : b = v := by injection this
      rw [upd_eq]
    · cases hv
  · rw [relax_no hc]
    refine ⟨tm, rd, T, { h with doneI := fun {u v} hv hu => ?_ }⟩
    rcases hv with hv | ⟨rfl, rfl⟩
    · exact h.doneI hv hu
    · left; omega

theorem Inv.weaken (h : Inv E wt src r d s tm rd T) (hd : ∀ u v, d' u v → d u v) : Inv E wt src r d' s tm rd T :=
  { h with doneI := fun hv hu => h.doneI (hd _ _ hv) hu }

/-- The state when some edges of a round have been looked at. -/
theorem Inv.fold (hw : ∀ {u v w}, (u, v, w) ∈ E → w = wt u v ∧ u ≠ v) : ∀ (L : List Edge) {d s tm rd T}, (∀ e ∈ L, e ∈ E) → Inv E wt src r d s tm rd T →
    ∃ tm' rd' T', Inv E wt src r (fun u v => d u v ∨ ∃ w, (u, v, w) ∈ L) (L.foldl relaxE s) tm' rd' T'
  | [], d, s, tm, rd, T, _, h => ⟨tm, rd, T, h.weaken fun u v hv => by rcases hv with hv | ⟨w, hw⟩; exact hv; cases hw⟩
  | (a, b, w) :: L, d, s, tm, rd, T, hL, h => by
    obtain ⟨tm1, rd1, T1, h1⟩ := h.relax (hL _ (List.mem_cons_self ..)) hw
    obtain ⟨tm2, rd2, T2, h2⟩ := Inv.fold hw L (fun e he => hL e (List.mem_cons_of_mem _ he)) h1
    refine ⟨tm2, rd2, T2, h2.weaken fun u v hv => ?_⟩
    rcases hv with hv | ⟨w', hv⟩
    · exact .inl (.inl hv)
    · rcases List.mem_cons.1 hv with e | hv
      · injection e with e1 e2; injection e2 with e2 e3
        exact .inl (.inr ⟨e1, e2⟩)
      · exact .inr ⟨w', hv⟩

def BF.again (s : BF) : BF := { s with chg := none }
def rnd (E : List Edge) (s : BF) : BF := E.foldl relaxE s.again

theorem Inv.next (h : Inv E wt src r (fun u v => (u, v, wt u v) ∈ E) s tm rd T) : Inv E wt src (r + 1) (fun _ _ => False) s.again tm rd T :=
  { time := h.time, top := h.top, late := fun v => by have := h.late v; omega, nb := h.nb, edge := h.edge, sb := h.sb,
    al := fun hv hu => h.doneI hv hu, doneI := fun hv => hv.elim, chgI := fun hv => (by cases hv), noI := fun _ v => h.late v }

def start (src : Option Nat) : BF := ⟨fun v => match src with | none => 0 | some a => if v = a then 0 else endl, fun _ => none, none⟩

theorem Inv.start : Inv E wt src 0 (fun _ _ => False) (start src) (fun _ => 0) (fun _ => 0) 1 :=
  { time := fun _ => by omega
    top := fun v => by
      show (match src with | none => (0 : Int) | some a => if v = a then 0 else endl) ≤ endl
      have h0 : (0 : Int) ≤ endl := by decide
      cases src with
      | none => exact h0
      | some a => by_cases h : v = a <;> simp [h, h0]
    late := fun _ => by omega
    nb := fun v _ => ⟨rfl, rfl⟩
    edge := fun hv => by cases hv
    sb := fun hv => by cases hv
    al := fun _ _ => .inr (Nat.zero_le _)
    doneI := fun hv => hv.elim
    chgI := fun hv => by cases hv
    noI := fun _ _ => by omega }

/-- The state after k rounds. -/
def rounds (E : List Edge) (src : Option Nat) : Nat → BF
  | 0 => start src
  | k + 1 => rnd E (rounds E src k)

theorem rounds_inv (hw : ∀ {u v w}, (u, v, w) ∈ E → w = wt u v ∧ u ≠ v) : ∀ k, ∃ tm rd T, Inv E wt src k (fun u v => (u, v, wt u v) ∈ E) (rounds E src (k + 1)) tm rd T
  | 0 => by
    obtain ⟨tm, rd, T, h⟩ := Inv.fold hw E (fun e he => he) (Inv.start)
    exact ⟨tm, rd, T, h.weaken fun u v hv => .inr ⟨_, hv⟩⟩
  | k + 1 => by
    obtain ⟨tm, rd, T, h⟩ := rounds_inv hw k
    obtain ⟨tm, rd, T, h⟩ := Inv.fold hw E (fun e he => he) h.next
    exact ⟨tm, rd, T, h.weaken fun u v hv => .inr ⟨_, hv⟩⟩
end Go.Proofs.Ytpcmppamkgkdlaa
