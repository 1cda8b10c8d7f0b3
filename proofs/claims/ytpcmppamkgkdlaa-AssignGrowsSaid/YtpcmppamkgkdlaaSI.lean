/- Exchanges carried out along a circle: what the loops of apply compute. -/
import Derived.Test.YtpcmppamkgkdlaaSD
namespace Go.Proofs.Ytpcmppamkgkdlaa
open Go.RowKit

section
variable (wn cp : Nat → Option Nat) (p : Nat) (c : Nat → Nat)
def movJ : Nat → Nat → Option Nat
  | 0 => cp
  | j + 1 => match wn (c j) with
    | some k => upd (movJ j) k (some (c ((j + 1) % p)))
    | none => movJ j
end
variable {P : Prob} {first p : Nat} {cp wn : Nat → Option Nat} {c : Nat → Nat}
theorem movJ_some {j k : Nat} (h : wn (c j) = some k) : movJ wn cp p c (j + 1) = upd (movJ wn cp p c j) k (some (c ((j + 1) % p))) := by rw [movJ, h]
theorem movJ_none {j : Nat} (h : wn (c j) = none) : movJ wn cp p c (j + 1) = movJ wn cp p c j := by rw [movJ, h]
theorem movJ_off {k : Nat} : ∀ j, (∀ i, i < j → wn (c i) ≠ some k) → movJ wn cp p c j k = cp k
  | 0, _ => rfl
  | j + 1, h => by
    have ih := movJ_off j (fun i hi => h i (by omega))
    cases e : wn (c j) with
    | none => rw [movJ_none e]; exact ih
    | some k' =>
      have hk : k ≠ k' := fun g => h j (by omega) (by rw [e, g])
      rw [movJ_some e, upd_ne _ _ hk]; exact ih
theorem movJ_on {k i : Nat} (hi : wn (c i) = some k) (hu : ∀ i', wn (c i') = some k → i' < p → i' = i) : ∀ j, i < j → j ≤ p → movJ wn cp p c j k = some (c ((i + 1) % p))
  | j + 1, h, hp => by
    by_cases e : i = j
    · subst e; rw [movJ_some hi, upd_eq]
    · have ih := movJ_on hi hu j (by omega) (by omega)
      cases e' : wn (c j) with
      | none => rw [movJ_none e']; exact ih
      | some k' =>
        have hk : k ≠ k' := fun g => e (hu j (by rw [e', g]) (by omega)).symm
        rw [movJ_some e', upd_ne _ _ hk]; exact ih
theorem movJ_moved (h : Circle P first cp wn p c) (hc : Con cp wn) : movJ wn cp p c p = moved p c cp := by
  funext k
  by_cases hk : ∃ i, i < p ∧ wn (c i) = some k
  · obtain ⟨i, hi, hw⟩ := hk
    have hcp := (hc k (c i)).2 hw
    rw [movJ_on hw (fun i' h1 h2 => by
      have := (hc k (c i')).2 h1
      rw [hcp] at this; injection this with this
      exact (h.dis i i' hi h2 this).symm) p hi (Nat.le_refl _)]
    unfold moved
    rw [hcp]
    show some _ = some _
    rw [nx_on h.dis hi]
  · have hk' : ∀ i, i < p → wn (c i) ≠ some k := fun i hi e => hk ⟨i, hi, e⟩
    rw [movJ_off p hk']
    unfold moved
    cases e : cp k with
    | none => rfl
    | some x =>
      show some x = some _
      rw [nx_off (fun i hi g => hk' i hi (by rw [g]; exact (hc k x).1 e))]
theorem Con.lt (hc : Con cp wn) (hm : Mat P cp) {x k : Nat} (h : wn x = some k) : x < P.n ∧ k < P.m := by
  have h1 := hm.ok ((hc k x).2 h)
  exact ⟨P.lt k x h1.2, h1.1⟩
/-- Where a want goes on a circle. -/
theorem Circle.to (h : Circle P first cp wn p c) (hm : Mat P cp) (hc : Con cp wn) {j k : Nat} (hj : j < p) (hw : wn (c j) = some k) : c ((j + 1) % p) < P.n := by
  have hl := hc.lt hm hw
  rcases h.edge j hj with ⟨k', h1, h2, h3, h4⟩ | ⟨h1, h2, h3⟩ | ⟨h1, h2, h3⟩
  · exact P.lt k' _ h3
  · rw [hw] at h2; cases h2
  · omega
def clr (wn : Nat → Option Nat) (c v : Nat) : Option Nat := if v < c then none else wn v
def wnJ (cp : Nat → Option Nat) : Nat → Nat → Option Nat
  | 0 => fun _ => none
  | k + 1 => match cp k with
    | some c => upd (wnJ cp k) c (some k)
    | none => wnJ cp k
theorem wnJ_some {k c : Nat} (h : cp k = some c) : wnJ cp (k + 1) = upd (wnJ cp k) c (some k) := by rw [wnJ, h]
theorem wnJ_none {k : Nat} (h : cp k = none) : wnJ cp (k + 1) = wnJ cp k := by rw [wnJ, h]
theorem wnJ_iff (hm : Mat P cp) {j x : Nat} : ∀ k, wnJ cp k x = some j ↔ j < k ∧ cp j = some x
  | 0 => by simp [wnJ]
  | k + 1 => by
    have ih := wnJ_iff hm (j := j) (x := x) k
    cases e : cp k with
    | none =>
      rw [wnJ_none e, ih]
      constructor
      · rintro ⟨h1, h2⟩; exact ⟨by omega, h2⟩
      · rintro ⟨h1, h2⟩
        have : j ≠ k := fun g => by rw [g, e] at h2; cases h2
        exact ⟨by omega, h2⟩
    | some c =>
      rw [wnJ_some e]
      by_cases hx : x = c
      · subst hx
        rw [upd_eq]
        constructor
        · intro h; injection h with h; subst h; exact ⟨by omega, e⟩
        · rintro ⟨h1, h2⟩; rw [hm.inj e h2]
      · rw [upd_ne _ _ hx, ih]
        constructor
        · rintro ⟨h1, h2⟩; exact ⟨by omega, h2⟩
        · rintro ⟨h1, h2⟩
          have : j ≠ k := fun g => by rw [g, e] at h2; injection h2 with h2; exact hx h2.symm
          exact ⟨by omega, h2⟩
theorem wnJ_con (hm : Mat P cp) : Con cp (wnJ cp P.m) := fun k x => by
  rw [wnJ_iff hm]
  exact ⟨fun h => ⟨(hm.ok h).1, h⟩, fun h => h.2⟩
theorem SM.congr {s : SL} {w : World} {cp' wn' : Nat → Option Nat} (h : SM P s w cp wn) (h1 : ∀ k, k < P.m → cp k = cp' k) (h2 : ∀ x, x < P.n → wn x = wn' x) : SM P s w cp' wn' :=
  ⟨h.blk, h.copy.cast (arr_congr fun k hk => by rw [h1 k hk]), h.want.cast (arr_congr fun k hk => by rw [h2 k hk]), h.pm, h.lo, h.ne⟩

/-- A slice that holds the nodes of a circle. -/
structure CAt (w : World) (s : SL) (g p : Nat) (c : Nat → Nat) : Prop where
  cell : ∀ j, j < p → w.cell? ⟨g, j, none⟩ = some (.int .i64 (c j : Int))
  ne : g ≠ s.cb ∧ g ≠ s.wb
def ApplyE (P : Prob) (s : SL) (cp : Nat → Option Nat) (p : Nat) (c : Nat → Nat) (w : World) (e : Ending) (w' : World) : Prop :=
  ∃ wn', e = .returned (.tuple #[]) ∧ SM P s w' (moved p c cp) wn' ∧ Con (moved p c cp) wn' ∧ Tn s.F w w'
end Go.Proofs.Ytpcmppamkgkdlaa
