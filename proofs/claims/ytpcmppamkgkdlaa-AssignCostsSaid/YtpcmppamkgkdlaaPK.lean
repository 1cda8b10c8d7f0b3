/- What find does to the copies and the wants. -/
import Derived.Test.YtpcmppamkgkdlaaPJ
namespace Go.Proofs.Ytpcmppamkgkdlaa

/-- find has given a want a copy that had not been seen; the copy that the want had before still says so. -/
structure Found (P : Prob) (cp wn cp' wn' : Nat → Option Nat) (seen : Nat → Bool) (k : Nat) : Prop where
  ok : ∀ j c, cp' j = some c → j < P.m ∧ c ∈ P.acc j
  same : ∀ j, j ≠ k → (cp' j).isSome = (cp j).isSome
  got : (cp' k).isSome
  keep : ∀ c, seen c = true → wn' c = wn c
  keepw : ∀ j, j ≠ k → (∀ c, cp j = some c → seen c = true) → cp' j = cp j
  con1 : ∀ c j, wn' c = some j → j ≠ k → cp' j = some c
  con1k : ∀ c, wn' c = some k → cp' k = some c ∨ cp k = some c
  con2 : ∀ j c, cp' j = some c → wn' c = some j
  new : ∀ c, cp' k = some c → seen c = false

/-- find has given nothing: what it saw is closed. -/
structure Lost (P : Prob) (wn : Nat → Option Nat) (seen seen' : Nat → Bool) (k : Nat) : Prop where
  more : ∀ c, seen c = true → seen' c = true
  all : ∀ c, c ∈ P.acc k → seen' c = true
  own : ∀ c, seen' c = true → seen c = false → ∃ j, wn c = some j ∧ ∀ d, d ∈ P.acc j → seen' d = true

section
variable {P : Prob} {cp wn cp' wn' : Nat → Option Nat} {seen : Nat → Bool} {k j c : Nat}

theorem Found.free (hm : Mat P cp) (hc : Con cp wn) (hk : k < P.m) (ha : c ∈ P.acc k) (hs : seen c = false) (hw : wn c = none) : Found P cp wn (upd cp k (some c)) (upd wn c (some k)) seen k where
  ok := fun i d h => by
    by_cases e : i = k
    · subst e; rw [upd_eq] at h; injection h with h; subst h; exact ⟨hk, ha⟩
    · rw [upd_ne _ _ e] at h; exact hm.ok h
  same := fun i hi => by rw [upd_ne _ _ hi]
  got := by rw [upd_eq]; rfl
  keep := fun d hd => upd_ne _ _ (fun e => by subst e; rw [hs] at hd; cases hd)
  keepw := fun i hi _ => upd_ne _ _ hi
  con1 := fun d i h hi => by
    rw [upd_ne _ _ hi]
    by_cases e : d = c
    · subst e; rw [upd_eq] at h; injection h with h; exact absurd h.symm hi
    · rw [upd_ne _ _ e] at h; exact (hc i d).2 h
  con1k := fun d h => by
    by_cases e : d = c
    · subst e; left; exact upd_eq _ _ _
    · rw [upd_ne _ _ e] at h; exact .inr ((hc k d).2 h)
  con2 := fun i d h => by
    by_cases e : i = k
    · subst e; rw [upd_eq] at h; injection h with h; subst h; exact upd_eq _ _ _
    · rw [upd_ne _ _ e] at h
      have := (hc i d).1 h
      rw [upd_ne _ _ (fun e' => by subst e'; rw [hw] at this; cases this)]
      exact this
  new := fun d h => by rw [upd_eq] at h; injection h with h; subst h; exact hs

theorem Found.take (hc : Con cp wn) (hk : k < P.m) (ha : c ∈ P.acc k) (hs : seen c = false) (hw : wn c = some j) (hown : ∀ d, cp k = some d → seen d = true)
    (h : Found P cp wn cp' wn' (upd seen c true) j) : Found P cp wn (upd cp' k (some c)) (upd wn' c (some k)) seen k := by
  have hj := (hc j c).2 hw
  have hjk : j ≠ k := fun e => by subst e; have := hown c hj; rw [hs] at this; cases this
  have hsc : ∀ d, seen d = true → upd seen c true d = true := fun d hd => by
    by_cases e : d = c
    · subst e; exact upd_eq _ _ _
    · rw [upd_ne _ _ e]; exact hd
  have hck : cp' k = cp k := h.keepw k (fun e => hjk e.symm) (fun d hd => hsc d (hown d hd))
  have hwc : wn' c = some j := (h.keep c (upd_eq _ _ _)).trans hw
  refine { ok := fun i d g => ?_, same := fun i hi => ?_, got := (by rw [upd_eq]; rfl), keep := fun d hd => ?_, keepw := fun i hi g => ?_, con1 := fun d i g hi => ?_, con1k := fun d g => ?_, con2 := fun i d g => ?_, new := fun d g => ?_ }
  · by_cases e : i = k
    · subst e; rw [upd_eq] at g; injection g with g; subst g; exact ⟨hk, ha⟩
    · rw [upd_ne _ _ e] at g; exact h.ok i d g
  · rw [upd_ne _ _ hi]
    by_cases e : i = j
    · subst e; rw [h.got, hj]; rfl
    · exact h.same i e
  · rw [upd_ne _ _ (fun e => by subst e; rw [hs] at hd; cases hd)]
    exact h.keep d (hsc d hd)
  · rw [upd_ne _ _ hi]
    refine h.keepw i (fun e => ?_) (fun d hd => hsc d (g d hd))
    subst e
    have := g c hj
    rw [hs] at this; cases this
  · rw [upd_ne _ _ hi]
    by_cases e : d = c
    · subst e; rw [upd_eq] at g; injection g with g; exact absurd g.symm hi
    · rw [upd_ne _ _ e] at g
      by_cases e2 : i = j
      · subst e2
        rcases h.con1k d g with g2 | g2
        · exact g2
        · rw [hj] at g2; injection g2 with g2; exact absurd g2.symm e
      · exact h.con1 d i g e2
  · by_cases e : d = c
    · subst e; left; exact upd_eq _ _ _
    · rw [upd_ne _ _ e] at g
      right
      rw [← hck]
      exact h.con1 d k g (fun e => hjk e.symm)
  · by_cases e : i = k
    · subst e; rw [upd_eq] at g; injection g with g; subst g; exact upd_eq _ _ _
    · rw [upd_ne _ _ e] at g
      have g2 := h.con2 i d g
      rw [upd_ne _ _ (fun e' => ?_)]
      · exact g2
      · subst e'
        rw [hwc] at g2
        obtain rfl : j = i := by injection g2
        have := h.new d g
        rw [upd_eq] at this; cases this
  · rw [upd_eq] at g; injection g with g; subst g; exact hs

/-- At the top: a matching that serves one want more. -/
theorem Found.top (h : Found P cp wn cp' wn' seen k) (hk : cp k = none) : Mat P cp' ∧ Con cp' wn' := by
  have con : Con cp' wn' := fun i d => ⟨h.con2 i d, fun g => by
    by_cases e : i = k
    · subst e
      rcases h.con1k d g with g | g
      · exact g
      · rw [hk] at g; cases g
    · exact h.con1 d i g e⟩
  refine ⟨⟨fun {i d} g => h.ok i d g, fun {a b d} g1 g2 => ?_⟩, con⟩
  have h1 := (con a d).1 g1
  have h2 := (con b d).1 g2
  rw [h1] at h2
  injection h2

theorem Lost.top {seen' : Nat → Bool} {q : Nat → Option Nat} (h : Lost P wn (fun _ => false) seen' k) (hm : Mat P cp) (hc : Con cp wn) (hk : cp k = none) (hq : Mat P q) (hs : ∀ j, (cp j).isSome → (q j).isSome) : q k = none :=
  hall hm hc hk seen' h.all (fun c _ hz => h.own c hz rfl) hq hs
end
end Go.Proofs.Ytpcmppamkgkdlaa
