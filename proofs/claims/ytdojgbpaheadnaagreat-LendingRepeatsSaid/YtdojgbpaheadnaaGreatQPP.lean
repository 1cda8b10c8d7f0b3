/- Lending with a net, plainly: a deal as the machines see it, and what the messages on their way say of it. -/
import Derived.Test.YtdojgbpaheadnaaGreatQP
set_option linter.unusedVariables false
set_option linter.unusedSimpArgs false

namespace Go.Proofs.YtdojgbpaheadnaaGreat

structure Dv where
 q : Option Rq
 c : Option Cs
 d : Int → Option Deal
def Cs.hd (c : Cs) (L : Int) : Prop := c.left.head? = some L
theorem Cs.hd_one {c : Cs} {L M : Int} (h : c.hd L) (h' : c.hd M) : L = M := by
 unfold Cs.hd at h h'; rw [h] at h'; injection h'
theorem Cs.hd_nil {c : Cs} {L : Int} (h : c.hd L) (h' : c.left = []) : False := by unfold Cs.hd at h; rw [h'] at h; cases h
def OKs (q : Int) (e : Nat) : Prop := (q = 1 ∧ e = 2) ∨ (q = 2 ∧ e = 2) ∨ (q = 2 ∧ e = 3) ∨ (q = 3 ∧ e = 3) ∨ (q = 3 ∧ e = 4) ∨ (q = 4 ∧ e = 4) ∨ (q = 5 ∧ e = 4) ∨ (q = 5 ∧ e = 5) ∨ (q = 6 ∧ e = 5)
structure DI (x : Dv) : Prop where
 c_q : ∀ c, x.c = some c → ∃ q, x.q = some q ∧ q.t = c.t
 d_c : ∀ L e, x.d L = some e → (∃ c, x.c = some c ∧ e.t = c.t) ∧ 1 ≤ e.st ∧ e.st ≤ 5
 two : ∀ L e c, x.d L = some e → 2 ≤ e.st → x.c = some c → c.hd L
 g : ∀ c, x.c = some c → c.g = true → ∃ L e, c.hd L ∧ x.d L = some e ∧ 2 ≤ e.st
 qr : ∀ q, x.q = some q → 1 ≤ q.st ∧ q.st ≤ 7
 q2 : ∀ q, x.q = some q → 2 ≤ q.st → q.st ≤ 6 → ∃ c, x.c = some c ∧ c.g = true ∧ c.hd q.l
 q7 : ∀ q, x.q = some q → q.st = 7 → ∃ c, x.c = some c ∧ c.left = []
 a : ∀ q L e, x.q = some q → x.d L = some e → 2 ≤ e.st → OKs q.st e.st
theorem DI.empty : DI ⟨none, none, fun _ => none⟩ := ⟨nofun, nofun, nofun, nofun, nofun, nofun, nofun, nofun⟩
theorem DI.lend {x : Dv} (h : DI x) {q : Rq} (hq : x.q = some q) (h2 : 2 ≤ q.st) (h6 : q.st ≤ 6) : ∃ e, x.d q.l = some e ∧ OKs q.st e.st := by
 obtain ⟨c, hc, hg, hd⟩ := h.q2 q hq h2 h6
 obtain ⟨L, e, h1, he, h3⟩ := h.g c hc hg
 have := hd.symm.trans h1
 injection this with this
 rw [this]
 exact ⟨e, he, h.a q L e hq he h3⟩
structure Dv.le (x y : Dv) : Prop where
 q : ∀ q, x.q = some q → ∃ q', y.q = some q' ∧ q'.t = q.t ∧ (2 ≤ q.st → q.st ≤ 6 → q'.l = q.l ∧ q.st ≤ q'.st ∧ q'.st ≤ 6)
 c : ∀ c, x.c = some c → ∃ c', y.c = some c' ∧ c'.t = c.t ∧ (c.g = true → c'.g = true ∧ c'.left = c.left) ∧ (c.left = [] → c'.left = []) ∧ ∀ L, c.hd L → c'.hd L ∨ ∃ e, y.d L = some e ∧ e.st = 1
 d : ∀ L e, x.d L = some e → ∃ e', y.d L = some e' ∧ (e.st = 1 → e'.st = 1) ∧ (2 ≤ e.st → e.st ≤ e'.st)
theorem Dv.le.refl (x : Dv) : x.le x := ⟨fun q h => ⟨q, h, rfl, fun _ h6 => ⟨rfl, Int.le_refl _, h6⟩⟩, fun c h => ⟨c, h, rfl, fun hg => ⟨hg, rfl⟩, id, fun L hL => .inl hL⟩, fun L e h => ⟨e, h, id, fun _ => Nat.le_refl _⟩⟩
structure MV (x : Dv) (a k v f t : Int) : Prop where
 rng : 1 ≤ k ∧ k ≤ 12
 ask : k = 1 → f = a ∧ t = 0 ∧ ∃ q, x.q = some q ∧ q.t = v
 want : k = 2 → f = 0 ∧ ∃ c, x.c = some c ∧ c.t = v ∧ (c.hd t ∨ ∃ e, x.d t = some e ∧ e.st = 1)
 yes : k = 3 → t = 0 ∧ ∃ e, x.d f = some e ∧ 2 ≤ e.st
 no : k = 4 → t = 0 ∧ ∃ e, x.d f = some e ∧ e.st = 1
 granted : k = 5 → f = 0 ∧ t = a ∧ ∃ c, x.c = some c ∧ c.g = true ∧ c.hd v
 failed : k = 6 → f = 0 ∧ t = a ∧ ∃ c, x.c = some c ∧ c.left = []
 accept : k = 7 → f = a ∧ ∃ q, x.q = some q ∧ q.l = t ∧ 2 ≤ q.st ∧ q.st ≤ 6
 shipped : k = 8 → t = a ∧ ∃ e, x.d f = some e ∧ 3 ≤ e.st
 got : k = 9 → f = a ∧ ∃ q, x.q = some q ∧ q.l = t ∧ 3 ≤ q.st ∧ q.st ≤ 6
 lent : k = 10 → t = a ∧ ∃ e, x.d f = some e ∧ 4 ≤ e.st
 back : k = 11 → f = a ∧ ∃ q, x.q = some q ∧ q.l = t ∧ 5 ≤ q.st ∧ q.st ≤ 6
 closed : k = 12 → t = a ∧ ∃ e, x.d f = some e ∧ 5 ≤ e.st
theorem MV.mono {x y : Dv} {a k v f t : Int} (h : MV x a k v f t) (l : x.le y) : MV y a k v f t where
 rng := h.rng
 ask := fun e => by
  obtain ⟨h1, h2, q, h3, h4⟩ := h.ask e
  obtain ⟨q', h5, h6, -⟩ := l.q q h3
  exact ⟨h1, h2, q', h5, h6.trans h4⟩
 want := fun e => by
  obtain ⟨h1, c, h2, h3, h4⟩ := h.want e
  obtain ⟨c', h5, h6, -, -, h7⟩ := l.c c h2
  refine ⟨h1, c', h5, h6.trans h3, ?_⟩
  rcases h4 with h4 | ⟨e, h8, h9⟩
  ·exact h7 _ h4
  ·obtain ⟨e', h10, h11, -⟩ := l.d _ e h8
   exact .inr ⟨e', h10, h11 h9⟩
 yes := fun e => by
  obtain ⟨h1, e, h2, h3⟩ := h.yes e
  obtain ⟨e', h4, -, h5⟩ := l.d _ e h2
  exact ⟨h1, e', h4, Nat.le_trans h3 (h5 h3)⟩
 no := fun e => by
  obtain ⟨h1, e, h2, h3⟩ := h.no e
  obtain ⟨e', h4, h5, -⟩ := l.d _ e h2
  exact ⟨h1, e', h4, h5 h3⟩
 granted := fun e => by
  obtain ⟨h1, h2, c, h3, h4, h5⟩ := h.granted e
  obtain ⟨c', h6, -, h7, -, -⟩ := l.c c h3
  exact ⟨h1, h2, c', h6, (h7 h4).1, by unfold Cs.hd at *; rw [(h7 h4).2]; exact h5⟩
 failed := fun e => by
  obtain ⟨h1, h2, c, h3, h4⟩ := h.failed e
  obtain ⟨c', h6, -, -, h7, -⟩ := l.c c h3
  exact ⟨h1, h2, c', h6, h7 h4⟩
 accept := fun e => by
  obtain ⟨h1, q, h2, h3, h4, h5⟩ := h.accept e
  obtain ⟨q', h6, -, h7⟩ := l.q q h2
  obtain ⟨h8, h9, h10⟩ := h7 h4 h5
  exact ⟨h1, q', h6, h8.trans h3, by omega, h10⟩
 shipped := fun e => by
  obtain ⟨h1, e, h2, h3⟩ := h.shipped e
  obtain ⟨e', h4, -, h5⟩ := l.d _ e h2
  exact ⟨h1, e', h4, Nat.le_trans h3 (h5 (by omega))⟩
 got := fun e => by
  obtain ⟨h1, q, h2, h3, h4, h5⟩ := h.got e
  obtain ⟨q', h6, -, h7⟩ := l.q q h2
  obtain ⟨h8, h9, h10⟩ := h7 (by omega) h5
  exact ⟨h1, q', h6, h8.trans h3, by omega, h10⟩
 lent := fun e => by
  obtain ⟨h1, e, h2, h3⟩ := h.lent e
  obtain ⟨e', h4, -, h5⟩ := l.d _ e h2
  exact ⟨h1, e', h4, Nat.le_trans h3 (h5 (by omega))⟩
 back := fun e => by
  obtain ⟨h1, q, h2, h3, h4, h5⟩ := h.back e
  obtain ⟨q', h6, -, h7⟩ := l.q q h2
  obtain ⟨h8, h9, h10⟩ := h7 (by omega) h5
  exact ⟨h1, q', h6, h8.trans h3, by omega, h10⟩
 closed := fun e => by
  obtain ⟨h1, e, h2, h3⟩ := h.closed e
  obtain ⟨e', h4, -, h5⟩ := l.d _ e h2
  exact ⟨h1, e', h4, Nat.le_trans h3 (h5 (by omega))⟩
theorem MV.of1 {x : Dv} {a v f t : Int} (h : f = a ∧ t = 0 ∧ ∃ q, x.q = some q ∧ q.t = v) : MV x a 1 v f t := by constructor <;> first | exact fun _ => h | omega
theorem MV.of2 {x : Dv} {a v f t : Int} (h : f = 0 ∧ ∃ c, x.c = some c ∧ c.t = v ∧ (c.hd t ∨ ∃ e, x.d t = some e ∧ e.st = 1)) : MV x a 2 v f t := by constructor <;> first | exact fun _ => h | omega
theorem MV.of3 {x : Dv} {a v f t : Int} (h : t = 0 ∧ ∃ e, x.d f = some e ∧ 2 ≤ e.st) : MV x a 3 v f t := by constructor <;> first | exact fun _ => h | omega
theorem MV.of4 {x : Dv} {a v f t : Int} (h : t = 0 ∧ ∃ e, x.d f = some e ∧ e.st = 1) : MV x a 4 v f t := by constructor <;> first | exact fun _ => h | omega
theorem MV.of5 {x : Dv} {a v f t : Int} (h : f = 0 ∧ t = a ∧ ∃ c, x.c = some c ∧ c.g = true ∧ c.hd v) : MV x a 5 v f t := by constructor <;> first | exact fun _ => h | omega
theorem MV.of6 {x : Dv} {a v f t : Int} (h : f = 0 ∧ t = a ∧ ∃ c, x.c = some c ∧ c.left = []) : MV x a 6 v f t := by constructor <;> first | exact fun _ => h | omega
theorem MV.of7 {x : Dv} {a v f t : Int} (h : f = a ∧ ∃ q, x.q = some q ∧ q.l = t ∧ 2 ≤ q.st ∧ q.st ≤ 6) : MV x a 7 v f t := by constructor <;> first | exact fun _ => h | omega
theorem MV.of8 {x : Dv} {a v f t : Int} (h : t = a ∧ ∃ e, x.d f = some e ∧ 3 ≤ e.st) : MV x a 8 v f t := by constructor <;> first | exact fun _ => h | omega
theorem MV.of9 {x : Dv} {a v f t : Int} (h : f = a ∧ ∃ q, x.q = some q ∧ q.l = t ∧ 3 ≤ q.st ∧ q.st ≤ 6) : MV x a 9 v f t := by constructor <;> first | exact fun _ => h | omega
theorem MV.of10 {x : Dv} {a v f t : Int} (h : t = a ∧ ∃ e, x.d f = some e ∧ 4 ≤ e.st) : MV x a 10 v f t := by constructor <;> first | exact fun _ => h | omega
theorem MV.of11 {x : Dv} {a v f t : Int} (h : f = a ∧ ∃ q, x.q = some q ∧ q.l = t ∧ 5 ≤ q.st ∧ q.st ≤ 6) : MV x a 11 v f t := by constructor <;> first | exact fun _ => h | omega
theorem MV.of12 {x : Dv} {a v f t : Int} (h : t = a ∧ ∃ e, x.d f = some e ∧ 5 ≤ e.st) : MV x a 12 v f t := by constructor <;> first | exact fun _ => h | omega

section
variable {x : Dv}
theorem DI.setq (h : DI x) {q q' : Rq} (hq : x.q = some q) (ht : q'.t = q.t) (hr : 1 ≤ q'.st ∧ q'.st ≤ 7)
  (hl : 2 ≤ q.st → q.st ≤ 6 → q'.l = q.l ∧ q.st ≤ q'.st ∧ q'.st ≤ 6) (h2 : 2 ≤ q'.st → q'.st ≤ 6 → ∃ c, x.c = some c ∧ c.g = true ∧ c.hd q'.l) (h7 : q'.st = 7 → ∃ c, x.c = some c ∧ c.left = [])
  (ha : ∀ L e, x.d L = some e → 2 ≤ e.st → OKs q'.st e.st) : DI { x with q := some q' } ∧ x.le { x with q := some q' } := by
 refine ⟨⟨fun c hc => ?_, h.d_c, h.two, h.g, fun p hp => ?_, fun p hp => ?_, fun p hp => ?_, fun p L e hp he h3 => ?_⟩, ⟨fun p hp => ?_, fun c hc => ⟨c, hc, rfl, fun hg => ⟨hg, rfl⟩, id, fun L hL => .inl hL⟩, fun L e he => ⟨e, he, id, fun _ => Nat.le_refl _⟩⟩⟩
 ·obtain ⟨p, hp, e⟩ := h.c_q c hc
  rw [hq] at hp; injection hp with hp
  exact ⟨q', rfl, by rw [ht, hp, e]⟩
 ·injection hp with hp; subst hp; exact hr
 ·injection hp with hp; subst hp; exact h2
 ·injection hp with hp; subst hp; exact h7
 ·injection hp with hp; subst hp; exact ha L e he h3
 ·rw [hq] at hp; injection hp with hp; subst hp
  exact ⟨q', rfl, ht, hl⟩
theorem DI.asked (h : DI x) (hq : x.q = none) {q : Rq} (h1 : q.st = 1) : DI { x with q := some q } ∧ x.le { x with q := some q } := by
 have hc : x.c = none := by
  cases hc : x.c with
  | none => rfl
  | some c => obtain ⟨p, hp, _⟩ := h.c_q c hc; rw [hq] at hp; cases hp
 have hd : ∀ L, x.d L = none := fun L => by
  cases hd : x.d L with
  | none => rfl
  | some e => obtain ⟨⟨c, hc', _⟩, _⟩ := h.d_c L e hd; rw [hc] at hc'; cases hc'
 refine ⟨⟨fun c hc' => ?_, h.d_c, h.two, h.g, fun p hp => ?_, fun p hp h2 => ?_, fun p hp h7 => ?_, fun p L e hp he => ?_⟩, ⟨fun p hp => ?_, fun c hc => ⟨c, hc, rfl, fun hg => ⟨hg, rfl⟩, id, fun L hL => .inl hL⟩, fun L e he => ⟨e, he, id, fun _ => Nat.le_refl _⟩⟩⟩
 ·dsimp only at hc'; rw [hc] at hc'; cases hc'
 ·injection hp with hp; subst hp; omega
 ·injection hp with hp; subst hp; omega
 ·injection hp with hp; subst hp; omega
 ·dsimp only at he; rw [hd] at he; cases he
 ·rw [hq] at hp; cases hp
theorem stp_some {k p s z : Int} (h : stp k = some (p, s, z)) : (k = 5 ∧ p = 1 ∧ s = 2 ∧ z = 7) ∨ (k = 6 ∧ p = 1 ∧ s = 7 ∧ z = 0) ∨ (k = 8 ∧ p = 2 ∧ s = 3 ∧ z = 9) ∨ (k = 10 ∧ p = 3 ∧ s = 4 ∧ z = 0) ∨ (k = 12 ∧ p = 5 ∧ s = 6 ∧ z = 0) := by
 unfold stp at h
 split at h
 ·simp at h; omega
 split at h
 ·simp at h; omega
 split at h
 ·simp at h; omega
 split at h
 ·simp at h; omega
 split at h
 ·simp at h; omega
 ·cases h
theorem DI.recv (h : DI x) {q : Rq} (hq : x.q = some q) {a k v f t p s z : Int} (hm : MV x a k v f t) (hs : stp k = some (p, s, z)) (hp : q.st = p) (hf : f = if q.st = 1 then 0 else q.l) :
  DI { x with q := some { q with st := s, l := if k = 5 then v else q.l } } ∧ x.le { x with q := some { q with st := s, l := if k = 5 then v else q.l } } ∧
   (z ≠ 0 → MV { x with q := some { q with st := s, l := if k = 5 then v else q.l } } a z 0 a (if k = 5 then v else q.l)) := by
 have key : ∀ L e, x.d L = some e → 2 ≤ e.st → 2 ≤ q.st → q.st ≤ 6 → L = q.l := fun L e he h2 h3 h6 => by
  obtain ⟨c, hc, _, hd⟩ := h.q2 q hq h3 h6
  exact Cs.hd_one (h.two L e c he h2 hc) hd
 rcases stp_some hs with ⟨rfl, rfl, rfl, rfl⟩ | ⟨rfl, rfl, rfl, rfl⟩ | ⟨rfl, rfl, rfl, rfl⟩ | ⟨rfl, rfl, rfl, rfl⟩ | ⟨rfl, rfl, rfl, rfl⟩
 ·obtain ⟨-, -, c, hc, hg, hd⟩ := hm.granted rfl
  have h1 := h.setq hq (q' := { q with st := 2, l := v }) rfl (by dsimp only; omega) (by omega) (fun _ _ => ⟨c, hc, hg, hd⟩) (by dsimp only; omega) fun L e he h2 => by
   have := h.a q L e hq he h2
   unfold OKs at *; dsimp only; omega
  simp only [if_true]
  exact ⟨h1.1, h1.2, fun _ => MV.of7 ⟨rfl, _, rfl, rfl, by dsimp only; omega, by dsimp only; omega⟩⟩
 ·obtain ⟨-, -, c, hc, hl⟩ := hm.failed rfl
  have h1 := h.setq hq (q' := { q with st := 7, l := q.l }) rfl (by dsimp only; omega) (by omega) (by dsimp only; omega) (fun _ => ⟨c, hc, hl⟩) fun L e he h2 => (Cs.hd_nil (h.two L e c he h2 hc) hl).elim
  rw [if_neg (by omega)]
  exact ⟨h1.1, h1.2, fun h => absurd rfl h⟩
 ·obtain ⟨-, e0, he0, h3⟩ := hm.shipped rfl
  rw [if_neg (by omega)] at hf
  have h1 := h.setq hq (q' := { q with st := 3, l := q.l }) rfl (by dsimp only; omega) (fun _ _ => ⟨rfl, by dsimp only; omega, by dsimp only; omega⟩) (fun _ _ => h.q2 q hq (by omega) (by omega)) (by dsimp only; omega) fun L e he h2 => by
   have hL := key L e he h2 (by omega) (by omega)
   rw [hL, ← hf, he0] at he
   injection he with he
   have := h.a q f e0 hq he0 (by omega)
   subst he
   unfold OKs at *; dsimp only; omega
  rw [if_neg (by omega)]
  exact ⟨h1.1, h1.2, fun _ => MV.of9 ⟨rfl, _, rfl, rfl, by dsimp only; omega, by dsimp only; omega⟩⟩
 ·obtain ⟨-, e0, he0, h3⟩ := hm.lent rfl
  rw [if_neg (by omega)] at hf
  have h1 := h.setq hq (q' := { q with st := 4, l := q.l }) rfl (by dsimp only; omega) (fun _ _ => ⟨rfl, by dsimp only; omega, by dsimp only; omega⟩) (fun _ _ => h.q2 q hq (by omega) (by omega)) (by dsimp only; omega) fun L e he h2 => by
   have hL := key L e he h2 (by omega) (by omega)
   rw [hL, ← hf, he0] at he
   injection he with he
   have := h.a q f e0 hq he0 (by omega)
   subst he
   unfold OKs at *; dsimp only; omega
  rw [if_neg (by omega)]
  exact ⟨h1.1, h1.2, fun h => absurd rfl h⟩
 ·obtain ⟨-, e0, he0, h3⟩ := hm.closed rfl
  rw [if_neg (by omega)] at hf
  have h1 := h.setq hq (q' := { q with st := 6, l := q.l }) rfl (by dsimp only; omega) (fun _ _ => ⟨rfl, by dsimp only; omega, by dsimp only; omega⟩) (fun _ _ => h.q2 q hq (by omega) (by omega)) (by dsimp only; omega) fun L e he h2 => by
   have hL := key L e he h2 (by omega) (by omega)
   rw [hL, ← hf, he0] at he
   injection he with he
   have := h.a q f e0 hq he0 (by omega)
   subst he
   unfold OKs at *; dsimp only; omega
  rw [if_neg (by omega)]
  exact ⟨h1.1, h1.2, fun h => absurd rfl h⟩
theorem DI.ret (h : DI x) {q : Rq} (hq : x.q = some q) (h4 : q.st = 4) (a : Int) : DI { x with q := some { q with st := 5 } } ∧ x.le { x with q := some { q with st := 5 } } ∧ MV { x with q := some { q with st := 5 } } a 11 0 a q.l := by
 have h1 := h.setq hq (q' := { q with st := 5 }) rfl (by dsimp only; omega) (fun _ _ => ⟨rfl, by dsimp only; omega, by dsimp only; omega⟩) (fun _ _ => h.q2 q hq (by omega) (by omega)) (by dsimp only; omega) fun L e he h2 => by
  have := h.a q L e hq he h2
  unfold OKs at *; dsimp only; omega
 exact ⟨h1.1, h1.2, MV.of11 ⟨rfl, _, rfl, rfl, by dsimp only; omega, by dsimp only; omega⟩⟩
theorem DI.newc (h : DI x) (hc : x.c = none) {q : Rq} (hq : x.q = some q) {c : Cs} (hg : c.g = false) (ht : c.t = q.t) : DI { x with c := some c } ∧ x.le { x with c := some c } := by
 have hd : ∀ L, x.d L = none := fun L => by
  cases hd : x.d L with
  | none => rfl
  | some e => obtain ⟨⟨c, hc', _⟩, _⟩ := h.d_c L e hd; rw [hc] at hc'; cases hc'
 refine ⟨⟨fun c' hc' => ?_, fun L e he => ?_, fun L e c' he => ?_, fun c' hc' hg' => ?_, h.qr, fun p hp h2 h6 => ?_, fun p hp h7 => ?_, fun p L e hp he => ?_⟩, ⟨fun p hp => ⟨p, hp, rfl, fun _ h6 => ⟨rfl, Int.le_refl _, h6⟩⟩, fun c' hc' => ?_, fun L e he => ⟨e, he, id, fun _ => Nat.le_refl _⟩⟩⟩
 ·injection hc' with hc'; subst hc'; exact ⟨q, hq, ht.symm⟩
 ·dsimp only at he; rw [hd] at he; cases he
 ·dsimp only at he; rw [hd] at he; cases he
 ·injection hc' with hc'; subst hc'; rw [hg] at hg'; cases hg'
 ·obtain ⟨c', hc', _⟩ := h.q2 p hp h2 h6; rw [hc] at hc'; cases hc'
 ·obtain ⟨c', hc', _⟩ := h.q7 p hp h7; rw [hc] at hc'; cases hc'
 ·dsimp only at he; rw [hd] at he; cases he
 ·rw [hc] at hc'; cases hc'
theorem DI.yes (h : DI x) {c : Cs} (hc : x.c = some c) (hg : c.g = false) {L : Int} (hL : c.hd L) {e : Deal} (he : x.d L = some e) (h2 : 2 ≤ e.st) : DI { x with c := some { c with g := true } } ∧ x.le { x with c := some { c with g := true } } := by
 refine ⟨⟨fun c' hc' => ?_, fun M e' he' => ?_, fun M e' c' he' h2' hc' => ?_, fun c' hc' hg' => ?_, h.qr, fun p hp h3 h6 => ?_, fun p hp h7 => ?_, h.a⟩, ⟨fun p hp => ⟨p, hp, rfl, fun _ h6 => ⟨rfl, Int.le_refl _, h6⟩⟩, fun c' hc' => ?_, fun L e he => ⟨e, he, id, fun _ => Nat.le_refl _⟩⟩⟩
 ·injection hc' with hc'; subst hc'; exact h.c_q c hc
 ·obtain ⟨⟨c', h3, h4⟩, h5⟩ := h.d_c M e' he'
  rw [hc] at h3; injection h3 with h3; subst h3
  exact ⟨⟨_, rfl, h4⟩, h5⟩
 ·injection hc' with hc'; subst hc'; exact h.two M e' c he' h2' hc
 ·injection hc' with hc'; subst hc'; exact ⟨L, e, hL, he, h2⟩
 ·obtain ⟨c', h4, h5, -⟩ := h.q2 p hp h3 h6
  rw [hc] at h4; injection h4 with h4; subst h4; rw [hg] at h5; cases h5
 ·obtain ⟨c', h4, h5⟩ := h.q7 p hp h7
  rw [hc] at h4; injection h4 with h4; subst h4; exact (Cs.hd_nil hL h5).elim
 ·rw [hc] at hc'; injection hc' with hc'; subst hc'
  exact ⟨_, rfl, rfl, (fun h => by rw [hg] at h; cases h), id, fun M hM => .inl hM⟩
theorem DI.no (h : DI x) {c : Cs} (hc : x.c = some c) (hg : c.g = false) {L : Int} (hL : c.hd L) {e : Deal} (he : x.d L = some e) (h1 : e.st = 1) : DI { x with c := some { c with left := c.left.tail } } ∧ x.le { x with c := some { c with left := c.left.tail } } := by
 have hno : ∀ M e', x.d M = some e' → 2 ≤ e'.st → False := fun M e' he' h2 => by
  have := Cs.hd_one (h.two M e' c he' h2 hc) hL
  subst this
  rw [he] at he'; injection he' with he'; subst he'; omega
 refine ⟨⟨fun c' hc' => ?_, fun M e' he' => ?_, fun M e' c' he' h2' hc' => (hno M e' he' h2').elim, fun c' hc' hg' => ?_, h.qr, fun p hp h3 h6 => ?_, fun p hp h7 => ?_, h.a⟩, ⟨fun p hp => ⟨p, hp, rfl, fun _ h6 => ⟨rfl, Int.le_refl _, h6⟩⟩, fun c' hc' => ?_, fun L e he => ⟨e, he, id, fun _ => Nat.le_refl _⟩⟩⟩
 ·injection hc' with hc'; subst hc'; exact h.c_q c hc
 ·obtain ⟨⟨c', h3, h4⟩, h5⟩ := h.d_c M e' he'
  rw [hc] at h3; injection h3 with h3; subst h3
  exact ⟨⟨_, rfl, h4⟩, h5⟩
 ·injection hc' with hc'; subst hc'; dsimp only at hg'; rw [hg] at hg'; cases hg'
 ·obtain ⟨c', h4, h5, -⟩ := h.q2 p hp h3 h6
  rw [hc] at h4; injection h4 with h4; subst h4; rw [hg] at h5; cases h5
 ·obtain ⟨c', h4, h5⟩ := h.q7 p hp h7
  rw [hc] at h4; injection h4 with h4; subst h4; exact (Cs.hd_nil hL h5).elim
 ·rw [hc] at hc'; injection hc' with hc'; subst hc'
  refine ⟨_, rfl, rfl, (fun h => by rw [hg] at h; cases h), fun h => (Cs.hd_nil hL h).elim, fun M hM => .inr ?_⟩
  have := Cs.hd_one hM hL
  subst this
  exact ⟨e, he, h1⟩
theorem MV.tell {c : Cs} (hc : x.c = some c) (a : Int) : (c.left = [] → MV x a 6 0 0 a) ∧ (∀ X l, c.left = X :: l → c.g = true → MV x a 5 X 0 a) ∧ (∀ X l, c.left = X :: l → c.g = false → MV x a 2 c.t 0 X) := by
 refine ⟨fun h => MV.of6 ⟨rfl, rfl, c, hc, h⟩, fun X l h hg => MV.of5 ⟨rfl, rfl, c, hc, hg, ?_⟩, fun X l h hg => MV.of2 ⟨rfl, c, hc, rfl, .inl ?_⟩⟩
 ·unfold Cs.hd; rw [h]; rfl
 ·unfold Cs.hd; rw [h]; rfl
def setD (d : Int → Option Deal) (L : Int) (e : Deal) : Int → Option Deal := fun M => if M = L then some e else d M
theorem setD_self (d : Int → Option Deal) (L : Int) (e : Deal) : setD d L e L = some e := by unfold setD; rw [if_pos rfl]
theorem DI.deal (h : DI x) {L : Int} (hd : x.d L = none) {c : Cs} (hc : x.c = some c) (hL : c.hd L) {e : Deal} (ht : e.t = c.t) (h1 : e.st = 1 ∨ e.st = 2) : DI { x with d := setD x.d L e } ∧ x.le { x with d := setD x.d L e } := by
 have hg : c.g = false := by
  cases hg : c.g with
  | false => rfl
  | true =>
   obtain ⟨M, e', h2, h3, -⟩ := h.g c hc hg
   rw [Cs.hd_one h2 hL, hd] at h3; cases h3
 have hq1 : ∀ q, x.q = some q → q.st = 1 := fun q hq => by
  have hr := h.qr q hq
  by_cases h7 : q.st = 7
  ·obtain ⟨c', h2, h3⟩ := h.q7 q hq h7
   rw [hc] at h2; injection h2 with h2; subst h2; exact (Cs.hd_nil hL h3).elim
  ·by_cases h2 : 2 ≤ q.st
   ·obtain ⟨c', h3, h4, -⟩ := h.q2 q hq h2 (by omega)
    rw [hc] at h3; injection h3 with h3; subst h3; rw [hg] at h4; cases h4
   ·omega
 refine ⟨⟨h.c_q, fun M e' he' => ?_, fun M e' c' he' h2 hc' => ?_, fun c' hc' hg' => ?_, h.qr, h.q2, h.q7, fun q M e' hq he' h2 => ?_⟩, ⟨fun p hp => ⟨p, hp, rfl, fun _ h6 => ⟨rfl, Int.le_refl _, h6⟩⟩, fun c' hc' => ⟨c', hc', rfl, fun hg => ⟨hg, rfl⟩, id, fun L hL => .inl hL⟩, fun M e' he' => ?_⟩⟩
 ·dsimp only at he'
  unfold setD at he'
  split at he'
  ·injection he' with he'; subst he'; exact ⟨⟨c, hc, ht⟩, by omega, by omega⟩
  ·exact h.d_c M e' he'
 ·dsimp only at he' hc'
  unfold setD at he'
  rw [hc] at hc'; injection hc' with hc'; subst hc'
  split at he'
  ·rename_i hM; subst hM; exact hL
  ·exact h.two M e' c he' h2 hc
 ·dsimp only at hc'
  rw [hc] at hc'; injection hc' with hc'; subst hc'; rw [hg] at hg'; cases hg'
 ·dsimp only at he' hq
  unfold setD at he'
  split at he'
  ·injection he' with he'; subst he'
   have := hq1 q hq
   unfold OKs; omega
  ·exact h.a q M e' hq he' h2
 ·by_cases hM : M = L
  ·subst hM; rw [hd] at he'; cases he'
  ·exact ⟨e', by dsimp only; unfold setD; rw [if_neg hM]; exact he', id, fun _ => Nat.le_refl _⟩
theorem DI.bump (h : DI x) {L : Int} {e e' : Deal} (he : x.d L = some e) (ht : e'.t = e.t) (h2 : 2 ≤ e.st) (h3 : e.st ≤ e'.st) (h5 : e'.st ≤ 5) (ha : ∀ q, x.q = some q → OKs q.st e'.st) : DI { x with d := setD x.d L e' } ∧ x.le { x with d := setD x.d L e' } := by
 refine ⟨⟨h.c_q, fun M f hf => ?_, fun M f c' hf h2' hc' => ?_, fun c' hc' hg' => ?_, h.qr, h.q2, h.q7, fun q M f hq hf h2' => ?_⟩, ⟨fun p hp => ⟨p, hp, rfl, fun _ h6 => ⟨rfl, Int.le_refl _, h6⟩⟩, fun c' hc' => ⟨c', hc', rfl, fun hg => ⟨hg, rfl⟩, id, fun L hL => .inl hL⟩, fun M f hf => ?_⟩⟩
 ·dsimp only at hf
  unfold setD at hf
  split at hf
  ·injection hf with hf; subst hf
   obtain ⟨⟨c, h6, h7⟩, _⟩ := h.d_c L e he
   exact ⟨⟨c, h6, ht.trans h7⟩, by omega, h5⟩
  ·exact h.d_c M f hf
 ·dsimp only at hf hc'
  unfold setD at hf
  split at hf
  ·rename_i hM; subst hM; exact h.two M e c' he h2 hc'
  ·exact h.two M f c' hf h2' hc'
 ·obtain ⟨M, f, h6, h7, h8⟩ := h.g c' hc' hg'
  by_cases hM : M = L
  ·subst hM; exact ⟨M, e', h6, setD_self _ _ _, by omega⟩
  ·exact ⟨M, f, h6, by dsimp only; unfold setD; rw [if_neg hM]; exact h7, h8⟩
 ·dsimp only at hf hq
  unfold setD at hf
  split at hf
  ·injection hf with hf; subst hf; exact ha q hq
  ·exact h.a q M f hq hf h2'
 ·by_cases hM : M = L
  ·subst hM
   rw [he] at hf; injection hf with hf; subst hf
   exact ⟨e', setD_self _ _ _, fun h => by omega, fun _ => h3⟩
  ·exact ⟨f, by dsimp only; unfold setD; rw [if_neg hM]; exact hf, id, fun _ => Nat.le_refl _⟩
end
end Go.Proofs.YtdojgbpaheadnaaGreat

/- The consortium, plainly: askers, broker, lenders, and the messages on their way; what holds whatever the net does. -/
namespace Go.Proofs.YtdojgbpaheadnaaGreat

structure Lb where
 as : Int → Asr
 b : Brk
 ls : Int → Len
 W : List Msg
def IsA (a : Int) : Prop := a = 1 ∨ a = 2
def IsL (L : Int) : Prop := L = 3 ∨ L = 4 ∨ L = 1
instance (a : Int) : Decidable (IsA a) := by unfold IsA; infer_instance
instance (L : Int) : Decidable (IsL L) := by unfold IsL; infer_instance
def upd {α : Type} (f : Int → α) (i : Int) (x : α) : Int → α := fun j => if j = i then x else f j
theorem upd_self {α : Type} (f : Int → α) (i : Int) (x : α) : upd f i x i = x := by unfold upd; rw [if_pos rfl]
theorem upd_ne {α : Type} (f : Int → α) {i j : Int} (x : α) (h : j ≠ i) : upd f i x j = f j := by unfold upd; rw [if_neg h]
def Lb.view (s : Lb) (a r : Int) : Dv := ⟨if IsA a then rq (s.as a).L r else none, cs s.b.L a r, fun L => if IsL L then at_ (s.ls L).L a r else none⟩
def Vm (s : Lb) (m : Msg) : Prop := ∃ k a r v, dec m.text = some (k, a, r, v) ∧ MV (s.view a r) a k v m.frm m.to
structure GI (s : Lb) : Prop where
 ia : ∀ a, IsA a → (s.as a).id = a
 il : ∀ L, IsL L → (s.ls L).id = L
 ib : s.b.id = 0
 di : ∀ a r, DI (s.view a r)
 mv : ∀ m ∈ s.W, Vm s m
 rg : ∀ a r q, (s.view a r).q = some q → IsA a ∧ 1 ≤ r ∧ r ≤ 6 ∧ 1 ≤ q.t ∧ q.t ≤ 4
 ro : ∀ X ∈ s.b.rota, IsL X
 rl : s.b.rota.length ≤ 6
 lf : ∀ a r c, (s.view a r).c = some c → (∀ X ∈ c.left, IsL X) ∧ c.left.length ≤ 6
theorem Vm.mono {s s' : Lb} {m : Msg} (h : Vm s m) (hl : ∀ a r, (s.view a r).le (s'.view a r)) : Vm s' m := by
 obtain ⟨k, a, r, v, h1, h2⟩ := h
 exact ⟨k, a, r, v, h1, h2.mono (hl a r)⟩
theorem GI.step {s s' : Lb} (h : GI s) (a0 r0 : Int) (ia : ∀ a, IsA a → (s'.as a).id = a) (il : ∀ L, IsL L → (s'.ls L).id = L) (ib : s'.b.id = 0) (ro : s'.b.rota = s.b.rota)
  (hv : ∀ a r, ¬ (a = a0 ∧ r = r0) → s'.view a r = s.view a r) (hd : DI (s'.view a0 r0)) (hl : (s.view a0 r0).le (s'.view a0 r0))
  (hq : ∀ q, (s'.view a0 r0).q = some q → IsA a0 ∧ 1 ≤ r0 ∧ r0 ≤ 6 ∧ 1 ≤ q.t ∧ q.t ≤ 4) (hc : ∀ c, (s'.view a0 r0).c = some c → (∀ X ∈ c.left, IsL X) ∧ c.left.length ≤ 6)
  (hW : ∀ m ∈ s'.W, m ∈ s.W ∨ Vm s' m) : GI s' ∧ ∀ a r, (s.view a r).le (s'.view a r) := by
 have le : ∀ a r, (s.view a r).le (s'.view a r) := fun a r => by
  by_cases e : a = a0 ∧ r = r0
  ·obtain ⟨rfl, rfl⟩ := e; exact hl
  ·rw [hv a r e]; exact Dv.le.refl _
 refine ⟨⟨ia, il, ib, fun a r => ?_, fun m hm => ?_, fun a r q hx => ?_, by rw [ro]; exact h.ro, by rw [ro]; exact h.rl, fun a r c hx => ?_⟩, le⟩
 ·by_cases e : a = a0 ∧ r = r0
  ·obtain ⟨rfl, rfl⟩ := e; exact hd
  ·rw [hv a r e]; exact h.di a r
 ·exact (hW m hm).elim (fun h' => (h.mv m h').mono le) id
 ·by_cases e : a = a0 ∧ r = r0
  ·obtain ⟨rfl, rfl⟩ := e; exact hq q hx
  ·rw [hv a r e] at hx; exact h.rg a r q hx
 ·by_cases e : a = a0 ∧ r = r0
  ·obtain ⟨rfl, rfl⟩ := e; exact hc c hx
  ·rw [hv a r e] at hx; exact h.lf a r c hx
theorem GI.sub {s : Lb} (h : GI s) {W : List Msg} (hW : ∀ m ∈ W, m ∈ s.W) : GI { s with W := W } := ⟨h.ia, h.il, h.ib, h.di, fun m hm => h.mv m (hW m hm), h.rg, h.ro, h.rl, h.lf⟩
theorem GI.more {s : Lb} (h : GI s) {W : List Msg} (hW : ∀ m ∈ W, m ∈ s.W ∨ Vm s m) : GI { s with W := W } := ⟨h.ia, h.il, h.ib, h.di, fun m hm => (hW m hm).elim (h.mv m) id, h.rg, h.ro, h.rl, h.lf⟩
theorem dec_txt {k a r v : Int} (hk : I64 k) (ha : I64 a) (hr : I64 r) (hv : I64 v) : dec (txt k a r v) = some (k, a, r, v) := dec_ints (q := (k, a, r, v)) ⟨hk, ha, hr, hv⟩
theorem i64_small {n : Int} (h : -100 ≤ n ∧ n ≤ 100) : I64 n := by unfold I64; omega
theorem IsA.i64 {a : Int} (h : IsA a) : I64 a := by unfold IsA at h; exact i64_small (by omega)
theorem IsL.i64 {a : Int} (h : IsL a) : I64 a := by unfold IsL at h; exact i64_small (by omega)

theorem takeA_out (s : Asr) (m : Msg) {k a r v : Int} (hd : dec m.text = some (k, a, r, v)) :
  (s.take m = (s, []) ∧ ¬ (m.to = s.id ∧ a = s.id ∧ ∃ q p st z, rq s.L r = some q ∧ stp k = some (p, st, z) ∧ q.st = p ∧ m.frm = (if q.st = 1 then 0 else q.l))) ∨
  (m.to = s.id ∧ a = s.id ∧ ∃ q p st z, rq s.L r = some q ∧ stp k = some (p, st, z) ∧ q.st = p ∧ m.frm = (if q.st = 1 then 0 else q.l) ∧
   s.take m = ({ s with L := setQ { q with st := st, l := if k = 5 then v else q.l } s.L } : Asr).tell { q with st := st, l := if k = 5 then v else q.l } z) := by
 unfold Asr.take
 rw [hd]
 dsimp only
 by_cases h1 : m.to ≠ s.id ∨ a ≠ s.id
 ·rw [if_pos h1]
  exact .inl ⟨rfl, fun ⟨h2, h3, _⟩ => h1.elim (fun h => h h2) (fun h => h h3)⟩
 ·rw [if_neg h1]
  have h2 : m.to = s.id := by omega
  have h3 : a = s.id := by omega
  cases hq : rq s.L r with
  | none => exact .inl ⟨rfl, fun ⟨_, _, q, p, st, z, h, _⟩ => by cases h⟩
  | some q =>
   dsimp only
   cases hs : stp k with
   | none => exact .inl ⟨rfl, fun ⟨_, _, q, p, st, z, _, h, _⟩ => by cases h⟩
   | some t =>
    obtain ⟨p, st, z⟩ := t
    dsimp only
    by_cases h4 : q.st ≠ p ∨ m.frm ≠ (if q.st = 1 then 0 else q.l)
    ·rw [if_pos h4]
     refine .inl ⟨rfl, ?_⟩
     rintro ⟨_, _, q', p', st', z', e1, e2, h5, h6⟩
     injection e1 with e1
     injection e2 with e2
     injection e2 with e2 _
     subst e1 e2
     exact h4.elim (fun h => h h5) (fun h => h h6)
    ·rw [if_neg h4]
     have h5 : q.st = p := by
      by_cases h : q.st = p
      ·exact h
      ·exact absurd (.inl h) h4
     have h6 : m.frm = (if q.st = 1 then 0 else q.l) := by
      by_cases h : m.frm = (if q.st = 1 then 0 else q.l)
      ·exact h
      ·exact absurd (.inr h) h4
     exact .inr ⟨h2, h3, q, p, st, z, rfl, rfl, h5, h6, rfl⟩
noncomputable def Lb.takeA (s : Lb) (a : Int) (m : Msg) : Lb := { s with as := upd s.as a ((s.as a).take m).1, W := s.W ++ ((s.as a).take m).2 }
theorem view_setA {s : Lb} {a : Int} (ha : IsA a) (x : Asr) (W : List Msg) {q : Rq} {p : Rq} (hp : rq (s.as a).L q.n = some p) (hx : x.L = setQ q (s.as a).L) :
  (∀ a' r', ¬ (a' = a ∧ r' = q.n) → (({ s with as := upd s.as a x, W := W } : Lb)).view a' r' = s.view a' r') ∧ ({ s with as := upd s.as a x, W := W } : Lb).view a q.n = { s.view a q.n with q := some q } := by
 constructor
 ·intro a' r' h
  unfold Lb.view
  dsimp only
  by_cases e : a' = a
  ·subst e
   rw [upd_self, hx, rq_set' hp, if_neg (fun e => h ⟨rfl, e⟩)]
  ·rw [upd_ne _ _ e]
 ·unfold Lb.view
  dsimp only
  rw [if_pos ha, upd_self, hx, rq_set' hp, if_pos rfl]
theorem tell_L (s : Asr) (q : Rq) (k : Int) : (s.tell q k).1.L = s.L ∧ (s.tell q k).1.id = s.id ∧ (s.tell q k).1.cap = s.cap := by
 unfold Asr.tell
 split <;> exact ⟨rfl, rfl, rfl⟩
theorem tell_msg {s : Asr} {q : Rq} {k : Int} {m : Msg} (hm : m ∈ (s.tell q k).2) : k ≠ 0 ∧ m = (if k = 1 then mesg s.id s.sent 0 1 s.id q.n q.t else mesg s.id s.sent q.l k s.id q.n 0) := by
 unfold Asr.tell at hm
 split at hm
 ·cases hm
 ·rename_i h; exact ⟨h, List.mem_singleton.1 hm⟩
theorem GI.takeA {s : Lb} (h : GI s) {a : Int} (ha : IsA a) {m : Msg} (hm : Vm s m) : GI (s.takeA a m) ∧ ∀ a' r', (s.view a' r').le ((s.takeA a m).view a' r') := by
 obtain ⟨k, a', r, v, hd, hv⟩ := hm
 rcases takeA_out (s.as a) m hd with ⟨e, -⟩ | ⟨h1, h2, q, p, st, z, hq, hs, hp, hf, e⟩
 ·unfold Lb.takeA
  rw [e]
  have e2 : upd s.as a (s.as a) = s.as := funext fun j => by unfold upd; split <;> simp_all
  dsimp only
  rw [e2, List.append_nil]
  exact ⟨h, fun _ _ => Dv.le.refl _⟩
 ·rw [h.ia a ha] at h2
  subst h2
  have hqn : q.n = r := (rq_some hq).2
  obtain ⟨q', hq'⟩ : ∃ q' : Rq, q' = { q with st := st, l := if k = 5 then v else q.l } := ⟨_, rfl⟩
  have hn' : q'.n = r := by rw [hq']; exact hqn
  have hvq : (s.view a' r).q = some q := by unfold Lb.view; dsimp only; rw [if_pos ha]; exact hq
  have hR := (h.di a' r).recv hvq hv hs hp hf
  rw [← hq'] at e hR
  unfold Lb.takeA
  rw [e]
  obtain ⟨t1, t2, -⟩ := tell_L ({ s.as a' with L := setQ q' (s.as a').L } : Asr) q' z
  have V := view_setA (s := s) ha (({ s.as a' with L := setQ q' (s.as a').L } : Asr).tell q' z).1 (s.W ++ (({ s.as a' with L := setQ q' (s.as a').L } : Asr).tell q' z).2) (q := q') (p := q) (by rw [hn']; exact hq) t1
  rw [hn'] at V
  have hr := h.rg a' r q hvq
  refine h.step a' r (fun b hb => ?_) h.il h.ib rfl V.1 (by rw [V.2]; exact hR.1) (by rw [V.2]; exact hR.2.1) (fun x hx => ?_) (fun c hc => ?_) fun x hx => ?_
  ·dsimp only
   by_cases e : b = a'
   ·subst e; rw [upd_self, t2]; exact h.ia b hb
   ·rw [upd_ne _ _ e]; exact h.ia b hb
  ·rw [V.2] at hx
   injection hx with hx
   subst hx
   refine ⟨ha, hr.2.1, hr.2.2.1, ?_⟩
   rw [hq']; exact hr.2.2.2
  ·rw [V.2] at hc; exact h.lf a' r c hc
  ·rcases List.mem_append.1 hx with hx | hx
   ·exact .inl hx
   ·obtain ⟨hz, hx⟩ := tell_msg hx
    have hz1 : z ≠ 1 := by have := stp_some hs; omega
    rw [if_neg hz1] at hx
    dsimp only at hx
    rw [h.ia a' ha] at hx
    have hzz : I64 z := i64_small (by have := stp_some hs; omega)
    have hl : q'.l = if k = 5 then v else q.l := by rw [hq']
    refine .inr ⟨z, a', r, 0, ?_, ?_⟩
    ·rw [hx]; unfold mesg; dsimp only
     rw [hn']; exact dec_txt hzz ha.i64 (i64_small (by omega)) (i64_small (by omega))
    ·rw [V.2, hx]
     unfold mesg; dsimp only
     have := hR.2.2 hz
     rw [hl]; exact this

theorem takeB_out (s : Brk) (m : Msg) {k a r v : Int} (hd : dec m.text = some (k, a, r, v)) :
  (s.take m = (s, []) ∧ (m.to = s.id → (cs s.L a r = none → ¬ (k = 1 ∧ m.frm = a)) ∧ ∀ c, cs s.L a r = some c → (k = 1 ∧ m.frm = a → c.opn = true) ∧ (c.opn = true → c.left.head? = some m.frm → k ≠ 3 ∧ k ≠ 4))) ∨
  (m.to = s.id ∧ cs s.L a r = none ∧ k = 1 ∧ m.frm = a ∧ s.take m = ({ s with L := insC ⟨a, r, v, rotOf s.rota a r, false⟩ s.L } : Brk).tell ⟨a, r, v, rotOf s.rota a r, false⟩) ∨
  (∃ c, m.to = s.id ∧ cs s.L a r = some c ∧ k = 1 ∧ m.frm = a ∧ c.opn = false ∧ s.take m = s.tell c) ∨
  (∃ c, m.to = s.id ∧ cs s.L a r = some c ∧ k = 3 ∧ c.opn = true ∧ c.left.head? = some m.frm ∧ s.take m = ({ s with L := setC { c with g := true } s.L } : Brk).tell { c with g := true }) ∨
  (∃ c, m.to = s.id ∧ cs s.L a r = some c ∧ k = 4 ∧ c.opn = true ∧ c.left.head? = some m.frm ∧ s.take m = ({ s with L := setC { c with left := c.left.tail } s.L } : Brk).tell { c with left := c.left.tail }) := by
 unfold Brk.take
 rw [hd]
 dsimp only
 by_cases h1 : m.to ≠ s.id
 ·rw [if_pos h1]; exact .inl ⟨rfl, fun h => absurd h h1⟩
 ·rw [if_neg h1]
  have h1' : m.to = s.id := by omega
  cases hc : cs s.L a r with
  | none =>
   dsimp only
   by_cases h2 : k = 1 ∧ m.frm = a
   ·rw [if_pos h2]; exact .inr (.inl ⟨h1', rfl, h2.1, h2.2, rfl⟩)
   ·rw [if_neg h2]; exact .inl ⟨rfl, fun _ => ⟨fun _ => h2, (fun c h => by cases h)⟩⟩
  | some c =>
   dsimp only
   by_cases h2 : k = 1 ∧ m.frm = a
   ·rw [if_pos h2]
    cases ho : c.opn with
    | true =>
     rw [if_pos rfl]
     refine .inl ⟨rfl, fun _ => ⟨(fun h => by cases h), fun c' h => ?_⟩⟩
     injection h with h; subst h
     exact ⟨fun _ => ho, fun _ _ => by omega⟩
    | false =>
     rw [if_neg (by simp)]
     exact .inr (.inr (.inl ⟨c, h1', rfl, h2.1, h2.2, ho, rfl⟩))
   ·rw [if_neg h2]
    by_cases h3 : c.opn = true ∧ c.left.head? = some m.frm
    ·rw [if_pos h3]
     by_cases h4 : k = 3
     ·rw [if_pos h4]; exact .inr (.inr (.inr (.inl ⟨c, h1', rfl, h4, h3.1, h3.2, rfl⟩)))
     ·rw [if_neg h4]
      by_cases h5 : k = 4
      ·rw [if_pos h5]; exact .inr (.inr (.inr (.inr ⟨c, h1', rfl, h5, h3.1, h3.2, rfl⟩)))
      ·rw [if_neg h5]
       refine .inl ⟨rfl, fun _ => ⟨(fun h => by cases h), fun c' h => ?_⟩⟩
       injection h with h; subst h
       exact ⟨fun h => absurd h h2, fun _ _ => ⟨h4, h5⟩⟩
    ·rw [if_neg h3]
     refine .inl ⟨rfl, fun _ => ⟨(fun h => by cases h), fun c' h => ?_⟩⟩
     injection h with h; subst h
     exact ⟨fun h => absurd h h2, fun h4 h5 => absurd ⟨h4, h5⟩ h3⟩
noncomputable def Lb.takeB (s : Lb) (m : Msg) : Lb := { s with b := (s.b.take m).1, W := s.W ++ (s.b.take m).2 }
theorem view_setB {s : Lb} (x : Brk) (W : List Msg) {c : Cs} (hx : ∀ a r, cs x.L a r = if a = c.a ∧ r = c.r then some c else cs s.b.L a r) :
  (∀ a' r', ¬ (a' = c.a ∧ r' = c.r) → (({ s with b := x, W := W } : Lb)).view a' r' = s.view a' r') ∧ ({ s with b := x, W := W } : Lb).view c.a c.r = { s.view c.a c.r with c := some c } := by
 constructor
 ·intro a' r' h
  unfold Lb.view
  dsimp only
  rw [hx, if_neg h]
 ·unfold Lb.view
  dsimp only
  have e := hx c.a c.r
  rw [if_pos (And.intro rfl rfl)] at e
  rw [e]
theorem tellB_same (s : Brk) (c : Cs) : (s.tell c).1.L = s.L ∧ (s.tell c).1.id = s.id ∧ (s.tell c).1.rota = s.rota := ⟨rfl, rfl, rfl⟩
theorem tellB_vm {s s' : Lb} {b : Brk} {c : Cs} {m : Msg} (hi : b.id = 0) (hm : m ∈ (b.tell c).2) (hv : (s'.view c.a c.r).c = some c) (ha : IsA c.a) (hr : I64 c.r) (ht : I64 c.t) (hl : ∀ X ∈ c.left, IsL X) : Vm s' m := by
 unfold Brk.tell at hm
 dsimp only at hm
 obtain ⟨t1, t2, t3⟩ := MV.tell hv c.a
 cases hc : c.left with
 | nil =>
  rw [hc] at hm
  dsimp only at hm
  have hm := List.mem_singleton.1 hm
  refine ⟨6, c.a, c.r, 0, by rw [hm]; exact dec_txt (i64_small (by omega)) ha.i64 hr (i64_small (by omega)), ?_⟩
  rw [hm]; unfold mesg; dsimp only; rw [hi]; exact t1 hc
 | cons X l =>
  rw [hc] at hm
  dsimp only at hm
  have hX := (hl X (by rw [hc]; simp)).i64
  have hm := List.mem_singleton.1 hm
  cases hg : c.g with
  | true =>
   rw [hg, if_pos rfl] at hm
   refine ⟨5, c.a, c.r, X, by rw [hm]; exact dec_txt (i64_small (by omega)) ha.i64 hr hX, ?_⟩
   rw [hm]; unfold mesg; dsimp only; rw [hi]; exact t2 X l hc hg
  | false =>
   rw [hg, if_neg (by simp)] at hm
   refine ⟨2, c.a, c.r, c.t, by rw [hm]; exact dec_txt (i64_small (by omega)) ha.i64 hr ht, ?_⟩
   rw [hm]; unfold mesg; dsimp only; rw [hi]; exact t3 X l hc hg
theorem opn_iffP {c : Cs} : c.opn = true ↔ c.g = false ∧ c.left ≠ [] := by
 unfold Cs.opn
 cases c.g <;> cases c.left <;> simp
theorem GI.takeB {s : Lb} (h : GI s) {m : Msg} (hm : Vm s m) : GI (s.takeB m) ∧ ∀ a' r', (s.view a' r').le ((s.takeB m).view a' r') := by
 obtain ⟨k, a, r, v, hd, hv⟩ := hm
 unfold Lb.takeB
 have hvc : (s.view a r).c = cs s.b.L a r := rfl
 rcases takeB_out s.b m hd with ⟨e, -⟩ | ⟨h1, hc, hk, hf, e⟩ | ⟨c, h1, hc, hk, hf, ho, e⟩ | ⟨c, h1, hc, hk, ho, hh, e⟩ | ⟨c, h1, hc, hk, ho, hh, e⟩
 ·rw [e]
  dsimp only
  rw [List.append_nil]
  exact ⟨h, fun _ _ => Dv.le.refl _⟩
 ·rw [e]
  subst hk
  obtain ⟨-, -, q, hq, hqt⟩ := hv.ask rfl
  have hr := h.rg a r q hq
  obtain ⟨c, hcd⟩ : ∃ c : Cs, c = ⟨a, r, v, rotOf s.b.rota a r, false⟩ := ⟨_, rfl⟩
  have e1 : c.a = a := by rw [hcd]
  have e2 : c.r = r := by rw [hcd]
  have e3 : c.g = false := by rw [hcd]
  have e4 : c.t = q.t := by rw [hcd]; exact hqt.symm
  have e5 : ∀ X ∈ c.left, IsL X := fun X hX => h.ro X (rot_mem (by rw [hcd] at hX; exact hX))
  have e6 : c.left.length ≤ 6 := by rw [hcd]; exact Nat.le_trans (rot_len _ _ _) h.rl
  rw [← hcd]
  have V := view_setB (s := s) (({ s.b with L := insC c s.b.L } : Brk).tell c).1 (s.W ++ (({ s.b with L := insC c s.b.L } : Brk).tell c).2) (c := c) (fun a' r' => cs_ins (by rw [e1, e2]; exact hc) a' r')
  rw [e1, e2] at V
  have hR := (h.di a r).newc (hvc.trans hc) hq e3 e4
  refine h.step a r h.ia h.il h.ib rfl V.1 (by rw [V.2]; exact hR.1) (by rw [V.2]; exact hR.2) (fun x hx => ?_) (fun x hx => ?_) fun x hx => ?_
  ·rw [V.2] at hx; exact h.rg a r x hx
  ·rw [V.2] at hx; injection hx with hx; subst hx; exact ⟨e5, e6⟩
  ·rcases List.mem_append.1 hx with hx | hx
   ·exact .inl hx
   ·refine .inr (tellB_vm (s := s) (h.ib : ({ s.b with L := insC c s.b.L } : Brk).id = 0) hx (by rw [e1, e2, V.2]) (by rw [e1]; exact hr.1) (by rw [e2]; exact i64_small (by omega)) (by rw [e4]; exact i64_small (by omega)) e5)
 ·rw [e]
  have hcc := cs_some hc
  have hvcc := hvc.trans hc
  obtain ⟨q, hq, hqt⟩ := (h.di a r).c_q c hvcc
  have hr := h.rg a r q hq
  have hl := h.lf a r c hvcc
  have V : ∀ W, ∀ a' r', ({ s with b := (s.b.tell c).1, W := W } : Lb).view a' r' = s.view a' r' := fun _ _ _ => rfl
  have hs : GI { s with b := (s.b.tell c).1 } := ⟨h.ia, h.il, h.ib, h.di, h.mv, h.rg, h.ro, h.rl, h.lf⟩
  refine ⟨hs.more fun x hx => ?_, fun _ _ => Dv.le.refl _⟩
  rcases List.mem_append.1 hx with hx | hx
  ·exact .inl hx
  ·exact .inr (tellB_vm (s := s) h.ib hx (by rw [hcc.2.1, hcc.2.2]; exact hvcc) (by rw [hcc.2.1]; exact hr.1) (by rw [hcc.2.2]; exact i64_small (by omega)) (by rw [← hqt]; exact i64_small (by omega)) hl.1)
 ·rw [e]
  subst hk
  obtain ⟨hg, hne⟩ := opn_iffP.1 ho
  have hcc := cs_some hc
  have hvcc := hvc.trans hc
  obtain ⟨q, hq, hqt⟩ := (h.di a r).c_q c hvcc
  have hr := h.rg a r q hq
  have hl := h.lf a r c hvcc
  obtain ⟨-, f, hf, h2⟩ := hv.yes rfl
  have hR := (h.di a r).yes hvcc hg (L := m.frm) hh hf h2
  obtain ⟨c', hcd⟩ : ∃ c' : Cs, c' = { c with g := true } := ⟨_, rfl⟩
  have e1 : c'.a = a := by rw [hcd]; exact hcc.2.1
  have e2 : c'.r = r := by rw [hcd]; exact hcc.2.2
  have e4 : c'.t = c.t := by rw [hcd]
  have e5 : c'.left = c.left := by rw [hcd]
  rw [← hcd] at hR ⊢
  have V := view_setB (s := s) (({ s.b with L := setC c' s.b.L } : Brk).tell c').1 (s.W ++ (({ s.b with L := setC c' s.b.L } : Brk).tell c').2) (c := c') (fun a' r' => cs_set' (x := c) (by rw [e1, e2]; exact hc) a' r')
  rw [e1, e2] at V
  refine h.step a r h.ia h.il h.ib rfl V.1 (by rw [V.2]; exact hR.1) (by rw [V.2]; exact hR.2) (fun x hx => ?_) (fun x hx => ?_) fun x hx => ?_
  ·rw [V.2] at hx; exact h.rg a r x hx
  ·rw [V.2] at hx; injection hx with hx; subst hx; rw [e5]; exact hl
  ·rcases List.mem_append.1 hx with hx | hx
   ·exact .inl hx
   ·exact .inr (tellB_vm (s := s) (h.ib : ({ s.b with L := setC c' s.b.L } : Brk).id = 0) hx (by rw [e1, e2, V.2]) (by rw [e1]; exact hr.1) (by rw [e2]; exact i64_small (by omega)) (by rw [e4, ← hqt]; exact i64_small (by omega)) (by rw [e5]; exact hl.1))
 ·rw [e]
  subst hk
  obtain ⟨hg, hne⟩ := opn_iffP.1 ho
  have hcc := cs_some hc
  have hvcc := hvc.trans hc
  obtain ⟨q, hq, hqt⟩ := (h.di a r).c_q c hvcc
  have hr := h.rg a r q hq
  have hl := h.lf a r c hvcc
  obtain ⟨-, f, hf, h1'⟩ := hv.no rfl
  have hR := (h.di a r).no hvcc hg (L := m.frm) hh hf h1'
  obtain ⟨c', hcd⟩ : ∃ c' : Cs, c' = { c with left := c.left.tail } := ⟨_, rfl⟩
  have e1 : c'.a = a := by rw [hcd]; exact hcc.2.1
  have e2 : c'.r = r := by rw [hcd]; exact hcc.2.2
  have e4 : c'.t = c.t := by rw [hcd]
  have e5 : ∀ X ∈ c'.left, IsL X := fun X hX => hl.1 X (by rw [hcd] at hX; exact List.mem_of_mem_tail hX)
  have e6 : c'.left.length ≤ 6 := by rw [hcd]; dsimp only; rw [List.length_tail]; have := hl.2; omega
  rw [← hcd] at hR ⊢
  have V := view_setB (s := s) (({ s.b with L := setC c' s.b.L } : Brk).tell c').1 (s.W ++ (({ s.b with L := setC c' s.b.L } : Brk).tell c').2) (c := c') (fun a' r' => cs_set' (x := c) (by rw [e1, e2]; exact hc) a' r')
  rw [e1, e2] at V
  refine h.step a r h.ia h.il h.ib rfl V.1 (by rw [V.2]; exact hR.1) (by rw [V.2]; exact hR.2) (fun x hx => ?_) (fun x hx => ?_) fun x hx => ?_
  ·rw [V.2] at hx; exact h.rg a r x hx
  ·rw [V.2] at hx; injection hx with hx; subst hx; exact ⟨e5, e6⟩
  ·rcases List.mem_append.1 hx with hx | hx
   ·exact .inl hx
   ·exact .inr (tellB_vm (s := s) (h.ib : ({ s.b with L := setC c' s.b.L } : Brk).id = 0) hx (by rw [e1, e2, V.2]) (by rw [e1]; exact hr.1) (by rw [e2]; exact i64_small (by omega)) (by rw [e4, ← hqt]; exact i64_small (by omega)) e5)
end Go.Proofs.YtdojgbpaheadnaaGreat

/- The consortium, plainly: the lenders. -/
namespace Go.Proofs.YtdojgbpaheadnaaGreat

theorem hit_iffP {a r : Int} {d : Deal} : hit a r d = true ↔ d.a = a ∧ d.r = r := by simp [hit]
theorem at_some {L : List Deal} {a r : Int} {d : Deal} (h : at_ L a r = some d) : d ∈ L ∧ d.a = a ∧ d.r = r := ⟨List.mem_of_find?_eq_some h, hit_iffP.1 (List.find?_some h)⟩
theorem at_none {L : List Deal} {a r : Int} : at_ L a r = none ↔ ∀ d ∈ L, ¬ (d.a = a ∧ d.r = r) := by
 unfold at_
 rw [List.find?_eq_none]
 exact ⟨fun h d hd e => h d hd (hit_iffP.2 e), fun h d hd e => h d hd (hit_iffP.1 e)⟩
theorem at_snocP {L : List Deal} {d : Deal} (hn : at_ L d.a d.r = none) (a r : Int) : at_ (L ++ [d]) a r = if a = d.a ∧ r = d.r then some d else at_ L a r := by
 unfold at_ at *
 rw [List.find?_append]
 by_cases h : a = d.a ∧ r = d.r
 ·obtain ⟨rfl, rfl⟩ := h
  rw [hn, if_pos ⟨rfl, rfl⟩]
  simp [hit]
 ·rw [if_neg h]
  have e : hit a r d = false := by
   rw [Bool.eq_false_iff]; intro e; rw [hit_iffP] at e; exact h ⟨e.1.symm, e.2.symm⟩
  rw [List.find?_cons, e]
  simp
theorem at_setStP (L : List Deal) (a0 r0 : Int) (st : Nat) (a r : Int) : at_ (setSt L a0 r0 st) a r = (at_ L a r).map fun d => if hit a0 r0 d then { d with st := st } else d := by
 unfold at_ setSt
 induction L with
 | nil => rfl
 | cons d L ih =>
  rw [List.map_cons, List.find?_cons, List.find?_cons]
  have e : hit a r (if hit a0 r0 d then { d with st := st } else d) = hit a r d := by
   split <;> rfl
  rw [e]
  cases hit a r d with
  | true => rfl
  | false => exact ih
theorem ans_some {k : Int} {p q : Nat} (h : ans k = some (p, q)) : (k = 7 ∧ p = 2 ∧ q = 3) ∨ (k = 9 ∧ p = 3 ∧ q = 4) ∨ (k = 11 ∧ p = 4 ∧ q = 5) := by
 unfold ans at h
 split at h
 ·simp at h; omega
 split at h
 ·simp at h; omega
 split at h
 ·simp at h; omega
 ·cases h
theorem takeL_out (s : Len) (m : Msg) {k a r v : Int} (hd : dec m.text = some (k, a, r, v)) :
  (s.take m = (s, []) ∧ (m.to = s.id → ¬ (k = 2 ∧ m.frm = 0) ∧ ∀ d p q, at_ s.L a r = some d → ans k = some (p, q) → m.frm = a → d.st ≠ p ∧ d.st ≠ q)) ∨
  (m.to = s.id ∧ k = 2 ∧ m.frm = 0 ∧ at_ s.L a r = none ∧ s.take m = (s.deal a r v).send 0 (if v ∈ s.here then 3 else 4) a r) ∨
  (∃ d, m.to = s.id ∧ k = 2 ∧ m.frm = 0 ∧ at_ s.L a r = some d ∧ s.take m = s.send 0 (if d.st = 1 then 4 else 3) a r) ∨
  (∃ d p q, m.to = s.id ∧ at_ s.L a r = some d ∧ ans k = some (p, q) ∧ m.frm = a ∧ (d.st = p ∨ d.st = q) ∧
   s.take m = ({ s with here := if d.st = 4 ∧ q = 5 then ins d.t s.here else s.here, L := setSt s.L a r q } : Len).send a (kd q) a r) := by
 unfold Len.take
 rw [hd]
 dsimp only
 by_cases h1 : m.to ≠ s.id
 ·rw [if_pos h1]; exact .inl ⟨rfl, fun h => absurd h h1⟩
 ·rw [if_neg h1]
  have h1' : m.to = s.id := by omega
  by_cases h2 : k = 2 ∧ m.frm = 0
  ·rw [if_pos h2]
   cases hc : at_ s.L a r with
   | none => exact .inr (.inl ⟨h1', h2.1, h2.2, rfl, rfl⟩)
   | some d => exact .inr (.inr (.inl ⟨d, h1', h2.1, h2.2, rfl, rfl⟩))
  ·rw [if_neg h2]
   cases hc : at_ s.L a r with
   | none => exact .inl ⟨rfl, fun _ => ⟨h2, (fun d p q h => by cases h)⟩⟩
   | some d =>
    dsimp only
    cases ha : ans k with
    | none => exact .inl ⟨rfl, fun _ => ⟨h2, (fun d p q _ h => by cases h)⟩⟩
    | some t =>
     obtain ⟨p, q⟩ := t
     dsimp only
     by_cases h3 : m.frm ≠ a ∨ d.st ≠ p ∧ d.st ≠ q
     ·rw [if_pos h3]
      refine .inl ⟨rfl, fun _ => ⟨h2, fun d' p' q' e1 e2 h4 => ?_⟩⟩
      injection e1 with e1
      injection e2 with e2
      injection e2 with e2 e3
      subst e1 e2 e3
      exact h3.elim (fun h => absurd h4 h) id
     ·rw [if_neg h3]
      have h4 : m.frm = a := by omega
      have h5 : d.st = p ∨ d.st = q := by omega
      exact .inr (.inr (.inr ⟨d, p, q, h1', rfl, rfl, h4, h5, rfl⟩))
noncomputable def Lb.takeL (s : Lb) (L : Int) (m : Msg) : Lb := { s with ls := upd s.ls L ((s.ls L).take m).1, W := s.W ++ ((s.ls L).take m).2 }
theorem view_setL {s : Lb} {L : Int} (hL : IsL L) (x : Len) (W : List Msg) {a0 r0 : Int} {e : Deal} (hx : ∀ a r, at_ x.L a r = if a = a0 ∧ r = r0 then some e else at_ (s.ls L).L a r) :
  (∀ a' r', ¬ (a' = a0 ∧ r' = r0) → (({ s with ls := upd s.ls L x, W := W } : Lb)).view a' r' = s.view a' r') ∧ ({ s with ls := upd s.ls L x, W := W } : Lb).view a0 r0 = { s.view a0 r0 with d := setD (s.view a0 r0).d L e } := by
 constructor
 ·intro a' r' h
  unfold Lb.view
  dsimp only
  congr 1
  funext M
  by_cases hM : M = L
  ·subst hM; rw [upd_self, hx, if_neg h]
  ·rw [upd_ne _ _ hM]
 ·unfold Lb.view
  dsimp only
  congr 1
  funext M
  unfold setD
  dsimp only
  by_cases hM : M = L
  ·subst hM
   have e2 := hx a0 r0
   rw [if_pos (And.intro rfl rfl)] at e2
   rw [if_pos hL, upd_self, e2, if_pos rfl]
  ·rw [upd_ne _ _ hM, if_neg hM]
theorem GI.takeL {s : Lb} (h : GI s) {L : Int} (hL : IsL L) {m : Msg} (hm : Vm s m) : GI (s.takeL L m) ∧ ∀ a' r', (s.view a' r').le ((s.takeL L m).view a' r') := by
 obtain ⟨k, a, r, v, hd, hv⟩ := hm
 have hvd : (s.view a r).d L = at_ (s.ls L).L a r := by unfold Lb.view; dsimp only; rw [if_pos hL]
 have hid := h.il L hL
 unfold Lb.takeL
 rcases takeL_out (s.ls L) m hd with ⟨e, -⟩ | ⟨h1, hk, hf, hn, e⟩ | ⟨d, h1, hk, hf, hs, e⟩ | ⟨d, p, q, h1, hs, ha, hf, hst, e⟩
 ·rw [e]
  have e2 : upd s.ls L (s.ls L) = s.ls := funext fun j => by unfold upd; split <;> simp_all
  dsimp only
  rw [e2, List.append_nil]
  exact ⟨h, fun _ _ => Dv.le.refl _⟩
 ·rw [e]
  subst hk
  rw [hid] at h1
  obtain ⟨-, c, hc, ht, hh⟩ := hv.want rfl
  have hhd : c.hd L := by
   rw [h1] at hh
   rcases hh with hh | ⟨e', he', _⟩
   ·exact hh
   ·rw [hvd, hn] at he'; cases he'
  obtain ⟨q, hq, hqt⟩ := (h.di a r).c_q c hc
  have hr := h.rg a r q hq
  obtain ⟨x, hx⟩ : ∃ x : Deal, x = ⟨a, r, v, if v ∈ (s.ls L).here then 2 else 1⟩ := ⟨_, rfl⟩
  have x1 : x.a = a := by rw [hx]
  have x2 : x.r = r := by rw [hx]
  have x3 : x.t = c.t := by rw [hx]; exact ht.symm
  have x4 : x.st = 1 ∨ x.st = 2 := by rw [hx]; dsimp only; split <;> omega
  have hl : ((s.ls L).deal a r v).L = (s.ls L).L ++ [x] := by
   unfold Len.deal; rw [hx]; split <;> rfl
  have hdi : ((s.ls L).deal a r v).id = L := by unfold Len.deal; split <;> exact hid
  obtain ⟨k', hk'⟩ : ∃ k' : Int, k' = if v ∈ (s.ls L).here then 3 else 4 := ⟨_, rfl⟩
  rw [← hk']
  have V := view_setL (s := s) hL (((s.ls L).deal a r v).send 0 k' a r).1 (s.W ++ (((s.ls L).deal a r v).send 0 k' a r).2) (a0 := a) (r0 := r) (e := x) (fun a' r' => by
   show at_ ((s.ls L).deal a r v).L a' r' = _
   rw [hl, at_snocP (by rw [x1, x2]; exact hn), x1, x2])
  have hR := (h.di a r).deal (hvd.trans hn) hc hhd x3 x4
  refine h.step a r h.ia (fun M hM => ?_) h.ib rfl V.1 (by rw [V.2]; exact hR.1) (by rw [V.2]; exact hR.2) (fun y hy => ?_) (fun y hy => ?_) fun y hy => ?_
  ·dsimp only
   by_cases e : M = L
   ·subst e; rw [upd_self]; exact hdi
   ·rw [upd_ne _ _ e]; exact h.il M hM
  ·rw [V.2] at hy; exact h.rg a r y hy
  ·rw [V.2] at hy; exact h.lf a r y hy
  ·rcases List.mem_append.1 hy with hy | hy
   ·exact .inl hy
   ·have hy := List.mem_singleton.1 hy
    have hk3 : k' = 3 ∧ x.st = 2 ∨ k' = 4 ∧ x.st = 1 := by
     rw [hk', hx]; dsimp only; split <;> simp
    refine .inr ⟨k', a, r, 0, ?_, ?_⟩
    ·rw [hy]; exact dec_txt (i64_small (by omega)) hr.1.i64 (i64_small (by omega)) (i64_small (by omega))
    ·rw [V.2, hy]
     unfold mesg; dsimp only
     rw [hdi]
     rcases hk3 with ⟨e1, e2⟩ | ⟨e1, e2⟩
     ·rw [e1]; exact MV.of3 ⟨rfl, x, setD_self _ _ _, by omega⟩
     ·rw [e1]; exact MV.of4 ⟨rfl, x, setD_self _ _ _, e2⟩
 ·rw [e]
  subst hk
  obtain ⟨-, c, hc, ht, hh⟩ := hv.want rfl
  obtain ⟨q, hq, hqt⟩ := (h.di a r).c_q c hc
  have hr := h.rg a r q hq
  have hd1 := ((h.di a r).d_c L d (hvd.trans hs)).2
  obtain ⟨k', hk'⟩ : ∃ k' : Int, k' = if d.st = 1 then 4 else 3 := ⟨_, rfl⟩
  rw [← hk']
  have V : ∀ W, ∀ a' r', ({ s with ls := upd s.ls L ((s.ls L).send 0 k' a r).1, W := W } : Lb).view a' r' = s.view a' r' := fun W a' r' => by
   unfold Lb.view
   dsimp only
   congr 1
   funext M
   by_cases hM : M = L
   ·subst hM; rw [upd_self]; rfl
   ·rw [upd_ne _ _ hM]
  have hs' : GI { s with ls := upd s.ls L ((s.ls L).send 0 k' a r).1 } := by
   refine ⟨h.ia, fun M hM => ?_, h.ib, fun a' r' => by rw [V]; exact h.di a' r', fun x hx => (h.mv x hx).mono fun a' r' => by rw [V]; exact Dv.le.refl _, fun a' r' q hq => by rw [V] at hq; exact h.rg a' r' q hq, h.ro, h.rl, fun a' r' c hc => by rw [V] at hc; exact h.lf a' r' c hc⟩
   dsimp only
   by_cases e : M = L
   ·subst e; rw [upd_self]; exact hid
   ·rw [upd_ne _ _ e]; exact h.il M hM
  refine ⟨hs'.more fun x hx => ?_, fun a' r' => by rw [V]; exact Dv.le.refl _⟩
  rcases List.mem_append.1 hx with hx | hx
  ·exact .inl hx
  ·have hx := List.mem_singleton.1 hx
   have hk3 : k' = 4 ∧ d.st = 1 ∨ k' = 3 ∧ 2 ≤ d.st := by
    rw [hk']; split <;> omega
   refine .inr ⟨k', a, r, 0, ?_, ?_⟩
   ·rw [hx]; exact dec_txt (i64_small (by omega)) hr.1.i64 (i64_small (by omega)) (i64_small (by omega))
   ·rw [V, hx]
    unfold mesg; dsimp only
    rw [hid]
    rcases hk3 with ⟨e1, e2⟩ | ⟨e1, e2⟩
    ·rw [e1]; exact MV.of4 ⟨rfl, d, hvd.trans hs, e2⟩
    ·rw [e1]; exact MV.of3 ⟨rfl, d, hvd.trans hs, e2⟩
 ·rw [e]
  rw [hid] at h1
  have hdd := (hvd.trans hs)
  obtain ⟨⟨c, hc, -⟩, hd1, hd5⟩ := (h.di a r).d_c L d hdd
  obtain ⟨q0, hq0, hqt⟩ := (h.di a r).c_q c hc
  have hr := h.rg a r q0 hq0
  have hda := at_some hs
  have hs23 := ans_some ha
  have h2 : 2 ≤ d.st := by omega
  have hO := (h.di a r).a q0 L d hq0 hdd h2
  obtain ⟨x, hx⟩ : ∃ x : Deal, x = { d with st := q } := ⟨_, rfl⟩
  have x1 : x.t = d.t := by rw [hx]
  have x2 : x.st = q := by rw [hx]
  have hQ : OKs q0.st q := by
   rcases hs23 with ⟨rfl, rfl, rfl⟩ | ⟨rfl, rfl, rfl⟩ | ⟨rfl, rfl, rfl⟩
   ·obtain ⟨-, q', e1, -, e2, e3⟩ := hv.accept rfl
    rw [hq0] at e1; injection e1 with e1; subst e1
    unfold OKs at *; omega
   ·obtain ⟨-, q', e1, -, e2, e3⟩ := hv.got rfl
    rw [hq0] at e1; injection e1 with e1; subst e1
    unfold OKs at *; omega
   ·obtain ⟨-, q', e1, -, e2, e3⟩ := hv.back rfl
    rw [hq0] at e1; injection e1 with e1; subst e1
    unfold OKs at *; omega
  have hR := (h.di a r).bump hdd x1 h2 (by rw [x2]; omega) (by rw [x2]; omega) (fun q' e => by rw [hq0] at e; injection e with e; subst e; rw [x2]; exact hQ)
  obtain ⟨y, hy⟩ : ∃ y : Len, y = { s.ls L with here := if d.st = 4 ∧ q = 5 then ins d.t (s.ls L).here else (s.ls L).here, L := setSt (s.ls L).L a r q } := ⟨_, rfl⟩
  have y1 : y.L = setSt (s.ls L).L a r q := by rw [hy]
  have y2 : y.id = L := by rw [hy]; exact hid
  rw [← hy]
  have V := view_setL (s := s) hL (y.send a (kd q) a r).1 (s.W ++ (y.send a (kd q) a r).2) (a0 := a) (r0 := r) (e := x) (fun a' r' => by
   show at_ y.L a' r' = _
   rw [y1, at_setStP]
   by_cases e : a' = a ∧ r' = r
   ·obtain ⟨rfl, rfl⟩ := e
    rw [hs, if_pos ⟨rfl, rfl⟩, Option.map_some, if_pos (hit_iffP.2 hda.2), hx]
   ·rw [if_neg e]
    cases hz : at_ (s.ls L).L a' r' with
    | none => rfl
    | some z =>
     rw [Option.map_some, if_neg]
     intro h9
     rw [hit_iffP] at h9
     have h8 := (at_some hz).2
     exact e ⟨h8.1.symm.trans h9.1, h8.2.symm.trans h9.2⟩)
  refine h.step a r h.ia (fun M hM => ?_) h.ib rfl V.1 (by rw [V.2]; exact hR.1) (by rw [V.2]; exact hR.2) (fun z hz => ?_) (fun z hz => ?_) fun z hz => ?_
  ·dsimp only
   by_cases e : M = L
   ·subst e; rw [upd_self]; exact y2
   ·rw [upd_ne _ _ e]; exact h.il M hM
  ·rw [V.2] at hz; exact h.rg a r z hz
  ·rw [V.2] at hz; exact h.lf a r z hz
  ·rcases List.mem_append.1 hz with hz | hz
   ·exact .inl hz
   ·have hz := List.mem_singleton.1 hz
    have hk3 : (q = 3 ∧ kd q = 8) ∨ (q = 4 ∧ kd q = 10) ∨ (q = 5 ∧ kd q = 12) := by
     rcases hs23 with ⟨-, -, rfl⟩ | ⟨-, -, rfl⟩ | ⟨-, -, rfl⟩ <;> simp [kd]
    refine .inr ⟨kd q, a, r, 0, ?_, ?_⟩
    ·rw [hz]; exact dec_txt (i64_small (by omega)) hr.1.i64 (i64_small (by omega)) (i64_small (by omega))
    ·rw [V.2, hz]
     unfold mesg; dsimp only
     rw [y2]
     rcases hk3 with ⟨e1, e2⟩ | ⟨e1, e2⟩ | ⟨e1, e2⟩
     ·rw [e2]; exact MV.of8 ⟨rfl, x, setD_self _ _ _, by omega⟩
     ·rw [e2]; exact MV.of10 ⟨rfl, x, setD_self _ _ _, by omega⟩
     ·rw [e2]; exact MV.of12 ⟨rfl, x, setD_self _ _ _, by omega⟩
end Go.Proofs.YtdojgbpaheadnaaGreat

/- The consortium, plainly: no copy is made, none goes lost; caps. -/
namespace Go.Proofs.YtdojgbpaheadnaaGreat

def isOut (d : Deal) : Bool := decide (2 ≤ d.st) && decide (d.st ≤ 4)
def outs (L : List Deal) : List Int := (L.filter isOut).map Deal.t
def KU (L : List Deal) : Prop := L.Pairwise fun x y => ¬ (x.a = y.a ∧ x.r = y.r)
theorem ku_split {L : List Deal} (h : KU L) {a r : Int} {d : Deal} (hd : at_ L a r = some d) (st : Nat) : ∃ l1 l2, L = l1 ++ d :: l2 ∧ setSt L a r st = l1 ++ { d with st := st } :: l2 := by
 induction L with
 | nil => cases hd
 | cons x L ih =>
  unfold KU at h ih
  rw [List.pairwise_cons] at h
  unfold at_ at hd
  rw [List.find?_cons] at hd
  cases hh : hit a r x with
  | true =>
   rw [hh] at hd
   injection hd with hd
   subst hd
   refine ⟨[], L, rfl, ?_⟩
   unfold setSt
   rw [List.map_cons, hh, if_pos rfl, List.nil_append]
   congr 1
   conv => rhs; rw [← List.map_id L]
   refine List.map_congr_left fun y hy => ?_
   have h1 := h.1 y hy
   have hx := hit_iffP.1 hh
   rw [if_neg]
   ·rfl
   ·intro e
    rw [hit_iffP] at e
    exact h1 ⟨hx.1.trans e.1.symm, hx.2.trans e.2.symm⟩
  | false =>
   rw [hh] at hd
   obtain ⟨l1, l2, e1, e2⟩ := ih h.2 hd
   refine ⟨x :: l1, l2, by rw [e1]; rfl, ?_⟩
   unfold setSt at e2 ⊢
   rw [List.map_cons, hh, e2]
   rfl
theorem ins_permP (x : Int) (l : List Int) : (ins x l).Perm (x :: l) := by
 unfold ins
 refine List.perm_middle.trans (List.Perm.cons x ?_)
 rw [List.takeWhile_append_dropWhile]
theorem ku_set {L : List Deal} (h : KU L) (a r : Int) (st : Nat) : KU (setSt L a r st) := by
 unfold KU setSt at *
 rw [List.pairwise_map]
 refine h.imp fun {x y} hxy => ?_
 have e : ∀ z : Deal, (if hit a r z then { z with st := st } else z).a = z.a ∧ (if hit a r z then { z with st := st } else z).r = z.r := fun z => by split <;> exact ⟨rfl, rfl⟩
 rw [(e x).1, (e x).2, (e y).1, (e y).2]; exact hxy
theorem ku_snoc {L : List Deal} (h : KU L) {d : Deal} (hn : at_ L d.a d.r = none) : KU (L ++ [d]) := by
 unfold KU at *
 rw [List.pairwise_append]
 refine ⟨h, by simp, fun x hx y hy => ?_⟩
 rw [List.mem_singleton.1 hy]
 exact at_none.1 hn x hx
theorem outs_app (L M : List Deal) : outs (L ++ M) = outs L ++ outs M := by unfold outs; rw [List.filter_append, List.map_append]
def SortedI (l : List Int) : Prop := l.Pairwise fun a b => a ≤ b
theorem ins_sortedI {x : Int} {l : List Int} (h : SortedI l) : SortedI (ins x l) := by
 induction l with
 | nil => simp [ins, SortedI]
 | cons y l ih =>
  unfold SortedI at h ih ⊢
  rw [List.pairwise_cons] at h
  unfold ins
  by_cases hy : y < x
  ·simp only [List.takeWhile_cons, List.dropWhile_cons, hy, decide_true, if_true, List.cons_append]
   rw [List.pairwise_cons]
   refine ⟨fun z hz => ?_, ih h.2⟩
   have hz' := (ins_permP x l).mem_iff.1 hz
   rcases List.mem_cons.1 hz' with rfl | hz'
   ·omega
   ·exact h.1 z hz'
  ·simp only [List.takeWhile_cons, List.dropWhile_cons, hy, decide_false, Bool.false_eq_true, if_false, List.nil_append]
   refine List.pairwise_cons.2 ⟨fun z hz => ?_, List.pairwise_cons.2 h⟩
   rcases List.mem_cons.1 hz with rfl | hz
   ·omega
   ·have := h.1 z hz; omega
structure LI (init : List Int) (s : Len) : Prop where
 ku : KU s.L
 cons : (s.here ++ outs s.L).Perm init
 so : SortedI s.here
theorem LI.send {init : List Int} {s : Len} (h : LI init s) (t k a r : Int) : LI init (s.send t k a r).1 := ⟨h.ku, h.cons, h.so⟩
theorem LI.take {init : List Int} {s : Len} (h : LI init s) (m : Msg) : LI init (s.take m).1 := by
 cases hd : dec m.text with
 | none => unfold Len.take; rw [hd]; exact h
 | some t =>
  obtain ⟨k, a, r, v⟩ := t
  rcases takeL_out s m hd with ⟨e, -⟩ | ⟨-, -, -, hn, e⟩ | ⟨d, -, -, -, -, e⟩ | ⟨d, p, q, -, hs, ha, -, hst, e⟩
  ·rw [e]; exact h
  ·rw [e]
   refine LI.send (s := s.deal a r v) ?_ _ _ _ _
   unfold Len.deal
   split
   ·rename_i hv
    refine ⟨ku_snoc h.ku hn, ?_, h.so.sublist List.erase_sublist⟩
    dsimp only
    rw [outs_app]
    have e1 : outs [⟨a, r, v, 2⟩] = [v] := rfl
    rw [e1]
    have p1 := List.perm_cons_erase hv
    have p2 : (s.here.erase v ++ (outs s.L ++ [v])).Perm (v :: s.here.erase v ++ outs s.L) := by
     rw [← List.append_assoc]
     exact (List.perm_append_comm (l₁ := s.here.erase v ++ outs s.L) (l₂ := [v])).trans (by simp)
    exact (p2.trans (p1.symm.append_right _)).trans h.cons
   ·refine ⟨ku_snoc h.ku hn, ?_, h.so⟩
    dsimp only
    rw [outs_app]
    have e1 : outs [⟨a, r, v, 1⟩] = [] := rfl
    rw [e1, List.append_nil]
    exact h.cons
  ·rw [e]; exact ⟨h.ku, h.cons, h.so⟩
  ·rw [e]
   obtain ⟨l1, l2, e1, e2⟩ := ku_split h.ku hs q
   have hq := ans_some ha
   have hcons := h.cons
   rw [e1, outs_app] at hcons
   refine LI.send (s := { s with here := if d.st = 4 ∧ q = 5 then ins d.t s.here else s.here, L := setSt s.L a r q }) ?_ _ _ _ _
   refine ⟨ku_set h.ku a r q, ?_, ?_⟩
   ·dsimp only
    rw [e2, outs_app]
    have o1 : ∀ x : Deal, outs (x :: l2) = (if isOut x then [x.t] else []) ++ outs l2 := fun x => by
     unfold outs; rw [List.filter_cons]; split <;> rfl
    rw [o1] at hcons ⊢
    by_cases h4 : d.st = 4 ∧ q = 5
    ·rw [if_pos h4]
     have i1 : isOut d = true := by unfold isOut; simp; omega
     have i2 : isOut { d with st := q } = false := by unfold isOut; simp; omega
     rw [i1, if_pos rfl] at hcons
     rw [i2, if_neg (by simp), List.nil_append]
     refine List.Perm.trans ?_ hcons
     refine ((ins_permP d.t s.here).append_right _).trans ?_
     show (d.t :: (s.here ++ (outs l1 ++ outs l2))).Perm (s.here ++ (outs l1 ++ ([d.t] ++ outs l2)))
     have e3 : s.here ++ (outs l1 ++ ([d.t] ++ outs l2)) = (s.here ++ outs l1) ++ d.t :: outs l2 := by simp
     rw [e3, ← List.append_assoc]
     exact List.perm_middle.symm
    ·rw [if_neg h4]
     have i3 : isOut { d with st := q } = isOut d := by unfold isOut; dsimp only; rw [Bool.eq_iff_iff]; simp; omega
     rw [i3]
     exact hcons
   ·dsimp only
    split
    ·exact ins_sortedI h.so
    ·exact h.so
structure AI (s : Asr) : Prop where
 so : SortedQ s.L
 cap : (many s.L : Int) ≤ s.cap
theorem setQ_other {L : List Rq} {q : Rq} (h : ∀ x ∈ L, x.n ≠ q.n) : setQ q L = L := by
 unfold setQ
 conv => rhs; rw [← List.map_id L]
 exact List.map_congr_left fun x hx => by rw [if_neg (h x hx)]; rfl
theorem rq_split {L : List Rq} (h : SortedQ L) {q p : Rq} (hp : rq L q.n = some p) : ∃ l1 l2, L = l1 ++ p :: l2 ∧ setQ q L = l1 ++ q :: l2 := by
 induction L with
 | nil => cases hp
 | cons x L ih =>
  unfold SortedQ at h ih
  rw [List.pairwise_cons] at h
  unfold rq at hp
  rw [List.find?_cons] at hp
  cases hx : decide (x.n = q.n) with
  | true =>
   rw [hx] at hp
   injection hp with hp
   subst hp
   have hx' : x.n = q.n := by simpa using hx
   refine ⟨[], L, rfl, ?_⟩
   unfold setQ
   rw [List.map_cons, if_pos hx', List.nil_append]
   congr 1
   exact setQ_other fun y hy => by have := h.1 y hy; omega
  | false =>
   rw [hx] at hp
   have hx' : ¬ x.n = q.n := by simpa using hx
   obtain ⟨l1, l2, e1, e2⟩ := ih h.2 hp
   refine ⟨x :: l1, l2, by rw [e1]; rfl, ?_⟩
   unfold setQ at e2 ⊢
   rw [List.map_cons, if_neg hx', e2]; rfl
theorem many_set {L : List Rq} (hs : SortedQ L) {q p : Rq} (hp : rq L q.n = some p) (h : p.st ≠ 7) : many (setQ q L) ≤ many L := by
 obtain ⟨l1, l2, e1, e2⟩ := rq_split hs hp
 rw [e2]
 conv => rhs; rw [e1]
 unfold many
 rw [List.countP_append, List.countP_append, List.countP_cons, List.countP_cons]
 have : (decide (p.st ≠ 7)) = true := by simpa using h
 rw [this]
 split <;> simp
theorem AI.tell {s : Asr} (h : AI s) (q : Rq) (k : Int) : AI (s.tell q k).1 := by
 obtain ⟨h1, -, h3⟩ := tell_L s q k
 exact ⟨by rw [h1]; exact h.so, by rw [h1, h3]; exact h.cap⟩
theorem AI.take {s : Asr} (h : AI s) (m : Msg) : AI (s.take m).1 := by
 cases hd : dec m.text with
 | none => unfold Asr.take; rw [hd]; exact h
 | some t =>
  obtain ⟨k, a, r, v⟩ := t
  rcases takeA_out s m hd with ⟨e, -⟩ | ⟨-, -, q, p, st, z, hq, hs, hp, -, e⟩
  ·rw [e]; exact h
  ·rw [e]
   refine AI.tell ?_ _ _
   refine ⟨set_sortedQ h.so, ?_⟩
   have hqn : q.n = r := (rq_some hq).2
   have h7 : q.st ≠ 7 := by have := stp_some hs; omega
   have := many_set (q := { q with st := st, l := if k = 5 then v else q.l }) h.so (by dsimp only; rw [hqn]; exact hq) h7
   have := h.cap
   dsimp only
   omega
theorem AI.ask {s : Asr} (h : AI s) (n t : Int) : AI (s.ask n t).1.1 := by
 unfold Asr.ask
 split
 ·exact h
 split
 ·exact h
 split
 ·exact h
 ·rename_i h1 h2 h3
  refine AI.tell ?_ _ _
  have hn : rq s.L n = none := by
   cases hq : rq s.L n with
   | none => rfl
   | some q => rw [hq] at h2; simp at h2
  refine ⟨ins_sortedQ h.so hn, ?_⟩
  have hp : (insQ ⟨n, t, 1, 0⟩ s.L).Perm (⟨n, t, 1, 0⟩ :: s.L) := by
   unfold insQ
   refine List.perm_middle.trans (List.Perm.cons _ ?_)
   rw [List.takeWhile_append_dropWhile]
  have e : many (insQ ⟨n, t, 1, 0⟩ s.L) = many s.L + 1 := by
   unfold many
   rw [hp.countP_eq, List.countP_cons]
   simp
  dsimp only
  rw [e]
  omega
theorem AI.ret {s : Asr} (h : AI s) (n : Int) : AI (s.ret n).1.1 := by
 unfold Asr.ret
 cases hq : rq s.L n with
 | none => exact h
 | some q =>
  dsimp only
  split
  ·exact h
  ·rename_i h4
   refine AI.tell ?_ _ _
   refine ⟨set_sortedQ h.so, ?_⟩
   have := many_set (q := { q with st := 5 }) h.so (by dsimp only; rw [(rq_some hq).2]; exact hq) (by omega)
   have := h.cap
   dsimp only
   omega
theorem tickL_sameP : ∀ (L : List Rq) (s : Asr), (tickL s L).1.L = s.L ∧ (tickL s L).1.id = s.id ∧ (tickL s L).1.cap = s.cap
 | [], s => ⟨rfl, rfl, rfl⟩
 | q :: L, s => by
  obtain ⟨h1, h2, h3⟩ := tickL_sameP L (s.tell q (agn q.st)).1
  obtain ⟨h4, h5, h6⟩ := tell_L s q (agn q.st)
  exact ⟨h1.trans h4, h2.trans h5, h3.trans h6⟩
theorem AI.tick {s : Asr} (h : AI s) : AI s.tick.1 := by
 obtain ⟨h1, -, h3⟩ := tickL_sameP s.L s
 unfold Asr.tick
 exact ⟨by rw [h1]; exact h.so, by rw [h1, h3]; exact h.cap⟩
theorem AI.here {s : Asr} (h : AI s) : (s.here.length : Int) ≤ s.cap := by
 have e : s.here.length = s.L.countP fun q => decide (q.st = 4) := by
  unfold Asr.here
  rw [List.length_mergeSort, List.length_map, List.countP_eq_length_filter]
 have : s.L.countP (fun q => decide (q.st = 4)) ≤ many s.L := by
  unfold many
  refine List.countP_mono_left fun q _ hq => ?_
  have : q.st = 4 := by simpa using hq
  simp [this]
 have := h.cap
 omega
end Go.Proofs.YtdojgbpaheadnaaGreat

/- The consortium, plainly: all that holds, kept by each step. -/
namespace Go.Proofs.YtdojgbpaheadnaaGreat

theorem GI.step1 {s s' : Lb} (h : GI s) (a0 r0 : Int) (ia : ∀ a, IsA a → (s'.as a).id = a) (il : ∀ L, IsL L → (s'.ls L).id = L) (ib : s'.b.id = 0) (ro : s'.b.rota = s.b.rota)
  (hv : ∀ a r, ¬ (a = a0 ∧ r = r0) → s'.view a r = s.view a r) (hd : DI (s'.view a0 r0)) (hl : (s.view a0 r0).le (s'.view a0 r0))
  (hq : ∀ q, (s'.view a0 r0).q = some q → IsA a0 ∧ 1 ≤ r0 ∧ r0 ≤ 6 ∧ 1 ≤ q.t ∧ q.t ≤ 4) (hc : ∀ c, (s'.view a0 r0).c = some c → (∀ X ∈ c.left, IsL X) ∧ c.left.length ≤ 6)
  (hW : ∀ m ∈ s'.W, m ∈ s.W ∨ Vm s' m) : GI s' := (h.step a0 r0 ia il ib ro hv hd hl hq hc hW).1
structure KS (init : Int → List Int) (s : Lb) : Prop where
 gi : GI s
 li : ∀ L, IsL L → LI (init L) (s.ls L)
 ai : ∀ a, IsA a → AI (s.as a)
 c1 : (s.as 1).cap = 4
 c2 : (s.as 2).cap = 3
 so : SortedC s.b.L
section
variable {init : Int → List Int} {s : Lb}
theorem KS.sub (h : KS init s) {W : List Msg} (hW : ∀ m ∈ W, m ∈ s.W) : KS init { s with W := W } := ⟨h.gi.sub hW, h.li, h.ai, h.c1, h.c2, h.so⟩
theorem take_cap (x : Asr) (m : Msg) : (x.take m).1.cap = x.cap := by
 cases hd : dec m.text with
 | none => unfold Asr.take; rw [hd]
 | some t =>
  obtain ⟨k, a, r, v⟩ := t
  rcases takeA_out x m hd with ⟨e, -⟩ | ⟨-, -, q, p, st, z, hq, hs, hp, -, e⟩
  ·rw [e]
  ·rw [e, (tell_L _ _ _).2.2]
theorem KS.takeA (h : KS init s) {a : Int} (ha : IsA a) {m : Msg} (hm : m ∈ s.W) : KS init (s.takeA a m) := by
 refine ⟨(h.gi.takeA ha (h.gi.mv m hm)).1, h.li, fun b hb => ?_, ?_, ?_, h.so⟩
 ·unfold Lb.takeA; dsimp only
  by_cases e : b = a
  ·subst e; rw [upd_self]; exact (h.ai b hb).take m
  ·rw [upd_ne _ _ e]; exact h.ai b hb
 ·unfold Lb.takeA; dsimp only
  by_cases e : 1 = a
  ·subst e; rw [upd_self, take_cap]; exact h.c1
  ·rw [upd_ne _ _ e]; exact h.c1
 ·unfold Lb.takeA; dsimp only
  by_cases e : 2 = a
  ·subst e; rw [upd_self, take_cap]; exact h.c2
  ·rw [upd_ne _ _ e]; exact h.c2
theorem KS.takeL (h : KS init s) {L : Int} (hL : IsL L) {m : Msg} (hm : m ∈ s.W) : KS init (s.takeL L m) := by
 refine ⟨(h.gi.takeL hL (h.gi.mv m hm)).1, fun M hM => ?_, h.ai, h.c1, h.c2, h.so⟩
 unfold Lb.takeL; dsimp only
 by_cases e : M = L
 ·subst e; rw [upd_self]; exact (h.li M hM).take m
 ·rw [upd_ne _ _ e]; exact h.li M hM
theorem KS.takeB (h : KS init s) {m : Msg} (hm : m ∈ s.W) : KS init (s.takeB m) := by
 refine ⟨(h.gi.takeB (h.gi.mv m hm)).1, h.li, h.ai, h.c1, h.c2, ?_⟩
 unfold Lb.takeB; dsimp only
 cases hd : dec m.text with
 | none => unfold Brk.take; rw [hd]; exact h.so
 | some t =>
  obtain ⟨k, a, r, v⟩ := t
  rcases takeB_out s.b m hd with ⟨e, -⟩ | ⟨_, hc, _, _, e⟩ | ⟨c, _, hc, _, _, ho, e⟩ | ⟨c, _, hc, _, ho, hh, e⟩ | ⟨c, _, hc, _, ho, hh, e⟩
  ·rw [e]; exact h.so
  ·rw [e]; exact ins_sortedC h.so hc
  ·rw [e]; exact h.so
  ·rw [e]; exact set_sortedC h.so
  ·rw [e]; exact set_sortedC h.so
theorem view_sameA {a : Int} {x : Asr} (hx : x.L = (s.as a).L) (W : List Msg) (a' r' : Int) : ({ s with as := upd s.as a x, W := W } : Lb).view a' r' = s.view a' r' := by
 unfold Lb.view; dsimp only
 by_cases e : a' = a
 ·subst e; rw [upd_self, hx]
 ·rw [upd_ne _ _ e]
theorem tickL_msg : ∀ (L : List Rq) (x : Asr) (m : Msg), m ∈ (tickL x L).2 → ∃ q ∈ L, ∃ n : Int, agn q.st ≠ 0 ∧ m = (if agn q.st = 1 then mesg x.id n 0 1 x.id q.n q.t else mesg x.id n q.l (agn q.st) x.id q.n 0)
 | [], x, m, h => by cases h
 | q :: L, x, m, h => by
  unfold tickL at h
  rcases List.mem_append.1 h with h | h
  ·obtain ⟨h1, h2⟩ := tell_msg h
   exact ⟨q, by simp, x.sent, h1, h2⟩
  ·obtain ⟨p, hp, n, h1, h2⟩ := tickL_msg L _ m h
   obtain ⟨-, h5, -⟩ := tell_L x q (agn q.st)
   rw [h5] at h2
   exact ⟨p, by simp [hp], n, h1, h2⟩
theorem agn_some {st : Int} (h : agn st ≠ 0) : (st = 1 ∧ agn st = 1) ∨ (st = 2 ∧ agn st = 7) ∨ (st = 3 ∧ agn st = 9) ∨ (st = 5 ∧ agn st = 11) := by
 unfold agn at *
 split
 ·rename_i e; simp [e]
 split
 ·rename_i e; simp [e]
 split
 ·rename_i e; simp [e]
 split
 ·rename_i e; simp [e]
 ·simp_all
theorem agn_vm (h : KS init s) {a : Int} (ha : IsA a) {q : Rq} (hq : q ∈ (s.as a).L) {n : Int} (hz : agn q.st ≠ 0) : Vm s (if agn q.st = 1 then mesg a n 0 1 a q.n q.t else mesg a n q.l (agn q.st) a q.n 0) := by
 have hv : (s.view a q.n).q = some q := by unfold Lb.view; dsimp only; rw [if_pos ha]; exact rq_mem (h.ai a ha).so hq
 have hr := h.gi.rg a q.n q hv
 rcases agn_some hz with ⟨e1, e2⟩ | ⟨e1, e2⟩ | ⟨e1, e2⟩ | ⟨e1, e2⟩
 ·rw [if_pos e2]
  exact ⟨1, a, q.n, q.t, dec_txt (i64_small (by omega)) ha.i64 (i64_small (by omega)) (i64_small (by omega)), MV.of1 ⟨rfl, rfl, q, hv, rfl⟩⟩
 ·rw [if_neg (by omega), e2]
  exact ⟨7, a, q.n, 0, dec_txt (i64_small (by omega)) ha.i64 (i64_small (by omega)) (i64_small (by omega)), MV.of7 ⟨rfl, q, hv, rfl, by omega, by omega⟩⟩
 ·rw [if_neg (by omega), e2]
  exact ⟨9, a, q.n, 0, dec_txt (i64_small (by omega)) ha.i64 (i64_small (by omega)) (i64_small (by omega)), MV.of9 ⟨rfl, q, hv, rfl, by omega, by omega⟩⟩
 ·rw [if_neg (by omega), e2]
  exact ⟨11, a, q.n, 0, dec_txt (i64_small (by omega)) ha.i64 (i64_small (by omega)) (i64_small (by omega)), MV.of11 ⟨rfl, q, hv, rfl, by omega, by omega⟩⟩
def Lb.tickA (s : Lb) (a : Int) : Lb := { s with as := upd s.as a (s.as a).tick.1, W := s.W ++ (s.as a).tick.2 }
theorem KS.tickA (h : KS init s) {a : Int} (ha : IsA a) : KS init (s.tickA a) := by
 obtain ⟨t1, t2, t3⟩ := tickL_sameP (s.as a).L (s.as a)
 have V : ∀ W a' r', ({ s with as := upd s.as a (s.as a).tick.1, W := W } : Lb).view a' r' = s.view a' r' := fun W a' r' => view_sameA t1 W a' r'
 have hg : GI { s with as := upd s.as a (s.as a).tick.1 } := by
  refine ⟨fun b hb => ?_, h.gi.il, h.gi.ib, fun a' r' => by rw [V]; exact h.gi.di a' r', fun x hx => (h.gi.mv x hx).mono fun a' r' => by rw [V]; exact Dv.le.refl _, fun a' r' q hq => by rw [V] at hq; exact h.gi.rg a' r' q hq, h.gi.ro, h.gi.rl, fun a' r' c hc => by rw [V] at hc; exact h.gi.lf a' r' c hc⟩
  dsimp only
  by_cases e : b = a
  ·subst e; rw [upd_self]; exact t2.trans (h.gi.ia b hb)
  ·rw [upd_ne _ _ e]; exact h.gi.ia b hb
 unfold Lb.tickA
 refine ⟨hg.more fun m hm => ?_, h.li, fun b hb => ?_, ?_, ?_, h.so⟩
 ·rcases List.mem_append.1 hm with hm | hm
  ·exact .inl hm
  ·obtain ⟨q, hq, n, hz, e⟩ := tickL_msg _ _ _ hm
   rw [h.gi.ia a ha] at e
   rw [e]
   exact .inr ((agn_vm h ha hq hz).mono fun a' r' => by rw [V]; exact Dv.le.refl _)
 ·dsimp only
  by_cases e : b = a
  ·subst e; rw [upd_self]; exact (h.ai b hb).tick
  ·rw [upd_ne _ _ e]; exact h.ai b hb
 ·dsimp only
  by_cases e : 1 = a
  ·subst e; rw [upd_self]; exact t3.trans h.c1
  ·rw [upd_ne _ _ e]; exact h.c1
 ·dsimp only
  by_cases e : 2 = a
  ·subst e; rw [upd_self]; exact t3.trans h.c2
  ·rw [upd_ne _ _ e]; exact h.c2
theorem tickB_sameP : ∀ (L : List Cs) (b : Brk), (tickB b L).1.L = b.L ∧ (tickB b L).1.id = b.id ∧ (tickB b L).1.rota = b.rota
 | [], b => ⟨rfl, rfl, rfl⟩
 | c :: L, b => by
  unfold tickB
  split
  ·exact tickB_sameP L (b.tell c).1
  ·exact tickB_sameP L b
theorem tickB_msg : ∀ (L : List Cs) (b : Brk) (m : Msg), m ∈ (tickB b L).2 → ∃ c ∈ L, c.opn = true ∧ ∃ b' : Brk, b'.id = b.id ∧ m ∈ (b'.tell c).2
 | [], b, m, h => by cases h
 | c :: L, b, m, h => by
  unfold tickB at h
  split at h
  ·rename_i ho
   rcases List.mem_append.1 h with h | h
   ·exact ⟨c, by simp, ho, b, rfl, h⟩
   ·obtain ⟨d, hd, h1, b', h2, h3⟩ := tickB_msg L _ m h
    exact ⟨d, by simp [hd], h1, b', h2, h3⟩
  ·obtain ⟨d, hd, h1, b', h2, h3⟩ := tickB_msg L _ m h
   exact ⟨d, by simp [hd], h1, b', h2, h3⟩
def Lb.tickB (s : Lb) : Lb := { s with b := s.b.tick.1, W := s.W ++ s.b.tick.2 }
theorem KS.tickB (h : KS init s) : KS init s.tickB := by
 obtain ⟨t1, t2, t3⟩ := tickB_sameP s.b.L s.b
 have V : ∀ W a' r', ({ s with b := s.b.tick.1, W := W } : Lb).view a' r' = s.view a' r' := fun W a' r' => by
  unfold Lb.view Brk.tick; dsimp only; rw [t1]
 have hg : GI { s with b := s.b.tick.1 } := ⟨h.gi.ia, h.gi.il, t2.trans h.gi.ib, fun a' r' => by rw [V]; exact h.gi.di a' r', fun x hx => (h.gi.mv x hx).mono fun a' r' => by rw [V]; exact Dv.le.refl _, fun a' r' q hq => by rw [V] at hq; exact h.gi.rg a' r' q hq, by
  show ∀ X ∈ s.b.tick.1.rota, IsL X
  unfold Brk.tick; rw [t3]; exact h.gi.ro, by show s.b.tick.1.rota.length ≤ 6; unfold Brk.tick; rw [t3]; exact h.gi.rl, fun a' r' c hc => by rw [V] at hc; exact h.gi.lf a' r' c hc⟩
 unfold Lb.tickB
 refine ⟨hg.more fun m hm => ?_, h.li, h.ai, h.c1, h.c2, by show SortedC s.b.tick.1.L; unfold Brk.tick; rw [t1]; exact h.so⟩
 rcases List.mem_append.1 hm with hm | hm
 ·exact .inl hm
 ·obtain ⟨c, hc, ho, b', hb', hm⟩ := tickB_msg _ _ _ hm
  have hvc : (s.view c.a c.r).c = some c := cs_mem h.so hc
  obtain ⟨q, hq, hqt⟩ := (h.gi.di c.a c.r).c_q c hvc
  have hr := h.gi.rg c.a c.r q hq
  exact .inr (tellB_vm (s := s) (hb'.trans h.gi.ib) hm (by rw [V]; exact hvc) hr.1 (i64_small (by omega)) (by rw [← hqt]; exact i64_small (by omega)) (h.gi.lf c.a c.r c hvc).1)
def Lb.ask (s : Lb) (a n t : Int) : Lb := { s with as := upd s.as a ((s.as a).ask n t).1.1, W := s.W ++ ((s.as a).ask n t).1.2 }
theorem ask_out (x : Asr) (n t : Int) : ((x.ask n t).1 = (x, [])) ∨ (rq x.L n = none ∧ (x.ask n t).1 = ({ x with L := insQ ⟨n, t, 1, 0⟩ x.L } : Asr).tell ⟨n, t, 1, 0⟩ 1) := by
 unfold Asr.ask
 split
 ·exact .inl rfl
 split
 ·exact .inl rfl
 split
 ·exact .inl rfl
 ·rename_i h1 h2 h3
  refine .inr ⟨?_, rfl⟩
  cases hq : rq x.L n with
  | none => rfl
  | some q => rw [hq] at h2; simp at h2
theorem ask_cap (x : Asr) (n t : Int) : (x.ask n t).1.1.cap = x.cap := by
 rcases ask_out x n t with e | ⟨-, e⟩
 ·rw [e]
 ·rw [e, (tell_L _ _ _).2.2]
theorem KS.ask (h : KS init s) {a : Int} (ha : IsA a) {n t : Int} (hn : 1 ≤ n ∧ n ≤ 6) (ht : 1 ≤ t ∧ t ≤ 4) : KS init (s.ask a n t) := by
 have hg : GI (s.ask a n t) := by
  unfold Lb.ask
  rcases ask_out (s.as a) n t with e | ⟨hq, e⟩
  ·rw [e]
   have e2 : upd s.as a (s.as a) = s.as := funext fun j => by unfold upd; split <;> simp_all
   dsimp only
   rw [e2, List.append_nil]
   exact h.gi
  ·rw [e]
   obtain ⟨q, hqd⟩ : ∃ q : Rq, q = ⟨n, t, 1, 0⟩ := ⟨_, rfl⟩
   have q1 : q.n = n := by rw [hqd]
   have q2 : q.st = 1 := by rw [hqd]
   have q3 : q.t = t := by rw [hqd]
   rw [← hqd]
   have hvq : (s.view a n).q = none := by unfold Lb.view; dsimp only; rw [if_pos ha]; exact hq
   have hR := (h.gi.di a n).asked hvq q2
   obtain ⟨t1, t2, -⟩ := tell_L ({ s.as a with L := insQ q (s.as a).L } : Asr) q 1
   have V1 : ∀ W a' r', ¬ (a' = a ∧ r' = n) → ({ s with as := upd s.as a (({ s.as a with L := insQ q (s.as a).L } : Asr).tell q 1).1, W := W } : Lb).view a' r' = s.view a' r' := fun W a' r' hne => by
    unfold Lb.view; dsimp only
    by_cases e : a' = a
    ·subst e
     have e3 : rq (insQ q (s.as a').L) r' = rq (s.as a').L r' := by rw [rq_ins (by rw [q1]; exact hq)]; exact if_neg (fun e4 => hne ⟨rfl, e4.trans q1⟩)
     rw [upd_self, t1]
     dsimp only
     rw [e3]
    ·rw [upd_ne _ _ e]
   have V2 : ∀ W, ({ s with as := upd s.as a (({ s.as a with L := insQ q (s.as a).L } : Asr).tell q 1).1, W := W } : Lb).view a n = { s.view a n with q := some q } := fun W => by
    unfold Lb.view; dsimp only
    have e3 : rq (insQ q (s.as a).L) n = some q := by rw [rq_ins (by rw [q1]; exact hq)]; exact if_pos q1.symm
    rw [if_pos ha, upd_self, t1]
    dsimp only
    rw [e3]
   refine h.gi.step1 a n (fun b hb => ?_) h.gi.il h.gi.ib rfl (V1 _) (by rw [V2]; exact hR.1) (by rw [V2]; exact hR.2) (fun x hx => ?_) (fun c hc => ?_) fun x hx => ?_
   ·dsimp only
    by_cases e : b = a
    ·subst e; rw [upd_self, t2]; exact h.gi.ia b hb
    ·rw [upd_ne _ _ e]; exact h.gi.ia b hb
   ·rw [V2] at hx; injection hx with hx; subst hx
    exact ⟨ha, hn.1, hn.2, by rw [q3]; exact ht⟩
   ·rw [V2] at hc; exact h.gi.lf a n c hc
   ·rcases List.mem_append.1 hx with hx | hx
    ·exact .inl hx
    ·obtain ⟨-, hx⟩ := tell_msg hx
     rw [if_pos rfl] at hx
     dsimp only at hx
     rw [h.gi.ia a ha, q1, q3] at hx
     refine .inr ⟨1, a, n, t, by rw [hx]; exact dec_txt (i64_small (by omega)) ha.i64 (i64_small (by omega)) (i64_small (by omega)), ?_⟩
     rw [V2, hx]
     exact MV.of1 ⟨rfl, rfl, q, rfl, q3⟩
 refine ⟨hg, h.li, fun b hb => ?_, ?_, ?_, h.so⟩
 ·unfold Lb.ask; dsimp only
  by_cases e : b = a
  ·subst e; rw [upd_self]; exact (h.ai b hb).ask n t
  ·rw [upd_ne _ _ e]; exact h.ai b hb
 ·unfold Lb.ask; dsimp only
  by_cases e : 1 = a
  ·subst e; rw [upd_self, ask_cap]; exact h.c1
  ·rw [upd_ne _ _ e]; exact h.c1
 ·unfold Lb.ask; dsimp only
  by_cases e : 2 = a
  ·subst e; rw [upd_self, ask_cap]; exact h.c2
  ·rw [upd_ne _ _ e]; exact h.c2
def Lb.ret (s : Lb) (a n : Int) : Lb := { s with as := upd s.as a ((s.as a).ret n).1.1, W := s.W ++ ((s.as a).ret n).1.2 }
theorem ret_out (x : Asr) (n : Int) : ((x.ret n).1 = (x, []) ∧ ∀ q, rq x.L n = some q → q.st ≠ 4) ∨ (∃ q, rq x.L n = some q ∧ q.st = 4 ∧ (x.ret n).1 = ({ x with L := setQ { q with st := 5 } x.L } : Asr).tell { q with st := 5 } 11) := by
 unfold Asr.ret
 cases hq : rq x.L n with
 | none => exact .inl ⟨rfl, (fun q h => by cases h)⟩
 | some q =>
  dsimp only
  split
  ·rename_i h
   refine .inl ⟨rfl, fun q' e => ?_⟩
   injection e with e; subst e; exact h
  ·exact .inr ⟨q, rfl, by omega, rfl⟩
theorem ret_cap (x : Asr) (n : Int) : (x.ret n).1.1.cap = x.cap := by
 rcases ret_out x n with ⟨e, -⟩ | ⟨q, -, -, e⟩
 ·rw [e]
 ·rw [e, (tell_L _ _ _).2.2]
theorem KS.ret (h : KS init s) {a : Int} (ha : IsA a) (n : Int) : KS init (s.ret a n) := by
 have hg : GI (s.ret a n) := by
  unfold Lb.ret
  rcases ret_out (s.as a) n with ⟨e, -⟩ | ⟨q, hq, h4, e⟩
  ·rw [e]
   have e2 : upd s.as a (s.as a) = s.as := funext fun j => by unfold upd; split <;> simp_all
   dsimp only
   rw [e2, List.append_nil]
   exact h.gi
  ·rw [e]
   have hqn : q.n = n := (rq_some hq).2
   obtain ⟨q', hqd⟩ : ∃ q' : Rq, q' = { q with st := 5 } := ⟨_, rfl⟩
   have q1 : q'.n = n := by rw [hqd]; exact hqn
   have q2 : q'.l = q.l := by rw [hqd]
   have hvq : (s.view a n).q = some q := by unfold Lb.view; dsimp only; rw [if_pos ha]; exact hq
   have hr := h.gi.rg a n q hvq
   have hR := (h.gi.di a n).ret hvq h4 a
   rw [← hqd] at hR ⊢
   obtain ⟨t1, t2, -⟩ := tell_L ({ s.as a with L := setQ q' (s.as a).L } : Asr) q' 11
   have V := view_setA (s := s) ha (({ s.as a with L := setQ q' (s.as a).L } : Asr).tell q' 11).1 (s.W ++ (({ s.as a with L := setQ q' (s.as a).L } : Asr).tell q' 11).2) (q := q') (p := q) (by rw [q1]; exact hq) t1
   rw [q1] at V
   refine h.gi.step1 a n (fun b hb => ?_) h.gi.il h.gi.ib rfl V.1 (by rw [V.2]; exact hR.1) (by rw [V.2]; exact hR.2.1) (fun x hx => ?_) (fun c hc => ?_) fun x hx => ?_
   ·dsimp only
    by_cases e : b = a
    ·subst e; rw [upd_self, t2]; exact h.gi.ia b hb
    ·rw [upd_ne _ _ e]; exact h.gi.ia b hb
   ·rw [V.2] at hx; injection hx with hx; subst hx
    exact ⟨ha, hr.2.1, hr.2.2.1, by rw [hqd]; exact hr.2.2.2⟩
   ·rw [V.2] at hc; exact h.gi.lf a n c hc
   ·rcases List.mem_append.1 hx with hx | hx
    ·exact .inl hx
    ·obtain ⟨-, hx⟩ := tell_msg hx
     rw [if_neg (by omega)] at hx
     dsimp only at hx
     rw [h.gi.ia a ha, q1, q2] at hx
     refine .inr ⟨11, a, n, 0, by rw [hx]; exact dec_txt (i64_small (by omega)) ha.i64 (i64_small (by omega)) (i64_small (by omega)), ?_⟩
     rw [V.2, hx]
     exact hR.2.2
 refine ⟨hg, h.li, fun b hb => ?_, ?_, ?_, h.so⟩
 ·unfold Lb.ret; dsimp only
  by_cases e : b = a
  ·subst e; rw [upd_self]; exact (h.ai b hb).ret n
  ·rw [upd_ne _ _ e]; exact h.ai b hb
 ·unfold Lb.ret; dsimp only
  by_cases e : 1 = a
  ·subst e; rw [upd_self, ret_cap]; exact h.c1
  ·rw [upd_ne _ _ e]; exact h.c1
 ·unfold Lb.ret; dsimp only
  by_cases e : 2 = a
  ·subst e; rw [upd_self, ret_cap]; exact h.c2
  ·rw [upd_ne _ _ e]; exact h.c2
end
end Go.Proofs.YtdojgbpaheadnaaGreat

/- The consortium, plainly: no copy at two places. -/
namespace Go.Proofs.YtdojgbpaheadnaaGreat

theorem nodup_le {α : Type} [DecidableEq α] : ∀ {l m : List α}, l.Nodup → (∀ x ∈ l, x ∈ m) → l.length ≤ m.length
 | [], m, _, _ => Nat.zero_le _
 | x :: l, m, h, hs => by
  rw [List.nodup_cons] at h
  have hx : x ∈ m := hs x (by simp)
  have h1 : (m.erase x).length + 1 = m.length := by
   have := List.length_erase_of_mem hx
   have := List.length_pos_of_mem hx
   omega
  have h2 := nodup_le (l := l) (m := m.erase x) h.2 fun y hy => by
   have hne : y ≠ x := fun e => h.1 (by rw [← e]; exact hy)
   exact (List.mem_erase_of_ne hne).2 (hs y (by simp [hy]))
  rw [List.length_cons]; omega
def recv (x : Asr) (P : Int → Bool) : List Rq := x.L.filter fun q => decide (q.st = 4) && P q.t
def outP' (x : Len) (P : Int → Bool) : List Deal := x.L.filter fun d => isOut d && P d.t
theorem here_count (x : Asr) (P : Int → Bool) : x.here.countP P = (recv x P).length := by
 unfold Asr.here recv
 rw [(List.mergeSort_perm _ _).countP_eq, List.countP_map, List.countP_filter, List.countP_eq_length_filter]
 congr 1
 refine List.filter_congr fun q _ => ?_
 simp [Bool.and_comm]
theorem outs_count (L : List Deal) (P : Int → Bool) : (outs L).countP P = (L.filter fun d => isOut d && P d.t).length := by
 unfold outs
 rw [List.countP_map, List.countP_filter, List.countP_eq_length_filter]
 congr 1
 refine List.filter_congr fun q _ => ?_
 simp [Bool.and_comm]
def anyCount (s : Lb) (P : Int → Bool) : Nat := (s.ls 3).here.countP P + (s.ls 4).here.countP P + (s.ls 1).here.countP P + (s.as 1).here.countP P + (s.as 2).here.countP P
theorem KS.count {init : Int → List Int} {s : Lb} (h : KS init s) (P : Int → Bool) : anyCount s P ≤ (init 3).countP P + (init 4).countP P + (init 1).countP P := by
 have hl : ∀ L, IsL L → (s.ls L).here.countP P + (outP' (s.ls L) P).length = (init L).countP P := fun L hL => by
  have := (h.li L hL).cons.countP_eq P
  rw [List.countP_append, outs_count] at this
  exact this
 have h3 := hl 3 (.inl rfl)
 have h4 := hl 4 (.inr (.inl rfl))
 have h1 := hl 1 (.inr (.inr rfl))
 have key : (recv (s.as 1) P).length + (recv (s.as 2) P).length ≤ (outP' (s.ls 3) P).length + (outP' (s.ls 4) P).length + (outP' (s.ls 1) P).length := by
  have hn : ∀ a, IsA a → ((recv (s.as a) P).map fun q => (a, q.n)).Nodup := fun a ha => by
   unfold recv
   rw [List.nodup_iff_pairwise_ne, List.pairwise_map]
   refine ((h.ai a ha).so.sublist List.filter_sublist).imp fun {x y} hxy e => ?_
   injection e with _ e
   omega
  have hs : ∀ a, IsA a → ∀ x ∈ (recv (s.as a) P).map fun q => (a, q.n), x ∈ ((outP' (s.ls 3) P).map fun d => (d.a, d.r)) ++ ((outP' (s.ls 4) P).map fun d => (d.a, d.r)) ++ ((outP' (s.ls 1) P).map fun d => (d.a, d.r)) := fun a ha x hx => by
   obtain ⟨q, hq, rfl⟩ := List.mem_map.1 hx
   unfold recv at hq
   obtain ⟨hq, hp⟩ := List.mem_filter.1 hq
   simp only [Bool.and_eq_true, decide_eq_true_eq] at hp
   have hv : (s.view a q.n).q = some q := by unfold Lb.view; dsimp only; rw [if_pos ha]; exact rq_mem (h.ai a ha).so hq
   have hD := h.gi.di a q.n
   obtain ⟨e, he, ho⟩ := hD.lend hv (by omega) (by omega)
   obtain ⟨⟨c, hc, hct⟩, -, -⟩ := hD.d_c _ _ he
   obtain ⟨q', hq', hqt⟩ := hD.c_q c hc
   rw [hv] at hq'; injection hq' with hq'; subst hq'
   have hst : e.st = 4 := by unfold OKs at ho; omega
   have hf : ∀ L, IsL L → (s.view a q.n).d L = some e → (a, q.n) ∈ (outP' (s.ls L) P).map fun d => (d.a, d.r) := fun L hL hd => by
    unfold Lb.view at hd; dsimp only at hd; rw [if_pos hL] at hd
    have hm := at_some hd
    refine List.mem_map.2 ⟨e, List.mem_filter.2 ⟨hm.1, ?_⟩, by rw [hm.2.1, hm.2.2]⟩
    have : isOut e = true := by unfold isOut; simp [hst]
    rw [this, Bool.true_and, hct, ← hqt]; exact hp.2
   by_cases hL : IsL q.l
   ·have := hf q.l hL he
    rcases hL with e1 | e1 | e1
    ·rw [e1] at this; exact List.mem_append_left _ (List.mem_append_left _ this)
    ·rw [e1] at this; exact List.mem_append_left _ (List.mem_append_right _ this)
    ·rw [e1] at this; exact List.mem_append_right _ this
   ·unfold Lb.view at he; dsimp only at he; rw [if_neg hL] at he; cases he
  have := nodup_le (l := ((recv (s.as 1) P).map fun q => ((1 : Int), q.n)) ++ ((recv (s.as 2) P).map fun q => ((2 : Int), q.n))) (m := ((outP' (s.ls 3) P).map fun d => (d.a, d.r)) ++ ((outP' (s.ls 4) P).map fun d => (d.a, d.r)) ++ ((outP' (s.ls 1) P).map fun d => (d.a, d.r))) (by
   rw [List.nodup_append]
   refine ⟨hn 1 (.inl rfl), hn 2 (.inr rfl), fun x hx y hy e => ?_⟩
   obtain ⟨q, -, rfl⟩ := List.mem_map.1 hx
   obtain ⟨p, -, rfl⟩ := List.mem_map.1 hy
   injection e with e _
   omega) (fun x hx => by
   rcases List.mem_append.1 hx with hx | hx
   ·exact hs 1 (.inl rfl) x hx
   ·exact hs 2 (.inr rfl) x hx)
  simp only [List.length_append, List.length_map] at this
  omega
 unfold anyCount
 rw [here_count, here_count]
 omega
end Go.Proofs.YtdojgbpaheadnaaGreat

/- A message is delivered, plainly. -/
namespace Go.Proofs.YtdojgbpaheadnaaGreat

noncomputable def Lb.del (s : Lb) (m : Msg) : Lb := if m.to = 0 then s.takeB m else if m.to = 1 then (s.takeA 1 m).takeL 1 m else if m.to = 2 then s.takeA 2 m else if m.to = 3 then s.takeL 3 m else if m.to = 4 then s.takeL 4 m else s
noncomputable def Lb.delMs (s : Lb) (m : Msg) : List Msg := if m.to = 0 then (s.b.take m).2 else if m.to = 1 then ((s.as 1).take m).2 ++ ((s.ls 1).take m).2 else if m.to = 2 then ((s.as 2).take m).2 else if m.to = 3 then ((s.ls 3).take m).2 else if m.to = 4 then ((s.ls 4).take m).2 else []
end Go.Proofs.YtdojgbpaheadnaaGreat

/- The consortium at its start, plainly. -/
namespace Go.Proofs.YtdojgbpaheadnaaGreat

def Lb.start (r h3 h4 h1 : List Int) : Lb where
 as := fun a => if a = 1 then ⟨1, 4, 0, []⟩ else ⟨2, 3, 0, []⟩
 b := ⟨0, 0, r, []⟩
 ls := fun L => if L = 3 then ⟨3, 0, h3, []⟩ else if L = 4 then ⟨4, 0, h4, []⟩ else ⟨1, 0, h1, []⟩
 W := []
def Lb.init (s : Lb) (L : Int) : List Int := (s.ls L).here
theorem start_view {r h3 h4 h1 : List Int} (a n : Int) : (Lb.start r h3 h4 h1).view a n = ⟨none, none, fun _ => none⟩ := by
 unfold Lb.view Lb.start
 dsimp only
 congr 1
 ·split
  ·split <;> rfl
  ·rfl
 ·funext L
  split
  ·split
   ·rfl
   ·split <;> rfl
  ·rfl
theorem sortedI_merge (D : List Int) : SortedI (D.mergeSort fun x y => decide (x ≤ y)) := by
 have := List.pairwise_mergeSort (le := fun x y : Int => decide (x ≤ y)) (fun a b c h1 h2 => by simp only [decide_eq_true_eq] at *; omega) (fun a b => by simp only [Bool.or_eq_true, decide_eq_true_eq]; omega) D
 exact this.imp fun h => by simpa using h
theorem KS.start {r h3 h4 h1 : List Int} (hr : ∀ X ∈ r, IsL X) (hl : r.length ≤ 6) (s3 : SortedI h3) (s4 : SortedI h4) (s1 : SortedI h1) : KS (Lb.start r h3 h4 h1).init (Lb.start r h3 h4 h1) := by
 refine ⟨⟨?_, ?_, rfl, fun a n => by rw [start_view]; exact DI.empty, fun m hm => (by cases hm), fun a n q h => (by rw [start_view] at h; cases h), hr, hl, fun a n c h => (by rw [start_view] at h; cases h)⟩, ?_, ?_, rfl, rfl, ?_⟩
 ·rintro a (rfl | rfl) <;> rfl
 ·rintro L (rfl | rfl | rfl) <;> rfl
 ·rintro L (rfl | rfl | rfl)
  ·exact ⟨List.Pairwise.nil, by show (h3 ++ []).Perm h3; rw [List.append_nil], s3⟩
  ·exact ⟨List.Pairwise.nil, by show (h4 ++ []).Perm h4; rw [List.append_nil], s4⟩
  ·exact ⟨List.Pairwise.nil, by show (h1 ++ []).Perm h1; rw [List.append_nil], s1⟩
 ·rintro a (rfl | rfl)
  ·exact ⟨List.Pairwise.nil, by show ((0 : Nat) : Int) ≤ 4; omega⟩
  ·exact ⟨List.Pairwise.nil, by show ((0 : Nat) : Int) ≤ 3; omega⟩
 ·exact List.Pairwise.nil
theorem start_here {r h3 h4 h1 : List Int} (a : Int) : ((Lb.start r h3 h4 h1).as a).here = [] := by
 have : ((Lb.start r h3 h4 h1).as a).L = [] := by
  unfold Lb.start
  dsimp only
  split <;> rfl
 unfold Asr.here
 rw [this]
 simp
end Go.Proofs.YtdojgbpaheadnaaGreat
