/- Liveness, plainly: ticks, deliveries, returns, over a net without troubles. -/
import Derived.Test.YtdojgbpaheadnaaGreatQUD
import Derived.Test.YtdojgbpaheadnaaGreatQPM
import Derived.Test.YtdojgbpaheadnaaGreatQUE
set_option linter.unusedVariables false
set_option linter.unusedSimpArgs false

namespace Go.Proofs.YtdojgbpaheadnaaGreat

def rep (n : Nat) (ms : List Msg) : List Msg := ms.flatMap fun x => List.replicate n x
theorem rep_mem {n : Nat} (hn : 1 ≤ n) {ms : List Msg} {x : Msg} : x ∈ rep n ms ↔ x ∈ ms := by
 unfold rep
 rw [List.mem_flatMap]
 constructor
 ·rintro ⟨y, h1, h2⟩; rw [(List.mem_replicate.1 h2).2]; exact h1
 ·intro h; exact ⟨x, h, List.mem_replicate.2 ⟨by omega, rfl⟩⟩
theorem qcost_rep (c n : Nat) (ms : List Msg) : qcost c (rep n ms) = n * qcost c ms := by
 have hr : ∀ (k : Nat) (x : Msg), qcost c (List.replicate k x) = k * mcost c x := fun k x => by
  induction k with
  | zero => simp [qcost]
  | succ k ih => rw [List.replicate_succ, ← List.singleton_append, qcost_app, qcost_one, ih, Nat.add_mul]; omega
 induction ms with
 | nil => simp [rep, qcost]
 | cons x ms ih =>
  have : rep n (x :: ms) = List.replicate n x ++ rep n ms := by unfold rep; rw [List.flatMap_cons]
  rw [this, qcost_app, ih, hr, ← List.singleton_append, qcost_app, qcost_one, Nat.mul_add]
def Cl (S : List Tr) (n : Nat) : Prop := ∀ k u, 0 ≤ u → u < 5 → copiesP 5 (trP S k) u = n
theorem Cl.one : Cl [] 1 := by
 intro k u h1 h2
 rw [trP_nil]
 unfold copiesP
 rw [if_neg (by simp; omega)]; rfl
theorem Cl.two (d : Int) : Cl [(false, 2, d)] 2 := by
 intro k u h1 h2
 have : trP [(false, 2, d)] k = (false, 2, d) := by rw [trP_at (by simp [Nat.mod_one])]; simp [Nat.mod_one]
 rw [this]
 unfold copiesP
 rw [if_neg (by simp; omega)]; rfl
theorem SentL.clean {S : List Tr} {n : Nat} (hS : Cl S n) : ∀ {ms : List Msg} {k : Nat} {P P' : List Pc}, SentL 5 S k ms P P' → (∀ x ∈ ms, 0 ≤ x.to ∧ x.to < 5) → (P'.map Pc.m).Perm (P.map Pc.m ++ rep n ms)
 | [], k, P, P', h, _ => by
  obtain rfl : P' = P := h
  simp [rep]
 | x :: ms, k, P, P', ⟨P1, ⟨new, h1, h2, h3⟩, h4⟩, ht => by
  have ih := SentL.clean hS h4 fun y hy => ht y (List.mem_cons_of_mem _ hy)
  have hx := ht x (by simp)
  rw [hS k x.to hx.1 hx.2] at h1
  have hnew : new.map Pc.m = List.replicate n x := List.eq_replicate_iff.2 ⟨by rw [List.length_map, h1], fun y hy => by obtain ⟨p, hp, rfl⟩ := List.mem_map.1 hy; exact h2 p hp⟩
  have h5 := h3.map Pc.m
  rw [List.map_append, hnew] at h5
  have : rep n (x :: ms) = List.replicate n x ++ rep n ms := by unfold rep; rw [List.flatMap_cons]
  rw [this, ← List.append_assoc]
  exact ih.trans (h5.append_right _)
theorem Tk.sub {P Q : List Msg} (h : ∀ x ∈ P, x ∈ Q) {a r k f t : Int} (ht : Tk P a r k f t) : Tk Q a r k f t := by
 obtain ⟨m, h1, h2⟩ := ht; exact ⟨m, h m h1, h2⟩
theorem JS.sub {s : Lb} {P Q : List Msg} (h : JS s P) (hp : ∀ x ∈ P, x ∈ Q) : JS s Q := fun a r => (h a r).mono fun _ _ _ => Tk.sub hp
section
variable {init : Int → List Int} {s : Lb} {S : List Tr} {n : Nat}
theorem tickA_view (s : Lb) (a : Int) (a' r' : Int) : (s.tickA a).view a' r' = s.view a' r' := view_sameA (tickL_sameP (s.as a).L (s.as a)).1 _ a' r'
theorem tickB_view (s : Lb) (a' r' : Int) : s.tickB.view a' r' = s.view a' r' := by
 have := (tickB_sameP s.b.L s.b).1
 unfold Lb.view Lb.tickB Brk.tick
 dsimp only
 rw [this]
theorem tickM_view (s : Lb) (a r : Int) : s.tickM.view a r = s.view a r := by
 unfold Lb.tickM
 rw [tickB_view, tickA_view, tickA_view]
theorem tickL_has : ∀ (L : List Rq) (x : Asr) {q : Rq}, q ∈ L → agn q.st ≠ 0 → ∃ n : Int, (if agn q.st = 1 then mesg x.id n 0 1 x.id q.n q.t else mesg x.id n q.l (agn q.st) x.id q.n 0) ∈ (tickL x L).2
 | y :: L, x, q, hq, h => by
  unfold tickL
  rcases List.mem_cons.1 hq with rfl | hq
  ·refine ⟨x.sent, List.mem_append.2 (.inl ?_)⟩
   unfold Asr.tell
   rw [if_neg h]
   exact List.mem_singleton.2 rfl
  ·obtain ⟨n, hn⟩ := tickL_has L (x.tell y (agn y.st)).1 hq h
   rw [(tell_L x y _).2.1] at hn
   exact ⟨n, List.mem_append.2 (.inr hn)⟩
theorem tickB_has : ∀ (L : List Cs) (b : Brk) {c : Cs}, c ∈ L → c.opn = true → ∃ b' : Brk, b'.id = b.id ∧ ∀ x ∈ (b'.tell c).2, x ∈ (tickB b L).2
 | y :: L, b, c, hc, h => by
  unfold tickB
  rcases List.mem_cons.1 hc with rfl | hc
  ·rw [if_pos h]
   exact ⟨b, rfl, fun x hx => List.mem_append.2 (.inl hx)⟩
  ·by_cases hy : y.opn = true
   ·rw [if_pos hy]
    obtain ⟨b', h1, h2⟩ := tickB_has L (b.tell y).1 hc h
    exact ⟨b', h1, fun x hx => List.mem_append.2 (.inr (h2 x hx))⟩
   ·rw [if_neg hy]
    exact tickB_has L b hc h
theorem JS.tick (h : KS init s) : JS s.tickM s.tickMs := by
 intro a r q hq
 rw [tickM_view] at hq ⊢
 have hr := h.gi.rg a r q hq
 have ha := hr.1
 have hqq : rq (s.as a).L r = some q := by unfold Lb.view at hq; dsimp only at hq; rw [if_pos ha] at hq; exact hq
 obtain ⟨hm, hn⟩ := rq_some hqq
 have hid := h.gi.ia a ha
 have tok : agn q.st ≠ 0 → Tk s.tickMs a r (agn q.st) a (if agn q.st = 1 then 0 else q.l) := fun hz => by
  obtain ⟨i, hi⟩ := tickL_has (s.as a).L (s.as a) hm hz
  have hin : (if agn q.st = 1 then mesg (s.as a).id i 0 1 (s.as a).id q.n q.t else mesg (s.as a).id i q.l (agn q.st) (s.as a).id q.n 0) ∈ s.tickMs := by
   unfold Lb.tickMs
   rcases ha with rfl | rfl
   ·exact List.mem_append.2 (.inl (List.mem_append.2 (.inl hi)))
   ·refine List.mem_append.2 (.inl (List.mem_append.2 (.inr ?_)))
    have : (s.tickA 1).as 2 = s.as 2 := upd_ne s.as (i := 1) (j := 2) (s.as 1).tick.1 (by decide)
    rw [this]; exact hi
  rw [hid, hn] at hin
  refine ⟨_, hin, ?_⟩
  have hk : I64 (agn q.st) := i64_small (by have := agn_some hz; omega)
  by_cases e : agn q.st = 1
  ·rw [if_pos e, if_pos e, e]
   exact ⟨⟨q.t, dec_txt (i64_small (by omega)) ha.i64 (i64_small (by omega)) (i64_small (by omega))⟩, rfl, rfl⟩
  ·rw [if_neg e, if_neg e]
   exact ⟨⟨0, dec_txt hk ha.i64 (i64_small (by omega)) (i64_small (by omega))⟩, rfl, rfl⟩
 refine ⟨fun e => ?_, fun e => ?_, fun e => ?_, fun e => ?_⟩
 ·have t1 := tok (by rw [e]; decide)
  rw [e, show agn 1 = 1 from rfl, if_pos rfl] at t1
  cases hc : (s.view a r).c with
  | none => exact .inl ⟨rfl, t1⟩
  | some c =>
   cases ho : c.opn with
   | false => exact .inr (.inr ⟨c, rfl, ho, .inl t1⟩)
   | true =>
    have hcc : cs s.b.L a r = some c := hc
    obtain ⟨c1, c2, c3⟩ := cs_some hcc
    obtain ⟨b', hb, hx⟩ := tickB_has s.b.L s.b c1 ho
    obtain ⟨q', hq', hqt⟩ := (h.gi.di a r).c_q c hc
    have hr' := h.gi.rg a r q' hq'
    have hl := h.gi.lf a r c hc
    obtain ⟨x, k', v', g1, g2, g3, g4, g5, g6⟩ := tellB_out (b := b') (c := c) (hb.trans h.gi.ib) (by rw [c2]; exact ha) (by rw [c3]; exact i64_small (by omega)) (by rw [← hqt]; exact i64_small (by omega)) hl.1
    obtain ⟨og, on⟩ := opn_iffP.1 ho
    have hd : ∃ L, c.hd L := by
     unfold Cs.hd
     cases hlf : c.left with
     | nil => exact absurd hlf on
     | cons X l => exact ⟨X, rfl⟩
    obtain ⟨L, hL⟩ := hd
    obtain ⟨e1, e2⟩ := g6 L hL og
    refine .inr (.inl ⟨c, L, rfl, ho, hL, .inl ⟨x, ?_, ⟨v', by rw [g2, e1, c2, c3]⟩, g3, e2⟩⟩)
    unfold Lb.tickMs
    exact List.mem_append.2 (.inr (hx x (by rw [g1]; simp)))
 ·have t1 := tok (by rw [e]; decide)
  rw [e, show agn 2 = 7 from rfl, if_neg (by decide)] at t1
  exact .inl t1
 ·have t1 := tok (by rw [e]; decide)
  rw [e, show agn 3 = 9 from rfl, if_neg (by decide)] at t1
  exact .inl t1
 ·have t1 := tok (by rw [e]; decide)
  rw [e, show agn 5 = 11 from rfl, if_neg (by decide)] at t1
  exact .inl t1
theorem Far.tick {f : Int} (h : Far f s) : Far f s.tickM := fun a r q hq => h a r q (by rw [tickM_view] at hq; exact hq)
theorem pot_tick (n : Nat) (s : Lb) : pot n s.tickM = pot n s := by
 unfold pot
 congr 1
 exact List.map_congr_left fun p _ => by rw [tickM_view]
theorem tick_inv (h : KS init s) (hS : Cl S n) (hn : 1 ≤ n) {k : Nat} {P P' : List Pc} (hs : SentL 5 S k s.tickMs P P') : JS s.tickM (P'.map Pc.m) ∧ qcost n (P'.map Pc.m) = qcost n (P.map Pc.m) + n * qcost n s.tickMs := by
 have hk := h.tickM
 have hp := hs.clean hS fun x hx => vm_to hk.gi (hk.gi.mv x (by rw [Lb.tickM_W, List.mem_append]; exact .inr hx))
 refine ⟨((JS.tick h).sub fun x hx => List.mem_append.2 (.inr ((rep_mem hn).2 hx))).perm hp.symm, ?_⟩
 rw [qcost_perm n hp, qcost_app, qcost_rep]
theorem del_inv (h : KS init s) (hS : Cl S n) (hn : n = 1 ∨ n = 2) {k : Nat} {p : Pc} {r P P' : List Pc} (hj : JS s (P.map Pc.m)) (hp : (r ++ [p]).Perm P) (hm : p.m ∈ s.W) (hs : SentL 5 S k (s.delMs p.m) r P') :
  JS (s.del p.m) (P'.map Pc.m) ∧ pot n (s.del p.m) + qcost n (P'.map Pc.m) + 1 ≤ pot n s + qcost n (P.map Pc.m) ∧ ∀ f, Far f s → Far f (s.del p.m) := by
 have hd := h.del hm
 have hp' := hs.clean hS fun x hx => vm_to hd.gi (hd.gi.mv x (by rw [Lb.del_W, List.mem_append]; exact .inr hx))
 have hpm := hp.map Pc.m
 rw [List.map_append, List.map_singleton] at hpm
 obtain ⟨h1, h2, h3⟩ := JS.del h.gi (h.gi.mv _ hm) (hj.perm hpm.symm)
 refine ⟨(h1.sub fun x hx => ?_).perm hp'.symm, ?_, h3⟩
 ·rcases List.mem_append.1 hx with hx | hx
  ·exact List.mem_append.2 (.inl hx)
  ·exact List.mem_append.2 (.inr ((rep_mem (by omega)).2 hx))
 ·have h2 := h2 n hn
  rw [qcost_perm n hp', qcost_app, qcost_rep, ← qcost_perm n hpm, qcost_app, qcost_one]
  omega
theorem ret_q (s : Lb) {a : Int} (ha : IsA a) (n : Int) : (∀ a' r' q', ((s.ret a n).view a' r').q = some q' → ∃ q, (s.view a' r').q = some q ∧ (q' = q ∨ q.st = 4 ∧ q'.st = 5)) ∧ ∀ q', ((s.ret a n).view a n).q = some q' → q'.st ≠ 4 := by
 rcases ret_out (s.as a) n with ⟨e, hno⟩ | ⟨q, hq, h4, e⟩
 ·have V : ∀ a' r', (s.ret a n).view a' r' = s.view a' r' := fun a' r' => by
   unfold Lb.ret; rw [e]; exact view_sameA (s := s) (x := s.as a) rfl _ a' r'
  refine ⟨fun a' r' q' hq' => ⟨q', by rw [V] at hq'; exact hq', .inl rfl⟩, fun q' hq' => ?_⟩
  rw [V] at hq'
  unfold Lb.view at hq'; dsimp only at hq'; rw [if_pos ha] at hq'
  exact hno q' hq'
 ·have hqn : q.n = n := (rq_some hq).2
  obtain ⟨q5, h5⟩ : ∃ q5 : Rq, q5 = { q with st := 5 } := ⟨_, rfl⟩
  have hn5 : q5.n = n := by rw [h5]; exact hqn
  have hs5 : q5.st = 5 := by rw [h5]
  rw [← h5] at e
  have V := view_setA (s := s) ha (({ s.as a with L := setQ q5 (s.as a).L } : Asr).tell q5 11).1 (s.W ++ (({ s.as a with L := setQ q5 (s.as a).L } : Asr).tell q5 11).2) (q := q5) (p := q) (by rw [hn5]; exact hq) (tell_L _ _ _).1
  rw [hn5] at V
  have es : s.ret a n = (⟨upd s.as a (({ s.as a with L := setQ q5 (s.as a).L } : Asr).tell q5 11).1, s.b, s.ls, s.W ++ (({ s.as a with L := setQ q5 (s.as a).L } : Asr).tell q5 11).2⟩ : Lb) := by unfold Lb.ret; rw [e]
  rw [es]
  refine ⟨fun a' r' q' hq' => ?_, fun q' hq' => ?_⟩
  ·by_cases e : a' = a ∧ r' = n
   ·obtain ⟨rfl, rfl⟩ := e
    rw [V.2] at hq'
    have hq' := Option.some.inj hq'
    subst hq'
    exact ⟨q, by unfold Lb.view; dsimp only; rw [if_pos ha]; exact hq, .inr ⟨h4, hs5⟩⟩
   ·rw [V.1 a' r' e] at hq'
    exact ⟨q', hq', .inl rfl⟩
  ·rw [V.2] at hq'
   have hq' := Option.some.inj hq'
   subst hq'
   omega
def P4 (s : Lb) (a r : Int) : Prop := ∀ q, (s.view a r).q = some q → q.st ≠ 4
theorem P4.ret {a n a' r' : Int} (ha : IsA a) (h : P4 s a' r') : P4 (s.ret a n) a' r' := fun q' hq' => by
 obtain ⟨q, hq, e⟩ := (ret_q s ha n).1 a' r' q' hq'
 have := h q hq
 rcases e with rfl | e
 ·exact this
 ·omega
theorem Far.ret {f a n : Int} (ha : IsA a) (h : Far f s) : Far f (s.ret a n) := fun a' r' q' hq' => by
 obtain ⟨q, hq, e⟩ := (ret_q s ha n).1 a' r' q' hq'
 have := h a' r' q hq
 rcases e with rfl | e
 ·exact this
 ·omega
theorem P4.retN {a a' r' : Int} (ha : IsA a) : ∀ (n : Nat) {s : Lb}, P4 s a' r' → P4 (Lb.retN a n s) a' r'
 | 0, _, h => h
 | n + 1, _, h => (P4.retN ha n h).ret ha
theorem Far.retN {f a : Int} (ha : IsA a) : ∀ (n : Nat) {s : Lb}, Far f s → Far f (Lb.retN a n s)
 | 0, _, h => h
 | n + 1, _, h => (Far.retN ha n h).ret ha
theorem p4_retN {a : Int} (ha : IsA a) : ∀ (n : Nat) {s : Lb} (r : Int), 1 ≤ r → r ≤ n → P4 (Lb.retN a n s) a r
 | 0, _, r, h1, h2 => by omega
 | n + 1, s, r, h1, h2 => by
  by_cases e : r = (n + 1 : Int)
  ·subst e
   exact (ret_q (Lb.retN a n s) ha _).2
  ·exact (p4_retN ha n r h1 (by omega)).ret ha
theorem Far.fin {f : Int} (h : Far f s) : Far f s.fin := Far.retN (a := 2) (.inr rfl) 6 (Far.retN (a := 1) (.inl rfl) 6 h)
theorem p4_fin (h : KS init s) (a r : Int) : P4 s.fin a r := by
 intro q hq
 have hr := h.fin.gi.rg a r q hq
 rcases hr.1 with rfl | rfl
 ·exact (p4_retN (a := 1) (.inl rfl) 6 (s := s) r hr.2.1 hr.2.2.1).retN (a := 2) (.inr rfl) 6 q hq
 ·exact p4_retN (a := 2) (.inr rfl) 6 (s := Lb.retN 1 6 s) r hr.2.1 hr.2.2.1 q hq
theorem Far.fin4 (hk : KS init s) (h : Far 4 s) : Far 5 s.fin := fun a r q hq => by
 have h1 := h.fin a r q hq
 have h2 := p4_fin hk a r q hq
 omega
theorem Far.end_ (hk : KS init s) (hj : JS s []) : Far 4 s ∧ (Far 5 s → Far 6 s) := by
 refine ⟨fun a r q hq => ?_, fun h a r q hq => ?_⟩
 ·have h1 := hj.end_ hq
  have h2 := (hk.gi.di a r).qr q hq
  omega
 ·have h1 := hj.end_ hq
  have h2 := h a r q hq
  omega
theorem sorted_eq : ∀ {l m : List Int}, SortedI l → SortedI m → l.Perm m → l = m
 | l, m, h1, h2, hp => hp.eq_of_pairwise (fun a b _ _ h3 h4 => Int.le_antisymm h3 h4) h1 h2
theorem far_state (h : Far 6 s) (hk : KS init s) {a : Int} (ha : IsA a) (n : Int) : (s.as a).state n = 0 ∨ (s.as a).state n = 6 ∨ (s.as a).state n = 7 := by
 unfold Asr.state
 cases hq : rq (s.as a).L n with
 | none => exact .inl rfl
 | some q =>
  have hv : (s.view a n).q = some q := by unfold Lb.view; dsimp only; rw [if_pos ha]; exact hq
  have h1 := h a n q hv
  have h2 := (hk.gi.di a n).qr q hv
  dsimp only
  omega
theorem far_here (h : Far 6 s) (hk : KS init s) {a : Int} (ha : IsA a) : (s.as a).here = [] := by
 unfold Asr.here
 have : (s.as a).L.filter (fun q => decide (q.st = 4)) = [] := by
  rw [List.filter_eq_nil_iff]
  intro q hq
  have h1 := rq_mem (hk.ai a ha).so hq
  have hv : (s.view a q.n).q = some q := by unfold Lb.view; dsimp only; rw [if_pos ha]; exact h1
  have := h a q.n q hv
  simp; omega
 rw [this]; simp
theorem far_lend (h : Far 6 s) (hk : KS init s) (hso : ∀ L, IsL L → SortedI (init L)) {L : Int} (hL : IsL L) : (s.ls L).here = init L := by
 have hli := hk.li L hL
 have ho : outs (s.ls L).L = [] := by
  unfold outs
  have : (s.ls L).L.filter isOut = [] := by
   rw [List.filter_eq_nil_iff]
   intro d hd
   have hat : ∃ d', at_ (s.ls L).L d.a d.r = some d' := by
    cases h9 : at_ (s.ls L).L d.a d.r with
    | none => exact absurd ⟨rfl, rfl⟩ (at_none.1 h9 d hd)
    | some d' => exact ⟨d', rfl⟩
   obtain ⟨d', hd'⟩ := hat
   obtain ⟨m1, m2, m3⟩ := at_some hd'
   have hdd : d = d' := by
    refine Classical.byContradiction fun hne => ?_
    have hp := hli.ku
    unfold KU at hp
    rw [List.pairwise_iff_getElem] at hp
    obtain ⟨i, hi, ei⟩ := List.getElem_of_mem hd
    obtain ⟨j, hj, ej⟩ := List.getElem_of_mem m1
    rcases Nat.lt_trichotomy i j with c | c | c
    ·exact hp i j hi hj c (by rw [ei, ej]; exact ⟨m2.symm, m3.symm⟩)
    ·subst c; exact hne (ei.symm.trans ej)
    ·exact hp j i hj hi c (by rw [ei, ej]; exact ⟨m2, m3⟩)
   subst hdd
   have hvd : (s.view d.a d.r).d L = some d := by unfold Lb.view; dsimp only; rw [if_pos hL]; exact hd'
   obtain ⟨⟨c, hc, -⟩, h1, h5⟩ := (hk.gi.di d.a d.r).d_c L d hvd
   obtain ⟨q, hq, -⟩ := (hk.gi.di d.a d.r).c_q c hc
   have hf := h d.a d.r q hq
   have ok := (hk.gi.di d.a d.r).a q L d hq hvd
   unfold isOut
   intro hout
   simp only [Bool.and_eq_true, decide_eq_true_eq] at hout
   have ok := ok hout.1
   unfold OKs at ok
   omega
  rw [this]; rfl
 have hc := hli.cons
 rw [ho, List.append_nil] at hc
 exact sorted_eq hli.so (hso L hL) hc
end
end Go.Proofs.YtdojgbpaheadnaaGreat
