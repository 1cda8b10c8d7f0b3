/- One request alone, plainly: who lends is settled by what the lenders have. -/
import Derived.Test.YtdojgbpaheadnaaGreatQPQ
import Derived.Test.YtdojgbpaheadnaaGreatQPP
set_option linter.unusedVariables false
set_option linter.unusedSimpArgs false

namespace Go.Proofs.YtdojgbpaheadnaaGreat

structure TI (init : Int → List Int) (a0 r0 : Int) (s : Lb) : Prop where
 one : ∀ a r q, (s.view a r).q = some q → a = a0 ∧ r = r0
 pre : ∀ c, (s.view a0 r0).c = some c → ∃ pre, rotOf s.b.rota a0 r0 = pre ++ c.left ∧ ∀ X ∈ pre, ∃ e, (s.view a0 r0).d X = some e ∧ e.st = 1
 dl : ∀ L e, (s.view a0 r0).d L = some e → (e.st = 1 → e.t ∉ init L) ∧ (2 ≤ e.st → e.t ∈ init L)
section
variable {init : Int → List Int} {s s' : Lb} {m : Msg} {a0 r0 : Int}
theorem TI.of (h : TI init a0 r0 s) (hb : s'.b.rota = s.b.rota) (hq : ∀ a r q, (s'.view a r).q = some q → ∃ q', (s.view a r).q = some q') (hc : (s'.view a0 r0).c = (s.view a0 r0).c) (hd : (s'.view a0 r0).d = (s.view a0 r0).d) : TI init a0 r0 s' where
 one := fun a r q e => by obtain ⟨q', e'⟩ := hq a r q e; exact h.one a r q' e'
 pre := fun c e => by
  rw [hc] at e
  obtain ⟨p, h1, h2⟩ := h.pre c e
  exact ⟨p, by rw [hb]; exact h1, fun X hX => by rw [hd]; exact h2 X hX⟩
 dl := fun L e he => by rw [hd] at he; exact h.dl L e he
theorem TI.tick (h : TI init a0 r0 s) : TI init a0 r0 s.tickM := by
 refine h.of ?_ (fun a r q e => ⟨q, by rw [tickM_view] at e; exact e⟩) (by rw [tickM_view]) (by rw [tickM_view])
 show (tickB s.b s.b.L).1.rota = s.b.rota
 exact (tickB_sameP s.b.L s.b).2.2
theorem TI.takeA {a : Int} (ha : IsA a) (h : TI init a0 r0 s) : TI init a0 r0 (s.takeA a m) := by
 cases hd : dec m.text with
 | none =>
  have e : (s.as a).take m = (s.as a, []) := by unfold Asr.take; rw [hd]
  have e0 : s.takeA a m = s := by unfold Lb.takeA; rw [e]; dsimp only; rw [upd_idP, List.append_nil]
  rw [e0]; exact h
 | some t =>
  obtain ⟨k, a', r, v⟩ := t
  rcases takeA_out (s.as a) m hd with ⟨e, -⟩ | ⟨h1, h2, q, p, st, z, hq, hs, hp, hf, e⟩
  ·have e0 : s.takeA a m = s := by unfold Lb.takeA; rw [e]; dsimp only; rw [upd_idP, List.append_nil]
   rw [e0]; exact h
  ·obtain ⟨q', hq'⟩ : ∃ q' : Rq, q' = { q with st := st, l := if k = 5 then v else q.l } := ⟨_, rfl⟩
   have hn' : q'.n = r := by rw [hq']; exact (rq_some hq).2
   rw [← hq'] at e
   have V := view_setA (s := s) ha (({ s.as a with L := setQ q' (s.as a).L } : Asr).tell q' z).1 (s.W ++ (({ s.as a with L := setQ q' (s.as a).L } : Asr).tell q' z).2) (q := q') (p := q) (by rw [hn']; exact hq) (tell_L _ _ _).1
   rw [hn'] at V
   have es : s.takeA a m = (⟨upd s.as a (({ s.as a with L := setQ q' (s.as a).L } : Asr).tell q' z).1, s.b, s.ls, s.W ++ (({ s.as a with L := setQ q' (s.as a).L } : Asr).tell q' z).2⟩ : Lb) := by unfold Lb.takeA; rw [e]
   rw [es]
   have key : ∀ a1 r1, ((⟨upd s.as a (({ s.as a with L := setQ q' (s.as a).L } : Asr).tell q' z).1, s.b, s.ls, s.W ++ (({ s.as a with L := setQ q' (s.as a).L } : Asr).tell q' z).2⟩ : Lb).view a1 r1).c = (s.view a1 r1).c ∧ ((⟨upd s.as a (({ s.as a with L := setQ q' (s.as a).L } : Asr).tell q' z).1, s.b, s.ls, s.W ++ (({ s.as a with L := setQ q' (s.as a).L } : Asr).tell q' z).2⟩ : Lb).view a1 r1).d = (s.view a1 r1).d := fun _ _ => ⟨rfl, rfl⟩
   refine h.of rfl (fun a1 r1 x hx => ?_) (key _ _).1 (key _ _).2
   by_cases e1 : a1 = a ∧ r1 = r
   ·obtain ⟨rfl, rfl⟩ := e1
    exact ⟨q, by unfold Lb.view; dsimp only; rw [if_pos ha]; exact hq⟩
   ·rw [V.1 a1 r1 e1] at hx; exact ⟨x, hx⟩
theorem TI.takeB (hk : GI s) (hm : Vm s m) (h : TI init a0 r0 s) : TI init a0 r0 (s.takeB m) := by
 obtain ⟨k, a, r, v, hd, hv⟩ := hm
 have hvc : (s.view a r).c = cs s.b.L a r := rfl
 have dsame : ∀ x W a1 r1, (({ s with b := x, W := W } : Lb).view a1 r1).d = (s.view a1 r1).d := fun _ _ _ _ => rfl
 have qsame : ∀ x W a1 r1, (({ s with b := x, W := W } : Lb).view a1 r1).q = (s.view a1 r1).q := fun _ _ _ _ => rfl
 have here_ : ∀ q, (s.view a r).q = some q → a = a0 ∧ r = r0 := fun q hq => h.one a r q hq
 rcases takeB_out s.b m hd with ⟨e, -⟩ | ⟨h1, hc, hk1, hf, e⟩ | ⟨c, h1, hc, hk1, hf, ho, e⟩ | ⟨c, h1, hc, hk1, ho, hh, e⟩ | ⟨c, h1, hc, hk1, ho, hh, e⟩
 ·have e0 : s.takeB m = s := by unfold Lb.takeB; rw [e]; dsimp only; rw [List.append_nil]
  rw [e0]; exact h
 ·subst hk1
  obtain ⟨-, -, q, hq, hqt⟩ := hv.ask rfl
  obtain ⟨rfl, rfl⟩ := here_ q hq
  obtain ⟨c, hcd⟩ : ∃ c : Cs, c = ⟨a, r, v, rotOf s.b.rota a r, false⟩ := ⟨_, rfl⟩
  have e1 : c.a = a := by rw [hcd]
  have e2 : c.r = r := by rw [hcd]
  have e5 : c.left = rotOf s.b.rota a r := by rw [hcd]
  rw [← hcd] at e
  have V := view_setB (s := s) (({ s.b with L := insC c s.b.L } : Brk).tell c).1 (s.W ++ (({ s.b with L := insC c s.b.L } : Brk).tell c).2) (c := c) (fun a' r' => cs_ins (by rw [e1, e2]; exact hc) a' r')
  rw [e1, e2] at V
  have es : s.takeB m = { s with b := (({ s.b with L := insC c s.b.L } : Brk).tell c).1, W := s.W ++ (({ s.b with L := insC c s.b.L } : Brk).tell c).2 } := by unfold Lb.takeB; rw [e]
  rw [es]
  refine ⟨fun a1 r1 q hq => h.one a1 r1 q hq, fun c' hc' => ?_, fun L e he => h.dl L e he⟩
  rw [V.2] at hc'
  have hc' := Option.some.inj hc'
  subst hc'
  exact ⟨[], by rw [List.nil_append, e5]; rfl, fun X hX => by cases hX⟩
 ·have es : s.takeB m = { s with b := (s.b.tell c).1, W := s.W ++ (s.b.tell c).2 } := by unfold Lb.takeB; rw [e]
  rw [es]
  exact ⟨fun a1 r1 q hq => h.one a1 r1 q hq, fun c' hc' => h.pre c' hc', fun L e he => h.dl L e he⟩
 ·subst hk1
  have hcc := cs_some hc
  obtain ⟨q, hq, -⟩ := (hk.di a r).c_q c (hvc.trans hc)
  obtain ⟨rfl, rfl⟩ := here_ q hq
  obtain ⟨c', hcd⟩ : ∃ c' : Cs, c' = { c with g := true } := ⟨_, rfl⟩
  have e1 : c'.a = a := by rw [hcd]; exact hcc.2.1
  have e2 : c'.r = r := by rw [hcd]; exact hcc.2.2
  have e5 : c'.left = c.left := by rw [hcd]
  rw [← hcd] at e
  have V := view_setB (s := s) (({ s.b with L := setC c' s.b.L } : Brk).tell c').1 (s.W ++ (({ s.b with L := setC c' s.b.L } : Brk).tell c').2) (c := c') (fun a' r' => cs_set' (x := c) (by rw [e1, e2]; exact hc) a' r')
  rw [e1, e2] at V
  have es : s.takeB m = { s with b := (({ s.b with L := setC c' s.b.L } : Brk).tell c').1, W := s.W ++ (({ s.b with L := setC c' s.b.L } : Brk).tell c').2 } := by unfold Lb.takeB; rw [e]
  rw [es]
  refine ⟨fun a1 r1 q hq => h.one a1 r1 q hq, fun c2 hc2 => ?_, fun L e he => h.dl L e he⟩
  rw [V.2] at hc2
  have hc2 := Option.some.inj hc2
  subst hc2
  obtain ⟨p, p1, p2⟩ := h.pre c (hvc.trans hc)
  exact ⟨p, by rw [e5]; exact p1, p2⟩
 ·subst hk1
  have hcc := cs_some hc
  obtain ⟨q, hq, -⟩ := (hk.di a r).c_q c (hvc.trans hc)
  obtain ⟨rfl, rfl⟩ := here_ q hq
  obtain ⟨-, f, hf, h2⟩ := hv.no rfl
  obtain ⟨c', hcd⟩ : ∃ c' : Cs, c' = { c with left := c.left.tail } := ⟨_, rfl⟩
  have e1 : c'.a = a := by rw [hcd]; exact hcc.2.1
  have e2 : c'.r = r := by rw [hcd]; exact hcc.2.2
  have e5 : c'.left = c.left.tail := by rw [hcd]
  rw [← hcd] at e
  have V := view_setB (s := s) (({ s.b with L := setC c' s.b.L } : Brk).tell c').1 (s.W ++ (({ s.b with L := setC c' s.b.L } : Brk).tell c').2) (c := c') (fun a' r' => cs_set' (x := c) (by rw [e1, e2]; exact hc) a' r')
  rw [e1, e2] at V
  have es : s.takeB m = { s with b := (({ s.b with L := setC c' s.b.L } : Brk).tell c').1, W := s.W ++ (({ s.b with L := setC c' s.b.L } : Brk).tell c').2 } := by unfold Lb.takeB; rw [e]
  rw [es]
  refine ⟨fun a1 r1 q hq => h.one a1 r1 q hq, fun c2 hc2 => ?_, fun L e he => h.dl L e he⟩
  rw [V.2] at hc2
  have hc2 := Option.some.inj hc2
  subst hc2
  obtain ⟨p, p1, p2⟩ := h.pre c (hvc.trans hc)
  have hl : c.left = m.frm :: c.left.tail := by
   cases hcl : c.left with
   | nil => rw [hcl] at hh; cases hh
   | cons X l => rw [hcl] at hh; injection hh with hh; rw [hh]; rfl
  refine ⟨p ++ [m.frm], ?_, fun X hX => ?_⟩
  ·rw [e5, List.append_assoc]
   show rotOf s.b.rota a r = p ++ (m.frm :: c.left.tail)
   rw [← hl]; exact p1
  ·rcases List.mem_append.1 hX with hX | hX
   ·exact p2 X hX
   ·rw [List.mem_singleton.1 hX]; exact ⟨f, hf, h2⟩
end
end Go.Proofs.YtdojgbpaheadnaaGreat

/- One request alone, plainly: lenders, deliveries; what is so at the end. -/
namespace Go.Proofs.YtdojgbpaheadnaaGreat

section
variable {init : Int → List Int} {s s' : Lb} {m : Msg} {a0 r0 : Int}
theorem TI.fresh (hk : KS init s) (h : TI init a0 r0 s) {L : Int} (hL : IsL L) (hn : at_ (s.ls L).L a0 r0 = none) : (s.ls L).here.Perm (init L) := by
 have hli := hk.li L hL
 have : (s.ls L).L = [] := by
  cases hl : (s.ls L).L with
  | nil => rfl
  | cons d l =>
   exfalso
   have hd : d ∈ (s.ls L).L := by rw [hl]; simp
   have hat : ∃ d', at_ (s.ls L).L d.a d.r = some d' := by
    cases h9 : at_ (s.ls L).L d.a d.r with
    | none => exact absurd ⟨rfl, rfl⟩ (at_none.1 h9 d hd)
    | some d' => exact ⟨d', rfl⟩
   obtain ⟨d', hd'⟩ := hat
   have hv : (s.view d.a d.r).d L = some d' := by unfold Lb.view; dsimp only; rw [if_pos hL]; exact hd'
   obtain ⟨⟨c, hc, -⟩, -⟩ := (hk.gi.di d.a d.r).d_c L d' hv
   obtain ⟨q, hq, -⟩ := (hk.gi.di d.a d.r).c_q c hc
   obtain ⟨e1, e2⟩ := h.one d.a d.r q hq
   rw [e1, e2, hn] at hd'
   cases hd'
 have hc := hli.cons
 rw [this] at hc
 simpa [outs] using hc
theorem TI.takeL {L : Int} (hL : IsL L) (hk : KS init s) (hm : Vm s m) (h : TI init a0 r0 s) : TI init a0 r0 (s.takeL L m) := by
 obtain ⟨k, a, r, v, hd, hv⟩ := hm
 have hvd : (s.view a r).d L = at_ (s.ls L).L a r := by unfold Lb.view; dsimp only; rw [if_pos hL]
 have cq : ∀ x W a1 r1, (({ s with ls := x, W := W } : Lb).view a1 r1).q = (s.view a1 r1).q ∧ (({ s with ls := x, W := W } : Lb).view a1 r1).c = (s.view a1 r1).c := fun _ _ _ _ => ⟨rfl, rfl⟩
 have ofc : ∀ c, (s.view a r).c = some c → a = a0 ∧ r = r0 := fun c hc => by
  obtain ⟨q, hq, -⟩ := (hk.gi.di a r).c_q c hc
  exact h.one a r q hq
 -- the deals of the one request, with that of L another
 have key : ∀ (x : Len) (W : List Msg) (e : Deal), (∀ a' r', at_ x.L a' r' = if a' = a ∧ r' = r then some e else at_ (s.ls L).L a' r') → a = a0 → r = r0 → (∀ e0, (s.view a0 r0).d L = some e0 → (e0.st = 1 → e.st = 1)) → ((e.st = 1 → e.t ∉ init L) ∧ (2 ≤ e.st → e.t ∈ init L)) → TI init a0 r0 { s with ls := upd s.ls L x, W := W } := by
  intro x W e hx ea er h1 h2
  subst ea er
  have V := view_setL (s := s) hL x W (a0 := a) (r0 := r) (e := e) hx
  refine ⟨fun a1 r1 q hq => h.one a1 r1 q hq, fun c hc => ?_, fun M d hd => ?_⟩
  ·obtain ⟨p, p1, p2⟩ := h.pre c hc
   refine ⟨p, p1, fun X hX => ?_⟩
   obtain ⟨d, d1, d2⟩ := p2 X hX
   rw [V.2]
   by_cases e1 : X = L
   ·subst e1; exact ⟨e, setD_self _ _ _, h1 d d1 d2⟩
   ·exact ⟨d, by show setD _ L e X = _; unfold setD; rw [if_neg e1]; exact d1, d2⟩
  ·rw [V.2] at hd
   by_cases e1 : M = L
   ·subst e1
    have hd : setD (s.view a r).d M e M = some d := hd
    rw [setD_self] at hd
    have hd := Option.some.inj hd
    subst hd; exact h2
   ·have hd : setD (s.view a r).d L e M = some d := hd
    unfold setD at hd; rw [if_neg e1] at hd
    exact h.dl M d hd
 rcases takeL_out (s.ls L) m hd with ⟨e, -⟩ | ⟨h1, hk2, hf, hn, e⟩ | ⟨d, h1, hk2, hf, hs, e⟩ | ⟨d, p, q, h1, hs, ha, hf, hst, e⟩
 ·have e0 : s.takeL L m = s := by unfold Lb.takeL; rw [e]; dsimp only; rw [upd_idP, List.append_nil]
  rw [e0]; exact h
 ·subst hk2
  obtain ⟨-, c, hc, hct, -⟩ := hv.want rfl
  obtain ⟨rfl, rfl⟩ := ofc c hc
  have hp := h.fresh hk hL hn
  have es : s.takeL L m = { s with ls := upd s.ls L (((s.ls L).deal a r v).send 0 (if v ∈ (s.ls L).here then 3 else 4) a r).1, W := s.W ++ (((s.ls L).deal a r v).send 0 (if v ∈ (s.ls L).here then 3 else 4) a r).2 } := by unfold Lb.takeL; rw [e]
  rw [es]
  have none_ : ∀ e0, (s.view a r).d L = some e0 → False := fun e0 he => by rw [hvd, hn] at he; cases he
  by_cases hv2 : v ∈ (s.ls L).here
  ·refine key _ _ ⟨a, r, v, 2⟩ (fun a' r' => ?_) rfl rfl (fun e0 he => (none_ e0 he).elim) ⟨fun h => (by cases h), fun _ => hp.mem_iff.1 hv2⟩
   unfold Len.send Len.deal
   rw [if_pos hv2]
   exact at_snocP (d := ⟨a, r, v, 2⟩) hn a' r'
  ·refine key _ _ ⟨a, r, v, 1⟩ (fun a' r' => ?_) rfl rfl (fun e0 he => (none_ e0 he).elim) ⟨fun _ hi => hv2 (hp.mem_iff.2 hi), fun h => absurd (show 2 ≤ 1 from h) (by omega)⟩
   unfold Len.send Len.deal
   rw [if_neg hv2]
   exact at_snocP (d := ⟨a, r, v, 1⟩) hn a' r'
 ·have es : s.takeL L m = { s with ls := upd s.ls L ((s.ls L).send 0 (if d.st = 1 then 4 else 3) a r).1, W := s.W ++ ((s.ls L).send 0 (if d.st = 1 then 4 else 3) a r).2 } := by unfold Lb.takeL; rw [e]
  rw [es]
  obtain ⟨⟨c, hc, -⟩, -⟩ := (hk.gi.di a r).d_c L d (hvd.trans hs)
  obtain ⟨ea, er⟩ := ofc c hc
  refine key _ _ d (fun a' r' => ?_) ea er (fun e0 he => ?_) (h.dl L d (by rw [← ea, ← er]; exact hvd.trans hs))
  ·show at_ (s.ls L).L a' r' = _
   by_cases e : a' = a ∧ r' = r
   ·rw [if_pos e, e.1, e.2]; exact hs
   ·rw [if_neg e]
  ·rw [← ea, ← er, hvd, hs] at he
   have he := Option.some.inj he
   subst he; exact id
 ·have ha' := ans_some ha
  have es : s.takeL L m = { s with ls := upd s.ls L (({ s.ls L with here := if d.st = 4 ∧ q = 5 then ins d.t (s.ls L).here else (s.ls L).here, L := setSt (s.ls L).L a r q } : Len).send a (kd q) a r).1, W := s.W ++ (({ s.ls L with here := if d.st = 4 ∧ q = 5 then ins d.t (s.ls L).here else (s.ls L).here, L := setSt (s.ls L).L a r q } : Len).send a (kd q) a r).2 } := by unfold Lb.takeL; rw [e]
  rw [es]
  obtain ⟨⟨c, hc, -⟩, -⟩ := (hk.gi.di a r).d_c L d (hvd.trans hs)
  obtain ⟨ea, er⟩ := ofc c hc
  have hdl := h.dl L d (by rw [← ea, ← er]; exact hvd.trans hs)
  refine key _ _ { d with st := q } (fun a' r' => ?_) ea er (fun e0 he => ?_) ⟨fun h => ?_, fun _ => hdl.2 (by omega)⟩
  ·show at_ (setSt (s.ls L).L a r q) a' r' = _
   rw [at_setStP]
   have hdd := at_some hs
   by_cases e : a' = a ∧ r' = r
   ·rw [if_pos e, e.1, e.2, hs, Option.map_some, if_pos (hit_iffP.2 hdd.2)]
   ·rw [if_neg e]
    cases h9 : at_ (s.ls L).L a' r' with
    | none => rfl
    | some d' =>
     have hd' := at_some h9
     rw [Option.map_some, if_neg (fun h => e (by have := hit_iffP.1 h; exact ⟨hd'.2.1.symm.trans this.1, hd'.2.2.symm.trans this.2⟩))]
  ·rw [← ea, ← er, hvd, hs] at he
   have he := Option.some.inj he
   subst he
   intro h; omega
  ·have h : q = 1 := h
   omega
theorem TI.del (hk : KS init s) (hm : m ∈ s.W) (h : TI init a0 r0 s) : TI init a0 r0 (s.del m) := by
 have hv := hk.gi.mv m hm
 unfold Lb.del
 split
 ·exact h.takeB hk.gi hv
 ·split
  ·have hk1 := hk.takeA (a := 1) (.inl rfl) hm
   exact (h.takeA (a := 1) (.inl rfl)).takeL (.inr (.inr rfl)) hk1 (hk1.gi.mv m (by show m ∈ s.W ++ _; exact List.mem_append.2 (.inl hm)))
  ·split
   ·exact h.takeA (.inr rfl)
   ·split
    ·exact h.takeL (.inl rfl) hk hv
    ·split
     ·exact h.takeL (.inr (.inl rfl)) hk hv
     ·exact h
theorem TI.ret {a n : Int} (ha : IsA a) (h : TI init a0 r0 s) : TI init a0 r0 (s.ret a n) := by
 refine h.of rfl (fun a1 r1 q hq => ?_) rfl rfl
 obtain ⟨q', h1, -⟩ := (ret_q s ha n).1 a1 r1 q hq
 exact ⟨q', h1⟩
theorem TI.retN {a : Int} (ha : IsA a) : ∀ (n : Nat) {s : Lb}, TI init a0 r0 s → TI init a0 r0 (Lb.retN a n s)
 | 0, _, h => h
 | n + 1, _, h => (TI.retN ha n h).ret ha
theorem TI.fin (h : TI init a0 r0 s) : TI init a0 r0 s.fin := TI.retN (a := 2) (.inr rfl) 6 (TI.retN (a := 1) (.inl rfl) 6 h)
def whoL (init : Int → List Int) (rota : List Int) (a r t : Int) : Option Int := (rotOf rota a r).find? fun X => decide (t ∈ init X)
theorem TI.who (hk : KS init s) (h : TI init a0 r0 s) {q : Rq} (hq : (s.view a0 r0).q = some q) : (2 ≤ q.st → q.st ≤ 6 → whoL init s.b.rota a0 r0 q.t = some q.l) ∧ (q.st = 7 → whoL init s.b.rota a0 r0 q.t = none) := by
 have hdi := hk.gi.di a0 r0
 have passed : ∀ c, (s.view a0 r0).c = some c → c.t = q.t → ∀ pre : List Int, (∀ X ∈ pre, ∃ e, (s.view a0 r0).d X = some e ∧ e.st = 1) → ∀ X ∈ pre, ¬ (decide (q.t ∈ init X) = true) := fun c hc ht pre hp X hX => by
  obtain ⟨e, h1, h2⟩ := hp X hX
  obtain ⟨⟨c', hc', e3⟩, -⟩ := hdi.d_c X e h1
  rw [hc] at hc'
  have := Option.some.inj hc'
  subst this
  have h4 := (h.dl X e h1).1 h2
  rw [e3, ht] at h4
  simpa using h4
 refine ⟨fun h2 h6 => ?_, fun h7 => ?_⟩
 ·obtain ⟨c, hc, hg, hh⟩ := hdi.q2 q hq h2 h6
  obtain ⟨q', hq', hqt⟩ := hdi.c_q c hc
  rw [hq] at hq'
  have := Option.some.inj hq'
  subst this
  obtain ⟨L, e, hL, he, h3⟩ := hdi.g c hc hg
  have : L = q.l := Cs.hd_one hL hh
  subst this
  obtain ⟨⟨c', hc', e3⟩, -⟩ := hdi.d_c _ e he
  rw [hc] at hc'
  have := Option.some.inj hc'
  subst this
  have h4 := (h.dl _ e he).2 h3
  rw [e3, ← hqt] at h4
  obtain ⟨pre, p1, p2⟩ := h.pre c hc
  have hl : c.left = q.l :: c.left.tail := by
   unfold Cs.hd at hh
   cases hcl : c.left with
   | nil => rw [hcl] at hh; cases hh
   | cons X l => rw [hcl] at hh; injection hh with hh; rw [hh]; rfl
  unfold whoL
  rw [p1, List.find?_append, List.find?_eq_none.2 (passed c hc hqt.symm pre p2), hl]
  simp [h4]
 ·obtain ⟨c, hc, hcl⟩ := hdi.q7 q hq h7
  obtain ⟨q', hq', hqt⟩ := hdi.c_q c hc
  rw [hq] at hq'
  have := Option.some.inj hq'
  subst this
  obtain ⟨pre, p1, p2⟩ := h.pre c hc
  unfold whoL
  rw [p1, hcl, List.append_nil]
  exact List.find?_eq_none.2 (passed c hc hqt.symm pre p2)
end
end Go.Proofs.YtdojgbpaheadnaaGreat

/- One request alone, plainly: where the copies are when nothing is on its way. -/
namespace Go.Proofs.YtdojgbpaheadnaaGreat

section
variable {init : Int → List Int} {s : Lb} {a0 r0 : Int}
theorem TI.mine (hk : KS init s) (h : TI init a0 r0 s) {L : Int} (hL : IsL L) {d : Deal} (hd : d ∈ (s.ls L).L) : d.a = a0 ∧ d.r = r0 := by
 have hat : ∃ d', at_ (s.ls L).L d.a d.r = some d' := by
  cases h9 : at_ (s.ls L).L d.a d.r with
  | none => exact absurd ⟨rfl, rfl⟩ (at_none.1 h9 d hd)
  | some d' => exact ⟨d', rfl⟩
 obtain ⟨d', hd'⟩ := hat
 have hv : (s.view d.a d.r).d L = some d' := by unfold Lb.view; dsimp only; rw [if_pos hL]; exact hd'
 obtain ⟨⟨c, hc, -⟩, -⟩ := (hk.gi.di d.a d.r).d_c L d' hv
 obtain ⟨q, hq, -⟩ := (hk.gi.di d.a d.r).c_q c hc
 exact h.one d.a d.r q hq
theorem TI.deals (hk : KS init s) (h : TI init a0 r0 s) {L : Int} (hL : IsL L) : (s.ls L).L = [] ∨ ∃ e, (s.ls L).L = [e] ∧ (s.view a0 r0).d L = some e := by
 have hvd : (s.view a0 r0).d L = at_ (s.ls L).L a0 r0 := by unfold Lb.view; dsimp only; rw [if_pos hL]
 have hku := (hk.li L hL).ku
 cases hl : (s.ls L).L with
 | nil => exact .inl rfl
 | cons e l =>
  right
  have he := h.mine hk hL (d := e) (by rw [hl]; simp)
  cases l with
  | nil =>
   refine ⟨e, rfl, ?_⟩
   rw [hvd, hl]
   unfold at_
   rw [List.find?_cons, hit_iffP.2 he]
  | cons f l =>
   exfalso
   have hf := h.mine hk hL (d := f) (by rw [hl]; simp)
   unfold KU at hku
   rw [hl, List.pairwise_cons] at hku
   exact hku.1 f (by simp) ⟨he.1.trans hf.1.symm, he.2.trans hf.2.symm⟩
theorem TI.reqs (hk : KS init s) (h : TI init a0 r0 s) {a : Int} (ha : IsA a) : (a ≠ a0 → (s.as a).L = []) ∧ (∀ q, (s.view a0 r0).q = some q → a = a0 → (s.as a).L = [q]) := by
 have mine : ∀ q ∈ (s.as a).L, a = a0 ∧ q.n = r0 := fun q hq => by
  have h1 := rq_mem (hk.ai a ha).so hq
  have hv : (s.view a q.n).q = some q := by unfold Lb.view; dsimp only; rw [if_pos ha]; exact h1
  exact h.one a q.n q hv
 refine ⟨fun hne => ?_, fun q hq e => ?_⟩
 ·cases hl : (s.as a).L with
  | nil => rfl
  | cons q l => exact absurd (mine q (by rw [hl]; simp)).1 hne
 ·subst e
  have hqq : rq (s.as a).L r0 = some q := by unfold Lb.view at hq; dsimp only at hq; rw [if_pos ha] at hq; exact hq
  have hm := (rq_some hqq).1
  have hso := (hk.ai a ha).so
  cases hl : (s.as a).L with
  | nil => rw [hl] at hm; cases hm
  | cons x l =>
   cases l with
   | nil => rw [hl] at hm; rw [List.mem_singleton.1 hm]
   | cons y l =>
    exfalso
    unfold SortedQ at hso
    rw [hl, List.pairwise_cons] at hso
    have h1 := hso.1 y (by simp)
    have h2 := (mine x (by rw [hl]; simp)).2
    have h3 := (mine y (by rw [hl]; simp)).2
    omega
theorem TI.rest4 (hk : KS init s) (h : TI init a0 r0 s) (hso : ∀ L, IsL L → SortedI (init L)) {q : Rq} (hq : (s.view a0 r0).q = some q) (h4 : q.st = 4) :
  (∀ a, IsA a → (s.as a).here = if a = a0 then [q.t] else []) ∧ IsL q.l ∧ (∀ L, IsL L → L ≠ q.l → (s.ls L).here = init L) ∧ ((s.ls q.l).here ++ [q.t]).Perm (init q.l) := by
 have hdi := hk.gi.di a0 r0
 obtain ⟨e, he, hok⟩ := hdi.lend hq (by omega) (by omega)
 have e4 : e.st = 4 := by unfold OKs at hok; omega
 have hll : IsL q.l := by
  unfold Lb.view at he; dsimp only at he
  by_cases hL : IsL q.l
  ·exact hL
  ·rw [if_neg hL] at he; cases he
 obtain ⟨⟨c, hc, hct⟩, -⟩ := hdi.d_c q.l e he
 obtain ⟨q', hq', hqt⟩ := hdi.c_q c hc
 rw [hq] at hq'
 have hqq := Option.some.inj hq'
 subst hqq
 refine ⟨fun a ha => ?_, hll, fun L hL hne => ?_, ?_⟩
 ·obtain ⟨h1, h2⟩ := h.reqs hk ha
  unfold Asr.here
  by_cases e : a = a0
  ·rw [if_pos e, h2 q hq e]
   simp [h4]
  ·rw [if_neg e, h1 e]; simp
 ·have hli := hk.li L hL
  have ho : outs (s.ls L).L = [] := by
   rcases h.deals hk hL with hd | ⟨d, hd, hv⟩
   ·rw [hd]; rfl
   ·rw [hd]
    have : ¬ (2 ≤ d.st) := fun h2 => by
     have a := hdi.two L d c hv h2 hc
     have b := hdi.two q.l e c he (by omega) hc
     exact hne (Cs.hd_one a b)
    unfold outs
    have h0 : isOut d = false := by unfold isOut; simp; omega
    simp [h0]
  have hp := hli.cons
  rw [ho, List.append_nil] at hp
  exact sorted_eq hli.so (hso L hL) hp
 ·have hli := hk.li q.l hll
  have ho : outs (s.ls q.l).L = [q.t] := by
   rcases h.deals hk hll with hd | ⟨d, hd, hv⟩
   ·exfalso
    unfold Lb.view at he; dsimp only at he; rw [if_pos hll, hd] at he; cases he
   ·rw [he] at hv
    have := Option.some.inj hv
    subst this
    rw [hd]
    unfold outs
    have h0 : isOut e = true := by unfold isOut; simp; omega
    simp [h0, hct, hqt]
  have hp := hli.cons
  rw [ho] at hp
  exact hp
theorem TI.rest6 (h : TI init a0 r0 s) (h6 : ∀ q, (s.view a0 r0).q = some q → 6 ≤ q.st) : Far 6 s := fun a r q hq => by
 obtain ⟨rfl, rfl⟩ := h.one a r q hq
 exact h6 q hq
end
end Go.Proofs.YtdojgbpaheadnaaGreat

/- One request alone, plainly: rounds over a net that sends each message once, or twice. -/
namespace Go.Proofs.YtdojgbpaheadnaaGreat

section
variable {init : Int → List Int} {s : Lb} {a0 r0 : Int} {P P' : List Pc} {S : List Tr} {n : Nat} {E : Lb → Prop}
theorem sum_zero {α : Type} {f : α → Nat} : ∀ {l : List α}, (∀ x ∈ l, f x = 0) → (l.map f).sum = 0
 | [], _ => rfl
 | x :: l, h => by rw [List.map_cons, List.sum_cons, h x (by simp), sum_zero fun y hy => h y (List.mem_cons_of_mem _ hy)]
theorem sum_at {α : Type} [DecidableEq α] {f : α → Nat} {x : α} {b : Nat} (hb : f x ≤ b) : ∀ {l : List α}, l.Nodup → (∀ y ∈ l, y ≠ x → f y = 0) → (l.map f).sum ≤ b
 | [], _, _ => by simp
 | y :: l, hn, h => by
  rw [List.nodup_cons] at hn
  rw [List.map_cons, List.sum_cons]
  by_cases e : y = x
  ·subst e
   rw [sum_zero fun z hz => h z (List.mem_cons_of_mem _ hz) fun e => hn.1 (e ▸ hz)]; omega
  ·rw [h y (by simp) e]
   have := sum_at hb hn.2 fun z hz => h z (List.mem_cons_of_mem _ hz)
   omega
theorem TI.pot (hk : KS init s) (h : TI init a0 r0 s) (hn : n = 1 ∨ n = 2) : pot n s ≤ 54 := by
 have hx : phi n (s.view a0 r0) ≤ 54 := by
  have := phi_le (n := n) (x := s.view a0 r0) hn fun c hc => (hk.gi.lf a0 r0 c hc).2
  rcases hn with rfl | rfl <;> omega
 refine sum_at (x := (a0, r0)) hx (by decide) fun y _ hy => phi_none ?_
 cases hq : (s.view y.1 y.2).q with
 | none => rfl
 | some q =>
  obtain ⟨e1, e2⟩ := h.one y.1 y.2 q hq
  exact absurd (Prod.ext e1 e2) hy
structure Kp (init : Int → List Int) (E : Lb → Prop) : Prop where
 tick : ∀ s, E s → E s.tickM
 del : ∀ s m, KS init s → m ∈ s.W → (∀ f, Far f s → Far f (s.del m)) → E s → E (s.del m)
theorem Kp.and {E1 E2 : Lb → Prop} (h1 : Kp init E1) (h2 : Kp init E2) : Kp init fun s => E1 s ∧ E2 s where
 tick := fun s h => ⟨h1.tick s h.1, h2.tick s h.2⟩
 del := fun s m hk hm hf h => ⟨h1.del s m hk hm hf h.1, h2.del s m hk hm hf h.2⟩
def QG (init : Int → List Int) (a0 r0 : Int) (n : Nat) (E : Lb → Prop) (s : Lb) (P : List Pc) : Prop := qcost n (P.map Pc.m) ≤ 72 ∧ TI init a0 r0 s ∧ E s
def JG (init : Int → List Int) (a0 r0 : Int) (n : Nat) (E : Lb → Prop) (i : Nat) (s : Lb) (P : List Pc) : Prop := JS s (P.map Pc.m) ∧ pot n s + qcost n (P.map Pc.m) + i ≤ 400 ∧ TI init a0 r0 s ∧ E s
def RG (init : Int → List Int) (a0 r0 : Int) (E : Lb → Prop) (s : Lb) (P : List Pc) : Prop := P = [] ∧ JS s [] ∧ TI init a0 r0 s ∧ E s
theorem JG.tick (hk : KS init s) (hS : Cl S n) (hn : n = 1 ∨ n = 2) (hE : Kp init E) (h : QG init a0 r0 n E s P) {j : Nat} (hs : SentL 5 S j s.tickMs P P') : JG init a0 r0 n E 0 s.tickM P' := by
 obtain ⟨h1, h2⟩ := tick_inv hk hS (by omega) hs
 have h3 := h.2.1.pot hk hn
 have h4 := qcost_le n s.tickMs
 have h5 := hk.tickMs_len
 have h6 := h.1
 refine ⟨h1, ?_, h.2.1.tick, hE.tick s h.2.2⟩
 rw [pot_tick, h2]
 rcases hn with rfl | rfl <;> omega
theorem JG.del {i : Nat} {r : List Pc} {p : Pc} (hk : KS init s) (hS : Cl S n) (hn : n = 1 ∨ n = 2) (hE : Kp init E) (hm : p.m ∈ s.W) (h : JG init a0 r0 n E i s P) (hp : (r ++ [p]).Perm P) {j : Nat} (hs : SentL 5 S j (s.delMs p.m) r P') : JG init a0 r0 n E (i + 1) (s.del p.m) P' := by
 obtain ⟨h1, h2, h3⟩ := del_inv hk hS hn h.1 hp hm hs
 have := h.2.1
 exact ⟨h1, by omega, h.2.2.1.del hk hm, hE.del s _ hk hm h3 h.2.2.2⟩
theorem RG.of {i : Nat} (h : JG init a0 r0 n E i s P) (hi : i = 400 ∨ P = []) : RG init a0 r0 E s P := by
 have hP : P = [] := by
  rcases hi with rfl | hi
  ·have h1 := h.2.1
   have h2 := qcost_len n (P.map Pc.m)
   rw [List.length_map] at h2
   exact List.eq_nil_of_length_eq_zero (by omega)
  ·exact hi
 subst hP
 exact ⟨rfl, h.1, h.2.2.1, h.2.2.2⟩
theorem QG.of (h : RG init a0 r0 E s P) : QG init a0 r0 n E s P := by
 obtain ⟨rfl, -, h2, h3⟩ := h
 exact ⟨by show qcost n [] ≤ 72; rw [qcost_nil]; omega, h2, h3⟩
theorem QG.sent {s' : Lb} (hk : KS init s') (hS : Cl S n) (hn : n = 1 ∨ n = 2) {ms : List Msg} (hl : ms.length ≤ 12) (hW : ∀ x ∈ ms, x ∈ s'.W) (hT : TI init a0 r0 s') (hE : E s') {j : Nat} (hs : SentL 5 S j ms [] P') : QG init a0 r0 n E s' P' := by
 have hp := hs.clean hS fun x hx => vm_to hk.gi (hk.gi.mv x (hW x hx))
 have hq := qcost_le n ms
 refine ⟨?_, hT, hE⟩
 rw [qcost_perm n hp, qcost_app, qcost_rep]
 have : qcost n (([] : List Pc).map Pc.m) = 0 := rfl
 rcases hn with rfl | rfl <;> omega
def NF (s : Lb) : Prop := ∀ a r q, (s.view a r).q = some q → q.st ≤ 4 ∨ q.st = 7
theorem NF.takeA {a : Int} {m : Msg} (ha : IsA a) (h : NF s) : NF (s.takeA a m) := by
 cases hd : dec m.text with
 | none =>
  have e : (s.as a).take m = (s.as a, []) := by unfold Asr.take; rw [hd]
  have e0 : s.takeA a m = s := by unfold Lb.takeA; rw [e]; dsimp only; rw [upd_idP, List.append_nil]
  rw [e0]; exact h
 | some t =>
  obtain ⟨k, a', r, v⟩ := t
  rcases takeA_out (s.as a) m hd with ⟨e, -⟩ | ⟨h1, h2, q, p, st, z, hq, hs, hp, hf, e⟩
  ·have e0 : s.takeA a m = s := by unfold Lb.takeA; rw [e]; dsimp only; rw [upd_idP, List.append_nil]
   rw [e0]; exact h
  ·obtain ⟨q', hq'⟩ : ∃ q' : Rq, q' = { q with st := st, l := if k = 5 then v else q.l } := ⟨_, rfl⟩
   have hn' : q'.n = r := by rw [hq']; exact (rq_some hq).2
   have hst : q'.st = st := by rw [hq']
   rw [← hq'] at e
   have V := view_setA (s := s) ha (({ s.as a with L := setQ q' (s.as a).L } : Asr).tell q' z).1 (s.W ++ (({ s.as a with L := setQ q' (s.as a).L } : Asr).tell q' z).2) (q := q') (p := q) (by rw [hn']; exact hq) (tell_L _ _ _).1
   rw [hn'] at V
   have es : s.takeA a m = (⟨upd s.as a (({ s.as a with L := setQ q' (s.as a).L } : Asr).tell q' z).1, s.b, s.ls, s.W ++ (({ s.as a with L := setQ q' (s.as a).L } : Asr).tell q' z).2⟩ : Lb) := by unfold Lb.takeA; rw [e]
   rw [es]
   intro a1 r1 x hx
   by_cases e1 : a1 = a ∧ r1 = r
   ·obtain ⟨rfl, rfl⟩ := e1
    rw [V.2] at hx
    have hx := Option.some.inj hx
    subst hx
    have h5 := h a1 r1 q (by unfold Lb.view; dsimp only; rw [if_pos ha]; exact hq)
    have := stp_some hs
    omega
   ·rw [V.1 a1 r1 e1] at hx; exact h a1 r1 x hx
theorem NF.kp (init : Int → List Int) : Kp init NF where
 tick := fun s h a r q hq => h a r q (by rw [tickM_view] at hq; exact hq)
 del := fun s m _ _ _ h => by
  unfold Lb.del
  split
  ·exact fun a r q hq => h a r q hq
  ·split
   ·exact fun a r q hq => (h.takeA (a := 1) (.inl rfl)) a r q hq
   ·split
    ·exact h.takeA (.inr rfl)
    ·split
     ·exact fun a r q hq => h a r q hq
     ·split
      ·exact fun a r q hq => h a r q hq
      ·exact h
theorem RG.st (hk : KS init s) (h : RG init a0 r0 NF s P) {q : Rq} (hq : (s.view a0 r0).q = some q) : q.st = 4 ∨ q.st = 7 := by
 have h1 := h.2.1.end_ hq
 have h2 := h.2.2.2 a0 r0 q hq
 have h3 := (hk.gi.di a0 r0).qr q hq
 omega
end
end Go.Proofs.YtdojgbpaheadnaaGreat

/- One request alone, plainly: how it begins. -/
namespace Go.Proofs.YtdojgbpaheadnaaGreat

def QT (r t : Int) (s : Lb) : Prop := ∃ q, (s.view 1 r).q = some q ∧ q.t = t
theorem QT.le {r t : Int} {s s' : Lb} (h : QT r t s) (hl : ∀ a r, (s.view a r).le (s'.view a r)) : QT r t s' := by
 obtain ⟨q, h1, h2⟩ := h
 obtain ⟨q', h3, h4, -⟩ := (hl 1 r).q q h1
 exact ⟨q', h3, h4.trans h2⟩
theorem QT.del {init : Int → List Int} {r t : Int} {s : Lb} {m : Msg} (hk : KS init s) (hm : m ∈ s.W) (h : QT r t s) : QT r t (s.del m) := by
 have hv := hk.gi.mv m hm
 unfold Lb.del
 split
 ·exact h.le (hk.gi.takeB hv).2
 ·split
  ·have hk1 := hk.takeA (a := 1) (.inl rfl) hm
   exact (h.le (hk.gi.takeA (a := 1) (.inl rfl) hv).2).le (hk1.gi.takeL (.inr (.inr rfl)) (hk1.gi.mv m (by show m ∈ s.W ++ _; exact List.mem_append.2 (.inl hm)))).2
  ·split
   ·exact h.le (hk.gi.takeA (a := 2) (.inr rfl) hv).2
   ·split
    ·exact h.le (hk.gi.takeL (.inl rfl) hv).2
    ·split
     ·exact h.le (hk.gi.takeL (.inr (.inl rfl)) hv).2
     ·exact h
theorem QT.kp (init : Int → List Int) (r t : Int) : Kp init (QT r t) where
 tick := fun s h => by obtain ⟨q, h1, h2⟩ := h; exact ⟨q, by rw [tickM_view]; exact h1, h2⟩
 del := fun s m hk hm _ h => h.del hk hm
def RO (rt : List Int) (s : Lb) : Prop := s.b.rota = rt
theorem take_rota (b : Brk) (m : Msg) : (b.take m).1.rota = b.rota := by
 unfold Brk.take
 repeat' split
 all_goals rfl
theorem RO.kp (init : Int → List Int) (rt : List Int) : Kp init (RO rt) where
 tick := fun s h => by
  show (tickB s.b s.b.L).1.rota = rt
  rw [(tickB_sameP s.b.L s.b).2.2]; exact h
 del := fun s m _ _ _ h => by
  unfold Lb.del
  split
  ·show (s.b.take m).1.rota = rt
   rw [take_rota]; exact h
  ·repeat' split
   all_goals exact h
def E1 (rt : List Int) (r t : Int) (s : Lb) : Prop := (NF s ∧ QT r t s) ∧ RO rt s
theorem E1.kp (init : Int → List Int) (rt : List Int) (r t : Int) : Kp init (E1 rt r t) := ((NF.kp init).and (QT.kp init r t)).and (RO.kp init rt)
section
variable {init : Int → List Int} {s : Lb} {P : List Pc} {E : Lb → Prop} {rt : List Int} {r t : Int}
theorem RG.weak {E' : Lb → Prop} {a0 r0 : Int} (h : RG init a0 r0 E s P) (hE : ∀ s, E s → E' s) : RG init a0 r0 E' s P := ⟨h.1, h.2.1, h.2.2.1, hE s h.2.2.2⟩
theorem view_state {q : Rq} (hq : (s.view 1 r).q = some q) : (s.as 1).state r = q.st := by
 unfold Lb.view at hq
 dsimp only at hq
 rw [if_pos (.inl rfl)] at hq
 unfold Asr.state
 rw [hq]
theorem RG.fin1 (hk : KS init s) (h : RG init 1 r (E1 rt r t) s P) : ∃ q, (s.view 1 r).q = some q ∧ q.t = t ∧ (s.as 1).state r = q.st ∧ ((q.st = 4 ∧ whoL init rt 1 r t = some q.l) ∨ (q.st = 7 ∧ whoL init rt 1 r t = none)) := by
 obtain ⟨q, h1, h2⟩ := h.2.2.2.1.2
 have hr : s.b.rota = rt := h.2.2.2.2
 have hw := h.2.2.1.who hk h1
 rw [hr, h2] at hw
 refine ⟨q, h1, h2, view_state h1, ?_⟩
 rcases (h.weak (E' := NF) fun s h => h.1.1).st hk h1 with h4 | h7
 ·exact .inl ⟨h4, hw.1 (by omega) (by omega)⟩
 ·exact .inr ⟨h7, hw.2 h7⟩
end
theorem start_ask {rt h3 h4 h1 : List Int} {n t : Int} (hn : 1 ≤ n) (ht : 1 ≤ t) : ((Lb.start rt h3 h4 h1).as 1).ask n t = ((⟨1, 4, 1, [⟨n, t, 1, 0⟩]⟩, [mesg 1 0 0 1 1 n t]), 0) := by
 show (⟨1, 4, 0, []⟩ : Asr).ask n t = _
 unfold Asr.ask
 rw [if_neg (by omega)]
 simp [rq, many, insQ, Asr.tell]
theorem start_ask_view {rt h3 h4 h1 : List Int} {n t : Int} (hn : 1 ≤ n) (ht : 1 ≤ t) (a r : Int) : ((Lb.start rt h3 h4 h1).ask 1 n t).view a r = ⟨if a = 1 ∧ r = n then some ⟨n, t, 1, 0⟩ else none, none, fun _ => none⟩ := by
 have h := start_view (r := rt) (h3 := h3) (h4 := h4) (h1 := h1) a r
 have es : (Lb.start rt h3 h4 h1).ask 1 n t = (⟨upd (Lb.start rt h3 h4 h1).as 1 ⟨1, 4, 1, [⟨n, t, 1, 0⟩]⟩, (Lb.start rt h3 h4 h1).b, (Lb.start rt h3 h4 h1).ls, (Lb.start rt h3 h4 h1).W ++ [mesg 1 0 0 1 1 n t]⟩ : Lb) := by unfold Lb.ask; rw [start_ask hn ht]
 rw [es]
 have hc := congrArg Dv.c h
 have hd := congrArg Dv.d h
 have hq := congrArg Dv.q h
 unfold Lb.view at hc hd hq ⊢
 dsimp only at hc hd hq ⊢
 rw [hc, hd]
 congr 1
 by_cases e : a = 1
 ·subst e
  rw [upd_self, if_pos (.inl rfl)]
  unfold rq
  by_cases e2 : r = n
  ·subst e2; simp
  ·rw [if_neg (fun h => e2 h.2)]
   simp
   exact fun h => e2 h.symm
 ·have e3 : ¬ (a = 1 ∧ r = n) := fun h => e h.1
  rw [upd_ne _ _ e, hq, if_neg e3]
theorem start_one {init : Int → List Int} {rt h3 h4 h1 : List Int} {n t : Int} (hn : 1 ≤ n) (ht : 1 ≤ t) : TI init 1 n ((Lb.start rt h3 h4 h1).ask 1 n t) ∧ E1 rt n t ((Lb.start rt h3 h4 h1).ask 1 n t) := by
 refine ⟨⟨fun a r q hq => ?_, fun c hc => ?_, fun L e he => ?_⟩, ⟨fun a r q hq => ?_, ⟨n, t, 1, 0⟩, ?_, rfl⟩, rfl⟩
 ·rw [start_ask_view hn ht] at hq
  dsimp only at hq
  split at hq
  ·assumption
  ·cases hq
 ·rw [start_ask_view hn ht] at hc; cases hc
 ·rw [start_ask_view hn ht] at he; cases he
 ·rw [start_ask_view hn ht] at hq
  dsimp only at hq
  split at hq
  ·have := Option.some.inj hq; subst this; exact .inl (by show (1 : Int) ≤ 4; omega)
  ·cases hq
 ·rw [start_ask_view hn ht]
  simp
end Go.Proofs.YtdojgbpaheadnaaGreat
