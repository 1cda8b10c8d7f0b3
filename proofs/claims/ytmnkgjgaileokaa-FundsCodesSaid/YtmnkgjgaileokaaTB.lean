/- Plain laws of a year's end: what each fund has behind it. -/
import Derived.Test.YtmnkgjgaileokaaTA
namespace Go.Proofs.Ytmnkgjgaileokaa

section
variable {ids : List Int} {pa : Int → Int} {kids : Int → List Int}
theorem not_up (t : Tree ids pa kids) {n : Nat} {x y : Int} (hx : x ∈ ids) (hy : y ∈ ids) (hp : pa y = x) : x ∉ y :: sub kids n y := fun h => by
  obtain ⟨_, k, ha⟩ := own_anc t hy h
  exact no_round t _ x k hx (t.deep x hx) (anc_snoc k x y x ha hp hx)
theorem sum_congr {f g : Int → Int} {l : List Int} (h : ∀ z ∈ l, f z = g z) : (l.map f).sum = (l.map g).sum := by rw [List.map_congr_left h]
def fr (en al : Int → Int) (u : Int) : Int := al u - en u
/-- What lifting below x does. -/
def Lifted (en al al' : Int → Int) (x : Int) (l : List Int) : Prop :=
  al' x = al x + (l.map (fr en al)).sum ∧ (∀ z ∈ l, al' z = en z) ∧ ∀ z, z ≠ x → z ∉ l → al' z = al z
theorem lift_spec (t : Tree ids pa kids) (en : Int → Int) : ∀ (n : Nat) (al : Int → Int) (x : Int), x ∈ ids → Lifted en al (liftA kids (fun _ => 0) en n al x) x (sub kids n x) := by
  intro n
  induction n with
  | zero => intro al x _; exact ⟨by simp [liftA, sub], fun z hz => by simp [sub] at hz, fun z _ _ => rfl⟩
  | succ n ih =>
    intro al x hx
    have key : ∀ l : List Int, (∀ y ∈ l, y ∈ ids ∧ pa y = x) → l.Nodup → ∀ al, Lifted en al (l.foldl (fun al y => stepA (fun _ => 0) en (liftA kids (fun _ => 0) en n al y) x y) al) x (l.flatMap fun y => y :: sub kids n y) := by
      intro l
      induction l with
      | nil => intro _ _ al; exact ⟨by simp, fun z hz => by simp at hz, fun z _ _ => rfl⟩
      | cons y l ihl =>
        intro hl hn al
        obtain ⟨hn1, hn2⟩ := List.nodup_cons.1 hn
        obtain ⟨hy, hpy⟩ := hl y (by simp)
        have hxu := not_up t (n := n) hx hy hpy
        have hxy : x ≠ y := fun e => hxu (by simp [e])
        have hxs : x ∉ sub kids n y := fun e => hxu (by simp [e])
        obtain ⟨a1, a2, a3⟩ := ih al y hy
        obtain ⟨al1, h1⟩ : ∃ al1, liftA kids (fun _ => 0) en n al y = al1 := ⟨_, rfl⟩
        rw [h1] at a1 a2 a3
        obtain ⟨al2, h2⟩ : ∃ al2, stepA (fun _ => 0) en al1 x y = al2 := ⟨_, rfl⟩
        have b1 : al2 x = al x + ((y :: sub kids n y).map (fr en al)).sum := by
          rw [← h2]
          unfold stepA
          rw [upd_same, a3 x hxy hxs, a1]
          simp only [List.map_cons, List.sum_cons, fr]
          omega
        have b2 : ∀ z ∈ y :: sub kids n y, al2 z = en z := by
          intro z hz
          have hzx : z ≠ x := fun e => hxu (e ▸ hz)
          rw [← h2]
          unfold stepA
          rw [upd_ne _ _ hzx]
          by_cases e : z = y
          · subst e; rw [upd_same]; show al1 z - (al1 z - 0 - en z) = en z; omega
          · rw [upd_ne _ _ e]
            exact a2 z (by rcases List.mem_cons.1 hz with h | h; exact absurd h e; exact h)
        have b3 : ∀ z, z ≠ x → z ∉ y :: sub kids n y → al2 z = al z := by
          intro z hzx hz
          have hzy : z ≠ y := fun e => hz (by simp [e])
          rw [← h2]
          unfold stepA
          rw [upd_ne _ _ hzx, upd_ne _ _ hzy]
          exact a3 z hzy fun e => hz (by simp [e])
        obtain ⟨c1, c2, c3⟩ := ihl (fun z hz => hl z (by simp [hz])) hn2 al2
        have hdis : ∀ z ∈ l.flatMap (fun y => y :: sub kids n y), z ≠ x ∧ z ∉ y :: sub kids n y := by
          intro z hz
          obtain ⟨u, hu, hzu⟩ := List.mem_flatMap.1 hz
          obtain ⟨hui, hup⟩ := hl u (by simp [hu])
          exact ⟨fun e => not_up t (n := n) hx hui hup (e ▸ hzu), fun e => sub_apart t hy hui (hpy.trans hup.symm) (fun e => hn1 (e ▸ hu)) e hzu⟩
        rw [List.foldl_cons, h1, h2]
        refine ⟨?_, ?_, ?_⟩
        · rw [c1, b1, List.flatMap_cons, List.map_append, List.sum_append]
          rw [sum_congr (f := fr en al2) (g := fr en al) fun z hz => by unfold fr; rw [b3 z (hdis z hz).1 (hdis z hz).2]]
          omega
        · intro z hz
          by_cases hz2 : z ∈ l.flatMap fun y => y :: sub kids n y
          · exact c2 z hz2
          · rw [List.flatMap_cons] at hz
            rcases List.mem_append.1 hz with h | h
            · rw [c3 z (fun e => hxu (e ▸ h)) hz2]; exact b2 z h
            · exact absurd h hz2
        · intro z hzx hz
          rw [List.flatMap_cons] at hz
          rw [c3 z hzx (fun e => hz (List.mem_append.2 (.inr e)))]
          exact b3 z hzx fun e => hz (List.mem_append.2 (.inl e))
    exact key (kids x) (fun y hy => (t.mem hx).1 hy) (kids_nd t hx) al
/-- A root is below nothing. -/
theorem root_not_sub (t : Tree ids pa kids) {n : Nat} {x z : Int} (hx : x ∈ ids) (hz : pa z = 0) : z ∉ sub kids n x := fun h => by
  obtain ⟨_, k, hk, _, ha⟩ := sub_anc t n x z hx h
  match k, hk, ha with
  | k + 1, _, ha =>
    have := ha.1
    rw [hz] at this
    exact t.pos 0 this rfl
theorem roots_apart (t : Tree ids pa kids) {n : Nat} {r1 r2 z : Int} (h1 : r1 ∈ ids) (h2 : r2 ∈ ids) (p1 : pa r1 = 0) (p2 : pa r2 = 0) (hne : r1 ≠ r2) (hz1 : z ∈ sub kids n r1) (hz2 : z ∈ sub kids n r2) : False :=
  sub_apart t h1 h2 (p1.trans p2.symm) hne (List.mem_cons_of_mem _ hz1) (List.mem_cons_of_mem _ hz2)
theorem roots_spec (t : Tree ids pa kids) (en : Int → Int) (n : Nat) : ∀ (l : List Int), (∀ r ∈ l, r ∈ ids ∧ pa r = 0) → l.Nodup → ∀ al,
    (∀ z ∈ l, l.foldl (fun al x => liftA kids (fun _ => 0) en n al x) al z = al z + ((sub kids n z).map (fr en al)).sum) ∧
    (∀ z ∈ l.flatMap (sub kids n), l.foldl (fun al x => liftA kids (fun _ => 0) en n al x) al z = en z) ∧
    ∀ z, z ∉ l → z ∉ l.flatMap (sub kids n) → l.foldl (fun al x => liftA kids (fun _ => 0) en n al x) al z = al z := by
  intro l
  induction l with
  | nil => intro _ _ al; exact ⟨fun z hz => by simp at hz, fun z hz => by simp at hz, fun z _ _ => rfl⟩
  | cons r l ih =>
    intro hl hn al
    obtain ⟨hn1, hn2⟩ := List.nodup_cons.1 hn
    obtain ⟨hr, hpr⟩ := hl r (by simp)
    obtain ⟨a1, a2, a3⟩ := lift_spec t en n al r hr
    obtain ⟨al1, h1⟩ : ∃ al1, liftA kids (fun _ => 0) en n al r = al1 := ⟨_, rfl⟩
    rw [h1] at a1 a2 a3
    obtain ⟨c1, c2, c3⟩ := ih (fun z hz => hl z (by simp [hz])) hn2 al1
    rw [List.foldl_cons, h1]
    have hrl : ∀ z ∈ l, z ≠ r := fun z hz e => hn1 (e ▸ hz)
    have hfar : ∀ u ∈ l.flatMap (sub kids n), u ≠ r ∧ u ∉ sub kids n r := by
      intro u hu
      obtain ⟨q, hq, huq⟩ := List.mem_flatMap.1 hu
      obtain ⟨hqi, hqp⟩ := hl q (by simp [hq])
      exact ⟨fun e => root_not_sub t hqi hpr (e ▸ huq), fun e => roots_apart t hr hqi hpr hqp (fun e => hn1 (e ▸ hq)) e huq⟩
    refine ⟨fun z hz => ?_, fun z hz => ?_, fun z hz1 hz2 => ?_⟩
    · rcases List.mem_cons.1 hz with rfl | hz
      · rw [c3 z hn1 (fun e => (hfar z e).1 rfl), a1]
      · rw [c1 z hz, a3 z (hrl z hz) (root_not_sub t hr (hl z (by simp [hz])).2)]
        rw [sum_congr (f := fr en al1) (g := fr en al) fun u hu => by
          have := hfar u (List.mem_flatMap.2 ⟨z, hz, hu⟩)
          unfold fr; rw [a3 u this.1 this.2]]
    · by_cases h2 : z ∈ l.flatMap (sub kids n)
      · exact c2 z h2
      · rw [List.flatMap_cons] at hz
        rcases List.mem_append.1 hz with h | h
        · have hzr : z ∉ l := fun e => root_not_sub t hr (hl z (by simp [e])).2 h
          rw [c3 z hzr h2]; exact a2 z h
        · exact absurd h h2
    · rw [List.flatMap_cons] at hz2
      rw [c3 z (fun e => hz1 (by simp [e])) (fun e => hz2 (List.mem_append.2 (.inr e)))]
      exact a3 z (fun e => hz1 (by simp [e])) (fun e => hz2 (List.mem_append.2 (.inl e)))
/-- Every fund that is no root is below one. -/
theorem below_root (t : Tree ids pa kids) {z : Int} (hz : z ∈ ids) (hp : pa z ≠ 0) : ∃ r ∈ ids, pa r = 0 ∧ z ∈ sub kids ids.length r := by
  have climb : ∀ k : Nat, (∃ j r, j ≤ k ∧ r ∈ ids ∧ pa r = 0 ∧ Anc ids pa j z r) ∨ ∃ y, y ∈ ids ∧ Anc ids pa k z y := by
    intro k
    induction k with
    | zero => exact .inr ⟨z, hz, rfl⟩
    | succ k ih =>
      rcases ih with ⟨j, r, h1, h2⟩ | ⟨y, hy, ha⟩
      · exact .inl ⟨j, r, by omega, h2⟩
      · rcases t.par y hy with h | h
        · exact .inl ⟨k, y, by omega, hy, h, ha⟩
        · exact .inr ⟨pa y, h, anc_snoc k z y (pa y) ha rfl h⟩
  rcases climb (ids.length + 1) with ⟨j, r, hj, hr, hpr, ha⟩ | ⟨y, hy, ha⟩
  · obtain ⟨m, hm, _⟩ := anc_deep t j z r ids.length hz ha (t.deep r hr)
    rcases anc_sub t j ids.length z r hz hr ha (by omega) with e | e
    · exact absurd (e ▸ hpr) hp
    · exact ⟨r, hr, hpr, e⟩
  · obtain ⟨m, hm, _⟩ := anc_deep t _ z y ids.length hz ha (t.deep y hy)
    omega
theorem sub_deep : ∀ (n : Nat) (x : Int), Deep kids n x → sub kids (n + 1) x = sub kids n x
  | 0, x, h => by
    have h : kids x = [] := h
    simp [sub, h]
  | n + 1, x, h => by
    show (kids x).flatMap _ = (kids x).flatMap _
    rw [List.flatMap_def, List.flatMap_def, List.map_congr_left fun y hy => by rw [sub_deep n y (h y hy)]]
end
/-- What a fund has behind a year's end. -/
def PV.closeAl (v : PV) (z : Int) : Int := if v.pa z = 0 then v.al z - v.sp z + ((sub v.kids v.ids.length z).map fun u => v.al u - v.sp u - v.en u).sum else v.en z
theorem Good.tree' {v : PV} (h : Good v) : Tree v.ids v.pa v.kids := ⟨h.fix.nd, h.kid, h.par, h.deep, fun x hx => by have := h.fix.idb x hx; omega⟩
theorem closed_al {v v' : PV} (h : Good v) (c : Closed v v') : ∀ z ∈ v.ids, v'.sp z = 0 ∧ v'.al z = v.closeAl z := by
  obtain ⟨l, h1, h2, h3⟩ := c.al
  have t := h.tree'
  obtain ⟨r1, r2, r3⟩ := roots_spec t v.en v.ids.length l (fun r hr => (h2 r).1 hr) h1 (fun z => v.al z - v.sp z)
  intro z hz
  obtain ⟨e1, e2⟩ := h3 z hz
  refine ⟨e1, ?_⟩
  rw [e2]
  unfold PV.closeAl
  by_cases hp : v.pa z = 0
  · rw [if_pos hp]
    exact r1 z ((h2 z).2 ⟨hz, hp⟩)
  · rw [if_neg hp]
    obtain ⟨r, hr, hpr, hzr⟩ := below_root t hz hp
    exact r2 z (List.mem_flatMap.2 ⟨r, (h2 r).2 ⟨hr, hpr⟩, hzr⟩)
theorem sum_diff (f g k : Int → Int) : ∀ l : List Int, (l.map fun u => f u - g u - k u).sum = (l.map f).sum - (l.map g).sum - (l.map k).sum
  | [] => rfl
  | a :: l => by simp only [List.map_cons, List.sum_cons, sum_diff f g k l]; omega
/-- The total of a root behind a year's end. -/
theorem closed_tot {v v' : PV} (h : Good v) (c : Closed v v') {z : Int} (hz : z ∈ v.ids) (hp : v.pa z = 0) :
    totF v'.al v'.kids (v'.ids.length + 1) z = totF v.al v.kids (v.ids.length + 1) z - totF v.sp v.kids (v.ids.length + 1) z := by
  have t := h.tree'
  rw [c.kids, c.ids, totF_sub, totF_sub, totF_sub, sub_deep _ _ (h.deep z hz)]
  have e1 := (closed_al h c z hz).2
  have e2 : ((sub v.kids v.ids.length z).map v'.al).sum = ((sub v.kids v.ids.length z).map v.en).sum := sum_congr fun u hu => by
    obtain ⟨hui, _⟩ := sub_anc t _ z u hz hu
    rw [(closed_al h c u hui).2]
    unfold PV.closeAl
    rw [if_neg fun e => root_not_sub t hz e hu]
  rw [e1, e2]
  unfold PV.closeAl
  rw [if_pos hp, sum_diff]
  omega
/-- Two funds alike where they have funds. -/
structure Alike (v v' : PV) : Prop where
  m : v'.m = v.m
  ids : v'.ids = v.ids
  pa : ∀ z ∈ v.ids, v'.pa z = v.pa z
  al : ∀ z ∈ v.ids, v'.al z = v.al z
  sp : ∀ z ∈ v.ids, v'.sp z = v.sp z
  en : ∀ z ∈ v.ids, v'.en z = v.en z
  kids : ∀ z ∈ v.ids, v'.kids z = v.kids z
/-- Closing again changes nothing. -/
theorem closed_again {v v' v2 : PV} (h : Good v) (h' : Good v') (c : Closed v v') (c' : Closed v' v2) : (v'.ids.map v'.sp).sum = 0 ∧ Alike v' v2 := by
  have t := h.tree'
  have hs : (v'.ids.map v'.sp).sum = 0 := by
    rw [c.ids, sum_congr (g := fun _ => 0) fun z hz => (closed_al h c z hz).1]
    have : ∀ l : List Int, (l.map fun _ => (0 : Int)).sum = 0 := fun l => by induction l with | nil => rfl | cons a l ih => simp [ih]
    exact this _
  refine ⟨hs, by rw [c'.m, hs]; omega, c'.ids, fun z _ => by rw [c'.pa], fun z hz => ?_, fun z hz => ?_, fun z _ => by rw [c'.en], fun z _ => by rw [c'.kids]⟩
  · rw [(closed_al h' c' z hz).2]
    rw [c.ids] at hz
    unfold PV.closeAl
    rw [c.ids, c.kids, c.en, c.pa]
    by_cases hp : v.pa z = 0
    · rw [if_pos hp, (closed_al h c z hz).1]
      have : ((sub v.kids v.ids.length z).map fun u => v'.al u - v'.sp u - v.en u).sum = ((sub v.kids v.ids.length z).map fun _ => (0 : Int)).sum := sum_congr fun u hu => by
        obtain ⟨hui, _⟩ := sub_anc t _ z u hz hu
        obtain ⟨a1, a2⟩ := closed_al h c u hui
        rw [a1, a2]
        unfold PV.closeAl
        rw [if_neg fun e => root_not_sub t hz e hu]; omega
      rw [this]
      have h0 : ∀ l : List Int, (l.map fun _ => (0 : Int)).sum = 0 := fun l => by induction l with | nil => rfl | cons a l ih => simp [ih]
      rw [h0]; omega
    · rw [if_neg hp, (closed_al h c z hz).2]
      unfold PV.closeAl
      rw [if_neg hp]
  · have hz' := hz
    rw [c.ids] at hz
    rw [(closed_al h' c' z hz').1, (closed_al h c z hz).1]
end Go.Proofs.Ytmnkgjgaileokaa
