/- Plain laws: what holds of funds between the calls goes on holding. -/
import Derived.Test.YtmnkgjgaileokaaFI
namespace Go.Proofs.Ytmnkgjgaileokaa
open Go.RowKit

theorem good_new (b : Nat) : Good (FS.new b).pv where
  fix := ⟨List.nodup_nil, (by intro _ h; cases h), (by intro _ h; cases h), (by intro _ h; cases h), (by intro _ h; cases h), (by intro _ h; cases h)⟩
  bal := ⟨(by intro _ h; cases h), by show (0 : Int) ≤ _; omega⟩
  sum := rfl
  deep := (by intro _ h; cases h)
  len := by show (0 : Nat) ≤ _; omega
  kid := (by intro _ h; cases h)
  par := (by intro _ h; cases h)
theorem good_move {v : PV} (h : Good v) (a b n : Int) : Good (v.move a b n).2 ∧ (v.move a b n).2.ids = v.ids ∧ (v.move a b n).2.m = v.m := by
  unfold PV.move
  split
  · exact ⟨h, rfl, rfl⟩
  split
  · exact ⟨h, rfl, rfl⟩
  split
  · exact ⟨h, rfl, rfl⟩
  rename_i h1 h2 h3
  obtain ⟨ha, hb⟩ : a ∈ v.ids ∧ b ∈ v.ids := by
    constructor
    · exact Classical.byContradiction fun e => h1 (.inl e)
    · exact Classical.byContradiction fun e => h1 (.inr e)
  have hab : b ≠ a := fun e => h2 (.inr e.symm)
  have hn : 1 ≤ n := by omega
  have hf : n ≤ v.al a - v.sp a - v.en a := by unfold PV.free at h3; omega
  have hs : (v.ids.map (upd (upd v.al a (v.al a - n)) b (v.al b + n))).sum = (v.ids.map v.al).sum := by
    rw [sum_upd _ _ _ _ h.fix.nd hb, sum_upd _ _ _ _ h.fix.nd ha, upd_ne _ _ hab]; omega
  refine ⟨⟨h.fix, ⟨fun z hz => ?_, by show (v.ids.map (upd (upd v.al a (v.al a - n)) b (v.al b + n))).sum ≤ _; rw [hs]; exact h.bal.sum⟩, by show v.m = (v.ids.map (upd (upd v.al a (v.al a - n)) b (v.al b + n))).sum; rw [hs]; exact h.sum, h.deep, h.len, h.kid, h.par⟩, rfl, rfl⟩
  show v.sp z + v.en z ≤ upd (upd v.al a (v.al a - n)) b (v.al b + n) z
  have hz' := h.bal.le z hz
  by_cases e : z = b
  · subst e; rw [upd_same]; omega
  · rw [upd_ne _ _ e]
    by_cases e2 : z = a
    · subst e2; rw [upd_same]; omega
    · rw [upd_ne _ _ e2]; exact hz'
theorem good_enc {v : PV} (h : Good v) (x n : Int) : Good (v.enc x n).2 ∧ (v.enc x n).2.ids = v.ids ∧ (v.enc x n).2.m = v.m := by
  unfold PV.enc
  split
  · exact ⟨h, rfl, rfl⟩
  split
  · exact ⟨h, rfl, rfl⟩
  split
  · exact ⟨h, rfl, rfl⟩
  rename_i h1 h2 h3
  have hx : x ∈ v.ids := Classical.byContradiction h1
  have hf : n ≤ v.al x - v.sp x - v.en x := by unfold PV.free at h3; omega
  have e0 := h.fix.en x hx
  refine ⟨⟨⟨h.fix.nd, h.fix.sp, fun z hz => ?_, h.fix.idb, h.fix.kin, h.fix.kl⟩, ⟨fun z hz => ?_, h.bal.sum⟩, h.sum, h.deep, h.len, h.kid, h.par⟩, rfl, rfl⟩
  · show 0 ≤ upd v.en x (v.en x + n) z
    by_cases e : z = x
    · subst e; rw [upd_same]; omega
    · rw [upd_ne _ _ e]; exact h.fix.en z hz
  · show v.sp z + upd v.en x (v.en x + n) z ≤ v.al z
    by_cases e : z = x
    · subst e; rw [upd_same]; omega
    · rw [upd_ne _ _ e]; exact h.bal.le z hz
theorem good_rel {v : PV} (h : Good v) (x n : Int) : Good (v.rel x n).2 ∧ (v.rel x n).2.ids = v.ids ∧ (v.rel x n).2.m = v.m := by
  unfold PV.rel
  split
  · exact ⟨h, rfl, rfl⟩
  split
  · exact ⟨h, rfl, rfl⟩
  split
  · exact ⟨h, rfl, rfl⟩
  rename_i h1 h2 h3
  have hx : x ∈ v.ids := Classical.byContradiction h1
  have e1 := h.bal.le x hx
  refine ⟨⟨⟨h.fix.nd, h.fix.sp, fun z hz => ?_, h.fix.idb, h.fix.kin, h.fix.kl⟩, ⟨fun z hz => ?_, h.bal.sum⟩, h.sum, h.deep, h.len, h.kid, h.par⟩, rfl, rfl⟩
  · show 0 ≤ upd v.en x (v.en x - n) z
    by_cases e : z = x
    · subst e; rw [upd_same]; omega
    · rw [upd_ne _ _ e]; exact h.fix.en z hz
  · show v.sp z + upd v.en x (v.en x - n) z ≤ v.al z
    by_cases e : z = x
    · subst e; rw [upd_same]; omega
    · rw [upd_ne _ _ e]; exact h.bal.le z hz
theorem good_spend {v : PV} (h : Good v) (x n : Int) : Good (v.spend x n).2 ∧ (v.spend x n).2.ids = v.ids ∧ (v.spend x n).2.m = v.m := by
  unfold PV.spend
  split
  · exact ⟨h, rfl, rfl⟩
  split
  · exact ⟨h, rfl, rfl⟩
  split
  · exact ⟨h, rfl, rfl⟩
  rename_i h1 h2 h3
  have hx : x ∈ v.ids := Classical.byContradiction h1
  have hf : n ≤ v.al x - v.sp x - v.en x := by unfold PV.free at h3; omega
  have e0 := h.fix.sp x hx
  refine ⟨⟨⟨h.fix.nd, fun z hz => ?_, h.fix.en, h.fix.idb, h.fix.kin, h.fix.kl⟩, ⟨fun z hz => ?_, h.bal.sum⟩, h.sum, h.deep, h.len, h.kid, h.par⟩, rfl, rfl⟩
  · show 0 ≤ upd v.sp x (v.sp x + n) z
    by_cases e : z = x
    · subst e; rw [upd_same]; omega
    · rw [upd_ne _ _ e]; exact h.fix.sp z hz
  · show upd v.sp x (v.sp x + n) z + v.en z ≤ v.al z
    by_cases e : z = x
    · subst e; rw [upd_same]; omega
    · rw [upd_ne _ _ e]; exact h.bal.le z hz
/-- Lifting keeps the sum. -/
theorem stepA_sum {ids : List Int} {sp en al : Int → Int} {x y : Int} (hnd : ids.Nodup) (hx : x ∈ ids) (hy : y ∈ ids) (hne : y ≠ x) : (ids.map (stepA sp en al x y)).sum = (ids.map al).sum := by
  unfold stepA
  rw [sum_upd _ _ _ _ hnd hx, sum_upd _ _ _ _ hnd hy, upd_ne _ _ (Ne.symm hne)]
  omega
theorem liftA_sum {ids : List Int} {sp en : Int → Int} {kids : Int → List Int} (f : Fix ids sp en kids) : ∀ (n : Nat) (al : Int → Int) (x : Int), x ∈ ids → (ids.map (liftA kids sp en n al x)).sum = (ids.map al).sum := by
  intro n
  induction n with
  | zero => intro al x _; rfl
  | succ n ih =>
    intro al x hx
    show (ids.map ((kids x).foldl _ al)).sum = _
    have key : ∀ l : List Int, (∀ y ∈ l, y ∈ ids ∧ y ≠ x) → ∀ al, (ids.map (l.foldl (fun al y => stepA sp en (liftA kids sp en n al y) x y) al)).sum = (ids.map al).sum := by
      intro l
      induction l with
      | nil => intro _ al; rfl
      | cons y l ihl =>
        intro hl al
        rw [List.foldl_cons, ihl (fun z hz => hl z (by simp [hz])), stepA_sum f.nd hx (hl y (by simp)).1 (hl y (by simp)).2, ih al y (hl y (by simp)).1]
    exact key _ (f.kin x hx) al
theorem good_close {v v' : PV} (h : Good v) (c : Closed v v') : Good v' ∧ v'.ids = v.ids ∧ v'.m = v.m - (v.ids.map v.sp).sum := by
  obtain ⟨l, hl1, hl2, hl3⟩ := c.al
  have f0 : Fix v.ids (fun _ => 0) v.en v.kids := ⟨h.fix.nd, fun _ _ => Int.le_refl _, h.fix.en, h.fix.idb, h.fix.kin, h.fix.kl⟩
  have b0 : Bal v.ids (fun _ => 0) v.en (fun z => v.al z - v.sp z) := ⟨fun z hz => by have := h.bal.le z hz; show 0 + v.en z ≤ v.al z - v.sp z; omega,
        Int.le_trans (sum_mono _ fun z hz => by have := h.fix.sp z hz; show v.al z - v.sp z ≤ v.al z; omega) h.bal.sum⟩
  have hfold : ∀ (l : List Int) (al : Int → Int), (∀ z ∈ l, z ∈ v.ids) → Bal v.ids (fun _ => 0) v.en al → Bal v.ids (fun _ => 0) v.en (l.foldl (fun al x => liftA v.kids (fun _ => 0) v.en v.ids.length al x) al) ∧
      (v.ids.map (l.foldl (fun al x => liftA v.kids (fun _ => 0) v.en v.ids.length al x) al)).sum = (v.ids.map al).sum := by
    intro l
    induction l with
    | nil => intro al _ hb; exact ⟨hb, rfl⟩
    | cons a l ih =>
      intro al hal hb
      have := ih _ (fun z hz => hal z (by simp [hz])) (liftA_bal f0 v.ids.length al a (hal a (by simp)) hb)
      exact ⟨this.1, this.2.trans (liftA_sum f0 _ _ _ (hal a (by simp)))⟩
  obtain ⟨hb1, hs1⟩ := hfold l _ (fun z hz => ((hl2 z).1 hz).1) b0
  have e1 : v.ids.map v'.al = v.ids.map (l.foldl (fun al x => liftA v.kids (fun _ => 0) v.en v.ids.length al x) (fun z => v.al z - v.sp z)) := List.map_congr_left fun z hz => (hl3 z hz).2
  have hdiff : ∀ ids : List Int, (ids.map fun z => v.al z - v.sp z).sum = (ids.map v.al).sum - (ids.map v.sp).sum := by
    intro ids
    induction ids with
    | nil => rfl
    | cons a l ih => simp only [List.map_cons, List.sum_cons, ih]; omega
  refine ⟨⟨?_, ?_, ?_, ?_, ?_, ?_, ?_⟩, c.ids, c.m⟩
  · rw [c.ids, c.en, c.kids]
    exact ⟨h.fix.nd, fun z hz => by rw [(hl3 z hz).1]; exact Int.le_refl _, h.fix.en, h.fix.idb, h.fix.kin, h.fix.kl⟩
  · rw [c.ids, c.en]
    refine ⟨fun z hz => ?_, by rw [e1]; exact hb1.sum⟩
    rw [(hl3 z hz).1, (hl3 z hz).2]; exact hb1.le z hz
  · rw [c.ids, c.m, e1, hs1, hdiff, ← h.sum]
  · rw [c.ids, c.kids]; exact h.deep
  · rw [c.ids]; exact h.len
  · rw [c.ids, c.kids, c.pa]; exact h.kid
  · rw [c.ids, c.pa]; exact h.par
theorem deep_nil {kids : Int → List Int} {x : Int} (h : kids x = []) : ∀ n, Deep kids n x
  | 0 => h
  | n + 1 => fun y hy => by rw [h] at hy; cases hy
theorem good_put {v : PV} (h : Good v) {x p a : Int} (hx : x ∉ v.ids) (hx1 : 1 ≤ x) (hx2 : x ≤ 9223372036854775807) (hp : p = 0 ∨ p ∈ v.ids) (ha : 0 ≤ a) (hm : a ≤ 1000000000000000 - v.m) (hl : v.ids.length < 10000) :
    Good (if p ∈ v.ids then (v.put x p a 0 0).link p x else v.put x p a 0 0) := by
  obtain ⟨v', hv'⟩ : ∃ v', v' = if p ∈ v.ids then (v.put x p a 0 0).link p x else v.put x p a 0 0 := ⟨_, rfl⟩
  rw [← hv']
  have hne : ∀ z ∈ v.ids, z ≠ x := fun z hz e => hx (e ▸ hz)
  have hpx : p ≠ x := fun e => by rcases hp with h1 | h1; omega; exact hx (e ▸ h1)
  have ids : v'.ids = v.ids ++ [x] := by rw [hv']; split <;> rfl
  have pa : v'.pa = upd v.pa x p := by rw [hv']; split <;> rfl
  have al : v'.al = upd v.al x a := by rw [hv']; split <;> rfl
  have sp : v'.sp = upd v.sp x 0 := by rw [hv']; split <;> rfl
  have en : v'.en = upd v.en x 0 := by rw [hv']; split <;> rfl
  have m : v'.m = v.m + a := by rw [hv']; split <;> rfl
  have kx : v'.kids x = [] := by
    rw [hv']; split
    · show (if x = p then _ else if x = x then _ else _) = _
      rw [if_neg (Ne.symm hpx), if_pos rfl]
    · exact if_pos rfl
  have ky : ∀ z, z ≠ x → v'.kids z = if p ∈ v.ids ∧ z = p then v.kids z ++ [x] else v.kids z := by
    intro z hz
    rw [hv']
    by_cases hpi : p ∈ v.ids
    · rw [if_pos hpi]
      show (if z = p then (if p = x then [] else v.kids p) ++ [x] else if z = x then [] else v.kids z) = _
      by_cases e : z = p
      · subst e; rw [if_pos rfl, if_neg hz, if_pos ⟨hpi, rfl⟩]
      · rw [if_neg e, if_neg hz, if_neg (fun h => e h.2)]
    · rw [if_neg hpi, if_neg (fun h => hpi h.1)]
      exact if_neg hz
  have mem : ∀ z, z ∈ v'.ids ↔ z ∈ v.ids ∨ z = x := fun z => by rw [ids]; simp
  have uo : ∀ (f : Int → Int) (c : Int), ∀ z ∈ v.ids, upd f x c z = f z := fun f c z hz => upd_ne _ _ (hne z hz)
  have hsum : (v'.ids.map v'.al).sum = (v.ids.map v.al).sum + a := by
    rw [ids, al, List.map_append, List.sum_append, List.map_congr_left (uo v.al a)]
    simp [upd_same]
  have hfil : ∀ y, v'.ids.filter (fun z => v'.pa z == y) = v.ids.filter (fun z => v.pa z == y) ++ if p = y then [x] else [] := by
    intro y
    rw [ids, pa, List.filter_append]
    congr 1
    · exact List.filter_congr fun z hz => by rw [upd_ne _ _ (hne z hz)]
    · by_cases e : p = y
      · subst e; simp [upd_same]
      · simp [upd_same, e]
  have hkid : ∀ y ∈ v'.ids, v'.kids y = v'.ids.filter fun z => v'.pa z == y := by
    intro y hy
    rw [hfil]
    rcases (mem y).1 hy with hy | rfl
    · rw [ky y (hne y hy), h.kid y hy]
      by_cases e : p = y
      · subst e; rw [if_pos ⟨hy, rfl⟩, if_pos rfl]
      · rw [if_neg (fun h => e h.2.symm), if_neg e, List.append_nil]
    · rw [kx, if_neg hpx, List.append_nil]
      symm
      rw [List.filter_eq_nil_iff]
      intro z hz e
      have e : v.pa z = y := by simpa using e
      rcases h.par z hz with h1 | h1
      · omega
      · rw [e] at h1; exact hx h1
  have hdeep : ∀ n y, y ∈ v.ids → Deep v.kids n y → Deep v'.kids (n + 1) y := by
    intro n
    induction n with
    | zero =>
      intro y hy hd z hz
      rw [ky y (hne y hy)] at hz
      have hd' : v.kids y = [] := hd
      split at hz
      · rw [hd'] at hz
        obtain rfl : z = x := by simpa using hz
        exact kx
      · rw [hd'] at hz; cases hz
    | succ n ih =>
      intro y hy hd z hz
      rw [ky y (hne y hy)] at hz
      split at hz
      · rcases List.mem_append.1 hz with h1 | h1
        · exact ih z (h.fix.kin y hy z h1).1 (hd z h1)
        · obtain rfl : z = x := by simpa using h1
          exact deep_nil kx _
      · exact ih z (h.fix.kin y hy z hz).1 (hd z hz)
  have hlen : v'.ids.length = v.ids.length + 1 := by rw [ids]; simp
  refine ⟨⟨?_, ?_, ?_, ?_, ?_, ?_⟩, ⟨?_, ?_⟩, ?_, ?_, ?_, hkid, ?_⟩
  · rw [ids]
    exact List.nodup_append.2 ⟨h.fix.nd, by simp, fun a ha b hb e => by obtain rfl : b = x := by simpa using hb
                                                                        exact hne a ha e⟩
  · intro z hz
    rw [sp]
    rcases (mem z).1 hz with h1 | rfl
    · rw [uo _ _ z h1]; exact h.fix.sp z h1
    · rw [upd_same]; omega
  · intro z hz
    rw [en]
    rcases (mem z).1 hz with h1 | rfl
    · rw [uo _ _ z h1]; exact h.fix.en z h1
    · rw [upd_same]; omega
  · intro z hz
    rcases (mem z).1 hz with h1 | rfl
    · exact h.fix.idb z h1
    · exact ⟨hx1, hx2⟩
  · intro y hy z hz
    rcases (mem y).1 hy with h1 | rfl
    · rw [ky y (hne y h1)] at hz
      split at hz
      · rcases List.mem_append.1 hz with h2 | h2
        · exact ⟨(mem z).2 (.inl (h.fix.kin y h1 z h2).1), (h.fix.kin y h1 z h2).2⟩
        · obtain rfl : z = x := by simpa using h2
          exact ⟨(mem z).2 (.inr rfl), fun e => hne y h1 e.symm⟩
      · exact ⟨(mem z).2 (.inl (h.fix.kin y h1 z hz).1), (h.fix.kin y h1 z hz).2⟩
    · rw [kx] at hz; cases hz
  · intro y hy
    rw [hkid y hy]
    have := List.length_filter_le (fun z => v'.pa z == y) v'.ids
    omega
  · intro z hz
    rw [sp, en, al]
    rcases (mem z).1 hz with h1 | rfl
    · rw [uo _ _ z h1, uo _ _ z h1, uo _ _ z h1]; exact h.bal.le z h1
    · rw [upd_same, upd_same, upd_same]; omega
  · rw [hsum, ← h.sum]; omega
  · rw [hsum, m, h.sum]
  · intro y hy
    rw [hlen]
    rcases (mem y).1 hy with h1 | rfl
    · exact hdeep _ y h1 (h.deep y h1)
    · exact deep_nil kx _
  · omega
  · intro z hz
    rw [pa]
    rcases (mem z).1 hz with h1 | rfl
    · rw [uo _ _ z h1]
      rcases h.par z h1 with h2 | h2
      · exact .inl h2
      · exact .inr ((mem _).2 (.inl h2))
    · rw [upd_same]
      rcases hp with h2 | h2
      · exact .inl h2
      · exact .inr ((mem _).2 (.inl h2))
theorem good_add {v : PV} (h : Good v) {x p a : Int} (hx2 : x ≤ 9223372036854775807) : Good (v.add x p a).2 ∧ ((v.add x p a).1 ≠ 0 → (v.add x p a).2 = v) ∧ ((v.add x p a).1 = 0 → (v.add x p a).2.m = v.m + a ∧ (v.add x p a).2.ids = v.ids ++ [x]) := by
  unfold PV.add
  split
  · exact ⟨h, fun _ => rfl, fun e => by cases e⟩
  split
  · exact ⟨h, fun _ => rfl, fun e => by cases e⟩
  split
  · exact ⟨h, fun _ => rfl, fun e => by cases e⟩
  split
  · exact ⟨h, fun _ => rfl, fun e => by cases e⟩
  rename_i h1 h2 h3 h4
  refine ⟨good_put h h2 (by omega) hx2 ?_ (by omega) (by omega) (by omega), fun e => absurd rfl e, fun _ => ?_⟩
  · by_cases e : p = 0
    · exact .inl e
    · exact .inr (Classical.byContradiction fun e2 => h3 ⟨e, e2⟩)
  · show (if p ∈ v.ids then (v.put x p a 0 0).link p x else v.put x p a 0 0).m = _ ∧ (if p ∈ v.ids then (v.put x p a 0 0).link p x else v.put x p a 0 0).ids = _
    split <;> exact ⟨rfl, rfl⟩
end Go.Proofs.Ytmnkgjgaileokaa
