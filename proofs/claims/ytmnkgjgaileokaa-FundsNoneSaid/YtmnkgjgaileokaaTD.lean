/- Plain laws: alike funds stay alike. -/
import Derived.Test.YtmnkgjgaileokaaFW
namespace Go.Proofs.Ytmnkgjgaileokaa

theorem Alike.free {v v' : PV} (h : Alike v v') {x : Int} (hx : x ∈ v.ids) : v'.free x = v.free x := by
  unfold PV.free; rw [h.al x hx, h.sp x hx, h.en x hx]
theorem alike_put {v v' : PV} (h : Alike v v') (x p a : Int) : Alike (v.put x p a 0 0) (v'.put x p a 0 0) := by
  have key : ∀ (f f' : Int → Int) (c : Int), (∀ z ∈ v.ids, f' z = f z) → ∀ z ∈ v.ids ++ [x], upd f' x c z = upd f x c z := by
    intro f f' c hf z hz
    by_cases e : z = x
    · subst e; rw [upd_same, upd_same]
    · rw [upd_ne _ _ e, upd_ne _ _ e]
      rcases List.mem_append.1 hz with hz | hz
      · exact hf z hz
      · exact absurd (by simpa using hz) e
  refine ⟨by show v'.m + a = v.m + a; rw [h.m], by show v'.ids ++ [x] = v.ids ++ [x]; rw [h.ids], key _ _ _ h.pa, key _ _ _ h.al, key _ _ _ h.sp, key _ _ _ h.en, fun z hz => ?_⟩
  show (if z = x then [] else v'.kids z) = if z = x then [] else v.kids z
  by_cases e : z = x
  · rw [if_pos e, if_pos e]
  · rw [if_neg e, if_neg e]
    rcases List.mem_append.1 hz with hz | hz
    · exact h.kids z hz
    · exact absurd (by simpa using hz) e
theorem alike_link {v v' : PV} (h : Alike v v') {p : Int} (hp : p ∈ v.ids) (x : Int) : Alike (v.link p x) (v'.link p x) := by
  refine ⟨h.m, h.ids, h.pa, h.al, h.sp, h.en, fun z hz => ?_⟩
  show (if z = p then v'.kids p ++ [x] else v'.kids z) = if z = p then v.kids p ++ [x] else v.kids z
  by_cases e : z = p
  · rw [if_pos e, if_pos e, h.kids p hp]
  · rw [if_neg e, if_neg e, h.kids z hz]
theorem alike_add {v v' : PV} (h : Alike v v') (x p a : Int) : (v'.add x p a).1 = (v.add x p a).1 ∧ Alike (v.add x p a).2 (v'.add x p a).2 := by
  unfold PV.add
  rw [h.ids, h.m]
  split
  · exact ⟨rfl, h⟩
  split
  · exact ⟨rfl, h⟩
  split
  · exact ⟨rfl, h⟩
  split
  · exact ⟨rfl, h⟩
  refine ⟨rfl, ?_⟩
  show Alike (if p ∈ v.ids then (v.put x p a 0 0).link p x else v.put x p a 0 0) (if p ∈ v.ids then (v'.put x p a 0 0).link p x else v'.put x p a 0 0)
  by_cases hp : p ∈ v.ids
  · rw [if_pos hp, if_pos hp]
    exact alike_link (alike_put h x p a) (List.mem_append.2 (.inl hp)) x
  · rw [if_neg hp, if_neg hp]
    exact alike_put h x p a
theorem alike_upd {ids : List Int} {f f' : Int → Int} {x c c' : Int} (h : ∀ z ∈ ids, f' z = f z) (e : c' = c) : ∀ z ∈ ids, upd f' x c' z = upd f x c z := by
  intro z hz
  rw [e]
  by_cases e2 : z = x
  · subst e2; rw [upd_same, upd_same]
  · rw [upd_ne _ _ e2, upd_ne _ _ e2]; exact h z hz
theorem alike_move {v v' : PV} (h : Alike v v') (a b n : Int) : (v'.move a b n).1 = (v.move a b n).1 ∧ Alike (v.move a b n).2 (v'.move a b n).2 := by
  unfold PV.move
  rw [h.ids]
  split
  · exact ⟨rfl, h⟩
  rename_i h1
  have ha : a ∈ v.ids := Classical.byContradiction fun e => h1 (.inl e)
  have hb : b ∈ v.ids := Classical.byContradiction fun e => h1 (.inr e)
  rw [h.free ha]
  split
  · exact ⟨rfl, h⟩
  split
  · exact ⟨rfl, h⟩
  exact ⟨rfl, h.m, rfl, h.pa, alike_upd (alike_upd h.al (by rw [h.al a ha])) (by rw [h.al b hb]), h.sp, h.en, h.kids⟩
theorem alike_enc {v v' : PV} (h : Alike v v') (x n : Int) : (v'.enc x n).1 = (v.enc x n).1 ∧ Alike (v.enc x n).2 (v'.enc x n).2 := by
  unfold PV.enc
  rw [h.ids]
  split
  · exact ⟨rfl, h⟩
  rename_i h1
  have hx : x ∈ v.ids := Classical.byContradiction h1
  rw [h.free hx]
  split
  · exact ⟨rfl, h⟩
  split
  · exact ⟨rfl, h⟩
  exact ⟨rfl, h.m, rfl, h.pa, h.al, h.sp, alike_upd h.en (by rw [h.en x hx]), h.kids⟩
theorem alike_rel {v v' : PV} (h : Alike v v') (x n : Int) : (v'.rel x n).1 = (v.rel x n).1 ∧ Alike (v.rel x n).2 (v'.rel x n).2 := by
  unfold PV.rel
  rw [h.ids]
  split
  · exact ⟨rfl, h⟩
  rename_i h1
  have hx : x ∈ v.ids := Classical.byContradiction h1
  rw [h.en x hx]
  split
  · exact ⟨rfl, h⟩
  split
  · exact ⟨rfl, h⟩
  exact ⟨rfl, h.m, rfl, h.pa, h.al, h.sp, alike_upd h.en rfl, h.kids⟩
theorem alike_spend {v v' : PV} (h : Alike v v') (x n : Int) : (v'.spend x n).1 = (v.spend x n).1 ∧ Alike (v.spend x n).2 (v'.spend x n).2 := by
  unfold PV.spend
  rw [h.ids]
  split
  · exact ⟨rfl, h⟩
  rename_i h1
  have hx : x ∈ v.ids := Classical.byContradiction h1
  rw [h.free hx]
  split
  · exact ⟨rfl, h⟩
  split
  · exact ⟨rfl, h⟩
  exact ⟨rfl, h.m, rfl, h.pa, h.al, alike_upd h.sp (by rw [h.sp x hx]), h.en, h.kids⟩
theorem sub_congr {ids : List Int} {kids kids' : Int → List Int} (h : ∀ z ∈ ids, kids' z = kids z) (hk : ∀ x ∈ ids, ∀ y ∈ kids x, y ∈ ids ∧ y ≠ x) : ∀ (n : Nat) (x : Int), x ∈ ids → sub kids' n x = sub kids n x ∧ ∀ u ∈ sub kids n x, u ∈ ids
  | 0, x, _ => ⟨rfl, fun u hu => by simp [sub] at hu⟩
  | n + 1, x, hx => by
    have e : sub kids' (n + 1) x = sub kids (n + 1) x := by
      show (kids' x).flatMap _ = (kids x).flatMap _
      rw [h x hx, List.flatMap_def, List.flatMap_def, List.map_congr_left fun y hy => by rw [(sub_congr h hk n y (hk x hx y hy).1).1]]
    refine ⟨e, fun u hu => ?_⟩
    obtain ⟨y, hy, hu⟩ := List.mem_flatMap.1 hu
    rcases List.mem_cons.1 hu with rfl | hu
    · exact (hk x hx u hy).1
    · exact (sub_congr h hk n y (hk x hx y hy).1).2 u hu
theorem alike_sum {v v' : PV} (h : Alike v v') : (v'.ids.map v'.sp).sum = (v.ids.map v.sp).sum := by rw [h.ids]; exact sum_congr h.sp
theorem alike_closeAl {v v' : PV} (hg : Good v) (h : Alike v v') {z : Int} (hz : z ∈ v.ids) : v'.closeAl z = v.closeAl z := by
  unfold PV.closeAl
  obtain ⟨e, hu⟩ := sub_congr h.kids hg.fix.kin v.ids.length z hz
  rw [h.pa z hz, h.al z hz, h.sp z hz, h.en z hz, h.ids, e, sum_congr (f := fun u => v'.al u - v'.sp u - v'.en u) (g := fun u => v.al u - v.sp u - v.en u) fun u h' => by rw [h.al u (hu u h'), h.sp u (hu u h'), h.en u (hu u h')]]
theorem alike_close {v v' u u' : PV} (hg : Good v) (hg' : Good v') (h : Alike v v') (c : Closed v u) (c' : Closed v' u') : Alike u u' := by
  refine ⟨by rw [c.m, c'.m, h.m, alike_sum h], by rw [c.ids, c'.ids, h.ids], fun z hz => ?_, fun z hz => ?_, fun z hz => ?_, fun z hz => ?_, fun z hz => ?_⟩
  all_goals rw [c.ids] at hz
  · rw [c.pa, c'.pa]; exact h.pa z hz
  · rw [(closed_al hg c z hz).2, (closed_al hg' c' z (by rw [h.ids]; exact hz)).2]; exact alike_closeAl hg h hz
  · rw [(closed_al hg c z hz).1, (closed_al hg' c' z (by rw [h.ids]; exact hz)).1]
  · rw [c.en, c'.en]; exact h.en z hz
  · rw [c.kids, c'.kids]; exact h.kids z hz
theorem alike_do {v v' u u' : PV} {a : Act4} (hg : Good v) (hg' : Good v') (h : Alike v v') (hd : DoR v a u) (hd' : DoR v' a u') : doC v' a = doC v a ∧ Alike u u' := by
  unfold DoR at hd hd'
  unfold doC
  split at hd
  · rename_i k; rw [if_pos k] at hd' ⊢; rw [if_pos k, hd, hd']; exact alike_add h _ _ _
  rename_i k; rw [if_neg k] at hd' ⊢; rw [if_neg k]
  split at hd
  · rename_i k; rw [if_pos k] at hd' ⊢; rw [if_pos k, hd, hd']; exact alike_move h _ _ _
  rename_i k; rw [if_neg k] at hd' ⊢; rw [if_neg k]
  split at hd
  · rename_i k; rw [if_pos k] at hd' ⊢; rw [if_pos k, hd, hd']; exact alike_enc h _ _
  rename_i k; rw [if_neg k] at hd' ⊢; rw [if_neg k]
  split at hd
  · rename_i k; rw [if_pos k] at hd' ⊢; rw [if_pos k, hd, hd']; exact alike_rel h _ _
  rename_i k; rw [if_neg k] at hd' ⊢; rw [if_neg k]
  split at hd
  · rename_i k; rw [if_pos k] at hd' ⊢; rw [if_pos k, hd, hd']; exact alike_spend h _ _
  rename_i k; rw [if_neg k] at hd' ⊢; rw [if_neg k]
  exact ⟨alike_sum h, alike_close hg hg' h hd hd'⟩
theorem acts_good {v : PV} (hg : Good v) {l : List Act4} {u : PV} (h : Acts v l u) (hi : ∀ a ∈ l, In64 a) : Good u := by
  induction h with
  | nil => exact hg
  | snoc h1 h2 ih => exact do_good (ih fun a ha => hi a (List.mem_append.2 (.inl ha))) (hi _ (List.mem_append.2 (.inr (by simp)))) h2
theorem acts_inv {v : PV} {l : List Act4} {u : PV} (h : Acts v l u) : (l = [] ∧ u = v) ∨ ∃ m a x, l = m ++ [a] ∧ Acts v m x ∧ DoR x a u := by
  cases h with
  | nil => exact .inl ⟨rfl, rfl⟩
  | snoc h1 h2 => exact .inr ⟨_, _, _, rfl, h1, h2⟩
theorem alike_acts {v : PV} (hg : Good v) {l : List Act4} {u u' : PV} (hi : ∀ a ∈ l, In64 a) (h : Acts v l u) : Acts v l u' → Alike u u' := by
  induction h generalizing u' with
  | nil =>
    intro h'
    rcases acts_inv h' with ⟨_, e⟩ | ⟨m, a, x, e, _⟩
    · rw [e]; exact alike_refl v
    · exact absurd e.symm (by simp)
  | snoc h1 h2 ih =>
    rename_i l a x y
    intro h'
    rcases acts_inv h' with ⟨e, _⟩ | ⟨m, b, z, e, k1, k2⟩
    · exact absurd e (by simp)
    · obtain ⟨rfl, e⟩ := List.append_inj' e rfl
      obtain rfl : a = b := by simpa using e
      have hi' : ∀ a ∈ l, In64 a := fun a ha => hi a (List.mem_append.2 (.inl ha))
      exact (alike_do (acts_good hg h1 hi') (acts_good hg k1 hi') (ih hi' k1) h2 k2).2
end Go.Proofs.Ytmnkgjgaileokaa
