/- How the memory of try changes. -/
import Derived.Test.YtpcmppamkgkdlaaVC
import Derived.Test.YtpcmppamkgkdlaaUB
namespace Go.Proofs.Ytpcmppamkgkdlaa
open Go.RowKit

theorem row_cap {w : World} {B : Nat} {e : TypeId} {g n cap : Nat} {xs : List Value} (h : w.ownsRow B e 1 (.slice (some ⟨g, 0, none⟩) n cap) n xs) : n ≤ cap := by
  obtain ⟨h0, ⟨he, hn⟩ | ⟨g', c', cur, he, hg, hh, hn, hm, hcs, hx⟩⟩ := h
  · cases he
  · obtain ⟨rfl, rfl⟩ : g = g' ∧ cap = c' := by injection he with h1 h2 h3; injection h1 with h1; injection h1 with h1; exact ⟨h1, h3⟩
    omega
def TryF (t : TL) (nv : Value) (b : Nat) : Prop := b = t.sb ∨ b = t.ub ∨ nv.ownBlock = some b
def TryR (P : Prob) (t : TL) (L : List Wt) (n lC : Nat) (S U : Nat → Bool) (cp : Nat → Option Nat) (k : Nat) (nv : Value) (st : St) (w : World) (e : Ending) (w' : World) : Prop :=
  e = .returned (.tuple #[]) ∧ ∃ (nv' bv' : Value) (least' : Int) (st' : St), TryM P t L n lC S w' U cp k nv' bv' least' st' ∧ TryE P S cp k st st' ∧ Tn (TryF t nv) w w' ∧
    ∀ b, nv'.ownBlock = some b → nv.ownBlock = some b ∨ w.heap.size ≤ b
section
variable {P : Prob} {t : TL} {L : List Wt} {n lC : Nat} {S U U' : Nat → Bool} {cp cp' : Nat → Option Nat} {k k' : Nat} {nv nv' bv : Value} {least : Int} {st : St} {w w' w1 : World}
theorem BestAt.tn (h : BestAt P t w nv bv least st) (tn : Tn (TryF t nv) w w')
    (hn : ∀ b, nv'.ownBlock = some b → nv.ownBlock = some b ∨ w.heap.size ≤ b) : BestAt P t w' nv' bv least st := by
  cases st with
  | none => exact h
  | some g =>
    obtain ⟨h0, gb, cap, h1, h2, h3, h4, h5, h6, h7⟩ := h
    refine ⟨h0, gb, cap, h1, h2, h3, h4, fun e => ?_, by have := tn.size; omega, fun j hj => tn.cell (h7 j hj) fun e => ?_⟩
    · rcases hn gb e with h | h
      · exact h5 h
      · omega
    · rcases e with e | e | e
      · exact h3 e
      · exact h4 e
      · exact h5 e
theorem TryM.keep (h : TryM P t L n lC S w U cp k nv bv least st) (hb : Below w.heap.size w w') : TryM P t L n lC S w' U cp k nv bv least st :=
  ⟨h.blk.below hb h.blk.lt, h.used.below hb h.used.lt, (Tn.of_below (F := fun _ => False) hb).row h.now (fun _ _ => id), h.ne, fun j hj => by
    obtain ⟨vb, h1, h2, h3, h4, h5⟩ := h.srv j hj
    exact ⟨vb, h1, h2, h3, h4, Below.cellE hb h5⟩, h.best.tn (Tn.of_below hb) fun b e => .inl e⟩
theorem TryM.move (h : TryM P t L n lC S w U cp k nv bv least st) (tn : Tn (TryF t nv) w w') (hn : ∀ b, nv'.ownBlock = some b → nv.ownBlock = some b ∨ w.heap.size ≤ b)
    (hblk : Blk w' t.sb #[.slice t.aw L.length t.cw, .slice t.aa n t.ca, .slice t.ac lC t.cc, .slice t.sv L.length t.cs, .slice (some ⟨t.ub, 0, none⟩) n n, nv', .int .i64 (sumN (P.one cp') k'), bv, .int .i64 least] 70)
    (hused : Blk w' t.ub (encB U' n) 4) (hnow : w'.ownsRow t.B 3 1 nv' k' ((nowL cp' k').map (Value.int .i64))) : TryM P t L n lC S w' U' cp' k' nv' bv least st := by
  have l1 := h.blk.lt
  have l2 := h.used.lt
  obtain ⟨n1, n2, n3, n4, n5⟩ := h.ne
  refine ⟨hblk, hused, hnow, ⟨fun e => ?_, fun e => ?_, n3, n4, n5⟩, fun j hj => ?_, h.best.tn tn hn⟩
  · rcases hn _ e with h | h
    · exact n1 h
    · omega
  · rcases hn _ e with h | h
    · exact n2 h
    · omega
  · obtain ⟨vb, h1, h2, h3, h4, h5⟩ := h.srv j hj
    have := cell_lt h5
    refine ⟨vb, h1, h2, h3, fun e => ?_, tn.cell h5 fun e => ?_⟩
    · rcases hn _ e with h | h
      · exact h4 h
      · simp at this; omega
    · rcases e with e | e | e
      · exact h2 e
      · exact h3 e
      · exact h4 e
/-- The list has grown. -/
theorem TryM.push {w1 w2 w3 : World} {g cap : Nat} {x : Int} (h : TryM P t L n lC S w U cp k nv bv least st) (t1 : Tn (fun b => b = t.ub) w w1) (hu : Blk w1 t.ub (encB U' n) 4)
    (hrow : w2.ownsRow t.B 3 1 (.slice (some ⟨g, 0, none⟩) (k + 1) cap) (k + 1) ((nowL cp k).map (Value.int .i64) ++ [.int .i64 x])) (hx : x = oi (cp' k)) (hcp : ∀ j, j < k → cp j = cp' j)
    (hg : w1.grownBy w2 nv.ownBlock) (hat : nv.ownBlock = some g ∨ w.heap.size ≤ g)
    (t3 : Tn (fun b => b = t.sb) w2 w3) (hblk : Blk w3 t.sb #[.slice t.aw L.length t.cw, .slice t.aa n t.ca, .slice t.ac lC t.cc, .slice t.sv L.length t.cs, .slice (some ⟨t.ub, 0, none⟩) n n, .slice (some ⟨g, 0, none⟩) (k + 1) cap, .int .i64 (sumN (P.one cp') (k + 1)), bv, .int .i64 least] 70) :
    TryM P t L n lC S w3 U' cp' (k + 1) (.slice (some ⟨g, 0, none⟩) (k + 1) cap) bv least st ∧ Tn (TryF t nv) w w3 ∧ ∀ b, (Value.slice (some ⟨g, 0, none⟩) (k + 1) cap).ownBlock = some b → nv.ownBlock = some b ∨ w.heap.size ≤ b := by
  have hT : Tn (TryF t nv) w w3 := ((t1.mono fun b e => .inr (.inl e)).then_ (Tn.of_grown hg) fun b e => .inl (.inr (.inr e))).then_ t3 fun b e => .inl (.inl e)
  have hn : ∀ b, (Value.slice (some ⟨g, 0, none⟩) (k + 1) cap).ownBlock = some b → nv.ownBlock = some b ∨ w.heap.size ≤ b := fun b e => by
    obtain rfl : g = b := by injection e
    exact hat
  obtain ⟨n1, n2, n3, n4, n5⟩ := h.ne
  refine ⟨h.move hT hn hblk ?_ ?_, hT, hn⟩
  · exact t3.blk ((Tn.of_grown hg).blk hu n2) fun e => n3 e.symm
  · rw [nowL_succ, List.map_append, ← nowL_congr hcp, ← hx]
    refine t3.row hrow fun r hr e => ?_
    subst e
    rcases hn _ hr with h' | h'
    · exact n1 h'
    · have := h.blk.lt; omega
theorem TryM.push_skip {w2 : World} {g cap : Nat} (h : TryM P t L n lC S w U cp k nv bv least st) (hb : Below w.heap.size w w1) (hc : cp k = none)
    (hrow : w2.ownsRow t.B 3 1 (.slice (some ⟨g, 0, none⟩) (k + 1) cap) (k + 1) ((nowL cp k).map (Value.int .i64) ++ [.int .i64 (-1)]))
    (hg : w1.grownBy w2 nv.ownBlock) (hat : nv.ownBlock = some g ∨ w.heap.size ≤ g) :
    TryM P t L n lC S (w2.setCell ⟨t.sb, 5, none⟩ (.slice (some ⟨g, 0, none⟩) (k + 1) cap)) U cp (k + 1) (.slice (some ⟨g, 0, none⟩) (k + 1) cap) bv least st ∧ Tn (TryF t nv) w (w2.setCell ⟨t.sb, 5, none⟩ (.slice (some ⟨g, 0, none⟩) (k + 1) cap)) ∧
      ∀ b, (Value.slice (some ⟨g, 0, none⟩) (k + 1) cap).ownBlock = some b → nv.ownBlock = some b ∨ w.heap.size ≤ b := by
  refine h.push (w1 := w1) (w2 := w2) (Tn.of_below hb) (h.used.below hb h.used.lt) hrow (by rw [hc]; rfl) (fun _ _ => rfl) hg hat ((Tn.refl (fun b => b = t.sb) w2).setCell (p := ⟨t.sb, 5, none⟩) (.inl rfl) _) ?_
  have b2 := (Tn.of_grown hg).blk (h.blk.below hb h.blk.lt) h.ne.1
  have b3 := b2.set 5 (.slice (some ⟨g, 0, none⟩) (k + 1) cap)
  have e : sumN (P.one cp) (k + 1) = sumN (P.one cp) k := by
    have : P.one cp k = 0 := by unfold Prob.one; rw [hc]; rfl
    rw [sumN, this]; omega
  rw [e]
  exact b3.cast rfl
theorem TryM.push_take {w1 w2 : World} {g cap c : Nat} {s : Int} (h : TryM P t L n lC S w U cp k nv bv least st) (t1 : Tn (fun b => b = t.ub) w w1) (hu : Blk w1 t.ub (encB U' n) 4)
    (hrow : w2.ownsRow t.B 3 1 (.slice (some ⟨g, 0, none⟩) (k + 1) cap) (k + 1) ((nowL cp k).map (Value.int .i64) ++ [.int .i64 c])) (hs : s = sumN (P.one cp) k + P.cst k c)
    (hg : w1.grownBy w2 nv.ownBlock) (hat : nv.ownBlock = some g ∨ w.heap.size ≤ g) :
    TryM P t L n lC S ((w2.setCell ⟨t.sb, 5, none⟩ (.slice (some ⟨g, 0, none⟩) (k + 1) cap)).setCell ⟨t.sb, 6, none⟩ (.int .i64 s)) U' (upC cp k (some c)) (k + 1) (.slice (some ⟨g, 0, none⟩) (k + 1) cap) bv least st ∧
      Tn (TryF t nv) w ((w2.setCell ⟨t.sb, 5, none⟩ (.slice (some ⟨g, 0, none⟩) (k + 1) cap)).setCell ⟨t.sb, 6, none⟩ (.int .i64 s)) ∧
      ∀ b, (Value.slice (some ⟨g, 0, none⟩) (k + 1) cap).ownBlock = some b → nv.ownBlock = some b ∨ w.heap.size ≤ b := by
  have hkk : upC cp k (some c) k = some c := if_pos rfl
  refine h.push (w1 := w1) (w2 := w2) t1 hu hrow (by rw [hkk]; rfl) (fun j hj => by unfold upC; rw [if_neg (by omega)]) hg hat (((Tn.refl (fun b => b = t.sb) w2).setCell (p := ⟨t.sb, 5, none⟩) (.inl rfl) _).setCell (p := ⟨t.sb, 6, none⟩) (.inl rfl) _) ?_
  have b2 := (Tn.of_grown hg).blk (t1.blk h.blk h.ne.2.2.1) h.ne.1
  have b3 := (b2.set 5 (.slice (some ⟨g, 0, none⟩) (k + 1) cap)).set 6 (.int .i64 s)
  rw [sum_up, ← hs]
  exact b3.cast rfl
/-- The list is cut again. -/
theorem TryM.pop_skip {g cap : Nat} (h : TryM P t L n lC S w U cp (k + 1) (.slice (some ⟨g, 0, none⟩) (k + 1) cap) bv least st) (hc : cp k = none) :
    TryM P t L n lC S (w.setCell ⟨t.sb, 5, none⟩ (.slice (some ⟨g, 0, none⟩) k cap)) U cp k (.slice (some ⟨g, 0, none⟩) k cap) bv least st := by
  have hT : Tn (TryF t (.slice (some ⟨g, 0, none⟩) (k + 1) cap)) w (w.setCell ⟨t.sb, 5, none⟩ (.slice (some ⟨g, 0, none⟩) k cap)) := (Tn.refl _ w).setCell (p := ⟨t.sb, 5, none⟩) (.inl (.inl rfl)) _
  refine h.move hT (fun b e => .inl e) ?_ ?_ ?_
  · have e : sumN (P.one cp) (k + 1) = sumN (P.one cp) k := by
      have : P.one cp k = 0 := by unfold Prob.one; rw [hc]; rfl
      rw [sumN, this]; omega
    have b2 := h.blk.set 5 (.slice (some ⟨g, 0, none⟩) k cap)
    rw [e] at b2
    exact b2.cast rfl
  · exact h.used.set_ne _ _ fun e => h.ne.2.2.1 e.symm
  · have h1 := ownsRow_cut h.now (Nat.le_succ k)
    rw [← List.map_take, nowL_take] at h1
    exact ((Tn.refl (fun b => b = t.sb) w).setCell (p := ⟨t.sb, 5, none⟩) (.inl rfl) _).row h1 fun r hr e => by subst e; exact h.ne.1 hr
theorem TryM.pop_take {g cap c : Nat} {s : Int} (hcn : c < n) (hU : U' = upU U c true) (hUc : U c = false) (hcp : cp' = upC cp k (some c)) (h : TryM P t L n lC S w U' cp' (k + 1) (.slice (some ⟨g, 0, none⟩) (k + 1) cap) bv least st) (hs : s = sumN (P.one cp) k) :
    TryM P t L n lC S (((w.setCell ⟨t.sb, 6, none⟩ (.int .i64 s)).setCell ⟨t.sb, 5, none⟩ (.slice (some ⟨g, 0, none⟩) k cap)).setCell ⟨t.ub, c, none⟩ (.bool false)) U cp k (.slice (some ⟨g, 0, none⟩) k cap) bv least st := by
  have hT : Tn (fun b => b = t.sb ∨ b = t.ub) w (((w.setCell ⟨t.sb, 6, none⟩ (.int .i64 s)).setCell ⟨t.sb, 5, none⟩ (.slice (some ⟨g, 0, none⟩) k cap)).setCell ⟨t.ub, c, none⟩ (.bool false)) :=
    (((Tn.refl _ w).setCell (p := ⟨t.sb, 6, none⟩) (.inl (.inl rfl)) _).setCell (p := ⟨t.sb, 5, none⟩) (.inl (.inl rfl)) _).setCell (p := ⟨t.ub, c, none⟩) (.inl (.inr rfl)) _
  refine h.move (hT.mono fun b e => e.elim .inl fun e => .inr (.inl e)) (fun b e => .inl e) ?_ ?_ ?_
  · have b2 := ((h.blk.set 6 (.int .i64 s)).set 5 (.slice (some ⟨g, 0, none⟩) k cap)).set_ne ⟨t.ub, c, none⟩ (.bool false) h.ne.2.2.1
    rw [← hs]
    exact b2.cast rfl
  · have u2 := (((h.used.set_ne ⟨t.sb, 6, none⟩ (.int .i64 s) fun e => h.ne.2.2.1 e.symm).set_ne ⟨t.sb, 5, none⟩ (.slice (some ⟨g, 0, none⟩) k cap) fun e => h.ne.2.2.1 e.symm).set c (.bool false)).cast (encB_set _ hcn false)
    refine u2.cast (arr_congr fun i _ => ?_)
    show Value.bool (upd U' c false i) = .bool (U i)
    by_cases e : i = c
    · subst e; rw [upd_eq, hUc]
    · rw [upd_ne _ _ e, hU]; unfold upU; rw [if_neg e]
  · have h1 := ownsRow_cut h.now (Nat.le_succ k)
    rw [← List.map_take, nowL_take, ← nowL_congr (cp := cp) fun j hj => by rw [hcp]; unfold upC; rw [if_neg (by omega)]] at h1
    exact hT.row h1 fun r hr e => by
      rcases e with e | e
      · subst e; exact h.ne.1 hr
      · subst e; exact h.ne.2.1 hr
/-- A better one is kept. -/
theorem TryM.best_set {w1 : World} {gb cap : Nat} {s : Int} (h : TryM P t L n lC S w1 U cp k nv bv least st) (hk : P.m = k) (hrow : ∀ j, j < k → w1.cell? ⟨gb, j, none⟩ = some (.int .i64 (oi (cp j)))) (hl : gb < w1.heap.size)
    (h1 : t.B ≤ gb) (h2 : gb ≠ t.sb) (h3 : gb ≠ t.ub) (h4 : nv.ownBlock ≠ some gb) (hs : s = sumN (P.one cp) k) :
    TryM P t L n lC S ((w1.setCell ⟨t.sb, 7, none⟩ (.slice (some ⟨gb, 0, none⟩) k cap)).setCell ⟨t.sb, 8, none⟩ (.int .i64 s)) U cp k nv (.slice (some ⟨gb, 0, none⟩) k cap) s (some cp) := by
  subst hk
  have hT : Tn (fun b => b = t.sb) w1 ((w1.setCell ⟨t.sb, 7, none⟩ (.slice (some ⟨gb, 0, none⟩) P.m cap)).setCell ⟨t.sb, 8, none⟩ (.int .i64 s)) :=
    ((Tn.refl (fun b => b = t.sb) w1).setCell (p := ⟨t.sb, 7, none⟩) (.inl rfl) _).setCell (p := ⟨t.sb, 8, none⟩) (.inl rfl) _
  refine ⟨?_, hT.blk h.used fun e => h.ne.2.2.1 e.symm, hT.row h.now fun r hr e => by subst e; exact h.ne.1 hr, h.ne, fun j hj => ?_, hs, gb, cap, rfl, h1, h2, h3, h4, by simpa using hl, fun j hj => hT.cell (hrow j hj) h2⟩
  · exact ((h.blk.set 7 (.slice (some ⟨gb, 0, none⟩) P.m cap)).set 8 (.int .i64 s)).cast rfl
  · obtain ⟨vb, a1, a2, a3, a4, a5⟩ := h.srv j hj
    exact ⟨vb, a1, a2, a3, a4, hT.cell a5 a2⟩
theorem TryM.tb (h : TryM P t L n lC S w U cp k nv bv least st) (tn : Tn (TryF t nv) w w') : Below t.B w w' :=
  tn.below (by have := h.blk.lt; have := h.ne.2.2.2.1; omega) fun b e => by
    rcases e with e | e | e
    · have := h.ne.2.2.2.1; omega
    · have := h.ne.2.2.2.2; omega
    · exact (row_lt h.now b e).1
end
end Go.Proofs.Ytpcmppamkgkdlaa
