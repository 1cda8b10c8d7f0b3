/- The memory of try. -/
import Derived.Test.YtpcmppamkgkdlaaVB
import Derived.Laws.AppendOwnNone
namespace Go.Proofs.Ytpcmppamkgkdlaa
open Go.RowKit

/-- A row cut short. -/
theorem ownsRow_cut {w : World} {B : Nat} {e : TypeId} {g n cap k : Nat} {xs : List Value} (h : w.ownsRow B e 1 (.slice (some ⟨g, 0, none⟩) n cap) n xs) (hk : k ≤ n) : w.ownsRow B e 1 (.slice (some ⟨g, 0, none⟩) k cap) k (xs.take k) := by
  obtain ⟨h0, ⟨he, hn⟩ | ⟨g', c', cur, he, hg, hh, hn, hm, hcs, hx⟩⟩ := h
  · cases he
  · obtain ⟨rfl, rfl⟩ : g = g' ∧ cap = c' := by injection he with h1 h2 h3; injection h1 with h1; injection h1 with h1; exact ⟨h1, h3⟩
    refine ⟨by simp at h0 ⊢; omega, .inr ⟨g, cap, cur, rfl, hg, hh, by omega, hm, hcs, ?_⟩⟩
    rw [← hx, List.take_take]
    congr 1
    omega
/-- A row copied behind an empty one. -/
theorem wpList_append_copy {P : Program} {w : World} {ops : Array Oper} {rest : List Oper} {o : Oper} {a : Act} {Q : Exit → Act → World → Prop} (hgd : o.guard = none) (s x : Operand) (t : TypeId)
    (ho : o.op = .call { callee := .builtin .append, args := #[s, x], argTypes := #[t, t] })
    (base b0 : Nat) (e : TypeId) (i : TypeInfo) (z : Value) (bytes : Nat) (ht : P.underlying t = some (.slice e)) (hi : P.info? e = some i) (hz : i.zero = some z)
    (hsize : i.size = 1) (hby : i.bytes = bytes) (hzs : z.cells.size = 1) (hs : a.eval s = .slice (some ⟨b0, 0, none⟩) 0 0) (h0 : w.ownsRow b0 e 1 (.slice (some ⟨b0, 0, none⟩) 0 0) 0 [])
    (v : Value) (n : Nat) (xs : List Value) (hown : w.ownsRow base e 1 v n xs) (hx : a.eval x = v) (h1 : ∀ u ∈ xs, u.oneCell' = true)
    (h63 : n ≤ maxLen) (hbytes : n * bytes ≤ 140737488355328)
    (h : ∀ g cap w', w'.ownsRow b0 e 1 (.slice (some ⟨g, 0, none⟩) n cap) n xs → w.grownBy w' (some b0) → wpList P ops Q rest (a.put o.dst (.slice (some ⟨g, 0, none⟩) n cap)) w') :
    wpList P ops Q (o :: rest) a w := by
  have hb0 : b0 < w.heap.size := (row_lt h0 b0 rfl).2
  have hown' := hown
  obtain ⟨hl, ⟨rfl, rfl⟩ | ⟨g, c', cur, rfl, hg, hh, hn, hm, hcs, hx'⟩⟩ := hown
  · have : xs = [] := List.eq_nil_of_length_eq_zero (by simpa using hl)
    subst this
    exact wpList_append_own_none hgd s x t ho b0 e i 1 ht hi _ 0 [] hs h0 hx (h b0 0 w h0 (World.grownBy.refl w _))
  · rcases Nat.eq_zero_or_pos n with rfl | hpos
    · have : xs = [] := List.eq_nil_of_length_eq_zero (by simpa using hl)
      subst this
      refine wpList_append_own_at w hgd s x t ho b0 e i z 1 bytes ht hi hz hsize hby hzs (by decide) _ 0 [] hs h0 ⟨g, 0, none⟩ 0 c' [] hx rfl (fun j u hj => by simp at hj) (fun u hu => by cases hu) (by omega) (by omega) (by omega) fun v' w' h2 h3 h4 h5 => ?_
      obtain ⟨hl2, ⟨rfl, _⟩ | ⟨g2, c2, cur2, rfl, q⟩⟩ := h2
      · have := h4.1 rfl
        cases this.1
      · exact h g2 c2 w' ⟨hl2, .inr ⟨g2, c2, cur2, rfl, q⟩⟩ h3
    · refine wpList_append_lies w hgd s x t ho b0 e i z 1 bytes ht hi hz hsize hby hzs (by decide) _ 0 [] hs h0 ⟨g, 0, none⟩ n c' xs hx hl (hown'.cells (g := g) rfl) h1 hpos (by omega) (by rw [Nat.zero_add]; exact hbytes) (by omega) _ rfl fun g2 cap w' h2 h3 h4 h5 => ?_
      rw [Nat.zero_add] at h2 ⊢
      exact h g2 cap w' (by simpa using h2) h3
/-- Where the search lies. -/
structure TL where
  sb : Nat
  ub : Nat
  B : Nat
  aw : Option Addr
  aa : Option Addr
  ac : Option Addr
  sv : Option Addr
  cw : Nat
  ca : Nat
  cc : Nat
  cs : Nat
def nowL (cp : Nat → Option Nat) (k : Nat) : List Int := (List.range k).map fun j => oi (cp j)
theorem nowL_succ (cp : Nat → Option Nat) (k : Nat) : nowL cp (k + 1) = nowL cp k ++ [oi (cp k)] := by simp [nowL, List.range_succ]
theorem nowL_len (cp : Nat → Option Nat) (k : Nat) : (nowL cp k).length = k := by simp [nowL]
theorem nowL_take (cp : Nat → Option Nat) (k : Nat) : (nowL cp (k + 1)).take k = nowL cp k := by rw [nowL_succ, List.take_left' (nowL_len cp k)]
theorem nowL_congr {cp cp' : Nat → Option Nat} {k : Nat} (h : ∀ j, j < k → cp j = cp' j) : nowL cp k = nowL cp' k := List.map_congr_left fun j hj => by rw [h j (List.mem_range.1 hj)]
/-- The best so far. -/
def BestAt (P : Prob) (t : TL) (w : World) (nv bv : Value) (least : Int) : St → Prop
  | none => bv = .slice none 0 0
  | some g => least = P.tot g ∧ ∃ gb cap, bv = .slice (some ⟨gb, 0, none⟩) P.m cap ∧ t.B ≤ gb ∧ gb ≠ t.sb ∧ gb ≠ t.ub ∧ nv.ownBlock ≠ some gb ∧ gb < w.heap.size ∧ ∀ j, j < P.m → w.cell? ⟨gb, j, none⟩ = some (.int .i64 (oi (g j)))
/-- The search in memory. -/
structure TryM (P : Prob) (t : TL) (L : List Wt) (n lC : Nat) (S : Nat → Bool) (w : World) (U : Nat → Bool) (cp : Nat → Option Nat) (k : Nat) (nv bv : Value) (least : Int) (st : St) : Prop where
  blk : Blk w t.sb #[.slice t.aw L.length t.cw, .slice t.aa n t.ca, .slice t.ac lC t.cc, .slice t.sv L.length t.cs, .slice (some ⟨t.ub, 0, none⟩) n n, nv, .int .i64 (sumN (P.one cp) k), bv, .int .i64 least] 70
  used : Blk w t.ub (encB U n) 4
  now : w.ownsRow t.B 3 1 nv k ((nowL cp k).map (Value.int .i64))
  ne : nv.ownBlock ≠ some t.sb ∧ nv.ownBlock ≠ some t.ub ∧ t.sb ≠ t.ub ∧ t.B ≤ t.sb ∧ t.B ≤ t.ub
  srv : ∀ j, j < L.length → ∃ vb, t.sv = some ⟨vb, 0, none⟩ ∧ vb ≠ t.sb ∧ vb ≠ t.ub ∧ nv.ownBlock ≠ some vb ∧ w.cell? ⟨vb, j, none⟩ = some (.bool (S j))
  best : BestAt P t w nv bv least st
/-- What is tried so far. -/
structure Try (P : Prob) (S U : Nat → Bool) (cp : Nat → Option Nat) (k : Nat) : Prop where
  mat : Mat P cp
  off : ∀ j, k ≤ j → cp j = none
  srv : ∀ j, j < k → (cp j).isSome = S j
  use : ∀ c, U c = true ↔ ∃ j, cp j = some c
theorem Try.skip {P : Prob} {S U : Nat → Bool} {cp : Nat → Option Nat} {k : Nat} (h : Try P S U cp k) (hs : S k = false) : Try P S U cp (k + 1) :=
  ⟨h.mat, fun j hj => h.off j (by omega), fun j hj => by
    rcases Nat.lt_or_ge j k with h' | h'
    · exact h.srv j h'
    · obtain rfl : j = k := by omega
      rw [h.off j (Nat.le_refl _), hs]; rfl, h.use⟩
theorem Try.take {P : Prob} {S U : Nat → Bool} {cp : Nat → Option Nat} {k c : Nat} (h : Try P S U cp k) (hs : S k = true) (hk : k < P.m) (ha : c ∈ P.acc k) (hu : U c = false) : Try P S (upU U c true) (upC cp k (some c)) (k + 1) := by
  have hne : ∀ j, cp j ≠ some c := fun j e => by rw [(h.use c).2 ⟨j, e⟩] at hu; cases hu
  refine ⟨⟨fun {j d} e => ?_, fun {i j d} e f => ?_⟩, fun j hj => ?_, fun j hj => ?_, fun d => ?_⟩
  · unfold upC at e
    by_cases hj : j = k
    · subst hj; simp at e; subst e; exact ⟨hk, ha⟩
    · rw [if_neg hj] at e; exact h.mat.ok e
  · unfold upC at e f
    by_cases hi : i = k <;> by_cases hj : j = k
    · omega
    · rw [if_pos hi] at e; rw [if_neg hj] at f
      injection e with e; subst e
      exact absurd f (hne j)
    · rw [if_neg hi] at e; rw [if_pos hj] at f
      injection f with f; subst f
      exact absurd e (hne i)
    · rw [if_neg hi] at e; rw [if_neg hj] at f; exact h.mat.inj e f
  · unfold upC; rw [if_neg (by omega)]; exact h.off j (by omega)
  · unfold upC
    by_cases hjk : j = k
    · subst hjk; simp [hs]
    · rw [if_neg hjk]; exact h.srv j (by omega)
  · unfold upU upC
    by_cases hd : d = c
    · subst hd; simp; exact ⟨k, by simp⟩
    · rw [if_neg hd, h.use d]
      constructor
      · rintro ⟨j, e⟩
        have hjk : j ≠ k := fun e' => by subst e'; rw [h.off j (Nat.le_refl _)] at e; cases e
        exact ⟨j, by rw [if_neg hjk]; exact e⟩
      · rintro ⟨j, e⟩
        by_cases hjk : j = k
        · rw [if_pos hjk] at e; injection e with e; exact absurd e.symm hd
        · rw [if_neg hjk] at e; exact ⟨j, e⟩
theorem sum_up (P : Prob) (cp : Nat → Option Nat) (k c : Nat) : sumN (P.one (upC cp k (some c))) (k + 1) = sumN (P.one cp) k + P.cst k c := by
  rw [sumN, sumN_congr (g := P.one cp) fun j hj => by unfold Prob.one upC; rw [if_neg (by omega)]]
  congr 1
  unfold Prob.one upC; rw [if_pos rfl]; rfl
theorem sum_bd {P : Prob} (hb : ∀ k c, 0 ≤ P.cst k c ∧ P.cst k c ≤ 1000000) (cp : Nat → Option Nat) : ∀ k, 0 ≤ sumN (P.one cp) k ∧ sumN (P.one cp) k ≤ 1000000 * k
  | 0 => by simp [sumN]
  | k + 1 => by
    have ih := sum_bd hb cp k
    have : 0 ≤ P.one cp k ∧ P.one cp k ≤ 1000000 := by
      unfold Prob.one
      cases cp k with
      | none => simp
      | some c => exact hb k c
    simp only [sumN]; omega
end Go.Proofs.Ytpcmppamkgkdlaa
