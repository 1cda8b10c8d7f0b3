/- find: a copy for a want, where others get other copies: the state, and what a step does. -/
import Derived.Test.YtpcmppamkgkdlaaSA
namespace Go.Proofs.Ytpcmppamkgkdlaa
open Go.RowKit

def cntF (seen : Nat → Bool) : Nat → Nat
  | 0 => 0
  | n + 1 => cntF seen n + if seen n then 0 else 1
theorem cntF_mono {a b : Nat → Bool} (h : ∀ c, a c = true → b c = true) : ∀ n, cntF b n ≤ cntF a n
  | 0 => Nat.le_refl _
  | n + 1 => by
    have := cntF_mono h n
    have := h n
    simp only [cntF]
    cases e : a n
    · cases e2 : b n <;> simp <;> omega
    · rw [h n e]; simp; omega
theorem cntF_upd {a : Nat → Bool} {c : Nat} (hc : a c = false) : ∀ n, c < n → cntF (upd a c true) n < cntF a n
  | n + 1, h => by
    simp only [cntF]
    by_cases e : c = n
    · subst e
      have : cntF (upd a c true) c ≤ cntF a c := cntF_mono (fun d hd => by
        by_cases e : d = c
        · subst e; rw [upd_eq]
        · rw [upd_ne _ _ e]; exact hd) c
      rw [upd_eq, hc]; simp; omega
    · have := cntF_upd hc n (by omega)
      rw [upd_ne _ _ (fun h => e h.symm)]; omega

theorem Found.weaken {P : Prob} {cp wn cp' wn' : Nat → Option Nat} {seen si : Nat → Bool} {k : Nat} (h : Found P cp wn cp' wn' si k) (hs : ∀ c, seen c = true → si c = true) : Found P cp wn cp' wn' seen k :=
  ⟨h.ok, h.same, h.got, fun c hc => h.keep c (hs c hc), fun j hj hc => h.keepw j hj (fun c e => hs c (hc c e)), h.con1, h.con1k, h.con2, fun c e => by
    cases e2 : seen c with
    | false => rfl
    | true => have h1 := h.new c e; rw [hs c e2] at h1; cases h1⟩
/-- What the loop has seen. -/
structure Look (P : Prob) (wn : Nat → Option Nat) (seen si : Nat → Bool) (l : List Nat) (i : Nat) : Prop where
  more : ∀ c, seen c = true → si c = true
  all : ∀ c, c ∈ l.take i → si c = true
  own : ∀ c, si c = true → seen c = false → ∃ j, wn c = some j ∧ ∀ d, d ∈ P.acc j → si d = true
theorem Look.start (P : Prob) (wn : Nat → Option Nat) (seen : Nat → Bool) (l : List Nat) : Look P wn seen seen l 0 := ⟨fun _ h => h, fun c hc => by simp at hc, fun c h1 h2 => by rw [h1] at h2; cases h2⟩
theorem Look.skip {P : Prob} {wn : Nat → Option Nat} {seen si : Nat → Bool} {l : List Nat} {i : Nat} (h : Look P wn seen si l i) (hi : i < l.length) (hc : si (l.getD i 0) = true) : Look P wn seen si l (i + 1) :=
  ⟨h.more, fun c hm => by
    rw [take_succD (d := 0) i hi] at hm
    rcases List.mem_append.1 hm with hm | hm
    · exact h.all c hm
    · simp at hm; rw [hm]; simpa using hc, h.own⟩
theorem Look.lost {P : Prob} {wn : Nat → Option Nat} {seen si s2 : Nat → Bool} {l : List Nat} {i j : Nat} (h : Look P wn seen si l i) (hi : i < l.length) (hw : wn (l.getD i 0) = some j) (hl : Lost P wn (upd si (l.getD i 0) true) s2 j) : Look P wn seen s2 l (i + 1) := by
  have up : ∀ c, si c = true → s2 c = true := fun c hc => hl.more c (by
    by_cases e : c = l.getD i 0
    · rw [e, upd_eq]
    · rw [upd_ne _ _ e]; exact hc)
  have hc : s2 (l.getD i 0) = true := hl.more _ (upd_eq _ _ _)
  refine ⟨fun c hc => up c (h.more c hc), fun c hm => ?_, fun c h1 h2 => ?_⟩
  · rw [take_succD (d := 0) i hi] at hm
    rcases List.mem_append.1 hm with hm | hm
    · exact up c (h.all c hm)
    · simp at hm; rw [hm]; simpa using hc
  · cases e : si c with
    | true =>
      obtain ⟨j', h3, h4⟩ := h.own c e h2
      exact ⟨j', h3, fun d hd => up d (h4 d hd)⟩
    | false =>
      by_cases e2 : c = l.getD i 0
      · rw [e2]; exact ⟨j, hw, hl.all⟩
      · exact hl.own c h1 (by rw [upd_ne _ _ e2]; exact e)
theorem Look.done {P : Prob} {wn : Nat → Option Nat} {seen si : Nat → Bool} {k i : Nat} (h : Look P wn seen si (P.acc k) i) (hi : (P.acc k).length ≤ i) : Lost P wn seen si k :=
  ⟨h.more, fun c hc => h.all c (by rw [List.take_of_length_le hi]; exact hc), h.own⟩

structure FMem (P : Prob) (s : SL) (xb yb zb g : Nat) (w : World) (cp wn : Nat → Option Nat) (seen : Nat → Bool) : Prop where
  sm : SM P s w cp wn
  xs : Blk w xb #[pt s.sb] 54
  ys : Blk w yb #[.slice (some ⟨g, 0, none⟩) P.n P.n] 47
  zs : Blk w zb #[.func (.func 33) #[] #[pt xb, pt yb, pt zb]] 63
  ga : Blk w g (encB seen P.n) 4
  ng : g ≠ s.sb ∧ g ≠ s.cb ∧ g ≠ s.wb ∧ g ≠ xb ∧ g ≠ yb ∧ g ≠ zb ∧ s.B ≤ g
  nx : xb ≠ s.cb ∧ xb ≠ s.wb ∧ yb ≠ s.cb ∧ yb ≠ s.wb ∧ zb ≠ s.cb ∧ zb ≠ s.wb
def FF (s : SL) (g b : Nat) : Prop := b = s.cb ∨ b = s.wb ∨ b = g
namespace FMem
variable {P : Prob} {s : SL} {xb yb zb g : Nat} {w w' : World} {cp wn : Nat → Option Nat} {seen : Nat → Bool}
theorem below (h : FMem P s xb yb zb g w cp wn seen) (hb : Below w.heap.size w w') : FMem P s xb yb zb g w' cp wn seen :=
  have t : Tn (fun _ => False) w w' := Tn.of_below hb
  ⟨h.sm.below hb, t.blk h.xs id, t.blk h.ys id, t.blk h.zs id, t.blk h.ga id, h.ng, h.nx⟩
theorem drewN (h : FMem P s xb yb zb g w cp wn seen) (n : Nat) : FMem P s xb yb zb g (w.drewN n) cp wn seen := h.below (bdrewN (Below.refl _ _) n)
theorem drew (h : FMem P s xb yb zb g w cp wn seen) : FMem P s xb yb zb g w.drew cp wn seen := h.below (Below.refl _ _).drew
theorem see (h : FMem P s xb yb zb g w cp wn seen) {c : Nat} (hc : c < P.n) : FMem P s xb yb zb g (w.setCell ⟨g, c, none⟩ (.bool true)) cp wn (upd seen c true) :=
  have t : Tn (fun b => b = g) w (w.setCell ⟨g, c, none⟩ (.bool true)) := (Tn.refl (fun b => b = g) w).setCell (p := ⟨g, c, none⟩) (.inl rfl) _
  have hn := h.ng
  ⟨h.sm.keep t (fun b e => by omega) (fun e => hn.1 e.symm) (fun e => hn.2.1 e.symm) (fun e => hn.2.2.1 e.symm), t.blk h.xs (fun e => hn.2.2.2.1 e.symm), t.blk h.ys (fun e => hn.2.2.2.2.1 e.symm), t.blk h.zs (fun e => hn.2.2.2.2.2.1 e.symm), (h.ga.set c _).cast (encB_set seen hc true), h.ng, h.nx⟩
theorem give (h : FMem P s xb yb zb g w cp wn seen) {c k : Nat} (hc : c < P.n) (hk : k < P.m) : FMem P s xb yb zb g ((w.setCell ⟨s.wb, c, none⟩ (.int .i64 k)).setCell ⟨s.cb, k, none⟩ (.int .i64 c)) (upd cp k (some c)) (upd wn c (some k)) seen :=
  have t : Tn (fun b => b = s.cb ∨ b = s.wb) w ((w.setCell ⟨s.wb, c, none⟩ (.int .i64 k)).setCell ⟨s.cb, k, none⟩ (.int .i64 c)) :=
    ((Tn.refl (fun b => b = s.cb ∨ b = s.wb) w).setCell (p := ⟨s.wb, c, none⟩) (.inl (.inr rfl)) _).setCell (p := ⟨s.cb, k, none⟩) (.inl (.inl rfl)) _
  have hn := h.ng
  have hx := h.nx
  ⟨(h.sm.setWn hc (some k)).setCp hk (some c), t.blk h.xs (fun e => by omega), t.blk h.ys (fun e => by omega), t.blk h.zs (fun e => by omega), t.blk h.ga (fun e => by omega), h.ng, h.nx⟩
end FMem
/-- The row of copies while only the first wants have been looked at: behind them stand zeros. -/
def ext (lim : Nat) (cp : Nat → Option Nat) (k : Nat) : Option Nat := if k < lim then cp k else some 0
theorem ext_upd {lim k : Nat} (h : k < lim) (cp : Nat → Option Nat) (x : Option Nat) : upd (ext lim cp) k x = ext lim (upd cp k x) := by
  funext i
  by_cases e : i = k
  · subst e; rw [upd_eq]; unfold ext; rw [if_pos h, upd_eq]
  · rw [upd_ne _ _ e]; unfold ext; rw [upd_ne _ _ e]
theorem ext_none {k : Nat} {cp : Nat → Option Nat} (h : cp k = none) : upd (ext k cp) k none = ext (k + 1) cp := by
  funext i
  by_cases e : i = k
  · subst e; rw [upd_eq]; unfold ext; rw [if_pos (Nat.lt_succ_self _), h]
  · rw [upd_ne _ _ e]; unfold ext
    by_cases g : i < k
    · rw [if_pos g, if_pos (by omega)]
    · rw [if_neg g, if_neg (by omega)]
def FindE (lim : Nat) (P : Prob) (s : SL) (xb yb zb g : Nat) (w : World) (cp wn : Nat → Option Nat) (seen : Nat → Bool) (k : Nat) (e : Ending) (w' : World) : Prop :=
  ∃ (t : Bool) (cp' wn' : Nat → Option Nat) (seen' : Nat → Bool), e = .returned (.bool t) ∧ FMem P s xb yb zb g w' (ext lim cp') wn' seen' ∧ Tn (FF s g) w w' ∧
    (t = true → Found P cp wn cp' wn' seen k) ∧ (t = false → cp' = cp ∧ wn' = wn ∧ Lost P wn seen seen' k)
end Go.Proofs.Ytpcmppamkgkdlaa
