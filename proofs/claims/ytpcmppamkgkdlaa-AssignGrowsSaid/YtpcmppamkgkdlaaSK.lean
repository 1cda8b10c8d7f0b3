/- What cheapen and lower need: reversed slices, nodes met backwards. -/
import Derived.Test.YtpcmppamkgkdlaaSH
import Derived.Test.YtpcmppamkgkdlaaSJ
import Derived.Test.YtpcmppamkgkdlaaSF
namespace Go.Proofs.Ytpcmppamkgkdlaa
open Go.RowKit Go.Shelf

theorem reverse_own (a : Option Addr) (D : List Int) (n cap B : Nat) (w : World) (hD : OwnSl w B a D cap) (hn : n = D.length) (hl : n ≤ 100000) :
    Calls Try.prog 36 #[.slice a n cap] w fun e w' => e = .returned (.tuple #[]) ∧ OwnSl w' B a D.reverse cap ∧ Tn (fun b => ∃ o, a = some ⟨b, o, none⟩) w w' := by
  subst hn
  obtain ⟨hcap, rfl | ⟨g, rfl, hg, hgl, hh⟩⟩ := hD
  · refine (Try.slices_Reverse_int_empty a cap w).mono ?_
    rintro e w' ⟨rfl, rfl⟩
    exact ⟨rfl, ⟨by simp, .inl (by simp)⟩, Tn.refl _ _⟩
  · refine (Try.slices_Reverse_int g 0 cap D w hh (by omega)).mono ?_
    rintro e w' ⟨rfl, n, rfl⟩
    have hs : D.reverse.toArray.size = D.toArray.size := by simp
    refine ⟨rfl, ⟨by simpa using hcap, .inr ⟨g, rfl, hg, by simp [Go.Sort.ahead]; omega, ?_⟩⟩, (tn_ahead w n _).trans ((tn_putRow _ g _ _).mono fun b e => ⟨0, by rw [e]⟩)⟩
    exact Go.Sort.holds_putRow _ _ _ _ D.toArray _ hh hs
theorem row_one {w : World} {B g : Nat} {v : Value} {T : TypeId} (h : Blk w g #[v] T) (hB : B ≤ g) : w.ownsRow B T 1 (.slice (some ⟨g, 0, none⟩) 1 1) 1 [v] :=
  ⟨rfl, .inr ⟨g, 1, #[v], rfl, hB, h, Nat.le_refl _, by decide, rfl, rfl⟩⟩
/-- Nodes met backwards, as a list. -/
def xs (f : Nat → Nat) (v q : Nat) : List Int := (List.range q).map fun i => (itr f i v : Int)
theorem xs_len (f : Nat → Nat) (v q : Nat) : (xs f v q).length = q := by simp [xs]
theorem xs_succ (f : Nat → Nat) (v q : Nat) : xs f v (q + 1) = xs f v q ++ [(itr f q v : Int)] := by simp [xs, List.range_succ]
theorem xs_rev (f : Nat → Nat) (v q : Nat) {j : Nat} (hj : j < q) : (xs f v q).reverse.getD j 0 = (itr f (q - 1 - j) v : Int) := by
  rw [getD_get _ _ (by simp [xs_len]; exact hj), List.getElem_reverse]
  simp [xs]
theorem OwnSl.cells {w : World} {B : Nat} {a : Option Addr} {D : List Int} {cap : Nat} (h : OwnSl w B a D cap) (hD : D ≠ []) : ∃ g, a = some ⟨g, 0, none⟩ ∧ B ≤ g ∧ ∀ j, j < D.length → w.cell? ⟨g, j, none⟩ = some (.int .i64 (D.getD j 0)) := by
  obtain ⟨hcap, rfl | ⟨g, rfl, hg, hgl, hh⟩⟩ := h
  · exact absurd rfl hD
  · refine ⟨g, rfl, hg, fun j hj => ?_⟩
    have := (hh j (by simpa using hj)).1
    rw [getElem!_pos _ j (by simpa using hj)] at this
    rw [getD_get _ _ hj]
    simpa using this
theorem tot_nonneg {P : Prob} (hP : Fits P) (cp : Nat → Option Nat) : 0 ≤ P.tot cp := sumN_nonneg fun k _ => by
  unfold Prob.one
  cases cp k with
  | none => exact Int.le_refl _
  | some c => exact (hP.bd k c).1
/-- The nodes of a walk back are nodes. -/
theorem Back.lt {E : List Edge} {N : Nat} (hE : EOk E N) {wt : Nat → Nat → Int} {src : Option Nat} {r : Nat} {d : Nat → Nat → Prop} {s : BF} {tm rd : Nat → Nat} {T : Nat} (hi : Inv E wt src r d s tm rd T) {v M : Nat} (hb : Back s v M) {i : Nat} (h : i < M) : itr s.pre i v < N ∧ itr s.pre (i + 1) v < N := by
  have h1 := (hi.edge (hb i h)).1
  have h2 := hE.lt _ h1
  exact ⟨h2.2.1, h2.1⟩
def CheapenE (P : Prob) (s : SL) (cp : Nat → Option Nat) (w : World) (e : Ending) (w' : World) : Prop :=
  ∃ cp' wn', e = .returned (.tuple #[]) ∧ SM P s w' cp' wn' ∧ Tn s.F w w' ∧ Mat P cp' ∧ Con cp' wn' ∧ Same cp cp' ∧ ∃ f, Pot P 0 cp' wn' f
/-- What the last round shows, if it has changed something. -/
structure Ring (P : Prob) (cp wn : Nat → Option Nat) (S : BF) (N v x0 q : Nat) : Prop where
  hq : 0 < q
  qN : q ≤ N
  back : ∀ i, i < N → S.bef (itr S.pre i v) = some (itr S.pre (i + 1) v)
  lt : ∀ i, i ≤ N → itr S.pre i v < N
  e0 : itr S.pre N v = x0
  back2 : ∀ i, i < q → S.bef (itr S.pre i x0) = some (itr S.pre (i + 1) x0)
  lt2 : ∀ i, i ≤ q → itr S.pre i x0 < N
  close : itr S.pre q x0 = x0
  apart : ∀ i, 0 < i → i < q → itr S.pre i x0 ≠ x0
  circ : Circle P 0 cp wn q (fun j => itr S.pre (q - 1 - j) x0)
  neg : P.tot (moved q (fun j => itr S.pre (q - 1 - j) x0) cp) < P.tot cp
theorem ring_of {P : Prob} {cp wn : Nat → Option Nat} (hP : Fits P) (hm : Mat P cp) (hc : Con cp wn) {v : Nat} (h : (rounds (edL P 0 cp wn) none (P.n + 1)).chg = some v) :
    ∃ x0 q, Ring P cp wn (rounds (edL P 0 cp wn) none (P.n + 1)) (P.n + 1) v x0 q := by
  have hE := edL_edges (first := 0) hm hc
  have hO := edges_ok (first := 0) hP hm hc
  obtain ⟨tm, rd, T, hi⟩ := rounds_inv (src := none) (fun {u v w} he => hE.hw hm he) P.n
  obtain ⟨q, h1, h2, h3, h4, h5, h6, h7, h8⟩ := last_round hE hm h
  refine ⟨_, q, h1, h2, h3, fun i hi' => ?_, rfl, h4, fun i hi' => ?_, h5, h6, h7, ?_⟩
  · rcases Nat.eq_zero_or_pos i with rfl | hp
    · exact (Back.lt hO hi h3 (i := 0) (by omega)).1
    · obtain ⟨j, rfl⟩ : ∃ j, i = j + 1 := ⟨i - 1, by omega⟩
      exact (Back.lt hO hi h3 (i := j) (by omega)).2
  · rcases Nat.eq_zero_or_pos i with rfl | hp
    · exact (Back.lt hO hi h4 (i := 0) (by omega)).1
    · obtain ⟨j, rfl⟩ : ∃ j, i = j + 1 := ⟨i - 1, by omega⟩
      exact (Back.lt hO hi h4 (i := j) (by omega)).2
  · have := h7.tot hm hc
    omega
end Go.Proofs.Ytpcmppamkgkdlaa
