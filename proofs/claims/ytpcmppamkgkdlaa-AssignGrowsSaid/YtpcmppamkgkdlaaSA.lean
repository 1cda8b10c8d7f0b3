/- The state of an assignment in memory. -/
import Derived.Test.YtpcmppamkgkdlaaRD
import Derived.Laws.MakeOwn
namespace Go.Proofs.Ytpcmppamkgkdlaa
open Go.RowKit

/-- None is -1. -/
def oi : Option Nat → Int
  | none => -1
  | some c => c
theorem oi_none {o : Option Nat} : oi o = -1 ↔ o = none := by
  cases o with
  | none => simp [oi]
  | some c => simp [oi]
theorem oi_some {o : Option Nat} {c : Nat} : oi o = c ↔ o = some c := by
  cases o with
  | none => simp [oi]
  | some d => simp [oi]; omega
theorem oi_inj {a b : Option Nat} (h : oi a = oi b) : a = b := by
  cases b with
  | none => exact oi_none.1 h
  | some c => exact oi_some.1 h
abbrev pt (b : Nat) : Value := .pointer (some ⟨b, 0, none⟩)
/-- A row of n values. -/
def arr (f : Nat → Value) (n : Nat) : Array Value := ((List.range n).map f).toArray
theorem arr_size (f : Nat → Value) (n : Nat) : (arr f n).size = n := by simp [arr]
theorem arr_get (f : Nat → Value) {n k : Nat} (h : k < n) : (arr f n)[k]? = some (f k) := by simp [arr, h]
theorem arr_congr {f g : Nat → Value} {n : Nat} (h : ∀ k, k < n → f k = g k) : arr f n = arr g n := by
  unfold arr; congr 1; exact List.map_congr_left fun k hk => h k (List.mem_range.1 hk)
theorem arr_of {xs : Array Value} {f : Nat → Value} {n : Nat} (hs : xs.size = n) (h : ∀ k, k < n → xs[k]? = some (f k)) : xs = arr f n := by
  apply Array.ext_getElem?
  intro i
  rcases Nat.lt_or_ge i n with hi | hi
  · rw [h i hi, arr_get f hi]
  · rw [Array.getElem?_eq_none (by omega), Array.getElem?_eq_none (by rw [arr_size]; exact hi)]
theorem arr_set (f : Nat → Value) {n k : Nat} (h : k < n) (v : Value) : (arr f n).setIfInBounds k v = arr (fun i => if i = k then v else f i) n := by
  refine arr_of (by simp [arr_size]) fun i hi => ?_
  by_cases e : i = k
  · subst e; simp [arr_size, hi]
  · rw [Array.getElem?_setIfInBounds_ne (fun h => e h.symm), arr_get f hi, if_neg e]
theorem arr_made (z : Value) (hz : z.cells = #[z]) (n : Nat) : madeCells z.cells n = arr (fun _ => z) n := by
  refine arr_of (size_madeCells _ _) fun k hk => ?_
  rw [hz]; simp [madeCells, hk, Nat.mod_one]
abbrev encO (f : Nat → Option Nat) (n : Nat) : Array Value := arr (fun k => .int .i64 (oi (f k))) n
abbrev encB (f : Nat → Bool) (n : Nat) : Array Value := arr (fun k => .bool (f k)) n
theorem encO_set (f : Nat → Option Nat) {n k : Nat} (h : k < n) (x : Option Nat) : (encO f n).setIfInBounds k (.int .i64 (oi x)) = encO (upd f k x) n := by
  rw [arr_set _ h]
  refine arr_congr fun i _ => ?_
  by_cases e : i = k
  · subst e; rw [if_pos rfl, upd_eq]
  · rw [if_neg e, upd_ne _ _ e]
theorem encB_set (f : Nat → Bool) {n k : Nat} (h : k < n) (x : Bool) : (encB f n).setIfInBounds k (.bool x) = encB (upd f k x) n := by
  rw [arr_set _ h]
  refine arr_congr fun i _ => ?_
  by_cases e : i = k
  · subst e; rw [if_pos rfl, upd_eq]
  · rw [if_neg e, upd_ne _ _ e]

/-- Where the state lies. -/
structure SL where
  sb : Nat
  cb : Nat
  wb : Nat
  av : Value
  kv : Value
  B : Nat
def SL.F (s : SL) (b : Nat) : Prop := b = s.cb ∨ b = s.wb
structure SM (P : Prob) (s : SL) (w : World) (cp wn : Nat → Option Nat) : Prop where
  blk : Blk w s.sb #[s.av, s.kv, .int .i64 P.n, .slice (some ⟨s.cb, 0, none⟩) P.m P.m, .slice (some ⟨s.wb, 0, none⟩) P.n P.n] 62
  copy : Blk w s.cb (encO cp P.m) 3
  want : Blk w s.wb (encO wn P.n) 3
  pm : PM P w s.B s.av s.kv
  lo : s.B ≤ s.sb ∧ s.B ≤ s.cb ∧ s.B ≤ s.wb
  ne : s.sb ≠ s.cb ∧ s.sb ≠ s.wb ∧ s.cb ≠ s.wb
/-- A problem of a size that fits. -/
structure Fits (P : Prob) : Prop where
  m : P.m ≤ 1000
  n : P.n ≤ 1000
  len : ∀ k, (P.acc k).length ≤ 1000
  sort : ∀ k, (P.acc k).Pairwise (· < ·)
  bd : ∀ k c, 0 ≤ P.cst k c ∧ P.cst k c ≤ 1000000
namespace SM
variable {P : Prob} {s : SL} {w w' : World} {cp wn : Nat → Option Nat}
theorem keep {F : Nat → Prop} (h : SM P s w cp wn) (t : Tn F w w') (hB : ∀ b, F b → s.B ≤ b) (h1 : ¬ F s.sb) (h2 : ¬ F s.cb) (h3 : ¬ F s.wb) : SM P s w' cp wn :=
  ⟨t.blk h.blk h1, t.blk h.copy h2, t.blk h.want h3, h.pm.below (t.below (by have := h.lo; have := h.blk.lt; omega) hB) (Nat.le_refl _), h.lo, h.ne⟩
theorem below (h : SM P s w cp wn) (hb : Below w.heap.size w w') : SM P s w' cp wn := h.keep (F := fun _ => False) (Tn.of_below hb) (fun _ h => h.elim) id id id
theorem alloc (h : SM P s w cp wn) (o : Obj) : SM P s (w.alloc o) cp wn := h.below ((Below.refl _ _).alloc (Nat.le_refl _) o)
theorem drewN (h : SM P s w cp wn) (n : Nat) : SM P s (w.drewN n) cp wn := h.below (bdrewN (Below.refl _ _) n)
theorem drew (h : SM P s w cp wn) : SM P s w.drew cp wn := h.below (Below.refl _ _).drew
theorem setCp (h : SM P s w cp wn) {k : Nat} (hk : k < P.m) (x : Option Nat) : SM P s (w.setCell ⟨s.cb, k, none⟩ (.int .i64 (oi x))) (upd cp k x) wn :=
  have t : Tn (fun b => b = s.cb) w (w.setCell ⟨s.cb, k, none⟩ (.int .i64 (oi x))) := (Tn.refl (fun b => b = s.cb) w).setCell (p := ⟨s.cb, k, none⟩) (.inl rfl) _
  ⟨t.blk h.blk h.ne.1, (h.copy.set k _).cast (encO_set cp hk x), t.blk h.want (fun e => h.ne.2.2 e.symm), h.pm.below (t.below (by have := h.lo; have := h.blk.lt; omega) (fun b e => by have := h.lo; omega)) (Nat.le_refl _), h.lo, h.ne⟩
theorem setWn (h : SM P s w cp wn) {c : Nat} (hc : c < P.n) (x : Option Nat) : SM P s (w.setCell ⟨s.wb, c, none⟩ (.int .i64 (oi x))) cp (upd wn c x) :=
  have t : Tn (fun b => b = s.wb) w (w.setCell ⟨s.wb, c, none⟩ (.int .i64 (oi x))) := (Tn.refl (fun b => b = s.wb) w).setCell (p := ⟨s.wb, c, none⟩) (.inl rfl) _
  ⟨t.blk h.blk h.ne.2.1, t.blk h.copy h.ne.2.2, (h.want.set c _).cast (encO_set wn hc x), h.pm.below (t.below (by have := h.lo; have := h.blk.lt; omega) (fun b e => by have := h.lo; omega)) (Nat.le_refl _), h.lo, h.ne⟩
theorem lt (h : SM P s w cp wn) : s.sb < w.heap.size ∧ s.cb < w.heap.size ∧ s.wb < w.heap.size := ⟨h.blk.lt, h.copy.lt, h.want.lt⟩
theorem cp_at (h : SM P s w cp wn) {k : Nat} (hk : k < P.m) : w.cell? ⟨s.cb, k, none⟩ = some (.int .i64 (oi (cp k))) := h.copy.cellE (arr_get _ hk)
theorem wn_at (h : SM P s w cp wn) {c : Nat} (hc : c < P.n) : w.cell? ⟨s.wb, c, none⟩ = some (.int .i64 (oi (wn c))) := h.want.cellE (arr_get _ hc)
/-- What want k accepts, as the code reads it. -/
theorem acc_at (h : SM P s w cp wn) {k : Nat} (hk : k < P.m) : ∃ g cap a2 cap2, s.av = .slice (some ⟨g, 0, none⟩) P.m cap ∧ g < s.B ∧ w.cell? ⟨g, k, none⟩ = some (.slice a2 (P.acc k).length cap2) ∧
    (P.acc k = [] ∨ ∃ b o, a2 = some ⟨b, o, none⟩ ∧ b < s.B ∧ ∀ j, j < (P.acc k).length → w.cell? ⟨b, o + j, none⟩ = some (.int .i64 ((P.acc k).getD j 0 : Nat))) := by
  obtain ⟨a, cap, e, hh⟩ := h.pm.acc
  obtain ⟨g, u, rfl, hg, hu, a2, cap2, rfl, hI⟩ := hh k hk
  have el : (ints (P.acc k)).length = (P.acc k).length := by simp [ints]
  rw [el] at hu hI
  refine ⟨g, cap, a2, cap2, e, hg, hu, ?_⟩
  rcases hI with hI | ⟨b, o, rfl, hb, hc⟩
  · left; simpa [ints] using hI
  · refine .inr ⟨b, o, rfl, hb, fun j hj => ?_⟩
    rw [hc j hj]
    congr 2
    rw [getD_get _ _ hj, getD_get _ _ (by rw [el]; exact hj)]; simp [ints]
theorem cst_at (h : SM P s w cp wn) {k : Nat} (hk : k < P.m) : ∃ g cap mb, s.kv = .slice (some ⟨g, 0, none⟩) P.m cap ∧ g < s.B ∧ w.cell? ⟨g, k, none⟩ = some (.map (some mb)) ∧ mb < s.B ∧ MapAt w mb (ints (P.acc k)) (fun x => P.cst k x.toNat) := by
  obtain ⟨a, cap, e, hh⟩ := h.pm.cst
  obtain ⟨g, mb, rfl, hg, hu, hm, hM⟩ := hh k hk
  exact ⟨g, cap, mb, e, hg, hu, hm, hM⟩
end SM
theorem mem_ints {l : List Nat} {x : Int} : x ∈ ints l ↔ 0 ≤ x ∧ x.toNat ∈ l := by
  unfold ints
  rw [List.mem_map]
  constructor
  · rintro ⟨c, hc, rfl⟩; exact ⟨by omega, by simpa using hc⟩
  · rintro ⟨h0, h⟩; exact ⟨x.toNat, h, by omega⟩
theorem MapAt.look' {w : World} {b : Nat} {P : Prob} {k c : Nat} (h : MapAt w b (ints (P.acc k)) (fun x => P.cst k x.toNat)) (hc : c ∈ P.acc k) (h1 : c ≤ 1000000) :
    (Instr.lookup 66 (.map (some b)) (.int .i64 (c : Int)) false).run Try.prog w = .ok (.int .i64 (P.cst k c)) w := by
  have := h.look (x := (c : Int)) (mem_ints.2 ⟨by omega, by simpa using hc⟩) (by omega) (by omega)
  simpa using this
end Go.Proofs.Ytpcmppamkgkdlaa
