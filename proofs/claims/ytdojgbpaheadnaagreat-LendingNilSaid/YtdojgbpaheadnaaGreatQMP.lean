/- Maps as functions of their keys; keys that are deals. -/
import Derived.Test.YtdojgbpaheadnaaGreatQTN
import Derived.Test.YtdojgbpaheadnaaGreatQP
import Derived.Test.YtdojgbpaheadnaaGreatProg
import Derived.DeepKeys4
import Derived.Maps.Own
import Derived.Maps.OwnSet
import Derived.Maps.OwnOps
import Derived.Maps.Views
set_option linter.unusedVariables false
set_option linter.unusedSimpArgs false

namespace Go.Proofs.YtdojgbpaheadnaaGreat
open Go.RowKit Go.Shelf Go.Maps Go.ChangeMaps

/-- The map as read: what is at the keys. -/
structure RepL (D : DataW Unit) (f : Lit → Option (DataW Unit)) : Prop where
  isMap : IsMap D
  at_ : ∀ l z, D.atKey l z = (f l).getD z
  has : ∀ l, Maps.has D l = (f l).isSome
theorem repL_nil : RepL (.map []) (fun _ => none) where
  isMap := Maps.isMap_empty
  at_ := by intro x z; simp [DataW.atKey]
  has := by intro x; simp [Maps.has]
open Classical in
noncomputable def updL (f : Lit → Option (DataW Unit)) (l : Lit) (d : DataW Unit) : Lit → Option (DataW Unit) := fun x => if x = l then some d else f x
theorem repL_put {D : DataW Unit} {f : Lit → Option (DataW Unit)} {l : Lit} {d : DataW Unit} (h : RepL D f) (hl : WideAt.IsKeyLit l) : RepL (D.put l d) (updL f l d) where
  isMap := h.isMap.put _ _
  at_ := by
    intro y z
    unfold updL
    by_cases e : y = l
    · subst e
      rw [Maps.atKey_put_same h.isMap hl, if_pos rfl]; rfl
    · rw [Maps.atKey_put_other e, h.at_, if_neg e]
  has := by
    intro y
    unfold updL
    by_cases e : y = l
    · subst e
      rw [Maps.has_put_same h.isMap hl, if_pos rfl]; rfl
    · rw [Maps.has_put_other e, h.has, if_neg e]
/-- Block b is such a map. -/
def MapF (w : World) (P : Program) (k : TypeId) (R : Value → Option (DataW Unit × List MemPlace)) (b n : Nat) (f : Lit → Option (DataW Unit)) : Prop := ∃ D, w.ownsMap P k R b n D ∧ RepL D f
theorem MapF.keep {w w' : World} {P : Program} {k : TypeId} {R : Value → Option (DataW Unit × List MemPlace)} {F : Nat → Prop} {b n : Nat} {f : Lit → Option (DataW Unit)} (h : MapF w P k R b n f) (t : Tn F w w') (hn : ¬ F b) : MapF w' P k R b n f := by
  obtain ⟨D, h1, h2⟩ := h
  exact ⟨D, t.map h1 hn, h2⟩
theorem MapF.lt {w : World} {P : Program} {k : TypeId} {R : Value → Option (DataW Unit × List MemPlace)} {b n : Nat} {f : Lit → Option (DataW Unit)} (h : MapF w P k R b n f) : b < w.heap.size := by
  obtain ⟨D, h1, h2⟩ := h; exact h1.lt
theorem MapF.mono {w : World} {P : Program} {k : TypeId} {R : Value → Option (DataW Unit × List MemPlace)} {b n m : Nat} {f : Lit → Option (DataW Unit)} (h : MapF w P k R b n f) (hm : n ≤ m) : MapF w P k R b m f := by
  obtain ⟨D, h1, h2⟩ := h; exact ⟨D, h1.mono hm, h2⟩
theorem MapF.new (w : World) (P : Program) (k : TypeId) (R : Value → Option (DataW Unit × List MemPlace)) : MapF (w.alloc (.map #[] 0)) P k R w.heap.size 0 (fun _ => none) := ⟨_, World.ownsMap_made w P k R, repL_nil⟩
section
variable {w : World} {P : Program} {k t e : TypeId} {R : Value → Option (DataW Unit × List MemPlace)} {b n : Nat} {f : Lit → Option (DataW Unit)}
theorem MapF.look (h : MapF w P k R b n f) (K : Keyed P k) (ht : P.underlying t = some (.map k e)) {z : Value} (hz : (zeroValue e).run P w = .ok z w) {zd : DataW Unit} {zp : List MemPlace} (hzd : R z = some (zd, zp)) {key : Value} {l : Lit} (hk : keyOf P k key = some l) :
    ∃ v ps, (Instr.lookup t (.map (some b)) key false).run P w = .ok v w ∧ R v = some ((f l).getD zd, ps) := by
  obtain ⟨D, h1, h2⟩ := h
  obtain ⟨v, ps, hr, hv⟩ := h1.lookup K ht hz hzd hk
  exact ⟨v, ps, hr, by rw [← h2.at_]; exact hv⟩
theorem MapF.look_ok (h : MapF w P k R b n f) (K : Keyed P k) (ht : P.underlying t = some (.map k e)) {z : Value} (hz : (zeroValue e).run P w = .ok z w) {zd : DataW Unit} {zp : List MemPlace} (hzd : R z = some (zd, zp)) {key : Value} {l : Lit} (hk : keyOf P k key = some l) :
    ∃ v ps, (Instr.lookup t (.map (some b)) key true).run P w = .ok (.tuple #[v, .bool (f l).isSome]) w ∧ R v = some ((f l).getD zd, ps) := by
  obtain ⟨D, h1, h2⟩ := h
  obtain ⟨v, ps, hr, hv⟩ := h1.look_ok K ht hz hzd hk
  exact ⟨v, ps, by rw [← h2.has]; exact hr, by rw [← h2.at_]; exact hv⟩
theorem MapF.put (h : MapF w P k R b n f) (K : Keyed P k) (ht : P.underlying t = some (.map k e)) (hn : n < maxLen) {key val : Value} {l : Lit} {d : DataW Unit} {ps : List MemPlace} (hk : keyOf P k key = some l) (hv : R val = some (d, ps)) :
    ∃ w', (Instr.mapUpdate t (.map (some b)) key val).run P w = .ok () w' ∧ MapF w' P k R b (n + 1) (updL f l d) ∧ w.grownBy w' (some b) := by
  obtain ⟨D, h1, h2⟩ := h
  obtain ⟨w', hr, ho, hg⟩ := h1.update K ht hn hk hv
  exact ⟨w', hr, ⟨_, ho, repL_put h2 (K.key hk)⟩, hg⟩
end
/-! Keys that are deals. -/
theorem laidOut_ : laidOutB Tryz.prog = true := by kernel_rfl
theorem lawD : WideMaps.KeyLaw Tryz.prog 106 := deep_law_laid laidOut_ (m := 3) (by omega) (of_decide_eq_true (by kernel_rfl)) (by kernel_rfl) (by kernel_rfl)
theorem keyD : Keyed Tryz.prog 106 := Keyed.of_law lawD
def klD (a r : Int) : Lit := .string (keyBytes [.int .i64 a, .int .i64 r])
theorem keyOfD {a r : Int} (ha : I64 a) (hr : I64 r) : keyOf Tryz.prog 106 (.agg #[.int .i64 a, .int .i64 r]) = some (klD a r) := by
  have h1 : Tryz.prog.keyType 106 = true := by kernel_rfl
  have c1 : Tryz.prog.cellsOf 106 = 2 := by kernel_rfl
  have c3 : Tryz.prog.cellsOf 3 = 1 := by kernel_rfl
  have wa : (Lit.int .i64 a).wf = true := WalkArith.wf_i64 (by have := ha.1; have := ha.2; omega)
  have wr : (Lit.int .i64 r).wf = true := WalkArith.wf_i64 (by have := hr.1; have := hr.2; omega)
  obtain ⟨n, hn⟩ : ∃ n, Tryz.prog.types.size = n + 1 := ⟨Tryz.prog.types.size - 1, by kernel_rfl⟩
  have k3 : ∀ x : Int, (Lit.int .i64 x).wf = true → Tryz.prog.keyLits (n + 1) 3 [.int .i64 x] = some [.int .i64 x] := fun x hx => by
    unfold Program.keyLits; rw [Tryz.underlying3]; simp [hx]
  unfold keyOf
  rw [Tryz.underlying106]
  have hf : (Value.agg #[.int .i64 a, .int .i64 r]).formed Tryz.prog 106 = true := by simp [Value.formed, Tryz.underlying106, c1]
  simp only [h1, hf, Bool.and_self, if_true, hn]
  unfold Program.keyLits
  rw [Tryz.underlying106]
  simp [c1, c3, Value.cells, k3 a wa, k3 r wr, klD]
theorem klD_inj {a r a' r' : Int} (ha : I64 a) (hr : I64 r) (ha' : I64 a') (hr' : I64 r') (h : klD a r = klD a' r') : a = a' ∧ r = r' := by
  have := keyD.inj (keyOfD ha hr) (by rw [h]; exact keyOfD ha' hr')
  simpa using this
end Go.Proofs.YtdojgbpaheadnaaGreat
