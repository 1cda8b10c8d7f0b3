/- The laws: Makes, Latest. -/
import Derived.Test.YtpdldbapagchfaaGreatDoorQ22
import Derived.Test.YtpdldbapagchfaaGreatDoorQ27
import Derived.Test.YtpdldbapagchfaaGreatDoorQ17
import Derived.Test.YtpdldbapagchfaaGreatDoorRows
import Derived.ProofKit
import Derived.OpenShut
import Derived.ShutString
import Derived.ChangeOld
import Derived.Below
import Derived.Deep.Slices
set_option linter.unusedVariables false
set_option linter.unusedSimpArgs false

namespace Go.Proofs.YtpdldbapagchfaaGreatDoor
open Go.RowKit Go.Shelf Go.Maps
attribute [local go_sem] over_cell over_frozen

/-- Arguments whose numbers fit. -/
def SOk (l : List SaidI) : Prop := ∀ x ∈ l, In64 (x.s, x.n) ∧ I64 x.v
theorem OwnOf.vers {B : Nat} {S : Nat → Prop} {w : World} {v : Value} {L : List Ver} (h : OwnOf 43 6 B (VerR S) w v L) : VersAt (fun _ => True) w v L :=
  h.sl.keep (S' := fun _ => True) (R' := VerR (fun _ => True)) (by omega) (fun _ _ _ => rfl) (fun c x h => h.keep (fun _ _ _ => rfl) (fun _ _ _ => trivial)) (fun _ _ _ => trivial)
theorem fldP_kok (q : Q4) : KOk (fldP q) := by
  have hc : ∀ n, codL.getD n 0 < 256 := fun n => by
    unfold codL
    match n with
    | 0 | 1 | 2 | 3 | 4 | 5 | 6 | 7 => decide
    | n + 8 => simp
  unfold fldP
  split
  · refine ⟨⟨?_, ?_, ?_⟩, ?_⟩
    · have := textP_small q.d; show (textP q.d).size < 100; omega
    · show (0 : Nat) ≤ 1000; omega
    · intro s hs; cases hs
    · have := tagP_small q.a; show (tagP q.a).size ≤ 1000; omega
  · refine ⟨⟨?_, ?_, ?_⟩, ?_⟩
    · show (0 : Nat) < 100; omega
    · show ((List.range (1 + q.c % 3).toNat).map (subP q)).length ≤ 1000
      rw [List.length_map, List.length_range]; omega
    · intro s hs
      obtain ⟨j, _, rfl⟩ := List.mem_map.1 hs
      refine ⟨hc _, ?_⟩
      have := textP_small (wi (q.d + 3 * j)); show (textP (wi (q.d + 3 * j))).size ≤ 1000; omega
    · have := tagP_small q.a; show (tagP q.a).size ≤ 1000; omega
theorem versP_lok {l : List SaidI} (h : SOk l) : LOk (versP l) := by
  refine ⟨versP_ok l, fun v hv => ?_, by simp only [versP, List.length_map, List.length_take]; omega, fun x hx f hf => ?_⟩
  · obtain ⟨x, hx, rfl⟩ := List.mem_map.1 hv
    exact (h x (List.mem_of_mem_take hx)).1
  · obtain ⟨y, _, rfl⟩ := List.mem_map.1 hx
    obtain ⟨q, _, rfl⟩ := List.mem_map.1 hf
    exact fldP_kok q
theorem filt_len (p : Said → Bool) : ∀ l : List Said, (l.filter p).length + (l.filter fun x => !p x).length = l.length
  | [] => rfl
  | x :: l => by
    have ih := filt_len p l
    cases h : p x with
    | true => rw [List.filter_cons_of_pos h, List.filter_cons_of_neg (by simp [h])]; simp only [List.length_cons]; omega
    | false => rw [List.filter_cons_of_neg (by simp [h]), List.filter_cons_of_pos (by simp [h])]; simp only [List.length_cons]; omega
theorem abouts_len : ∀ T : List ByteArray, T.Nodup → ∀ l : List Said, (T.flatMap fun t => about t l).length ≤ l.length
  | [], _, l => by simp
  | t :: T, h, l => by
    have h' := List.nodup_cons.1 h
    have ih := abouts_len T h'.2 (l.filter fun x => !decide (x.1.tag = t))
    have e : (T.flatMap fun u => about u l) = T.flatMap fun u => about u (l.filter fun x => !decide (x.1.tag = t)) := by
      have : ∀ T' : List ByteArray, (∀ u ∈ T', u ≠ t) → (T'.flatMap fun u => about u l) = T'.flatMap fun u => about u (l.filter fun x => !decide (x.1.tag = t)) := by
        intro T' hT
        induction T' with
        | nil => rfl
        | cons u T' ihT =>
          rw [List.flatMap_cons, List.flatMap_cons, ihT fun v hv => hT v (by simp [hv])]
          congr 1
          unfold about
          rw [List.filter_filter]
          refine List.filter_congr fun x _ => ?_
          by_cases hx : x.1.tag = u
          · have : ¬ x.1.tag = t := fun e => hT u (by simp) (hx.symm.trans e)
            simp [hx, hT u (by simp)]
          · simp [hx]
      exact this T fun u hu e => h'.1 (e ▸ hu)
    rw [List.flatMap_cons, List.length_append, e]
    have h2 := filt_len (fun x => decide (x.1.tag = t)) l
    have h3 : (about t l).length = (l.filter fun x => decide (x.1.tag = t)).length := rfl
    omega
theorem mergeP_len (V : List Ver) : (mergeP (foldS tabC) polP (tagsP ltT (saidOf V)) V).length ≤ (saidOf V).length := by
  refine Nat.le_trans ?_ (abouts_len _ (nodup_tagsP ltT_ord (saidOf V)) (saidOf V))
  unfold mergeP
  generalize tagsP ltT (saidOf V) = T
  induction T with
  | nil => simp
  | cons t T ih =>
    rw [List.flatMap_cons, List.flatMap_cons, List.length_append, List.length_append]
    have := keepP_len (foldS tabC) (polP t) (about t (saidOf V))
    omega
theorem mrgV_ok {V : List Ver} (h : LOk V) (hs : (saidOf V).length ≤ 1000) : FsOk (mrgV V).fs := by
  refine ⟨?_, fun f hf => ?_⟩
  · have := mergeP_len V
    show ((mergeP (foldS tabC) polP (tagsP ltT (saidOf V)) V).map (·.1)).length ≤ 1000
    rw [List.length_map]; omega
  · obtain ⟨y, hy, rfl⟩ := List.mem_map.1 hf
    obtain ⟨z, hz, _, h2⟩ := mem_mergeP hy
    exact (h.fld z hz _ h2).f.subs
theorem said_few {V : List Ver} {c : Nat} (h : ∀ x ∈ V, x.fs.length ≤ c) : (saidOf V).length ≤ V.length * c := by
  induction V with
  | nil => simp [saidOf]
  | cons x V ih =>
    have h1 := ih fun y hy => h y (by simp [hy])
    have h2 := h x (by simp)
    have e : (saidOf (x :: V)).length = x.fs.length + (saidOf V).length := by simp [saidOf]
    rw [e, List.length_cons, Nat.succ_mul]; omega
theorem versP_few (l : List SaidI) : ∀ x ∈ versP l, x.fs.length ≤ 6 := fun x hx => by
  obtain ⟨y, _, rfl⟩ := List.mem_map.1 hx
  simp only [verP, List.length_map, List.length_take]; omega
theorem few_latest {L : List Ver} (hl : L.length ≤ 20) (h : ∀ x ∈ L, x.fs.length ≤ 6) : (saidOf (latest L)).length ≤ 1000 := by
  have h1 := said_few (V := latest L) (c := 6) fun x hx => h x (latest_mem hx)
  have h2 : (latest L).length ≤ L.length := latTo_len L L.length
  omega
theorem versP_len (l : List SaidI) : (versP l).length ≤ 20 := by simp only [versP, List.length_map, List.length_take]; omega
set_option maxRecDepth 100000 in
set_option maxHeartbeats 4000000 in
theorem makesLaw (S : Nat → Prop) {w : World} {v : Value} {l : List SaidI} (h : SlOf 4 S (SaidR S) w v l) (hl : SOk l) :
    Calls Tryz.prog 3 #[v] w fun e w' => e = .returned (.bool true) ∧ Below w.heap.size w w' := by
  have HS := Lib.hid h
  have HL := Lib.hid (versP_lok hl)
  obtain ⟨a, cap, rfl, -⟩ := h
  obtain ⟨n, hn⟩ : ∃ n, n = l.length := ⟨_, rfl⟩
  rw [← hn] at HS ⊢
  clear hl hn
  go_enter Tryz.func3, Tryz.ntmps3
  go_wp2_with fail
  refine (sanity_any w).mono ?_
  rintro e w1 ⟨rfl, hb⟩
  have B1 := Lib.hid hb
  have HV := Lib.hid (versions_any S (h := HS.out.keep (by omega) (Stay.of_below hb) (fun _ _ h => h.keep (Stay.of_below hb) (fun _ h _ => h)) (fun _ h _ => h)))
  clear hb
  go_wp2_with fail
  refine HV.out.mono ?_
  rintro e w2 ⟨v2, rfl, hO, hb⟩
  have HO := Lib.hid hO
  obtain ⟨va, vc, rfl⟩ := hO.expl
  obtain ⟨m, hm⟩ : ∃ m, m = (versP l).length := ⟨_, rfl⟩
  rw [← hm] at HO ⊢
  have B2 : RowKit.Hid (Below w.heap.size w w2) := Lib.hid (B1.out.trans (hb.mono B1.out.size))
  have HV2 := Lib.hid (HO.out.slB (by omega))
  clear hO hb hm HV
  go_wp2_with fail
  refine (merge_any HV2.out HL.out HL.out.latest).mono ?_
  rintro e w3 ⟨cs, rfl, hM, hb⟩
  have HM3 := Lib.hid hM
  have B3 := Lib.hid hb
  have HV3 := Lib.hid (VersAt.keep HV2.out (Stay.of_below hb) (fun _ h _ => h))
  clear hM hb
  go_wp2_with fail
  refine (rmerge_any HV3.out HL.out HL.out.latest).mono ?_
  rintro e w4 ⟨ds, rfl, hM, hb⟩
  have HM4 := Lib.hid hM
  have HM3' := Lib.hid (HM3.out.keep (Stay.of_below hb) (fun _ h _ => h))
  have B4 : RowKit.Hid (Below w.heap.size w w4) := Lib.hid (B2.out.trans ((B3.out.trans (hb.mono B3.out.size)).mono B2.out.size))
  clear hM hb
  go_wp2_with fail
  refine (same_any _ _ HM3'.out HM4.out (mrgV_ok HL.out.latest (few_latest (versP_len l) (versP_few l)))).mono ?_
  rintro e w5 ⟨rfl, hb⟩
  have B5 : RowKit.Hid (Below w.heap.size w w5) := Lib.hid (B4.out.trans (hb.mono B4.out.size))
  clear hb
  go_wp2_with fail
  go_ret
  exact ⟨rfl, B5.out⟩
set_option maxRecDepth 100000 in
set_option maxHeartbeats 4000000 in
theorem latestLaw (S : Nat → Prop) {w : World} {v : Value} {l : List SaidI} (s : Int) (h : SlOf 4 S (SaidR S) w v l) (hl : SOk l) :
    Calls Tryz.prog 4 #[v, .int .i64 s] w fun e w' => e = .returned (.bool true) ∧ Below w.heap.size w w' := by
  have HS := Lib.hid h
  have HL := Lib.hid (versP_lok hl)
  obtain ⟨a, cap, rfl, -⟩ := h
  obtain ⟨n, hn⟩ : ∃ n, n = l.length := ⟨_, rfl⟩
  rw [← hn] at HS ⊢
  clear hl hn
  go_enter Tryz.func4, Tryz.ntmps4
  go_wp2_with fail
  refine (sanity_any w).mono ?_
  rintro e w1 ⟨rfl, hb⟩
  have B1 := Lib.hid hb
  have HV := Lib.hid (versions_any S (h := HS.out.keep (by omega) (Stay.of_below hb) (fun _ _ h => h.keep (Stay.of_below hb) (fun _ h _ => h)) (fun _ h _ => h)))
  clear hb
  go_wp2_with fail
  refine HV.out.mono ?_
  rintro e w2 ⟨v2, rfl, hO, hb⟩
  have HO := Lib.hid hO
  obtain ⟨va, vc, rfl⟩ := hO.expl
  obtain ⟨m, hm⟩ : ∃ m, m = (versP l).length := ⟨_, rfl⟩
  rw [← hm] at HO ⊢
  have B2 : RowKit.Hid (Below w.heap.size w w2) := Lib.hid (B1.out.trans (hb.mono B1.out.size))
  have HV2 := Lib.hid (HO.out.slB (by omega))
  clear hO hb hm HV
  have HVK : RowKit.Hid (∀ W, Below w2.heap.size w2 W → VersAt (fun b => w1.heap.size ≤ b) W (.slice va m vc) (versP l)) := Lib.hid fun W hW => VersAt.keep HV2.out (Stay.of_below hW) (fun _ h _ => h)
  go_wp2_with fail
  refine (latest_any _ HV2.out HL.out.vs HL.out.recs).mono ?_
  rintro e w3 ⟨v3, rfl, hO, hb⟩
  have H3 := Lib.hid hO.vers
  obtain ⟨a3, c3, rfl⟩ := hO.expl
  have B3 := Lib.hid hb
  clear hO hb
  go_wp2_with fail
  refine (rlatest_any _ (HVK.out w3 B3.out) HL.out.vs).mono ?_
  rintro e w4 ⟨v4, rfl, hO, hb⟩
  have H4 := Lib.hid hO.vers
  obtain ⟨a4, c4, rfl⟩ := hO.expl
  have B4 : RowKit.Hid (Below w2.heap.size w2 w4) := Lib.hid (B3.out.trans (hb.mono B3.out.size))
  have H3' := Lib.hid (VersAt.keep H3.out (Stay.of_below hb) (fun _ h _ => h))
  clear hO hb H3
  go_wp2_with fail
  refine (sameVersions_any _ _ H3'.out H4.out HL.out.latest.vs).mono ?_
  rintro e w5 ⟨rfl, hb⟩
  have B5 : RowKit.Hid (Below w2.heap.size w2 w5) := Lib.hid (B4.out.trans (hb.mono B4.out.size))
  clear hb H3' H4
  go_wp2_with fail
  refine (without_any _ s (HVK.out w5 B5.out) HL.out.vs).mono ?_
  rintro e w6 ⟨v6, rfl, hO, hb⟩
  have H6 := Lib.hid hO.vers
  obtain ⟨a6, c6, rfl⟩ := hO.expl
  have B6 : RowKit.Hid (Below w2.heap.size w2 w6) := Lib.hid (B5.out.trans (hb.mono B5.out.size))
  clear hO hb
  go_wp2_with fail
  refine (rwithout_any _ s (HVK.out w6 B6.out) HL.out.vs).mono ?_
  rintro e w7 ⟨v7, rfl, hO, hb⟩
  have H7 := Lib.hid hO.vers
  obtain ⟨a7, c7, rfl⟩ := hO.expl
  have B7 : RowKit.Hid (Below w2.heap.size w2 w7) := Lib.hid (B6.out.trans (hb.mono B6.out.size))
  have H6' := Lib.hid (VersAt.keep H6.out (Stay.of_below hb) (fun _ h _ => h))
  clear hO hb H6
  have HWO : RowKit.Hid (VsOk (without s (versP l))) := Lib.hid (HL.out.sub (List.length_filter_le _ _) (fun x hx => (List.mem_filter.1 hx).1)).vs
  go_wp2_with fail
  refine (sameVersions_any _ _ H6'.out H7.out HWO.out).mono ?_
  rintro e w8 ⟨rfl, hb⟩
  have B8 : RowKit.Hid (Below w2.heap.size w2 w8) := Lib.hid (B7.out.trans (hb.mono B7.out.size))
  clear hb H6' H7
  go_wp2_with fail
  refine (latest_any _ (HVK.out w8 B8.out) HL.out.vs HL.out.recs).mono ?_
  rintro e w9 ⟨v9, rfl, hO, hb⟩
  have H9 := Lib.hid hO.vers
  obtain ⟨a9, c9, rfl⟩ := hO.expl
  have B9 : RowKit.Hid (Below w2.heap.size w2 w9) := Lib.hid (B8.out.trans (hb.mono B8.out.size))
  clear hO hb
  go_wp2_with fail
  refine (latest_any _ H9.out HL.out.latest.vs HL.out.latest.recs).mono ?_
  rintro e wa ⟨va', rfl, hO, hb⟩
  rw [latest_again] at hO
  have Ha := Lib.hid hO.vers
  obtain ⟨aa, ca, rfl⟩ := hO.expl
  have Ba : RowKit.Hid (Below w2.heap.size w2 wa) := Lib.hid (B9.out.trans (hb.mono B9.out.size))
  clear hO hb
  go_wp2_with fail
  refine (rlatest_any _ (HVK.out wa Ba.out) HL.out.vs).mono ?_
  rintro e wb ⟨vb, rfl, hO, hb⟩
  have Hb := Lib.hid hO.vers
  obtain ⟨ab, cb, rfl⟩ := hO.expl
  have Bb : RowKit.Hid (Below w2.heap.size w2 wb) := Lib.hid (Ba.out.trans (hb.mono Ba.out.size))
  have Ha' := Lib.hid (VersAt.keep Ha.out (Stay.of_below hb) (fun _ h _ => h))
  clear hO hb Ha
  go_wp2_with fail
  refine (sameVersions_any _ _ Ha'.out Hb.out HL.out.latest.vs).mono ?_
  rintro e wc ⟨rfl, hb⟩
  have Bc : RowKit.Hid (Below w.heap.size w wc) := Lib.hid (B2.out.trans ((Bb.out.trans (hb.mono Bb.out.size)).mono B2.out.size))
  clear hb
  go_wp2_with fail
  go_ret
  exact ⟨rfl, Bc.out⟩
end Go.Proofs.YtpdldbapagchfaaGreatDoor

/- How the arguments of the laws are opened: versions given by numbers; bytes. -/
namespace Go.Proofs.YtpdldbapagchfaaGreatDoor
open Go.ChangeShapes Go.WideShapes Go.ChangeAt Go.RowKit
theorem wf_in64 {k : Int} (h : (Lit.int .i64 k).wf = true) : I64 k := by
  simp [Lit.wf, IntKind.min, IntKind.max, IntKind.bits, IntKind.signed] at h; exact ⟨by omega, by omega⟩
theorem wf_u8 {k : Int} (h : (Lit.int .u8 k).wf = true) : 0 ≤ k ∧ k < 256 := by
  simp [Lit.wf, IntKind.min, IntKind.max, IntKind.bits, IntKind.signed] at h; omega
section
variable {H : Type} {enc : TypeId × Value → H} {W : World} {base : Nat} {spare : Nat → Bool} {held : Bool}
theorem frozen_sub {ps qs : List MemPlace} (h : W.noneFrozen ps) (hs : ∀ x ∈ qs, x ∈ ps) : W.noneFrozen qs := fun b o hx => h b o (hs _ hx)
/-- A slice whose elements can be opened. -/
theorem slice_of {α : Type} [Inhabited α] {t e : TypeId} {z : Nat} {R : World → List Value → α → Prop} {ok : α → Prop} (ht : Tryz.prog.underlying t = some (.slice e)) (hc : Tryz.prog.cellsOf e = z) (hz : 0 < z)
    (he : ∀ (n : Nat) (cs : List Value) (y : DataW H × List MemPlace), DataW.trod enc Tryz.prog W base spare held n e cs = some y → W.noneFrozen y.2 → ∃ r, R W cs r ∧ ok r ∧ cs.length = z)
    {fuel : Nat} {cs : List Value} {x : DataW H × List MemPlace} (h : DataW.trod enc Tryz.prog W base spare held fuel t cs = some x) (hf : W.noneFrozen x.2) : ∃ (v : Value) (L : List α), cs = [v] ∧ SlOf z (fun _ => True) R W v L ∧ ∀ r ∈ L, ok r := by
  rcases Go.Deep.open_slice ht h with ⟨hcs, _⟩ | ⟨ad, len, cap, m, n, D, Pl, hcs, hb, hl, hm, hmm, rfl, hx⟩
  · exact ⟨_, [], hcs, ⟨none, 0, rfl, Nat.le_refl _, by unfold maxLen; omega, .inl rfl⟩, by simp⟩
  · rw [hc] at hx hf
    have hlm : len ≤ m := by rw [hmm]; split <;> omega
    have each : ∀ i, i < len → ∃ r : α × List Value, W.cells? base (ad.add (i * z)) z = some r.2 ∧ R W r.2 r.1 ∧ ok r.1 ∧ r.2.length = z := by
      intro i hi
      obtain ⟨cs', h1, h2⟩ := hx i (by omega)
      obtain ⟨r, h3, h4, h5⟩ := he n cs' _ h2 (frozen_sub hf fun y hy => List.mem_append_right _ (List.mem_flatMap.2 ⟨i, List.mem_range.2 (by omega), hy⟩))
      exact ⟨(r, cs'), h1, h3, h4, h5⟩
    by_cases h0 : len = 0
    · subst h0
      exact ⟨_, [], hcs, ⟨_, cap, rfl, hl, hm, .inl rfl⟩, by simp⟩
    · obtain ⟨G, hG⟩ := Go.Deep.choose_lt each
      have hcell : ∀ i, i < len → ∀ j u, (G i).2[j]? = some u → W.cell? (ad.add (i * z + j)) = some u := by
        intro i hi j u hu
        obtain ⟨_, hlen, hcc⟩ := World.cells?_some (hG i hi).1
        have hj : j < z := by have := (List.getElem?_eq_some_iff.1 hu).1; rw [(hG i hi).2.2.2] at this; exact this
        have := hcc j hj
        rw [show ad.add (i * z + j) = (ad.add (i * z)).add j from (Go.Deep.add_add _ _ _).symm, this]; exact hu
      obtain ⟨b, o, sp⟩ := ad
      have hs : sp = none := by
        have hlz : 0 < (G 0).2.length := by rw [(hG 0 (by omega)).2.2.2]; exact hz
        have := hcell 0 (by omega) 0 _ (List.getElem?_eq_getElem hlz)
        simpa [Addr.add] using World.cell?_spot this
      subst hs
      refine ⟨_, (List.range len).map fun i => (G i).1, hcs, ⟨some ⟨b, o, none⟩, cap, by simp, by simpa using hl, hm, .inr ⟨b, o, rfl, trivial, (List.range len).map fun i => (G i).2, ?_, fun c hc' => ?_, fun j u hj => ?_⟩⟩, fun r hr => ?_⟩
      · refine All2.of_get (by simp) fun j h1 h2 => ?_
        rw [List.getElem_map, List.getElem_map, List.getElem_range]
        exact (hG j (by simpa using h1)).2.1
      · obtain ⟨i, hi, rfl⟩ := List.mem_map.1 hc'
        exact (hG i (List.mem_range.1 hi)).2.2.2
      · have hzz : ∀ c ∈ (List.range len).map (fun i => (G i).2), c.length = z := fun c hc' => by
          obtain ⟨i, hi, rfl⟩ := List.mem_map.1 hc'
          exact (hG i (List.mem_range.1 hi)).2.2.2
        have hjl := (List.getElem?_eq_some_iff.1 hj).1
        rw [flat_len hzz, List.length_map, List.length_range] at hjl
        have hq : j / z < len := Nat.div_lt_of_lt_mul (by rw [Nat.mul_comm]; exact hjl)
        have hr : j % z < z := Nat.mod_lt _ hz
        have hjd : j = j / z * z + j % z := by rw [Nat.mul_comm]; exact (Nat.div_add_mod j z).symm
        have h2 := flat_get hzz (j / z) (by simpa using hq) (j % z) hr
        rw [← hjd, List.getElem_map, List.getElem_range] at h2
        have h3 := hcell (j / z) hq (j % z) u (by rw [← h2]; exact hj)
        rw [← hjd, add_off] at h3
        refine ⟨h3, hf b (o + j) (List.mem_append_left _ (MemPlace.mem_row.2 ⟨j, ?_, rfl⟩))⟩
        exact Nat.lt_of_lt_of_le hjl (Nat.mul_le_mul_right z hlm)
      · obtain ⟨i, hi, rfl⟩ := List.mem_map.1 hr
        exact (hG i (List.mem_range.1 hi)).2.2.1
theorem len4 {α : Type} {l : List α} (h : l.length = 4) : ∃ a b c d, l = [a, b, c, d] := by
  match l, h with
  | [a, b, c, d], _ => exact ⟨a, b, c, d, rfl⟩
set_option maxRecDepth 100000 in
theorem q4_of (n : Nat) (cs : List Value) (y : DataW H × List MemPlace) (h : DataW.trod enc Tryz.prog W base spare held n 92 cs = some y) : ∃ r : Q4, QR W cs r ∧ cs.length = 4 := by
  obtain ⟨xs, m, rfl, rfl, hl, hx, hf⟩ := DataW.trod_array Tryz.underlying92 h
  have c4 : Tryz.prog.cellsOf 92 = 4 := by kernel_rfl
  have c3 : Tryz.prog.cellsOf 3 = 1 := by kernel_rfl
  rw [c4] at hl
  have h0 := hf 0 (by omega)
  have h1 := hf 1 (by omega)
  have h2 := hf 2 (by omega)
  have h3 := hf 3 (by omega)
  rw [c3] at h0 h1 h2 h3
  obtain ⟨v0, v1, v2, v3, rfl⟩ := len4 hl
  rw [List.getElem?_eq_getElem (by omega)] at h0 h1 h2 h3
  obtain ⟨k0, e0, _, g0⟩ := DataW.trod_int Tryz.underlying3 h0
  obtain ⟨k1, e1, _, g1⟩ := DataW.trod_int Tryz.underlying3 h1
  obtain ⟨k2, e2, _, g2⟩ := DataW.trod_int Tryz.underlying3 h2
  obtain ⟨k3, e3, _, g3⟩ := DataW.trod_int Tryz.underlying3 h3
  simp at e0 e1 e2 e3
  subst e0 e1 e2 e3
  exact ⟨⟨k0, k1, k2, k3⟩, rfl, rfl⟩
set_option maxRecDepth 100000 in
theorem qs_of {fuel : Nat} {cs : List Value} {x : DataW H × List MemPlace} (h : DataW.trod enc Tryz.prog W base spare held fuel 59 cs = some x) (hf : W.noneFrozen x.2) : ∃ (v : Value) (L : List Q4), cs = [v] ∧ SlOf 4 (fun _ => True) QR W v L := by
  obtain ⟨v, L, e, h1, _⟩ := slice_of (R := QR) (ok := fun _ => True) Tryz.underlying59 (z := 4) (by kernel_rfl) (by omega) (fun n cs y hy _ => by obtain ⟨r, a, b⟩ := q4_of n cs y hy; exact ⟨r, a, trivial, b⟩) h hf
  exact ⟨v, L, e, h1⟩
set_option maxRecDepth 100000 in
theorem said_of (n : Nat) (cs : List Value) (y : DataW H × List MemPlace) (h : DataW.trod enc Tryz.prog W base spare held n 61 cs = some y) (hn : W.noneFrozen y.2) : ∃ r : SaidI, SaidR (fun _ => True) W cs r ∧ (In64 (r.s, r.n) ∧ I64 r.v) ∧ cs.length = 4 := by
  obtain ⟨xs, m, rfl, rfl, hl, hx, hf⟩ := DataW.trod_struct Tryz.underlying61 h
  have c4 : Tryz.prog.cellsOf 61 = 4 := by kernel_rfl
  have c3 : Tryz.prog.cellsOf 3 = 1 := by kernel_rfl
  have cs1 : Tryz.prog.cellsOf 59 = 1 := by kernel_rfl
  rw [c4] at hl
  have h0 : DataW.trod enc Tryz.prog W base spare held m 3 ((cs.drop 0).take (Tryz.prog.cellsOf 3)) = xs[0]? := hf 0 _ rfl
  have h1 : DataW.trod enc Tryz.prog W base spare held m 3 ((cs.drop 1).take (Tryz.prog.cellsOf 3)) = xs[1]? := hf 1 _ rfl
  have h2 : DataW.trod enc Tryz.prog W base spare held m 3 ((cs.drop 2).take (Tryz.prog.cellsOf 3)) = xs[2]? := hf 2 _ rfl
  have h3 : DataW.trod enc Tryz.prog W base spare held m 59 ((cs.drop 3).take (Tryz.prog.cellsOf 59)) = xs[3]? := hf 3 _ rfl
  rw [c3] at h0 h1 h2
  rw [cs1] at h3
  have hxl : xs.length = 4 := hx
  obtain ⟨v0, v1, v2, v3, rfl⟩ := len4 hl
  obtain ⟨x0, x1, x2, x3, rfl⟩ := len4 hxl
  obtain ⟨k0, e0, _, g0⟩ := DataW.trod_int Tryz.underlying3 h0
  obtain ⟨k1, e1, _, g1⟩ := DataW.trod_int Tryz.underlying3 h1
  obtain ⟨k2, e2, _, g2⟩ := DataW.trod_int Tryz.underlying3 h2
  have h3' : DataW.trod enc Tryz.prog W base spare held m 59 [v3] = some x3 := h3
  obtain ⟨fv, L, e3, hs⟩ := qs_of h3' (frozen_sub hn fun y hy => by simp [hy])
  simp at e0 e1 e2 e3
  subst e0 e1 e2 e3
  exact ⟨⟨k0, k1, k2, L⟩, ⟨_, rfl, hs⟩, ⟨⟨wf_in64 g0, wf_in64 g1⟩, wf_in64 g2⟩, rfl⟩
set_option maxRecDepth 100000 in
theorem saids_of {fuel : Nat} {v : Value} {x : DataW H × List MemPlace} (h : DataW.trod enc Tryz.prog W base spare held fuel 22 [v] = some x) (hf : W.noneFrozen x.2) : ∃ L : List SaidI, SlOf 4 (fun _ => True) (SaidR (fun _ => True)) W v L ∧ SOk L := by
  obtain ⟨v', L, e, h1, h2⟩ := slice_of (R := SaidR (fun _ => True)) (ok := fun r : SaidI => In64 (r.s, r.n) ∧ I64 r.v) Tryz.underlying22 (z := 4) (by kernel_rfl) (by omega) said_of h hf
  obtain rfl : v = v' := by simpa using e
  exact ⟨L, h1, h2⟩
end
end Go.Proofs.YtpdldbapagchfaaGreatDoor
