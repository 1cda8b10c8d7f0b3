/- Words and Fold, whole. -/
import Derived.Test.YtpdldbapagchfaaGreatDoorQ05
import Derived.Test.YtpdldbapagchfaaGreatDoorQ02
import Derived.Test.YtpdldbapagchfaaGreatDoorQ03
import Derived.Deep.MidRow
import Derived.Test.YtpdldbapagchfaaGreatDoorProg
set_option linter.unusedVariables false
set_option linter.unusedSimpArgs false

namespace Go.Proofs.YtpdldbapagchfaaGreatDoor
open Go.RowKit Go.Shelf Go.Maps

/-- The words' lengths and their number. -/
def total (l : List (List UInt8)) : Nat := (l.map List.length).sum + l.length
theorem total_cons (x : List UInt8) (l : List (List UInt8)) : total (x :: l) = x.length + 1 + total l := by simp [total]; omega
theorem wordsP_total (ch : Nat → List UInt8) (hch : ∀ c, (ch c).length ≤ 10) : ∀ (cs : List Nat) (w : List UInt8), total (wordsP ch cs w) ≤ w.length + 1 + 10 * cs.length
  | [], w => by
    unfold wordsP
    split
    · simp [total]
    · simp [total]
  | c :: cs, w => by
    unfold wordsP
    have h1 := wordsP_total ch hch cs (w ++ ch c)
    have h2 := wordsP_total ch hch cs []
    have h3 := hch c
    split
    · rw [List.length_append] at h1; simp only [List.length_cons]; omega
    split
    · simp only [List.length_cons, List.length_nil] at *; omega
    · rw [total_cons]; simp only [List.length_cons, List.length_nil] at *; omega
theorem joinP_total : ∀ l : List (List UInt8), (joinP l).length ≤ total l
  | [] => by simp [joinP]
  | [w] => by simp [joinP, total]
  | w :: v :: l => by
    have := joinP_total (v :: l)
    rw [total_cons]; simp only [joinP, List.length_append, List.length_cons]; omega
theorem join_joinP : ∀ l : List (List UInt8), Lib.join l [32] = joinP l
  | [] => rfl
  | [w] => Lib.join_one w [32]
  | w :: v :: l => by
    rw [Lib.join_cons, joinP, ← join_joinP (v :: l), Lib.join_cons]
    simp [Lib.joinTail]
theorem wordsC_total (s : ByteArray) : total (wordsC s) ≤ 1 + 10 * s.size := by
  have h1 := wordsP_total (charP tabC) charC_small (runes s) []
  have h2 := runes_len s
  simp only [List.length_nil] at h1
  unfold wordsC; omega
theorem wordsC_len (s : ByteArray) : (wordsC s).length ≤ 1 + 10 * s.size := by
  have := wordsC_total s; unfold total at this; omega
theorem foldS_size (s : ByteArray) : (foldS tabC s).size ≤ 1 + 10 * s.size := by
  have h1 := wordsC_total s
  have h2 := joinP_total (wordsC s)
  unfold foldS foldL; rw [ofL_size]
  unfold wordsC at h1 h2; omega
theorem wordsF_any (s : ByteArray) (w : World) : Calls Tryz.prog 115 #[.string s] w fun e w' => e = .returned (.func (.func 122) #[] #[.pointer (some ⟨w.heap.size, 0, none⟩)]) ∧ w' = w.alloc (.cells #[.string s] 9) := by
  go_enter Tryz.func115, Tryz.ntmps115
  go_wp2_with fail
  go_ret
  exact ⟨rfl, rfl⟩
set_option maxRecDepth 100000 in
set_option maxHeartbeats 2000000 in
theorem words_any (s : ByteArray) (hs : s.size ≤ 1000) (w : World) : Calls Tryz.prog 108 #[.string s] w fun e w' => ∃ v, e = .returned v ∧ w'.ownsRow w.heap.size 9 1 v (wordsC s).length ((wordsC s).map txV) ∧ Below w.heap.size w w' := by
  refine (callsIn_wide (n := 8)).1 ?_
  have eg : ∀ args w, (callFunc 122 args).run Tryz.prog w = .ok (.enter 122 args) w := enters_of Tryz.func122 (by kernel_rfl) rfl
  have hN := wordsC_len s
  refine callsIn_of_wp Tryz.func108 rfl trivial ?_ rfl
  simp only [Tryz.ntmps108, List.size_toArray, List.length_cons, List.length_nil, Nat.reduceAdd, Nat.reduceSub, Array.replicate_succ, Array.replicate_zero, List.push_toArray, List.append_toArray, List.nil_append, List.cons_append]
  have key : ∀ W : World, W = w.alloc (.cells #[.string s] 9) → CallsIn Fence.wide 7 Tryz.prog 114 #[.func (.func 122) #[] #[.pointer (some ⟨w.heap.size, 0, none⟩)]] W fun e w' => ∃ v ss, e = .returned v ∧ ss = wordsC s ∧ w'.ownsRow W.heap.size 9 1 v ss.length (ss.map txV) ∧ Below W.heap.size W w' := by
    intro W hW
    refine collectK_in 7 (by omega) 122 _ eg (fun ss => ss = wordsC s) (wordsC s).length (by omega) W fun Bs W' hb => ?_
    have hc : W.cell? ⟨w.heap.size, 0, none⟩ = some (.string s) := by rw [hW]; exact (Blk.new w #[.string s] 9).cell 0
    exact words_gives s hs _ (by omega) w.heap.size Bs W' (Below.cellE hb hc)
  clear hN
  have KEY := Lib.hid key
  clear key eg
  gi_wp2
  refine ⟨trivial, ?_⟩
  refine (callsIn_wide.2 (wordsF_any s w)).mono ?_
  rintro e w1 ⟨rfl, rfl⟩
  gi_wp2
  refine ⟨trivial, ?_⟩
  refine (KEY.out _ rfl).mono ?_
  rintro e w' ⟨v, ss, rfl, rfl, hrow, hb⟩
  have hz : (w.alloc (.cells #[.string s] 9)).heap.size = w.heap.size + 1 := by simp
  have hb0 : Below w.heap.size w (w.alloc (.cells #[.string s] 9)) := (Below.refl _ w).alloc (Nat.le_refl _) _
  have HROW : RowKit.Hid (w'.ownsRow w.heap.size 9 1 v (wordsC s).length ((wordsC s).map txV)) := Lib.hid (by
    rw [hz] at hrow
    rcases hrow with ⟨h0, hn | ⟨g, cap, cur, h1, h2, h3⟩⟩
    · exact ⟨h0, .inl hn⟩
    · exact ⟨h0, .inr ⟨g, cap, cur, h1, by omega, h3⟩⟩)
  have HB := Lib.hid (hb0.trans (hb.mono (by omega)))
  clear hrow hb hz hb0
  gi_wp2
  go_ret
  exact ⟨v, rfl, HROW.out, HB.out⟩
set_option maxRecDepth 100000 in
set_option maxHeartbeats 2000000 in
theorem fold_text_any (s : ByteArray) (hs : s.size ≤ 1000) (w : World) : Calls Tryz.prog 98 #[.string s] w fun e w' => e = .returned (.string (foldS tabC s)) ∧ Below w.heap.size w w' := by
  have HW := Lib.hid (words_any s hs w)
  go_enter Tryz.func98, Tryz.ntmps98
  go_wp2_with fail
  refine HW.out.mono ?_
  rintro e w1 ⟨v, rfl, hrow, hb⟩
  rcases hrow.2 with ⟨rfl, h0⟩ | ⟨g, cap, cur, rfl, hbg, hg, hcap, hmx, hsz, htk⟩
  · have hnil : wordsC s = [] := List.length_eq_zero_iff.1 h0
    have HJ := Lib.hid (Tryz.strings_Join_none none 0 ⟨#[32]⟩ w1)
    have HE : RowKit.Hid (foldS tabC s = ⟨#[]⟩) := Lib.hid (by unfold foldS foldL; unfold wordsC at hnil; rw [hnil]; rfl)
    have HB := Lib.hid hb
    clear hrow hb h0 hnil
    go_wp2_with fail
    refine HJ.out.mono ?_
    rintro e w2 ⟨rfl, rfl⟩
    go_wp2_with fail
    go_ret
    exact ⟨by rw [HE.out]; rfl, HB.out⟩
  · have hl : Lib.join (((wordsC s).map ofL).map (·.data.toList)) [32] = joinP (wordsC s) := by
      rw [← join_joinP, List.map_map]
      congr 1
      refine (List.map_congr_left fun x _ => ?_).trans (List.map_id _)
      rfl
    have ht := wordsC_total s
    have hj := joinP_total (wordsC s)
    have hn := wordsC_len s
    have HJ := Lib.hid (Tryz.strings_Join g 0 cap ((wordsC s).map ofL) ⟨#[32]⟩ w1 (fun j x hx => by
      have hj : j < (wordsC s).length := by
        have := (List.getElem?_eq_some_iff.1 hx).1; simpa using this
      have hx' : ((wordsC s).map txV)[j]? = some (.string x) := by
        rw [List.getElem?_map] at hx ⊢
        obtain ⟨y, hy, rfl⟩ := Option.map_eq_some_iff.1 hx
        rw [hy]; rfl
      rw [← htk, List.getElem?_take_of_lt (by omega)] at hx'
      simp only [World.cell?, hg, Nat.zero_add]
      rw [← hx']; simp) (heap_lt hg) (by simp; omega) (by simpa using hcap) (by rw [hl]; omega))
    rw [hl, List.length_map] at HJ
    have HB := Lib.hid hb
    clear hrow hb hl ht hj hn hbg hg hcap hmx hsz htk
    go_wp2_with fail
    refine HJ.out.mono ?_
    rintro e w2 ⟨rfl, hb2⟩
    have HB2 := Lib.hid (HB.out.trans (hb2.mono HB.out.size))
    clear hb2
    go_wp2_with fail
    go_ret
    exact ⟨rfl, HB2.out⟩
end Go.Proofs.YtpdldbapagchfaaGreatDoor

/- Merge, plainly: the versions that count. -/
namespace Go.Proofs.YtpdldbapagchfaaGreatDoor

structure Sub where
  c : Nat
  t : ByteArray
deriving DecidableEq, Inhabited

structure Fld where
  tag : ByteArray
  ind : ByteArray
  data : ByteArray
  subs : List Sub
deriving DecidableEq, Inhabited

structure Ver where
  r : Int × Int
  num : Int
  kind : Nat
  level : Nat
  fs : List Fld
deriving DecidableEq, Inhabited

/-- The order of the records of sources. -/
def ltR (a b : Int × Int) : Bool := if a.1 ≠ b.1 then decide (a.1 < b.1) else decide (a.2 < b.2)

theorem ltR_irrefl (a : Int × Int) : ltR a a = false := by simp [ltR]
theorem ltR_trans {a b c : Int × Int} (h : ltR a b = true) (h' : ltR b c = true) : ltR a c = true := by
  unfold ltR at *
  split at h <;> split at h' <;> split <;> simp_all <;> omega
theorem ltR_total {a b : Int × Int} (h : ltR a b = false) : a = b ∨ ltR b a = true := by
  obtain ⟨a1, a2⟩ := a; obtain ⟨b1, b2⟩ := b
  unfold ltR at *
  simp only [Prod.mk.injEq]
  split at h <;> split <;> simp_all <;> omega
theorem ltR_asymm {a b : Int × Int} (h : ltR a b = true) : ltR b a = false := by
  cases h' : ltR b a with
  | false => rfl
  | true => have := ltR_trans h h'; rw [ltR_irrefl] at this; cases this

/-- Version n beats version j. -/
def Beats (l : List Ver) (n j : Nat) : Prop := l[j]!.num < l[n]!.num ∨ l[j]!.num = l[n]!.num ∧ n ≤ j
/-- Version n is the one that counts of those below k. -/
def CntTo (l : List Ver) (k n : Nat) : Prop := n < k ∧ ∀ j, j < k → l[j]!.r = l[n]!.r → Beats l n j

/-- The code's map after k rounds. -/
def bestF (l : List Ver) : Nat → Int × Int → Option Nat
  | 0, _ => none
  | k + 1, r => if l[k]!.r = r then match bestF l k r with
      | none => some k
      | some n => if l[n]!.num < l[k]!.num then some k else some n
    else bestF l k r

theorem bestF_none (l : List Ver) : ∀ (k : Nat) (r : Int × Int), bestF l k r = none ↔ ∀ j, j < k → l[j]!.r ≠ r
  | 0, r => by simp [bestF]
  | k + 1, r => by
    have ih := bestF_none l k r
    unfold bestF
    by_cases hk : l[k]!.r = r
    · rw [if_pos hk]
      constructor
      · intro h
        cases hb : bestF l k r with
        | none => rw [hb] at h; cases h
        | some n => rw [hb] at h; dsimp only at h; split at h <;> cases h
      · intro h; exact absurd hk (h k (by omega))
    · rw [if_neg hk, ih]
      constructor
      · intro h j hj
        by_cases e : j = k
        · subst e; exact hk
        · exact h j (by omega)
      · intro h j hj; exact h j (by omega)

theorem bestF_some (l : List Ver) : ∀ (k : Nat) (r : Int × Int) (n : Nat), bestF l k r = some n → l[n]!.r = r ∧ CntTo l k n
  | 0, r, n => by simp [bestF]
  | k + 1, r, n => by
    have ih := bestF_some l k r
    unfold bestF
    by_cases hk : l[k]!.r = r
    · rw [if_pos hk]
      cases hb : bestF l k r with
      | none =>
        intro h; obtain rfl : k = n := by simpa using h
        refine ⟨hk, by omega, fun j hj hr => ?_⟩
        by_cases e : j = k
        · subst e; right; exact ⟨rfl, Nat.le_refl _⟩
        · exact absurd (hr.trans hk) ((bestF_none l k r).1 hb j (by omega))
      | some m =>
        obtain ⟨h1, h2, h3⟩ := ih m hb
        dsimp only
        split
        · next hlt =>
          intro h; obtain rfl : k = n := by simpa using h
          refine ⟨hk, by omega, fun j hj hr => ?_⟩
          by_cases e : j = k
          · subst e; right; exact ⟨rfl, Nat.le_refl _⟩
          · have := h3 j (by omega) (by rw [hr, hk, h1])
            unfold Beats at this ⊢; omega
        · next hlt =>
          intro h; obtain rfl : m = n := by simpa using h
          refine ⟨h1, by omega, fun j hj hr => ?_⟩
          by_cases e : j = k
          · subst e; unfold Beats; omega
          · exact h3 j (by omega) hr
    · rw [if_neg hk]
      intro h
      obtain ⟨h1, h2, h3⟩ := ih n h
      refine ⟨h1, by omega, fun j hj hr => ?_⟩
      by_cases e : j = k
      · subst e; exact absurd (hr.trans h1) hk
      · exact h3 j (by omega) hr

/-- Whether version n counts. -/
def Cnt (l : List Ver) (n : Nat) : Prop := CntTo l l.length n

theorem cnt_uniq {l : List Ver} {n m : Nat} (hn : Cnt l n) (hm : Cnt l m) (h : l[n]!.r = l[m]!.r) : n = m := by
  have h1 := hn.2 m hm.1 h.symm
  have h2 := hm.2 n hn.1 h
  unfold Beats at h1 h2; omega

theorem best_iff (l : List Ver) (r : Int × Int) (n : Nat) : bestF l l.length r = some n ↔ Cnt l n ∧ l[n]!.r = r := by
  constructor
  · intro h; exact ⟨(bestF_some l _ r n h).2, (bestF_some l _ r n h).1⟩
  · rintro ⟨h1, h2⟩
    cases hb : bestF l l.length r with
    | none => exact absurd h2 ((bestF_none l _ r).1 hb n h1.1)
    | some m =>
      obtain ⟨h3, h4⟩ := bestF_some l _ r m hb
      rw [cnt_uniq (l := l) (n := m) (m := n) h4 h1 (h3.trans h2.symm)]

/-- Versions with ascending records. -/
def Asc (l : List Ver) : Prop := l.Pairwise fun a b => ltR a.r b.r = true

theorem asc_eq : ∀ {a b : List Ver}, Asc a → Asc b → (∀ v, v ∈ a ↔ v ∈ b) → a = b
  | [], [], _, _, _ => rfl
  | [], y :: b, _, _, h => by have := (h y).2 (by simp); simp at this
  | x :: a, [], _, _, h => by have := (h x).1 (by simp); simp at this
  | x :: a, y :: b, ha, hb, h => by
    have ha' := List.pairwise_cons.1 ha
    have hb' := List.pairwise_cons.1 hb
    have hxy : x = y := by
      rcases List.mem_cons.1 ((h x).1 (by simp)) with e | e
      · exact e
      · rcases List.mem_cons.1 ((h y).2 (by simp)) with e' | e'
        · exact e'.symm
        · have h1 := hb'.1 x e
          have h2 := ha'.1 y e'
          rw [ltR_asymm h1] at h2; cases h2
    subst hxy
    congr 1
    refine asc_eq ha'.2 hb'.2 fun v => ?_
    constructor
    · intro hv
      rcases List.mem_cons.1 ((h v).1 (by simp [hv])) with e | e
      · subst e; have := ha'.1 v hv; rw [ltR_irrefl] at this; cases this
      · exact e
    · intro hv
      rcases List.mem_cons.1 ((h v).2 (by simp [hv])) with e | e
      · subst e; have := hb'.1 v hv; rw [ltR_irrefl] at this; cases this
      · exact e

/-- A version laid into ascending ones. -/
def insV (v : Ver) : List Ver → List Ver
  | [] => [v]
  | x :: l => if ltR x.r v.r then x :: insV v l else v :: x :: l

theorem mem_insV (v x : Ver) : ∀ l : List Ver, x ∈ insV v l ↔ x = v ∨ x ∈ l
  | [] => by simp [insV]
  | y :: l => by
    unfold insV
    split
    · rw [List.mem_cons, mem_insV v x l, List.mem_cons]
      constructor
      · rintro (h | h | h) <;> simp [h]
      · rintro (h | h | h) <;> simp [h]
    · simp

theorem asc_insV (v : Ver) : ∀ l : List Ver, Asc l → (∀ x ∈ l, x.r ≠ v.r) → Asc (insV v l)
  | [], _, _ => by simp [insV, Asc]
  | y :: l, h, hv => by
    have h' := List.pairwise_cons.1 h
    unfold insV
    split
    · next hlt =>
      refine List.pairwise_cons.2 ⟨fun x hx => ?_, asc_insV v l h'.2 fun x hx => hv x (by simp [hx])⟩
      rcases (mem_insV v x l).1 hx with e | e
      · subst e; exact hlt
      · exact h'.1 x e
    · next hlt =>
      have hvy : ltR v.r y.r = true := by
        rcases ltR_total (by simpa using hlt) with e | e
        · exact absurd e (hv y (by simp))
        · exact e
      refine List.pairwise_cons.2 ⟨fun x hx => ?_, h⟩
      rcases List.mem_cons.1 hx with e | e
      · subst e; exact hvy
      · exact ltR_trans hvy (h'.1 x e)

open Classical in
/-- The versions that count, below n, in order. -/
noncomputable def latTo (l : List Ver) : Nat → List Ver
  | 0 => []
  | n + 1 => if Cnt l n then insV l[n]! (latTo l n) else latTo l n

/-- The versions that count. -/
noncomputable def latest (l : List Ver) : List Ver := latTo l l.length

theorem mem_latTo (l : List Ver) (v : Ver) : ∀ n, v ∈ latTo l n ↔ ∃ k, k < n ∧ Cnt l k ∧ l[k]! = v
  | 0 => by simp [latTo]
  | n + 1 => by
    have ih := mem_latTo l v n
    unfold latTo
    split
    · next hc =>
      rw [mem_insV, ih]
      constructor
      · rintro (e | ⟨k, h1, h2, h3⟩)
        · exact ⟨n, by omega, hc, e.symm⟩
        · exact ⟨k, by omega, h2, h3⟩
      · rintro ⟨k, h1, h2, h3⟩
        by_cases e : k = n
        · subst e; left; exact h3.symm
        · right; exact ⟨k, by omega, h2, h3⟩
    · next hc =>
      rw [ih]
      constructor
      · rintro ⟨k, h1, h2, h3⟩; exact ⟨k, by omega, h2, h3⟩
      · rintro ⟨k, h1, h2, h3⟩
        by_cases e : k = n
        · subst e; exact absurd h2 hc
        · exact ⟨k, by omega, h2, h3⟩

theorem asc_latTo (l : List Ver) : ∀ n, Asc (latTo l n)
  | 0 => by simp [latTo, Asc]
  | n + 1 => by
    unfold latTo
    split
    · next hc =>
      refine asc_insV _ _ (asc_latTo l n) fun x hx hr => ?_
      obtain ⟨k, h1, h2, h3⟩ := (mem_latTo l x n).1 hx
      have := cnt_uniq h2 hc (by rw [h3]; exact hr)
      omega
    · exact asc_latTo l n

theorem mem_latest (l : List Ver) (v : Ver) : v ∈ latest l ↔ ∃ k, Cnt l k ∧ l[k]! = v := by
  rw [latest, mem_latTo]
  constructor
  · rintro ⟨k, _, h2, h3⟩; exact ⟨k, h2, h3⟩
  · rintro ⟨k, h2, h3⟩; exact ⟨k, h2.1, h2, h3⟩
theorem asc_latest (l : List Ver) : Asc (latest l) := asc_latTo l _

/-- What the code sorts: any list of the winners that ascends. -/
theorem latest_of {l a : List Ver} (ha : Asc a) (h : ∀ v, v ∈ a ↔ ∃ r n, bestF l l.length r = some n ∧ l[n]! = v) : a = latest l := by
  refine asc_eq ha (asc_latest l) fun v => ?_
  rw [h, mem_latest]
  constructor
  · rintro ⟨r, n, h1, h2⟩; exact ⟨n, ((best_iff l r n).1 h1).1, h2⟩
  · rintro ⟨n, h1, h2⟩; exact ⟨l[n]!.r, n, (best_iff l _ n).2 ⟨h1, rfl⟩, h2⟩

/-- Without the versions of a source. -/
def without (s : Int) (l : List Ver) : List Ver := l.filter fun v => decide (v.r.1 ≠ s)

end Go.Proofs.YtpdldbapagchfaaGreatDoor

/- Versions in memory: slices of structs, and rows of the call's own, whose elements stand for the members of a list. -/
namespace Go.Proofs.YtpdldbapagchfaaGreatDoor
open Go.RowKit Go.Shelf Go.Maps

inductive All2 {α β : Type} (R : α → β → Prop) : List α → List β → Prop where
  | nil : All2 R [] []
  | cons {a b l m} (h : R a b) (t : All2 R l m) : All2 R (a :: l) (b :: m)
namespace All2
variable {α β : Type} {R R' : α → β → Prop}
theorem length : ∀ {l : List α} {m : List β}, All2 R l m → l.length = m.length
  | _, _, .nil => rfl
  | _, _, .cons _ t => by simp [t.length]
theorem mono (h : ∀ a b, R a b → R' a b) : ∀ {l : List α} {m : List β}, All2 R l m → All2 R' l m
  | _, _, .nil => .nil
  | _, _, .cons g t => .cons (h _ _ g) (t.mono h)
theorem app : ∀ {l l' : List α} {m m' : List β}, All2 R l m → All2 R l' m' → All2 R (l ++ l') (m ++ m')
  | _, _, _, _, .nil, h => h
  | _, _, _, _, .cons g t, h => .cons g (t.app h)
theorem one {a : α} {b : β} (h : R a b) : All2 R [a] [b] := .cons h .nil
theorem get : ∀ {l : List α} {m : List β}, All2 R l m → ∀ j (h : j < l.length) (h' : j < m.length), R l[j] m[j]
  | _, _, .cons g _, 0, _, _ => g
  | _, _, .cons _ t, j + 1, h, h' => t.get j (by simpa using h) (by simpa using h')
theorem of_get : ∀ {l : List α} {m : List β}, l.length = m.length → (∀ j (h : j < l.length) (h' : j < m.length), R l[j] m[j]) → All2 R l m
  | [], [], _, _ => .nil
  | [], _ :: _, e, _ => by simp at e
  | _ :: _, [], e, _ => by simp at e
  | a :: l, b :: m, e, h => .cons (h 0 (by simp) (by simp)) (of_get (by simpa using e) fun j h1 h2 => h (j + 1) (by simpa using h1) (by simpa using h2))
theorem take : ∀ {l : List α} {m : List β} (_ : All2 R l m) (k : Nat), All2 R (l.take k) (m.take k)
  | _, _, _, 0 => by simpa using All2.nil
  | _, _, .nil, k + 1 => .nil
  | _, _, .cons g t, k + 1 => by rw [List.take_succ_cons, List.take_succ_cons]; exact .cons g (t.take k)
theorem drop : ∀ {l : List α} {m : List β} (_ : All2 R l m) (k : Nat), All2 R (l.drop k) (m.drop k)
  | _, _, h, 0 => h
  | _, _, .nil, k + 1 => .nil
  | _, _, .cons g t, k + 1 => t.drop k
end All2

/-- Rows of cells, z each, laid end to end. -/
theorem flat_len {z : Nat} : ∀ {css : List (List Value)}, (∀ c ∈ css, c.length = z) → css.flatten.length = css.length * z
  | [], _ => by simp
  | c :: l, h => by
    rw [List.flatten_cons, List.length_append, h c (by simp), flat_len fun d hd => h d (by simp [hd])]
    simp only [List.length_cons, Nat.add_mul, Nat.one_mul]; omega
theorem flat_get {z : Nat} : ∀ {css : List (List Value)}, (∀ c ∈ css, c.length = z) → ∀ j (h : j < css.length) i, i < z → css.flatten[j * z + i]? = css[j][i]?
  | c :: l, hz, 0, h, i, hi => by
    rw [List.flatten_cons, List.getElem?_append_left (by rw [hz c (by simp)]; omega)]; simp
  | c :: l, hz, j + 1, h, i, hi => by
    have hc := hz c (by simp)
    rw [List.flatten_cons, List.getElem?_append_right (by rw [hc, Nat.add_mul]; omega), hc]
    rw [show (j + 1) * z + i - z = j * z + i by rw [Nat.add_mul]; omega, flat_get (fun d hd => hz d (by simp [hd])) j (by simpa using h) i hi]
    simp
theorem flat_take {z : Nat} : ∀ {css : List (List Value)}, (∀ c ∈ css, c.length = z) → ∀ k, k ≤ css.length → css.flatten.take (k * z) = (css.take k).flatten
  | _, _, 0, _ => by simp
  | [], _, k + 1, h => by simp at h
  | c :: l, hz, k + 1, h => by
    have hc := hz c (by simp)
    rw [List.flatten_cons, List.take_succ_cons, List.flatten_cons, List.take_append, hc, show (k + 1) * z - z = k * z by rw [Nat.add_mul]; omega, flat_take (fun d hd => hz d (by simp [hd])) k (by simpa using h)]
    rw [List.take_of_length_le (by rw [hc, Nat.add_mul]; omega)]
theorem flat_drop {z : Nat} : ∀ {css : List (List Value)}, (∀ c ∈ css, c.length = z) → ∀ k, k ≤ css.length → css.flatten.drop (k * z) = (css.drop k).flatten
  | _, _, 0, _ => by simp
  | [], _, k + 1, h => by simp at h
  | c :: l, hz, k + 1, h => by
    have hc := hz c (by simp)
    rw [List.flatten_cons, List.drop_succ_cons, List.drop_append, hc, show (k + 1) * z - z = k * z by rw [Nat.add_mul]; omega, flat_drop (fun d hd => hz d (by simp [hd])) k (by simpa using h)]
    rw [List.drop_of_length_le (by rw [hc, Nat.add_mul]; omega), List.nil_append]

/-- Every block of S is as it was. -/
def Stay (S : Nat → Prop) (w w' : World) : Prop := ∀ b, S b → b < w.heap.size → w'.heap[b]? = w.heap[b]?
theorem Stay.of_below {S : Nat → Prop} {w w' : World} (h : Below w.heap.size w w') : Stay S w w' := fun b _ hb => h.block b hb
theorem Stay.of_tn {F S : Nat → Prop} {w w' : World} (h : Tn F w w') (hF : ∀ b, S b → b < w.heap.size → ¬ F b) : Stay S w w' := fun b hS hb => h.block b hb (hF b hS hb)
theorem Stay.cell {S : Nat → Prop} {w w' : World} (h : Stay S w w') {a : Addr} {u : Value} (hS : S a.block) (hc : w.cell? a = some u) : w'.cell? a = some u := by
  rw [World.cell?_of_block (h _ hS (cell_lt hc))]; exact hc
theorem Stay.frozen {S : Nat → Prop} {w w' : World} (h : Stay S w w') {a : Addr} (hS : S a.block) (hl : a.block < w.heap.size) : w'.frozen? a = w.frozen? a :=
  World.frozen?_of_block (h _ hS hl)

section
variable {α : Type}
/-- A slice that lies in blocks S; of z cells each is a member of the list. -/
def SlOf (z : Nat) (S : Nat → Prop) (R : World → List Value → α → Prop) (w : World) (v : Value) (L : List α) : Prop :=
  ∃ a cap, v = .slice a L.length cap ∧ L.length ≤ cap ∧ cap ≤ maxLen ∧ (L = [] ∨ ∃ b o, a = some ⟨b, o, none⟩ ∧ S b ∧ ∃ css : List (List Value), All2 (R w) css L ∧ (∀ c ∈ css, c.length = z) ∧
    ∀ j u, css.flatten[j]? = some u → w.cell? ⟨b, o + j, none⟩ = some u ∧ w.frozen? ⟨b, o + j, none⟩ = false)
/-- A row of the call's own. -/
def OwnOf (T : TypeId) (z : Nat) (B : Nat) (R : World → List Value → α → Prop) (w : World) (v : Value) (L : List α) : Prop :=
  ∃ css : List (List Value), w.ownsRow B T z v L.length css.flatten ∧ All2 (R w) css L ∧ ∀ c ∈ css, c.length = z
variable {T : TypeId} {z : Nat} {S S' : Nat → Prop} {B : Nat} {R R' : World → List Value → α → Prop} {w w' : World} {v : Value} {L : List α}
theorem SlOf.keep (hz : 0 < z) (h : SlOf z S R w v L) (hs : Stay S w w') (hR : ∀ c x, R w c x → R' w' c x) (hS : ∀ b, S b → b < w.heap.size → S' b) : SlOf z S' R' w' v L := by
  obtain ⟨a, cap, rfl, hc1, hc2, rfl | ⟨b, o, rfl, hb, css, h1, h2, h3⟩⟩ := h
  · exact ⟨a, cap, rfl, hc1, hc2, .inl rfl⟩
  · refine ⟨_, cap, rfl, hc1, hc2, ?_⟩
    by_cases h0 : L = []
    · exact .inl h0
    have hl : b < w.heap.size := by
      have hn : 0 < css.length := by rw [h1.length]; exact List.length_pos_iff.2 h0
      have hx : 0 < css.flatten.length := by rw [flat_len h2]; exact Nat.mul_pos hn hz
      exact cell_lt (h3 0 _ (List.getElem?_eq_getElem hx)).1
    exact .inr ⟨b, o, rfl, hS b hb hl, css, h1.mono hR, h2, fun j u hj => ⟨hs.cell (a := ⟨b, o + j, none⟩) hb (h3 j u hj).1, (hs.frozen (a := ⟨b, o + j, none⟩) hb hl).trans (h3 j u hj).2⟩⟩
theorem OwnOf.sl (h : OwnOf T z B R w v L) : SlOf z (fun b => v.ownBlock = some b) R w v L := by
  obtain ⟨css, hr, h1, h2⟩ := h
  obtain ⟨h0, ⟨rfl, hn⟩ | ⟨g, c', cur, rfl, hg, hh, hn, hm, hcs, hx⟩⟩ := hr
  · exact ⟨none, 0, by rw [hn], by omega, by unfold maxLen; omega, .inl (List.eq_nil_of_length_eq_zero hn)⟩
  · refine ⟨_, c', rfl, hn, hm, .inr ⟨g, 0, rfl, rfl, css, h1, h2, fun j u hj => ?_⟩⟩
    rw [Nat.zero_add]
    refine ⟨?_, by simp [World.frozen?, hh]⟩
    simp only [World.cell?, hh]
    have hjl : j < L.length * z := by have := (List.getElem?_eq_some_iff.1 hj).1; omega
    rw [← hx, List.getElem?_take_of_lt hjl] at hj
    simpa using hj
theorem OwnOf.slB (h : OwnOf T z B R w v L) (hz : 0 < z) : SlOf z (fun b => B ≤ b) R w v L := by
  have hl : ∀ r, v.ownBlock = some r → B ≤ r ∧ r < w.heap.size := by obtain ⟨css, hr, _⟩ := h; exact row_lt hr
  exact h.sl.keep hz (fun _ _ _ => rfl) (fun _ _ h => h) (fun b hb _ => (hl b hb).1)
theorem OwnOf.keep {F : Nat → Prop} (h : OwnOf T z B R w v L) (t : Tn F w w') (hn : ∀ r, v.ownBlock = some r → B ≤ r → r < w.heap.size → ¬ F r) (hR : ∀ c x, R w c x → R' w' c x) : OwnOf T z B R' w' v L := by
  obtain ⟨css, hr, h1, h2⟩ := h
  exact ⟨css, t.row hr (fun r e => hn r e (row_lt hr r e).1 (row_lt hr r e).2), h1.mono hR, h2⟩
theorem OwnOf.low {B' : Nat} (h : OwnOf T z B R w v L) (hB : B' ≤ B) : OwnOf T z B' R w v L := by
  obtain ⟨css, hr, h1, h2⟩ := h
  exact ⟨css, row_mono hr hB, h1, h2⟩
theorem OwnOf.lt (h : OwnOf T z B R w v L) : ∀ r, v.ownBlock = some r → B ≤ r ∧ r < w.heap.size := by obtain ⟨css, hr, _⟩ := h; exact row_lt hr
theorem OwnOf.nil (T : TypeId) (z B : Nat) (R : World → List Value → α → Prop) (w : World) : OwnOf T z B R w (.slice none 0 0) [] :=
  ⟨[], World.ownsRow_nil _ _ _ _, .nil, by simp⟩
/-- A slice's member. -/
theorem SlOf.at (h : SlOf z S R w v L) {j : Nat} (hj : j < L.length) : ∃ b o cap css, v = .slice (some ⟨b, o, none⟩) L.length cap ∧ S b ∧ R w css L[j] ∧ css.length = z ∧
    ∀ i u, css[i]? = some u → w.cell? ⟨b, o + (j * z + i), none⟩ = some u ∧ w.frozen? ⟨b, o + (j * z + i), none⟩ = false := by
  obtain ⟨a, cap, rfl, _, _, rfl | ⟨b, o, rfl, hb, css, h1, h2, h3⟩⟩ := h
  · simp at hj
  · have hl := h1.length
    refine ⟨b, o, cap, css[j], rfl, hb, h1.get j (by omega) hj, h2 _ (List.getElem_mem _), fun i u hu => h3 _ u ?_⟩
    have hi : i < z := by have := (List.getElem?_eq_some_iff.1 hu).1; rw [h2 _ (List.getElem_mem _)] at this; exact this
    rw [flat_get h2 j (by omega) i hi]; exact hu
end

section
variable {α : Type} {T : TypeId} {z : Nat} {S : Nat → Prop} {B : Nat} {R : World → List Value → α → Prop} {w w' : World} {v : Value} {L : List α}
/-- What may be appended of it. -/
theorem SlOf.src (h : SlOf z S R w v L) : ∃ css : List (List Value), Src w z L.length css.flatten v ∧ All2 (R w) css L ∧ (∀ c ∈ css, c.length = z) := by
  obtain ⟨a, cap, rfl, h1, h2, rfl | ⟨b, o, rfl, hb, css, h3, h4, h5⟩⟩ := h
  · refine ⟨[], ?_, .nil, by simp⟩
    cases a with
    | none => exact .inl ⟨cap, rfl, rfl, rfl⟩
    | some ad => exact .inr ⟨ad, cap, rfl, by simp, fun j u hj => by simp at hj⟩
  · refine ⟨css, .inr ⟨_, cap, rfl, ?_, fun j u hj => ?_⟩, h3, h4⟩
    · rw [flat_len h4, h3.length]
    · rw [add_off]; exact (h5 j u hj).1
theorem one_flat {c1 : List Value → α → Prop} (h1 : ∀ c x, c1 c x → ∀ u ∈ c, u.oneCell' = true) : ∀ {css : List (List Value)} {L : List α}, All2 c1 css L → ∀ u ∈ css.flatten, u.oneCell' = true
  | _, _, .nil, u, hu => by simp at hu
  | _, _, .cons g t, u, hu => by
    rw [List.flatten_cons, List.mem_append] at hu
    rcases hu with hu | hu
    · exact h1 _ _ g u hu
    · exact one_flat h1 t u hu
/-- A member's cells. -/
theorem SlOf.range (hz : 0 < z) (h : SlOf z S R w v L) {j : Nat} (hj : j < L.length) : ∃ b o cap css, v = .slice (some ⟨b, o, none⟩) L.length cap ∧ S b ∧ b < w.heap.size ∧ R w css L[j] ∧ css.length = z ∧
    w.rangeAt b (o + j * z) css ∧ w.there b (o + j * z) z := by
  obtain ⟨b, o, cap, css, e, hb, hR, hl, hc⟩ := h.at hj
  refine ⟨b, o, cap, css, e, hb, cell_lt (hc 0 _ (List.getElem?_eq_getElem (by omega))).1, hR, hl, fun i u hu => ?_, fun i hi => ?_⟩
  · rw [Nat.add_assoc]; exact (hc i u hu).1
  · have h1 := hc i _ (List.getElem?_eq_getElem (by omega))
    rw [Nat.add_assoc, h1.1, h1.2]; exact ⟨rfl, rfl⟩
/-- A row is appended to. -/
theorem OwnOf.of_row {css : List (List Value)} (hr : w.ownsRow B T z v L.length css.flatten) (h1 : All2 (R w) css L) (h2 : ∀ c ∈ css, c.length = z) : OwnOf T z B R w v L := ⟨css, hr, h1, h2⟩
end

/-! Subfields, fields, versions. -/
def SubR (_ : World) (cs : List Value) (s : Sub) : Prop := cs = [.int .u8 s.c, .string s.t]
def FldR (S : Nat → Prop) (w : World) (cs : List Value) (f : Fld) : Prop := ∃ sv, cs = [.string f.tag, .string f.ind, .string f.data, sv] ∧ SlOf 2 S SubR w sv f.subs
def VerR (S : Nat → Prop) (w : World) (cs : List Value) (x : Ver) : Prop :=
  ∃ fv, cs = [.int .i64 x.r.1, .int .i64 x.r.2, .int .i64 x.num, .int .u8 x.kind, .int .u8 x.level, fv] ∧ SlOf 4 S (FldR S) w fv x.fs
def RecR (_ : World) (cs : List Value) (r : Int × Int) : Prop := cs = [.int .i64 r.1, .int .i64 r.2]
theorem one_sub (w : World) (c : List Value) (x : Sub) (h : SubR w c x) : ∀ u ∈ c, u.oneCell' = true := by
  unfold SubR at h; subst h
  simp [Value.oneCell']
theorem one_rec (w : World) (c : List Value) (x : Int × Int) (h : RecR w c x) : ∀ u ∈ c, u.oneCell' = true := by
  unfold RecR at h; subst h
  simp [Value.oneCell']
theorem one_fld (S : Nat → Prop) (w : World) (c : List Value) (x : Fld) (h : FldR S w c x) : ∀ u ∈ c, u.oneCell' = true := by
  obtain ⟨sv, rfl, a, cap, rfl, _⟩ := h
  simp [Value.oneCell']
theorem one_ver (S : Nat → Prop) (w : World) (c : List Value) (x : Ver) (h : VerR S w c x) : ∀ u ∈ c, u.oneCell' = true := by
  obtain ⟨sv, rfl, a, cap, rfl, _⟩ := h
  simp [Value.oneCell']
abbrev SubsAt (S : Nat → Prop) (w : World) (v : Value) (L : List Sub) : Prop := SlOf 2 S SubR w v L
abbrev FldsAt (S : Nat → Prop) (w : World) (v : Value) (L : List Fld) : Prop := SlOf 4 S (FldR S) w v L
abbrev VersAt (S : Nat → Prop) (w : World) (v : Value) (L : List Ver) : Prop := SlOf 6 S (VerR S) w v L
section
variable {S S' : Nat → Prop} {w w' : World} {cs : List Value} {v : Value}
theorem SubsAt.keep {L : List Sub} (h : SubsAt S w v L) (hs : Stay S w w') (hS : ∀ b, S b → b < w.heap.size → S' b) : SubsAt S' w' v L := SlOf.keep (by omega) h hs (fun _ _ h => h) hS
theorem FldR.keep {f : Fld} (h : FldR S w cs f) (hs : Stay S w w') (hS : ∀ b, S b → b < w.heap.size → S' b) : FldR S' w' cs f := by
  obtain ⟨sv, e, h⟩ := h; exact ⟨sv, e, SubsAt.keep h hs hS⟩
theorem FldsAt.keep {L : List Fld} (h : FldsAt S w v L) (hs : Stay S w w') (hS : ∀ b, S b → b < w.heap.size → S' b) : FldsAt S' w' v L := SlOf.keep (by omega) h hs (fun _ _ h => h.keep hs hS) hS
theorem SlOf.lowS {α : Type} {z : Nat} {R : World → List Value → α → Prop} {L : List α} (hz : 0 < z) (h : SlOf z S R w v L) : SlOf z (fun b => S b ∧ b < w.heap.size) R w v L :=
  h.keep hz (fun _ _ _ => rfl) (fun _ _ h => h) (fun b h1 h2 => ⟨h1, h2⟩)
theorem FldsAt.low {L : List Fld} (h : FldsAt S w v L) : FldsAt (fun b => b < w.heap.size) w v L := FldsAt.keep h (fun _ _ _ => rfl) (fun _ _ h => h)
theorem VerR.keep {x : Ver} (h : VerR S w cs x) (hs : Stay S w w') (hS : ∀ b, S b → b < w.heap.size → S' b) : VerR S' w' cs x := by
  obtain ⟨fv, e, h⟩ := h; exact ⟨fv, e, FldsAt.keep h hs hS⟩
theorem VersAt.keep {L : List Ver} (h : VersAt S w v L) (hs : Stay S w w') (hS : ∀ b, S b → b < w.heap.size → S' b) : VersAt S' w' v L := SlOf.keep (by omega) h hs (fun _ _ h => h.keep hs hS) hS
end
end Go.Proofs.YtpdldbapagchfaaGreatDoor

/- Clone: fields and subfields are copied. -/
namespace Go.Proofs.YtpdldbapagchfaaGreatDoor
open Go.RowKit Go.Shelf Go.Maps

theorem run_eqs_nil {P : Program} (w : World) (t e : TypeId) (a : Option Addr) (l c : Nat) (h : P.underlying t = some (.slice e)) : (binOp .eql t (.slice a l c) (.slice none 0 0)).run P w = .ok (.bool a.isNone) w := by
  have := run_equal_slice_nil w t e a l c h
  simp [binOp, this]
attribute [local go_sem] run_eqs_nil
theorem info_Sub : ∃ i, Tryz.prog.info? 54 = some i ∧ i.zero = some (.agg #[.int .u8 0, .string ⟨#[]⟩]) ∧ i.size = 2 ∧ i.bytes = 24 := by
  have h0 : (Tryz.prog.info? 54).map (fun i => (i.zero, i.size, i.bytes)) = some (some (.agg #[.int .u8 0, .string ⟨#[]⟩]), 2, 24) := by kernel_rfl
  obtain ⟨i, hi, h⟩ := Option.map_eq_some_iff.1 h0
  injection h with h1 h2
  injection h2 with h2 h3
  exact ⟨i, hi, h1, h2, h3⟩
theorem info_Fld : ∃ i, Tryz.prog.info? 48 = some i ∧ i.zero = some (.agg #[.string ⟨#[]⟩, .string ⟨#[]⟩, .string ⟨#[]⟩, .slice none 0 0]) ∧ i.size = 4 ∧ i.bytes = 72 := by
  have h0 : (Tryz.prog.info? 48).map (fun i => (i.zero, i.size, i.bytes)) = some (some (.agg #[.string ⟨#[]⟩, .string ⟨#[]⟩, .string ⟨#[]⟩, .slice none 0 0]), 4, 72) := by kernel_rfl
  obtain ⟨i, hi, h⟩ := Option.map_eq_some_iff.1 h0
  injection h with h1 h2
  injection h2 with h2 h3
  exact ⟨i, hi, h1, h2, h3⟩
theorem info_Ver : ∃ i, Tryz.prog.info? 43 = some i ∧ i.zero = some (.agg #[.int .i64 0, .int .i64 0, .int .i64 0, .int .u8 0, .int .u8 0, .slice none 0 0]) ∧ i.size = 6 ∧ i.bytes = 56 := by
  have h0 : (Tryz.prog.info? 43).map (fun i => (i.zero, i.size, i.bytes)) = some (some (.agg #[.int .i64 0, .int .i64 0, .int .i64 0, .int .u8 0, .int .u8 0, .slice none 0 0]), 6, 56) := by kernel_rfl
  obtain ⟨i, hi, h⟩ := Option.map_eq_some_iff.1 h0
  injection h with h1 h2
  injection h2 with h2 h3
  exact ⟨i, hi, h1, h2, h3⟩
theorem info_Rec : ∃ i, Tryz.prog.info? 41 = some i ∧ i.zero = some (.agg #[.int .i64 0, .int .i64 0]) ∧ i.size = 2 ∧ i.bytes = 16 := by
  have h0 : (Tryz.prog.info? 41).map (fun i => (i.zero, i.size, i.bytes)) = some (some (.agg #[.int .i64 0, .int .i64 0]), 2, 16) := by kernel_rfl
  obtain ⟨i, hi, h⟩ := Option.map_eq_some_iff.1 h0
  injection h with h1 h2
  injection h2 with h2 h3
  exact ⟨i, hi, h1, h2, h3⟩
theorem info_Said : ∃ i, Tryz.prog.info? 71 = some i ∧ i.zero = some (.agg #[.string ⟨#[]⟩, .string ⟨#[]⟩, .string ⟨#[]⟩, .slice none 0 0, .int .i64 0, .int .i64 0]) ∧ i.size = 6 ∧ i.bytes = 88 := by
  have h0 : (Tryz.prog.info? 71).map (fun i => (i.zero, i.size, i.bytes)) = some (some (.agg #[.string ⟨#[]⟩, .string ⟨#[]⟩, .string ⟨#[]⟩, .slice none 0 0, .int .i64 0, .int .i64 0]), 6, 88) := by kernel_rfl
  obtain ⟨i, hi, h⟩ := Option.map_eq_some_iff.1 h0
  injection h with h1 h2
  injection h2 with h2 h3
  exact ⟨i, hi, h1, h2, h3⟩

set_option maxRecDepth 100000 in
set_option maxHeartbeats 1000000 in
theorem cloneSubs (S : Nat → Prop) {w : World} {v : Value} {L : List Sub} (h : SlOf 2 S (SubR) w v L) (hl : L.length ≤ 100000) :
    Calls Tryz.prog 77 #[v] w fun e w' => ∃ v', e = .returned v' ∧ OwnOf 54 2 w.heap.size (SubR) w' v' L ∧ Below w.heap.size w w' := by
  obtain ⟨i0, hi, hz1, hz2, hz3⟩ := info_Sub
  obtain ⟨css, hs, hA, hL⟩ := h.src
  have HK : RowKit.Hid (∀ w', Below w.heap.size w w' → All2 ((SubR) w') css L) := Lib.hid fun w' hb => hA.mono fun c x hc => by exact hc
  have HO : RowKit.Hid (∀ u ∈ css.flatten, u.oneCell' = true) := Lib.hid (one_flat (fun c x h => one_sub w c x h) hA)
  have HL := Lib.hid hL
  have HS := Lib.hid hs
  obtain ⟨a, cap, rfl, hc1, hc2, hrest⟩ := h
  have HR := Lib.hid hrest
  clear hrest hs hA hL
  cases a with
  | none =>
    have h0 : L = [] := by rcases HR.out with h | ⟨b, o, e, _⟩; exact h; cases e
    subst h0
    simp only [List.length_nil] at *
    go_enter Tryz.func77, Tryz.ntmps77
    go_wp2_with fail
    go_ret
    exact ⟨_, rfl, OwnOf.nil _ _ _ _ _, Below.refl _ _⟩
  | some ad =>
    go_enter Tryz.func77, Tryz.ntmps77
    go_wp2_with (refine wpList_append_all rfl (.tmp 5) (.tmp 6) 46 rfl w.heap.size 54 i0 _ 2 24 Tryz.underlying46 hi hz1 hz2 hz3 rfl (by omega) _ 0 [] rfl (row_fresh w _ #[] 54 2 0 rfl (by unfold maxLen; omega) (Nat.le_refl _)) L.length css.flatten _ rfl (HS.out.below ((Below.refl _ _).alloc (Nat.le_refl _) _)) HO.out (by unfold maxLen; omega) (by omega) (by simp) ?_; intro v' w1 hr hg ho; have HRr := Lib.hid hr; have HG := Lib.hid hg; clear hr hg ho)
    go_ret
    have hb : Below w.heap.size w w1 := below_grown ((Below.refl _ _).alloc (Nat.le_refl _) _) (by simp) HG.out fun r e => by cases e; exact Nat.le_refl _
    refine ⟨_, rfl, ⟨css, ?_, HK.out _ hb, HL.out⟩, hb⟩
    simpa using HRr.out
set_option maxRecDepth 100000 in
set_option maxHeartbeats 1000000 in
theorem cloneFlds (S : Nat → Prop) {w : World} {v : Value} {L : List Fld} (h : SlOf 4 S (FldR S) w v L) (hl : L.length ≤ 100000) :
    Calls Tryz.prog 54 #[v] w fun e w' => ∃ v', e = .returned v' ∧ OwnOf 48 4 w.heap.size (FldR S) w' v' L ∧ Below w.heap.size w w' := by
  obtain ⟨i0, hi, hz1, hz2, hz3⟩ := info_Fld
  obtain ⟨css, hs, hA, hL⟩ := h.src
  have HK : RowKit.Hid (∀ w', Below w.heap.size w w' → All2 ((FldR S) w') css L) := Lib.hid fun w' hb => hA.mono fun c x hc => by exact FldR.keep hc (Stay.of_below hb) (fun _ h _ => h)
  have HO : RowKit.Hid (∀ u ∈ css.flatten, u.oneCell' = true) := Lib.hid (one_flat (fun c x h => one_fld S w c x h) hA)
  have HL := Lib.hid hL
  have HS := Lib.hid hs
  obtain ⟨a, cap, rfl, hc1, hc2, hrest⟩ := h
  have HR := Lib.hid hrest
  clear hrest hs hA hL
  cases a with
  | none =>
    have h0 : L = [] := by rcases HR.out with h | ⟨b, o, e, _⟩; exact h; cases e
    subst h0
    simp only [List.length_nil] at *
    go_enter Tryz.func54, Tryz.ntmps54
    go_wp2_with fail
    go_ret
    exact ⟨_, rfl, OwnOf.nil _ _ _ _ _, Below.refl _ _⟩
  | some ad =>
    go_enter Tryz.func54, Tryz.ntmps54
    go_wp2_with (refine wpList_append_all rfl (.tmp 5) (.tmp 6) 27 rfl w.heap.size 48 i0 _ 4 72 Tryz.underlying27 hi hz1 hz2 hz3 rfl (by omega) _ 0 [] rfl (row_fresh w _ #[] 48 4 0 rfl (by unfold maxLen; omega) (Nat.le_refl _)) L.length css.flatten _ rfl (HS.out.below ((Below.refl _ _).alloc (Nat.le_refl _) _)) HO.out (by unfold maxLen; omega) (by omega) (by simp) ?_; intro v' w1 hr hg ho; have HRr := Lib.hid hr; have HG := Lib.hid hg; clear hr hg ho)
    go_ret
    have hb : Below w.heap.size w w1 := below_grown ((Below.refl _ _).alloc (Nat.le_refl _) _) (by simp) HG.out fun r e => by cases e; exact Nat.le_refl _
    refine ⟨_, rfl, ⟨css, ?_, HK.out _ hb, HL.out⟩, hb⟩
    simpa using HRr.out
end Go.Proofs.YtpdldbapagchfaaGreatDoor
