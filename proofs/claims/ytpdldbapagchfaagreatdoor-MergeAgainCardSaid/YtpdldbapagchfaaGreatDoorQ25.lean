/- The reference's words, joined: Fold. -/
import Derived.Test.YtpdldbapagchfaaGreatDoorQ24
import Derived.Test.YtpdldbapagchfaaGreatDoorQ03
import Derived.Test.YtpdldbapagchfaaGreatDoorQ06
import Derived.Test.YtpdldbapagchfaaGreatDoorQ21
import Derived.Test.YtpdldbapagchfaaGreatDoorQ07
import Derived.Test.YtpdldbapagchfaaGreatDoorQ08
set_option linter.unusedVariables false
set_option linter.unusedSimpArgs false

namespace Go.Proofs.YtpdldbapagchfaaGreatDoor
open Go.RowKit Go.Shelf Go.Maps

def strsV (l : List (List UInt8)) : List Value := l.map fun x => .string (ofL x)
theorem infoStr : (Tryz.prog.info? 9).map (fun i => (i.zero, i.size, i.bytes)) = some (some (.string ⟨#[]⟩), 1, 16) := by kernel_rfl
theorem info_Str : ∃ i, Tryz.prog.info? 9 = some i ∧ i.zero = some (.string ⟨#[]⟩) ∧ i.size = 1 ∧ i.bytes = 16 := by
  obtain ⟨i, hi, h⟩ := Option.map_eq_some_iff.1 infoStr
  injection h with h1 h2
  injection h2 with h2 h3
  exact ⟨i, hi, h1, h2, h3⟩
/-- The words so far, with the word that is being read. -/
def wStep (ch : Nat → List UInt8) (a : List (List UInt8) × List UInt8) (c : Nat) : List (List UInt8) × List UInt8 :=
  if ch c ≠ [32] then (a.1, a.2 ++ ch c) else (if a.2 = [] then a.1 else a.1 ++ [a.2], [])
def wEnd (r : List (List UInt8) × List UInt8) : List (List UInt8) := if r.2 = [] then r.1 else r.1 ++ [r.2]
def wordsGo (ch : Nat → List UInt8) (cs : List Nat) : List (List UInt8) × List UInt8 := cs.foldl (wStep ch) ([], [])
theorem wordsGo_snoc (ch : Nat → List UInt8) (cs : List Nat) (c : Nat) : wordsGo ch (cs ++ [c]) = if ch c ≠ [32] then ((wordsGo ch cs).1, (wordsGo ch cs).2 ++ ch c) else (if (wordsGo ch cs).2 = [] then (wordsGo ch cs).1 else (wordsGo ch cs).1 ++ [(wordsGo ch cs).2], []) := by
  unfold wordsGo; rw [List.foldl_append]; rfl
theorem wordsP_go (ch : Nat → List UInt8) : ∀ (cs : List Nat) (a : List (List UInt8)) (w : List UInt8), a ++ wordsP ch cs w = wEnd (cs.foldl (wStep ch) (a, w)) := by
  intro cs
  induction cs with
  | nil =>
    intro a w
    rw [List.foldl_nil, wordsP]
    unfold wEnd
    by_cases h : w = [] <;> simp [h]
  | cons c cs ih =>
    intro a w
    rw [List.foldl_cons, wordsP]
    unfold wStep
    dsimp only
    by_cases h : ch c ≠ [32]
    · rw [if_pos h, if_pos h]; exact ih a (w ++ ch c)
    · rw [if_neg h, if_neg h]
      by_cases h2 : w = []
      · rw [if_pos h2, if_pos h2]; exact ih a []
      · rw [if_neg h2, if_neg h2]
        have h3 := ih (a ++ [w]) []
        rw [List.append_assoc] at h3
        exact h3
theorem wordsP_end (ch : Nat → List UInt8) (cs : List Nat) : wordsP ch cs [] = if (wordsGo ch cs).2 = [] then (wordsGo ch cs).1 else (wordsGo ch cs).1 ++ [(wordsGo ch cs).2] := by
  have h := wordsP_go ch cs [] []
  rw [List.nil_append] at h
  exact h
theorem wordsGo_len (ch : Nat → List UInt8) : ∀ cs : List Nat, (wordsGo ch cs).1.length ≤ cs.length := by
  intro cs
  have : ∀ r : List Nat, (wordsGo ch r.reverse).1.length ≤ r.length := by
    intro r
    induction r with
    | nil => simp [wordsGo]
    | cons c r ih =>
      rw [List.reverse_cons, wordsGo_snoc]
      split
      · simp; omega
      · split
        · simp; omega
        · simp; omega
  have h := this cs.reverse
  rwa [List.reverse_reverse, List.length_reverse] at h
theorem wordsGo_sz (cs : List Nat) : (wordsGo (charP tabC) cs).2.length ≤ 10 * cs.length := by
  have : ∀ r : List Nat, (wordsGo (charP tabC) r.reverse).2.length ≤ 10 * r.length := by
    intro r
    induction r with
    | nil => simp [wordsGo]
    | cons c r ih =>
      rw [List.reverse_cons, wordsGo_snoc]
      have := charC_small c
      split
      · simp only [List.length_append, List.length_cons]; omega
      · simp
  have h := this cs.reverse
  rwa [List.reverse_reverse, List.length_reverse] at h
theorem row_b0 {W : World} {e : TypeId} {base size k : Nat} {v : Value} {xs : List Value} (hr : W.ownsRow base e size v k xs) : ∀ r, v.ownBlock = some r → base ≤ r := fun r e' => (row_lt hr r e').1
/-- Words joined, so far. -/
def joinGo : List (List UInt8) → Nat → List UInt8
  | _, 0 => []
  | l, k + 1 => (if k = 0 then joinGo l k else joinGo l k ++ [32]) ++ l.getD k []
theorem joinP_cons (w : List UInt8) (l : List (List UInt8)) : joinP (w :: l) = if l = [] then w else w ++ 32 :: joinP l := by
  cases l with
  | nil => rfl
  | cons a b => rfl
theorem joinP_snoc : ∀ (l : List (List UInt8)) (w : List UInt8), joinP (l ++ [w]) = if l = [] then w else joinP l ++ 32 :: w
  | [], w => rfl
  | [a], w => rfl
  | a :: b :: l, w => by
    have ih := joinP_snoc (b :: l) w
    rw [if_neg (by simp)] at ih ⊢
    rw [List.cons_append, joinP_cons, if_neg (by simp), ih, joinP_cons a (b :: l), if_neg (by simp)]
    simp
theorem joinGo_le (l : List (List UInt8)) : ∀ k m, k ≤ m → (joinGo l k).length ≤ (joinGo l m).length := by
  intro k m h
  induction m with
  | zero => obtain rfl : k = 0 := by omega
            exact Nat.le_refl _
  | succ m ih =>
    rcases Nat.eq_or_lt_of_le h with e | e
    · rw [e]; exact Nat.le_refl _
    · refine Nat.le_trans (ih (by omega)) ?_
      have e1 : joinGo l (m + 1) = (if m = 0 then joinGo l m else joinGo l m ++ [32]) ++ l.getD m [] := by rw [joinGo]
      rw [e1, List.length_append]
      by_cases h0 : m = 0
      · rw [if_pos h0]; omega
      · rw [if_neg h0, List.length_append]; omega
theorem joinGo_take (l : List (List UInt8)) : ∀ k, k ≤ l.length → joinGo l k = joinP (l.take k)
  | 0, _ => by simp [joinGo, joinP]
  | k + 1, h => by
    rw [List.take_succ_eq_append_getElem (by omega), joinP_snoc]
    have e : l.getD k [] = l[k] := by simp [show k < l.length by omega]
    unfold joinGo
    rw [e, joinGo_take l k (by omega)]
    by_cases h0 : k = 0
    · subst h0; simp [joinP]
    · rw [if_neg h0, if_neg (fun e => by have h' := congrArg List.length e; rw [List.length_take, List.length_nil] at h'; omega)]
      simp
set_option maxRecDepth 100000 in
set_option maxHeartbeats 4000000 in
theorem wordsR_any (s : ByteArray) (hs : s.size ≤ 100000) (w : World) : Calls Tryz.prog 60 #[.string s] w fun e w' => ∃ v, e = .returned v ∧ w'.ownsRow w.heap.size 9 1 v (wordsP (charP tabC) (runes s) []).length (strsV (wordsP (charP tabC) (runes s) [])) ∧ Below w.heap.size w w' := by
  obtain ⟨i0, hi, hz1, hz2, hz3⟩ := info_Str
  obtain ⟨cap, w2, hcv, hcap, hcell, hb2⟩ := runes_conv s hs w
  obtain ⟨m, hm⟩ : ∃ m, m = (runes s).length := ⟨_, rfl⟩
  obtain ⟨g, hg⟩ : ∃ g, g = w.heap.size := ⟨_, rfl⟩
  rw [← hm] at hcv hcap
  rw [← hg] at hcv hcell
  have hml : m ≤ 100000 := by rw [hm]; have := runes_len s; omega
  have HCELL := Lib.hid hcell
  have HM := Lib.hid hm
  have HB2 := Lib.hid hb2
  have hgl : 0 < m → g < w2.heap.size := fun h => by
    obtain ⟨c, hc⟩ : ∃ c, (runes s)[0]? = some c := ⟨_, List.getElem?_eq_getElem (by omega)⟩
    exact cell_lt (hcell 0 c hc)
  have HGL := Lib.hid hgl
  have HLE : RowKit.Hid (∀ c ∈ runes s, c ≤ 2147483647) := Lib.hid (runesT_le s _ _)
  have hz2' := hb2.size
  have HG := Lib.hid hg
  clear hm hcell hgl hg
  go_enter Tryz.func60, Tryz.ntmps60
  go_wp2_with fail
  clear hcv hb2
  go_loopw [3, 4, 6] (fun ov wd i wr => ∃ k : Nat, k ≤ m ∧ i = .int .i64 k ∧ wd = .string (ofL (wordsGo (charP tabC) ((runes s).take k)).2) ∧ wr.ownsRow w2.heap.size 9 1 ov (wordsGo (charP tabC) ((runes s).take k)).1.length (strsV (wordsGo (charP tabC) ((runes s).take k)).1) ∧ Below w2.heap.size w2 wr) (fun _ _ i _ => m - (intOf i).toNat)
  case atStart => exact ⟨0, by omega, rfl, rfl, World.ownsRow_nil _ _ _ _, Below.refl _ _⟩
  case round =>
    obtain ⟨k, hk, rfl, rfl, hr, hb⟩ := hrel
    have HR := Lib.hid hr
    have HB := Lib.hid hb
    have HBG := Lib.hid (row_b0 hr)
    have hwz : w2.heap.size ≤ wr.heap.size := hb.size
    clear hr hb
    have hpl := wordsGo_len (charP tabC) ((runes s).take k)
    rw [List.length_take, ← HM.out] at hpl
    obtain ⟨P, hP⟩ : ∃ P, P = wordsGo (charP tabC) ((runes s).take k) := ⟨_, rfl⟩
    have hpz := wordsGo_sz ((runes s).take k)
    rw [List.length_take, ← HM.out] at hpz
    rw [← hP] at HR hpl hpz
    rw [← hP]
    have HPE := Lib.hid hP
    clear hP
    have hpn : P.1.length ≤ 100000 := by omega
    have hpz' : P.2.length ≤ 1000000 := by omega
    clear hpz
    by_cases hlt : k < m
    · have hkx : k < (runes s).length := by rw [← HM.out]; exact hlt
      obtain ⟨x, hx⟩ : ∃ x, (runes s)[k]? = some x := ⟨_, List.getElem?_eq_getElem hkx⟩
      have hxm : (runes s)[k] = x := by rw [List.getElem?_eq_getElem hkx] at hx; injection hx
      have hx32 : x ≤ 2147483647 := HLE.out x (by rw [← hxm]; exact List.getElem_mem hkx)
      have hc1 : wr.cell? ⟨g, k, none⟩ = some (.int .i32 x) := (HB.out.cell (p := ⟨g, k, none⟩) (HGL.out (by omega))).trans (HCELL.out k x hx)
      have HS : RowKit.Hid (wordsGo (charP tabC) ((runes s).take (k + 1)) = (if charP tabC x ≠ [32] then (P.1, P.2 ++ charP tabC x) else (if P.2 = [] then P.1 else P.1 ++ [P.2], []))) := Lib.hid (by
        rw [List.take_succ_eq_append_getElem hkx, hxm, wordsGo_snoc, ← HPE.out])
      have HCH := Lib.hid (charR_any x wr hx32)
      obtain ⟨ch, hch⟩ : ∃ ch, ch = charP tabC x := ⟨_, rfl⟩
      have HCS : RowKit.Hid (ch.length ≤ 10) := Lib.hid (by rw [hch]; exact charC_small x)
      rw [← hch] at HS HCH
      clear hx hxm hkx hx32 hch
      by_cases h1 : ch = [32]
      · subst h1
        by_cases h2 : P.2 = []
        · have e2 : ofL P.2 = ⟨#[]⟩ := by rw [h2]; rfl
          have HQ : RowKit.Hid (wordsGo (charP tabC) ((runes s).take (k + 1)) = (P.1, [])) := Lib.hid (by rw [HS.out, if_neg (by simp), if_pos h2])
          rw [e2]
          clear h2 e2
          have e32 : ofL [32] = ⟨#[32]⟩ := rfl
          rw [e32] at HCH
          go_wp2_with fail
          refine HCH.out.mono ?_
          rintro e w3 ⟨rfl, hb3⟩
          have HB3 := Lib.hid hb3
          clear hb3 HCH
          go_wp2_with fail
          exact ⟨⟨k + 1, hlt, by go_num, by rw [HQ.out]; rfl, by rw [HQ.out]; exact (Tn.of_below (F := fun _ => False) HB3.out).row HR.out (fun _ _ h => h), HB.out.trans (HB3.out.mono hwz)⟩, by simp [intOf]; omega⟩
        · have e1 : (ofL P.2).toList.isEmpty = false := by
            rw [ByteArray.toList_eq]
            show P.2.isEmpty = false
            cases h : P.2 with
            | nil => exact absurd h h2
            | cons a b => rfl
          have e2 : ((ofL P.2).toList != []) = true := by
            rw [ByteArray.toList_eq]
            show (P.2 != []) = true
            cases h : P.2 with
            | nil => exact absurd h h2
            | cons a b => rfl
          have HQ : RowKit.Hid (wordsGo (charP tabC) ((runes s).take (k + 1)) = (P.1 ++ [P.2], [])) := Lib.hid (by rw [HS.out, if_neg (by simp), if_neg h2])
          clear h2
          have e32 : ofL [32] = ⟨#[32]⟩ := rfl
          rw [e32] at HCH
          go_wp2_with fail
          refine HCH.out.mono ?_
          rintro e w3 ⟨rfl, hb3⟩
          have HB3 := Lib.hid hb3
          have HR3 := Lib.hid ((Tn.of_below (F := fun _ => False) hb3).row HR.out (fun _ _ h => h))
          have hwz3 : wr.heap.size ≤ w3.heap.size := hb3.size
          clear hb3 HCH
          go_wp2_with (at_builtin; go_loud (refine wpList_append_all rfl (.tmp 28) (.tmp 30) 65 rfl w2.heap.size 9 i0 _ 1 16 Tryz.underlying65 hi hz1 hz2 hz3 rfl (by omega) _ P.1.length (strsV P.1) rfl (HR3.out.alloc _) 1 [.string (ofL P.2)] _ rfl (src_row (row_fresh' _ (by simp) 0 _ 9 1 1 rfl (by unfold maxLen; omega) (Nat.zero_le _))) (by simp [Value.oneCell']) (by unfold maxLen; omega) (by omega) (by simp; omega) ?_); intro v' w4 hr4 hg4 ho4; have HR4 := Lib.hid hr4; have HG4 := Lib.hid hg4; have HO4 := Lib.hid ho4; clear hr4 hg4 ho4)
          refine ⟨⟨k + 1, hlt, by go_num, by rw [HQ.out]; rfl, ?_, HB.out.trans ((HB3.out.mono hwz).trans (below_grown ((Below.refl _ _).alloc (by omega) _) (by simp; omega) HG4.out (fun r e => HBG.out r e)))⟩, by simp [intOf]; omega⟩
          have h4 := HR4.out
          rw [HQ.out]
          simpa [strsV] using h4
      · have e1 : ((ofL ch).toList == [32]) = false := by
          rw [ByteArray.toList_eq]
          show (ch == [32]) = false
          simpa using h1
        have e2 : ((ofL ch).toList != [32]) = true := by
          rw [ByteArray.toList_eq]
          show (ch != [32]) = true
          simpa using h1
        have HQ : RowKit.Hid (wordsGo (charP tabC) ((runes s).take (k + 1)) = (P.1, P.2 ++ ch)) := Lib.hid (by rw [HS.out, if_pos h1])
        have HAP := Lib.hid (ofL_app P.2 ch)
        have hcs := HCS.out
        have q1 : ¬ 9223372036854775807 < (ofL P.2).size + (ofL ch).size := by rw [ofL_size, ofL_size]; omega
        clear hcs
        clear h1
        go_wp2_with fail
        refine HCH.out.mono ?_
        rintro e w3 ⟨rfl, hb3⟩
        have HB3 := Lib.hid hb3
        clear hb3 HCH
        go_wp2_with fail
        exact ⟨⟨k + 1, hlt, by go_num, by rw [HQ.out, ← HAP.out], by rw [HQ.out]; exact (Tn.of_below (F := fun _ => False) HB3.out).row HR.out (fun _ _ h => h), HB.out.trans (HB3.out.mono hwz)⟩, by simp [intOf]; omega⟩
    · obtain rfl : k = m := by omega
      have HT : RowKit.Hid (wordsP (charP tabC) (runes s) [] = if P.2 = [] then P.1 else P.1 ++ [P.2]) := Lib.hid (by rw [wordsP_end, HPE.out, HM.out, List.take_length])
      have HBW : RowKit.Hid (Below w.heap.size w wr) := Lib.hid (HB2.out.trans (HB.out.mono hz2'))
      by_cases h2 : P.2 = []
      · have e2 : ofL P.2 = ⟨#[]⟩ := by rw [h2]; rfl
        have HQ : RowKit.Hid (wordsP (charP tabC) (runes s) [] = P.1) := Lib.hid (by rw [HT.out, if_pos h2])
        rw [e2]
        clear h2 e2
        go_wp2_with fail
        go_ret
        exact ⟨_, rfl, by rw [HQ.out]; exact row_mono HR.out hz2', HBW.out⟩
      · have e1 : (ofL P.2).toList.isEmpty = false := by
          rw [ByteArray.toList_eq]
          show P.2.isEmpty = false
          cases h : P.2 with
          | nil => exact absurd h h2
          | cons a b => rfl
        have e2 : ((ofL P.2).toList != []) = true := by
          rw [ByteArray.toList_eq]
          show (P.2 != []) = true
          cases h : P.2 with
          | nil => exact absurd h h2
          | cons a b => rfl
        have HQ : RowKit.Hid (wordsP (charP tabC) (runes s) [] = P.1 ++ [P.2]) := Lib.hid (by rw [HT.out, if_neg h2])
        clear h2
        go_wp2_with (at_builtin; go_loud (refine wpList_append_all rfl (.tmp 34) (.tmp 36) 65 rfl w2.heap.size 9 i0 _ 1 16 Tryz.underlying65 hi hz1 hz2 hz3 rfl (by omega) _ P.1.length (strsV P.1) rfl (HR.out.alloc _) 1 [.string (ofL P.2)] _ rfl (src_row (row_fresh' _ (by simp) 0 _ 9 1 1 rfl (by unfold maxLen; omega) (Nat.zero_le _))) (by simp [Value.oneCell']) (by unfold maxLen; omega) (by omega) (by simp; omega) ?_); intro v' w4 hr4 hg4 ho4; have HR4 := Lib.hid hr4; have HG4 := Lib.hid hg4; have HO4 := Lib.hid ho4; clear hr4 hg4 ho4)
        go_ret
        refine ⟨_, rfl, ?_, HBW.out.trans (below_grown ((Below.refl _ _).alloc (by omega) _) (by simp; omega) HG4.out (fun r e => by have := HBG.out r e; omega))⟩
        have h4 := row_mono HR4.out hz2'
        rw [HQ.out]
        simpa [strsV] using h4
set_option maxRecDepth 100000 in
set_option maxHeartbeats 2000000 in
theorem joinR_any {B : Nat} {l : List (List UInt8)} {v : Value} {w : World} (hr : w.ownsRow B 9 1 v l.length (strsV l)) (hl : l.length ≤ 1000000) (hsz : (joinP l).length ≤ 2000000) : Calls Tryz.prog 59 #[v] w fun e w' => e = .returned (.string (ofL (joinP l))) ∧ w' = w := by
  obtain ⟨a, cap, rfl, -, -, -, hc⟩ := row_cellz hr
  have HC := Lib.hid hc
  obtain ⟨n, hn⟩ : ∃ n, n = l.length := ⟨_, rfl⟩
  rw [← hn] at hl
  rw [← hn]
  have HSZ : RowKit.Hid (∀ k, k ≤ n → (joinGo l k).length ≤ 2000000) := Lib.hid fun k hk => by
    refine Nat.le_trans (joinGo_le l k n hk) ?_
    rw [hn, joinGo_take l _ (Nat.le_refl _), List.take_length]; exact hsz
  have HN := Lib.hid hn
  clear hr hc hn hsz
  go_enter Tryz.func59, Tryz.ntmps59
  go_wp2_with fail
  go_loop [3, 4] (fun o i => ∃ k : Nat, k ≤ n ∧ i = .int .i64 k ∧ o = .string (ofL (joinGo l k))) (fun _ i => n - (intOf i).toNat)
  case atStart => exact ⟨0, by omega, rfl, rfl⟩
  case round =>
    obtain ⟨k, hk, rfl, rfl⟩ := hrel
    by_cases hlt : k < n
    · have hkl : k < l.length := by rw [← HN.out]; exact hlt
      obtain ⟨x, hx⟩ : ∃ x, x = l[k] := ⟨_, rfl⟩
      obtain ⟨g, rfl, hcell⟩ : ∃ g, a = some ⟨g, 0, none⟩ ∧ w.cell? ⟨g, k, none⟩ = some (.string (ofL x)) := by
        rcases HC.out with ⟨h0, _⟩ | ⟨g, e, _, _, _, hcl⟩
        · omega
        · refine ⟨g, e, hcl k _ ?_⟩
          rw [hx]; simp [strsV, hkl]
      have HJ : RowKit.Hid (joinGo l (k + 1) = (if k = 0 then joinGo l k else joinGo l k ++ [32]) ++ x) := Lib.hid (by rw [joinGo, hx]; simp [hkl])
      clear hx hkl
      obtain ⟨J, hJ⟩ : ∃ J, J = joinGo l k := ⟨_, rfl⟩
      rw [← hJ] at HJ
      rw [← hJ]
      have hsx := HSZ.out (k + 1) hlt
      rw [HJ.out] at hsx
      have z1 := ofL_size J
      have z2 := ofL_size x
      have z3 := ofL_size (J ++ [32])
      have H1 := Lib.hid (ofL_app J x)
      have H2 := Lib.hid (ofL_app (J ++ [32]) x)
      have H3 := Lib.hid (ofL_app J [32])
      clear hJ
      by_cases h0 : 0 < k
      · have HQ : RowKit.Hid (joinGo l (k + 1) = (J ++ [32]) ++ x) := Lib.hid (by rw [HJ.out, if_neg (by omega)])
        have g0 : decide (0 < k) = true := by simpa using h0
        have f0 : decide ((0 : Int) < k) = true := by simp; omega
        rw [if_neg (by omega), List.length_append, List.length_append, List.length_singleton] at hsx
        rw [List.length_append, List.length_singleton] at z3
        have q1 : ¬ 9223372036854775807 < (ofL J).size + 1 := by omega
        have q2 : ¬ 9223372036854775807 < (ofL (J ++ [32])).size + (ofL x).size := by omega
        have q3 : ¬ 9223372036854775807 < (ofL J).size + 1 + (ofL x).size := by omega
        clear hsx z1 z2 z3
        go_wp2_with fail
        go_round
        case rel => exact ⟨k + 1, hlt, by go_num, by rw [HQ.out, ← H2.out, ← H3.out]; rfl⟩
        case measure => simp [intOf]; omega
      · have HQ : RowKit.Hid (joinGo l (k + 1) = J ++ x) := Lib.hid (by rw [HJ.out, if_pos (by omega)])
        have g0 : decide (0 < k) = false := by simpa using h0
        have f0 : decide ((0 : Int) < k) = false := by simp; omega
        rw [if_pos (by omega), List.length_append] at hsx
        have q1 : ¬ 9223372036854775807 < (ofL J).size + (ofL x).size := by omega
        clear hsx z1 z2 z3
        go_wp2_with fail
        go_round
        case rel => exact ⟨k + 1, hlt, by go_num, by rw [HQ.out, ← H1.out]⟩
        case measure => simp [intOf]; omega
    · obtain rfl : k = n := by omega
      have HJ : RowKit.Hid (joinGo l k = joinP l) := Lib.hid (by rw [joinGo_take l k (by rw [HN.out]; exact Nat.le_refl _), HN.out, List.take_length])
      go_wp2_with fail
      go_ret
      exact ⟨by rw [← HJ.out]; rfl, rfl⟩
set_option maxRecDepth 100000 in
theorem foldR_any (s : ByteArray) (hs : s.size ≤ 100000) (w : World) : Calls Tryz.prog 43 #[.string s] w fun e w' => e = .returned (.string (foldS tabC s)) ∧ Below w.heap.size w w' := by
  have HW := Lib.hid (wordsR_any s hs w)
  have hl : (wordsP (charP tabC) (runes s) []).length ≤ 1000000 := by
    rw [wordsP_end]
    have h1 := wordsGo_len (charP tabC) (runes s)
    have h2 := runes_len s
    split
    · omega
    · simp; omega
  have HL := Lib.hid hl
  have HSZ : RowKit.Hid ((joinP (wordsP (charP tabC) (runes s) [])).length ≤ 2000000) := Lib.hid (by
    have h := foldS_size s
    have e : (foldS tabC s).size = (joinP (wordsP (charP tabC) (runes s) [])).length := by unfold foldS; rw [ofL_size]; rfl
    omega)
  clear hl
  go_enter Tryz.func43, Tryz.ntmps43
  go_wp2_with fail
  refine HW.out.mono ?_
  rintro e w1 ⟨v, rfl, hr, hb⟩
  have HJ := Lib.hid (joinR_any hr HL.out HSZ.out)
  have HB := Lib.hid hb
  obtain ⟨a, cap, rfl, -⟩ := row_cellz hr
  clear hr hb
  go_wp2_with fail
  refine HJ.out.mono ?_
  rintro e w2 ⟨rfl, rfl⟩
  go_wp2_with fail
  go_ret
  exact ⟨rfl, HB.out⟩
end Go.Proofs.YtpdldbapagchfaaGreatDoor

/- The reference's Alike, and what it keeps. -/
namespace Go.Proofs.YtpdldbapagchfaaGreatDoor
open Go.RowKit Go.Shelf Go.Maps
attribute [local go_sem] over_cell over_frozen

theorem bl_ne {a b : ByteArray} (h : a ≠ b) : ¬ a.toList = b.toList := fun e => h (bytes_eq e)
set_option maxRecDepth 100000 in
set_option maxHeartbeats 4000000 in
theorem alikeR_any (S S' : Nat → Prop) {w : World} {cs ds : List Value} {f g : Fld} (hf : FldR S w cs f) (hg : FldR S' w ds g) (hl : FldOk f) (hl' : FldOk g) :
    Calls Tryz.prog 23 #[.agg cs.toArray, .agg ds.toArray] w fun e w' => e = .returned (.bool (Alike (foldS tabC) f g)) ∧ Below w.heap.size w w' := by
  obtain ⟨fa, fc, rfl, hfs⟩ := hf.expl
  obtain ⟨ga, gc, rfl, hgs⟩ := hg.expl
  clear hf hg
  have HL1 := Lib.hid hl
  have HL2 := Lib.hid hl'
  clear hl hl'
  obtain ⟨t1, i1, d1, s1⟩ := f
  obtain ⟨t2, i2, d2, s2⟩ := g
  dsimp only at *
  obtain ⟨r, hr⟩ : ∃ r, r = Alike (foldS tabC) ⟨t1, i1, d1, s1⟩ ⟨t2, i2, d2, s2⟩ := ⟨_, rfl⟩
  have hr' : r = (decide (t1 = t2) && decide (d1 = d2) && decide (s1.map (fun s => (s.c, foldS tabC s.t)) = s2.map fun s => (s.c, foldS tabC s.t))) := hr
  have HSL : RowKit.Hid (s1.map (fun s => (s.c, foldS tabC s.t)) = s2.map (fun s => (s.c, foldS tabC s.t)) → s1.length = s2.length) := Lib.hid fun h => by simpa using congrArg List.length h
  rw [← hr]
  clear hr
  obtain ⟨n, hn⟩ : ∃ n, n = s1.length := ⟨_, rfl⟩
  obtain ⟨m, hm⟩ : ∃ m, m = s2.length := ⟨_, rfl⟩
  have hn1 : n ≤ 1000 := by rw [hn]; exact HL1.out.subs
  have hm1 : m ≤ 1000 := by rw [hm]; exact HL2.out.subs
  rw [← hn] at hfs ⊢
  rw [← hm] at hgs ⊢
  have HF := Lib.hid hfs
  have HG := Lib.hid hgs
  have N1 := Lib.hid hn
  have N2 := Lib.hid hm
  have HR := Lib.hid hr'
  clear hfs hgs hn hm hr'
  have HB : RowKit.Hid (∀ p q, Below w.heap.size w ((w.alloc p).alloc q)) := Lib.hid fun p q => ((Below.refl _ _).alloc (Nat.le_refl _) _).alloc (by simp) _
  by_cases ht : t1 = t2
  case neg =>
    have hn := bl_ne ht
    have a1 : (t1.toList == t2.toList) = false := by simpa using hn
    have a2 : decide (t1.toList = t2.toList) = false := by simpa using hn
    have a3 : (t1.toList != t2.toList) = !false := by simpa using hn
    have HRF : RowKit.Hid (r = false) := Lib.hid (by rw [HR.out, decide_eq_false ht]; rfl)
    clear ht hn
    go_enter Tryz.func23, Tryz.ntmps23
    go_wp2_with fail
    go_ret
    exact ⟨ret_bool HRF.out.symm, HB.out _ _⟩
  subst ht
  have a1 : (t1.toList == t1.toList) = true := by simp
  have a2 : decide (t1.toList = t1.toList) = true := by simp
  have a3 : (t1.toList != t1.toList) = false := by simp
  by_cases hd : d1 = d2
  case neg =>
    have hn := bl_ne hd
    have b1 : (d1.toList == d2.toList) = false := by simpa using hn
    have b2 : decide (d1.toList = d2.toList) = false := by simpa using hn
    have b3 : (d1.toList != d2.toList) = !false := by simpa using hn
    have HRF : RowKit.Hid (r = false) := Lib.hid (by rw [HR.out, decide_eq_false hd]; simp)
    clear hd hn
    go_enter Tryz.func23, Tryz.ntmps23
    go_wp2_with fail
    go_ret
    exact ⟨ret_bool HRF.out.symm, HB.out _ _⟩
  subst hd
  have b1 : (d1.toList == d1.toList) = true := by simp
  have b2 : decide (d1.toList = d1.toList) = true := by simp
  have b3 : (d1.toList != d1.toList) = false := by simp
  by_cases hnm : n = m
  case neg =>
    have q1 : ((n : Int) != (m : Int)) = true := by simp; omega
    have q2 : (n != m) = true := by simpa using hnm
    have HRF : RowKit.Hid (r = false) := Lib.hid (by
      rw [HR.out]
      have : ¬ (s1.map (fun s => (s.c, foldS tabC s.t)) = s2.map fun s => (s.c, foldS tabC s.t)) := fun h => hnm (by rw [N1.out, N2.out]; exact HSL.out h)
      rw [decide_eq_false this]; simp)
    clear hnm
    go_enter Tryz.func23, Tryz.ntmps23
    go_wp2_with fail
    go_ret
    exact ⟨ret_bool HRF.out.symm, HB.out _ _⟩
  subst hnm
  have HRT : RowKit.Hid (r = decide (s1.map (fun s => (s.c, foldS tabC s.t)) = s2.map fun s => (s.c, foldS tabC s.t))) := Lib.hid (by rw [HR.out]; simp)
  have q1 : ((n : Int) != (n : Int)) = false := by simp
  have q2 : (n != n) = false := by simp
  clear HR
  go_enter Tryz.func23, Tryz.ntmps23
  go_wp2_with fail
  clear a1 a2 a3 b1 b2 b3 q1 q2
  go_loopw [5] (fun i wr => ∃ k : Nat, k ≤ n ∧ i = .int .i64 k ∧ Below w.heap.size w wr ∧ wr.cell? ⟨w.heap.size, 3, none⟩ = some (.slice fa n fc) ∧ wr.cell? ⟨w.heap.size + 1, 3, none⟩ = some (.slice ga n gc) ∧ ∀ j (h1 : j < s1.length) (h2 : j < s2.length), j < k → s1[j].c = s2[j].c ∧ foldS tabC s1[j].t = foldS tabC s2[j].t) (fun i _ => n - (intOf i).toNat)
  case atStart => exact ⟨0, by omega, rfl, HB.out _ _, (Blk.new _ _ _).alloc _ |>.cell 3, Blk.at_new (by simp) _ _ |>.cell 3, fun j _ _ hj => by omega⟩
  case round =>
    obtain ⟨k, hk, rfl, hb, c3, d3, hall⟩ := hrel
    have HBr := Lib.hid hb
    have HA := Lib.hid hall
    clear hb hall
    by_cases hlt : k < n
    · have hlx : k < s1.length := by rw [← N1.out]; exact hlt
      have hly : k < s2.length := by rw [← N2.out]; exact hlt
      obtain ⟨b1, o1, cap1, cs1, e1, _, _, hR1, _, hg1, _⟩ := SlOf.range (by omega) (SubsAt.keep HF.out (Stay.of_below HBr.out) (fun _ h _ => h)) hlx
      obtain ⟨b2, o2, cap2, cs2, e2, _, _, hR2, _, hg2, _⟩ := SlOf.range (by omega) (SubsAt.keep HG.out (Stay.of_below HBr.out) (fun _ h _ => h)) hly
      have e1' : fa = some ⟨b1, o1, none⟩ := by injection e1
      have e2' : ga = some ⟨b2, o2, none⟩ := by injection e2
      clear e1 e2
      subst e1' e2'
      obtain ⟨x, hx⟩ : ∃ x, x = s1[k] := ⟨_, rfl⟩
      obtain ⟨y, hy⟩ : ∃ y, y = s2[k] := ⟨_, rfl⟩
      have hxs : x.t.size ≤ 1000 := by rw [hx]; exact (HL1.out.each _ (List.getElem_mem _)).2
      have hys : y.t.size ≤ 1000 := by rw [hy]; exact (HL2.out.each _ (List.getElem_mem _)).2
      rw [← hx] at hR1
      rw [← hy] at hR2
      have HX := Lib.hid hx
      have HY := Lib.hid hy
      unfold SubR at hR1 hR2
      subst hR1 hR2
      obtain ⟨p0, p1⟩ := range2 hg1
      obtain ⟨q0, q1⟩ := range2 hg2
      obtain ⟨xf, hxf⟩ : ∃ xf, xf = foldS tabC x.t := ⟨_, rfl⟩
      obtain ⟨yf, hyf⟩ : ∃ yf, yf = foldS tabC y.t := ⟨_, rfl⟩
      have F1 : RowKit.Hid (∀ q, Calls Tryz.prog 43 #[.string x.t] (over wr q) fun e w' => e = .returned (.string xf) ∧ Below (over wr q).heap.size (over wr q) w') := Lib.hid fun q => by rw [hxf]; exact foldR_any x.t (by omega) _
      have F2 : RowKit.Hid (∀ q, Calls Tryz.prog 43 #[.string y.t] (over wr q) fun e w' => e = .returned (.string yf) ∧ Below (over wr q).heap.size (over wr q) w') := Lib.hid fun q => by rw [hyf]; exact foldR_any y.t (by omega) _
      have XF := Lib.hid hxf
      have YF := Lib.hid hyf
      clear hg1 hg2 hx hy hxs hys hxf hyf
      by_cases hc : x.c = y.c
      · have g1 : ((x.c : Int) != (y.c : Int)) = false := by rw [hc]; simp
        have HC := Lib.hid hc
        clear hc
        by_cases hfe : xf = yf
        · subst hfe
          have a1 : (xf.toList == xf.toList) = true := by simp
          have a2 : decide (xf.toList = xf.toList) = true := by simp
          have a3 : (xf.toList != xf.toList) = false := by simp
          go_wp2_with fail
          refine wp_region_over (by kernel_rfl) (by kernel_rfl) ?_
          repeat (first | go_big_quiet_step (first | (go_at_call 43; with_reducible exact inOver (F1.out _)) | (go_at_call 43; with_reducible exact inOver (F2.out _))))
          refine wpQuiet_nil ?_
          rintro _ ⟨nq, rfl⟩
          have HBy : RowKit.Hid (Below w.heap.size w (over wr nq)) := Lib.hid (HBr.out.trans ((below_over wr nq).mono HBr.out.size))
          have c3' := Below.cellE (below_over wr nq) c3
          have d3' := Below.cellE (below_over wr nq) d3
          obtain ⟨wz, hwz⟩ : ∃ wz, wz = over wr nq := ⟨_, rfl⟩
          rw [← hwz] at HBy c3' d3' ⊢
          clear hwz c3 d3 p0 p1 q0 q1 F1 F2 a1 a2 a3 g1
          go_wp2_with fail
          exact ⟨⟨k + 1, hlt, by go_num, HBy.out, c3', d3', fun j h1 h2 hj => by
            by_cases e : j = k
            · subst e; rw [← HX.out, ← HY.out]; exact ⟨HC.out, XF.out.symm.trans YF.out⟩
            · exact HA.out j h1 h2 (by omega)⟩, by simp [intOf]; omega⟩
        · have hn := bl_ne hfe
          have a1 : (xf.toList == yf.toList) = false := by simpa using hn
          have a2 : decide (xf.toList = yf.toList) = false := by simpa using hn
          have a3 : (xf.toList != yf.toList) = !false := by simpa using hn
          have HFE := Lib.hid hfe
          clear hfe hn
          go_wp2_with fail
          refine wp_region_over (by kernel_rfl) (by kernel_rfl) ?_
          repeat (first | go_big_quiet_step (first | (go_at_call 43; with_reducible exact inOver (F1.out _)) | (go_at_call 43; with_reducible exact inOver (F2.out _))))
          refine wpQuiet_nil ?_
          rintro _ ⟨nq, rfl⟩
          have HBy : RowKit.Hid (Below w.heap.size w (over wr nq)) := Lib.hid (HBr.out.trans ((below_over wr nq).mono HBr.out.size))
          have HRF : RowKit.Hid (r = false) := Lib.hid (by
            rw [HRT.out, decide_eq_false_iff_not]
            intro h
            have hlx : k < s1.length := by rw [← N1.out]; exact hlt
            have hly : k < s2.length := by rw [← N2.out]; exact hlt
            have h1 := congrArg (fun l => l[k]?) h
            simp only [List.getElem?_map, List.getElem?_eq_getElem hlx, List.getElem?_eq_getElem hly, Option.map_some, Option.some.injEq, Prod.mk.injEq] at h1
            rw [← HX.out, ← HY.out] at h1
            exact HFE.out (by rw [XF.out, YF.out]; exact h1.2))
          go_wp2_with fail
          go_ret
          exact ⟨ret_bool HRF.out.symm, HBy.out⟩
      · have g1 : ((x.c : Int) != (y.c : Int)) = true := by simp; omega
        have HC := Lib.hid hc
        clear hc
        go_wp2_with fail
        refine wp_region_over (by kernel_rfl) (by kernel_rfl) ?_
        repeat (first | go_big_quiet_step (first | (go_at_call 43; with_reducible exact inOver (F1.out _)) | (go_at_call 43; with_reducible exact inOver (F2.out _))))
        refine wpQuiet_nil ?_
        rintro _ ⟨nq, rfl⟩
        have HBy : RowKit.Hid (Below w.heap.size w (over wr nq)) := Lib.hid (HBr.out.trans ((below_over wr nq).mono HBr.out.size))
        have HRF : RowKit.Hid (r = false) := Lib.hid (by
          rw [HRT.out, decide_eq_false_iff_not]
          intro h
          have hlx : k < s1.length := by rw [← N1.out]; exact hlt
          have hly : k < s2.length := by rw [← N2.out]; exact hlt
          have h1 := congrArg (fun l => l[k]?) h
          simp only [List.getElem?_map, List.getElem?_eq_getElem hlx, List.getElem?_eq_getElem hly, Option.map_some, Option.some.injEq, Prod.mk.injEq] at h1
          rw [← HX.out, ← HY.out] at h1
          exact HC.out h1.1)
        go_wp2_with fail
        go_ret
        exact ⟨ret_bool HRF.out.symm, HBy.out⟩
    · obtain rfl : k = n := by omega
      have HRF : RowKit.Hid (r = true) := Lib.hid (by
        rw [HRT.out, decide_eq_true_iff]
        refine List.ext_getElem (by simp; rw [← N1.out, ← N2.out]) fun j h1 h2 => ?_
        rw [List.getElem_map, List.getElem_map]
        have h := HA.out j (by simpa using h1) (by simpa using h2) (by rw [N1.out]; simpa using h1)
        rw [h.1, h.2])
      go_wp2_with fail
      go_ret
      exact ⟨ret_bool HRF.out.symm, HBr.out⟩
end Go.Proofs.YtpdldbapagchfaaGreatDoor
