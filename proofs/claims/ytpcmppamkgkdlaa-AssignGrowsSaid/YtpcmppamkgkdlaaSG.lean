/- Least costs of ways in memory: the two rows, and how far the costs may go. -/
import Derived.Test.YtpcmppamkgkdlaaSE
namespace Go.Proofs.Ytpcmppamkgkdlaa
open Go.RowKit

abbrev encC (f : Nat → Int) (n : Nat) : Array Value := arr (fun v => .int .i64 (f v)) n
theorem encC_set (f : Nat → Int) {n k : Nat} (h : k < n) (x : Int) : (encC f n).setIfInBounds k (.int .i64 x) = encC (upd f k x) n := by
  rw [arr_set _ h]
  refine arr_congr fun i _ => ?_
  by_cases e : i = k
  · subst e; rw [if_pos rfl, upd_eq]
  · rw [if_neg e, upd_ne _ _ e]
structure BM (w : World) (cb bb N : Nat) (s : BF) : Prop where
  cost : Blk w cb (encC s.cost N) 3
  bef : Blk w bb (encO s.bef N) 3
  ne : cb ≠ bb
theorem BM.keep {F : Nat → Prop} {w w' : World} {cb bb N : Nat} {s : BF} (h : BM w cb bb N s) (t : Tn F w w') (h1 : ¬ F cb) (h2 : ¬ F bb) : BM w' cb bb N s := ⟨t.blk h.cost h1, t.blk h.bef h2, h.ne⟩
theorem BM.below {w w' : World} {cb bb N : Nat} {s : BF} (h : BM w cb bb N s) (hb : Below w.heap.size w w') : BM w' cb bb N s := h.keep (F := fun _ => False) (Tn.of_below hb) id id
theorem BM.setC {w : World} {cb bb N : Nat} {s : BF} (h : BM w cb bb N s) {v : Nat} (hv : v < N) (x : Int) : BM (w.setCell ⟨cb, v, none⟩ (.int .i64 x)) cb bb N ⟨upd s.cost v x, s.bef, s.chg⟩ :=
  ⟨(h.cost.set v _).cast (encC_set _ hv x), h.bef.set_ne _ _ (Ne.symm h.ne), h.ne⟩
theorem BM.setB {w : World} {cb bb N : Nat} {s : BF} (h : BM w cb bb N s) {v : Nat} (hv : v < N) (x : Option Nat) : BM (w.setCell ⟨bb, v, none⟩ (.int .i64 (oi x))) cb bb N ⟨s.cost, upd s.bef v x, s.chg⟩ :=
  ⟨h.cost.set_ne _ _ h.ne, (h.bef.set v _).cast (encO_set _ hv x), h.ne⟩
theorem BM.again {w : World} {cb bb N : Nat} {s : BF} (h : BM w cb bb N s) : BM w cb bb N s.again := ⟨h.cost, h.bef, h.ne⟩
theorem BM.relax {w : World} {cb bb N : Nat} {s : BF} (h : BM w cb bb N s) {a b : Nat} {x : Int} (hb : b < N) (hc : s.cost a < endl ∧ s.cost a + x < s.cost b) :
    BM ((w.setCell ⟨cb, b, none⟩ (.int .i64 (s.cost a + x))).setCell ⟨bb, b, none⟩ (.int .i64 (a : Int))) cb bb N (relaxE s (a, b, x)) := by
  rw [relax_yes hc]
  have := (h.setC hb (s.cost a + x)).setB hb (some a)
  exact ⟨this.cost, this.bef, this.ne⟩

/-- How far costs may go. -/
def Bd (s : BF) (t : Nat) : Prop := ∀ v, -(t * 1000000 : Int) ≤ s.cost v ∧ s.cost v ≤ 1152921504606846976
theorem Bd.mono {s : BF} {t u : Nat} (h : Bd s t) (g : t ≤ u) : Bd s u := fun v => by have := h v; omega
theorem Bd.again {s : BF} {t : Nat} (h : Bd s t) : Bd s.again t := h
theorem Bd.relax {s : BF} {t : Nat} (h : Bd s t) {e : Edge} (h0 : -1000000 ≤ e.2.2) : Bd (relaxE s e) (t + 1) := by
  obtain ⟨a, b, x⟩ := e
  by_cases hc : s.cost a < endl ∧ s.cost a + x < s.cost b
  · rw [relax_yes hc]
    intro v
    show _ ≤ upd s.cost b _ v ∧ upd s.cost b _ v ≤ _
    have h1 := h a
    have h2 := h b
    have h0' : -1000000 ≤ x := h0
    by_cases e : v = b
    · subst e; rw [upd_eq]; omega
    · rw [upd_ne _ _ e]; have := h v; omega
  · rw [relax_no hc]; exact h.mono (by omega)
theorem Bd.fold {t : Nat} : ∀ (L : List Edge) {s : BF}, Bd s t → (∀ e ∈ L, -1000000 ≤ e.2.2) → Bd (L.foldl relaxE s) (t + L.length)
  | [], _, h, _ => h
  | e :: L, s, h, hL => by
    have := Bd.fold (t := t + 1) L (h.relax (hL e (List.mem_cons_self ..))) (fun x hx => hL x (List.mem_cons_of_mem _ hx))
    rw [show t + (e :: L).length = t + 1 + L.length by simp; omega]; exact this
theorem Bd.start (src : Option Nat) : Bd (start src) 0 := fun v => by
  show _ ≤ (match src with | none => (0 : Int) | some a => if v = a then 0 else endl) ∧ (match src with | none => (0 : Int) | some a => if v = a then 0 else endl) ≤ _
  cases src with
  | none => simp
  | some a =>
    simp only
    split
    · simp
    · simp [endl]
theorem Bd.rounds {E : List Edge} {src : Option Nat} (hE : ∀ e ∈ E, -1000000 ≤ e.2.2) (hl : E.length ≤ 1002000) : ∀ k, Bd (rounds E src k) (1002000 * k)
  | 0 => Bd.start src
  | k + 1 => ((Bd.fold E (Bd.rounds hE hl k).again hE)).mono (by omega)
/-- Edges that fit. -/
structure EOk (E : List Edge) (N : Nat) : Prop where
  lt : ∀ e ∈ E, e.1 < N ∧ e.2.1 < N ∧ e.1 ≠ e.2.1
  wt : ∀ e ∈ E, -1000000 ≤ e.2.2 ∧ e.2.2 ≤ 1000000
  len : E.length ≤ 1002000
/-- The state in a round, when j edges have been looked at. -/
def mid (E : List Edge) (src : Option Nat) (k j : Nat) : BF := (E.take j).foldl relaxE (rounds E src k).again
theorem mid_0 (E : List Edge) (src : Option Nat) (k : Nat) : mid E src k 0 = (rounds E src k).again := rfl
theorem mid_all (E : List Edge) (src : Option Nat) (k : Nat) : mid E src k E.length = rounds E src (k + 1) := by
  unfold mid; rw [List.take_length]; rfl
theorem mid_succ (E : List Edge) (src : Option Nat) (k : Nat) {j : Nat} (h : j < E.length) : mid E src k (j + 1) = relaxE (mid E src k j) E[j] := by
  unfold mid; rw [List.take_succ_eq_append_getElem h, List.foldl_append]; rfl
theorem mid_bd {E : List Edge} {src : Option Nat} {N : Nat} (hE : EOk E N) (k j : Nat) (hj : j ≤ E.length) : Bd (mid E src k j) (1002000 * k + j) := by
  have := Bd.fold (E.take j) (Bd.rounds (src := src) (fun e he => (hE.wt e he).1) hE.len k).again (fun e he => (hE.wt e (List.mem_of_mem_take he)).1)
  exact this.mono (by rw [List.length_take]; omega)
theorem start_done (src : Option Nat) (N : Nat) : encC (fun v => if v < N then (start src).cost v else 0) N = encC (start src).cost N ∧ encC (fun v => if v < N then -1 else 0) N = encO (start src).bef N :=
  ⟨arr_congr fun k hk => by simp [hk], arr_congr fun k hk => by simp [hk, start, oi]⟩
theorem fill_set (f : Nat → Int) {n c : Nat} (h : c < n) (x : Int) (hx : x = f c) : (encC (fun v => if v < c then f v else 0) n).setIfInBounds c (.int .i64 x) = encC (fun v => if v < c + 1 then f v else 0) n := by
  rw [encC_set _ h]
  refine arr_congr fun i _ => ?_
  show Value.int _ _ = Value.int _ _
  congr 1
  show upd _ _ _ _ = if i < c + 1 then f i else 0
  by_cases e : i = c
  · subst e; rw [upd_eq, if_pos (by omega), hx]
  · rw [upd_ne _ _ e]
    by_cases g : i < c
    · rw [if_pos g, if_pos (by omega)]
    · rw [if_neg g, if_neg (by omega)]
theorem fill_skip (f : Nat → Int) {n c : Nat} (h : f c = 0) : encC (fun v => if v < c then f v else 0) n = encC (fun v => if v < c + 1 then f v else 0) n := by
  refine arr_congr fun i _ => ?_
  show Value.int _ _ = Value.int _ _
  congr 1
  show (if i < c then f i else 0) = if i < c + 1 then f i else 0
  by_cases e : i = c
  · subst e; rw [if_neg (by omega), if_pos (by omega), h]
  · by_cases g : i < c
    · rw [if_pos g, if_pos (by omega)]
    · rw [if_neg g, if_neg (by omega)]
theorem start_none (v : Nat) : (start none).cost v = 0 := rfl
theorem start_same (a : Nat) : (start (some a)).cost a = 0 := if_pos rfl
theorem start_other {a v : Nat} (h : v ≠ a) : (start (some a)).cost v = endl := if_neg h
theorem edges_ok {P : Prob} {first : Nat} {cp wn : Nat → Option Nat} (hP : Fits P) (hm : Mat P cp) (hc : Con cp wn) : EOk (edL P first cp wn) (P.n + 1) where
  lt := fun e he => by
    obtain ⟨a, b, x⟩ := e
    have h1 := ((edL_edges (first := first) hm hc) a b x).1 he
    have h2 := Ed.ne hm h1.1
    exact ⟨h2.2.1, h2.2.2, h2.1⟩
  wt := fun e he => by
    obtain ⟨a, b, x⟩ := e
    have h1 := ((edL_edges (first := first) hm hc) a b x).1 he
    show -1000000 ≤ x ∧ x ≤ 1000000
    rw [h1.2]
    unfold Prob.wt
    split
    · cases wn a with
      | none => simp
      | some k =>
        have h3 := hP.bd k a
        have h4 := hP.bd k b
        simp only [Option.elim]; omega
    · omega
  len := by
    have h1 := edA_len (first := first) (cp := cp) hP.len P.m
    have h2 := edB_len (P := P) (first := first) (wn := wn) P.n
    have h3 := hP.m
    have h4 := hP.n
    unfold edL
    rw [List.length_append]; omega
end Go.Proofs.Ytpcmppamkgkdlaa
