/- The law, its parts without a walk: wants that are added at the end, and copies that are added, take nothing away from those that were served. -/
import Derived.Test.YtpcmppamkgkdlaaVU
import Derived.Test.YtpcmppamkgkdlaaIW
import Derived.Test.YtpcmppamkgkdlaaUB
namespace Go.Proofs.Ytpcmppamkgkdlaa
open Go.RowKit

def encU : List (Int × Int) → List Value
  | [] => []
  | q :: l => .int .u16 q.1 :: .int .u16 q.2 :: encU l
theorem encU_len : ∀ l : List (Int × Int), (encU l).length = l.length * 2
  | [] => rfl
  | q :: l => by simp [encU, encU_len l]; omega
theorem encU_app : ∀ (l : List (Int × Int)) (q : Int × Int), encU (l ++ [q]) = encU l ++ [.int .u16 q.1, .int .u16 q.2]
  | [], q => rfl
  | x :: l, q => by simp [encU, encU_app l q]
theorem encU_get : ∀ (l : List (Int × Int)) (j : Nat), j < l.length → (encU l)[j * 2]? = some (.int .u16 (l.getD j (0, 0)).1) ∧ (encU l)[j * 2 + 1]? = some (.int .u16 (l.getD j (0, 0)).2)
  | q :: l, 0, _ => ⟨rfl, rfl⟩
  | q :: l, j + 1, h => by
    have := encU_get l j (by simpa using h)
    refine ⟨?_, ?_⟩
    · rw [show (j + 1) * 2 = j * 2 + 2 by omega]; simpa [encU] using this.1
    · rw [show (j + 1) * 2 + 1 = j * 2 + 1 + 2 by omega]; simpa [encU] using this.2
theorem encU_one : ∀ (l : List (Int × Int)), ∀ u ∈ encU l, u.oneCell' = true
  | [], u, h => by simp [encU] at h
  | q :: l, u, h => by
    rcases List.mem_cons.1 h with rfl | h
    · rfl
    · rcases List.mem_cons.1 h with rfl | h
      · rfl
      · exact encU_one l u h
theorem add_off (b o i : Nat) : (⟨b, o, none⟩ : Addr).add i = ⟨b, o + i, none⟩ := by by_cases h : i = 0 <;> simp [Addr.add, h]
theorem cells_encU {W : World} {b o : Nat} {l : List (Int × Int)} (h : ∀ j, j < l.length → W.cell? ⟨b, o + j * 2, none⟩ = some (.int .u16 (l.getD j (0, 0)).1) ∧ W.cell? ⟨b, o + j * 2 + 1, none⟩ = some (.int .u16 (l.getD j (0, 0)).2)) :
    ∀ i u, (encU l)[i]? = some u → W.cell? ((⟨b, o, none⟩ : Addr).add i) = some u := fun i u hu => by
  have hi : i < l.length * 2 := by rw [← encU_len]; exact (List.getElem?_eq_some_iff.1 hu).1
  have hj : i / 2 < l.length := by omega
  obtain ⟨e1, e2⟩ := encU_get l (i / 2) hj
  obtain ⟨c1, c2⟩ := h (i / 2) hj
  rw [add_off]
  rcases (by omega : i = i / 2 * 2 ∨ i = i / 2 * 2 + 1) with hh | hh
  · rw [← hh] at e1 c1; rw [c1, ← e1, hu]
  · rw [← hh] at e2; rw [Nat.add_assoc, ← hh] at c2; rw [c2, ← e2, hu]
theorem u16s_get (cs : Nat → Int) (i : Nat) (h : i < 16) : ((List.range 16).map fun i => Value.int .u16 (cs i))[i]? = some (.int .u16 (cs i)) := by simp [h]
/-- The problem that has one want more. -/
def qCells (x : Value) (a1 : Value) (cs : Nat → Int) : Array Value := (x :: a1 :: (List.range 16).map fun i => Value.int .u16 (cs i)).toArray
theorem qCells_size (x a1 : Value) (cs : Nat → Int) : (qCells x a1 cs).size = 18 := by simp [qCells]
theorem prIn_more {w W : World} {B : Nat} {cells : Array Value} {wl : List (Int × Int)} {al : List Int} {cs : Nat → Int} (hp : PrIn w B cells wl al cs) (hb : Below w.heap.size w W) (hB : B ≤ w.heap.size) {B0 : Nat} {x a1 : Value} {m1 m2 : Int} (h1 : cells[1]? = some a1)
    (hm1 : 0 ≤ m1 ∧ m1 < 65536) (hm2 : 0 ≤ m2 ∧ m2 < 65536) {n : Nat} (hn : n = min wl.length 15) (hr : W.ownsRow B0 48 2 x (n + 1) (encU (wl.take 15 ++ [(m1, m2)]))) : PrIn W W.heap.size (qCells x a1 cs) (wl.take 15 ++ [(m1, m2)]) al cs := by
  have hlen : (wl.take 15 ++ [(m1, m2)]).length = n + 1 := by simp; omega
  obtain ⟨aa, ca, e1, hal⟩ := hp.c1
  rw [h1] at e1
  injection e1 with e1
  refine ⟨?_, fun j hj => ?_, ⟨aa, ca, by rw [e1]; rfl, hal.imp id fun ⟨b, o, e, hbl, hc⟩ => ⟨b, o, e, by have := hb.size; omega, fun j hj => (hb.cell (p := ⟨b, o + j, none⟩) (by show b < _; omega)).trans (hc j hj)⟩⟩, hp.a0, fun i hi => ⟨?_, (hp.c2 i hi).2⟩, by rw [hlen]; omega, hp.len.2⟩
  · obtain ⟨h0, ⟨_, h⟩ | ⟨g, cap, cur, rfl, hg, hh, q⟩⟩ := hr
    · omega
    · refine ⟨_, cap, by rw [hlen]; rfl, .inr ⟨g, 0, rfl, heap_lt hh, fun j hj => ?_⟩⟩
      have hr' : W.ownsRow B0 48 2 (.slice (some ⟨g, 0, none⟩) (n + 1) cap) (n + 1) (encU (wl.take 15 ++ [(m1, m2)])) := ⟨h0, .inr ⟨g, cap, cur, rfl, hg, hh, q⟩⟩
      obtain ⟨g1, g2⟩ := encU_get _ j hj
      have c1 := hr'.cells (g := g) rfl _ _ g1
      have c2 := hr'.cells (g := g) rfl _ _ g2
      rw [add_of] at c1 c2
      rw [Nat.zero_add]
      exact ⟨c1, c2⟩
  · rcases Nat.lt_or_ge j (wl.take 15).length with h | h
    · have h15 : j < wl.length := by simp at h; omega
      have e : (wl.take 15 ++ [(m1, m2)]).getD j (0, 0) = wl.getD j (0, 0) := by
        have : j < 15 := by simp at h; omega
        simp [List.getD_eq_getElem?_getD, List.getElem?_append_left h, List.getElem?_take_of_lt this]
      rw [e]; exact hp.w0 j h15
    · have hj' : j = (wl.take 15).length := by rw [List.length_append] at hj; simp at hj h ⊢; omega
      subst hj'
      rw [getD_last]
      exact ⟨hm1.1, hm1.2, hm2.1, hm2.2⟩
  · show (x :: a1 :: (List.range 16).map fun i => Value.int .u16 (cs i)).toArray[2 + i]? = _
    rw [Nat.add_comm]
    simp [hi]
theorem wantsL_more (wl : List (Int × Int)) (q : Int × Int) : wantsL (wl.take 15 ++ [q]) 16 = wantsL wl 15 ++ [wantU q] := by
  unfold wantsL
  rw [List.take_of_length_le (by simp; omega), List.map_append]; rfl
theorem grows_law {L : List Wt} {A : List Int} {C : List (List Int)} {q : Wt} {x : Int} {a b c : Nat → Option Nat} (ha : Best (prob L A C) a) (hb : Best (prob (L ++ [q]) A C) b) (hc : Best (prob L (A ++ [x]) C) c) {k : Nat} (hk : k < L.length) :
    ((a k).isSome = true ↔ (b k).isSome = true) ∧ ((a k).isSome = true → (c k).isSome = true) := by
  refine ⟨grows_want (by show L.length ≤ (L ++ [q]).length; simp) (fun j hj c => ?_) ha.greedy hb.greedy k hk, grows_copy (P := prob L A C) (P' := prob L (A ++ [x]) C) rfl (fun k c h => ?_) (fun k c h hn => ?_) ha.mat ha.greedy hc.mat hc.greedy hk⟩
  · have hj' : j < L.length := hj
    rw [prob_acc, prob_acc, getD_app hj']
  · rw [prob_acc] at h ⊢
    exact ⟨h.1, by have := h.2; simp; omega⟩
  · rw [prob_acc] at h ⊢
    exact ⟨h.1, hn⟩
end Go.Proofs.Ytpcmppamkgkdlaa
