/- The law of cheapness, plainly; lists that are copied and changed. -/
import Derived.Test.YtpcmppamkgkdlaaVG
import Derived.Test.YtpcmppamkgkdlaaTD
namespace Go.Proofs.Ytpcmppamkgkdlaa
open Go.RowKit

theorem isSome_oi {o : Option Nat} : o.isSome = decide (0 ≤ oi o) := by
  cases o with
  | none => rfl
  | some c => have : (0 : Int) ≤ (c : Int) := by omega
              simp [oi, this]
theorem outL_inj {f q : Nat → Option Nat} {m : Nat} (h : outL f m = outL q m) {j : Nat} (hj : j < m) : f j = q j := by
  have h1 := outL_get f hj
  have h2 := outL_get q hj
  rw [h] at h1
  exact oi_inj (h1.symm.trans h2)
theorem cheap_one {P : Prob} {a f : Nat → Option Nat} (hB : Best P a) {k c d : Nat} (hk : k < P.m) (ha : a k = some d) (hf : f = upd a k (some c)) {n' : Int} (h : costF P (outL f P.m) = (n', true)) : P.tot a ≤ n' ∧ (n' = P.tot a → d ≤ c) := by
  obtain ⟨q, hq, e, rfl⟩ := cost_mat h
  have hqf : ∀ j, j < P.m → q j = f j := fun j hj => (outL_inj e hj).symm
  have hqk : q k = some c := by rw [hqf k hk, hf, upd_eq]
  have hqo : ∀ j, j ≠ k → q j = a j := fun j hj => by
    rcases Nat.lt_or_ge j P.m with h' | h'
    · rw [hqf j h', hf, upd_ne _ _ hj]
    · rw [hq.none h', hB.mat.none h']
  have hs : Same a q := fun j => by
    by_cases hj : j = k
    · subst hj; rw [ha, hqk]; rfl
    · rw [hqo j hj]
  exact ⟨hB.cheap hq hs, fun ht => hB.least hq hs ht (fun j hj => hqo j (by omega)) ha hqk⟩
theorem cheap_swap {P : Prob} {a f : Nat → Option Nat} (hB : Best P a) {k j i : Nat} (hoff : ∀ x, x ≠ k → x ≠ j → x ≠ i → f x = a x) {n' : Int} (h : costF P (outL f P.m) = (n', true)) (hk : k < P.m) (hj : j < P.m) (hi : i < P.m)
    (ek : (f k).isSome = (a k).isSome) (ej : (f j).isSome = (a j).isSome) (ei : (f i).isSome = (a i).isSome) : P.tot a ≤ n' := by
  obtain ⟨q, hq, e, rfl⟩ := cost_mat h
  have hqf : ∀ j, j < P.m → q j = f j := fun j hj => (outL_inj e hj).symm
  refine hB.cheap hq fun x => ?_
  rcases Nat.lt_or_ge x P.m with h' | h'
  · rw [hqf x h']
    by_cases h1 : x = k
    · subst h1; exact ek.symm
    by_cases h2 : x = j
    · subst h2; exact ej.symm
    by_cases h3 : x = i
    · subst h3; exact ei.symm
    rw [hoff x h1 h2 h3]
  · rw [hq.none h', hB.mat.none h']
/-- A copied list. -/
def RowF (B : Nat) (w : World) (gb n cap : Nat) (f : Nat → Option Nat) : Prop := w.ownsRow B 3 1 (.slice (some ⟨gb, 0, none⟩) n cap) n ((outL f n).map (Value.int .i64))
namespace RowF
variable {B : Nat} {w w' : World} {gb n cap : Nat} {f : Nat → Option Nat}
theorem cell (h : RowF B w gb n cap f) {j : Nat} (hj : j < n) : w.cell? ⟨gb, j, none⟩ = some (.int .i64 (oi (f j))) := by
  obtain ⟨_, _, e9, h9 | ⟨g9, e8, -, h9⟩⟩ := row_cell h
  · omega
  · obtain rfl : gb = g9 := by injection e9 with a1 a2 a3; rw [← a1] at e8; injection e8 with e8; injection e8
    exact h9 j (.int .i64 (oi (f j))) (by rw [List.getElem?_map, outL, List.getElem?_map, List.getElem?_range hj]; rfl)
theorem fz (h : RowF B w gb n cap f) (i : Nat) : w.frozen? ⟨gb, i, none⟩ = false := h.frozenAt i
theorem set (h : RowF B w gb n cap f) (j : Nat) (x : Option Nat) : RowF B (w.setCell ⟨gb, j, none⟩ (.int .i64 (oi x))) gb n cap (upd f j x) := by
  have h1 := (h.stored j (.int .i64 (oi x))).1
  unfold RowF
  have e : (outL (upd f j x) n).map (Value.int .i64) = ((outL f n).map (Value.int .i64)).set j (.int .i64 (oi x)) := by
    refine List.ext_getElem (by simp [outL]) fun i h1 h2 => ?_
    rw [List.getElem_set]
    by_cases hij : j = i
    · subst hij; simp [outL, upd_eq]
    · rw [if_neg hij]; simp [outL, upd_ne _ _ (fun e => hij e.symm)]
  rw [e]; exact h1
theorem at_ (h : RowF B w gb n cap f) : B ≤ gb ∧ gb < w.heap.size := row_lt h gb rfl
theorem keep (h : RowF B w gb n cap f) (hb : Below w.heap.size w w') : RowF B w' gb n cap f := (Tn.of_below (F := fun _ => False) hb).row h (fun _ _ => id)
theorem ints (h : RowF B w gb n cap f) : Ints w w.heap.size (.slice (some ⟨gb, 0, none⟩) n cap) (outL f n) := by
  refine ⟨_, cap, by rw [outL_len], .inr ⟨gb, 0, rfl, h.at_.2, fun j hj => ?_⟩⟩
  rw [outL_len] at hj
  rw [Nat.zero_add, outL_get f hj]; exact h.cell hj
end RowF
theorem row_of_blk {w : World} {g n : Nat} {f : Nat → Option Nat} (h : Blk w g (encO f n) 3) (hn : n ≤ maxLen) : w.ownsRow g 3 1 (.slice (some ⟨g, 0, none⟩) n n) n ((outL f n).map (Value.int .i64)) := by
  refine ⟨by simp [outL], .inr ⟨g, n, encO f n, rfl, Nat.le_refl _, h, Nat.le_refl _, hn, by simp [arr], ?_⟩⟩
  have e : (encO f n).toList = (outL f n).map (Value.int .i64) := by simp [outL, arr, Function.comp_def]
  rw [e, Nat.mul_one, List.take_of_length_le (by simp [outL])]
end Go.Proofs.Ytpcmppamkgkdlaa
