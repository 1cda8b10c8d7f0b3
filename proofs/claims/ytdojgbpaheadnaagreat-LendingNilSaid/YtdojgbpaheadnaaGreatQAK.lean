/- The numbers of an asker's requests, in order. -/
import Derived.Test.YtdojgbpaheadnaaGreatQAC
import Derived.Test.YtdojgbpaheadnaaGreatQSK
import Derived.Shelf.SlIterI.Nil
set_option linter.unusedVariables false
set_option linter.unusedSimpArgs false

namespace Go.Proofs.YtdojgbpaheadnaaGreat
open Go.RowKit Go.Shelf Go.Maps Go.ChangeMaps

theorem keys_any (mv : Option Nat) (w : World) : Calls Tryz.prog 65 #[.map mv] w fun e w' => e = .returned (.func (.func 95) #[] #[.pointer (some ⟨w.heap.size, 0, none⟩)]) ∧ w' = w.alloc (.cells #[.map mv] 53) :=
  (callsIn_wide (n := 5)).1 (AnyZI.keys_in Tryz.keysA Fence.wide 5 trivial rfl mv w)
theorem Tryz.sortsA (m : Nat) : AnyZI.SortsIn Tryz.prog Tryz.sortedA_ren Fence.wide m :=
  ⟨fun blk off cap ss W hH hblk hsz => callsIn_wide.2 (Tryz.slices_Sort_int blk off cap ss W hH hblk hsz),
   fun p cap W => callsIn_wide.2 (Tryz.slices_Sort_int_none p cap W)⟩
theorem sortedN {L : List Rq} (h : SortedQ L) {ss : List Int} (hp : ss.Perm (L.map Rq.n)) : ss.mergeSort (fun x y => decide (x ≤ y)) = L.map Rq.n := by
  refine List.Perm.eq_of_pairwise (le := fun x y : Int => x ≤ y) (fun a b _ _ h1 h2 => Int.le_antisymm h1 h2) (sortedM _) ?_ ((List.mergeSort_perm _ _).trans hp)
  rw [List.pairwise_map]
  exact h.imp fun {a b} h => by omega
set_option maxRecDepth 100000 in
set_option maxHeartbeats 1000000 in
theorem sorted_any {w : World} {B b N : Nat} {s : Asr} {mv : Option Nat} (h : AMem w B b s (.map mv) N) :
    Calls Tryz.prog 64 #[.func (.func 95) #[] #[.pointer (some ⟨w.heap.size, 0, none⟩)]] (w.alloc (.cells #[.map mv] 53)) fun e w' => ∃ v : Value, e = .returned v ∧
      w'.ownsRow (w.heap.size + 1) 3 1 v s.L.length ((s.L.map Rq.n).map (Value.int .i64)) ∧ Below (w.heap.size + 1) (w.alloc (.cells #[.map mv] 53)) w' := by
  have hsz : (w.alloc (.cells #[.map mv] 53)).heap.size = w.heap.size + 1 := size_alloc _ _
  have hll := h.len
  refine (callsIn_wide (n := 6)).1 ?_
  rcases h.map with ⟨e1, h2⟩ | ⟨mb, n0, f0, e1, hm0⟩
  · injection e1 with e1
    subst e1
    have hseq : SeqGives Fence.wide 3 Tryz.prog 95 #[.pointer (some ⟨w.heap.size, 0, none⟩)] (Value.int .i64) (fun ss : List Int => ss = []) 0 (w.alloc (.cells #[.map none] 53)) :=
      AnyZI.keys_gives_nil (ρ := Tryz.keysA_ren) { Tryz.keysA with } Fence.wide _ trivial rfl w.heap.size _ (by simp) (by simp)
    have cS := AnyZI.sorted_in Tryz.sortedA Fence.wide 6 trivial trivial trivial trivial rfl (by omega) (Tryz.sortsA _) (enters_of Tryz.func67 (by kernel_rfl) rfl) 95 #[.pointer (some ⟨w.heap.size, 0, none⟩)] trivial (enters_of Tryz.func95 (by kernel_rfl) rfl) _ 0 (Nat.zero_le _) (by omega) _ hseq
    refine CallsIn.mono cS ?_
    rintro e w' ⟨v, ss, rfl, rfl, hrow, hnil, hb⟩
    rw [hsz] at hrow hb
    refine ⟨v, rfl, ?_, hb⟩
    rw [h2]
    have hrow2 := hrow
    simp only [List.mergeSort_nil, List.length_nil, List.map_nil] at hrow2
    exact hrow2
  · injection e1 with e1
    subst e1
    obtain ⟨D, n, f, hown, hn, hR, hf, hperm⟩ := h.keys
    have hbl := hown.lt
    have hseq : SeqGives Fence.wide 3 Tryz.prog 95 #[.pointer (some ⟨w.heap.size, 0, none⟩)] (Value.int .i64) (fun ss => ss.Perm (intKeys D)) (Maps.size D) (w.alloc (.cells #[.map (some mb)] 53)) :=
      AnyZI.keys_gives (ρ := Tryz.keysA_ren) { Tryz.keysA with } Fence.wide _ trivial rfl (by omega) w.heap.size mb n D _ (by simp) (by simp) (by
        obtain ⟨es, clock, hb, Ft, hs, hD⟩ := hown
        exact ⟨es, clock, (Below.heap_alloc _ _ mb hbl).trans hb, Ft, hs, hD⟩)
    have hs : Maps.size D = s.L.length := by
      have := hperm.length_eq
      rw [List.length_map] at this
      rw [this]
      obtain ⟨es, rfl, hp⟩ := hown.tidy keyI
      obtain ⟨es', hD', hko⟩ := hown.keysOf
      obtain rfl : es = es' := by simpa using hD'
      simp [Maps.size, intKeys]
    have cS := AnyZI.sorted_in Tryz.sortedA Fence.wide 6 trivial trivial trivial trivial rfl (by omega) (Tryz.sortsA _) (enters_of Tryz.func67 (by kernel_rfl) rfl) 95 #[.pointer (some ⟨w.heap.size, 0, none⟩)] trivial (enters_of Tryz.func95 (by kernel_rfl) rfl) _ (Maps.size D) (by unfold maxLen; omega) (by omega) _ hseq
    refine CallsIn.mono cS ?_
    rintro e w' ⟨v, ss, rfl, hS, hrow, hnil, hb⟩
    rw [hsz] at hrow hb
    have hp2 : ss.Perm (s.L.map Rq.n) := hS.trans hperm.symm
    have e1 : ss.mergeSort (fun x y => decide (x ≤ y)) = s.L.map Rq.n := sortedN h.inOrder hp2
    refine ⟨v, rfl, ?_, hb⟩
    have hl := hp2.length_eq
    rw [List.length_map] at hl
    rw [← e1, ← hl]; exact hrow
end Go.Proofs.YtdojgbpaheadnaaGreat
