/- The contract of Funds.Encode. -/
import Derived.Test.YtmnkgjgaileokaaCI
import Derived.Test.YtmnkgjgaileokaaFP
namespace Go.Proofs.Ytmnkgjgaileokaa
open Go.RowKit Go.Shelf Go.Maps

theorem keys_any (mb : Option Nat) (w : World) : Calls Try.prog 50 #[.map mb] w fun e w' => e = .returned (.func (.func 73) #[] #[.pointer (some ⟨w.heap.size, 0, none⟩)]) ∧ w' = w.alloc (.cells #[.map mb] 51) :=
  (callsIn_wide (n := 5)).1 (AnyZI.keys_in Try.keysA Fence.wide 5 trivial rfl mb w)
theorem Try.sortsA (m : Nat) : AnyZI.SortsIn Try.prog Try.sortedA_ren Fence.wide m :=
  ⟨fun blk off cap ss W hH hblk hsz => callsIn_wide.2 (Try.slices_Sort_int blk off cap ss W hH hblk hsz),
   fun p cap W => callsIn_wide.2 (Try.slices_Sort_int_none p cap W)⟩
def PV.sorted (v : PV) : List Int := v.ids.mergeSort leI
theorem Rep.perm {w : World} {b n : Nat} {D : DataW Unit} {ids : List Int} {g : Int → Nat} (h : Rep D ids g) (hnd : ids.Nodup) (hown : w.ownsMap Try.prog 3 R68 b n D) : ids.Perm (intKeys D) := by
  obtain ⟨es, rfl, hp⟩ := h.tidy
  obtain ⟨es', hD', hko⟩ := hown.keysOf
  obtain rfl : es = es' := by simpa using hD'
  refine perm_intKeys hp (fun p hp' => ?_) hnd fun x => ?_
  · obtain ⟨v, hv⟩ := hko p hp'
    obtain ⟨x, _, hx, _⟩ := Maps.keyOf_i64 Try.underlying3 hv
    exact ⟨x, hx⟩
  · rw [h.has]
    constructor
    · intro hx; exact ⟨x, hx, rfl⟩
    · rintro ⟨y, hy, e⟩
      cases e; exact hy
set_option maxRecDepth 100000 in
set_option maxHeartbeats 1000000 in
theorem sorted_any {w : World} {s : FS} (h : Mem w s) (hnd : s.ids.Nodup) (hlen : s.ids.length ≤ 1000000) :
    Calls Try.prog 49 #[.func (.func 73) #[] #[.pointer (some ⟨w.heap.size, 0, none⟩)]] (w.alloc (.cells #[.map s.bm] 51)) fun e w' => ∃ v : Value, e = .returned v ∧
      w'.ownsRow (w.heap.size + 1) 3 1 v s.ids.length (s.pv.sorted.map encZ) ∧ (v = .slice none 0 0 ↔ s.ids = []) ∧ Below (w.heap.size + 1) (w.alloc (.cells #[.map s.bm] 51)) w' := by
  have hsz : (w.alloc (.cells #[.map s.bm] 51)).heap.size = w.heap.size + 1 := size_alloc _ _
  refine (callsIn_wide (n := 6)).1 ?_
  rcases h.map with ⟨h1, h2⟩ | ⟨b, D, h1, _, h3, h4⟩
  · rw [h1] at hsz ⊢
    have hseq : SeqGives Fence.wide 3 Try.prog 73 #[.pointer (some ⟨w.heap.size, 0, none⟩)] encZ (fun ss : List Int => ss = []) 0 (w.alloc (.cells #[.map none] 51)) :=
      AnyZI.keys_gives_nil (ρ := Try.keysA_ren) { Try.keysA with } Fence.wide _ trivial rfl w.heap.size _ (by simp) (by simp)
    have cS := AnyZI.sorted_in Try.sortedA Fence.wide 6 trivial trivial trivial trivial rfl (by omega) (Try.sortsA _) (enters_of Try.func72 (by kernel_rfl) rfl) 73 #[.pointer (some ⟨w.heap.size, 0, none⟩)] trivial (enters_of Try.func73 (by kernel_rfl) rfl) _ 0 (Nat.zero_le _) (by omega) _ hseq
    refine CallsIn.mono cS ?_
    rintro e w' ⟨v, ss, rfl, rfl, hrow, hnil, hb⟩
    rw [hsz] at hrow hb
    refine ⟨v, rfl, ?_, ?_, hb⟩
    · unfold PV.sorted; rw [show s.pv.ids = [] from h2, h2]; exact hrow
    · rw [hnil, h2]
  · rw [h1] at hsz ⊢
    have hbl := h3.lt
    have hperm := h4.perm hnd h3
    have hseq : SeqGives Fence.wide 3 Try.prog 73 #[.pointer (some ⟨w.heap.size, 0, none⟩)] encZ (fun ss => ss.Perm (intKeys D)) (Maps.size D) (w.alloc (.cells #[.map (some b)] 51)) :=
      AnyZI.keys_gives (ρ := Try.keysA_ren) { Try.keysA with } Fence.wide _ trivial rfl (by omega) w.heap.size b s.ids.length D _ (by simp) (by simp) (by
        obtain ⟨es, clock, hb, Ft, hs, hD⟩ := h3
        exact ⟨es, clock, (Below.heap_alloc _ _ b hbl).trans hb, Ft, hs, hD⟩)
    have hs := h4.size
    have cS := AnyZI.sorted_in Try.sortedA Fence.wide 6 trivial trivial trivial trivial rfl (by omega) (Try.sortsA _) (enters_of Try.func72 (by kernel_rfl) rfl) 73 #[.pointer (some ⟨w.heap.size, 0, none⟩)] trivial (enters_of Try.func73 (by kernel_rfl) rfl) _ (Maps.size D) (by unfold maxLen; omega) (by omega) _ hseq
    refine CallsIn.mono cS ?_
    rintro e w' ⟨v, ss, rfl, hS, hrow, hnil, hb⟩
    rw [hsz] at hrow hb
    have hp2 : ss.Perm s.ids := hS.trans hperm.symm
    have e1 : ss.mergeSort (fun x y => decide (x ≤ y)) = s.pv.sorted := mergeSort_of_perm_i hp2
    refine ⟨v, rfl, ?_, ?_, hb⟩
    · rw [← e1, ← hp2.length_eq]; exact hrow
    · rw [hnil]
      constructor
      · rintro rfl; exact List.nil_perm.1 hp2
      · intro e; rw [e] at hp2; exact List.perm_nil.1 hp2
end Go.Proofs.Ytmnkgjgaileokaa
