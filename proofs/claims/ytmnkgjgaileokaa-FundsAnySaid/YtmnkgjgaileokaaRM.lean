/- The funds and the reference's side by side. -/
import Derived.Test.YtmnkgjgaileokaaRL
import Derived.Test.YtmnkgjgaileokaaFP
namespace Go.Proofs.Ytmnkgjgaileokaa
open Go.RowKit

structure Both (w : World) (n0 : Nat) (wr : World) (s : FS) (v u : PV) (rb : Nat) (sl : Value) : Prop where
  st : St w n0 wr s v
  ref : RMem wr rb u sl
  orb : s.o rb = .none
  osl : ∀ r, sl.ownBlock = some r → s.o r = .none
  rb0 : n0 ≤ rb
  sl0 : ∀ r, sl.ownBlock = some r → n0 ≤ r
variable {w w1 w2 : World} {n0 rb : Nat} {s s' : FS} {v v' u u' : PV} {sl sl' : Value}
theorem Both.n0_le (h : Both w n0 w1 s v u rb sl) : n0 ≤ w1.heap.size := by have := h.ref.hd.lt; have := h.rb0; omega
theorem Both.read (h : Both w n0 w1 s v u rb sl) (hb : Below w1.heap.size w1 w2) : Both w n0 w2 s v u rb sl :=
  ⟨h.st.read hb, h.ref.below hb, h.orb, h.osl, h.rb0, h.sl0⟩
theorem Both.alloc (h : Both w n0 w1 s v u rb sl) (o : Obj) : Both w n0 (w1.alloc o) s v u rb sl := h.read ((Below.refl _ _).alloc (Nat.le_refl _) o)
theorem Both.doF (h : Both w n0 w1 s v u rb sl) (hM : Mem w2 s') (hT : Turn s w1 s' w2) (hf : s'.fb = n0) (hp : s'.pv = v') : Both w n0 w2 s' v' u rb sl :=
  ⟨h.st.step hM hT hf hp, ⟨hT.blk h.ref.hd h.orb, h.ref.row.same fun r hr => hT.block r (h.ref.row.lt hr) (h.osl r hr), h.ref.ne⟩,
    hT.none _ h.ref.hd.lt h.orb, fun r hr => hT.none r (h.ref.row.lt hr) (h.osl r hr), h.rb0, h.sl0⟩
theorem Both.doR (h : Both w n0 w1 s v u rb sl) (hR : RMem w2 rb u' sl') (hT : RTurn w1 rb sl w2 sl') : Both w n0 w2 s v u' rb sl' where
  st := ⟨h.st.mem.keep hT.size fun b ho => hT.block b (h.st.mem.lt ho) (fun e => ho (by rw [e]; exact h.orb)) (fun e => ho (h.osl b e)), h.st.pv, h.st.fb,
    h.st.below.trans ⟨hT.os, hT.tape, hT.output, hT.size, fun b hb => hT.block b (Nat.lt_of_lt_of_le hb h.n0_le) (fun e => by have := h.rb0; omega) (fun e => by have := h.sl0 b e; omega)⟩, h.st.own⟩
  ref := hR
  orb := h.orb
  osl := fun r hr => by
    rcases hT.own r hr with e | e
    · exact h.osl r e
    · exact h.st.mem.fresh r e
  rb0 := h.rb0
  sl0 := fun r hr => by
    rcases hT.own r hr with e | e
    · exact h.sl0 r e
    · exact Nat.le_trans h.n0_le e
theorem Both.start (h : St w n0 w1 s v) (hR : RMem w2 w1.heap.size u (.slice none 0 0)) (hb : Below w1.heap.size w1 w2) : Both w n0 w2 s v u w1.heap.size (.slice none 0 0) :=
  ⟨h.read hb, hR, h.mem.fresh _ (Nat.le_refl _), fun r hr => by simp [Value.ownBlock] at hr, by have := h.mem.fne; rw [h.fb] at this; omega, fun r hr => by simp [Value.ownBlock] at hr⟩
/-- A local block lives on. -/
theorem Both.blkF {b : Nat} {xs : Array Value} {T : TypeId} (hT : Turn s w1 s' w2) (k : Blk w1 b xs T) (hn : s.o b = .none) : Blk w2 b xs T := hT.blk k hn
theorem RTurn.blk {b : Nat} {xs : Array Value} {T : TypeId} (hT : RTurn w1 rb sl w2 sl') (k : Blk w1 b xs T) (h1 : b ≠ rb) (h2 : sl.ownBlock ≠ some b) : Blk w2 b xs T := by
  unfold Blk; rw [hT.block b k.lt h1 h2]; exact k
end Go.Proofs.Ytmnkgjgaileokaa
