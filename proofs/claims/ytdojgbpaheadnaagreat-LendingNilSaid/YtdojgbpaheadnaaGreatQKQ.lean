/- What the reference's asker's calls yield; a new one. -/
import Derived.Test.YtdojgbpaheadnaaGreatQKA
import Derived.Test.YtdojgbpaheadnaaGreatQAC
import Derived.Test.YtdojgbpaheadnaaGreatQRN
set_option linter.unusedVariables false
set_option linter.unusedSimpArgs false

namespace Go.Proofs.YtdojgbpaheadnaaGreat
open Go.RowKit Go.Shelf Go.Maps

def RAskE (B rb N : Nat) (s : Asr) (lv : Value) (r : (Asr × List Msg) × Int) (w : World) (e : Ending) (w' : World) : Prop :=
  ∃ v lv', e = .returned (.tuple #[v, i64 r.2]) ∧ MsgsAt w' w.heap.size v r.1.2 ∧ RAM w' B rb r.1.1 lv' (N + 1) ∧ Tn (OwnRA rb lv) w w' ∧ ∀ k, OwnRA rb lv' k → OwnRA rb lv k ∨ w.heap.size ≤ k
theorem rask_none {B rb N : Nat} {s : Asr} {lv : Value} {r : (Asr × List Msg) × Int} {w : World} (h : RAM w B rb s lv N) (hN : N < 9000) {c : Int} (hr : r = ((s, []), c)) {W : World} (hW : Below w.heap.size w W) : RAskE B rb N s lv r w (.returned (.tuple #[.slice none 0 0, i64 c])) W := by
  subst hr
  exact ⟨_, lv, rfl, rfl, (h.up hW).mono (by omega) (by omega), Tn.of_below hW, fun k hk => .inl hk⟩
theorem msgs_new (w : World) (m : Msg) {B : Nat} (hB : B ≤ w.heap.size) : MsgsAt (w.alloc (.cells (encM m) 31)) B (.slice (some ⟨w.heap.size, 0, none⟩) 1 1) [m] := ⟨_, hB, rfl, Blk.new _ _ _⟩
set_option maxRecDepth 100000 in
theorem rnewA_any (id cap : Int) (hid : I64 id) (hcap : I64 cap) (w : World) :
    Calls Tryz.prog 29 #[i64 id, i64 cap] w fun e w' => e = .returned (.pointer (some ⟨w.heap.size, 0, none⟩)) ∧ RAM w' w.heap.size w.heap.size ⟨id, cap, 0, []⟩ (.slice none 0 0) 0 ∧ Below w.heap.size w w' := by
  have B2 : RowKit.Hid (Below w.heap.size w (w.alloc (.cells #[i64 id, i64 cap, i64 0, .slice none 0 0] 159))) := Lib.hid ((Below.refl _ _).alloc (Nat.le_refl _) _)
  have M2 : RowKit.Hid (RAM (w.alloc (.cells #[i64 id, i64 cap, i64 0, .slice none 0 0] 159)) w.heap.size w.heap.size ⟨id, cap, 0, []⟩ (.slice none 0 0) 0) := Lib.hid
    ⟨Blk.new _ _ _, World.ownsRow_nil _ _ _ _, by simp [Value.ownBlock], Nat.le_refl _, ⟨by dsimp only; omega, by dsimp only; omega⟩, ⟨hid, hcap, fun q hq => by cases hq⟩, List.Pairwise.nil, ⟨Nat.le_refl _, by omega⟩⟩
  go_enter Tryz.func29, Tryz.ntmps29
  go_wp2_with fail
  go_ret
  exact ⟨rfl, M2.out, B2.out⟩
end Go.Proofs.YtdojgbpaheadnaaGreat
