/- The reference's texts; texts are short. -/
import Derived.Test.YtdojgbpaheadnaaGreatQRX
set_option linter.unusedVariables false
set_option linter.unusedSimpArgs false

namespace Go.Proofs.YtdojgbpaheadnaaGreat
open Go.RowKit Go.Shelf Go.Maps

theorem text_any (k a r v : Int) (w : World) (hk : I64 k) (ha : I64 a) (hr : I64 r) (hv : I64 v) :
  Calls Tryz.prog 13 #[i64 k, i64 a, i64 r, i64 v] w fun e w' => e = .returned (strV (txt k a r v)) ∧ Below w.heap.size w w' := by
 have HQ : Hid (Q4.ok (k, a, r, v)) := Lib.hid ⟨hk, ha, hr, hv⟩
 clear hk ha hr hv
 go_enter Tryz.func13, Tryz.ntmps13
 go_wp2_with fail
 refine (rints_any [k, a, r, v] (some ⟨w.heap.size, 0, none⟩) 4 (w.alloc (.cells #[i64 k, i64 a, i64 r, i64 v] 3)) (intsAt4 w k a r v _) (by simp) (by simp) (by omega) (q4_all.2 HQ.out)).mono ?_
 rintro e w1 ⟨rfl, hb⟩
 have B1 : Hid (Below w.heap.size w w1) := Lib.hid (((Below.refl w.heap.size w).alloc (Nat.le_refl _) _).trans (hb.mono (by simp)))
 clear hb
 go_wp2_with fail
 go_ret
 exact ⟨rfl, B1.out⟩
def ReadE (s : List UInt8) (e : Ending) (w' : World) : Prop :=
 (∃ q b o cap, dec s = some q ∧ e = .returned (.tuple #[.slice (some ⟨b, o, none⟩) 4 cap, .bool true]) ∧ 4 ≤ cap ∧ cap ≤ 9223372036854775807 ∧ w'.cell? ⟨b, o, none⟩ = some (i64 q.1) ∧ w'.cell? ⟨b, o + 1, none⟩ = some (i64 q.2.1) ∧ w'.cell? ⟨b, o + 2, none⟩ = some (i64 q.2.2.1) ∧ w'.cell? ⟨b, o + 3, none⟩ = some (i64 q.2.2.2)) ∨
 dec s = none ∧ ∃ a n cap, e = .returned (.tuple #[.slice a n cap, .bool false])
theorem ints_short (L : List Int) (hl : L.length ≤ 10) (hin : ∀ n ∈ L, -9223372036854775808 ≤ n ∧ n ≤ 9223372036854775807) : (ints L).length ≤ 10 + 10 * L.length := by
 unfold ints
 have h1 := grp_ten (n := L.length) (by omega)
 have h2 := body_len L hin
 rw [List.length_append, num_len]
 omega
theorem txt_short {k a r v : Int} (h : Q4.ok (k, a, r, v)) : (txt k a r v).length ≤ 50 := ints_short [k, a, r, v] (by simp) (q4_all.2 h)
end Go.Proofs.YtdojgbpaheadnaaGreat
