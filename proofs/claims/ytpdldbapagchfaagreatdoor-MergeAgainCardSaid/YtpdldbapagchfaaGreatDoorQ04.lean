/- A character folded. -/
import Derived.Test.YtpdldbapagchfaaGreatDoorQ03
import Derived.RangeFuncBox
import Derived.RangeFuncGives
import Derived.RangeFuncNested
import Derived.RangeFuncBound
import Derived.RangeFuncCalls
import Derived.RangeFuncLeaves
import Derived.Shelf.Abstract
import Derived.Shelf.RegionOpen
import Derived.OwnWalkIn
import Derived.TacticsInMore
import Derived.LoopNIn
import Derived.LoopIn
set_option linter.unusedVariables false
set_option linter.unusedSimpArgs false

namespace Go.Proofs.YtpdldbapagchfaaGreatDoor
open Go.RowKit Go.Shelf Go.Maps

def btw (a b c : Nat) : Bool := decide (a ≤ c ∧ c ≤ b)
theorem btw_t {a b c : Nat} (h : a ≤ c ∧ c ≤ b) : btw a b c = true := decide_eq_true h
theorem btw_f {a b c : Nat} (h : ¬ (a ≤ c ∧ c ≤ b)) : btw a b c = false := decide_eq_false h
set_option maxRecDepth 100000 in
theorem between_any (c a b : Nat) (w : World) : Calls Tryz.prog 133 #[.int .i32 c, .int .i32 a, .int .i32 b] w fun e w' => e = .returned (.bool (btw a b c)) ∧ w' = w := by
  by_cases h1 : a ≤ c
  · have g1 : decide (a ≤ c) = true := decide_eq_true h1
    by_cases h2 : c ≤ b
    · have g2 : decide (c ≤ b) = true := decide_eq_true h2
      rw [btw_t ⟨h1, h2⟩]
      clear h1 h2
      go_enter Tryz.func133, Tryz.ntmps133
      go_wp2_with fail
      go_ret
      exact ⟨rfl, rfl⟩
    · have g2 : decide (c ≤ b) = false := decide_eq_false h2
      rw [btw_f (fun h => h2 h.2)]
      clear h1 h2
      go_enter Tryz.func133, Tryz.ntmps133
      go_wp2_with fail
      go_ret
      exact ⟨rfl, rfl⟩
  · have g1 : decide (a ≤ c) = false := decide_eq_false h1
    rw [btw_f (fun h => h1 h.1)]
    clear h1
    go_enter Tryz.func133, Tryz.ntmps133
    go_wp2_with fail
    go_ret
    exact ⟨rfl, rfl⟩
set_option maxRecDepth 100000 in
set_option maxHeartbeats 2000000 in
theorem fold_any (c : Nat) (hc : c ≤ 2147483647) {w : World} {mb nn : Nat} {f : Lit → Option (DataW Unit)} (hm : MapF w Tryz.prog 21 RS mb nn f) (hf : ∀ c : Nat, c ≤ 2147483647 → f (keyC c) = (tabC c).map fun t => DataW.lit (.string t)) :
    Calls Tryz.prog 124 #[.int .i32 c, .map (some mb)] w fun e w' => e = .returned (.string (ofL (charP tabC c))) ∧ w' = w := by
  have H97 : RowKit.Hid (∀ W, Calls Tryz.prog 133 #[.int .i32 (c : Int), .int .i32 97, .int .i32 122] W fun e w' => e = .returned (.bool (btw 97 122 c)) ∧ w' = W) := Lib.hid fun W => between_any c 97 122 W
  have H48 : RowKit.Hid (∀ W, Calls Tryz.prog 133 #[.int .i32 (c : Int), .int .i32 48, .int .i32 57] W fun e w' => e = .returned (.bool (btw 48 57 c)) ∧ w' = W) := Lib.hid fun W => between_any c 48 57 W
  have H65 : RowKit.Hid (∀ W, Calls Tryz.prog 133 #[.int .i32 (c : Int), .int .i32 65, .int .i32 90] W fun e w' => e = .returned (.bool (btw 65 90 c)) ∧ w' = W) := Lib.hid fun W => between_any c 65 90 W
  have H768 : RowKit.Hid (∀ W, Calls Tryz.prog 133 #[.int .i32 (c : Int), .int .i32 768, .int .i32 879] W fun e w' => e = .returned (.bool (btw 768 879 c)) ∧ w' = W) := Lib.hid fun W => between_any c 768 879 W
  have H65056 : RowKit.Hid (∀ W, Calls Tryz.prog 133 #[.int .i32 (c : Int), .int .i32 65056, .int .i32 65071] W fun e w' => e = .returned (.bool (btw 65056 65071 c)) ∧ w' = W) := Lib.hid fun W => between_any c 65056 65071 W
  have H945 : RowKit.Hid (∀ W, Calls Tryz.prog 133 #[.int .i32 (c : Int), .int .i32 945, .int .i32 969] W fun e w' => e = .returned (.bool (btw 945 969 c)) ∧ w' = W) := Lib.hid fun W => between_any c 945 969 W
  have H1072 : RowKit.Hid (∀ W, Calls Tryz.prog 133 #[.int .i32 (c : Int), .int .i32 1072, .int .i32 1103] W fun e w' => e = .returned (.bool (btw 1072 1103 c)) ∧ w' = W) := Lib.hid fun W => between_any c 1072 1103 W
  have H913 : RowKit.Hid (∀ W, Calls Tryz.prog 133 #[.int .i32 (c : Int), .int .i32 913, .int .i32 937] W fun e w' => e = .returned (.bool (btw 913 937 c)) ∧ w' = W) := Lib.hid fun W => between_any c 913 937 W
  have H1040 : RowKit.Hid (∀ W, Calls Tryz.prog 133 #[.int .i32 (c : Int), .int .i32 1040, .int .i32 1071] W fun e w' => e = .returned (.bool (btw 1040 1071 c)) ∧ w' = W) := Lib.hid fun W => between_any c 1040 1071 W
  obtain ⟨r, hr⟩ : ∃ r, r = ofL (charP tabC c) := ⟨_, rfl⟩
  rw [← hr]
  unfold charP at hr
  have HE : RowKit.Hid (∀ d : Nat, d < 0x800 → Utf8.encode (d : Int) = ofL (enc8 d)) := Lib.hid fun d h => encode_enc8 h
  have hw : c < 0x800 → IntKind.i32.wrap ((c : Int) + 32) = ((c + 32 : Nat) : Int) := fun h => by
    have : IntKind.i32.wrap ((c : Int) + 32) = (c : Int) + 32 := by simp [IntKind.wrap, IntKind.bits, IntKind.signed]; omega
    rw [this]; omega
  have HW := Lib.hid hw
  have HE2 : RowKit.Hid (c < 2000 → Utf8.encode ((c : Int) + 32) = ofL (enc8 (c + 32))) := Lib.hid fun h => by have := encode_enc8 (c := c + 32) (by omega); rw [← this]; congr 1
  obtain ⟨lv, ps, hlk, hlv⟩ := hm.look_ok keyed32 Tryz.underlying170 (Tryz.zeroValue9 w) (zd := .lit (.string [])) (zp := []) rfl (keyOf32 hc)
  rw [hf c hc] at hlk hlv
  have HLK := Lib.hid hlk
  have HLV := Lib.hid hlv
  clear hw hlk hlv hm hf
  by_cases h1 : 97 ≤ c ∧ c ≤ 122
  · have g1 := btw_t h1
    rw [if_pos (.inl h1)] at hr
    have HB : RowKit.Hid (c < 2000) := Lib.hid (by omega)
    have HR := Lib.hid hr
    clear hr
    clear h1
    go_enter Tryz.func124, Tryz.ntmps124
    go_wp2_with (first
      | (go_at_call 133; with_reducible refine (H97.out _).mono ?_; rintro e w' ⟨rfl, rfl⟩)
      | (go_at_call 133; with_reducible refine (H48.out _).mono ?_; rintro e w' ⟨rfl, rfl⟩)
      | (go_at_call 133; with_reducible refine (H65.out _).mono ?_; rintro e w' ⟨rfl, rfl⟩)
      | (go_at_call 133; with_reducible refine (H768.out _).mono ?_; rintro e w' ⟨rfl, rfl⟩)
      | (go_at_call 133; with_reducible refine (H65056.out _).mono ?_; rintro e w' ⟨rfl, rfl⟩)
      | (go_at_call 133; with_reducible refine (H945.out _).mono ?_; rintro e w' ⟨rfl, rfl⟩)
      | (go_at_call 133; with_reducible refine (H1072.out _).mono ?_; rintro e w' ⟨rfl, rfl⟩)
      | (go_at_call 133; with_reducible refine (H913.out _).mono ?_; rintro e w' ⟨rfl, rfl⟩)
      | (go_at_call 133; with_reducible refine (H1040.out _).mono ?_; rintro e w' ⟨rfl, rfl⟩))
    go_ret
    exact ⟨by rw [HR.out, HE.out _ (by have := HB.out; omega)]; rfl, rfl⟩
  have g1 := btw_f h1
  by_cases h2 : 48 ≤ c ∧ c ≤ 57
  · have g2 := btw_t h2
    rw [if_pos (.inr h2)] at hr
    have HB : RowKit.Hid (c < 2000) := Lib.hid (by omega)
    have HR := Lib.hid hr
    clear hr
    clear h1 h2
    go_enter Tryz.func124, Tryz.ntmps124
    go_wp2_with (first
      | (go_at_call 133; with_reducible refine (H97.out _).mono ?_; rintro e w' ⟨rfl, rfl⟩)
      | (go_at_call 133; with_reducible refine (H48.out _).mono ?_; rintro e w' ⟨rfl, rfl⟩)
      | (go_at_call 133; with_reducible refine (H65.out _).mono ?_; rintro e w' ⟨rfl, rfl⟩)
      | (go_at_call 133; with_reducible refine (H768.out _).mono ?_; rintro e w' ⟨rfl, rfl⟩)
      | (go_at_call 133; with_reducible refine (H65056.out _).mono ?_; rintro e w' ⟨rfl, rfl⟩)
      | (go_at_call 133; with_reducible refine (H945.out _).mono ?_; rintro e w' ⟨rfl, rfl⟩)
      | (go_at_call 133; with_reducible refine (H1072.out _).mono ?_; rintro e w' ⟨rfl, rfl⟩)
      | (go_at_call 133; with_reducible refine (H913.out _).mono ?_; rintro e w' ⟨rfl, rfl⟩)
      | (go_at_call 133; with_reducible refine (H1040.out _).mono ?_; rintro e w' ⟨rfl, rfl⟩))
    go_ret
    exact ⟨by rw [HR.out, HE.out _ (by have := HB.out; omega)]; rfl, rfl⟩
  have g2 := btw_f h2
  rw [if_neg (fun h => h.elim h1 h2)] at hr
  by_cases h3 : 65 ≤ c ∧ c ≤ 90
  · have g3 := btw_t h3
    rw [if_pos h3] at hr
    have HB : RowKit.Hid (c < 2000) := Lib.hid (by omega)
    have HR := Lib.hid hr
    clear hr
    have hw := HW.out (by have := HB.out; omega)
    clear h1 h2 h3
    go_enter Tryz.func124, Tryz.ntmps124
    go_wp2_with (first
      | (go_at_call 133; with_reducible refine (H97.out _).mono ?_; rintro e w' ⟨rfl, rfl⟩)
      | (go_at_call 133; with_reducible refine (H48.out _).mono ?_; rintro e w' ⟨rfl, rfl⟩)
      | (go_at_call 133; with_reducible refine (H65.out _).mono ?_; rintro e w' ⟨rfl, rfl⟩)
      | (go_at_call 133; with_reducible refine (H768.out _).mono ?_; rintro e w' ⟨rfl, rfl⟩)
      | (go_at_call 133; with_reducible refine (H65056.out _).mono ?_; rintro e w' ⟨rfl, rfl⟩)
      | (go_at_call 133; with_reducible refine (H945.out _).mono ?_; rintro e w' ⟨rfl, rfl⟩)
      | (go_at_call 133; with_reducible refine (H1072.out _).mono ?_; rintro e w' ⟨rfl, rfl⟩)
      | (go_at_call 133; with_reducible refine (H913.out _).mono ?_; rintro e w' ⟨rfl, rfl⟩)
      | (go_at_call 133; with_reducible refine (H1040.out _).mono ?_; rintro e w' ⟨rfl, rfl⟩))
    go_ret
    exact ⟨by rw [HR.out, HE2.out HB.out]; rfl, rfl⟩
  have g3 := btw_f h3
  rw [if_neg h3] at hr
  by_cases h4 : c < 128
  · have g4 : decide (c < 128) = true := decide_eq_true h4
    rw [if_pos h4] at hr
    have HB : RowKit.Hid (c < 2000) := Lib.hid (by omega)
    have HR := Lib.hid hr
    clear hr
    clear h1 h2 h3
    go_enter Tryz.func124, Tryz.ntmps124
    go_wp2_with (first
      | (go_at_call 133; with_reducible refine (H97.out _).mono ?_; rintro e w' ⟨rfl, rfl⟩)
      | (go_at_call 133; with_reducible refine (H48.out _).mono ?_; rintro e w' ⟨rfl, rfl⟩)
      | (go_at_call 133; with_reducible refine (H65.out _).mono ?_; rintro e w' ⟨rfl, rfl⟩)
      | (go_at_call 133; with_reducible refine (H768.out _).mono ?_; rintro e w' ⟨rfl, rfl⟩)
      | (go_at_call 133; with_reducible refine (H65056.out _).mono ?_; rintro e w' ⟨rfl, rfl⟩)
      | (go_at_call 133; with_reducible refine (H945.out _).mono ?_; rintro e w' ⟨rfl, rfl⟩)
      | (go_at_call 133; with_reducible refine (H1072.out _).mono ?_; rintro e w' ⟨rfl, rfl⟩)
      | (go_at_call 133; with_reducible refine (H913.out _).mono ?_; rintro e w' ⟨rfl, rfl⟩)
      | (go_at_call 133; with_reducible refine (H1040.out _).mono ?_; rintro e w' ⟨rfl, rfl⟩))
    go_ret
    exact ⟨by rw [HR.out]; rfl, rfl⟩
  have g4 : decide (c < 128) = false := decide_eq_false h4
  rw [if_neg h4] at hr
  by_cases h5 : 768 ≤ c ∧ c ≤ 879
  · have g5 := btw_t h5
    rw [if_pos (.inl h5)] at hr
    have HR := Lib.hid hr
    clear hr
    clear h1 h2 h3 h5
    go_enter Tryz.func124, Tryz.ntmps124
    go_wp2_with (first
      | (go_at_call 133; with_reducible refine (H97.out _).mono ?_; rintro e w' ⟨rfl, rfl⟩)
      | (go_at_call 133; with_reducible refine (H48.out _).mono ?_; rintro e w' ⟨rfl, rfl⟩)
      | (go_at_call 133; with_reducible refine (H65.out _).mono ?_; rintro e w' ⟨rfl, rfl⟩)
      | (go_at_call 133; with_reducible refine (H768.out _).mono ?_; rintro e w' ⟨rfl, rfl⟩)
      | (go_at_call 133; with_reducible refine (H65056.out _).mono ?_; rintro e w' ⟨rfl, rfl⟩)
      | (go_at_call 133; with_reducible refine (H945.out _).mono ?_; rintro e w' ⟨rfl, rfl⟩)
      | (go_at_call 133; with_reducible refine (H1072.out _).mono ?_; rintro e w' ⟨rfl, rfl⟩)
      | (go_at_call 133; with_reducible refine (H913.out _).mono ?_; rintro e w' ⟨rfl, rfl⟩)
      | (go_at_call 133; with_reducible refine (H1040.out _).mono ?_; rintro e w' ⟨rfl, rfl⟩))
    go_ret
    exact ⟨by rw [HR.out]; rfl, rfl⟩
  have g5 := btw_f h5
  by_cases h6 : 65056 ≤ c ∧ c ≤ 65071
  · have g6 := btw_t h6
    rw [if_pos (.inr h6)] at hr
    have HR := Lib.hid hr
    clear hr
    clear h1 h2 h3 h5 h6
    go_enter Tryz.func124, Tryz.ntmps124
    go_wp2_with (first
      | (go_at_call 133; with_reducible refine (H97.out _).mono ?_; rintro e w' ⟨rfl, rfl⟩)
      | (go_at_call 133; with_reducible refine (H48.out _).mono ?_; rintro e w' ⟨rfl, rfl⟩)
      | (go_at_call 133; with_reducible refine (H65.out _).mono ?_; rintro e w' ⟨rfl, rfl⟩)
      | (go_at_call 133; with_reducible refine (H768.out _).mono ?_; rintro e w' ⟨rfl, rfl⟩)
      | (go_at_call 133; with_reducible refine (H65056.out _).mono ?_; rintro e w' ⟨rfl, rfl⟩)
      | (go_at_call 133; with_reducible refine (H945.out _).mono ?_; rintro e w' ⟨rfl, rfl⟩)
      | (go_at_call 133; with_reducible refine (H1072.out _).mono ?_; rintro e w' ⟨rfl, rfl⟩)
      | (go_at_call 133; with_reducible refine (H913.out _).mono ?_; rintro e w' ⟨rfl, rfl⟩)
      | (go_at_call 133; with_reducible refine (H1040.out _).mono ?_; rintro e w' ⟨rfl, rfl⟩))
    go_ret
    exact ⟨by rw [HR.out]; rfl, rfl⟩
  have g6 := btw_f h6
  rw [if_neg (fun h => h.elim h5 h6)] at hr
  have hlk := HLK.out
  have hlv := HLV.out
  cases htc : tabC c with
  | some t =>
    rw [htc] at hr hlk hlv
    have e1 : lv = .string (ofL t) := RS_inv hlv
    subst e1
    have HR := Lib.hid hr
    clear hr hlv h1 h2 h3 h5 h6 htc
    go_enter Tryz.func124, Tryz.ntmps124
    go_wp2_with (first
      | (go_at_call 133; with_reducible refine (H97.out _).mono ?_; rintro e w' ⟨rfl, rfl⟩)
      | (go_at_call 133; with_reducible refine (H48.out _).mono ?_; rintro e w' ⟨rfl, rfl⟩)
      | (go_at_call 133; with_reducible refine (H65.out _).mono ?_; rintro e w' ⟨rfl, rfl⟩)
      | (go_at_call 133; with_reducible refine (H768.out _).mono ?_; rintro e w' ⟨rfl, rfl⟩)
      | (go_at_call 133; with_reducible refine (H65056.out _).mono ?_; rintro e w' ⟨rfl, rfl⟩)
      | (go_at_call 133; with_reducible refine (H945.out _).mono ?_; rintro e w' ⟨rfl, rfl⟩)
      | (go_at_call 133; with_reducible refine (H1072.out _).mono ?_; rintro e w' ⟨rfl, rfl⟩)
      | (go_at_call 133; with_reducible refine (H913.out _).mono ?_; rintro e w' ⟨rfl, rfl⟩)
      | (go_at_call 133; with_reducible refine (H1040.out _).mono ?_; rintro e w' ⟨rfl, rfl⟩))
    go_ret
    exact ⟨by rw [HR.out]; rfl, rfl⟩
  | none =>
    rw [htc] at hr hlk hlv
    have e1 : lv = .string (ofL []) := RS_inv hlv
    subst e1
    dsimp only at hr
    clear hlv htc h1 h2 h3 h5 h6
    by_cases h7 : c = 962
    · have g7 : (c == 962) = true := by simpa using h7
      have g7' : ((c : Int) == 962) = true := by simp; omega
      rw [if_pos h7] at hr
      have HR := Lib.hid hr
      clear hr h7
      go_enter Tryz.func124, Tryz.ntmps124
      go_wp2_with (first
        | (go_at_call 133; with_reducible refine (H97.out _).mono ?_; rintro e w' ⟨rfl, rfl⟩)
        | (go_at_call 133; with_reducible refine (H48.out _).mono ?_; rintro e w' ⟨rfl, rfl⟩)
        | (go_at_call 133; with_reducible refine (H65.out _).mono ?_; rintro e w' ⟨rfl, rfl⟩)
        | (go_at_call 133; with_reducible refine (H768.out _).mono ?_; rintro e w' ⟨rfl, rfl⟩)
        | (go_at_call 133; with_reducible refine (H65056.out _).mono ?_; rintro e w' ⟨rfl, rfl⟩)
        | (go_at_call 133; with_reducible refine (H945.out _).mono ?_; rintro e w' ⟨rfl, rfl⟩)
        | (go_at_call 133; with_reducible refine (H1072.out _).mono ?_; rintro e w' ⟨rfl, rfl⟩)
        | (go_at_call 133; with_reducible refine (H913.out _).mono ?_; rintro e w' ⟨rfl, rfl⟩)
        | (go_at_call 133; with_reducible refine (H1040.out _).mono ?_; rintro e w' ⟨rfl, rfl⟩))
      go_ret
      exact ⟨by rw [HR.out]; rfl, rfl⟩
    have g7 : (c == 962) = false := by simpa using h7
    have g7' : ((c : Int) == 962) = false := by simp; omega
    rw [if_neg h7] at hr
    by_cases h8 : 945 ≤ c ∧ c ≤ 969
    · have g8 := btw_t h8
      rw [if_pos (.inl h8)] at hr
      have HB : RowKit.Hid (c < 2000) := Lib.hid (by omega)
      have HR := Lib.hid hr
      clear hr
      clear h8 h7
      go_enter Tryz.func124, Tryz.ntmps124
      go_wp2_with (first
        | (go_at_call 133; with_reducible refine (H97.out _).mono ?_; rintro e w' ⟨rfl, rfl⟩)
        | (go_at_call 133; with_reducible refine (H48.out _).mono ?_; rintro e w' ⟨rfl, rfl⟩)
        | (go_at_call 133; with_reducible refine (H65.out _).mono ?_; rintro e w' ⟨rfl, rfl⟩)
        | (go_at_call 133; with_reducible refine (H768.out _).mono ?_; rintro e w' ⟨rfl, rfl⟩)
        | (go_at_call 133; with_reducible refine (H65056.out _).mono ?_; rintro e w' ⟨rfl, rfl⟩)
        | (go_at_call 133; with_reducible refine (H945.out _).mono ?_; rintro e w' ⟨rfl, rfl⟩)
        | (go_at_call 133; with_reducible refine (H1072.out _).mono ?_; rintro e w' ⟨rfl, rfl⟩)
        | (go_at_call 133; with_reducible refine (H913.out _).mono ?_; rintro e w' ⟨rfl, rfl⟩)
        | (go_at_call 133; with_reducible refine (H1040.out _).mono ?_; rintro e w' ⟨rfl, rfl⟩))
      go_ret
      exact ⟨by rw [HR.out, HE.out _ (by have := HB.out; omega)]; rfl, rfl⟩
    have g8 := btw_f h8
    by_cases h9 : 1072 ≤ c ∧ c ≤ 1103
    · have g9 := btw_t h9
      rw [if_pos (.inr h9)] at hr
      have HB : RowKit.Hid (c < 2000) := Lib.hid (by omega)
      have HR := Lib.hid hr
      clear hr
      clear h8 h9 h7
      go_enter Tryz.func124, Tryz.ntmps124
      go_wp2_with (first
        | (go_at_call 133; with_reducible refine (H97.out _).mono ?_; rintro e w' ⟨rfl, rfl⟩)
        | (go_at_call 133; with_reducible refine (H48.out _).mono ?_; rintro e w' ⟨rfl, rfl⟩)
        | (go_at_call 133; with_reducible refine (H65.out _).mono ?_; rintro e w' ⟨rfl, rfl⟩)
        | (go_at_call 133; with_reducible refine (H768.out _).mono ?_; rintro e w' ⟨rfl, rfl⟩)
        | (go_at_call 133; with_reducible refine (H65056.out _).mono ?_; rintro e w' ⟨rfl, rfl⟩)
        | (go_at_call 133; with_reducible refine (H945.out _).mono ?_; rintro e w' ⟨rfl, rfl⟩)
        | (go_at_call 133; with_reducible refine (H1072.out _).mono ?_; rintro e w' ⟨rfl, rfl⟩)
        | (go_at_call 133; with_reducible refine (H913.out _).mono ?_; rintro e w' ⟨rfl, rfl⟩)
        | (go_at_call 133; with_reducible refine (H1040.out _).mono ?_; rintro e w' ⟨rfl, rfl⟩))
      go_ret
      exact ⟨by rw [HR.out, HE.out _ (by have := HB.out; omega)]; rfl, rfl⟩
    have g9 := btw_f h9
    rw [if_neg (fun h => h.elim h8 h9)] at hr
    clear h8 h9
    by_cases h10 : 913 ≤ c ∧ c ≤ 937
    · have g10 := btw_t h10
      by_cases h11 : c = 930
      · have g11 : (c != 930) = false := by simpa using h11
        have g11' : ((c : Int) != 930) = false := by simp; omega
        rw [if_neg (fun h => by omega)] at hr
        have HR := Lib.hid hr
        have g12 : btw 1040 1071 c = false := btw_f (by omega)
        clear hr h10 h7 h11
        go_enter Tryz.func124, Tryz.ntmps124
        go_wp2_with (first
          | (go_at_call 133; with_reducible refine (H97.out _).mono ?_; rintro e w' ⟨rfl, rfl⟩)
          | (go_at_call 133; with_reducible refine (H48.out _).mono ?_; rintro e w' ⟨rfl, rfl⟩)
          | (go_at_call 133; with_reducible refine (H65.out _).mono ?_; rintro e w' ⟨rfl, rfl⟩)
          | (go_at_call 133; with_reducible refine (H768.out _).mono ?_; rintro e w' ⟨rfl, rfl⟩)
          | (go_at_call 133; with_reducible refine (H65056.out _).mono ?_; rintro e w' ⟨rfl, rfl⟩)
          | (go_at_call 133; with_reducible refine (H945.out _).mono ?_; rintro e w' ⟨rfl, rfl⟩)
          | (go_at_call 133; with_reducible refine (H1072.out _).mono ?_; rintro e w' ⟨rfl, rfl⟩)
          | (go_at_call 133; with_reducible refine (H913.out _).mono ?_; rintro e w' ⟨rfl, rfl⟩)
          | (go_at_call 133; with_reducible refine (H1040.out _).mono ?_; rintro e w' ⟨rfl, rfl⟩))
        go_ret
        exact ⟨by rw [HR.out]; rfl, rfl⟩
      · have g11 : (c != 930) = true := by simpa using h11
        have g11' : ((c : Int) != 930) = true := by simp; omega
        rw [if_pos (.inl ⟨h10, h11⟩)] at hr
        have HB : RowKit.Hid (c < 2000) := Lib.hid (by omega)
        have HR := Lib.hid hr
        clear hr
        have hw := HW.out (by have := HB.out; omega)
        clear h10 h11 h7
        go_enter Tryz.func124, Tryz.ntmps124
        go_wp2_with (first
          | (go_at_call 133; with_reducible refine (H97.out _).mono ?_; rintro e w' ⟨rfl, rfl⟩)
          | (go_at_call 133; with_reducible refine (H48.out _).mono ?_; rintro e w' ⟨rfl, rfl⟩)
          | (go_at_call 133; with_reducible refine (H65.out _).mono ?_; rintro e w' ⟨rfl, rfl⟩)
          | (go_at_call 133; with_reducible refine (H768.out _).mono ?_; rintro e w' ⟨rfl, rfl⟩)
          | (go_at_call 133; with_reducible refine (H65056.out _).mono ?_; rintro e w' ⟨rfl, rfl⟩)
          | (go_at_call 133; with_reducible refine (H945.out _).mono ?_; rintro e w' ⟨rfl, rfl⟩)
          | (go_at_call 133; with_reducible refine (H1072.out _).mono ?_; rintro e w' ⟨rfl, rfl⟩)
          | (go_at_call 133; with_reducible refine (H913.out _).mono ?_; rintro e w' ⟨rfl, rfl⟩)
          | (go_at_call 133; with_reducible refine (H1040.out _).mono ?_; rintro e w' ⟨rfl, rfl⟩))
        go_ret
        exact ⟨by rw [HR.out, HE2.out HB.out]; rfl, rfl⟩
    have g10 := btw_f h10
    by_cases h12 : 1040 ≤ c ∧ c ≤ 1071
    · have g12 := btw_t h12
      rw [if_pos (.inr h12)] at hr
      have HB : RowKit.Hid (c < 2000) := Lib.hid (by omega)
      have HR := Lib.hid hr
      clear hr
      have hw := HW.out (by have := HB.out; omega)
      clear h10 h12 h7
      go_enter Tryz.func124, Tryz.ntmps124
      go_wp2_with (first
        | (go_at_call 133; with_reducible refine (H97.out _).mono ?_; rintro e w' ⟨rfl, rfl⟩)
        | (go_at_call 133; with_reducible refine (H48.out _).mono ?_; rintro e w' ⟨rfl, rfl⟩)
        | (go_at_call 133; with_reducible refine (H65.out _).mono ?_; rintro e w' ⟨rfl, rfl⟩)
        | (go_at_call 133; with_reducible refine (H768.out _).mono ?_; rintro e w' ⟨rfl, rfl⟩)
        | (go_at_call 133; with_reducible refine (H65056.out _).mono ?_; rintro e w' ⟨rfl, rfl⟩)
        | (go_at_call 133; with_reducible refine (H945.out _).mono ?_; rintro e w' ⟨rfl, rfl⟩)
        | (go_at_call 133; with_reducible refine (H1072.out _).mono ?_; rintro e w' ⟨rfl, rfl⟩)
        | (go_at_call 133; with_reducible refine (H913.out _).mono ?_; rintro e w' ⟨rfl, rfl⟩)
        | (go_at_call 133; with_reducible refine (H1040.out _).mono ?_; rintro e w' ⟨rfl, rfl⟩))
      go_ret
      exact ⟨by rw [HR.out, HE2.out HB.out]; rfl, rfl⟩
    have g12 := btw_f h12
    rw [if_neg (fun h => h.elim (fun h => h10 h.1) h12)] at hr
    have HR := Lib.hid hr
    clear hr h10 h12 h7
    go_enter Tryz.func124, Tryz.ntmps124
    go_wp2_with (first
      | (go_at_call 133; with_reducible refine (H97.out _).mono ?_; rintro e w' ⟨rfl, rfl⟩)
      | (go_at_call 133; with_reducible refine (H48.out _).mono ?_; rintro e w' ⟨rfl, rfl⟩)
      | (go_at_call 133; with_reducible refine (H65.out _).mono ?_; rintro e w' ⟨rfl, rfl⟩)
      | (go_at_call 133; with_reducible refine (H768.out _).mono ?_; rintro e w' ⟨rfl, rfl⟩)
      | (go_at_call 133; with_reducible refine (H65056.out _).mono ?_; rintro e w' ⟨rfl, rfl⟩)
      | (go_at_call 133; with_reducible refine (H945.out _).mono ?_; rintro e w' ⟨rfl, rfl⟩)
      | (go_at_call 133; with_reducible refine (H1072.out _).mono ?_; rintro e w' ⟨rfl, rfl⟩)
      | (go_at_call 133; with_reducible refine (H913.out _).mono ?_; rintro e w' ⟨rfl, rfl⟩)
      | (go_at_call 133; with_reducible refine (H1040.out _).mono ?_; rintro e w' ⟨rfl, rfl⟩))
    go_ret
    exact ⟨by rw [HR.out]; rfl, rfl⟩
end Go.Proofs.YtpdldbapagchfaaGreatDoor

/- The words of a text: the iterator and what it keeps. -/
namespace Go.Proofs.YtpdldbapagchfaaGreatDoor
open Go.RowKit Go.Shelf Go.Maps

/-- A builder is one still where its block and the rows of bytes are as they were. -/
theorem IsB.kept {B b : Nat} {l : List UInt8} {A A' : World} (h : IsB B b l A) (hk : ∀ k o, A.heap[k]? = some o → (k = b ∨ (B ≤ k ∧ ∃ c fz, o = .cells c 5 fz)) → A'.heap[k]? = some o) : IsB B b l A' := by
  have key : ∀ p, Lib.BuilderAtF 140 5 B b p (Lib.byteCells l) A → Lib.BuilderAtF 140 5 B b p (Lib.byteCells l) A' := by
    rintro p ⟨hB, v, hb, ⟨h0, hr⟩, hne⟩
    refine ⟨hB, v, hk b _ hb (.inl rfl), ⟨h0, ?_⟩, hne⟩
    rcases hr with hn | ⟨g, cap, cur, fz, hv, hbg, hg, rest⟩
    · exact .inl hn
    · exact .inr ⟨g, cap, cur, fz, hv, hbg, hk g _ hg (.inr ⟨hbg, _, _, rfl⟩), rest⟩
  exact h.elim (fun x => .inl (key _ x)) (fun x => .inr (key _ x))
theorem MapF.kept {A A' : World} {P : Program} {k : TypeId} {R : Value → Option (DataW Unit × List MemPlace)} {b n : Nat} {f : Lit → Option (DataW Unit)} (h : MapF A P k R b n f) (hk : ∀ o, A.heap[b]? = some o → A'.heap[b]? = some o) : MapF A' P k R b n f := by
  obtain ⟨D, ⟨es, clock, hb, F', hs, hD⟩, h2⟩ := h
  exact ⟨D, ⟨es, clock, hk _ hb, F', hs, hD⟩, h2⟩
theorem MapF.isMap {A : World} {P : Program} {k : TypeId} {R : Value → Option (DataW Unit × List MemPlace)} {b n : Nat} {f : Lit → Option (DataW Unit)} (h : MapF A P k R b n f) : ∃ es clock, A.heap[b]? = some (.map es clock) := by
  obtain ⟨D, ⟨es, clock, hb, _⟩, _⟩ := h; exact ⟨es, clock, hb⟩
theorem IsB.blk {B b : Nat} {l : List UInt8} {A : World} (h : IsB B b l A) : B ≤ b ∧ ∃ p v, A.heap[b]? = some (.cells #[p, v] 140 (0, 0)) := by
  rcases h with ⟨h1, v, h2, _⟩ | ⟨h1, v, h2, _⟩
  · exact ⟨h1, _, v, h2⟩
  · exact ⟨h1, _, v, h2⟩
/-- Reset. -/
theorem reset_any (B b : Nat) (l : List UInt8) (w : World) (h : IsB B b l w) : Calls Tryz.prog 126 #[.pointer (some ⟨b, 0, none⟩)] w fun e w' => e = .returned (.tuple #[]) ∧ IsB B b [] w' ∧ Below B w w' ∧ Lib.OthersKept 5 (some b) w w' := by
  obtain ⟨p, hp⟩ : ∃ p, Lib.BuilderAtF 140 5 B b p (Lib.byteCells l) w := h.elim (fun x => ⟨_, x⟩) (fun x => ⟨_, x⟩)
  obtain ⟨hB, v, hb, -, -⟩ := hp
  have K0 : Blk w b #[p, v] 140 := hb
  have c0 : w.cell? ⟨b, 0, none⟩ = some p := K0.cell 0
  have c1 : w.cell? ⟨b, 1, none⟩ = some v := K0.cell 1
  have f0 := K0.frozen 0
  have f1 := K0.frozen 1
  have K2 := Lib.hid ((K0.set 0 (.pointer none)).set 1 (.slice none 0 0))
  have d1 : (w.setCell ⟨b, 0, none⟩ (.pointer none)).cell? ⟨b, 1, none⟩ = some v := (K0.set 0 (.pointer none)).cell 1
  have g1 := (K0.set 0 (.pointer none)).frozen 1
  clear h hb K0
  go_enter Tryz.func126, Tryz.ntmps126
  go_wp2_with fail
  go_end0
  refine ⟨rfl, .inl ⟨hB, .slice none 0 0, K2.out, World.ownsRowF_of (World.ownsRow_nil _ _ _ _), by simp [Value.ownBlock]⟩, ?_, ?_⟩
  · exact ((Below.refl B w).setCell (p := ⟨b, 0, none⟩) hB _).setCell (p := ⟨b, 1, none⟩) hB _
  · exact ((Lib.OthersKept.refl 5 (some b) w).setCell ⟨b, 0, none⟩ rfl _).setCell ⟨b, 1, none⟩ rfl _
/-! ### An iterator that keeps cells of its own: its rounds write a row of texts in their own block Bs; it writes what is neither. -/
/-- What the rounds know stands through all that the iterator does. -/
def AbK {β : Type} (B Bs : Nat) (J : β → World → Prop) : Prop :=
  ∀ s A A', J s A → Below B A A' → (∀ k o, A.heap[k]? = some o → (k = Bs ∨ ∃ c fz, o = .cells c 9 fz) → A'.heap[k]? = some o) → J s A'
/-- .. and what the iterator knows stands through a round. -/
structure KeepR (Bs : Nat) (A A' : World) : Prop where
  size : A.heap.size ≤ A'.heap.size
  same : Lib.OthersKept 9 (some Bs) A A'
def SeqK {α : Type} (F : Fence) (n : Nat) (P : Program) (g : Nat) (lb : Array Value) (enc : α → Value) (Bs : Nat) (S : List α → Prop) (N : Nat) (w : World) : Prop :=
  ∀ (l : Nat) (J : List α → World → Prop) (W : World), Below w.heap.size w W → Bs < W.heap.size → AbK W.heap.size Bs J →
    (∀ pre x W1, J pre W1 → pre.length < N → YieldAt F (n - 1) P l #[enc x] W1 fun e W' => e = .returned (.bool true) ∧ J (pre ++ [x]) W' ∧ KeepR Bs W1 W') →
    J [] W →
    CallsIn F n P g (#[.func (.yield l) #[] #[]] ++ lb) W fun e W' => (∃ v, e = .returned v) ∧ ∃ xs, S xs ∧ J xs W'
/-- What a builder's writer does, for the rounds' knowledge. -/
theorem AbK.wrote {β : Type} {B Bs b : Nat} {J : β → World → Prop} (hJ : AbK B Bs J) (hBs : Bs < B) {s : β} {A A' : World} {l : List UInt8} (h : J s A) (hi : IsB B b l A) (hz : B ≤ A.heap.size) (hb : Below B A A') (hk : Lib.OthersKept 5 (some b) A A') : J s A' := by
  refine hJ s A A' h hb fun k o hko hor => ?_
  rcases hor with rfl | ⟨c, fz, rfl⟩
  · exact (hb.block k hBs).trans hko
  · refine hk k _ hko (fun e => ?_) (fun c' fz' e => by injection e with _ e; cases e)
    obtain ⟨_, p, v, h2⟩ := hi.blk
    injection e with e
    rw [← e, hko] at h2
    injection h2 with h2; injection h2 with _ h2; cases h2
theorem AbK.below {β : Type} {B Bs : Nat} {J : β → World → Prop} (hJ : AbK B Bs J) {s : β} {A A' : World} (h : J s A) (hz : B ≤ A.heap.size) (hb : Below A.heap.size A A') : J s A' :=
  hJ s A A' h (hb.mono hz) fun k o hko _ => (hb.block k (heap_lt hko)).trans hko
/-- .. and what a round does, for the builder and the table. -/
theorem KeepR.isB {B Bs b : Nat} {l : List UInt8} {A A' : World} (hk : KeepR Bs A A') (hBs : Bs < B) (hi : IsB B b l A) : IsB B b l A' := by
  have hb := hi.blk
  refine hi.kept fun k o hko hor => hk.same k o hko (fun e => ?_) (fun c fz e => ?_)
  · injection e with e
    rcases hor with rfl | ⟨h, _⟩
    · omega
    · omega
  · rcases hor with rfl | ⟨_, c', fz', h⟩
    · obtain ⟨_, p, v, h2⟩ := hb
      rw [hko] at h2; rw [e] at h2
      injection h2 with h2; injection h2 with _ h2; cases h2
    · rw [e] at h; injection h with _ h; cases h
theorem KeepR.map {Bs mb nn : Nat} {f : Lit → Option (DataW Unit)} {P : Program} {kt : TypeId} {R : Value → Option (DataW Unit × List MemPlace)} {A A' : World} (hk : KeepR Bs A A') (hne : mb ≠ Bs) (h : MapF A P kt R mb nn f) : MapF A' P kt R mb nn f := by
  obtain ⟨es, clock, he⟩ := h.isMap
  refine h.kept fun o ho => hk.same mb o ho (fun e => hne (by injection e)) (fun c fz e => ?_)
  rw [he] at ho; injection ho with ho; rw [← ho] at e; cases e
theorem KeepR.iter {Bs k : Nat} {s : ByteArray} {pos : Nat} {A A' : World} (hk : KeepR Bs A A') (hne : k ≠ Bs) (h : A.heap[k]? = some (.stringIter s pos)) : A'.heap[k]? = some (.stringIter s pos) :=
  hk.same k _ h (fun e => hne (by injection e)) (fun _ _ e => by cases e)
theorem othersK_map {b mb nn : Nat} {f : Lit → Option (DataW Unit)} {P : Program} {kt : TypeId} {R : Value → Option (DataW Unit × List MemPlace)} {A A' : World} (hk : Lib.OthersKept 5 (some b) A A') (hne : mb ≠ b) (h : MapF A P kt R mb nn f) : MapF A' P kt R mb nn f := by
  obtain ⟨es, clock, he⟩ := h.isMap
  refine h.kept fun o ho => hk mb o ho (fun e => hne (by injection e)) (fun c fz e => ?_)
  rw [he] at ho; injection ho with ho; rw [← ho] at e; cases e
/-- What the words are, as texts. -/
def wordsC (s : ByteArray) : List (List UInt8) := wordsP (charP tabC) (runes s) []
theorem tabLast_mem : ∀ (rows : List (List UInt8 × List Nat)) (c : Nat) (t : List UInt8), tabLast rows c = some t → ∃ r ∈ rows, r.1 = t
  | [], c, t, h => by cases h
  | (s, l) :: rows, c, t, h => by
    unfold tabLast at h
    cases hr : tabLast rows c with
    | some u =>
      rw [hr] at h
      obtain ⟨r, h1, h2⟩ := tabLast_mem rows c u hr
      injection h with h
      exact ⟨r, by simp [h1], by rw [h2, h]⟩
    | none =>
      rw [hr] at h
      dsimp only at h
      split at h
      · injection h with h; exact ⟨(s, l), by simp, h⟩
      · cases h
theorem tabC_small (c : Nat) (t : List UInt8) (h : tabC c = some t) : t.length ≤ 10 := by
  obtain ⟨r, h1, h2⟩ := tabLast_mem _ c t h
  have : ∀ r ∈ rowsL.map rowP, r.1.length ≤ 10 := by decide +kernel
  rw [← h2]; exact this r h1
theorem charC_small (c : Nat) : (charP tabC c).length ≤ 10 := by
  have he : ∀ d, (enc8 d).length ≤ 3 := fun d => by unfold enc8; split <;> (try split) <;> simp
  unfold charP
  split
  · have := he c; omega
  split
  · have := he (c + 32); omega
  split
  · decide
  split
  · decide
  split
  · next h => exact tabC_small c _ h
  split
  · have := he 0x3c3; omega
  split
  · have := he c; omega
  split
  · have := he (c + 32); omega
  · decide
end Go.Proofs.YtpdldbapagchfaaGreatDoor
