/- The library of the law: what has been sent; all copies that have arrived are returned. -/
import Derived.Test.YtdojgbpaheadnaaGreatQSW
import Derived.Test.YtdojgbpaheadnaaGreatQRS
set_option linter.unusedVariables false
set_option linter.unusedSimpArgs false

namespace Go.Proofs.YtdojgbpaheadnaaGreat
open Go.RowKit Go.Shelf Go.Maps Go.ChangeMaps
attribute [local go_sem] over_cell over_frozen

def Pr (S : List Tr) (s s' : Lb) (sent : Nat) (P : List Pc) (sent' : Nat) (P' : List Pc) : Prop := ∃ ms, s'.W = s.W ++ ms ∧ sent' = sent + ms.length ∧ SentL 5 S sent ms P P'
theorem Pr.refl (S : List Tr) (s : Lb) (sent : Nat) (P : List Pc) : Pr S s s sent P sent P := ⟨[], by simp, rfl, rfl⟩
theorem Pr.trans {S : List Tr} {s s1 s2 : Lb} {sent n1 n2 : Nat} {P P1 P2 : List Pc} (h : Pr S s s1 sent P n1 P1) (h' : Pr S s1 s2 n1 P1 n2 P2) : Pr S s s2 sent P n2 P2 := by
 obtain ⟨ms, h1, rfl, h3⟩ := h
 obtain ⟨ms', h4, rfl, h6⟩ := h'
 exact ⟨ms ++ ms', by rw [h4, h1, List.append_assoc], by rw [List.length_append, Nat.add_assoc], h3.app h6⟩
theorem Pr.len {S : List Tr} {s s' : Lb} {sent n : Nat} {P P' : List Pc} (h : Pr S s s' sent P n P') : sent ≤ n ∧ P'.length ≤ P.length + 8 * (n - sent) := by
 obtain ⟨ms, -, rfl, h3⟩ := h
 have := h3.len
 omega
theorem Pr.mem {S : List Tr} {s s' : Lb} {sent n : Nat} {P P' : List Pc} (h : Pr S s s' sent P n P') (hp : ∀ p ∈ P, p.m ∈ s.W) : ∀ p ∈ P', p.m ∈ s'.W := fun p hp' => by
 obtain ⟨ms, h1, -, h3⟩ := h
 rw [h1, List.mem_append]
 exact (h3.mem p hp').imp (hp p) id
theorem ret_len (x : Asr) (n : Int) : (x.ret n).1.2.length ≤ 1 := by
 rcases ret_out x n with ⟨e, -⟩ | ⟨q, -, -, e⟩
 ·rw [e]; simp
 ·rw [e]; exact tellA_len _ _ _
theorem ask_len (x : Asr) (n t : Int) : (x.ask n t).1.2.length ≤ 1 := by
 rcases ask_out x n t with e | ⟨-, e⟩
 ·rw [e]; simp
 ·rw [e]; exact tellA_len _ _ _
def Lb.retN (a : Int) : Nat → Lb → Lb
 | 0, s => s
 | n + 1, s => (Lb.retN a n s).ret a (n + 1)
def Lb.finK : Nat → Lb → Lb
 | 0, s => s
 | k + 1, s => Lb.retN (k + 1) 6 (Lb.finK k s)
def Lb.fin (s : Lb) : Lb := Lb.finK 2 s
theorem KS.retN {init : Int → List Int} {a : Int} (ha : IsA a) : ∀ (n : Nat) {s : Lb}, KS init s → KS init (Lb.retN a n s)
 | 0, _, h => h
 | n + 1, _, h => (KS.retN ha n h).ret ha _
theorem KS.fin {init : Int → List Int} {s : Lb} (h : KS init s) : KS init s.fin := KS.retN (a := 2) (.inr rfl) 6 (KS.retN (a := 1) (.inl rfl) 6 h)
end Go.Proofs.YtdojgbpaheadnaaGreat

/- The library of the law: asks, plainly. -/
namespace Go.Proofs.YtdojgbpaheadnaaGreat
open Go.RowKit Go.Shelf Go.Maps Go.ChangeMaps
attribute [local go_sem] over_cell over_frozen

theorem U8.tn {F : Nat → Prop} {w w' : World} {a : Option Addr} {L : List Int} {cap : Nat} (h : U8 w a L cap) (t : Tn F w w') (hF : L ≠ [] → ∀ b o, a = some ⟨b, o, none⟩ → ¬ F b) : U8 w' a L cap := by
 refine ⟨?_, h.bd, h.len⟩
 rcases h.at_ with h1 | ⟨b, o, h1, h2, h3⟩
 ·exact .inl h1
 ·exact .inr ⟨b, o, h1, Nat.lt_of_lt_of_le h2 t.size, fun k hk => t.cell (h3 k hk) (hF (fun e => by rw [e] at hk; cases hk) b o h1)⟩
theorem U8.get {w : World} {a : Option Addr} {L : List Int} {cap : Nat} (h : U8 w a L cap) {k : Nat} (hk : k < L.length) : ∃ b o, a = some ⟨b, o, none⟩ ∧ w.cell? ⟨b, o + k, none⟩ = some (.int .u8 (L.getD k 0)) ∧ 0 ≤ L.getD k 0 ∧ L.getD k 0 < 256 := by
 rcases h.at_ with h1 | ⟨b, o, h1, h2, h3⟩
 ·subst h1; cases hk
 ·exact ⟨b, o, h1, h3 k hk, h.bd k hk⟩
theorem wrap_small {x : Int} (h1 : -1000000 ≤ x) (h2 : x ≤ 1000000) : IntKind.i64.wrap x = x := by rw [IntKind.wrap_i64]; omega
def Lb.askN (l : List Int) : Nat → Lb → Lb
 | 0, s => s
 | n + 1, s => (Lb.askN l n s).ask (if n % 2 = 0 then 1 else 2) (1 + (n / 2 : Nat)) (1 + l.getD n 0 % 4)
theorem KS.askN {init : Int → List Int} (l : List Int) : ∀ (n : Nat) {s : Lb}, n ≤ 7 → KS init s → KS init (Lb.askN l n s)
 | 0, _, _, h => h
 | n + 1, _, hn, h => (KS.askN l n (by omega) h).ask (by unfold IsA; split <;> simp) (by omega) (by omega)
end Go.Proofs.YtdojgbpaheadnaaGreat

/- The library of the law: whether there are all machines. -/
namespace Go.Proofs.YtdojgbpaheadnaaGreat
open Go.RowKit Go.Shelf Go.Maps Go.ChangeMaps
attribute [local go_sem] over_cell over_frozen

set_option maxRecDepth 100000 in
set_option maxHeartbeats 8000000 in
theorem right_any {g : Lg} {Z : Nat → Nat → Prop} {w : World} {N : Nat} {S : List Tr} {P : List Pc} {sent : Nat} {s : Lb} (h : LibM g Z w N S P sent s) :
  Calls Tryz.prog 35 #[.pointer (some ⟨g.xb, 0, none⟩)] w fun e w' => e = .returned (.bool true) ∧ w' = w := by
 have C := h.cells
 have x0 := C.x0
 have x1 := C.x1
 have x2 := C.x2
 have x3 := C.x3
 have a0 := C.a0
 have a1 := C.a1
 have l0 := C.l0
 have l1 := C.l1
 have l2 := C.l2
 clear C
 go_enter Tryz.func35, Tryz.ntmps35
 go_wp2_with fail
 go_loopw [3] (fun i wr => wr = w ∧ ∃ k : Nat, k ≤ 3 ∧ i = .int .i64 k) (fun i _ => 4 - (intOf i).toNat)
 case atStart => exact ⟨rfl, 0, by omega, rfl⟩
 case round =>
  obtain ⟨rfl, k, hk, rfl⟩ := hrel
  have h4 : k = 0 ∨ k = 1 ∨ k = 2 ∨ k = 3 := by omega
  rcases h4 with rfl | rfl | rfl | rfl
  ·rw [show ((0 : Nat) : Int) = 0 from rfl]
   go_wp2_with fail
   go_roundw
   case rel => exact ⟨by first | trivial | rfl, 1, by omega, by first | trivial | rfl⟩
   case measure => simp [intOf]
  ·rw [show ((1 : Nat) : Int) = 1 from rfl]
   go_wp2_with fail
   go_roundw
   case rel => exact ⟨by first | trivial | rfl, 2, by omega, by first | trivial | rfl⟩
   case measure => simp [intOf]
  ·rw [show ((2 : Nat) : Int) = 2 from rfl]
   go_wp2_with fail
   go_roundw
   case rel => exact ⟨by first | trivial | rfl, 3, by omega, by first | trivial | rfl⟩
   case measure => simp [intOf]
  ·rw [show ((3 : Nat) : Int) = 3 from rfl]
   go_wp2_with fail
   go_ret
   exact ⟨rfl, rfl⟩
end Go.Proofs.YtdojgbpaheadnaaGreat

/- Rows of numbers that can be read. -/
namespace Go.Proofs.YtdojgbpaheadnaaGreat
open Go.RowKit Go.Shelf Go.Maps Go.ChangeMaps

def RowC (w : World) (B : Nat) (a : Option Addr) (L : List Int) : Prop := L = [] ∨ ∃ b, a = some ⟨b, 0, none⟩ ∧ B ≤ b ∧ b < w.heap.size ∧ ∀ j, j < L.length → w.cell? ⟨b, j, none⟩ = some (i64 (L.getD j 0))
theorem rowC_of {w : World} {B C : Nat} {a : Option Addr} {n c : Nat} {L : List Int} (h : w.ownsRow B 3 1 (.slice a n c) L.length (L.map (Value.int .i64))) (hC : C ≤ B) : RowC w C a L := by
 obtain ⟨a', c', e, h1⟩ := row_cell h
 obtain rfl : a = a' := by injection e
 rcases h1 with h1 | ⟨g, h1, h2, h3⟩
 ·exact .inl (List.eq_nil_of_length_eq_zero h1)
 ·have hl := row_lt h g h2
  exact .inr ⟨g, h1, Nat.le_trans hC hl.1, hl.2, fun j hj => h3 j _ (by rw [List.getElem?_map, List.getElem?_eq_getElem hj, getD_get _ _ hj]; rfl)⟩
theorem RowC.tn {F : Nat → Prop} {w w' : World} {B : Nat} {a : Option Addr} {L : List Int} (h : RowC w B a L) (t : Tn F w w') (hF : ∀ k, F k → k < B ∨ w.heap.size ≤ k) : RowC w' B a L := by
 rcases h with h | ⟨b, h1, h2, h3, h4⟩
 ·exact .inl h
 ·exact .inr ⟨b, h1, h2, Nat.lt_of_lt_of_le h3 t.size, fun j hj => t.cell (h4 j hj) fun e => by rcases hF b e with h | h <;> omega⟩
theorem RowC.below {w w' : World} {B : Nat} {a : Option Addr} {L : List Int} (h : RowC w B a L) (hb : Below w.heap.size w w') : RowC w' B a L := h.tn (Tn.of_below (F := fun _ => False) hb) (fun _ h => h.elim)
end Go.Proofs.YtdojgbpaheadnaaGreat
