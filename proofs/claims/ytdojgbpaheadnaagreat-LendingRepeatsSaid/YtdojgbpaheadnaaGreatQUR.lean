/- The library all along, with what is on its way; a round. -/
import Derived.Test.YtdojgbpaheadnaaGreatQUD
import Derived.Test.YtdojgbpaheadnaaGreatQUE
import Derived.Test.YtdojgbpaheadnaaGreatQPP
set_option linter.unusedVariables false
set_option linter.unusedSimpArgs false

namespace Go.Proofs.YtdojgbpaheadnaaGreat
open Go.RowKit Go.Shelf Go.Maps Go.ChangeMaps
attribute [local go_sem] over_cell over_frozen

theorem delMs_lenR (s : Lb) (m : Msg) : (s.delMs m).length ≤ 2 := by
 have a1 := takeA_len (s.as 1) m
 have a2 := takeA_len (s.as 2) m
 have b := takeB_len s.b m
 have l1 := takeL_len (s.ls 1) m
 have l3 := takeL_len (s.ls 3) m
 have l4 := takeL_len (s.ls 4) m
 unfold Lb.delMs
 repeat' split
 all_goals (try simp only [List.length_append, List.length_nil])
 all_goals omega
def RunJ (w : World) (g : Lg) (S : List Tr) (init : Int → List Int) (D : Nat → Prop) (b : Nat) (Q : Lb → List Pc → Prop) (wr : World) : Prop :=
 ∃ (Z : Nat → Nat → Prop) (N sent : Nat) (P : List Pc) (s : Lb), LibM g Z wr N S P sent s ∧ KS init s ∧ (∀ p ∈ P, p.m ∈ s.W) ∧ N ≤ b ∧ sent ≤ b ∧ P.length ≤ 8 * sent ∧ (∀ i k, D k → Z i k) ∧ Tn (fun k => g.B0 ≤ k ∧ ¬ D k) w wr ∧ Q s P
section
variable {w : World} {g : Lg} {S : List Tr} {init : Int → List Int} {D : Nat → Prop} {b : Nat} {Q : Lb → List Pc → Prop} {wr : World}
theorem RunJ.weak {b' : Nat} {Q' : Lb → List Pc → Prop} (h : RunJ w g S init D b Q wr) (hb : b ≤ b') (hQ : ∀ s P, KS init s → Q s P → Q' s P) : RunJ w g S init D b' Q' wr := by
 obtain ⟨Z, N, sent, P, s, h1, h2, h3, h4, h5, h6, h7, h8, h9⟩ := h
 exact ⟨Z, N, sent, P, s, h1, h2, h3, by omega, by omega, h6, h7, h8, hQ s P h2 h9⟩
theorem RunJ.tn (h : RunJ w g S init D b Q wr) : Tn (fun k => g.B0 ≤ k ∧ ¬ D k) w wr := by
 obtain ⟨Z, N, sent, P, s, h1, h2, h3, h4, h5, h6, h7, h8, h9⟩ := h
 exact h8
theorem RunJ.cells (h : RunJ w g S init D b Q wr) : LibC g wr := by
 obtain ⟨Z, N, sent, P, s, h1, h2, h3, h4, h5, h6, h7, h8, h9⟩ := h
 exact h1.cells
theorem RunJ.up {w' : World} (h : RunJ w g S init D b Q wr) (hb : Below wr.heap.size wr w') : RunJ w g S init D b Q w' := by
 obtain ⟨Z, N, sent, P, s, h1, h2, h3, h4, h5, h6, h7, h8, h9⟩ := h
 exact ⟨_, N, sent, P, s, h1.up' hb, h2, h3, h4, h5, h6, h7, h8.trans (Tn.of_below hb), h9⟩
theorem RunJ.keep {w' : World} (h : RunJ w g S init D b Q wr) (hb : Below wr.heap.size wr w') : RunJ w' g S init (fun k => D k ∨ (wr.heap.size ≤ k ∧ k < w'.heap.size)) b Q w' := by
 obtain ⟨Z, N, sent, P, s, h1, h2, h3, h4, h5, h6, h7, h8, h9⟩ := h
 exact ⟨_, N, sent, P, s, h1.up hb, h2, h3, h4, h5, h6, fun i k hk => hk.imp (h7 i k) id, Tn.refl _ _, h9⟩
theorem RunJ.nx {w' : World} {Z : Nat → Nat → Prop} {N' : Nat} {P' : List Pc} {sent' : Nat} {s' : Lb} (h7 : ∀ i k, D k → Z i k) (h8 : Tn (fun k => g.B0 ≤ k ∧ ¬ D k) w wr) (h : Nx g Z wr w' fun Z' => LibM g Z' w' N' S P' sent' s') (hk : KS init s') (hp : ∀ p ∈ P', p.m ∈ s'.W) (hN : N' ≤ b) (hs : sent' ≤ b) (hl : P'.length ≤ 8 * sent') (hQ : Q s' P') : RunJ w g S init D b Q w' := by
 obtain ⟨Z', hz, ht, hL⟩ := h
 exact ⟨Z', N', sent', P', s', hL, hk, hp, hN, hs, hl, fun i k hk => hz i k (h7 i k hk), h8.trans (ht.mono fun k hk => ⟨hk.1, fun e => hk.2 fun i => h7 i k e⟩), hQ⟩
theorem RunJ.tick (hb : b ≤ 50000) {Q' : Lb → List Pc → Prop} (hQ : ∀ s P P' n, KS init s → (∀ p ∈ P, p.m ∈ s.W) → Q s P → SentL 5 S n s.tickMs P P' → Q' s.tickM P') (h : RunJ w g S init D b Q wr) :
  Calls Tryz.prog 42 #[.pointer (some ⟨g.xb, 0, none⟩)] wr fun e w' => e = .returned (.tuple #[]) ∧ RunJ w g S init D (b + 24) Q' w' := by
 obtain ⟨Z, N, sent, P, s, h1, h2, h3, h4, h5, h6, h7, h8, h9⟩ := h
 refine (ltick_any h1 h2 (by omega) (by omega) (by omega)).mono ?_
 rintro e w' ⟨rfl, P', hP, hn⟩
 have hl := hP.len
 have hm := h2.tickMs_len
 refine ⟨rfl, RunJ.nx h7 h8 hn h2.tickM (fun p hp => ?_) (by omega) (by omega) (by omega) (hQ s P P' sent h2 h3 h9 hP)⟩
 rw [Lb.tickM_W, List.mem_append]
 exact (hP.mem p hp).imp (h3 p) id
theorem RunJ.clock (h : RunJ w g S init D b Q wr) (now : Int) : RunJ w g S init D b Q (wr.setCell ⟨g.xb, 4, none⟩ (i64 now)) := by
 obtain ⟨Z, N, sent, P, s, h1, h2, h3, h4, h5, h6, h7, h8, h9⟩ := h
 have hc := h1.clock now
 exact RunJ.nx h7 h8 ⟨Z, fun _ _ h => h, hc.2, hc.1⟩ h2 h3 h4 h5 h6 h9
theorem RunJ.next (hb : b ≤ 50000) (h : RunJ w g S init D b Q wr) :
  (Calls Tryz.prog 43 #[.pointer (some ⟨g.nb, 0, none⟩)] wr fun e w' => e = .returned (.tuple #[.agg #[i64 0, i64 0, i64 0, .string ⟨#[]⟩], i64 0, .bool false]) ∧ RunJ w g S init D b (fun s P => Q s P ∧ P = []) w') ∨
  (Calls Tryz.prog 43 #[.pointer (some ⟨g.nb, 0, none⟩)] wr fun e w' => ∃ p : Pc, e = .returned (.tuple #[.agg (encM p.m), i64 p.at_, .bool true]) ∧ RunJ w g S init D b (fun s r => p.m ∈ s.W ∧ ∃ P, Q s P ∧ (r ++ [p]).Perm P ∧ ∀ x ∈ P, x.m ∈ s.W) w') := by
 obtain ⟨Z, N, sent, P, s, h1, h2, h3, h4, h5, h6, h7, h8, h9⟩ := h
 rcases Nat.eq_zero_or_pos P.length with e0 | e0
 ·obtain rfl := List.eq_nil_of_length_eq_zero e0
  refine .inl (h1.next_none.mono ?_)
  rintro e w' ⟨rfl, hb⟩
  exact ⟨rfl, RunJ.up ⟨Z, N, sent, [], s, h1, h2, h3, h4, h5, h6, h7, h8, h9, rfl⟩ hb⟩
 ·refine .inr ((h1.next_some e0 (by omega)).mono ?_)
  rintro e w' ⟨p, r, rfl, hp, hn⟩
  have hl := hp.length_eq
  rw [List.length_append] at hl
  exact ⟨p, rfl, RunJ.nx h7 h8 hn h2 (fun q hq => h3 q (hp.mem_iff.1 (List.mem_append.2 (.inl hq)))) h4 h5 (by simp at hl; omega) ⟨h3 p (hp.mem_iff.1 (by simp)), P, h9, hp, h3⟩⟩
theorem RunJ.deliver (hi : ∀ L, (init L).length ≤ 20000) (hb : b ≤ 50000) (m : Msg) {Q' : Lb → List Pc → Prop} (hm : ∀ s P, Q s P → m ∈ s.W) (hQ : ∀ s P P' n, KS init s → Q s P → SentL 5 S n (s.delMs m) P P' → Q' (s.del m) P') (h : RunJ w g S init D b Q wr) :
  Calls Tryz.prog 44 #[.pointer (some ⟨g.xb, 0, none⟩), .agg (encM m)] wr fun e w' => e = .returned (.tuple #[]) ∧ RunJ w g S init D (b + 2) Q' w' := by
 obtain ⟨Z, N, sent, P, s, h1, h2, h3, h4, h5, h6, h7, h8, h9⟩ := h
 refine (deliver_any h1 h2 hi m (hm s P h9) (by omega) (by omega) (by omega)).mono ?_
 rintro e w' ⟨rfl, P', hP, hn⟩
 have hl := hP.len
 have hmm := delMs_lenR s m
 refine ⟨rfl, RunJ.nx h7 h8 hn (h2.del (hm s P h9)) (fun p hp => ?_) (by omega) (by omega) (by omega) (hQ s P P' sent h2 h9 hP)⟩
 rw [Lb.del_W, List.mem_append]
 exact (hP.mem p hp).imp (h3 p) id
theorem RunJ.here {a : Int} (ha : IsA a) (h : RunJ w g S init D b Q wr) :
  Calls Tryz.prog 25 #[.pointer (some ⟨g.ap a, 0, none⟩)] wr fun e w' => ∃ v s P, e = .returned v ∧ w'.ownsRow wr.heap.size 3 1 v (s.as a).here.length ((s.as a).here.map (Value.int .i64)) ∧ Below wr.heap.size wr w' ∧ KS init s ∧ Q s P ∧ RunJ w g S init D b (fun s' P' => Q s' P' ∧ s' = s) w' := by
 have h0 := h
 obtain ⟨Z, N, sent, P, s, h1, h2, h3, h4, h5, h6, h7, h8, h9⟩ := h
 refine (h1.ahere ha).mono ?_
 rintro e w' ⟨v, rfl, hr, hb⟩
 exact ⟨v, s, P, rfl, hr, hb, h2, h9, RunJ.up ⟨Z, N, sent, P, s, h1, h2, h3, h4, h5, h6, h7, h8, h9, rfl⟩ hb⟩
theorem RunJ.lhere {L : Int} (hL : IsL L) (hi : ∀ L, (init L).length ≤ 20000) (h : RunJ w g S init D b Q wr) :
  Calls Tryz.prog 28 #[.pointer (some ⟨g.lp L, 0, none⟩)] wr fun e w' => ∃ v s P, e = .returned v ∧ w'.ownsRow wr.heap.size 3 1 v (s.ls L).here.length ((s.ls L).here.map (Value.int .i64)) ∧ Below wr.heap.size wr w' ∧ KS init s ∧ Q s P ∧ RunJ w g S init D b (fun s' P' => Q s' P' ∧ s' = s) w' := by
 obtain ⟨Z, N, sent, P, s, h1, h2, h3, h4, h5, h6, h7, h8, h9⟩ := h
 refine (h1.lhere hL (Nat.le_trans (h2.hereL hi hL) (by omega))).mono ?_
 rintro e w' ⟨v, rfl, hr, hb⟩
 exact ⟨v, s, P, rfl, hr, hb, h2, h9, RunJ.up ⟨Z, N, sent, P, s, h1, h2, h3, h4, h5, h6, h7, h8, h9, rfl⟩ hb⟩
theorem RunJ.state {a : Int} (ha : IsA a) (n : Int) (hn : I64 n) (h : RunJ w g S init D b Q wr) :
  Calls Tryz.prog 24 #[.pointer (some ⟨g.ap a, 0, none⟩), i64 n] wr fun e w' => w' = wr ∧ ∃ s P, e = .returned (i64 ((s.as a).state n)) ∧ KS init s ∧ Q s P := by
 obtain ⟨Z, N, sent, P, s, h1, h2, h3, h4, h5, h6, h7, h8, h9⟩ := h
 refine (h1.astate ha n hn).mono ?_
 rintro e w' ⟨rfl, rfl⟩
 exact ⟨rfl, s, P, rfl, h2, h9⟩
end
end Go.Proofs.YtdojgbpaheadnaaGreat
