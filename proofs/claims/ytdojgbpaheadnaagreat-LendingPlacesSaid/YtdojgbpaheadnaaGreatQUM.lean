/- LendingPlaces: what holds all along, and what each step makes of it. -/
import Derived.Test.YtdojgbpaheadnaaGreatQUD
import Derived.Test.YtdojgbpaheadnaaGreatQUF
import Derived.Test.YtdojgbpaheadnaaGreatQUE
import Derived.Test.YtdojgbpaheadnaaGreatQUH
import Derived.Test.YtdojgbpaheadnaaGreatQPP
set_option linter.unusedVariables false
set_option linter.unusedSimpArgs false

namespace Go.Proofs.YtdojgbpaheadnaaGreat
open Go.RowKit Go.Shelf Go.Maps Go.ChangeMaps

theorem cnt_heres (s : Lb) (t : Int) : cnt s.heres.flatten t = anyCount s fun x => decide (x % 6 = t) := by
  unfold cnt Lb.heres anyCount
  simp only [List.flatten_cons, List.flatten_nil, List.countP_append, List.countP_nil]
  omega
theorem KS.cnt_le {r h3 h4 h1 : List Int} {s : Lb} (h : KS (Lb.start r h3 h4 h1).init s) (t : Int) : cnt s.heres.flatten t ≤ cnt (Lb.start r h3 h4 h1).heres.flatten t := by
  rw [cnt_heres, cnt_heres]
  refine Nat.le_trans (h.count _) ?_
  unfold anyCount Lb.init
  omega
theorem delMs_len (s : Lb) (m : Msg) : (s.delMs m).length ≤ 2 := by
  have a1 := takeA_len (s.as 1) m
  have a2 := takeA_len (s.as 2) m
  have b := takeB_len s.b m
  have l1 := takeL_len (s.ls 1) m
  have l3 := takeL_len (s.ls 3) m
  have l4 := takeL_len (s.ls 4) m
  unfold Lb.delMs
  repeat' split
  all_goals (try simp only [List.length_append, List.length_nil])
  all_goals omega
def RunI (w : World) (g : Lg) (S : List Tr) (s0 : Lb) (mb : Nat) (mc : Array Value) (mt : TypeId) (b : Nat) (Q : Lb → Prop) (wr : World) : Prop :=
  ∃ (Z : Nat → Nat → Prop) (N sent : Nat) (P : List Pc) (s : Lb), LibM g Z wr N S P sent s ∧ KS s0.init s ∧ (∀ p ∈ P, p.m ∈ s.W) ∧ N ≤ b ∧ sent ≤ b ∧ P.length ≤ 8 * sent ∧ (∀ i, Z i mb) ∧ Blk wr mb mc mt ∧ Below w.heap.size w wr ∧ Q s
section
variable {w : World} {g : Lg} {S : List Tr} {s0 : Lb} {mb : Nat} {mc : Array Value} {mt : TypeId} {b : Nat} {Q : Lb → Prop} {wr : World}
theorem RunI.weak {b' : Nat} {Q' : Lb → Prop} (h : RunI w g S s0 mb mc mt b Q wr) (hb : b ≤ b') (hQ : ∀ s, Q s → Q' s) : RunI w g S s0 mb mc mt b' Q' wr := by
  obtain ⟨Z, N, sent, P, s, h1, h2, h3, h4, h5, h6, h7, h8, h9, h10⟩ := h
  exact ⟨Z, N, sent, P, s, h1, h2, h3, by omega, by omega, h6, h7, h8, h9, hQ s h10⟩
theorem RunI.bel (h : RunI w g S s0 mb mc mt b Q wr) : Below w.heap.size w wr := by
  obtain ⟨Z, N, sent, P, s, h1, h2, h3, h4, h5, h6, h7, h8, h9, h10⟩ := h
  exact h9
theorem RunI.blk (h : RunI w g S s0 mb mc mt b Q wr) : Blk wr mb mc mt := by
  obtain ⟨Z, N, sent, P, s, h1, h2, h3, h4, h5, h6, h7, h8, h9, h10⟩ := h
  exact h8
theorem RunI.cells (h : RunI w g S s0 mb mc mt b Q wr) : LibC g wr := by
  obtain ⟨Z, N, sent, P, s, h1, h2, h3, h4, h5, h6, h7, h8, h9, h10⟩ := h
  exact h1.cells
theorem RunI.up {w' : World} (h : RunI w g S s0 mb mc mt b Q wr) (hb : Below wr.heap.size wr w') : RunI w g S s0 mb mc mt b Q w' := by
  obtain ⟨Z, N, sent, P, s, h1, h2, h3, h4, h5, h6, h7, h8, h9, h10⟩ := h
  exact ⟨_, N, sent, P, s, h1.up' hb, h2, h3, h4, h5, h6, h7, h8.below hb h8.lt, h9.trans (hb.mono h9.size), h10⟩
theorem RunI.nx {w' : World} {Z : Nat → Nat → Prop} {N' : Nat} {P' : List Pc} {sent' : Nat} {s' : Lb} (hg : w.heap.size ≤ g.B0) (h7 : ∀ i, Z i mb) (h8 : Blk wr mb mc mt) (h9 : Below w.heap.size w wr) (h : Nx g Z wr w' fun Z' => LibM g Z' w' N' S P' sent' s') (hk : KS s0.init s') (hp : ∀ p ∈ P', p.m ∈ s'.W) (hN : N' ≤ b) (hs : sent' ≤ b) (hl : P'.length ≤ 8 * sent') (hQ : Q s') : RunI w g S s0 mb mc mt b Q w' := by
  obtain ⟨Z', hz, ht, hL⟩ := h
  exact ⟨Z', N', sent', P', s', hL, hk, hp, hN, hs, hl, fun i => hz i mb (h7 i), ht.blk h8 (fun e => e.2 fun i => h7 i), h9.trans (ht.below h9.size fun k hk => Nat.le_trans hg hk.1), hQ⟩
theorem RunI.tick (hg : w.heap.size ≤ g.B0) (hb : b ≤ 5000) (h : RunI w g S s0 mb mc mt b Q wr) :
    Calls Tryz.prog 42 #[.pointer (some ⟨g.xb, 0, none⟩)] wr fun e w' => e = .returned (.tuple #[]) ∧ RunI w g S s0 mb mc mt (b + 24) (fun _ => True) w' := by
  obtain ⟨Z, N, sent, P, s, h1, h2, h3, h4, h5, h6, h7, h8, h9, h10⟩ := h
  refine (ltick_any h1 h2 (by omega) (by omega) (by omega)).mono ?_
  rintro e w' ⟨rfl, P', hP, hn⟩
  have hl := hP.len
  have hm := h2.tickMs_len
  refine ⟨rfl, RunI.nx hg h7 h8 h9 hn h2.tickM (fun p hp => ?_) (by omega) (by omega) (by omega) trivial⟩
  rw [Lb.tickM_W, List.mem_append]
  exact (hP.mem p hp).imp (h3 p) id
theorem RunI.clock (hg : w.heap.size ≤ g.B0) (h : RunI w g S s0 mb mc mt b Q wr) (now : Int) : RunI w g S s0 mb mc mt b Q (wr.setCell ⟨g.xb, 4, none⟩ (i64 now)) := by
  obtain ⟨Z, N, sent, P, s, h1, h2, h3, h4, h5, h6, h7, h8, h9, h10⟩ := h
  have hc := h1.clock now
  exact RunI.nx hg h7 h8 h9 ⟨Z, fun _ _ h => h, hc.2, hc.1⟩ h2 h3 h4 h5 h6 h10
theorem RunI.next (hg : w.heap.size ≤ g.B0) (hb : b ≤ 5000) (h : RunI w g S s0 mb mc mt b Q wr) :
    (Calls Tryz.prog 43 #[.pointer (some ⟨g.nb, 0, none⟩)] wr fun e w' => e = .returned (.tuple #[.agg #[i64 0, i64 0, i64 0, .string ⟨#[]⟩], i64 0, .bool false]) ∧ RunI w g S s0 mb mc mt b Q w') ∨
    (Calls Tryz.prog 43 #[.pointer (some ⟨g.nb, 0, none⟩)] wr fun e w' => ∃ (m : Msg) (at_ : Int), e = .returned (.tuple #[.agg (encM m), i64 at_, .bool true]) ∧ RunI w g S s0 mb mc mt b (fun s => m ∈ s.W) w') := by
  obtain ⟨Z, N, sent, P, s, h1, h2, h3, h4, h5, h6, h7, h8, h9, h10⟩ := h
  rcases Nat.eq_zero_or_pos P.length with e0 | e0
  · obtain rfl := List.eq_nil_of_length_eq_zero e0
    refine .inl (h1.next_none.mono ?_)
    rintro e w' ⟨rfl, hb⟩
    exact ⟨rfl, RunI.up ⟨Z, N, sent, [], s, h1, h2, h3, h4, h5, h6, h7, h8, h9, h10⟩ hb⟩
  · refine .inr ((h1.next_some e0 (by omega)).mono ?_)
    rintro e w' ⟨p, r, rfl, hp, hn⟩
    have hl := hp.length_eq
    rw [List.length_append] at hl
    exact ⟨p.m, p.at_, rfl, RunI.nx hg h7 h8 h9 hn h2 (fun q hq => h3 q (hp.mem_iff.1 (List.mem_append.2 (.inl hq)))) h4 h5 (by simp at hl; omega) (h3 p (hp.mem_iff.1 (by simp)))⟩
theorem RunI.deliver (hi : ∀ L, (s0.init L).length ≤ 20000) (hg : w.heap.size ≤ g.B0) (hb : b ≤ 5000) (m : Msg) (h : RunI w g S s0 mb mc mt b (fun s => m ∈ s.W) wr) :
    Calls Tryz.prog 44 #[.pointer (some ⟨g.xb, 0, none⟩), .agg (encM m)] wr fun e w' => e = .returned (.tuple #[]) ∧ RunI w g S s0 mb mc mt (b + 2) (fun _ => True) w' := by
  obtain ⟨Z, N, sent, P, s, h1, h2, h3, h4, h5, h6, h7, h8, h9, h10⟩ := h
  refine (deliver_any h1 h2 hi m h10 (by omega) (by omega) (by omega)).mono ?_
  rintro e w' ⟨rfl, P', hP, hn⟩
  have hl := hP.len
  have hm := delMs_len s m
  refine ⟨rfl, RunI.nx hg h7 h8 h9 hn (h2.del h10) (fun p hp => ?_) (by omega) (by omega) (by omega) trivial⟩
  rw [Lb.del_W, List.mem_append]
  exact (hP.mem p hp).imp (h3 p) id
theorem RunI.asks (hg : w.heap.size ≤ g.B0) (hb : b ≤ 5000) (l : List Int) (a : Option Addr) (cap : Nat) (hu : U8 wr a l cap) (hc : l.length ≤ cap ∧ cap ≤ 9223372036854775807) (ha : l ≠ [] → ∀ b o, a = some ⟨b, o, none⟩ → b < g.B0) (h : RunI w g S s0 mb mc mt b Q wr) :
    Calls Tryz.prog 36 #[.pointer (some ⟨g.xb, 0, none⟩), .slice a l.length cap] wr fun e w' => e = .returned (.tuple #[]) ∧ RunI w g S s0 mb mc mt (b + 7) (fun _ => True) w' := by
  obtain ⟨Z, N, sent, P, s, h1, h2, h3, h4, h5, h6, h7, h8, h9, h10⟩ := h
  refine (asks_any h1 l a cap hu hc ha (by omega) (by omega) (by omega)).mono ?_
  rintro e w' ⟨rfl, P', sent', hP, hs, hn⟩
  have hl := hP.len
  exact ⟨rfl, RunI.nx hg h7 h8 h9 hn (KS.askN l _ (Nat.min_le_right _ _) h2) (hP.mem h3) (by omega) (by omega) (by omega) trivial⟩
theorem RunI.finish (hg : w.heap.size ≤ g.B0) (hb : b ≤ 5000) (h : RunI w g S s0 mb mc mt b Q wr) :
    Calls Tryz.prog 38 #[.pointer (some ⟨g.xb, 0, none⟩)] wr fun e w' => e = .returned (.tuple #[]) ∧ RunI w g S s0 mb mc mt (b + 12) (fun _ => True) w' := by
  obtain ⟨Z, N, sent, P, s, h1, h2, h3, h4, h5, h6, h7, h8, h9, h10⟩ := h
  refine (finish_any h1 (by omega) (by omega) (by omega)).mono ?_
  rintro e w' ⟨rfl, P', sent', hP, hs, hn⟩
  have hl := hP.len
  exact ⟨rfl, RunI.nx hg h7 h8 h9 hn h2.fin (hP.mem h3) (by omega) (by omega) (by omega) trivial⟩
theorem RunI.count {r h3 h4 h1 : List Int} (hi : ∀ L, ((Lb.start r h3 h4 h1).init L).length ≤ 20000) (h : RunI w g S (Lb.start r h3 h4 h1) mb mc mt b Q wr) :
    Calls Tryz.prog 41 #[.pointer (some ⟨g.xb, 0, none⟩)] wr fun e w' => ∃ L, e = .returned (.agg (cntC L)) ∧ (∀ t, cnt L t ≤ cnt (Lb.start r h3 h4 h1).heres.flatten t) ∧ RunI w g S (Lb.start r h3 h4 h1) mb mc mt b Q w' := by
  have h0 := h
  obtain ⟨Z, N, sent, P, s, h1, h2, h3, h4, h5, h6, h7, h8, h9, h10⟩ := h
  refine (count_any h1 (fun L hL => h2.hereL hi hL) (fun a ha => ?_)).mono ?_
  · have := (h2.ai a ha).here
    have c1 := h2.c1
    have c2 := h2.c2
    rcases ha with rfl | rfl <;> omega
  · rintro e w' ⟨rfl, hb⟩
    exact ⟨_, rfl, fun t => h2.cnt_le t, h0.up hb⟩
theorem RunI.here {a : Int} (ha : IsA a) (h : RunI w g S s0 mb mc mt b Q wr) :
    Calls Tryz.prog 25 #[.pointer (some ⟨g.ap a, 0, none⟩)] wr fun e w' => ∃ va n c, e = .returned (.slice va n c) ∧ n ≤ (if a = 1 then 4 else 3) ∧ RunI w g S s0 mb mc mt b Q w' := by
  have h0 := h
  obtain ⟨Z, N, sent, P, s, h1, h2, h3, h4, h5, h6, h7, h8, h9, h10⟩ := h
  refine (h1.ahere ha).mono ?_
  rintro e w' ⟨v, rfl, hr, hb⟩
  obtain ⟨va, c, rfl, -⟩ := row_cellz hr
  refine ⟨va, _, c, rfl, ?_, h0.up hb⟩
  have := (h2.ai a ha).here
  have c1 := h2.c1
  have c2 := h2.c2
  rcases ha with rfl | rfl
  · rw [if_pos rfl]; omega
  · rw [if_neg (by decide)]; omega
end
end Go.Proofs.YtdojgbpaheadnaaGreat
