/- The acts of an argument; the contract of played. -/
import Derived.Test.YtmnkgjgaileokaaFN
import Derived.Test.YtmnkgjgaileokaaTA
namespace Go.Proofs.Ytmnkgjgaileokaa
open Go.RowKit

def za : Act4 := ⟨0, 0, 0, 0⟩
instance : Inhabited Act4 := ⟨za⟩
def avs (c : Act4) : Array Value := #[.int .u8 c.k, .int .i64 c.a, .int .i64 c.b, .int .i64 c.n]
def ActAt (w : World) (b o : Nat) (c : Act4) : Prop :=
  w.cell? ⟨b, o, none⟩ = some (.int .u8 c.k) ∧ w.cell? ⟨b, o + 1, none⟩ = some (.int .i64 c.a) ∧ w.cell? ⟨b, o + 2, none⟩ = some (.int .i64 c.b) ∧ w.cell? ⟨b, o + 3, none⟩ = some (.int .i64 c.n)
def ActsAt (w : World) (b o : Nat) (L : List Act4) : Prop := ∀ k, k < L.length → ActAt w b (o + k * 4) (L.getD k za)
theorem ActAt.below {w w' : World} {b o B : Nat} {c : Act4} (h : ActAt w b o c) (hb : Below B w w') (hl : b < B) : ActAt w' b o c := by
  have e : ∀ i, w'.cell? ⟨b, i, none⟩ = w.cell? ⟨b, i, none⟩ := fun i => hb.cell (p := ⟨b, i, none⟩) hl
  obtain ⟨h0, h1, h2, h3⟩ := h
  exact ⟨(e _).trans h0, (e _).trans h1, (e _).trans h2, (e _).trans h3⟩
/-- An argument that is a slice of acts. -/
structure InA (w : World) (a : Option Addr) (L : List Act4) (cap : Nat) : Prop where
  at_ : L = [] ∨ ∃ b o, a = some ⟨b, o, none⟩ ∧ b < w.heap.size ∧ ActsAt w b o L
  nil : a = none → L = [] ∧ cap = 0
  in_ : ∀ c ∈ L, In64 c
  len : L.length ≤ cap
  cap : cap ≤ 9223372036854775807
theorem InA.below {w w' : World} {a : Option Addr} {L : List Act4} {cap B : Nat} (h : InA w a L cap) (hb : Below B w w') (hB : w.heap.size ≤ B) : InA w' a L cap := by
  refine ⟨?_, h.nil, h.in_, h.len, h.cap⟩
  rcases h.at_ with h1 | ⟨b, o, h1, h2, h3⟩
  · exact .inl h1
  · exact .inr ⟨b, o, h1, by have := hb.size; omega, fun k hk => (h3 k hk).below hb (by omega)⟩
theorem InA.get {w : World} {a : Option Addr} {L : List Act4} {cap : Nat} (h : InA w a L cap) (k : Nat) (hk : k < L.length) : ∃ b o, a = some ⟨b, o, none⟩ ∧ ActAt w b (o + k * 4) L[k] := by
  rcases h.at_ with h1 | ⟨b, o, h1, h2, h3⟩
  · subst h1; simp at hk
  · exact ⟨b, o, h1, by have := h3 k hk; rwa [getD_get _ _ hk] at this⟩

theorem small_in {c : Act4} (h : In64 c) : In64 c.small := by
  have := h.k0
  have := h.k1
  constructor <;> (unfold Act4.small; dsimp only; omega)
def Nine (v : PV) : Prop := ∀ x ∈ v.ids, 1 ≤ x ∧ x ≤ 9
theorem do_good {v v' : PV} {a : Act4} (h : Good v) (hi : In64 a) (hd : DoR v a v') : Good v' := by
  unfold DoR at hd
  split at hd
  · rw [hd]; exact (good_add h hi.a1).1
  split at hd
  · rw [hd]; exact (good_move h _ _ _).1
  split at hd
  · rw [hd]; exact (good_enc h _ _).1
  split at hd
  · rw [hd]; exact (good_rel h _ _).1
  split at hd
  · rw [hd]; exact (good_spend h _ _).1
  · exact (good_close h hd).1
theorem do_ids {v v' : PV} {a : Act4} (h : Good v) (hi : In64 a) (hd : DoR v a v') : v'.ids = v.ids ∨ (v'.ids = v.ids ++ [a.a] ∧ 1 ≤ a.a) := by
  unfold DoR at hd
  split at hd
  · rw [hd]
    obtain ⟨h1, h2, h3⟩ := good_add (x := a.a) (p := a.b) (a := a.n) h hi.a1
    by_cases e : (v.add a.a a.b a.n).1 = 0
    · refine .inr ⟨(h3 e).2, ?_⟩
      rcases Int.lt_or_le a.a 1 with h4 | h4
      · exfalso
        unfold PV.add at e
        rw [if_pos (by omega)] at e
        cases e
      · exact h4
    · exact .inl (by rw [h2 e])
  split at hd
  · rw [hd]; exact .inl (good_move h _ _ _).2.1
  split at hd
  · rw [hd]; exact .inl (good_enc h _ _).2.1
  split at hd
  · rw [hd]; exact .inl (good_rel h _ _).2.1
  split at hd
  · rw [hd]; exact .inl (good_spend h _ _).2.1
  · exact .inl (good_close h hd).2.1
theorem do_nine {v v' : PV} {a : Act4} (h : Good v) (hi : In64 a) (hn : Nine v) (hd : DoR v a.small v') : Nine v' := by
  rcases do_ids h (small_in hi) hd with e | ⟨e, e1⟩
  · unfold Nine; rw [e]; exact hn
  · unfold Nine; rw [e]
    intro x hx
    rcases List.mem_append.1 hx with hx | hx
    · exact hn x hx
    · obtain rfl : x = a.small.a := by simpa using hx
      refine ⟨e1, ?_⟩
      unfold Act4.small; dsimp only; omega
/-- What acts lead to. -/
inductive Acts (v : PV) : List Act4 → PV → Prop
  | nil : Acts v [] v
  | snoc {l : List Act4} {a : Act4} {u u' : PV} : Acts v l u → DoR u a u' → Acts v (l ++ [a]) u'
def smalls (L : List Act4) (k : Nat) : List Act4 := (L.take k).map Act4.small
theorem smalls_succ (L : List Act4) (k : Nat) (hk : k < L.length) : smalls L (k + 1) = smalls L k ++ [L[k].small] := by
  unfold smalls; rw [List.take_succ_eq_append_getElem hk, List.map_append]; rfl
structure Run (L : List Act4) (k : Nat) (v : PV) : Prop where
  acts : Acts q0 (smalls L k) v
  good : Good v
  nine : Nine v
theorem run0 (L : List Act4) : Run L 0 q0 := ⟨.nil, g0, fun x hx => by cases hx⟩
theorem Run.step {L : List Act4} {k : Nat} {v v' : PV} (h : Run L k v) (hk : k < L.length) (hi : In64 L[k]) (hd : DoR v L[k].small v') : Run L (k + 1) v' :=
  ⟨by rw [smalls_succ L k hk]; exact .snoc h.acts hd, do_good h.good (small_in hi) hd, do_nine h.good hi h.nine hd⟩
theorem St.start {w w1 : World} (hM : Mem w1 (FS.new w.heap.size)) (hw : w1 = w.alloc (.cells #[.map none, .int .i64 0] 53)) : St w w.heap.size w1 (FS.new w.heap.size) q0 :=
  ⟨hM, rfl, rfl, by rw [hw]; exact (Below.refl _ _).alloc (Nat.le_refl _) _, fun b hb => if_neg (by omega)⟩
theorem do_st {w : World} {s : FS} {v : PV} {a : Act4} {c : Int} (h : Mem w s) (hv : s.pv = v) (hg : Good v) (hi : In64 a) (hc : doC v a = c) :
    Calls Try.prog 16 #[.pointer (some ⟨s.fb, 0, none⟩), a.val] w fun r w' => r = .returned (.int .i64 c) ∧ ∃ s', Mem w' s' ∧ Turn s w s' w' ∧ s'.fb = s.fb ∧ DoR v a s'.pv := by
  subst hv; subst hc
  exact do_any h hg a hi
set_option maxRecDepth 100000 in
set_option maxHeartbeats 4000000 in
theorem played_any (L : List Act4) (a : Option Addr) (cap : Nat) (w : World) (h : InA w a L cap) :
    Calls Try.prog 19 #[.slice a L.length cap] w fun r w' => r = .returned (.pointer (some ⟨w.heap.size, 0, none⟩)) ∧ ∃ s v, St w w.heap.size w' s v ∧ Run L (min L.length 60) v := by
  have hcap := h.cap
  have hlen := h.len
  have HI := Lib.hid h
  clear h
  go_enter Try.func19, Try.ntmps19
  go_wp2_with fail
  refine (new_any w).mono ?_
  rintro e w1 ⟨rfl, hM, hw⟩
  have S0 := Lib.hid (St.start hM hw)
  clear hM hw
  generalize FS.new w.heap.size = s0 at *
  go_wp2_with fail
  go_loopw [4] (fun i wr => ∃ k : Nat, k ≤ L.length ∧ k ≤ 60 ∧ i = .int .i64 k ∧ ∃ s v, St w w.heap.size wr s v ∧ Run L k v) (fun i _ => 60 - (intOf i).toNat)
  case atStart => exact ⟨0, by omega, by omega, rfl, s0, q0, S0.out, run0 L⟩
  case round =>
    obtain ⟨k, hk, hk6, rfl, s, v, hS, hR⟩ := hrel
    have S := Lib.hid hS
    have R := Lib.hid hR
    clear hS hR S0
    by_cases hlt : k < L.length
    · by_cases h6 : k < 60
      · obtain ⟨b, o, rfl, hA⟩ := HI.out.get k hlt
        have hA' := hA.below S.out.below (by
          rcases HI.out.at_ with h1 | ⟨b', o', h1, h2, h3⟩
          · subst h1; simp at hlt
          · cases h1; exact h2)
        have hin : In64 L[k] := HI.out.in_ _ (List.getElem_mem hlt)
        have HN := Lib.hid hin
        obtain ⟨c, hc⟩ : ∃ c, c = L[k] := ⟨_, rfl⟩
        rw [← hc] at hA' HN
        have HC := Lib.hid hc
        obtain ⟨a0, a1, a2, a3⟩ := hA'
        clear hA hin hc
        go_wp2_with fail
        refine (small_any c _).mono ?_
        rintro e w2 ⟨rfl, hb⟩
        have S1 := Lib.hid (S.out.read hb)
        clear hb S a0 a1 a2 a3
        go_wp2_with fail
        have key := do_st S1.out.mem S1.out.pv R.out.good (small_in HN.out) rfl
        rw [S1.out.fb] at key
        refine key.mono ?_
        clear key
        rintro e w3 ⟨rfl, s', hM, hT, hf, hd⟩
        have S2 := Lib.hid (S1.out.step hM hT hf rfl)
        have R2 : RowKit.Hid (Run L (k + 1) s'.pv) := R.out.step hlt (by rw [← HC.out]; exact HN.out) (by rw [← HC.out]; exact hd)
        clear hM hT hf hd S1 R
        go_wp2_with fail
        refine ⟨⟨k + 1, by omega, by omega, by go_num, s', _, S2.out, R2.out⟩, by simp [intOf]; omega⟩
      · have e : k = min L.length 60 := by omega
        go_wp2_with fail
        go_ret
        exact ⟨rfl, s, v, S.out, by rw [← e]; exact R.out⟩
    · have e : k = min L.length 60 := by omega
      go_wp2_with fail
      go_ret
      exact ⟨rfl, s, v, S.out, by rw [← e]; exact R.out⟩
end Go.Proofs.Ytmnkgjgaileokaa
