/- The contract of made. -/
import Derived.Test.YtjikgoeinilnjaaWA
import Derived.Test.YtjikgoeinilnjaaW6
namespace Go.Proofs.Ytjikgoeinilnjaa
open Go.RowKit

def U8Sl (w : World) (a : Option Addr) (D : List Int) : Prop :=
  (∀ x ∈ D, 0 ≤ x ∧ x ≤ 255) ∧ (D = [] ∨ ∃ b o, a = some ⟨b, o, none⟩ ∧ b < w.heap.size ∧ ∀ j, j < D.length → w.cell? ⟨b, o + j, none⟩ = some (.int .u8 (D.getD j 0)))
def bitB (wk : Int) (i : Nat) : Bool := wk / 2 ^ i % 2 == 1
def bk (wk : Int) (k i : Nat) : Bool := decide (i < k) && bitB wk i
abbrev calK (wk : Int) (k : Nat) (v : Value) : Array Value := #[.bool (bk wk k 0), .bool (bk wk k 1), .bool (bk wk k 2), .bool (bk wk k 3), .bool (bk wk k 4), .bool (bk wk k 5), .bool (bk wk k 6), v]
theorem bits_one (x : Int) (h0 : 0 ≤ x) (h1 : x ≤ 255) : (bits .and .u8 x 1 == 1) = (x % 2 == 1) := by
  rw [u8_and x 1 h0 (by omega) (by omega) (by omega)]
  have e : (1 : Int).toNat = 1 := rfl
  rw [e, Nat.and_one_is_mod]
  have : ((x.toNat % 2 : Nat) : Int) = x % 2 := by omega
  rw [this]
def lastS (fr : Int) (D : List Int) : Nat → Int
  | 0 => fr
  | k + 1 => lastS fr D k + 1 + (D.getD k 0) % 6
def daysS (fr : Int) (D : List Int) : Nat → List Int
  | 0 => []
  | k + 1 => daysS fr D k ++ [lastS fr D (k + 1)]
theorem daysS_len (fr : Int) (D : List Int) (k : Nat) : (daysS fr D k).length = k := by
  induction k with
  | zero => rfl
  | succ k ih => simp [daysS, ih]
theorem lastS_bd (fr : Int) (D : List Int) (k : Nat) : fr ≤ lastS fr D k ∧ lastS fr D k ≤ fr + 6 * k := by
  induction k with
  | zero => simp [lastS]
  | succ k ih => rw [lastS]; omega
theorem info3 : (Try.prog.info? 3).map (fun i => (i.zero, i.size, i.bytes)) = some (some (.int .i64 0), 1, 8) := by kernel_rfl
def calM (wk fr : Int) (D : List Int) : Cal := ⟨bitB wk 0, bitB wk 1, bitB wk 2, bitB wk 3, bitB wk 4, bitB wk 5, bitB wk 6, daysS fr D (min D.length 30)⟩
/-- A slice of integers in memory from block B on. -/
def IntSlB (w : World) (B : Nat) (a : Option Addr) (D : List Int) : Prop :=
  D = [] ∨ ∃ b o, a = some ⟨b, o, none⟩ ∧ B ≤ b ∧ b < w.heap.size ∧ ∀ j, j < D.length → w.cell? ⟨b, o + j, none⟩ = some (.int .i64 (D.getD j 0))
theorem IntSlB.toSl {w : World} {B : Nat} {a : Option Addr} {D : List Int} (h : IntSlB w B a D) : IntSl w a D := by
  rcases h with h | ⟨b, o, e, _, h1, h2⟩
  · exact .inl h
  · exact .inr ⟨b, o, e, h1, h2⟩
theorem IntSlB.setLow {w : World} {B : Nat} {a : Option Addr} {D : List Int} (h : IntSlB w B a D) (p : Addr) (v : Value) (hp : p.block < B) : IntSlB (w.setCell p v) B a D := by
  rcases h with h | ⟨b, o, e, h0, h1, h2⟩
  · exact .inl h
  · exact .inr ⟨b, o, e, h0, by simpa using h1, fun j hj => by rw [World.cell?_setCell_other _ _ _ _ (fun e' => by rw [e'] at hp; exact absurd hp (by show ¬ b < B; omega))]; exact h2 j hj⟩
theorem IntSlB.below {w w' : World} {B C : Nat} {a : Option Addr} {D : List Int} (h : IntSlB w B a D) (hb : Below C w w') (hC : w.heap.size ≤ C) : IntSlB w' B a D := by
  rcases h with h | ⟨b, o, e, h0, h1, h2⟩
  · exact .inl h
  · exact .inr ⟨b, o, e, h0, by have := hb.size; omega, fun j hj => (hb.cell (p := ⟨b, o + j, none⟩) (by show b < C; omega)).trans (h2 j hj)⟩
theorem IntSlB.alloc {w : World} {B : Nat} {a : Option Addr} {D : List Int} (h : IntSlB w B a D) (o : Obj) : IntSlB (w.alloc o) B a D := h.below ((Below.refl _ _).alloc (Nat.le_refl _) o) (Nat.le_refl _)
theorem IntSlB.mono {w : World} {B C : Nat} {a : Option Addr} {D : List Int} (h : IntSlB w B a D) (hC : C ≤ B) : IntSlB w C a D := by
  rcases h with h | ⟨b, o, e, h0, h1, h2⟩
  · exact .inl h
  · exact .inr ⟨b, o, e, by omega, h1, h2⟩
theorem own_ints {w : World} {B : Nat} {av : Option Addr} {n cv : Nat} {D : List Int} (h : w.ownsRow B 3 1 (.slice av n cv) n (D.map (Value.int .i64))) (hn : D.length = n) : IntSlB w B av D := by
  obtain ⟨_, ⟨_, h0⟩ | ⟨g, c', cur, e, hg, hh, hnc, hm, hcs, hx⟩⟩ := h
  · exact .inl (List.eq_nil_of_length_eq_zero (by omega))
  · injection e with e1 e2 e3
    subst e1
    refine .inr ⟨g, 0, rfl, hg, heap_lt hh, fun j hj => ?_⟩
    have h1 := congrArg (fun l => l[j]?) hx
    simp only [Nat.mul_one, List.getElem?_map] at h1
    rw [List.getElem?_take_of_lt (by omega), List.getElem?_eq_getElem hj] at h1
    simp only [World.cell?, hh]
    rw [getD_get _ _ hj]
    simpa using h1
theorem le1 (n : Nat) {i : Nat} : n ≤ (⟨n + 1, i, none⟩ : Addr).block := Nat.le_succ n
theorem own_base {w : World} {B : Nat} {e : TypeId} {z n k : Nat} {v : Value} {xs : List Value} (h : w.ownsRow B e z v n xs) (hk : v.ownBlock = some k) : B ≤ k := by
  obtain ⟨_, ⟨rfl, _⟩ | ⟨g, c, cur, rfl, hg, _⟩⟩ := h
  · cases hk
  · have : some g = some k := hk
    injection this with this
    omega
theorem own_some {w : World} {B : Nat} {e : TypeId} {z n : Nat} {v : Value} {xs : List Value} (h : w.ownsRow B e z v (n + 1) xs) : ∃ g c, v = .slice (some ⟨g, 0, none⟩) (n + 1) c := by
  obtain ⟨_, ⟨_, h0⟩ | ⟨g, c, cur, rfl, _⟩⟩ := h
  · omega
  · exact ⟨g, c, rfl⟩
set_option maxRecDepth 100000 in
set_option maxHeartbeats 4000000 in
theorem made_fresh (wk : Int) (a : Option Addr) (D : List Int) (cap : Nat) (fr : Int) (w : World) (h0 : 0 ≤ wk) (h1 : wk ≤ 255) (hD : U8Sl w a D) (hDl : D.length ≤ 9223372036854775807) (f0 : -1000000 ≤ fr) (f1 : fr ≤ 1000000) :
    Calls Try.prog 18 #[.agg #[.int .u8 wk, .slice a D.length cap], .int .i64 fr] w fun e w' =>
      (∃ av cv, e = .returned (.agg ((calM wk fr D).cells av cv)) ∧ IntSlB w' w.heap.size av (calM wk fr D).days) ∧ Below w.heap.size w w' := by
  obtain ⟨i0, hi, hz0, hz1, hz2⟩ := info_parts info3
  have HDl := Lib.hid hDl
  go_enter Try.func18, Try.ntmps18
  go_wp2_with fail
  go_loopw [6] (fun i wr => ∃ k : Nat, k ≤ 7 ∧ i = .int .i64 k ∧ Below w.heap.size w wr ∧ Blk wr w.heap.size #[.int .u8 wk, .slice a D.length cap] 38 ∧ Blk wr (w.heap.size + 1) (calK 0 7 (.slice none 0 0)) 43 ∧ Blk wr (w.heap.size + 1 + 1) (calK wk k (.slice none 0 0)) 43) (fun i _ => 7 - (intOf i).toNat)
  case atStart => exact ⟨0, by omega, rfl, below3 .., ((Blk.new _ _ _).alloc _).alloc _, (Blk.at_new (by simp) _ _).alloc _, Blk.at_new (by simp) _ _⟩
  case round =>
    obtain ⟨k, hk, rfl, hbl, hz1', hz3, hz2'⟩ := hrel
    have hk4 : k = 0 ∨ k = 1 ∨ k = 2 ∨ k = 3 ∨ k = 4 ∨ k = 5 ∨ k = 6 ∨ k = 7 := by omega
    have HBL := Lib.hid hbl
    have HZ1 := Lib.hid hz1'
    have HZ2 := Lib.hid hz2'
    have HZ3 := Lib.hid hz3
    have c0 : wr.cell? ⟨w.heap.size, 0, none⟩ = some (.int .u8 wk) := hz1'.cell 0
    have c1 : wr.cell? ⟨w.heap.size, 1, none⟩ = some (.slice a D.length cap) := hz1'.cell 1
    have qf := hz2'.frozen
    have q0 : wr.cell? ⟨w.heap.size + 1 + 1, 0, none⟩ = some (.bool (bk wk k 0)) := hz2'.cell 0
    have q1 : wr.cell? ⟨w.heap.size + 1 + 1, 1, none⟩ = some (.bool (bk wk k 1)) := hz2'.cell 1
    have q2 : wr.cell? ⟨w.heap.size + 1 + 1, 2, none⟩ = some (.bool (bk wk k 2)) := hz2'.cell 2
    have q3 : wr.cell? ⟨w.heap.size + 1 + 1, 3, none⟩ = some (.bool (bk wk k 3)) := hz2'.cell 3
    have q4 : wr.cell? ⟨w.heap.size + 1 + 1, 4, none⟩ = some (.bool (bk wk k 4)) := hz2'.cell 4
    have q5 : wr.cell? ⟨w.heap.size + 1 + 1, 5, none⟩ = some (.bool (bk wk k 5)) := hz2'.cell 5
    have q6 : wr.cell? ⟨w.heap.size + 1 + 1, 6, none⟩ = some (.bool (bk wk k 6)) := hz2'.cell 6
    clear hz1' hz2' hz3 hbl
    rcases hk4 with rfl | rfl | rfl | rfl | rfl | rfl | rfl | rfl
    · have hb := Lib.hid (bits_one (wk) (by omega) (by omega))
      go_wp2_with fail
      refine ⟨⟨1, by omega, rfl, HBL.out.setCell (by show _ ≤ w.heap.size + 1 + 1; omega) _, HZ1.out.set_ne _ _ (by show w.heap.size ≠ w.heap.size + 1 + 1; omega), HZ3.out.set_ne _ _ (by show w.heap.size + 1 ≠ w.heap.size + 1 + 1; omega), ?_⟩, by simp [intOf]⟩
      rw [hb.out]
      exact (HZ2.out.set 0 _).cast (by simp [bk, bitB])
    · have hb := Lib.hid (bits_one (wk / 2) (by omega) (by omega))
      go_wp2_with fail
      refine ⟨⟨2, by omega, rfl, HBL.out.setCell (by show _ ≤ w.heap.size + 1 + 1; omega) _, HZ1.out.set_ne _ _ (by show w.heap.size ≠ w.heap.size + 1 + 1; omega), HZ3.out.set_ne _ _ (by show w.heap.size + 1 ≠ w.heap.size + 1 + 1; omega), ?_⟩, by simp [intOf]⟩
      rw [hb.out]
      exact (HZ2.out.set 1 _).cast (by simp [bk, bitB])
    · have hb := Lib.hid (bits_one (wk / 4) (by omega) (by omega))
      go_wp2_with fail
      refine ⟨⟨3, by omega, rfl, HBL.out.setCell (by show _ ≤ w.heap.size + 1 + 1; omega) _, HZ1.out.set_ne _ _ (by show w.heap.size ≠ w.heap.size + 1 + 1; omega), HZ3.out.set_ne _ _ (by show w.heap.size + 1 ≠ w.heap.size + 1 + 1; omega), ?_⟩, by simp [intOf]⟩
      rw [hb.out]
      exact (HZ2.out.set 2 _).cast (by simp [bk, bitB])
    · have hb := Lib.hid (bits_one (wk / 8) (by omega) (by omega))
      go_wp2_with fail
      refine ⟨⟨4, by omega, rfl, HBL.out.setCell (by show _ ≤ w.heap.size + 1 + 1; omega) _, HZ1.out.set_ne _ _ (by show w.heap.size ≠ w.heap.size + 1 + 1; omega), HZ3.out.set_ne _ _ (by show w.heap.size + 1 ≠ w.heap.size + 1 + 1; omega), ?_⟩, by simp [intOf]⟩
      rw [hb.out]
      exact (HZ2.out.set 3 _).cast (by simp [bk, bitB])
    · have hb := Lib.hid (bits_one (wk / 16) (by omega) (by omega))
      go_wp2_with fail
      refine ⟨⟨5, by omega, rfl, HBL.out.setCell (by show _ ≤ w.heap.size + 1 + 1; omega) _, HZ1.out.set_ne _ _ (by show w.heap.size ≠ w.heap.size + 1 + 1; omega), HZ3.out.set_ne _ _ (by show w.heap.size + 1 ≠ w.heap.size + 1 + 1; omega), ?_⟩, by simp [intOf]⟩
      rw [hb.out]
      exact (HZ2.out.set 4 _).cast (by simp [bk, bitB])
    · have hb := Lib.hid (bits_one (wk / 32) (by omega) (by omega))
      go_wp2_with fail
      refine ⟨⟨6, by omega, rfl, HBL.out.setCell (by show _ ≤ w.heap.size + 1 + 1; omega) _, HZ1.out.set_ne _ _ (by show w.heap.size ≠ w.heap.size + 1 + 1; omega), HZ3.out.set_ne _ _ (by show w.heap.size + 1 ≠ w.heap.size + 1 + 1; omega), ?_⟩, by simp [intOf]⟩
      rw [hb.out]
      exact (HZ2.out.set 5 _).cast (by simp [bk, bitB])
    · have hb := Lib.hid (bits_one (wk / 64) (by omega) (by omega))
      go_wp2_with fail
      refine ⟨⟨7, by omega, rfl, HBL.out.setCell (by show _ ≤ w.heap.size + 1 + 1; omega) _, HZ1.out.set_ne _ _ (by show w.heap.size ≠ w.heap.size + 1 + 1; omega), HZ3.out.set_ne _ _ (by show w.heap.size + 1 ≠ w.heap.size + 1 + 1; omega), ?_⟩, by simp [intOf]⟩
      rw [hb.out]
      exact (HZ2.out.set 6 _).cast (by simp [bk, bitB])
    · have e7 : ((7 : Nat) : Int) = 7 := rfl
      rw [e7]
      go_wp2_with fail
      obtain ⟨wo, rfl⟩ : ∃ wo : World, wo = wr := ⟨_, rfl⟩
      clear q0 q1 q2 q3 q4 q5 q6 qf c0 c1
      go_loopw [7, 8] (fun x i wr => ∃ (k : Nat) (av : Option Addr) (cv : Nat), k ≤ D.length ∧ k ≤ 30 ∧ i = .int .i64 k ∧ x = .int .i64 (lastS fr D k) ∧ Below w.heap.size w wr ∧ w.heap.size + 3 ≤ wr.heap.size ∧
          Blk wr w.heap.size #[.int .u8 wk, .slice a D.length cap] 38 ∧ Blk wr (w.heap.size + 1) (calK 0 7 (.slice none 0 0)) 43 ∧ Blk wr (w.heap.size + 1 + 1) (calK wk 7 (.slice av k cv)) 43 ∧
          wr.ownsRow (w.heap.size + 3) 3 1 (.slice av k cv) k ((daysS fr D k).map (Value.int .i64))) (fun _ i _ => 30 - (intOf i).toNat)
      case atStart => exact ⟨0, none, 0, by omega, by omega, rfl, rfl, HBL.out, HZ2.out.lt, HZ1.out, HZ3.out, HZ2.out, World.ownsRow_nil _ _ _ _⟩
      case round =>
        obtain ⟨k, av, cv, hk1, hk2, rfl, rfl, hbl, hsz, hz1', hz3, hz2', hown⟩ := hrel
        have HBL' := Lib.hid hbl
        have HZ1' := Lib.hid hz1'
        have HZ2' := Lib.hid hz2'
        have HZ3' := Lib.hid hz3
        have HO := Lib.hid hown
        have c0 : wr.cell? ⟨w.heap.size, 0, none⟩ = some (.int .u8 wk) := hz1'.cell 0
        have c1 : wr.cell? ⟨w.heap.size, 1, none⟩ = some (.slice a D.length cap) := hz1'.cell 1
        have q0 : wr.cell? ⟨w.heap.size + 1 + 1, 0, none⟩ = some (.bool (bk wk 7 0)) := hz2'.cell 0
        have q1 : wr.cell? ⟨w.heap.size + 1 + 1, 1, none⟩ = some (.bool (bk wk 7 1)) := hz2'.cell 1
        have q2 : wr.cell? ⟨w.heap.size + 1 + 1, 2, none⟩ = some (.bool (bk wk 7 2)) := hz2'.cell 2
        have q3 : wr.cell? ⟨w.heap.size + 1 + 1, 3, none⟩ = some (.bool (bk wk 7 3)) := hz2'.cell 3
        have q4 : wr.cell? ⟨w.heap.size + 1 + 1, 4, none⟩ = some (.bool (bk wk 7 4)) := hz2'.cell 4
        have q5 : wr.cell? ⟨w.heap.size + 1 + 1, 5, none⟩ = some (.bool (bk wk 7 5)) := hz2'.cell 5
        have q6 : wr.cell? ⟨w.heap.size + 1 + 1, 6, none⟩ = some (.bool (bk wk 7 6)) := hz2'.cell 6
        have q7 : wr.cell? ⟨w.heap.size + 1 + 1, 7, none⟩ = some (.slice av k cv) := hz2'.cell 7
        have qf := hz2'.frozen
        have hls := lastS_bd fr D k
        clear hz1' hz2' hz3 hbl hown
        by_cases g1 : k < D.length
        · by_cases g2 : k < 30
          · have g1' : decide ((k : Int) < (D.length : Int)) = true := by simp; omega
            have g2' : decide ((k : Int) < 30) = true := by simp; omega
            rcases hD.2 with h | ⟨b, o, rfl, hb, hcell⟩
            · rw [h] at g1; simp at g1
            have hck := hcell k g1
            obtain ⟨v, hv⟩ : ∃ v, v = D.getD k 0 := ⟨_, rfl⟩
            rw [← hv] at hck
            have hv8 : 0 ≤ v ∧ v ≤ 255 := by rw [hv, getD_get _ _ g1]; exact hD.1 _ (List.getElem_mem _)
            have hcw : wr.cell? ⟨b, o + k, none⟩ = some (.int .u8 v) := (HBL'.out.cell (p := ⟨b, o + k, none⟩) (by exact hb)).trans hck
            have HV := Lib.hid hv.symm
            clear hv hck
            have hX : RowKit.Hid (lastS fr D (k + 1) = lastS fr D k + 1 + v % 6) := by show _ = _; rw [lastS, HV.out]
            have hm6 : 0 ≤ v % 6 ∧ v % 6 < 6 := by omega
            go_wp2_with (at_builtin; refine wpList_append_own _ rfl (.tmp 45) (.tmp 47) 41 rfl (w.heap.size + 3) 3 i0 (.int .i64 0) 1 8 Try.underlying41 hi hz0 hz1 hz2 rfl (by decide) _ k ((daysS fr D k).map (Value.int .i64)) rfl (HO.out.alloc _) ⟨wr.heap.size, 0, none⟩ 1 1 [.int .i64 (lastS fr D k + 1 + v % 6)] rfl rfl ?c1 ?c2 ?c3 ?c4 ?c5 ?_)
            case c1 =>
              intro j u hj
              match j, hj with
              | 0, hj => simp at hj; subst hj; simp [Addr.add]
            case c2 => intro u hu; simp at hu; subst hu; rfl
            case c3 => unfold maxLen; omega
            case c4 => omega
            case c5 => simp; omega
            intro v' w' hown' hgrow hiff
            obtain ⟨g, cv', hv'⟩ := own_some hown'
            rw [hv'] at hown' ⊢
            have hb3 : Below (w.heap.size + 3) wr w' := ((Below.refl _ _).alloc hsz _).grown hgrow (by simp; omega) (fun k' hk' => own_base HO.out hk')
            have n0 := (HZ2'.out.below hb3 (by omega)).frozen
            have N1 := Lib.hid (HBL'.out.trans (hb3.mono (by omega)))
            have N2 := Lib.hid (HZ1'.out.below hb3 (by omega))
            have N3 := Lib.hid (HZ2'.out.below hb3 (by omega))
            have N4 := Lib.hid (HZ3'.out.below hb3 (by omega))
            have N5 := Lib.hid hb3.size
            have N6 := Lib.hid hown'
            have n7 : w'.cell? ⟨w.heap.size + 1 + 1, 7, none⟩ = some (.slice av k cv) := (HZ2'.out.below hb3 (by omega)).cell 7
            clear hown' hb3 hgrow hiff hv' c0 c1 q0 q1 q2 q3 q4 q5 q6 q7 qf hcw
            go_wp2_with fail
            go_roundw
            case rel =>
              refine ⟨k + 1, some ⟨g, 0, none⟩, cv', by omega, by omega, by go_num, vint hX.out.symm, N1.out.setCell (by show w.heap.size ≤ w.heap.size + 1 + 1; omega) _, by have := N5.out; simp; omega, N2.out.set_ne _ _ (by show w.heap.size ≠ w.heap.size + 1 + 1; omega), N4.out.set_ne _ _ (by show w.heap.size + 1 ≠ w.heap.size + 1 + 1; omega), (N3.out.set 7 _).cast (by simp), ?_⟩
              refine ownsRow_setCell_below ?_ (by show w.heap.size + 1 + 1 < w.heap.size + 3; omega) _
              have := N6.out
              rwa [daysS, List.map_append, List.map_singleton, hX.out]
            case measure => simp [intOf]; omega
          · have g1' : decide ((k : Int) < (D.length : Int)) = true := by simp; omega
            have g2' : decide ((k : Int) < 30) = false := by simp; omega
            have e : min D.length 30 = k := by omega
            have HE := Lib.hid e
            clear e
            have y0 : wr.cell? ⟨w.heap.size + 1, 0, none⟩ = some (.bool (bk 0 7 0)) := HZ3'.out.cell 0
            have y1 : wr.cell? ⟨w.heap.size + 1, 1, none⟩ = some (.bool (bk 0 7 1)) := HZ3'.out.cell 1
            have y2 : wr.cell? ⟨w.heap.size + 1, 2, none⟩ = some (.bool (bk 0 7 2)) := HZ3'.out.cell 2
            have y3 : wr.cell? ⟨w.heap.size + 1, 3, none⟩ = some (.bool (bk 0 7 3)) := HZ3'.out.cell 3
            have y4 : wr.cell? ⟨w.heap.size + 1, 4, none⟩ = some (.bool (bk 0 7 4)) := HZ3'.out.cell 4
            have y5 : wr.cell? ⟨w.heap.size + 1, 5, none⟩ = some (.bool (bk 0 7 5)) := HZ3'.out.cell 5
            have y6 : wr.cell? ⟨w.heap.size + 1, 6, none⟩ = some (.bool (bk 0 7 6)) := HZ3'.out.cell 6
            have y7 : wr.cell? ⟨w.heap.size + 1, 7, none⟩ = some (.slice none 0 0) := HZ3'.out.cell 7
            have yf := HZ3'.out.frozen
            go_wp2_with fail
            have W0 := HZ3'.out
            have W1 := W0.set 0 (.bool (bk wk 7 0))
            have W2 := W1.set 1 (.bool (bk wk 7 1))
            have W3 := W2.set 2 (.bool (bk wk 7 2))
            have W4 := W3.set 3 (.bool (bk wk 7 3))
            have W5 := W4.set 4 (.bool (bk wk 7 4))
            have W6 := W5.set 5 (.bool (bk wk 7 5))
            have W7 := W6.set 6 (.bool (bk wk 7 6))
            have W8 := W7.set 7 (.slice av k cv)
            have hfin : Below w.heap.size w (((((((( wr.setCell ⟨w.heap.size + 1, 0, none⟩ (.bool (bk wk 7 0))).setCell ⟨w.heap.size + 1, 1, none⟩ (.bool (bk wk 7 1))).setCell ⟨w.heap.size + 1, 2, none⟩ (.bool (bk wk 7 2))).setCell ⟨w.heap.size + 1, 3, none⟩ (.bool (bk wk 7 3))).setCell ⟨w.heap.size + 1, 4, none⟩ (.bool (bk wk 7 4))).setCell ⟨w.heap.size + 1, 5, none⟩ (.bool (bk wk 7 5))).setCell ⟨w.heap.size + 1, 6, none⟩ (.bool (bk wk 7 6))).setCell ⟨w.heap.size + 1, 7, none⟩ (.slice av k cv)) := (((((((HBL'.out.setCell (le1 _) _).setCell (le1 _) _).setCell (le1 _) _).setCell (le1 _) _).setCell (le1 _) _).setCell (le1 _) _).setCell (le1 _) _).setCell (le1 _) _
            have x0 := W8.cell 0
            have x1 := W8.cell 1
            have x2 := W8.cell 2
            have x3 := W8.cell 3
            have x4 := W8.cell 4
            have x5 := W8.cell 5
            have x6 := W8.cell 6
            have x7 := W8.cell 7
            simp at x0 x1 x2 x3 x4 x5 x6 x7
            have o0 := HO.out
            have o1 := ownsRow_setCell_below o0 (a := ⟨w.heap.size + 1, 0, none⟩) (by show w.heap.size + 1 < w.heap.size + 3; omega) (.bool (bk wk 7 0))
            have o2 := ownsRow_setCell_below o1 (a := ⟨w.heap.size + 1, 1, none⟩) (by show w.heap.size + 1 < w.heap.size + 3; omega) (.bool (bk wk 7 1))
            have o3 := ownsRow_setCell_below o2 (a := ⟨w.heap.size + 1, 2, none⟩) (by show w.heap.size + 1 < w.heap.size + 3; omega) (.bool (bk wk 7 2))
            have o4 := ownsRow_setCell_below o3 (a := ⟨w.heap.size + 1, 3, none⟩) (by show w.heap.size + 1 < w.heap.size + 3; omega) (.bool (bk wk 7 3))
            have o5 := ownsRow_setCell_below o4 (a := ⟨w.heap.size + 1, 4, none⟩) (by show w.heap.size + 1 < w.heap.size + 3; omega) (.bool (bk wk 7 4))
            have o6 := ownsRow_setCell_below o5 (a := ⟨w.heap.size + 1, 5, none⟩) (by show w.heap.size + 1 < w.heap.size + 3; omega) (.bool (bk wk 7 5))
            have o7 := ownsRow_setCell_below o6 (a := ⟨w.heap.size + 1, 6, none⟩) (by show w.heap.size + 1 < w.heap.size + 3; omega) (.bool (bk wk 7 6))
            have o8 := ownsRow_setCell_below o7 (a := ⟨w.heap.size + 1, 7, none⟩) (by show w.heap.size + 1 < w.heap.size + 3; omega) (.slice av k cv)
            have hI := own_ints o8 (daysS_len fr D k)
            refine bodyPost_ret (v := .agg (calK wk 7 (.slice av k cv))) ?_ rfl ⟨⟨av, cv, by simp only [calM, HE.out, Cal.cells, daysS_len]; simp [bk], ?_⟩, hfin⟩
            · simp [results, Try.results18, go_sem, x0, x1, x2, x3, x4, x5, x6, x7]
            · simpa only [calM, HE.out] using hI.mono (by omega)
        · have g1' : decide ((k : Int) < (D.length : Int)) = false := by simp; omega
          have e : min D.length 30 = k := by omega
          have HE := Lib.hid e
          clear e
          have y0 : wr.cell? ⟨w.heap.size + 1, 0, none⟩ = some (.bool (bk 0 7 0)) := HZ3'.out.cell 0
          have y1 : wr.cell? ⟨w.heap.size + 1, 1, none⟩ = some (.bool (bk 0 7 1)) := HZ3'.out.cell 1
          have y2 : wr.cell? ⟨w.heap.size + 1, 2, none⟩ = some (.bool (bk 0 7 2)) := HZ3'.out.cell 2
          have y3 : wr.cell? ⟨w.heap.size + 1, 3, none⟩ = some (.bool (bk 0 7 3)) := HZ3'.out.cell 3
          have y4 : wr.cell? ⟨w.heap.size + 1, 4, none⟩ = some (.bool (bk 0 7 4)) := HZ3'.out.cell 4
          have y5 : wr.cell? ⟨w.heap.size + 1, 5, none⟩ = some (.bool (bk 0 7 5)) := HZ3'.out.cell 5
          have y6 : wr.cell? ⟨w.heap.size + 1, 6, none⟩ = some (.bool (bk 0 7 6)) := HZ3'.out.cell 6
          have y7 : wr.cell? ⟨w.heap.size + 1, 7, none⟩ = some (.slice none 0 0) := HZ3'.out.cell 7
          have yf := HZ3'.out.frozen
          go_wp2_with fail
          have W0 := HZ3'.out
          have W1 := W0.set 0 (.bool (bk wk 7 0))
          have W2 := W1.set 1 (.bool (bk wk 7 1))
          have W3 := W2.set 2 (.bool (bk wk 7 2))
          have W4 := W3.set 3 (.bool (bk wk 7 3))
          have W5 := W4.set 4 (.bool (bk wk 7 4))
          have W6 := W5.set 5 (.bool (bk wk 7 5))
          have W7 := W6.set 6 (.bool (bk wk 7 6))
          have W8 := W7.set 7 (.slice av k cv)
          have hfin : Below w.heap.size w (((((((( wr.setCell ⟨w.heap.size + 1, 0, none⟩ (.bool (bk wk 7 0))).setCell ⟨w.heap.size + 1, 1, none⟩ (.bool (bk wk 7 1))).setCell ⟨w.heap.size + 1, 2, none⟩ (.bool (bk wk 7 2))).setCell ⟨w.heap.size + 1, 3, none⟩ (.bool (bk wk 7 3))).setCell ⟨w.heap.size + 1, 4, none⟩ (.bool (bk wk 7 4))).setCell ⟨w.heap.size + 1, 5, none⟩ (.bool (bk wk 7 5))).setCell ⟨w.heap.size + 1, 6, none⟩ (.bool (bk wk 7 6))).setCell ⟨w.heap.size + 1, 7, none⟩ (.slice av k cv)) := (((((((HBL'.out.setCell (le1 _) _).setCell (le1 _) _).setCell (le1 _) _).setCell (le1 _) _).setCell (le1 _) _).setCell (le1 _) _).setCell (le1 _) _).setCell (le1 _) _
          have x0 := W8.cell 0
          have x1 := W8.cell 1
          have x2 := W8.cell 2
          have x3 := W8.cell 3
          have x4 := W8.cell 4
          have x5 := W8.cell 5
          have x6 := W8.cell 6
          have x7 := W8.cell 7
          simp at x0 x1 x2 x3 x4 x5 x6 x7
          have o0 := HO.out
          have o1 := ownsRow_setCell_below o0 (a := ⟨w.heap.size + 1, 0, none⟩) (by show w.heap.size + 1 < w.heap.size + 3; omega) (.bool (bk wk 7 0))
          have o2 := ownsRow_setCell_below o1 (a := ⟨w.heap.size + 1, 1, none⟩) (by show w.heap.size + 1 < w.heap.size + 3; omega) (.bool (bk wk 7 1))
          have o3 := ownsRow_setCell_below o2 (a := ⟨w.heap.size + 1, 2, none⟩) (by show w.heap.size + 1 < w.heap.size + 3; omega) (.bool (bk wk 7 2))
          have o4 := ownsRow_setCell_below o3 (a := ⟨w.heap.size + 1, 3, none⟩) (by show w.heap.size + 1 < w.heap.size + 3; omega) (.bool (bk wk 7 3))
          have o5 := ownsRow_setCell_below o4 (a := ⟨w.heap.size + 1, 4, none⟩) (by show w.heap.size + 1 < w.heap.size + 3; omega) (.bool (bk wk 7 4))
          have o6 := ownsRow_setCell_below o5 (a := ⟨w.heap.size + 1, 5, none⟩) (by show w.heap.size + 1 < w.heap.size + 3; omega) (.bool (bk wk 7 5))
          have o7 := ownsRow_setCell_below o6 (a := ⟨w.heap.size + 1, 6, none⟩) (by show w.heap.size + 1 < w.heap.size + 3; omega) (.bool (bk wk 7 6))
          have o8 := ownsRow_setCell_below o7 (a := ⟨w.heap.size + 1, 7, none⟩) (by show w.heap.size + 1 < w.heap.size + 3; omega) (.slice av k cv)
          have hI := own_ints o8 (daysS_len fr D k)
          refine bodyPost_ret (v := .agg (calK wk 7 (.slice av k cv))) ?_ rfl ⟨⟨av, cv, by simp only [calM, HE.out, Cal.cells, daysS_len]; simp [bk], ?_⟩, hfin⟩
          · simp [results, Try.results18, go_sem, x0, x1, x2, x3, x4, x5, x6, x7]
          · simpa only [calM, HE.out] using hI.mono (by omega)
theorem made_any (wk : Int) (a : Option Addr) (D : List Int) (cap : Nat) (fr : Int) (w : World) (h0 : 0 ≤ wk) (h1 : wk ≤ 255) (hD : U8Sl w a D) (hDl : D.length ≤ 9223372036854775807) (f0 : -1000000 ≤ fr) (f1 : fr ≤ 1000000) :
    Calls Try.prog 18 #[.agg #[.int .u8 wk, .slice a D.length cap], .int .i64 fr] w fun e w' =>
      (∃ av cv, e = .returned (.agg ((calM wk fr D).cells av cv)) ∧ IntSl w' av (calM wk fr D).days) ∧ Below w.heap.size w w' :=
  (made_fresh wk a D cap fr w h0 h1 hD hDl f0 f1).mono fun _ _ ⟨⟨av, cv, he, hI⟩, hb⟩ => ⟨⟨av, cv, he, hI.toSl⟩, hb⟩
end Go.Proofs.Ytjikgoeinilnjaa
