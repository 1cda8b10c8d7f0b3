/- The law: neither the order in which a want names copies, nor copies that it names twice, or that do not exist, have an effect. -/
import Derived.Test.YtpcmppamkgkdlaaVQ
import Derived.Test.YtpcmppamkgkdlaaVH
import Derived.Test.YtpcmppamkgkdlaaTA
import Derived.Deep.LoopGhost
import Derived.Deep.AppendLies
import Derived.Deep.RegionLaw
import Derived.Deep.RegionHeld3
namespace Go.Proofs.Ytpcmppamkgkdlaa
open Go.RowKit

def rotL (l : List Int) (b j : Nat) : List Int := (List.range j).map fun i => l.getD ((l.length - 1 - i + b) % l.length) 0
theorem rotL_succ (l : List Int) (b j : Nat) : rotL l b (j + 1) = rotL l b j ++ [l.getD ((l.length - 1 - j + b) % l.length) 0] := by simp [rotL, List.range_succ]
theorem rotL_len (l : List Int) (b j : Nat) : (rotL l b j).length = j := by simp [rotL]
theorem rot_back {n i b : Nat} (hi : i < n) : (n - 1 - (n - 1 - i + b) % n + b) % n = i := by
  have h1 := Nat.div_add_mod (n - 1 - i + b) n
  have h2 : (n - 1 - i + b) % n < n := Nat.mod_lt _ (by omega)
  generalize (n - 1 - i + b) % n = j at *
  generalize (n - 1 - i + b) / n = q at *
  have e : n - 1 - j + b = i + n * q := by omega
  rw [e, Nat.add_mul_mod_self_left, Nat.mod_eq_of_lt hi]
theorem mem_rot {l : List Int} {b : Nat} {x : Int} : x ∈ rotL l b l.length ↔ x ∈ l := by
  constructor
  · intro h
    obtain ⟨j, hj, rfl⟩ := List.mem_map.1 h
    have hj := List.mem_range.1 hj
    have hq : (l.length - 1 - j + b) % l.length < l.length := Nat.mod_lt _ (by omega)
    rw [List.getD_eq_getElem?_getD, List.getElem?_eq_getElem hq]
    exact List.getElem_mem hq
  · intro h
    obtain ⟨i, hi, rfl⟩ := List.mem_iff_getElem.1 h
    refine List.mem_map.2 ⟨(l.length - 1 - i + b) % l.length, List.mem_range.2 (Nat.mod_lt _ (by omega)), ?_⟩
    rw [rot_back hi, List.getD_eq_getElem?_getD, List.getElem?_eq_getElem hi]; rfl
def mixL (l : List Int) (b : Nat) : List Int := rotL l b l.length ++ [-5, 77] ++ rotL l b l.length
theorem mixL_len (l : List Int) (b : Nat) : (mixL l b).length = l.length + 2 + l.length := by simp [mixL, rotL_len]; omega
theorem mem_mix {l : List Int} {b : Nat} {x : Int} : x ∈ mixL l b ↔ x ∈ l ∨ x = -5 ∨ x = 77 := by
  unfold mixL
  simp only [List.mem_append, mem_rot]
  simp only [List.mem_cons, List.not_mem_nil, or_false]
  constructor
  · rintro ((h | h) | h)
    · exact .inl h
    · exact .inr h
    · exact .inl h
  · rintro (h | h)
    · exact .inl (.inl h)
    · exact .inl (.inr h)
def mixW (L : List Wt) (b : Nat) : List Wt := (List.range L.length).map fun j => ((L.getD j noW).1, mixL (L.getD j noW).2 b)
theorem mixW_len (L : List Wt) (b : Nat) : (mixW L b).length = L.length := by simp [mixW]
theorem mixW_get (L : List Wt) (b : Nat) {j : Nat} (h : j < L.length) : (mixW L b).getD j noW = ((L.getD j noW).1, mixL (L.getD j noW).2 b) := by simp [mixW, List.getD_eq_getElem?_getD, h]
theorem mixW_cop (L : List Wt) (b : Nat) (h : ∀ k, (L.getD k noW).2.length ≤ 34) (k : Nat) : ((mixW L b).getD k noW).2.length ≤ 1000 := by
  rcases Nat.lt_or_ge k L.length with hk | hk
  · rw [mixW_get L b hk]
    show (mixL (L.getD k noW).2 b).length ≤ 1000
    rw [mixL_len]; have := h k; omega
  · rw [List.getD_eq_getElem?_getD, List.getElem?_eq_none (by rw [mixW_len]; exact hk)]; simp [noW]
theorem mix_best {L : List Wt} {A : List Int} {C : List (List Int)} {b : Nat} {a a' : Nat → Option Nat} (hA : A.length ≤ 16) (h : Best (prob L A C) a) (h' : Best (prob (mixW L b) A C) a') : a = a' := by
  refine Best.unique (Best.congr (P' := prob (mixW L b) A C) (mixW_len L b).symm (fun k c => ?_) (fun k c hc => ?_) h) h'
  · rw [prob_acc, prob_acc]
    rcases Nat.lt_or_ge k L.length with hk | hk
    · rw [mixW_get L b hk]
      show _ ↔ (c : Int) ∈ mixL _ _ ∧ _
      rw [mem_mix]
      constructor
      · rintro ⟨h1, h2⟩; exact ⟨.inl h1, h2⟩
      · rintro ⟨h1 | h1 | h1, h2⟩
        · exact ⟨h1, h2⟩
        · omega
        · omega
    · rw [List.getD_eq_getElem?_getD, List.getElem?_eq_none hk, List.getD_eq_getElem?_getD, List.getElem?_eq_none (by rw [mixW_len]; exact hk)]
  · show wayI C (A.getD c 0) (L.getD k noW).1 = wayI C (A.getD c 0) ((mixW L b).getD k noW).1
    rcases Nat.lt_or_ge k L.length with hk | hk
    · rw [mixW_get L b hk]
    · have e1 : L.getD k noW = noW := by rw [List.getD_eq_getElem?_getD, List.getElem?_eq_none hk]; rfl
      have e2 : (mixW L b).getD k noW = noW := by rw [List.getD_eq_getElem?_getD, List.getElem?_eq_none (by rw [mixW_len]; exact hk)]; rfl
      rw [e1, e2]
theorem wantsL_cop34 (wl : List (Int × Int)) (m k : Nat) : ((wantsL wl m).getD k noW).2.length ≤ 34 := by
  rcases Nat.lt_or_ge k (wantsL wl m).length with h | h
  · rw [List.getD_eq_getElem?_getD, List.getElem?_eq_getElem h]
    simp only [wantsL, List.getElem_map, Option.getD_some, wantU]
    exact copU_len _ _
  · rw [List.getD_eq_getElem?_getD, List.getElem?_eq_none h]; simp [noW]
/-- The wants while they are mixed, up to k. -/
def OM (B : Nat) (W : World) (lv : Value) (L : List Wt) (b k : Nat) : Prop :=
  Below B W W ∧ ((L.length = 0 ∧ ∃ a cap, lv = .slice a 0 cap) ∨ ∃ wb cap us, lv = .slice (some ⟨wb, 0, none⟩) L.length cap ∧ MW B W wb L.length (fun j => (L.getD j noW).1) us (fun j => if j < k then mixL (L.getD j noW).2 b else (L.getD j noW).2))
theorem OM.keep {B : Nat} {W W' : World} {lv : Value} {L : List Wt} {b k : Nat} (h : OM B W lv L b k) (hb : Below W.heap.size W W') : OM B W' lv L b k :=
  ⟨Below.refl _ _, h.2.imp id fun ⟨wb, cap, us, e, m⟩ => ⟨wb, cap, us, e, m.keep hb⟩⟩
theorem OM.wants {B : Nat} {W : World} {lv : Value} {L : List Wt} {b : Nat} (h : OM B W lv L b L.length) : Wants W W.heap.size lv (mixW L b) := by
  rcases h.2 with ⟨h0, a, cap, rfl⟩ | ⟨wb, cap, us, rfl, m⟩
  · exact ⟨a, cap, by rw [mixW_len, h0], .inl (List.eq_nil_of_length_eq_zero (by rw [mixW_len, h0]))⟩
  · have := (m.congr (us' := us) (cl' := fun j => mixL (L.getD j noW).2 b) (fun _ _ => rfl) fun j hj => if_pos hj).wants cap
    exact this
set_option maxRecDepth 100000 in
set_option maxHeartbeats 8000000 in
theorem orderLaw (cells : Array Value) (wl : List (Int × Int)) (al : List Int) (cs : Nat → Int) (b : Nat) (w : World) (hp : PrIn w w.heap.size cells wl al cs) (hcs : cells.size = 18) (hb256 : b < 256) :
    Calls Try.prog 10 #[.agg cells, .int .u8 b] w fun e w' => e = .returned (.bool true) ∧ Below w.heap.size w w' := by
  have HP := Lib.hid hp
  have HS := Lib.hid hcs
  clear hp hcs
  go_enter Try.func10, Try.ntmps10
  go_wp2_with fail
  obtain ⟨pb, hpb⟩ : ∃ pb, pb = w.heap.size := ⟨_, rfl⟩
  obtain ⟨W1, hW1⟩ : ∃ W1, W1 = w.alloc (.cells cells 27) := ⟨_, rfl⟩
  have PB : RowKit.Hid (Blk W1 pb cells 27) := Lib.hid (by rw [hW1, hpb]; exact Blk.new _ _ _)
  have B1 : RowKit.Hid (Below w.heap.size w W1) := Lib.hid (by rw [hW1]; exact (Below.refl _ _).alloc (Nat.le_refl _) _)
  have HZ : RowKit.Hid (W1.heap.size = pb + 1 ∧ pb = w.heap.size) := Lib.hid ⟨by rw [hW1, hpb]; simp, hpb⟩
  rw [← hW1, ← hpb]
  clear hW1 hpb
  refine (sanity_any W1).mono ?_
  rintro e w2 ⟨rfl, hb2⟩
  have B2 := Lib.hid hb2
  have PB2 := Lib.hid (PB.out.below hb2 PB.out.lt)
  have hz2 := hb2.size
  clear hb2
  go_wp2_with (refine wpList_load27 (.tmp 2) rfl rfl rfl PB2.out HS.out ?_)
  have PR2 : RowKit.Hid (PrIn w2 w.heap.size cells wl al cs) := Lib.hid (HP.out.below ((B1.out).trans (B2.out.mono (by have := HZ.out; omega))))
  refine (lists_any cells wl al cs 16 w2 w.heap.size PR2.out (by have := HZ.out; omega) (by omega)).mono ?_
  rintro e w3 ⟨wv, av, w0, ps, rfl, hWB, h0, hat, hb3⟩
  have B3 : RowKit.Hid (Below W1.heap.size W1 w3) := Lib.hid (B2.out.trans (hb3.mono hz2))
  have ST3 : RowKit.Hid (Sit w w3 pb cells (wantsL wl 16) (atL al 16) wv av) := Lib.hid ⟨PB.out.below B3.out PB.out.lt, B1.out.trans (B3.out.mono (by have := HZ.out; omega)), hWB.done, hat.mono hWB.bel.size⟩
  obtain ⟨aw, cw, hwv, -⟩ := ST3.out.wants
  obtain ⟨aa, ca, hav, -⟩ := ST3.out.at_
  have HN := Lib.hid (wantsL_le wl 16)
  obtain ⟨L, hL⟩ : ∃ L, L = wantsL wl 16 := ⟨_, rfl⟩
  have HLC : RowKit.Hid (∀ k, (L.getD k noW).2.length ≤ 1000) := Lib.hid fun k => by rw [hL]; exact wantsL_cop wl 16 k
  rw [← hL] at ST3 HN hwv
  obtain ⟨A, hA⟩ : ∃ A, A = atL al 16 := ⟨_, rfl⟩
  have HAL : RowKit.Hid (A.length ≤ 16) := Lib.hid (by rw [hA]; exact atL_le al 16)
  rw [← hA] at ST3 hav
  have HLL := Lib.hid hL
  have HAA := Lib.hid hA
  have hn := HN.out
  have han := HAL.out
  subst hwv hav
  obtain ⟨P, hP⟩ : ∃ P, P = prob L A (costsM cs) := ⟨_, rfl⟩
  have HPP := Lib.hid hP
  have hPm : P.m = L.length := by rw [hP]; rfl
  have hPn : P.n = A.length := by rw [hP]; rfl
  have HPM := Lib.hid (And.intro hPm hPn)
  clear hWB h0 hat hb3 hL hA PR2 hP hPm hPn PB PB2
  have HL34 : RowKit.Hid (∀ k, (L.getD k noW).2.length ≤ 34) := Lib.hid fun k => by rw [HLL.out]; exact wantsL_cop34 wl 16 k
  go_wp2_with (refine wpList_load27 (.tmp 2) rfl rfl rfl ST3.out.blk HS.out ?_)
  refine (costs_any cells cs w3 HP.out.c2).mono ?_
  rintro e w4 ⟨cv, rfl, hC, hb⟩
  have ST4 := Lib.hid (ST3.out.up hb)
  have Ccv := Lib.hid hC
  clear hb hC
  go_wp2_with fail
  refine (assign_any L A (costsM cs) w4 w4.heap.size _ _ _ ST4.out.wants ST4.out.at_ Ccv.out (by omega) (by omega) HLC.out (costsM_row cs) (Nat.le_refl _)).mono ?_
  rw [← HPP.out]
  rintro e w5 ⟨cp, g, rfl, hB, hblk, hg, hb⟩
  rw [HPM.out.1] at hblk ⊢
  have ST5 := Lib.hid (ST4.out.up hb)
  have BB := Lib.hid hB
  have G5 := Lib.hid hblk
  clear hb hB hg hblk
  go_wp2_with (refine wpList_load27 (.tmp 2) rfl rfl rfl ST5.out.blk HS.out ?_)
  have PR5 : RowKit.Hid (PrIn w5 w.heap.size cells wl al cs) := Lib.hid (HP.out.below ST5.out.bel)
  refine (lists_any cells wl al cs 16 w5 w.heap.size PR5.out ST5.out.bel.size (by omega)).mono ?_
  rintro e w6 ⟨ov, av2, w0', ps', rfl, hWB2, h02, hat2, hb6⟩
  rw [← HLL.out] at hWB2
  rw [← HAA.out] at hat2
  have ST6 := Lib.hid (ST5.out.up hb6)
  have G6 := Lib.hid (G5.out.below hb6 G5.out.lt)
  have OM6 : RowKit.Hid (OM w0'.heap.size w6 ov L b 0) := Lib.hid ⟨Below.refl _ _, by
    rcases Nat.eq_zero_or_pos L.length with h | h
    · obtain ⟨a, cap, e, -⟩ := hWB2.done
      exact .inl ⟨h, a, cap, by rw [e, h]⟩
    · obtain ⟨wb, cap, us, e, m⟩ := hWB2.mw h
      exact .inr ⟨wb, cap, us, e, m.congr (fun _ _ => rfl) fun j hj => by rw [if_neg (by omega)]⟩⟩
  have HB5 : RowKit.Hid (w5.heap.size ≤ w0'.heap.size ∧ w0'.heap.size ≤ w6.heap.size) := Lib.hid ⟨h02, hWB2.bel.size⟩
  obtain ⟨B5, hB5⟩ : ∃ B5, B5 = w0'.heap.size := ⟨_, rfl⟩
  rw [← hB5] at OM6 HB5
  obtain ⟨oa, oc, rfl⟩ : ∃ oa oc, ov = .slice oa L.length oc := by
    rcases OM6.out.2 with ⟨h0, a, cap, e⟩ | ⟨wb, cap, us, e, m⟩
    · exact ⟨a, cap, by rw [e, h0]⟩
    · exact ⟨_, cap, e⟩
  obtain ⟨va, vc, rfl⟩ : ∃ va vc, av2 = .slice va A.length vc := by obtain ⟨a, c, e, -⟩ := hat2; exact ⟨a, c, e⟩
  have BW6 := Lib.hid hb6
  clear hWB2 h02 hat2 hb6 hB5 PR5 ST3 ST4 B1 B2 B3 HZ Ccv
  obtain ⟨i3, hi, hi0, hi1, hi2⟩ := info_parts info3
  have HI := Lib.hid (And.intro hi (And.intro hi0 (And.intro hi1 hi2)))
  clear hi hi0 hi1 hi2
  go_wp2_with fail
  go_loopg [11] L.length (fun m v wr => ∃ k : Nat, k + m = L.length ∧ v = .int .i64 k ∧ OM B5 wr (.slice oa L.length oc) L b k ∧ Below w5.heap.size w5 wr)
  case atStart => exact ⟨0, by omega, rfl, OM6.out, BW6.out⟩
  case round =>
    obtain ⟨k, hk, rfl, hM, hb⟩ := hrel
    obtain ⟨g1, rfl⟩ : ∃ g1 : Nat, g1 = gk := ⟨_, rfl⟩
    obtain ⟨w7, rfl⟩ : ∃ w7 : World, w7 = wr := ⟨_, rfl⟩
    have M7 := Lib.hid hM
    have B7 := Lib.hid hb
    have HKG := Lib.hid hk
    clear hM hb hk
    by_cases hlt : k < L.length
    · rcases M7.out.2 with ⟨h0, -⟩ | ⟨wb, cap, us, hov, hmw⟩
      · omega
      obtain ⟨rfl, rfl⟩ : oa = some ⟨wb, 0, none⟩ ∧ oc = cap := by injection hov with e1 e2 e3; exact ⟨e1, e3⟩
      have MW7 := Lib.hid hmw
      clear hov hmw
      obtain ⟨a1, p1, hw, hw2⟩ := ST5.out.wants
      obtain ⟨rfl, rfl⟩ : aw = a1 ∧ cw = p1 := by injection hw with h1 h2 h3; exact ⟨h1, h3⟩
      rcases hw2 with h | ⟨bw, ow, rfl, hbw, hcw⟩
      · rw [h] at hlt; simp at hlt
      obtain ⟨u, -, e1', hu⟩ := hcw k hlt
      obtain ⟨au, cu, rfl, hI⟩ := hu
      have h34 := HL34.out k
      obtain ⟨lk, hlk⟩ : ∃ lk, lk = (L.getD k noW).2 := ⟨_, rfl⟩
      rw [← hlk] at e1' hI h34
      have HLK := Lib.hid hlk
      have E1 := Lib.hid e1'
      have HBW := Lib.hid hbw
      have HIK := Lib.hid hI
      have e1 := (B7.out.cell (p := ⟨bw, ow + k * 2 + 1, none⟩) hbw).trans e1'
      clear hw hcw e1' hlk hI hbw
      go_wp2_with fail
      clear e1
      go_loopg [12, 14] lk.length (fun m x v wr => ∃ (j : Nat) (lv : Value), j + m = lk.length ∧ v = .int .i64 j ∧ lv = x ∧ wr.ownsRow w7.heap.size 3 1 lv j ((rotL lk b j).map (Value.int .i64)) ∧ Below w7.heap.size w7 wr)
      case atStart => exact ⟨0, _, by omega, rfl, rfl, World.ownsRow_nil _ _ _ _, Below.refl _ _⟩
      case round =>
        obtain ⟨j, lv, hj, rfl, rfl, hR, hb⟩ := hrel
        obtain ⟨g2, rfl⟩ : ∃ g2 : Nat, g2 = gk := ⟨_, rfl⟩
        obtain ⟨w8, rfl⟩ : ∃ w8 : World, w8 = wr := ⟨_, rfl⟩
        have R8 := Lib.hid hR
        have B8 := Lib.hid hb
        have HJG := Lib.hid hj
        have hz8 := hb.size
        obtain ⟨la, lc, rfl, -⟩ := row_cell hR
        have B58 := Lib.hid (B7.out.trans (hb.mono B7.out.size))
        clear hR hb hj
        by_cases hjl : j < lk.length
        · rcases HIK.out with h | ⟨bu, ou, rfl, hbu, hcu⟩
          · rw [h] at hjl; simp at hjl
          have e1 := (B58.out.cell (p := ⟨bw, ow + k * 2 + 1, none⟩) HBW.out).trans E1.out
          have hq : (lk.length - 1 - j + b) % lk.length < lk.length := Nat.mod_lt _ (by omega)
          have e2 := (B58.out.cell (p := ⟨bu, ou + (lk.length - 1 - j + b) % lk.length, none⟩) hbu).trans (hcu _ hq)
          have RS := Lib.hid (rotL_succ lk b j)
          have hqi : ((lk.length : Int) - 1 - (j : Int) + (b : Int)) % (lk.length : Int) = (((lk.length - 1 - j + b) % lk.length : Nat) : Int) := by
            rw [Int.natCast_emod]; congr 1; omega
          have hqt : ((lk.length : Int) - 1 - (j : Int) + (b : Int)).tmod (lk.length : Int) = (((lk.length - 1 - j + b) % lk.length : Nat) : Int) := by
            rw [Int.tmod_eq_emod_of_nonneg (by omega)]; exact hqi
          obtain ⟨q, hqq⟩ : ∃ q, q = (lk.length - 1 - j + b) % lk.length := ⟨_, rfl⟩
          rw [← hqq] at hq e2 hqi hqt RS
          obtain ⟨x, hx⟩ : ∃ x, x = lk.getD q 0 := ⟨_, rfl⟩
          rw [← hx] at e2 RS
          obtain ⟨hi, hi0, hi1, hi2⟩ := HI.out
          have NW : RowKit.Hid (∀ j u, [Value.int .i64 x][j]? = some u → ((w8.alloc (.cells #[.int .i64 x] 3)).drew).cell? ((⟨w8.heap.size, 0, none⟩ : Addr).add j) = some u) := Lib.hid (news_ w8 _ 3)
          have RN : RowKit.Hid (((w8.alloc (.cells #[.int .i64 x] 3)).drew).ownsRow w7.heap.size 3 1 (.slice la j lc) j ((rotL lk b j).map (Value.int .i64))) := Lib.hid ((R8.out.alloc _).drew)
          have hnl : ¬ lk = [] := fun e => by rw [e] at hjl; simp at hjl
          have hw1 : IntKind.i64.wrap ((lk.length : Int) - 1) = (lk.length : Int) - 1 := IntWalk.i64_in _ (by omega)
          have hw2 : IntKind.i64.wrap ((lk.length : Int) - 1 - (j : Int)) = (lk.length : Int) - 1 - (j : Int) := IntWalk.i64_in _ (by omega)
          have hw3 : IntKind.i64.wrap (b : Int) = (b : Int) := IntWalk.i64_in _ (by omega)
          have hw4 : IntKind.i64.wrap ((lk.length : Int) - 1 - (j : Int) + (b : Int)) = (lk.length : Int) - 1 - (j : Int) + (b : Int) := IntWalk.i64_in _ (by omega)
          clear hcu hqq hx hqi
          go_wp2_with fail
          go_region_law ((refine step_append_lies _ (by rfl) (.tmp 52) (.tmp 69) 30 (by rfl) w7.heap.size 3 i3 (.int .i64 0) 1 8 Try.underlying30 hi hi0 hi1 hi2 rfl (by omega) (.slice la j lc) j _ (by rfl) RN.out ⟨w8.heap.size, 0, none⟩ 1 1 [.int .i64 x] (by rfl) (by rfl) NW.out (one_ rfl) (by omega) (by unfold maxLen; omega) (by omega) (by show _ ≤ (w8.alloc _).heap.size; rw [size_alloc]; omega) (w8.heap.size + 1) (size_alloc _ _) ?_; intro gg cap' w9 hown hgrow hat hlt9))
          all_goals
            have R9 : RowKit.Hid (w9.ownsRow w7.heap.size 3 1 (.slice (some ⟨gg, 0, none⟩) (j + 1) cap') (j + 1) ((rotL lk b (j + 1)).map (Value.int .i64))) := Lib.hid (by rw [RS.out, List.map_append]; exact hown)
            have B9 : RowKit.Hid (Below w7.heap.size w7 w9) := Lib.hid (B8.out.trans ((((Tn.of_below (F := fun b => (Value.slice la j lc).ownBlock = some b) ((Below.refl _ _).alloc (Nat.le_refl _) (.cells #[.int .i64 x] 3))).drew).then_ (Tn.of_grown hgrow) fun b e => .inl e).below hz8 fun b e => (row_lt R8.out b e).1))
            clear hown hgrow hat hi hi0 hi1 hi2 e1 e2 hqt hnl hw1 hw2 hw3 hw4
            go_wp2_with fail
            go_roundg (g2 - 1)
            case measure => have := HJG.out; omega
            case rel => exact ⟨j + 1, _, by have := HJG.out; omega, by go_num, rfl, R9.out, B9.out⟩
        · obtain rfl : j = lk.length := by have := HJG.out; omega
          obtain ⟨hi, hi0, hi1, hi2⟩ := HI.out
          have RL := Lib.hid (rotL_len lk b lk.length)
          have NW : RowKit.Hid (∀ j u, [Value.int .i64 (-5), Value.int .i64 77][j]? = some u → (w8.alloc (.cells #[.int .i64 (-5), .int .i64 77] 3)).cell? ((⟨w8.heap.size, 0, none⟩ : Addr).add j) = some u) := Lib.hid (news2 w8 _ _ 3)
          have RN : RowKit.Hid ((w8.alloc (.cells #[.int .i64 (-5), .int .i64 77] 3)).ownsRow w7.heap.size 3 1 (.slice la lk.length lc) lk.length ((rotL lk b lk.length).map (Value.int .i64))) := Lib.hid (R8.out.alloc _)
          go_wp2_with (at_builtin; go_must (refine wpList_append_keep rfl (.tmp 73) (.tmp 74) 30 rfl w7.heap.size 3 i3 (.int .i64 0) 8 Try.underlying30 hi hi0 hi1 hi2 rfl _ lk.length _ rfl RN.out ⟨w8.heap.size, 0, none⟩ 2 2 [.int .i64 (-5), .int .i64 77] rfl rfl NW.out (two_ rfl rfl) (by omega) (by unfold maxLen; omega) (by omega) (by rw [size_alloc]; omega) ?_))
          intro g9 cap9 w9 hown hgrow hat hkeep
          have R9 : RowKit.Hid (w9.ownsRow w7.heap.size 3 1 (.slice (some ⟨g9, 0, none⟩) (lk.length + 2) cap9) (lk.length + 2) ((rotL lk b lk.length ++ [-5, 77]).map (Value.int .i64))) := Lib.hid (by rw [List.map_append]; exact hown)
          have B9 : RowKit.Hid (Below w7.heap.size w7 w9) := Lib.hid (B8.out.trans (((Tn.of_below (F := fun b => (Value.slice la lk.length lc).ownBlock = some b) ((Below.refl _ _).alloc (Nat.le_refl _) (.cells #[.int .i64 (-5), .int .i64 77] 3))).then_ (Tn.of_grown hgrow) fun b e => .inl e).below hz8 fun b e => (row_lt R8.out b e).1))
          have SRC : RowKit.Hid ((Value.slice la lk.length lc = .slice none 0 0 ∧ lk.length = 0 ∧ ((rotL lk b lk.length).map (Value.int .i64)) = []) ∨ ∃ g0 c, Value.slice la lk.length lc = .slice (some ⟨g0, 0, none⟩) lk.length c ∧ ((rotL lk b lk.length).map (Value.int .i64)).length = lk.length ∧ ∀ j u, ((rotL lk b lk.length).map (Value.int .i64))[j]? = some u → w9.cell? ⟨g0, j, none⟩ = some u) := Lib.hid (by
            rcases row_src R8.out with h | ⟨g0, c, h1, h2, h3⟩
            · exact .inl h
            · refine .inr ⟨g0, c, h1, h2, fun j u hj => ?_⟩
              rw [List.getElem?_map] at hj
              obtain ⟨a, ha, rfl⟩ := Option.map_eq_some_iff.1 hj
              exact hkeep g0 h3 j a ha)
          have hz9 := B9.out.size
          clear hown hgrow hat hkeep RN NW
          go_wp2_with (at_builtin; go_must (refine wpList_append_row rfl (.tmp 75) (.tmp 76) 30 rfl w7.heap.size 3 i3 (.int .i64 0) 8 Try.underlying30 hi hi0 hi1 hi2 rfl _ (lk.length + 2) _ rfl R9.out lk.length _ SRC.out (ints1 _) (by unfold maxLen; omega) (by omega) (by omega) ?_))
          intro v9 w10 hown hgrow
          obtain ⟨ma, mc, rfl, -⟩ := row_cell hown
          have R10 : RowKit.Hid (w10.ownsRow w7.heap.size 3 1 (.slice ma (lk.length + 2 + lk.length) mc) (lk.length + 2 + lk.length) ((mixL lk b).map (Value.int .i64))) := Lib.hid (by
            have h := hown
            simp only [mixL, List.map_append, List.map_cons, List.map_nil, List.append_assoc, List.cons_append, List.nil_append] at h ⊢
            exact h)
          have B10 : RowKit.Hid (Below w7.heap.size w7 w10) := Lib.hid (B9.out.trans (((Tn.of_grown hgrow)).below hz9 fun b e => (row_lt R9.out b e).1))
          have M10 := Lib.hid (MW7.out.keep B10.out)
          have hwl := MW7.out.at_
          have I10 : RowKit.Hid (IntsIn w10 (fun b => B5 ≤ b ∧ b ≠ wb) (.slice ma (lk.length + 2 + lk.length) mc) (mixL lk b)) := Lib.hid (ints_of_row R10.out (mixL_len lk b).symm fun b h1 _ => by omega)
          have c1 := M10.out.c1 k hlt
          have cf := M10.out.fz
          obtain ⟨u1, u2, u3, hus⟩ : ∃ u1 u2 u3, us k = .slice u1 u2 u3 := by obtain ⟨a, c, e, -⟩ := M10.out.el k hlt; exact ⟨a, _, c, e⟩
          rw [hus] at c1
          have M11 : RowKit.Hid (OM B5 (w10.setCell ⟨wb, k * 2 + 1, none⟩ (.slice ma (lk.length + 2 + lk.length) mc)) (.slice (some ⟨wb, 0, none⟩) L.length oc) L b (k + 1)) := Lib.hid ⟨Below.refl _ _, .inr ⟨wb, oc, _, rfl, (M10.out.set hlt I10.out).congr (fun _ _ => rfl) fun j hj => by
            by_cases e : j = k
            · subst e; rw [if_pos rfl, if_pos (by omega), HLK.out]
            · rw [if_neg e]
              by_cases h : j < k
              · rw [if_pos h, if_pos (by omega)]
              · rw [if_neg h, if_neg (by omega)]⟩⟩
          have B11 : RowKit.Hid (Below w5.heap.size w5 (w10.setCell ⟨wb, k * 2 + 1, none⟩ (.slice ma (lk.length + 2 + lk.length) mc))) := Lib.hid ((B7.out.trans (B10.out.mono B7.out.size)).setCell (by show w5.heap.size ≤ wb; have := HB5.out; omega) _)
          clear hown hgrow hi hi0 hi1 hi2 hus
          go_wp2_with fail
          go_roundg (g1 - 1)
          case measure => have := HKG.out; omega
          case rel => exact ⟨k + 1, by have := HKG.out; omega, by go_num, M11.out, B11.out⟩
    · obtain rfl : k = L.length := by have := HKG.out; omega
      have OW := Lib.hid M7.out.wants
      have ST7 : RowKit.Hid (Sit w w7 pb cells L A (Value.slice aw L.length cw) (Value.slice aa A.length ca)) := Lib.hid (ST5.out.up B7.out)
      have G7 := Lib.hid (G5.out.below B7.out G5.out.lt)
      clear M7
      go_wp2_with (refine wpList_load27 (.tmp 2) rfl rfl rfl ST7.out.blk HS.out ?_)
      refine (costs_any cells cs w7 HP.out.c2).mono ?_
      rintro e w8 ⟨cv2, rfl, hC, hb⟩
      have ST8 := Lib.hid (ST7.out.up hb)
      have OW8 := Lib.hid (OW.out.up hb)
      have G8 := Lib.hid (G7.out.below hb G7.out.lt)
      have C8 := Lib.hid hC
      clear hb hC
      go_wp2_with fail
      refine (assign_any (mixW L b) A (costsM cs) w8 w8.heap.size _ _ _ OW8.out ST8.out.at_ C8.out (by rw [mixW_len]; omega) (by omega) (mixW_cop L b HL34.out) (costsM_row cs) (Nat.le_refl _)).mono ?_
      rintro e w9 ⟨cq, gq, rfl, hQ, hblk, hg, hb⟩
      obtain rfl : cp = cq := mix_best (by omega) (by rw [← HPP.out]; exact BB.out) hQ
      have hm9 : (prob (mixW L b) A (costsM cs)).m = L.length := mixW_len L b
      rw [hm9] at hblk ⊢
      have ST9 := Lib.hid (ST8.out.up hb)
      have G9 := Lib.hid (G8.out.below hb G8.out.lt)
      have H9 := Lib.hid hblk
      clear hQ hblk hg hb hm9
      go_wp2_with (refine wpList_load27 (.tmp 2) rfl rfl rfl ST9.out.blk HS.out ?_)
      have PR9 : RowKit.Hid (PrIn w9 w.heap.size cells wl al cs) := Lib.hid (HP.out.below ST9.out.bel)
      refine (lists_any cells wl al cs 16 w9 w.heap.size PR9.out ST9.out.bel.size (by omega)).mono ?_
      rintro e w10 ⟨nv, nat2, w0'', ps'', rfl, hWB3, h03, hat3, hb⟩
      rw [← HLL.out] at hWB3
      have ST10 := Lib.hid (ST9.out.up hb)
      have NW10 := Lib.hid hWB3.done
      have I10 := Lib.hid (outL_ints (G9.out.below hb G9.out.lt))
      have J10 := Lib.hid (outL_ints (H9.out.below hb H9.out.lt))
      obtain ⟨na, nc, hnv, -⟩ := NW10.out
      subst hnv
      clear hWB3 h03 hat3 hb PR9
      go_wp2_with fail
      go_loopg [18] L.length (fun m v wr => ∃ k : Nat, k + m = L.length ∧ v = .int .i64 k ∧ Below w10.heap.size w10 wr)
      case atStart => exact ⟨0, by omega, rfl, Below.refl _ _⟩
      case round =>
        obtain ⟨k, hk, rfl, hb⟩ := hrel
        obtain ⟨g3, rfl⟩ : ∃ g3 : Nat, g3 = gk := ⟨_, rfl⟩
        obtain ⟨w11, rfl⟩ : ∃ w11 : World, w11 = wr := ⟨_, rfl⟩
        have B11 := Lib.hid hb
        have HKG3 := Lib.hid hk
        clear hb hk
        by_cases hlt3 : k < L.length
        · have W11 := Lib.hid (ST10.out.wants.up B11.out)
          have N11 := Lib.hid (NW10.out.up B11.out)
          obtain ⟨a1, p1, hw, hw2⟩ := W11.out
          obtain ⟨rfl, rfl⟩ : aw = a1 ∧ cw = p1 := by injection hw with h1 h2 h3; exact ⟨h1, h3⟩
          rcases hw2 with h | ⟨bw, ow, rfl, hbw, hcw⟩
          · rw [h] at hlt3; simp at hlt3
          obtain ⟨u, e0, e1, hu⟩ := hcw k hlt3
          obtain ⟨a2, p2, hw', hw2'⟩ := N11.out
          obtain ⟨rfl, rfl⟩ : na = a2 ∧ nc = p2 := by injection hw' with h1 h2 h3; exact ⟨h1, h3⟩
          rcases hw2' with h | ⟨bn, on, rfl, hbn, hcn⟩
          · rw [h] at hlt3; simp at hlt3
          obtain ⟨u', f0, f1, hu'⟩ := hcn k hlt3
          have h34 := HL34.out k
          obtain ⟨lk, hlk⟩ : ∃ lk, lk = (L.getD k noW).2 := ⟨_, rfl⟩
          rw [← hlk] at hu hu' h34
          have KS := Lib.hid (same_val (w := w11.drew) (u := u') (v := u) (a := lk) hu' hu (by omega))
          obtain ⟨pp, hpp⟩ : ∃ pp, pp = (L.getD k noW).1 := ⟨_, rfl⟩
          rw [← hpp] at e0 f0
          obtain ⟨au, cu, hue, -⟩ := hu
          obtain ⟨an, cn, hune, -⟩ := hu'
          subst hue hune
          have E0 := Lib.hid (And.intro e0 (And.intro e1 (And.intro f0 f1)))
          have HBB := Lib.hid (And.intro hbw hbn)
          clear hw hcw hw' hcn hpp hbw hbn hlk
          go_wp2_with fail
          go_region_held3 (fun w' => w'.cell? ⟨bw, ow + k * 2, none⟩ = some (.int .i64 pp) ∧ w'.cell? ⟨bw, ow + k * 2 + 1, none⟩ = some (.slice au lk.length cu) ∧ w'.cell? ⟨bn, on + k * 2, none⟩ = some (.int .i64 pp) ∧ w'.cell? ⟨bn, on + k * 2 + 1, none⟩ = some (.slice an lk.length cn)) (first | exact E0.out | assumption | exact ⟨q0, q1, q2, q3⟩) (first | (go_at_call 18; refine KS.out.mono ?_; rintro e w12 ⟨rfl, hb12⟩; have q0 := (hb12.cell (p := ⟨bw, ow + k * 2, none⟩) HBB.out.1).trans E0.out.1; have q1 := (hb12.cell (p := ⟨bw, ow + k * 2 + 1, none⟩) HBB.out.1).trans E0.out.2.1; have q2 := (hb12.cell (p := ⟨bn, on + k * 2, none⟩) HBB.out.2).trans E0.out.2.2.1; have q3 := (hb12.cell (p := ⟨bn, on + k * 2 + 1, none⟩) HBB.out.2).trans E0.out.2.2.2))
          all_goals
            have B12 : RowKit.Hid (Below w10.heap.size w10 w12) := Lib.hid (B11.out.trans ((⟨hb12.os, hb12.tape, hb12.output, hb12.size, hb12.block⟩ : Below w11.heap.size w11 w12).mono B11.out.size))
            clear hb12 q0 q1 q2 q3 e0 e1 f0 f1
            go_wp2_with fail
            go_roundg (g3 - 1)
            case measure => have := HKG3.out; omega
            case rel => exact ⟨k + 1, by have := HKG3.out; omega, by go_num, B12.out⟩
        · obtain rfl : k = L.length := by have := HKG3.out; omega
          have I11 := Lib.hid (I10.out.up B11.out)
          have J11 := Lib.hid (J10.out.up B11.out)
          have ST11 := Lib.hid (ST10.out.up B11.out)
          go_wp2_with fail
          refine (same_val I11.out J11.out (by rw [outL_len]; omega)).mono ?_
          rintro e w12 ⟨rfl, hb⟩
          have F := Lib.hid (ST11.out.bel.trans (hb.mono ST11.out.bel.size))
          clear hb
          go_wp2_with fail
          go_ret
          exact ⟨rfl, F.out⟩
end Go.Proofs.Ytpcmppamkgkdlaa
