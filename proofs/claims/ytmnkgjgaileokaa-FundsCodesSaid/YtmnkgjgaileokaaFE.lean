/- The contract of Add. -/
import Derived.Test.YtmnkgjgaileokaaFD
namespace Go.Proofs.Ytmnkgjgaileokaa
open Go.RowKit

def FS.linkS (s : FS) (p x : Int) (v : Value) : FS :=
  { s with bl := fun y => if y = p then v else s.bl y, kids := fun y => if y = p then s.kids p ++ [x] else s.kids y, o := fun i => if v.ownBlock = some i then .row p else s.o i }
theorem Mem.link {w w' : World} {s : FS} (h : Mem w s) {p x : Int} (hp : p ∈ s.ids) (hx : x ∈ s.ids) {v : Value} (hsz : w.heap.size ≤ w'.heap.size)
    (hk : ∀ i, s.o i ≠ .none → i ≠ s.g p → (s.bl p).ownBlock ≠ some i → w'.heap[i]? = w.heap[i]?)
    (hc : Blk w' (s.g p) (fcells p (s.pa p) (s.al p) (s.sp p) (s.en p) v) 71)
    (hrow : w'.ownsRow 0 68 1 v ((s.kids p).length + 1) (((s.kids p).map fun y => ptr (s.g y)) ++ [ptr (s.g x)]))
    (hv : ∀ r, v.ownBlock = some r → ((s.bl p).ownBlock = some r ∨ w.heap.size ≤ r) ∧ r < w'.heap.size) : Mem w' (s.linkS p x v) := by
  have hvo : ∀ r, v.ownBlock = some r → s.o r = .row p ∨ s.o r = .none := fun r hr => by
    rcases (hv r hr).1 with h1 | h1
    · exact .inl (h.orow p hp r h1)
    · exact .inr (h.fresh r h1)
  have oo : ∀ i, s.o i ≠ .none → s.o i ≠ .row p → (s.linkS p x v).o i = s.o i := fun i h1 h2 => by
    show (if v.ownBlock = some i then Own.row p else s.o i) = s.o i
    rw [if_neg (fun e => by rcases hvo i e with h3 | h3 <;> contradiction)]
  have keep : ∀ i, s.o i ≠ .none → s.o i ≠ .fund p → s.o i ≠ .row p → w'.heap[i]? = w.heap[i]? := fun i h1 h2 h3 =>
    hk i h1 (fun e => h2 (by rw [e]; exact h.ofund p hp)) (fun e => h3 (h.orow p hp i e))
  refine ⟨?_, ?_, ?_, ?_, ?_, ?_, ?_, ?_, ?_⟩
  · intro i hi
    show (if v.ownBlock = some i then Own.row p else s.o i) = .none
    rw [if_neg (fun e => by have := (hv i e).2; omega)]
    exact h.fresh i (by omega)
  · have h1 := h.ofb
    show Blk w' s.fb _ 53
    unfold Blk
    rw [keep _ (by rw [h1]; simp) (by rw [h1]; simp) (by rw [h1]; simp)]; exact h.fb
  · have h1 := h.ofb
    rw [show (s.linkS p x v).fb = s.fb from rfl, oo _ (by rw [h1]; simp) (by rw [h1]; simp)]; exact h1
  · intro y hy
    by_cases e : y = p
    · subst e
      exact hc.cast (by simp [FS.cells, FS.linkS])
    · have h1 := h.ofund y hy
      have e2 : (s.linkS p x v).cells y = s.cells y := by simp [FS.cells, FS.linkS, e]
      rw [e2]
      show Blk w' (s.g y) _ 71
      unfold Blk
      rw [keep _ (by rw [h1]; simp) (by rw [h1]; simpa using e) (by rw [h1]; simp)]; exact h.fund y hy
  · intro y hy
    have h1 := h.ofund y hy
    rw [show (s.linkS p x v).g = s.g from rfl, oo _ (by rw [h1]; simp) (by rw [h1]; simp)]; exact h1
  · intro y hy
    by_cases e : y = p
    · subst e
      have e1 : (s.linkS y x v).kids y = s.kids y ++ [x] := if_pos rfl
      have e2 : (s.linkS y x v).bl y = v := if_pos rfl
      rw [e1, e2, List.map_append, List.length_append]
      exact hrow
    · have e1 : (s.linkS p x v).kids y = s.kids y := if_neg e
      have e2 : (s.linkS p x v).bl y = s.bl y := if_neg e
      rw [e1, e2]
      refine owns_same (h.row y hy) fun r hr => ?_
      have h4 := h.orow y hy r hr
      exact keep r (by rw [h4]; simp) (by rw [h4]; simp) (by rw [h4]; simpa using e)
  · intro y hy r hr
    by_cases e : y = p
    · subst e
      have e2 : (s.linkS y x v).bl y = v := if_pos rfl
      rw [e2] at hr
      exact if_pos hr
    · have e2 : (s.linkS p x v).bl y = s.bl y := if_neg e
      rw [e2] at hr
      have h4 := h.orow y hy r hr
      rw [oo _ (by rw [h4]; simp) (by rw [h4]; simpa using e)]; exact h4
  · intro y hy z hz
    by_cases e : y = p
    · subst e
      have e1 : (s.linkS y x v).kids y = s.kids y ++ [x] := if_pos rfl
      rw [e1] at hz
      rcases List.mem_append.1 hz with h' | h'
      · exact h.kin y hy z h'
      · obtain rfl : z = x := by simpa using h'
        exact hx
    · have e1 : (s.linkS p x v).kids y = s.kids y := if_neg e
      rw [e1] at hz; exact h.kin y hy z hz
  · rcases h.map with h1 | ⟨b, D, h1, h2, h3, h4⟩
    · exact .inl h1
    · refine .inr ⟨b, D, h1, ?_, map_same h3 (keep b (by rw [h2]; simp) (by rw [h2]; simp) (by rw [h2]; simp)), h4⟩
      rw [oo _ (by rw [h2]; simp) (by rw [h2]; simp)]; exact h2
theorem Turn.link {w w' : World} {s : FS} (h : Mem w s) {p x : Int} (hp : p ∈ s.ids) {v : Value} (os : w'.os = w.os) (tape : w'.tape = w.tape) (out : w'.output = w.output) (hsz : w.heap.size ≤ w'.heap.size)
    (hk : ∀ i, i < w.heap.size → i ≠ s.g p → (s.bl p).ownBlock ≠ some i → w'.heap[i]? = w.heap[i]?) (hv : ∀ r, v.ownBlock = some r → (s.bl p).ownBlock = some r ∨ w.heap.size ≤ r) : Turn s w (s.linkS p x v) w' :=
  ⟨os, tape, out, hsz, fun i hi hn => hk i hi (fun e => h.fow hp (by rw [← e]; exact hn)) (fun e => by rw [h.orow p hp i e] at hn; cases hn), fun i hi hn => by
    show (if v.ownBlock = some i then Own.row p else s.o i) = .none
    rw [if_neg (fun e => by
      rcases hv i e with h1 | h1
      · rw [h.orow p hp i h1] at hn; cases hn
      · omega)]
    exact hn⟩

/-- The state without its places. -/
structure PV where
  m : Int
  ids : List Int
  pa : Int → Int
  al : Int → Int
  sp : Int → Int
  en : Int → Int
  kids : Int → List Int
def FS.pv (s : FS) : PV := ⟨s.m, s.ids, s.pa, s.al, s.sp, s.en, s.kids⟩
def PV.put (v : PV) (x p a e f : Int) : PV := ⟨v.m + a, v.ids ++ [x], upd v.pa x p, upd v.al x a, upd v.sp x e, upd v.en x f, fun y => if y = x then [] else v.kids y⟩
def PV.link (v : PV) (p x : Int) : PV := { v with kids := fun y => if y = p then v.kids p ++ [x] else v.kids y }
def PV.add (v : PV) (x p a : Int) : Int × PV :=
  if x < 1 ∨ min p a < 0 then (1, v) else if x ∈ v.ids then (22, v) else if p ≠ 0 ∧ p ∉ v.ids then (32, v)
  else if 10000 ≤ v.ids.length ∨ 1000000000000000 - v.m < a then (2, v)
  else (0, if p ∈ v.ids then (v.put x p a 0 0).link p x else v.put x p a 0 0)
theorem Mem.len {w : World} {s : FS} (h : Mem w s) (ty : TypeId) : (Builtin.len_ #[51] ty #[.map s.bm]).run Try.prog w = .ok (.int .i64 s.ids.length) w := by
  rcases h.map with ⟨h1, h2⟩ | ⟨b, D, h1, _, h3, h4⟩
  · rw [h1, h2]; exact Maps.len_nil Try.underlying51 ty
  · rw [h1, h3.len Try.underlying51 ty, h4.size]
theorem info68 : (Try.prog.info? 68).map (fun i => (i.zero, i.size, i.bytes)) = some (some (.pointer none), 1, 8) := by kernel_rfl
theorem one68 (g : Nat) : ∀ u ∈ [ptr g], u.oneCell' = true := by intro u hu; simp at hu; subst hu; rfl
theorem news1 (w : World) (v : Value) (T : TypeId) : ∀ (j : Nat) (u : Value), [v][j]? = some u → (w.alloc (.cells #[v] T)).cell? (Addr.add ⟨w.heap.size, 0, none⟩ j) = some u := by
  intro j u hj
  match j, hj with
  | 0, hj => simp at hj; subst hj; simp [Addr.add]
theorem grow_blk' {w w' : World} {i : Nat} {row : Option Nat} {xs : Array Value} {T : TypeId} (k : Blk w i xs T) (hg : w.grownBy w' row) (hne : some i ≠ row) : Blk w' i xs T := by
  unfold Blk; rw [hg.block i k.lt hne]; exact k
theorem own_some {w : World} {B : Nat} {e : TypeId} {z n : Nat} {v : Value} {xs : List Value} (h : w.ownsRow B e z v (n + 1) xs) : ∃ g c, v = .slice (some ⟨g, 0, none⟩) (n + 1) c := by
  obtain ⟨_, ⟨_, h0⟩ | ⟨g, c, cur, rfl, _⟩⟩ := h
  · omega
  · exact ⟨g, c, rfl⟩
theorem own_lt {w : World} {e : TypeId} {z n : Nat} {v : Value} {xs : List Value} {r : Nat} (h : w.ownsRow 0 e z v n xs) (hr : v.ownBlock = some r) : r < w.heap.size := by
  obtain ⟨_, ⟨rfl, _⟩ | ⟨g, c, cur, rfl, _, h3, _⟩⟩ := h
  · cases hr
  · have : some g = some r := hr
    injection this with this
    rw [← this]; exact heap_lt h3
set_option maxRecDepth 100000 in
set_option maxHeartbeats 4000000 in
theorem add_any {w : World} {s : FS} (h : Mem w s) (hn : Num s) (hm0 : 0 ≤ s.m) (hm1 : s.m ≤ 1000000000000000) (hkl : ∀ x ∈ s.ids, (s.kids x).length ≤ 100000) (x p a : Int)
    (h0 : -9223372036854775808 ≤ x) (h1 : x ≤ 9223372036854775807) (h2 : -9223372036854775808 ≤ p) (h3 : p ≤ 9223372036854775807) (h4 : -9223372036854775808 ≤ a) (h5 : a ≤ 9223372036854775807) :
    Calls Try.prog 21 #[.pointer (some ⟨s.fb, 0, none⟩), .int .i64 x, .int .i64 p, .int .i64 a] w fun r w' => r = .returned (.int .i64 (s.pv.add x p a).1) ∧ ∃ s', Mem w' s' ∧ Turn s w s' w' ∧ s'.pv = (s.pv.add x p a).2 ∧ s'.fb = s.fb := by
  have hcase : p ≤ a ∨ a < p := by omega
  rcases hcase with hpa0 | hpa0
  all_goals
    obtain ⟨c0, c1⟩ := h.fbc
    have hlx := h.lookup x h0 h1
    have hlp := h.lookup p h2 h3
    have hln := h.len
    have HM := Lib.hid h
    have HN := Lib.hid hn
    by_cases g1 : x < 1
    · have hv : s.pv.add x p a = (1, s.pv) := if_pos (.inl g1)
      have hd1 : decide (x < 1) = true := by simpa using g1
      rw [hv]
      clear h hv hn hlx hlp hkl hln
      go_enter Try.func21, Try.ntmps21
      go_wp2_with fail
      go_ret
      exact ⟨rfl, s, HM.out, Turn.refl _ _, rfl, rfl⟩
    have hd1 : decide (x < 1) = false := by simpa using g1
    by_cases g2 : min p a < 0
    · have hv : s.pv.add x p a = (1, s.pv) := if_pos (.inr g2)
      have hd2 : decide (min p a < 0) = true := by simpa using g2
      first | rw [Int.min_eq_left hpa0] at hd2 | rw [Int.min_eq_right (Int.le_of_lt hpa0)] at hd2
      rw [hv]
      clear h hv hn hlx hlp hkl hln g2
      go_enter Try.func21, Try.ntmps21
      go_wp2_with fail
      go_ret
      exact ⟨rfl, s, HM.out, Turn.refl _ _, rfl, rfl⟩
    have hd2 : decide (min p a < 0) = false := by simpa using g2
    first | rw [Int.min_eq_left hpa0] at hd2 | rw [Int.min_eq_right (Int.le_of_lt hpa0)] at hd2
    have hpa : 0 ≤ p ∧ 0 ≤ a := by omega
    have hlk2 : ∃ lp, lp = s.look p := ⟨_, rfl⟩
    by_cases g3 : x ∈ s.ids
    · have hv : s.pv.add x p a = (22, s.pv) := by rw [PV.add, if_neg (by simp only [not_or]; exact ⟨g1, g2⟩), if_pos (show x ∈ s.pv.ids from g3)]
      rw [hv]
      rw [look_yes g3] at hlx
      obtain ⟨lp, hlp'⟩ := hlk2
      rw [← hlp'] at hlp
      clear h hv hn hkl hln g2 g3 hlp'
      go_enter Try.func21, Try.ntmps21
      go_wp2_with fail
      go_ret
      exact ⟨rfl, s, HM.out, Turn.refl _ _, rfl, rfl⟩
    rw [look_no g3] at hlx
    by_cases g4 : p ≠ 0 ∧ p ∉ s.ids
    · have hv : s.pv.add x p a = (32, s.pv) := by rw [PV.add, if_neg (by simp only [not_or]; exact ⟨g1, g2⟩), if_neg (show ¬ x ∈ s.pv.ids from g3), if_pos (show p ≠ 0 ∧ p ∉ s.pv.ids from g4)]
      rw [hv]
      rw [look_no g4.2] at hlp
      have hd4 : (p != 0) = true := by simpa using g4.1
      clear h hv hn hkl hln g2 g3 g4 hlk2
      go_enter Try.func21, Try.ntmps21
      go_wp2_with fail
      go_ret
      exact ⟨rfl, s, HM.out, Turn.refl _ _, rfl, rfl⟩
    have hxn : x ∉ s.pv.ids := g3
    have g4' : ¬ (p ≠ 0 ∧ p ∉ s.pv.ids) := g4
    have hpc : (p ∉ s.ids ∧ (p != 0) = false ∧ s.look p = .pointer none) ∨ (p ∈ s.ids ∧ (p != 0) = true ∧ s.look p = .pointer (some ⟨s.g p, 0, none⟩)) := by
      by_cases hp : p ∈ s.ids
      · exact .inr ⟨hp, by have := (hn.idb p hp).1; simp; omega, look_yes hp⟩
      · exact .inl ⟨hp, by simpa [hp] using g4, look_no hp⟩
    by_cases g5 : 10000 ≤ s.ids.length
    · have hv : s.pv.add x p a = (2, s.pv) := by rw [PV.add, if_neg (by simp only [not_or]; exact ⟨g1, g2⟩), if_neg hxn, if_neg g4', if_pos (.inl g5)]
      have hd5 : decide ((10000 : Int) ≤ (s.ids.length : Int)) = true := by simp; omega
      rw [hv]
      clear h hv hn hkl g2 g3 g4 hlk2 hxn g4'
      rcases hpc with ⟨_, hd4, e⟩ | ⟨_, hd4, e⟩
      all_goals
        rw [e] at hlp
        clear e
        go_enter Try.func21, Try.ntmps21
        go_wp2_with fail
        go_ret
        exact ⟨rfl, s, HM.out, Turn.refl _ _, rfl, rfl⟩
    have hd5 : decide ((10000 : Int) ≤ (s.ids.length : Int)) = false := by simp; omega
    by_cases g6 : 1000000000000000 - s.m < a
    · have hv : s.pv.add x p a = (2, s.pv) := by rw [PV.add, if_neg (by simp only [not_or]; exact ⟨g1, g2⟩), if_neg hxn, if_neg g4', if_pos (.inr g6)]
      have hd6 : decide (1000000000000000 - s.m < a) = true := by simpa using g6
      rw [hv]
      clear h hv hn hkl g2 g3 g4 hlk2 hxn g4'
      rcases hpc with ⟨_, hd4, e⟩ | ⟨_, hd4, e⟩
      all_goals
        rw [e] at hlp
        clear e
        go_enter Try.func21, Try.ntmps21
        go_wp2_with fail
        go_ret
        exact ⟨rfl, s, HM.out, Turn.refl _ _, rfl, rfl⟩
    have hd6 : decide (1000000000000000 - s.m < a) = false := by simpa using g6
    have hv : s.pv.add x p a = (0, if p ∈ s.pv.ids then (s.pv.put x p a 0 0).link p x else s.pv.put x p a 0 0) := by
      rw [PV.add, if_neg (by simp only [not_or]; exact ⟨g1, g2⟩), if_neg hxn, if_neg g4', if_neg (by simp only [not_or]; exact ⟨g5, g6⟩)]
    rw [hv]
    have key := Lib.hid (put_any h x p a 0 0 g3 h0 h1 (by omega) (by omega) (by omega) (by omega) (by omega))
    obtain ⟨i0, hi, hz0, hz1, hz2⟩ := info_parts info68
    rcases hpc with ⟨hp, hd4, e⟩ | ⟨hp, hd4, e⟩
    · rw [e] at hlp
      rw [if_neg (show p ∉ s.pv.ids from hp)]
      clear e h hv hn hkl g2 g3 g4 hlk2 hxn g4' hp
      go_enter Try.func21, Try.ntmps21
      go_wp2_with fail
      refine key.out.mono ?_
      rintro e w1 ⟨b, gn, rfl, hM, hT, _, _⟩
      have M1 := Lib.hid hM
      have T1 := Lib.hid hT
      clear hM hT
      go_wp2_with fail
      go_ret
      exact ⟨rfl, _, M1.out, T1.out, rfl, rfl⟩
    · rw [e] at hlp
      rw [if_pos (show p ∈ s.pv.ids from hp)]
      have hkp := hkl p hp
      have hpx : p ≠ x := fun e => g3 (e ▸ hp)
      have HP := Lib.hid hp
      have HPX := Lib.hid hpx
      clear e h hv hn hkl g2 g3 g4 hlk2 hxn g4' hp hpx
      go_enter Try.func21, Try.ntmps21
      go_wp2_with fail
      refine key.out.mono ?_
      rintro e w1 ⟨b, gn, rfl, hM, hT, _, _⟩
      have hp1 : p ∈ (s.putS x p a 0 0 b gn).ids := List.mem_append.2 (.inl HP.out)
      have hx1 : x ∈ (s.putS x p a 0 0 b gn).ids := List.mem_append.2 (.inr (by simp))
      have eg : (s.putS x p a 0 0 b gn).g p = s.g p := if_neg HPX.out
      have egx : (s.putS x p a 0 0 b gn).g x = gn := if_pos rfl
      have ek : (s.putS x p a 0 0 b gn).kids p = s.kids p := if_neg HPX.out
      have hrow := Lib.hid (hM.row p hp1)
      have hF := hM.fund p hp1
      have hR := Lib.hid (show ∀ r, ((s.putS x p a 0 0 b gn).bl p).ownBlock = some r → s.g p ≠ r from fun r hr => own_ne (s := s.putS x p a 0 0 b gn) (a := .fund p) (b := .row p) (by simp) (by rw [← eg]; exact hM.ofund p hp1) (hM.orow p hp1 r hr))
      rw [ek] at hrow
      rw [eg] at hF
      have hF' := Lib.hid hF
      obtain ⟨q0, q1, q2, q3, q4, q5⟩ := fcellE hF
      have hzg := hF.lt
      have M1 := Lib.hid hM
      have T1 := Lib.hid hT
      have P1 := Lib.hid hp1
      have X1 := Lib.hid hx1
      have EG := Lib.hid eg
      have EGX := Lib.hid egx
      have EK := Lib.hid ek
      have EP := Lib.hid (show (s.putS x p a 0 0 b gn).pv = s.pv.put x p a 0 0 from rfl)
      have EF := Lib.hid (show (s.putS x p a 0 0 b gn).fb = s.fb from rfl)
      clear hM hT hp1 hx1 eg egx ek hF key
      generalize s.putS x p a 0 0 b gn = s1 at *
      go_wp2_with (at_builtin; refine wpList_append_own_at _ rfl (.tmp 72) (.tmp 74) 69 rfl 0 68 i0 (.pointer none) 1 8 Try.underlying69 hi hz0 hz1 hz2 rfl (by decide) _ _ _ rfl (hrow.out.alloc _) ⟨w1.heap.size, 0, none⟩ 1 1 [ptr gn] rfl rfl (news1 w1 _ 68) (one68 gn) (by unfold maxLen; omega) (by omega) (Nat.zero_le _) ?_)
      intro v' w2 hown hgrow hnil hloc
      obtain ⟨ga, ca, rfl⟩ := own_some hown
      have hF2 := grow_blk' (hF'.out.alloc _) hgrow (fun e => hR.out _ e.symm rfl)
      have k5 : w2.cell? ⟨s.g p, 5, none⟩ = some (s1.bl p) := hF2.cell 5
      have kf := hF2.frozen
      have HF2 := Lib.hid hF2
      have HOW := Lib.hid hown
      have HGR := Lib.hid hgrow
      have HLO := Lib.hid hloc
      clear hF2 hown hgrow hnil hloc q0 q1 q2 q3 q4 q5
      go_wp2_with fail
      go_ret
      have hv0 : ∀ r, (Value.slice (some ⟨ga, 0, none⟩) ((s.kids p).length + 1) ca).ownBlock = some r → (s1.bl p).ownBlock = some r ∨ w1.heap.size ≤ r := fun r hr => by
        rcases HLO.out with e | e
        · exact .inl (by rw [← e]; exact hr)
        · rw [e] at hr; injection hr with hr; right; omega
      have hrg : ∀ r, (Value.slice (some ⟨ga, 0, none⟩) ((s.kids p).length + 1) ca).ownBlock = some r → r ≠ s.g p := fun r hr e => by
        rcases hv0 r hr with e1 | e1
        · exact hR.out r e1 e.symm
        · omega
      have hk : ∀ i, i < w1.heap.size → i ≠ s.g p → (s1.bl p).ownBlock ≠ some i → (w2.setCell ⟨s.g p, 5, none⟩ (.slice (some ⟨ga, 0, none⟩) ((s.kids p).length + 1) ca)).heap[i]? = w1.heap[i]? := fun i h6 h7 h8 =>
        (Below.heap_setCell _ _ _ _ h7).trans ((HGR.out.block i (by rw [size_alloc]; omega) (Ne.symm h8)).trans (Below.heap_alloc _ _ _ h6))
      have hsz : w1.heap.size ≤ (w2.setCell ⟨s.g p, 5, none⟩ (.slice (some ⟨ga, 0, none⟩) ((s.kids p).length + 1) ca)).heap.size := by
        have e1 := HGR.out.size
        rw [size_alloc] at e1
        have e2 : (w2.setCell ⟨s.g p, 5, none⟩ (.slice (some ⟨ga, 0, none⟩) ((s.kids p).length + 1) ca)).heap.size = w2.heap.size := by simp
        omega
      have hML := Mem.link M1.out P1.out X1.out (v := .slice (some ⟨ga, 0, none⟩) ((s.kids p).length + 1) ca) hsz (fun i h6 h7 h8 => hk i (M1.out.lt h6) (by rw [EG.out] at h7; exact h7) h8)
        (by rw [EG.out]; exact (HF2.out.set 5 _).cast (by simp [FS.cells]))
        (by rw [EK.out, EGX.out]; exact owns_same HOW.out fun r hr => Below.heap_setCell _ _ _ _ (hrg r hr))
        (fun r hr => ⟨hv0 r hr, by have := own_lt HOW.out hr; simpa using this⟩)
      have hTL := Turn.link (x := x) M1.out P1.out (v := .slice (some ⟨ga, 0, none⟩) ((s.kids p).length + 1) ca) (w' := w2.setCell ⟨s.g p, 5, none⟩ (.slice (some ⟨ga, 0, none⟩) ((s.kids p).length + 1) ca)) HGR.out.os HGR.out.tape HGR.out.output hsz (fun i h6 h7 h8 => hk i h6 (by rw [EG.out] at h7; exact h7) h8) hv0
      exact ⟨rfl, _, hML, T1.out.trans hTL, by rw [← EP.out]; rfl, EF.out⟩
end Go.Proofs.Ytmnkgjgaileokaa
