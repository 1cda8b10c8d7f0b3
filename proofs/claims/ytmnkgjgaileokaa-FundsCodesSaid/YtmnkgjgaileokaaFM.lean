/- The contracts in steps: from one state without places to the next. -/
import Derived.Test.YtmnkgjgaileokaaFL
namespace Go.Proofs.Ytmnkgjgaileokaa
open Go.RowKit

theorem add_st {w : World} {s : FS} {v v' : PV} {x p a c : Int} (h : Mem w s) (hv : s.pv = v) (hg : Good v) (he : v.add x p a = (c, v')) (h0 : -9223372036854775808 ≤ x) (h1 : x ≤ 9223372036854775807) (h2 : -9223372036854775808 ≤ p) (h3 : p ≤ 9223372036854775807) (h4 : -9223372036854775808 ≤ a) (h5 : a ≤ 9223372036854775807) :
    Calls Try.prog 21 #[.pointer (some ⟨s.fb, 0, none⟩), .int .i64 x, .int .i64 p, .int .i64 a] w fun r w' => r = .returned (.int .i64 c) ∧ ∃ s', Mem w' s' ∧ Turn s w s' w' ∧ s'.fb = s.fb ∧ s'.pv = v' := by
  subst hv
  refine (add_any h hg.num hg.m0.1 hg.m0.2 hg.fix.kl x p a h0 h1 h2 h3 h4 h5).mono ?_
  rintro r w' ⟨rfl, s', hM, hT, hp, hf⟩
  rw [he] at hp
  exact ⟨by rw [he], s', hM, hT, hf, hp⟩
theorem move_st {w : World} {s : FS} {v v' : PV} {x p a c : Int} (h : Mem w s) (hv : s.pv = v) (hg : Good v) (he : v.move x p a = (c, v')) (h0 : -9223372036854775808 ≤ x) (h1 : x ≤ 9223372036854775807) (h2 : -9223372036854775808 ≤ p) (h3 : p ≤ 9223372036854775807) (h4 : -9223372036854775808 ≤ a) (h5 : a ≤ 9223372036854775807) :
    Calls Try.prog 30 #[.pointer (some ⟨s.fb, 0, none⟩), .int .i64 x, .int .i64 p, .int .i64 a] w fun r w' => r = .returned (.int .i64 c) ∧ ∃ s', Mem w' s' ∧ Turn s w s' w' ∧ s'.fb = s.fb ∧ s'.pv = v' := by
  subst hv
  refine (move_any h hg.num x p a h0 h1 h2 h3 h4 h5).mono ?_
  rintro r w' ⟨rfl, hM, hT⟩
  obtain ⟨e1, e2, e3⟩ := move_pv s x p a
  rw [he] at e1 e2
  exact ⟨by rw [e1], _, hM, hT, e3, e2⟩
theorem enc_st {w : World} {s : FS} {v v' : PV} {x n c : Int} (h : Mem w s) (hv : s.pv = v) (hg : Good v) (he : v.enc x n = (c, v')) (h0 : -9223372036854775808 ≤ x) (h1 : x ≤ 9223372036854775807) (h2 : -9223372036854775808 ≤ n) (h3 : n ≤ 9223372036854775807) :
    Calls Try.prog 28 #[.pointer (some ⟨s.fb, 0, none⟩), .int .i64 x, .int .i64 n] w fun r w' => r = .returned (.int .i64 c) ∧ ∃ s', Mem w' s' ∧ Turn s w s' w' ∧ s'.fb = s.fb ∧ s'.pv = v' := by
  subst hv
  refine (enc_any h hg.num x n h0 h1 h2 h3).mono ?_
  rintro r w' ⟨rfl, hM, hT⟩
  obtain ⟨e1, e2, e3⟩ := enc_pv s x n
  rw [he] at e1 e2
  exact ⟨by rw [e1], _, hM, hT, e3, e2⟩
theorem rel_st {w : World} {s : FS} {v v' : PV} {x n c : Int} (h : Mem w s) (hv : s.pv = v) (hg : Good v) (he : v.rel x n = (c, v')) (h0 : -9223372036854775808 ≤ x) (h1 : x ≤ 9223372036854775807) (h2 : -9223372036854775808 ≤ n) (h3 : n ≤ 9223372036854775807) :
    Calls Try.prog 29 #[.pointer (some ⟨s.fb, 0, none⟩), .int .i64 x, .int .i64 n] w fun r w' => r = .returned (.int .i64 c) ∧ ∃ s', Mem w' s' ∧ Turn s w s' w' ∧ s'.fb = s.fb ∧ s'.pv = v' := by
  subst hv
  refine (rel_any h hg.num x n h0 h1 h2 h3).mono ?_
  rintro r w' ⟨rfl, hM, hT⟩
  obtain ⟨e1, e2, e3⟩ := rel_pv s x n
  rw [he] at e1 e2
  exact ⟨by rw [e1], _, hM, hT, e3, e2⟩
theorem spend_st {w : World} {s : FS} {v v' : PV} {x n c : Int} (h : Mem w s) (hv : s.pv = v) (hg : Good v) (he : v.spend x n = (c, v')) (h0 : -9223372036854775808 ≤ x) (h1 : x ≤ 9223372036854775807) (h2 : -9223372036854775808 ≤ n) (h3 : n ≤ 9223372036854775807) :
    Calls Try.prog 36 #[.pointer (some ⟨s.fb, 0, none⟩), .int .i64 x, .int .i64 n] w fun r w' => r = .returned (.int .i64 c) ∧ ∃ s', Mem w' s' ∧ Turn s w s' w' ∧ s'.fb = s.fb ∧ s'.pv = v' := by
  subst hv
  refine (spend_any h hg.num x n h0 h1 h2 h3).mono ?_
  rintro r w' ⟨rfl, hM, hT⟩
  obtain ⟨e1, e2, e3⟩ := spend_pv s x n
  rw [he] at e1 e2
  exact ⟨by rw [e1], _, hM, hT, e3, e2⟩

def PV.free0 (v : PV) (x : Int) : Int := if x ∈ v.ids then v.free x else 0
theorem free_st {w : World} {s : FS} {v : PV} {x c : Int} (h : Mem w s) (hv : s.pv = v) (hg : Good v) (he : v.free0 x = c) (h0 : -9223372036854775808 ≤ x) (h1 : x ≤ 9223372036854775807) :
    Calls Try.prog 18 #[.pointer (some ⟨s.fb, 0, none⟩), .int .i64 x] w fun r w' => r = .returned (.int .i64 c) ∧ Below w.heap.size w w' := by
  subst hv
  refine (freeof_any h hg.num x h0 h1).mono ?_
  rintro r w' ⟨rfl, hb⟩
  exact ⟨by rw [← he]; rfl, hb⟩
def PV.fund5 (v : PV) (x : Int) : Array Value := if x ∈ v.ids then #[.int .i64 x, .int .i64 (v.pa x), .int .i64 (v.al x), .int .i64 (v.sp x), .int .i64 (v.en x)] else #[.int .i64 0, .int .i64 0, .int .i64 0, .int .i64 0, .int .i64 0]
theorem fund_st {w : World} {s : FS} {v : PV} {x : Int} {A : Array Value} {t : Bool} (h : Mem w s) (hv : s.pv = v) (he : v.fund5 x = A) (ht : decide (x ∈ v.ids) = t) (h0 : -9223372036854775808 ≤ x) (h1 : x ≤ 9223372036854775807) :
    Calls Try.prog 17 #[.pointer (some ⟨s.fb, 0, none⟩), .int .i64 x] w fun r w' => r = .returned (.tuple #[.agg A, .bool t]) ∧ Below w.heap.size w w' := by
  subst hv
  refine (fund_any h x h0 h1).mono ?_
  rintro r w' ⟨rfl, hb⟩
  exact ⟨by rw [← he, ← ht]; rfl, hb⟩
def PV.tot5 (v : PV) (n : Nat) (x : Int) : Array Value := if x ∈ v.ids then #[.int .i64 x, .int .i64 (v.pa x), .int .i64 (totF v.al v.kids (n + 1) x), .int .i64 (totF v.sp v.kids (n + 1) x), .int .i64 (totF v.en v.kids (n + 1) x)] else #[.int .i64 0, .int .i64 0, .int .i64 0, .int .i64 0, .int .i64 0]
theorem total_st {w : World} {s : FS} {v : PV} {x : Int} {A : Array Value} (h : Mem w s) (hv : s.pv = v) (hg : Good v) (hT : ∀ x ∈ v.ids, totF v.al v.kids (v.ids.length + 1) x ≤ 1000000000000000000 ∧ totF v.sp v.kids (v.ids.length + 1) x ≤ 1000000000000000000 ∧ totF v.en v.kids (v.ids.length + 1) x ≤ 1000000000000000000) (he : v.tot5 v.ids.length x = A) (h0 : -9223372036854775808 ≤ x) (h1 : x ≤ 9223372036854775807) :
    Calls Try.prog 20 #[.pointer (some ⟨s.fb, 0, none⟩), .int .i64 x] w fun r w' => r = .returned (.agg A) ∧ Below w.heap.size w w' := by
  subst hv
  refine (total_any h hg.fix (fun z hz => by have h1 : s.sp z + s.en z ≤ s.al z := hg.bal.le z hz; have h2 : 0 ≤ s.sp z := hg.fix.sp z hz; have h3 : 0 ≤ s.en z := hg.fix.en z hz; omega) s.ids.length hg.deep (fun z hz => ⟨(hT z hz).1, (hT z hz).2.1, (hT z hz).2.2⟩) x h0 h1).mono ?_
  rintro r w' ⟨rfl, hb⟩
  exact ⟨by rw [← he]; rfl, hb⟩
theorem close_st {w : World} {s : FS} {v : PV} {c : Int} (h : Mem w s) (hv : s.pv = v) (hg : Good v) (he : (v.ids.map v.sp).sum = c) :
    Calls Try.prog 27 #[.pointer (some ⟨s.fb, 0, none⟩)] w fun r w' => r = .returned (.int .i64 c) ∧ ∃ s', Mem w' s' ∧ Turn s w s' w' ∧ s'.fb = s.fb ∧ Closed v s'.pv := by
  subst hv
  refine (close_any h hg.fix hg.bal hg.sum s.ids.length hg.deep).mono ?_
  rintro r w' ⟨rfl, s', l, l1, l2, hM, hT, hf, e1, e2, e3, e4, e5, l3⟩
  exact ⟨by rw [← he]; rfl, s', hM, hT, hf, ⟨e1, e2, e3, e4, e5, l, l1, l2, l3⟩⟩
end Go.Proofs.Ytmnkgjgaileokaa
