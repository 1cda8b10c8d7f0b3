/- The contract of do. -/
import Derived.Test.YtmnkgjgaileokaaFH
namespace Go.Proofs.Ytmnkgjgaileokaa
open Go.RowKit

def PV.free (v : PV) (x : Int) : Int := v.al x - v.sp x - v.en x
def PV.move (v : PV) (a b n : Int) : Int × PV :=
  if a ∉ v.ids ∨ b ∉ v.ids then (32, v) else if n < 1 ∨ a = b then (1, v) else if v.free a < n then (60, v)
  else (0, { v with al := upd (upd v.al a (v.al a - n)) b (v.al b + n) })
def PV.enc (v : PV) (x n : Int) : Int × PV := if x ∉ v.ids then (32, v) else if n < 0 then (1, v) else if v.free x < n then (60, v) else (0, { v with en := upd v.en x (v.en x + n) })
def PV.rel (v : PV) (x n : Int) : Int × PV := if x ∉ v.ids then (32, v) else if n < 0 then (1, v) else if v.en x < n then (60, v) else (0, { v with en := upd v.en x (v.en x - n) })
def PV.spend (v : PV) (x n : Int) : Int × PV := if x ∉ v.ids then (32, v) else if n < 0 then (1, v) else if v.free x < n then (60, v) else (0, { v with sp := upd v.sp x (v.sp x + n) })
theorem move_pv (s : FS) (a b n : Int) : (s.move a b n).1 = (s.pv.move a b n).1 ∧ (s.move a b n).2.pv = (s.pv.move a b n).2 ∧ (s.move a b n).2.fb = s.fb := by
  unfold FS.move PV.move
  show (if a ∉ s.ids ∨ b ∉ s.ids then _ else _ : Int × FS).1 = (if a ∉ s.ids ∨ b ∉ s.ids then _ else if n < 1 ∨ a = b then _ else if s.free a < n then _ else _ : Int × PV).1 ∧ (if a ∉ s.ids ∨ b ∉ s.ids then _ else _ : Int × FS).2.pv = (if a ∉ s.ids ∨ b ∉ s.ids then _ else if n < 1 ∨ a = b then _ else if s.free a < n then _ else _ : Int × PV).2 ∧ _
  split
  · exact ⟨rfl, rfl, rfl⟩
  · split
    · exact ⟨rfl, rfl, rfl⟩
    · split <;> exact ⟨rfl, rfl, rfl⟩
theorem enc_pv (s : FS) (x n : Int) : (s.enc x n).1 = (s.pv.enc x n).1 ∧ (s.enc x n).2.pv = (s.pv.enc x n).2 ∧ (s.enc x n).2.fb = s.fb := by
  unfold FS.enc PV.enc
  show (if x ∉ s.ids then _ else _ : Int × FS).1 = (if x ∉ s.ids then _ else if n < 0 then _ else if s.free x < n then _ else _ : Int × PV).1 ∧ (if x ∉ s.ids then _ else _ : Int × FS).2.pv = (if x ∉ s.ids then _ else if n < 0 then _ else if s.free x < n then _ else _ : Int × PV).2 ∧ _
  split
  · exact ⟨rfl, rfl, rfl⟩
  · split
    · exact ⟨rfl, rfl, rfl⟩
    · split <;> exact ⟨rfl, rfl, rfl⟩
theorem rel_pv (s : FS) (x n : Int) : (s.rel x n).1 = (s.pv.rel x n).1 ∧ (s.rel x n).2.pv = (s.pv.rel x n).2 ∧ (s.rel x n).2.fb = s.fb := by
  unfold FS.rel PV.rel
  show (if x ∉ s.ids then _ else _ : Int × FS).1 = (if x ∉ s.ids then _ else if n < 0 then _ else if s.en x < n then _ else _ : Int × PV).1 ∧ (if x ∉ s.ids then _ else _ : Int × FS).2.pv = (if x ∉ s.ids then _ else if n < 0 then _ else if s.en x < n then _ else _ : Int × PV).2 ∧ _
  split
  · exact ⟨rfl, rfl, rfl⟩
  · split
    · exact ⟨rfl, rfl, rfl⟩
    · split <;> exact ⟨rfl, rfl, rfl⟩
theorem spend_pv (s : FS) (x n : Int) : (s.spend x n).1 = (s.pv.spend x n).1 ∧ (s.spend x n).2.pv = (s.pv.spend x n).2 ∧ (s.spend x n).2.fb = s.fb := by
  unfold FS.spend PV.spend
  show (if x ∉ s.ids then _ else _ : Int × FS).1 = (if x ∉ s.ids then _ else if n < 0 then _ else if s.free x < n then _ else _ : Int × PV).1 ∧ (if x ∉ s.ids then _ else _ : Int × FS).2.pv = (if x ∉ s.ids then _ else if n < 0 then _ else if s.free x < n then _ else _ : Int × PV).2 ∧ _
  split
  · exact ⟨rfl, rfl, rfl⟩
  · split
    · exact ⟨rfl, rfl, rfl⟩
    · split <;> exact ⟨rfl, rfl, rfl⟩
/-- What holds of funds between the calls. -/
structure Good (v : PV) : Prop where
  fix : Fix v.ids v.sp v.en v.kids
  bal : Bal v.ids v.sp v.en v.al
  sum : v.m = (v.ids.map v.al).sum
  deep : ∀ x ∈ v.ids, Deep v.kids v.ids.length x
  len : v.ids.length ≤ 10000
  kid : ∀ x ∈ v.ids, v.kids x = v.ids.filter fun y => v.pa y == x
  par : ∀ x ∈ v.ids, v.pa x = 0 ∨ v.pa x ∈ v.ids
structure Closed (v : PV) (v' : PV) : Prop where
  m : v'.m = v.m - (v.ids.map v.sp).sum
  ids : v'.ids = v.ids
  pa : v'.pa = v.pa
  en : v'.en = v.en
  kids : v'.kids = v.kids
  al : ∃ l : List Int, l.Nodup ∧ (∀ z, z ∈ l ↔ z ∈ v.ids ∧ v.pa z = 0) ∧ ∀ z ∈ v.ids, v'.sp z = 0 ∧ v'.al z = l.foldl (fun al x => liftA v.kids (fun _ => 0) v.en v.ids.length al x) (fun z => v.al z - v.sp z) z
theorem Good.num {s : FS} (h : Good s.pv) : Num s := by
  have := h.bal.num (s := s) (al := s.al) h.fix
  exact this
theorem Good.m0 {v : PV} (h : Good v) : 0 ≤ v.m ∧ v.m ≤ 1000000000000000 := by
  rw [h.sum]
  exact ⟨sum_nonneg _ _ fun z hz => by have := h.bal.le z hz; have := h.fix.sp z hz; have := h.fix.en z hz; omega, h.bal.sum⟩
/-- What an act returns, and does. -/
def doC (v : PV) (a : Act4) : Int :=
  if a.k % 9 = 0 ∨ a.k % 9 = 1 then (v.add a.a a.b a.n).1 else if a.k % 9 = 2 then (v.move a.a a.b a.n).1 else if a.k % 9 = 3 ∨ a.k % 9 = 4 then (v.enc a.a a.n).1
  else if a.k % 9 = 5 then (v.rel a.a a.n).1 else if a.k % 9 = 6 ∨ a.k % 9 = 7 then (v.spend a.a a.n).1 else (v.ids.map v.sp).sum
def DoR (v : PV) (a : Act4) (v' : PV) : Prop :=
  if a.k % 9 = 0 ∨ a.k % 9 = 1 then v' = (v.add a.a a.b a.n).2 else if a.k % 9 = 2 then v' = (v.move a.a a.b a.n).2 else if a.k % 9 = 3 ∨ a.k % 9 = 4 then v' = (v.enc a.a a.n).2
  else if a.k % 9 = 5 then v' = (v.rel a.a a.n).2 else if a.k % 9 = 6 ∨ a.k % 9 = 7 then v' = (v.spend a.a a.n).2 else Closed v v'
structure In64 (a : Act4) : Prop where
  k0 : 0 ≤ a.k
  k1 : a.k ≤ 255
  a0 : -9223372036854775808 ≤ a.a
  a1 : a.a ≤ 9223372036854775807
  b0 : -9223372036854775808 ≤ a.b
  b1 : a.b ≤ 9223372036854775807
  n0 : -9223372036854775808 ≤ a.n
  n1 : a.n ≤ 9223372036854775807
set_option maxRecDepth 100000 in
set_option maxHeartbeats 4000000 in
theorem do_any {w : World} {s : FS} (h : Mem w s) (hg : Good s.pv) (a : Act4) (hi : In64 a) :
    Calls Try.prog 16 #[.pointer (some ⟨s.fb, 0, none⟩), a.val] w fun r w' => r = .returned (.int .i64 (doC s.pv a)) ∧ ∃ s', Mem w' s' ∧ Turn s w s' w' ∧ s'.fb = s.fb ∧ DoR s.pv a s'.pv := by
  have HM := Lib.hid (h.alloc (.cells #[.int .u8 a.k, .int .i64 a.a, .int .i64 a.b, .int .i64 a.n] 27))
  have HT := Lib.hid (Turn.alloc s w (.cells #[.int .u8 a.k, .int .i64 a.a, .int .i64 a.b, .int .i64 a.n] 27))
  have HG := Lib.hid hg
  have HI := Lib.hid hi
  have ht : a.k.tmod 9 = a.k % 9 := by rw [Int.tmod_eq_emod_of_nonneg hi.k0]
  have k0 := hi.k0
  have k1 := hi.k1
  clear h hg hi
  have h9 : a.k % 9 = 0 ∨ a.k % 9 = 1 ∨ a.k % 9 = 2 ∨ a.k % 9 = 3 ∨ a.k % 9 = 4 ∨ a.k % 9 = 5 ∨ a.k % 9 = 6 ∨ a.k % 9 = 7 ∨ a.k % 9 = 8 := by omega
  rcases h9 with h9 | h9 | h9 | h9 | h9 | h9 | h9 | h9 | h9
  · have hc : doC s.pv a = (s.pv.add a.a a.b a.n).1 := by simp [doC, h9]
    have hR : ∀ v', v' = (s.pv.add a.a a.b a.n).2 → DoR s.pv a v' := fun v' h => by simpa [DoR, h9] using h
    rw [hc]
    rw [h9] at ht
    have key := Lib.hid (add_any HM.out HG.out.num HG.out.m0.1 HG.out.m0.2 HG.out.fix.kl a.a a.b a.n HI.out.a0 HI.out.a1 HI.out.b0 HI.out.b1 HI.out.n0 HI.out.n1)
    clear hc
    go_enter Try.func16, Try.ntmps16
    go_wp2_with fail
    refine key.out.mono ?_
    rintro e w1 ⟨rfl, s', hM, hT, hpv, hfb⟩
    go_wp2_with fail
    go_ret
    exact ⟨rfl, s', hM, HT.out.trans hT, hfb, hR _ hpv⟩
  · have hc : doC s.pv a = (s.pv.add a.a a.b a.n).1 := by simp [doC, h9]
    have hR : ∀ v', v' = (s.pv.add a.a a.b a.n).2 → DoR s.pv a v' := fun v' h => by simpa [DoR, h9] using h
    rw [hc]
    rw [h9] at ht
    have key := Lib.hid (add_any HM.out HG.out.num HG.out.m0.1 HG.out.m0.2 HG.out.fix.kl a.a a.b a.n HI.out.a0 HI.out.a1 HI.out.b0 HI.out.b1 HI.out.n0 HI.out.n1)
    clear hc
    go_enter Try.func16, Try.ntmps16
    go_wp2_with fail
    refine key.out.mono ?_
    rintro e w1 ⟨rfl, s', hM, hT, hpv, hfb⟩
    go_wp2_with fail
    go_ret
    exact ⟨rfl, s', hM, HT.out.trans hT, hfb, hR _ hpv⟩
  · have hc : doC s.pv a = (s.pv.move a.a a.b a.n).1 := by simp [doC, h9]
    have hR : ∀ v', v' = (s.pv.move a.a a.b a.n).2 → DoR s.pv a v' := fun v' h => by simpa [DoR, h9] using h
    rw [hc]
    rw [h9] at ht
    have key := Lib.hid (move_any HM.out HG.out.num a.a a.b a.n HI.out.a0 HI.out.a1 HI.out.b0 HI.out.b1 HI.out.n0 HI.out.n1)
    clear hc
    go_enter Try.func16, Try.ntmps16
    go_wp2_with fail
    refine key.out.mono ?_
    rintro e w1 ⟨rfl, hM, hT⟩
    go_wp2_with fail
    go_ret
    exact ⟨by rw [(move_pv s a.a a.b a.n).1]; rfl, _, hM, HT.out.trans hT, (move_pv s a.a a.b a.n).2.2, hR _ (move_pv s a.a a.b a.n).2.1⟩
  · have hc : doC s.pv a = (s.pv.enc a.a a.n).1 := by simp [doC, h9]
    have hR : ∀ v', v' = (s.pv.enc a.a a.n).2 → DoR s.pv a v' := fun v' h => by simpa [DoR, h9] using h
    rw [hc]
    rw [h9] at ht
    have key := Lib.hid (enc_any HM.out HG.out.num a.a a.n HI.out.a0 HI.out.a1 HI.out.n0 HI.out.n1)
    clear hc
    go_enter Try.func16, Try.ntmps16
    go_wp2_with fail
    refine key.out.mono ?_
    rintro e w1 ⟨rfl, hM, hT⟩
    go_wp2_with fail
    go_ret
    exact ⟨by rw [(enc_pv s a.a a.n).1]; rfl, _, hM, HT.out.trans hT, (enc_pv s a.a a.n).2.2, hR _ (enc_pv s a.a a.n).2.1⟩
  · have hc : doC s.pv a = (s.pv.enc a.a a.n).1 := by simp [doC, h9]
    have hR : ∀ v', v' = (s.pv.enc a.a a.n).2 → DoR s.pv a v' := fun v' h => by simpa [DoR, h9] using h
    rw [hc]
    rw [h9] at ht
    have key := Lib.hid (enc_any HM.out HG.out.num a.a a.n HI.out.a0 HI.out.a1 HI.out.n0 HI.out.n1)
    clear hc
    go_enter Try.func16, Try.ntmps16
    go_wp2_with fail
    refine key.out.mono ?_
    rintro e w1 ⟨rfl, hM, hT⟩
    go_wp2_with fail
    go_ret
    exact ⟨by rw [(enc_pv s a.a a.n).1]; rfl, _, hM, HT.out.trans hT, (enc_pv s a.a a.n).2.2, hR _ (enc_pv s a.a a.n).2.1⟩
  · have hc : doC s.pv a = (s.pv.rel a.a a.n).1 := by simp [doC, h9]
    have hR : ∀ v', v' = (s.pv.rel a.a a.n).2 → DoR s.pv a v' := fun v' h => by simpa [DoR, h9] using h
    rw [hc]
    rw [h9] at ht
    have key := Lib.hid (rel_any HM.out HG.out.num a.a a.n HI.out.a0 HI.out.a1 HI.out.n0 HI.out.n1)
    clear hc
    go_enter Try.func16, Try.ntmps16
    go_wp2_with fail
    refine key.out.mono ?_
    rintro e w1 ⟨rfl, hM, hT⟩
    go_wp2_with fail
    go_ret
    exact ⟨by rw [(rel_pv s a.a a.n).1]; rfl, _, hM, HT.out.trans hT, (rel_pv s a.a a.n).2.2, hR _ (rel_pv s a.a a.n).2.1⟩
  · have hc : doC s.pv a = (s.pv.spend a.a a.n).1 := by simp [doC, h9]
    have hR : ∀ v', v' = (s.pv.spend a.a a.n).2 → DoR s.pv a v' := fun v' h => by simpa [DoR, h9] using h
    rw [hc]
    rw [h9] at ht
    have key := Lib.hid (spend_any HM.out HG.out.num a.a a.n HI.out.a0 HI.out.a1 HI.out.n0 HI.out.n1)
    clear hc
    go_enter Try.func16, Try.ntmps16
    go_wp2_with fail
    refine key.out.mono ?_
    rintro e w1 ⟨rfl, hM, hT⟩
    go_wp2_with fail
    go_ret
    exact ⟨by rw [(spend_pv s a.a a.n).1]; rfl, _, hM, HT.out.trans hT, (spend_pv s a.a a.n).2.2, hR _ (spend_pv s a.a a.n).2.1⟩
  · have hc : doC s.pv a = (s.pv.spend a.a a.n).1 := by simp [doC, h9]
    have hR : ∀ v', v' = (s.pv.spend a.a a.n).2 → DoR s.pv a v' := fun v' h => by simpa [DoR, h9] using h
    rw [hc]
    rw [h9] at ht
    have key := Lib.hid (spend_any HM.out HG.out.num a.a a.n HI.out.a0 HI.out.a1 HI.out.n0 HI.out.n1)
    clear hc
    go_enter Try.func16, Try.ntmps16
    go_wp2_with fail
    refine key.out.mono ?_
    rintro e w1 ⟨rfl, hM, hT⟩
    go_wp2_with fail
    go_ret
    exact ⟨by rw [(spend_pv s a.a a.n).1]; rfl, _, hM, HT.out.trans hT, (spend_pv s a.a a.n).2.2, hR _ (spend_pv s a.a a.n).2.1⟩
  · have hc : doC s.pv a = (s.ids.map s.sp).sum := by simp [doC, h9]; rfl
    have hR : ∀ v', Closed s.pv v' → DoR s.pv a v' := fun v' h => by simpa [DoR, h9] using h
    rw [hc]
    rw [h9] at ht
    have key := Lib.hid (close_any HM.out HG.out.fix HG.out.bal HG.out.sum s.ids.length HG.out.deep)
    clear hc
    go_enter Try.func16, Try.ntmps16
    go_wp2_with fail
    refine key.out.mono ?_
    rintro e w1 ⟨rfl, s', l, hl1, hl2, hM, hT, hfb, e1, e2, e3, e4, e5, hl3⟩
    go_wp2_with fail
    go_ret
    exact ⟨rfl, s', hM, HT.out.trans hT, hfb, hR _ ⟨e1, e2, e3, e4, e5, l, hl1, hl2, hl3⟩⟩
end Go.Proofs.Ytmnkgjgaileokaa
