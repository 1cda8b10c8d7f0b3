/- The contract of serve. -/
import Derived.Test.YtpcmppamkgkdlaaSC
import Derived.Laws.EntriesVeiled
namespace Go.Proofs.Ytpcmppamkgkdlaa
open Go.RowKit

theorem run_make_rowN {P : Program} (t e : TypeId) (i : TypeInfo) (z : Value) (ht : P.underlying t = some (.slice e)) (hi : P.info? e = some i) (hz : i.zero = some z)
    (n : Nat) (hs : i.size = 1) (hbytes : i.bytes * n ≤ 281474976710656) (h63 : n ≤ 9223372036854775807) (hzc : z.cells = #[z]) (w : World) :
    (Instr.makeSlice t (.int .i64 (n : Int)) (.int .i64 (n : Int))).run P w = .ok (.slice (some ⟨w.heap.size, 0, none⟩) n n) (w.alloc (.cells (arr (fun _ => z) n) e)) := by
  have hb : (i.bytes : Int) * (n : Int) ≤ 281474976710656 := by
    have h : ((i.bytes * n : Nat) : Int) ≤ 281474976710656 := by omega
    rwa [Int.natCast_mul] at h
  have hr := run_make (P := P) w t e i z ht hi hz .i64 .i64 n n (by omega) (by omega) hb (by omega)
  simp only [Int.toNat_natCast, hs, Nat.mul_one] at hr
  rw [arr_made z hzc n] at hr
  exact hr
theorem info4 : (Try.prog.info? 4).map (fun i => (i.zero, i.size, i.bytes)) = some (some (.bool false), 1, 1) := by kernel_rfl
theorem mk47 (n : Nat) (h : n ≤ 100000) (w : World) : (Instr.makeSlice 47 (.int .i64 (n : Int)) (.int .i64 (n : Int))).run Try.prog w = .ok (.slice (some ⟨w.heap.size, 0, none⟩) n n) (w.alloc (.cells (encB (fun _ => false) n) 4)) := by
  obtain ⟨i, hi, hz, hz1, hz2⟩ := info_parts info4
  exact run_make_rowN 47 4 i _ Try.underlying47 hi hz n hz1 (by rw [hz2]; omega) (by omega) rfl w
theorem mk30 (n : Nat) (h : n ≤ 100000) (w : World) : (Instr.makeSlice 30 (.int .i64 (n : Int)) (.int .i64 (n : Int))).run Try.prog w = .ok (.slice (some ⟨w.heap.size, 0, none⟩) n n) (w.alloc (.cells (arr (fun _ => .int .i64 0) n) 3)) := by
  obtain ⟨i, hi, hz, hz1, hz2⟩ := info_parts info3
  exact run_make_rowN 30 3 i _ Try.underlying30 hi hz n hz1 (by rw [hz2]; omega) (by omega) rfl w
def ServeE (P : Prob) (s : SL) (w : World) (cp : Nat → Option Nat) (k : Nat) (e : Ending) (w' : World) : Prop :=
  ∃ (t : Bool) (cp' wn' : Nat → Option Nat), e = .returned (.bool t) ∧ SM P s w' (ext (k + 1) cp') wn' ∧ Tn s.F w w' ∧ Mat P cp' ∧ Con cp' wn' ∧ (∀ j, j ≠ k → (cp' j).isSome = (cp j).isSome) ∧
    ((cp' k).isSome ∨ (cp' k = none ∧ ∀ q, Mat P q → (∀ j, (cp j).isSome → (q j).isSome) → q k = none))
set_option maxRecDepth 100000 in
set_option maxHeartbeats 4000000 in
theorem serve_any {P : Prob} (hP : Fits P) (s : SL) (cp wn : Nat → Option Nat) (w : World) (k : Nat) (hk : k < P.m) (h0 : cp k = none) (hm : Mat P cp) (hc : Con cp wn) (hz : ∀ j, k ≤ j → cp j = none) (h : SM P s w (ext (k + 1) cp) wn) :
    Calls Try.prog 25 #[pt s.sb, .int .i64 k] w (ServeE P s w cp k) := by
  have hn1 := hP.n
  have hmk := mk47 P.n (by omega)
  have hlt := h.lt
  have s2 : w.cell? ⟨s.sb, 2, none⟩ = some (.int .i64 P.n) := h.blk.cell 2
  have HP := Lib.hid hP
  have H := Lib.hid h
  have H0 := Lib.hid h0
  have HM := Lib.hid hm
  have HC := Lib.hid hc
  have HWL : RowKit.Hid (∀ c j, wn c = some j → j < k + 1) := Lib.hid (fun c j hw => by
    have h1 := (hc j c).2 hw
    rcases Nat.lt_or_ge j k with g | g
    · omega
    · rw [hz j g] at h1; cases h1)
  clear hP h h0 hm hc hz
  have hmf : ∀ (fn : Fn) (first cap : Array Value) (w : World), (Instr.makeFunc fn first cap).run Try.prog w = .ok (.func fn first cap) w := fun _ _ _ _ => rfl
  go_enter Try.func25, Try.ntmps25
  go_wp2_with fail
  obtain ⟨W, hW⟩ : ∃ W, W = ((((w.alloc (Obj.cells #[pt s.sb] 54)).alloc (Obj.cells (encB (fun x => false) P.n) 4)).alloc (Obj.cells #[Value.slice (some { block := w.heap.size + 1, off := 0 }) P.n P.n] 47)).alloc
      (Obj.cells #[Value.func (Fn.func 33) #[] #[Value.pointer (some { block := w.heap.size, off := 0 }), Value.pointer (some { block := w.heap.size + 1 + 1, off := 0 }), Value.pointer (some { block := w.heap.size + 1 + 1 + 1, off := 0 })]] 63)) := ⟨_, rfl⟩
  have hB : Below w.heap.size w W := by rw [hW]; exact ((((Below.refl _ _).alloc (Nat.le_refl _) _).alloc (by simp) _).alloc (by simp; omega) _).alloc (by simp; omega) _
  have hx : Blk W w.heap.size #[pt s.sb] 54 := by rw [hW]; exact (((Blk.new w _ 54).alloc _).alloc _).alloc _
  have hg : Blk W (w.heap.size + 1) (encB (fun x => false) P.n) 4 := by rw [hW]; exact ((Blk.at_new (by simp) _ 4).alloc _).alloc _
  have hy : Blk W (w.heap.size + 1 + 1) #[Value.slice (some { block := w.heap.size + 1, off := 0 }) P.n P.n] 47 := by rw [hW]; exact (Blk.at_new (by simp) _ 47).alloc _
  have hz : Blk W (w.heap.size + 1 + 1 + 1) #[Value.func (Fn.func 33) #[] #[pt w.heap.size, pt (w.heap.size + 1 + 1), pt (w.heap.size + 1 + 1 + 1)]] 63 := by rw [hW]; exact Blk.at_new (by simp) _ 63
  have hlo := H.out.lo
  have FM : RowKit.Hid (FMem P s w.heap.size (w.heap.size + 1 + 1) (w.heap.size + 1 + 1 + 1) (w.heap.size + 1) W (ext (k + 1) cp) wn (fun _ => false)) := Lib.hid
    ⟨H.out.below hB, hx, hy, hz, hg, by omega, by omega⟩
  have HB := Lib.hid hB
  rw [← hW]
  clear hW hB hx hg hy hz
  refine (find_any HP.out s w.heap.size (w.heap.size + 1 + 1) (w.heap.size + 1 + 1 + 1) (w.heap.size + 1) cp wn HM.out HC.out (k + 1) HWL.out (cntF (fun _ => false) P.n + 1) (fun _ => false) k W (by omega) hk (Nat.lt_succ_self k) (fun d hd => by rw [H0.out] at hd; cases hd) FM.out).mono ?_
  rintro e w3 ⟨t, cp', wn', seen', rfl, hF3, hT3, hyes, hno⟩
  have F3 := Lib.hid hF3.sm
  have T3 : RowKit.Hid (Tn s.F w w3) := Lib.hid (((Tn.of_below HB.out : Tn s.F w W)).then_ hT3 fun b hb => by
    rcases hb with e | e | e
    · exact .inl (.inl e)
    · exact .inl (.inr e)
    · right; omega)
  have KEY : RowKit.Hid (Mat P cp' ∧ Con cp' wn' ∧ (∀ j, j ≠ k → (cp' j).isSome = (cp j).isSome) ∧ ((cp' k).isSome ∨ (cp' k = none ∧ ∀ q, Mat P q → (∀ j, (cp j).isSome → (q j).isSome) → q k = none))) := Lib.hid (by
    cases t with
    | true =>
      have h1 := hyes rfl
      obtain ⟨h2, h3⟩ := h1.top H0.out
      exact ⟨h2, h3, h1.same, .inl h1.got⟩
    | false =>
      obtain ⟨rfl, rfl, hl⟩ := hno rfl
      exact ⟨HM.out, HC.out, fun _ _ => rfl, .inr ⟨H0.out, fun q hq hs => hl.top HM.out HC.out H0.out hq hs⟩⟩)
  clear hF3 hT3 hyes hno
  go_wp2_with fail
  go_ret
  exact ⟨t, cp', wn', rfl, F3.out, T3.out, KEY.out⟩
end Go.Proofs.Ytpcmppamkgkdlaa
