/- Contracts of Move, Encumber, Release and Spend. -/
import Derived.Test.YtmnkgjgaileokaaFB
import Derived.LaidEqlPtr
namespace Go.Proofs.Ytmnkgjgaileokaa
open Go.RowKit

theorem Turn.alloc (s : FS) (w : World) (ob : Obj) : Turn s w s (w.alloc ob) := Turn.of_below ((Below.refl _ _).alloc (Nat.le_refl _) ob)
theorem size71 : (Try.prog.info? 71).map (·.size) = some 6 := by kernel_rfl
theorem info71 : ∃ j, Try.prog.info? 71 = some j ∧ j.size = 6 := by
  have := size71
  cases h : Try.prog.info? 71 with
  | none => rw [h] at this; cases this
  | some j => rw [h] at this; exact ⟨j, rfl, by simpa using this⟩
theorem ptr_same (i : Nat) (w : World) : (binOp BinOp.eql 68 (Value.pointer (some ⟨i, 0, none⟩)) (Value.pointer (some ⟨i, 0, none⟩))).run Try.prog w = .ok (.bool true) w := by
  obtain ⟨j, hj, _⟩ := info71
  exact run_eql_ptr_same w _ Try.underlying68 hj
theorem ptr_other {i j : Nat} {w : World} {a b : Array Value} (h : i ≠ j) (ha : Blk w i a 71) (hb : Blk w j b 71) : (binOp BinOp.eql 68 (Value.pointer (some ⟨i, 0, none⟩)) (Value.pointer (some ⟨j, 0, none⟩))).run Try.prog w = .ok (.bool false) w := by
  obtain ⟨k, hk, hs⟩ := info71
  exact run_eql_ptr_other w Try.underlying68 hk (by omega) (fun e => h (by injection e)) ha hb
def FS.move (s : FS) (a b n : Int) : Int × FS :=
  if a ∉ s.ids ∨ b ∉ s.ids then (32, s) else if n < 1 ∨ a = b then (1, s) else if s.free a < n then (60, s)
  else (0, { s with al := upd (upd s.al a (s.al a - n)) b (s.al b + n) })
theorem Mem.gne {w : World} {s : FS} (h : Mem w s) {x y : Int} (hx : x ∈ s.ids) (hy : y ∈ s.ids) (hne : x ≠ y) : s.g x ≠ s.g y := own_ne (by simpa using hne) (h.ofund x hx) (h.ofund y hy)
theorem Mem.fcell {w : World} {s : FS} (h : Mem w s) {x : Int} (hx : x ∈ s.ids) : w.cell? ⟨s.g x, 0, none⟩ = some (.int .i64 x) ∧ w.cell? ⟨s.g x, 1, none⟩ = some (.int .i64 (s.pa x)) ∧ w.cell? ⟨s.g x, 2, none⟩ = some (.int .i64 (s.al x)) ∧
    w.cell? ⟨s.g x, 3, none⟩ = some (.int .i64 (s.sp x)) ∧ w.cell? ⟨s.g x, 4, none⟩ = some (.int .i64 (s.en x)) ∧ w.cell? ⟨s.g x, 5, none⟩ = some (s.bl x) := fcellE (h.fund x hx)
theorem Mem.fow {w : World} {s : FS} (h : Mem w s) {x : Int} (hx : x ∈ s.ids) : s.o (s.g x) ≠ .none := by rw [h.ofund x hx]; simp
set_option maxRecDepth 100000 in
set_option maxHeartbeats 2000000 in
theorem move_any {w : World} {s : FS} (h : Mem w s) (hn : Num s) (a b n : Int) (h0 : -9223372036854775808 ≤ a) (h1 : a ≤ 9223372036854775807) (h2 : -9223372036854775808 ≤ b) (h3 : b ≤ 9223372036854775807) (h4 : -9223372036854775808 ≤ n) (h5 : n ≤ 9223372036854775807) :
    Calls Try.prog 30 #[.pointer (some ⟨s.fb, 0, none⟩), .int .i64 a, .int .i64 b, .int .i64 n] w fun r w' => r = .returned (.int .i64 (s.move a b n).1) ∧ Mem w' (s.move a b n).2 ∧ Turn s w (s.move a b n).2 w' := by
  obtain ⟨c0, c1⟩ := h.fbc
  have hla : ∀ k, (Instr.lookup 51 (.map s.bm) (.int .i64 a) false).run Try.prog (w.drewN k) = .ok (s.look a) (w.drewN k) := fun k => (h.drewN k).lookup a h0 h1
  have hlb : ∀ k, (Instr.lookup 51 (.map s.bm) (.int .i64 b) false).run Try.prog (w.drewN k) = .ok (s.look b) (w.drewN k) := fun k => (h.drewN k).lookup b h2 h3
  have HM := Lib.hid h
  by_cases ha : a ∈ s.ids
  case neg =>
    rw [look_no ha] at hla
    have hv : s.move a b n = (32, s) := if_pos (.inl ha)
    rw [hv]
    obtain ⟨lb, hlb'⟩ : ∃ lb, lb = s.look b := ⟨_, rfl⟩
    rw [← hlb'] at hlb
    clear h ha hv hn hlb'
    go_enter Try.func30, Try.ntmps30
    go_wp2_with fail
    go_quiet (fail)
    go_wp2_with fail
    go_ret
    exact ⟨rfl, HM.out.drewN _, Turn.of_below (bdrewN (Below.refl _ _) _)⟩
  rw [look_yes ha] at hla
  by_cases hb : b ∈ s.ids
  case neg =>
    rw [look_no hb] at hlb
    have hv : s.move a b n = (32, s) := if_pos (.inr hb)
    rw [hv]
    clear h ha hv hn hb
    go_enter Try.func30, Try.ntmps30
    go_wp2_with fail
    go_quiet (fail)
    go_wp2_with fail
    go_ret
    exact ⟨rfl, HM.out.drewN _, Turn.of_below (bdrewN (Below.refl _ _) _)⟩
  rw [look_yes hb] at hlb
  by_cases hn1 : n < 1
  · have hv : s.move a b n = (1, s) := by rw [FS.move, if_neg (by simp [ha, hb]), if_pos (.inl hn1)]
    rw [hv]
    have hd : decide (n < 1) = true := by simpa using hn1
    clear h ha hv hn hb
    go_enter Try.func30, Try.ntmps30
    go_wp2_with fail
    go_quiet (fail)
    go_wp2_with fail
    go_ret
    exact ⟨rfl, HM.out.drewN _, Turn.of_below (bdrewN (Below.refl _ _) _)⟩
  have hd : decide (n < 1) = false := by simpa using hn1
  by_cases hab : a = b
  · have hv : s.move a b n = (1, s) := by rw [FS.move, if_neg (by simp [ha, hb]), if_pos (.inr hab)]
    rw [hv]
    subst hab
    have hpe : ∀ k, (binOp BinOp.eql 68 (Value.pointer (some ⟨s.g a, 0, none⟩)) (Value.pointer (some ⟨s.g a, 0, none⟩))).run Try.prog (w.drewN k) = .ok (.bool true) (w.drewN k) := fun k => ptr_same _ _
    clear h ha hv hn hb
    go_enter Try.func30, Try.ntmps30
    go_wp2_with fail
    go_quiet (fail)
    go_wp2_with fail
    go_ret
    exact ⟨rfl, HM.out.drewN _, Turn.of_below (bdrewN (Below.refl _ _) _)⟩
  have hg := h.gne ha hb hab
  have hg' : ¬ s.g b = s.g a := fun e => hg e.symm
  have hpe : ∀ k, (binOp BinOp.eql 68 (Value.pointer (some ⟨s.g a, 0, none⟩)) (Value.pointer (some ⟨s.g b, 0, none⟩))).run Try.prog (w.drewN k) = .ok (.bool false) (w.drewN k) := fun k => ptr_other hg ((h.fund a ha).drewN k) ((h.fund b hb).drewN k)
  have hF := Lib.hid (h.fund a ha)
  have n1 := hn.sp a ha
  have n2 := hn.en a ha
  have n3 := hn.le a ha
  have n4 := hn.al a ha
  have n5 := hn.al b hb
  have n6 := hn.le b hb
  have n7 := hn.sp b hb
  have n8 := hn.en b hb
  by_cases hm : s.al a - s.sp a - s.en a < n
  · have hv : s.move a b n = (60, s) := by rw [FS.move, if_neg (by simp [ha, hb]), if_neg (by simp [hn1, hab]), if_pos (show s.free a < n from hm)]
    rw [hv]
    have hd2 : decide (s.al a - s.sp a - s.en a < n) = true := by simpa using hm
    clear h ha hv hn hb hab hn1 hm
    go_enter Try.func30, Try.ntmps30
    go_wp2_with fail
    go_quiet (fail)
    go_wp2_with fail
    refine (free_any (hF.out.drewN _) n1 n2 n3 n4).mono ?_
    rintro e w1 ⟨rfl, k, rfl⟩
    go_wp2_with fail
    go_ret
    exact ⟨rfl, HM.out.drewN _, Turn.of_below (bdrewN (Below.refl _ _) _)⟩
  · have hv : s.move a b n = (0, { s with al := upd (upd s.al a (s.al a - n)) b (s.al b + n) }) := by rw [FS.move, if_neg (by simp [ha, hb]), if_neg (by simp [hn1, hab]), if_neg (show ¬ s.free a < n from hm)]
    rw [hv]
    have hd2 : decide (s.al a - s.sp a - s.en a < n) = false := by simpa using hm
    have HA := Lib.hid ha
    have HB := Lib.hid hb
    have k1 : 1 ≤ n := by omega
    have k2 : n ≤ s.al a := by omega
    obtain ⟨a0, a1, a2, a3, a4, a5⟩ := h.fcell ha
    obtain ⟨b0, b1, b2, b3, b4, b5⟩ := h.fcell hb
    have af := (h.fund a ha).frozen
    have bf := (h.fund b hb).frozen
    clear h ha hv hn hb hab hn1 hm
    go_enter Try.func30, Try.ntmps30
    go_wp2_with fail
    go_quiet (fail)
    go_wp2_with fail
    refine (free_any (hF.out.drewN _) n1 n2 n3 n4).mono ?_
    rintro e w1 ⟨rfl, k, rfl⟩
    go_wp2_with fail
    go_ret
    refine ⟨rfl, ?_, ?_⟩
    · exact ((HM.out.drewN _).setAl HA.out _).setAl (x := b) HB.out _
    · exact (Turn.of_below (bdrewN (Below.refl _ _) _)).trans ((Turn.setOwn ⟨s.g a, 2, none⟩ _ (HM.out.fow HA.out) { s with al := upd s.al a (s.al a - n) } rfl).trans (Turn.setOwn (s := { s with al := upd s.al a (s.al a - n) }) ⟨s.g b, 2, none⟩ _ (HM.out.fow HB.out) _ rfl))

def FS.enc (s : FS) (x n : Int) : Int × FS := if x ∉ s.ids then (32, s) else if n < 0 then (1, s) else if s.free x < n then (60, s) else (0, { s with en := upd s.en x (s.en x + n) })
def FS.rel (s : FS) (x n : Int) : Int × FS := if x ∉ s.ids then (32, s) else if n < 0 then (1, s) else if s.en x < n then (60, s) else (0, { s with en := upd s.en x (s.en x - n) })
def FS.spend (s : FS) (x n : Int) : Int × FS := if x ∉ s.ids then (32, s) else if n < 0 then (1, s) else if s.free x < n then (60, s) else (0, { s with sp := upd s.sp x (s.sp x + n) })
theorem cl54 {w : World} {g : Nat} {x p a s e n : Int} {b : Value} (h : Blk w g (fcells x p a s e b) 71) (h0 : 0 ≤ n) (h1 : n ≤ 1000000000000000) (h2 : 0 ≤ e) (h3 : e ≤ 1000000000000000) :
    Calls Try.prog 54 #[.pointer (some ⟨g, 0, none⟩), .int .i64 n] w fun r w' => r = .returned (.tuple #[]) ∧ w' = w.setCell ⟨g, 4, none⟩ (.int .i64 (e + n)) := by
  obtain ⟨c0, c1, c2, c3, c4, c5⟩ := fcellE h
  have cf := h.frozen
  clear h
  go_enter Try.func54, Try.ntmps54
  go_wp2_with fail
  go_end0
  exact ⟨rfl, rfl⟩
theorem cl56 {w : World} {g : Nat} {x p a s e n : Int} {b : Value} (h : Blk w g (fcells x p a s e b) 71) (h0 : 0 ≤ n) (h1 : n ≤ 1000000000000000) (h2 : 0 ≤ e) (h3 : e ≤ 1000000000000000) :
    Calls Try.prog 56 #[.pointer (some ⟨g, 0, none⟩), .int .i64 n] w fun r w' => r = .returned (.tuple #[]) ∧ w' = w.setCell ⟨g, 4, none⟩ (.int .i64 (e - n)) := by
  obtain ⟨c0, c1, c2, c3, c4, c5⟩ := fcellE h
  have cf := h.frozen
  clear h
  go_enter Try.func56, Try.ntmps56
  go_wp2_with fail
  go_end0
  exact ⟨rfl, rfl⟩
theorem cl67 {w : World} {g : Nat} {x p a s e n : Int} {b : Value} (h : Blk w g (fcells x p a s e b) 71) (h0 : 0 ≤ n) (h1 : n ≤ 1000000000000000) (h2 : 0 ≤ s) (h3 : s ≤ 1000000000000000) :
    Calls Try.prog 67 #[.pointer (some ⟨g, 0, none⟩), .int .i64 n] w fun r w' => r = .returned (.tuple #[]) ∧ w' = w.setCell ⟨g, 3, none⟩ (.int .i64 (s + n)) := by
  obtain ⟨c0, c1, c2, c3, c4, c5⟩ := fcellE h
  have cf := h.frozen
  clear h
  go_enter Try.func67, Try.ntmps67
  go_wp2_with fail
  go_end0
  exact ⟨rfl, rfl⟩
theorem kept_any {w : World} {g : Nat} {x p a s e : Int} {b : Value} (h : Blk w g (fcells x p a s e b) 71) :
    Calls Try.prog 55 #[.pointer (some ⟨g, 0, none⟩)] w fun r w' => r = .returned (.int .i64 e) ∧ w' = w := by
  obtain ⟨c0, c1, c2, c3, c4, c5⟩ := fcellE h
  clear h
  go_enter Try.func55, Try.ntmps55
  go_wp2_with fail
  go_ret
  exact ⟨rfl, rfl⟩

set_option maxRecDepth 100000 in
set_option maxHeartbeats 2000000 in
theorem encpost {w : World} {s : FS} (h : Mem w s) (hn : Num s) (x n : Int) (h0 : -9223372036854775808 ≤ x) (h1 : x ≤ 9223372036854775807) (h4 : -9223372036854775808 ≤ n) (h5 : n ≤ 9223372036854775807) :
    Calls Try.prog 53 #[.pointer (some ⟨s.fb, 0, none⟩), .int .i64 x, .int .i64 n, .agg #[.func (.func 37) #[] #[], .func (.func 54) #[] #[]]] w fun r w' => r = .returned (.int .i64 (s.enc x n).1) ∧ Mem w' (s.enc x n).2 ∧ Turn s w (s.enc x n).2 w' := by
  have h' := h.alloc (.cells #[.func (.func 37) #[] #[], .func (.func 54) #[] #[]] 86)
  obtain ⟨c0, c1⟩ := h.fbc
  have hz := h.fne
  have hlk := h'.lookup x h0 h1
  have HM := Lib.hid h'
  have HT := Lib.hid (Turn.alloc s w (.cells #[.func (.func 37) #[] #[], .func (.func 54) #[] #[]] 86))
  by_cases hx : x ∈ s.ids
  case neg =>
    rw [look_no hx] at hlk
    have hv : s.enc x n = (32, s) := if_pos hx
    rw [hv]
    clear h h' hx hv hn
    go_enter Try.func53, Try.ntmps53
    go_wp2_with fail
    go_ret
    exact ⟨rfl, HM.out, HT.out⟩
  rw [look_yes hx] at hlk
  by_cases hn1 : n < 0
  · have hv : s.enc x n = (1, s) := by rw [FS.enc, if_neg (by simp [hx]), if_pos hn1]
    rw [hv]
    have hd : decide (n < 0) = true := by simpa using hn1
    clear h h' hx hv hn
    go_enter Try.func53, Try.ntmps53
    go_wp2_with fail
    go_ret
    exact ⟨rfl, HM.out, HT.out⟩
  have hd : decide (n < 0) = false := by simpa using hn1
  have hF := Lib.hid (h'.fund x hx)
  have n1 := hn.sp x hx
  have n2 := hn.en x hx
  have n3 := hn.le x hx
  have n4 := hn.al x hx
  by_cases hm : s.al x - s.sp x - s.en x < n
  · have hv : s.enc x n = (60, s) := by rw [FS.enc, if_neg (by simp [hx]), if_neg hn1, if_pos (show s.free x < n from hm)]
    rw [hv]
    have hd2 : decide (s.al x - s.sp x - s.en x < n) = true := by simpa using hm
    clear h h' hx hv hn hn1 hm
    go_enter Try.func53, Try.ntmps53
    go_wp2_with fail
    refine (free_any hF.out n1 n2 n3 n4).mono ?_
    rintro e w1 ⟨rfl, kq, rfl⟩
    go_wp2_with fail
    go_ret
    exact ⟨rfl, HM.out.drewN _, HT.out.trans (Turn.of_below (bdrewN (Below.refl _ _) _))⟩
  · have hv : s.enc x n = (0, { s with en := upd s.en x (s.en x + n) }) := by rw [FS.enc, if_neg (by simp [hx]), if_neg hn1, if_neg (show ¬ s.free x < n from hm)]
    rw [hv]
    have hd2 : decide (s.al x - s.sp x - s.en x < n) = false := by simpa using hm
    have HX := Lib.hid hx
    have k1 : 0 ≤ n := by omega
    have k2 : n ≤ 1000000000000000 := by omega
    have k3 : s.en x ≤ 1000000000000000 := by omega
    clear h h' hx hv hn hn1 hm
    go_enter Try.func53, Try.ntmps53
    go_wp2_with fail
    refine (free_any hF.out n1 n2 n3 n4).mono ?_
    rintro e w1 ⟨rfl, kq, rfl⟩
    go_wp2_with fail
    refine (cl54 (hF.out.drewN _) k1 k2 n2 k3).mono ?_
    rintro e w2 ⟨rfl, rfl⟩
    go_wp2_with fail
    go_ret
    exact ⟨rfl, (HM.out.drewN _).setEn HX.out _, HT.out.trans ((Turn.of_below (bdrewN (Below.refl _ _) _)).trans (Turn.setOwn ⟨s.g x, 4, none⟩ _ (HM.out.fow HX.out) _ rfl))⟩
set_option maxHeartbeats 1000000 in
theorem enc_any {w : World} {s : FS} (h : Mem w s) (hn : Num s) (x n : Int) (h0 : -9223372036854775808 ≤ x) (h1 : x ≤ 9223372036854775807) (h4 : -9223372036854775808 ≤ n) (h5 : n ≤ 9223372036854775807) :
    Calls Try.prog 28 #[.pointer (some ⟨s.fb, 0, none⟩), .int .i64 x, .int .i64 n] w fun r w' => r = .returned (.int .i64 (s.enc x n).1) ∧ Mem w' (s.enc x n).2 ∧ Turn s w (s.enc x n).2 w' := by
  have key := encpost h hn x n h0 h1 h4 h5
  go_enter Try.func28, Try.ntmps28
  go_wp2_with fail
  refine key.mono ?_
  rintro e w1 ⟨rfl, hM, hT⟩
  go_wp2_with fail
  go_ret
  exact ⟨rfl, hM, hT⟩
set_option maxRecDepth 100000 in
set_option maxHeartbeats 2000000 in
theorem relpost {w : World} {s : FS} (h : Mem w s) (hn : Num s) (x n : Int) (h0 : -9223372036854775808 ≤ x) (h1 : x ≤ 9223372036854775807) (h4 : -9223372036854775808 ≤ n) (h5 : n ≤ 9223372036854775807) :
    Calls Try.prog 53 #[.pointer (some ⟨s.fb, 0, none⟩), .int .i64 x, .int .i64 n, .agg #[.func (.func 55) #[] #[], .func (.func 56) #[] #[]]] w fun r w' => r = .returned (.int .i64 (s.rel x n).1) ∧ Mem w' (s.rel x n).2 ∧ Turn s w (s.rel x n).2 w' := by
  have h' := h.alloc (.cells #[.func (.func 55) #[] #[], .func (.func 56) #[] #[]] 86)
  obtain ⟨c0, c1⟩ := h.fbc
  have hz := h.fne
  have hlk := h'.lookup x h0 h1
  have HM := Lib.hid h'
  have HT := Lib.hid (Turn.alloc s w (.cells #[.func (.func 55) #[] #[], .func (.func 56) #[] #[]] 86))
  by_cases hx : x ∈ s.ids
  case neg =>
    rw [look_no hx] at hlk
    have hv : s.rel x n = (32, s) := if_pos hx
    rw [hv]
    clear h h' hx hv hn
    go_enter Try.func53, Try.ntmps53
    go_wp2_with fail
    go_ret
    exact ⟨rfl, HM.out, HT.out⟩
  rw [look_yes hx] at hlk
  by_cases hn1 : n < 0
  · have hv : s.rel x n = (1, s) := by rw [FS.rel, if_neg (by simp [hx]), if_pos hn1]
    rw [hv]
    have hd : decide (n < 0) = true := by simpa using hn1
    clear h h' hx hv hn
    go_enter Try.func53, Try.ntmps53
    go_wp2_with fail
    go_ret
    exact ⟨rfl, HM.out, HT.out⟩
  have hd : decide (n < 0) = false := by simpa using hn1
  have hF := Lib.hid (h'.fund x hx)
  have n1 := hn.sp x hx
  have n2 := hn.en x hx
  have n3 := hn.le x hx
  have n4 := hn.al x hx
  by_cases hm : s.en x < n
  · have hv : s.rel x n = (60, s) := by rw [FS.rel, if_neg (by simp [hx]), if_neg hn1, if_pos (show s.en x < n from hm)]
    rw [hv]
    have hd2 : decide (s.en x < n) = true := by simpa using hm
    clear h h' hx hv hn hn1 hm
    go_enter Try.func53, Try.ntmps53
    go_wp2_with fail
    refine (kept_any hF.out).mono ?_
    rintro e w1 ⟨rfl, rfl⟩
    go_wp2_with fail
    go_ret
    exact ⟨rfl, HM.out, HT.out.trans (Turn.of_below (Below.refl _ _))⟩
  · have hv : s.rel x n = (0, { s with en := upd s.en x (s.en x - n) }) := by rw [FS.rel, if_neg (by simp [hx]), if_neg hn1, if_neg (show ¬ s.en x < n from hm)]
    rw [hv]
    have hd2 : decide (s.en x < n) = false := by simpa using hm
    have HX := Lib.hid hx
    have k1 : 0 ≤ n := by omega
    have k2 : n ≤ 1000000000000000 := by omega
    have k3 : s.en x ≤ 1000000000000000 := by omega
    clear h h' hx hv hn hn1 hm
    go_enter Try.func53, Try.ntmps53
    go_wp2_with fail
    refine (kept_any hF.out).mono ?_
    rintro e w1 ⟨rfl, rfl⟩
    go_wp2_with fail
    refine (cl56 hF.out k1 k2 n2 k3).mono ?_
    rintro e w2 ⟨rfl, rfl⟩
    go_wp2_with fail
    go_ret
    exact ⟨rfl, (HM.out).setEn HX.out _, HT.out.trans ((Turn.of_below (Below.refl _ _)).trans (Turn.setOwn ⟨s.g x, 4, none⟩ _ (HM.out.fow HX.out) _ rfl))⟩
set_option maxHeartbeats 1000000 in
theorem rel_any {w : World} {s : FS} (h : Mem w s) (hn : Num s) (x n : Int) (h0 : -9223372036854775808 ≤ x) (h1 : x ≤ 9223372036854775807) (h4 : -9223372036854775808 ≤ n) (h5 : n ≤ 9223372036854775807) :
    Calls Try.prog 29 #[.pointer (some ⟨s.fb, 0, none⟩), .int .i64 x, .int .i64 n] w fun r w' => r = .returned (.int .i64 (s.rel x n).1) ∧ Mem w' (s.rel x n).2 ∧ Turn s w (s.rel x n).2 w' := by
  have key := relpost h hn x n h0 h1 h4 h5
  go_enter Try.func29, Try.ntmps29
  go_wp2_with fail
  refine key.mono ?_
  rintro e w1 ⟨rfl, hM, hT⟩
  go_wp2_with fail
  go_ret
  exact ⟨rfl, hM, hT⟩
set_option maxRecDepth 100000 in
set_option maxHeartbeats 2000000 in
theorem spendpost {w : World} {s : FS} (h : Mem w s) (hn : Num s) (x n : Int) (h0 : -9223372036854775808 ≤ x) (h1 : x ≤ 9223372036854775807) (h4 : -9223372036854775808 ≤ n) (h5 : n ≤ 9223372036854775807) :
    Calls Try.prog 53 #[.pointer (some ⟨s.fb, 0, none⟩), .int .i64 x, .int .i64 n, .agg #[.func (.func 37) #[] #[], .func (.func 67) #[] #[]]] w fun r w' => r = .returned (.int .i64 (s.spend x n).1) ∧ Mem w' (s.spend x n).2 ∧ Turn s w (s.spend x n).2 w' := by
  have h' := h.alloc (.cells #[.func (.func 37) #[] #[], .func (.func 67) #[] #[]] 86)
  obtain ⟨c0, c1⟩ := h.fbc
  have hz := h.fne
  have hlk := h'.lookup x h0 h1
  have HM := Lib.hid h'
  have HT := Lib.hid (Turn.alloc s w (.cells #[.func (.func 37) #[] #[], .func (.func 67) #[] #[]] 86))
  by_cases hx : x ∈ s.ids
  case neg =>
    rw [look_no hx] at hlk
    have hv : s.spend x n = (32, s) := if_pos hx
    rw [hv]
    clear h h' hx hv hn
    go_enter Try.func53, Try.ntmps53
    go_wp2_with fail
    go_ret
    exact ⟨rfl, HM.out, HT.out⟩
  rw [look_yes hx] at hlk
  by_cases hn1 : n < 0
  · have hv : s.spend x n = (1, s) := by rw [FS.spend, if_neg (by simp [hx]), if_pos hn1]
    rw [hv]
    have hd : decide (n < 0) = true := by simpa using hn1
    clear h h' hx hv hn
    go_enter Try.func53, Try.ntmps53
    go_wp2_with fail
    go_ret
    exact ⟨rfl, HM.out, HT.out⟩
  have hd : decide (n < 0) = false := by simpa using hn1
  have hF := Lib.hid (h'.fund x hx)
  have n1 := hn.sp x hx
  have n2 := hn.en x hx
  have n3 := hn.le x hx
  have n4 := hn.al x hx
  by_cases hm : s.al x - s.sp x - s.en x < n
  · have hv : s.spend x n = (60, s) := by rw [FS.spend, if_neg (by simp [hx]), if_neg hn1, if_pos (show s.free x < n from hm)]
    rw [hv]
    have hd2 : decide (s.al x - s.sp x - s.en x < n) = true := by simpa using hm
    clear h h' hx hv hn hn1 hm
    go_enter Try.func53, Try.ntmps53
    go_wp2_with fail
    refine (free_any hF.out n1 n2 n3 n4).mono ?_
    rintro e w1 ⟨rfl, kq, rfl⟩
    go_wp2_with fail
    go_ret
    exact ⟨rfl, HM.out.drewN _, HT.out.trans (Turn.of_below (bdrewN (Below.refl _ _) _))⟩
  · have hv : s.spend x n = (0, { s with sp := upd s.sp x (s.sp x + n) }) := by rw [FS.spend, if_neg (by simp [hx]), if_neg hn1, if_neg (show ¬ s.free x < n from hm)]
    rw [hv]
    have hd2 : decide (s.al x - s.sp x - s.en x < n) = false := by simpa using hm
    have HX := Lib.hid hx
    have k1 : 0 ≤ n := by omega
    have k2 : n ≤ 1000000000000000 := by omega
    have k3 : s.sp x ≤ 1000000000000000 := by omega
    clear h h' hx hv hn hn1 hm
    go_enter Try.func53, Try.ntmps53
    go_wp2_with fail
    refine (free_any hF.out n1 n2 n3 n4).mono ?_
    rintro e w1 ⟨rfl, kq, rfl⟩
    go_wp2_with fail
    refine (cl67 (hF.out.drewN _) k1 k2 n1 k3).mono ?_
    rintro e w2 ⟨rfl, rfl⟩
    go_wp2_with fail
    go_ret
    exact ⟨rfl, (HM.out.drewN _).setSp HX.out _, HT.out.trans ((Turn.of_below (bdrewN (Below.refl _ _) _)).trans (Turn.setOwn ⟨s.g x, 3, none⟩ _ (HM.out.fow HX.out) _ rfl))⟩
set_option maxHeartbeats 1000000 in
theorem spend_any {w : World} {s : FS} (h : Mem w s) (hn : Num s) (x n : Int) (h0 : -9223372036854775808 ≤ x) (h1 : x ≤ 9223372036854775807) (h4 : -9223372036854775808 ≤ n) (h5 : n ≤ 9223372036854775807) :
    Calls Try.prog 36 #[.pointer (some ⟨s.fb, 0, none⟩), .int .i64 x, .int .i64 n] w fun r w' => r = .returned (.int .i64 (s.spend x n).1) ∧ Mem w' (s.spend x n).2 ∧ Turn s w (s.spend x n).2 w' := by
  have key := spendpost h hn x n h0 h1 h4 h5
  go_enter Try.func36, Try.ntmps36
  go_wp2_with fail
  refine key.mono ?_
  rintro e w1 ⟨rfl, hM, hT⟩
  go_wp2_with fail
  go_ret
  exact ⟨rfl, hM, hT⟩

end Go.Proofs.Ytmnkgjgaileokaa
