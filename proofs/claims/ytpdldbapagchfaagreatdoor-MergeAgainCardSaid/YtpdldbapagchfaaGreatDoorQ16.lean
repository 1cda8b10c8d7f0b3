/- Records that numbers make. -/
import Derived.Test.YtpdldbapagchfaaGreatDoorQ15
import Derived.Test.YtpdldbapagchfaaGreatDoorQ12
set_option linter.unusedVariables false
set_option linter.unusedSimpArgs false

namespace Go.Proofs.YtpdldbapagchfaaGreatDoor
open Go.RowKit Go.Shelf Go.Maps
attribute [local go_sem] over_cell over_frozen

structure Q4 where
  a : Int
  b : Int
  c : Int
  d : Int
deriving Inhabited
def QR (_ : World) (cs : List Value) (q : Q4) : Prop := cs = [.int .i64 q.a, .int .i64 q.b, .int .i64 q.c, .int .i64 q.d]
def indL : List ByteArray := [⟨#[49, 48]⟩, ⟨#[32, 32]⟩, ⟨#[49, 32]⟩, ⟨#[48, 48]⟩, ⟨#[48, 32]⟩, ⟨#[32, 48]⟩, ⟨#[51, 32]⟩, ⟨#[49, 50]⟩]
def codL : List Nat := [97, 98, 99, 48, 97, 118, 120, 113]
def wi (x : Int) : Int := IntKind.i64.wrap x
def subP (q : Q4) (j : Nat) : Sub := ⟨codL.getD (wi (wi (q.c.tdiv 3) + j * (1 + q.b % 3)) % 8).toNat 0, textP (wi (q.d + 3 * j))⟩
/-- A control field? -/
def ctl (t : ByteArray) : Bool := decide (1 < t.size) && decide ((t.extract 0 2).toList = [48, 48])
def fldP (q : Q4) : Fld := if ctl (tagP q.a) then ⟨tagP q.a, ⟨#[]⟩, textP q.d, []⟩ else ⟨tagP q.a, indL.getD (q.b % 8).toNat ⟨#[]⟩, ⟨#[]⟩, (List.range (1 + q.c % 3).toNat).map (subP q)⟩
set_option maxRecDepth 100000 in
theorem idx8 {m : Nat} (hm : m < 8) (W : World) : (Instr.index 9 (.string ⟨#[97, 98, 99, 48, 97, 118, 120, 113]⟩) (.int .i64 (m : Int))).run Tryz.prog W = .ok (.int .u8 ((codL.getD m 0 : Nat) : Int)) W := by
  have h : m = 0 ∨ m = 1 ∨ m = 2 ∨ m = 3 ∨ m = 4 ∨ m = 5 ∨ m = 6 ∨ m = 7 := by omega
  rcases h with rfl | rfl | rfl | rfl | rfl | rfl | rfl | rfl <;> go_simp <;> rfl
set_option maxRecDepth 100000 in
set_option maxHeartbeats 4000000 in
theorem made_any (S : Nat → Prop) {w : World} {v : Value} {l : List Q4} (h : SlOf 4 S QR w v l) (hl : l.length ≤ 20) :
    Calls Tryz.prog 29 #[v] w fun e w' => ∃ fv, e = .returned (.agg #[.int .u8 97, .int .u8 109, fv]) ∧ OwnOf 48 4 w.heap.size (FldR (fun b => w.heap.size ≤ b)) w' fv (l.map fldP) ∧ Below w.heap.size w w' := by
  obtain ⟨i0, hi, hz1, hz2, hz3⟩ := info_Fld
  obtain ⟨i1, hi1, hy1, hy2, hy3⟩ := info_Sub
  have HV := Lib.hid h
  obtain ⟨a, cap, rfl, -⟩ := h
  obtain ⟨n, hn⟩ : ∃ n, n = l.length := ⟨_, rfl⟩
  rw [← hn] at HV hl ⊢
  have N1 := Lib.hid hn
  clear hn
  go_enter Tryz.func29, Tryz.ntmps29
  go_wp2_with fail
  go_loopw [4] (fun i wr => ∃ (k : Nat) (fv : Value), k ≤ n ∧ i = .int .i64 k ∧ Below w.heap.size w wr ∧ Blk wr w.heap.size #[.int .u8 0, .int .u8 0, .slice none 0 0] 29 ∧ Blk wr (w.heap.size + 1) #[.int .u8 97, .int .u8 109, fv] 29 ∧ OwnX 48 4 (w.heap.size + 2) FldR wr fv ((l.take k).map fldP)) (fun i _ => n - (intOf i).toNat)
  case atStart => exact ⟨0, .slice none 0 0, by omega, rfl, ((Below.refl _ _).alloc (Nat.le_refl _) _).alloc (by simp) _, (Blk.new _ _ _).alloc _, Blk.at_new (by simp) _ _, by simpa using OwnX.nil _ _ _ _ _⟩
  case round =>
    obtain ⟨k, fv, hk, rfl, hb, hb0, hb1, hO⟩ := hrel
    obtain ⟨wo, rfl⟩ : ∃ wo, wo = wr := ⟨_, rfl⟩
    have HB := Lib.hid hb
    have HB0 := Lib.hid hb0
    have HB1 := Lib.hid hb1
    have HO := Lib.hid hO
    clear hb hb0 hb1 hO
    by_cases hlt : k < n
    · have hlx : k < l.length := by rw [← N1.out]; exact hlt
      obtain ⟨b1, o1, cap1, cs1, e1, _, hbl, hR1, _, hg1, _⟩ := SlOf.range (by omega) (SlOf.keep (R' := QR) (S' := S) (by omega) HV.out (Stay.of_below HB.out) (fun _ _ h => h) (fun _ h _ => h)) hlx
      have e1' : a = some ⟨b1, o1, none⟩ := by injection e1
      clear e1
      subst e1'
      obtain ⟨q, hq⟩ : ∃ q, q = l[k] := ⟨_, rfl⟩
      rw [← hq] at hR1
      have HQ := Lib.hid hq
      unfold QR at hR1
      subst hR1
      have HG := Lib.hid hg1
      clear hg1 hq
      have hk20 : k < 20 := by omega
      go_wp2_with (refine wpList_load_mid rfl 92 (.tmp 22) rfl b1 (o1 + k * 4) rfl [.int .i64 q.a, .int .i64 q.b, .int .i64 q.c, .int .i64 q.d] _ HG.out Tryz.underlying92 rfl (by kernel_rfl) ?_)
      obtain ⟨W1, hW1⟩ : ∃ W1, W1 = wo.alloc (.cells #[.int .i64 q.a, .int .i64 q.b, .int .i64 q.c, .int .i64 q.d] 92) := ⟨_, rfl⟩
      rw [← hW1]
      have B1 : RowKit.Hid (Below wo.heap.size wo W1) := Lib.hid (by rw [hW1]; exact (Below.refl _ _).alloc (Nat.le_refl _) _)
      have A1 : RowKit.Hid (Blk W1 wo.heap.size #[.int .i64 q.a, .int .i64 q.b, .int .i64 q.c, .int .i64 q.d] 92) := Lib.hid (by rw [hW1]; exact Blk.new _ _ _)
      clear hW1
      refine (tag_any q.a _).mono ?_
      rintro e w3 ⟨rfl, hb3⟩
      have A3 := Lib.hid (A1.out.below hb3 A1.out.lt)
      have B3 : RowKit.Hid (Below wo.heap.size wo w3) := Lib.hid (B1.out.trans (hb3.mono B1.out.size))
      clear hb3
      obtain ⟨ta, hta⟩ : ∃ ta, ta = tagP q.a := ⟨_, rfl⟩
      rw [← hta]
      have HT := Lib.hid hta
      clear hta
      have HE : RowKit.Hid ((l.take (k + 1)).map fldP = (l.take k).map fldP ++ [fldP q]) := Lib.hid (by rw [List.take_succ_eq_append_getElem hlx, List.map_append, HQ.out]; rfl)
      have z3 : wo.heap.size < w3.heap.size := A3.out.lt
      have z4 : w.heap.size + 1 < wo.heap.size := HB1.out.lt
      have a0 : w3.cell? ⟨wo.heap.size, 0, none⟩ = some (.int .i64 q.a) := A3.out.cell 0
      have a1 : w3.cell? ⟨wo.heap.size, 1, none⟩ = some (.int .i64 q.b) := A3.out.cell 1
      have a2 : w3.cell? ⟨wo.heap.size, 2, none⟩ = some (.int .i64 q.c) := A3.out.cell 2
      have a3 : w3.cell? ⟨wo.heap.size, 3, none⟩ = some (.int .i64 q.d) := A3.out.cell 3
      have hMod := fun (x y : Int) (w' : World) => mod_any x y w'
      have HMod := Lib.hid hMod
      clear hMod
      by_cases hc : 1 < ta.size
      · have g1 : decide ((ta.size : Int) > 1) = true := by simp; omega
        by_cases h0 : (ta.extract 0 2).toList = [48, 48]
        · have hfld : fldP q = ⟨ta, ⟨#[]⟩, textP q.d, []⟩ := by
            have : ctl (tagP q.a) = true := by rw [← HT.out]; unfold ctl; rw [decide_eq_true hc, decide_eq_true h0]; rfl
            rw [fldP, if_pos this, HT.out]
          have HF := Lib.hid hfld
          clear hfld
          go_wp2_with fail
          obtain ⟨W5, hW5⟩ : ∃ W5, W5 = w3.alloc (.cells #[.string ta, .string ⟨#[]⟩, .string ⟨#[]⟩, .slice none 0 0] 48) := ⟨_, rfl⟩
          rw [← hW5]
          have F5 : RowKit.Hid (Blk W5 w3.heap.size #[.string ta, .string ⟨#[]⟩, .string ⟨#[]⟩, .slice none 0 0] 48) := Lib.hid (by rw [hW5]; exact Blk.new _ _ _)
          have B5 : RowKit.Hid (Below wo.heap.size wo W5) := Lib.hid (by rw [hW5]; exact B3.out.alloc (by omega) _)
          have Z5 : RowKit.Hid (W5.heap.size = w3.heap.size + 1) := Lib.hid (by rw [hW5]; simp)
          clear hW5
          refine (text_any q.d _).mono ?_
          rintro e w4 ⟨rfl, hb4⟩
          have F4 := Lib.hid (F5.out.below hb4 F5.out.lt)
          have B4 : RowKit.Hid (Below wo.heap.size wo w4) := Lib.hid (B5.out.trans (hb4.mono B5.out.size))
          clear hb4
          obtain ⟨tx, htx⟩ : ∃ tx, tx = textP q.d := ⟨_, rfl⟩
          rw [← htx] at HF ⊢
          clear htx a0 a1 a2 a3
          have f2 : w4.cell? ⟨w3.heap.size, 2, none⟩ = some (.string ⟨#[]⟩) := F4.out.cell 2
          have f2z := F4.out.frozen 2
          have FB : RowKit.Hid (Blk (w4.setCell ⟨w3.heap.size, 2, none⟩ (.string tx)) w3.heap.size #[.string ta, .string ⟨#[]⟩, .string tx, .slice none 0 0] 48) := Lib.hid (F4.out.set 2 _)
          have BR : RowKit.Hid (Below wo.heap.size wo (w4.setCell ⟨w3.heap.size, 2, none⟩ (.string tx))) := Lib.hid (B4.out.setCell (p := ⟨w3.heap.size, 2, none⟩) (by show wo.heap.size ≤ w3.heap.size; omega) _)
          have BQ : RowKit.Hid (Below w.heap.size w (w4.setCell ⟨w3.heap.size, 2, none⟩ (.string tx))) := Lib.hid (HB.out.trans (BR.out.mono HB.out.size))
          have H1q := Lib.hid (HB1.out.below BR.out (by omega))
          have H0q := Lib.hid (HB0.out.below BR.out (by omega))
          have HOq := Lib.hid (HO.out.below keeps_fld BR.out)
          have HRq : RowKit.Hid (FldR (fun b => wo.heap.size ≤ b) (w4.setCell ⟨w3.heap.size, 2, none⟩ (.string tx)) [.string ta, .string ⟨#[]⟩, .string tx, .slice none 0 0] (fldP q)) := Lib.hid (by rw [HF.out]; exact ⟨_, rfl, none, 0, rfl, by simp, by unfold maxLen; omega, .inl rfl⟩)
          have HLX : RowKit.Hid (∀ r, fv.ownBlock = some r → r < wo.heap.size) := Lib.hid fun r e => (OwnOf.lt HO.out r e).2
          obtain ⟨fl, hfl⟩ : ∃ fl, fl = ((l.take k).map fldP).length := ⟨_, rfl⟩
          have NL : RowKit.Hid (fl ≤ 20) := Lib.hid (by rw [hfl, List.length_map, List.length_take]; omega)
          obtain ⟨css, hrow, hA, hz⟩ := HOq.out
          rw [← hfl] at hrow
          have FL := Lib.hid hfl
          clear hfl
          have HOWq := Lib.hid hrow
          have HAq := Lib.hid hA
          have HZq := Lib.hid hz
          have OL := Lib.hid (OwnOf.lt HOq.out)
          have d2 : RowKit.Hid ((w4.setCell ⟨w3.heap.size, 2, none⟩ (.string tx)).cell? ⟨w.heap.size + 1, 2, none⟩ = some fv) := Lib.hid (H1q.out.cell 2)
          have zq := Lib.hid H1q.out.lt
          have zq' := zq.out
          (try simp only [World.size_setCell] at zq')
          have OF := Lib.hid (one_fld _ _ _ _ HRq.out)
          clear hrow hA hz
          have c2 := d2.out
          go_wp2_with (first
            | refine wpList_load_row 48 (.tmp 6) rfl rfl rfl FB.out Tryz.underlying48 rfl (by kernel_rfl) ?_
            | (at_builtin; go_loud (refine wpList_append_all rfl (.tmp 43) (.tmp 45) 27 rfl (w.heap.size + 2) 48 i0 _ 4 72 Tryz.underlying27 hi hz1 hz2 hz3 rfl (by omega) _ _ _ rfl (HOWq.out.alloc _) 1 [.string ta, .string ⟨#[]⟩, .string tx, .slice none 0 0] _ rfl (src_row (row_fresh' (w4.setCell ⟨w3.heap.size, 2, none⟩ (.string tx)) (by simp) 0 _ 48 4 1 rfl (by unfold maxLen; omega) (Nat.zero_le _))) OF.out (by have := NL.out; unfold maxLen; omega) (by have := NL.out; omega) (by first | omega | (simp; omega)) ?_)
               intro v6 w6 hr6 hg6 ho6
               obtain ⟨va, vc, rfl⟩ : ∃ va vc, v6 = .slice va (fl + 1) vc := by obtain ⟨a', c', e, _⟩ := row_cellz hr6; exact ⟨a', c', e⟩
               have B6 : RowKit.Hid (Below (w.heap.size + 2) (w4.setCell ⟨w3.heap.size, 2, none⟩ (.string tx)) w6) := Lib.hid (below_grown ((Below.refl _ _).alloc (by first | omega | (simp; omega)) _) (by first | omega | (simp; omega)) hg6 (fun r e => (OL.out r e).1))
               have O6 := Lib.hid (OwnX.snoc keeps_fld (by rw [← FL.out]; exact HOWq.out) HAq.out HZq.out HRq.out (fun r e => HLX.out r e) (by omega) rfl ((Below.refl _ _).alloc (Nat.le_refl _) _) (by rw [← FL.out]; exact hr6) hg6 ho6)
               have K6 := Lib.hid (H1q.out.below B6.out (by omega))
               have M6 := Lib.hid (H0q.out.below B6.out (by omega))
               have e2 : w6.cell? ⟨w.heap.size + 1, 2, none⟩ = some fv := K6.out.cell 2
               have f2 := K6.out.frozen 2
               clear hr6 hg6 ho6))
          refine ⟨⟨k + 1, _, hlt, by go_num, ?_, M6.out.set_ne ⟨w.heap.size + 1, 2, none⟩ _ (by simp), K6.out.set 2 _, ?_⟩, by simp [intOf]; omega⟩
          · exact (BQ.out.trans (B6.out.mono (by omega))).setCell (p := ⟨w.heap.size + 1, 2, none⟩) (by simp) _
          · rw [HE.out]
            exact OwnX.tn keeps_fld O6.out ((Tn.refl (fun b => b = w.heap.size + 1) w6).setCell (p := ⟨w.heap.size + 1, 2, none⟩) (.inl rfl) _) (fun b e => by have : b = w.heap.size + 1 := e; omega)
        · have h0' : ((ta.extract 0 2).toList == [48, 48]) = false := by simpa using h0
          have HCT : RowKit.Hid (ctl (tagP q.a) = false) := Lib.hid (by rw [← HT.out]; unfold ctl; rw [decide_eq_false h0]; simp)
          go_wp2_with fail
          obtain ⟨W5, hW5⟩ : ∃ W5, W5 = (w3.alloc (.cells #[.string ta, .string ⟨#[]⟩, .string ⟨#[]⟩, .slice none 0 0] 48)).alloc (.cells #[.string ⟨#[49, 48]⟩, .string ⟨#[32, 32]⟩, .string ⟨#[49, 32]⟩, .string ⟨#[48, 48]⟩, .string ⟨#[48, 32]⟩, .string ⟨#[32, 48]⟩, .string ⟨#[51, 32]⟩, .string ⟨#[49, 50]⟩] 9) := ⟨_, rfl⟩
          rw [← hW5]
          have F5 : RowKit.Hid (Blk W5 w3.heap.size #[.string ta, .string ⟨#[]⟩, .string ⟨#[]⟩, .slice none 0 0] 48) := Lib.hid (by rw [hW5]; exact (Blk.new _ _ _).alloc _)
          have I5 : RowKit.Hid (Blk W5 (w3.heap.size + 1) (indL.map Value.string).toArray 9) := Lib.hid (by rw [hW5]; exact Blk.at_new (by simp) _ _)
          have B5 : RowKit.Hid (Below wo.heap.size wo W5) := Lib.hid (by rw [hW5]; exact (B3.out.alloc (by omega) _).alloc (by simp; omega) _)
          have Z5 : RowKit.Hid (W5.heap.size = w3.heap.size + 2) := Lib.hid (by rw [hW5]; simp)
          have A5 : RowKit.Hid (Blk W5 wo.heap.size #[.int .i64 q.a, .int .i64 q.b, .int .i64 q.c, .int .i64 q.d] 92) := Lib.hid (by rw [hW5]; exact (A3.out.alloc _).alloc _)
          clear hW5 a0 a1 a2 a3
          refine (HMod.out q.b 8 _ (by omega) (by omega)).mono ?_
          rintro e w4 ⟨rfl, rfl⟩
          obtain ⟨jj, hjj⟩ : ∃ jj : Nat, q.b % 8 = jj := ⟨(q.b % 8).toNat, by omega⟩
          have hjj8 : jj < 8 := by omega
          obtain ⟨ind, hind⟩ : ∃ ind, ind = indL.getD (q.b % 8).toNat ⟨#[]⟩ := ⟨_, rfl⟩
          have HIND := Lib.hid hind
          have cI : W5.cell? ⟨w3.heap.size + 1, jj, none⟩ = some (.string ind) := by
            rw [I5.out.cell jj, hind]
            have h2 : (q.b % 8).toNat = jj := by omega
            have h3 : jj < indL.length := hjj8
            rw [h2, getD_get _ _ h3]
            simp [h3]
          rw [hjj]
          have HJJ := Lib.hid hjj
          clear hind hjj
          have f1 : W5.cell? ⟨w3.heap.size, 1, none⟩ = some (.string ⟨#[]⟩) := F5.out.cell 1
          have f1z := F5.out.frozen 1
          have a2 : W5.cell? ⟨wo.heap.size, 2, none⟩ = some (.int .i64 q.c) := A5.out.cell 2
          go_wp2_with fail
          refine (HMod.out q.c 3 _ (by omega) (by omega)).mono ?_
          rintro e w4 ⟨rfl, rfl⟩
          obtain ⟨mc, hmc⟩ : ∃ mc : Nat, 1 + q.c % 3 = mc := ⟨(1 + q.c % 3).toNat, by omega⟩
          have hmc3 : 1 ≤ mc ∧ mc ≤ 3 := by omega
          have hw3 : IntKind.i64.wrap (1 + q.c % 3) = mc := by rw [IntKind.wrap_i64]; omega
          have HMC := Lib.hid hmc
          obtain ⟨r3, hr3⟩ : ∃ r3, r3 = q.c % 3 := ⟨_, rfl⟩
          rw [← hr3] at hw3 ⊢
          clear hmc hr3
          go_wp2_with fail
          have V6 := Lib.hid (F5.out.set 1 (.string ind))
          have A6 := Lib.hid (A5.out.set_ne ⟨w3.heap.size, 1, none⟩ (.string ind) (by show wo.heap.size ≠ w3.heap.size; omega))
          have B6 : RowKit.Hid (Below wo.heap.size wo (W5.setCell ⟨w3.heap.size, 1, none⟩ (.string ind))) := Lib.hid (B5.out.setCell (p := ⟨w3.heap.size, 1, none⟩) (by show wo.heap.size ≤ w3.heap.size; omega) _)
          have B60 := Lib.hid (Below.refl W5.heap.size (W5.setCell ⟨w3.heap.size, 1, none⟩ (.string ind)))
          clear f1 f1z a2 cI
          go_loopw [8] (fun i wr => ∃ (j : Nat) (sv : Value), j ≤ mc ∧ i = .int .i64 j ∧ Below wo.heap.size wo wr ∧ Blk wr wo.heap.size #[.int .i64 q.a, .int .i64 q.b, .int .i64 q.c, .int .i64 q.d] 92 ∧ Blk wr w3.heap.size #[.string ta, .string ind, .string ⟨#[]⟩, sv] 48 ∧ OwnOf 54 2 (w3.heap.size + 1) SubR wr sv ((List.range j).map (subP q)) ∧ w3.heap.size + 1 ≤ wr.heap.size) (fun i _ => mc - (intOf i).toNat)
          case atStart => exact ⟨0, .slice none 0 0, by omega, rfl, B6.out, A6.out, V6.out, by simpa using OwnOf.nil _ _ _ _ _, by have := Z5.out; simp; omega⟩
          case round =>
            obtain ⟨j, sv, hj, rfl, hbl, hal, hfl, hsl, hzl⟩ := hrel
            have BL := Lib.hid hbl
            have AL := Lib.hid hal
            have FL_ := Lib.hid hfl
            have SL_ := Lib.hid hsl
            clear hbl hal hfl hsl
            obtain ⟨sa, sc, rfl⟩ : ∃ sa sc, sv = .slice sa j sc := by obtain ⟨a', c', e, _⟩ := SL_.out.sl; rw [List.length_map, List.length_range] at e; exact ⟨a', c', e⟩
            by_cases hjm : j < mc
            · obtain ⟨S', hS'⟩ : ∃ S' : World → Prop, S' = fun W => Below wr.heap.size wr W := ⟨_, rfl⟩
              have LD : RowKit.Hid (∀ W, S' W → W.cell? ⟨w3.heap.size, 3, none⟩ = some (.slice sa j sc) ∧ W.cell? ⟨wo.heap.size, 1, none⟩ = some (.int .i64 q.b) ∧ W.cell? ⟨wo.heap.size, 2, none⟩ = some (.int .i64 q.c) ∧ W.cell? ⟨wo.heap.size, 3, none⟩ = some (.int .i64 q.d)) := Lib.hid (by
                rw [hS']; intro W h; exact ⟨Below.cellE h (FL_.out.cell 3), Below.cellE h (AL.out.cell 1), Below.cellE h (AL.out.cell 2), Below.cellE h (AL.out.cell 3)⟩)
              have UU : RowKit.Hid (∀ W, Below wr.heap.size wr W → S' W) := Lib.hid (by rw [hS']; exact fun W h => h)
              have hHeld := UU.out _ (Below.refl wr.heap.size wr).drew
              clear hS'
              obtain ⟨rb, hrb⟩ : ∃ rb : Int, rb = q.b % 3 := ⟨_, rfl⟩
              have hrb2 : 0 ≤ rb ∧ rb ≤ 2 := by omega
              have hjc : j = 0 ∨ j = 1 ∨ j = 2 := by omega
              obtain ⟨x1, hx1⟩ : ∃ x1, IntKind.i64.wrap (q.c.tdiv 3) = x1 := ⟨_, rfl⟩
              have hw1 : IntKind.i64.wrap (1 + rb) = 1 + rb := by rw [IntKind.wrap_i64]; omega
              have hw2 : IntKind.i64.wrap ((j : Int) * (1 + rb)) = (j : Int) * (1 + rb) := by rw [IntKind.wrap_i64]; rcases hjc with rfl | rfl | rfl <;> simp <;> omega
              obtain ⟨x2, hx2⟩ : ∃ x2, IntKind.i64.wrap (x1 + (j : Int) * (1 + rb)) = x2 := ⟨_, rfl⟩
              have hw3 : IntKind.i64.wrap (3 * (j : Int)) = 3 * (j : Int) := by rw [IntKind.wrap_i64]; omega
              obtain ⟨x3, hx3⟩ : ∃ x3, IntKind.i64.wrap (q.d + 3 * (j : Int)) = x3 := ⟨_, rfl⟩
              obtain ⟨jc, hjc8⟩ : ∃ jc : Nat, x2 % 8 = jc := ⟨(x2 % 8).toNat, by omega⟩
              have hjl : jc < 8 := by omega
              have HIX : RowKit.Hid (∀ W, (Instr.index 9 (.string ⟨#[97, 98, 99, 48, 97, 118, 120, 113]⟩) (.int .i64 (jc : Int))).run Tryz.prog W = .ok (.int .u8 ((codL.getD jc 0 : Nat) : Int)) W) := Lib.hid fun W => idx8 hjl W
              have HSUB : RowKit.Hid (subP q j = ⟨codL.getD jc 0, textP x3⟩) := Lib.hid (by
                unfold subP wi
                rw [← hrb, hx1, hx2, hjc8, Int.toNat_natCast, hx3])
              have HRB := Lib.hid hrb
              have HJC := Lib.hid hjc8
              clear hrb hjc8 hjc
              obtain ⟨cd, hcd⟩ : ∃ cd : Nat, cd = codL.getD jc 0 := ⟨_, rfl⟩
              rw [← hcd] at HIX HSUB
              clear hcd
              go_wp2_with fail
              refine wp_region_sp 22 S' (by kernel_rfl) (by kernel_rfl) ?_
              simp only [List.take_succ_cons, List.take_zero]
              apply wpAnyH_apart1 (fun g W => ∃ V, g = V.heap.size ∧ W = V.alloc (.cells #[.int .u8 cd, .string (textP x3)] 54) ∧ Below wr.heap.size wr V)
              case take =>
                intro R hR
                refine wpAnyH_take (i := 0) (v := ?_) rfl (by kernel_rfl) (by kernel_rfl) (by kernel_rfl) (fun _ _ _ h => only_panic h) (Or.inl ⟨by rfl, ?_⟩) hHeld ?_
                rotate_left
                · (intro w hSw; obtain ⟨l0, l1, l2, l3⟩ := LD.out w hSw; go_simp; try (with_reducible rfl))
                try simp only [List.getElem_toArray, List.getElem_cons_succ, List.getElem_cons_zero, Act.put, List.setIfInBounds_toArray, List.set_cons_zero, List.set_cons_succ]
                refine wpAnyH_take (i := 1) (v := ?_) rfl (by kernel_rfl) (by kernel_rfl) (by kernel_rfl) (fun _ _ _ h => only_panic h) (Or.inl ⟨by rfl, ?_⟩) hHeld ?_
                rotate_left
                · (intro w hSw; obtain ⟨l0, l1, l2, l3⟩ := LD.out w hSw; go_simp; try (with_reducible rfl))
                try simp only [List.getElem_toArray, List.getElem_cons_succ, List.getElem_cons_zero, Act.put, List.setIfInBounds_toArray, List.set_cons_zero, List.set_cons_succ]
                refine wpAnyH_take (i := 2) (v := ?_) rfl (by kernel_rfl) (by kernel_rfl) (by kernel_rfl) (fun _ _ _ h => only_panic h) (Or.inl ⟨by rfl, ?_⟩) hHeld ?_
                rotate_left
                · (intro w hSw; obtain ⟨l0, l1, l2, l3⟩ := LD.out w hSw; go_simp; try (with_reducible rfl))
                try simp only [List.getElem_toArray, List.getElem_cons_succ, List.getElem_cons_zero, Act.put, List.setIfInBounds_toArray, List.set_cons_zero, List.set_cons_succ]
                refine wpAnyH_take (i := 3) (v := ?_) rfl (by kernel_rfl) (by kernel_rfl) (by kernel_rfl) (fun _ _ _ h => only_panic h) (Or.inl ⟨by rfl, ?_⟩) hHeld ?_
                rotate_left
                · (intro w hSw; obtain ⟨l0, l1, l2, l3⟩ := LD.out w hSw; go_simp; try (with_reducible rfl))
                try simp only [List.getElem_toArray, List.getElem_cons_succ, List.getElem_cons_zero, Act.put, List.setIfInBounds_toArray, List.set_cons_zero, List.set_cons_succ]
                refine wpAnyH_take (i := 4) (v := ?_) rfl (by kernel_rfl) (by kernel_rfl) (by kernel_rfl) (fun _ _ _ h => only_panic h) (Or.inl ⟨by rfl, ?_⟩) hHeld ?_
                rotate_left
                · (intro w hSw; obtain ⟨l0, l1, l2, l3⟩ := LD.out w hSw; go_simp; try (with_reducible rfl))
                try simp only [List.getElem_toArray, List.getElem_cons_succ, List.getElem_cons_zero, Act.put, List.setIfInBounds_toArray, List.set_cons_zero, List.set_cons_succ]
                refine wpAnyH_take (i := 5) (v := ?_) rfl (by kernel_rfl) (by kernel_rfl) (by kernel_rfl) (fun _ _ _ h => only_panic h) (Or.inl ⟨by rfl, ?_⟩) hHeld ?_
                rotate_left
                · (intro w hSw; obtain ⟨l0, l1, l2, l3⟩ := LD.out w hSw; go_simp; try (with_reducible rfl))
                try simp only [List.getElem_toArray, List.getElem_cons_succ, List.getElem_cons_zero, Act.put, List.setIfInBounds_toArray, List.set_cons_zero, List.set_cons_succ]
                refine wpAnyH_take (i := 6) (v := ?_) rfl (by kernel_rfl) (by kernel_rfl) (by kernel_rfl) (fun _ _ _ h => only_panic h) (Or.inl ⟨by rfl, ?_⟩) hHeld ?_
                rotate_left
                · (intro w hSw; obtain ⟨l0, l1, l2, l3⟩ := LD.out w hSw; go_simp; try (with_reducible rfl))
                try simp only [List.getElem_toArray, List.getElem_cons_succ, List.getElem_cons_zero, Act.put, List.setIfInBounds_toArray, List.set_cons_zero, List.set_cons_succ]
                refine wpAnyH_take (i := 7) (v := ?_) rfl (by kernel_rfl) (by kernel_rfl) (by kernel_rfl) (fun _ _ _ h => only_panic h) (Or.inl ⟨by rfl, ?_⟩) hHeld ?_
                rotate_left
                · (intro w hSw; obtain ⟨l0, l1, l2, l3⟩ := LD.out w hSw; go_simp; try (with_reducible rfl))
                try simp only [List.getElem_toArray, List.getElem_cons_succ, List.getElem_cons_zero, Act.put, List.setIfInBounds_toArray, List.set_cons_zero, List.set_cons_succ]
                refine wpAnyH_take (i := 14) (v := ?_) rfl (by kernel_rfl) (by kernel_rfl) (by kernel_rfl) (fun _ _ _ h => only_panic h) (Or.inl ⟨by rfl, ?_⟩) hHeld ?_
                rotate_left
                · (intro w hSw; obtain ⟨l0, l1, l2, l3⟩ := LD.out w hSw; go_simp; try (with_reducible rfl))
                try simp only [List.getElem_toArray, List.getElem_cons_succ, List.getElem_cons_zero, Act.put, List.setIfInBounds_toArray, List.set_cons_zero, List.set_cons_succ]
                refine wpAnyH_take (i := 15) (v := ?_) rfl (by kernel_rfl) (by kernel_rfl) (by kernel_rfl) (fun _ _ _ h => only_panic h) (Or.inl ⟨by rfl, ?_⟩) hHeld ?_
                rotate_left
                · (intro w hSw; obtain ⟨l0, l1, l2, l3⟩ := LD.out w hSw; go_simp; try (with_reducible rfl))
                try simp only [List.getElem_toArray, List.getElem_cons_succ, List.getElem_cons_zero, Act.put, List.setIfInBounds_toArray, List.set_cons_zero, List.set_cons_succ]
                refine wpAnyH_take (i := 16) (v := ?_) rfl (by kernel_rfl) (by kernel_rfl) (by kernel_rfl) (fun _ _ _ h => only_panic h) (Or.inl ⟨by rfl, ?_⟩) hHeld ?_
                rotate_left
                · (intro w hSw; obtain ⟨l0, l1, l2, l3⟩ := LD.out w hSw; go_simp; try (with_reducible rfl))
                try simp only [List.getElem_toArray, List.getElem_cons_succ, List.getElem_cons_zero, Act.put, List.setIfInBounds_toArray, List.set_cons_zero, List.set_cons_succ]
                refine wpAnyH_take (i := 17) (v := ?_) rfl (by kernel_rfl) (by kernel_rfl) (by kernel_rfl) (fun _ _ _ h => only_panic h) (Or.inl ⟨by rfl, ?_⟩) hHeld ?_
                rotate_left
                · (intro w hSw; obtain ⟨l0, l1, l2, l3⟩ := LD.out w hSw; go_simp; try (with_reducible rfl))
                try simp only [List.getElem_toArray, List.getElem_cons_succ, List.getElem_cons_zero, Act.put, List.setIfInBounds_toArray, List.set_cons_zero, List.set_cons_succ]
                refine wpAnyH_take (i := 18) (v := ?_) rfl (by kernel_rfl) (by kernel_rfl) (by kernel_rfl) (fun _ _ _ h => only_panic h) (Or.inl ⟨by rfl, ?_⟩) hHeld ?_
                rotate_left
                · (intro w hSw; obtain ⟨l0, l1, l2, l3⟩ := LD.out w hSw; go_simp; try (with_reducible rfl))
                try simp only [List.getElem_toArray, List.getElem_cons_succ, List.getElem_cons_zero, Act.put, List.setIfInBounds_toArray, List.set_cons_zero, List.set_cons_succ]
                refine wpAnyH_one (i := 8) rfl (by kernel_rfl) (by rfl) ?_
                go_simp
                refine (HMod.out q.b 3 _ (by omega) (by omega)).mono ?_
                rintro e V ⟨rfl, rfl⟩
                rw [← HRB.out]
                refine ⟨hHeld, ?_⟩
                refine wpAnyH_take (i := 9) (v := ?_) rfl (by kernel_rfl) (by kernel_rfl) (by kernel_rfl) (fun _ _ _ h => only_panic h) (Or.inl ⟨by rfl, ?_⟩) hHeld ?_
                rotate_left
                · (intro w hSw; clear hSw; go_simp; try (with_reducible rfl))
                try simp only [List.getElem_toArray, List.getElem_cons_succ, List.getElem_cons_zero, Act.put, List.setIfInBounds_toArray, List.set_cons_zero, List.set_cons_succ]
                refine wpAnyH_take (i := 10) (v := ?_) rfl (by kernel_rfl) (by kernel_rfl) (by kernel_rfl) (fun _ _ _ h => only_panic h) (Or.inl ⟨by rfl, ?_⟩) hHeld ?_
                rotate_left
                · (intro w hSw; clear hSw; go_simp; try (with_reducible rfl))
                try simp only [List.getElem_toArray, List.getElem_cons_succ, List.getElem_cons_zero, Act.put, List.setIfInBounds_toArray, List.set_cons_zero, List.set_cons_succ]
                refine wpAnyH_take (i := 11) (v := ?_) rfl (by kernel_rfl) (by kernel_rfl) (by kernel_rfl) (fun _ _ _ h => only_panic h) (Or.inl ⟨by rfl, ?_⟩) hHeld ?_
                rotate_left
                · (intro w hSw; clear hSw; go_simp; try (with_reducible rfl))
                try simp only [List.getElem_toArray, List.getElem_cons_succ, List.getElem_cons_zero, Act.put, List.setIfInBounds_toArray, List.set_cons_zero, List.set_cons_succ]
                refine wpAnyH_one (i := 12) rfl (by kernel_rfl) (by rfl) ?_
                go_simp
                refine (HMod.out x2 8 _ (by omega) (by omega)).mono ?_
                rintro e V ⟨rfl, rfl⟩
                rw [HJC.out]
                refine ⟨hHeld, ?_⟩
                refine wpAnyH_take (i := 13) (v := ?_) rfl (by kernel_rfl) (by kernel_rfl) (by kernel_rfl) (fun _ _ _ h => only_panic h) (Or.inl ⟨by rfl, ?_⟩) hHeld ?_
                rotate_left
                · (intro w hSw; have hix := HIX.out w; go_simp; try (with_reducible rfl))
                try simp only [List.getElem_toArray, List.getElem_cons_succ, List.getElem_cons_zero, Act.put, List.setIfInBounds_toArray, List.set_cons_zero, List.set_cons_succ]
                refine wpAnyH_one (i := 19) rfl (by kernel_rfl) (by rfl) ?_
                go_simp
                refine (text_any x3 _).mono ?_
                rintro e V ⟨rfl, hb⟩
                have hbV : Below wr.heap.size wr V := (Below.refl wr.heap.size wr).drew.trans (hb.mono (Nat.le_refl _))
                have HBV := Lib.hid hbV
                have hHeld := UU.out _ hbV
                clear hb hbV
                refine ⟨hHeld, ?_⟩
                refine wpAnyH_take (i := 20) (v := ?_) rfl (by kernel_rfl) (by kernel_rfl) (by kernel_rfl) (fun _ _ _ h => only_panic h) (Or.inl ⟨by rfl, ?_⟩) hHeld ?_
                rotate_left
                · (intro w hSw; clear hSw; go_simp; try (with_reducible rfl))
                try simp only [List.getElem_toArray, List.getElem_cons_succ, List.getElem_cons_zero, Act.put, List.setIfInBounds_toArray, List.set_cons_zero, List.set_cons_succ]
                have hHeld2 := UU.out _ (HBV.out.alloc HBV.out.size (.cells #[.int .u8 cd, .string (textP x3)] 54))
                refine wpAnyH_one (i := 21) rfl (by kernel_rfl) (by rfl) ?_
                go_simp
                refine ⟨hHeld2, ?_⟩
                obtain ⟨g, hg⟩ : ∃ g, g = V.heap.size := ⟨_, rfl⟩
                rw [← hg]
                exact wpAnyH_done (by kernel_rfl) ⟨rfl, hR g _ ⟨V, hg, rfl, HBV.out⟩⟩ _
              case rest =>
                rintro _ _ ⟨W, rfl, rfl, hB⟩
                have BW := Lib.hid hB
                have FW := Lib.hid (FL_.out.below hB FL_.out.lt)
                have AW := Lib.hid (AL.out.below hB AL.out.lt)
                have SW := Lib.hid (SL_.out.up hB (fun _ _ h => h))
                have ZW := hB.size
                clear hB LD UU hHeld
                obtain ⟨css, hrow, hA, hz⟩ := SW.out
                rw [List.length_map, List.length_range] at hrow
                have HOWq := Lib.hid hrow
                have HAq := Lib.hid hA
                have HZq := Lib.hid hz
                clear hrow hA hz
                simp only [endN, List.drop_succ_cons, List.drop_zero, Act.put, List.setIfInBounds_toArray, List.set_cons_zero, List.set_cons_succ]
                go_wp2_with (first
                  | (at_builtin; go_loud (refine wpList_append_all rfl (.tmp 65) (.tmp 85) 46 rfl (w3.heap.size + 1) 54 i1 _ 2 24 Tryz.underlying46 hi1 hy1 hy2 hy3 rfl (by omega) _ j css.flatten rfl (HOWq.out.alloc _) 1 [.int .u8 cd, .string (textP x3)] _ rfl (src_row (row_fresh' W (by simp) 0 _ 54 2 1 rfl (by unfold maxLen; omega) (Nat.zero_le _))) (by simp [Value.oneCell']) (by unfold maxLen; omega) (by omega) (by simp; omega) ?_)
                     intro v7 w7 hr7 hg7 ho7
                     obtain ⟨va, vc, rfl⟩ : ∃ va vc, v7 = .slice va (j + 1) vc := by obtain ⟨a', c', e, _⟩ := row_cellz hr7; exact ⟨a', c', e⟩
                     have B7 : RowKit.Hid (Below (w3.heap.size + 1) W w7) := Lib.hid (below_grown ((Below.refl _ _).alloc (by omega) _) (by simp; omega) hg7 (fun r e => (row_lt HOWq.out r e).1))
                     have R7 := Lib.hid hr7
                     have F7 := Lib.hid (FW.out.below B7.out (by omega))
                     have e3 : w7.cell? ⟨w3.heap.size, 3, none⟩ = some (.slice sa j sc) := F7.out.cell 3
                     have e3z := F7.out.frozen 3
                     clear hr7 hg7 ho7))
                refine ⟨⟨j + 1, _, hjm, by go_num, ?_, ?_, F7.out.set 3 _, ?_, ?_⟩, by simp [intOf]; omega⟩
                · exact (BL.out.trans (BW.out.mono BL.out.size)).trans ((B7.out.mono (by omega)).setCell (p := ⟨w3.heap.size, 3, none⟩) (by show wo.heap.size ≤ w3.heap.size; omega) _)
                · exact (AW.out.below B7.out (by omega)).set_ne ⟨w3.heap.size, 3, none⟩ _ (by show wo.heap.size ≠ w3.heap.size; omega)
                · rw [List.range_succ, List.map_append, List.map_singleton, HSUB.out]
                  refine OwnOf.keep (R := SubR) (R' := SubR) (OwnOf.more (w := w7) (R := SubR) (M := [⟨cd, textP x3⟩]) (c := [[.int .u8 cd, .string (textP x3)]]) (by rw [List.length_map, List.length_range]; simpa using R7.out) (HAq.out.mono (R' := SubR w7) fun _ _ h => h) (All2.one (show SubR w7 _ _ from rfl)) HZq.out (by simp)) ((Tn.refl (fun b => b = w3.heap.size) w7).setCell (p := ⟨w3.heap.size, 3, none⟩) (.inl rfl) _) (fun r e h1 h2 h3 => by have : r = w3.heap.size := h3; omega) (fun _ _ h => h)
                · have := B7.out.size
                  simp; omega
            · obtain rfl : j = mc := by omega
              have HRq : RowKit.Hid (FldR (fun b => wo.heap.size ≤ b) wr [.string ta, .string ind, .string ⟨#[]⟩, .slice sa j sc] (fldP q)) := Lib.hid (by
                have e1 : fldP q = ⟨ta, ind, ⟨#[]⟩, (List.range j).map (subP q)⟩ := by
                  unfold fldP
                  rw [if_neg (by rw [HCT.out]; simp), ← HT.out, ← HIND.out, HMC.out, Int.toNat_natCast]
                rw [e1]
                refine ⟨_, rfl, SubsAt.keep (SL_.out.slB (by omega)) (fun _ _ _ => rfl) (fun b h _ => ?_)⟩
                have : w3.heap.size + 1 ≤ b := h
                show wo.heap.size ≤ b; omega)
              have FB := Lib.hid FL_.out
              have BQ : RowKit.Hid (Below w.heap.size w wr) := Lib.hid (HB.out.trans (BL.out.mono HB.out.size))
              have H1q := Lib.hid (HB1.out.below BL.out (by omega))
              have H0q := Lib.hid (HB0.out.below BL.out (by omega))
              have HOq := Lib.hid (HO.out.below keeps_fld BL.out)
              have HLX : RowKit.Hid (∀ r, fv.ownBlock = some r → r < wo.heap.size) := Lib.hid fun r e => (OwnOf.lt HO.out r e).2
              obtain ⟨fl, hfl⟩ : ∃ fl, fl = ((l.take k).map fldP).length := ⟨_, rfl⟩
              have NL : RowKit.Hid (fl ≤ 20) := Lib.hid (by rw [hfl, List.length_map, List.length_take]; omega)
              obtain ⟨css, hrow, hA, hz⟩ := HOq.out
              rw [← hfl] at hrow
              have FL := Lib.hid hfl
              clear hfl
              have HOWq := Lib.hid hrow
              have HAq := Lib.hid hA
              have HZq := Lib.hid hz
              have OL := Lib.hid (OwnOf.lt HOq.out)
              have d2 : RowKit.Hid (wr.cell? ⟨w.heap.size + 1, 2, none⟩ = some fv) := Lib.hid (H1q.out.cell 2)
              have zq := Lib.hid H1q.out.lt
              have zq' := zq.out
              (try simp only [World.size_setCell] at zq')
              have OF := Lib.hid (one_fld _ _ _ _ HRq.out)
              clear hrow hA hz
              have c2 := d2.out
              go_wp2_with (first
                | refine wpList_load_row 48 (.tmp 6) rfl rfl rfl FB.out Tryz.underlying48 rfl (by kernel_rfl) ?_
                | (at_builtin; go_loud (refine wpList_append_all rfl (.tmp 89) (.tmp 91) 27 rfl (w.heap.size + 2) 48 i0 _ 4 72 Tryz.underlying27 hi hz1 hz2 hz3 rfl (by omega) _ _ _ rfl (HOWq.out.alloc _) 1 [.string ta, .string ind, .string ⟨#[]⟩, .slice sa j sc] _ rfl (src_row (row_fresh' wr (by simp) 0 _ 48 4 1 rfl (by unfold maxLen; omega) (Nat.zero_le _))) OF.out (by have := NL.out; unfold maxLen; omega) (by have := NL.out; omega) (by first | omega | (simp; omega)) ?_)
                   intro v6 w6 hr6 hg6 ho6
                   obtain ⟨va, vc, rfl⟩ : ∃ va vc, v6 = .slice va (fl + 1) vc := by obtain ⟨a', c', e, _⟩ := row_cellz hr6; exact ⟨a', c', e⟩
                   have B6 : RowKit.Hid (Below (w.heap.size + 2) wr w6) := Lib.hid (below_grown ((Below.refl _ _).alloc (by first | omega | (simp; omega)) _) (by first | omega | (simp; omega)) hg6 (fun r e => (OL.out r e).1))
                   have O6 := Lib.hid (OwnX.snoc keeps_fld (by rw [← FL.out]; exact HOWq.out) HAq.out HZq.out HRq.out (fun r e => HLX.out r e) (by omega) rfl ((Below.refl _ _).alloc (Nat.le_refl _) _) (by rw [← FL.out]; exact hr6) hg6 ho6)
                   have K6 := Lib.hid (H1q.out.below B6.out (by omega))
                   have M6 := Lib.hid (H0q.out.below B6.out (by omega))
                   have e2 : w6.cell? ⟨w.heap.size + 1, 2, none⟩ = some fv := K6.out.cell 2
                   have f2 := K6.out.frozen 2
                   clear hr6 hg6 ho6))
              refine ⟨⟨k + 1, _, hlt, by go_num, ?_, M6.out.set_ne ⟨w.heap.size + 1, 2, none⟩ _ (by simp), K6.out.set 2 _, ?_⟩, by simp [intOf]; omega⟩
              · exact (BQ.out.trans (B6.out.mono (by omega))).setCell (p := ⟨w.heap.size + 1, 2, none⟩) (by simp) _
              · rw [HE.out]
                exact OwnX.tn keeps_fld O6.out ((Tn.refl (fun b => b = w.heap.size + 1) w6).setCell (p := ⟨w.heap.size + 1, 2, none⟩) (.inl rfl) _) (fun b e => by have : b = w.heap.size + 1 := e; omega)
      · have g1 : decide ((ta.size : Int) > 1) = false := by simp; omega
        have HCT : RowKit.Hid (ctl (tagP q.a) = false) := Lib.hid (by rw [← HT.out]; unfold ctl; rw [decide_eq_false hc]; simp)
        go_wp2_with fail
        obtain ⟨W5, hW5⟩ : ∃ W5, W5 = (w3.alloc (.cells #[.string ta, .string ⟨#[]⟩, .string ⟨#[]⟩, .slice none 0 0] 48)).alloc (.cells #[.string ⟨#[49, 48]⟩, .string ⟨#[32, 32]⟩, .string ⟨#[49, 32]⟩, .string ⟨#[48, 48]⟩, .string ⟨#[48, 32]⟩, .string ⟨#[32, 48]⟩, .string ⟨#[51, 32]⟩, .string ⟨#[49, 50]⟩] 9) := ⟨_, rfl⟩
        rw [← hW5]
        have F5 : RowKit.Hid (Blk W5 w3.heap.size #[.string ta, .string ⟨#[]⟩, .string ⟨#[]⟩, .slice none 0 0] 48) := Lib.hid (by rw [hW5]; exact (Blk.new _ _ _).alloc _)
        have I5 : RowKit.Hid (Blk W5 (w3.heap.size + 1) (indL.map Value.string).toArray 9) := Lib.hid (by rw [hW5]; exact Blk.at_new (by simp) _ _)
        have B5 : RowKit.Hid (Below wo.heap.size wo W5) := Lib.hid (by rw [hW5]; exact (B3.out.alloc (by omega) _).alloc (by simp; omega) _)
        have Z5 : RowKit.Hid (W5.heap.size = w3.heap.size + 2) := Lib.hid (by rw [hW5]; simp)
        have A5 : RowKit.Hid (Blk W5 wo.heap.size #[.int .i64 q.a, .int .i64 q.b, .int .i64 q.c, .int .i64 q.d] 92) := Lib.hid (by rw [hW5]; exact (A3.out.alloc _).alloc _)
        clear hW5 a0 a1 a2 a3
        refine (HMod.out q.b 8 _ (by omega) (by omega)).mono ?_
        rintro e w4 ⟨rfl, rfl⟩
        obtain ⟨jj, hjj⟩ : ∃ jj : Nat, q.b % 8 = jj := ⟨(q.b % 8).toNat, by omega⟩
        have hjj8 : jj < 8 := by omega
        obtain ⟨ind, hind⟩ : ∃ ind, ind = indL.getD (q.b % 8).toNat ⟨#[]⟩ := ⟨_, rfl⟩
        have HIND := Lib.hid hind
        have cI : W5.cell? ⟨w3.heap.size + 1, jj, none⟩ = some (.string ind) := by
          rw [I5.out.cell jj, hind]
          have h2 : (q.b % 8).toNat = jj := by omega
          have h3 : jj < indL.length := hjj8
          rw [h2, getD_get _ _ h3]
          simp [h3]
        rw [hjj]
        have HJJ := Lib.hid hjj
        clear hind hjj
        have f1 : W5.cell? ⟨w3.heap.size, 1, none⟩ = some (.string ⟨#[]⟩) := F5.out.cell 1
        have f1z := F5.out.frozen 1
        have a2 : W5.cell? ⟨wo.heap.size, 2, none⟩ = some (.int .i64 q.c) := A5.out.cell 2
        go_wp2_with fail
        refine (HMod.out q.c 3 _ (by omega) (by omega)).mono ?_
        rintro e w4 ⟨rfl, rfl⟩
        obtain ⟨mc, hmc⟩ : ∃ mc : Nat, 1 + q.c % 3 = mc := ⟨(1 + q.c % 3).toNat, by omega⟩
        have hmc3 : 1 ≤ mc ∧ mc ≤ 3 := by omega
        have hw3 : IntKind.i64.wrap (1 + q.c % 3) = mc := by rw [IntKind.wrap_i64]; omega
        have HMC := Lib.hid hmc
        obtain ⟨r3, hr3⟩ : ∃ r3, r3 = q.c % 3 := ⟨_, rfl⟩
        rw [← hr3] at hw3 ⊢
        clear hmc hr3
        go_wp2_with fail
        have V6 := Lib.hid (F5.out.set 1 (.string ind))
        have A6 := Lib.hid (A5.out.set_ne ⟨w3.heap.size, 1, none⟩ (.string ind) (by show wo.heap.size ≠ w3.heap.size; omega))
        have B6 : RowKit.Hid (Below wo.heap.size wo (W5.setCell ⟨w3.heap.size, 1, none⟩ (.string ind))) := Lib.hid (B5.out.setCell (p := ⟨w3.heap.size, 1, none⟩) (by show wo.heap.size ≤ w3.heap.size; omega) _)
        have B60 := Lib.hid (Below.refl W5.heap.size (W5.setCell ⟨w3.heap.size, 1, none⟩ (.string ind)))
        clear f1 f1z a2 cI
        go_loopw [8] (fun i wr => ∃ (j : Nat) (sv : Value), j ≤ mc ∧ i = .int .i64 j ∧ Below wo.heap.size wo wr ∧ Blk wr wo.heap.size #[.int .i64 q.a, .int .i64 q.b, .int .i64 q.c, .int .i64 q.d] 92 ∧ Blk wr w3.heap.size #[.string ta, .string ind, .string ⟨#[]⟩, sv] 48 ∧ OwnOf 54 2 (w3.heap.size + 1) SubR wr sv ((List.range j).map (subP q)) ∧ w3.heap.size + 1 ≤ wr.heap.size) (fun i _ => mc - (intOf i).toNat)
        case atStart => exact ⟨0, .slice none 0 0, by omega, rfl, B6.out, A6.out, V6.out, by simpa using OwnOf.nil _ _ _ _ _, by have := Z5.out; simp; omega⟩
        case round =>
          obtain ⟨j, sv, hj, rfl, hbl, hal, hfl, hsl, hzl⟩ := hrel
          have BL := Lib.hid hbl
          have AL := Lib.hid hal
          have FL_ := Lib.hid hfl
          have SL_ := Lib.hid hsl
          clear hbl hal hfl hsl
          obtain ⟨sa, sc, rfl⟩ : ∃ sa sc, sv = .slice sa j sc := by obtain ⟨a', c', e, _⟩ := SL_.out.sl; rw [List.length_map, List.length_range] at e; exact ⟨a', c', e⟩
          by_cases hjm : j < mc
          · obtain ⟨S', hS'⟩ : ∃ S' : World → Prop, S' = fun W => Below wr.heap.size wr W := ⟨_, rfl⟩
            have LD : RowKit.Hid (∀ W, S' W → W.cell? ⟨w3.heap.size, 3, none⟩ = some (.slice sa j sc) ∧ W.cell? ⟨wo.heap.size, 1, none⟩ = some (.int .i64 q.b) ∧ W.cell? ⟨wo.heap.size, 2, none⟩ = some (.int .i64 q.c) ∧ W.cell? ⟨wo.heap.size, 3, none⟩ = some (.int .i64 q.d)) := Lib.hid (by
              rw [hS']; intro W h; exact ⟨Below.cellE h (FL_.out.cell 3), Below.cellE h (AL.out.cell 1), Below.cellE h (AL.out.cell 2), Below.cellE h (AL.out.cell 3)⟩)
            have UU : RowKit.Hid (∀ W, Below wr.heap.size wr W → S' W) := Lib.hid (by rw [hS']; exact fun W h => h)
            have hHeld := UU.out _ (Below.refl wr.heap.size wr).drew
            clear hS'
            obtain ⟨rb, hrb⟩ : ∃ rb : Int, rb = q.b % 3 := ⟨_, rfl⟩
            have hrb2 : 0 ≤ rb ∧ rb ≤ 2 := by omega
            have hjc : j = 0 ∨ j = 1 ∨ j = 2 := by omega
            obtain ⟨x1, hx1⟩ : ∃ x1, IntKind.i64.wrap (q.c.tdiv 3) = x1 := ⟨_, rfl⟩
            have hw1 : IntKind.i64.wrap (1 + rb) = 1 + rb := by rw [IntKind.wrap_i64]; omega
            have hw2 : IntKind.i64.wrap ((j : Int) * (1 + rb)) = (j : Int) * (1 + rb) := by rw [IntKind.wrap_i64]; rcases hjc with rfl | rfl | rfl <;> simp <;> omega
            obtain ⟨x2, hx2⟩ : ∃ x2, IntKind.i64.wrap (x1 + (j : Int) * (1 + rb)) = x2 := ⟨_, rfl⟩
            have hw3 : IntKind.i64.wrap (3 * (j : Int)) = 3 * (j : Int) := by rw [IntKind.wrap_i64]; omega
            obtain ⟨x3, hx3⟩ : ∃ x3, IntKind.i64.wrap (q.d + 3 * (j : Int)) = x3 := ⟨_, rfl⟩
            obtain ⟨jc, hjc8⟩ : ∃ jc : Nat, x2 % 8 = jc := ⟨(x2 % 8).toNat, by omega⟩
            have hjl : jc < 8 := by omega
            have HIX : RowKit.Hid (∀ W, (Instr.index 9 (.string ⟨#[97, 98, 99, 48, 97, 118, 120, 113]⟩) (.int .i64 (jc : Int))).run Tryz.prog W = .ok (.int .u8 ((codL.getD jc 0 : Nat) : Int)) W) := Lib.hid fun W => idx8 hjl W
            have HSUB : RowKit.Hid (subP q j = ⟨codL.getD jc 0, textP x3⟩) := Lib.hid (by
              unfold subP wi
              rw [← hrb, hx1, hx2, hjc8, Int.toNat_natCast, hx3])
            have HRB := Lib.hid hrb
            have HJC := Lib.hid hjc8
            clear hrb hjc8 hjc
            obtain ⟨cd, hcd⟩ : ∃ cd : Nat, cd = codL.getD jc 0 := ⟨_, rfl⟩
            rw [← hcd] at HIX HSUB
            clear hcd
            go_wp2_with fail
            refine wp_region_sp 22 S' (by kernel_rfl) (by kernel_rfl) ?_
            simp only [List.take_succ_cons, List.take_zero]
            apply wpAnyH_apart1 (fun g W => ∃ V, g = V.heap.size ∧ W = V.alloc (.cells #[.int .u8 cd, .string (textP x3)] 54) ∧ Below wr.heap.size wr V)
            case take =>
              intro R hR
              refine wpAnyH_take (i := 0) (v := ?_) rfl (by kernel_rfl) (by kernel_rfl) (by kernel_rfl) (fun _ _ _ h => only_panic h) (Or.inl ⟨by rfl, ?_⟩) hHeld ?_
              rotate_left
              · (intro w hSw; obtain ⟨l0, l1, l2, l3⟩ := LD.out w hSw; go_simp; try (with_reducible rfl))
              try simp only [List.getElem_toArray, List.getElem_cons_succ, List.getElem_cons_zero, Act.put, List.setIfInBounds_toArray, List.set_cons_zero, List.set_cons_succ]
              refine wpAnyH_take (i := 1) (v := ?_) rfl (by kernel_rfl) (by kernel_rfl) (by kernel_rfl) (fun _ _ _ h => only_panic h) (Or.inl ⟨by rfl, ?_⟩) hHeld ?_
              rotate_left
              · (intro w hSw; obtain ⟨l0, l1, l2, l3⟩ := LD.out w hSw; go_simp; try (with_reducible rfl))
              try simp only [List.getElem_toArray, List.getElem_cons_succ, List.getElem_cons_zero, Act.put, List.setIfInBounds_toArray, List.set_cons_zero, List.set_cons_succ]
              refine wpAnyH_take (i := 2) (v := ?_) rfl (by kernel_rfl) (by kernel_rfl) (by kernel_rfl) (fun _ _ _ h => only_panic h) (Or.inl ⟨by rfl, ?_⟩) hHeld ?_
              rotate_left
              · (intro w hSw; obtain ⟨l0, l1, l2, l3⟩ := LD.out w hSw; go_simp; try (with_reducible rfl))
              try simp only [List.getElem_toArray, List.getElem_cons_succ, List.getElem_cons_zero, Act.put, List.setIfInBounds_toArray, List.set_cons_zero, List.set_cons_succ]
              refine wpAnyH_take (i := 3) (v := ?_) rfl (by kernel_rfl) (by kernel_rfl) (by kernel_rfl) (fun _ _ _ h => only_panic h) (Or.inl ⟨by rfl, ?_⟩) hHeld ?_
              rotate_left
              · (intro w hSw; obtain ⟨l0, l1, l2, l3⟩ := LD.out w hSw; go_simp; try (with_reducible rfl))
              try simp only [List.getElem_toArray, List.getElem_cons_succ, List.getElem_cons_zero, Act.put, List.setIfInBounds_toArray, List.set_cons_zero, List.set_cons_succ]
              refine wpAnyH_take (i := 4) (v := ?_) rfl (by kernel_rfl) (by kernel_rfl) (by kernel_rfl) (fun _ _ _ h => only_panic h) (Or.inl ⟨by rfl, ?_⟩) hHeld ?_
              rotate_left
              · (intro w hSw; obtain ⟨l0, l1, l2, l3⟩ := LD.out w hSw; go_simp; try (with_reducible rfl))
              try simp only [List.getElem_toArray, List.getElem_cons_succ, List.getElem_cons_zero, Act.put, List.setIfInBounds_toArray, List.set_cons_zero, List.set_cons_succ]
              refine wpAnyH_take (i := 5) (v := ?_) rfl (by kernel_rfl) (by kernel_rfl) (by kernel_rfl) (fun _ _ _ h => only_panic h) (Or.inl ⟨by rfl, ?_⟩) hHeld ?_
              rotate_left
              · (intro w hSw; obtain ⟨l0, l1, l2, l3⟩ := LD.out w hSw; go_simp; try (with_reducible rfl))
              try simp only [List.getElem_toArray, List.getElem_cons_succ, List.getElem_cons_zero, Act.put, List.setIfInBounds_toArray, List.set_cons_zero, List.set_cons_succ]
              refine wpAnyH_take (i := 6) (v := ?_) rfl (by kernel_rfl) (by kernel_rfl) (by kernel_rfl) (fun _ _ _ h => only_panic h) (Or.inl ⟨by rfl, ?_⟩) hHeld ?_
              rotate_left
              · (intro w hSw; obtain ⟨l0, l1, l2, l3⟩ := LD.out w hSw; go_simp; try (with_reducible rfl))
              try simp only [List.getElem_toArray, List.getElem_cons_succ, List.getElem_cons_zero, Act.put, List.setIfInBounds_toArray, List.set_cons_zero, List.set_cons_succ]
              refine wpAnyH_take (i := 7) (v := ?_) rfl (by kernel_rfl) (by kernel_rfl) (by kernel_rfl) (fun _ _ _ h => only_panic h) (Or.inl ⟨by rfl, ?_⟩) hHeld ?_
              rotate_left
              · (intro w hSw; obtain ⟨l0, l1, l2, l3⟩ := LD.out w hSw; go_simp; try (with_reducible rfl))
              try simp only [List.getElem_toArray, List.getElem_cons_succ, List.getElem_cons_zero, Act.put, List.setIfInBounds_toArray, List.set_cons_zero, List.set_cons_succ]
              refine wpAnyH_take (i := 14) (v := ?_) rfl (by kernel_rfl) (by kernel_rfl) (by kernel_rfl) (fun _ _ _ h => only_panic h) (Or.inl ⟨by rfl, ?_⟩) hHeld ?_
              rotate_left
              · (intro w hSw; obtain ⟨l0, l1, l2, l3⟩ := LD.out w hSw; go_simp; try (with_reducible rfl))
              try simp only [List.getElem_toArray, List.getElem_cons_succ, List.getElem_cons_zero, Act.put, List.setIfInBounds_toArray, List.set_cons_zero, List.set_cons_succ]
              refine wpAnyH_take (i := 15) (v := ?_) rfl (by kernel_rfl) (by kernel_rfl) (by kernel_rfl) (fun _ _ _ h => only_panic h) (Or.inl ⟨by rfl, ?_⟩) hHeld ?_
              rotate_left
              · (intro w hSw; obtain ⟨l0, l1, l2, l3⟩ := LD.out w hSw; go_simp; try (with_reducible rfl))
              try simp only [List.getElem_toArray, List.getElem_cons_succ, List.getElem_cons_zero, Act.put, List.setIfInBounds_toArray, List.set_cons_zero, List.set_cons_succ]
              refine wpAnyH_take (i := 16) (v := ?_) rfl (by kernel_rfl) (by kernel_rfl) (by kernel_rfl) (fun _ _ _ h => only_panic h) (Or.inl ⟨by rfl, ?_⟩) hHeld ?_
              rotate_left
              · (intro w hSw; obtain ⟨l0, l1, l2, l3⟩ := LD.out w hSw; go_simp; try (with_reducible rfl))
              try simp only [List.getElem_toArray, List.getElem_cons_succ, List.getElem_cons_zero, Act.put, List.setIfInBounds_toArray, List.set_cons_zero, List.set_cons_succ]
              refine wpAnyH_take (i := 17) (v := ?_) rfl (by kernel_rfl) (by kernel_rfl) (by kernel_rfl) (fun _ _ _ h => only_panic h) (Or.inl ⟨by rfl, ?_⟩) hHeld ?_
              rotate_left
              · (intro w hSw; obtain ⟨l0, l1, l2, l3⟩ := LD.out w hSw; go_simp; try (with_reducible rfl))
              try simp only [List.getElem_toArray, List.getElem_cons_succ, List.getElem_cons_zero, Act.put, List.setIfInBounds_toArray, List.set_cons_zero, List.set_cons_succ]
              refine wpAnyH_take (i := 18) (v := ?_) rfl (by kernel_rfl) (by kernel_rfl) (by kernel_rfl) (fun _ _ _ h => only_panic h) (Or.inl ⟨by rfl, ?_⟩) hHeld ?_
              rotate_left
              · (intro w hSw; obtain ⟨l0, l1, l2, l3⟩ := LD.out w hSw; go_simp; try (with_reducible rfl))
              try simp only [List.getElem_toArray, List.getElem_cons_succ, List.getElem_cons_zero, Act.put, List.setIfInBounds_toArray, List.set_cons_zero, List.set_cons_succ]
              refine wpAnyH_one (i := 8) rfl (by kernel_rfl) (by rfl) ?_
              go_simp
              refine (HMod.out q.b 3 _ (by omega) (by omega)).mono ?_
              rintro e V ⟨rfl, rfl⟩
              rw [← HRB.out]
              refine ⟨hHeld, ?_⟩
              refine wpAnyH_take (i := 9) (v := ?_) rfl (by kernel_rfl) (by kernel_rfl) (by kernel_rfl) (fun _ _ _ h => only_panic h) (Or.inl ⟨by rfl, ?_⟩) hHeld ?_
              rotate_left
              · (intro w hSw; clear hSw; go_simp; try (with_reducible rfl))
              try simp only [List.getElem_toArray, List.getElem_cons_succ, List.getElem_cons_zero, Act.put, List.setIfInBounds_toArray, List.set_cons_zero, List.set_cons_succ]
              refine wpAnyH_take (i := 10) (v := ?_) rfl (by kernel_rfl) (by kernel_rfl) (by kernel_rfl) (fun _ _ _ h => only_panic h) (Or.inl ⟨by rfl, ?_⟩) hHeld ?_
              rotate_left
              · (intro w hSw; clear hSw; go_simp; try (with_reducible rfl))
              try simp only [List.getElem_toArray, List.getElem_cons_succ, List.getElem_cons_zero, Act.put, List.setIfInBounds_toArray, List.set_cons_zero, List.set_cons_succ]
              refine wpAnyH_take (i := 11) (v := ?_) rfl (by kernel_rfl) (by kernel_rfl) (by kernel_rfl) (fun _ _ _ h => only_panic h) (Or.inl ⟨by rfl, ?_⟩) hHeld ?_
              rotate_left
              · (intro w hSw; clear hSw; go_simp; try (with_reducible rfl))
              try simp only [List.getElem_toArray, List.getElem_cons_succ, List.getElem_cons_zero, Act.put, List.setIfInBounds_toArray, List.set_cons_zero, List.set_cons_succ]
              refine wpAnyH_one (i := 12) rfl (by kernel_rfl) (by rfl) ?_
              go_simp
              refine (HMod.out x2 8 _ (by omega) (by omega)).mono ?_
              rintro e V ⟨rfl, rfl⟩
              rw [HJC.out]
              refine ⟨hHeld, ?_⟩
              refine wpAnyH_take (i := 13) (v := ?_) rfl (by kernel_rfl) (by kernel_rfl) (by kernel_rfl) (fun _ _ _ h => only_panic h) (Or.inl ⟨by rfl, ?_⟩) hHeld ?_
              rotate_left
              · (intro w hSw; have hix := HIX.out w; go_simp; try (with_reducible rfl))
              try simp only [List.getElem_toArray, List.getElem_cons_succ, List.getElem_cons_zero, Act.put, List.setIfInBounds_toArray, List.set_cons_zero, List.set_cons_succ]
              refine wpAnyH_one (i := 19) rfl (by kernel_rfl) (by rfl) ?_
              go_simp
              refine (text_any x3 _).mono ?_
              rintro e V ⟨rfl, hb⟩
              have hbV : Below wr.heap.size wr V := (Below.refl wr.heap.size wr).drew.trans (hb.mono (Nat.le_refl _))
              have HBV := Lib.hid hbV
              have hHeld := UU.out _ hbV
              clear hb hbV
              refine ⟨hHeld, ?_⟩
              refine wpAnyH_take (i := 20) (v := ?_) rfl (by kernel_rfl) (by kernel_rfl) (by kernel_rfl) (fun _ _ _ h => only_panic h) (Or.inl ⟨by rfl, ?_⟩) hHeld ?_
              rotate_left
              · (intro w hSw; clear hSw; go_simp; try (with_reducible rfl))
              try simp only [List.getElem_toArray, List.getElem_cons_succ, List.getElem_cons_zero, Act.put, List.setIfInBounds_toArray, List.set_cons_zero, List.set_cons_succ]
              have hHeld2 := UU.out _ (HBV.out.alloc HBV.out.size (.cells #[.int .u8 cd, .string (textP x3)] 54))
              refine wpAnyH_one (i := 21) rfl (by kernel_rfl) (by rfl) ?_
              go_simp
              refine ⟨hHeld2, ?_⟩
              obtain ⟨g, hg⟩ : ∃ g, g = V.heap.size := ⟨_, rfl⟩
              rw [← hg]
              exact wpAnyH_done (by kernel_rfl) ⟨rfl, hR g _ ⟨V, hg, rfl, HBV.out⟩⟩ _
            case rest =>
              rintro _ _ ⟨W, rfl, rfl, hB⟩
              have BW := Lib.hid hB
              have FW := Lib.hid (FL_.out.below hB FL_.out.lt)
              have AW := Lib.hid (AL.out.below hB AL.out.lt)
              have SW := Lib.hid (SL_.out.up hB (fun _ _ h => h))
              have ZW := hB.size
              clear hB LD UU hHeld
              obtain ⟨css, hrow, hA, hz⟩ := SW.out
              rw [List.length_map, List.length_range] at hrow
              have HOWq := Lib.hid hrow
              have HAq := Lib.hid hA
              have HZq := Lib.hid hz
              clear hrow hA hz
              simp only [endN, List.drop_succ_cons, List.drop_zero, Act.put, List.setIfInBounds_toArray, List.set_cons_zero, List.set_cons_succ]
              go_wp2_with (first
                | (at_builtin; go_loud (refine wpList_append_all rfl (.tmp 65) (.tmp 85) 46 rfl (w3.heap.size + 1) 54 i1 _ 2 24 Tryz.underlying46 hi1 hy1 hy2 hy3 rfl (by omega) _ j css.flatten rfl (HOWq.out.alloc _) 1 [.int .u8 cd, .string (textP x3)] _ rfl (src_row (row_fresh' W (by simp) 0 _ 54 2 1 rfl (by unfold maxLen; omega) (Nat.zero_le _))) (by simp [Value.oneCell']) (by unfold maxLen; omega) (by omega) (by simp; omega) ?_)
                   intro v7 w7 hr7 hg7 ho7
                   obtain ⟨va, vc, rfl⟩ : ∃ va vc, v7 = .slice va (j + 1) vc := by obtain ⟨a', c', e, _⟩ := row_cellz hr7; exact ⟨a', c', e⟩
                   have B7 : RowKit.Hid (Below (w3.heap.size + 1) W w7) := Lib.hid (below_grown ((Below.refl _ _).alloc (by omega) _) (by simp; omega) hg7 (fun r e => (row_lt HOWq.out r e).1))
                   have R7 := Lib.hid hr7
                   have F7 := Lib.hid (FW.out.below B7.out (by omega))
                   have e3 : w7.cell? ⟨w3.heap.size, 3, none⟩ = some (.slice sa j sc) := F7.out.cell 3
                   have e3z := F7.out.frozen 3
                   clear hr7 hg7 ho7))
              refine ⟨⟨j + 1, _, hjm, by go_num, ?_, ?_, F7.out.set 3 _, ?_, ?_⟩, by simp [intOf]; omega⟩
              · exact (BL.out.trans (BW.out.mono BL.out.size)).trans ((B7.out.mono (by omega)).setCell (p := ⟨w3.heap.size, 3, none⟩) (by show wo.heap.size ≤ w3.heap.size; omega) _)
              · exact (AW.out.below B7.out (by omega)).set_ne ⟨w3.heap.size, 3, none⟩ _ (by show wo.heap.size ≠ w3.heap.size; omega)
              · rw [List.range_succ, List.map_append, List.map_singleton, HSUB.out]
                refine OwnOf.keep (R := SubR) (R' := SubR) (OwnOf.more (w := w7) (R := SubR) (M := [⟨cd, textP x3⟩]) (c := [[.int .u8 cd, .string (textP x3)]]) (by rw [List.length_map, List.length_range]; simpa using R7.out) (HAq.out.mono (R' := SubR w7) fun _ _ h => h) (All2.one (show SubR w7 _ _ from rfl)) HZq.out (by simp)) ((Tn.refl (fun b => b = w3.heap.size) w7).setCell (p := ⟨w3.heap.size, 3, none⟩) (.inl rfl) _) (fun r e h1 h2 h3 => by have : r = w3.heap.size := h3; omega) (fun _ _ h => h)
              · have := B7.out.size
                simp; omega
          · obtain rfl : j = mc := by omega
            have HRq : RowKit.Hid (FldR (fun b => wo.heap.size ≤ b) wr [.string ta, .string ind, .string ⟨#[]⟩, .slice sa j sc] (fldP q)) := Lib.hid (by
              have e1 : fldP q = ⟨ta, ind, ⟨#[]⟩, (List.range j).map (subP q)⟩ := by
                unfold fldP
                rw [if_neg (by rw [HCT.out]; simp), ← HT.out, ← HIND.out, HMC.out, Int.toNat_natCast]
              rw [e1]
              refine ⟨_, rfl, SubsAt.keep (SL_.out.slB (by omega)) (fun _ _ _ => rfl) (fun b h _ => ?_)⟩
              have : w3.heap.size + 1 ≤ b := h
              show wo.heap.size ≤ b; omega)
            have FB := Lib.hid FL_.out
            have BQ : RowKit.Hid (Below w.heap.size w wr) := Lib.hid (HB.out.trans (BL.out.mono HB.out.size))
            have H1q := Lib.hid (HB1.out.below BL.out (by omega))
            have H0q := Lib.hid (HB0.out.below BL.out (by omega))
            have HOq := Lib.hid (HO.out.below keeps_fld BL.out)
            have HLX : RowKit.Hid (∀ r, fv.ownBlock = some r → r < wo.heap.size) := Lib.hid fun r e => (OwnOf.lt HO.out r e).2
            obtain ⟨fl, hfl⟩ : ∃ fl, fl = ((l.take k).map fldP).length := ⟨_, rfl⟩
            have NL : RowKit.Hid (fl ≤ 20) := Lib.hid (by rw [hfl, List.length_map, List.length_take]; omega)
            obtain ⟨css, hrow, hA, hz⟩ := HOq.out
            rw [← hfl] at hrow
            have FL := Lib.hid hfl
            clear hfl
            have HOWq := Lib.hid hrow
            have HAq := Lib.hid hA
            have HZq := Lib.hid hz
            have OL := Lib.hid (OwnOf.lt HOq.out)
            have d2 : RowKit.Hid (wr.cell? ⟨w.heap.size + 1, 2, none⟩ = some fv) := Lib.hid (H1q.out.cell 2)
            have zq := Lib.hid H1q.out.lt
            have zq' := zq.out
            (try simp only [World.size_setCell] at zq')
            have OF := Lib.hid (one_fld _ _ _ _ HRq.out)
            clear hrow hA hz
            have c2 := d2.out
            go_wp2_with (first
              | refine wpList_load_row 48 (.tmp 6) rfl rfl rfl FB.out Tryz.underlying48 rfl (by kernel_rfl) ?_
              | (at_builtin; go_loud (refine wpList_append_all rfl (.tmp 89) (.tmp 91) 27 rfl (w.heap.size + 2) 48 i0 _ 4 72 Tryz.underlying27 hi hz1 hz2 hz3 rfl (by omega) _ _ _ rfl (HOWq.out.alloc _) 1 [.string ta, .string ind, .string ⟨#[]⟩, .slice sa j sc] _ rfl (src_row (row_fresh' wr (by simp) 0 _ 48 4 1 rfl (by unfold maxLen; omega) (Nat.zero_le _))) OF.out (by have := NL.out; unfold maxLen; omega) (by have := NL.out; omega) (by first | omega | (simp; omega)) ?_)
                 intro v6 w6 hr6 hg6 ho6
                 obtain ⟨va, vc, rfl⟩ : ∃ va vc, v6 = .slice va (fl + 1) vc := by obtain ⟨a', c', e, _⟩ := row_cellz hr6; exact ⟨a', c', e⟩
                 have B6 : RowKit.Hid (Below (w.heap.size + 2) wr w6) := Lib.hid (below_grown ((Below.refl _ _).alloc (by first | omega | (simp; omega)) _) (by first | omega | (simp; omega)) hg6 (fun r e => (OL.out r e).1))
                 have O6 := Lib.hid (OwnX.snoc keeps_fld (by rw [← FL.out]; exact HOWq.out) HAq.out HZq.out HRq.out (fun r e => HLX.out r e) (by omega) rfl ((Below.refl _ _).alloc (Nat.le_refl _) _) (by rw [← FL.out]; exact hr6) hg6 ho6)
                 have K6 := Lib.hid (H1q.out.below B6.out (by omega))
                 have M6 := Lib.hid (H0q.out.below B6.out (by omega))
                 have e2 : w6.cell? ⟨w.heap.size + 1, 2, none⟩ = some fv := K6.out.cell 2
                 have f2 := K6.out.frozen 2
                 clear hr6 hg6 ho6))
            refine ⟨⟨k + 1, _, hlt, by go_num, ?_, M6.out.set_ne ⟨w.heap.size + 1, 2, none⟩ _ (by simp), K6.out.set 2 _, ?_⟩, by simp [intOf]; omega⟩
            · exact (BQ.out.trans (B6.out.mono (by omega))).setCell (p := ⟨w.heap.size + 1, 2, none⟩) (by simp) _
            · rw [HE.out]
              exact OwnX.tn keeps_fld O6.out ((Tn.refl (fun b => b = w.heap.size + 1) w6).setCell (p := ⟨w.heap.size + 1, 2, none⟩) (.inl rfl) _) (fun b e => by have : b = w.heap.size + 1 := e; omega)
    · obtain rfl : k = n := by omega
      obtain ⟨fa, fc, rfl⟩ := HO.out.expl
      have HOE := Lib.hid (HO.out.own keeps_fld)
      have HR1 := Lib.hid HB1.out
      have HR0 := Lib.hid HB0.out
      obtain ⟨fl, hfl⟩ : ∃ fl, fl = ((l.take k).map fldP).length := ⟨_, rfl⟩
      rw [← hfl] at HOE HR1
      clear hfl
      go_wp2_with (first
        | refine wpList_load_row 29 (.tmp 3) rfl rfl rfl HR1.out Tryz.underlying29 rfl (by kernel_rfl) ?_
        | refine wpList_store_row rfl 29 (.tmp 2) (.tmp 94) rfl w.heap.size #[.int .u8 97, .int .u8 109, .slice fa fl fc] rfl rfl 29 _ HR0.out (by kernel_rfl) rfl (by simp [Value.oneCell']) ?_)
      (try simp only [Exit.inBlock, Exit.then])
      refine bodyPost_ret (results_cell_row rfl _ _ w.heap.size 29 #[.int .u8 97, .int .u8 109, .slice fa fl fc] (0, 0) _ rfl (setRow_heap _ _ _ _ _ _ HR0.out) Tryz.underlying29 rfl (by kernel_rfl)) rfl ?_
      refine ⟨.slice fa fl fc, rfl, ?_, belowS HB.out (Nat.le_refl _)⟩
      have e1 : (l.take k).map fldP = l.map fldP := by rw [N1.out, List.take_length]
      rw [← e1]
      refine (HOE.out.low (by omega)).keep (F := fun b => b = w.heap.size) ⟨rfl, rfl, rfl, by unfold World.setRow; simp, fun b _ hb => setRow_other _ _ _ _ hb⟩ (fun r e h1 h2 h3 => ?_) (fun c x h => h.keep (fun b hb _ => setRow_other _ _ _ _ ?_) (fun b h _ => ?_))
      · have h4 : w.heap.size + 2 ≤ r := (HOE.out.lt r e).1
        have : r = w.heap.size := h3
        omega
      · have : w.heap.size + 2 ≤ b := hb
        omega
      · have : w.heap.size + 2 ≤ b := h
        show w.heap.size ≤ b; omega
end Go.Proofs.YtpdldbapagchfaaGreatDoor
