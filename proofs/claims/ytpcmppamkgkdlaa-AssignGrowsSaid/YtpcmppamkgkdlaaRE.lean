/- The contract of open: the problem is prepared in new memory. -/
import Derived.Test.YtpcmppamkgkdlaaRD
import Derived.StillTailTactics
import Derived.Test.YtpcmppamkgkdlaaSp
namespace Go.Proofs.Ytpcmppamkgkdlaa
open Go.RowKit Go.Maps

def OpenE (P : Prob) (w : World) (e : Ending) (w' : World) : Prop :=
  ∃ av kv, e = .returned (.agg #[av, kv, .int .i64 P.n]) ∧ PM P w' w'.heap.size av kv ∧ Below w.heap.size w w'
set_option maxRecDepth 100000 in
set_option maxHeartbeats 4000000 in
theorem open_any (L : List Wt) (A : List Int) (C : List (List Int)) (w : World) (B : Nat) (wv av cv : Value) (hL : Wants w B wv L) (hA : Ints w B av A) (hC : Rows2 w B cv C)
    (hl : L.length ≤ 1000) (ha : A.length ≤ 1000) (hl2 : ∀ k, (L.getD k noW).2.length ≤ 1000) (hc : ∀ k, ((C.getD k []).length : Int) ≤ 9223372036854775807) (hB : B ≤ w.heap.size) :
    Calls Try.prog 23 #[wv, av, .func (.func 24) #[cv] #[]] w (OpenE (prob L A C) w) := by
  obtain ⟨P, hP⟩ : ∃ P, P = prob L A C := ⟨_, rfl⟩
  obtain ⟨aw, capw, rfl, hL⟩ := hL
  have hA0 := hA
  obtain ⟨aa, capa, rfl, hA⟩ := hA
  have HP := Lib.hid hP
  have HL := Lib.hid hL
  have HA := Lib.hid hA
  have HC := Lib.hid hC
  have HL2 := Lib.hid hl2
  have HC2 := Lib.hid hc
  rw [← hP]
  have HPN : RowKit.Hid (P.n = A.length) := Lib.hid (by rw [hP]; rfl)
  have HPM : RowKit.Hid (P.m = L.length) := Lib.hid (by rw [hP]; rfl)
  clear hL hA hA0 hC hl2 hc hP
  have hmm := @run_makeMap Try.prog
  go_enter Try.func23, Try.ntmps23
  go_wp2_with fail
  obtain ⟨w1, hw1⟩ : ∃ w1, w1 = (w.alloc (Obj.cells #[Value.slice none 0 0, Value.slice none 0 0, Value.int IntKind.i64 0] 57)).alloc (Obj.cells #[Value.slice none 0 0, Value.slice none 0 0, Value.int IntKind.i64 ↑A.length] 57) := ⟨_, rfl⟩
  have R1 : RowKit.Hid (Blk w1 w.heap.size #[Value.slice none 0 0, Value.slice none 0 0, Value.int IntKind.i64 0] 57) := Lib.hid (by rw [hw1]; exact (Blk.new w _ 57).alloc _)
  have P1 : RowKit.Hid (Blk w1 (w.heap.size + 1) #[Value.slice none 0 0, Value.slice none 0 0, Value.int IntKind.i64 P.n] 57) := Lib.hid (by rw [hw1, HPN.out]; exact Blk.at_new (by simp) _ 57)
  have B1 : RowKit.Hid (Below w.heap.size w w1) := Lib.hid (by rw [hw1]; exact ((Below.refl _ _).alloc (Nat.le_refl _) _).alloc (by simp) _)
  have hz1 : w1.heap.size = w.heap.size + 2 := by rw [hw1]; simp
  have HZ1 := Lib.hid hz1
  rw [← hw1]
  clear hw1 hz1
  go_loopw [19] (fun i wr => ∃ (k : Nat) (av kv : Value) (us ms : List Value), k ≤ L.length ∧ i = .int .i64 k ∧ OS P w1 wr (w.heap.size + 1) k av kv us ms) (fun i _ => L.length - (intOf i).toNat)
  case atStart => exact ⟨0, _, _, _, _, by omega, rfl, OS.start P1.out (Below.refl _ _)⟩
  case round =>
    obtain ⟨wo, rfl⟩ : ∃ wo : World, wo = wr := ⟨_, rfl⟩
    obtain ⟨k, av, kv, us, ms, hk, rfl, hS⟩ := hrel
    have HS := Lib.hid hS
    have BW : RowKit.Hid (Below w.heap.size w wo) := Lib.hid (B1.out.trans (hS.bel.mono (by omega)))
    have hz : w.heap.size + 1 < wo.heap.size := hS.pbk.lt
    clear hS
    by_cases hlt : k < L.length
    · rcases HL.out with h | ⟨b, o, rfl, hb, hcells⟩
      · rw [h] at hlt; simp at hlt
      obtain ⟨u, c0, c1, hI⟩ := hcells k hlt
      have HI := Lib.hid (hI.below BW.out hB)
      have d0 := Below.cellE BW.out c0
      have d1 := Below.cellE BW.out c1
      have hlk := HL2.out k
      obtain ⟨pu, hpu⟩ : ∃ pu, pu = (L.getD k noW).1 := ⟨_, rfl⟩
      obtain ⟨l, hll⟩ : ∃ l, l = (L.getD k noW).2 := ⟨_, rfl⟩
      rw [← hpu] at d0
      rw [← hll] at HI hlk
      have HPA : RowKit.Hid (ints (P.acc k) = accI A.length l) := Lib.hid (by rw [HP.out, prob_ints, hll])
      have HPC : RowKit.Hid (∀ x, P.cst k x = wayI C (A.getD x 0) pu) := Lib.hid (fun x => by rw [HP.out, hpu]; rfl)
      obtain ⟨f, hf⟩ : ∃ f : Int → Int, f = fun x => P.cst k x.toNat := ⟨_, rfl⟩
      have HF := Lib.hid hf
      clear hI c0 c1 hpu hll hf hcells
      obtain ⟨al, capl, rfl, hIc⟩ := HI.out
      have HIC := Lib.hid hIc
      clear hIc
      go_wp2_with fail
      obtain ⟨mb, hmb⟩ : ∃ mb, mb = wo.heap.size + 1 := ⟨_, rfl⟩
      obtain ⟨Wi, hWi⟩ : ∃ Wi, Wi = (wo.alloc (Obj.cells #[Value.int IntKind.i64 pu, Value.slice al l.length capl] 41)).alloc (Obj.map #[] 0) := ⟨_, rfl⟩
      have BI : RowKit.Hid (Below wo.heap.size wo Wi) := Lib.hid (by rw [hWi]; exact ((Below.refl _ _).alloc (Nat.le_refl _) _).alloc (by simp) _)
      have QI : RowKit.Hid (Blk Wi wo.heap.size #[Value.int IntKind.i64 pu, Value.slice al l.length capl] 41) := Lib.hid (by rw [hWi]; exact (Blk.new wo _ 41).alloc _)
      have MI : RowKit.Hid (Wi.ownsMap (H := Unit) Try.prog 3 (plainElem Try.prog 3) mb 0 (.map [])) := Lib.hid (by
        rw [hWi, hmb, show wo.heap.size + 1 = (wo.alloc (Obj.cells #[Value.int IntKind.i64 pu, Value.slice al l.length capl] 41)).heap.size by simp]
        exact World.ownsMap_made _ _ _ _)
      have hzi : Wi.heap.size = wo.heap.size + 2 := by rw [hWi]; simp
      rw [← hWi, ← hmb]
      have HMB := Lib.hid hmb
      have hmz : wo.heap.size < mb ∧ mb < Wi.heap.size := by omega
      have HZI := Lib.hid hzi
      clear hWi hmb hzi
      go_loopw [10, 27] (fun v i wr => ∃ (j : Nat) (lv : Value) (D : DataW Unit), j ≤ l.length ∧ i = .int .i64 j ∧ lv = v ∧ wr.ownsRow Wi.heap.size 3 1 lv (inn A.length (l.take j)).length ((inn A.length (l.take j)).map (Value.int .i64)) ∧
        wr.ownsMap (H := Unit) Try.prog 3 (plainElem Try.prog 3) mb j D ∧ Rep D (inn A.length (l.take j)) f ∧ Tn (fun b => b = mb) Wi wr) (fun _ i _ => l.length - (intOf i).toNat)
      case atStart => exact ⟨0, _, _, by omega, rfl, rfl, World.ownsRow_nil _ _ _ _, MI.out, rep_nil f, Tn.refl _ _⟩
      case round =>
        obtain ⟨j, lv, D, hj, rfl, rfl, hrow, hmap, hrep, hT⟩ := hrel
        have HR := Lib.hid hrow
        have HM := Lib.hid hmap
        have HE := Lib.hid hrep
        have HT := Lib.hid hT
        have hzq := hT.size
        clear hrow hmap hrep hT
        by_cases hjl : j < l.length
        · rcases HIC.out with h | ⟨bl, ol, rfl, hbl, hcl⟩
          · rw [h] at hjl; simp at hjl
          have hblr := cell_lt (hcl j hjl)
          have e0 : wr.cell? ⟨bl, ol + j, none⟩ = some (.int .i64 (l.getD j 0)) := HT.out.cell (Below.cellE BI.out (hcl j hjl)) (by show bl ≠ mb; have : bl < wo.heap.size := hblr; omega)
          have HCL := Lib.hid hcl
          clear hcl hblr
          have hyes := fun h0 h1 => inn_yes (n := A.length) hjl h0 h1
          have hno := fun h => inn_no (n := A.length) hjl h
          have HYES := Lib.hid hyes
          have HNO := Lib.hid hno
          have hil := inn_len A.length (l.take j)
          have hil2 : (l.take j).length ≤ j := by simp; omega
          have HIL : RowKit.Hid ((inn A.length (l.take j)).length ≤ j) := Lib.hid (by omega)
          clear hil hil2 hyes hno
          obtain ⟨c, hc⟩ : ∃ c, c = l.getD j 0 := ⟨_, rfl⟩
          rw [← hc] at e0 HYES HNO
          have HCC := Lib.hid hc
          obtain ⟨S, hS⟩ : ∃ S, S = inn A.length (l.take j) := ⟨_, rfl⟩
          rw [← hS] at HR HE HYES HNO HIL
          have HSS := Lib.hid hS
          clear hc hS
          by_cases hc0 : 0 ≤ c
          · have hc0' : decide (0 ≤ c) = true := by simpa using hc0
            by_cases hc1 : c < (A.length : Int)
            · have hc1' : decide (c < (A.length : Int)) = true := by simpa using hc1
              obtain ⟨cn, rfl⟩ : ∃ cn : Nat, c = cn := ⟨c.toNat, by omega⟩
              have hcn : cn < A.length := by omega
              rcases HA.out with h | ⟨ba, oa, rfl, hba, hca⟩
              · rw [h] at hcn; simp at hcn
              have hcac := hca cn hcn
              have HCA := Lib.hid hca
              clear hca
              obtain ⟨i0, hi, hz0, hz1', hz2⟩ := info_parts info3
              have hSl := HIL.out
              go_wp2_with (at_builtin; refine wpList_append_own_at _ rfl (.tmp 39) (.tmp 41) 30 rfl Wi.heap.size 3 i0 (.int .i64 0) 1 8 Try.underlying30 hi hz0 hz1' hz2 rfl (by decide) lv S.length _ rfl (HR.out.alloc _) ⟨wr.heap.size, 0, none⟩ 1 1 [.int .i64 (cn : Int)] rfl rfl (news_ wr _ 3) (one_ rfl) (by unfold maxLen; omega) (by omega) (by simp; omega) ?_)
              intro v' w5 hown hgrow _ hloc
              have G5 : RowKit.Hid (Tn (fun b => b = mb) Wi w5) := Lib.hid ((HT.out.alloc _).then_ (Tn.of_grown hgrow) fun b hb => .inr (row_lt HR.out b hb).1)
              have M5 : RowKit.Hid (w5.ownsMap (H := Unit) Try.prog 3 (plainElem Try.prog 3) mb j D) := Lib.hid ((Tn.of_grown hgrow).map (HM.out.alloc _) fun e => by have := (row_lt HR.out mb e).1; omega)
              have R5 : RowKit.Hid (w5.ownsRow Wi.heap.size 3 1 v' (S ++ [(cn : Int)]).length ((S ++ [(cn : Int)]).map (Value.int .i64))) := Lib.hid (by rw [List.length_append, List.map_append]; exact hown)
              have f0 : w5.cell? ⟨ba, oa + cn, none⟩ = some (.int .i64 (A.getD cn 0)) := G5.out.cell (Below.cellE BI.out (Below.cellE BW.out hcac)) (by show ba ≠ mb; omega)
              have f1 : w5.cell? ⟨wo.heap.size, 0, none⟩ = some (.int .i64 pu) := (G5.out.blk QI.out (by omega)).cell 0
              have C5 : RowKit.Hid (Rows2 w5.drew B cv C) := Lib.hid ((((HC.out.below BW.out hB).below (BI.out.trans (G5.out.below (B := wo.heap.size) (by omega) fun b e => by omega)) (by have := BW.out.size; omega))).below (Below.refl w5.heap.size w5).drew (by have := BW.out.size; have := BI.out.size; have := G5.out.size; omega))
              have hzw := G5.out.size
              have YES := Lib.hid (HYES.out (by omega) (by omega))
              have KEY := Lib.hid (fun W (h : Rows2 W B cv C) => way_any B cv C (A.getD cn 0) pu W h HC2.out)
              clear hown hgrow hloc hcac HYES HNO e0 hi hz0 hz1' hz2
              obtain ⟨ac, hac⟩ : ∃ ac, ac = A.getD cn 0 := ⟨_, rfl⟩
              have HAC := Lib.hid hac
              rw [← hac] at f0 KEY
              clear hac
              go_wp2_with fail
              have hcn0 : (0 : Int) ≤ (cn : Int) := by omega
              refine wp_region_still_tail 10 (by kernel_rfl) (by kernel_rfl) ?_
              simp only [List.take_succ_cons, List.take_zero, List.drop_succ_cons, List.drop_zero]
              repeat (first | still_step | (refine wpStill_step (fun K hK => ?_); go_simp; refine ⟨_, (KEY.out _ C5.out).mono (fun _ _ h => ⟨h.1, h.2.symm⟩), hK _ ?_⟩; clear hK K))
              refine wpStill_nil ?_
              have M5d : RowKit.Hid (w5.drew.ownsMap (H := Unit) Try.prog 3 (plainElem Try.prog 3) mb j D) := Lib.hid M5.out.drew
              have hwb := wayI_bd C ac pu
              have KF : RowKit.Hid (wayI C ac pu = f (cn : Int)) := Lib.hid (by rw [HF.out, HAC.out]; exact (HPC.out cn).symm)
              have G6 : RowKit.Hid (Tn (fun b => b = mb) Wi w5.drew) := Lib.hid G5.out.drew
              have R6 : RowKit.Hid (w5.drew.ownsRow Wi.heap.size 3 1 v' (S ++ [(cn : Int)]).length ((S ++ [(cn : Int)]).map (Value.int .i64))) := Lib.hid R5.out
              obtain ⟨y, hy⟩ : ∃ y, y = wayI C ac pu := ⟨_, rfl⟩
              rw [← hy]
              rw [← hy] at hwb KF
              clear hy f0 f1 M5 G5 R5 C5 HIC
              go_wp2_with (at_mapUpdate; go_must (refine wpList_mapUpdate_own _ rfl _ _ _ 66 rfl 3 3 key3 Try.underlying66 (plainElem Try.prog 3) mb j D rfl M5d.out (by unfold maxLen; omega) _ _ _ rfl rfl (keyOf3 (by omega) (by omega)) (.lit (.int .i64 y)) [] (plain3 (by omega) (by omega)) ?_))
              intro w7 hown7 hgrow7
              have G7 : RowKit.Hid (Tn (fun b => b = mb) Wi w7) := Lib.hid (G6.out.then_ (Tn.of_grown hgrow7) fun b hb => .inl (by injection hb with hb; exact hb.symm))
              have R7 : RowKit.Hid (w7.ownsRow Wi.heap.size 3 1 v' (S ++ [(cn : Int)]).length ((S ++ [(cn : Int)]).map (Value.int .i64))) := Lib.hid ((Tn.of_grown hgrow7).row R6.out fun r hr e => by
                have h1 := (row_lt R6.out r hr).1
                injection e with e; omega)
              have E7 : RowKit.Hid (Rep (D.put (.int .i64 (cn : Int)) (.lit (.int .i64 y))) (S ++ [(cn : Int)]) f) := Lib.hid (by rw [KF.out]; exact rep_put HE.out (by omega) (by omega))
              have M7 := Lib.hid hown7
              rw [← YES.out] at R7 E7
              clear hown7 hgrow7
              go_wp2_with fail
              exact ⟨⟨j + 1, _, _, by omega, by go_num, rfl, R7.out, M7.out, E7.out, G7.out⟩, by simp [intOf]; omega⟩
            · have hc1' : decide (c < (A.length : Int)) = false := by simpa using hc1
              have NO := Lib.hid (HNO.out (by omega))
              rw [← NO.out] at HR HE
              have HM' := Lib.hid (HM.out.mono (Nat.le_succ j))
              clear HYES HNO hc1
              go_wp2_with fail
              exact ⟨⟨j + 1, _, _, by omega, by go_num, rfl, HR.out, HM'.out, HE.out, HT.out⟩, by simp [intOf]; omega⟩
          · have hc0' : decide (0 ≤ c) = false := by simpa using hc0
            have NO := Lib.hid (HNO.out (by omega))
            rw [← NO.out] at HR HE
            have HM' := Lib.hid (HM.out.mono (Nat.le_succ j))
            clear HYES HNO hc0
            go_wp2_with fail
            exact ⟨⟨j + 1, _, _, by omega, by go_num, rfl, HR.out, HM'.out, HE.out, HT.out⟩, by simp [intOf]; omega⟩
        · obtain rfl : j = l.length := by omega
          rw [List.take_length] at HR HE
          obtain ⟨S, hS⟩ : ∃ S, S = inn A.length l := ⟨_, rfl⟩
          have HSL : RowKit.Hid (S.length ≤ 1000) := Lib.hid (by rw [hS]; have := inn_len A.length l; omega)
          have HACC : RowKit.Hid (Go.Lib.compact (S.mergeSort fun x y => decide (x ≤ y)) = ints (P.acc k)) := Lib.hid (by rw [HPA.out, hS]; rfl)
          have HSI : RowKit.Hid (∀ x, x ∈ S ↔ x ∈ ints (P.acc k)) := Lib.hid (fun x => by rw [HPA.out, hS, mem_inn, mem_accI])
          rw [← hS] at HR HE
          clear hS
          obtain ⟨a1, cap1, rfl, hO1, hob⟩ := own_of_row HR.out
          have HO1 := Lib.hid hO1
          have MAP1 : RowKit.Hid (MapAt wr mb (ints (P.acc k)) f) := Lib.hid (MapAt.congr ⟨_, _, HM.out, HE.out⟩ HSI.out fun _ _ => rfl)
          have hrl := row_lt HR.out
          clear hO1
          have HOB := Lib.hid hob
          clear hob
          go_wp2_with fail
          refine (sort_own a1 S cap1 Wi.heap.size _ HO1.out (by have := HSL.out; omega)).mono ?_
          rintro e w2 ⟨rfl, ho2, hT2⟩
          have HSL2 : RowKit.Hid (S.length = (S.mergeSort fun x y => decide (x ≤ y)).length) := Lib.hid (by simp)
          have hal : ∀ b o, a1 = some ⟨b, o, none⟩ → Wi.heap.size ≤ b ∧ b < wr.heap.size := fun b o e => hrl b (HOB.out b o e)
          have T2 : RowKit.Hid (Tn (Fo (w.heap.size + 1) av kv) wo w2) := Lib.hid ((((Tn.of_below BI.out).then_ HT.out (fun b e => .inr (by omega))).then_ hT2 fun b ⟨o, e⟩ => .inr (by have := hal b o e; omega)))
          have hz2 : wr.heap.size ≤ w2.heap.size := hT2.size
          have hz3 : wo.heap.size ≤ w2.heap.size := T2.out.size
          have hra := fun r h => row_lt HS.out.ra r h
          have hrk := fun r h => row_lt HS.out.rk r h
          have HAP : RowKit.Hid (∀ o, a1 ≠ some ⟨w.heap.size + 1, o, none⟩) := Lib.hid (fun o e => by have := hal _ o e; omega)
          have tk : ∀ {x : Nat}, x < wo.heap.size → w2.heap[x]? = wo.heap[x]? := fun {x} hx =>
            (((Tn.of_below (F := fun _ => False) BI.out).then_ HT.out (fun b e => .inr (by omega))).then_ hT2 fun b ⟨o, e⟩ => .inr (by have := hal b o e; omega)).block x hx id
          have tk2 : Tn (fun _ => False) wo w2 := ⟨T2.out.os, T2.out.tape, T2.out.output, T2.out.size, fun b hb _ => tk hb⟩
          have N2 : RowKit.Hid (Bun av kv wo w2 (w.heap.size + 1) #[av, kv, .int .i64 P.n] av k us kv k ms Wi.heap.size a1 cap1 (S.mergeSort fun x y => decide (x ≤ y)) mb (ints (P.acc k)) f) := Lib.hid
            ⟨T2.out, tk2.blk HS.out.pbk id, tk2.row HS.out.ra (fun _ _ => id), tk2.row HS.out.rk (fun _ _ => id), ho2, MAP1.out.keep hT2 (fun ⟨o, e⟩ => by have := hal _ o e; omega),
              fun r hr => ⟨(HS.out.nea r hr).1, (HS.out.nea r hr).2, by have := hra r hr; omega, fun o e => by have := hra r hr; have := hal r o e; omega⟩,
              fun r hr => ⟨HS.out.nek r hr, by have := hrk r hr; omega, fun o e => by have := hrk r hr; have := hal r o e; omega⟩,
              fun r hr => .inl hr, fun r hr => .inl hr, ⟨by omega, by omega, by omega, by omega⟩, fun b o e => by have := hal b o e; exact ⟨by omega, by omega, by omega⟩⟩
          generalize (S.mergeSort fun x y => decide (x ≤ y)) = D2 at *
          clear hal hra hrk tk tk2 ho2 hT2 T2 HO1 hrl HOB HT HM HR HE
          have hSl := HSL.out
          have p0 : w2.cell? ⟨w.heap.size + 1, 0, none⟩ = some av := N2.out.pbk.cell 0
          have p1 : w2.cell? ⟨w.heap.size + 1, 1, none⟩ = some kv := N2.out.pbk.cell 1
          obtain ⟨i30, hj, hj0, hj1, hj2⟩ := info_parts info30
          obtain ⟨i66, hm, hm0, hm1, hm2⟩ := info_parts info66
          go_wp2_with fail
          obtain ⟨v0, hv0⟩ : ∃ v0, v0 = w2.drew := ⟨_, rfl⟩
          have M0 : RowKit.Hid (Bun av kv wo v0 (w.heap.size + 1) #[av, kv, .int .i64 P.n] av k us kv k ms Wi.heap.size a1 cap1 D2 mb (ints (P.acc k)) f) := Lib.hid (by rw [hv0]; exact N2.out.drew)
          refine wp_region_sp 12 (fun W => W.cell? ⟨w.heap.size + 1, 0, none⟩ = some av ∧ W.cell? ⟨w.heap.size + 1, 1, none⟩ = some kv) (by kernel_rfl) (by kernel_rfl) ?_
          rw [← hv0]
          have hHeld : v0.cell? ⟨w.heap.size + 1, 0, none⟩ = some av ∧ v0.cell? ⟨w.heap.size + 1, 1, none⟩ = some kv := ⟨M0.out.pbk.cell 0, M0.out.pbk.cell 1⟩
          have hz0 : w2.heap.size = v0.heap.size := by rw [hv0]; rfl
          have HZ00 : w2.heap.size ≤ v0.heap.size := by omega
          clear hv0 hz0
          simp only [List.take_succ_cons, List.take_zero, List.drop_succ_cons, List.drop_zero]
          refine wpAnyH_take (i := 0) (v := .pointer (some ⟨w.heap.size + 1, 0, none⟩)) rfl (by kernel_rfl) (by kernel_rfl) (by kernel_rfl) (fun _ _ _ h => h) (Or.inl ⟨by rfl, by intro w hSw; (try dsimp only at hSw); go_simp⟩) hHeld ?_
          try simp only [Act.put, List.setIfInBounds_toArray, List.set_cons_zero, List.set_cons_succ]
          refine wpAnyH_take (i := 1) (v := av) rfl (by kernel_rfl) (by kernel_rfl) (by kernel_rfl) (fun _ _ _ h => h) (Or.inl ⟨by rfl, by intro w hSw; (try dsimp only at hSw); go_simp⟩) hHeld ?_
          try simp only [Act.put, List.setIfInBounds_toArray, List.set_cons_zero, List.set_cons_succ]
          refine wpAnyH_take (i := 2) (v := .slice a1 S.length cap1) rfl (by kernel_rfl) (by kernel_rfl) (by kernel_rfl) (fun _ _ _ h => h) (Or.inl ⟨by rfl, by intro w hSw; (try dsimp only at hSw); go_simp⟩) hHeld ?_
          try simp only [Act.put, List.setIfInBounds_toArray, List.set_cons_zero, List.set_cons_succ]
          refine wpAnyH_take (i := 6) (v := .pointer (some ⟨w.heap.size + 1, 1, none⟩)) rfl (by kernel_rfl) (by kernel_rfl) (by kernel_rfl) (fun _ _ _ h => h) (Or.inl ⟨by rfl, by intro w hSw; (try dsimp only at hSw); go_simp⟩) hHeld ?_
          try simp only [Act.put, List.setIfInBounds_toArray, List.set_cons_zero, List.set_cons_succ]
          refine wpAnyH_take (i := 7) (v := kv) rfl (by kernel_rfl) (by kernel_rfl) (by kernel_rfl) (fun _ _ _ h => h) (Or.inl ⟨by rfl, by intro w hSw; (try dsimp only at hSw); go_simp⟩) hHeld ?_
          try simp only [Act.put, List.setIfInBounds_toArray, List.set_cons_zero, List.set_cons_succ]
          refine wpAnyH_take (i := 8) (v := .map (some mb)) rfl (by kernel_rfl) (by kernel_rfl) (by kernel_rfl) (fun _ _ _ h => h) (Or.inl ⟨by rfl, by intro w hSw; (try dsimp only at hSw); go_simp⟩) hHeld ?_
          try simp only [Act.put, List.setIfInBounds_toArray, List.set_cons_zero, List.set_cons_succ]
          clear hHeld
          refine wpAnyH_ready (rs := [3, 9]) (by kernel_rfl) (by simp) ?_
          refine held_step rfl (fun K hK => ?_) ?_
          · skip
            try go_simp
            refine (compact_own2 a1 D2 S.length cap1 Wi.heap.size _ M0.out.sl HSL2.out (by omega)).mono ?_
            rintro e v1 ⟨rfl, ho4, hT4⟩
            have M1 := Lib.hid (Bun.compact M0.out hT4 ho4)
            clear ho4 hT4
            try go_simp
            refine hK _ _ ⟨M1.out.pbk.cell 0, M1.out.pbk.cell 1⟩ ?_
            clear hK K
            try simp only [Act.put, List.setIfInBounds_toArray, List.set_cons_zero, List.set_cons_succ]
            refine wpAnyH_ready (rs := [4, 9]) (by kernel_rfl) (by simp) ?_
            refine held_step rfl (fun K hK => ?_) ?_
            · skip
              go_simp
              refine hK _ _ ⟨(M1.out.alloc _).pbk.cell 0, (M1.out.alloc _).pbk.cell 1⟩ ?_
              obtain ⟨v2, hx⟩ : ∃ x, x = v1.alloc (.cells #[.slice a1 (Go.Lib.compact D2).length cap1] 30) := ⟨_, rfl⟩
              have M2 : RowKit.Hid (Bun av kv wo v2 (w.heap.size + 1) #[av, kv, .int .i64 P.n] av k us kv k ms Wi.heap.size a1 cap1 (Go.Lib.compact D2) mb (ints (P.acc k)) f) := Lib.hid (by rw [hx]; exact M1.out.alloc _)
              have C1_2 : RowKit.Hid (Blk v2 v1.heap.size #[.slice a1 (Go.Lib.compact D2).length cap1] 30) := Lib.hid (by rw [hx]; exact Blk.new _ _ _)
              have hz2 : v2.heap.size = v1.heap.size + 1 := by rw [hx]; simp
              have HZ2 : v1.heap.size < v2.heap.size := by omega
              rw [← hx]
              clear hx hz2
              clear hK K
              try simp only [Act.put, List.setIfInBounds_toArray, List.set_cons_zero, List.set_cons_succ]
              refine wpAnyH_ready (rs := [5, 9]) (by kernel_rfl) (by simp) ?_
              refine held_step rfl (fun K hK => ?_) ?_
              · skip
                have hzz := M2.out.T.size
                refine step_append_lies _ (by rfl) (.tmp 57) (.tmp 60) 34 (by rfl) (w.heap.size + 1 + 1) 30 i30 (.slice none 0 0) 1 24 Try.underlying34 hj hj0 hj1 hj2 rfl (by omega) av k _ (by rfl) M2.out.ra ⟨v1.heap.size, 0, none⟩ 1 1 [.slice a1 (Go.Lib.compact D2).length cap1] (by rfl) (by rfl) (news_at C1_2.out) (one_ rfl) (by omega) (by unfold maxLen; omega) (by omega) (by omega) v2.heap.size rfl ?_
                intro g3 cp3 v3 hown hgrow hat hlt
                have M3 := Lib.hid (Bun.app_a M2.out hown hgrow hat (Nat.le_refl _))
                clear hown hgrow hat hzz
                refine hK _ _ ⟨M3.out.pbk.cell 0, M3.out.pbk.cell 1⟩ ?_
                clear hK K
                try simp only [Act.put, List.setIfInBounds_toArray, List.set_cons_zero, List.set_cons_succ]
                have hHeld : v3.cell? ⟨w.heap.size + 1, 0, none⟩ = some av ∧ v3.cell? ⟨w.heap.size + 1, 1, none⟩ = some kv := ⟨M3.out.pbk.cell 0, M3.out.pbk.cell 1⟩
                refine wpAnyH_take (i := 11) (v := .pointer (some ⟨w.heap.size + 1, 0, none⟩)) rfl (by kernel_rfl) (by kernel_rfl) (by kernel_rfl) (fun _ _ _ h => h) (Or.inl ⟨by rfl, by intro w hSw; (try dsimp only at hSw); go_simp⟩) hHeld ?_
                try simp only [Act.put, List.setIfInBounds_toArray, List.set_cons_zero, List.set_cons_succ]
                clear hHeld
                refine wpAnyH_ready (rs := [9]) (by kernel_rfl) (by simp) ?_
                refine held_step rfl (fun K hK => ?_) ?_
                · skip
                  go_simp
                  refine hK _ _ ⟨(M3.out.alloc _).pbk.cell 0, (M3.out.alloc _).pbk.cell 1⟩ ?_
                  obtain ⟨v4, hx⟩ : ∃ x, x = v3.alloc (.cells #[.map (some mb)] 66) := ⟨_, rfl⟩
                  have M4 : RowKit.Hid (Bun av kv wo v4 (w.heap.size + 1) #[av, kv, .int .i64 P.n] (.slice (some ⟨g3, 0, none⟩) (k + 1) cp3) (k + 1) (us ++ [.slice a1 (Go.Lib.compact D2).length cap1]) kv k ms Wi.heap.size a1 cap1 (Go.Lib.compact D2) mb (ints (P.acc k)) f) := Lib.hid (by rw [hx]; exact M3.out.alloc _)
                  have C2_4 : RowKit.Hid (Blk v4 v3.heap.size #[.map (some mb)] 66) := Lib.hid (by rw [hx]; exact Blk.new _ _ _)
                  have hz4 : v4.heap.size = v3.heap.size + 1 := by rw [hx]; simp
                  have HZ4 : v3.heap.size < v4.heap.size := by omega
                  rw [← hx]
                  clear hx hz4
                  clear hK K
                  try simp only [Act.put, List.setIfInBounds_toArray, List.set_cons_zero, List.set_cons_succ]
                  refine wpAnyH_ready (rs := [10]) (by kernel_rfl) (by simp) ?_
                  refine held_step rfl (fun K hK => ?_) ?_
                  · skip
                    have hzz := M4.out.T.size
                    refine step_append_lies _ (by rfl) (.tmp 63) (.tmp 65) 55 (by rfl) (w.heap.size + 1 + 1) 66 i66 (.map none) 1 8 Try.underlying55 hm hm0 hm1 hm2 rfl (by omega) kv k _ (by rfl) M4.out.rk ⟨v3.heap.size, 0, none⟩ 1 1 [.map (some mb)] (by rfl) (by rfl) (news_at C2_4.out) (one_ rfl) (by omega) (by unfold maxLen; omega) (by omega) (by omega) v4.heap.size rfl ?_
                    intro g5 cp5 v5 hown hgrow hat hlt
                    have M5 := Lib.hid (Bun.app_k M4.out hown hgrow hat (Nat.le_refl _))
                    clear hown hgrow hat hzz
                    refine hK _ _ ⟨M5.out.pbk.cell 0, M5.out.pbk.cell 1⟩ ?_
                    clear hK K
                    try simp only [Act.put, List.setIfInBounds_toArray, List.set_cons_zero, List.set_cons_succ]
                    refine wpAnyH_done (by kernel_rfl) ?_ _
                    simp only [endN]
                    have q0 : v5.cell? ⟨w.heap.size + 1, 0, none⟩ = some av := M5.out.pbk.cell 0
                    have q1 : v5.cell? ⟨w.heap.size + 1, 1, none⟩ = some kv := M5.out.pbk.cell 1
                    have qf := M5.out.pbk.frozen
                    have hN := M5.out
                    rw [HACC.out, HF.out] at hN
                    have NX := Lib.hid (HS.out.next hN)
                    clear hN
                    go_wp2_with fail
                    exact ⟨⟨k + 1, _, _, _, _, by omega, by go_num, NX.out⟩, by simp [intOf]; omega⟩
                  exact AllReadyH.nil
                exact AllReadyH.nil
              refine held_step rfl (fun K hK => ?_) ?_
              · skip
                go_simp
                refine hK _ _ ⟨(M2.out.alloc _).pbk.cell 0, (M2.out.alloc _).pbk.cell 1⟩ ?_
                obtain ⟨v6, hx⟩ : ∃ x, x = v2.alloc (.cells #[.map (some mb)] 66) := ⟨_, rfl⟩
                have M6 : RowKit.Hid (Bun av kv wo v6 (w.heap.size + 1) #[av, kv, .int .i64 P.n] av k us kv k ms Wi.heap.size a1 cap1 (Go.Lib.compact D2) mb (ints (P.acc k)) f) := Lib.hid (by rw [hx]; exact M2.out.alloc _)
                have C2_6 : RowKit.Hid (Blk v6 v2.heap.size #[.map (some mb)] 66) := Lib.hid (by rw [hx]; exact Blk.new _ _ _)
                have C1_6 : RowKit.Hid (Blk v6 v1.heap.size #[.slice a1 (Go.Lib.compact D2).length cap1] 30) := Lib.hid (by rw [hx]; exact C1_2.out.alloc _)
                have hz6 : v6.heap.size = v2.heap.size + 1 := by rw [hx]; simp
                have HZ6 : v2.heap.size < v6.heap.size := by omega
                rw [← hx]
                clear hx hz6
                clear hK K
                try simp only [Act.put, List.setIfInBounds_toArray, List.set_cons_zero, List.set_cons_succ]
                refine wpAnyH_ready (rs := [5]) (by kernel_rfl) (by simp) ?_
                refine held_step rfl (fun K hK => ?_) ?_
                · skip
                  have hzz := M6.out.T.size
                  refine step_append_lies _ (by rfl) (.tmp 57) (.tmp 60) 34 (by rfl) (w.heap.size + 1 + 1) 30 i30 (.slice none 0 0) 1 24 Try.underlying34 hj hj0 hj1 hj2 rfl (by omega) av k _ (by rfl) M6.out.ra ⟨v1.heap.size, 0, none⟩ 1 1 [.slice a1 (Go.Lib.compact D2).length cap1] (by rfl) (by rfl) (news_at C1_6.out) (one_ rfl) (by omega) (by unfold maxLen; omega) (by omega) (by omega) v6.heap.size rfl ?_
                  intro g7 cp7 v7 hown hgrow hat hlt
                  have M7 := Lib.hid (Bun.app_a M6.out hown hgrow hat (Nat.le_refl _))
                  have C2_7 := Lib.hid ((Tn.of_grown hgrow).blk C2_6.out (fun e => by have := row_lt HS.out.ra _ e; have := M2.out.T.size; omega))
                  clear hown hgrow hat hzz
                  refine hK _ _ ⟨M7.out.pbk.cell 0, M7.out.pbk.cell 1⟩ ?_
                  clear hK K
                  try simp only [Act.put, List.setIfInBounds_toArray, List.set_cons_zero, List.set_cons_succ]
                  have hHeld : v7.cell? ⟨w.heap.size + 1, 0, none⟩ = some av ∧ v7.cell? ⟨w.heap.size + 1, 1, none⟩ = some kv := ⟨M7.out.pbk.cell 0, M7.out.pbk.cell 1⟩
                  refine wpAnyH_take (i := 11) (v := .pointer (some ⟨w.heap.size + 1, 0, none⟩)) rfl (by kernel_rfl) (by kernel_rfl) (by kernel_rfl) (fun _ _ _ h => h) (Or.inl ⟨by rfl, by intro w hSw; (try dsimp only at hSw); go_simp⟩) hHeld ?_
                  try simp only [Act.put, List.setIfInBounds_toArray, List.set_cons_zero, List.set_cons_succ]
                  clear hHeld
                  refine wpAnyH_ready (rs := [10]) (by kernel_rfl) (by simp) ?_
                  refine held_step rfl (fun K hK => ?_) ?_
                  · skip
                    have hzz := M7.out.T.size
                    refine step_append_lies _ (by rfl) (.tmp 63) (.tmp 65) 55 (by rfl) (w.heap.size + 1 + 1) 66 i66 (.map none) 1 8 Try.underlying55 hm hm0 hm1 hm2 rfl (by omega) kv k _ (by rfl) M7.out.rk ⟨v2.heap.size, 0, none⟩ 1 1 [.map (some mb)] (by rfl) (by rfl) (news_at C2_7.out) (one_ rfl) (by omega) (by unfold maxLen; omega) (by omega) (by omega) v7.heap.size rfl ?_
                    intro g8 cp8 v8 hown hgrow hat hlt
                    have M8 := Lib.hid (Bun.app_k M7.out hown hgrow hat (Nat.le_refl _))
                    clear hown hgrow hat hzz
                    refine hK _ _ ⟨M8.out.pbk.cell 0, M8.out.pbk.cell 1⟩ ?_
                    clear hK K
                    try simp only [Act.put, List.setIfInBounds_toArray, List.set_cons_zero, List.set_cons_succ]
                    refine wpAnyH_done (by kernel_rfl) ?_ _
                    simp only [endN]
                    have q0 : v8.cell? ⟨w.heap.size + 1, 0, none⟩ = some av := M8.out.pbk.cell 0
                    have q1 : v8.cell? ⟨w.heap.size + 1, 1, none⟩ = some kv := M8.out.pbk.cell 1
                    have qf := M8.out.pbk.frozen
                    have hN := M8.out
                    rw [HACC.out, HF.out] at hN
                    have NX := Lib.hid (HS.out.next hN)
                    clear hN
                    go_wp2_with fail
                    exact ⟨⟨k + 1, _, _, _, _, by omega, by go_num, NX.out⟩, by simp [intOf]; omega⟩
                  exact AllReadyH.nil
                exact AllReadyH.nil
              exact AllReadyH.nil
            refine held_step rfl (fun K hK => ?_) ?_
            · skip
              go_simp
              refine hK _ _ ⟨(M1.out.alloc _).pbk.cell 0, (M1.out.alloc _).pbk.cell 1⟩ ?_
              obtain ⟨v9, hx⟩ : ∃ x, x = v1.alloc (.cells #[.map (some mb)] 66) := ⟨_, rfl⟩
              have M9 : RowKit.Hid (Bun av kv wo v9 (w.heap.size + 1) #[av, kv, .int .i64 P.n] av k us kv k ms Wi.heap.size a1 cap1 (Go.Lib.compact D2) mb (ints (P.acc k)) f) := Lib.hid (by rw [hx]; exact M1.out.alloc _)
              have C2_9 : RowKit.Hid (Blk v9 v1.heap.size #[.map (some mb)] 66) := Lib.hid (by rw [hx]; exact Blk.new _ _ _)
              have hz9 : v9.heap.size = v1.heap.size + 1 := by rw [hx]; simp
              have HZ9 : v1.heap.size < v9.heap.size := by omega
              rw [← hx]
              clear hx hz9
              clear hK K
              try simp only [Act.put, List.setIfInBounds_toArray, List.set_cons_zero, List.set_cons_succ]
              refine wpAnyH_ready (rs := [4]) (by kernel_rfl) (by simp) ?_
              refine held_step rfl (fun K hK => ?_) ?_
              · skip
                go_simp
                refine hK _ _ ⟨(M9.out.alloc _).pbk.cell 0, (M9.out.alloc _).pbk.cell 1⟩ ?_
                obtain ⟨v10, hx⟩ : ∃ x, x = v9.alloc (.cells #[.slice a1 (Go.Lib.compact D2).length cap1] 30) := ⟨_, rfl⟩
                have M10 : RowKit.Hid (Bun av kv wo v10 (w.heap.size + 1) #[av, kv, .int .i64 P.n] av k us kv k ms Wi.heap.size a1 cap1 (Go.Lib.compact D2) mb (ints (P.acc k)) f) := Lib.hid (by rw [hx]; exact M9.out.alloc _)
                have C1_10 : RowKit.Hid (Blk v10 v9.heap.size #[.slice a1 (Go.Lib.compact D2).length cap1] 30) := Lib.hid (by rw [hx]; exact Blk.new _ _ _)
                have C2_10 : RowKit.Hid (Blk v10 v1.heap.size #[.map (some mb)] 66) := Lib.hid (by rw [hx]; exact C2_9.out.alloc _)
                have hz10 : v10.heap.size = v9.heap.size + 1 := by rw [hx]; simp
                have HZ10 : v9.heap.size < v10.heap.size := by omega
                rw [← hx]
                clear hx hz10
                clear hK K
                try simp only [Act.put, List.setIfInBounds_toArray, List.set_cons_zero, List.set_cons_succ]
                refine wpAnyH_ready (rs := [5]) (by kernel_rfl) (by simp) ?_
                refine held_step rfl (fun K hK => ?_) ?_
                · skip
                  have hzz := M10.out.T.size
                  refine step_append_lies _ (by rfl) (.tmp 57) (.tmp 60) 34 (by rfl) (w.heap.size + 1 + 1) 30 i30 (.slice none 0 0) 1 24 Try.underlying34 hj hj0 hj1 hj2 rfl (by omega) av k _ (by rfl) M10.out.ra ⟨v9.heap.size, 0, none⟩ 1 1 [.slice a1 (Go.Lib.compact D2).length cap1] (by rfl) (by rfl) (news_at C1_10.out) (one_ rfl) (by omega) (by unfold maxLen; omega) (by omega) (by omega) v10.heap.size rfl ?_
                  intro g11 cp11 v11 hown hgrow hat hlt
                  have M11 := Lib.hid (Bun.app_a M10.out hown hgrow hat (Nat.le_refl _))
                  have C2_11 := Lib.hid ((Tn.of_grown hgrow).blk C2_10.out (fun e => by have := row_lt HS.out.ra _ e; have := M1.out.T.size; omega))
                  clear hown hgrow hat hzz
                  refine hK _ _ ⟨M11.out.pbk.cell 0, M11.out.pbk.cell 1⟩ ?_
                  clear hK K
                  try simp only [Act.put, List.setIfInBounds_toArray, List.set_cons_zero, List.set_cons_succ]
                  have hHeld : v11.cell? ⟨w.heap.size + 1, 0, none⟩ = some av ∧ v11.cell? ⟨w.heap.size + 1, 1, none⟩ = some kv := ⟨M11.out.pbk.cell 0, M11.out.pbk.cell 1⟩
                  refine wpAnyH_take (i := 11) (v := .pointer (some ⟨w.heap.size + 1, 0, none⟩)) rfl (by kernel_rfl) (by kernel_rfl) (by kernel_rfl) (fun _ _ _ h => h) (Or.inl ⟨by rfl, by intro w hSw; (try dsimp only at hSw); go_simp⟩) hHeld ?_
                  try simp only [Act.put, List.setIfInBounds_toArray, List.set_cons_zero, List.set_cons_succ]
                  clear hHeld
                  refine wpAnyH_ready (rs := [10]) (by kernel_rfl) (by simp) ?_
                  refine held_step rfl (fun K hK => ?_) ?_
                  · skip
                    have hzz := M11.out.T.size
                    refine step_append_lies _ (by rfl) (.tmp 63) (.tmp 65) 55 (by rfl) (w.heap.size + 1 + 1) 66 i66 (.map none) 1 8 Try.underlying55 hm hm0 hm1 hm2 rfl (by omega) kv k _ (by rfl) M11.out.rk ⟨v1.heap.size, 0, none⟩ 1 1 [.map (some mb)] (by rfl) (by rfl) (news_at C2_11.out) (one_ rfl) (by omega) (by unfold maxLen; omega) (by omega) (by omega) v11.heap.size rfl ?_
                    intro g12 cp12 v12 hown hgrow hat hlt
                    have M12 := Lib.hid (Bun.app_k M11.out hown hgrow hat (Nat.le_refl _))
                    clear hown hgrow hat hzz
                    refine hK _ _ ⟨M12.out.pbk.cell 0, M12.out.pbk.cell 1⟩ ?_
                    clear hK K
                    try simp only [Act.put, List.setIfInBounds_toArray, List.set_cons_zero, List.set_cons_succ]
                    refine wpAnyH_done (by kernel_rfl) ?_ _
                    simp only [endN]
                    have q0 : v12.cell? ⟨w.heap.size + 1, 0, none⟩ = some av := M12.out.pbk.cell 0
                    have q1 : v12.cell? ⟨w.heap.size + 1, 1, none⟩ = some kv := M12.out.pbk.cell 1
                    have qf := M12.out.pbk.frozen
                    have hN := M12.out
                    rw [HACC.out, HF.out] at hN
                    have NX := Lib.hid (HS.out.next hN)
                    clear hN
                    go_wp2_with fail
                    exact ⟨⟨k + 1, _, _, _, _, by omega, by go_num, NX.out⟩, by simp [intOf]; omega⟩
                  exact AllReadyH.nil
                exact AllReadyH.nil
              exact AllReadyH.nil
            exact AllReadyH.nil
          refine held_step rfl (fun K hK => ?_) ?_
          · skip
            go_simp
            refine hK _ _ ⟨(M0.out.alloc _).pbk.cell 0, (M0.out.alloc _).pbk.cell 1⟩ ?_
            obtain ⟨v13, hx⟩ : ∃ x, x = v0.alloc (.cells #[.map (some mb)] 66) := ⟨_, rfl⟩
            have M13 : RowKit.Hid (Bun av kv wo v13 (w.heap.size + 1) #[av, kv, .int .i64 P.n] av k us kv k ms Wi.heap.size a1 cap1 D2 mb (ints (P.acc k)) f) := Lib.hid (by rw [hx]; exact M0.out.alloc _)
            have C2_13 : RowKit.Hid (Blk v13 v0.heap.size #[.map (some mb)] 66) := Lib.hid (by rw [hx]; exact Blk.new _ _ _)
            have hz13 : v13.heap.size = v0.heap.size + 1 := by rw [hx]; simp
            have HZ13 : v0.heap.size < v13.heap.size := by omega
            rw [← hx]
            clear hx hz13
            clear hK K
            try simp only [Act.put, List.setIfInBounds_toArray, List.set_cons_zero, List.set_cons_succ]
            refine wpAnyH_ready (rs := [3]) (by kernel_rfl) (by simp) ?_
            refine held_step rfl (fun K hK => ?_) ?_
            · skip
              try go_simp
              refine (compact_own2 a1 D2 S.length cap1 Wi.heap.size _ M13.out.sl HSL2.out (by omega)).mono ?_
              rintro e v14 ⟨rfl, ho4, hT4⟩
              have M14 := Lib.hid (Bun.compact M13.out hT4 ho4)
              have C2_14 := Lib.hid (hT4.blk C2_13.out (fun ⟨o, e⟩ => by have := M0.out.al _ o e; omega))
              clear ho4 hT4
              try go_simp
              refine hK _ _ ⟨M14.out.pbk.cell 0, M14.out.pbk.cell 1⟩ ?_
              clear hK K
              try simp only [Act.put, List.setIfInBounds_toArray, List.set_cons_zero, List.set_cons_succ]
              refine wpAnyH_ready (rs := [4]) (by kernel_rfl) (by simp) ?_
              refine held_step rfl (fun K hK => ?_) ?_
              · skip
                go_simp
                refine hK _ _ ⟨(M14.out.alloc _).pbk.cell 0, (M14.out.alloc _).pbk.cell 1⟩ ?_
                obtain ⟨v15, hx⟩ : ∃ x, x = v14.alloc (.cells #[.slice a1 (Go.Lib.compact D2).length cap1] 30) := ⟨_, rfl⟩
                have M15 : RowKit.Hid (Bun av kv wo v15 (w.heap.size + 1) #[av, kv, .int .i64 P.n] av k us kv k ms Wi.heap.size a1 cap1 (Go.Lib.compact D2) mb (ints (P.acc k)) f) := Lib.hid (by rw [hx]; exact M14.out.alloc _)
                have C1_15 : RowKit.Hid (Blk v15 v14.heap.size #[.slice a1 (Go.Lib.compact D2).length cap1] 30) := Lib.hid (by rw [hx]; exact Blk.new _ _ _)
                have C2_15 : RowKit.Hid (Blk v15 v0.heap.size #[.map (some mb)] 66) := Lib.hid (by rw [hx]; exact C2_14.out.alloc _)
                have hz15 : v15.heap.size = v14.heap.size + 1 := by rw [hx]; simp
                have HZ15 : v14.heap.size < v15.heap.size := by omega
                rw [← hx]
                clear hx hz15
                clear hK K
                try simp only [Act.put, List.setIfInBounds_toArray, List.set_cons_zero, List.set_cons_succ]
                refine wpAnyH_ready (rs := [5]) (by kernel_rfl) (by simp) ?_
                refine held_step rfl (fun K hK => ?_) ?_
                · skip
                  have hzz := M15.out.T.size
                  refine step_append_lies _ (by rfl) (.tmp 57) (.tmp 60) 34 (by rfl) (w.heap.size + 1 + 1) 30 i30 (.slice none 0 0) 1 24 Try.underlying34 hj hj0 hj1 hj2 rfl (by omega) av k _ (by rfl) M15.out.ra ⟨v14.heap.size, 0, none⟩ 1 1 [.slice a1 (Go.Lib.compact D2).length cap1] (by rfl) (by rfl) (news_at C1_15.out) (one_ rfl) (by omega) (by unfold maxLen; omega) (by omega) (by omega) v15.heap.size rfl ?_
                  intro g16 cp16 v16 hown hgrow hat hlt
                  have M16 := Lib.hid (Bun.app_a M15.out hown hgrow hat (Nat.le_refl _))
                  have C2_16 := Lib.hid ((Tn.of_grown hgrow).blk C2_15.out (fun e => by have := row_lt HS.out.ra _ e; have := M0.out.T.size; omega))
                  clear hown hgrow hat hzz
                  refine hK _ _ ⟨M16.out.pbk.cell 0, M16.out.pbk.cell 1⟩ ?_
                  clear hK K
                  try simp only [Act.put, List.setIfInBounds_toArray, List.set_cons_zero, List.set_cons_succ]
                  have hHeld : v16.cell? ⟨w.heap.size + 1, 0, none⟩ = some av ∧ v16.cell? ⟨w.heap.size + 1, 1, none⟩ = some kv := ⟨M16.out.pbk.cell 0, M16.out.pbk.cell 1⟩
                  refine wpAnyH_take (i := 11) (v := .pointer (some ⟨w.heap.size + 1, 0, none⟩)) rfl (by kernel_rfl) (by kernel_rfl) (by kernel_rfl) (fun _ _ _ h => h) (Or.inl ⟨by rfl, by intro w hSw; (try dsimp only at hSw); go_simp⟩) hHeld ?_
                  try simp only [Act.put, List.setIfInBounds_toArray, List.set_cons_zero, List.set_cons_succ]
                  clear hHeld
                  refine wpAnyH_ready (rs := [10]) (by kernel_rfl) (by simp) ?_
                  refine held_step rfl (fun K hK => ?_) ?_
                  · skip
                    have hzz := M16.out.T.size
                    refine step_append_lies _ (by rfl) (.tmp 63) (.tmp 65) 55 (by rfl) (w.heap.size + 1 + 1) 66 i66 (.map none) 1 8 Try.underlying55 hm hm0 hm1 hm2 rfl (by omega) kv k _ (by rfl) M16.out.rk ⟨v0.heap.size, 0, none⟩ 1 1 [.map (some mb)] (by rfl) (by rfl) (news_at C2_16.out) (one_ rfl) (by omega) (by unfold maxLen; omega) (by omega) (by omega) v16.heap.size rfl ?_
                    intro g17 cp17 v17 hown hgrow hat hlt
                    have M17 := Lib.hid (Bun.app_k M16.out hown hgrow hat (Nat.le_refl _))
                    clear hown hgrow hat hzz
                    refine hK _ _ ⟨M17.out.pbk.cell 0, M17.out.pbk.cell 1⟩ ?_
                    clear hK K
                    try simp only [Act.put, List.setIfInBounds_toArray, List.set_cons_zero, List.set_cons_succ]
                    refine wpAnyH_done (by kernel_rfl) ?_ _
                    simp only [endN]
                    have q0 : v17.cell? ⟨w.heap.size + 1, 0, none⟩ = some av := M17.out.pbk.cell 0
                    have q1 : v17.cell? ⟨w.heap.size + 1, 1, none⟩ = some kv := M17.out.pbk.cell 1
                    have qf := M17.out.pbk.frozen
                    have hN := M17.out
                    rw [HACC.out, HF.out] at hN
                    have NX := Lib.hid (HS.out.next hN)
                    clear hN
                    go_wp2_with fail
                    exact ⟨⟨k + 1, _, _, _, _, by omega, by go_num, NX.out⟩, by simp [intOf]; omega⟩
                  exact AllReadyH.nil
                exact AllReadyH.nil
              exact AllReadyH.nil
            exact AllReadyH.nil
          exact AllReadyH.nil
    · obtain rfl : k = L.length := by omega
      obtain ⟨a8, c8, rfl, -⟩ := row_cell HS.out.ra
      obtain ⟨a9, c9, rfl, -⟩ := row_cell HS.out.rk
      have p0 : wo.cell? ⟨w.heap.size + 1, 0, none⟩ = some (.slice a8 L.length c8) := HS.out.pbk.cell 0
      have p1 : wo.cell? ⟨w.heap.size + 1, 1, none⟩ = some (.slice a9 L.length c9) := HS.out.pbk.cell 1
      have p2 : wo.cell? ⟨w.heap.size + 1, 2, none⟩ = some (.int .i64 P.n) := HS.out.pbk.cell 2
      have RR : RowKit.Hid (Blk wo w.heap.size #[Value.slice none 0 0, Value.slice none 0 0, Value.int IntKind.i64 0] 57) := Lib.hid (R1.out.below HS.out.bel (Nat.lt_succ_self _))
      have r0 : wo.cell? ⟨w.heap.size, 0, none⟩ = some (.slice none 0 0) := RR.out.cell 0
      have r1 : wo.cell? ⟨w.heap.size, 1, none⟩ = some (.slice none 0 0) := RR.out.cell 1
      have r2 : wo.cell? ⟨w.heap.size, 2, none⟩ = some (.int .i64 0) := RR.out.cell 2
      have rf := RR.out.frozen
      go_wp2_with fail
      have hfin : OpenE P w (.returned (.agg #[.slice a8 L.length c8, .slice a9 L.length c9, .int .i64 P.n])) (((wo.setCell ⟨w.heap.size, 0, none⟩ (.slice a8 L.length c8)).setCell ⟨w.heap.size, 1, none⟩ (.slice a9 L.length c9)).setCell ⟨w.heap.size, 2, none⟩ (.int .i64 P.n)) := by
        have t : Tn (fun b => b ≤ w.heap.size + 1) wo (((wo.setCell ⟨w.heap.size, 0, none⟩ (.slice a8 L.length c8)).setCell ⟨w.heap.size, 1, none⟩ (.slice a9 L.length c9)).setCell ⟨w.heap.size, 2, none⟩ (.int .i64 P.n)) :=
          (((Tn.refl (fun b => b ≤ w.heap.size + 1) wo).setCell (p := ⟨w.heap.size, 0, none⟩) (.inl (by show w.heap.size ≤ _; omega)) _).setCell (p := ⟨w.heap.size, 1, none⟩) (.inl (by show w.heap.size ≤ _; omega)) _).setCell (p := ⟨w.heap.size, 2, none⟩) (.inl (by show w.heap.size ≤ _; omega)) _
        refine ⟨_, _, rfl, HS.out.done HPM.out t, ?_⟩
        exact ((BW.out.setCell (Nat.le_refl _) _).setCell (Nat.le_refl _) _).setCell (Nat.le_refl _) _
      refine bodyPost_ret (v := .agg #[.slice a8 L.length c8, .slice a9 L.length c9, .int .i64 P.n]) ?_ rfl hfin
      simp [results, Try.results23, go_sem, r0, r1, r2, rf]
end Go.Proofs.Ytpcmppamkgkdlaa
