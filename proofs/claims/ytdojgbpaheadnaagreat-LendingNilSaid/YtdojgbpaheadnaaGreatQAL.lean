/- Lists of messages in memory; an asker's tick. -/
import Derived.Test.YtdojgbpaheadnaaGreatQAK
import Derived.Test.YtdojgbpaheadnaaGreatQAD
import Derived.Laws.AppendOwnNone
set_option linter.unusedVariables false
set_option linter.unusedSimpArgs false

namespace Go.Proofs.YtdojgbpaheadnaaGreat
open Go.RowKit Go.Shelf Go.Maps Go.ChangeMaps

def mcells (l : List Msg) : List Value := l.flatMap fun m => (encM m).toList
/-- A list of messages, in memory from B on. -/
def MRow (w : World) (B : Nat) (v : Value) (l : List Msg) : Prop := w.ownsRow B 31 4 v l.length (mcells l)
theorem mcells_len (l : List Msg) : (mcells l).length = l.length * 4 := by
  unfold mcells
  induction l with
  | nil => rfl
  | cons m l ih => rw [List.flatMap_cons, List.length_append, ih]; simp [encM]; omega
theorem mcells_app (l l' : List Msg) : mcells (l ++ l') = mcells l ++ mcells l' := by unfold mcells; rw [List.flatMap_append]
theorem infoM : (Tryz.prog.info? 31).map (fun i => (i.zero, i.size, i.bytes)) = some (some (.agg #[i64 0, i64 0, i64 0, .string ⟨#[]⟩]), 4, 40) := by kernel_rfl
theorem MRow.nil (w : World) (B : Nat) : MRow w B (.slice none 0 0) [] := World.ownsRow_nil _ _ _ _
theorem info_partsM : ∃ i, Tryz.prog.info? 31 = some i ∧ i.zero = some (.agg #[i64 0, i64 0, i64 0, .string ⟨#[]⟩]) ∧ i.size = 4 ∧ i.bytes = 40 := by
  obtain ⟨i, hi, h⟩ := Option.map_eq_some_iff.1 infoM
  injection h with h1 h2
  injection h2 with h2 h3
  exact ⟨i, hi, h1, h2, h3⟩
theorem enc_one (m : Msg) : ∀ u ∈ (encM m).toList, u.oneCell' = true := by
  intro u hu
  simp [encM] at hu
  rcases hu with rfl | rfl | rfl | rfl <;> rfl
theorem blk_news {w : World} {g : Nat} {xs : Array Value} {T : TypeId} (h : Blk w g xs T) : ∀ (j : Nat) (u : Value), xs.toList[j]? = some u → w.cell? (Addr.add ⟨g, 0, none⟩ j) = some u := fun j u hu => by
  rw [add_of, h.cell]
  simpa using hu
theorem tell_same (s : Asr) (q : Rq) (k : Int) : (s.tell q k).1.L = s.L ∧ (s.tell q k).1.id = s.id ∧ (s.tell q k).1.cap = s.cap ∧ s.sent ≤ (s.tell q k).1.sent ∧ (s.tell q k).1.sent ≤ s.sent + 1 ∧ (s.tell q k).2.length ≤ 1 := by
  unfold Asr.tell
  split
  · exact ⟨rfl, rfl, rfl, Int.le_refl _, by dsimp only; omega, by simp⟩
  · exact ⟨rfl, rfl, rfl, by dsimp only; omega, Int.le_refl _, by simp⟩
theorem tickL_snoc (q : Rq) : ∀ (A : List Rq) (s : Asr), tickL s (A ++ [q]) = (((tickL s A).1.tell q (agn q.st)).1, (tickL s A).2 ++ ((tickL s A).1.tell q (agn q.st)).2)
  | [], s => by simp [tickL]
  | x :: A, s => by
    have ih := tickL_snoc q A (s.tell x (agn x.st)).1
    simp only [List.cons_append, tickL, ih, List.append_assoc]
theorem tickL_same : ∀ (A : List Rq) (s : Asr), (tickL s A).1.L = s.L ∧ (tickL s A).1.id = s.id ∧ (tickL s A).1.cap = s.cap ∧ s.sent ≤ (tickL s A).1.sent ∧ (tickL s A).1.sent ≤ s.sent + A.length ∧ (tickL s A).2.length ≤ A.length
  | [], s => ⟨rfl, rfl, rfl, Int.le_refl _, by simp [tickL], by simp [tickL]⟩
  | x :: A, s => by
    obtain ⟨h1, h2, h3, h4, h5, h6⟩ := tickL_same A (s.tell x (agn x.st)).1
    obtain ⟨k1, k2, k3, k4, k5, k6⟩ := tell_same s x (agn x.st)
    refine ⟨h1.trans k1, h2.trans k2, h3.trans k3, Int.le_trans k4 h4, ?_, ?_⟩
    · simp only [tickL, List.length_cons]; omega
    · simp only [tickL, List.length_cons, List.length_append]; omega
theorem agn_i64 (st : Int) : I64 (agn st) := by
  unfold agn
  repeat' split
  all_goals exact ⟨by omega, by omega⟩
theorem tell_cases (s : Asr) (q : Rq) (k : Int) : (s.tell q k).2 = [] ∨ ∃ m, (s.tell q k).2 = [m] := by
  unfold Asr.tell
  split
  · exact .inl rfl
  · exact .inr ⟨_, rfl⟩
set_option maxRecDepth 100000 in
set_option maxHeartbeats 4000000 in
theorem aTick_any (B b N : Nat) (s : Asr) (mv : Value) (w : World) (h : AMem w B b s mv N) (hB : B ≤ w.heap.size) (hN : N < 90000) (hL : s.L.length < 1000) :
    Calls Tryz.prog 23 #[.pointer (some ⟨b, 0, none⟩)] w fun e w' => ∃ v, e = .returned v ∧ MRow w' w.heap.size v s.tick.2 ∧ AMem w' B b s.tick.1 mv (N + 1) ∧ Tn (fun k => k = b) w w' := by
  obtain ⟨mvo, rfl⟩ : ∃ mvo, mv = .map mvo := by
    rcases h.map with ⟨e, _⟩ | ⟨mb, _, _, e, _⟩
    · exact ⟨_, e⟩
    · exact ⟨_, e⟩
  have H := Lib.hid h
  have HB := Lib.hid hB
  have c3 : w.cell? ⟨b, 3, none⟩ = some (.map mvo) := h.blk.cell 3
  have hbl := h.blk.lt
  have SA := Lib.hid (sorted_any h)
  obtain ⟨i0, hi, hz1, hz2, hz3⟩ := info_partsM
  have hl1 := h.len.1
  have hs0 := h.sent.1
  have hs1 := h.sent.2
  clear h hB
  go_enter Tryz.func23, Tryz.ntmps23
  go_wp2_with fail
  refine (keys_any mvo w).mono ?_
  rintro e w1 ⟨rfl, hw1⟩
  rw [← hw1] at SA
  have B1 : RowKit.Hid (Below w.heap.size w w1) := Lib.hid (by rw [hw1]; exact (Below.refl _ _).alloc (Nat.le_refl _) _)
  have hz : w1.heap.size = w.heap.size + 1 := by rw [hw1]; exact size_alloc _ _
  have HZ := Lib.hid hz
  clear hw1 hz
  go_wp2_with fail
  refine SA.out.mono ?_
  rintro e w2 ⟨v13, rfl, hrow, hb⟩
  have R2 := Lib.hid hrow
  have B2 : RowKit.Hid (Below w.heap.size w w2) := Lib.hid (B1.out.trans ⟨hb.os, hb.tape, hb.output, hb.size, fun i hi => hb.block i (by omega)⟩)
  obtain ⟨a13, c13, rfl, hcells⟩ := row_cell hrow
  have HC := Lib.hid hcells
  have M2 := Lib.hid (H.out.up B2.out)
  have h2z : w.heap.size < w2.heap.size := by have := hb.size; have := HZ.out; omega
  clear hrow hb hcells SA B1
  go_wp2_with fail
  go_loopw [3, 15] (fun o i wr => ∃ k : Nat, k ≤ s.L.length ∧ i = .int .i64 k ∧ MRow wr w2.heap.size o (tickL s (s.L.take k)).2 ∧ AMem wr B b (tickL s (s.L.take k)).1 (.map mvo) (N + 1) ∧ Tn (fun k => k = b) w wr ∧ Tn (fun k => k = b ∨ w2.heap.size ≤ k) w2 wr) (fun _ i _ => s.L.length - (intOf i).toNat)
  case atStart =>
    refine ⟨0, Nat.zero_le _, rfl, ?_, ?_, Tn.of_below B2.out, Tn.refl _ _⟩
    · exact MRow.nil _ _
    · exact M2.out.mono (Nat.le_succ _) (by omega)
  case round =>
    obtain ⟨k, hk, rfl, hrow, hM, hT, hT2⟩ := hrel
    have RW := Lib.hid hrow
    have M3 := Lib.hid hM
    have T3 := Lib.hid hT
    have T32 := Lib.hid hT2
    clear hrow hM hT hT2 M2
    by_cases hlt : k < s.L.length
    · obtain ⟨q, hq⟩ : ∃ q, s.L[k]? = some q := ⟨_, List.getElem?_eq_getElem hlt⟩
      have hqm : q ∈ s.L := List.mem_of_getElem? hq
      obtain ⟨g, hga, hcell⟩ : ∃ g, a13 = some ⟨g, 0, none⟩ ∧ wr.cell? ⟨g, k, none⟩ = some (i64 q.n) := by
        rcases HC.out with h0 | ⟨g, ha, ho, hc⟩
        · omega
        · have hg := row_lt R2.out g ho
          exact ⟨g, ha, T32.out.cell (hc k (i64 q.n) (by simp [hq])) (by rintro (h1 | h1) <;> (have : g = b ∨ w2.heap.size ≤ g := by first | exact .inl h1 | exact .inr h1); omega; omega)⟩
      subst hga
      obtain ⟨hsame, hsid, hscap, hs2, hs3, hmany⟩ := tickL_same (s.L.take k) s
      have hq2 : rq (tickL s (s.L.take k)).1.L q.n = some q := by rw [hsame]; exact rq_mem H.out.inOrder hqm
      have HQ := Lib.hid (H.out.ids.2.2 q hqm)
      have hlk := (M3.out.look HQ.out.1).2
      rw [rqAt_some hq2] at hlk
      unfold rqV at hlk
      have hfd := field_rq1 q.t q.st q.l wr
      have c3 : wr.cell? ⟨b, 3, none⟩ = some (.map mvo) := M3.out.blk.cell 3
      have hst : I64 q.st := ⟨by have := HQ.out.2.2.1; omega, by have := HQ.out.2.2.2.1; omega⟩
      have hlen : (s.L.take k).length ≤ k := by rw [List.length_take]; omega
      have hsnoc := tickL_snoc q (s.L.take k) s
      rw [show s.L.take k ++ [q] = s.L.take (k + 1) from by rw [List.take_add_one, hq]; rfl] at hsnoc
      obtain ⟨sk, hsk⟩ : ∃ sk, sk = tickL s (s.L.take k) := ⟨_, rfl⟩
      rw [← hsk] at RW M3 hsame hs2 hs3 hmany hq2 hsnoc
      have SN := Lib.hid hsnoc
      have HQ2 := Lib.hid hq2
      have hsl : sk.1.sent < 1000 * ((N + 1 : Nat) : Int) := by omega
      clear hsk hsnoc hq2 hsame hsid hscap hq
      go_wp2_with fail
      refine (repeated_any q.st hst wr).mono ?_
      rintro e w4 ⟨rfl, hb4⟩
      have M4 := Lib.hid (M3.out.up hb4)
      have RW4 : RowKit.Hid (MRow w4 w2.heap.size u3 sk.2) := Lib.hid (ownsB_same RW.out fun r hr => hb4.block r (row_lt RW.out r hr).2)
      have T4 := Lib.hid (T3.out.trans (Tn.of_below hb4))
      have T42 := Lib.hid (T32.out.trans (Tn.of_below hb4))
      clear hb4 hlk hfd hcell c3 RW M3 T3 T32
      go_wp2_with fail
      refine (tell_any B b (N + 1) sk.1 (.map mvo) q.n (agn q.st) q w4 M4.out (Nat.le_trans HB.out T4.out.size) HQ2.out hsl HQ.out.1 (agn_i64 _)).mono ?_
      rintro e w5 ⟨v5, rfl, hm5, hM5, hT5⟩
      have hz4 := T4.out.size
      have M5 := Lib.hid hM5
      have RW5 : RowKit.Hid (MRow w5 w2.heap.size u3 sk.2) := Lib.hid (hT5.row RW4.out fun r hr e => by have := (row_lt RW4.out r hr).1; omega)
      have T5 := Lib.hid (T4.out.trans hT5)
      have T52 := Lib.hid (T42.out.trans (hT5.mono fun k hk => .inl hk))
      have hms : (sk.1.tell q (agn q.st)).2 = [] ∨ ∃ m, (sk.1.tell q (agn q.st)).2 = [m] := tell_cases _ _ _
      have ML := Lib.hid hmany
      clear hM5 hT5 M4 RW4 T4 T42
      rcases hms with hms | ⟨m, hms⟩
      · rw [hms] at hm5
        have hv5 : v5 = .slice none 0 0 := hm5
        subst hv5
        have MS := Lib.hid hms
        clear hms hm5
        go_wp2_with (at_builtin; go_must (refine Go.wpList_append_own_none rfl (.tmp 19) (.tmp 30) 38 rfl w2.heap.size 31 i0 4 Tryz.underlying38 hi u3 sk.2.length (mcells sk.2) (by rfl) RW5.out (by rfl) ?_))
        refine ⟨⟨k + 1, hlt, by go_num, ?_, ?_, T5.out, T52.out⟩, by simp [intOf]; omega⟩
        · rw [SN.out, MS.out, List.append_nil]; exact RW5.out
        · rw [SN.out]; exact M5.out
      · rw [hms] at hm5
        obtain ⟨g5, hg5, rfl, hb5⟩ := hm5
        have MS := Lib.hid hms
        have G5 := Lib.hid hb5
        have hn1 : sk.2.length + 1 ≤ 1001 := by have := ML.out; omega
        clear hms hb5
        go_wp2_with (at_builtin; go_must (refine wpList_append_own_at _ rfl (.tmp 19) (.tmp 30) 38 rfl w2.heap.size 31 i0 (.agg #[i64 0, i64 0, i64 0, .string ⟨#[]⟩]) 4 40 Tryz.underlying38 hi hz1 hz2 hz3 rfl (by decide) u3 sk.2.length (mcells sk.2) (by rfl) RW5.out ⟨g5, 0, none⟩ 1 1 (encM m).toList (by rfl) (by simp [encM]) (blk_news G5.out) (enc_one m) (by unfold maxLen; omega) (by omega) (by have := T52.out.size; omega) ?_; intro v6 w6 hown6 hgrow hnil6 hat6))
        have R6 : RowKit.Hid (MRow w6 w2.heap.size v6 (sk.2 ++ [m])) := Lib.hid (by
          unfold MRow
          rw [mcells_app, List.length_append]
          have e : mcells [m] = (encM m).toList := by simp [mcells]
          rw [e]; exact hown6)
        have TG : RowKit.Hid (Tn (fun k => u3.ownBlock = some k) w5 w6) := Lib.hid ((Tn.of_grown hgrow).mono fun k hk => hk)
        have hu3 : ∀ k, u3.ownBlock = some k → w2.heap.size ≤ k := fun k hk => (row_lt RW5.out k hk).1
        have hu3b : ∀ k, u3.ownBlock = some k → k < w5.heap.size := fun k hk => (row_lt RW5.out k hk).2
        refine ⟨⟨k + 1, hlt, by go_num, ?_, ?_, ?_, ?_⟩, by simp [intOf]; omega⟩
        · rw [SN.out, MS.out]; exact R6.out
        · rw [SN.out]; refine M5.out.keep TG.out fun k hk ho => ?_
          have h1 := hu3 k hk
          have h2 := (H.out.own_lt ho).2
          omega
        · exact T5.out.then_ TG.out fun k hk => .inr (by have := hu3 k hk; omega)
        · exact T52.out.then_ TG.out fun k hk => .inl (.inr (hu3 k hk))
    · have hkk : k = s.L.length := by omega
      subst hkk
      have e1 : tickL s (s.L.take s.L.length) = s.tick := by rw [List.take_length]; rfl
      rw [e1] at RW M3
      clear e1 hk
      go_wp2_with fail
      go_ret
      exact ⟨_, rfl, row_mono RW.out (by omega), M3.out, T3.out⟩
end Go.Proofs.YtdojgbpaheadnaaGreat
