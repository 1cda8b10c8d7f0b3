/- What a broker says about a case. -/
import Derived.Test.YtdojgbpaheadnaaQBN
set_option linter.unusedVariables false
set_option linter.unusedSimpArgs false

namespace Go.Proofs.Ytdojgbpaheadnaa
open Go.RowKit Go.Shelf Go.Maps Go.ChangeMaps

def BTellE (B b N : Nat) (s : Brk) (rv mv : Value) (G : List CsG) (o : Nat → Nat) (c : Cs) (w : World) (e : Ending) (w' : World) : Prop :=
  ∃ v, e = .returned v ∧ MsgsAt w' w.heap.size v (s.tell c).2 ∧ BMem w' B b (s.tell c).1 rv mv G o N ∧ Tn (fun k => k = b) w w'
theorem btell_send {B b N : Nat} {s : Brk} {rv mv : Value} {G : List CsG} {o : Nat → Nat} {c : Cs} {to k v : Int} {w w7 w' : World} {e : Ending} (hT : s.tell c = ({ s with sent := s.sent + 1 }, [mesg s.id s.sent to k c.a c.r v])) (M : BMem w7 B b s rv mv G o N) (hs : s.sent < 1000 * N) (T : Below w.heap.size w w7)
    (hS : SendE b s.id s.sent to k c.a c.r v w7 e w') : BTellE B b N s rv mv G o c w e w' := by
  obtain ⟨g, rfl, hg, hM, hb⟩ := hS
  obtain ⟨M8, T8⟩ := M.sent1 hs hb
  exact ⟨_, rfl, by rw [hT]; exact ⟨g, Nat.le_trans T.size hg, rfl, hM⟩, by rw [hT]; exact M8, (Tn.of_below T).trans T8⟩
set_option maxRecDepth 100000 in
set_option maxHeartbeats 4000000 in
theorem bTell_any (B b N : Nat) (s : Brk) (rv mv : Value) (G : List CsG) (o : Nat → Nat) (x : CsG) (a r : Int) (w : World) (h : BMem w B b s rv mv G o N) (hx : gcs G a r = some x) (hs : s.sent < 1000 * N) :
    Calls Try.prog 57 #[.pointer (some ⟨b, 0, none⟩), .agg #[i64 a, i64 r]] w (BTellE B b N s rv mv G o x.c w) := by
  obtain ⟨hxG, hxa, hxr⟩ := gcs_some hx
  obtain ⟨⟨ca, cr, ct, left, gr⟩, xk, la, lc⟩ := x
  dsimp only at hxa hxr
  subst hxa hxr
  have hcL : (⟨ca, cr, ct, left, gr⟩ : Cs) ∈ s.L := by rw [h.gs]; exact List.mem_map.2 ⟨_, hxG, rfl⟩
  have HI := Lib.hid (h.ids.2.2.2 _ hcL)
  have H := Lib.hid h
  have HS := Lib.hid hs
  have HSN : RowKit.Hid (0 ≤ s.sent ∧ s.sent < 1000000000) := Lib.hid ⟨h.sent.1, by have := h.len.2; omega⟩
  have HX := Lib.hid hx
  have hbl := h.blk.lt
  obtain ⟨mvo, hmv⟩ : ∃ mvo, mv = .map mvo := by
    rcases h.map with ⟨e, _⟩ | ⟨mb, _, _, e, _⟩
    · exact ⟨_, e⟩
    · exact ⟨_, e⟩
  subst hmv
  have CG := Lib.hid (h.cases_ _ hxG)
  clear h hx hs hxG hcL
  go_enter Try.func57, Try.ntmps57
  go_wp2_with fail
  obtain ⟨db, hdb⟩ : ∃ db, db = w.heap.size := ⟨_, rfl⟩
  obtain ⟨w1, hw1⟩ : ∃ w1, w1 = w.alloc (.cells #[i64 ca, i64 cr] 72) := ⟨_, rfl⟩
  have D1 : RowKit.Hid (Blk w1 db #[i64 ca, i64 cr] 72) := Lib.hid (by rw [hw1, hdb]; exact Blk.new _ _ _)
  have B1 : RowKit.Hid (Below w.heap.size w w1) := Lib.hid (by rw [hw1]; exact (Below.refl _ _).alloc (Nat.le_refl _) _)
  have M1 := Lib.hid (H.out.up B1.out)
  rw [← hw1, ← hdb]
  clear hw1 hdb
  obtain ⟨S, hS⟩ : ∃ S : World → Prop, S = fun W => ∃ n, W = w1.drewN n := ⟨_, rfl⟩
  have LD : RowKit.Hid (∀ W, S W → W.cell? ⟨b, 3, none⟩ = some (.map mvo) ∧ (Instr.lookup 121 (.map mvo) (.agg #[i64 ca, i64 cr]) false).run Try.prog W = .ok (.pointer (some ⟨xk, 0, none⟩)) W) := Lib.hid (by
    rw [hS]; rintro W ⟨n, rfl⟩
    have hl := (M1.out.up (bdrewN (Below.refl _ _) n)).look HI.out.1 HI.out.2.1
    rw [HX.out] at hl
    exact ⟨M1.out.blk.cell 3, hl⟩)
  have LB : RowKit.Hid (∀ W, S W → Blk W db #[i64 ca, i64 cr] 72) := Lib.hid (by rw [hS]; rintro W ⟨n, rfl⟩; exact D1.out.drewN n)
  have SS : RowKit.Hid (∀ W, S W → ∃ n, W = w1.drewN n) := Lib.hid (by rw [hS]; exact fun W h => h)
  have hHeld : S w1.drew := by rw [hS]; exact ⟨1, rfl⟩
  clear hS
  refine wp_region_held_drew (S := S) (by kernel_rfl) hHeld (fun _ => ?_)
  apply wpAnyH_apart S
  case take =>
    intro R hR
    refine wpAnyH_take (i := 0) (v := ?_) rfl (by kernel_rfl) (by kernel_rfl) (by kernel_rfl) (fun _ _ _ h => only_panic h) (Or.inl ⟨by rfl, ?_⟩) hHeld ?_
    rotate_left
    · (intro w hSw; have l0 := (LD.out w hSw).1; go_simp; try (with_reducible rfl))
    try simp only [List.getElem_toArray, List.getElem_cons_succ, List.getElem_cons_zero, Act.put, List.setIfInBounds_toArray, List.set_cons_zero, List.set_cons_succ]
    refine wpAnyH_take (i := 1) (v := ?_) rfl (by kernel_rfl) (by kernel_rfl) (by kernel_rfl) (fun _ _ _ h => only_panic h) (Or.inl ⟨by rfl, ?_⟩) hHeld ?_
    rotate_left
    · (intro w hSw; have l0 := (LD.out w hSw).1; go_simp; try (with_reducible rfl))
    try simp only [List.getElem_toArray, List.getElem_cons_succ, List.getElem_cons_zero, Act.put, List.setIfInBounds_toArray, List.set_cons_zero, List.set_cons_succ]
    refine wpAnyH_take (i := 2) (v := ?_) rfl (by kernel_rfl) (by kernel_rfl) (by kernel_rfl) (fun _ _ _ h => only_panic h) (Or.inl ⟨by rfl, ?_⟩) hHeld ?_
    rotate_left
    · (intro w hSw; have l0 := (LD.out w hSw).1; go_simp; try (with_reducible rfl))
    try simp only [List.getElem_toArray, List.getElem_cons_succ, List.getElem_cons_zero, Act.put, List.setIfInBounds_toArray, List.set_cons_zero, List.set_cons_succ]
    refine wpAnyH_take (i := 3) (v := ?_) rfl (by kernel_rfl) (by kernel_rfl) (by kernel_rfl) (fun _ _ _ h => only_panic h) (Or.inl ⟨by rfl, ?_⟩) hHeld ?_
    rotate_left
    · (intro w hSw; have l0 := (LD.out w hSw).1; go_simp; try (with_reducible rfl))
    try simp only [List.getElem_toArray, List.getElem_cons_succ, List.getElem_cons_zero, Act.put, List.setIfInBounds_toArray, List.set_cons_zero, List.set_cons_succ]
    refine wpAnyH_take (i := 4) (v := .agg #[i64 ca, i64 cr]) rfl (by kernel_rfl) (by kernel_rfl) (by kernel_rfl) (fun _ _ _ h => only_panic h) ?_ hHeld ?_
    · exact yields_row (.tmp 3) (by rfl) rfl rfl LB.out Try.underlying72 rfl (by kernel_rfl)
    try simp only [List.getElem_toArray, List.getElem_cons_succ, List.getElem_cons_zero, Act.put, List.setIfInBounds_toArray, List.set_cons_zero, List.set_cons_succ]
    refine wpAnyH_take (i := 5) (v := ?_) rfl (by kernel_rfl) (by kernel_rfl) (by kernel_rfl) (fun _ _ _ h => only_panic h) (Or.inl ⟨by rfl, ?_⟩) hHeld ?_
    rotate_left
    · (intro w hSw; have l0 := (LD.out w hSw).2; go_simp; try (with_reducible rfl))
    try simp only [List.getElem_toArray, List.getElem_cons_succ, List.getElem_cons_zero, Act.put, List.setIfInBounds_toArray, List.set_cons_zero, List.set_cons_succ]
    refine wpAnyH_take (i := 6) (v := ?_) rfl (by kernel_rfl) (by kernel_rfl) (by kernel_rfl) (fun _ _ _ h => only_panic h) (Or.inl ⟨by rfl, ?_⟩) hHeld ?_
    rotate_left
    · (intro w hSw; clear hSw; go_simp; try (with_reducible rfl))
    try simp only [List.getElem_toArray, List.getElem_cons_succ, List.getElem_cons_zero, Act.put, List.setIfInBounds_toArray, List.set_cons_zero, List.set_cons_succ]
    exact wpAnyH_done (by kernel_rfl) ⟨rfl, hR _ hHeld⟩ _
  intro w2 hW
  obtain ⟨n2, hn2⟩ := SS.out w2 hW
  have M2 : RowKit.Hid (BMem w2 B b s rv (.map mvo) G o N) := Lib.hid (hn2 ▸ M1.out.up (bdrewN (Below.refl _ _) n2))
  have B2 : RowKit.Hid (Below w.heap.size w w2) := Lib.hid (hn2 ▸ bdrewN B1.out n2)
  have D2 : RowKit.Hid (Blk w2 db #[i64 ca, i64 cr] 72) := Lib.hid (hn2 ▸ D1.out.drewN n2)
  clear hn2 hW SS LD LB hHeld M1 B1 D1
  obtain ⟨d1, d2, d3⟩ := M2.out.cases_ _ (gcs_some HX.out).1
  dsimp only at d1 d2 d3
  have x0 : w2.cell? ⟨xk, 0, none⟩ = some (i64 ct) := d1.cell 0
  have x1 : w2.cell? ⟨xk, 1, none⟩ = some (.slice la left.length lc) := d1.cell 1
  have x2 : w2.cell? ⟨xk, 2, none⟩ = some (.bool gr) := d1.cell 2
  obtain ⟨⟨l1, l2⟩, l3⟩ := d3
  have X3 := Lib.hid l3
  clear l3 d1 d2
  obtain ⟨S, hS⟩ : ∃ S : World → Prop, S = fun W => ∃ n, W = w2.drewN n := ⟨_, rfl⟩
  have SS : RowKit.Hid (∀ W, S W → ∃ n, W = w2.drewN n) := Lib.hid (by rw [hS]; exact fun W h => h)
  have LB : RowKit.Hid (∀ W, S W → Blk W db #[i64 ca, i64 cr] 72) := Lib.hid (by rw [hS]; rintro W ⟨n, rfl⟩; exact D2.out.drewN n)
  have hHeld : S w2.drew := by rw [hS]; exact ⟨1, rfl⟩
  rcases left with _ | ⟨y, rest⟩
  · have HT : RowKit.Hid (s.tell ⟨ca, cr, ct, [], gr⟩ = ({ s with sent := s.sent + 1 }, [mesg s.id s.sent ca 6 ca cr 0])) := Lib.hid rfl
    have LD : RowKit.Hid (∀ W, S W → W.cell? ⟨db, 0, none⟩ = some (i64 ca)) := Lib.hid (by rw [hS]; rintro W ⟨n, rfl⟩; exact D2.out.cell 0)
    clear hS
    go_wp2_with fail
    refine wp_region_sp 6 S (by kernel_rfl) (by kernel_rfl) ?_
    simp only [List.take_succ_cons, List.take_zero]
    apply wpAnyH_apart S
    case take =>
      intro R hR
      refine wpAnyH_take (i := 0) (v := ?_) rfl (by kernel_rfl) (by kernel_rfl) (by kernel_rfl) (fun _ _ _ h => only_panic h) (Or.inl ⟨by rfl, ?_⟩) hHeld ?_
      rotate_left
      · (intro w hSw; have l0 := LD.out w hSw; go_simp; try (with_reducible rfl))
      try simp only [List.getElem_toArray, List.getElem_cons_succ, List.getElem_cons_zero, Act.put, List.setIfInBounds_toArray, List.set_cons_zero, List.set_cons_succ]
      refine wpAnyH_take (i := 1) (v := ?_) rfl (by kernel_rfl) (by kernel_rfl) (by kernel_rfl) (fun _ _ _ h => only_panic h) (Or.inl ⟨by rfl, ?_⟩) hHeld ?_
      rotate_left
      · (intro w hSw; have l0 := LD.out w hSw; go_simp; try (with_reducible rfl))
      try simp only [List.getElem_toArray, List.getElem_cons_succ, List.getElem_cons_zero, Act.put, List.setIfInBounds_toArray, List.set_cons_zero, List.set_cons_succ]
      refine wpAnyH_take (i := 2) (v := ?_) rfl (by kernel_rfl) (by kernel_rfl) (by kernel_rfl) (fun _ _ _ h => only_panic h) (Or.inl ⟨by rfl, ?_⟩) hHeld ?_
      rotate_left
      · (intro w hSw; have l0 := LD.out w hSw; go_simp; try (with_reducible rfl))
      try simp only [List.getElem_toArray, List.getElem_cons_succ, List.getElem_cons_zero, Act.put, List.setIfInBounds_toArray, List.set_cons_zero, List.set_cons_succ]
      refine wpAnyH_take (i := 3) (v := ?_) rfl (by kernel_rfl) (by kernel_rfl) (by kernel_rfl) (fun _ _ _ h => only_panic h) (Or.inl ⟨by rfl, ?_⟩) hHeld ?_
      rotate_left
      · (intro w hSw; have l0 := LD.out w hSw; go_simp; try (with_reducible rfl))
      try simp only [List.getElem_toArray, List.getElem_cons_succ, List.getElem_cons_zero, Act.put, List.setIfInBounds_toArray, List.set_cons_zero, List.set_cons_succ]
      refine wpAnyH_take (i := 4) (v := ?_) rfl (by kernel_rfl) (by kernel_rfl) (by kernel_rfl) (fun _ _ _ h => only_panic h) (Or.inl ⟨by rfl, ?_⟩) hHeld ?_
      rotate_left
      · (intro w hSw; have l0 := LD.out w hSw; go_simp; try (with_reducible rfl))
      try simp only [List.getElem_toArray, List.getElem_cons_succ, List.getElem_cons_zero, Act.put, List.setIfInBounds_toArray, List.set_cons_zero, List.set_cons_succ]
      refine wpAnyH_take (i := 5) (v := .agg #[i64 ca, i64 cr]) rfl (by kernel_rfl) (by kernel_rfl) (by kernel_rfl) (fun _ _ _ h => only_panic h) ?_ hHeld ?_
      · exact yields_row (.tmp 3) (by rfl) rfl rfl LB.out Try.underlying72 rfl (by kernel_rfl)
      try simp only [List.getElem_toArray, List.getElem_cons_succ, List.getElem_cons_zero, Act.put, List.setIfInBounds_toArray, List.set_cons_zero, List.set_cons_succ]
      exact wpAnyH_done (by kernel_rfl) ⟨rfl, hR _ hHeld⟩ _
    intro W hW
    obtain ⟨n8, rfl⟩ := SS.out W hW
    simp only [endN, List.drop_succ_cons, List.drop_zero, Act.put, List.setIfInBounds_toArray, List.set_cons_zero, List.set_cons_succ]
    have M8 := Lib.hid (M2.out.up (bdrewN (Below.refl _ _) n8))
    have B8 : RowKit.Hid (Below w.heap.size w (w2.drewN n8)) := Lib.hid (bdrewN B2.out n8)
    have RS := Lib.hid (send_any b s.id s.sent ca 6 ca cr 0 (w2.drewN n8) (M8.out.blk.cell 0) (M8.out.blk.cell 1) (M8.out.blk.frozen 1) HSN.out ⟨by omega, by omega⟩ HI.out.1 HI.out.2.1 ⟨by omega, by omega⟩)
    clear hHeld hW SS LD LB S
    go_wp2_with fail
    refine RS.out.mono ?_
    rintro e w9 hS9
    have F : RowKit.Hid (BTellE B b N s rv (.map mvo) G o ⟨ca, cr, ct, [], gr⟩ w e w9) := Lib.hid (btell_send HT.out M8.out HS.out B8.out hS9)
    obtain ⟨g9, rfl, -⟩ := hS9
    go_wp2_with fail
    go_ret
    exact F.out
  · obtain ⟨h, o1, rfl, hP, hcl⟩ := X3.out.resolve_left (by simp)
    have hy0 : w2.cell? ⟨h, o1, none⟩ = some (i64 y) := hcl 0 y rfl
    have HY0 := Lib.hid hy0
    have HY : RowKit.Hid (I64 y) := Lib.hid (HI.out.2.2.2.1 y (by simp))
    have hln : (y :: rest).length = rest.length + 1 := rfl
    rw [hln] at x1 l1
    clear hcl hy0 hP
    cases gr with
    | true =>
      have HT : RowKit.Hid (s.tell ⟨ca, cr, ct, y :: rest, true⟩ = ({ s with sent := s.sent + 1 }, [mesg s.id s.sent ca 5 ca cr y])) := Lib.hid rfl
      have LD : RowKit.Hid (∀ W, S W → W.cell? ⟨db, 0, none⟩ = some (i64 ca) ∧ W.cell? ⟨xk, 1, none⟩ = some (.slice (some ⟨h, o1, none⟩) (rest.length + 1) lc) ∧ W.cell? ⟨h, o1, none⟩ = some (i64 y)) := Lib.hid (by rw [hS]; rintro W ⟨n, rfl⟩; exact ⟨D2.out.cell 0, x1, HY0.out⟩)
      clear hS
      go_wp2_with fail
      refine wp_region_sp 12 S (by kernel_rfl) (by kernel_rfl) ?_
      simp only [List.take_succ_cons, List.take_zero]
      apply wpAnyH_apart S
      case take =>
        intro R hR
        refine wpAnyH_take (i := 0) (v := ?_) rfl (by kernel_rfl) (by kernel_rfl) (by kernel_rfl) (fun _ _ _ h => only_panic h) (Or.inl ⟨by rfl, ?_⟩) hHeld ?_
        rotate_left
        · (intro w hSw; obtain ⟨l0, -, -⟩ := LD.out w hSw; go_simp; try (with_reducible rfl))
        try simp only [List.getElem_toArray, List.getElem_cons_succ, List.getElem_cons_zero, Act.put, List.setIfInBounds_toArray, List.set_cons_zero, List.set_cons_succ]
        refine wpAnyH_take (i := 1) (v := ?_) rfl (by kernel_rfl) (by kernel_rfl) (by kernel_rfl) (fun _ _ _ h => only_panic h) (Or.inl ⟨by rfl, ?_⟩) hHeld ?_
        rotate_left
        · (intro w hSw; obtain ⟨l0, -, -⟩ := LD.out w hSw; go_simp; try (with_reducible rfl))
        try simp only [List.getElem_toArray, List.getElem_cons_succ, List.getElem_cons_zero, Act.put, List.setIfInBounds_toArray, List.set_cons_zero, List.set_cons_succ]
        refine wpAnyH_take (i := 2) (v := ?_) rfl (by kernel_rfl) (by kernel_rfl) (by kernel_rfl) (fun _ _ _ h => only_panic h) (Or.inl ⟨by rfl, ?_⟩) hHeld ?_
        rotate_left
        · (intro w hSw; obtain ⟨l0, -, -⟩ := LD.out w hSw; go_simp; try (with_reducible rfl))
        try simp only [List.getElem_toArray, List.getElem_cons_succ, List.getElem_cons_zero, Act.put, List.setIfInBounds_toArray, List.set_cons_zero, List.set_cons_succ]
        refine wpAnyH_take (i := 3) (v := ?_) rfl (by kernel_rfl) (by kernel_rfl) (by kernel_rfl) (fun _ _ _ h => only_panic h) (Or.inl ⟨by rfl, ?_⟩) hHeld ?_
        rotate_left
        · (intro w hSw; obtain ⟨l0, -, -⟩ := LD.out w hSw; go_simp; try (with_reducible rfl))
        try simp only [List.getElem_toArray, List.getElem_cons_succ, List.getElem_cons_zero, Act.put, List.setIfInBounds_toArray, List.set_cons_zero, List.set_cons_succ]
        refine wpAnyH_take (i := 4) (v := ?_) rfl (by kernel_rfl) (by kernel_rfl) (by kernel_rfl) (fun _ _ _ h => only_panic h) (Or.inl ⟨by rfl, ?_⟩) hHeld ?_
        rotate_left
        · (intro w hSw; obtain ⟨l0, -, -⟩ := LD.out w hSw; go_simp; try (with_reducible rfl))
        try simp only [List.getElem_toArray, List.getElem_cons_succ, List.getElem_cons_zero, Act.put, List.setIfInBounds_toArray, List.set_cons_zero, List.set_cons_succ]
        refine wpAnyH_take (i := 5) (v := .agg #[i64 ca, i64 cr]) rfl (by kernel_rfl) (by kernel_rfl) (by kernel_rfl) (fun _ _ _ h => only_panic h) ?_ hHeld ?_
        · exact yields_row (.tmp 3) (by rfl) rfl rfl LB.out Try.underlying72 rfl (by kernel_rfl)
        try simp only [List.getElem_toArray, List.getElem_cons_succ, List.getElem_cons_zero, Act.put, List.setIfInBounds_toArray, List.set_cons_zero, List.set_cons_succ]
        refine wpAnyH_take (i := 6) (v := ?_) rfl (by kernel_rfl) (by kernel_rfl) (by kernel_rfl) (fun _ _ _ h => only_panic h) (Or.inl ⟨by rfl, ?_⟩) hHeld ?_
        rotate_left
        · (intro w hSw; obtain ⟨l0, l1, l2⟩ := LD.out w hSw; go_simp; try (with_reducible rfl))
        try simp only [List.getElem_toArray, List.getElem_cons_succ, List.getElem_cons_zero, Act.put, List.setIfInBounds_toArray, List.set_cons_zero, List.set_cons_succ]
        refine wpAnyH_take (i := 7) (v := ?_) rfl (by kernel_rfl) (by kernel_rfl) (by kernel_rfl) (fun _ _ _ h => only_panic h) (Or.inl ⟨by rfl, ?_⟩) hHeld ?_
        rotate_left
        · (intro w hSw; obtain ⟨l0, l1, l2⟩ := LD.out w hSw; go_simp; try (with_reducible rfl))
        try simp only [List.getElem_toArray, List.getElem_cons_succ, List.getElem_cons_zero, Act.put, List.setIfInBounds_toArray, List.set_cons_zero, List.set_cons_succ]
        refine wpAnyH_take (i := 8) (v := ?_) rfl (by kernel_rfl) (by kernel_rfl) (by kernel_rfl) (fun _ _ _ h => only_panic h) (Or.inl ⟨by rfl, ?_⟩) hHeld ?_
        rotate_left
        · (intro w hSw; obtain ⟨l0, l1, l2⟩ := LD.out w hSw; go_simp; try (with_reducible rfl))
        try simp only [List.getElem_toArray, List.getElem_cons_succ, List.getElem_cons_zero, Act.put, List.setIfInBounds_toArray, List.set_cons_zero, List.set_cons_succ]
        refine wpAnyH_take (i := 9) (v := ?_) rfl (by kernel_rfl) (by kernel_rfl) (by kernel_rfl) (fun _ _ _ h => only_panic h) (Or.inl ⟨by rfl, ?_⟩) hHeld ?_
        rotate_left
        · (intro w hSw; obtain ⟨l0, l1, l2⟩ := LD.out w hSw; go_simp; try (with_reducible rfl))
        try simp only [List.getElem_toArray, List.getElem_cons_succ, List.getElem_cons_zero, Act.put, List.setIfInBounds_toArray, List.set_cons_zero, List.set_cons_succ]
        refine wpAnyH_take (i := 10) (v := ?_) rfl (by kernel_rfl) (by kernel_rfl) (by kernel_rfl) (fun _ _ _ h => only_panic h) (Or.inl ⟨by rfl, ?_⟩) hHeld ?_
        rotate_left
        · (intro w hSw; obtain ⟨l0, l1, l2⟩ := LD.out w hSw; go_simp; try (with_reducible rfl))
        try simp only [List.getElem_toArray, List.getElem_cons_succ, List.getElem_cons_zero, Act.put, List.setIfInBounds_toArray, List.set_cons_zero, List.set_cons_succ]
        refine wpAnyH_take (i := 11) (v := ?_) rfl (by kernel_rfl) (by kernel_rfl) (by kernel_rfl) (fun _ _ _ h => only_panic h) (Or.inl ⟨by rfl, ?_⟩) hHeld ?_
        rotate_left
        · (intro w hSw; obtain ⟨l0, l1, l2⟩ := LD.out w hSw; go_simp; try (with_reducible rfl))
        try simp only [List.getElem_toArray, List.getElem_cons_succ, List.getElem_cons_zero, Act.put, List.setIfInBounds_toArray, List.set_cons_zero, List.set_cons_succ]
        exact wpAnyH_done (by kernel_rfl) ⟨rfl, hR _ hHeld⟩ _
      intro W hW
      obtain ⟨n8, rfl⟩ := SS.out W hW
      simp only [endN, List.drop_succ_cons, List.drop_zero, Act.put, List.setIfInBounds_toArray, List.set_cons_zero, List.set_cons_succ]
      have M8 := Lib.hid (M2.out.up (bdrewN (Below.refl _ _) n8))
      have B8 : RowKit.Hid (Below w.heap.size w (w2.drewN n8)) := Lib.hid (bdrewN B2.out n8)
      have RS := Lib.hid (send_any b s.id s.sent ca 5 ca cr y (w2.drewN n8) (M8.out.blk.cell 0) (M8.out.blk.cell 1) (M8.out.blk.frozen 1) HSN.out ⟨by omega, by omega⟩ HI.out.1 HI.out.2.1 HY.out)
      clear hHeld hW SS LD LB S
      go_wp2_with fail
      refine RS.out.mono ?_
      rintro e w9 hS9
      have F : RowKit.Hid (BTellE B b N s rv (.map mvo) G o ⟨ca, cr, ct, (List.cons y rest), true⟩ w e w9) := Lib.hid (btell_send HT.out M8.out HS.out B8.out hS9)
      obtain ⟨g9, rfl, -⟩ := hS9
      go_wp2_with fail
      go_ret
      exact F.out
    | false =>
      have HT : RowKit.Hid (s.tell ⟨ca, cr, ct, y :: rest, false⟩ = ({ s with sent := s.sent + 1 }, [mesg s.id s.sent y 2 ca cr ct])) := Lib.hid rfl
      have LD : RowKit.Hid (∀ W, S W → W.cell? ⟨xk, 0, none⟩ = some (i64 ct) ∧ W.cell? ⟨xk, 1, none⟩ = some (.slice (some ⟨h, o1, none⟩) (rest.length + 1) lc) ∧ W.cell? ⟨h, o1, none⟩ = some (i64 y)) := Lib.hid (by rw [hS]; rintro W ⟨n, rfl⟩; exact ⟨x0, x1, HY0.out⟩)
      clear hS
      go_wp2_with fail
      refine wp_region_sp 14 S (by kernel_rfl) (by kernel_rfl) ?_
      simp only [List.take_succ_cons, List.take_zero]
      apply wpAnyH_apart S
      case take =>
        intro R hR
        refine wpAnyH_take (i := 0) (v := ?_) rfl (by kernel_rfl) (by kernel_rfl) (by kernel_rfl) (fun _ _ _ h => only_panic h) (Or.inl ⟨by rfl, ?_⟩) hHeld ?_
        rotate_left
        · (intro w hSw; obtain ⟨l0, l1, l2⟩ := LD.out w hSw; go_simp; try (with_reducible rfl))
        try simp only [List.getElem_toArray, List.getElem_cons_succ, List.getElem_cons_zero, Act.put, List.setIfInBounds_toArray, List.set_cons_zero, List.set_cons_succ]
        refine wpAnyH_take (i := 1) (v := ?_) rfl (by kernel_rfl) (by kernel_rfl) (by kernel_rfl) (fun _ _ _ h => only_panic h) (Or.inl ⟨by rfl, ?_⟩) hHeld ?_
        rotate_left
        · (intro w hSw; obtain ⟨l0, l1, l2⟩ := LD.out w hSw; go_simp; try (with_reducible rfl))
        try simp only [List.getElem_toArray, List.getElem_cons_succ, List.getElem_cons_zero, Act.put, List.setIfInBounds_toArray, List.set_cons_zero, List.set_cons_succ]
        refine wpAnyH_take (i := 2) (v := ?_) rfl (by kernel_rfl) (by kernel_rfl) (by kernel_rfl) (fun _ _ _ h => only_panic h) (Or.inl ⟨by rfl, ?_⟩) hHeld ?_
        rotate_left
        · (intro w hSw; obtain ⟨l0, l1, l2⟩ := LD.out w hSw; go_simp; try (with_reducible rfl))
        try simp only [List.getElem_toArray, List.getElem_cons_succ, List.getElem_cons_zero, Act.put, List.setIfInBounds_toArray, List.set_cons_zero, List.set_cons_succ]
        refine wpAnyH_take (i := 3) (v := ?_) rfl (by kernel_rfl) (by kernel_rfl) (by kernel_rfl) (fun _ _ _ h => only_panic h) (Or.inl ⟨by rfl, ?_⟩) hHeld ?_
        rotate_left
        · (intro w hSw; obtain ⟨l0, l1, l2⟩ := LD.out w hSw; go_simp; try (with_reducible rfl))
        try simp only [List.getElem_toArray, List.getElem_cons_succ, List.getElem_cons_zero, Act.put, List.setIfInBounds_toArray, List.set_cons_zero, List.set_cons_succ]
        refine wpAnyH_take (i := 4) (v := ?_) rfl (by kernel_rfl) (by kernel_rfl) (by kernel_rfl) (fun _ _ _ h => only_panic h) (Or.inl ⟨by rfl, ?_⟩) hHeld ?_
        rotate_left
        · (intro w hSw; obtain ⟨l0, l1, l2⟩ := LD.out w hSw; go_simp; try (with_reducible rfl))
        try simp only [List.getElem_toArray, List.getElem_cons_succ, List.getElem_cons_zero, Act.put, List.setIfInBounds_toArray, List.set_cons_zero, List.set_cons_succ]
        refine wpAnyH_take (i := 5) (v := ?_) rfl (by kernel_rfl) (by kernel_rfl) (by kernel_rfl) (fun _ _ _ h => only_panic h) (Or.inl ⟨by rfl, ?_⟩) hHeld ?_
        rotate_left
        · (intro w hSw; obtain ⟨l0, l1, l2⟩ := LD.out w hSw; go_simp; try (with_reducible rfl))
        try simp only [List.getElem_toArray, List.getElem_cons_succ, List.getElem_cons_zero, Act.put, List.setIfInBounds_toArray, List.set_cons_zero, List.set_cons_succ]
        refine wpAnyH_take (i := 6) (v := ?_) rfl (by kernel_rfl) (by kernel_rfl) (by kernel_rfl) (fun _ _ _ h => only_panic h) (Or.inl ⟨by rfl, ?_⟩) hHeld ?_
        rotate_left
        · (intro w hSw; obtain ⟨l0, l1, l2⟩ := LD.out w hSw; go_simp; try (with_reducible rfl))
        try simp only [List.getElem_toArray, List.getElem_cons_succ, List.getElem_cons_zero, Act.put, List.setIfInBounds_toArray, List.set_cons_zero, List.set_cons_succ]
        refine wpAnyH_take (i := 7) (v := ?_) rfl (by kernel_rfl) (by kernel_rfl) (by kernel_rfl) (fun _ _ _ h => only_panic h) (Or.inl ⟨by rfl, ?_⟩) hHeld ?_
        rotate_left
        · (intro w hSw; obtain ⟨l0, l1, l2⟩ := LD.out w hSw; go_simp; try (with_reducible rfl))
        try simp only [List.getElem_toArray, List.getElem_cons_succ, List.getElem_cons_zero, Act.put, List.setIfInBounds_toArray, List.set_cons_zero, List.set_cons_succ]
        refine wpAnyH_take (i := 8) (v := ?_) rfl (by kernel_rfl) (by kernel_rfl) (by kernel_rfl) (fun _ _ _ h => only_panic h) (Or.inl ⟨by rfl, ?_⟩) hHeld ?_
        rotate_left
        · (intro w hSw; obtain ⟨l0, l1, l2⟩ := LD.out w hSw; go_simp; try (with_reducible rfl))
        try simp only [List.getElem_toArray, List.getElem_cons_succ, List.getElem_cons_zero, Act.put, List.setIfInBounds_toArray, List.set_cons_zero, List.set_cons_succ]
        refine wpAnyH_take (i := 9) (v := .agg #[i64 ca, i64 cr]) rfl (by kernel_rfl) (by kernel_rfl) (by kernel_rfl) (fun _ _ _ h => only_panic h) ?_ hHeld ?_
        · exact yields_row (.tmp 3) (by rfl) rfl rfl LB.out Try.underlying72 rfl (by kernel_rfl)
        try simp only [List.getElem_toArray, List.getElem_cons_succ, List.getElem_cons_zero, Act.put, List.setIfInBounds_toArray, List.set_cons_zero, List.set_cons_succ]
        refine wpAnyH_take (i := 10) (v := ?_) rfl (by kernel_rfl) (by kernel_rfl) (by kernel_rfl) (fun _ _ _ h => only_panic h) (Or.inl ⟨by rfl, ?_⟩) hHeld ?_
        rotate_left
        · (intro w hSw; obtain ⟨l0, l1, l2⟩ := LD.out w hSw; go_simp; try (with_reducible rfl))
        try simp only [List.getElem_toArray, List.getElem_cons_succ, List.getElem_cons_zero, Act.put, List.setIfInBounds_toArray, List.set_cons_zero, List.set_cons_succ]
        refine wpAnyH_take (i := 11) (v := ?_) rfl (by kernel_rfl) (by kernel_rfl) (by kernel_rfl) (fun _ _ _ h => only_panic h) (Or.inl ⟨by rfl, ?_⟩) hHeld ?_
        rotate_left
        · (intro w hSw; obtain ⟨l0, l1, l2⟩ := LD.out w hSw; go_simp; try (with_reducible rfl))
        try simp only [List.getElem_toArray, List.getElem_cons_succ, List.getElem_cons_zero, Act.put, List.setIfInBounds_toArray, List.set_cons_zero, List.set_cons_succ]
        refine wpAnyH_take (i := 12) (v := ?_) rfl (by kernel_rfl) (by kernel_rfl) (by kernel_rfl) (fun _ _ _ h => only_panic h) (Or.inl ⟨by rfl, ?_⟩) hHeld ?_
        rotate_left
        · (intro w hSw; obtain ⟨l0, l1, l2⟩ := LD.out w hSw; go_simp; try (with_reducible rfl))
        try simp only [List.getElem_toArray, List.getElem_cons_succ, List.getElem_cons_zero, Act.put, List.setIfInBounds_toArray, List.set_cons_zero, List.set_cons_succ]
        refine wpAnyH_take (i := 13) (v := ?_) rfl (by kernel_rfl) (by kernel_rfl) (by kernel_rfl) (fun _ _ _ h => only_panic h) (Or.inl ⟨by rfl, ?_⟩) hHeld ?_
        rotate_left
        · (intro w hSw; obtain ⟨l0, l1, l2⟩ := LD.out w hSw; go_simp; try (with_reducible rfl))
        try simp only [List.getElem_toArray, List.getElem_cons_succ, List.getElem_cons_zero, Act.put, List.setIfInBounds_toArray, List.set_cons_zero, List.set_cons_succ]
        exact wpAnyH_done (by kernel_rfl) ⟨rfl, hR _ hHeld⟩ _
      intro W hW
      obtain ⟨n8, rfl⟩ := SS.out W hW
      simp only [endN, List.drop_succ_cons, List.drop_zero, Act.put, List.setIfInBounds_toArray, List.set_cons_zero, List.set_cons_succ]
      have M8 := Lib.hid (M2.out.up (bdrewN (Below.refl _ _) n8))
      have B8 : RowKit.Hid (Below w.heap.size w (w2.drewN n8)) := Lib.hid (bdrewN B2.out n8)
      have RS := Lib.hid (send_any b s.id s.sent y 2 ca cr ct (w2.drewN n8) (M8.out.blk.cell 0) (M8.out.blk.cell 1) (M8.out.blk.frozen 1) HSN.out ⟨by omega, by omega⟩ HI.out.1 HI.out.2.1 HI.out.2.2.1)
      clear hHeld hW SS LD LB S
      go_wp2_with fail
      refine RS.out.mono ?_
      rintro e w9 hS9
      have F : RowKit.Hid (BTellE B b N s rv (.map mvo) G o ⟨ca, cr, ct, (List.cons y rest), false⟩ w e w9) := Lib.hid (btell_send HT.out M8.out HS.out B8.out hS9)
      obtain ⟨g9, rfl, -⟩ := hS9
      go_wp2_with fail
      go_ret
      exact F.out
end Go.Proofs.Ytdojgbpaheadnaa
