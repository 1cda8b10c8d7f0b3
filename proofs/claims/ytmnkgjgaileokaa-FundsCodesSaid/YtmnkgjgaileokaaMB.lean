import Derived.Test.YtmnkgjgaileokaaTA
import Derived.Test.YtmnkgjgaileokaaRA
import Derived.Test.YtmnkgjgaileokaaME

/- Plain laws of parents that end at a root: the way up from a fund, and how many funds are reached from the roots. -/
namespace Go.Proofs.Ytmnkgjgaileokaa

/-- The way up from a fund to a root. -/
inductive Path (ids : List Int) (pa : Int → Int) : Int → List Int → Prop
  | root {x : Int} : pa x = 0 → Path ids pa x [x]
  | up {x : Int} {A : List Int} : pa x ≠ 0 → pa x ∈ ids → Path ids pa (pa x) A → Path ids pa x (x :: A)
def EndAt (ids : List Int) (pa : Int → Int) (x : Int) : Prop := ∃ A, Path ids pa x A
structure Forest (ids : List Int) (pa : Int → Int) (kids : Int → List Int) : Prop where
  nd : ids.Nodup
  kid : ∀ x ∈ ids, kids x = ids.filter fun y => pa y == x
  pos : ∀ x ∈ ids, x ≠ 0
section
variable {ids : List Int} {pa : Int → Int} {kids : Int → List Int}
theorem Path.uniq {x : Int} {A : List Int} (h : Path ids pa x A) : ∀ {B : List Int}, Path ids pa x B → A = B := by
  induction h with
  | root h0 =>
    intro B k
    cases k with
    | root _ => rfl
    | up h1 _ _ => exact absurd h0 h1
  | up h0 _ _ ih =>
    intro B k
    cases k with
    | root h1 => exact absurd h1 h0
    | up _ _ h3 => rw [ih h3]
theorem Path.suffix {x : Int} {A : List Int} (h : Path ids pa x A) : ∀ {y : Int}, y ∈ A → ∃ pre B, Path ids pa y B ∧ A = pre ++ B := by
  induction h with
  | root h0 =>
    intro y hy
    simp at hy; subst hy
    exact ⟨[], _, .root h0, rfl⟩
  | @up x A h0 h1 h2 ih =>
    intro y hy
    rcases List.mem_cons.1 hy with rfl | hy
    · exact ⟨[], _, .up h0 h1 h2, rfl⟩
    · obtain ⟨pre, B, k, e⟩ := ih hy
      exact ⟨x :: pre, B, k, by rw [e]; rfl⟩
theorem Path.nd {x : Int} {A : List Int} (h : Path ids pa x A) : A.Nodup := by
  induction h with
  | root _ => simp
  | @up x A h0 h1 h2 ih =>
    refine List.nodup_cons.2 ⟨fun hx => ?_, ih⟩
    obtain ⟨pre, B, k, e⟩ := h2.suffix hx
    have := k.uniq (.up h0 h1 h2)
    have := congrArg List.length e
    rw [‹B = x :: A›, List.length_append, List.length_cons] at this
    omega
theorem Path.sub {x : Int} {A : List Int} (h : Path ids pa x A) : x ∈ ids → ∀ z ∈ A, z ∈ ids := by
  induction h with
  | root _ => intro hx z hz; simp at hz; subst hz; exact hx
  | up _ h1 _ ih =>
    intro hx z hz
    rcases List.mem_cons.1 hz with rfl | hz
    · exact hx
    · exact ih h1 z hz
theorem ones (l : List Int) : (l.map fun _ => (1 : Int)).sum = l.length := by
  induction l with
  | nil => rfl
  | cons a l ih => simp only [List.map_cons, List.sum_cons, ih, List.length_cons]; omega
theorem len_sub {l m : List Int} (h : l.Nodup) (k : ∀ z ∈ l, z ∈ m) : l.length ≤ m.length := by
  have := sum_sub (f := fun _ => 1) l m h k (fun _ _ => by omega)
  rw [ones, ones] at this
  omega
theorem Path.len {x : Int} {A : List Int} (h : Path ids pa x A) (hx : x ∈ ids) : A.length ≤ ids.length := len_sub h.nd (h.sub hx)
theorem Path.pos {x : Int} {A : List Int} (h : Path ids pa x A) : 1 ≤ A.length := by cases h <;> simp
theorem Forest.mem (f : Forest ids pa kids) {x y : Int} (hx : x ∈ ids) : y ∈ kids x ↔ y ∈ ids ∧ pa y = x := by
  rw [f.kid x hx, List.mem_filter]; simp
theorem Path.kid (f : Forest ids pa kids) {x y : Int} {A : List Int} (h : Path ids pa x A) (hx : x ∈ ids) (hy : y ∈ kids x) : y ∈ ids ∧ Path ids pa y (y :: A) := by
  obtain ⟨h1, h2⟩ := (f.mem hx).1 hy
  subst h2
  exact ⟨h1, .up (f.pos _ hx) hx h⟩
theorem deep_path (f : Forest ids pa kids) : ∀ (n : Nat) (x : Int) (A : List Int), Path ids pa x A → x ∈ ids → ids.length ≤ A.length + n → Deep kids n x
  | 0, x, A, h, hx, hl => by
    show kids x = []
    refine List.eq_nil_iff_forall_not_mem.2 fun y hy => ?_
    obtain ⟨h1, h2⟩ := h.kid f hx hy
    have := h2.len h1
    rw [List.length_cons] at this
    omega
  | n + 1, x, A, h, hx, hl => fun y hy => by
    obtain ⟨h1, h2⟩ := h.kid f hx hy
    exact deep_path f n y (y :: A) h2 h1 (by rw [List.length_cons]; omega)
theorem deep_end (f : Forest ids pa kids) {x : Int} (h : EndAt ids pa x) (hx : x ∈ ids) : Deep kids ids.length x := by
  obtain ⟨A, h⟩ := h
  exact deep_path f _ x A h hx (by omega)
theorem EndAt.par {x : Int} (h : EndAt ids pa x) : pa x = 0 ∨ (pa x ∈ ids ∧ EndAt ids pa (pa x)) := by
  obtain ⟨A, h⟩ := h
  cases h with
  | root h => exact .inl h
  | up _ h1 h2 => exact .inr ⟨h1, _, h2⟩
theorem EndAt.of_par {x : Int} (h0 : pa x ≠ 0) (h1 : pa x ∈ ids) : EndAt ids pa x ↔ EndAt ids pa (pa x) := by
  constructor
  · intro h
    rcases h.par with h | h
    · exact absurd h h0
    · exact h.2
  · rintro ⟨A, h⟩
    exact ⟨_, .up h0 h1 h⟩
theorem Path.anc {x : Int} {A : List Int} (h : Path ids pa x A) : x ∈ ids → ∃ r, r ∈ ids ∧ pa r = 0 ∧ Anc ids pa (A.length - 1) x r := by
  induction h with
  | @root x h => intro hx; exact ⟨x, hx, h, rfl⟩
  | @up x A h0 h1 h2 ih =>
    intro hx
    obtain ⟨r, hr, h3, h4⟩ := ih h1
    refine ⟨r, hr, h3, ?_⟩
    have := h2.pos
    have e : (x :: A).length - 1 = (A.length - 1) + 1 := by rw [List.length_cons]; omega
    rw [e]
    exact ⟨h1, h4⟩
open Classical in
/-- The funds whose parents end at a root. -/
noncomputable def good (ids : List Int) (pa : Int → Int) : List Int := ids.filter fun x => decide (EndAt ids pa x)
theorem good_mem {x : Int} : x ∈ good ids pa ↔ x ∈ ids ∧ EndAt ids pa x := by unfold good; rw [List.mem_filter]; simp
theorem Path.good {x : Int} {A : List Int} (h : Path ids pa x A) : Path (good ids pa) pa x A := by
  induction h with
  | root h => exact .root h
  | up h0 h1 h2 ih => exact .up h0 (good_mem.2 ⟨h1, _, h2⟩) ih
theorem good_forest (f : Forest ids pa kids) : Forest (good ids pa) pa kids where
  nd := by unfold good; exact f.nd.filter _
  kid := fun x hx => by
    obtain ⟨h1, h2⟩ := good_mem.1 hx
    rw [f.kid x h1]
    unfold good
    rw [List.filter_filter]
    refine List.filter_congr fun y hy => ?_
    by_cases e : pa y = x
    · have : EndAt ids pa y := by
        rw [EndAt.of_par (by rw [e]; exact f.pos x h1) (by rw [e]; exact h1), e]; exact h2
      simp [e, this]
    · simp [e]
  pos := fun x hx => f.pos x (good_mem.1 hx).1
theorem good_tree (f : Forest ids pa kids) : Tree (good ids pa) pa kids where
  nd := (good_forest f).nd
  kid := (good_forest f).kid
  par := fun x hx => by
    obtain ⟨h1, h2⟩ := good_mem.1 hx
    rcases h2.par with h | ⟨h3, h4⟩
    · exact .inl h
    · exact .inr (good_mem.2 ⟨h3, h4⟩)
  deep := fun x hx => by
    obtain ⟨h1, A, h2⟩ := good_mem.1 hx
    exact deep_path (good_forest f) _ x A h2.good hx (by omega)
  pos := (good_forest f).pos
theorem reached_le (f : Forest ids pa kids) {l : List Int} (hl : l.Nodup) (hm : ∀ z ∈ l, z ∈ ids ∧ pa z = 0) (n : Nat) : (l.map (totF (fun _ => 1) kids n)).sum ≤ ids.length := by
  have t := good_tree f
  have hlg : ∀ z ∈ l, z ∈ good ids pa := fun z hz => by
    obtain ⟨h1, h2⟩ := hm z hz
    exact good_mem.2 ⟨h1, _, .root h2⟩
  have e : (l.map (totF (fun _ => 1) kids n)).sum = (l.flatMap fun x => x :: sub kids n x).length := by
    rw [← ones, sum_flat]
    congr 1
    refine List.map_congr_left fun y _ => ?_
    rw [totF_sub]; simp
  have hnd : (l.flatMap fun x => x :: sub kids n x).Nodup := by
    show List.Pairwise _ _
    rw [List.pairwise_flatMap]
    refine ⟨fun y hy => sub_nd t n y (hlg y hy), hl.imp_of_mem ?_⟩
    intro a b ha hb hne u hu v hv e
    subst e
    exact sub_apart t (hlg a ha) (hlg b hb) ((hm a ha).2.trans (hm b hb).2.symm) hne hu hv
  rw [e]
  have h1 : (l.flatMap fun x => x :: sub kids n x).length ≤ ids.length := len_sub hnd fun z hz => by
    obtain ⟨y, hy, hz⟩ := List.mem_flatMap.1 hz
    exact (good_mem.1 (own_anc t (hlg y hy) hz).1).1
  omega
/-- How many are reached from the roots. -/
theorem reached (f : Forest ids pa kids) {l : List Int} (hl : l.Nodup) (hm : ∀ z, z ∈ l ↔ z ∈ ids ∧ pa z = 0) {n : Nat} (hn : ids.length ≤ n) : (l.map (totF (fun _ => 1) kids n)).sum = (good ids pa).length := by
  have t := good_tree f
  have hlg : ∀ z ∈ l, z ∈ good ids pa := fun z hz => by
    obtain ⟨h1, h2⟩ := (hm z).1 hz
    exact good_mem.2 ⟨h1, _, .root h2⟩
  have e : (l.map (totF (fun _ => 1) kids n)).sum = (l.flatMap fun x => x :: sub kids n x).length := by
    rw [← ones, sum_flat]
    congr 1
    refine List.map_congr_left fun y _ => ?_
    rw [totF_sub]; simp
  have hnd : (l.flatMap fun x => x :: sub kids n x).Nodup := by
    show List.Pairwise _ _
    rw [List.pairwise_flatMap]
    refine ⟨fun y hy => sub_nd t n y (hlg y hy), hl.imp_of_mem ?_⟩
    intro a b ha hb hne u hu v hv e
    subst e
    exact sub_apart t (hlg a ha) (hlg b hb) (((hm a).1 ha).2.trans ((hm b).1 hb).2.symm) hne hu hv
  rw [e]
  have h1 : (l.flatMap fun x => x :: sub kids n x).length ≤ (good ids pa).length := len_sub hnd fun z hz => by
    obtain ⟨y, hy, hz⟩ := List.mem_flatMap.1 hz
    exact (own_anc t (hlg y hy) hz).1
  have h2 : (good ids pa).length ≤ (l.flatMap fun x => x :: sub kids n x).length := len_sub t.nd fun z hz => by
    obtain ⟨h1, A, h2⟩ := good_mem.1 hz
    obtain ⟨r, hr, h3, h4⟩ := h2.good.anc hz
    have hr2 : r ∈ l := (hm r).2 ⟨(good_mem.1 hr).1, h3⟩
    have hk : A.length - 1 ≤ n := by have := h2.len h1; omega
    refine List.mem_flatMap.2 ⟨r, hr2, ?_⟩
    rcases anc_sub t _ n z r hz hr h4 hk with e | e
    · subst e; simp
    · exact List.mem_cons_of_mem _ e
  omega
theorem good_all : ((good ids pa).length : Int) = ids.length ↔ ∀ x ∈ ids, EndAt ids pa x := by
  unfold good
  constructor
  · intro h x hx
    have := List.length_filter_eq_length_iff.1 (Int.ofNat_inj.1 h) x hx
    simpa using this
  · intro h
    have : ids.filter (fun x => @decide (EndAt ids pa x) (Classical.propDecidable _)) = ids := List.filter_eq_self.2 fun x hx => by simpa using h x hx
    rw [this]
end
end Go.Proofs.Ytmnkgjgaileokaa

/- The contract of the closure in connect that counts what lies below a fund. -/
namespace Go.Proofs.Ytmnkgjgaileokaa
open Go.RowKit

def cnt (kids : Int → List Int) (n : Nat) (x : Int) : Int := totF (fun _ => 1) kids n x
theorem cnt_nil {kids : Int → List Int} {x : Int} (h : kids x = []) (n : Nat) : cnt kids n x = 1 := totF_nil h n
theorem cnt_pos (kids : Int → List Int) (n : Nat) (x : Int) : 1 ≤ cnt kids n x := by
  unfold cnt
  rw [totF_sub, ones]; omega
theorem cnt_part (kids : Int → List Int) (n : Nat) (x : Int) (k : Nat) : 1 + (((kids x).take k).map (cnt kids n)).sum ≤ cnt kids (n + 1) x ∧ 0 ≤ (((kids x).take k).map (cnt kids n)).sum := by
  have h1 := sum_take (g := cnt kids n) (kids x) k fun z _ => by have := cnt_pos kids n z; omega
  have e : cnt kids (n + 1) x = 1 + ((kids x).map (cnt kids n)).sum := rfl
  refine ⟨by rw [e]; omega, sum_nonneg _ _ fun z _ => by have := cnt_pos kids n z; omega⟩
theorem cnt_kid {kids : Int → List Int} {n : Nat} {x y : Int} (hy : y ∈ kids x) : cnt kids n y ≤ cnt kids (n + 1) x := by
  have e : cnt kids (n + 1) x = 1 + ((kids x).map (cnt kids n)).sum := rfl
  have := le_sum (cnt kids n) (kids x) (fun z _ => by have := cnt_pos kids n z; omega) hy
  omega
set_option maxRecDepth 100000 in
set_option maxHeartbeats 1000000 in
theorem count_none {w : World} {s : FS} {x : Int} {cb : Nat} (h : Mem w s) (hx : x ∈ s.ids) (hk : s.kids x = []) :
    Calls Try.prog 80 #[.pointer (some ⟨s.g x, 0, none⟩), .pointer (some ⟨cb, 0, none⟩)] w fun r w' => r = .returned (.int .i64 1) ∧ w = w' := by
  obtain ⟨c0, c1, c2, c3, c4, c5⟩ := h.fcell hx
  have hr := h.row x hx
  rw [hk] at hr
  obtain ⟨ba, bc, hb⟩ : ∃ a c, s.bl x = .slice a 0 c := by
    rcases row_form hr with ⟨e, _⟩ | ⟨r, c, e⟩
    · exact ⟨_, _, e⟩
    · exact ⟨_, _, e⟩
  rw [hb] at c5
  clear h hx hk hr hb
  go_enter Try.func80, Try.ntmps80
  go_wp2_with fail
  go_loop [4, 12] (fun n i => n = .int .i64 1 ∧ i = .int .i64 0) (fun _ _ => 0)
  case atStart => exact ⟨rfl, rfl⟩
  case round =>
    obtain ⟨rfl, rfl⟩ := hrel
    go_wp2_with fail
    go_ret
    exact ⟨rfl, rfl⟩
set_option maxRecDepth 100000 in
set_option maxHeartbeats 1000000 in
theorem count_any : ∀ (n : Nat) (w : World) (s : FS) (x : Int) (cb : Nat), Mem w s → (∀ z ∈ s.ids, (s.kids z).length ≤ 100000) → x ∈ s.ids → Deep s.kids n x → cnt s.kids n x ≤ 100000000 → Blk w cb #[.func (.func 80) #[] #[.pointer (some ⟨cb, 0, none⟩)]] 83 →
    Calls Try.prog 80 #[.pointer (some ⟨s.g x, 0, none⟩), .pointer (some ⟨cb, 0, none⟩)] w fun r w' => r = .returned (.int .i64 (cnt s.kids n x)) ∧ w = w' := by
  intro n
  induction n with
  | zero =>
    intro w s x cb h hl hx hd hT hcb
    exact count_none h hx hd
  | succ n ih =>
    intro w s x cb h hl hx hd hT hcb
    obtain ⟨c0, c1, c2, c3, c4, c5⟩ := h.fcell hx
    have hr := h.row x hx
    rcases row_form hr with ⟨e, e0⟩ | ⟨r, c, e⟩
    · have hk : s.kids x = [] := List.eq_nil_of_length_eq_zero e0
      rw [cnt_nil hk]
      exact count_none h hx hk
    · rw [e] at c5 hr
      have hkl := hl x hx
      have HM := Lib.hid h
      have HL := Lib.hid hl
      have HX := Lib.hid hx
      have HD := Lib.hid hd
      have HC := Lib.hid hcb
      have HI := Lib.hid ih
      have HR := Lib.hid hr
      have HP := Lib.hid (cnt_part s.kids n x)
      have hc0 : w.cell? ⟨cb, 0, none⟩ = some (.func (.func 80) #[] #[.pointer (some ⟨cb, 0, none⟩)]) := Blk.cell hcb 0
      clear h hl hx hd hcb hr e ih
      go_enter Try.func80, Try.ntmps80
      go_wp2_with fail
      go_loop [4, 12] (fun m i => ∃ k : Nat, k ≤ (s.kids x).length ∧ i = .int .i64 k ∧ m = .int .i64 (1 + (((s.kids x).take k).map (cnt s.kids n)).sum)) (fun _ i => (s.kids x).length - (intOf i).toNat)
      case atStart => exact ⟨0, by omega, rfl, by simp⟩
      case round =>
        obtain ⟨k, hk, rfl, rfl⟩ := hrel
        by_cases hlt : k < (s.kids x).length
        · obtain ⟨y, hy⟩ : ∃ y, y = (s.kids x)[k] := ⟨_, rfl⟩
          have hyk : y ∈ s.kids x := by rw [hy]; exact List.getElem_mem hlt
          have hyx := HM.out.kin x HX.out y hyk
          have hcell := row_cell HR.out k (ptr (s.g y)) (by rw [List.getElem?_map, List.getElem?_eq_getElem hlt, ← hy]; rfl)
          have hI := Lib.hid (HI.out w s y cb HM.out HL.out hyx (HD.out y hyk) (Int.le_trans (cnt_kid hyk) hT) HC.out)
          have p1 := HP.out k
          have p2 := HP.out (k + 1)
          have s1 := sum_step (g := cnt s.kids n) (s.kids x) k hlt
          rw [← hy] at s1
          have p3 := cnt_pos s.kids n y
          have S1 := Lib.hid s1
          rw [s1] at p2
          generalize (((s.kids x).take k).map (cnt s.kids n)).sum = SA at *
          generalize cnt s.kids n y = TA at *
          generalize cnt s.kids (n + 1) x = TT at *
          obtain ⟨p1, p1'⟩ := p1
          obtain ⟨p2, p2'⟩ := p2
          clear hyx hy hyk s1
          go_wp2_with fail
          refine hI.out.mono ?_
          rintro e w1 ⟨rfl, rfl⟩
          go_wp2_with fail
          refine ⟨⟨k + 1, by omega, by go_num, ?_⟩, by simp [intOf]; omega⟩
          rw [S1.out, ← Int.add_assoc]
        · obtain rfl : k = (s.kids x).length := by omega
          go_wp2_with fail
          go_ret
          exact ⟨rfl, rfl⟩
end Go.Proofs.Ytmnkgjgaileokaa

/- The contracts of right, of the funds and of the reference. -/
namespace Go.Proofs.Ytmnkgjgaileokaa
open Go.RowKit

/-- Whether a fund may be there. -/
def rightB (x p a s e : Int) : Bool := decide (1 ≤ x ∧ 0 ≤ p ∧ 0 ≤ s ∧ 0 ≤ e ∧ a ≤ 1000000000000000 ∧ s ≤ a ∧ e ≤ a - s)
def m3 (x y z : Int) : Int := if z < (if y < x then y else x) then z else (if y < x then y else x)
theorem m3_nn (x y z : Int) : 0 ≤ m3 x y z ↔ 0 ≤ x ∧ 0 ≤ y ∧ 0 ≤ z := by unfold m3; split <;> split at * <;> omega
theorem run_min3' {P : Program} (w : World) (ts : Array TypeId) (t : TypeId) (k k' k'' : IntKind) (x y z : Int) : (Builtin.min_ ts t #[.int k x, .int k' y, .int k'' z]).run P w = .ok (.int k (m3 x y z)) w := by
  simp [Builtin.min_, Builtin.min2, m3]
attribute [local go_sem ↓] run_min3'
set_option maxRecDepth 100000 in
set_option maxHeartbeats 1000000 in
theorem right_any {w : World} {g : Nat} {x p a s e : Int} {b : Value} (h : Blk w g (fcells x p a s e b) 71) (a0 : -9223372036854775808 ≤ a) (a1 : a ≤ 9223372036854775807) (s0 : -9223372036854775808 ≤ s) (s1 : s ≤ 9223372036854775807) :
    Calls Try.prog 62 #[.pointer (some ⟨g, 0, none⟩)] w fun r w' => r = .returned (.bool (rightB x p a s e)) ∧ Below w.heap.size w w' := by
  have c0 := Blk.cell h 0
  have c1 := Blk.cell h 1
  have c2 := Blk.cell h 2
  have c3 := Blk.cell h 3
  have c4 := Blk.cell h 4
  simp at c0 c1 c2 c3 c4
  clear h
  by_cases h0 : 1 ≤ x
  rotate_left
  · have hr : rightB x p a s e = false := decide_eq_false (by omega)
    rw [hr]
    have q : decide (0 < x) = false := by simp; omega
    go_enter Try.func62, Try.ntmps62
    go_wp2_with fail
    go_quiet (fail)
    go_wp2
    go_ret
    exact ⟨rfl, bdrewN (Below.refl _ _) _⟩
  by_cases h1 : 0 ≤ p
  rotate_left
  · have hr : rightB x p a s e = false := decide_eq_false (by omega)
    rw [hr]
    have q : decide (0 < x) = true := by simp; omega
    have q2 : decide (0 ≤ m3 p s e) = false := by rw [decide_eq_false_iff_not, m3_nn]; omega
    go_enter Try.func62, Try.ntmps62
    go_wp2_with fail
    go_quiet (fail)
    go_wp2
    go_ret
    exact ⟨rfl, bdrewN (Below.refl _ _) _⟩
  by_cases h2 : 0 ≤ s
  rotate_left
  · have hr : rightB x p a s e = false := decide_eq_false (by omega)
    rw [hr]
    have q : decide (0 < x) = true := by simp; omega
    have q2 : decide (0 ≤ m3 p s e) = false := by rw [decide_eq_false_iff_not, m3_nn]; omega
    go_enter Try.func62, Try.ntmps62
    go_wp2_with fail
    go_quiet (fail)
    go_wp2
    go_ret
    exact ⟨rfl, bdrewN (Below.refl _ _) _⟩
  by_cases h3 : 0 ≤ e
  rotate_left
  · have hr : rightB x p a s e = false := decide_eq_false (by omega)
    rw [hr]
    have q : decide (0 < x) = true := by simp; omega
    have q2 : decide (0 ≤ m3 p s e) = false := by rw [decide_eq_false_iff_not, m3_nn]; omega
    go_enter Try.func62, Try.ntmps62
    go_wp2_with fail
    go_quiet (fail)
    go_wp2
    go_ret
    exact ⟨rfl, bdrewN (Below.refl _ _) _⟩
  by_cases h4 : a ≤ 1000000000000000
  rotate_left
  · have hr : rightB x p a s e = false := decide_eq_false (by omega)
    rw [hr]
    have q : decide (0 < x) = true := by simp; omega
    have q2 : decide (0 ≤ m3 p s e) = true := by rw [decide_eq_true_eq, m3_nn]; omega
    have q3 : decide (a ≤ 1000000000000000) = false := by simp; omega
    go_enter Try.func62, Try.ntmps62
    go_wp2_with fail
    go_quiet (fail)
    go_wp2
    go_ret
    exact ⟨rfl, bdrewN (Below.refl _ _) _⟩
  by_cases h5 : s ≤ a
  rotate_left
  · have hr : rightB x p a s e = false := decide_eq_false (by omega)
    rw [hr]
    have q : decide (0 < x) = true := by simp; omega
    have q2 : decide (0 ≤ m3 p s e) = true := by rw [decide_eq_true_eq, m3_nn]; omega
    have q3 : decide (a ≤ 1000000000000000) = true := by simp; omega
    have q4 : decide (s ≤ a) = false := by simp; omega
    go_enter Try.func62, Try.ntmps62
    go_wp2_with fail
    go_quiet (fail)
    go_wp2
    go_ret
    exact ⟨rfl, bdrewN (Below.refl _ _) _⟩
  by_cases h6 : e ≤ a - s
  rotate_left
  · have hr : rightB x p a s e = false := decide_eq_false (by omega)
    rw [hr]
    have q : decide (0 < x) = true := by simp; omega
    have q2 : decide (0 ≤ m3 p s e) = true := by rw [decide_eq_true_eq, m3_nn]; omega
    have q3 : decide (a ≤ 1000000000000000) = true := by simp; omega
    have q4 : decide (s ≤ a) = true := by simp; omega
    have q6 : IntKind.i64.wrap (a - s) = a - s := IntWalk.i64_in _ (by omega)
    have q5 : decide (e ≤ a - s) = false := by simp; omega
    go_enter Try.func62, Try.ntmps62
    go_wp2_with fail
    go_quiet (fail)
    go_wp2
    go_ret
    exact ⟨rfl, bdrewN (Below.refl _ _) _⟩
  have hr : rightB x p a s e = true := decide_eq_true (by omega)
  rw [hr]
  have q6 : IntKind.i64.wrap (a - s) = a - s := IntWalk.i64_in _ (by omega)
  have q2 : decide (0 ≤ m3 p s e) = true := by rw [decide_eq_true_eq, m3_nn]; omega
  have q : decide (0 < x) = true := by simp; omega
  have q3 : decide (a ≤ 1000000000000000) = true := by simp; omega
  have q4 : decide (s ≤ a) = true := by simp; omega
  have q5 : decide (e ≤ a - s) = true := by simp; omega
  go_enter Try.func62, Try.ntmps62
  go_wp2_with fail
  go_quiet (fail)
  go_wp2
  go_ret
  exact ⟨rfl, bdrewN (Below.refl _ _) _⟩
set_option maxRecDepth 100000 in
set_option maxHeartbeats 1000000 in
theorem rright_any (w : World) (x p a s e : Int) (a0 : -9223372036854775808 ≤ a) (a1 : a ≤ 9223372036854775807) (s0 : -9223372036854775808 ≤ s) (s1 : s ≤ 9223372036854775807) :
    Calls Try.prog 64 #[.agg #[.int .i64 x, .int .i64 p, .int .i64 a, .int .i64 s, .int .i64 e]] w fun r w' => r = .returned (.bool (rightB x p a s e)) ∧ Below w.heap.size w w' := by
  go_enter Try.func64, Try.ntmps64
  go_wp2
  all_goals (go_ret; exact ⟨ret_bool (by unfold rightB; first | exact (decide_eq_false (by omega)).symm | (rw [Bool.eq_iff_iff]; simp only [decide_eq_true_eq]; omega)), (Below.refl _ _).alloc (Nat.le_refl _) _⟩)
end Go.Proofs.Ytmnkgjgaileokaa

/- The contract of connect. -/
namespace Go.Proofs.Ytmnkgjgaileokaa
open Go.RowKit Go.Shelf Go.Maps

/-- Funds whose parents are not connected yet. -/
structure Raw (s : FS) : Prop where
  nd : s.ids.Nodup
  idb : ∀ x ∈ s.ids, 1 ≤ x ∧ x ≤ 9223372036854775807
  par : ∀ x ∈ s.ids, 0 ≤ s.pa x ∧ s.pa x ≤ 9223372036854775807
  nok : ∀ x ∈ s.ids, s.kids x = []
  len : s.ids.length ≤ 10000
  srt : s.pv.sorted = s.ids
/-- The first k are connected. -/
structure Lk (s s' : FS) (k : Nat) : Prop where
  fb : s'.fb = s.fb
  bm : s'.bm = s.bm
  m : s'.m = s.m
  ids : s'.ids = s.ids
  g : s'.g = s.g
  pa : s'.pa = s.pa
  al : s'.al = s.al
  sp : s'.sp = s.sp
  en : s'.en = s.en
  kids : ∀ y ∈ s.ids, s'.kids y = (s.ids.take k).filter fun z => s.pa z == y
  par : ∀ z ∈ s.ids.take k, s.pa z = 0 ∨ s.pa z ∈ s.ids
theorem Lk.start {s : FS} (h : Raw s) : Lk s s 0 := ⟨rfl, rfl, rfl, rfl, rfl, rfl, rfl, rfl, rfl, fun y hy => by rw [h.nok y hy]; simp, fun z hz => by simp at hz⟩
theorem Lk.skip {s s' : FS} {k : Nat} (h : Lk s s' k) (r : Raw s) (hk : k < s.ids.length) (h0 : s.pa s.ids[k] = 0) : Lk s s' (k + 1) := by
  refine ⟨h.fb, h.bm, h.m, h.ids, h.g, h.pa, h.al, h.sp, h.en, fun y hy => ?_, fun z hz => ?_⟩
  · rw [h.kids y hy, List.take_succ_eq_append_getElem hk, List.filter_append]
    have := (r.idb y hy).1
    have e : (s.pa s.ids[k] == y) = false := by rw [h0]; simp; omega
    simp [e]
  · rw [List.take_succ_eq_append_getElem hk] at hz
    rcases List.mem_append.1 hz with hz | hz
    · exact h.par z hz
    · simp at hz; subst hz; exact .inl h0
theorem Lk.link {s s' : FS} {k : Nat} (h : Lk s s' k) (hk : k < s.ids.length) (hp : s.pa s.ids[k] ∈ s.ids) (v : Value) : Lk s (s'.linkS (s.pa s.ids[k]) s.ids[k] v) (k + 1) := by
  refine ⟨h.fb, h.bm, h.m, h.ids, h.g, h.pa, h.al, h.sp, h.en, fun y hy => ?_, fun z hz => ?_⟩
  · show (if y = s.pa s.ids[k] then s'.kids (s.pa s.ids[k]) ++ [s.ids[k]] else s'.kids y) = _
    rw [List.take_succ_eq_append_getElem hk, List.filter_append]
    by_cases e : y = s.pa s.ids[k]
    · rw [if_pos e, h.kids _ hp, ← e]
      simp [e]
    · rw [if_neg e, h.kids y hy]
      have e' : (s.pa s.ids[k] == y) = false := by simp; exact fun h => e h.symm
      simp [e']
  · rw [List.take_succ_eq_append_getElem hk] at hz
    rcases List.mem_append.1 hz with hz | hz
    · exact h.par z hz
    · simp at hz; subst hz; exact .inr hp
theorem Lk.forest {s s' : FS} {k : Nat} (h : Lk s s' k) (r : Raw s) (hk : s.ids.length ≤ k) : Forest s.ids s.pa s'.kids where
  nd := r.nd
  kid := fun x hx => by rw [h.kids x hx, List.take_of_length_le hk]
  pos := fun x hx e => by have := (r.idb x hx).1; omega
theorem Lk.kl {s s' : FS} {k : Nat} (h : Lk s s' k) (r : Raw s) : ∀ z ∈ s'.ids, (s'.kids z).length ≤ 100000 := fun z hz => by
  rw [h.ids] at hz
  rw [h.kids z hz]
  have h1 := List.length_filter_le (fun x => s.pa x == z) (s.ids.take k)
  have h2 := List.length_take_le k s.ids
  have := r.len
  rw [List.length_take] at h2 h1
  omega
/-- Whether all parents end at a root. -/
def AllEnd (s : FS) : Prop := ∀ x ∈ s.ids, EndAt s.ids s.pa x
def ConnE (s : FS) (w : World) (e : Ending) (w' : World) : Prop :=
  ∃ (t : Bool) (s' : FS), e = .returned (.bool t) ∧ Mem w' s' ∧ Turn s w s' w' ∧ (t = true → Lk s s' s.ids.length ∧ AllEnd s) ∧ (t = false → ¬ AllEnd s)
theorem no_end {s : FS} {x : Int} (hx : x ∈ s.ids) (h0 : s.pa x ≠ 0) (h1 : s.pa x ∉ s.ids) : ¬ AllEnd s := fun h => by
  rcases (h x hx).par with h | h
  · exact h0 h
  · exact h1 h.1
set_option maxRecDepth 100000 in
set_option maxHeartbeats 4000000 in
theorem connect_some {w : World} {s : FS} (h : Mem w s) (r : Raw s) (b : Nat) (hb : s.bm = some b) :
    Calls Try.prog 63 #[.pointer (some ⟨s.fb, 0, none⟩)] w (ConnE s w) := by
  obtain ⟨c0, c1⟩ := h.fbc
  have hz := h.fne
  obtain ⟨i0, hi, hz1, hz2, hz3⟩ := info_parts info68
  have HM := Lib.hid h
  have R := Lib.hid r
  have HI0 := Lib.hid (And.intro hi (And.intro hz1 (And.intro hz2 hz3)))
  have hlen := r.len
  have HB := Lib.hid hb
  clear h r hi hz1 hz2 hz3 hb
  go_enter Try.func63, Try.ntmps63
  go_wp2_with fail
  refine (keys_any s.bm w).mono ?_
  rintro e w1 ⟨rfl, rfl⟩
  go_wp2_with fail
  refine (sorted_any HM.out R.out.nd (by omega)).mono ?_
  rintro e w2 ⟨sv, rfl, hrow, -, hb⟩
  rw [R.out.srt] at hrow
  have B2 : RowKit.Hid (Below w.heap.size w w2) := ((Below.refl _ w).alloc (Nat.le_refl _) _).trans (hb.mono (Nat.le_succ _))
  have HM2 := Lib.hid (HM.out.below B2.out)
  obtain ⟨sa, scap, hsv, hcells⟩ : ∃ a cap, sv = .slice a s.ids.length cap ∧ ∀ k (hk : k < s.ids.length), ∃ r, a = some ⟨r, 0, none⟩ ∧ w.heap.size ≤ r ∧ r < w2.heap.size ∧ w2.cell? ⟨r, k, none⟩ = some (.int .i64 s.ids[k]) := by
    rcases hrow.2 with ⟨h1, h2⟩ | ⟨g, cap, cur, h1, h2, h3, h4⟩
    · have : s.ids = [] := List.eq_nil_of_length_eq_zero h2
      exact ⟨none, 0, by rw [h1, this]; rfl, fun k hk => by rw [this] at hk; simp at hk⟩
    · refine ⟨some ⟨g, 0, none⟩, cap, h1, fun k hk => ⟨g, rfl, by omega, heap_lt h3, ?_⟩⟩
      rw [h1] at hrow
      exact rowE_cell hrow k _ (by rw [List.getElem?_map, List.getElem?_eq_getElem hk]; rfl)
  have HCS := Lib.hid hcells
  subst hsv
  clear hb hrow c0 c1 hcells
  go_wp2_with fail
  go_loopw [18] (fun i wr => ∃ (k : Nat) (s' : FS), k ≤ s.ids.length ∧ i = .int .i64 k ∧ Mem wr s' ∧ Turn s w2 s' wr ∧ Lk s s' k) (fun i _ => s.ids.length - (intOf i).toNat)
  case atStart => exact ⟨0, s, by omega, rfl, HM2.out, Turn.refl _ _, Lk.start R.out⟩
  case round =>
    obtain ⟨k, s', hk, rfl, hM, hT, hL⟩ := hrel
    have M3 := Lib.hid hM
    have T3 := Lib.hid hT
    have L3 := Lib.hid hL
    clear hM hT hL HM2
    by_cases hlt : k < s.ids.length
    · obtain ⟨r, rfl, hr1, hr2, hcl⟩ := HCS.out k hlt
      have hcl2 : wr.cell? ⟨r, k, none⟩ = some (.int .i64 s.ids[k]) := by
        rw [← hcl]
        exact World.cell?_of_block (T3.out.block r hr2 (HM.out.fresh r hr1))
      have hxm : s.ids[k] ∈ s.ids := List.getElem_mem hlt
      have hxb := R.out.idb _ hxm
      have hpb := R.out.par _ hxm
      have LS := Lib.hid (fun h => L3.out.skip R.out hlt h)
      have LL := Lib.hid (fun h v => L3.out.link hlt h v)
      generalize s.ids[k] = x at *
      have hxm' : x ∈ s'.ids := by rw [L3.out.ids]; exact hxm
      have HX := Lib.hid hxm
      have HX' := Lib.hid hxm'
      have hlk := M3.out.lookup x (by omega) hxb.2
      rw [look_yes hxm'] at hlk
      have hlkp := fun n => (M3.out.drewN n).lookup (s.pa x) (by omega) hpb.2
      obtain ⟨d0, d1⟩ := M3.out.fbc
      obtain ⟨q0, q1, q2, q3, q4, q5⟩ := M3.out.fcell hxm'
      have hzf := M3.out.fne
      have hzg := (M3.out.fund x hxm').lt
      rw [L3.out.fb] at d0 d1 hzf
      rw [L3.out.pa] at q1
      clear hcl hxm hxm'
      by_cases h0 : s.pa x = 0
      · have L4 := Lib.hid (LS.out h0)
        rw [h0] at q1
        clear LS LL h0 hlkp hpb
        go_wp2_with fail
        exact ⟨⟨k + 1, s', by omega, by go_num, M3.out, T3.out, L4.out⟩, by simp [intOf]; omega⟩
      · have h0' : (s.pa x == 0) = false := by simpa using h0
        by_cases hp : s.pa x ∈ s.ids
        · have hp' : s.pa x ∈ s'.ids := by rw [L3.out.ids]; exact hp
          rw [look_yes hp'] at hlkp
          have HP := Lib.hid hp
          have HP' := Lib.hid hp'
          have e0 : ∀ n, (Instr.lookup 51 (.map s'.bm) (.int .i64 (s.pa x)) false).run Try.prog (wr.drewN n) = .ok (.pointer (some ⟨s'.g (s.pa x), 0, none⟩)) (wr.drewN n) := hlkp
          clear hp hp' h0 hlkp
          go_wp2_with fail
          go_quiet (fail)
          rename_i nq
          clear e0 hlk q0 q1 q2 q3 q4 q5 d0 d1 hcl2
          obtain ⟨W, hW⟩ : ∃ W, W = wr.drewN nq := ⟨_, rfl⟩
          have M4 : RowKit.Hid (Mem W s') := by rw [hW]; exact M3.out.drewN nq
          have T4 : RowKit.Hid (Turn s w2 s' W) := by rw [hW]; exact T3.out.trans (Turn.of_below (bdrewN (Below.refl _ _) nq))
          rw [← hW]
          clear hW M3 T3
          obtain ⟨q0, q1, q2, q3, q4, q5⟩ := M4.out.fcell HP'.out
          have hrow := Lib.hid (M4.out.row (s.pa x) HP'.out)
          have hF := M4.out.fund (s.pa x) HP'.out
          have hR := Lib.hid (show ∀ r, (s'.bl (s.pa x)).ownBlock = some r → s'.g (s.pa x) ≠ r from fun r hr => own_ne (s := s') (a := .fund (s.pa x)) (b := .row (s.pa x)) (by simp) (M4.out.ofund _ HP'.out) (M4.out.orow _ HP'.out r hr))
          have hF' := Lib.hid hF
          have hzp := hF.lt
          have hkp := L3.out.kl R.out _ HP'.out
          clear hF
          obtain ⟨hi, hz1, hz2, hz3⟩ := HI0.out
          go_wp2_with (at_builtin; go_must (refine wpList_append_own_at _ rfl (.tmp 50) (.tmp 52) 69 rfl 0 68 i0 (.pointer none) 1 8 Try.underlying69 hi hz1 hz2 hz3 rfl (by decide) _ _ _ rfl (hrow.out.alloc _) ⟨W.heap.size, 0, none⟩ 1 1 [ptr (s'.g x)] rfl rfl (news1 W _ 68) (one68 (s'.g x)) (by unfold maxLen; omega) (by omega) (Nat.zero_le _) ?_))
          intro v' w5 hown hgrow hnil hloc
          obtain ⟨ga, ca, rfl⟩ := own_some hown
          have hF2 := grow_blk' (hF'.out.alloc _) hgrow (fun e => hR.out _ e.symm rfl)
          have k5 : w5.cell? ⟨s'.g (s.pa x), 5, none⟩ = some (s'.bl (s.pa x)) := hF2.cell 5
          have kf := hF2.frozen
          have HF2 := Lib.hid hF2
          have HOW := Lib.hid hown
          have HGR := Lib.hid hgrow
          have HLO := Lib.hid hloc
          have hv0 : ∀ r, (Value.slice (some ⟨ga, 0, none⟩) ((s'.kids (s.pa x)).length + 1) ca).ownBlock = some r → (s'.bl (s.pa x)).ownBlock = some r ∨ W.heap.size ≤ r := fun r hr => by
            rcases HLO.out with e | e
            · exact .inl (by rw [← e]; exact hr)
            · rw [e] at hr; injection hr with hr; right; omega
          have hrg : ∀ r, (Value.slice (some ⟨ga, 0, none⟩) ((s'.kids (s.pa x)).length + 1) ca).ownBlock = some r → r ≠ s'.g (s.pa x) := fun r hr e => by
            rcases hv0 r hr with e1 | e1
            · exact hR.out r e1 e.symm
            · omega
          have hkk : ∀ i, i < W.heap.size → i ≠ s'.g (s.pa x) → (s'.bl (s.pa x)).ownBlock ≠ some i → (w5.setCell ⟨s'.g (s.pa x), 5, none⟩ (.slice (some ⟨ga, 0, none⟩) ((s'.kids (s.pa x)).length + 1) ca)).heap[i]? = W.heap[i]? := fun i h6 h7 h8 =>
            (Below.heap_setCell _ _ _ _ h7).trans ((HGR.out.block i (by rw [size_alloc]; omega) (Ne.symm h8)).trans (Below.heap_alloc _ _ _ h6))
          have hsz : W.heap.size ≤ (w5.setCell ⟨s'.g (s.pa x), 5, none⟩ (.slice (some ⟨ga, 0, none⟩) ((s'.kids (s.pa x)).length + 1) ca)).heap.size := by
            have e1 := HGR.out.size
            rw [size_alloc] at e1
            have e2 : (w5.setCell ⟨s'.g (s.pa x), 5, none⟩ (.slice (some ⟨ga, 0, none⟩) ((s'.kids (s.pa x)).length + 1) ca)).heap.size = w5.heap.size := by simp
            omega
          have hML := Mem.link M4.out HP'.out HX'.out (v := .slice (some ⟨ga, 0, none⟩) ((s'.kids (s.pa x)).length + 1) ca) hsz (fun i h6 h7 h8 => hkk i (M4.out.lt h6) h7 h8)
            ((HF2.out.set 5 _).cast (by simp [FS.cells]))
            (owns_same HOW.out fun r hr => Below.heap_setCell _ _ _ _ (hrg r hr))
            (fun r hr => ⟨hv0 r hr, by have := own_lt HOW.out hr; simpa using this⟩)
          have hTL := Turn.link (x := x) M4.out HP'.out (v := .slice (some ⟨ga, 0, none⟩) ((s'.kids (s.pa x)).length + 1) ca) (w' := w5.setCell ⟨s'.g (s.pa x), 5, none⟩ (.slice (some ⟨ga, 0, none⟩) ((s'.kids (s.pa x)).length + 1) ca)) HGR.out.os HGR.out.tape HGR.out.output hsz (fun i h6 h7 h8 => hkk i h6 h7 h8) hv0
          have M5 := Lib.hid hML
          have T5 := Lib.hid (T4.out.trans hTL)
          have L5 := Lib.hid (LL.out HP.out (.slice (some ⟨ga, 0, none⟩) ((s'.kids (s.pa x)).length + 1) ca))
          clear hF2 hown hgrow hnil hloc q0 q1 q2 q3 q4 q5 hv0 hrg hkk hsz hML hTL LS LL hi hz1 hz2 hz3
          go_wp2_with fail
          exact ⟨⟨k + 1, _, by omega, by go_num, M5.out, T5.out, L5.out⟩, by simp [intOf]; omega⟩
        · have hp' : s.pa x ∉ s'.ids := by rw [L3.out.ids]; exact hp
          rw [look_no hp'] at hlkp
          have key := Lib.hid (no_end HX.out h0 hp)
          have T4 := Lib.hid ((Turn.of_below (s := s) B2.out).trans T3.out)
          clear hp hp' h0 LS LL T3
          go_wp2_with fail
          go_quiet (fail)
          rename_i nq
          go_wp2_with fail
          go_ret
          exact ⟨false, s', rfl, M3.out.drewN nq, T4.out.trans (Turn.of_below (bdrewN (Below.refl _ _) nq)), ⟨fun e => Bool.noConfusion e, fun _ => key.out⟩⟩
    · obtain rfl : k = s.ids.length := by omega
      have T4 := Lib.hid ((Turn.of_below (s := s) B2.out).trans T3.out)
      clear T3
      rcases M3.out.map with ⟨h2, _⟩ | ⟨b', D, h2, hob, hown, hR⟩
      · rw [L3.out.bm, HB.out] at h2; cases h2
      obtain rfl : b' = b := by rw [L3.out.bm, HB.out] at h2; injection h2 with h2; exact h2.symm
      obtain ⟨d0, d1⟩ := M3.out.fbc
      have hzf := M3.out.fne
      rw [L3.out.fb] at d0 d1 hzf
      rw [h2] at d0
      have hmf : ∀ (fn : Fn) (first cap : Array Value) (w : World), (Instr.makeFunc fn first cap).run Try.prog w = .ok (.func fn first cap) w := fun _ _ _ _ => rfl
      have HF := Lib.hid (L3.out.forest R.out (Nat.le_refl _))
      rw [L3.out.ids] at hown hR
      obtain ⟨cb, hcb⟩ : ∃ cb, cb = wr.heap.size := ⟨_, rfl⟩
      have hoc : s'.o cb = .none := by rw [hcb]; exact M3.out.fresh _ (Nat.le_refl _)
      have hbl := hown.lt
      have HC := Lib.hid (Blk.at_new (w := wr) (n := cb) hcb #[.func (.func 80) #[] #[.pointer (some ⟨cb, 0, none⟩)]] 83)
      have M4 := Lib.hid (M3.out.alloc (.cells #[.func (.func 80) #[] #[.pointer (some ⟨cb, 0, none⟩)]] 83))
      have T5 := Lib.hid (T4.out.trans (Turn.alloc s' wr (.cells #[.func (.func 80) #[] #[.pointer (some ⟨cb, 0, none⟩)]] 83)))
      have RO4 := Lib.hid (map_same (w' := wr.alloc (.cells #[.func (.func 80) #[] #[.pointer (some ⟨cb, 0, none⟩)]] 83)) hown (Below.heap_alloc _ _ _ hbl))
      have hsz4 : (wr.alloc (.cells #[.func (.func 80) #[] #[.pointer (some ⟨cb, 0, none⟩)]] 83)).heap.size = cb + 1 := by rw [size_alloc, hcb]
      have hbc : b' < cb := by omega
      have hcw : w.heap.size ≤ cb := by have := T4.out.size; omega
      have HR := Lib.hid hR
      clear hown hR hbl
      go_wp2_with (first
        | (at_range; refine wpList_range_own _ rfl _ 51 rfl 3 68 key3 Try.underlying51 R68 b' s.ids.length D rfl (by rw [← hcb]; exact RO4.out) ?_; intro w3 hrg3 hg3 hs3)
        | fail)
      go_frame
      try rw [← hcb]
      rw [← hcb] at hrg3 hg3 hs3
      obtain ⟨W5, hW5⟩ : ∃ W5, W5 = wr.alloc (.cells #[.func (.func 80) #[] #[.pointer (some ⟨cb, 0, none⟩)]] 83) := ⟨_, rfl⟩
      rw [← hW5] at hrg3 hg3 hs3 M4 T5 RO4 hsz4 HC
      try rw [← hW5]
      clear hW5
      have hb3 : Below W5.heap.size W5 w3 := ⟨hg3.os, hg3.tape, hg3.output, hg3.size, fun i hi => hg3.block i hi (by simp)⟩
      have M5 := Lib.hid (M4.out.keep hg3.size fun i hi => hg3.block i (M4.out.lt hi) (by simp))
      have T6 := Lib.hid (T5.out.trans (Turn.of_below hb3))
      have C5 := Lib.hid (HC.out.below hb3 HC.out.lt)
      have hor3 : s'.o W5.heap.size = .none := M4.out.fresh _ (Nat.le_refl _)
      have RG3 := Lib.hid hrg3
      rw [hsz4] at hor3 RG3 ⊢
      clear hrg3 hg3 hs3 M4 T5 T4 RO4 HC hsz4 d0 d1 hzf hcb hb3 M3
      go_loopw [8] (fun nv wq => ∃ (left : Lit → Bool) (ct : Nat) (l : List Int), wq.ranges Try.prog 3 R68 b' (cb + 1) s.ids.length D left ct ∧ l.Nodup ∧ (∀ z, z ∈ l ↔ (z ∈ s.ids ∧ s.pa z = 0) ∧ left (.int .i64 z) = false) ∧
        nv = .int .i64 (l.map (cnt s'.kids s.ids.length)).sum ∧ Mem wq s' ∧ Turn s w s' wq ∧ Blk wq cb #[.func (.func 80) #[] #[.pointer (some ⟨cb, 0, none⟩)]] 83) (fun _ wq => wq.rangeLeft b' (cb + 1))
      case atStart =>
        exact ⟨_, _, [], RG3.out, List.nodup_nil, fun z => ⟨fun h => (by cases h), fun h => (by have h2 := h.2; rw [(HR.out.has _).2 ⟨z, h.1.1, rfl⟩] at h2; cases h2)⟩, rfl, M5.out, T6.out, C5.out⟩
      case round =>
        obtain ⟨left2, cnt2, l, hrg, hnd, hl, rfl, hM, hT, hC⟩ := hrel
        have M6 := Lib.hid hM
        have T6 := Lib.hid hT
        have C6 := Lib.hid hC
        have RG6 := Lib.hid hrg
        have ND := Lib.hid hnd
        have HL := Lib.hid hl
        have hle := reached_le HF.out hnd (fun z hz => ((hl z).1 hz).1) s.ids.length
        have hle : (l.map (cnt s'.kids s.ids.length)).sum ≤ s.ids.length := hle
        have hge : 0 ≤ (l.map (cnt s'.kids s.ids.length)).sum := sum_nonneg _ _ fun z _ => by have := cnt_pos s'.kids s.ids.length z; omega
        clear hM hT hC hrg hnd hl M5 C5 RG3
        obtain ⟨SM, hSM⟩ : ∃ SM, SM = (l.map (cnt s'.kids s.ids.length)).sum := ⟨_, rfl⟩
        have HSM := Lib.hid hSM
        rw [← hSM] at hle hge ⊢
        clear hSM
        go_wp2_with (first
          | (at_next; refine wpList_next_ranges _ rfl _ rfl 3 key3 R68 (Value.int .i64) mkV invK invV b' (cb + 1) s.ids.length D left2 cnt2 rfl RG6.out ?_ ?_)
          | fail)
        · intro _ hl0
          have hre := reached HF.out ND.out (fun z => ⟨fun h => ((HL.out z).1 h).1, fun h => (HL.out z).2 ⟨h, hl0 _⟩⟩) (Nat.le_refl _)
          have hSG : SM = (good s.ids s.pa).length := by rw [HSM.out]; exact hre
          have hga := @good_all s.ids s.pa
          rw [← hSG] at hga
          have HGA := Lib.hid hga
          obtain ⟨d0, d1⟩ := M6.out.fbc
          have hzf := M6.out.fne
          have hml := M6.out.len 3
          rw [L3.out.fb] at d0 d1 hzf
          rw [L3.out.ids, h2] at hml
          rw [h2] at d0
          clear hre hSG hga hl0
          by_cases hq : SM = (s.ids.length : Int)
          · have KE := Lib.hid (HGA.out.1 hq)
            have hq' : (SM == (s.ids.length : Int)) = true := by simpa using hq
            clear hq
            go_wp2_with fail
            go_ret
            exact ⟨true, s', rfl, M6.out, T6.out, ⟨fun _ => ⟨L3.out, KE.out⟩, fun e => Bool.noConfusion e⟩⟩
          · have KE := Lib.hid (fun h => hq (HGA.out.2 h))
            have hq' : (SM == (s.ids.length : Int)) = false := by simpa using hq
            clear hq
            go_wp2_with fail
            go_ret
            exact ⟨false, s', rfl, M6.out, T6.out, ⟨fun e => Bool.noConfusion e, fun _ => KE.out⟩⟩
        · intro x c kl y1 y2 w6 cnt6 hkey hlx hv hat hrg1 hlt hg1 hs1 hen
          obtain ⟨rfl, hx, hmk⟩ := came HR.out hkey hv hat
          rw [hmk] at hen ⊢
          have hxb := R.out.idb x hx
          have hx' : x ∈ s'.ids := by rw [L3.out.ids]; exact hx
          have M7 := Lib.hid (M6.out.keep hg1.size fun i hi => hg1.block i (M6.out.lt hi) (by intro e; injection e with e; rw [e] at hi; exact hi hor3))
          have T7 := Lib.hid (show Turn s w s' w6 from ⟨hg1.os.trans T6.out.os, hg1.tape.trans T6.out.tape, hg1.output.trans T6.out.output, Nat.le_trans T6.out.size hg1.size,
            fun i hi hn => (hg1.block i (Nat.lt_of_lt_of_le hi T6.out.size) (by intro e; injection e with e; omega)).trans (T6.out.block i hi hn), T6.out.none⟩)
          have C7 := Lib.hid (show Blk w6 cb #[.func (.func 80) #[] #[.pointer (some ⟨cb, 0, none⟩)]] 83 from grow_blk C6.out hg1 (by omega))
          obtain ⟨a0, a1, a2, a3, a4, a5⟩ := M7.out.fcell hx'
          rw [L3.out.pa] at a1
          have RG7 := Lib.hid hrg1
          have HX := Lib.hid hx
          have HX' := Lib.hid hx'
          have HLT := Lib.hid hlt
          have HLX := Lib.hid hlx
          have hcb : w6.cell? ⟨cb, 0, none⟩ = some (.func (.func 80) #[] #[.pointer (some ⟨cb, 0, none⟩)]) := C7.out.cell 0
          clear hrg1 hx hx' hlt hkey hlx hv hat hmk M6 T6 C6
          by_cases hp : s.pa x = 0
          · have hnd2 : (l ++ [x]).Nodup := List.nodup_append.2 ⟨ND.out, by simp, fun a ha b hb e => by
              obtain rfl : b = x := by simpa using hb
              have := ((HL.out a).1 ha).2
              rw [e, HLX.out] at this; cases this⟩
            have hro : ∀ z ∈ l ++ [x], z ∈ s.ids ∧ s.pa z = 0 := fun z hz => by
              rcases List.mem_append.1 hz with h | h
              · exact ((HL.out z).1 h).1
              · simp at h; subst h; exact ⟨HX.out, hp⟩
            have hle2 : ((l ++ [x]).map (cnt s'.kids s.ids.length)).sum ≤ s.ids.length := reached_le HF.out hnd2 hro s.ids.length
            have hsum : ((l ++ [x]).map (cnt s'.kids s.ids.length)).sum = SM + cnt s'.kids s.ids.length x := by rw [List.map_append, List.sum_append, HSM.out]; simp
            have hcp := cnt_pos s'.kids s.ids.length x
            have key := Lib.hid (count_any s.ids.length w6 s' x cb M7.out (L3.out.kl R.out) HX'.out (deep_end HF.out ⟨_, .root hp⟩ HX.out) (by omega) C7.out)
            have HSUM := Lib.hid hsum
            have ND2 := Lib.hid hnd2
            rw [hsum] at hle2
            rw [hp] at a1
            have HPZ := Lib.hid hp
            generalize cnt s'.kids s.ids.length x = CX at *
            clear hp hnd2 hro hsum
            go_wp2_with fail
            refine key.out.mono ?_
            rintro e w8 ⟨rfl, rfl⟩
            clear key a0 a1 a2 a3 a4 a5 hcb hen
            go_wp2_with fail
            refine ⟨⟨_, cnt6, l ++ [x], RG7.out, ND2.out, ?_, by rw [HSUM.out], M7.out, T7.out, C7.out⟩, by rw [RG7.out.left_eq, RG6.out.left_eq]; exact HLT.out⟩
            intro z
            rw [List.mem_append]
            by_cases e : z = x
            · subst e
              exact ⟨fun _ => ⟨⟨HX.out, HPZ.out⟩, strike_self left2 (by omega) (by omega) HLX.out⟩, fun _ => .inr (by simp)⟩
            · constructor
              · rintro (h | h)
                · exact ⟨((HL.out z).1 h).1, by rw [strike_ne left2 e]; exact ((HL.out z).1 h).2⟩
                · exact absurd (by simpa using h) e
              · rintro ⟨h1, h2⟩
                rw [strike_ne left2 e] at h2
                exact .inl ((HL.out z).2 ⟨h1, h2⟩)
          · have hp' : (s.pa x == 0) = false := by simpa using hp
            have HPZ := Lib.hid hp
            clear hp
            go_wp2_with fail
            refine ⟨⟨_, cnt6, l, RG7.out, ND.out, ?_, by rw [HSM.out], M7.out, T7.out, C7.out⟩, by rw [RG7.out.left_eq, RG6.out.left_eq]; exact HLT.out⟩
            intro z
            by_cases e : z = x
            · subst e
              exact ⟨fun h => absurd ((HL.out z).1 h).1.2 HPZ.out, fun h => absurd h.1.2 HPZ.out⟩
            · rw [strike_ne left2 e]; exact HL.out z
set_option maxRecDepth 100000 in
set_option maxHeartbeats 4000000 in
theorem connect_none {w : World} {s : FS} (h : Mem w s) (r : Raw s) (hb : s.bm = none) (hids : s.ids = []) :
    Calls Try.prog 63 #[.pointer (some ⟨s.fb, 0, none⟩)] w (ConnE s w) := by
  obtain ⟨c0, c1⟩ := h.fbc
  rw [hb] at c0
  have hz := h.fne
  have HM := Lib.hid h
  have R := Lib.hid r
  have HB := Lib.hid hb
  have HI := Lib.hid hids
  have hmf : ∀ (fn : Fn) (first cap : Array Value) (w : World), (Instr.makeFunc fn first cap).run Try.prog w = .ok (.func fn first cap) w := fun _ _ _ _ => rfl
  have key := fun w1 => keys_any none w1
  have key2 := sorted_any HM.out R.out.nd (by rw [hids]; simp)
  rw [hb, hids] at key2
  have K2 := Lib.hid key2
  clear h r hb hids key2
  go_enter Try.func63, Try.ntmps63
  go_wp2_with fail
  refine (key w).mono ?_
  rintro e w1 ⟨rfl, rfl⟩
  go_wp2_with fail
  refine K2.out.mono ?_
  rintro e w2 ⟨sv, rfl, -, hnil, hb⟩
  obtain rfl := hnil.2 (by first | rfl | trivial)
  have B2 : RowKit.Hid (Below w.heap.size w w2) := ((Below.refl _ w).alloc (Nat.le_refl _) _).trans (hb.mono (Nat.le_succ _))
  have M2 := Lib.hid (HM.out.below B2.out)
  obtain ⟨d0, d1⟩ := M2.out.fbc
  rw [HB.out] at d0
  have hzf := M2.out.fne
  clear hb c0 c1 key hnil
  have hrg := fun W => run_range_nilMap (P := Try.prog) W 51 3 68 Try.underlying51
  have hln := Maps.len_nil (P := Try.prog) (w := ((w2.alloc (.cells #[.func (.func 80) #[] #[.pointer (some ⟨w2.heap.size, 0, none⟩)]] 83)).alloc (.mapIter none 0 #[] 0))) Try.underlying51 3
  have hnx2 : ∀ ty, (Instr.next (.pointer (some ⟨w2.heap.size + 1, 0, none⟩)) false ty).run Try.prog ((w2.alloc (.cells #[.func (.func 80) #[] #[.pointer (some ⟨w2.heap.size, 0, none⟩)]] 83)).alloc (.mapIter none 0 #[] 0)) = .ok (.tuple #[.bool false]) ((w2.alloc (.cells #[.func (.func 80) #[] #[.pointer (some ⟨w2.heap.size, 0, none⟩)]] 83)).alloc (.mapIter none 0 #[] 0)) := fun ty => by
    have e : w2.heap.size + 1 = (w2.alloc (.cells #[.func (.func 80) #[] #[.pointer (some ⟨w2.heap.size, 0, none⟩)]] 83)).heap.size := by simp
    have := run_next_nilMap (P := Try.prog) (w2.alloc (.cells #[.func (.func 80) #[] #[.pointer (some ⟨w2.heap.size, 0, none⟩)]] 83)) ty 0 0 #[]
    rwa [← e] at this
  go_wp2_with fail
  refine wp_loop_rounds 1 ?_
  rw [rounds_succ]
  go_wp2_with fail
  refine wp_loop_rounds 1 ?_
  rw [rounds_succ]
  go_wp2_with fail
  go_ret
  exact ⟨true, s, rfl, (M2.out.alloc _).alloc _, (Turn.of_below B2.out).trans ((Turn.alloc _ _ _).trans (Turn.alloc _ _ _)), ⟨fun _ => ⟨by have := Lk.start R.out; rw [HI.out]; exact this, fun x hx => by rw [HI.out] at hx; cases hx⟩, fun e => Bool.noConfusion e⟩⟩
theorem connect_any {w : World} {s : FS} (h : Mem w s) (r : Raw s) : Calls Try.prog 63 #[.pointer (some ⟨s.fb, 0, none⟩)] w (ConnE s w) := by
  cases hb : s.bm with
  | none =>
    have hids : s.ids = [] := by
      rcases h.map with ⟨_, h3⟩ | ⟨b', D, h2, _⟩
      · exact h3
      · rw [h2] at hb; cases hb
    exact connect_none h r hb hids
  | some b => exact connect_some h r b hb
end Go.Proofs.Ytmnkgjgaileokaa

/- put, whatever comes: the new fund's cells; what lay there before is as it was. -/
namespace Go.Proofs.Ytmnkgjgaileokaa
open Go.RowKit

def PutB (s : FS) (w : World) (x p a e f : Int) (r : Ending) (w' : World) : Prop :=
  ∃ gn, r = .returned (.pointer (some ⟨gn, 0, none⟩)) ∧ Blk w' gn (fcells x p a e f (.slice none 0 0)) 71 ∧ ∀ B, B ≤ w.heap.size → (∀ b, b < B → s.o b = .none) → Below B w w'
set_option maxRecDepth 100000 in
set_option maxHeartbeats 2000000 in
theorem putb_some {w : World} {s : FS} (h : Mem w s) (x p a e f : Int) (b0 : Nat) (hbm : s.bm = some b0)
    (h0 : -9223372036854775808 ≤ x) (h1 : x ≤ 9223372036854775807) (hl : s.ids.length ≤ 100000) :
    Calls Try.prog 39 #[.pointer (some ⟨s.fb, 0, none⟩), .agg #[.int .i64 x, .int .i64 p, .int .i64 a, .int .i64 e, .int .i64 f]] w (PutB s w x p a e f) := by
  obtain ⟨c0, c1⟩ := h.fbc
  have hz := h.fne
  rcases h.map with ⟨h2, _⟩ | ⟨b', D, h2, hob, hown, hR⟩
  · rw [h2] at hbm; cases hbm
  have HO := Lib.hid ((hown.alloc (.cells #[.int .i64 x, .int .i64 p, .int .i64 a, .int .i64 e, .int .i64 f] 31)).alloc (.cells #[.int .i64 x, .int .i64 p, .int .i64 a, .int .i64 e, .int .i64 f, .slice none 0 0] 71))
  have HB0 := Lib.hid ((Blk.new w #[.int .i64 x, .int .i64 p, .int .i64 a, .int .i64 e, .int .i64 f] 31).alloc (.cells #[.int .i64 x, .int .i64 p, .int .i64 a, .int .i64 e, .int .i64 f, .slice none 0 0] 71))
  have HG0 := Lib.hid (Blk.at_new (w := w.alloc (.cells #[.int .i64 x, .int .i64 p, .int .i64 a, .int .i64 e, .int .i64 f] 31)) (n := w.heap.size + 1) (by simp) #[.int .i64 x, .int .i64 p, .int .i64 a, .int .i64 e, .int .i64 f, .slice none 0 0] 71)
  have HF0 := Lib.hid ((h.fb.alloc (.cells #[.int .i64 x, .int .i64 p, .int .i64 a, .int .i64 e, .int .i64 f] 31)).alloc (.cells #[.int .i64 x, .int .i64 p, .int .i64 a, .int .i64 e, .int .i64 f, .slice none 0 0] 71))
  rw [h2] at HF0
  have HE : RowKit.Hid (((w.alloc (.cells #[.int .i64 x, .int .i64 p, .int .i64 a, .int .i64 e, .int .i64 f] 31)).alloc (.cells #[.int .i64 x, .int .i64 p, .int .i64 a, .int .i64 e, .int .i64 f, .slice none 0 0] 71)).os = w.os ∧ ((w.alloc (.cells #[.int .i64 x, .int .i64 p, .int .i64 a, .int .i64 e, .int .i64 f] 31)).alloc (.cells #[.int .i64 x, .int .i64 p, .int .i64 a, .int .i64 e, .int .i64 f, .slice none 0 0] 71)).tape = w.tape ∧ ((w.alloc (.cells #[.int .i64 x, .int .i64 p, .int .i64 a, .int .i64 e, .int .i64 f] 31)).alloc (.cells #[.int .i64 x, .int .i64 p, .int .i64 a, .int .i64 e, .int .i64 f, .slice none 0 0] 71)).output = w.output ∧ ∀ i, i < w.heap.size → i ≠ s.fb → ((w.alloc (.cells #[.int .i64 x, .int .i64 p, .int .i64 a, .int .i64 e, .int .i64 f] 31)).alloc (.cells #[.int .i64 x, .int .i64 p, .int .i64 a, .int .i64 e, .int .i64 f, .slice none 0 0] 71)).heap[i]? = w.heap[i]?) :=
    ⟨rfl, rfl, rfl, fun i hi _ => (Below.heap_alloc _ _ _ (by rw [size_alloc]; omega)).trans (Below.heap_alloc _ _ _ hi)⟩
  have hbf : s.fb ≠ b' := own_ne (by simp) h.ofb hob
  have HQM : s.bm = some b' ∨ (s.bm = none ∧ s.o b' = .none) := .inl h2
  have HMP : s.o b' = .mp ∨ w.heap.size ≤ b' := .inl hob
  rw [h2] at c0
  have HM := Lib.hid h
  have hblt := hown.lt
  clear h hown hbm
  have hem := fun W r => run_eql_map_nil (P := Try.prog) W 51 3 68 r Try.underlying51
  go_enter Try.func39, Try.ntmps39
  go_wp2_with fail
  obtain ⟨W4, hW4⟩ : ∃ W4, W4 = (w.alloc (.cells #[.int .i64 x, .int .i64 p, .int .i64 a, .int .i64 e, .int .i64 f] 31)).alloc (.cells #[.int .i64 x, .int .i64 p, .int .i64 a, .int .i64 e, .int .i64 f, .slice none 0 0] 71) := ⟨_, rfl⟩
  have hsz4 : W4.heap.size = w.heap.size + 1 + 1 := by rw [hW4]; simp
  rw [← hW4] at HO HB0 HG0 HF0 HE
  rw [show (w.alloc (.cells #[.int .i64 x, .int .i64 p, .int .i64 a, .int .i64 e, .int .i64 f] 31)).alloc (.cells #[.int .i64 x, .int .i64 p, .int .i64 a, .int .i64 e, .int .i64 f, .slice none 0 0] 71) = W4 from hW4.symm]
  clear hW4 c0 c1
  have d0 : W4.cell? ⟨s.fb, 0, none⟩ = some (.map (some (b'))) := HF0.out.cell 0
  have d1 : W4.cell? ⟨w.heap.size, 0, none⟩ = some (.int .i64 x) := HB0.out.cell 0
  go_still_tail 7, (by kernel_rfl)
  have HO' := Lib.hid HO.out.drew
  have HB' := Lib.hid HB0.out.drew
  have HG' := Lib.hid HG0.out.drew
  have HF' := Lib.hid HF0.out.drew
  go_wp2_with (at_mapUpdate; refine wpList_mapUpdate_own _ rfl _ _ _ 51 rfl 3 68 key3 Try.underlying51 R68 (b') (s.ids.length) D rfl HO'.out (by unfold maxLen; omega) _ _ _ rfl rfl (Maps.keyOf_int_mk Try.underlying3 (wf64 h0 h1)) (.lit (.int .i64 (w.heap.size + 1 : Nat))) [] (R68_ptr _) ?_)
  intro w5 hown5 hgrow5
  have hbb : w.heap.size ≠ b' := by omega
  have hbg : w.heap.size + 1 ≠ b' := by omega
  have B5 := Lib.hid (grow_blk HB'.out hgrow5 hbb)
  have G5 := Lib.hid (grow_blk HG'.out hgrow5 hbg)
  have F5 := Lib.hid (grow_blk HF'.out hgrow5 hbf)
  have O5 := Lib.hid hown5
  have R5 := Lib.hid hgrow5
  have e1 : w5.cell? ⟨s.fb, 1, none⟩ = some (.int .i64 s.m) := F5.out.cell 1
  have e2 : w5.cell? ⟨w.heap.size, 2, none⟩ = some (.int .i64 a) := B5.out.cell 2
  have ef := F5.out.frozen
  clear hown5 hgrow5 HO' HB' HG' HF'
  go_wp2_with fail
  go_still_tail 7, (by kernel_rfl)
  have ef' : ∀ i, w5.drew.frozen? ⟨s.fb, i, none⟩ = false := ef
  have e1' : w5.drew.cell? ⟨s.fb, 1, none⟩ = some (.int .i64 s.m) := e1
  go_wp2_with fail
  go_ret
  have hK : ∀ i, i < w.heap.size → i ≠ s.fb → i ≠ b' → ((w5.setCell ⟨s.fb, 1, none⟩ (.int .i64 (wrap64 (s.m + a)))).drew).heap[i]? = w.heap[i]? := fun i hi h3 h4 =>
    (Below.heap_setCell _ _ _ _ h3).trans (((R5.out.block i (by show i < W4.heap.size; omega) (by simpa using h4))).trans (HE.out.2.2.2 i hi h3))
  have hsz : w.heap.size ≤ ((w5.setCell ⟨s.fb, 1, none⟩ (.int .i64 (wrap64 (s.m + a)))).drew).heap.size := by
    have := R5.out.size
    have e9 : W4.drew.heap.size = W4.heap.size := rfl
    have e8 : ((w5.setCell ⟨s.fb, 1, none⟩ (.int .i64 (wrap64 (s.m + a)))).drew).heap.size = w5.heap.size := by simp
    omega
  refine ⟨w.heap.size + 1, rfl, G5.out.drew.set_ne _ _ (by show w.heap.size + 1 ≠ s.fb; omega), fun B hB hn => ⟨R5.out.os.trans HE.out.1, R5.out.tape.trans HE.out.2.1, R5.out.output.trans HE.out.2.2.1, hsz, fun i hi => hK i (by omega) ?_ ?_⟩⟩
  · intro e'; have := hn i hi; rw [e', HM.out.ofb] at this; cases this
  · intro e'; have := hn i hi; rw [e', hob] at this; cases this
set_option maxRecDepth 100000 in
set_option maxHeartbeats 2000000 in
theorem putb_nil {w : World} {s : FS} (h : Mem w s) (x p a e f : Int) (hbm : s.bm = none)
    (h0 : -9223372036854775808 ≤ x) (h1 : x ≤ 9223372036854775807) (hl : s.ids.length ≤ 100000) :
    Calls Try.prog 39 #[.pointer (some ⟨s.fb, 0, none⟩), .agg #[.int .i64 x, .int .i64 p, .int .i64 a, .int .i64 e, .int .i64 f]] w (PutB s w x p a e f) := by
  obtain ⟨c0, c1⟩ := h.fbc
  have hz := h.fne
  have hids : s.ids = [] := by
    rcases h.map with ⟨_, h3⟩ | ⟨b', D, h2, _⟩
    · exact h3
    · rw [h2] at hbm; cases hbm
  obtain ⟨D, hD⟩ : ∃ D : DataW Unit, D = .map [] := ⟨_, rfl⟩
  have hR : Rep D s.ids s.g := by rw [hD, hids]; exact rep_nil _
  have hsb : ((w.setCell ⟨s.fb, 0, none⟩ (.map (some (w.heap.size + 1)))).alloc (.cells #[.int .i64 x, .int .i64 p, .int .i64 a, .int .i64 e, .int .i64 f] 31)).heap.size = w.heap.size + 1 := by simp
  have hown0 : (((w.setCell ⟨s.fb, 0, none⟩ (.map (some (w.heap.size + 1)))).alloc (.cells #[.int .i64 x, .int .i64 p, .int .i64 a, .int .i64 e, .int .i64 f] 31)).alloc (.map #[] 0)).ownsMap (H := Unit) Try.prog 3 R68 (w.heap.size + 1) s.ids.length D := by
    have := World.ownsMap_made (H := Unit) ((w.setCell ⟨s.fb, 0, none⟩ (.map (some (w.heap.size + 1)))).alloc (.cells #[.int .i64 x, .int .i64 p, .int .i64 a, .int .i64 e, .int .i64 f] 31)) Try.prog 3 R68
    rw [hsb] at this
    rw [hD, hids]; exact this
  have hbf : s.fb ≠ w.heap.size + 1 := by omega
  have HO := Lib.hid (hown0.alloc (.cells #[.int .i64 x, .int .i64 p, .int .i64 a, .int .i64 e, .int .i64 f, .slice none 0 0] 71))
  have HB0 := Lib.hid (((Blk.at_new (w := (w.setCell ⟨s.fb, 0, none⟩ (.map (some (w.heap.size + 1))))) (n := w.heap.size) (by simp) #[.int .i64 x, .int .i64 p, .int .i64 a, .int .i64 e, .int .i64 f] 31).alloc (.map #[] 0)).alloc (.cells #[.int .i64 x, .int .i64 p, .int .i64 a, .int .i64 e, .int .i64 f, .slice none 0 0] 71))
  have HG0 := Lib.hid (Blk.at_new (w := ((w.setCell ⟨s.fb, 0, none⟩ (.map (some (w.heap.size + 1)))).alloc (.cells #[.int .i64 x, .int .i64 p, .int .i64 a, .int .i64 e, .int .i64 f] 31)).alloc (.map #[] 0)) (n := w.heap.size + 1 + 1) (by simp) #[.int .i64 x, .int .i64 p, .int .i64 a, .int .i64 e, .int .i64 f, .slice none 0 0] 71)
  have HF0 := Lib.hid (((((h.fb.set 0 (.map (some (w.heap.size + 1)))).cast (ys := #[.map (some (w.heap.size + 1)), .int .i64 s.m]) (by simp)).alloc (.cells #[.int .i64 x, .int .i64 p, .int .i64 a, .int .i64 e, .int .i64 f] 31)).alloc (.map #[] 0)).alloc (.cells #[.int .i64 x, .int .i64 p, .int .i64 a, .int .i64 e, .int .i64 f, .slice none 0 0] 71))
  have HE : RowKit.Hid (((((w.setCell ⟨s.fb, 0, none⟩ (.map (some (w.heap.size + 1)))).alloc (.cells #[.int .i64 x, .int .i64 p, .int .i64 a, .int .i64 e, .int .i64 f] 31)).alloc (.map #[] 0)).alloc (.cells #[.int .i64 x, .int .i64 p, .int .i64 a, .int .i64 e, .int .i64 f, .slice none 0 0] 71)).os = w.os ∧ ((((w.setCell ⟨s.fb, 0, none⟩ (.map (some (w.heap.size + 1)))).alloc (.cells #[.int .i64 x, .int .i64 p, .int .i64 a, .int .i64 e, .int .i64 f] 31)).alloc (.map #[] 0)).alloc (.cells #[.int .i64 x, .int .i64 p, .int .i64 a, .int .i64 e, .int .i64 f, .slice none 0 0] 71)).tape = w.tape ∧ ((((w.setCell ⟨s.fb, 0, none⟩ (.map (some (w.heap.size + 1)))).alloc (.cells #[.int .i64 x, .int .i64 p, .int .i64 a, .int .i64 e, .int .i64 f] 31)).alloc (.map #[] 0)).alloc (.cells #[.int .i64 x, .int .i64 p, .int .i64 a, .int .i64 e, .int .i64 f, .slice none 0 0] 71)).output = w.output ∧ ∀ i, i < w.heap.size → i ≠ s.fb → ((((w.setCell ⟨s.fb, 0, none⟩ (.map (some (w.heap.size + 1)))).alloc (.cells #[.int .i64 x, .int .i64 p, .int .i64 a, .int .i64 e, .int .i64 f] 31)).alloc (.map #[] 0)).alloc (.cells #[.int .i64 x, .int .i64 p, .int .i64 a, .int .i64 e, .int .i64 f, .slice none 0 0] 71)).heap[i]? = w.heap[i]?) :=
    ⟨rfl, rfl, rfl, fun i hi h3 => (Below.heap_alloc _ _ _ (by simp; omega)).trans ((Below.heap_alloc _ _ _ (by simp; omega)).trans ((Below.heap_alloc _ _ _ (by simp; omega)).trans (Below.heap_setCell _ _ _ _ h3)))⟩
  have HQM : s.bm = some (w.heap.size + 1) ∨ (s.bm = none ∧ s.o (w.heap.size + 1) = .none) := .inr ⟨hbm, h.fresh _ (by omega)⟩
  have HMP : s.o (w.heap.size + 1) = .mp ∨ w.heap.size ≤ w.heap.size + 1 := .inr (by omega)
  rw [hbm] at c0
  have cf := h.fb.frozen
  have HM := Lib.hid h
  have hz1 : s.fb < w.heap.size + 1 := by omega
  have hz2 : s.fb < (w.alloc (.cells #[.int .i64 x, .int .i64 p, .int .i64 a, .int .i64 e, .int .i64 f] 31)).heap.size := by rw [size_alloc]; omega
  clear h hown0 hbm hD hids
  have hem := fun W r => run_eql_map_nil (P := Try.prog) W 51 3 68 r Try.underlying51
  have hmm := @run_makeMap Try.prog
  go_enter Try.func39, Try.ntmps39
  go_wp2_with fail
  obtain ⟨W4, hW4⟩ : ∃ W4, W4 = (((w.setCell ⟨s.fb, 0, none⟩ (.map (some (w.heap.size + 1)))).alloc (.cells #[.int .i64 x, .int .i64 p, .int .i64 a, .int .i64 e, .int .i64 f] 31)).alloc (.map #[] 0)).alloc (.cells #[.int .i64 x, .int .i64 p, .int .i64 a, .int .i64 e, .int .i64 f, .slice none 0 0] 71) := ⟨_, rfl⟩
  have hsz4 : W4.heap.size = w.heap.size + 1 + 1 + 1 := by rw [hW4]; simp
  rw [← hW4] at HO HB0 HG0 HF0 HE
  rw [show (((w.setCell ⟨s.fb, 0, none⟩ (.map (some (w.heap.size + 1)))).alloc (.cells #[.int .i64 x, .int .i64 p, .int .i64 a, .int .i64 e, .int .i64 f] 31)).alloc (.map #[] 0)).alloc (.cells #[.int .i64 x, .int .i64 p, .int .i64 a, .int .i64 e, .int .i64 f, .slice none 0 0] 71) = W4 from hW4.symm]
  clear hW4 c0 c1
  have d0 : W4.cell? ⟨s.fb, 0, none⟩ = some (.map (some (w.heap.size + 1))) := HF0.out.cell 0
  have d1 : W4.cell? ⟨w.heap.size, 0, none⟩ = some (.int .i64 x) := HB0.out.cell 0
  go_still_tail 7, (by kernel_rfl)
  have HO' := Lib.hid HO.out.drew
  have HB' := Lib.hid HB0.out.drew
  have HG' := Lib.hid HG0.out.drew
  have HF' := Lib.hid HF0.out.drew
  go_wp2_with (at_mapUpdate; refine wpList_mapUpdate_own _ rfl _ _ _ 51 rfl 3 68 key3 Try.underlying51 R68 (w.heap.size + 1) (s.ids.length) D rfl HO'.out (by unfold maxLen; omega) _ _ _ rfl rfl (Maps.keyOf_int_mk Try.underlying3 (wf64 h0 h1)) (.lit (.int .i64 (w.heap.size + 1 + 1 : Nat))) [] (R68_ptr _) ?_)
  intro w5 hown5 hgrow5
  have hbb : w.heap.size ≠ w.heap.size + 1 := by omega
  have hbg : w.heap.size + 1 + 1 ≠ w.heap.size + 1 := by omega
  have B5 := Lib.hid (grow_blk HB'.out hgrow5 hbb)
  have G5 := Lib.hid (grow_blk HG'.out hgrow5 hbg)
  have F5 := Lib.hid (grow_blk HF'.out hgrow5 hbf)
  have O5 := Lib.hid hown5
  have R5 := Lib.hid hgrow5
  have e1 : w5.cell? ⟨s.fb, 1, none⟩ = some (.int .i64 s.m) := F5.out.cell 1
  have e2 : w5.cell? ⟨w.heap.size, 2, none⟩ = some (.int .i64 a) := B5.out.cell 2
  have ef := F5.out.frozen
  clear hown5 hgrow5 HO' HB' HG' HF'
  go_wp2_with fail
  go_still_tail 7, (by kernel_rfl)
  have ef' : ∀ i, w5.drew.frozen? ⟨s.fb, i, none⟩ = false := ef
  have e1' : w5.drew.cell? ⟨s.fb, 1, none⟩ = some (.int .i64 s.m) := e1
  go_wp2_with fail
  go_ret
  have hK : ∀ i, i < w.heap.size → i ≠ s.fb → i ≠ w.heap.size + 1 → ((w5.setCell ⟨s.fb, 1, none⟩ (.int .i64 (wrap64 (s.m + a)))).drew).heap[i]? = w.heap[i]? := fun i hi h3 h4 =>
    (Below.heap_setCell _ _ _ _ h3).trans (((R5.out.block i (by show i < W4.heap.size; omega) (by simpa using h4))).trans (HE.out.2.2.2 i hi h3))
  have hsz : w.heap.size ≤ ((w5.setCell ⟨s.fb, 1, none⟩ (.int .i64 (wrap64 (s.m + a)))).drew).heap.size := by
    have := R5.out.size
    have e9 : W4.drew.heap.size = W4.heap.size := rfl
    have e8 : ((w5.setCell ⟨s.fb, 1, none⟩ (.int .i64 (wrap64 (s.m + a)))).drew).heap.size = w5.heap.size := by simp
    omega
  refine ⟨w.heap.size + 1 + 1, rfl, G5.out.drew.set_ne _ _ (by show w.heap.size + 1 + 1 ≠ s.fb; omega), fun B hB hn => ⟨R5.out.os.trans HE.out.1, R5.out.tape.trans HE.out.2.1, R5.out.output.trans HE.out.2.2.1, hsz, fun i hi => hK i (by omega) ?_ ?_⟩⟩
  · intro e'; have := hn i hi; rw [e', HM.out.ofb] at this; cases this
  · intro e'; omega
theorem putb_any {w : World} {s : FS} (h : Mem w s) (x p a e f : Int) (h0 : -9223372036854775808 ≤ x) (h1 : x ≤ 9223372036854775807) (hl : s.ids.length ≤ 100000) :
    Calls Try.prog 39 #[.pointer (some ⟨s.fb, 0, none⟩), .agg #[.int .i64 x, .int .i64 p, .int .i64 a, .int .i64 e, .int .i64 f]] w (PutB s w x p a e f) := by
  cases hb : s.bm with
  | none => exact putb_nil h x p a e f hb h0 h1 hl
  | some b => exact putb_some h x p a e f b hb h0 h1 hl
end Go.Proofs.Ytmnkgjgaileokaa

/- Plain laws of opened funds: what the rows of a code make. -/
namespace Go.Proofs.Ytmnkgjgaileokaa

def at5 (L : List Int) (k i : Nat) : Int := L.getD (5 * k + i) 0
def pvN (L : List Int) : Nat → PV
  | 0 => q0
  | k + 1 => (pvN L k).put (at5 L k 0) (at5 L k 1) (at5 L k 2) (at5 L k 3) (at5 L k 4)
def lastN (L : List Int) : Nat → Int
  | 0 => 0
  | k + 1 => at5 L k 0
def rightN (L : List Int) (k : Nat) : Bool := rightB (at5 L k 0) (at5 L k 1) (at5 L k 2) (at5 L k 3) (at5 L k 4)
/-- The first k rows are fine. -/
def OkN (L : List Int) : Nat → Prop
  | 0 => True
  | k + 1 => OkN L k ∧ rightN L k = true ∧ lastN L k < at5 L k 0 ∧ (pvN L k).m + at5 L k 2 ≤ 1000000000000000
structure OkV (v : PV) (last : Int) : Prop where
  pw : v.ids.Pairwise (· < ·)
  le : ∀ x ∈ v.ids, 1 ≤ x ∧ x ≤ last
  par : ∀ x ∈ v.ids, 0 ≤ v.pa x ∧ v.pa x ≤ 9223372036854775807
  nok : ∀ x ∈ v.ids, v.kids x = []
  sp : ∀ x ∈ v.ids, 0 ≤ v.sp x
  en : ∀ x ∈ v.ids, 0 ≤ v.en x
  bal : ∀ x ∈ v.ids, v.sp x + v.en x ≤ v.al x
  sum : v.m = (v.ids.map v.al).sum
  m1 : v.m ≤ 1000000000000000
theorem OkV.new : OkV q0 0 := ⟨List.Pairwise.nil, fun _ h => (by cases h), fun _ h => (by cases h), fun _ h => (by cases h), fun _ h => (by cases h), fun _ h => (by cases h), fun _ h => (by cases h), rfl, (by show (0 : Int) ≤ _; omega)⟩
theorem map_upd {f : Int → Int} {l : List Int} {x v : Int} (h : x ∉ l) : l.map (upd f x v) = l.map f :=
  List.map_congr_left fun z hz => upd_ne f v (fun e => h (e ▸ hz))
theorem OkV.put {v : PV} {last x p a s e : Int} (h : OkV v last) (h0 : 0 ≤ last) (hx : last < x) (hp : p ≤ 9223372036854775807) (hr : rightB x p a s e = true) (hm : v.m + a ≤ 1000000000000000) : OkV (v.put x p a s e) x := by
  have hr := of_decide_eq_true hr
  obtain ⟨r1, r2, r3, r4, r5, r6, r7⟩ := hr
  have hn : x ∉ v.ids := fun hx' => by have := (h.le x hx').2; omega
  have key : ∀ z ∈ v.ids ++ [x], z = x ∨ (z ∈ v.ids ∧ z ≠ x) := fun z hz => by
    by_cases e : z = x
    · exact .inl e
    · rcases List.mem_append.1 hz with h | h
      · exact .inr ⟨h, e⟩
      · simp at h; exact .inl h
  have num : ∀ {z : Int}, z ∈ (v.put x p a s e).ids → (z = x ∧ (v.put x p a s e).pa z = p ∧ (v.put x p a s e).al z = a ∧ (v.put x p a s e).sp z = s ∧ (v.put x p a s e).en z = e ∧ (v.put x p a s e).kids z = []) ∨
      (z ∈ v.ids ∧ (v.put x p a s e).pa z = v.pa z ∧ (v.put x p a s e).al z = v.al z ∧ (v.put x p a s e).sp z = v.sp z ∧ (v.put x p a s e).en z = v.en z ∧ (v.put x p a s e).kids z = v.kids z) := fun {z} hz => by
    rcases key z hz with rfl | ⟨h1, h2⟩
    · exact .inl ⟨rfl, upd_same _ _ _, upd_same _ _ _, upd_same _ _ _, upd_same _ _ _, if_pos rfl⟩
    · exact .inr ⟨h1, upd_ne _ _ h2, upd_ne _ _ h2, upd_ne _ _ h2, upd_ne _ _ h2, if_neg h2⟩
  refine ⟨?_, fun z hz => ?_, fun z hz => ?_, fun z hz => ?_, fun z hz => ?_, fun z hz => ?_, fun z hz => ?_, ?_, hm⟩
  · refine List.pairwise_append.2 ⟨h.pw, by simp, fun y hy z hz => ?_⟩
    simp at hz; subst hz
    have := (h.le y hy).2; omega
  · rcases num hz with ⟨rfl, _⟩ | ⟨h1, _⟩
    · omega
    · have := h.le z h1; omega
  · rcases num hz with ⟨_, h1, _⟩ | ⟨h1, h2, _⟩
    · rw [h1]; omega
    · rw [h2]; exact h.par z h1
  · rcases num hz with ⟨_, _, _, _, _, h1⟩ | ⟨h1, _, _, _, _, h2⟩
    · exact h1
    · rw [h2]; exact h.nok z h1
  · rcases num hz with ⟨_, _, _, h1, _⟩ | ⟨h1, _, _, h2, _⟩
    · rw [h1]; exact r3
    · rw [h2]; exact h.sp z h1
  · rcases num hz with ⟨_, _, _, _, h1, _⟩ | ⟨h1, _, _, _, h2, _⟩
    · rw [h1]; exact r4
    · rw [h2]; exact h.en z h1
  · rcases num hz with ⟨_, _, h1, h2, h3, _⟩ | ⟨h0, _, h1, h2, h3, _⟩
    · rw [h1, h2, h3]; omega
    · rw [h1, h2, h3]; exact h.bal z h0
  · show v.m + a = ((v.ids ++ [x]).map (upd v.al x a)).sum
    rw [List.map_append, map_upd hn, List.sum_append, h.sum]
    simp [upd_same]
theorem lastN_nn {L : List Int} : ∀ k, OkN L k → 0 ≤ lastN L k
  | 0, _ => Int.le_refl _
  | k + 1, h => by
    have h1 := of_decide_eq_true h.2.1
    show 0 ≤ at5 L k 0
    omega
theorem at5_in {L : List Int} (h : AllIn L) (k i : Nat) : -9223372036854775808 ≤ at5 L k i ∧ at5 L k i ≤ 9223372036854775807 := by
  unfold at5
  rw [List.getD_eq_getElem?_getD]
  cases e : L[5 * k + i]? with
  | none => simp
  | some n => exact h n (List.mem_of_getElem? e)
theorem okN_v {L : List Int} (hL : AllIn L) : ∀ k, OkN L k → OkV (pvN L k) (lastN L k)
  | 0, _ => OkV.new
  | k + 1, h => (okN_v hL k h.1).put (lastN_nn k h.1) h.2.2.1 (at5_in hL k 1).2 h.2.1 h.2.2.2
theorem ids_len (L : List Int) : ∀ k, (pvN L k).ids.length = k
  | 0 => rfl
  | k + 1 => by show ((pvN L k).ids ++ [at5 L k 0]).length = k + 1; rw [List.length_append, ids_len L k]; rfl
theorem OkV.nd {v : PV} {last : Int} (h : OkV v last) : v.ids.Nodup := h.pw.imp fun h e => by omega
theorem OkV.m0 {v : PV} {last : Int} (h : OkV v last) : 0 ≤ v.m := by
  rw [h.sum]
  exact sum_nonneg _ _ fun z hz => by have := h.bal z hz; have := h.sp z hz; have := h.en z hz; omega
theorem OkV.srt {v : PV} {last : Int} (h : OkV v last) : v.sorted = v.ids := by
  unfold PV.sorted
  exact List.mergeSort_of_pairwise (h.pw.imp fun h => by unfold leI; simp; omega)
/-- Opened funds are as funds should be. -/
theorem OkV.good {v u : PV} {last : Int} (h : OkV v last) (hl : last ≤ 9223372036854775807) (hlen : v.ids.length ≤ 10000) (e1 : u.m = v.m) (e2 : u.ids = v.ids) (e3 : u.pa = v.pa) (e4 : u.al = v.al) (e5 : u.sp = v.sp) (e6 : u.en = v.en)
    (hk : ∀ y ∈ v.ids, u.kids y = v.ids.filter fun z => v.pa z == y) (hE : ∀ x ∈ v.ids, EndAt v.ids v.pa x) : Good u := by
  have f : Forest v.ids v.pa u.kids := ⟨h.nd, hk, fun x hx e => by have := (h.le x hx).1; omega⟩
  refine ⟨?_, ?_, ?_, ?_, ?_, ?_, ?_⟩
  · rw [e2, e5, e6]
    refine ⟨h.nd, h.sp, h.en, fun x hx => by have := h.le x hx; omega, fun x hx y hy => ?_, fun x hx => ?_⟩
    · obtain ⟨h1, h2⟩ := (f.mem hx).1 hy
      refine ⟨h1, fun e => ?_⟩
      subst e
      obtain ⟨A, hA⟩ := hE y hx
      have := (hA.kid f hx hy).2.uniq hA
      have := congrArg List.length this
      rw [List.length_cons] at this
      omega
    · rw [hk x hx]
      have := List.length_filter_le (fun z => v.pa z == x) v.ids
      omega
  · rw [e2, e4, e5, e6]
    exact ⟨h.bal, by rw [← h.sum]; exact h.m1⟩
  · rw [e1, e2, e4]; exact h.sum
  · rw [e2]; exact fun x hx => deep_end f (hE x hx) hx
  · rw [e2]; exact hlen
  · rw [e2, e3]; exact hk
  · rw [e2, e3]
    intro x hx
    rcases (hE x hx).par with h | h
    · exact .inl h
    · exact .inr h.1
end Go.Proofs.Ytmnkgjgaileokaa
