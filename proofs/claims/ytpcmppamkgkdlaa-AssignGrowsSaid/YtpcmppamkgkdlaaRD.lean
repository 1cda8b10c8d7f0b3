/- The state of open's loop: what is prepared so far. -/
import Derived.Test.YtpcmppamkgkdlaaPL
import Derived.Test.YtpcmppamkgkdlaaRB
namespace Go.Proofs.Ytpcmppamkgkdlaa
open Go.RowKit Go.Maps

/-- A block of the elements: not one of those that grow. -/
def El (pb : Nat) (av kv : Value) (b : Nat) : Prop := pb < b ∧ av.ownBlock ≠ some b ∧ kv.ownBlock ≠ some b
structure OS (P : Prob) (w0 W : World) (pb k : Nat) (av kv : Value) (us ms : List Value) : Prop where
  pbk : Blk W pb #[av, kv, .int .i64 P.n] 57
  ra : W.ownsRow (pb + 1) 30 1 av k us
  rk : W.ownsRow (pb + 1) 66 1 kv k ms
  acc : ∀ j, j < k → ∃ u, us[j]? = some u ∧ IntsIn W (El pb av kv) u (ints (P.acc j))
  cst : ∀ j, j < k → ∃ mb, ms[j]? = some (.map (some mb)) ∧ El pb av kv mb ∧ MapAt W mb (ints (P.acc j)) (fun x => P.cst j x.toNat)
  nea : ∀ r, av.ownBlock = some r → r ≠ pb ∧ kv.ownBlock ≠ some r
  nek : ∀ r, kv.ownBlock = some r → r ≠ pb
  bel : Below pb w0 W
/-- What an append may do to a row's block. -/
def Goes (v v' : Value) (H : Nat) : Prop := ∀ r, v'.ownBlock = some r → v.ownBlock = some r ∨ H ≤ r
theorem OS.step {P : Prob} {w0 W W' : World} {pb k : Nat} {av kv av' kv' u : Value} {us ms : List Value} {mb : Nat} (h : OS P w0 W pb k av kv us ms)
    (t : Tn (fun b => b = pb ∨ av.ownBlock = some b ∨ kv.ownBlock = some b) W W') (hp : Blk W' pb #[av', kv', .int .i64 P.n] 57)
    (ra : W'.ownsRow (pb + 1) 30 1 av' (k + 1) (us ++ [u])) (rk : W'.ownsRow (pb + 1) 66 1 kv' (k + 1) (ms ++ [.map (some mb)]))
    (ga : Goes av av' W.heap.size) (gk : Goes kv kv' W.heap.size) (gak : ∀ r, av'.ownBlock = some r → kv'.ownBlock = some r → W.heap.size ≤ r → False)
    (hu : IntsIn W' (fun b => W.heap.size ≤ b ∧ av'.ownBlock ≠ some b ∧ kv'.ownBlock ≠ some b) u (ints (P.acc k)))
    (hm : MapAt W' mb (ints (P.acc k)) (fun x => P.cst k x.toNat)) (hmb : W.heap.size ≤ mb ∧ av'.ownBlock ≠ some mb ∧ kv'.ownBlock ≠ some mb) :
    OS P w0 W' pb (k + 1) av' kv' (us ++ [u]) (ms ++ [.map (some mb)]) := by
  have hpl := h.pbk.lt
  have lus : us.length = k := by have := h.ra.1; omega
  have lms : ms.length = k := by have := h.rk.1; omega
  have el : ∀ b, b < W.heap.size → El pb av kv b → El pb av' kv' b := fun b hb ⟨h1, h2, h3⟩ =>
    ⟨h1, fun e => (ga b e).elim h2 (by omega), fun e => (gk b e).elim h3 (by omega)⟩
  have eF : ∀ b, El pb av kv b → ¬ (b = pb ∨ av.ownBlock = some b ∨ kv.ownBlock = some b) := fun b ⟨h1, h2, h3⟩ h => by
    rcases h with h | h | h
    · omega
    · exact h2 h
    · exact h3 h
  refine ⟨hp, ra, rk, fun j hj => ?_, fun j hj => ?_, fun r hr => ?_, fun r hr => ?_, ?_⟩
  · rcases Nat.lt_or_ge j k with hlt | hge
    · obtain ⟨x, hx, hI⟩ := h.acc j hlt
      refine ⟨x, by rw [List.getElem?_append_left (by omega)]; exact hx, hI.keep t (fun b hb _ => eF b hb) (fun b hb hl => el b hl hb)⟩
    · obtain rfl : j = k := by omega
      exact ⟨u, by rw [← lus]; simp, hu.keep (Tn.refl (fun _ => False) _) (fun _ _ _ => id) fun b ⟨h1, h2, h3⟩ _ => ⟨by omega, h2, h3⟩⟩
  · rcases Nat.lt_or_ge j k with hlt | hge
    · obtain ⟨x, hx, hI, hM⟩ := h.cst j hlt
      exact ⟨x, by rw [List.getElem?_append_left (by omega)]; exact hx, el x hM.lt hI, hM.keep t (eF x hI)⟩
    · obtain rfl : j = k := by omega
      exact ⟨mb, by rw [← lms]; simp, ⟨by omega, hmb.2.1, hmb.2.2⟩, hm⟩
  · rcases ga r hr with g | g
    · exact ⟨(h.nea r g).1, fun e => by
        rcases gk r e with g' | g'
        · exact (h.nea r g).2 g'
        · have := (row_lt h.ra r g).2; omega⟩
    · exact ⟨by omega, fun e => gak r hr e g⟩
  · rcases gk r hr with g | g
    · exact h.nek r g
    · omega
  · refine h.bel.trans (t.below (by omega) fun b hb => ?_)
    rcases hb with rfl | hb | hb
    · exact Nat.le_refl _
    · have := (row_lt h.ra b hb).1; omega
    · have := (row_lt h.rk b hb).1; omega
theorem OS.start {P : Prob} {w : World} {pb : Nat} (hp : Blk w pb #[.slice none 0 0, .slice none 0 0, .int .i64 P.n] 57) {w0 : World} (hb : Below pb w0 w) :
    OS P w0 w pb 0 (.slice none 0 0) (.slice none 0 0) [] [] :=
  ⟨hp, World.ownsRow_nil _ _ _ _, World.ownsRow_nil _ _ _ _, fun j hj => by omega, fun j hj => by omega, fun r hr => (by cases hr), fun r hr => (by cases hr), hb⟩
theorem OS.done {P : Prob} {w0 W W' : World} {pb : Nat} {av kv : Value} {us ms : List Value} {m : Nat} (h : OS P w0 W pb m av kv us ms) (hm : P.m = m) (t : Tn (fun b => b ≤ pb) W W') : PM P W' W'.heap.size av kv where
  acc := by
    obtain ⟨a, cap, e, h0⟩ := row_cell (t.row h.ra (fun r hr => by have := (row_lt h.ra r hr).1; omega))
    refine ⟨a, cap, by rw [hm]; exact e, fun k hk => ?_⟩
    rw [hm] at hk
    rcases h0 with h0 | ⟨g, rfl, _, hc⟩
    · omega
    · obtain ⟨u, hu, hI⟩ := h.acc k hk
      exact ⟨g, u, rfl, cell_lt (hc k u hu), hc k u hu, (hI.keep (S' := fun _ => True) t (fun b hb _ => by have := hb.1; omega) (fun _ _ _ => trivial)).ints fun b _ hb => hb⟩
  cst := by
    obtain ⟨a, cap, e, h0⟩ := row_cell (t.row h.rk (fun r hr => by have := (row_lt h.rk r hr).1; omega))
    refine ⟨a, cap, by rw [hm]; exact e, fun k hk => ?_⟩
    rw [hm] at hk
    rcases h0 with h0 | ⟨g, rfl, _, hc⟩
    · omega
    · obtain ⟨mb, hu, hE, hM⟩ := h.cst k hk
      have hM' := hM.keep t (by have := hE.1; omega)
      exact ⟨g, mb, rfl, cell_lt (hc k _ hu), hc k _ hu, hM'.lt, hM'⟩
theorem info3 : (Try.prog.info? 3).map (fun i => (i.zero, i.size, i.bytes)) = some (some (.int .i64 0), 1, 8) := by kernel_rfl
theorem info30 : (Try.prog.info? 30).map (fun i => (i.zero, i.size, i.bytes)) = some (some (.slice none 0 0), 1, 24) := by kernel_rfl
theorem info66 : (Try.prog.info? 66).map (fun i => (i.zero, i.size, i.bytes)) = some (some (.map none), 1, 8) := by kernel_rfl
theorem one_ {v : Value} (h : v.oneCell' = true) : ∀ u ∈ [v], u.oneCell' = true := by simp [h]
theorem news_ (w : World) (v : Value) (T : TypeId) : ∀ j u, [v][j]? = some u → (w.alloc (.cells #[v] T)).cell? ((⟨w.heap.size, 0, none⟩ : Addr).add j) = some u :=
  World.news_of_block (cs := #[v]) (t := T) (fr := (0, 0)) (heap_alloc_new w _)
/-- Where the cell of a fresh block stands later. -/
theorem news_at {w : World} {b : Nat} {v : Value} {T : TypeId} (h : Blk w b #[v] T) : ∀ j u, [v][j]? = some u → w.cell? ((⟨b, 0, none⟩ : Addr).add j) = some u :=
  World.news_of_block (cs := #[v]) (t := T) (fr := (0, 0)) h

/-! What is at hand where a want's copies and costs are appended -/
theorem OwnSl.alloc {w : World} {B : Nat} {a : Option Addr} {D : List Int} {cap : Nat} (h : OwnSl w B a D cap) (o : Obj) : OwnSl (w.alloc o) B a D cap := h.keep ((Tn.refl (fun _ => False) w).alloc o) (fun _ _ _ _ => id)
def Fo (pb : Nat) (av0 kv0 : Value) (b : Nat) : Prop := b = pb ∨ av0.ownBlock = some b ∨ kv0.ownBlock = some b
structure Bun (av0 kv0 : Value) (wo W : World) (pb : Nat) (pc : Array Value) (av : Value) (k : Nat) (us : List Value) (kv : Value) (q : Nat) (ms : List Value) (lo : Nat) (a1 : Option Addr) (cap1 : Nat) (D : List Int) (mb : Nat) (S : List Int) (f : Int → Int) : Prop where
  T : Tn (Fo pb av0 kv0) wo W
  pbk : Blk W pb pc 57
  ra : W.ownsRow (pb + 1) 30 1 av k us
  rk : W.ownsRow (pb + 1) 66 1 kv q ms
  sl : OwnSl W lo a1 D cap1
  mp : MapAt W mb S f
  sa : ∀ r, av.ownBlock = some r → r ≠ pb ∧ kv.ownBlock ≠ some r ∧ r ≠ mb ∧ ∀ o, a1 ≠ some ⟨r, o, none⟩
  sk : ∀ r, kv.ownBlock = some r → r ≠ pb ∧ r ≠ mb ∧ ∀ o, a1 ≠ some ⟨r, o, none⟩
  fa : Goes av0 av wo.heap.size
  fk : Goes kv0 kv wo.heap.size
  sm : wo.heap.size ≤ mb ∧ mb < lo ∧ mb ≠ pb ∧ pb < W.heap.size
  al : ∀ b o, a1 = some ⟨b, o, none⟩ → lo ≤ b ∧ b ≠ pb ∧ b < W.heap.size
namespace Bun
variable {av0 kv0 : Value} {wo W W' : World} {pb : Nat} {pc : Array Value} {av kv : Value} {k q lo cap1 mb : Nat} {us ms : List Value} {a1 : Option Addr} {D : List Int} {S : List Int} {f : Int → Int}
theorem move {G : Nat → Prop} (h : Bun av0 kv0 wo W pb pc av k us kv q ms lo a1 cap1 D mb S f) (t : Tn G W W') (g1 : ¬ G pb) (g2 : ∀ r, av.ownBlock = some r → ¬ G r) (g3 : ∀ r, kv.ownBlock = some r → ¬ G r) (g4 : ¬ G mb) (g5 : ∀ b o, a1 = some ⟨b, o, none⟩ → ¬ G b) (g6 : ∀ b, G b → Fo pb av0 kv0 b ∨ wo.heap.size ≤ b) :
    Bun av0 kv0 wo W' pb pc av k us kv q ms lo a1 cap1 D mb S f :=
  ⟨h.T.then_ t g6, t.blk h.pbk g1, t.row h.ra g2, t.row h.rk g3, h.sl.keep t (fun b _ _ e => g5 b 0 e), h.mp.keep t g4, h.sa, h.sk, h.fa, h.fk, ⟨h.sm.1, h.sm.2.1, h.sm.2.2.1, by have := h.sm.2.2.2; have := t.size; omega⟩, fun b o e => by have := h.al b o e; have := t.size; exact ⟨by omega, by omega, by omega⟩⟩
theorem alloc (h : Bun av0 kv0 wo W pb pc av k us kv q ms lo a1 cap1 D mb S f) (o : Obj) : Bun av0 kv0 wo (W.alloc o) pb pc av k us kv q ms lo a1 cap1 D mb S f :=
  h.move ((Tn.refl (fun _ => False) W).alloc o) id (fun _ _ => id) (fun _ _ => id) id (fun _ _ _ => id) (fun _ h => h.elim)
theorem drew (h : Bun av0 kv0 wo W pb pc av k us kv q ms lo a1 cap1 D mb S f) : Bun av0 kv0 wo W.drew pb pc av k us kv q ms lo a1 cap1 D mb S f :=
  h.move ((Tn.refl (fun _ => False) W).drew) id (fun _ _ => id) (fun _ _ => id) id (fun _ _ _ => id) (fun _ h => h.elim)
theorem compact {D' : List Int} (h : Bun av0 kv0 wo W pb pc av k us kv q ms lo a1 cap1 D mb S f) (t : Tn (fun b => ∃ o, a1 = some ⟨b, o, none⟩) W W') (ho : OwnSl W' lo a1 D' cap1) : Bun av0 kv0 wo W' pb pc av k us kv q ms lo a1 cap1 D' mb S f :=
  have g : ∀ b, (∃ o, a1 = some ⟨b, o, none⟩) → wo.heap.size ≤ b := fun b ⟨o, e⟩ => by have := h.al b o e; have := h.sm; omega
  ⟨h.T.then_ t (fun b hb => .inr (g b hb)), t.blk h.pbk (fun ⟨o, e⟩ => (h.al _ o e).2.1 rfl), t.row h.ra (fun r hr ⟨o, e⟩ => (h.sa r hr).2.2.2 o e), t.row h.rk (fun r hr ⟨o, e⟩ => (h.sk r hr).2.2 o e), ho,
    h.mp.keep t (fun ⟨o, e⟩ => by have := h.al _ o e; have := h.sm; omega), h.sa, h.sk, h.fa, h.fk, ⟨h.sm.1, h.sm.2.1, h.sm.2.2.1, by have := h.sm.2.2.2; have := t.size; omega⟩, fun b o e => by have := h.al b o e; have := t.size; exact ⟨by omega, by omega, by omega⟩⟩
theorem app_a {g n cap H : Nat} {us' : List Value} (h : Bun av0 kv0 wo W pb pc av k us kv q ms lo a1 cap1 D mb S f) (hr : W'.ownsRow (pb + 1) 30 1 (.slice (some ⟨g, 0, none⟩) n cap) n us') (hg : W.grownBy W' av.ownBlock) (hat : av.ownBlock = some g ∨ g = H) (hH : W.heap.size ≤ H) :
    Bun av0 kv0 wo W' pb pc (.slice (some ⟨g, 0, none⟩) n cap) n us' kv q ms lo a1 cap1 D mb S f := by
  have t := Tn.of_grown hg
  have hs := t.size
  have hml := h.mp.lt
  have kl := fun r hr => (row_lt h.rk r hr).2
  have hg' : ∀ r, (Value.slice (some ⟨g, 0, none⟩) n cap).ownBlock = some r → g = r := fun r e => by injection e
  refine ⟨h.T.then_ t (fun r e => (h.fa r e).elim (fun g => .inl (.inr (.inl g))) .inr), t.blk h.pbk (fun e => (h.sa _ e).1 rfl), hr, t.row h.rk (fun r hr e => (h.sa r e).2.1 hr), h.sl.keep t (fun b _ _ e e2 => (h.sa b e2).2.2.2 0 e), h.mp.keep t (fun e => (h.sa _ e).2.2.1 rfl), fun r e => ?_, h.sk, fun r e => ?_, h.fk,
    ⟨h.sm.1, h.sm.2.1, h.sm.2.2.1, by have := h.sm.2.2.2; omega⟩, fun b o e => by have := h.al b o e; exact ⟨by omega, by omega, by omega⟩⟩
  · obtain rfl := hg' r e
    rcases hat with hat | hat
    · exact h.sa g hat
    · have h1 := h.sm
      exact ⟨by omega, fun e2 => by have := kl g e2; omega, by omega, fun o e2 => by have := h.al g o e2; omega⟩
  · obtain rfl := hg' r e
    rcases hat with hat | hat
    · exact h.fa g hat
    · exact .inr (by have := h.T.size; omega)
theorem app_k {g n cap H : Nat} {ms' : List Value} (h : Bun av0 kv0 wo W pb pc av k us kv q ms lo a1 cap1 D mb S f) (hr : W'.ownsRow (pb + 1) 66 1 (.slice (some ⟨g, 0, none⟩) n cap) n ms') (hg : W.grownBy W' kv.ownBlock) (hat : kv.ownBlock = some g ∨ g = H) (hH : W.heap.size ≤ H) :
    Bun av0 kv0 wo W' pb pc av k us (.slice (some ⟨g, 0, none⟩) n cap) n ms' lo a1 cap1 D mb S f := by
  have t := Tn.of_grown hg
  have hs := t.size
  have hml := h.mp.lt
  have kl := fun r hr => (row_lt h.ra r hr).2
  have hg' : ∀ r, (Value.slice (some ⟨g, 0, none⟩) n cap).ownBlock = some r → g = r := fun r e => by injection e
  refine ⟨h.T.then_ t (fun r e => (h.fk r e).elim (fun g => .inl (.inr (.inr g))) .inr), t.blk h.pbk (fun e => (h.sk _ e).1 rfl), t.row h.ra (fun r hr e => (h.sa r hr).2.1 e), hr, h.sl.keep t (fun b _ _ e e2 => (h.sk b e2).2.2 0 e), h.mp.keep t (fun e => (h.sk _ e).2.1 rfl), fun r e => ?_, fun r e => ?_, h.fa, fun r e => ?_,
    ⟨h.sm.1, h.sm.2.1, h.sm.2.2.1, by have := h.sm.2.2.2; omega⟩, fun b o e => by have := h.al b o e; exact ⟨by omega, by omega, by omega⟩⟩
  · have h1 := h.sa r e
    refine ⟨h1.1, fun e2 => ?_, h1.2.2⟩
    obtain rfl := hg' r e2
    rcases hat with hat | hat
    · exact h1.2.1 hat
    · have := kl g e; omega
  · obtain rfl := hg' r e
    rcases hat with hat | hat
    · exact h.sk g hat
    · have h1 := h.sm
      exact ⟨by omega, by omega, fun o e2 => by have := h.al g o e2; omega⟩
  · obtain rfl := hg' r e
    rcases hat with hat | hat
    · exact h.fk g hat
    · exact .inr (by have := h.T.size; omega)
end Bun
theorem OS.next {P : Prob} {w0 wo W : World} {pb k : Nat} {av0 kv0 av kv : Value} {us ms : List Value} {lo cap1 mb : Nat} {a1 : Option Addr} (h : OS P w0 wo pb k av0 kv0 us ms)
    (b : Bun av0 kv0 wo W pb #[av0, kv0, .int .i64 P.n] av (k + 1) (us ++ [.slice a1 (ints (P.acc k)).length cap1]) kv (k + 1) (ms ++ [.map (some mb)]) lo a1 cap1 (ints (P.acc k)) mb (ints (P.acc k)) (fun x => P.cst k x.toNat)) :
    OS P w0 ((W.setCell ⟨pb, 0, none⟩ av).setCell ⟨pb, 1, none⟩ kv) pb (k + 1) av kv (us ++ [.slice a1 (ints (P.acc k)).length cap1]) (ms ++ [.map (some mb)]) := by
  have t2 : Tn (fun b => b = pb) W ((W.setCell ⟨pb, 0, none⟩ av).setCell ⟨pb, 1, none⟩ kv) := ((Tn.refl (fun b => b = pb) W).setCell (p := ⟨pb, 0, none⟩) (.inl rfl) _).setCell (p := ⟨pb, 1, none⟩) (.inl rfl) _
  refine h.step (b.T.then_ t2 (fun x e => .inl (.inl e))) (((b.pbk.set 0 av).set 1 kv).cast (by simp)) (t2.row b.ra fun r hr e => (b.sa r hr).1 e) (t2.row b.rk fun r hr e => (b.sk r hr).1 e) b.fa b.fk (fun r h1 h2 _ => (b.sa r h1).2.1 h2) ?_ (b.mp.keep t2 b.sm.2.2.1) ⟨b.sm.1, fun e => (b.sa _ e).2.2.1 rfl, fun e => (b.sk _ e).2.1 rfl⟩
  refine b.sl.ints.keep t2 (fun x ⟨h1, _, h3⟩ _ e => (b.al x 0 h3).2.1 e) (fun x ⟨h1, h2, h3⟩ _ => ⟨?_, fun e => (b.sa x e).2.2.2 0 h3, fun e => (b.sk x e).2.2 0 h3⟩)
  have := b.sm; omega
end Go.Proofs.Ytpcmppamkgkdlaa
