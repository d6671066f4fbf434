/- Chapter 05: what is left of a net, in memory (flow.rest); frames about two rows that are turned. -/
import Derived.Test.YthlefdbhkbpejaaGreatInts
import Derived.Test.YthlefdbhkbpejaaGreatFMst
import Derived.Laws.OwnMore
namespace Go.Proofs.YthlefdbhkbpejaaGreat.F5
open Go Go.RowKit

/-- Below block number H all is as it was but the rows g1 and g2. -/
structure Frm (H : Nat) (g1 g2 : Option Nat) (W W' : World) : Prop where
  os : W'.os = W.os
  tape : W'.tape = W.tape
  output : W'.output = W.output
  size : W.heap.size ≤ W'.heap.size
  block : ∀ k, k < H → some k ≠ g1 → some k ≠ g2 → W'.heap[k]? = W.heap[k]?
section
variable {H H' : Nat} {g1 g2 : Option Nat} {W W' W'' : World}
theorem Frm.refl (H : Nat) (g1 g2 : Option Nat) (W : World) : Frm H g1 g2 W W := ⟨rfl, rfl, rfl, Nat.le_refl _, fun _ _ _ _ => rfl⟩
theorem Frm.trans (h : Frm H g1 g2 W W') (k : Frm H g1 g2 W' W'') : Frm H g1 g2 W W'' :=
  ⟨k.os.trans h.os, k.tape.trans h.tape, k.output.trans h.output, Nat.le_trans h.size k.size, fun i a b c => (k.block i a b c).trans (h.block i a b c)⟩
theorem Frm.mono (h : Frm H g1 g2 W W') (hl : H' ≤ H) : Frm H' g1 g2 W W' := ⟨h.os, h.tape, h.output, h.size, fun k hk => h.block k (by omega)⟩
theorem Frm.of (h : Below H W W') : Frm H g1 g2 W W' := ⟨h.os, h.tape, h.output, h.size, fun k hk _ _ => h.block k hk⟩
theorem Frm.low (h : Frm H g1 g2 W W') {n : Nat} (hn : n ≤ H) (h1 : ∀ g, g1 = some g → n ≤ g) (h2 : ∀ g, g2 = some g → n ≤ g) : Below n W W' :=
  ⟨h.os, h.tape, h.output, h.size, fun k hk => h.block k (by omega) (fun e => by have := h1 k e.symm; omega) (fun e => by have := h2 k e.symm; omega)⟩
theorem Frm.later (h : Frm H g1 g2 W W') (b : Below W'.heap.size W' W'') (hl : H ≤ W'.heap.size) : Frm H g1 g2 W W'' := h.trans (Frm.of (b.mono hl))
theorem Frm.alloc (h : Frm H g1 g2 W W') (hl : H ≤ W'.heap.size) (o : Obj) : Frm H g1 g2 W (W'.alloc o) := h.later (below_alloc (below_self W') o) hl
theorem Frm.set (h : Frm H g1 g2 W W') {a : Addr} (ha : H ≤ a.block ∨ some a.block = g1 ∨ some a.block = g2) (u : Value) : Frm H g1 g2 W (W'.setCell a u) :=
  h.trans ⟨rfl, rfl, rfl, by simp [World.setCell], fun k hk n1 n2 => Below.heap_setCell _ _ _ _ (by rintro rfl; rcases ha with h | h | h <;> first | omega | exact n1 h | exact n2 h)⟩
theorem Frm.put (h : Frm H g1 g2 W W') {l : Nat} (hl : H ≤ l) (o : Obj) : Frm H g1 g2 W (W'.putObj l o) :=
  h.trans ⟨rfl, rfl, rfl, by simp, fun k hk _ _ => World.putObj_heap_other (by omega)⟩
theorem Frm.blk (h : Frm H g1 g2 W W') {k : Nat} {o : Obj} (hb : W.heap[k]? = some o) (hk : k < H) (h1 : some k ≠ g1) (h2 : some k ≠ g2) : W'.heap[k]? = some o := (h.block k hk h1 h2).trans hb
end
theorem owns_frm {W W' : World} {H : Nat} {g1 g2 : Option Nat} (hf : Frm H g1 g2 W W') {base : Nat} {e : TypeId} {k : Nat} {v : Value} {n : Nat} {xs : List Value} (h : W.ownsRow base e k v n xs) (hH : W.heap.size ≤ H) (h1 : ∀ g, v.ownBlock = some g → some g ≠ g1 ∧ some g ≠ g2) : W'.ownsRow base e k v n xs :=
  owns_kept h fun g hg => hf.block g (Nat.lt_of_lt_of_le (h.lt g hg).2 hH) (h1 g hg).1 (h1 g hg).2

/-- The block g is none of the rest's own but, perhaps, that of what is left. -/
structure Apart (n p : Nat) (vt va : Value) (rows : List Value) (g : Nat) : Prop where
  p : g ≠ p
  t : vt.ownBlock ≠ some g
  a : va.ownBlock ≠ some g
  r : ∀ u, u < n → (rows.getD u (.slice none 0 0)).ownBlock ≠ some g
/-- flow.rest at block p: the edges' heads, what is left of the edges (lv), each node's edges. -/
structure Rst (B : Nat) (l : List Ar) (n p : Nat) (vt vl va : Value) (rows : List Value) (lv : List Int) (W : World) : Prop where
  blk : W.heap[p]? = some (.cells #[vt, vl, va] 96 (0, 0))
  to : OwnI B W vt (toL l)
  lf : OwnI B W vl lv
  ats : W.ownsRow B 68 1 va n rows
  row : ∀ u, u < n → OwnI B W (rows.getD u (.slice none 0 0)) (atL l u l.length)
  sep : ∀ g, vl.ownBlock = some g → Apart n p vt va rows g
section
variable {B : Nat} {l : List Ar} {n p : Nat} {vt vl va : Value} {rows : List Value} {lv lv' : List Int} {W W' : World}
theorem Rst.frm (h : Rst B l n p vt vl va rows lv W) {H : Nat} {g1 g2 : Option Nat} (hf : Frm H g1 g2 W W') (hH : W.heap.size ≤ H) (h1 : ∀ g, g1 = some g → Apart n p vt va rows g) (h2 : ∀ g, g2 = some g → Apart n p vt va rows g) (hl : OwnI B W' vl lv') : Rst B l n p vt vl va rows lv' W' := by
  have hp := blk_lt h.blk
  refine ⟨hf.blk h.blk (by omega) (fun e => (h1 p e.symm).p rfl) (fun e => (h2 p e.symm).p rfl), owns_frm hf h.to hH fun g hg => ⟨fun e => (h1 g e.symm).t hg, fun e => (h2 g e.symm).t hg⟩, hl, owns_frm hf h.ats hH fun g hg => ⟨fun e => (h1 g e.symm).a hg, fun e => (h2 g e.symm).a hg⟩, fun u hu => owns_frm hf (h.row u hu) hH fun g hg => ⟨fun e => (h1 g e.symm).r u hu hg, fun e => (h2 g e.symm).r u hu hg⟩, h.sep⟩
theorem Rst.later (h : Rst B l n p vt vl va rows lv W) (hb : Below W.heap.size W W') : Rst B l n p vt vl va rows lv W' :=
  h.frm (Frm.of (g1 := none) (g2 := none) hb) (Nat.le_refl _) (fun _ e => by cases e) (fun _ e => by cases e) (h.lf.later hb)
/-- The list of a node's edges, as a value. -/
theorem Rst.edges (h : Rst B l n p vt vl va rows lv W) {u : Nat} (hu : u < n) : ∃ g cg, va = .slice (some ⟨g, 0, none⟩) n cg ∧ W.cell? ⟨g, u, none⟩ = some (rows.getD u (.slice none 0 0)) ∧ ∃ a c, rows.getD u (.slice none 0 0) = .slice a (atL l u l.length).length c ∧ RowsAt W.heap.size W a 1 (Ints (atL l u l.length)) := by
  have hrl : rows.length = n := by have := h.ats.1; omega
  obtain ⟨a, c, he, hr⟩ := (h.row u hu).rows
  rcases h.ats.2 with ⟨_, h0⟩ | ⟨g, cg, cur, hv, _, _⟩
  · omega
  · refine ⟨g, cg, hv, ?_, a, c, he, hr⟩
    have := h.ats.cells (g := g) (by rw [hv]; rfl) u (rows.getD u (.slice none 0 0)) (by rw [List.getD_eq_getElem?_getD, List.getElem?_eq_getElem (by omega)]; rfl)
    simpa [Addr.add_mid] using this
end
/-- A row of numbers that has one at least: its block, a cell, a store. -/
theorem _root_.Go.Proofs.YthlefdbhkbpejaaGreat.OwnI.at {base : Nat} {W : World} {v : Value} {xs : List Int} (h : OwnI base W v xs) {e : Nat} (he : e < xs.length) : ∃ g c, v = .slice (some ⟨g, 0, none⟩) xs.length c ∧ base ≤ g ∧ g < W.heap.size ∧ W.cell? ⟨g, e, none⟩ = some (.int .i64 (xs.getD e default)) ∧ W.frozen? ⟨g, e, none⟩ = false := by
  obtain ⟨a, c, he', hr⟩ := h.rows
  rcases h.2 with ⟨_, h0⟩ | ⟨g, cg, cur, hv, hb, hg, _⟩
  · omega
  · rw [hv] at he'
    cases he'
    obtain ⟨b, o, hbo, _, hc⟩ := ints_at hr e he
    cases hbo
    exact ⟨g, c, hv, hb, blk_lt hg, by simpa using hc, blk_frozen hg e⟩
theorem _root_.Go.Proofs.YthlefdbhkbpejaaGreat.OwnI.put {base : Nat} {W : World} {g n c : Nat} {xs : List Int} (h : OwnI base W (.slice (some ⟨g, 0, none⟩) n c) xs) (e : Nat) (y : Int) : OwnI base (W.setCell ⟨g, e, none⟩ (.int .i64 y)) (.slice (some ⟨g, 0, none⟩) n c) (xs.set e y) := by
  have hn : n = xs.length := by obtain ⟨a, c', he, _⟩ := h.rows; cases he; rfl
  subst hn
  unfold OwnI at h ⊢
  have := (h.stored e (.int .i64 y)).1
  rw [List.length_set]
  unfold intsV at this ⊢
  rw [List.map_set]
  exact this
end Go.Proofs.YthlefdbhkbpejaaGreat.F5
