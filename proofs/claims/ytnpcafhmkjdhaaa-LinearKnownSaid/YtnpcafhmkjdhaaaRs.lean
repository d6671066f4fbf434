/- Chapter 06: a line and its inputs, turned in place: what two laws hold. -/
import Derived.Test.YtnpcafhmkjdhaaaLinB
namespace Go.Proofs.Ytnpcafhmkjdhaaa
open Go Go.RowKit

theorem addr_ne {b o o' : Nat} (h : o ≠ o') : (⟨b, o, none⟩ : Addr) ≠ ⟨b, o', none⟩ := by
  intro he
  injection he
  contradiction
theorem ints_set {n : Nat} {W : World} {b off : Nat} {xs : List Int} {t : Nat} {u : Int} (h : RowsAt n W (some ⟨b, off, none⟩) 1 (Ints xs)) (ht : t < xs.length) : RowsAt n (W.setCell ⟨b, off + t, none⟩ (.int .i64 u)) (some ⟨b, off, none⟩) 1 (Ints (xs.set t u)) := by
  intro i r hr
  have hi : i < xs.length := by
    have := (List.getElem?_eq_some_iff.1 hr).1
    simpa using this
  obtain ⟨b', o', he, hb, hc⟩ := ints_at h i hi
  injection he with he
  injection he with e1 e2 e3
  subst e1
  subst e2
  refine ⟨b, off, rfl, hb, fun j v hv => ?_⟩
  rw [List.getElem?_map, List.getElem?_set] at hr
  by_cases hit : t = i
  · subst hit
    rw [if_pos rfl, if_pos ht] at hr
    have : r = [Value.int .i64 u] := by simpa using hr.symm
    subst this
    cases j with
    | zero =>
      have hv' : Value.int .i64 u = v := by simpa using hv
      rw [Nat.mul_one, Nat.add_zero, World.cell?_setCell_same (h := hc), hv']
    | succ j => simp at hv
  · rw [if_neg hit, List.getElem?_eq_getElem hi] at hr
    have : r = [Value.int .i64 xs[i]] := by simpa using hr.symm
    subst this
    cases j with
    | zero =>
      rw [Nat.mul_one, Nat.add_zero, World.cell?_setCell_other (h := addr_ne (by omega)), hc]
      have hv' : Value.int .i64 xs[i] = v := by simpa using hv
      rw [← hv', List.getD_eq_getElem?_getD, List.getElem?_eq_getElem hi]
      rfl
    | succ j => simp at hv
theorem rows_far {n k : Nat} {W : World} {a : Option Addr} {rows : List (List Value)} {p : Addr} {u : Value} (h : RowsAt n W a k rows) (hne : ∀ ad, a = some ad → p.block ≠ ad.block) : RowsAt n (W.setCell p u) a k rows := by
  intro i r hr
  obtain ⟨b, off, ha, hb, hc⟩ := h i r hr
  have := hne _ ha
  exact ⟨b, off, ha, hb, fun j v hv => (World.cell?_setCell_far W p ⟨b, off + i * k + j, none⟩ u this).trans (hc j v hv)⟩
theorem rows_size {k : Nat} {W : World} {a : Option Addr} {rows : List (List Value)} {p : Addr} {u : Value} (h : RowsAt W.heap.size (W.setCell p u) a k rows) : RowsAt (W.setCell p u).heap.size (W.setCell p u) a k rows := by
  simpa using h

/-- The slice's block is one of cells, none of them frozen. -/
def Fz (W : World) (h : Hd) : Prop := ∀ ad, h.1 = some ad → ∃ c t, W.heap[ad.block]? = some (.cells c t (0, 0))
theorem Fz.later {W W' : World} {h : Hd} (f : Fz W h) (hb : Below W.heap.size W W') : Fz W' h := fun ad hd => let ⟨c, t, hc⟩ := f ad hd; ⟨c, t, blk_below hc hb⟩
theorem Fz.set {W : World} {h : Hd} (f : Fz W h) (b o : Nat) (u : Value) : Fz (W.setCell ⟨b, o, none⟩ u) h := fun ad hd => by
  obtain ⟨c, t, hc⟩ := f ad hd
  by_cases e : ad.block = b
  · rw [e] at hc ⊢
    exact ⟨_, _, blk_setcell hc⟩
  · exact ⟨c, t, blk_set hc e u⟩
theorem Fz.get {W : World} {h : Hd} (f : Fz W h) {b off : Nat} (hd : h.1 = some ⟨b, off, none⟩) (j : Nat) : W.frozen? ⟨b, j, none⟩ = false := by
  obtain ⟨c, t, hc⟩ := f _ hd
  exact blk_frozen hc j
theorem Fz.own {W : World} {base : Nat} {e : TypeId} {k : Nat} {q : Hd} {n : Nat} {zs : List Value} (hown : W.ownsRow base e k q.val n zs) : Fz W q := by
  intro ad hd
  rcases hown.2 with ⟨h1, _⟩ | ⟨g, cap, cur, hv, hg, hh, _⟩
  · rw [show q.val = .slice q.1 q.2.1 q.2.2 from rfl, hd] at h1; cases h1
  · rw [show q.val = .slice q.1 q.2.1 q.2.2 from rfl, hd] at hv
    injection hv with e1
    injection e1 with e1
    rw [e1]
    exact ⟨_, _, hh⟩
theorem own_lo {W : World} {base : Nat} {e : TypeId} {k : Nat} {q : Hd} {n : Nat} {zs : List Value} (hown : W.ownsRow base e k q.val n zs) : ∀ ad, q.1 = some ad → base ≤ ad.block := by
  intro ad hd
  rcases hown.2 with ⟨h1, _⟩ | ⟨g, cap, cur, hv, hg, _⟩
  · rw [show q.val = .slice q.1 q.2.1 q.2.2 from rfl, hd] at h1; cases h1
  · rw [show q.val = .slice q.1 q.2.1 q.2.2 from rfl, hd] at hv
    injection hv with e1
    injection e1 with e1
    rw [e1]; exact hg

/-- Where the slices lie: blocks that are apart. -/
structure Sep (w : World) (p h0 h1 d l : Hd) (s1 s2 gi B : Nat) : Prop where
  p : ∀ ad, p.1 = some ad → w.heap.size < ad.block ∧ ad.block < s1
  a : ∀ ad, h0.1 = some ad → s1 ≤ ad.block ∧ ad.block < s2
  b : ∀ ad, h1.1 = some ad → s2 ≤ ad.block ∧ ad.block < gi
  d : ∀ ad, d.1 = some ad → B < ad.block
  l : ∀ ad, l.1 = some ad → B < ad.block
  o : w.heap.size < s1 ∧ s1 ≤ s2 ∧ s2 ≤ gi ∧ gi < B
structure RS (w W : World) (x : SmA) (c : Int) (p h0 h1 d l : Hd) (s1 s2 gi B : Nat) (ps : List Prt) (xs ys ds ls : List Int) : Prop where
  sep : Sep w p h0 h1 d l s1 s2 gi B
  bel : Below w.heap.size w W
  sm : W.heap[w.heap.size]? = some (.cells x.cells.toArray 25 (0, 0))
  box : W.heap[B]? = some (.cells #[.int .i64 c, .slice p.1 2 p.2.2] 28 (0, 0))
  pr : RowsAt W.heap.size W p.1 3 (Prts ps)
  gb : W.heap[gi]? = some (.cells #[h0.val, h1.val] 32 (0, 0))
  r0 : RowsAt W.heap.size W h0.1 1 (Ints xs)
  r1 : RowsAt W.heap.size W h1.1 1 (Ints ys)
  rd : RowsAt W.heap.size W d.1 1 (Ints ds)
  rl : RowsAt W.heap.size W l.1 1 (Ints ls)
  zp : Fz W p
  z0 : Fz W h0
  z1 : Fz W h1
section
variable {w W W' : World} {x : SmA} {c : Int} {p h0 h1 d l : Hd} {s1 s2 gi B : Nat} {ps : List Prt} {xs ys ds ls : List Int}
theorem RS.later (h : RS w W x c p h0 h1 d l s1 s2 gi B ps xs ys ds ls) (hb : Below W.heap.size W W') : RS w W' x c p h0 h1 d l s1 s2 gi B ps xs ys ds ls :=
  ⟨h.sep, below_trans h.bel hb, blk_below h.sm hb, blk_below h.box hb, h.pr.later hb, blk_below h.gb hb, h.r0.later hb, h.r1.later hb, h.rd.later hb, h.rl.later hb, h.zp.later hb, h.z0.later hb, h.z1.later hb⟩
theorem RS.ins (h : RS w W x c p h0 h1 d l s1 s2 gi B ps xs ys ds ls) (n0 : xs.length = h0.2.1) (n1 : ys.length = h1.2.1) (m0 : h0.2.1 ≤ 30) (m1 : h1.2.1 ≤ 30) : InsAt W.heap.size W (some ⟨gi, 0, none⟩) [h0, h1] [xs, ys] :=
  ins_two (hds_blk (hs := [h0, h1]) h.gb) n0 n1 (by omega) (by omega) h.r0 h.r1
theorem RS.low (h : RS w W x c p h0 h1 d l s1 s2 gi B ps xs ys ds ls) {l' : Hd} {ls' : List Int} (hl : ∀ ad, l'.1 = some ad → B < ad.block) (hr : RowsAt W.heap.size W l'.1 1 (Ints ls')) : RS w W x c p h0 h1 d l' s1 s2 gi B ps xs ys ds ls' :=
  ⟨⟨h.sep.p, h.sep.a, h.sep.b, h.sep.d, hl, h.sep.o⟩, h.bel, h.sm, h.box, h.pr, h.gb, h.r0, h.r1, h.rd, hr, h.zp, h.z0, h.z1⟩
theorem RS.more (h : RS w W x c p h0 h1 d l s1 s2 gi B ps xs ys ds ls) {d' : Hd} {ds' : List Int} (hl : ∀ ad, d'.1 = some ad → B < ad.block) (hr : RowsAt W.heap.size W d'.1 1 (Ints ds')) : RS w W x c p h0 h1 d' l s1 s2 gi B ps xs ys ds' ls :=
  ⟨⟨h.sep.p, h.sep.a, h.sep.b, hl, h.sep.l, h.sep.o⟩, h.bel, h.sm, h.box, h.pr, h.gb, h.r0, h.r1, hr, h.rl, h.zp, h.z0, h.z1⟩
theorem RS.carry (h : RS w W x c p h0 h1 d l s1 s2 gi B ps xs ys ds ls) (c' : Int) : RS w (W.setCell ⟨B, 0, none⟩ (.int .i64 c')) x c' p h0 h1 d l s1 s2 gi B ps xs ys ds ls := by
  have ho := h.sep.o
  refine ⟨h.sep, h.bel.setCell (by show w.heap.size ≤ B; omega) _, blk_set h.sm (by show w.heap.size ≠ B; omega) _, by simpa using blk_setcell (i := 0) (u := .int .i64 c') h.box, ?_, blk_set h.gb (by show gi ≠ B; omega) _, ?_, ?_, ?_, ?_, h.zp.set _ _ _, h.z0.set _ _ _, h.z1.set _ _ _⟩
  all_goals refine rows_size (rows_far ?_ fun ad hd => ?_)
  · exact h.pr
  · have := h.sep.p ad hd; show B ≠ ad.block; omega
  · exact h.r0
  · have := h.sep.a ad hd; show B ≠ ad.block; omega
  · exact h.r1
  · have := h.sep.b ad hd; show B ≠ ad.block; omega
  · exact h.rd
  · have := h.sep.d ad hd; show B ≠ ad.block; omega
  · exact h.rl
  · have := h.sep.l ad hd; show B ≠ ad.block; omega
theorem RS.set0 (h : RS w W x c p h0 h1 d l s1 s2 gi B ps xs ys ds ls) {b off t : Nat} (ha : h0.1 = some ⟨b, off, none⟩) (ht : t < xs.length) (u : Int) : RS w (W.setCell ⟨b, off + t, none⟩ (.int .i64 u)) x c p h0 h1 d l s1 s2 gi B ps (xs.set t u) ys ds ls := by
  have ho := h.sep.o
  obtain ⟨a1, a2⟩ := h.sep.a _ ha
  simp only at a1 a2
  refine ⟨h.sep, h.bel.setCell (by show w.heap.size ≤ b; omega) _, blk_set h.sm (by show w.heap.size ≠ b; omega) _, blk_set h.box (by show B ≠ b; omega) _, ?_, blk_set h.gb (by show gi ≠ b; omega) _, ?_, ?_, ?_, ?_, h.zp.set _ _ _, h.z0.set _ _ _, h.z1.set _ _ _⟩
  · exact rows_size (rows_far h.pr fun ad hd => by have := h.sep.p ad hd; show b ≠ ad.block; omega)
  · have := h.r0
    rw [ha] at this ⊢
    exact rows_size (ints_set this ht)
  · exact rows_size (rows_far h.r1 fun ad hd => by have := h.sep.b ad hd; show b ≠ ad.block; omega)
  · exact rows_size (rows_far h.rd fun ad hd => by have := h.sep.d ad hd; show b ≠ ad.block; omega)
  · exact rows_size (rows_far h.rl fun ad hd => by have := h.sep.l ad hd; show b ≠ ad.block; omega)
theorem RS.set1 (h : RS w W x c p h0 h1 d l s1 s2 gi B ps xs ys ds ls) {b off t : Nat} (ha : h1.1 = some ⟨b, off, none⟩) (ht : t < ys.length) (u : Int) : RS w (W.setCell ⟨b, off + t, none⟩ (.int .i64 u)) x c p h0 h1 d l s1 s2 gi B ps xs (ys.set t u) ds ls := by
  have ho := h.sep.o
  obtain ⟨a1, a2⟩ := h.sep.b _ ha
  simp only at a1 a2
  refine ⟨h.sep, h.bel.setCell (by show w.heap.size ≤ b; omega) _, blk_set h.sm (by show w.heap.size ≠ b; omega) _, blk_set h.box (by show B ≠ b; omega) _, ?_, blk_set h.gb (by show gi ≠ b; omega) _, ?_, ?_, ?_, ?_, h.zp.set _ _ _, h.z0.set _ _ _, h.z1.set _ _ _⟩
  · exact rows_size (rows_far h.pr fun ad hd => by have := h.sep.p ad hd; show b ≠ ad.block; omega)
  · exact rows_size (rows_far h.r0 fun ad hd => by have := h.sep.a ad hd; show b ≠ ad.block; omega)
  · have := h.r1
    rw [ha] at this ⊢
    exact rows_size (ints_set this ht)
  · exact rows_size (rows_far h.rd fun ad hd => by have := h.sep.d ad hd; show b ≠ ad.block; omega)
  · exact rows_size (rows_far h.rl fun ad hd => by have := h.sep.l ad hd; show b ≠ ad.block; omega)
end
/-- What made gives, in a box of the law's own. -/
theorem Made.rs {w w0 W : World} {x : SmA} {p h0 h1 : Hd} {s1 s2 gi : Nat} (h : Made w0 W x p h0 h1 s1 s2 gi) (hb : Below w.heap.size w w0) (h0s : w0.heap.size = w.heap.size + 1) (hsm : w0.heap[w.heap.size]? = some (.cells x.cells.toArray 25 (0, 0))) (c : Int) {Z : World}
    (hZ : W.alloc (.cells #[.int .i64 c, .slice p.1 2 p.2.2] 28) = Z) : RS w Z x c p h0 h1 (none, 0, 0) (none, 0, 0) s1 s2 gi W.heap.size x.ps (x.A.take 30) (x.B.take 30) [] [] := by
  subst hZ
  have hgi : gi < W.heap.size := blk_lt h.gb
  have hbw : Below w.heap.size w W := below_trans hb h.bel
  have ho : Below W.heap.size W (W.alloc (.cells #[.int .i64 c, .slice p.1 2 p.2.2] 28)) := below_alloc (below_self W) _
  have up : ∀ {q : Hd} {s : Nat}, (∀ g, q.val.ownBlock = some g → g < s) → ∀ ad, q.1 = some ad → ad.block < s := by
    intro q s hq ad hd
    apply hq
    rw [show q.val = .slice q.1 q.2.1 q.2.2 from rfl, hd]
    rfl
  refine ⟨⟨?_, ?_, ?_, ?_, ?_, ?_⟩, below_alloc hbw _, blk_below (blk_below hsm h.bel) ho, blk_new W _, (prts_own rfl h.po).later ho, blk_below h.gb ho, ((own_rows h.o0).2).later ho, ((own_rows h.o1).2).later ho, RowsAt.nil _ _ _ _, RowsAt.nil _ _ _ _, (Fz.own h.po).later ho, (Fz.own h.o0).later ho, (Fz.own h.o1).later ho⟩
  · intro ad hd; have := own_lo h.po ad hd; have := up h.p1 ad hd; omega
  · intro ad hd; exact ⟨own_lo h.o0 ad hd, up h.b0 ad hd⟩
  · intro ad hd; exact ⟨own_lo h.o1 ad hd, up h.b1 ad hd⟩
  · intro ad hd; cases hd
  · intro ad hd; cases hd
  · have := h.w1; have := h.w2; have := h.w3; omega
end Go.Proofs.Ytnpcafhmkjdhaaa
