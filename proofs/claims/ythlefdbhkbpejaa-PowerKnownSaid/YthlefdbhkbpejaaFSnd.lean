/- Chapter 05: what send reads and turns, in memory. -/
import Derived.Test.YthlefdbhkbpejaaFRst
namespace Go.Proofs.Ythlefdbhkbpejaa.F5
open Go Go.RowKit

/-- The rest, the levels, the boxes that send's closure holds: t, the rest's pointer, the levels, send itself. H: all lies below. -/
structure Snd (H B : Nat) (l : List Ar) (n p : Nat) (vt vl va : Value) (rows : List Value) (bt bx bf bs : Nat) (t : Int) (vf : Value) (lv L : List Int) (W : World) : Prop where
  rst : Rst B l n p vt vl va rows lv W
  far : OwnI B W vf L
  len : L.length = n
  tb : W.heap[bt]? = some (.cells #[.int .i64 t] 3 (0, 0))
  xb : W.heap[bx]? = some (.cells #[.pointer (some ⟨p, 0, none⟩)] 91 (0, 0))
  fb : W.heap[bf]? = some (.cells #[vf] 74 (0, 0))
  sb : W.heap[bs]? = some (.cells #[.func (.func 79) #[] #[.pointer (some ⟨bt, 0, none⟩), .pointer (some ⟨bx, 0, none⟩), .pointer (some ⟨bf, 0, none⟩), .pointer (some ⟨bs, 0, none⟩)]] 93 (0, 0))
  sf : ∀ g, vf.ownBlock = some g → Apart n p vt va rows g ∧ vl.ownBlock ≠ some g ∧ g ≠ bt ∧ g ≠ bx ∧ g ≠ bf ∧ g ≠ bs ∧ g < H
  sl : ∀ g, vl.ownBlock = some g → g ≠ bt ∧ g ≠ bx ∧ g ≠ bf ∧ g ≠ bs ∧ g < H
  hi : p < H ∧ bt < H ∧ bx < H ∧ bf < H ∧ bs < H
  ho : ∀ g, (vt.ownBlock = some g ∨ va.ownBlock = some g ∨ ∃ u, u < n ∧ (rows.getD u (.slice none 0 0)).ownBlock = some g) → g < H
section
variable {H B : Nat} {l : List Ar} {n p : Nat} {vt vl va : Value} {rows : List Value} {bt bx bf bs : Nat} {t : Int} {vf : Value} {lv L lv' L' : List Int} {W W' : World}
theorem Snd.frm (h : Snd H B l n p vt vl va rows bt bx bf bs t vf lv L W) {K : Nat} (hf : Frm K vl.ownBlock vf.ownBlock W W') (hH : W.heap.size ≤ K) (hl : OwnI B W' vl lv') (hfr : OwnI B W' vf L') (hn : L'.length = n) : Snd H B l n p vt vl va rows bt bx bf bs t vf lv' L' W' := by
  have h1 : ∀ (q : Nat) (o : Obj), W.heap[q]? = some o → (∀ g, vl.ownBlock = some g → g ≠ q) → (∀ g, vf.ownBlock = some g → g ≠ q) → W'.heap[q]? = some o := fun q o hq a b =>
    hf.blk hq (Nat.lt_of_lt_of_le (blk_lt hq) hH) (fun e => a q e.symm rfl) (fun e => b q e.symm rfl)
  exact ⟨h.rst.frm hf hH h.rst.sep (fun g hg => (h.sf g hg).1) hl, hfr, hn,
    h1 _ _ h.tb (fun g hg => (h.sl g hg).1) (fun g hg => (h.sf g hg).2.2.1), h1 _ _ h.xb (fun g hg => (h.sl g hg).2.1) (fun g hg => (h.sf g hg).2.2.2.1),
    h1 _ _ h.fb (fun g hg => (h.sl g hg).2.2.1) (fun g hg => (h.sf g hg).2.2.2.2.1), h1 _ _ h.sb (fun g hg => (h.sl g hg).2.2.2.1) (fun g hg => (h.sf g hg).2.2.2.2.2.1), h.sf, h.sl, h.hi, h.ho⟩
theorem Snd.later (h : Snd H B l n p vt vl va rows bt bx bf bs t vf lv L W) (hb : Below W.heap.size W W') : Snd H B l n p vt vl va rows bt bx bf bs t vf lv L W' :=
  h.frm (Frm.of hb) (Nat.le_refl _) (h.rst.lf.later hb) (h.far.later hb) h.len
/-- A block beyond is turned. -/
theorem Snd.out (h : Snd H B l n p vt vl va rows bt bx bf bs t vf lv L W) (hb : Below H W W') : Snd H B l n p vt vl va rows bt bx bf bs t vf lv L W' := by
  have ho : ∀ {v : Value} {e : TypeId} {k m : Nat} {xs : List Value}, W.ownsRow B e k v m xs → (∀ g, v.ownBlock = some g → g < H) → W'.ownsRow B e k v m xs := fun ho hg => owns_kept ho fun g hv => hb.block g (hg g hv)
  exact ⟨⟨(hb.block _ h.hi.1).trans h.rst.blk, ho h.rst.to (fun g hg => h.ho g (.inl hg)), ho h.rst.lf (fun g hg => (h.sl g hg).2.2.2.2), ho h.rst.ats (fun g hg => h.ho g (.inr (.inl hg))), fun u hu => ho (h.rst.row u hu) (fun g hg => h.ho g (.inr (.inr ⟨u, hu, hg⟩))), h.rst.sep⟩,
    ho h.far (fun g hg => (h.sf g hg).2.2.2.2.2.2), h.len, (hb.block _ h.hi.2.1).trans h.tb, (hb.block _ h.hi.2.2.1).trans h.xb, (hb.block _ h.hi.2.2.2.1).trans h.fb, (hb.block _ h.hi.2.2.2.2).trans h.sb, h.sf, h.sl, h.hi, h.ho⟩
theorem Snd.put (h : Snd H B l n p vt vl va rows bt bx bf bs t vf lv L W) {q : Nat} (hq : H ≤ q) (o : Obj) : Snd H B l n p vt vl va rows bt bx bf bs t vf lv L (W.putObj q o) := h.out (below_put (Below.refl H W) hq o)
theorem Snd.set (h : Snd H B l n p vt vl va rows bt bx bf bs t vf lv L W) {a : Addr} (hq : H ≤ a.block) (v : Value) : Snd H B l n p vt vl va rows bt bx bf bs t vf lv L (W.setCell a v) := h.out ((Below.refl H W).setCell hq v)
/-- A store into what is left. -/
theorem Snd.left (h : Snd H B l n p vt vl va rows bt bx bf bs t vf lv L W) {g c : Nat} (hv : vl = .slice (some ⟨g, 0, none⟩) lv.length c) (e : Nat) (y : Int) : Snd H B l n p vt vl va rows bt bx bf bs t vf (lv.set e y) L (W.setCell ⟨g, e, none⟩ (.int .i64 y)) := by
  have hg : vl.ownBlock = some g := by rw [hv]; rfl
  have hl := h.rst.lf
  refine h.frm (K := W.heap.size) ((Frm.refl _ _ _ W).set (.inr (.inl hg.symm)) _) (Nat.le_refl _) ?_ ?_ h.len
  · rw [hv] at hl ⊢
    exact hl.put e y
  · exact owns_set_ne h.far (fun e => (h.sf g e.symm).2.1 hg) _
/-- A store into the levels. -/
theorem Snd.lev (h : Snd H B l n p vt vl va rows bt bx bf bs t vf lv L W) {g c : Nat} (hv : vf = .slice (some ⟨g, 0, none⟩) L.length c) (e : Nat) (y : Int) : Snd H B l n p vt vl va rows bt bx bf bs t vf lv (L.set e y) (W.setCell ⟨g, e, none⟩ (.int .i64 y)) := by
  have hg : vf.ownBlock = some g := by rw [hv]; rfl
  have hl := h.far
  refine h.frm (K := W.heap.size) ((Frm.refl _ _ _ W).set (.inr (.inr hg.symm)) _) (Nat.le_refl _) ?_ ?_ (by rw [List.length_set]; exact h.len)
  · exact owns_set_ne h.rst.lf (fun e => (h.sf g hg).2.1 e.symm) _
  · rw [hv] at hl ⊢
    exact hl.put e y
end

/-- The boxes of a call of send: u, most, the result, what is sent, open's two, the marks, the loop's record. -/
structure SB (b p : Nat) (u most r k : Int) (o : Obj) (W : World) : Prop where
  bu : W.heap[b]? = some (.cells #[.int .i64 u] 3 (0, 0))
  bm : W.heap[b + 1]? = some (.cells #[.int .i64 most] 3 (0, 0))
  br : W.heap[b + 2]? = some (.cells #[.int .i64 r] 3 (0, 0))
  bk : W.heap[b + 3]? = some (.cells #[.int .i64 k] 3 (0, 0))
  bx : W.heap[b + 4]? = some (.cells #[.pointer (some ⟨p, 0, none⟩)] 91 (0, 0))
  bv : W.heap[b + 5]? = some (.cells #[.int .i64 u] 3 (0, 0))
  bd : W.heap[b + 6]? = some (.deferred (some []))
  bo : W.heap[b + 7]? = some o
section
variable {b p : Nat} {u most r k : Int} {o : Obj} {W W' : World}
theorem SB.frm (h : SB b p u most r k o W) {g1 g2 : Option Nat} {K : Nat} (hf : Frm K g1 g2 W W') (hH : W.heap.size ≤ K) (h1 : ∀ g, g1 = some g → g < b) (h2 : ∀ g, g2 = some g → g < b) : SB b p u most r k o W' := by
  have q : ∀ (q : Nat) (o : Obj), W.heap[q]? = some o → b ≤ q → W'.heap[q]? = some o := fun q o hq hb =>
    hf.blk hq (Nat.lt_of_lt_of_le (blk_lt hq) hH) (fun e => by have := h1 q e.symm; omega) (fun e => by have := h2 q e.symm; omega)
  exact ⟨q _ _ h.bu (by omega), q _ _ h.bm (by omega), q _ _ h.br (by omega), q _ _ h.bk (by omega), q _ _ h.bx (by omega), q _ _ h.bv (by omega), q _ _ h.bd (by omega), q _ _ h.bo (by omega)⟩
theorem SB.later (h : SB b p u most r k o W) (hb : Below W.heap.size W W') : SB b p u most r k o W' := h.frm (Frm.of (g1 := none) (g2 := none) hb) (Nat.le_refl _) (fun _ e => by cases e) (fun _ e => by cases e)
theorem SB.set (h : SB b p u most r k o W) {a : Addr} (ha : a.block < b) (y : Value) : SB b p u most r k o (W.setCell a y) :=
  ⟨blk_set h.bu (by omega) _, blk_set h.bm (by omega) _, blk_set h.br (by omega) _, blk_set h.bk (by omega) _, blk_set h.bx (by omega) _, blk_set h.bv (by omega) _, blk_set h.bd (by omega) _, blk_set h.bo (by omega) _⟩
theorem SB.put (h : SB b p u most r k o W) (o' : Obj) : SB b p u most r k o' (W.putObj (b + 7) o') :=
  ⟨blk_put h.bu (by omega), blk_put h.bm (by omega), blk_put h.br (by omega), blk_put h.bk (by omega), blk_put h.bx (by omega), blk_put h.bv (by omega), blk_put h.bd (by omega), World.putObj_heap_same (blk_lt h.bo)⟩
theorem SB.setK (h : SB b p u most r k o W) (k' : Int) : SB b p u most r k' o (W.setCell ⟨b + 3, 0, none⟩ (.int .i64 k')) :=
  ⟨blk_set h.bu (by simp) _, blk_set h.bm (by simp) _, blk_set h.br (by simp) _, blk_set_same h.bk, blk_set h.bx (by simp) _, blk_set h.bv (by simp) _, blk_set h.bd (by simp) _, blk_set h.bo (by simp) _⟩
theorem SB.setR (h : SB b p u most r k o W) (r' : Int) : SB b p u most r' k o (W.setCell ⟨b + 2, 0, none⟩ (.int .i64 r')) :=
  ⟨blk_set h.bu (by simp) _, blk_set h.bm (by simp) _, blk_set_same h.br, blk_set h.bk (by simp) _, blk_set h.bx (by simp) _, blk_set h.bv (by simp) _, blk_set h.bd (by simp) _, blk_set h.bo (by simp) _⟩
end
end Go.Proofs.Ythlefdbhkbpejaa.F5
