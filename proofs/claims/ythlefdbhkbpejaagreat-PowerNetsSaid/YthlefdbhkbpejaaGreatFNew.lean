/- Chapter 05: newRest. -/
import Derived.OrdersHeld
import Derived.RegionTactic
import Derived.Test.YthlefdbhkbpejaaGreatBase
import Derived.Test.YthlefdbhkbpejaaGreatFNet
import Derived.Test.YthlefdbhkbpejaaGreatFRst
import Derived.Deep.AppendLies
import Derived.Deep.RegionHeld3
import Derived.StillTailTactics
import Derived.Deep.DeepCutAuto
import Derived.Deep.CutRange
namespace Go.Proofs.YthlefdbhkbpejaaGreat.F5
open Go

section
variable {P : Program} {ops : Array Oper} {Q : Exit → Act → World → Prop} {md : Region.Mode} {S : World → Prop} {z : Nat}

/-- Whatever comes next; behind all but number z, S holds. -/
def wpAnyG (P : Program) (md : Region.Mode) (ops : Array Oper) (Q : Exit → Act → World → Prop) (S : World → Prop) (z : Nat) : Nat → Array Bool → Act → World → Prop
  | 0, done, a, w => Region.ready md ops done = [] ∧ Q .normal a w
  | m + 1, done, a, w => (Region.ready md ops done = [] → Q .normal a w) ∧
      ∀ i ∈ Region.ready md ops done, wpOp P ops Q i (fun b v => (i ≠ z → S v) ∧ wpAnyG P md ops Q S z m (done.setIfInBounds i true) b v) a w
theorem wpAny_of_G : ∀ (m : Nat) (done : Array Bool) (a : Act) (w : World), wpAnyG P md ops Q S z m done a w → wpAny P md ops Q m done a w
  | 0, _, _, _, h => h
  | m + 1, _, _, _, h => ⟨h.1, fun i hi => wpOp_mono (fun b v g => wpAny_of_G m _ b v g.2) (h.2 i hi)⟩
/-- Number z waits for number i. -/
def waitsFor (md : Region.Mode) (ops : Array Oper) (z i : Nat) : Bool := match ops[z]? with
  | some o => o.after.any (fun e => Region.binds md e && e.on == i)
  | none => false
theorem waits_not {done : Array Bool} {i : Nat} (hw : waitsFor md ops z i = true) (hi : i ∈ Region.ready md ops done) : z ∉ Region.ready md ops done := by
  intro hz
  obtain ⟨_, o, ho, hall⟩ := mem_ready.1 hz
  obtain ⟨hun, _⟩ := mem_ready.1 hi
  unfold waitsFor at hw
  rw [ho] at hw
  simp only [Array.any_eq_true'] at hw
  obtain ⟨e, he, hb⟩ := hw
  simp only [Bool.and_eq_true, beq_iff_eq] at hb
  have h1 := hall e he hb.1
  rw [hb.2] at h1
  by_cases hlt : i < done.size
  · simp [hlt] at hun h1
    rw [hun] at h1
    cases h1
  · simp [Array.getElem?_eq_none (Nat.le_of_not_lt hlt)] at hun
/-- What yields its value in every world that meets S may be taken first. -/
theorem wpAnyG_first {i : Nat} {oi : Oper} {v : Value} (hi : ops[i]? = some oi) (hsel : ∀ (j : Nat) (o : Oper) cs b, ops[j]? = some o → o.op ≠ .select cs b)
    (hQ : ∀ c a w, Q (.panic c) (a.put oi.dst v) w → Q (.panic c) a w) (hw : waitsFor md ops z i = true) : ∀ (m : Nat) (done : Array Bool) (a : Act) (w : World),
      (∀ j oj, ops[j]? = some oj → j ≠ i → done.getD j true = false → (∀ e ∈ oj.after, Region.binds md e = true → e.on ≠ i) → oi.apart ops oj = true) →
      i ∈ Region.ready md ops done → YieldsIf P ops S oi v a → S w → wpAnyG P md ops Q S z m (done.setIfInBounds i true) (a.put oi.dst v) w → wpAnyG P md ops Q S z (m + 1) done a w
  | 0, done, a, w, _, hr, hy, hS, H => ⟨fun h => (by rw [h] at hr; cases hr), fun j hj => by
      by_cases e : j = i
      · subst e; exact hy.wpOp hi hS ⟨fun _ => hS, H⟩
      · have := ready_mono hj e
        rw [H.1] at this
        cases this⟩
  | m + 1, done, a, w, hfree, hr, hy, hS, H => ⟨fun h => (by rw [h] at hr; cases hr), fun j hj => by
      by_cases e : j = i
      · subst e; exact hy.wpOp hi hS ⟨fun _ => hS, H⟩
      · have hjz : j ≠ z := fun h => waits_not hw hr (h ▸ hj)
        obtain ⟨hun, oj, hoj, hall⟩ := mem_ready.1 hj
        have hno : ∀ x ∈ oj.after, Region.binds md x = true → x.on ≠ i := fun x hx hb h => by
          have h1 := hall x hx hb
          have h0 := (mem_ready.1 hr).1
          rw [h] at h1
          by_cases hlt : i < done.size
          · simp [hlt] at h0 h1
            rw [h0] at h1
            cases h1
          · simp [Array.getElem?_eq_none (Nat.le_of_not_lt hlt)] at h0
        refine wpOp_mono (fun b y g => ⟨fun _ => g.2.1 hjz, ?_⟩) (wpOp_putIf hoj (hfree j oj hoj e hun hno) (fun cs b => hsel i oi cs b hi) (fun cs b => hsel j oj cs b hoj) hQ hy (H.2 j (ready_mono hj e)))
        refine wpAnyG_first hi hsel hQ hw m _ b y (fun k ok hk hki hku hkn => ?_) (ready_mono hr (fun h => e h.symm)) g.1 (g.2.1 hjz) ?_
        · refine hfree k ok hk hki ?_ hkn
          by_cases hjk : j = k
          · subst hjk; exact hun
          · rw [getD_set_ne true hjk] at hku; exact hku
        · rw [Array.setIfInBounds_comm _ _ e]
          exact g.2.2⟩
theorem wpAnyG_take {i : Nat} {oi : Oper} {v : Value} {m : Nat} {done : Array Bool} {a : Act} {w : World} (hi : ops[i]? = some oi) (hs : Region.noSelect ops = true) (hf : Region.free md ops done i = true) (hr : (Region.ready md ops done).contains i = true)
    (hw : waitsFor md ops z i = true) (hQ : ∀ c a w, Q (.panic c) (a.put oi.dst v) w → Q (.panic c) a w) (hy : YieldsIf P ops S oi v a) (hS : S w)
    (h : wpAnyG P md ops Q S z m (done.setIfInBounds i true) (a.put oi.dst v) w) : wpAnyG P md ops Q S z (m + 1) done a w :=
  wpAnyG_first hi (Region.noSelect_spec hs) hQ hw m done a w (Region.free_spec hi hf) (by simpa using hr) hy hS h
/-- The one that comes next. -/
theorem wpAnyG_next {i : Nat} {o : Oper} {m : Nat} {done : Array Bool} {a : Act} {w : World} (hr : Region.ready md ops done = [i]) (ho : ops[i]? = some o)
    (h : ∀ K : Act → World → Prop, (∀ b v, (i ≠ z → S v) → wpAnyG P md ops Q S z m (done.setIfInBounds i true) b v → K b v) → if Region.wanted o (yielded ops a.tmps) = true then Oper.wp P o a w K Q else K (a.put o.dst undef) w) : wpAnyG P md ops Q S z (m + 1) done a w := by
  refine ⟨fun h0 => (by rw [hr] at h0; cases h0), fun j hj => ?_⟩
  rw [hr] at hj
  obtain rfl : j = i := by simpa using hj
  exact wpOp_step ho fun K hK => h K fun b v h1 h2 => hK b v ⟨h1, h2⟩
theorem wpAnyG_done {done : Array Bool} {a : Act} {w : World} (hr : Region.ready md ops done = []) (h : Q .normal a w) : ∀ m, wpAnyG P md ops Q S z m done a w
  | 0 => ⟨hr, h⟩
  | _ + 1 => ⟨fun _ => h, by rw [hr]; simp⟩
theorem wp_region_G {id : Nat} {a : Act} {w : World} (hm : P.follows .mixedOrders = true) (S : World → Prop) (z : Nat) (h : wpAnyG P .any ops Q S z ops.size (Array.replicate ops.size false) a w.drew) : (Code.region id ops true).wp P Q a w :=
  wp_region_any hm (wpAny_of_G _ _ _ _ h)
end
end Go.Proofs.YthlefdbhkbpejaaGreat.F5

namespace Go.Proofs.YthlefdbhkbpejaaGreat.F5
open Go Go.RowKit
set_option linter.unusedSimpArgs false

/-- The arcs, without the one of this number: its room is 0. -/
def woL (l : List Ar) (i : Int) : List Ar := if 0 ≤ i ∧ i < l.length then moreL l i.toNat 0 else l
theorem woL_len (l : List Ar) (i : Int) : (woL l i).length = l.length := by
  unfold woL moreL
  split <;> simp
theorem woL_at (l : List Ar) (i : Int) {k : Nat} (hk : k < l.length) : (woL l i).getD k default = ⟨(l.getD k default).u, (l.getD k default).v, if (k : Int) = i then 0 else (l.getD k default).c⟩ := by
  unfold woL
  split
  · rename_i h
    unfold moreL
    rw [List.getD_eq_getElem?_getD, List.getElem?_set]
    by_cases e : i.toNat = k
    · rw [if_pos e, if_pos (by omega), if_pos (by omega), Option.getD_some, e]
    · rw [if_neg e, if_neg (by omega), List.getD_eq_getElem?_getD]
  · rw [if_neg (by omega)]

/-- Rows of numbers of the call's own, in blocks that are apart. -/
structure Owns (base m : Nat) (V : Nat → Value) (F : Nat → List Int) (W : World) : Prop where
  own : ∀ i, i < m → OwnI base W (V i) (F i)
  sep : ∀ i j g, i < m → j < m → i ≠ j → (V i).ownBlock = some g → (V j).ownBlock ≠ some g
def upd {α : Type} (f : Nat → α) (i : Nat) (x : α) : Nat → α := fun j => if j = i then x else f j
theorem Owns.later {base m : Nat} {V : Nat → Value} {F : Nat → List Int} {W W' : World} (h : Owns base m V F W) (hb : Below W.heap.size W W') : Owns base m V F W' := ⟨fun i hi => (h.own i hi).later hb, h.sep⟩
theorem Owns.set {base m : Nat} {V : Nat → Value} {F : Nat → List Int} {W : World} (h : Owns base m V F W) {a : Addr} (ha : a.block < base) (u : Value) : Owns base m V F (W.setCell a u) := ⟨fun i hi => owns_set (h.own i hi) ha u, h.sep⟩
theorem Owns.grow {base m : Nat} {V : Nat → Value} {F : Nat → List Int} {W : World} {o : Obj} {W' : World} (h : Owns base m V F W) {i : Nat} (hi : i < m) {v' : Value} {news : List Int} (hg : (W.alloc o).grownBy W' (V i).ownBlock) (ho : OwnI base W' v' (F i ++ news))
    (hn : ∀ g, v'.ownBlock = some g → (V i).ownBlock = some g ∨ W.heap.size ≤ g) : Owns base m (upd V i v') (upd F i (F i ++ news)) W' := by
  refine ⟨fun j hj => ?_, fun j k g hj hk hjk hg1 hg2 => ?_⟩
  · unfold upd
    by_cases e : j = i
    · simp only [if_pos e]; exact ho
    · simp only [if_neg e]
      refine (World.ownsRow.alloc (h.own j hj) o).kept hg ?_
      cases hv : (V j).ownBlock with
      | none => exact .inl rfl
      | some g => exact .inr (fun e2 => h.sep j i g hj hi e hv e2.symm)
  · unfold upd at hg1 hg2
    by_cases ej : j = i
    · simp only [if_pos ej] at hg1
      simp only [if_neg (show k ≠ i by omega)] at hg2
      rcases hn g hg1 with h1 | h1
      · exact h.sep i k g hi hk (by omega) h1 hg2
      · have := ((h.own k hk).lt g hg2).2; omega
    · simp only [if_neg ej] at hg1
      by_cases ek : k = i
      · simp only [if_pos ek] at hg2
        rcases hn g hg2 with h1 | h1
        · exact h.sep i j g hi hj (by omega) h1 hg1
        · have := ((h.own j hj).lt g hg1).2; omega
      · simp only [if_neg ek] at hg2
        exact h.sep j k g hj hk hjk hg1 hg2

/-- The rows of the first k arcs: 0: the heads, 1: what is left, 2 + u: the edges of u. -/
def rowF (l : List Ar) (k : Nat) : Nat → List Int
  | 0 => toL (l.take k)
  | 1 => leftL (l.take k) (List.replicate k 0)
  | u + 2 => atL l u k
theorem owns_nil (base m : Nat) (l : List Ar) (W : World) : Owns base m (fun _ => .slice none 0 0) (rowF l 0) W := by
  refine ⟨fun i _ => ?_, fun _ _ _ _ _ _ h => by cases h⟩
  have h : rowF l 0 i = [] := by
    cases i with
    | zero => rfl
    | succ i => cases i with
      | zero => rfl
      | succ i => rfl
  rw [h]
  exact OwnI.nil _ _
theorem intsV_app2 (xs ys : List Int) : intsV (xs ++ ys) = intsV xs ++ intsV ys := by simp [intsV]
theorem own_ne_type {W : World} {base : Nat} {e : TypeId} {n m : Nat} {v : Value} {xs : List Value} (h : W.ownsRow base e n v m xs) {k : Nat} {c : Array Value} {t : TypeId} {fr : Nat × Nat} (hb : W.heap[k]? = some (.cells c t fr)) (hte : t ≠ e) : some k ≠ v.ownBlock := by
  rcases h.2 with ⟨rfl, _⟩ | ⟨g, cap, cur, rfl, _, hg, _⟩
  · simp [Value.ownBlock]
  · intro e'
    obtain rfl : k = g := by simpa [Value.ownBlock] using e'
    rw [hg] at hb
    injection hb with hb
    injection hb with _ h2
    exact hte h2.symm
theorem cell_of2 {W : World} {k i : Nat} {v : Value} (h : W.heap[k]?.map (fun o => match o with | .cells c _ _ => c[i]? | _ => none) = some (some v)) : W.cell? ⟨k, i, none⟩ = some v := by
  unfold World.cell?
  cases hk : W.heap[k]? with
  | none => rw [hk] at h; cases h
  | some o =>
    rw [hk] at h
    cases o <;> simp_all
/-- Between two arcs. -/
structure BJ (w : World) (N : Int) (a : Option Addr) (nk c : Nat) (n : Nat) (F : Nat → List Int) (V : Nat → Value) (W : World) : Prop where
  bel : Below w.heap.size w W
  nb : W.heap[w.heap.size]? = some (.cells #[.int .i64 N, .slice a nk c] 44 (0, 0))
  at' : W.heap[w.heap.size + 1]? = some (.cells ((List.range n).map (fun u => V (u + 2))).toArray 68 (0, 0))
  rb : W.heap[w.heap.size + 2]? = some (.cells #[V 0, V 1, .slice (some ⟨w.heap.size + 1, 0, none⟩) n n] 96 (0, 0))
  own : Owns (w.heap.size + 3) (n + 2) V F W
section
variable {w : World} {N : Int} {a : Option Addr} {nk c n : Nat} {F : Nat → List Int} {V : Nat → Value} {W W' : World}
theorem BJ.later (h : BJ w N a nk c n F V W) (hb : Below W.heap.size W W') : BJ w N a nk c n F V W' := ⟨below_trans h.bel hb, blk_below h.nb hb, blk_below h.at' hb, blk_below h.rb hb, h.own.later hb⟩
theorem BJ.far (h : BJ w N a nk c n F V W) {i : Nat} (hi : i < n + 2) {j : Nat} (hj : j < w.heap.size + 3) : some j ≠ (V i).ownBlock := fun e => by
  have := ((h.own.own i hi).lt j e.symm).1
  omega
theorem blk_set3 {W : World} {k i : Nat} {c : Array Value} {u : Value} {t : TypeId} {fr : Nat × Nat} (h : W.heap[k]? = some (.cells c t fr)) : (W.setCell ⟨k, i, none⟩ u).heap[k]? = some (.cells (c.setIfInBounds i u) t fr) := by
  simp [World.setCell, Array.getElem?_modify, h]
theorem range_upd {n u : Nat} (V : Nat → Value) (v : Value) : (((List.range n).map (fun u => V (u + 2))).toArray).setIfInBounds u v = ((List.range n).map (fun x => upd V (u + 2) v (x + 2))).toArray := by
  rw [List.setIfInBounds_toArray]
  congr 1
  apply List.ext_getElem
  · simp
  · intro i h1 h2
    rw [List.getElem_set]
    simp only [List.getElem_map, List.getElem_range]
    unfold upd
    by_cases e : u = i
    · subst e; rw [if_pos rfl, if_pos rfl]
    · rw [if_neg e, if_neg (by omega)]
theorem range_get {n u : Nat} (V : Nat → Value) (hu : u < n) : ((List.range n).map (fun u => V (u + 2))).toArray[u]? = some (V (u + 2)) := by
  simp [hu]
/-- More edges of a node. -/
theorem BJ.row (h : BJ w N a nk c n F V W) {u : Nat} (hu : u < n) {o : Obj} {v' : Value} {news : List Int} (hg : (W.alloc o).grownBy W' (V (u + 2)).ownBlock) (ho : OwnI (w.heap.size + 3) W' v' (F (u + 2) ++ news)) (hn : ∀ g, v'.ownBlock = some g → (V (u + 2)).ownBlock = some g ∨ W.heap.size ≤ g) :
    BJ w N a nk c n (upd F (u + 2) (F (u + 2) ++ news)) (upd V (u + 2) v') (W'.setCell ⟨w.heap.size + 1, u, none⟩ v') := by
  have hs := blk_lt h.rb
  have hO := h.own.grow (i := u + 2) (by omega) hg ho hn
  refine ⟨?_, blk_set (grown_blk hg (blk_alloc h.nb _) (h.far (by omega) (by omega))) (by simp only; omega) _, ?_, blk_set (grown_blk hg (blk_alloc h.rb _) (h.far (by omega) (by omega))) (by simp only; omega) _, hO.set (by simp only; omega) _⟩
  · exact ((h.bel.alloc h.bel.size _).grown hg (by have := h.bel.size; simp; omega) (fun k hk => by have := ((h.own.own (u + 2) (by omega)).lt k hk).1; omega)).setCell (p := ⟨w.heap.size + 1, u, none⟩) (by simp only; omega) _
  · rw [← range_upd V v']
    exact blk_set3 (grown_blk hg (blk_alloc h.at' _) (h.far (by omega) (by omega)))
theorem BJ.heads (h : BJ w N a nk c n F V W) {o : Obj} {v' : Value} {news : List Int} (hg : (W.alloc o).grownBy W' (V 0).ownBlock) (ho : OwnI (w.heap.size + 3) W' v' (F 0 ++ news)) (hn : ∀ g, v'.ownBlock = some g → (V 0).ownBlock = some g ∨ W.heap.size ≤ g) :
    BJ w N a nk c n (upd F 0 (F 0 ++ news)) (upd V 0 v') (W'.setCell ⟨w.heap.size + 2, 0, none⟩ v') := by
  have hs := blk_lt h.rb
  have hO := h.own.grow (i := 0) (by omega) hg ho hn
  refine ⟨?_, blk_set (grown_blk hg (blk_alloc h.nb _) (h.far (by omega) (by omega))) (by simp only; omega) _, ?_, ?_, hO.set (by simp only; omega) _⟩
  · exact ((h.bel.alloc h.bel.size _).grown hg (by have := h.bel.size; simp; omega) (fun k hk => by have := ((h.own.own 0 (by omega)).lt k hk).1; omega)).setCell (p := ⟨w.heap.size + 2, 0, none⟩) (by simp only; omega) _
  · exact blk_set (grown_blk hg (blk_alloc h.at' _) (h.far (by omega) (by omega))) (by simp only; omega) _
  · exact (blk_set3 (grown_blk hg (blk_alloc h.rb _) (h.far (by omega) (by omega)))).trans rfl
theorem BJ.rooms (h : BJ w N a nk c n F V W) {o : Obj} {v' : Value} {news : List Int} (hg : (W.alloc o).grownBy W' (V 1).ownBlock) (ho : OwnI (w.heap.size + 3) W' v' (F 1 ++ news)) (hn : ∀ g, v'.ownBlock = some g → (V 1).ownBlock = some g ∨ W.heap.size ≤ g) :
    BJ w N a nk c n (upd F 1 (F 1 ++ news)) (upd V 1 v') (W'.setCell ⟨w.heap.size + 2, 1, none⟩ v') := by
  have hs := blk_lt h.rb
  have hO := h.own.grow (i := 1) (by omega) hg ho hn
  refine ⟨?_, blk_set (grown_blk hg (blk_alloc h.nb _) (h.far (by omega) (by omega))) (by simp only; omega) _, ?_, ?_, hO.set (by simp only; omega) _⟩
  · exact ((h.bel.alloc h.bel.size _).grown hg (by have := h.bel.size; simp; omega) (fun k hk => by have := ((h.own.own 1 (by omega)).lt k hk).1; omega)).setCell (p := ⟨w.heap.size + 2, 1, none⟩) (by simp only; omega) _
  · exact blk_set (grown_blk hg (blk_alloc h.at' _) (h.far (by omega) (by omega))) (by simp only; omega) _
  · exact (blk_set3 (grown_blk hg (blk_alloc h.rb _) (h.far (by omega) (by omega)))).trans rfl
end
theorem toL_snoc : ∀ (l : List Ar) (x : Ar), toL (l ++ [x]) = toL l ++ [x.v, x.u]
  | [], x => rfl
  | a :: l, x => by simp [toL, toL_snoc l x]
theorem leftL_snoc : ∀ (l : List Ar) (x : Ar), leftL (l ++ [x]) (List.replicate (l.length + 1) 0) = leftL l (List.replicate l.length 0) ++ [x.c, 0]
  | [], x => by simp [leftL]
  | a :: l, x => by
    have ih := leftL_snoc l x
    simp only [List.replicate_succ] at ih
    simp only [List.cons_append, List.length_cons, List.replicate_succ, leftL, ih]
theorem take_snocA {l : List Ar} {k : Nat} (hk : k < l.length) : l.take (k + 1) = l.take k ++ [l.getD k default] := by
  rw [List.take_succ_eq_append_getElem hk]
  simp [List.getElem?_eq_getElem hk]
theorem rowF_succ {l : List Ar} {k : Nat} (hk : k < l.length) {u v : Nat} {r : Int} (hx : l.getD k default = ⟨u, v, r⟩) (huv : u ≠ v) :
    upd (upd (upd (upd (rowF l k) (u + 2) (rowF l k (u + 2) ++ [2 * (k : Int)])) (v + 2) (upd (rowF l k) (u + 2) (rowF l k (u + 2) ++ [2 * (k : Int)]) (v + 2) ++ [2 * (k : Int) + 1])) 0
      (upd (upd (rowF l k) (u + 2) (rowF l k (u + 2) ++ [2 * (k : Int)])) (v + 2) (upd (rowF l k) (u + 2) (rowF l k (u + 2) ++ [2 * (k : Int)]) (v + 2) ++ [2 * (k : Int) + 1]) 0 ++ [(v : Int), (u : Int)])) 1
      (upd (upd (upd (rowF l k) (u + 2) (rowF l k (u + 2) ++ [2 * (k : Int)])) (v + 2) (upd (rowF l k) (u + 2) (rowF l k (u + 2) ++ [2 * (k : Int)]) (v + 2) ++ [2 * (k : Int) + 1])) 0
        (upd (upd (rowF l k) (u + 2) (rowF l k (u + 2) ++ [2 * (k : Int)])) (v + 2) (upd (rowF l k) (u + 2) (rowF l k (u + 2) ++ [2 * (k : Int)]) (v + 2) ++ [2 * (k : Int) + 1]) 0 ++ [(v : Int), (u : Int)]) 1 ++ [r, 0]) = rowF l (k + 1) := by
  have hx' : l[k]?.getD default = ⟨u, v, r⟩ := by rw [← List.getD_eq_getElem?_getD]; exact hx
  funext i
  match i with
  | 0 => simp [upd, rowF, take_snocA hk, toL_snoc, hx']
  | 1 =>
    have hl : (l.take k).length = k := by rw [List.length_take]; omega
    have h := leftL_snoc (l.take k) ⟨u, v, r⟩
    rw [hl] at h
    simp [upd, rowF, take_snocA hk, hx', h]
  | i + 2 =>
    by_cases e1 : i = v
    · subst e1
      have h1 : ¬ (i = u) := fun h => huv h.symm
      simp [upd, rowF, atL, hx', h1, huv] <;> omega
    · by_cases e2 : i = u
      · subst e2
        have h1 : ¬ (v = i) := fun h => huv h.symm
        simp [upd, rowF, atL, hx', e1, h1] <;> omega
      · have h1 : ¬ (v = i) := fun h => e1 h.symm
        have h2 : ¬ (u = i) := fun h => e2 h.symm
        simp [upd, rowF, atL, hx', e1, e2, h1, h2] <;> omega

theorem atL_len2 (l : List Ar) (x : Int) : ∀ k, (atL l x k).length ≤ 2 * k
  | 0 => by simp [atL]
  | k + 1 => by
    have ih := atL_len2 l x k
    simp only [atL, List.length_append]
    split <;> split <;> simp <;> omega
theorem rowF_len (l : List Ar) (k : Nat) (hk : k ≤ l.length) : ∀ i, (rowF l k i).length ≤ 2 * k
  | 0 => by simp only [rowF, toL_len, List.length_take]; omega
  | 1 => by
    simp only [rowF]
    rw [leftL_len (by simp; omega), List.length_take]; omega
  | i + 2 => atL_len2 l i k
theorem upd_len {F : Nat → List Int} {i : Nat} {xs : List Int} {M : Nat} (hF : ∀ j, (F j).length ≤ M) (hx : xs.length ≤ M) : ∀ j, (upd F i xs j).length ≤ M := fun j => by
  unfold upd
  split
  · exact hx
  · exact hF j
theorem infoR : (Tryz.prog.info? 68).map (fun i => (i.zero, i.size, i.bytes)) = some (some (.slice none 0 0), 1, 24) := by kernel_rfl

set_option maxRecDepth 100000 in
set_option maxHeartbeats 4000000 in
theorem new_ok (n : Nat) (a : Option Addr) (nk c : Nat) (l : List Ar) (wo : Int) (w : World) (hn : l.length = nk) (hv : netOk n l = true) (hm : RowsAt w.heap.size w a 3 (Ars l)) :
    Calls Tryz.prog 51 #[.agg #[.int .i64 n, .slice a nk c], .int .i64 wo] w fun e W' => ∃ vt vl va rows, e = .returned (.pointer (some ⟨w.heap.size + 2, 0, none⟩)) ∧ Rst w.heap.size (woL l wo) n (w.heap.size + 2) vt vl va rows (leftL (woL l wo) (List.replicate nk 0)) W' ∧ Below w.heap.size w W' := by
  obtain ⟨h2, h64, h128, hA⟩ := netOk_iff.1 hv
  have HM := Lib.hid (And.intro hn (And.intro hA hm))
  have hnk : nk ≤ 128 := by omega
  clear hn hA hm hv h128
  go_enter Tryz.func51, Tryz.ntmps51
  obtain ⟨i0, hi, hz0, hz1, hz2⟩ := info_parts infoR
  have hnI : (2 : Int) ≤ (n : Int) := h2
  go_wp2_with (with_reducible refine wpList_make_row rfl 94 _ _ rfl 68 i0 _ 1 24 Tryz.underlying94 hi hz0 hz1 hz2 n _ rfl rfl ?a2 ?a3 ?a4 ?_)
  case a2 => rfl
  case a3 => omega
  case a4 => omega
  intro W4 h4 hb4 hs4
  have h4' : W4.heap[w.heap.size + 1]? = some (.cells ((List.range n).map (fun u => (fun _ : Nat => Value.slice none 0 0) (u + 2))).toArray 68 (0, 0)) := by
    have hm : madeCells #[Value.slice none 0 0] n = ((List.range n).map (fun u => (fun _ : Nat => Value.slice none 0 0) (u + 2))).toArray := by
      apply Array.toList_inj.1
      rw [toList_madeCells_one]
      show List.replicate n _ = (List.range n).map (fun _ => Value.slice none 0 0)
      rw [List.map_const', List.length_range]
    rw [← hm]
    exact h4.out
  have hbw : Below w.heap.size w W4 := (below_alloc (below_self w) _).trans (hb4.mono (by omega))
  have h0' : W4.heap[w.heap.size]? = some (.cells #[.int .i64 n, .slice a nk c] 44 (0, 0)) := (hb4.block w.heap.size (by omega)).trans (blk_new w _)
  have H4 := Lib.hid (And.intro h0' (And.intro h4' hbw))
  clear h4 h4' hb4 hbw h0' hi hz0 hz1 hz2
  have q1 : (W4.alloc (.cells #[.slice none 0 0, .slice none 0 0, .slice (some ⟨w.heap.size + 1, 0, none⟩) n n] 96)).cell? ⟨w.heap.size, 1, none⟩ = some (.slice a nk c) := (blk_cell (blk_alloc H4.out.1 _) 1).trans rfl
  go_wp2_with fail
  have hbn := below_alloc (below_self W4) (.cells #[.slice none 0 0, .slice none 0 0, .slice (some ⟨w.heap.size + 1, 0, none⟩) n n] 96)
  have HB0 := Lib.hid (show BJ w n a nk c n (rowF (woL l wo) 0) (fun _ => .slice none 0 0) (W4.alloc (.cells #[.slice none 0 0, .slice none 0 0, .slice (some ⟨w.heap.size + 1, 0, none⟩) n n] 96)) from
    ⟨below_trans H4.out.2.2 hbn, blk_below H4.out.1 hbn, blk_below H4.out.2.1 hbn, by have := blk_new W4 (.cells #[.slice none 0 0, .slice none 0 0, .slice (some ⟨w.heap.size + 1, 0, none⟩) n n] 96); rw [hs4] at this; exact this, owns_nil _ _ _ _⟩)
  clear q1 hbn hs4
  go_loopw [17] (fun i wr => ∃ (k : Nat) (V : Nat → Value) (X : World), k ≤ nk ∧ i = .int .i64 k ∧ X = wr ∧ Hid (BJ w n a nk c n (rowF (woL l wo) k) V X)) (fun i _ => nk - (intOf i).toNat)
  case atStart => exact ⟨0, _, _, Nat.zero_le _, rfl, rfl, HB0⟩
  case round =>
    obtain ⟨k, V, X, hk, rfl, rfl, HX⟩ := hrel
    clear HB0 H4
    by_cases hlt : k < nk
    · have hltI : (k : Int) < (nk : Int) := by omega
      have hkl : k < l.length := by rw [HM.out.1]; exact hlt
      have hA := okA_iff.1 (HM.out.2.1 (l.getD k default) (by rw [List.getD_eq_getElem?_getD, List.getElem?_eq_getElem hkl]; exact List.getElem_mem _))
      obtain ⟨b1, o1, rfl, hb1, c0, c1, c2⟩ := ars_at (HM.out.2.2.later HX.out.bel) k hkl
      have hwo := woL_at l wo hkl
      obtain ⟨x, hx⟩ : ∃ x, l.getD k default = x := ⟨_, rfl⟩
      rw [hx] at hA c0 c1 c2 hwo
      obtain ⟨xu, xv, xc⟩ := x
      simp only at hA c0 c1 c2 hwo
      obtain ⟨⟨u0, u1⟩, ⟨v0, v1⟩, huv, r0, r1⟩ := hA
      obtain ⟨u, rfl⟩ : ∃ u : Nat, xu = u := ⟨xu.toNat, by omega⟩
      obtain ⟨v, rfl⟩ : ∃ v : Nat, xv = v := ⟨xv.toNat, by omega⟩
      by_cases hw : (k : Int) = wo
      · rw [if_pos hw] at hwo
        have hwb : ((k : Int) == wo) = true := beq_iff_eq.2 hw
        clear hw
        have HK := Lib.hid (And.intro hwo (And.intro hx huv))
        clear hwo hx
        go_upto_region 8 with fail
        obtain ⟨Y0, hY0⟩ : ∃ W' : World, (X.alloc (.cells #[.int .i64 u, .int .i64 v, .int .i64 xc] 63)) = W' := ⟨_, rfl⟩
        have h : Has Y0 [(X.heap.size, .cells #[.int .i64 u, .int .i64 v, .int .i64 xc] 63 (0, 0))] := by rw [← hY0]; simpa using ((Has.nil X).new _)
        have z : Y0.heap.size = X.heap.size + 1 := by rw [← hY0]; simp
        have b : Below X.heap.size X Y0 := by rw [← hY0]; exact (below_alloc (below_self X) _)
        rw [hY0]
        clear hY0
        have H0 := Lib.hid (And.intro h.hd (HX.out.later b))
        have hXw := HX.out.bel.size
        have hXr := blk_lt HX.out.rb
        clear h z b c0 c1 c2 hb1
        have hkI2 : IntKind.i64.wrap (2 * (k : Int)) = 2 * k := IntWalk.i64_in _ (by omega)
        have hkI3 : IntKind.i64.wrap (2 * (k : Int) + 1) = 2 * k + 1 := IntWalk.i64_in _ (by omega)
        have huI : (u : Int) < (n : Int) := by omega
        have hvI : (v : Int) < (n : Int) := by omega
        obtain ⟨F0, hF0⟩ : ∃ F0, rowF (woL l wo) k = F0 := ⟨_, rfl⟩
        have hl0 : ∀ j, (rowF (woL l wo) k j).length ≤ 300 := fun j => Nat.le_trans (rowF_len (woL l wo) k (by rw [woL_len]; omega) j) (by omega)
        rw [hF0] at H0 hl0
        have HF0 := Lib.hid hF0
        have HL0 := Lib.hid hl0
        clear hF0 hl0
        have qr : Y0.cell? ⟨w.heap.size + 1 + 1, 2, none⟩ = some (.slice (some ⟨w.heap.size + 1, 0, none⟩) n n) := (blk_cell H0.out.2.rb 2).trans rfl
        have qa : Y0.cell? ⟨X.heap.size, 0, none⟩ = some (.int .i64 u) := (blk_cell H0.out.1 0).trans rfl
        obtain ⟨av, cv, hVe, hVl, hVm⟩ := owns_shape (H0.out.2.own.own (u + 2) (by omega))
        have qv : Y0.cell? ⟨w.heap.size + 1, u, none⟩ = some (.slice av (F0 (u + 2)).length cv) := (blk_cell H0.out.2.at' u).trans (by rw [← hVe]; exact range_get V (by omega))
        have lr := blk_lt H0.out.2.rb
        have la := blk_lt H0.out.1
        have lb := blk_lt H0.out.2.at'
        have hlen := HL0.out (u + 2)
        have HV := Lib.hid hVe
        clear hVe
        go_wp2_with fail
        have hbY : Below Y0.heap.size Y0 Y0.drew := (below_self Y0).drew
        have HZ := Lib.hid (And.intro (blk_below H0.out.1 hbY) (H0.out.2.later hbY))
        obtain ⟨i0, hi, hz0, hz1, hz2⟩ := info_parts info3
        have hoZ := HZ.out.2.own.own (u + 2) (by omega)
        rw [HV.out] at hoZ
        have HoZ := Lib.hid (hoZ : Y0.drew.ownsRow (w.heap.size + 3) 3 1 _ _ _)
        have HkK := Lib.hid (show ∀ W : World, W.heap[X.heap.size]? = some (.cells #[.int .i64 u, .int .i64 v, .int .i64 xc] 63 (0, 0)) → W.heap[w.heap.size + 1]? = some (.cells ((List.range n).map (fun u => V (u + 2))).toArray 68 (0, 0)) → W.heap[w.heap.size + 2]? = some (.cells #[V 0, V 1, .slice (some ⟨w.heap.size + 1, 0, none⟩) n n] 96 (0, 0)) → W.cell? ⟨w.heap.size + 1 + 1, 2, none⟩ = some (.slice (some ⟨w.heap.size + 1, 0, none⟩) n n) ∧ W.cell? ⟨X.heap.size, 0, none⟩ = some (.int .i64 u) ∧ W.cell? ⟨w.heap.size + 1, u, none⟩ = some (.slice av (F0 (u + 2)).length cv) from fun W h1 h2 h3 => ⟨(blk_cell h3 2).trans rfl, (blk_cell h1 0).trans rfl, (blk_cell h2 u).trans (by rw [← HV.out]; exact range_get V (by omega))⟩)
        have kD := HkK.out _ HZ.out.1 HZ.out.2.at' HZ.out.2.rb
        have kA := HkK.out _ (blk_alloc HZ.out.1 (.cells #[.int .i64 (2 * k)] 3)) (blk_alloc HZ.out.2.at' _) (blk_alloc HZ.out.2.rb _)
        have hne5 : some X.heap.size ≠ (V (u + 2)).ownBlock := own_ne_type (HZ.out.2.own.own (u + 2) (by omega)) HZ.out.1 (by decide)
        have HN5 := Lib.hid hne5
        have hone : ∀ y ∈ ([.int .i64 (2 * k)] : List Value), y.oneCell' = true := by simp [Value.oneCell']
        have h63 : (F0 (u + 2)).length + 1 ≤ maxLen := by unfold maxLen; omega
        have h8 : ((F0 (u + 2)).length + 1) * 8 ≤ 140737488355328 := by omega
        have hbs : w.heap.size + 3 ≤ (Y0.drew.alloc (.cells #[.int .i64 (2 * k)] 3)).heap.size := by have := blk_lt HZ.out.2.rb; simp at this ⊢; omega
        clear qr qa qv hne5 hbY
        refine wp_region_G (by kernel_rfl) (fun W => W.cell? ⟨w.heap.size + 1 + 1, 2, none⟩ = some (.slice (some ⟨w.heap.size + 1, 0, none⟩) n n) ∧ W.cell? ⟨X.heap.size, 0, none⟩ = some (.int .i64 u) ∧ W.cell? ⟨w.heap.size + 1, u, none⟩ = some (.slice av (F0 (u + 2)).length cv)) 19 ?_
        refine wpAnyG_take (i := 0) (v := ?v8ax0) rfl (by kernel_rfl) (by kernel_rfl) (by kernel_rfl) (by kernel_rfl) (fun _ _ _ h => h) (Or.inl ⟨by rfl, ?y8ax0⟩) kD ?r8ax0
        case y8ax0 => (rintro W ⟨s1, s2, s3⟩; go_simp; try with_reducible rfl)
        refine wpAnyG_take (i := 1) (v := ?v8ax1) rfl (by kernel_rfl) (by kernel_rfl) (by kernel_rfl) (by kernel_rfl) (fun _ _ _ h => h) (Or.inl ⟨by rfl, ?y8ax1⟩) kD ?r8ax1
        case y8ax1 => (rintro W ⟨s1, s2, s3⟩; go_simp; try with_reducible rfl)
        refine wpAnyG_take (i := 2) (v := ?v8ax2) rfl (by kernel_rfl) (by kernel_rfl) (by kernel_rfl) (by kernel_rfl) (fun _ _ _ h => h) (Or.inl ⟨by rfl, ?y8ax2⟩) kD ?r8ax2
        case y8ax2 => (rintro W ⟨s1, s2, s3⟩; go_simp; try with_reducible rfl)
        refine wpAnyG_take (i := 3) (v := ?v8ax3) rfl (by kernel_rfl) (by kernel_rfl) (by kernel_rfl) (by kernel_rfl) (fun _ _ _ h => h) (Or.inl ⟨by rfl, ?y8ax3⟩) kD ?r8ax3
        case y8ax3 => (rintro W ⟨s1, s2, s3⟩; go_simp; try with_reducible rfl)
        refine wpAnyG_take (i := 4) (v := ?v8ax4) rfl (by kernel_rfl) (by kernel_rfl) (by kernel_rfl) (by kernel_rfl) (fun _ _ _ h => h) (Or.inl ⟨by rfl, ?y8ax4⟩) kD ?r8ax4
        case y8ax4 => (rintro W ⟨s1, s2, s3⟩; go_simp; try with_reducible rfl)
        refine wpAnyG_take (i := 5) (v := ?v8ax5) rfl (by kernel_rfl) (by kernel_rfl) (by kernel_rfl) (by kernel_rfl) (fun _ _ _ h => h) (Or.inl ⟨by rfl, ?y8ax5⟩) kD ?r8ax5
        case y8ax5 => (rintro W ⟨s1, s2, s3⟩; go_simp; try with_reducible rfl)
        refine wpAnyG_take (i := 6) (v := ?v8ax6) rfl (by kernel_rfl) (by kernel_rfl) (by kernel_rfl) (by kernel_rfl) (fun _ _ _ h => h) (Or.inl ⟨by rfl, ?y8ax6⟩) kD ?r8ax6
        case y8ax6 => (rintro W ⟨s1, s2, s3⟩; go_simp; try with_reducible rfl)
        refine wpAnyG_take (i := 7) (v := ?v8ax7) rfl (by kernel_rfl) (by kernel_rfl) (by kernel_rfl) (by kernel_rfl) (fun _ _ _ h => h) (Or.inl ⟨by rfl, ?y8ax7⟩) kD ?r8ax7
        case y8ax7 => (rintro W ⟨s1, s2, s3⟩; go_simp; try with_reducible rfl)
        refine wpAnyG_take (i := 8) (v := ?v8ax8) rfl (by kernel_rfl) (by kernel_rfl) (by kernel_rfl) (by kernel_rfl) (fun _ _ _ h => h) (Or.inl ⟨by rfl, ?y8ax8⟩) kD ?r8ax8
        case y8ax8 => (rintro W ⟨s1, s2, s3⟩; go_simp; try with_reducible rfl)
        refine wpAnyG_take (i := 9) (v := ?v8ax9) rfl (by kernel_rfl) (by kernel_rfl) (by kernel_rfl) (by kernel_rfl) (fun _ _ _ h => h) (Or.inl ⟨by rfl, ?y8ax9⟩) kD ?r8ax9
        case y8ax9 => (rintro W ⟨s1, s2, s3⟩; go_simp; try with_reducible rfl)
        refine wpAnyG_take (i := 10) (v := ?v8ax10) rfl (by kernel_rfl) (by kernel_rfl) (by kernel_rfl) (by kernel_rfl) (fun _ _ _ h => h) (Or.inl ⟨by rfl, ?y8ax10⟩) kD ?r8ax10
        case y8ax10 => (rintro W ⟨s1, s2, s3⟩; go_simp; try with_reducible rfl)
        refine wpAnyG_take (i := 11) (v := ?v8ax11) rfl (by kernel_rfl) (by kernel_rfl) (by kernel_rfl) (by kernel_rfl) (fun _ _ _ h => h) (Or.inl ⟨by rfl, ?y8ax11⟩) kD ?r8ax11
        case y8ax11 => (rintro W ⟨s1, s2, s3⟩; go_simp; try with_reducible rfl)
        refine wpAnyG_take (i := 12) (v := ?v8ax12) rfl (by kernel_rfl) (by kernel_rfl) (by kernel_rfl) (by kernel_rfl) (fun _ _ _ h => h) (Or.inl ⟨by rfl, ?y8ax12⟩) kD ?r8ax12
        case y8ax12 => (rintro W ⟨s1, s2, s3⟩; go_simp; try with_reducible rfl)
        refine wpAnyG_take (i := 13) (v := ?v8ax13) rfl (by kernel_rfl) (by kernel_rfl) (by kernel_rfl) (by kernel_rfl) (fun _ _ _ h => h) (Or.inl ⟨by rfl, ?y8ax13⟩) kD ?r8ax13
        case y8ax13 => (rintro W ⟨s1, s2, s3⟩; go_simp; try with_reducible rfl)
        refine wpAnyG_take (i := 14) (v := ?v8ax14) rfl (by kernel_rfl) (by kernel_rfl) (by kernel_rfl) (by kernel_rfl) (fun _ _ _ h => h) (Or.inl ⟨by rfl, ?y8ax14⟩) kD ?r8ax14
        case y8ax14 => (rintro W ⟨s1, s2, s3⟩; go_simp; try with_reducible rfl)
        refine wpAnyG_take (i := 15) (v := ?v8ax15) rfl (by kernel_rfl) (by kernel_rfl) (by kernel_rfl) (by kernel_rfl) (fun _ _ _ h => h) (Or.inl ⟨by rfl, ?y8ax15⟩) kD ?r8ax15
        case y8ax15 => (rintro W ⟨s1, s2, s3⟩; go_simp; try with_reducible rfl)
        refine wpAnyG_next (i := 16) (by kernel_rfl) rfl (fun K hK => ?_)
        go_simp
        refine hK _ _ (fun _ => kA) ?_
        clear hK K
        refine wpAnyG_next (i := 17) (by kernel_rfl) rfl (fun K hK => ?_)
        refine step_append_lies _ (by rfl) _ _ 68 (by rfl) (w.heap.size + 3) 3 i0 _ 1 8 Tryz.underlying68 hi hz0 hz1 hz2 rfl (by decide) _ _ _ (by rfl) (World.ownsRow.alloc HoZ.out (.cells #[.int .i64 (2 * k)] 3)) ⟨Y0.heap.size, 0, none⟩ 1 1 [.int .i64 (2 * k)] (by rfl) rfl (World.news_of_block (show (Y0.drew.alloc (.cells #[.int .i64 (2 * k)] 3)).heap[Y0.heap.size]? = _ from blk_new Y0.drew (.cells #[.int .i64 (2 * k)] 3))) hone (by omega) h63 h8 hbs _ rfl ?_
        intro g5 cap5 W5 hown5 hgrow5 hat5 hlt5
        rw [← HV.out] at hgrow5
        have bA := grown_blk hgrow5 (blk_alloc HZ.out.1 _) HN5.out
        have bR := grown_blk hgrow5 (blk_alloc HZ.out.2.rb _) (HZ.out.2.far (i := u + 2) (by omega) (by omega))
        have bQ := grown_blk hgrow5 (blk_alloc HZ.out.2.at' _) (HZ.out.2.far (i := u + 2) (by omega) (by omega))
        have kW := HkK.out W5 bA bQ bR
        have cT := blk_cell bQ u
        have fT := blk_frozen bQ u
        rw [range_get V (by omega), HV.out] at cT
        have lT := blk_lt bQ
        clear bA bR bQ
        try go_simp
        refine hK _ _ (fun _ => kW) ?_
        clear hK K
        refine wpAnyG_next (i := 18) (by kernel_rfl) rfl (fun K hK => ?_)
        go_simp
        refine hK _ _ (fun _ => kW) ?_
        clear hK K
        refine wpAnyG_next (i := 19) (by kernel_rfl) rfl (fun K hK => ?_)
        go_simp
        refine hK _ _ (fun h => absurd rfl h) ?_
        clear hK K
        refine wpAnyG_done (by kernel_rfl) ?_ _
        rw [← HV.out] at hat5
        clear kD kA kW cT fT lT hone h63 h8 hbs lb lr la
        have hOI : OwnI (w.heap.size + 3) W5 (.slice (some ⟨g5, 0, none⟩) ((F0 (u + 2)).length + 1) cap5) (F0 (u + 2) ++ [2 * (k : Int)]) := by
          unfold OwnI
          rw [intsV_app2, List.length_append]
          exact hown5
        have hB5 := HZ.out.2.row (u := u) (by omega) hgrow5 hOI (fun q hq => by
          have hq' : q = g5 := by cases hq; rfl
          subst hq'
          rcases hat5 with h | h
          · exact .inl h
          · right; rw [h]; simp)
        have hfar5 := HZ.out.2.far (i := u + 2) (by omega) (j := w.heap.size + 1) (by omega)
        have hfar6 := HZ.out.2.far (i := u + 2) (by omega) (j := w.heap.size + 2) (by omega)
        have hb5 := grown_blk hgrow5 (blk_alloc HZ.out.2.at' (.cells #[.int .i64 (2 * k)] 3)) hfar5
        have qs := blk_cell hb5 u
        have fs := blk_frozen hb5 u
        rw [range_get V (by omega), HV.out] at qs
        have ls := blk_lt hb5
        have harc : (W5.setCell ⟨w.heap.size + 1, u, none⟩ (.slice (some ⟨g5, 0, none⟩) ((F0 (u + 2)).length + 1) cap5)).heap[X.heap.size]? = some (.cells #[.int .i64 u, .int .i64 v, .int .i64 xc] 63 (0, 0)) := blk_set (grown_blk hgrow5 (blk_alloc HZ.out.1 _) (HN5.out)) (by simp only; omega) _
        obtain ⟨F1, hF1⟩ : ∃ F1, upd F0 (u + 2) (F0 (u + 2) ++ [2 * (k : Int)]) = F1 := ⟨_, rfl⟩
        obtain ⟨V1, hV1⟩ : ∃ V1, upd V (u + 2) (.slice (some ⟨g5, 0, none⟩) ((F0 (u + 2)).length + 1) cap5) = V1 := ⟨_, rfl⟩
        rw [hF1, hV1] at hB5
        have HF1 := Lib.hid hF1
        have HL1 := Lib.hid (show ∀ j, (F1 j).length ≤ 310 from fun j => by
          rw [← hF1]
          exact upd_len (M := 310) (fun j => Nat.le_trans (HL0.out j) (by omega)) (by have := HL0.out (u + 2); simp; omega) j)
        have H1 := Lib.hid (And.intro harc hB5)
        clear hF1 hV1 hB5 harc hown5 hgrow5 hat5 hlt5 hOI hb5 hfar5 hfar6 HoZ hlen hi hz0 hz1 hz2
        generalize (W5.setCell ⟨w.heap.size + 1, u, none⟩ (.slice (some ⟨g5, 0, none⟩) ((F0 (u + 2)).length + 1) cap5)) = Y1 at H1 ⊢
        clear qs fs ls HZ HkK HN5
        have qr : Y1.cell? ⟨w.heap.size + 1 + 1, 2, none⟩ = some (.slice (some ⟨w.heap.size + 1, 0, none⟩) n n) := (blk_cell H1.out.2.rb 2).trans rfl
        have qa : Y1.cell? ⟨X.heap.size, 1, none⟩ = some (.int .i64 v) := (blk_cell H1.out.1 1).trans rfl
        obtain ⟨av, cv, hVe, hVl, hVm⟩ := owns_shape (H1.out.2.own.own (v + 2) (by omega))
        have qv : Y1.cell? ⟨w.heap.size + 1, v, none⟩ = some (.slice av (F1 (v + 2)).length cv) := (blk_cell H1.out.2.at' v).trans (by rw [← hVe]; exact range_get V1 (by omega))
        have lr := blk_lt H1.out.2.rb
        have la := blk_lt H1.out.1
        have lb := blk_lt H1.out.2.at'
        have hlen := HL1.out (v + 2)
        have HV := Lib.hid hVe
        clear hVe
        go_wp2_with fail
        have hbY : Below Y1.heap.size Y1 Y1.drew := (below_self Y1).drew
        have HZ := Lib.hid (And.intro (blk_below H1.out.1 hbY) (H1.out.2.later hbY))
        obtain ⟨i0, hi, hz0, hz1, hz2⟩ := info_parts info3
        have hoZ := HZ.out.2.own.own (v + 2) (by omega)
        rw [HV.out] at hoZ
        have HoZ := Lib.hid (hoZ : Y1.drew.ownsRow (w.heap.size + 3) 3 1 _ _ _)
        have HkK := Lib.hid (show ∀ W : World, W.heap[X.heap.size]? = some (.cells #[.int .i64 u, .int .i64 v, .int .i64 xc] 63 (0, 0)) → W.heap[w.heap.size + 1]? = some (.cells ((List.range n).map (fun u => V1 (u + 2))).toArray 68 (0, 0)) → W.heap[w.heap.size + 2]? = some (.cells #[V1 0, V1 1, .slice (some ⟨w.heap.size + 1, 0, none⟩) n n] 96 (0, 0)) → W.cell? ⟨w.heap.size + 1 + 1, 2, none⟩ = some (.slice (some ⟨w.heap.size + 1, 0, none⟩) n n) ∧ W.cell? ⟨X.heap.size, 1, none⟩ = some (.int .i64 v) ∧ W.cell? ⟨w.heap.size + 1, v, none⟩ = some (.slice av (F1 (v + 2)).length cv) from fun W h1 h2 h3 => ⟨(blk_cell h3 2).trans rfl, (blk_cell h1 1).trans rfl, (blk_cell h2 v).trans (by rw [← HV.out]; exact range_get V1 (by omega))⟩)
        have kD := HkK.out _ HZ.out.1 HZ.out.2.at' HZ.out.2.rb
        have kA := HkK.out _ (blk_alloc HZ.out.1 (.cells #[.int .i64 (2 * k + 1)] 3)) (blk_alloc HZ.out.2.at' _) (blk_alloc HZ.out.2.rb _)
        have hne5 : some X.heap.size ≠ (V1 (v + 2)).ownBlock := own_ne_type (HZ.out.2.own.own (v + 2) (by omega)) HZ.out.1 (by decide)
        have HN5 := Lib.hid hne5
        have hone : ∀ y ∈ ([.int .i64 (2 * k + 1)] : List Value), y.oneCell' = true := by simp [Value.oneCell']
        have h63 : (F1 (v + 2)).length + 1 ≤ maxLen := by unfold maxLen; omega
        have h8 : ((F1 (v + 2)).length + 1) * 8 ≤ 140737488355328 := by omega
        have hbs : w.heap.size + 3 ≤ (Y1.drew.alloc (.cells #[.int .i64 (2 * k + 1)] 3)).heap.size := by have := blk_lt HZ.out.2.rb; simp at this ⊢; omega
        clear qr qa qv hne5 hbY
        refine wp_region_G (by kernel_rfl) (fun W => W.cell? ⟨w.heap.size + 1 + 1, 2, none⟩ = some (.slice (some ⟨w.heap.size + 1, 0, none⟩) n n) ∧ W.cell? ⟨X.heap.size, 1, none⟩ = some (.int .i64 v) ∧ W.cell? ⟨w.heap.size + 1, v, none⟩ = some (.slice av (F1 (v + 2)).length cv)) 20 ?_
        refine wpAnyG_take (i := 0) (v := ?v9ax0) rfl (by kernel_rfl) (by kernel_rfl) (by kernel_rfl) (by kernel_rfl) (fun _ _ _ h => h) (Or.inl ⟨by rfl, ?y9ax0⟩) kD ?r9ax0
        case y9ax0 => (rintro W ⟨s1, s2, s3⟩; go_simp; try with_reducible rfl)
        refine wpAnyG_take (i := 1) (v := ?v9ax1) rfl (by kernel_rfl) (by kernel_rfl) (by kernel_rfl) (by kernel_rfl) (fun _ _ _ h => h) (Or.inl ⟨by rfl, ?y9ax1⟩) kD ?r9ax1
        case y9ax1 => (rintro W ⟨s1, s2, s3⟩; go_simp; try with_reducible rfl)
        refine wpAnyG_take (i := 2) (v := ?v9ax2) rfl (by kernel_rfl) (by kernel_rfl) (by kernel_rfl) (by kernel_rfl) (fun _ _ _ h => h) (Or.inl ⟨by rfl, ?y9ax2⟩) kD ?r9ax2
        case y9ax2 => (rintro W ⟨s1, s2, s3⟩; go_simp; try with_reducible rfl)
        refine wpAnyG_take (i := 3) (v := ?v9ax3) rfl (by kernel_rfl) (by kernel_rfl) (by kernel_rfl) (by kernel_rfl) (fun _ _ _ h => h) (Or.inl ⟨by rfl, ?y9ax3⟩) kD ?r9ax3
        case y9ax3 => (rintro W ⟨s1, s2, s3⟩; go_simp; try with_reducible rfl)
        refine wpAnyG_take (i := 4) (v := ?v9ax4) rfl (by kernel_rfl) (by kernel_rfl) (by kernel_rfl) (by kernel_rfl) (fun _ _ _ h => h) (Or.inl ⟨by rfl, ?y9ax4⟩) kD ?r9ax4
        case y9ax4 => (rintro W ⟨s1, s2, s3⟩; go_simp; try with_reducible rfl)
        refine wpAnyG_take (i := 5) (v := ?v9ax5) rfl (by kernel_rfl) (by kernel_rfl) (by kernel_rfl) (by kernel_rfl) (fun _ _ _ h => h) (Or.inl ⟨by rfl, ?y9ax5⟩) kD ?r9ax5
        case y9ax5 => (rintro W ⟨s1, s2, s3⟩; go_simp; try with_reducible rfl)
        refine wpAnyG_take (i := 6) (v := ?v9ax6) rfl (by kernel_rfl) (by kernel_rfl) (by kernel_rfl) (by kernel_rfl) (fun _ _ _ h => h) (Or.inl ⟨by rfl, ?y9ax6⟩) kD ?r9ax6
        case y9ax6 => (rintro W ⟨s1, s2, s3⟩; go_simp; try with_reducible rfl)
        refine wpAnyG_take (i := 7) (v := ?v9ax7) rfl (by kernel_rfl) (by kernel_rfl) (by kernel_rfl) (by kernel_rfl) (fun _ _ _ h => h) (Or.inl ⟨by rfl, ?y9ax7⟩) kD ?r9ax7
        case y9ax7 => (rintro W ⟨s1, s2, s3⟩; go_simp; try with_reducible rfl)
        refine wpAnyG_take (i := 8) (v := ?v9ax8) rfl (by kernel_rfl) (by kernel_rfl) (by kernel_rfl) (by kernel_rfl) (fun _ _ _ h => h) (Or.inl ⟨by rfl, ?y9ax8⟩) kD ?r9ax8
        case y9ax8 => (rintro W ⟨s1, s2, s3⟩; go_simp; try with_reducible rfl)
        refine wpAnyG_take (i := 9) (v := ?v9ax9) rfl (by kernel_rfl) (by kernel_rfl) (by kernel_rfl) (by kernel_rfl) (fun _ _ _ h => h) (Or.inl ⟨by rfl, ?y9ax9⟩) kD ?r9ax9
        case y9ax9 => (rintro W ⟨s1, s2, s3⟩; go_simp; try with_reducible rfl)
        refine wpAnyG_take (i := 10) (v := ?v9ax10) rfl (by kernel_rfl) (by kernel_rfl) (by kernel_rfl) (by kernel_rfl) (fun _ _ _ h => h) (Or.inl ⟨by rfl, ?y9ax10⟩) kD ?r9ax10
        case y9ax10 => (rintro W ⟨s1, s2, s3⟩; go_simp; try with_reducible rfl)
        refine wpAnyG_take (i := 11) (v := ?v9ax11) rfl (by kernel_rfl) (by kernel_rfl) (by kernel_rfl) (by kernel_rfl) (fun _ _ _ h => h) (Or.inl ⟨by rfl, ?y9ax11⟩) kD ?r9ax11
        case y9ax11 => (rintro W ⟨s1, s2, s3⟩; go_simp; try with_reducible rfl)
        refine wpAnyG_take (i := 12) (v := ?v9ax12) rfl (by kernel_rfl) (by kernel_rfl) (by kernel_rfl) (by kernel_rfl) (fun _ _ _ h => h) (Or.inl ⟨by rfl, ?y9ax12⟩) kD ?r9ax12
        case y9ax12 => (rintro W ⟨s1, s2, s3⟩; go_simp; try with_reducible rfl)
        refine wpAnyG_take (i := 13) (v := ?v9ax13) rfl (by kernel_rfl) (by kernel_rfl) (by kernel_rfl) (by kernel_rfl) (fun _ _ _ h => h) (Or.inl ⟨by rfl, ?y9ax13⟩) kD ?r9ax13
        case y9ax13 => (rintro W ⟨s1, s2, s3⟩; go_simp; try with_reducible rfl)
        refine wpAnyG_take (i := 14) (v := ?v9ax14) rfl (by kernel_rfl) (by kernel_rfl) (by kernel_rfl) (by kernel_rfl) (fun _ _ _ h => h) (Or.inl ⟨by rfl, ?y9ax14⟩) kD ?r9ax14
        case y9ax14 => (rintro W ⟨s1, s2, s3⟩; go_simp; try with_reducible rfl)
        refine wpAnyG_take (i := 15) (v := ?v9ax15) rfl (by kernel_rfl) (by kernel_rfl) (by kernel_rfl) (by kernel_rfl) (fun _ _ _ h => h) (Or.inl ⟨by rfl, ?y9ax15⟩) kD ?r9ax15
        case y9ax15 => (rintro W ⟨s1, s2, s3⟩; go_simp; try with_reducible rfl)
        refine wpAnyG_take (i := 16) (v := ?v9ax16) rfl (by kernel_rfl) (by kernel_rfl) (by kernel_rfl) (by kernel_rfl) (fun _ _ _ h => h) (Or.inl ⟨by rfl, ?y9ax16⟩) kD ?r9ax16
        case y9ax16 => (rintro W ⟨s1, s2, s3⟩; go_simp; try with_reducible rfl)
        refine wpAnyG_next (i := 17) (by kernel_rfl) rfl (fun K hK => ?_)
        go_simp
        refine hK _ _ (fun _ => kA) ?_
        clear hK K
        refine wpAnyG_next (i := 18) (by kernel_rfl) rfl (fun K hK => ?_)
        refine step_append_lies _ (by rfl) _ _ 68 (by rfl) (w.heap.size + 3) 3 i0 _ 1 8 Tryz.underlying68 hi hz0 hz1 hz2 rfl (by decide) _ _ _ (by rfl) (World.ownsRow.alloc HoZ.out (.cells #[.int .i64 (2 * k + 1)] 3)) ⟨Y1.heap.size, 0, none⟩ 1 1 [.int .i64 (2 * k + 1)] (by rfl) rfl (World.news_of_block (show (Y1.drew.alloc (.cells #[.int .i64 (2 * k + 1)] 3)).heap[Y1.heap.size]? = _ from blk_new Y1.drew (.cells #[.int .i64 (2 * k + 1)] 3))) hone (by omega) h63 h8 hbs _ rfl ?_
        intro g5 cap5 W5 hown5 hgrow5 hat5 hlt5
        rw [← HV.out] at hgrow5
        have bA := grown_blk hgrow5 (blk_alloc HZ.out.1 _) HN5.out
        have bR := grown_blk hgrow5 (blk_alloc HZ.out.2.rb _) (HZ.out.2.far (i := v + 2) (by omega) (by omega))
        have bQ := grown_blk hgrow5 (blk_alloc HZ.out.2.at' _) (HZ.out.2.far (i := v + 2) (by omega) (by omega))
        have kW := HkK.out W5 bA bQ bR
        have cT := blk_cell bQ v
        have fT := blk_frozen bQ v
        rw [range_get V1 (by omega), HV.out] at cT
        have lT := blk_lt bQ
        clear bA bR bQ
        try go_simp
        refine hK _ _ (fun _ => kW) ?_
        clear hK K
        refine wpAnyG_next (i := 19) (by kernel_rfl) rfl (fun K hK => ?_)
        go_simp
        refine hK _ _ (fun _ => kW) ?_
        clear hK K
        refine wpAnyG_next (i := 20) (by kernel_rfl) rfl (fun K hK => ?_)
        go_simp
        refine hK _ _ (fun h => absurd rfl h) ?_
        clear hK K
        refine wpAnyG_done (by kernel_rfl) ?_ _
        rw [← HV.out] at hat5
        clear kD kA kW cT fT lT hone h63 h8 hbs lb lr la
        have hOI : OwnI (w.heap.size + 3) W5 (.slice (some ⟨g5, 0, none⟩) ((F1 (v + 2)).length + 1) cap5) (F1 (v + 2) ++ [2 * (k : Int) + 1]) := by
          unfold OwnI
          rw [intsV_app2, List.length_append]
          exact hown5
        have hB5 := HZ.out.2.row (u := v) (by omega) hgrow5 hOI (fun q hq => by
          have hq' : q = g5 := by cases hq; rfl
          subst hq'
          rcases hat5 with h | h
          · exact .inl h
          · right; rw [h]; simp)
        have hfar5 := HZ.out.2.far (i := v + 2) (by omega) (j := w.heap.size + 1) (by omega)
        have hfar6 := HZ.out.2.far (i := v + 2) (by omega) (j := w.heap.size + 2) (by omega)
        have hb5 := grown_blk hgrow5 (blk_alloc HZ.out.2.at' (.cells #[.int .i64 (2 * k + 1)] 3)) hfar5
        have qs := blk_cell hb5 v
        have fs := blk_frozen hb5 v
        rw [range_get V1 (by omega), HV.out] at qs
        have ls := blk_lt hb5
        have harc : (W5.setCell ⟨w.heap.size + 1, v, none⟩ (.slice (some ⟨g5, 0, none⟩) ((F1 (v + 2)).length + 1) cap5)).heap[X.heap.size]? = some (.cells #[.int .i64 u, .int .i64 v, .int .i64 xc] 63 (0, 0)) := blk_set (grown_blk hgrow5 (blk_alloc HZ.out.1 _) (HN5.out)) (by simp only; omega) _
        obtain ⟨F2, hF2⟩ : ∃ F2, upd F1 (v + 2) (F1 (v + 2) ++ [2 * (k : Int) + 1]) = F2 := ⟨_, rfl⟩
        obtain ⟨V2, hV2⟩ : ∃ V2, upd V1 (v + 2) (.slice (some ⟨g5, 0, none⟩) ((F1 (v + 2)).length + 1) cap5) = V2 := ⟨_, rfl⟩
        rw [hF2, hV2] at hB5
        have HF2 := Lib.hid hF2
        have HL2 := Lib.hid (show ∀ j, (F2 j).length ≤ 320 from fun j => by
          rw [← hF2]
          exact upd_len (M := 320) (fun j => Nat.le_trans (HL1.out j) (by omega)) (by have := HL1.out (v + 2); simp; omega) j)
        have H2 := Lib.hid (And.intro harc hB5)
        clear hF2 hV2 hB5 harc hown5 hgrow5 hat5 hlt5 hOI hb5 hfar5 hfar6 HoZ hlen hi hz0 hz1 hz2
        generalize (W5.setCell ⟨w.heap.size + 1, v, none⟩ (.slice (some ⟨g5, 0, none⟩) ((F1 (v + 2)).length + 1) cap5)) = Y2 at H2 ⊢
        clear qs fs ls HZ HkK HN5
        have qr : Y2.cell? ⟨w.heap.size + 1 + 1, 0, none⟩ = some (V2 0) := (blk_cell H2.out.2.rb 0).trans rfl
        have qa : Y2.cell? ⟨X.heap.size, 0, none⟩ = some (.int .i64 u) := (blk_cell H2.out.1 0).trans rfl
        have qb : Y2.cell? ⟨X.heap.size, 1, none⟩ = some (.int .i64 v) := (blk_cell H2.out.1 1).trans rfl
        obtain ⟨av, cv, hVe, hVl, hVm⟩ := owns_shape (H2.out.2.own.own (0) (by omega))
        rw [hVe] at qr
        have lr := blk_lt H2.out.2.rb
        have la := blk_lt H2.out.1
        have lb := blk_lt H2.out.2.at'
        have hlen := HL2.out (0)
        have HV := Lib.hid hVe
        clear hVe
        go_wp2_with fail
        have hbY : Below Y2.heap.size Y2 Y2.drew := (below_self Y2).drew
        have HZ := Lib.hid (And.intro (blk_below H2.out.1 hbY) (H2.out.2.later hbY))
        obtain ⟨i0, hi, hz0, hz1, hz2⟩ := info_parts info3
        have hoZ := HZ.out.2.own.own (0) (by omega)
        rw [HV.out] at hoZ
        have HoZ := Lib.hid (hoZ : Y2.drew.ownsRow (w.heap.size + 3) 3 1 _ _ _)
        have HkK := Lib.hid (show ∀ W : World, W.heap[X.heap.size]? = some (.cells #[.int .i64 u, .int .i64 v, .int .i64 xc] 63 (0, 0)) → W.heap[w.heap.size + 1]? = some (.cells ((List.range n).map (fun u => V2 (u + 2))).toArray 68 (0, 0)) → W.heap[w.heap.size + 2]? = some (.cells #[V2 0, V2 1, .slice (some ⟨w.heap.size + 1, 0, none⟩) n n] 96 (0, 0)) → W.cell? ⟨w.heap.size + 1 + 1, 0, none⟩ = some (.slice av (F2 (0)).length cv) ∧ W.cell? ⟨X.heap.size, 0, none⟩ = some (.int .i64 u) ∧ W.cell? ⟨X.heap.size, 1, none⟩ = some (.int .i64 v) from fun W h1 h2 h3 => ⟨(blk_cell h3 0).trans (by rw [← HV.out]; rfl), (blk_cell h1 0).trans rfl, (blk_cell h1 1).trans rfl⟩)
        have kD := HkK.out _ HZ.out.1 HZ.out.2.at' HZ.out.2.rb
        have kA := HkK.out _ (blk_alloc HZ.out.1 (.cells #[.int .i64 v, .int .i64 u] 3)) (blk_alloc HZ.out.2.at' _) (blk_alloc HZ.out.2.rb _)
        have hne5 : some X.heap.size ≠ (V2 (0)).ownBlock := own_ne_type (HZ.out.2.own.own (0) (by omega)) HZ.out.1 (by decide)
        have HN5 := Lib.hid hne5
        have hone : ∀ y ∈ ([.int .i64 v, .int .i64 u] : List Value), y.oneCell' = true := by simp [Value.oneCell']
        have h63 : (F2 (0)).length + 2 ≤ maxLen := by unfold maxLen; omega
        have h8 : ((F2 (0)).length + 2) * 8 ≤ 140737488355328 := by omega
        have hbs : w.heap.size + 3 ≤ (Y2.drew.alloc (.cells #[.int .i64 v, .int .i64 u] 3)).heap.size := by have := blk_lt HZ.out.2.rb; simp at this ⊢; omega
        clear qr qa qb hne5 hbY
        refine wp_region_G (by kernel_rfl) (fun W => W.cell? ⟨w.heap.size + 1 + 1, 0, none⟩ = some (.slice av (F2 (0)).length cv) ∧ W.cell? ⟨X.heap.size, 0, none⟩ = some (.int .i64 u) ∧ W.cell? ⟨X.heap.size, 1, none⟩ = some (.int .i64 v)) 13 ?_
        refine wpAnyG_take (i := 0) (v := ?v10ax0) rfl (by kernel_rfl) (by kernel_rfl) (by kernel_rfl) (by kernel_rfl) (fun _ _ _ h => h) (Or.inl ⟨by rfl, ?y10ax0⟩) kD ?r10ax0
        case y10ax0 => (rintro W ⟨s1, s2, s3⟩; go_simp; try with_reducible rfl)
        refine wpAnyG_take (i := 1) (v := ?v10ax1) rfl (by kernel_rfl) (by kernel_rfl) (by kernel_rfl) (by kernel_rfl) (fun _ _ _ h => h) (Or.inl ⟨by rfl, ?y10ax1⟩) kD ?r10ax1
        case y10ax1 => (rintro W ⟨s1, s2, s3⟩; go_simp; try with_reducible rfl)
        refine wpAnyG_take (i := 2) (v := ?v10ax2) rfl (by kernel_rfl) (by kernel_rfl) (by kernel_rfl) (by kernel_rfl) (fun _ _ _ h => h) (Or.inl ⟨by rfl, ?y10ax2⟩) kD ?r10ax2
        case y10ax2 => (rintro W ⟨s1, s2, s3⟩; go_simp; try with_reducible rfl)
        refine wpAnyG_take (i := 3) (v := ?v10ax3) rfl (by kernel_rfl) (by kernel_rfl) (by kernel_rfl) (by kernel_rfl) (fun _ _ _ h => h) (Or.inl ⟨by rfl, ?y10ax3⟩) kD ?r10ax3
        case y10ax3 => (rintro W ⟨s1, s2, s3⟩; go_simp; try with_reducible rfl)
        refine wpAnyG_take (i := 4) (v := ?v10ax4) rfl (by kernel_rfl) (by kernel_rfl) (by kernel_rfl) (by kernel_rfl) (fun _ _ _ h => h) (Or.inl ⟨by rfl, ?y10ax4⟩) kD ?r10ax4
        case y10ax4 => (rintro W ⟨s1, s2, s3⟩; go_simp; try with_reducible rfl)
        refine wpAnyG_take (i := 5) (v := ?v10ax5) rfl (by kernel_rfl) (by kernel_rfl) (by kernel_rfl) (by kernel_rfl) (fun _ _ _ h => h) (Or.inl ⟨by rfl, ?y10ax5⟩) kD ?r10ax5
        case y10ax5 => (rintro W ⟨s1, s2, s3⟩; go_simp; try with_reducible rfl)
        refine wpAnyG_take (i := 6) (v := ?v10ax6) rfl (by kernel_rfl) (by kernel_rfl) (by kernel_rfl) (by kernel_rfl) (fun _ _ _ h => h) (Or.inl ⟨by rfl, ?y10ax6⟩) kD ?r10ax6
        case y10ax6 => (rintro W ⟨s1, s2, s3⟩; go_simp; try with_reducible rfl)
        refine wpAnyG_take (i := 7) (v := ?v10ax7) rfl (by kernel_rfl) (by kernel_rfl) (by kernel_rfl) (by kernel_rfl) (fun _ _ _ h => h) (Or.inl ⟨by rfl, ?y10ax7⟩) kD ?r10ax7
        case y10ax7 => (rintro W ⟨s1, s2, s3⟩; go_simp; try with_reducible rfl)
        refine wpAnyG_take (i := 8) (v := ?v10ax8) rfl (by kernel_rfl) (by kernel_rfl) (by kernel_rfl) (by kernel_rfl) (fun _ _ _ h => h) (Or.inl ⟨by rfl, ?y10ax8⟩) kD ?r10ax8
        case y10ax8 => (rintro W ⟨s1, s2, s3⟩; go_simp; try with_reducible rfl)
        refine wpAnyG_next (i := 9) (by kernel_rfl) rfl (fun K hK => ?_)
        go_simp
        refine hK _ _ (fun _ => kA) ?_
        clear hK K
        refine wpAnyG_next (i := 10) (by kernel_rfl) rfl (fun K hK => ?_)
        refine step_append_lies _ (by rfl) _ _ 68 (by rfl) (w.heap.size + 3) 3 i0 _ 1 8 Tryz.underlying68 hi hz0 hz1 hz2 rfl (by decide) _ _ _ (by rfl) (World.ownsRow.alloc HoZ.out (.cells #[.int .i64 v, .int .i64 u] 3)) ⟨Y2.heap.size, 0, none⟩ 2 2 [.int .i64 v, .int .i64 u] (by rfl) rfl (World.news_of_block (show (Y2.drew.alloc (.cells #[.int .i64 v, .int .i64 u] 3)).heap[Y2.heap.size]? = _ from blk_new Y2.drew (.cells #[.int .i64 v, .int .i64 u] 3))) hone (by omega) h63 h8 hbs _ rfl ?_
        intro g5 cap5 W5 hown5 hgrow5 hat5 hlt5
        rw [← HV.out] at hgrow5
        have bA := grown_blk hgrow5 (blk_alloc HZ.out.1 _) HN5.out
        have bR := grown_blk hgrow5 (blk_alloc HZ.out.2.rb _) (HZ.out.2.far (i := 0) (by omega) (by omega))
        have bQ := grown_blk hgrow5 (blk_alloc HZ.out.2.at' _) (HZ.out.2.far (i := 0) (by omega) (by omega))
        have kW := HkK.out W5 bA bQ bR
        have cT := blk_cell bR 0
        have fT := blk_frozen bR 0
        simp only [HV.out] at cT
        simp at cT
        have lT := blk_lt bR
        clear bA bR bQ
        try go_simp
        refine hK _ _ (fun _ => kW) ?_
        clear hK K
        refine wpAnyG_next (i := 11) (by kernel_rfl) rfl (fun K hK => ?_)
        go_simp
        refine hK _ _ (fun _ => kW) ?_
        clear hK K
        refine wpAnyG_next (i := 12) (by kernel_rfl) rfl (fun K hK => ?_)
        go_simp
        refine hK _ _ (fun _ => kW) ?_
        clear hK K
        refine wpAnyG_next (i := 13) (by kernel_rfl) rfl (fun K hK => ?_)
        go_simp
        refine hK _ _ (fun h => absurd rfl h) ?_
        clear hK K
        refine wpAnyG_done (by kernel_rfl) ?_ _
        rw [← HV.out] at hat5
        clear kD kA kW cT fT lT hone h63 h8 hbs lb lr la
        have hOI : OwnI (w.heap.size + 3) W5 (.slice (some ⟨g5, 0, none⟩) ((F2 (0)).length + 2) cap5) (F2 (0) ++ [(v : Int), (u : Int)]) := by
          unfold OwnI
          rw [intsV_app2, List.length_append]
          exact hown5
        have hB5 := HZ.out.2.heads hgrow5 hOI (fun q hq => by
          have hq' : q = g5 := by cases hq; rfl
          subst hq'
          rcases hat5 with h | h
          · exact .inl h
          · right; rw [h]; simp)
        have hfar5 := HZ.out.2.far (i := 0) (by omega) (j := w.heap.size + 1) (by omega)
        have hfar6 := HZ.out.2.far (i := 0) (by omega) (j := w.heap.size + 2) (by omega)
        have hb5 := grown_blk hgrow5 (blk_alloc HZ.out.2.rb (.cells #[.int .i64 v, .int .i64 u] 3)) hfar6
        have qs := blk_cell hb5 0
        have fs := blk_frozen hb5 0
        simp only [HV.out] at qs
        simp at qs
        have ls := blk_lt hb5
        have harc : (W5.setCell ⟨w.heap.size + 1 + 1, 0, none⟩ (.slice (some ⟨g5, 0, none⟩) ((F2 (0)).length + 2) cap5)).heap[X.heap.size]? = some (.cells #[.int .i64 u, .int .i64 v, .int .i64 xc] 63 (0, 0)) := blk_set (grown_blk hgrow5 (blk_alloc HZ.out.1 _) (HN5.out)) (by simp only; omega) _
        obtain ⟨F3, hF3⟩ : ∃ F3, upd F2 (0) (F2 (0) ++ [(v : Int), (u : Int)]) = F3 := ⟨_, rfl⟩
        obtain ⟨V3, hV3⟩ : ∃ V3, upd V2 (0) (.slice (some ⟨g5, 0, none⟩) ((F2 (0)).length + 2) cap5) = V3 := ⟨_, rfl⟩
        rw [hF3, hV3] at hB5
        have HF3 := Lib.hid hF3
        have HL3 := Lib.hid (show ∀ j, (F3 j).length ≤ 330 from fun j => by
          rw [← hF3]
          exact upd_len (M := 330) (fun j => Nat.le_trans (HL2.out j) (by omega)) (by have := HL2.out (0); simp; omega) j)
        have H3 := Lib.hid (And.intro harc hB5)
        clear hF3 hV3 hB5 harc hown5 hgrow5 hat5 hlt5 hOI hb5 hfar5 hfar6 HoZ hlen hi hz0 hz1 hz2
        generalize (W5.setCell ⟨w.heap.size + 1 + 1, 0, none⟩ (.slice (some ⟨g5, 0, none⟩) ((F2 (0)).length + 2) cap5)) = Y3 at H3 ⊢
        clear qs fs ls HZ HkK HN5
        have qr : Y3.cell? ⟨w.heap.size + 1 + 1, 1, none⟩ = some (V3 1) := (blk_cell H3.out.2.rb 1).trans rfl
        obtain ⟨av, cv, hVe, hVl, hVm⟩ := owns_shape (H3.out.2.own.own (1) (by omega))
        rw [hVe] at qr
        have lr := blk_lt H3.out.2.rb
        have la := blk_lt H3.out.1
        have lb := blk_lt H3.out.2.at'
        have hlen := HL3.out (1)
        have HV := Lib.hid hVe
        clear hVe
        have HZ := Lib.hid (And.intro H3.out.1 H3.out.2)
        obtain ⟨i0, hi, hz0, hz1, hz2⟩ := info_parts info3
        have hoZ := HZ.out.2.own.own (1) (by omega)
        rw [HV.out] at hoZ
        have HoZ := Lib.hid (hoZ : Y3.ownsRow (w.heap.size + 3) 3 1 _ _ _)
        clear hoZ
        go_wp2_with (at_builtin; go_must (refine wpList_append_lies _ rfl _ _ 68 rfl (w.heap.size + 3) 3 i0 _ 1 8 Tryz.underlying68 hi hz0 hz1 hz2 rfl (by decide) _ _ _ rfl (World.ownsRow.alloc HoZ.out _) ⟨Y3.heap.size, 0, none⟩ 2 2 [.int .i64 0, .int .i64 0] rfl rfl (World.news_of_block (blk_new Y3 (.cells #[.int .i64 0, .int .i64 0] 3))) ?c3 ?c4 ?c5 ?c6 ?c7 _ rfl ?_))
        case c3 => simp [Value.oneCell']
        case c4 => omega
        case c5 => unfold maxLen; omega
        case c6 => omega
        case c7 => have := blk_lt HZ.out.2.rb; simp; omega
        intro g5 cap5 W5 hown5 hgrow5 hat5 hlt5
        clear qr lr la lb
        rw [← HV.out] at hgrow5 hat5
        have HN5 := Lib.hid (own_ne_type (HZ.out.2.own.own (1) (by omega)) HZ.out.1 (by decide))
        have hOI : OwnI (w.heap.size + 3) W5 (.slice (some ⟨g5, 0, none⟩) ((F3 (1)).length + 2) cap5) (F3 (1) ++ [0, 0]) := by
          unfold OwnI
          rw [intsV_app2, List.length_append]
          exact hown5
        have hB5 := HZ.out.2.rooms hgrow5 hOI (fun q hq => by
          have hq' : q = g5 := by cases hq; rfl
          subst hq'
          rcases hat5 with h | h
          · exact .inl h
          · right; rw [h]; simp)
        have hfar5 := HZ.out.2.far (i := 1) (by omega) (j := w.heap.size + 1) (by omega)
        have hfar6 := HZ.out.2.far (i := 1) (by omega) (j := w.heap.size + 2) (by omega)
        have hb5 := grown_blk hgrow5 (blk_alloc HZ.out.2.rb (.cells #[.int .i64 0, .int .i64 0] 3)) hfar6
        have qs := blk_cell hb5 1
        have fs := blk_frozen hb5 1
        simp only [HV.out] at qs
        simp at qs
        have ls := blk_lt hb5
        have harc : (W5.setCell ⟨w.heap.size + 1 + 1, 1, none⟩ (.slice (some ⟨g5, 0, none⟩) ((F3 (1)).length + 2) cap5)).heap[X.heap.size]? = some (.cells #[.int .i64 u, .int .i64 v, .int .i64 xc] 63 (0, 0)) := blk_set (grown_blk hgrow5 (blk_alloc HZ.out.1 _) (HN5.out)) (by simp only; omega) _
        obtain ⟨F4, hF4⟩ : ∃ F4, upd F3 (1) (F3 (1) ++ [0, 0]) = F4 := ⟨_, rfl⟩
        obtain ⟨V4, hV4⟩ : ∃ V4, upd V3 (1) (.slice (some ⟨g5, 0, none⟩) ((F3 (1)).length + 2) cap5) = V4 := ⟨_, rfl⟩
        rw [hF4, hV4] at hB5
        have HF4 := Lib.hid hF4
        have HL4 := Lib.hid (show ∀ j, (F4 j).length ≤ 340 from fun j => by
          rw [← hF4]
          exact upd_len (M := 340) (fun j => Nat.le_trans (HL3.out j) (by omega)) (by have := HL3.out (1); simp; omega) j)
        have H4 := Lib.hid (And.intro harc hB5)
        clear hF4 hV4 hB5 harc hown5 hgrow5 hat5 hlt5 hOI hb5 hfar5 hfar6 HoZ hlen hi hz0 hz1 hz2
        go_upto_region 12 with fail
        generalize (W5.setCell ⟨w.heap.size + 1 + 1, 1, none⟩ (.slice (some ⟨g5, 0, none⟩) ((F3 (1)).length + 2) cap5)) = Y4 at H4 ⊢
        clear qs fs ls HZ
        go_wp2_with fail
        go_roundw
        case rel => exact ⟨k + 1, V4, Y4, by omega, by go_num, rfl, Lib.hid (by
          have he : F4 = rowF (woL l wo) (k + 1) := by
            have := rowF_succ (l := woL l wo) (k := k) (by rw [woL_len]; exact hkl) HK.out.1 (fun h => HK.out.2.2 (by rw [h]))
            rw [← this, HF0.out, HF1.out, HF2.out, HF3.out, HF4.out]
          rw [← he]
          exact H4.out.2)⟩
        case measure => simp [intOf]; omega
      · rw [if_neg hw] at hwo
        have hwb : ((k : Int) == wo) = false := beq_eq_false_iff_ne.2 hw
        clear hw
        have HK := Lib.hid (And.intro hwo (And.intro hx huv))
        clear hwo hx
        go_upto_region 8 with fail
        obtain ⟨Y0, hY0⟩ : ∃ W' : World, (X.alloc (.cells #[.int .i64 u, .int .i64 v, .int .i64 xc] 63)) = W' := ⟨_, rfl⟩
        have h : Has Y0 [(X.heap.size, .cells #[.int .i64 u, .int .i64 v, .int .i64 xc] 63 (0, 0))] := by rw [← hY0]; simpa using ((Has.nil X).new _)
        have z : Y0.heap.size = X.heap.size + 1 := by rw [← hY0]; simp
        have b : Below X.heap.size X Y0 := by rw [← hY0]; exact (below_alloc (below_self X) _)
        rw [hY0]
        clear hY0
        have H0 := Lib.hid (And.intro h.hd (HX.out.later b))
        have hXw := HX.out.bel.size
        have hXr := blk_lt HX.out.rb
        clear h z b c0 c1 c2 hb1
        have hkI2 : IntKind.i64.wrap (2 * (k : Int)) = 2 * k := IntWalk.i64_in _ (by omega)
        have hkI3 : IntKind.i64.wrap (2 * (k : Int) + 1) = 2 * k + 1 := IntWalk.i64_in _ (by omega)
        have huI : (u : Int) < (n : Int) := by omega
        have hvI : (v : Int) < (n : Int) := by omega
        obtain ⟨F0, hF0⟩ : ∃ F0, rowF (woL l wo) k = F0 := ⟨_, rfl⟩
        have hl0 : ∀ j, (rowF (woL l wo) k j).length ≤ 300 := fun j => Nat.le_trans (rowF_len (woL l wo) k (by rw [woL_len]; omega) j) (by omega)
        rw [hF0] at H0 hl0
        have HF0 := Lib.hid hF0
        have HL0 := Lib.hid hl0
        clear hF0 hl0
        have qr : Y0.cell? ⟨w.heap.size + 1 + 1, 2, none⟩ = some (.slice (some ⟨w.heap.size + 1, 0, none⟩) n n) := (blk_cell H0.out.2.rb 2).trans rfl
        have qa : Y0.cell? ⟨X.heap.size, 0, none⟩ = some (.int .i64 u) := (blk_cell H0.out.1 0).trans rfl
        obtain ⟨av, cv, hVe, hVl, hVm⟩ := owns_shape (H0.out.2.own.own (u + 2) (by omega))
        have qv : Y0.cell? ⟨w.heap.size + 1, u, none⟩ = some (.slice av (F0 (u + 2)).length cv) := (blk_cell H0.out.2.at' u).trans (by rw [← hVe]; exact range_get V (by omega))
        have lr := blk_lt H0.out.2.rb
        have la := blk_lt H0.out.1
        have lb := blk_lt H0.out.2.at'
        have hlen := HL0.out (u + 2)
        have HV := Lib.hid hVe
        clear hVe
        go_wp2_with fail
        have hbY : Below Y0.heap.size Y0 Y0.drew := (below_self Y0).drew
        have HZ := Lib.hid (And.intro (blk_below H0.out.1 hbY) (H0.out.2.later hbY))
        obtain ⟨i0, hi, hz0, hz1, hz2⟩ := info_parts info3
        have hoZ := HZ.out.2.own.own (u + 2) (by omega)
        rw [HV.out] at hoZ
        have HoZ := Lib.hid (hoZ : Y0.drew.ownsRow (w.heap.size + 3) 3 1 _ _ _)
        have HkK := Lib.hid (show ∀ W : World, W.heap[X.heap.size]? = some (.cells #[.int .i64 u, .int .i64 v, .int .i64 xc] 63 (0, 0)) → W.heap[w.heap.size + 1]? = some (.cells ((List.range n).map (fun u => V (u + 2))).toArray 68 (0, 0)) → W.heap[w.heap.size + 2]? = some (.cells #[V 0, V 1, .slice (some ⟨w.heap.size + 1, 0, none⟩) n n] 96 (0, 0)) → W.cell? ⟨w.heap.size + 1 + 1, 2, none⟩ = some (.slice (some ⟨w.heap.size + 1, 0, none⟩) n n) ∧ W.cell? ⟨X.heap.size, 0, none⟩ = some (.int .i64 u) ∧ W.cell? ⟨w.heap.size + 1, u, none⟩ = some (.slice av (F0 (u + 2)).length cv) from fun W h1 h2 h3 => ⟨(blk_cell h3 2).trans rfl, (blk_cell h1 0).trans rfl, (blk_cell h2 u).trans (by rw [← HV.out]; exact range_get V (by omega))⟩)
        have kD := HkK.out _ HZ.out.1 HZ.out.2.at' HZ.out.2.rb
        have kA := HkK.out _ (blk_alloc HZ.out.1 (.cells #[.int .i64 (2 * k)] 3)) (blk_alloc HZ.out.2.at' _) (blk_alloc HZ.out.2.rb _)
        have hne5 : some X.heap.size ≠ (V (u + 2)).ownBlock := own_ne_type (HZ.out.2.own.own (u + 2) (by omega)) HZ.out.1 (by decide)
        have HN5 := Lib.hid hne5
        have hone : ∀ y ∈ ([.int .i64 (2 * k)] : List Value), y.oneCell' = true := by simp [Value.oneCell']
        have h63 : (F0 (u + 2)).length + 1 ≤ maxLen := by unfold maxLen; omega
        have h8 : ((F0 (u + 2)).length + 1) * 8 ≤ 140737488355328 := by omega
        have hbs : w.heap.size + 3 ≤ (Y0.drew.alloc (.cells #[.int .i64 (2 * k)] 3)).heap.size := by have := blk_lt HZ.out.2.rb; simp at this ⊢; omega
        clear qr qa qv hne5 hbY
        refine wp_region_G (by kernel_rfl) (fun W => W.cell? ⟨w.heap.size + 1 + 1, 2, none⟩ = some (.slice (some ⟨w.heap.size + 1, 0, none⟩) n n) ∧ W.cell? ⟨X.heap.size, 0, none⟩ = some (.int .i64 u) ∧ W.cell? ⟨w.heap.size + 1, u, none⟩ = some (.slice av (F0 (u + 2)).length cv)) 19 ?_
        refine wpAnyG_take (i := 0) (v := ?v8bx0) rfl (by kernel_rfl) (by kernel_rfl) (by kernel_rfl) (by kernel_rfl) (fun _ _ _ h => h) (Or.inl ⟨by rfl, ?y8bx0⟩) kD ?r8bx0
        case y8bx0 => (rintro W ⟨s1, s2, s3⟩; go_simp; try with_reducible rfl)
        refine wpAnyG_take (i := 1) (v := ?v8bx1) rfl (by kernel_rfl) (by kernel_rfl) (by kernel_rfl) (by kernel_rfl) (fun _ _ _ h => h) (Or.inl ⟨by rfl, ?y8bx1⟩) kD ?r8bx1
        case y8bx1 => (rintro W ⟨s1, s2, s3⟩; go_simp; try with_reducible rfl)
        refine wpAnyG_take (i := 2) (v := ?v8bx2) rfl (by kernel_rfl) (by kernel_rfl) (by kernel_rfl) (by kernel_rfl) (fun _ _ _ h => h) (Or.inl ⟨by rfl, ?y8bx2⟩) kD ?r8bx2
        case y8bx2 => (rintro W ⟨s1, s2, s3⟩; go_simp; try with_reducible rfl)
        refine wpAnyG_take (i := 3) (v := ?v8bx3) rfl (by kernel_rfl) (by kernel_rfl) (by kernel_rfl) (by kernel_rfl) (fun _ _ _ h => h) (Or.inl ⟨by rfl, ?y8bx3⟩) kD ?r8bx3
        case y8bx3 => (rintro W ⟨s1, s2, s3⟩; go_simp; try with_reducible rfl)
        refine wpAnyG_take (i := 4) (v := ?v8bx4) rfl (by kernel_rfl) (by kernel_rfl) (by kernel_rfl) (by kernel_rfl) (fun _ _ _ h => h) (Or.inl ⟨by rfl, ?y8bx4⟩) kD ?r8bx4
        case y8bx4 => (rintro W ⟨s1, s2, s3⟩; go_simp; try with_reducible rfl)
        refine wpAnyG_take (i := 5) (v := ?v8bx5) rfl (by kernel_rfl) (by kernel_rfl) (by kernel_rfl) (by kernel_rfl) (fun _ _ _ h => h) (Or.inl ⟨by rfl, ?y8bx5⟩) kD ?r8bx5
        case y8bx5 => (rintro W ⟨s1, s2, s3⟩; go_simp; try with_reducible rfl)
        refine wpAnyG_take (i := 6) (v := ?v8bx6) rfl (by kernel_rfl) (by kernel_rfl) (by kernel_rfl) (by kernel_rfl) (fun _ _ _ h => h) (Or.inl ⟨by rfl, ?y8bx6⟩) kD ?r8bx6
        case y8bx6 => (rintro W ⟨s1, s2, s3⟩; go_simp; try with_reducible rfl)
        refine wpAnyG_take (i := 7) (v := ?v8bx7) rfl (by kernel_rfl) (by kernel_rfl) (by kernel_rfl) (by kernel_rfl) (fun _ _ _ h => h) (Or.inl ⟨by rfl, ?y8bx7⟩) kD ?r8bx7
        case y8bx7 => (rintro W ⟨s1, s2, s3⟩; go_simp; try with_reducible rfl)
        refine wpAnyG_take (i := 8) (v := ?v8bx8) rfl (by kernel_rfl) (by kernel_rfl) (by kernel_rfl) (by kernel_rfl) (fun _ _ _ h => h) (Or.inl ⟨by rfl, ?y8bx8⟩) kD ?r8bx8
        case y8bx8 => (rintro W ⟨s1, s2, s3⟩; go_simp; try with_reducible rfl)
        refine wpAnyG_take (i := 9) (v := ?v8bx9) rfl (by kernel_rfl) (by kernel_rfl) (by kernel_rfl) (by kernel_rfl) (fun _ _ _ h => h) (Or.inl ⟨by rfl, ?y8bx9⟩) kD ?r8bx9
        case y8bx9 => (rintro W ⟨s1, s2, s3⟩; go_simp; try with_reducible rfl)
        refine wpAnyG_take (i := 10) (v := ?v8bx10) rfl (by kernel_rfl) (by kernel_rfl) (by kernel_rfl) (by kernel_rfl) (fun _ _ _ h => h) (Or.inl ⟨by rfl, ?y8bx10⟩) kD ?r8bx10
        case y8bx10 => (rintro W ⟨s1, s2, s3⟩; go_simp; try with_reducible rfl)
        refine wpAnyG_take (i := 11) (v := ?v8bx11) rfl (by kernel_rfl) (by kernel_rfl) (by kernel_rfl) (by kernel_rfl) (fun _ _ _ h => h) (Or.inl ⟨by rfl, ?y8bx11⟩) kD ?r8bx11
        case y8bx11 => (rintro W ⟨s1, s2, s3⟩; go_simp; try with_reducible rfl)
        refine wpAnyG_take (i := 12) (v := ?v8bx12) rfl (by kernel_rfl) (by kernel_rfl) (by kernel_rfl) (by kernel_rfl) (fun _ _ _ h => h) (Or.inl ⟨by rfl, ?y8bx12⟩) kD ?r8bx12
        case y8bx12 => (rintro W ⟨s1, s2, s3⟩; go_simp; try with_reducible rfl)
        refine wpAnyG_take (i := 13) (v := ?v8bx13) rfl (by kernel_rfl) (by kernel_rfl) (by kernel_rfl) (by kernel_rfl) (fun _ _ _ h => h) (Or.inl ⟨by rfl, ?y8bx13⟩) kD ?r8bx13
        case y8bx13 => (rintro W ⟨s1, s2, s3⟩; go_simp; try with_reducible rfl)
        refine wpAnyG_take (i := 14) (v := ?v8bx14) rfl (by kernel_rfl) (by kernel_rfl) (by kernel_rfl) (by kernel_rfl) (fun _ _ _ h => h) (Or.inl ⟨by rfl, ?y8bx14⟩) kD ?r8bx14
        case y8bx14 => (rintro W ⟨s1, s2, s3⟩; go_simp; try with_reducible rfl)
        refine wpAnyG_take (i := 15) (v := ?v8bx15) rfl (by kernel_rfl) (by kernel_rfl) (by kernel_rfl) (by kernel_rfl) (fun _ _ _ h => h) (Or.inl ⟨by rfl, ?y8bx15⟩) kD ?r8bx15
        case y8bx15 => (rintro W ⟨s1, s2, s3⟩; go_simp; try with_reducible rfl)
        refine wpAnyG_next (i := 16) (by kernel_rfl) rfl (fun K hK => ?_)
        go_simp
        refine hK _ _ (fun _ => kA) ?_
        clear hK K
        refine wpAnyG_next (i := 17) (by kernel_rfl) rfl (fun K hK => ?_)
        refine step_append_lies _ (by rfl) _ _ 68 (by rfl) (w.heap.size + 3) 3 i0 _ 1 8 Tryz.underlying68 hi hz0 hz1 hz2 rfl (by decide) _ _ _ (by rfl) (World.ownsRow.alloc HoZ.out (.cells #[.int .i64 (2 * k)] 3)) ⟨Y0.heap.size, 0, none⟩ 1 1 [.int .i64 (2 * k)] (by rfl) rfl (World.news_of_block (show (Y0.drew.alloc (.cells #[.int .i64 (2 * k)] 3)).heap[Y0.heap.size]? = _ from blk_new Y0.drew (.cells #[.int .i64 (2 * k)] 3))) hone (by omega) h63 h8 hbs _ rfl ?_
        intro g5 cap5 W5 hown5 hgrow5 hat5 hlt5
        rw [← HV.out] at hgrow5
        have bA := grown_blk hgrow5 (blk_alloc HZ.out.1 _) HN5.out
        have bR := grown_blk hgrow5 (blk_alloc HZ.out.2.rb _) (HZ.out.2.far (i := u + 2) (by omega) (by omega))
        have bQ := grown_blk hgrow5 (blk_alloc HZ.out.2.at' _) (HZ.out.2.far (i := u + 2) (by omega) (by omega))
        have kW := HkK.out W5 bA bQ bR
        have cT := blk_cell bQ u
        have fT := blk_frozen bQ u
        rw [range_get V (by omega), HV.out] at cT
        have lT := blk_lt bQ
        clear bA bR bQ
        try go_simp
        refine hK _ _ (fun _ => kW) ?_
        clear hK K
        refine wpAnyG_next (i := 18) (by kernel_rfl) rfl (fun K hK => ?_)
        go_simp
        refine hK _ _ (fun _ => kW) ?_
        clear hK K
        refine wpAnyG_next (i := 19) (by kernel_rfl) rfl (fun K hK => ?_)
        go_simp
        refine hK _ _ (fun h => absurd rfl h) ?_
        clear hK K
        refine wpAnyG_done (by kernel_rfl) ?_ _
        rw [← HV.out] at hat5
        clear kD kA kW cT fT lT hone h63 h8 hbs lb lr la
        have hOI : OwnI (w.heap.size + 3) W5 (.slice (some ⟨g5, 0, none⟩) ((F0 (u + 2)).length + 1) cap5) (F0 (u + 2) ++ [2 * (k : Int)]) := by
          unfold OwnI
          rw [intsV_app2, List.length_append]
          exact hown5
        have hB5 := HZ.out.2.row (u := u) (by omega) hgrow5 hOI (fun q hq => by
          have hq' : q = g5 := by cases hq; rfl
          subst hq'
          rcases hat5 with h | h
          · exact .inl h
          · right; rw [h]; simp)
        have hfar5 := HZ.out.2.far (i := u + 2) (by omega) (j := w.heap.size + 1) (by omega)
        have hfar6 := HZ.out.2.far (i := u + 2) (by omega) (j := w.heap.size + 2) (by omega)
        have hb5 := grown_blk hgrow5 (blk_alloc HZ.out.2.at' (.cells #[.int .i64 (2 * k)] 3)) hfar5
        have qs := blk_cell hb5 u
        have fs := blk_frozen hb5 u
        rw [range_get V (by omega), HV.out] at qs
        have ls := blk_lt hb5
        have harc : (W5.setCell ⟨w.heap.size + 1, u, none⟩ (.slice (some ⟨g5, 0, none⟩) ((F0 (u + 2)).length + 1) cap5)).heap[X.heap.size]? = some (.cells #[.int .i64 u, .int .i64 v, .int .i64 xc] 63 (0, 0)) := blk_set (grown_blk hgrow5 (blk_alloc HZ.out.1 _) (HN5.out)) (by simp only; omega) _
        obtain ⟨F1, hF1⟩ : ∃ F1, upd F0 (u + 2) (F0 (u + 2) ++ [2 * (k : Int)]) = F1 := ⟨_, rfl⟩
        obtain ⟨V1, hV1⟩ : ∃ V1, upd V (u + 2) (.slice (some ⟨g5, 0, none⟩) ((F0 (u + 2)).length + 1) cap5) = V1 := ⟨_, rfl⟩
        rw [hF1, hV1] at hB5
        have HF1 := Lib.hid hF1
        have HL1 := Lib.hid (show ∀ j, (F1 j).length ≤ 310 from fun j => by
          rw [← hF1]
          exact upd_len (M := 310) (fun j => Nat.le_trans (HL0.out j) (by omega)) (by have := HL0.out (u + 2); simp; omega) j)
        have H1 := Lib.hid (And.intro harc hB5)
        clear hF1 hV1 hB5 harc hown5 hgrow5 hat5 hlt5 hOI hb5 hfar5 hfar6 HoZ hlen hi hz0 hz1 hz2
        generalize (W5.setCell ⟨w.heap.size + 1, u, none⟩ (.slice (some ⟨g5, 0, none⟩) ((F0 (u + 2)).length + 1) cap5)) = Y1 at H1 ⊢
        clear qs fs ls HZ HkK HN5
        have qr : Y1.cell? ⟨w.heap.size + 1 + 1, 2, none⟩ = some (.slice (some ⟨w.heap.size + 1, 0, none⟩) n n) := (blk_cell H1.out.2.rb 2).trans rfl
        have qa : Y1.cell? ⟨X.heap.size, 1, none⟩ = some (.int .i64 v) := (blk_cell H1.out.1 1).trans rfl
        obtain ⟨av, cv, hVe, hVl, hVm⟩ := owns_shape (H1.out.2.own.own (v + 2) (by omega))
        have qv : Y1.cell? ⟨w.heap.size + 1, v, none⟩ = some (.slice av (F1 (v + 2)).length cv) := (blk_cell H1.out.2.at' v).trans (by rw [← hVe]; exact range_get V1 (by omega))
        have lr := blk_lt H1.out.2.rb
        have la := blk_lt H1.out.1
        have lb := blk_lt H1.out.2.at'
        have hlen := HL1.out (v + 2)
        have HV := Lib.hid hVe
        clear hVe
        go_wp2_with fail
        have hbY : Below Y1.heap.size Y1 Y1.drew := (below_self Y1).drew
        have HZ := Lib.hid (And.intro (blk_below H1.out.1 hbY) (H1.out.2.later hbY))
        obtain ⟨i0, hi, hz0, hz1, hz2⟩ := info_parts info3
        have hoZ := HZ.out.2.own.own (v + 2) (by omega)
        rw [HV.out] at hoZ
        have HoZ := Lib.hid (hoZ : Y1.drew.ownsRow (w.heap.size + 3) 3 1 _ _ _)
        have HkK := Lib.hid (show ∀ W : World, W.heap[X.heap.size]? = some (.cells #[.int .i64 u, .int .i64 v, .int .i64 xc] 63 (0, 0)) → W.heap[w.heap.size + 1]? = some (.cells ((List.range n).map (fun u => V1 (u + 2))).toArray 68 (0, 0)) → W.heap[w.heap.size + 2]? = some (.cells #[V1 0, V1 1, .slice (some ⟨w.heap.size + 1, 0, none⟩) n n] 96 (0, 0)) → W.cell? ⟨w.heap.size + 1 + 1, 2, none⟩ = some (.slice (some ⟨w.heap.size + 1, 0, none⟩) n n) ∧ W.cell? ⟨X.heap.size, 1, none⟩ = some (.int .i64 v) ∧ W.cell? ⟨w.heap.size + 1, v, none⟩ = some (.slice av (F1 (v + 2)).length cv) from fun W h1 h2 h3 => ⟨(blk_cell h3 2).trans rfl, (blk_cell h1 1).trans rfl, (blk_cell h2 v).trans (by rw [← HV.out]; exact range_get V1 (by omega))⟩)
        have kD := HkK.out _ HZ.out.1 HZ.out.2.at' HZ.out.2.rb
        have kA := HkK.out _ (blk_alloc HZ.out.1 (.cells #[.int .i64 (2 * k + 1)] 3)) (blk_alloc HZ.out.2.at' _) (blk_alloc HZ.out.2.rb _)
        have hne5 : some X.heap.size ≠ (V1 (v + 2)).ownBlock := own_ne_type (HZ.out.2.own.own (v + 2) (by omega)) HZ.out.1 (by decide)
        have HN5 := Lib.hid hne5
        have hone : ∀ y ∈ ([.int .i64 (2 * k + 1)] : List Value), y.oneCell' = true := by simp [Value.oneCell']
        have h63 : (F1 (v + 2)).length + 1 ≤ maxLen := by unfold maxLen; omega
        have h8 : ((F1 (v + 2)).length + 1) * 8 ≤ 140737488355328 := by omega
        have hbs : w.heap.size + 3 ≤ (Y1.drew.alloc (.cells #[.int .i64 (2 * k + 1)] 3)).heap.size := by have := blk_lt HZ.out.2.rb; simp at this ⊢; omega
        clear qr qa qv hne5 hbY
        refine wp_region_G (by kernel_rfl) (fun W => W.cell? ⟨w.heap.size + 1 + 1, 2, none⟩ = some (.slice (some ⟨w.heap.size + 1, 0, none⟩) n n) ∧ W.cell? ⟨X.heap.size, 1, none⟩ = some (.int .i64 v) ∧ W.cell? ⟨w.heap.size + 1, v, none⟩ = some (.slice av (F1 (v + 2)).length cv)) 20 ?_
        refine wpAnyG_take (i := 0) (v := ?v9bx0) rfl (by kernel_rfl) (by kernel_rfl) (by kernel_rfl) (by kernel_rfl) (fun _ _ _ h => h) (Or.inl ⟨by rfl, ?y9bx0⟩) kD ?r9bx0
        case y9bx0 => (rintro W ⟨s1, s2, s3⟩; go_simp; try with_reducible rfl)
        refine wpAnyG_take (i := 1) (v := ?v9bx1) rfl (by kernel_rfl) (by kernel_rfl) (by kernel_rfl) (by kernel_rfl) (fun _ _ _ h => h) (Or.inl ⟨by rfl, ?y9bx1⟩) kD ?r9bx1
        case y9bx1 => (rintro W ⟨s1, s2, s3⟩; go_simp; try with_reducible rfl)
        refine wpAnyG_take (i := 2) (v := ?v9bx2) rfl (by kernel_rfl) (by kernel_rfl) (by kernel_rfl) (by kernel_rfl) (fun _ _ _ h => h) (Or.inl ⟨by rfl, ?y9bx2⟩) kD ?r9bx2
        case y9bx2 => (rintro W ⟨s1, s2, s3⟩; go_simp; try with_reducible rfl)
        refine wpAnyG_take (i := 3) (v := ?v9bx3) rfl (by kernel_rfl) (by kernel_rfl) (by kernel_rfl) (by kernel_rfl) (fun _ _ _ h => h) (Or.inl ⟨by rfl, ?y9bx3⟩) kD ?r9bx3
        case y9bx3 => (rintro W ⟨s1, s2, s3⟩; go_simp; try with_reducible rfl)
        refine wpAnyG_take (i := 4) (v := ?v9bx4) rfl (by kernel_rfl) (by kernel_rfl) (by kernel_rfl) (by kernel_rfl) (fun _ _ _ h => h) (Or.inl ⟨by rfl, ?y9bx4⟩) kD ?r9bx4
        case y9bx4 => (rintro W ⟨s1, s2, s3⟩; go_simp; try with_reducible rfl)
        refine wpAnyG_take (i := 5) (v := ?v9bx5) rfl (by kernel_rfl) (by kernel_rfl) (by kernel_rfl) (by kernel_rfl) (fun _ _ _ h => h) (Or.inl ⟨by rfl, ?y9bx5⟩) kD ?r9bx5
        case y9bx5 => (rintro W ⟨s1, s2, s3⟩; go_simp; try with_reducible rfl)
        refine wpAnyG_take (i := 6) (v := ?v9bx6) rfl (by kernel_rfl) (by kernel_rfl) (by kernel_rfl) (by kernel_rfl) (fun _ _ _ h => h) (Or.inl ⟨by rfl, ?y9bx6⟩) kD ?r9bx6
        case y9bx6 => (rintro W ⟨s1, s2, s3⟩; go_simp; try with_reducible rfl)
        refine wpAnyG_take (i := 7) (v := ?v9bx7) rfl (by kernel_rfl) (by kernel_rfl) (by kernel_rfl) (by kernel_rfl) (fun _ _ _ h => h) (Or.inl ⟨by rfl, ?y9bx7⟩) kD ?r9bx7
        case y9bx7 => (rintro W ⟨s1, s2, s3⟩; go_simp; try with_reducible rfl)
        refine wpAnyG_take (i := 8) (v := ?v9bx8) rfl (by kernel_rfl) (by kernel_rfl) (by kernel_rfl) (by kernel_rfl) (fun _ _ _ h => h) (Or.inl ⟨by rfl, ?y9bx8⟩) kD ?r9bx8
        case y9bx8 => (rintro W ⟨s1, s2, s3⟩; go_simp; try with_reducible rfl)
        refine wpAnyG_take (i := 9) (v := ?v9bx9) rfl (by kernel_rfl) (by kernel_rfl) (by kernel_rfl) (by kernel_rfl) (fun _ _ _ h => h) (Or.inl ⟨by rfl, ?y9bx9⟩) kD ?r9bx9
        case y9bx9 => (rintro W ⟨s1, s2, s3⟩; go_simp; try with_reducible rfl)
        refine wpAnyG_take (i := 10) (v := ?v9bx10) rfl (by kernel_rfl) (by kernel_rfl) (by kernel_rfl) (by kernel_rfl) (fun _ _ _ h => h) (Or.inl ⟨by rfl, ?y9bx10⟩) kD ?r9bx10
        case y9bx10 => (rintro W ⟨s1, s2, s3⟩; go_simp; try with_reducible rfl)
        refine wpAnyG_take (i := 11) (v := ?v9bx11) rfl (by kernel_rfl) (by kernel_rfl) (by kernel_rfl) (by kernel_rfl) (fun _ _ _ h => h) (Or.inl ⟨by rfl, ?y9bx11⟩) kD ?r9bx11
        case y9bx11 => (rintro W ⟨s1, s2, s3⟩; go_simp; try with_reducible rfl)
        refine wpAnyG_take (i := 12) (v := ?v9bx12) rfl (by kernel_rfl) (by kernel_rfl) (by kernel_rfl) (by kernel_rfl) (fun _ _ _ h => h) (Or.inl ⟨by rfl, ?y9bx12⟩) kD ?r9bx12
        case y9bx12 => (rintro W ⟨s1, s2, s3⟩; go_simp; try with_reducible rfl)
        refine wpAnyG_take (i := 13) (v := ?v9bx13) rfl (by kernel_rfl) (by kernel_rfl) (by kernel_rfl) (by kernel_rfl) (fun _ _ _ h => h) (Or.inl ⟨by rfl, ?y9bx13⟩) kD ?r9bx13
        case y9bx13 => (rintro W ⟨s1, s2, s3⟩; go_simp; try with_reducible rfl)
        refine wpAnyG_take (i := 14) (v := ?v9bx14) rfl (by kernel_rfl) (by kernel_rfl) (by kernel_rfl) (by kernel_rfl) (fun _ _ _ h => h) (Or.inl ⟨by rfl, ?y9bx14⟩) kD ?r9bx14
        case y9bx14 => (rintro W ⟨s1, s2, s3⟩; go_simp; try with_reducible rfl)
        refine wpAnyG_take (i := 15) (v := ?v9bx15) rfl (by kernel_rfl) (by kernel_rfl) (by kernel_rfl) (by kernel_rfl) (fun _ _ _ h => h) (Or.inl ⟨by rfl, ?y9bx15⟩) kD ?r9bx15
        case y9bx15 => (rintro W ⟨s1, s2, s3⟩; go_simp; try with_reducible rfl)
        refine wpAnyG_take (i := 16) (v := ?v9bx16) rfl (by kernel_rfl) (by kernel_rfl) (by kernel_rfl) (by kernel_rfl) (fun _ _ _ h => h) (Or.inl ⟨by rfl, ?y9bx16⟩) kD ?r9bx16
        case y9bx16 => (rintro W ⟨s1, s2, s3⟩; go_simp; try with_reducible rfl)
        refine wpAnyG_next (i := 17) (by kernel_rfl) rfl (fun K hK => ?_)
        go_simp
        refine hK _ _ (fun _ => kA) ?_
        clear hK K
        refine wpAnyG_next (i := 18) (by kernel_rfl) rfl (fun K hK => ?_)
        refine step_append_lies _ (by rfl) _ _ 68 (by rfl) (w.heap.size + 3) 3 i0 _ 1 8 Tryz.underlying68 hi hz0 hz1 hz2 rfl (by decide) _ _ _ (by rfl) (World.ownsRow.alloc HoZ.out (.cells #[.int .i64 (2 * k + 1)] 3)) ⟨Y1.heap.size, 0, none⟩ 1 1 [.int .i64 (2 * k + 1)] (by rfl) rfl (World.news_of_block (show (Y1.drew.alloc (.cells #[.int .i64 (2 * k + 1)] 3)).heap[Y1.heap.size]? = _ from blk_new Y1.drew (.cells #[.int .i64 (2 * k + 1)] 3))) hone (by omega) h63 h8 hbs _ rfl ?_
        intro g5 cap5 W5 hown5 hgrow5 hat5 hlt5
        rw [← HV.out] at hgrow5
        have bA := grown_blk hgrow5 (blk_alloc HZ.out.1 _) HN5.out
        have bR := grown_blk hgrow5 (blk_alloc HZ.out.2.rb _) (HZ.out.2.far (i := v + 2) (by omega) (by omega))
        have bQ := grown_blk hgrow5 (blk_alloc HZ.out.2.at' _) (HZ.out.2.far (i := v + 2) (by omega) (by omega))
        have kW := HkK.out W5 bA bQ bR
        have cT := blk_cell bQ v
        have fT := blk_frozen bQ v
        rw [range_get V1 (by omega), HV.out] at cT
        have lT := blk_lt bQ
        clear bA bR bQ
        try go_simp
        refine hK _ _ (fun _ => kW) ?_
        clear hK K
        refine wpAnyG_next (i := 19) (by kernel_rfl) rfl (fun K hK => ?_)
        go_simp
        refine hK _ _ (fun _ => kW) ?_
        clear hK K
        refine wpAnyG_next (i := 20) (by kernel_rfl) rfl (fun K hK => ?_)
        go_simp
        refine hK _ _ (fun h => absurd rfl h) ?_
        clear hK K
        refine wpAnyG_done (by kernel_rfl) ?_ _
        rw [← HV.out] at hat5
        clear kD kA kW cT fT lT hone h63 h8 hbs lb lr la
        have hOI : OwnI (w.heap.size + 3) W5 (.slice (some ⟨g5, 0, none⟩) ((F1 (v + 2)).length + 1) cap5) (F1 (v + 2) ++ [2 * (k : Int) + 1]) := by
          unfold OwnI
          rw [intsV_app2, List.length_append]
          exact hown5
        have hB5 := HZ.out.2.row (u := v) (by omega) hgrow5 hOI (fun q hq => by
          have hq' : q = g5 := by cases hq; rfl
          subst hq'
          rcases hat5 with h | h
          · exact .inl h
          · right; rw [h]; simp)
        have hfar5 := HZ.out.2.far (i := v + 2) (by omega) (j := w.heap.size + 1) (by omega)
        have hfar6 := HZ.out.2.far (i := v + 2) (by omega) (j := w.heap.size + 2) (by omega)
        have hb5 := grown_blk hgrow5 (blk_alloc HZ.out.2.at' (.cells #[.int .i64 (2 * k + 1)] 3)) hfar5
        have qs := blk_cell hb5 v
        have fs := blk_frozen hb5 v
        rw [range_get V1 (by omega), HV.out] at qs
        have ls := blk_lt hb5
        have harc : (W5.setCell ⟨w.heap.size + 1, v, none⟩ (.slice (some ⟨g5, 0, none⟩) ((F1 (v + 2)).length + 1) cap5)).heap[X.heap.size]? = some (.cells #[.int .i64 u, .int .i64 v, .int .i64 xc] 63 (0, 0)) := blk_set (grown_blk hgrow5 (blk_alloc HZ.out.1 _) (HN5.out)) (by simp only; omega) _
        obtain ⟨F2, hF2⟩ : ∃ F2, upd F1 (v + 2) (F1 (v + 2) ++ [2 * (k : Int) + 1]) = F2 := ⟨_, rfl⟩
        obtain ⟨V2, hV2⟩ : ∃ V2, upd V1 (v + 2) (.slice (some ⟨g5, 0, none⟩) ((F1 (v + 2)).length + 1) cap5) = V2 := ⟨_, rfl⟩
        rw [hF2, hV2] at hB5
        have HF2 := Lib.hid hF2
        have HL2 := Lib.hid (show ∀ j, (F2 j).length ≤ 320 from fun j => by
          rw [← hF2]
          exact upd_len (M := 320) (fun j => Nat.le_trans (HL1.out j) (by omega)) (by have := HL1.out (v + 2); simp; omega) j)
        have H2 := Lib.hid (And.intro harc hB5)
        clear hF2 hV2 hB5 harc hown5 hgrow5 hat5 hlt5 hOI hb5 hfar5 hfar6 HoZ hlen hi hz0 hz1 hz2
        generalize (W5.setCell ⟨w.heap.size + 1, v, none⟩ (.slice (some ⟨g5, 0, none⟩) ((F1 (v + 2)).length + 1) cap5)) = Y2 at H2 ⊢
        clear qs fs ls HZ HkK HN5
        have qr : Y2.cell? ⟨w.heap.size + 1 + 1, 0, none⟩ = some (V2 0) := (blk_cell H2.out.2.rb 0).trans rfl
        have qa : Y2.cell? ⟨X.heap.size, 0, none⟩ = some (.int .i64 u) := (blk_cell H2.out.1 0).trans rfl
        have qb : Y2.cell? ⟨X.heap.size, 1, none⟩ = some (.int .i64 v) := (blk_cell H2.out.1 1).trans rfl
        obtain ⟨av, cv, hVe, hVl, hVm⟩ := owns_shape (H2.out.2.own.own (0) (by omega))
        rw [hVe] at qr
        have lr := blk_lt H2.out.2.rb
        have la := blk_lt H2.out.1
        have lb := blk_lt H2.out.2.at'
        have hlen := HL2.out (0)
        have HV := Lib.hid hVe
        clear hVe
        go_wp2_with fail
        have hbY : Below Y2.heap.size Y2 Y2.drew := (below_self Y2).drew
        have HZ := Lib.hid (And.intro (blk_below H2.out.1 hbY) (H2.out.2.later hbY))
        obtain ⟨i0, hi, hz0, hz1, hz2⟩ := info_parts info3
        have hoZ := HZ.out.2.own.own (0) (by omega)
        rw [HV.out] at hoZ
        have HoZ := Lib.hid (hoZ : Y2.drew.ownsRow (w.heap.size + 3) 3 1 _ _ _)
        have HkK := Lib.hid (show ∀ W : World, W.heap[X.heap.size]? = some (.cells #[.int .i64 u, .int .i64 v, .int .i64 xc] 63 (0, 0)) → W.heap[w.heap.size + 1]? = some (.cells ((List.range n).map (fun u => V2 (u + 2))).toArray 68 (0, 0)) → W.heap[w.heap.size + 2]? = some (.cells #[V2 0, V2 1, .slice (some ⟨w.heap.size + 1, 0, none⟩) n n] 96 (0, 0)) → W.cell? ⟨w.heap.size + 1 + 1, 0, none⟩ = some (.slice av (F2 (0)).length cv) ∧ W.cell? ⟨X.heap.size, 0, none⟩ = some (.int .i64 u) ∧ W.cell? ⟨X.heap.size, 1, none⟩ = some (.int .i64 v) from fun W h1 h2 h3 => ⟨(blk_cell h3 0).trans (by rw [← HV.out]; rfl), (blk_cell h1 0).trans rfl, (blk_cell h1 1).trans rfl⟩)
        have kD := HkK.out _ HZ.out.1 HZ.out.2.at' HZ.out.2.rb
        have kA := HkK.out _ (blk_alloc HZ.out.1 (.cells #[.int .i64 v, .int .i64 u] 3)) (blk_alloc HZ.out.2.at' _) (blk_alloc HZ.out.2.rb _)
        have hne5 : some X.heap.size ≠ (V2 (0)).ownBlock := own_ne_type (HZ.out.2.own.own (0) (by omega)) HZ.out.1 (by decide)
        have HN5 := Lib.hid hne5
        have hone : ∀ y ∈ ([.int .i64 v, .int .i64 u] : List Value), y.oneCell' = true := by simp [Value.oneCell']
        have h63 : (F2 (0)).length + 2 ≤ maxLen := by unfold maxLen; omega
        have h8 : ((F2 (0)).length + 2) * 8 ≤ 140737488355328 := by omega
        have hbs : w.heap.size + 3 ≤ (Y2.drew.alloc (.cells #[.int .i64 v, .int .i64 u] 3)).heap.size := by have := blk_lt HZ.out.2.rb; simp at this ⊢; omega
        clear qr qa qb hne5 hbY
        refine wp_region_G (by kernel_rfl) (fun W => W.cell? ⟨w.heap.size + 1 + 1, 0, none⟩ = some (.slice av (F2 (0)).length cv) ∧ W.cell? ⟨X.heap.size, 0, none⟩ = some (.int .i64 u) ∧ W.cell? ⟨X.heap.size, 1, none⟩ = some (.int .i64 v)) 13 ?_
        refine wpAnyG_take (i := 0) (v := ?v10bx0) rfl (by kernel_rfl) (by kernel_rfl) (by kernel_rfl) (by kernel_rfl) (fun _ _ _ h => h) (Or.inl ⟨by rfl, ?y10bx0⟩) kD ?r10bx0
        case y10bx0 => (rintro W ⟨s1, s2, s3⟩; go_simp; try with_reducible rfl)
        refine wpAnyG_take (i := 1) (v := ?v10bx1) rfl (by kernel_rfl) (by kernel_rfl) (by kernel_rfl) (by kernel_rfl) (fun _ _ _ h => h) (Or.inl ⟨by rfl, ?y10bx1⟩) kD ?r10bx1
        case y10bx1 => (rintro W ⟨s1, s2, s3⟩; go_simp; try with_reducible rfl)
        refine wpAnyG_take (i := 2) (v := ?v10bx2) rfl (by kernel_rfl) (by kernel_rfl) (by kernel_rfl) (by kernel_rfl) (fun _ _ _ h => h) (Or.inl ⟨by rfl, ?y10bx2⟩) kD ?r10bx2
        case y10bx2 => (rintro W ⟨s1, s2, s3⟩; go_simp; try with_reducible rfl)
        refine wpAnyG_take (i := 3) (v := ?v10bx3) rfl (by kernel_rfl) (by kernel_rfl) (by kernel_rfl) (by kernel_rfl) (fun _ _ _ h => h) (Or.inl ⟨by rfl, ?y10bx3⟩) kD ?r10bx3
        case y10bx3 => (rintro W ⟨s1, s2, s3⟩; go_simp; try with_reducible rfl)
        refine wpAnyG_take (i := 4) (v := ?v10bx4) rfl (by kernel_rfl) (by kernel_rfl) (by kernel_rfl) (by kernel_rfl) (fun _ _ _ h => h) (Or.inl ⟨by rfl, ?y10bx4⟩) kD ?r10bx4
        case y10bx4 => (rintro W ⟨s1, s2, s3⟩; go_simp; try with_reducible rfl)
        refine wpAnyG_take (i := 5) (v := ?v10bx5) rfl (by kernel_rfl) (by kernel_rfl) (by kernel_rfl) (by kernel_rfl) (fun _ _ _ h => h) (Or.inl ⟨by rfl, ?y10bx5⟩) kD ?r10bx5
        case y10bx5 => (rintro W ⟨s1, s2, s3⟩; go_simp; try with_reducible rfl)
        refine wpAnyG_take (i := 6) (v := ?v10bx6) rfl (by kernel_rfl) (by kernel_rfl) (by kernel_rfl) (by kernel_rfl) (fun _ _ _ h => h) (Or.inl ⟨by rfl, ?y10bx6⟩) kD ?r10bx6
        case y10bx6 => (rintro W ⟨s1, s2, s3⟩; go_simp; try with_reducible rfl)
        refine wpAnyG_take (i := 7) (v := ?v10bx7) rfl (by kernel_rfl) (by kernel_rfl) (by kernel_rfl) (by kernel_rfl) (fun _ _ _ h => h) (Or.inl ⟨by rfl, ?y10bx7⟩) kD ?r10bx7
        case y10bx7 => (rintro W ⟨s1, s2, s3⟩; go_simp; try with_reducible rfl)
        refine wpAnyG_take (i := 8) (v := ?v10bx8) rfl (by kernel_rfl) (by kernel_rfl) (by kernel_rfl) (by kernel_rfl) (fun _ _ _ h => h) (Or.inl ⟨by rfl, ?y10bx8⟩) kD ?r10bx8
        case y10bx8 => (rintro W ⟨s1, s2, s3⟩; go_simp; try with_reducible rfl)
        refine wpAnyG_next (i := 9) (by kernel_rfl) rfl (fun K hK => ?_)
        go_simp
        refine hK _ _ (fun _ => kA) ?_
        clear hK K
        refine wpAnyG_next (i := 10) (by kernel_rfl) rfl (fun K hK => ?_)
        refine step_append_lies _ (by rfl) _ _ 68 (by rfl) (w.heap.size + 3) 3 i0 _ 1 8 Tryz.underlying68 hi hz0 hz1 hz2 rfl (by decide) _ _ _ (by rfl) (World.ownsRow.alloc HoZ.out (.cells #[.int .i64 v, .int .i64 u] 3)) ⟨Y2.heap.size, 0, none⟩ 2 2 [.int .i64 v, .int .i64 u] (by rfl) rfl (World.news_of_block (show (Y2.drew.alloc (.cells #[.int .i64 v, .int .i64 u] 3)).heap[Y2.heap.size]? = _ from blk_new Y2.drew (.cells #[.int .i64 v, .int .i64 u] 3))) hone (by omega) h63 h8 hbs _ rfl ?_
        intro g5 cap5 W5 hown5 hgrow5 hat5 hlt5
        rw [← HV.out] at hgrow5
        have bA := grown_blk hgrow5 (blk_alloc HZ.out.1 _) HN5.out
        have bR := grown_blk hgrow5 (blk_alloc HZ.out.2.rb _) (HZ.out.2.far (i := 0) (by omega) (by omega))
        have bQ := grown_blk hgrow5 (blk_alloc HZ.out.2.at' _) (HZ.out.2.far (i := 0) (by omega) (by omega))
        have kW := HkK.out W5 bA bQ bR
        have cT := blk_cell bR 0
        have fT := blk_frozen bR 0
        simp only [HV.out] at cT
        simp at cT
        have lT := blk_lt bR
        clear bA bR bQ
        try go_simp
        refine hK _ _ (fun _ => kW) ?_
        clear hK K
        refine wpAnyG_next (i := 11) (by kernel_rfl) rfl (fun K hK => ?_)
        go_simp
        refine hK _ _ (fun _ => kW) ?_
        clear hK K
        refine wpAnyG_next (i := 12) (by kernel_rfl) rfl (fun K hK => ?_)
        go_simp
        refine hK _ _ (fun _ => kW) ?_
        clear hK K
        refine wpAnyG_next (i := 13) (by kernel_rfl) rfl (fun K hK => ?_)
        go_simp
        refine hK _ _ (fun h => absurd rfl h) ?_
        clear hK K
        refine wpAnyG_done (by kernel_rfl) ?_ _
        rw [← HV.out] at hat5
        clear kD kA kW cT fT lT hone h63 h8 hbs lb lr la
        have hOI : OwnI (w.heap.size + 3) W5 (.slice (some ⟨g5, 0, none⟩) ((F2 (0)).length + 2) cap5) (F2 (0) ++ [(v : Int), (u : Int)]) := by
          unfold OwnI
          rw [intsV_app2, List.length_append]
          exact hown5
        have hB5 := HZ.out.2.heads hgrow5 hOI (fun q hq => by
          have hq' : q = g5 := by cases hq; rfl
          subst hq'
          rcases hat5 with h | h
          · exact .inl h
          · right; rw [h]; simp)
        have hfar5 := HZ.out.2.far (i := 0) (by omega) (j := w.heap.size + 1) (by omega)
        have hfar6 := HZ.out.2.far (i := 0) (by omega) (j := w.heap.size + 2) (by omega)
        have hb5 := grown_blk hgrow5 (blk_alloc HZ.out.2.rb (.cells #[.int .i64 v, .int .i64 u] 3)) hfar6
        have qs := blk_cell hb5 0
        have fs := blk_frozen hb5 0
        simp only [HV.out] at qs
        simp at qs
        have ls := blk_lt hb5
        have harc : (W5.setCell ⟨w.heap.size + 1 + 1, 0, none⟩ (.slice (some ⟨g5, 0, none⟩) ((F2 (0)).length + 2) cap5)).heap[X.heap.size]? = some (.cells #[.int .i64 u, .int .i64 v, .int .i64 xc] 63 (0, 0)) := blk_set (grown_blk hgrow5 (blk_alloc HZ.out.1 _) (HN5.out)) (by simp only; omega) _
        obtain ⟨F3, hF3⟩ : ∃ F3, upd F2 (0) (F2 (0) ++ [(v : Int), (u : Int)]) = F3 := ⟨_, rfl⟩
        obtain ⟨V3, hV3⟩ : ∃ V3, upd V2 (0) (.slice (some ⟨g5, 0, none⟩) ((F2 (0)).length + 2) cap5) = V3 := ⟨_, rfl⟩
        rw [hF3, hV3] at hB5
        have HF3 := Lib.hid hF3
        have HL3 := Lib.hid (show ∀ j, (F3 j).length ≤ 330 from fun j => by
          rw [← hF3]
          exact upd_len (M := 330) (fun j => Nat.le_trans (HL2.out j) (by omega)) (by have := HL2.out (0); simp; omega) j)
        have H3 := Lib.hid (And.intro harc hB5)
        clear hF3 hV3 hB5 harc hown5 hgrow5 hat5 hlt5 hOI hb5 hfar5 hfar6 HoZ hlen hi hz0 hz1 hz2
        generalize (W5.setCell ⟨w.heap.size + 1 + 1, 0, none⟩ (.slice (some ⟨g5, 0, none⟩) ((F2 (0)).length + 2) cap5)) = Y3 at H3 ⊢
        clear qs fs ls HZ HkK HN5
        have qr : Y3.cell? ⟨w.heap.size + 1 + 1, 1, none⟩ = some (V3 1) := (blk_cell H3.out.2.rb 1).trans rfl
        obtain ⟨av, cv, hVe, hVl, hVm⟩ := owns_shape (H3.out.2.own.own (1) (by omega))
        rw [hVe] at qr
        have lr := blk_lt H3.out.2.rb
        have la := blk_lt H3.out.1
        have lb := blk_lt H3.out.2.at'
        have hlen := HL3.out (1)
        have HV := Lib.hid hVe
        clear hVe
        have HZ := Lib.hid (And.intro H3.out.1 H3.out.2)
        obtain ⟨i0, hi, hz0, hz1, hz2⟩ := info_parts info3
        have hoZ := HZ.out.2.own.own (1) (by omega)
        rw [HV.out] at hoZ
        have HoZ := Lib.hid (hoZ : Y3.ownsRow (w.heap.size + 3) 3 1 _ _ _)
        clear hoZ
        go_wp2_with (at_builtin; go_must (refine wpList_append_lies _ rfl _ _ 68 rfl (w.heap.size + 3) 3 i0 _ 1 8 Tryz.underlying68 hi hz0 hz1 hz2 rfl (by decide) _ _ _ rfl (World.ownsRow.alloc HoZ.out _) ⟨Y3.heap.size, 0, none⟩ 2 2 [.int .i64 xc, .int .i64 0] rfl rfl (World.news_of_block (blk_new Y3 (.cells #[.int .i64 xc, .int .i64 0] 3))) ?c3 ?c4 ?c5 ?c6 ?c7 _ rfl ?_))
        case c3 => simp [Value.oneCell']
        case c4 => omega
        case c5 => unfold maxLen; omega
        case c6 => omega
        case c7 => have := blk_lt HZ.out.2.rb; simp; omega
        intro g5 cap5 W5 hown5 hgrow5 hat5 hlt5
        clear qr lr la lb
        rw [← HV.out] at hgrow5 hat5
        have HN5 := Lib.hid (own_ne_type (HZ.out.2.own.own (1) (by omega)) HZ.out.1 (by decide))
        have hOI : OwnI (w.heap.size + 3) W5 (.slice (some ⟨g5, 0, none⟩) ((F3 (1)).length + 2) cap5) (F3 (1) ++ [xc, 0]) := by
          unfold OwnI
          rw [intsV_app2, List.length_append]
          exact hown5
        have hB5 := HZ.out.2.rooms hgrow5 hOI (fun q hq => by
          have hq' : q = g5 := by cases hq; rfl
          subst hq'
          rcases hat5 with h | h
          · exact .inl h
          · right; rw [h]; simp)
        have hfar5 := HZ.out.2.far (i := 1) (by omega) (j := w.heap.size + 1) (by omega)
        have hfar6 := HZ.out.2.far (i := 1) (by omega) (j := w.heap.size + 2) (by omega)
        have hb5 := grown_blk hgrow5 (blk_alloc HZ.out.2.rb (.cells #[.int .i64 xc, .int .i64 0] 3)) hfar6
        have qs := blk_cell hb5 1
        have fs := blk_frozen hb5 1
        simp only [HV.out] at qs
        simp at qs
        have ls := blk_lt hb5
        have harc : (W5.setCell ⟨w.heap.size + 1 + 1, 1, none⟩ (.slice (some ⟨g5, 0, none⟩) ((F3 (1)).length + 2) cap5)).heap[X.heap.size]? = some (.cells #[.int .i64 u, .int .i64 v, .int .i64 xc] 63 (0, 0)) := blk_set (grown_blk hgrow5 (blk_alloc HZ.out.1 _) (HN5.out)) (by simp only; omega) _
        obtain ⟨F4, hF4⟩ : ∃ F4, upd F3 (1) (F3 (1) ++ [xc, 0]) = F4 := ⟨_, rfl⟩
        obtain ⟨V4, hV4⟩ : ∃ V4, upd V3 (1) (.slice (some ⟨g5, 0, none⟩) ((F3 (1)).length + 2) cap5) = V4 := ⟨_, rfl⟩
        rw [hF4, hV4] at hB5
        have HF4 := Lib.hid hF4
        have HL4 := Lib.hid (show ∀ j, (F4 j).length ≤ 340 from fun j => by
          rw [← hF4]
          exact upd_len (M := 340) (fun j => Nat.le_trans (HL3.out j) (by omega)) (by have := HL3.out (1); simp; omega) j)
        have H4 := Lib.hid (And.intro harc hB5)
        clear hF4 hV4 hB5 harc hown5 hgrow5 hat5 hlt5 hOI hb5 hfar5 hfar6 HoZ hlen hi hz0 hz1 hz2
        go_upto_region 12 with fail
        generalize (W5.setCell ⟨w.heap.size + 1 + 1, 1, none⟩ (.slice (some ⟨g5, 0, none⟩) ((F3 (1)).length + 2) cap5)) = Y4 at H4 ⊢
        clear qs fs ls HZ
        go_wp2_with fail
        go_roundw
        case rel => exact ⟨k + 1, V4, Y4, by omega, by go_num, rfl, Lib.hid (by
          have he : F4 = rowF (woL l wo) (k + 1) := by
            have := rowF_succ (l := woL l wo) (k := k) (by rw [woL_len]; exact hkl) HK.out.1 (fun h => HK.out.2.2 (by rw [h]))
            rw [← this, HF0.out, HF1.out, HF2.out, HF3.out, HF4.out]
          rw [← he]
          exact H4.out.2)⟩
        case measure => simp [intOf]; omega
    · -- done
      obtain rfl : k = nk := by omega
      go_wp2_with fail
      go_ret
      have hB := HX.out
      have hrs : ∀ u, u < n → ((List.range n).map (fun u => V (u + 2))).getD u (.slice none 0 0) = V (u + 2) := fun u hu => by
        rw [List.getD_eq_getElem?_getD]; simp [hu]
      have hwl : (woL l wo).length = k := by rw [woL_len]; exact HM.out.1
      have ht : (woL l wo).take k = woL l wo := by rw [← hwl, List.take_length]
      refine ⟨V 0, V 1, _, (List.range n).map (fun u => V (u + 2)), rfl, ⟨hB.rb, ?_, ?_, owns_of_blk hB.at' (by omega) (by simp) (by unfold maxLen; omega), fun u hu => ?_, fun g hg => ⟨?_, ?_, ?_, fun u hu => ?_⟩⟩, hB.bel⟩
      · have h := hB.own.own 0 (by omega)
        simp only [rowF, ht] at h
        exact owns_base h (by omega)
      · have h := hB.own.own 1 (by omega)
        simp only [rowF, ht] at h
        exact owns_base h (by omega)
      · rw [hrs u hu, hwl]
        exact owns_base (hB.own.own (u + 2) (by omega)) (by omega)
      · exact fun e => hB.far (i := 1) (by omega) (j := w.heap.size + 2) (by omega) (by rw [hg, e])
      · exact hB.own.sep 1 0 g (by omega) (by omega) (by omega) hg
      · exact fun e => hB.far (i := 1) (by omega) (j := w.heap.size + 1) (by omega) (by rw [hg]; exact e)
      · rw [hrs u hu]
        exact hB.own.sep 1 (u + 2) g (by omega) (by omega) (by omega) hg
end Go.Proofs.YthlefdbhkbpejaaGreat.F5
