import Derived.RangeFuncIn
import Derived.RangeFuncRecord
import Derived.RangeFuncOwn
import Derived.RangeFuncBound
import Derived.RangeFuncCalls
import Derived.Below
import Derived.WalkKit
import Derived.WalkSpells
import Derived.WalkLawsBesides
import Derived.Deep.MidRow
import Derived.Deep.QuietTactic
import Derived.BigQuiet
import Derived.Lib.Hide
import Derived.Laws.CopyOwn
import Derived.StillTailTactics
namespace Go.Proofs.YthlefdbhkbpejaaGreat
open Go Go.RowKit

@[go_sem] theorem wide_fn (f : FuncId) : Fence.wide.fn f = True := rfl
@[go_sem] theorem wide_depth : Fence.wide.depth = none := rfl
attribute [go_sem] Fence.inRound_fn Fence.inRound_depth

/-- The record of a range-over-func loop. -/
def LRec (fn : FuncId) (tmps : Array Value) (ps : Array Tmp) (assign body : Code) (D : Nat) (st : LoopState) (pe : Option Code) : Obj :=
  .loop { state := st, pending := pe, fn := fn, tmps := tmps, params := ps, assign := assign, body := body, defers := D }

/-- How a round may be left. -/
def rangeExit (l : Nat) (rec : LoopState → Option Code → Obj) (R : Bool → World → Prop) : Exit → Act → World → Prop
  | .normal, _, w' => w'.heap[l]? = some (rec .busy none) ∧ R true (w'.putObj l (rec .ready none))
  | .ret, _, w' => w'.heap[l]? = some (rec .busy none) ∧ R false (w'.putObj l (rec .done (some .ret)))
  | .exit id, _, w' => w'.heap[l]? = some (rec .busy none) ∧ R false (w'.putObj l (rec .done (some (.exit id))))
  | .goto t, _, w' => w'.heap[l]? = some (rec .busy none) ∧ R false (w'.putObj l (rec .done (some (.goto t))))
  | _, _, _ => False

theorem range_wide {P : Program} {g : Operand} {ps : Array Tmp} {assign body : Code} {Q : Exit → Act → World → Prop} {a : Act} {w : World} {gf : Nat} {lb : Array Value}
    (hg : a.eval g = .func (.func gf) #[] lb) (eg : ∀ args w, (callFunc gf args).run P w = .ok (.enter gf args) w)
    (hiter : ∀ (rec : LoopState → Option Code → Obj), (∀ st pe, ∃ r : Loop, rec st pe = .loop r) →
      (∀ (vs : Array Value) (W : World) (R : Bool → World → Prop), vs.size = ps.size → W.heap[w.heap.size + 1]? = some (rec .ready none) →
        assign.wpIn (Fence.wide.inRound (w.heap.size + 1)) 0 P (Exit.then (fun a₁ w₁ => w₁.heap[w.heap.size + 1]? = some (rec .ready none) ∧
          body.wpIn (Fence.wide.inRound (w.heap.size + 1)) 0 P (rangeExit (w.heap.size + 1) rec R) a₁ (w₁.putObj (w.heap.size + 1) (rec .busy none))) (fun _ _ _ => False))
          { tmps := (ps.zip vs).foldl (fun t (p, v) => t.setIfInBounds p v) a.tmps, defers := [] } W →
        YieldAt Fence.wide 0 P (w.heap.size + 1) vs W fun e W' => ∃ c, e = .returned (.bool c) ∧ R c W') →
      CallsIn Fence.wide 0 P gf (#[.func (.yield (w.heap.size + 1)) #[] #[]] ++ lb) ((w.alloc (.deferred (some []))).alloc (rec .ready none)) fun e W2 => (∃ v, e = .returned v) ∧
        ((W2.heap[w.heap.size + 1]? = some (rec .ready none) ∧ Q .normal { a with defers := { target := .collected w.heap.size, args := #[] } :: a.defers } (W2.putObj (w.heap.size + 1) (rec .exhausted none))) ∨
         (∃ c, W2.heap[w.heap.size + 1]? = some (rec .done (some c)) ∧ c.wpIn Fence.wide 0 P Q { a with defers := { target := .collected w.heap.size, args := #[] } :: a.defers } (W2.putObj (w.heap.size + 1) (rec .exhausted (some c)))))) :
    (Code.rangeFunc g ps assign body).wpIn Fence.wide 0 P Q a w := by
  refine wpIn_rangeFunc ?_
  intro fn _
  obtain ⟨W1, hW1⟩ : ∃ W1, (w.alloc (.deferred (some []))).alloc (LRec fn a.tmps ps assign body w.heap.size .ready none) = W1 := ⟨_, rfl⟩
  refine ⟨w.heap.size + 1, [{ target := .collected w.heap.size, args := #[] }], W1, { target := .fn (.func gf) lb, args := #[.func (.yield (w.heap.size + 1)) #[] #[]] }, W1, gf,
    #[.func (.yield (w.heap.size + 1)) #[] #[]] ++ lb, W1, ?_, ?_, fun _ _ => trivial, ?_, fun h => by simp [Fence.wide] at h, ?_⟩
  · rw [← hW1]; exact run_enterLoop_outer _ _ _ _ _
  · simp only [resolve, hg]
    simp [go_sem]
  · simp [invoke, go_sem, eg]
  · rw [← hW1]
    refine (hiter (fun st pe => LRec fn a.tmps ps assign body w.heap.size st pe) (fun st pe => ⟨_, rfl⟩) ?_).mono ?_
    · intro vs W R hvs hl hw
      have hlt : w.heap.size + 1 < W.heap.size := (Array.getElem?_eq_some_iff.1 hl).1
      have hy := run_yield (P := P) (args := vs) hl hvs
      refine ⟨fn, _, assign, body, hy, roundIn_of_wpIn trivial ?_⟩
      refine wpIn_mono hw ?_
      intro e a₁ w₁ hp
      cases e with
      | normal =>
        obtain ⟨hl1, hb⟩ := hp
        refine ⟨_, run_beginRound hl1 rfl, ?_⟩
        refine wpIn_mono hb ?_
        intro e a3 W3 hp3
        cases e with
        | normal =>
          obtain ⟨hl3, hR⟩ := hp3
          exact ⟨_, _, run_endRound none hl3, true, rfl, hR⟩
        | ret =>
          obtain ⟨hl3, hR⟩ := hp3
          exact ⟨_, _, run_endRound (some .ret) hl3, false, rfl, hR⟩
        | exit id =>
          obtain ⟨hl3, hR⟩ := hp3
          exact ⟨_, _, run_endRound (some (.exit id)) hl3, false, rfl, hR⟩
        | goto t =>
          obtain ⟨hl3, hR⟩ := hp3
          exact ⟨_, _, run_endRound (some (.goto t)) hl3, false, rfl, hR⟩
        | panic ch => exact hp3.elim
        | outgrown => exact hp3.elim
      | exit id => exact hp.elim
      | goto t => exact hp.elim
      | ret => exact hp.elim
      | panic chain => exact hp.elim
      | outgrown => exact hp.elim
    · rintro e W2 ⟨⟨v, rfl⟩, (⟨hl, hq⟩ | ⟨c, hl, hq⟩)⟩
      · exact ⟨none, _, run_endLoop hl (by simp), hq⟩
      · exact ⟨some c, _, run_endLoop hl (by simp), hq⟩


/-! ### Slices: rows of k cells -/
/-- The rows (each of k cells) lie one behind the other from a on, in a block below n. -/
def RowsAt (n : Nat) (w : World) (a : Option Addr) (k : Nat) (rows : List (List Value)) : Prop :=
  ∀ i r, rows[i]? = some r → ∃ b off, a = some ⟨b, off, none⟩ ∧ b < n ∧ w.rangeAt b (off + i * k) r

theorem RowsAt.below {n : Nat} {w w' : World} {a : Option Addr} {k : Nat} {rows : List (List Value)} (h : RowsAt n w a k rows) (hb : Below n w w') : RowsAt n w' a k rows := by
  intro i r hr
  obtain ⟨b, off, ha, hlt, hc⟩ := h i r hr
  exact ⟨b, off, ha, hlt, fun j v hv => (hb.cell (p := ⟨b, off + i * k + j, none⟩) hlt).trans (hc j v hv)⟩

theorem RowsAt.mono {n n' : Nat} {w : World} {a : Option Addr} {k : Nat} {rows : List (List Value)} (h : RowsAt n w a k rows) (hn : n ≤ n') : RowsAt n' w a k rows := by
  intro i r hr
  obtain ⟨b, off, ha, hlt, hc⟩ := h i r hr
  exact ⟨b, off, ha, Nat.lt_of_lt_of_le hlt hn, hc⟩

/-- What lay when the call began lies there in a later world. -/
theorem RowsAt.later {w w' : World} {a : Option Addr} {k : Nat} {rows : List (List Value)} (h : RowsAt w.heap.size w a k rows) (hb : Below w.heap.size w w') : RowsAt w'.heap.size w' a k rows :=
  (h.below hb).mono hb.size

theorem RowsAt.nil (n : Nat) (w : World) (a : Option Addr) (k : Nat) : RowsAt n w a k [] := fun _ _ h => by simp at h

theorem RowsAt.take {n : Nat} {w : World} {a : Option Addr} {k : Nat} {rows : List (List Value)} (h : RowsAt n w a k rows) (m : Nat) : RowsAt n w a k (rows.take m) := by
  intro i r hr
  refine h i r ?_
  rw [List.getElem?_take] at hr
  split at hr
  · exact hr
  · cases hr

/-- A slice value with its rows. -/
def SliceIs (n : Nat) (w : World) (k : Nat) (v : Value) (rows : List (List Value)) : Prop :=
  ∃ a cap, v = .slice a rows.length cap ∧ RowsAt n w a k rows

theorem flat_length (k : Nat) : ∀ (rows : List (List Value)), (∀ r ∈ rows, r.length = k) → rows.flatten.length = rows.length * k
  | [], _ => by simp
  | r :: rs, h => by
    have h1 := h r (by simp)
    have ih := flat_length k rs (fun x hx => h x (by simp [hx]))
    simp only [List.flatten_cons, List.length_append, List.length_cons, ih, h1, Nat.add_mul, Nat.one_mul]
    omega

theorem flat_get (k : Nat) : ∀ (rows : List (List Value)), (∀ r ∈ rows, r.length = k) → ∀ (i : Nat) (r : List Value), rows[i]? = some r → ∀ j v, r[j]? = some v → rows.flatten[i * k + j]? = some v
  | [], _, _, _, h, _, _, _ => by simp at h
  | x :: xs, hk, 0, r, h, j, v, hv => by
    simp only [List.getElem?_cons_zero, Option.some.injEq] at h
    subst h
    have hj : j < x.length := (List.getElem?_eq_some_iff.1 hv).1
    rw [List.flatten_cons, Nat.zero_mul, Nat.zero_add, List.getElem?_append_left hj]
    exact hv
  | x :: xs, hk, i + 1, r, h, j, v, hv => by
    have h1 := hk x (by simp)
    have ih := flat_get k xs (fun y hy => hk y (by simp [hy])) i r (by simpa using h) j v hv
    rw [List.flatten_cons, List.getElem?_append_right (by rw [h1, Nat.add_mul]; omega), h1]
    rw [show (i + 1) * k + j - k = i * k + j by rw [Nat.add_mul]; omega]
    exact ih

/-- A row of the call's own is a slice that reads as its rows. -/
theorem owns_slice {w : World} {base : Nat} {e : TypeId} {k : Nat} {v : Value} {rows : List (List Value)} (h : w.ownsRow base e k v rows.length rows.flatten) (hk : ∀ r ∈ rows, r.length = k) :
    SliceIs w.heap.size w k v rows := by
  rcases h.2 with ⟨rfl, hn⟩ | ⟨g, cap, cur, rfl, hg, hh, hnc, hcm, hcs, ht⟩
  · refine ⟨none, 0, by rw [hn], fun i r hr => ?_⟩
    have : rows = [] := List.eq_nil_of_length_eq_zero hn
    subst this; simp at hr
  · refine ⟨some ⟨g, 0, none⟩, cap, rfl, fun i r hr => ⟨g, 0, rfl, (Array.getElem?_eq_some_iff.1 hh).1, fun j x hx => ?_⟩⟩
    have h1 := flat_get k rows hk i r hr j x hx
    rw [← ht] at h1
    rw [List.getElem?_take] at h1
    split at h1
    · rw [cell_of_row w g _ cur e (0, 0) hh]; simpa using h1
    · cases h1

/-- .. and stays so, and its own, in a later world that keeps what lay. -/
theorem owns_later {w w' : World} {base : Nat} {e : TypeId} {k : Nat} {v : Value} {n : Nat} {xs : List Value} (h : w.ownsRow base e k v n xs) (hb : Below w.heap.size w w') : w'.ownsRow base e k v n xs := by
  refine ⟨h.1, ?_⟩
  rcases h.2 with h2 | ⟨g, cap, cur, hv, hg, hh, r⟩
  · exact Or.inl h2
  · exact Or.inr ⟨g, cap, cur, hv, hg, by rw [hb.block g (Array.getElem?_eq_some_iff.1 hh).1]; exact hh, r⟩

theorem owns_base {w : World} {base base' : Nat} {e : TypeId} {k : Nat} {v : Value} {n : Nat} {xs : List Value} (h : w.ownsRow base e k v n xs) (hb : base' ≤ base) : w.ownsRow base' e k v n xs := by
  refine ⟨h.1, ?_⟩
  rcases h.2 with h2 | ⟨g, cap, cur, hv, hg, r⟩
  · exact Or.inl h2
  · exact Or.inr ⟨g, cap, cur, hv, Nat.le_trans hb hg, r⟩

theorem SliceIs.below {n : Nat} {w w' : World} {k : Nat} {v : Value} {rows : List (List Value)} (h : SliceIs n w k v rows) (hb : Below n w w') : SliceIs n w' k v rows := by
  obtain ⟨a, cap, hv, hr⟩ := h
  exact ⟨a, cap, hv, hr.below hb⟩
theorem SliceIs.later {w w' : World} {k : Nat} {v : Value} {rows : List (List Value)} (h : SliceIs w.heap.size w k v rows) (hb : Below w.heap.size w w') : SliceIs w'.heap.size w' k v rows := by
  obtain ⟨a, cap, hv, hr⟩ := h
  exact ⟨a, cap, hv, hr.later hb⟩

theorem ret_int {k : IntKind} {a b : Int} (h : a = b) : Ending.returned (.int k a) = Ending.returned (.int k b) := by rw [h]
theorem ret_bool {a b : Bool} (h : a = b) : Ending.returned (.bool a) = Ending.returned (.bool b) := by rw [h]

theorem below_alloc {w0 w : World} (h : Below w0.heap.size w0 w) (o : Obj) : Below w0.heap.size w0 (w.alloc o) := h.alloc h.size o
theorem below_trans {w0 w w' : World} (h : Below w0.heap.size w0 w) (k : Below w.heap.size w w') : Below w0.heap.size w0 w' := h.trans (k.mono h.size)
theorem below_self (w : World) : Below w.heap.size w w := Below.refl _ w

/-- Behind a call that keeps what lay: every old cell and mark reads as before. -/
theorem bcell {W w1 : World} (hb : Below W.heap.size W w1) : (∀ b o, b < W.heap.size → w1.cell? ⟨b, o, none⟩ = W.cell? ⟨b, o, none⟩) ∧ (∀ b o, b < W.heap.size → w1.frozen? ⟨b, o, none⟩ = W.frozen? ⟨b, o, none⟩) :=
  ⟨fun b o h => hb.cell (p := ⟨b, o, none⟩) h, fun b o h => hb.frozen (p := ⟨b, o, none⟩) h⟩

/-! ### Blocks known whole -/
theorem blk_alloc {W : World} {k : Nat} {o : Obj} (h : W.heap[k]? = some o) (o' : Obj) : (W.alloc o').heap[k]? = some o :=
  (Below.heap_alloc W o' k (Array.getElem?_eq_some_iff.1 h).1).trans h
theorem blk_below {W W' : World} {k : Nat} {o : Obj} (h : W.heap[k]? = some o) (hb : Below W.heap.size W W') : W'.heap[k]? = some o :=
  (hb.block k (Array.getElem?_eq_some_iff.1 h).1).trans h
theorem blk_put {W : World} {k l : Nat} {o o' : Obj} (h : W.heap[k]? = some o) (hne : k ≠ l) : (W.putObj l o').heap[k]? = some o :=
  (World.putObj_heap_other hne).trans h
theorem blk_set {W : World} {k : Nat} {o : Obj} (h : W.heap[k]? = some o) {a : Addr} (hne : k ≠ a.block) (u : Value) : (W.setCell a u).heap[k]? = some o :=
  (Below.heap_setCell W a u k hne).trans h
theorem blk_new (W : World) (o : Obj) : (W.alloc o).heap[W.heap.size]? = some o := World.alloc_heap_new W o
theorem blk_cell {W : World} {k : Nat} {c : Array Value} {t : TypeId} {fr : Nat × Nat} (h : W.heap[k]? = some (.cells c t fr)) (i : Nat) : W.cell? ⟨k, i, none⟩ = c[i]? := by
  simp [World.cell?, h]
theorem blk_frozen {W : World} {k : Nat} {c : Array Value} {t : TypeId} (h : W.heap[k]? = some (.cells c t (0, 0))) (i : Nat) : W.frozen? ⟨k, i, none⟩ = false := by
  simp [World.frozen?, h]
theorem blk_lt {W : World} {k : Nat} {o : Obj} (h : W.heap[k]? = some o) : k < W.heap.size := (Array.getElem?_eq_some_iff.1 h).1
theorem blk_set_same {W : World} {k : Nat} {v u : Value} {t : TypeId} {fr : Nat × Nat} (h : W.heap[k]? = some (.cells #[v] t fr)) : (W.setCell ⟨k, 0, none⟩ u).heap[k]? = some (.cells #[u] t fr) := by
  simp [World.setCell, Array.getElem?_modify, h]
theorem below_put {n : Nat} {w W : World} (h : Below n w W) {l : Nat} (hl : n ≤ l) (o : Obj) : Below n w (W.putObj l o) :=
  h.trans ⟨rfl, rfl, rfl, by simp, fun k hk => World.putObj_heap_other (by omega)⟩
/-- A row of the call's own, another block turned. -/
theorem owns_put {W : World} {base : Nat} {e : TypeId} {k : Nat} {v : Value} {n : Nat} {xs : List Value} (h : W.ownsRow base e k v n xs) {l : Nat} (hl : l < base) (o : Obj) : (W.putObj l o).ownsRow base e k v n xs := by
  refine ⟨h.1, ?_⟩
  rcases h.2 with h2 | ⟨g, cap, cur, hv, hg, hh, r⟩
  · exact Or.inl h2
  · exact Or.inr ⟨g, cap, cur, hv, hg, by rw [World.putObj_heap_other (by omega)]; exact hh, r⟩
theorem owns_set {W : World} {base : Nat} {e : TypeId} {k : Nat} {v : Value} {n : Nat} {xs : List Value} (h : W.ownsRow base e k v n xs) {a : Addr} (hl : a.block < base) (u : Value) : (W.setCell a u).ownsRow base e k v n xs :=
  ownsRow_setCell_below h hl u
theorem grown_blk {W w1 : World} {row : Option Nat} (hg : W.grownBy w1 row) {k : Nat} {o : Obj} (h : W.heap[k]? = some o) (hne : some k ≠ row) : w1.heap[k]? = some o :=
  (hg.block k (blk_lt h) hne).trans h
theorem own_ne {W : World} {base : Nat} {e : TypeId} {k : Nat} {v : Value} {n : Nat} {xs : List Value} (h : W.ownsRow base e k v n xs) {j : Nat} (hj : j < base) : some j ≠ v.ownBlock := by
  intro he
  have := (h.lt j he.symm).1
  omega
theorem grown_below {n : Nat} {w W w1 : World} (hb : Below n w W) {base : Nat} {e : TypeId} {k : Nat} {v : Value} {m : Nat} {xs : List Value} (h : W.ownsRow base e k v m xs) (hg : W.grownBy w1 v.ownBlock) (hn : n ≤ base) (hs : n ≤ W.heap.size) : Below n w w1 :=
  hb.grown hg hs (fun j hj => Nat.le_trans hn (h.lt j hj).1)
theorem owns_shape {w : World} {base : Nat} {e : TypeId} {k : Nat} {v : Value} {n : Nat} {xs : List Value} (h : w.ownsRow base e k v n xs) : ∃ a cap, v = .slice a n cap ∧ n ≤ cap ∧ cap ≤ maxLen := by
  rcases h.2 with ⟨rfl, rfl⟩ | ⟨g, cap, cur, rfl, _, _, h1, h2, _⟩
  · exact ⟨none, 0, rfl, by omega, by unfold maxLen; omega⟩
  · exact ⟨_, cap, rfl, h1, h2⟩
theorem flat1 (xs : List Value) : (xs.map fun x => [x]).flatten = xs := by
  induction xs with
  | nil => rfl
  | cons x xs ih => simp [ih]
/-- One-cell rows. -/
theorem owns_cells1 {w : World} {base : Nat} {e : TypeId} {v : Value} {n : Nat} {xs : List Value} (h : w.ownsRow base e 1 v n xs) : ∃ a cap, v = .slice a n cap ∧ RowsAt w.heap.size w a 1 (xs.map fun x => [x]) := by
  have hx : xs.length = n := by have := h.1; omega
  have h' : w.ownsRow base e 1 v (xs.map fun x => [x]).length (xs.map fun x => [x]).flatten := by rw [flat1, List.length_map, hx]; exact h
  obtain ⟨a, cap, hv, hr⟩ := owns_slice h' (by simp)
  exact ⟨a, cap, by rw [hv, List.length_map, hx], hr⟩
/-- The one cell of row i. -/
theorem RowsAt.one {n : Nat} {w : World} {a : Option Addr} {xs : List Value} (h : RowsAt n w a 1 (xs.map fun x => [x])) {i : Nat} {x : Value} (hi : xs[i]? = some x) : ∃ b off, a = some ⟨b, off, none⟩ ∧ b < n ∧ w.cell? ⟨b, off + i, none⟩ = some x := by
  obtain ⟨b, off, ha, hb, hc⟩ := h i [x] (by simp [hi])
  exact ⟨b, off, ha, hb, by simpa using hc 0 x rfl⟩

/-! ### A few blocks known whole, as one fact -/
def Has (W : World) (L : List (Nat × Obj)) : Prop := ∀ p ∈ L, W.heap[p.1]? = some p.2
theorem Has.nil (W : World) : Has W [] := fun _ h => by simp at h
theorem Has.cons {W : World} {k : Nat} {o : Obj} {L : List (Nat × Obj)} (h : W.heap[k]? = some o) (t : Has W L) : Has W ((k, o) :: L) := by
  intro p hp
  rcases List.mem_cons.1 hp with rfl | hp
  · exact h
  · exact t p hp
theorem Has.hd {W : World} {k : Nat} {o : Obj} {L : List (Nat × Obj)} (h : Has W ((k, o) :: L)) : W.heap[k]? = some o := h (k, o) (by simp)
theorem Has.tl {W : World} {p : Nat × Obj} {L : List (Nat × Obj)} (h : Has W (p :: L)) : Has W L := fun q hq => h q (by simp [hq])
theorem Has.below {W W' : World} {L : List (Nat × Obj)} (h : Has W L) (hb : Below W.heap.size W W') : Has W' L := fun p hp => blk_below (h p hp) hb
theorem Has.alloc {W : World} {L : List (Nat × Obj)} (h : Has W L) (o : Obj) : Has (W.alloc o) L := fun p hp => blk_alloc (h p hp) o
theorem Has.new {W : World} {L : List (Nat × Obj)} (h : Has W L) (o : Obj) : Has (W.alloc o) ((W.heap.size, o) :: L) := (h.alloc o).cons (blk_new W o)
theorem Has.put {W : World} {L : List (Nat × Obj)} (h : Has W L) {l : Nat} (o : Obj) (hne : ∀ p ∈ L, p.1 ≠ l) : Has (W.putObj l o) L := fun p hp => blk_put (h p hp) (hne p hp)
theorem Has.set {W : World} {L : List (Nat × Obj)} (h : Has W L) {a : Addr} (u : Value) (hne : ∀ p ∈ L, p.1 ≠ a.block) : Has (W.setCell a u) L := fun p hp => blk_set (h p hp) (hne p hp) u
theorem Has.grown {W W' : World} {row : Option Nat} {L : List (Nat × Obj)} (h : Has W L) (hg : W.grownBy W' row) (hne : ∀ p ∈ L, some p.1 ≠ row) : Has W' L := fun p hp => grown_blk hg (h p hp) (hne p hp)
theorem Has.drewN {W : World} {L : List (Nat × Obj)} (h : Has W L) (n : Nat) : Has (W.drewN n) L := h

theorem cell_far {W : World} {p a : Addr} {u v : Value} (hp : p.block ≠ a.block) (h : W.cell? a = some v) : (W.setCell p u).cell? a = some v :=
  (World.cell?_setCell_other _ _ _ _ (fun e => hp (by rw [e]))).trans h
theorem cell_call {n : Nat} {W W' : World} {a : Addr} {v : Value} (hb : Below n W W') (hn : a.block < n) (h : W.cell? a = some v) : W'.cell? a = some v := (hb.cell hn).trans h
end Go.Proofs.YthlefdbhkbpejaaGreat
