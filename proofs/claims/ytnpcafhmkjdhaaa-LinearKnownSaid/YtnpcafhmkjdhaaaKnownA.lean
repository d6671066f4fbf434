/- Chapter 06: LinearKnown: the wrong arguments (a region that draws the order of its making). -/
import Derived.Test.YtnpcafhmkjdhaaaAnyInv
import Derived.Test.YtnpcafhmkjdhaaaWorks
namespace Go.Proofs.Ytnpcafhmkjdhaaa
open Go Go.RowKit

def samp10 : Int → List (List Int) → Int → Int := fun start ins n => askedE 10 sampP start ins n
/-- The value is a slice that reads as the list. -/
def LP (l : List Int) (v : Value) (w : World) : Prop := ∃ q : Hd, v = q.val ∧ l.length = q.2.1 ∧ q.2.1 ≤ 2000 ∧ RowsAt w.heap.size w q.1 1 (Ints l)
def IP (ins : List (List Int)) (v : Value) (w : World) : Prop := ∃ (q : Hd) (hs : List Hd), v = q.val ∧ ins.length = q.2.1 ∧ q.2.1 ≤ 2000 ∧ InsAt w.heap.size w q.1 hs ins
/-- Arguments at which every function says ErrRange. -/
def WP (v : Value) (w : World) : Prop := ∃ (start n : Int) (q : Hd) (hs : List Hd) (ins : List (List Int)), v = .agg #[.int .i64 0, .slice none 0 0, .int .i64 start, .slice q.1 q.2.1 q.2.2, .int .i64 n, .int .i64 0, .int .i64 0] ∧ ins.length = q.2.1 ∧ q.2.1 ≤ 2000 ∧ InsAt w.heap.size w q.1 hs ins ∧ askedE 10 sampP start ins n = 2
def FP (v : Value) (w : World) : Prop := ∃ g, v = .slice (some ⟨g, 0, none⟩) 8 8 ∧ ∃ vs : List Value, vs.length = 8 ∧ (∀ k, k < 8 → WP (vs.getD k default) w) ∧ w.heap[g]? = some (.cells ((vs.map fun v => v.cells.toList).flatten).toArray 52 (0, 0))
def prop18 : Nat → Value → World → Prop
  | 4 => IP (List.replicate 17 [])
  | 6 => LP (List.replicate 1001 0)
  | 7 => IP [List.replicate 1001 0]
  | 9 => LP [-1]
  | 10 => IP [[], [-1]]
  | 12 => LP [100000001]
  | 13 => IP [[100000001]]
  | 15 => FP
  | 16 => FP
  | _ => WP
def dst18 (i : Nat) : Nat := if i = 16 then 13 else 120 + i
theorem LP.later {l : List Int} {v : Value} {w w' : World} (h : LP l v w) (hb : Below w.heap.size w w') : LP l v w' := let ⟨q, a, b, c, d⟩ := h; ⟨q, a, b, c, d.later hb⟩
theorem IP.later {l : List (List Int)} {v : Value} {w w' : World} (h : IP l v w) (hb : Below w.heap.size w w') : IP l v w' := let ⟨q, hs, a, b, c, d⟩ := h; ⟨q, hs, a, b, c, d.later hb⟩
theorem WP.later {v : Value} {w w' : World} (h : WP v w) (hb : Below w.heap.size w w') : WP v w' := let ⟨s, n, q, hs, ins, a, b, c, d, e⟩ := h; ⟨s, n, q, hs, ins, a, b, c, d.later hb, e⟩
theorem FP.later {v : Value} {w w' : World} (h : FP v w) (hb : Below w.heap.size w w') : FP v w' := let ⟨g, a, vs, b, c, d⟩ := h; ⟨g, a, vs, b, fun k hk => (c k hk).later hb, blk_below d hb⟩
theorem stable18 (j : Nat) (v : Value) (w w' : World) (h : prop18 j v w) (hb : Below w.heap.size w w') : prop18 j v w' := by
  unfold prop18 at h ⊢
  split at h
  all_goals first | exact LP.later h hb | exact IP.later h hb | exact FP.later h hb | exact WP.later h hb
theorem asked_n {start n : Int} {ins : List (List Int)} (h : ¬ (inR start 0 100000000 = true ∧ inR n 0 1000 = true ∧ ins.length ≤ 16 ∧ ins.any badList = false)) : askedE 10 sampP start ins n = 2 := by
  unfold askedE
  rw [if_pos (by decide), if_neg h]


/- The other lists of the law. -/
def wantL : List Int := [7, 0, 10, 12, 0]
theorem kn1 (k : Nat) (hk : k < 5) : arrV 10 sampP [[7], [5, 6]] (k : Int) = wantL.getD k default ∧ askedE 10 sampP 0 [[7], [5, 6]] (k : Int) = 0 := by
  rcases (show k = 0 ∨ k = 1 ∨ k = 2 ∨ k = 3 ∨ k = 4 by omega) with rfl | rfl | rfl | rfl | rfl <;> decide +kernel
/-- A row of lines that are not valid. -/
def OD (W : World) (g : Nat) : Prop := ∀ k, k < 9 → ∃ (c : Int) (q : Hd) (ps : List Prt), W.cell? ⟨g, k * 2, none⟩ = some (.int .i64 c) ∧ W.cell? ⟨g, k * 2 + 1, none⟩ = some (.slice q.1 q.2.1 q.2.2) ∧ ps.length = q.2.1 ∧ q.2.1 ≤ 17 ∧ RowsAt W.heap.size W q.1 3 (Prts ps) ∧ okL c ps = false ∧ g < W.heap.size
theorem OD.later {W W' : World} {g : Nat} (h : OD W g) (hb : Below W.heap.size W W') : OD W' g := fun k hk =>
  let ⟨c, q, ps, a, b, d, e, f, i, j⟩ := h k hk
  ⟨c, q, ps, cell_call hb (a := ⟨g, k * 2, none⟩) j a, cell_call hb (a := ⟨g, k * 2 + 1, none⟩) j b, d, e, f.later hb, i, Nat.lt_of_lt_of_le j hb.size⟩
theorem asked_one {c : Int} {ps : List Prt} (h : okL c ps = false) (start : Int) (ins : List (List Int)) (n : Int) : askedE c ps start ins n = 1 := by
  unfold askedE
  rw [if_neg (by rw [h]; simp)]
def zero17 : List Prt := List.replicate 17 ⟨0, 0, 0⟩
theorem made17 : (madeCells (Value.agg #[.int .i64 0, .int .i64 0, .int .i64 0]).cells (17 * 3)).toList = flatP zero17 := by kernel_rfl
theorem rows_one {W : World} {g : Nat} {p : Prt} (h : W.heap[g]? = some (.cells #[.int .i64 p.src, .int .i64 p.times, .int .i64 p.delay] 43 (0, 0))) : RowsAt W.heap.size W (some ⟨g, 0, none⟩) 3 (Prts [p]) := prts_blk (ps := [p]) h

/- The region that makes the wrong arguments. -/
theorem inj18 (i j : Nat) (hi : i < 17) (hj : j < 17) (h : j ≠ i) : dst18 j ≠ dst18 i := by
  unfold dst18
  split <;> split <;> omega
theorem puts18 (g : Nat → Value) (t : Array Value) : puts 17 dst18 g t = ((((((((((((((((t.setIfInBounds 120 (g 120)).setIfInBounds 121 (g 121)).setIfInBounds 122 (g 122)).setIfInBounds 123 (g 123)).setIfInBounds 124 (g 124)).setIfInBounds 125 (g 125)).setIfInBounds 126 (g 126)).setIfInBounds 127 (g 127)).setIfInBounds 128 (g 128)).setIfInBounds 129 (g 129)).setIfInBounds 130 (g 130)).setIfInBounds 131 (g 131)).setIfInBounds 132 (g 132)).setIfInBounds 133 (g 133)).setIfInBounds 134 (g 134)).setIfInBounds 135 (g 135)).setIfInBounds 13 (g 13) := by kernel_rfl
theorem want_pos {c : Prop} [Decidable c] {A B : Prop} (hc : c) (h : A) : if c then A else B := by rw [if_pos hc]; exact h
theorem slot_of {a : Act} {s : Nat} {v : Value} (h : a.tmps.getD s undef = v) : a.tmps[s]?.getD undef = v := by
  rw [← Array.getD_eq_getD_getElem?]; exact h
theorem ins_one {W : World} {a : Option Addr} {h0 : Hd} {A : List Int} (hr : RowsAt W.heap.size W a 1 (Hds [h0])) (l0 : A.length = h0.2.1) (m0 : h0.2.1 ≤ 9223372036854775807) (r0 : RowsAt W.heap.size W h0.1 1 (Ints A)) : InsAt W.heap.size W a [h0] [A] :=
  ⟨rfl, hr, fun i hi => by
    match i, hi with
    | 0, _ => exact ⟨l0, m0, r0⟩⟩
theorem infoN : (Try.prog.info? 32).map (fun i => (i.zero, i.size, i.bytes)) = some (some (.slice none 0 0), 1, 24) := by kernel_rfl
theorem made17n : (madeCells (Value.slice none 0 0).cells (17 * 1)).toList = (List.replicate 17 ((none, 0, 0) : Hd)).map Hd.val := by kernel_rfl
theorem ins_nils (W : World) (a : Option Addr) (n : Nat) (hr : RowsAt W.heap.size W a 1 (Hds (List.replicate n ((none, 0, 0) : Hd)))) : InsAt W.heap.size W a (List.replicate n (none, 0, 0)) (List.replicate n []) := by
  refine ⟨by simp, hr, fun i hi => ?_⟩
  have hi' : i < n := by simpa using hi
  have e1 : (List.replicate n ([] : List Int)).getD i default = [] := by simp [List.getD_eq_getElem?_getD, hi']
  have e2 : (List.replicate n ((none, 0, 0) : Hd)).getD i default = (none, 0, 0) := by simp [List.getD_eq_getElem?_getD, hi']
  rw [e1, e2]
  exact ⟨rfl, Nat.zero_le _, RowsAt.nil _ _ _ _⟩
theorem made1001 : (madeCells (Value.int .i64 0).cells (1001 * 1)).toList = (List.replicate 1001 (0 : Int)).map (Value.int .i64) := by
  rw [List.map_replicate]
  exact toList_madeCells_one (Value.int .i64 0) 1001
theorem asked18 : askedE 10 sampP (-1) [] 0 = 2 ∧ askedE 10 sampP 100000001 [] 0 = 2 ∧ askedE 10 sampP 0 [] (-1) = 2 ∧ askedE 10 sampP 0 [] 1001 = 2 ∧ askedE 10 sampP 0 (List.replicate 17 []) 0 = 2 ∧ askedE 10 sampP 0 [[], [-1]] 0 = 2 ∧ askedE 10 sampP 0 [[100000001]] 0 = 2 := by decide +kernel
theorem asked18b : askedE 10 sampP 0 [List.replicate 1001 0] 0 = 2 := by
  refine asked_n fun h => ?_
  have := h.2.2.2
  rw [List.any_cons] at this
  have hb : badList (List.replicate 1001 (0 : Int)) = true := by
    unfold badList
    rw [List.length_replicate]
    rfl
  rw [hb] at this
  simp at this
theorem WP.len {v : Value} {w : World} (h : WP v w) : v.cells.toList.length = 7 := by
  obtain ⟨_, _, _, _, _, e, _⟩ := h
  rw [e]; rfl
theorem FP.row {W : World} {gA : Nat} (h : FP (.slice (some ⟨gA, 0, none⟩) 8 8) W) {k : Nat} (hk : k < 8) : ∃ (start n : Int) (q : Hd) (hs : List Hd) (ins : List (List Int)), W.cell? ⟨gA, k * 7, none⟩ = some (.int .i64 0) ∧ W.cell? ⟨gA, k * 7 + 1, none⟩ = some (.slice none 0 0) ∧ W.cell? ⟨gA, k * 7 + 2, none⟩ = some (.int .i64 start) ∧ W.cell? ⟨gA, k * 7 + 3, none⟩ = some (.slice q.1 q.2.1 q.2.2) ∧ W.cell? ⟨gA, k * 7 + 4, none⟩ = some (.int .i64 n) ∧ W.cell? ⟨gA, k * 7 + 5, none⟩ = some (.int .i64 0) ∧ W.cell? ⟨gA, k * 7 + 6, none⟩ = some (.int .i64 0) ∧
    ins.length = q.2.1 ∧ q.2.1 ≤ 2000 ∧ InsAt W.heap.size W q.1 hs ins ∧ askedE 10 sampP start ins n = 2 := by
  obtain ⟨g, e, vs, hl, hv, hb⟩ := h
  injection e with e1
  injection e1 with e1
  injection e1 with e1
  subst e1
  obtain ⟨start, n, q, hs, ins, e2, p1, p2, p3, p4⟩ := hv k hk
  have hrows : ∀ r ∈ vs.map (fun v => v.cells.toList), r.length = 7 := by
    intro r hr
    obtain ⟨v, hv', rfl⟩ := List.mem_map.1 hr
    obtain ⟨j, hj, rfl⟩ := List.getElem_of_mem hv'
    have := (hv j (by omega)).len
    rwa [List.getD_eq_getElem?_getD, List.getElem?_eq_getElem hj] at this
  have hget : (vs.map (fun v => v.cells.toList))[k]? = some [.int .i64 0, .slice none 0 0, .int .i64 start, .slice q.1 q.2.1 q.2.2, .int .i64 n, .int .i64 0, .int .i64 0] := by
    rw [List.getElem?_map]
    have : vs[k]? = some (vs.getD k default) := by rw [List.getD_eq_getElem?_getD, List.getElem?_eq_getElem (by omega)]; rfl
    rw [this, e2]
    rfl
  have hc : ∀ j v, ([.int .i64 0, .slice none 0 0, .int .i64 start, .slice q.1 q.2.1 q.2.2, .int .i64 n, .int .i64 0, .int .i64 0] : List Value)[j]? = some v → W.cell? ⟨gA, k * 7 + j, none⟩ = some v := by
    intro j v hj
    rw [blk_cell hb]
    have := flat_get 7 _ hrows k _ hget j v hj
    simpa using this
  exact ⟨start, n, q, hs, ins, hc 0 _ rfl, hc 1 _ rfl, hc 2 _ rfl, hc 3 _ rfl, hc 4 _ rfl, hc 5 _ rfl, hc 6 _ rfl, p1, p2, p3, p4⟩
theorem leastE_two {c : Int} {ps : List Prt} {ins : List (List Int)} {s n l : Int} (h : askedE c ps s ins n = 2) : leastE c ps ins s n l = 2 := by
  unfold leastE
  rw [h]; rfl
end Go.Proofs.Ytnpcafhmkjdhaaa
