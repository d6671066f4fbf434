/- Chapter 06: LinearKnown: the greatest line. -/
import Derived.Test.YtnpcafhmkjdhaaaKnownA
import Derived.Test.YtnpcafhmkjdhaaaRs
import Derived.Test.YtnpcafhmkjdhaaaPlainB
namespace Go.Proofs.Ytnpcafhmkjdhaaa
open Go Go.RowKit

def bigTo (k : Nat) : List Prt := (List.range 16).map fun i => if i < k then ⟨i, 1000, 0⟩ else ⟨0, 0, 0⟩
theorem bigset (k : Nat) (hk : k < 16) : ((((flatP (bigTo k)).toArray.setIfInBounds (k * 3) (.int .i64 k)).setIfInBounds (k * 3 + 1) (.int .i64 1000)).setIfInBounds (k * 3 + 2) (.int .i64 0)) = (flatP (bigTo (k + 1))).toArray := by
  rcases (show k = 0 ∨ k = 1 ∨ k = 2 ∨ k = 3 ∨ k = 4 ∨ k = 5 ∨ k = 6 ∨ k = 7 ∨ k = 8 ∨ k = 9 ∨ k = 10 ∨ k = 11 ∨ k = 12 ∨ k = 13 ∨ k = 14 ∨ k = 15 by omega) with rfl | rfl | rfl | rfl | rfl | rfl | rfl | rfl | rfl | rfl | rfl | rfl | rfl | rfl | rfl | rfl
  all_goals kernel_rfl
theorem made16p : (madeCells (Value.agg #[.int .i64 0, .int .i64 0, .int .i64 0]).cells (16 * 3)).toList = flatP (bigTo 0) := by kernel_rfl
theorem made16n : (madeCells (Value.slice none 0 0).cells (16 * 1)).toList = (List.replicate 16 ((none, 0, 0) : Hd)).map Hd.val := by kernel_rfl
theorem rep_get {α : Type} [Inhabited α] (n : Nat) (x : α) {i : Nat} (h : i < n) : (List.replicate n x).getD i default = x := by
  rw [List.getD_eq_getElem?_getD, List.getElem?_eq_getElem (by rw [List.length_replicate]; exact h), List.getElem_replicate]; rfl
def fillTo (t : Nat) : List Int := List.replicate t 100000000 ++ List.replicate (1000 - t) 0
theorem made1000 : (madeCells (Value.int .i64 0).cells (1000 * 1)).toList = (fillTo 0).map (Value.int .i64) := by
  unfold fillTo
  rw [List.replicate_zero, List.nil_append, List.map_replicate]
  exact toList_madeCells_one (Value.int .i64 0) 1000
theorem made1000' : madeCells #[Value.int .i64 0] 1000 = ((fillTo 0).map (Value.int .i64)).toArray := by
  apply Array.toList_inj.1
  rw [toList_madeCells_one]
  unfold fillTo
  rw [List.replicate_zero, List.nil_append, List.map_replicate]
theorem fill_len (t : Nat) (ht : t ≤ 1000) : (fillTo t).length = 1000 := by unfold fillTo; simp; omega
theorem fill_set (t : Nat) (ht : t < 1000) : ((fillTo t).map (Value.int .i64)).toArray.setIfInBounds t (.int .i64 100000000) = ((fillTo (t + 1)).map (Value.int .i64)).toArray := by
  have h : (fillTo t).set t 100000000 = fillTo (t + 1) := by
    unfold fillTo
    rw [List.set_append_right _ _ (by simp), List.length_replicate, Nat.sub_self, show 1000 - t = (1000 - (t + 1)) + 1 by omega, List.replicate_succ (n := 1000 - (t + 1)), List.set_cons_zero, List.replicate_succ' (n := t), List.append_assoc]
    rfl
  rw [← h]
  simp [List.map_set]
def bigL : List Int := List.replicate 1000 100000000
theorem fill_all : fillTo 1000 = bigL := by
  unfold fillTo bigL
  rw [Nat.sub_self, List.replicate_zero, List.append_nil]
def bigP : List Prt := bigTo 16
def bigI : List (List Int) := List.replicate 16 bigL
theorem bigL_len : bigL.length = 1000 := List.length_replicate
theorem bigI_len : bigI.length = 16 := List.length_replicate
theorem bigP_len : bigP.length = 16 := rfl

/-- The examples' line and the greatest line, its parts made up to k. -/
structure BS (w X : World) (B g gp gb k : Nat) : Prop where
  lin : Lin w X B 10 (some ⟨g, 0, none⟩, 2, 2) (none, 0, 0) sampP [] []
  pr : X.heap[gp]? = some (.cells (flatP (bigTo k)).toArray 43 (0, 0))
  bx : X.heap[gb]? = some (.cells #[.int .i64 0, .slice (some ⟨gp, 0, none⟩) 16 16] 28 (0, 0))
  ord : g < gp ∧ B < gp ∧ gp < gb ∧ w.heap.size ≤ gp
theorem BS.later {w X X' : World} {B g gp gb k : Nat} (h : BS w X B g gp gb k) (hb : Below X.heap.size X X') : BS w X' B g gp gb k := ⟨h.lin.later hb, blk_below h.pr hb, blk_below h.bx hb, h.ord⟩
theorem Lin.far {w X : World} {B g : Nat} (h : Lin w X B 10 (some ⟨g, 0, none⟩, 2, 2) (none, 0, 0) sampP [] []) {b o : Nat} (h1 : B < b) (h2 : g < b) (h3 : w.heap.size ≤ b) (u : Value) : Lin w (X.setCell ⟨b, o, none⟩ u) B 10 (some ⟨g, 0, none⟩, 2, 2) (none, 0, 0) sampP [] [] :=
  ⟨blk_set h.box (by show B ≠ b; omega) _, rows_size (rows_far h.pr fun ad hd => by
      have : ad = ⟨g, 0, none⟩ := by injection hd with hd; exact hd.symm
      subst this
      show b ≠ g
      omega), ins_nil _, h.bel.setCell h3 _⟩
theorem BS.far {w X : World} {B g gp gb k : Nat} (h : BS w X B g gp gb k) {b o : Nat} (h1 : gb < b) (u : Value) : BS w (X.setCell ⟨b, o, none⟩ u) B g gp gb k := by
  have ho := h.ord
  exact ⟨h.lin.far (by omega) (by omega) (by omega) u, blk_set h.pr (by show gp ≠ b; omega) _, blk_set h.bx (by show gb ≠ b; omega) _, h.ord⟩
theorem BS.step {w X : World} {B g gp gb k : Nat} (h : BS w X B g gp gb k) (hk : k < 16) : BS w (((X.setCell ⟨gp, k * 3, none⟩ (.int .i64 k)).setCell ⟨gp, k * 3 + 1, none⟩ (.int .i64 1000)).setCell ⟨gp, k * 3 + 2, none⟩ (.int .i64 0)) B g gp gb (k + 1) := by
  have ho := h.ord
  refine ⟨((h.lin.far (by omega) (by omega) (by omega) _).far (by omega) (by omega) (by omega) _).far (by omega) (by omega) (by omega) _, ?_, blk_set (blk_set (blk_set h.bx (by show gb ≠ gp; omega) _) (by show gb ≠ gp; omega) _) (by show gb ≠ gp; omega) _, h.ord⟩
  rw [← bigset k hk]
  exact blk_setcell (blk_setcell (blk_setcell h.pr))
/-- The lists made up to i. -/
structure CS (w X : World) (B g gp gb gi i N : Nat) (hs : List Hd) : Prop where
  bs : BS w X B g gp gb 16
  gr : X.heap[gi]? = some (.cells (hs.map Hd.val).toArray 32 (0, 0))
  hl : hs.length = 16
  rows : ∀ j, j < i → ∃ gj, hs.getD j default = (some ⟨gj, 0, none⟩, 1000, 1000) ∧ RowsAt X.heap.size X (some ⟨gj, 0, none⟩) 1 (Ints bigL) ∧ gi < gj ∧ gj < N
  ord : gb < gi ∧ gi < N
theorem CS.later {w X X' : World} {B g gp gb gi i N : Nat} {hs : List Hd} (h : CS w X B g gp gb gi i N hs) (hb : Below X.heap.size X X') : CS w X' B g gp gb gi i N hs :=
  ⟨h.bs.later hb, blk_below h.gr hb, h.hl, fun j hj => let ⟨gj, a, b, c, d⟩ := h.rows j hj; ⟨gj, a, b.later hb, c, d⟩, h.ord⟩
theorem CS.far {w X : World} {B g gp gb gi i N : Nat} {hs : List Hd} (h : CS w X B g gp gb gi i N hs) {b o : Nat} (hb : N ≤ b) (u : Value) : CS w (X.setCell ⟨b, o, none⟩ u) B g gp gb gi i N hs := by
  have ho := h.ord
  refine ⟨h.bs.far (by omega) u, blk_set h.gr (by show gi ≠ b; omega) _, h.hl, fun j hj => ?_, h.ord⟩
  obtain ⟨gj, a1, a2, a3, a4⟩ := h.rows j hj
  exact ⟨gj, a1, rows_size (rows_far a2 fun ad hd => by
    have : ad = ⟨gj, 0, none⟩ := by injection hd with hd; exact hd.symm
    subst this
    show b ≠ gj
    omega), a3, a4⟩
theorem CS.put {w X : World} {B g gp gb gi i N : Nat} {hs : List Hd} (h : CS w X B g gp gb gi i N hs) (q : Hd) : CS w (X.setCell ⟨gi, i, none⟩ q.val) B g gp gb gi i N (hs.set i q) := by
  have ho := h.ord
  refine ⟨h.bs.far (by omega) _, ?_, by rw [List.length_set]; exact h.hl, fun j hj => ?_, h.ord⟩
  · have := blk_setcell (i := i) (u := q.val) h.gr
    simpa [List.map_set] using this
  · obtain ⟨gj, a1, a2, a3, a4⟩ := h.rows j hj
    refine ⟨gj, ?_, rows_size (rows_far a2 fun ad hd => by
      have : ad = ⟨gj, 0, none⟩ := by injection hd with hd; exact hd.symm
      subst this
      show gi ≠ gj
      omega), a3, a4⟩
    rw [← a1, List.getD_eq_getElem?_getD, List.getElem?_set, if_neg (by omega), ← List.getD_eq_getElem?_getD]
theorem CS.next {w X : World} {B g gp gb gi i N gN : Nat} {hs : List Hd} (h : CS w X B g gp gb gi i N hs) (hq : hs.getD i default = (some ⟨gN, 0, none⟩, 1000, 1000)) (hN : N ≤ gN) (hr : X.heap[gN]? = some (.cells ((fillTo 1000).map (Value.int .i64)).toArray 3 (0, 0))) : CS w X B g gp gb gi (i + 1) (gN + 1) hs := by
  have ho := h.ord
  refine ⟨h.bs, h.gr, h.hl, fun j hj => ?_, by omega⟩
  by_cases e : j < i
  · obtain ⟨gj, a1, a2, a3, a4⟩ := h.rows j e
    exact ⟨gj, a1, a2, a3, by omega⟩
  · obtain rfl : j = i := by omega
    rw [fill_all] at hr
    exact ⟨gN, hq, ints_blk hr, by omega, by omega⟩
theorem CS.ins {w X : World} {B g gp gb gi N : Nat} {hs : List Hd} (h : CS w X B g gp gb gi 16 N hs) : InsAt X.heap.size X (some ⟨gi, 0, none⟩) hs bigI := by
  refine ⟨by rw [h.hl, bigI_len], hds_blk h.gr, fun i hi => ?_⟩
  have hi' : i < 16 := by rw [bigI_len] at hi; exact hi
  obtain ⟨gj, a1, a2, a3, a4⟩ := h.rows i hi'
  have e1 : bigI.getD i default = bigL := rep_get 16 bigL hi'
  rw [e1, a1]
  exact ⟨bigL_len, (show 1000 ≤ 9223372036854775807 by omega), a2⟩

theorem CS.cell {w X : World} {B g gp gb gi i N k : Nat} {hs : List Hd} (h : CS w X B g gp gb gi i N hs) {q : Hd} (hk : k < 16) (hq : hs.getD k default = q) : X.cell? ⟨gi, k, none⟩ = some (.slice q.1 q.2.1 q.2.2) := by
  rw [blk_cell h.gr]
  have hl : k < hs.length := by rw [h.hl]; exact hk
  have : hs[k]? = some q := by rw [← hq, List.getD_eq_getElem?_getD, List.getElem?_eq_getElem hl]; rfl
  simp [this]
/- The greatest line's levels. -/
theorem given_big {s t : Int} (hs : 0 ≤ s ∧ s < 16) (ht : 0 ≤ t ∧ t < 1000) : given bigI s t = 100000000 := by
  have e1 : bigI.getD s.toNat default = bigL := by
    have : s.toNat < 16 := by omega
    exact rep_get 16 bigL this
  have e2 : bigL.getD t.toNat default = 100000000 := by
    have : t.toNat < 1000 := by omega
    exact rep_get 1000 100000000 this
  unfold given
  rw [e1, if_pos ⟨by rw [bigI_len]; omega, ht.1, by rw [bigL_len]; omega⟩, e2]
theorem fold_const (f : Prt → Int) (c : Int) : ∀ (ps : List Prt) (a : Int), (∀ p ∈ ps, f p = c) → ps.foldl (fun a p => a + f p) a = a + ps.length * c
  | [], a, _ => by simp
  | p :: ps, a, h => by
    rw [List.foldl_cons, fold_const f c ps _ fun q hq => h q (List.mem_cons_of_mem _ hq), h p (List.mem_cons_self ..), List.length_cons]
    have : ((ps.length + 1 : Nat) : Int) * c = ps.length * c + c := by rw [Int.natCast_add, Int.add_mul]; simp
    rw [this]; omega
theorem bigP_mem : ∀ p ∈ bigP, (0 ≤ p.src ∧ p.src < 16) ∧ p.times = 1000 ∧ p.delay = 0 := by
  intro p hp
  unfold bigP bigTo at hp
  obtain ⟨i, hi, rfl⟩ := List.mem_map.1 hp
  have : i < 16 := by simpa using hi
  rw [if_pos this]
  exact ⟨⟨by simp only; omega, by simp only; omega⟩, rfl, rfl⟩
theorem arr_big (k : Nat) (hk : k < 1000) : arr bigP bigI k = 1600000000000 := by
  unfold arr
  rw [fold_const (fun p => p.times * given bigI p.src ((k : Int) - p.delay)) 100000000000 bigP 0 fun p hp => by
    obtain ⟨h1, h2, h3⟩ := bigP_mem p hp
    rw [h2, h3, given_big h1 ⟨by omega, by omega⟩]; rfl]
  rw [bigP_len]; rfl
theorem lev_big : ∀ k, k ≤ 1000 → lev 0 bigP bigI 100000000 k = 100000000 + k * 1600000000000
  | 0, _ => by simp [lev]
  | k + 1, hk => by
    rw [lev, lev_big k (by omega), arr_big k (by omega)]
    omega
theorem asked_big : askedE 0 bigP 100000000 bigI 1000 = 0 := by
  refine asked_of (by omega) (by rw [bigP_len]; omega) (fun p hp => ?_) (by omega) (by omega) (by rw [bigI_len]; omega) fun l hl => ?_
  · obtain ⟨h1, h2, h3⟩ := bigP_mem p hp
    rw [okP_iff', h2, h3]
    omega
  · have : l = bigL := List.eq_of_mem_replicate hl
    subst this
    refine ⟨by rw [bigL_len]; omega, fun z hz => ?_⟩
    have : z = 100000000 := List.eq_of_mem_replicate hz
    omega
theorem course_big : courseV 0 bigP bigI 100000000 1000 = levs 0 bigP bigI 100000000 1000 := if_pos asked_big
theorem least_big : leastE 0 bigP bigI 100000000 1000 100000000 = 7 := by
  have hT : ((1000 : Int)).toNat = 1000 := rfl
  unfold leastE
  rw [if_pos asked_big, hT]
  have h : leastN bigP bigI 100000000 1000 100000000 = 100000001 := by
    unfold leastN
    refine leastOf_eq (fun c c' h1 h2 => fits_mono h1 h2) (Nat.le_refl _) (fun t ht => ?_) (fun h => by omega)
    obtain rfl : t = 100000000 := by omega
    refine fits_not (k := 1) (by rw [comes_len]; omega) ?_
    simp only [lvl]
    rw [comes_get (by omega), arr_big 0 (by omega)]
    omega
  rw [h]; rfl
theorem small1 : firstV 10 sampP [] 5 3 (-1) = 0 ∧ askedE 10 sampP 5 [] 3 = 0 ∧ firstV 10 sampP [] 0 3 0 = -1 ∧ askedE 10 sampP 0 [] 3 = 0 ∧ peakT 10 sampP [] 0 0 = 0 ∧ peakV 10 sampP [] 0 0 = 0 ∧ askedE 10 sampP 0 [] 0 = 0 ∧ askedE 10 sampP 5 [] 4 = 0 := by decide +kernel
theorem small2 : leastE 10 sampP [] 5 4 4 = 7 ∧ leastV 10 sampP [] 5 4 5 = 0 ∧ leastE 10 sampP [] 5 4 5 = 0 ∧ leastE 10 sampP [] 0 0 (-1) = 7 := by
  have h5 : leastN sampP [] 5 (4 : Int).toNat 5 = 0 := by
    unfold leastN
    exact leastOf_eq (fun c c' h1 h2 => fits_mono h1 h2) (by omega) (fun t ht => by omega) (fun _ => by decide +kernel)
  refine ⟨least_beyond (T := 4) small1.2.2.2.2.2.2.2 (by omega), ?_, ?_, least_beyond (T := 0) small1.2.2.2.2.2.2.1 (by omega)⟩
  · unfold leastV
    rw [if_pos small1.2.2.2.2.2.2.2, h5]; rfl
  · unfold leastE
    rw [if_pos small1.2.2.2.2.2.2.2, h5]; rfl
end Go.Proofs.Ytnpcafhmkjdhaaa
