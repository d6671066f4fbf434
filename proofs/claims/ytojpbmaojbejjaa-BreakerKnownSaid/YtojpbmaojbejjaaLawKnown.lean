/- Chapter 07, law BreakerKnown: its walk. -/
import Derived.Test.YtojpbmaojbejjaaLawCourses
import Derived.Test.YtojpbmaojbejjaaLawGalois
import Derived.Deep.DeepCutAuto
import Derived.Deep.CutRange
import Derived.Laws.OwnMore
namespace Go.Proofs.Ytojpbmaojbejjaa
open Go Go.RowKit

theorem flat_at {W : World} {g k : Nat} {rows : List (List Value)} {t : TypeId} (h : W.heap[g]? = some (.cells rows.flatten.toArray t (0, 0))) (hk : ∀ r ∈ rows, r.length = k) {i : Nat} {r : List Value} (hi : rows[i]? = some r) (j : Nat) (v : Value) (hj : r[j]? = some v) :
    W.cell? ⟨g, i * k + j, none⟩ = some v := by
  rw [blk_cell h]
  simpa using flat_get k rows hk i r hi j v hj
def oddB : List Brk := [⟨0, -1, 0, 0⟩, ⟨0, 1000001, 0, 1000001⟩, ⟨0, 0, -1, 0⟩, ⟨0, 0, 1000001, 0⟩, ⟨0, 5, 0, 4⟩, ⟨0, 0, 0, 1000001⟩]
def oddS : List BSt := [⟨-1, false⟩, ⟨41, false⟩, ⟨100000001, true⟩]
def pairs1 : List (Int × Int) := [(-1, 0), (41, 0), (0, -1), (0, 100000001)]
def pairs2 : List (Int × Int) := [(-1, 1), (41, 1), (0, 0), (0, 1001)]
def pcells (x : Int × Int) : List Value := [.int .i64 x.1, .int .i64 x.2]
theorem oddB_no : ∀ x ∈ oddB, okB x = false := by decide
theorem oddS_no : ∀ x ∈ oddS, okS sampB x = false := by decide
theorem pairs1_no : ∀ x ∈ pairs1, steadyE sampB x.1 x.2 = 2 := by decide
theorem pairs2_no : ∀ x ∈ pairs2, bearsE sampB x.1 x.2 = 2 := by decide
theorem bad_all {x : Brk} (hx : okB x = false) (s : BSt) (ws : List Int) (h t : Int) : courseE x s ws = 1 ∧ steadyE x h t = 1 ∧ tripsE x h ws = 1 ∧ bearsE x h t = 1 := by
  have h1 : ∀ t, steadyE x h t = 1 := fun t => by unfold steadyE; rw [hx]; rfl
  refine ⟨courseE_one (by unfold okS; rw [hx]; rfl), h1 t, ?_, ?_⟩
  · unfold tripsE; rw [h1]; rfl
  · unfold bearsE; rw [hx]; rfl
def zs1001 : Array Value := madeCells (Value.int .i64 0).cells (1001 * 1)
def zsI : List Int := List.replicate 1001 0
theorem zsI_len : zsI.length = 1001 := List.length_replicate
theorem zs_eq : zs1001 = (zsI.map (Value.int .i64)).toArray := by
  apply Array.toList_inj.1
  unfold zs1001 zsI
  rw [List.map_replicate]
  exact toList_madeCells_one (Value.int .i64 0) 1001
theorem mk1001 (W : World) : (Instr.makeSlice 43 (.int .i64 1001) (.int .i64 1001)).run Try.prog W = .ok (.slice (some ⟨W.heap.size, 0, none⟩) 1001 1001) (W.alloc (.cells zs1001 3)) := by
  obtain ⟨i0, hi, hz0, hz1, hz2⟩ := info_parts info3
  have := run_make (P := Try.prog) W 43 3 i0 _ Try.underlying43 hi hz0 .i64 .i64 1001 1001 (by omega) (by omega) (by rw [hz2]; decide) (by omega)
  rw [hz1] at this
  exact this
theorem rows1001 (W : World) : RowsAt (W.alloc (.cells zs1001 3)).heap.size (W.alloc (.cells zs1001 3)) (some ⟨W.heap.size, 0, none⟩) 1 (Ints zsI) :=
  ints_blk (t := 3) (by rw [← zs_eq]; exact blk_new W _)
theorem kf1 : courseE sampB ⟨0, false⟩ [-1] = 2 ∧ courseE sampB ⟨0, false⟩ [100000001] = 2 ∧ courseE sampB ⟨0, true⟩ [0, -1] = 2 ∧ tripsE sampB 41 [] = 2 ∧ tripsE sampB 0 [-1] = 2 := by decide
theorem kf2 : courseE sampB ⟨0, false⟩ zsI = 2 := by
  unfold courseE
  rw [if_pos (by decide)]
  refine if_neg ?_
  rintro ⟨h, _⟩
  rw [zsI_len] at h
  omega
theorem kf3 : (courseE sampB ⟨30, false⟩ [100000000] = 0 ∧ nextS sampB ⟨30, false⟩ 100000000 = ⟨99999980, true⟩) ∧ (courseE sampB ⟨99999980, true⟩ [0] = 0 ∧ nextS sampB ⟨99999980, true⟩ 0 = ⟨99999980, true⟩) ∧ (courseE ⟨0, 0, 9, 0⟩ ⟨9, false⟩ [100000000] = 0 ∧ nextS ⟨0, 0, 9, 0⟩ ⟨9, false⟩ 100000000 = ⟨100000000, true⟩) := by decide
theorem kf4 : (steadyE ⟨0, 1, 1000000, 5⟩ 0 2 = 0 ∧ lastsN ⟨0, 1, 1000000, 5⟩ 0 2 = 1000000) ∧ (steadyE ⟨0, 1, 1000000, 5⟩ 1000000 0 = 0 ∧ coolsN ⟨0, 1, 1000000, 5⟩ 1000000 0 = 1000000) ∧ (bearsE ⟨0, 0, 1000000, 1000000⟩ 0 1 = 0 ∧ bearsN ⟨0, 0, 1000000, 1000000⟩ 0 1 = 1000000) ∧ (bearsE ⟨0, 50, 40, 70⟩ 0 1 = 0 ∧ bearsN ⟨0, 50, 40, 70⟩ 0 1 = 70) ∧ (bearsE sampB 39 2 = 0 ∧ bearsN sampB 39 2 = 50) := by decide
theorem ints_nil (n : Nat) (W : World) : RowsAt n W none 1 (Ints []) := RowsAt.nil _ _ _ _

set_option maxRecDepth 100000 in
set_option maxHeartbeats 20000000 in
theorem known_walk (w : World) : Calls Try.prog 5 #[] w fun e W' => e = .returned (.bool true) ∧ Below w.heap.size w W' := by
  have H0 := Lib.hid (And.intro (Has.nil w) (below_self w))
  go_enter Try.func5, Try.ntmps5
  go_wp2_with fail
  refine (sample_ok _).mono ?_
  rintro e W1 ⟨rfl, hb⟩
  have hh := H0.out.1.below hb
  have H1 := Lib.hid (And.intro hh (below_trans H0.out.2 hb))
  clear hh hb H0
  go_wp2_with fail
  obtain ⟨A2, hA2⟩ : ∃ W' : World, ((W1.alloc (.cells sampB.cells.toArray 23)).alloc (.cells #[.int .i64 0, .int .i64 (-1), .int .i64 0, .int .i64 0, .int .i64 0, .int .i64 1000001, .int .i64 0, .int .i64 1000001, .int .i64 0, .int .i64 0, .int .i64 (-1), .int .i64 0, .int .i64 0, .int .i64 0, .int .i64 1000001, .int .i64 0, .int .i64 0, .int .i64 5, .int .i64 0, .int .i64 4, .int .i64 0, .int .i64 0, .int .i64 0, .int .i64 1000001] 23)) = W' := ⟨_, rfl⟩
  have hn : Has A2 [(W1.heap.size + 1, .cells #[.int .i64 0, .int .i64 (-1), .int .i64 0, .int .i64 0, .int .i64 0, .int .i64 1000001, .int .i64 0, .int .i64 1000001, .int .i64 0, .int .i64 0, .int .i64 (-1), .int .i64 0, .int .i64 0, .int .i64 0, .int .i64 1000001, .int .i64 0, .int .i64 0, .int .i64 5, .int .i64 0, .int .i64 4, .int .i64 0, .int .i64 0, .int .i64 0, .int .i64 1000001] 23 (0, 0)), (W1.heap.size, .cells sampB.cells.toArray 23 (0, 0))] := by rw [← hA2]; simpa using (((Has.nil W1).new _).new _)
  have sn : A2.heap.size = W1.heap.size + 1 + 1 := by rw [← hA2]; simp
  have bn : Below W1.heap.size W1 A2 := by rw [← hA2]; exact (below_alloc (below_alloc (below_self W1) _) _)
  rw [hA2]
  clear hA2
  have hh := H1.out.1.below bn
  have hw := below_trans H1.out.2 bn
  have H2 := Lib.hid (And.intro (show Has A2 [(W1.heap.size + 1, .cells #[.int .i64 0, .int .i64 (-1), .int .i64 0, .int .i64 0, .int .i64 0, .int .i64 1000001, .int .i64 0, .int .i64 1000001, .int .i64 0, .int .i64 0, .int .i64 (-1), .int .i64 0, .int .i64 0, .int .i64 0, .int .i64 1000001, .int .i64 0, .int .i64 0, .int .i64 5, .int .i64 0, .int .i64 4, .int .i64 0, .int .i64 0, .int .i64 0, .int .i64 1000001] 23 (0, 0)), (W1.heap.size, .cells sampB.cells.toArray 23 (0, 0))] from (Has.cons hn.hd (Has.cons hn.tl.hd hh))) hw)
  have hz := H2.out.1
  have lo := blk_lt hz.hd
  have k0 := blk_cell hz.tl.hd 0
  have k1 := blk_cell hz.tl.hd 1
  have k2 := blk_cell hz.tl.hd 2
  have k3 := blk_cell hz.tl.hd 3
  simp at k0 k1 k2 k3
  have lk := blk_lt hz.tl.hd
  clear hz hh hw hn sn bn H1
  have H3 := Lib.hid (And.intro (show Has A2 [(W1.heap.size + 1, .cells ((oddB.map Brk.cells).flatten).toArray 23 (0, 0)), (W1.heap.size, .cells sampB.cells.toArray 23 (0, 0))] from H2.out.1) H2.out.2)
  clear H2
  clear lo k0 k1 k2 k3 lk
  go_loopw [63] (fun i wr => ∃ (k : Nat) (X : World), k ≤ 6 ∧ i = .int .i64 k ∧ X = wr ∧ Hid (Has X [(W1.heap.size + 1, .cells ((oddB.map Brk.cells).flatten).toArray 23 (0, 0)), (W1.heap.size, .cells sampB.cells.toArray 23 (0, 0))] ∧ Below w.heap.size w X)) (fun i _ => 6 - (intOf i).toNat)
  case atStart => exact ⟨0, _, Nat.zero_le _, rfl, rfl, H3⟩
  case round =>
    clear H3
    obtain ⟨k, X4, hk, rfl, rfl, H4⟩ := hrel
    by_cases hlt : k < 6
    · skip
      have hx := (List.getElem?_eq_getElem (l := oddB) (i := k) (by simpa [oddB] using hlt))
      have hxm : (oddB[k]'(by simpa [oddB] using hlt)) ∈ oddB := List.getElem_mem _
      generalize (oddB[k]'(by simpa [oddB] using hlt)) = x at hx hxm
      have hrow : (oddB.map Brk.cells)[k]? = some (Brk.cells x) := by rw [List.getElem?_map, hx]; rfl
      have e0 := flat_at H4.out.1.hd (k := 4) (by intro r hr; obtain ⟨y, _, rfl⟩ := List.mem_map.1 hr; rfl) hrow 0 _ rfl
      have e1 := flat_at H4.out.1.hd (k := 4) (by intro r hr; obtain ⟨y, _, rfl⟩ := List.mem_map.1 hr; rfl) hrow 1 _ rfl
      have e2 := flat_at H4.out.1.hd (k := 4) (by intro r hr; obtain ⟨y, _, rfl⟩ := List.mem_map.1 hr; rfl) hrow 2 _ rfl
      have e3 := flat_at H4.out.1.hd (k := 4) (by intro r hr; obtain ⟨y, _, rfl⟩ := List.mem_map.1 hr; rfl) hrow 3 _ rfl
      simp only [Nat.add_zero] at e0
      clear hx hrow
      have HXM := Lib.hid hxm
      clear hxm
      have hz := H4.out.1
      have lo := blk_lt hz.hd
      have k0 := blk_cell hz.tl.hd 0
      have k1 := blk_cell hz.tl.hd 1
      have k2 := blk_cell hz.tl.hd 2
      have k3 := blk_cell hz.tl.hd 3
      simp at k0 k1 k2 k3
      have lk := blk_lt hz.tl.hd
      clear hz
      go_wp2_with fail
      obtain ⟨A5, hA5⟩ : ∃ W' : World, (X4.alloc (.cells x.cells.toArray 23)) = W' := ⟨_, rfl⟩
      have hn : Has A5 [(X4.heap.size, .cells x.cells.toArray 23 (0, 0))] := by rw [← hA5]; simpa using ((Has.nil X4).new _)
      have sn : A5.heap.size = X4.heap.size + 1 := by rw [← hA5]; simp
      have bn : Below X4.heap.size X4 A5 := by rw [← hA5]; exact (below_alloc (below_self X4) _)
      rw [hA5]
      clear hA5
      have hh := H4.out.1.below bn
      have hw := below_trans H4.out.2 bn
      have H5 := Lib.hid (And.intro (show Has A5 [(X4.heap.size, .cells x.cells.toArray 23 (0, 0)), (W1.heap.size + 1, .cells ((oddB.map Brk.cells).flatten).toArray 23 (0, 0)), (W1.heap.size, .cells sampB.cells.toArray 23 (0, 0))] from (Has.cons hn.hd hh)) hw)
      have hz := H5.out.1
      clear lo k0 k1 k2 k3 lk e0 e1 e2 e3
      have x0 := blk_cell hz.hd 0
      have x1 := blk_cell hz.hd 1
      have x2 := blk_cell hz.hd 2
      have x3 := blk_cell hz.hd 3
      simp at x0 x1 x2 x3
      have lx := blk_lt hz.hd
      have lo := blk_lt hz.tl.hd
      have k0 := blk_cell hz.tl.tl.hd 0
      have k1 := blk_cell hz.tl.tl.hd 1
      have k2 := blk_cell hz.tl.tl.hd 2
      have k3 := blk_cell hz.tl.tl.hd 3
      simp at k0 k1 k2 k3
      have lk := blk_lt hz.tl.tl.hd
      clear hz hh hw hn sn bn H4
      have HB := Lib.hid (oddB_no x HXM.out)
      refine (next_ok x ⟨0, false⟩ (-1) _).mono ?_
      rintro e W6 ⟨rfl, hb⟩
      rw [(bad_all HB.out ⟨0, false⟩ [-1] (-1) 0).1]
      generalize nextS x _ _ = y
      have hh := H5.out.1.below hb
      have H6 := Lib.hid (And.intro hh (below_trans H5.out.2 hb))
      clear x0 x1 x2 x3 lx lo k0 k1 k2 k3 lk
      have x0 := blk_cell hh.hd 0
      have x1 := blk_cell hh.hd 1
      have x2 := blk_cell hh.hd 2
      have x3 := blk_cell hh.hd 3
      simp at x0 x1 x2 x3
      have lx := blk_lt hh.hd
      have lo := blk_lt hh.tl.hd
      have k0 := blk_cell hh.tl.tl.hd 0
      have k1 := blk_cell hh.tl.tl.hd 1
      have k2 := blk_cell hh.tl.tl.hd 2
      have k3 := blk_cell hh.tl.tl.hd 3
      simp at k0 k1 k2 k3
      have lk := blk_lt hh.tl.tl.hd
      clear hh hb H5
      go_wp2_with fail
      obtain ⟨A7, hA7⟩ : ∃ W' : World, ((W6.alloc (.cells y.cells.toArray 37)).alloc (.cells #[.int .i64 (-1)] 3)) = W' := ⟨_, rfl⟩
      have hn : Has A7 [(W6.heap.size + 1, .cells #[.int .i64 (-1)] 3 (0, 0)), (W6.heap.size, .cells y.cells.toArray 37 (0, 0))] := by rw [← hA7]; simpa using (((Has.nil W6).new _).new _)
      have sn : A7.heap.size = W6.heap.size + 1 + 1 := by rw [← hA7]; simp
      have bn : Below W6.heap.size W6 A7 := by rw [← hA7]; exact (below_alloc (below_alloc (below_self W6) _) _)
      rw [hA7]
      clear hA7
      have hh := H6.out.1.below bn
      have hw := below_trans H6.out.2 bn
      have hr := ints_blk (xs := [-1]) hn.hd
      have H7 := Lib.hid (And.intro (show Has A7 [(X4.heap.size, .cells x.cells.toArray 23 (0, 0)), (W1.heap.size + 1, .cells ((oddB.map Brk.cells).flatten).toArray 23 (0, 0)), (W1.heap.size, .cells sampB.cells.toArray 23 (0, 0))] from hh) hw)
      have hz := H7.out.1
      clear x0 x1 x2 x3 lx lo k0 k1 k2 k3 lk
      have x0 := blk_cell hz.hd 0
      have x1 := blk_cell hz.hd 1
      have x2 := blk_cell hz.hd 2
      have x3 := blk_cell hz.hd 3
      simp at x0 x1 x2 x3
      have lx := blk_lt hz.hd
      have lo := blk_lt hz.tl.hd
      have k0 := blk_cell hz.tl.tl.hd 0
      have k1 := blk_cell hz.tl.tl.hd 1
      have k2 := blk_cell hz.tl.tl.hd 2
      have k3 := blk_cell hz.tl.tl.hd 3
      simp at k0 k1 k2 k3
      have lk := blk_lt hz.tl.tl.hd
      clear hz hh hw hn sn bn H6
      refine (course_ok x ⟨0, false⟩ _ 1 1 [-1] _ rfl (by omega) hr).mono ?_
      rintro e W8 ⟨v, rfl, ho, hb⟩
      rw [(bad_all HB.out ⟨0, false⟩ [-1] (-1) 0).1]
      obtain ⟨av, cv, rfl, _⟩ := ho.rows; clear ho hr; generalize (courseL x _ _).length = lq
      have hh := H7.out.1.below hb
      have H8 := Lib.hid (And.intro hh (below_trans H7.out.2 hb))
      clear x0 x1 x2 x3 lx lo k0 k1 k2 k3 lk
      have x0 := blk_cell hh.hd 0
      have x1 := blk_cell hh.hd 1
      have x2 := blk_cell hh.hd 2
      have x3 := blk_cell hh.hd 3
      simp at x0 x1 x2 x3
      have lx := blk_lt hh.hd
      have lo := blk_lt hh.tl.hd
      have k0 := blk_cell hh.tl.tl.hd 0
      have k1 := blk_cell hh.tl.tl.hd 1
      have k2 := blk_cell hh.tl.tl.hd 2
      have k3 := blk_cell hh.tl.tl.hd 3
      simp at k0 k1 k2 k3
      have lk := blk_lt hh.tl.tl.hd
      clear hh hb H7
      go_wp2_with fail
      refine (trips_ok x (-1) none 0 0 [] _ rfl (by omega) (ints_nil _ _)).mono ?_
      rintro e W9 ⟨rfl, hb⟩
      rw [(bad_all HB.out ⟨0, false⟩ [] (-1) 0).2.2.1]
      generalize tripsN x _ _ = n1
      have hh := H8.out.1.below hb
      have H9 := Lib.hid (And.intro hh (below_trans H8.out.2 hb))
      clear x0 x1 x2 x3 lx lo k0 k1 k2 k3 lk
      have x0 := blk_cell hh.hd 0
      have x1 := blk_cell hh.hd 1
      have x2 := blk_cell hh.hd 2
      have x3 := blk_cell hh.hd 3
      simp at x0 x1 x2 x3
      have lx := blk_lt hh.hd
      have lo := blk_lt hh.tl.hd
      have k0 := blk_cell hh.tl.tl.hd 0
      have k1 := blk_cell hh.tl.tl.hd 1
      have k2 := blk_cell hh.tl.tl.hd 2
      have k3 := blk_cell hh.tl.tl.hd 3
      simp at k0 k1 k2 k3
      have lk := blk_lt hh.tl.tl.hd
      clear hh hb H8
      go_wp2_with fail
      refine (lasts_ok x (-1) 0 _).mono ?_
      rintro e W10 ⟨rfl, hb⟩
      rw [(bad_all HB.out ⟨0, false⟩ [] (-1) 0).2.1]
      generalize lastsN x _ _ = n2
      have hh := H9.out.1.below hb
      have H10 := Lib.hid (And.intro hh (below_trans H9.out.2 hb))
      clear x0 x1 x2 x3 lx lo k0 k1 k2 k3 lk
      have x0 := blk_cell hh.hd 0
      have x1 := blk_cell hh.hd 1
      have x2 := blk_cell hh.hd 2
      have x3 := blk_cell hh.hd 3
      simp at x0 x1 x2 x3
      have lx := blk_lt hh.hd
      have lo := blk_lt hh.tl.hd
      have k0 := blk_cell hh.tl.tl.hd 0
      have k1 := blk_cell hh.tl.tl.hd 1
      have k2 := blk_cell hh.tl.tl.hd 2
      have k3 := blk_cell hh.tl.tl.hd 3
      simp at k0 k1 k2 k3
      have lk := blk_lt hh.tl.tl.hd
      clear hh hb H9
      go_wp2_with fail
      refine (cools_ok x (-1) 0 _).mono ?_
      rintro e W11 ⟨rfl, hb⟩
      rw [(bad_all HB.out ⟨0, false⟩ [] (-1) 0).2.1]
      generalize coolsN x _ _ = n3
      have hh := H10.out.1.below hb
      have H11 := Lib.hid (And.intro hh (below_trans H10.out.2 hb))
      clear x0 x1 x2 x3 lx lo k0 k1 k2 k3 lk
      have x0 := blk_cell hh.hd 0
      have x1 := blk_cell hh.hd 1
      have x2 := blk_cell hh.hd 2
      have x3 := blk_cell hh.hd 3
      simp at x0 x1 x2 x3
      have lx := blk_lt hh.hd
      have lo := blk_lt hh.tl.hd
      have k0 := blk_cell hh.tl.tl.hd 0
      have k1 := blk_cell hh.tl.tl.hd 1
      have k2 := blk_cell hh.tl.tl.hd 2
      have k3 := blk_cell hh.tl.tl.hd 3
      simp at k0 k1 k2 k3
      have lk := blk_lt hh.tl.tl.hd
      clear hh hb H10
      go_wp2_with fail
      refine (bears_ok x (-1) 0 _).mono ?_
      rintro e W12 ⟨rfl, hb⟩
      rw [(bad_all HB.out ⟨0, false⟩ [] (-1) 0).2.2.2]
      generalize bearsN x _ _ = n4
      have hh := H11.out.1.below hb
      have H12 := Lib.hid (And.intro hh (below_trans H11.out.2 hb))
      clear x0 x1 x2 x3 lx lo k0 k1 k2 k3 lk
      have x0 := blk_cell hh.hd 0
      have x1 := blk_cell hh.hd 1
      have x2 := blk_cell hh.hd 2
      have x3 := blk_cell hh.hd 3
      simp at x0 x1 x2 x3
      have lx := blk_lt hh.hd
      have lo := blk_lt hh.tl.hd
      have k0 := blk_cell hh.tl.tl.hd 0
      have k1 := blk_cell hh.tl.tl.hd 1
      have k2 := blk_cell hh.tl.tl.hd 2
      have k3 := blk_cell hh.tl.tl.hd 3
      simp at k0 k1 k2 k3
      have lk := blk_lt hh.tl.tl.hd
      clear hh hb H11
      go_wp2_with fail
      refine (valid_b x _).mono ?_
      rintro e W13 ⟨rfl, hb⟩
      rw [HB.out]
      have hh := H12.out.1.below hb
      have H13 := Lib.hid (And.intro hh (below_trans H12.out.2 hb))
      clear x0 x1 x2 x3 lx lo k0 k1 k2 k3 lk
      have x0 := blk_cell hh.hd 0
      have x1 := blk_cell hh.hd 1
      have x2 := blk_cell hh.hd 2
      have x3 := blk_cell hh.hd 3
      simp at x0 x1 x2 x3
      have lx := blk_lt hh.hd
      have lo := blk_lt hh.tl.hd
      have k0 := blk_cell hh.tl.tl.hd 0
      have k1 := blk_cell hh.tl.tl.hd 1
      have k2 := blk_cell hh.tl.tl.hd 2
      have k3 := blk_cell hh.tl.tl.hd 3
      simp at k0 k1 k2 k3
      have lk := blk_lt hh.tl.tl.hd
      clear hh hb H12
      go_wp2_with fail
      go_roundw
      case rel => exact ⟨k + 1, _, by omega, by go_num, rfl, Lib.hid (And.intro (Has.cons H13.out.1.tl.hd (Has.cons H13.out.1.tl.tl.hd (Has.nil _))) H13.out.2)⟩
      case measure => simp [intOf]; omega
    · skip
      have H14 := Lib.hid (And.intro (show Has X4 [(W1.heap.size, .cells sampB.cells.toArray 23 (0, 0))] from (Has.cons H4.out.1.tl.hd (Has.nil _))) H4.out.2)
      have hz := H14.out.1
      have k0 := blk_cell hz.hd 0
      have k1 := blk_cell hz.hd 1
      have k2 := blk_cell hz.hd 2
      have k3 := blk_cell hz.hd 3
      simp at k0 k1 k2 k3
      have lk := blk_lt hz.hd
      clear hz H4
      go_wp2_with fail
      obtain ⟨A15, hA15⟩ : ∃ W' : World, (X4.alloc (.cells #[.int .i64 (-1), .bool false, .int .i64 41, .bool false, .int .i64 100000001, .bool true] 37)) = W' := ⟨_, rfl⟩
      have hn : Has A15 [(X4.heap.size, .cells #[.int .i64 (-1), .bool false, .int .i64 41, .bool false, .int .i64 100000001, .bool true] 37 (0, 0))] := by rw [← hA15]; simpa using ((Has.nil X4).new _)
      have sn : A15.heap.size = X4.heap.size + 1 := by rw [← hA15]; simp
      have bn : Below X4.heap.size X4 A15 := by rw [← hA15]; exact (below_alloc (below_self X4) _)
      rw [hA15]
      clear hA15
      have hh := H14.out.1.below bn
      have hw := below_trans H14.out.2 bn
      have H15 := Lib.hid (And.intro (show Has A15 [(X4.heap.size, .cells #[.int .i64 (-1), .bool false, .int .i64 41, .bool false, .int .i64 100000001, .bool true] 37 (0, 0)), (W1.heap.size, .cells sampB.cells.toArray 23 (0, 0))] from (Has.cons hn.hd hh)) hw)
      have hz := H15.out.1
      clear k0 k1 k2 k3 lk
      have lo := blk_lt hz.hd
      have k0 := blk_cell hz.tl.hd 0
      have k1 := blk_cell hz.tl.hd 1
      have k2 := blk_cell hz.tl.hd 2
      have k3 := blk_cell hz.tl.hd 3
      simp at k0 k1 k2 k3
      have lk := blk_lt hz.tl.hd
      clear hz hh hw hn sn bn H14
      have H16 := Lib.hid (And.intro (show Has A15 [(X4.heap.size, .cells ((oddS.map BSt.cells).flatten).toArray 37 (0, 0)), (W1.heap.size, .cells sampB.cells.toArray 23 (0, 0))] from H15.out.1) H15.out.2)
      clear H15
      clear lo k0 k1 k2 k3 lk
      go_loopw [132] (fun i wr => ∃ (k : Nat) (X : World), k ≤ 3 ∧ i = .int .i64 k ∧ X = wr ∧ Hid (Has X [(X4.heap.size, .cells ((oddS.map BSt.cells).flatten).toArray 37 (0, 0)), (W1.heap.size, .cells sampB.cells.toArray 23 (0, 0))] ∧ Below w.heap.size w X)) (fun i _ => 3 - (intOf i).toNat)
      case atStart => exact ⟨0, _, Nat.zero_le _, rfl, rfl, H16⟩
      case round =>
        clear H16
        obtain ⟨k, X17, hk, rfl, rfl, H17⟩ := hrel
        by_cases hlt : k < 3
        · skip
          have hx := (List.getElem?_eq_getElem (l := oddS) (i := k) (by simpa [oddS] using hlt))
          have hxm : (oddS[k]'(by simpa [oddS] using hlt)) ∈ oddS := List.getElem_mem _
          generalize (oddS[k]'(by simpa [oddS] using hlt)) = x at hx hxm
          have hrow : (oddS.map BSt.cells)[k]? = some (BSt.cells x) := by rw [List.getElem?_map, hx]; rfl
          have e0 := flat_at H17.out.1.hd (k := 2) (by intro r hr; obtain ⟨y, _, rfl⟩ := List.mem_map.1 hr; rfl) hrow 0 _ rfl
          have e1 := flat_at H17.out.1.hd (k := 2) (by intro r hr; obtain ⟨y, _, rfl⟩ := List.mem_map.1 hr; rfl) hrow 1 _ rfl
          simp only [Nat.add_zero] at e0
          clear hx hrow
          have HXM := Lib.hid hxm
          clear hxm
          have hz := H17.out.1
          have lo := blk_lt hz.hd
          have k0 := blk_cell hz.tl.hd 0
          have k1 := blk_cell hz.tl.hd 1
          have k2 := blk_cell hz.tl.hd 2
          have k3 := blk_cell hz.tl.hd 3
          simp at k0 k1 k2 k3
          have lk := blk_lt hz.tl.hd
          clear hz
          go_wp2_with fail
          obtain ⟨A18, hA18⟩ : ∃ W' : World, (X17.alloc (.cells x.cells.toArray 37)) = W' := ⟨_, rfl⟩
          have hn : Has A18 [(X17.heap.size, .cells x.cells.toArray 37 (0, 0))] := by rw [← hA18]; simpa using ((Has.nil X17).new _)
          have sn : A18.heap.size = X17.heap.size + 1 := by rw [← hA18]; simp
          have bn : Below X17.heap.size X17 A18 := by rw [← hA18]; exact (below_alloc (below_self X17) _)
          rw [hA18]
          clear hA18
          have hh := H17.out.1.below bn
          have hw := below_trans H17.out.2 bn
          have H18 := Lib.hid (And.intro (show Has A18 [(X17.heap.size, .cells x.cells.toArray 37 (0, 0)), (X4.heap.size, .cells ((oddS.map BSt.cells).flatten).toArray 37 (0, 0)), (W1.heap.size, .cells sampB.cells.toArray 23 (0, 0))] from (Has.cons hn.hd hh)) hw)
          have hz := H18.out.1
          clear lo k0 k1 k2 k3 lk e0 e1
          have x0 := blk_cell hz.hd 0
          have x1 := blk_cell hz.hd 1
          simp at x0 x1
          have lx := blk_lt hz.hd
          have lo := blk_lt hz.tl.hd
          have k0 := blk_cell hz.tl.tl.hd 0
          have k1 := blk_cell hz.tl.tl.hd 1
          have k2 := blk_cell hz.tl.tl.hd 2
          have k3 := blk_cell hz.tl.tl.hd 3
          simp at k0 k1 k2 k3
          have lk := blk_lt hz.tl.tl.hd
          clear hz hh hw hn sn bn H17
          have HB := Lib.hid (oddS_no x HXM.out)
          refine (next_ok sampB x (-1) _).mono ?_
          rintro e W19 ⟨rfl, hb⟩
          rw [courseE_one HB.out]
          generalize nextS sampB x _ = y
          have hh := H18.out.1.below hb
          have H19 := Lib.hid (And.intro hh (below_trans H18.out.2 hb))
          clear x0 x1 lx lo k0 k1 k2 k3 lk
          have x0 := blk_cell hh.hd 0
          have x1 := blk_cell hh.hd 1
          simp at x0 x1
          have lx := blk_lt hh.hd
          have lo := blk_lt hh.tl.hd
          have k0 := blk_cell hh.tl.tl.hd 0
          have k1 := blk_cell hh.tl.tl.hd 1
          have k2 := blk_cell hh.tl.tl.hd 2
          have k3 := blk_cell hh.tl.tl.hd 3
          simp at k0 k1 k2 k3
          have lk := blk_lt hh.tl.tl.hd
          clear hh hb H18
          go_wp2_with fail
          obtain ⟨A20, hA20⟩ : ∃ W' : World, (W19.alloc (.cells y.cells.toArray 37)) = W' := ⟨_, rfl⟩
          have hn : Has A20 [(W19.heap.size, .cells y.cells.toArray 37 (0, 0))] := by rw [← hA20]; simpa using ((Has.nil W19).new _)
          have sn : A20.heap.size = W19.heap.size + 1 := by rw [← hA20]; simp
          have bn : Below W19.heap.size W19 A20 := by rw [← hA20]; exact (below_alloc (below_self W19) _)
          rw [hA20]
          clear hA20
          have hh := H19.out.1.below bn
          have hw := below_trans H19.out.2 bn
          have H20 := Lib.hid (And.intro (show Has A20 [(X17.heap.size, .cells x.cells.toArray 37 (0, 0)), (X4.heap.size, .cells ((oddS.map BSt.cells).flatten).toArray 37 (0, 0)), (W1.heap.size, .cells sampB.cells.toArray 23 (0, 0))] from hh) hw)
          have hz := H20.out.1
          clear x0 x1 lx lo k0 k1 k2 k3 lk
          have x0 := blk_cell hz.hd 0
          have x1 := blk_cell hz.hd 1
          simp at x0 x1
          have lx := blk_lt hz.hd
          have lo := blk_lt hz.tl.hd
          have k0 := blk_cell hz.tl.tl.hd 0
          have k1 := blk_cell hz.tl.tl.hd 1
          have k2 := blk_cell hz.tl.tl.hd 2
          have k3 := blk_cell hz.tl.tl.hd 3
          simp at k0 k1 k2 k3
          have lk := blk_lt hz.tl.tl.hd
          clear hz hh hw hn sn bn H19
          have bX := (below_self A20).drew
          have HC := Lib.hid (fun W (hb : Below A20.heap.size A20 W) => (And.intro (cell_call hb lx x0) (And.intro (cell_call hb lx x1) (And.intro (cell_call hb lk k0) (And.intro (cell_call hb lk k1) (And.intro (cell_call hb lk k2) (cell_call hb lk k3)))))))
          clear x0 x1 lx lo k0 k1 k2 k3 lk
          have hmk := mk1001
          have bX2 := (below_alloc (below_self A20) (.cells zs1001 3)).drew
          have rX2 : RowsAt (A20.alloc (.cells zs1001 3)).drew.heap.size (A20.alloc (.cells zs1001 3)).drew (some ⟨A20.heap.size, 0, none⟩) 1 (Ints zsI) := rows1001 A20
          go_region_held3 (fun w' => Below A20.heap.size A20 w' ∧ w'.cell? ⟨X17.heap.size, 0, none⟩ = some (.int .i64 x.heat) ∧ w'.cell? ⟨X17.heap.size, 1, none⟩ = some (.bool x.trip) ∧ w'.cell? ⟨W1.heap.size, 0, none⟩ = some (.int .i64 sampB.feed) ∧ w'.cell? ⟨W1.heap.size, 1, none⟩ = some (.int .i64 sampB.limit) ∧ w'.cell? ⟨W1.heap.size, 2, none⟩ = some (.int .i64 sampB.slow) ∧ w'.cell? ⟨W1.heap.size, 3, none⟩ = some (.int .i64 sampB.fast)) ((first | exact ⟨bX, HC.out _ bX⟩ | exact ⟨bX2, HC.out _ bX2⟩ | exact ⟨bY, HC.out _ bY⟩))
            (first | (go_at_call 20; refine (course_ok sampB x _ 1001 1001 zsI _ zsI_len (by omega) rX2).mono ?_; rintro e WZ ⟨vZ, rfl, hoZ, hbZ⟩; rw [courseE_one HB.out]; (obtain ⟨aZ, cZ, rfl, _⟩ := hoZ.rows); have bY := below_trans bX2 hbZ))
          have H21 := Lib.hid (And.intro (H20.out.1.below bY) (below_trans H20.out.2 bY))
          generalize (courseL sampB _ _).length = lz at *
          clear HC hmk bX bX2 rX2 bY hoZ hbZ H20
          have hz := H21.out.1
          have x0 := blk_cell hz.hd 0
          have x1 := blk_cell hz.hd 1
          simp at x0 x1
          have lx := blk_lt hz.hd
          have lo := blk_lt hz.tl.hd
          have k0 := blk_cell hz.tl.tl.hd 0
          have k1 := blk_cell hz.tl.tl.hd 1
          have k2 := blk_cell hz.tl.tl.hd 2
          have k3 := blk_cell hz.tl.tl.hd 3
          simp at k0 k1 k2 k3
          have lk := blk_lt hz.tl.tl.hd
          clear hz
          go_wp2_with fail
          go_roundw
          case rel => exact ⟨k + 1, _, by omega, by go_num, rfl, Lib.hid (And.intro (Has.cons H21.out.1.tl.hd (Has.cons H21.out.1.tl.tl.hd (Has.nil _))) H21.out.2)⟩
          case measure => simp [intOf]; omega
        · skip
          have H22 := Lib.hid (And.intro (show Has X17 [(W1.heap.size, .cells sampB.cells.toArray 23 (0, 0))] from (Has.cons H17.out.1.tl.hd (Has.nil _))) H17.out.2)
          have hz := H22.out.1
          have k0 := blk_cell hz.hd 0
          have k1 := blk_cell hz.hd 1
          have k2 := blk_cell hz.hd 2
          have k3 := blk_cell hz.hd 3
          simp at k0 k1 k2 k3
          have lk := blk_lt hz.hd
          clear hz H17
          have KA := Lib.hid kf1
          have KB := Lib.hid kf2
          have KC := Lib.hid kf3
          have KD := Lib.hid kf4
          go_wp2_with fail
          refine (next_ok sampB ⟨0, false⟩ (-1) _).mono ?_
          rintro e W23 ⟨rfl, hb⟩
          rw [KA.out.1]
          generalize nextS sampB _ _ = y1
          have hh := H22.out.1.below hb
          have H23 := Lib.hid (And.intro hh (below_trans H22.out.2 hb))
          clear k0 k1 k2 k3 lk
          have k0 := blk_cell hh.hd 0
          have k1 := blk_cell hh.hd 1
          have k2 := blk_cell hh.hd 2
          have k3 := blk_cell hh.hd 3
          simp at k0 k1 k2 k3
          have lk := blk_lt hh.hd
          clear hh hb H22
          go_wp2_with fail
          obtain ⟨A24, hA24⟩ : ∃ W' : World, (W23.alloc (.cells y1.cells.toArray 37)) = W' := ⟨_, rfl⟩
          have hn : Has A24 [(W23.heap.size, .cells y1.cells.toArray 37 (0, 0))] := by rw [← hA24]; simpa using ((Has.nil W23).new _)
          have sn : A24.heap.size = W23.heap.size + 1 := by rw [← hA24]; simp
          have bn : Below W23.heap.size W23 A24 := by rw [← hA24]; exact (below_alloc (below_self W23) _)
          rw [hA24]
          clear hA24
          have hh := H23.out.1.below bn
          have hw := below_trans H23.out.2 bn
          have H24 := Lib.hid (And.intro (show Has A24 [(W1.heap.size, .cells sampB.cells.toArray 23 (0, 0))] from hh) hw)
          have hz := H24.out.1
          clear k0 k1 k2 k3 lk
          have k0 := blk_cell hz.hd 0
          have k1 := blk_cell hz.hd 1
          have k2 := blk_cell hz.hd 2
          have k3 := blk_cell hz.hd 3
          simp at k0 k1 k2 k3
          have lk := blk_lt hz.hd
          clear hz hh hw hn sn bn H23
          refine (next_ok sampB ⟨0, false⟩ 100000001 _).mono ?_
          rintro e W25 ⟨rfl, hb⟩
          rw [KA.out.2.1]
          generalize nextS sampB _ _ = y2
          have hh := H24.out.1.below hb
          have H25 := Lib.hid (And.intro hh (below_trans H24.out.2 hb))
          clear k0 k1 k2 k3 lk
          have k0 := blk_cell hh.hd 0
          have k1 := blk_cell hh.hd 1
          have k2 := blk_cell hh.hd 2
          have k3 := blk_cell hh.hd 3
          simp at k0 k1 k2 k3
          have lk := blk_lt hh.hd
          clear hh hb H24
          go_wp2_with fail
          obtain ⟨A26, hA26⟩ : ∃ W' : World, (W25.alloc (.cells y2.cells.toArray 37)) = W' := ⟨_, rfl⟩
          have hn : Has A26 [(W25.heap.size, .cells y2.cells.toArray 37 (0, 0))] := by rw [← hA26]; simpa using ((Has.nil W25).new _)
          have sn : A26.heap.size = W25.heap.size + 1 := by rw [← hA26]; simp
          have bn : Below W25.heap.size W25 A26 := by rw [← hA26]; exact (below_alloc (below_self W25) _)
          rw [hA26]
          clear hA26
          have hh := H25.out.1.below bn
          have hw := below_trans H25.out.2 bn
          have H26 := Lib.hid (And.intro (show Has A26 [(W1.heap.size, .cells sampB.cells.toArray 23 (0, 0))] from hh) hw)
          have hz := H26.out.1
          clear k0 k1 k2 k3 lk
          have k0 := blk_cell hz.hd 0
          have k1 := blk_cell hz.hd 1
          have k2 := blk_cell hz.hd 2
          have k3 := blk_cell hz.hd 3
          simp at k0 k1 k2 k3
          have lk := blk_lt hz.hd
          clear hz hh hw hn sn bn H25
          have bX := (below_self A26).drew
          have HC := Lib.hid (fun W (hb : Below A26.heap.size A26 W) => (And.intro (cell_call hb lk k0) (And.intro (cell_call hb lk k1) (And.intro (cell_call hb lk k2) (cell_call hb lk k3)))))
          clear k0 k1 k2 k3 lk
          have hmk := mk1001
          have bX2 := (below_alloc (below_self A26) (.cells zs1001 3)).drew
          have rX2 : RowsAt (A26.alloc (.cells zs1001 3)).drew.heap.size (A26.alloc (.cells zs1001 3)).drew (some ⟨A26.heap.size, 0, none⟩) 1 (Ints zsI) := rows1001 A26
          go_region_held3 (fun w' => Below A26.heap.size A26 w' ∧ w'.cell? ⟨W1.heap.size, 0, none⟩ = some (.int .i64 sampB.feed) ∧ w'.cell? ⟨W1.heap.size, 1, none⟩ = some (.int .i64 sampB.limit) ∧ w'.cell? ⟨W1.heap.size, 2, none⟩ = some (.int .i64 sampB.slow) ∧ w'.cell? ⟨W1.heap.size, 3, none⟩ = some (.int .i64 sampB.fast)) ((first | exact ⟨bX, HC.out _ bX⟩ | exact ⟨bX2, HC.out _ bX2⟩ | exact ⟨bY, HC.out _ bY⟩))
            (first | (go_at_call 20; refine (course_ok sampB ⟨0, false⟩ _ 1001 1001 zsI _ zsI_len (by omega) rX2).mono ?_; rintro e WZ ⟨vZ, rfl, hoZ, hbZ⟩; rw [KB.out]; (obtain ⟨aZ, cZ, rfl, _⟩ := hoZ.rows); have bY := below_trans bX2 hbZ))
          have H27 := Lib.hid (And.intro (H26.out.1.below bY) (below_trans H26.out.2 bY))
          generalize (courseL sampB _ _).length = lz at *
          clear HC hmk bX bX2 rX2 bY hoZ hbZ H26
          have hz := H27.out.1
          have k0 := blk_cell hz.hd 0
          have k1 := blk_cell hz.hd 1
          have k2 := blk_cell hz.hd 2
          have k3 := blk_cell hz.hd 3
          simp at k0 k1 k2 k3
          have lk := blk_lt hz.hd
          clear hz
          go_wp2_with fail
          obtain ⟨A28, hA28⟩ : ∃ W' : World, (WZ.alloc (.cells #[.int .i64 0, .int .i64 (-1)] 3)) = W' := ⟨_, rfl⟩
          have hn : Has A28 [(WZ.heap.size, .cells #[.int .i64 0, .int .i64 (-1)] 3 (0, 0))] := by rw [← hA28]; simpa using ((Has.nil WZ).new _)
          have sn : A28.heap.size = WZ.heap.size + 1 := by rw [← hA28]; simp
          have bn : Below WZ.heap.size WZ A28 := by rw [← hA28]; exact (below_alloc (below_self WZ) _)
          rw [hA28]
          clear hA28
          have hh := H27.out.1.below bn
          have hw := below_trans H27.out.2 bn
          have hr := ints_blk (xs := [0, -1]) hn.hd
          have H28 := Lib.hid (And.intro (show Has A28 [(W1.heap.size, .cells sampB.cells.toArray 23 (0, 0))] from hh) hw)
          have hz := H28.out.1
          clear k0 k1 k2 k3 lk
          have k0 := blk_cell hz.hd 0
          have k1 := blk_cell hz.hd 1
          have k2 := blk_cell hz.hd 2
          have k3 := blk_cell hz.hd 3
          simp at k0 k1 k2 k3
          have lk := blk_lt hz.hd
          clear hz hh hw hn sn bn H27
          refine (course_ok sampB ⟨0, true⟩ _ 2 2 [0, -1] _ rfl (by omega) hr).mono ?_
          rintro e W29 ⟨v, rfl, ho, hb⟩
          rw [KA.out.2.2.1]
          obtain ⟨av, cv, rfl, _⟩ := ho.rows; clear ho hr; generalize (courseL sampB _ _).length = lq
          have hh := H28.out.1.below hb
          have H29 := Lib.hid (And.intro hh (below_trans H28.out.2 hb))
          clear k0 k1 k2 k3 lk
          have k0 := blk_cell hh.hd 0
          have k1 := blk_cell hh.hd 1
          have k2 := blk_cell hh.hd 2
          have k3 := blk_cell hh.hd 3
          simp at k0 k1 k2 k3
          have lk := blk_lt hh.hd
          clear hh hb H28
          go_wp2_with fail
          refine (trips_ok sampB 41 none 0 0 [] _ rfl (by omega) (ints_nil _ _)).mono ?_
          rintro e W30 ⟨rfl, hb⟩
          rw [KA.out.2.2.2.1]
          generalize tripsN sampB _ _ = n1
          have hh := H29.out.1.below hb
          have H30 := Lib.hid (And.intro hh (below_trans H29.out.2 hb))
          clear k0 k1 k2 k3 lk
          have k0 := blk_cell hh.hd 0
          have k1 := blk_cell hh.hd 1
          have k2 := blk_cell hh.hd 2
          have k3 := blk_cell hh.hd 3
          simp at k0 k1 k2 k3
          have lk := blk_lt hh.hd
          clear hh hb H29
          go_wp2_with fail
          obtain ⟨A31, hA31⟩ : ∃ W' : World, (W30.alloc (.cells #[.int .i64 (-1)] 3)) = W' := ⟨_, rfl⟩
          have hn : Has A31 [(W30.heap.size, .cells #[.int .i64 (-1)] 3 (0, 0))] := by rw [← hA31]; simpa using ((Has.nil W30).new _)
          have sn : A31.heap.size = W30.heap.size + 1 := by rw [← hA31]; simp
          have bn : Below W30.heap.size W30 A31 := by rw [← hA31]; exact (below_alloc (below_self W30) _)
          rw [hA31]
          clear hA31
          have hh := H30.out.1.below bn
          have hw := below_trans H30.out.2 bn
          have hr := ints_blk (xs := [-1]) hn.hd
          have H31 := Lib.hid (And.intro (show Has A31 [(W1.heap.size, .cells sampB.cells.toArray 23 (0, 0))] from hh) hw)
          have hz := H31.out.1
          clear k0 k1 k2 k3 lk
          have k0 := blk_cell hz.hd 0
          have k1 := blk_cell hz.hd 1
          have k2 := blk_cell hz.hd 2
          have k3 := blk_cell hz.hd 3
          simp at k0 k1 k2 k3
          have lk := blk_lt hz.hd
          clear hz hh hw hn sn bn H30
          refine (trips_ok sampB 0 _ 1 1 [-1] _ rfl (by omega) hr).mono ?_
          rintro e W32 ⟨rfl, hb⟩
          rw [KA.out.2.2.2.2]
          clear hr; generalize tripsN sampB _ _ = n2
          have hh := H31.out.1.below hb
          have H32 := Lib.hid (And.intro hh (below_trans H31.out.2 hb))
          clear k0 k1 k2 k3 lk
          have k0 := blk_cell hh.hd 0
          have k1 := blk_cell hh.hd 1
          have k2 := blk_cell hh.hd 2
          have k3 := blk_cell hh.hd 3
          simp at k0 k1 k2 k3
          have lk := blk_lt hh.hd
          clear hh hb H31
          go_wp2_with fail
          obtain ⟨A33, hA33⟩ : ∃ W' : World, (W32.alloc (.cells #[.int .i64 (-1), .int .i64 0, .int .i64 41, .int .i64 0, .int .i64 0, .int .i64 (-1), .int .i64 0, .int .i64 100000001] 46)) = W' := ⟨_, rfl⟩
          have hn : Has A33 [(W32.heap.size, .cells #[.int .i64 (-1), .int .i64 0, .int .i64 41, .int .i64 0, .int .i64 0, .int .i64 (-1), .int .i64 0, .int .i64 100000001] 46 (0, 0))] := by rw [← hA33]; simpa using ((Has.nil W32).new _)
          have sn : A33.heap.size = W32.heap.size + 1 := by rw [← hA33]; simp
          have bn : Below W32.heap.size W32 A33 := by rw [← hA33]; exact (below_alloc (below_self W32) _)
          rw [hA33]
          clear hA33
          have hh := H32.out.1.below bn
          have hw := below_trans H32.out.2 bn
          have H33 := Lib.hid (And.intro (show Has A33 [(W32.heap.size, .cells #[.int .i64 (-1), .int .i64 0, .int .i64 41, .int .i64 0, .int .i64 0, .int .i64 (-1), .int .i64 0, .int .i64 100000001] 46 (0, 0)), (W1.heap.size, .cells sampB.cells.toArray 23 (0, 0))] from (Has.cons hn.hd hh)) hw)
          have hz := H33.out.1
          clear k0 k1 k2 k3 lk
          have lo := blk_lt hz.hd
          have k0 := blk_cell hz.tl.hd 0
          have k1 := blk_cell hz.tl.hd 1
          have k2 := blk_cell hz.tl.hd 2
          have k3 := blk_cell hz.tl.hd 3
          simp at k0 k1 k2 k3
          have lk := blk_lt hz.tl.hd
          clear hz hh hw hn sn bn H32
          have H34 := Lib.hid (And.intro (show Has A33 [(W32.heap.size, .cells ((pairs1.map pcells).flatten).toArray 46 (0, 0)), (W1.heap.size, .cells sampB.cells.toArray 23 (0, 0))] from H33.out.1) H33.out.2)
          clear H33
          clear lo k0 k1 k2 k3 lk
          go_loopw [221] (fun i wr => ∃ (k : Nat) (X : World), k ≤ 4 ∧ i = .int .i64 k ∧ X = wr ∧ Hid (Has X [(W32.heap.size, .cells ((pairs1.map pcells).flatten).toArray 46 (0, 0)), (W1.heap.size, .cells sampB.cells.toArray 23 (0, 0))] ∧ Below w.heap.size w X)) (fun i _ => 4 - (intOf i).toNat)
          case atStart => exact ⟨0, _, Nat.zero_le _, rfl, rfl, H34⟩
          case round =>
            clear H34
            obtain ⟨k, X35, hk, rfl, rfl, H35⟩ := hrel
            by_cases hlt : k < 4
            · skip
              have hx := (List.getElem?_eq_getElem (l := pairs1) (i := k) (by simpa [pairs1] using hlt))
              have hxm : (pairs1[k]'(by simpa [pairs1] using hlt)) ∈ pairs1 := List.getElem_mem _
              generalize (pairs1[k]'(by simpa [pairs1] using hlt)) = x at hx hxm
              have hrow : (pairs1.map pcells)[k]? = some (pcells x) := by rw [List.getElem?_map, hx]; rfl
              have e0 := flat_at H35.out.1.hd (k := 2) (by intro r hr; obtain ⟨y, _, rfl⟩ := List.mem_map.1 hr; rfl) hrow 0 _ rfl
              have e1 := flat_at H35.out.1.hd (k := 2) (by intro r hr; obtain ⟨y, _, rfl⟩ := List.mem_map.1 hr; rfl) hrow 1 _ rfl
              simp only [Nat.add_zero] at e0
              clear hx hrow
              have HXM := Lib.hid hxm
              clear hxm
              have hz := H35.out.1
              have lo := blk_lt hz.hd
              have k0 := blk_cell hz.tl.hd 0
              have k1 := blk_cell hz.tl.hd 1
              have k2 := blk_cell hz.tl.hd 2
              have k3 := blk_cell hz.tl.hd 3
              simp at k0 k1 k2 k3
              have lk := blk_lt hz.tl.hd
              clear hz
              go_wp2_with fail
              obtain ⟨A36, hA36⟩ : ∃ W' : World, (X35.alloc (.cells #[.int .i64 x.1, .int .i64 x.2] 46)) = W' := ⟨_, rfl⟩
              have hn : Has A36 [(X35.heap.size, .cells #[.int .i64 x.1, .int .i64 x.2] 46 (0, 0))] := by rw [← hA36]; simpa using ((Has.nil X35).new _)
              have sn : A36.heap.size = X35.heap.size + 1 := by rw [← hA36]; simp
              have bn : Below X35.heap.size X35 A36 := by rw [← hA36]; exact (below_alloc (below_self X35) _)
              rw [hA36]
              clear hA36
              have hh := H35.out.1.below bn
              have hw := below_trans H35.out.2 bn
              have H36 := Lib.hid (And.intro (show Has A36 [(X35.heap.size, .cells #[.int .i64 x.1, .int .i64 x.2] 46 (0, 0)), (W32.heap.size, .cells ((pairs1.map pcells).flatten).toArray 46 (0, 0)), (W1.heap.size, .cells sampB.cells.toArray 23 (0, 0))] from (Has.cons hn.hd hh)) hw)
              have hz := H36.out.1
              clear lo k0 k1 k2 k3 lk e0 e1
              have x0 := blk_cell hz.hd 0
              have x1 := blk_cell hz.hd 1
              simp at x0 x1
              have lx := blk_lt hz.hd
              have lo := blk_lt hz.tl.hd
              have k0 := blk_cell hz.tl.tl.hd 0
              have k1 := blk_cell hz.tl.tl.hd 1
              have k2 := blk_cell hz.tl.tl.hd 2
              have k3 := blk_cell hz.tl.tl.hd 3
              simp at k0 k1 k2 k3
              have lk := blk_lt hz.tl.tl.hd
              clear hz hh hw hn sn bn H35
              have HB := Lib.hid (pairs1_no x HXM.out)
              refine (lasts_ok sampB x.1 x.2 _).mono ?_
              rintro e W37 ⟨rfl, hb⟩
              rw [HB.out]
              generalize lastsN sampB _ _ = n1
              have hh := H36.out.1.below hb
              have H37 := Lib.hid (And.intro hh (below_trans H36.out.2 hb))
              clear x0 x1 lx lo k0 k1 k2 k3 lk
              have x0 := blk_cell hh.hd 0
              have x1 := blk_cell hh.hd 1
              simp at x0 x1
              have lx := blk_lt hh.hd
              have lo := blk_lt hh.tl.hd
              have k0 := blk_cell hh.tl.tl.hd 0
              have k1 := blk_cell hh.tl.tl.hd 1
              have k2 := blk_cell hh.tl.tl.hd 2
              have k3 := blk_cell hh.tl.tl.hd 3
              simp at k0 k1 k2 k3
              have lk := blk_lt hh.tl.tl.hd
              clear hh hb H36
              go_wp2_with fail
              refine (cools_ok sampB x.1 x.2 _).mono ?_
              rintro e W38 ⟨rfl, hb⟩
              rw [HB.out]
              generalize coolsN sampB _ _ = n2
              have hh := H37.out.1.below hb
              have H38 := Lib.hid (And.intro hh (below_trans H37.out.2 hb))
              clear x0 x1 lx lo k0 k1 k2 k3 lk
              have x0 := blk_cell hh.hd 0
              have x1 := blk_cell hh.hd 1
              simp at x0 x1
              have lx := blk_lt hh.hd
              have lo := blk_lt hh.tl.hd
              have k0 := blk_cell hh.tl.tl.hd 0
              have k1 := blk_cell hh.tl.tl.hd 1
              have k2 := blk_cell hh.tl.tl.hd 2
              have k3 := blk_cell hh.tl.tl.hd 3
              simp at k0 k1 k2 k3
              have lk := blk_lt hh.tl.tl.hd
              clear hh hb H37
              go_wp2_with fail
              go_roundw
              case rel => exact ⟨k + 1, _, by omega, by go_num, rfl, Lib.hid (And.intro (Has.cons H38.out.1.tl.hd (Has.cons H38.out.1.tl.tl.hd (Has.nil _))) H38.out.2)⟩
              case measure => simp [intOf]; omega
            · skip
              have H39 := Lib.hid (And.intro (show Has X35 [(W1.heap.size, .cells sampB.cells.toArray 23 (0, 0))] from (Has.cons H35.out.1.tl.hd (Has.nil _))) H35.out.2)
              have hz := H39.out.1
              have k0 := blk_cell hz.hd 0
              have k1 := blk_cell hz.hd 1
              have k2 := blk_cell hz.hd 2
              have k3 := blk_cell hz.hd 3
              simp at k0 k1 k2 k3
              have lk := blk_lt hz.hd
              clear hz H35
              go_wp2_with fail
              obtain ⟨A40, hA40⟩ : ∃ W' : World, (X35.alloc (.cells #[.int .i64 (-1), .int .i64 1, .int .i64 41, .int .i64 1, .int .i64 0, .int .i64 0, .int .i64 0, .int .i64 1001] 46)) = W' := ⟨_, rfl⟩
              have hn : Has A40 [(X35.heap.size, .cells #[.int .i64 (-1), .int .i64 1, .int .i64 41, .int .i64 1, .int .i64 0, .int .i64 0, .int .i64 0, .int .i64 1001] 46 (0, 0))] := by rw [← hA40]; simpa using ((Has.nil X35).new _)
              have sn : A40.heap.size = X35.heap.size + 1 := by rw [← hA40]; simp
              have bn : Below X35.heap.size X35 A40 := by rw [← hA40]; exact (below_alloc (below_self X35) _)
              rw [hA40]
              clear hA40
              have hh := H39.out.1.below bn
              have hw := below_trans H39.out.2 bn
              have H40 := Lib.hid (And.intro (show Has A40 [(X35.heap.size, .cells #[.int .i64 (-1), .int .i64 1, .int .i64 41, .int .i64 1, .int .i64 0, .int .i64 0, .int .i64 0, .int .i64 1001] 46 (0, 0)), (W1.heap.size, .cells sampB.cells.toArray 23 (0, 0))] from (Has.cons hn.hd hh)) hw)
              have hz := H40.out.1
              clear k0 k1 k2 k3 lk
              have lo := blk_lt hz.hd
              have k0 := blk_cell hz.tl.hd 0
              have k1 := blk_cell hz.tl.hd 1
              have k2 := blk_cell hz.tl.hd 2
              have k3 := blk_cell hz.tl.hd 3
              simp at k0 k1 k2 k3
              have lk := blk_lt hz.tl.hd
              clear hz hh hw hn sn bn H39
              have H41 := Lib.hid (And.intro (show Has A40 [(X35.heap.size, .cells ((pairs2.map pcells).flatten).toArray 46 (0, 0)), (W1.heap.size, .cells sampB.cells.toArray 23 (0, 0))] from H40.out.1) H40.out.2)
              clear H40
              clear lo k0 k1 k2 k3 lk
              go_loopw [256] (fun i wr => ∃ (k : Nat) (X : World), k ≤ 4 ∧ i = .int .i64 k ∧ X = wr ∧ Hid (Has X [(X35.heap.size, .cells ((pairs2.map pcells).flatten).toArray 46 (0, 0)), (W1.heap.size, .cells sampB.cells.toArray 23 (0, 0))] ∧ Below w.heap.size w X)) (fun i _ => 4 - (intOf i).toNat)
              case atStart => exact ⟨0, _, Nat.zero_le _, rfl, rfl, H41⟩
              case round =>
                clear H41
                obtain ⟨k, X42, hk, rfl, rfl, H42⟩ := hrel
                by_cases hlt : k < 4
                · skip
                  have hx := (List.getElem?_eq_getElem (l := pairs2) (i := k) (by simpa [pairs2] using hlt))
                  have hxm : (pairs2[k]'(by simpa [pairs2] using hlt)) ∈ pairs2 := List.getElem_mem _
                  generalize (pairs2[k]'(by simpa [pairs2] using hlt)) = x at hx hxm
                  have hrow : (pairs2.map pcells)[k]? = some (pcells x) := by rw [List.getElem?_map, hx]; rfl
                  have e0 := flat_at H42.out.1.hd (k := 2) (by intro r hr; obtain ⟨y, _, rfl⟩ := List.mem_map.1 hr; rfl) hrow 0 _ rfl
                  have e1 := flat_at H42.out.1.hd (k := 2) (by intro r hr; obtain ⟨y, _, rfl⟩ := List.mem_map.1 hr; rfl) hrow 1 _ rfl
                  simp only [Nat.add_zero] at e0
                  clear hx hrow
                  have HXM := Lib.hid hxm
                  clear hxm
                  have hz := H42.out.1
                  have lo := blk_lt hz.hd
                  have k0 := blk_cell hz.tl.hd 0
                  have k1 := blk_cell hz.tl.hd 1
                  have k2 := blk_cell hz.tl.hd 2
                  have k3 := blk_cell hz.tl.hd 3
                  simp at k0 k1 k2 k3
                  have lk := blk_lt hz.tl.hd
                  clear hz
                  go_wp2_with fail
                  obtain ⟨A43, hA43⟩ : ∃ W' : World, (X42.alloc (.cells #[.int .i64 x.1, .int .i64 x.2] 46)) = W' := ⟨_, rfl⟩
                  have hn : Has A43 [(X42.heap.size, .cells #[.int .i64 x.1, .int .i64 x.2] 46 (0, 0))] := by rw [← hA43]; simpa using ((Has.nil X42).new _)
                  have sn : A43.heap.size = X42.heap.size + 1 := by rw [← hA43]; simp
                  have bn : Below X42.heap.size X42 A43 := by rw [← hA43]; exact (below_alloc (below_self X42) _)
                  rw [hA43]
                  clear hA43
                  have hh := H42.out.1.below bn
                  have hw := below_trans H42.out.2 bn
                  have H43 := Lib.hid (And.intro (show Has A43 [(X42.heap.size, .cells #[.int .i64 x.1, .int .i64 x.2] 46 (0, 0)), (X35.heap.size, .cells ((pairs2.map pcells).flatten).toArray 46 (0, 0)), (W1.heap.size, .cells sampB.cells.toArray 23 (0, 0))] from (Has.cons hn.hd hh)) hw)
                  have hz := H43.out.1
                  clear lo k0 k1 k2 k3 lk e0 e1
                  have x0 := blk_cell hz.hd 0
                  have x1 := blk_cell hz.hd 1
                  simp at x0 x1
                  have lx := blk_lt hz.hd
                  have lo := blk_lt hz.tl.hd
                  have k0 := blk_cell hz.tl.tl.hd 0
                  have k1 := blk_cell hz.tl.tl.hd 1
                  have k2 := blk_cell hz.tl.tl.hd 2
                  have k3 := blk_cell hz.tl.tl.hd 3
                  simp at k0 k1 k2 k3
                  have lk := blk_lt hz.tl.tl.hd
                  clear hz hh hw hn sn bn H42
                  have HB := Lib.hid (pairs2_no x HXM.out)
                  refine (bears_ok sampB x.1 x.2 _).mono ?_
                  rintro e W44 ⟨rfl, hb⟩
                  rw [HB.out]
                  generalize bearsN sampB _ _ = n1
                  have hh := H43.out.1.below hb
                  have H44 := Lib.hid (And.intro hh (below_trans H43.out.2 hb))
                  clear x0 x1 lx lo k0 k1 k2 k3 lk
                  have x0 := blk_cell hh.hd 0
                  have x1 := blk_cell hh.hd 1
                  simp at x0 x1
                  have lx := blk_lt hh.hd
                  have lo := blk_lt hh.tl.hd
                  have k0 := blk_cell hh.tl.tl.hd 0
                  have k1 := blk_cell hh.tl.tl.hd 1
                  have k2 := blk_cell hh.tl.tl.hd 2
                  have k3 := blk_cell hh.tl.tl.hd 3
                  simp at k0 k1 k2 k3
                  have lk := blk_lt hh.tl.tl.hd
                  clear hh hb H43
                  go_wp2_with fail
                  go_roundw
                  case rel => exact ⟨k + 1, _, by omega, by go_num, rfl, Lib.hid (And.intro (Has.cons H44.out.1.tl.hd (Has.cons H44.out.1.tl.tl.hd (Has.nil _))) H44.out.2)⟩
                  case measure => simp [intOf]; omega
                · skip
                  have H45 := Lib.hid (And.intro (show Has X42 [(W1.heap.size, .cells sampB.cells.toArray 23 (0, 0))] from (Has.cons H42.out.1.tl.hd (Has.nil _))) H42.out.2)
                  have hz := H45.out.1
                  have k0 := blk_cell hz.hd 0
                  have k1 := blk_cell hz.hd 1
                  have k2 := blk_cell hz.hd 2
                  have k3 := blk_cell hz.hd 3
                  simp at k0 k1 k2 k3
                  have lk := blk_lt hz.hd
                  clear hz H42
                  go_wp2_with fail
                  refine (next_ok sampB ⟨30, false⟩ 100000000 _).mono ?_
                  rintro e W46 ⟨rfl, hb⟩
                  rw [KC.out.1.1, KC.out.1.2]
                  have hh := H45.out.1.below hb
                  have H46 := Lib.hid (And.intro hh (below_trans H45.out.2 hb))
                  clear k0 k1 k2 k3 lk
                  have k0 := blk_cell hh.hd 0
                  have k1 := blk_cell hh.hd 1
                  have k2 := blk_cell hh.hd 2
                  have k3 := blk_cell hh.hd 3
                  simp at k0 k1 k2 k3
                  have lk := blk_lt hh.hd
                  clear hh hb H45
                  go_wp2_with fail
                  obtain ⟨A47, hA47⟩ : ∃ W' : World, (W46.alloc (.cells #[.int .i64 99999980, .bool true] 37)) = W' := ⟨_, rfl⟩
                  have hn : Has A47 [(W46.heap.size, .cells #[.int .i64 99999980, .bool true] 37 (0, 0))] := by rw [← hA47]; simpa using ((Has.nil W46).new _)
                  have sn : A47.heap.size = W46.heap.size + 1 := by rw [← hA47]; simp
                  have bn : Below W46.heap.size W46 A47 := by rw [← hA47]; exact (below_alloc (below_self W46) _)
                  rw [hA47]
                  clear hA47
                  have hh := H46.out.1.below bn
                  have hw := below_trans H46.out.2 bn
                  have H47 := Lib.hid (And.intro (show Has A47 [(W46.heap.size, .cells #[.int .i64 99999980, .bool true] 37 (0, 0)), (W1.heap.size, .cells sampB.cells.toArray 23 (0, 0))] from (Has.cons hn.hd hh)) hw)
                  have hz := H47.out.1
                  clear k0 k1 k2 k3 lk
                  have y0 := blk_cell hz.hd 0
                  have y1 := blk_cell hz.hd 1
                  simp at y0 y1
                  have ly := blk_lt hz.hd
                  have k0 := blk_cell hz.tl.hd 0
                  have k1 := blk_cell hz.tl.hd 1
                  have k2 := blk_cell hz.tl.hd 2
                  have k3 := blk_cell hz.tl.hd 3
                  simp at k0 k1 k2 k3
                  have lk := blk_lt hz.tl.hd
                  clear hz hh hw hn sn bn H46
                  have heq : ∀ w, (Op.equalIn 10000 37 (.agg #[.int .i64 99999980, .bool true]) (.agg #[.int .i64 99999980, .bool true])).run Try.prog w = .ok true w := fun w => by
                    have := eq37 ⟨99999980, true⟩ ⟨99999980, true⟩ w
                    simpa using this
                  have hg := guard37
                  refine (next_ok sampB ⟨99999980, true⟩ 0 _).mono ?_
                  rintro e W48 ⟨rfl, hb⟩
                  rw [KC.out.2.1.1, KC.out.2.1.2]
                  have hh := H47.out.1.below hb
                  have H48 := Lib.hid (And.intro hh (below_trans H47.out.2 hb))
                  clear y0 y1 ly k0 k1 k2 k3 lk
                  have y0 := blk_cell hh.hd 0
                  have y1 := blk_cell hh.hd 1
                  simp at y0 y1
                  have ly := blk_lt hh.hd
                  have k0 := blk_cell hh.tl.hd 0
                  have k1 := blk_cell hh.tl.hd 1
                  have k2 := blk_cell hh.tl.hd 2
                  have k3 := blk_cell hh.tl.hd 3
                  simp at k0 k1 k2 k3
                  have lk := blk_lt hh.tl.hd
                  clear hh hb H47
                  go_wp2_with fail
                  clear heq
                  obtain ⟨A49, hA49⟩ : ∃ W' : World, (W48.alloc (.cells #[.int .i64 99999980, .bool true] 37)) = W' := ⟨_, rfl⟩
                  have hn : Has A49 [(W48.heap.size, .cells #[.int .i64 99999980, .bool true] 37 (0, 0))] := by rw [← hA49]; simpa using ((Has.nil W48).new _)
                  have sn : A49.heap.size = W48.heap.size + 1 := by rw [← hA49]; simp
                  have bn : Below W48.heap.size W48 A49 := by rw [← hA49]; exact (below_alloc (below_self W48) _)
                  rw [hA49]
                  clear hA49
                  have hh := H48.out.1.below bn
                  have hw := below_trans H48.out.2 bn
                  have H49 := Lib.hid (And.intro (show Has A49 [(W46.heap.size, .cells #[.int .i64 99999980, .bool true] 37 (0, 0)), (W1.heap.size, .cells sampB.cells.toArray 23 (0, 0))] from hh) hw)
                  have hz := H49.out.1
                  clear y0 y1 ly k0 k1 k2 k3 lk
                  have y0 := blk_cell hz.hd 0
                  have y1 := blk_cell hz.hd 1
                  simp at y0 y1
                  have ly := blk_lt hz.hd
                  have k0 := blk_cell hz.tl.hd 0
                  have k1 := blk_cell hz.tl.hd 1
                  have k2 := blk_cell hz.tl.hd 2
                  have k3 := blk_cell hz.tl.hd 3
                  simp at k0 k1 k2 k3
                  have lk := blk_lt hz.tl.hd
                  clear hz hh hw hn sn bn H48
                  refine (next_ok ⟨0, 0, 9, 0⟩ ⟨9, false⟩ 100000000 _).mono ?_
                  rintro e W50 ⟨rfl, hb⟩
                  rw [KC.out.2.2.1, KC.out.2.2.2]
                  have hh := H49.out.1.below hb
                  have H50 := Lib.hid (And.intro hh (below_trans H49.out.2 hb))
                  clear y0 y1 ly k0 k1 k2 k3 lk
                  have y0 := blk_cell hh.hd 0
                  have y1 := blk_cell hh.hd 1
                  simp at y0 y1
                  have ly := blk_lt hh.hd
                  have k0 := blk_cell hh.tl.hd 0
                  have k1 := blk_cell hh.tl.hd 1
                  have k2 := blk_cell hh.tl.hd 2
                  have k3 := blk_cell hh.tl.hd 3
                  simp at k0 k1 k2 k3
                  have lk := blk_lt hh.tl.hd
                  clear hh hb H49
                  go_wp2_with fail
                  obtain ⟨A51, hA51⟩ : ∃ W' : World, (W50.alloc (.cells #[.int .i64 100000000, .bool true] 37)) = W' := ⟨_, rfl⟩
                  have hn : Has A51 [(W50.heap.size, .cells #[.int .i64 100000000, .bool true] 37 (0, 0))] := by rw [← hA51]; simpa using ((Has.nil W50).new _)
                  have sn : A51.heap.size = W50.heap.size + 1 := by rw [← hA51]; simp
                  have bn : Below W50.heap.size W50 A51 := by rw [← hA51]; exact (below_alloc (below_self W50) _)
                  rw [hA51]
                  clear hA51
                  have hh := H50.out.1.below bn
                  have hw := below_trans H50.out.2 bn
                  have H51 := Lib.hid (And.intro (show Has A51 [(W50.heap.size, .cells #[.int .i64 100000000, .bool true] 37 (0, 0)), (W46.heap.size, .cells #[.int .i64 99999980, .bool true] 37 (0, 0)), (W1.heap.size, .cells sampB.cells.toArray 23 (0, 0))] from (Has.cons hn.hd hh)) hw)
                  have hz := H51.out.1
                  clear y0 y1 ly k0 k1 k2 k3 lk
                  have t0 := blk_cell hz.hd 0
                  have t1 := blk_cell hz.hd 1
                  simp at t0 t1
                  have lt := blk_lt hz.hd
                  have y0 := blk_cell hz.tl.hd 0
                  have y1 := blk_cell hz.tl.hd 1
                  simp at y0 y1
                  have ly := blk_lt hz.tl.hd
                  have k0 := blk_cell hz.tl.tl.hd 0
                  have k1 := blk_cell hz.tl.tl.hd 1
                  have k2 := blk_cell hz.tl.tl.hd 2
                  have k3 := blk_cell hz.tl.tl.hd 3
                  simp at k0 k1 k2 k3
                  have lk := blk_lt hz.tl.tl.hd
                  clear hz hh hw hn sn bn H50
                  refine (lasts_ok ⟨0, 1, 1000000, 5⟩ 0 2 _).mono ?_
                  rintro e W52 ⟨rfl, hb⟩
                  rw [KD.out.1.1, KD.out.1.2]
                  have hh := H51.out.1.below hb
                  have H52 := Lib.hid (And.intro hh (below_trans H51.out.2 hb))
                  clear t0 t1 lt y0 y1 ly k0 k1 k2 k3 lk
                  have t0 := blk_cell hh.hd 0
                  have t1 := blk_cell hh.hd 1
                  simp at t0 t1
                  have lt := blk_lt hh.hd
                  have y0 := blk_cell hh.tl.hd 0
                  have y1 := blk_cell hh.tl.hd 1
                  simp at y0 y1
                  have ly := blk_lt hh.tl.hd
                  have k0 := blk_cell hh.tl.tl.hd 0
                  have k1 := blk_cell hh.tl.tl.hd 1
                  have k2 := blk_cell hh.tl.tl.hd 2
                  have k3 := blk_cell hh.tl.tl.hd 3
                  simp at k0 k1 k2 k3
                  have lk := blk_lt hh.tl.tl.hd
                  clear hh hb H51
                  go_wp2_with fail
                  refine (cools_ok ⟨0, 1, 1000000, 5⟩ 1000000 0 _).mono ?_
                  rintro e W53 ⟨rfl, hb⟩
                  rw [KD.out.2.1.1, KD.out.2.1.2]
                  have hh := H52.out.1.below hb
                  have H53 := Lib.hid (And.intro hh (below_trans H52.out.2 hb))
                  clear t0 t1 lt y0 y1 ly k0 k1 k2 k3 lk
                  have t0 := blk_cell hh.hd 0
                  have t1 := blk_cell hh.hd 1
                  simp at t0 t1
                  have lt := blk_lt hh.hd
                  have y0 := blk_cell hh.tl.hd 0
                  have y1 := blk_cell hh.tl.hd 1
                  simp at y0 y1
                  have ly := blk_lt hh.tl.hd
                  have k0 := blk_cell hh.tl.tl.hd 0
                  have k1 := blk_cell hh.tl.tl.hd 1
                  have k2 := blk_cell hh.tl.tl.hd 2
                  have k3 := blk_cell hh.tl.tl.hd 3
                  simp at k0 k1 k2 k3
                  have lk := blk_lt hh.tl.tl.hd
                  clear hh hb H52
                  go_wp2_with fail
                  refine (bears_ok ⟨0, 0, 1000000, 1000000⟩ 0 1 _).mono ?_
                  rintro e W54 ⟨rfl, hb⟩
                  rw [KD.out.2.2.1.1, KD.out.2.2.1.2]
                  have hh := H53.out.1.below hb
                  have H54 := Lib.hid (And.intro hh (below_trans H53.out.2 hb))
                  clear t0 t1 lt y0 y1 ly k0 k1 k2 k3 lk
                  have t0 := blk_cell hh.hd 0
                  have t1 := blk_cell hh.hd 1
                  simp at t0 t1
                  have lt := blk_lt hh.hd
                  have y0 := blk_cell hh.tl.hd 0
                  have y1 := blk_cell hh.tl.hd 1
                  simp at y0 y1
                  have ly := blk_lt hh.tl.hd
                  have k0 := blk_cell hh.tl.tl.hd 0
                  have k1 := blk_cell hh.tl.tl.hd 1
                  have k2 := blk_cell hh.tl.tl.hd 2
                  have k3 := blk_cell hh.tl.tl.hd 3
                  simp at k0 k1 k2 k3
                  have lk := blk_lt hh.tl.tl.hd
                  clear hh hb H53
                  go_wp2_with fail
                  refine (bears_ok ⟨0, 50, 40, 70⟩ 0 1 _).mono ?_
                  rintro e W55 ⟨rfl, hb⟩
                  rw [KD.out.2.2.2.1.1, KD.out.2.2.2.1.2]
                  have hh := H54.out.1.below hb
                  have H55 := Lib.hid (And.intro hh (below_trans H54.out.2 hb))
                  clear t0 t1 lt y0 y1 ly k0 k1 k2 k3 lk
                  have t0 := blk_cell hh.hd 0
                  have t1 := blk_cell hh.hd 1
                  simp at t0 t1
                  have lt := blk_lt hh.hd
                  have y0 := blk_cell hh.tl.hd 0
                  have y1 := blk_cell hh.tl.hd 1
                  simp at y0 y1
                  have ly := blk_lt hh.tl.hd
                  have k0 := blk_cell hh.tl.tl.hd 0
                  have k1 := blk_cell hh.tl.tl.hd 1
                  have k2 := blk_cell hh.tl.tl.hd 2
                  have k3 := blk_cell hh.tl.tl.hd 3
                  simp at k0 k1 k2 k3
                  have lk := blk_lt hh.tl.tl.hd
                  clear hh hb H54
                  go_wp2_with fail
                  have heq : ∀ w, (Op.equalIn 10000 37 (.agg #[.int .i64 100000000, .bool true]) (.agg #[.int .i64 100000000, .bool true])).run Try.prog w = .ok true w := fun w => by
                    have := eq37 ⟨100000000, true⟩ ⟨100000000, true⟩ w
                    simpa using this
                  refine (bears_ok sampB 39 2 _).mono ?_
                  rintro e W56 ⟨rfl, hb⟩
                  rw [KD.out.2.2.2.2.1, KD.out.2.2.2.2.2]
                  have hh := H55.out.1.below hb
                  have H56 := Lib.hid (And.intro hh (below_trans H55.out.2 hb))
                  clear t0 t1 lt y0 y1 ly k0 k1 k2 k3 lk
                  have t0 := blk_cell hh.hd 0
                  have t1 := blk_cell hh.hd 1
                  simp at t0 t1
                  have lt := blk_lt hh.hd
                  have y0 := blk_cell hh.tl.hd 0
                  have y1 := blk_cell hh.tl.hd 1
                  simp at y0 y1
                  have ly := blk_lt hh.tl.hd
                  have k0 := blk_cell hh.tl.tl.hd 0
                  have k1 := blk_cell hh.tl.tl.hd 1
                  have k2 := blk_cell hh.tl.tl.hd 2
                  have k3 := blk_cell hh.tl.tl.hd 3
                  simp at k0 k1 k2 k3
                  have lk := blk_lt hh.tl.tl.hd
                  clear hh hb H55
                  go_wp2_with fail
                  refine (works_ok _).mono ?_
                  rintro e WW ⟨rfl, hb⟩
                  have HF := Lib.hid (below_trans H56.out.2 hb)
                  clear hb heq hg t0 t1 lt y0 y1 ly k0 k1 k2 k3 lk
                  go_wp2_with fail
                  go_ret
                  exact ⟨rfl, HF.out⟩
end Go.Proofs.Ytojpbmaojbejjaa
