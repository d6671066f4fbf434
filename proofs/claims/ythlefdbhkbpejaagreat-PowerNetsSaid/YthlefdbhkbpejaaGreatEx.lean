/- Chapter 14: the example's site, wish and world. -/
import Derived.Test.YthlefdbhkbpejaaGreatNtA
namespace Go.Proofs.YthlefdbhkbpejaaGreat
open Go Go.RowKit
set_option linter.unusedSimpArgs false

def exH : Host := ⟨0, 4, 100, 50⟩
def exG : Host := ⟨1, 4, 100, 50⟩
/-- The example; its slices lie behind the block b. -/
def exSite (b : Nat) : Site :=
  ⟨[⟨300⟩], (some ⟨b + 1 + 1 + 1, 0, none⟩, 1, 1), [⟨0, 200, 0, 0⟩, ⟨0, 200, 0, 0⟩], (some ⟨b + 1 + 1 + 1 + 1, 0, none⟩, 2, 2), [⟨0, 0⟩], (some ⟨b + 1 + 1 + 1 + 1 + 1, 0, none⟩, 1, 1), [⟨0, 0, 0, 0⟩, ⟨0, 1, 0, 0⟩], (some ⟨b + 1 + 1 + 1 + 1 + 1 + 1, 0, none⟩, 2, 2), [], (none, 0, 0), [exH, exG], (some ⟨b + 1 + 1 + 1 + 1 + 1 + 1 + 1, 0, none⟩, 2, 2), 1⟩
def exWish (b : Nat) : Wish := ⟨[⟨2, 2, 0, 0, 0, [], (none, 0, 0), [], (none, 0, 0), 0⟩], (some ⟨b + 1, 0, none⟩, 1, 1)⟩
def exWld (b c : Nat) : Wld := ⟨[⟨0, 0⟩, ⟨0, 0⟩], (some ⟨b, 0, none⟩, 2, 2), [⟨0, 0⟩, ⟨0, 1⟩], (some ⟨c, 0, none⟩, 2, 2)⟩

/-- Rows in a block of their own. -/
theorem rows_blk {W : World} {k B n : Nat} {rows : List (List Value)} {t : TypeId} {fr : Nat × Nat} (h : W.heap[B]? = some (.cells rows.flatten.toArray t fr)) (hB : B < n) (hk : ∀ r ∈ rows, r.length = k) : RowsAt n W (some ⟨B, 0, none⟩) k rows := by
  intro i r hr
  refine ⟨B, 0, rfl, hB, fun j v hv => ?_⟩
  have hf : rows.flatten[i * k + j]? = some v := by
    clear h
    induction rows generalizing i with
    | nil => simp at hr
    | cons x xs ih =>
      have hx := hk x (List.mem_cons_self ..)
      cases i with
      | zero =>
        simp at hr
        subst hr
        have : j < x.length := (List.getElem?_eq_some_iff.1 hv).1
        rw [List.flatten_cons, List.getElem?_append_left (by omega)]
        simpa using hv
      | succ i =>
        rw [List.flatten_cons, List.getElem?_append_right (by rw [hx, Nat.succ_mul]; omega)]
        have e : (i + 1) * k + j - x.length = i * k + j := by rw [hx, Nat.succ_mul]; omega
        rw [e]
        exact ih (fun r hm => hk r (List.mem_cons_of_mem _ hm)) i (by simpa using hr)
  rw [show 0 + i * k + j = i * k + j by omega]
  simp only [World.cell?, h]
  simpa using hf
theorem reads_blk {W : World} {k B m : Nat} {rows : List (List Value)} {t : TypeId} {fr : Nat × Nat} (h : W.heap[B]? = some (.cells rows.flatten.toArray t fr)) (hk : ∀ r ∈ rows, r.length = k) (hm : m = rows.length) (hl : m ≤ 100) : Reads W (some ⟨B, 0, none⟩, m, m) k m rows :=
  ⟨rfl, ⟨Nat.le_refl _, by unfold maxLen; show m ≤ _; omega, fun h => by cases h⟩, rows_blk h (blk_lt h) hk⟩
theorem reads_nil (W : World) (k : Nat) : Reads W (none, 0, 0) k 0 [] := ⟨rfl, ⟨Nat.le_refl _, by unfold maxLen; show 0 ≤ _; omega, fun _ => ⟨rfl, rfl⟩⟩, RowsAt.nil _ _ _ _⟩
theorem site_info : (Tryz.prog.info? 29).map (·.size) = some 7 := by kernel_rfl
theorem wish_info : (Tryz.prog.info? 32).map (·.size) = some 1 := by kernel_rfl
theorem world_info : (Tryz.prog.info? 36).map (·.size) = some 2 := by kernel_rfl
theorem hst_info : (Tryz.prog.info? 54).map (fun i => (i.zero, i.size, i.bytes)) = some (some (.agg #[.int .u8 0, .int .i64 0]), 2, 16) := by kernel_rfl

set_option maxHeartbeats 1000000 in
theorem site_made (w : World) : Calls Tryz.prog 22 #[] w fun e W' => e = .returned (exSite w.heap.size).val ∧ (exSite w.heap.size).At W' ∧ Below w.heap.size w W' := by
  go_enter Tryz.func22, Tryz.ntmps22
  go_wp2_with fail
  obtain ⟨A, hA⟩ : ∃ W' : World, ((((((((w.alloc (.cells #[.slice (some ⟨w.heap.size + 1 + 1 + 1, 0, none⟩) 1 1, .slice (some ⟨w.heap.size + 1 + 1 + 1 + 1, 0, none⟩) 2 2, .slice (some ⟨w.heap.size + 1 + 1 + 1 + 1 + 1, 0, none⟩) 1 1, .slice (some ⟨w.heap.size + 1 + 1 + 1 + 1 + 1 + 1, 0, none⟩) 2 2, .int .i64 1, .slice none 0 0, .slice (some ⟨w.heap.size + 1 + 1 + 1 + 1 + 1 + 1 + 1, 0, none⟩) 2 2] 29)).alloc (.cells #[.int .i64 0, .int .i64 4, .int .i64 100, .int .i64 50] 56)).alloc (.cells #[.int .i64 1, .int .i64 4, .int .i64 100, .int .i64 50] 56)).alloc (.cells #[.int .i64 300] 65)).alloc (.cells #[.int .i64 0, .int .i64 200, .int .i64 0, .int .i64 0, .int .i64 0, .int .i64 200, .int .i64 0, .int .i64 0] 61)).alloc (.cells #[.int .i64 0, .int .i64 0] 75)).alloc (.cells #[.int .i64 0, .int .i64 0, .int .i64 0, .int .i64 0, .int .i64 0, .int .i64 1, .int .i64 0, .int .i64 0] 59)).alloc (.cells #[.int .i64 0, .int .i64 4, .int .i64 100, .int .i64 50, .int .i64 1, .int .i64 4, .int .i64 100, .int .i64 50] 56)) = W' := ⟨_, rfl⟩
  have h : Has A [(w.heap.size + 1 + 1 + 1 + 1 + 1 + 1 + 1, .cells #[.int .i64 0, .int .i64 4, .int .i64 100, .int .i64 50, .int .i64 1, .int .i64 4, .int .i64 100, .int .i64 50] 56 (0, 0)), (w.heap.size + 1 + 1 + 1 + 1 + 1 + 1, .cells #[.int .i64 0, .int .i64 0, .int .i64 0, .int .i64 0, .int .i64 0, .int .i64 1, .int .i64 0, .int .i64 0] 59 (0, 0)), (w.heap.size + 1 + 1 + 1 + 1 + 1, .cells #[.int .i64 0, .int .i64 0] 75 (0, 0)), (w.heap.size + 1 + 1 + 1 + 1, .cells #[.int .i64 0, .int .i64 200, .int .i64 0, .int .i64 0, .int .i64 0, .int .i64 200, .int .i64 0, .int .i64 0] 61 (0, 0)), (w.heap.size + 1 + 1 + 1, .cells #[.int .i64 300] 65 (0, 0)), (w.heap.size + 1 + 1, .cells #[.int .i64 1, .int .i64 4, .int .i64 100, .int .i64 50] 56 (0, 0)), (w.heap.size + 1, .cells #[.int .i64 0, .int .i64 4, .int .i64 100, .int .i64 50] 56 (0, 0)), (w.heap.size, .cells #[.slice (some ⟨w.heap.size + 1 + 1 + 1, 0, none⟩) 1 1, .slice (some ⟨w.heap.size + 1 + 1 + 1 + 1, 0, none⟩) 2 2, .slice (some ⟨w.heap.size + 1 + 1 + 1 + 1 + 1, 0, none⟩) 1 1, .slice (some ⟨w.heap.size + 1 + 1 + 1 + 1 + 1 + 1, 0, none⟩) 2 2, .int .i64 1, .slice none 0 0, .slice (some ⟨w.heap.size + 1 + 1 + 1 + 1 + 1 + 1 + 1, 0, none⟩) 2 2] 29 (0, 0))] := by rw [← hA]; simpa using (((((((((Has.nil w).new _).new _).new _).new _).new _).new _).new _).new _)
  have z : A.heap.size = w.heap.size + 1 + 1 + 1 + 1 + 1 + 1 + 1 + 1 := by rw [← hA]; simp
  have b : Below w.heap.size w A := by rw [← hA]; exact (below_alloc (below_alloc (below_alloc (below_alloc (below_alloc (below_alloc (below_alloc (below_alloc (below_self w) _) _) _) _) _) _) _) _)
  rw [hA]
  clear hA
  (try simp only [Exit.inBlock, Exit.then]); refine bodyPost_ret (results_cell_row rfl _ _ w.heap.size 29 (exSite w.heap.size).cells.toArray (0, 0) _ rfl h.tl.tl.tl.tl.tl.tl.tl.hd Tryz.underlying29 rfl site_info) rfl ?_
  refine ⟨rfl, ⟨?_, ?_, ?_, ?_, ?_, ?_⟩, b⟩
  · exact reads_blk (rows := Fds [⟨300⟩]) h.tl.tl.tl.tl.hd (by simp) rfl (by omega)
  · exact reads_blk (rows := Bks [⟨0, 200, 0, 0⟩, ⟨0, 200, 0, 0⟩]) h.tl.tl.tl.hd (by simp) rfl (by omega)
  · exact reads_blk (rows := Lps [⟨0, 0⟩]) h.tl.tl.hd (by simp) rfl (by omega)
  · exact reads_blk (rows := Rks [⟨0, 0, 0, 0⟩, ⟨0, 1, 0, 0⟩]) h.tl.hd (by simp) rfl (by omega)
  · exact reads_nil _ _
  · exact reads_blk (rows := Hos [exH, exG]) h.hd (by simp) rfl (by omega)

set_option maxHeartbeats 1000000 in
theorem wish_made (w : World) : Calls Tryz.prog 23 #[] w fun e W' => e = .returned (exWish w.heap.size).val ∧ (exWish w.heap.size).At W' ∧ Below w.heap.size w W' := by
  go_enter Tryz.func23, Tryz.ntmps23
  go_wp2_with fail
  obtain ⟨A, hA⟩ : ∃ W' : World, ((w.alloc (.cells #[.slice (some ⟨w.heap.size + 1, 0, none⟩) 1 1] 32)).alloc (.cells #[.int .i64 2, .int .i64 2, .int .i64 0, .int .u8 0, .int .i64 0, .slice none 0 0, .slice none 0 0, .int .i64 0] 79)) = W' := ⟨_, rfl⟩
  have h : Has A [(w.heap.size + 1, .cells #[.int .i64 2, .int .i64 2, .int .i64 0, .int .u8 0, .int .i64 0, .slice none 0 0, .slice none 0 0, .int .i64 0] 79 (0, 0)), (w.heap.size, .cells #[.slice (some ⟨w.heap.size + 1, 0, none⟩) 1 1] 32 (0, 0))] := by rw [← hA]; simpa using (((Has.nil w).new _).new _)
  have z : A.heap.size = w.heap.size + 1 + 1 := by rw [← hA]; simp
  have b : Below w.heap.size w A := by rw [← hA]; exact (below_alloc (below_alloc (below_self w) _) _)
  rw [hA]
  clear hA
  (try simp only [Exit.inBlock, Exit.then]); refine bodyPost_ret (results_cell_row rfl _ _ w.heap.size 32 (exWish w.heap.size).cells.toArray (0, 0) _ rfl h.tl.hd Tryz.underlying32 rfl wish_info) rfl ?_
  refine ⟨rfl, ⟨?_, ?_⟩, b⟩
  · exact reads_blk (rows := Svs (exWish w.heap.size).svcs) h.hd (by simp [exWish]) rfl (by show 1 ≤ 100; omega)
  · intro i hi
    match i, hi with
    | 0, _ => exact ⟨reads_nil _ _, reads_nil _ _⟩

theorem hst_made : madeCells #[Value.int .u8 0, .int .i64 0] 4 = (Hss [⟨0, 0⟩, ⟨0, 0⟩]).flatten.toArray := by kernel_rfl
theorem blk_at {W : World} {k : Nat} (hk : k = W.heap.size) (o : Obj) : (W.alloc o).heap[k]? = some o := by subst hk; exact blk_new W o
set_option maxRecDepth 100000 in
set_option maxHeartbeats 1000000 in
theorem world_made (w : World) : Calls Tryz.prog 24 #[] w fun e W' => ∃ b c, e = .returned (exWld b c).val ∧ (exWld b c).At W' ∧ Below w.heap.size w W' := by
  obtain ⟨i0, hi, hz0, hz1, hz2⟩ := info_parts hst_info
  go_enter Tryz.func24, Tryz.ntmps24
  go_wp2_with (with_reducible refine wpList_make_row rfl 33 _ _ rfl 54 i0 _ 2 16 Tryz.underlying33 hi hz0 hz1 hz2 2 _ rfl rfl ?a2 ?a3 ?a4 ?_)
  case a2 => rfl
  case a3 => omega
  case a4 => omega
  intro W4 h4 hb4 hs4
  have hbox : W4.heap[w.heap.size]? = some (.cells #[.slice none 0 0, .slice none 0 0] 36 (0, 0)) := (hb4.block w.heap.size (by omega)).trans (heap_alloc_new _ _)
  have hho : W4.heap[w.heap.size + 1]? = some (.cells (Hss [⟨0, 0⟩, ⟨0, 0⟩]).flatten.toArray 54 (0, 0)) := h4.out.trans (by rw [hst_made])
  have hbb : Below w.heap.size w W4 := (below_alloc (below_self w) _).trans (hb4.mono (by omega))
  have HB := Lib.hid (And.intro hbox (And.intro hho hbb))
  have d0 : W4.cell? ⟨w.heap.size, 0, none⟩ = some (.slice none 0 0) := (blk_cell hbox 0).trans rfl
  have d1 : W4.cell? ⟨w.heap.size, 1, none⟩ = some (.slice none 0 0) := (blk_cell hbox 1).trans rfl
  have f0 := blk_frozen hbox 0
  have f1 := blk_frozen hbox 1
  have dl := blk_lt hbox
  clear h4 hb4 hbox hho hbb hi hz0 hz1 hz2
  go_wp2_with fail
  (try simp only [Exit.inBlock, Exit.then]); refine bodyPost_ret (results_cell_row rfl _ _ w.heap.size 36 (exWld (w.heap.size + 1) (w.heap.size + 1 + 1)).cells.toArray (0, 0) _ rfl (blk_alloc (blk_set_two HB.out.1) _) Tryz.underlying36 rfl world_info) rfl ?_
  refine ⟨w.heap.size + 1, w.heap.size + 1 + 1, rfl, ⟨?_, ?_⟩, below_alloc ((HB.out.2.2.setCell (by simp) _).setCell (by simp) _) _⟩
  · exact reads_blk (rows := Hss [⟨0, 0⟩, ⟨0, 0⟩]) (blk_alloc (blk_set (blk_set HB.out.2.1 (by simp) _) (by simp) _) _) (by simp) rfl (by omega)
  · exact reads_blk (rows := Rps [⟨0, 0⟩, ⟨0, 1⟩]) (blk_at (by simp [hs4]) _) (by simp) rfl (by omega)
end Go.Proofs.YthlefdbhkbpejaaGreat
