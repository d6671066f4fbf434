/- Chapter 15: cooling.constant, After, Longest. -/
import Derived.Test.YtmghcinbdfeeoaaRep
import Derived.Test.YtmghcinbdfeeoaaCooC
namespace Go.Proofs.Ytmghcinbdfeeoaa
open Go Go.RowKit
set_option linter.unusedSimpArgs false

/-- Whether constant's arguments are valid. -/
def conOk (s : Site) (x : Wish) (v : Wld) (loop start n : Int) : Bool := worldOk s x v && (decide (0 ≤ loop) && (decide (loop < s.loops.length) && (inR start 0 1000000 && inR n 0 1000)))
def conE (s : Site) (x : Wish) (v : Wld) (loop start n : Int) : Int := if conOk s x v loop start n = true then couE s loop start (List.replicate n.toNat (heat s x v loop)) n else 1
def conV (s : Site) (x : Wish) (v : Wld) (loop start n : Int) : List Int := if conOk s x v loop start n = true then couV s loop start (List.replicate n.toNat (heat s x v loop)) n else []

theorem ownI_reads {base : Nat} {W : World} {u : Value} {xs : List Int} (h : OwnI base W u xs) {n : Nat} (hn : xs.length = n) : ∃ a cap, u = .slice a n cap ∧ Reads W (a, n, cap) 1 xs.length (Ints xs) := by
  subst hn
  obtain ⟨a', cap', he, h5, h6⟩ := owns_shape h
  obtain ⟨a, cap, rfl, h1, h2, h3⟩ := h.full
  injection he with e1 e2 e3
  exact ⟨a, cap, rfl, rfl, ⟨h1, by rw [e3]; exact h6, h2⟩, h3⟩
theorem cool_ok' (s : Site) (loop start : Int) (a : Option Addr) (m cap : Nat) (hs : List Int) (n : Int) (w : World) (hat : s.At w) (hh : Reads w (a, m, cap) 1 hs.length (Ints hs)) :
    Calls Try.prog 14 #[s.val, .int .i64 loop, .int .i64 start, .slice a m cap, .int .i64 n] w fun e W' => ∃ v, e = .returned (.tuple #[v, .int .i64 (couE s loop start hs n)]) ∧ OwnI w.heap.size W' v (couV s loop start hs n) ∧ Below w.heap.size w W' := cool_ok s loop start (a, m, cap) hs n w hat hh
set_option maxHeartbeats 4000000 in
theorem constant_ok (s : Site) (x : Wish) (v : Wld) (loop start n : Int) (w : World) (hs : s.At w) (hx : x.At w) (hv : v.At w) :
    Calls Try.prog 33 #[s.val, x.val, v.val, .int .i64 loop, .int .i64 start, .int .i64 n] w fun e W' => ∃ u, e = .returned (.tuple #[u, .int .i64 (conE s x v loop start n)]) ∧ OwnI w.heap.size W' u (conV s x v loop start n) ∧ Below w.heap.size w W' := by
  have HI := Lib.hid (And.intro hs (And.intro hx hv))
  have hN : s.loops.length = s.lh.2.1 := hs.loops.len
  have hNl := hs.loops.le
  have HN := Lib.hid hN
  clear hs hx hv hN
  cases hc : conOk s x v loop start n
  · have HE := Lib.hid (show conE s x v loop start n = 1 by unfold conE; rw [if_neg (by simp [hc])])
    have HV := Lib.hid (show conV s x v loop start n = [] by unfold conV; rw [if_neg (by simp [hc])])
    have HC := Lib.hid hc
    rw [HE.out, HV.out]
    clear hc
    go_enter Try.func33, Try.ntmps33
    go_wp2_with fail
    obtain ⟨A, hA⟩ : ∃ W' : World, (((w.alloc (.cells s.cells.toArray 29)).alloc (.cells x.cells.toArray 32)).alloc (.cells v.cells.toArray 36)) = W' := ⟨_, rfl⟩
    have h : Has A [(w.heap.size + 1 + 1, .cells v.cells.toArray 36 (0, 0)), (w.heap.size + 1, .cells x.cells.toArray 32 (0, 0)), (w.heap.size, .cells s.cells.toArray 29 (0, 0))] := by rw [← hA]; simpa using ((((Has.nil w).new _).new _).new _)
    have z : A.heap.size = w.heap.size + 1 + 1 + 1 := by rw [← hA]; simp
    have b : Below w.heap.size w A := by rw [← hA]; exact (below_alloc (below_alloc (below_alloc (below_self w) _) _) _)
    rw [hA]
    clear hA
    have HZ := Lib.hid (show A.heap[w.heap.size]? = some (.cells s.cells.toArray 29 (0, 0)) ∧ A.heap[w.heap.size + 1]? = some (.cells x.cells.toArray 32 (0, 0)) ∧ A.heap[w.heap.size + 1 + 1]? = some (.cells v.cells.toArray 36 (0, 0)) ∧ Below w.heap.size w A from ⟨h.tl.tl.hd, h.tl.hd, h.hd, b⟩)
    clear h z b
    refine (world_ok s x v A (HI.out.1.later HZ.out.2.2.2) (HI.out.2.1.later HZ.out.2.2.2) (HI.out.2.2.later HZ.out.2.2.2)).mono ?_
    rintro e B ⟨rfl, hb⟩
    have HB := Lib.hid (And.intro (blk_below HZ.out.1 hb) (And.intro (blk_below HZ.out.2.1 hb) (And.intro (blk_below HZ.out.2.2.1 hb) (below_trans HZ.out.2.2.2 hb))))
    clear hb HZ
    have d2 : B.cell? ⟨w.heap.size, 2, none⟩ = some (.slice s.lh.1 s.lh.2.1 s.lh.2.2) := (blk_cell HB.out.1 2).trans rfl
    have dl := blk_lt HB.out.1
    cases hok : worldOk s x v
    · clear hok
      go_wp2_with fail
      go_ret2
      exact ⟨_, rfl, OwnI.nil _ _, HB.out.2.2.2⟩
    · have HO := Lib.hid hok
      clear hok
      by_cases l0 : 0 ≤ loop
      · by_cases l1 : loop < (s.lh.2.1 : Int)
        · by_cases s0 : 0 ≤ start
          · by_cases s1 : start ≤ 1000000
            · by_cases n0 : 0 ≤ n
              · by_cases n1 : n ≤ 1000
                · exact absurd HC.out (by unfold conOk; rw [HO.out, decide_eq_true l0, decide_eq_true (p := loop < (s.loops.length : Int)) (by rw [HN.out]; exact l1), inR_iff.2 ⟨s0, s1⟩, inR_iff.2 ⟨n0, n1⟩]; simp)
                · go_wp2_with fail
                  go_ret2
                  exact ⟨_, rfl, OwnI.nil _ _, HB.out.2.2.2⟩
              · go_wp2_with fail
                go_ret2
                exact ⟨_, rfl, OwnI.nil _ _, HB.out.2.2.2⟩
            · go_wp2_with fail
              go_ret2
              exact ⟨_, rfl, OwnI.nil _ _, HB.out.2.2.2⟩
          · go_wp2_with fail
            go_ret2
            exact ⟨_, rfl, OwnI.nil _ _, HB.out.2.2.2⟩
        · go_wp2_with fail
          go_ret2
          exact ⟨_, rfl, OwnI.nil _ _, HB.out.2.2.2⟩
      · go_wp2_with fail
        go_ret2
        exact ⟨_, rfl, OwnI.nil _ _, HB.out.2.2.2⟩
  · have HE := Lib.hid (show conE s x v loop start n = couE s loop start (List.replicate n.toNat (heat s x v loop)) n by unfold conE; rw [if_pos hc])
    have HV := Lib.hid (show conV s x v loop start n = couV s loop start (List.replicate n.toNat (heat s x v loop)) n by unfold conV; rw [if_pos hc])
    rw [HE.out, HV.out]
    have hc' := hc
    unfold conOk at hc'
    simp only [Bool.and_eq_true, decide_eq_true_eq] at hc'
    obtain ⟨hw, l0, l1, h1, h2⟩ := hc'
    have h1 := inR_iff.1 h1
    have h2 := inR_iff.1 h2
    rw [HN.out] at l1
    obtain ⟨k, rfl⟩ : ∃ k : Nat, n = k := ⟨n.toNat, by omega⟩
    have hk : k ≤ 1000 := by omega
    have HW := Lib.hid hw
    have HK := Lib.hid (show List.replicate (k : Int).toNat (heat s x v loop) = List.replicate k (heat s x v loop) by simp)
    rw [HK.out]
    clear hc hw h2
    obtain ⟨g, hg⟩ : ∃ g, heat s x v loop = g := ⟨_, rfl⟩
    rw [hg] at HE HV HK ⊢
    have HG := Lib.hid hg
    clear hg
    go_enter Try.func33, Try.ntmps33
    go_wp2_with fail
    obtain ⟨A, hA⟩ : ∃ W' : World, (((w.alloc (.cells s.cells.toArray 29)).alloc (.cells x.cells.toArray 32)).alloc (.cells v.cells.toArray 36)) = W' := ⟨_, rfl⟩
    have h : Has A [(w.heap.size + 1 + 1, .cells v.cells.toArray 36 (0, 0)), (w.heap.size + 1, .cells x.cells.toArray 32 (0, 0)), (w.heap.size, .cells s.cells.toArray 29 (0, 0))] := by rw [← hA]; simpa using ((((Has.nil w).new _).new _).new _)
    have z : A.heap.size = w.heap.size + 1 + 1 + 1 := by rw [← hA]; simp
    have b : Below w.heap.size w A := by rw [← hA]; exact (below_alloc (below_alloc (below_alloc (below_self w) _) _) _)
    rw [hA]
    clear hA
    have HZ := Lib.hid (show A.heap[w.heap.size]? = some (.cells s.cells.toArray 29 (0, 0)) ∧ A.heap[w.heap.size + 1]? = some (.cells x.cells.toArray 32 (0, 0)) ∧ A.heap[w.heap.size + 1 + 1]? = some (.cells v.cells.toArray 36 (0, 0)) ∧ Below w.heap.size w A from ⟨h.tl.tl.hd, h.tl.hd, h.hd, b⟩)
    clear h z b
    refine (world_ok s x v A (HI.out.1.later HZ.out.2.2.2) (HI.out.2.1.later HZ.out.2.2.2) (HI.out.2.2.later HZ.out.2.2.2)).mono ?_
    rintro e B ⟨rfl, hb⟩
    have HB := Lib.hid (And.intro (blk_below HZ.out.1 hb) (And.intro (blk_below HZ.out.2.1 hb) (And.intro (blk_below HZ.out.2.2.1 hb) (below_trans HZ.out.2.2.2 hb))))
    clear hb HZ
    have hkk : ∀ W, Below B.heap.size B W → W.cell? ⟨w.heap.size, 0, none⟩ = some (.slice s.fh.1 s.fh.2.1 s.fh.2.2) ∧ W.cell? ⟨w.heap.size, 1, none⟩ = some (.slice s.bh.1 s.bh.2.1 s.bh.2.2) ∧ W.cell? ⟨w.heap.size, 2, none⟩ = some (.slice s.lh.1 s.lh.2.1 s.lh.2.2) ∧ W.cell? ⟨w.heap.size, 3, none⟩ = some (.slice s.rh.1 s.rh.2.1 s.rh.2.2) ∧ W.cell? ⟨w.heap.size, 4, none⟩ = some (.int .i64 s.switches) ∧ W.cell? ⟨w.heap.size, 5, none⟩ = some (.slice s.kh.1 s.kh.2.1 s.kh.2.2) ∧ W.cell? ⟨w.heap.size, 6, none⟩ = some (.slice s.hh.1 s.hh.2.1 s.hh.2.2) ∧ W.cell? ⟨w.heap.size + 1, 0, none⟩ = some (.slice x.sh.1 x.sh.2.1 x.sh.2.2) ∧ W.cell? ⟨w.heap.size + 1 + 1, 0, none⟩ = some (.slice v.hh.1 v.hh.2.1 v.hh.2.2) ∧ W.cell? ⟨w.heap.size + 1 + 1, 1, none⟩ = some (.slice v.rh.1 v.rh.2.1 v.rh.2.2) := fun W hb => ⟨(blk_cell (blk_below HB.out.1 hb) 0).trans rfl, (blk_cell (blk_below HB.out.1 hb) 1).trans rfl, (blk_cell (blk_below HB.out.1 hb) 2).trans rfl, (blk_cell (blk_below HB.out.1 hb) 3).trans rfl, (blk_cell (blk_below HB.out.1 hb) 4).trans rfl, (blk_cell (blk_below HB.out.1 hb) 5).trans rfl, (blk_cell (blk_below HB.out.1 hb) 6).trans rfl, (blk_cell (blk_below HB.out.2.1 hb) 0).trans rfl, (blk_cell (blk_below HB.out.2.2.1 hb) 0).trans rfl, (blk_cell (blk_below HB.out.2.2.1 hb) 1).trans rfl⟩
    have d2 : B.cell? ⟨w.heap.size, 2, none⟩ = some (.slice s.lh.1 s.lh.2.1 s.lh.2.2) := (blk_cell HB.out.1 2).trans rfl
    have dl := blk_lt HB.out.1
    have dm := blk_lt HB.out.2.1
    have dn := blk_lt HB.out.2.2.1
    have HS := Lib.hid hkk
    clear hkk
    rw [HW.out]
    go_wp2_with fail
    have bX : Below B.heap.size B B.drew := (below_self B).drew
    go_region_held3 (fun W => W.cell? ⟨w.heap.size, 0, none⟩ = some (.slice s.fh.1 s.fh.2.1 s.fh.2.2) ∧ W.cell? ⟨w.heap.size, 1, none⟩ = some (.slice s.bh.1 s.bh.2.1 s.bh.2.2) ∧ W.cell? ⟨w.heap.size, 2, none⟩ = some (.slice s.lh.1 s.lh.2.1 s.lh.2.2) ∧ W.cell? ⟨w.heap.size, 3, none⟩ = some (.slice s.rh.1 s.rh.2.1 s.rh.2.2) ∧ W.cell? ⟨w.heap.size, 4, none⟩ = some (.int .i64 s.switches) ∧ W.cell? ⟨w.heap.size, 5, none⟩ = some (.slice s.kh.1 s.kh.2.1 s.kh.2.2) ∧ W.cell? ⟨w.heap.size, 6, none⟩ = some (.slice s.hh.1 s.hh.2.1 s.hh.2.2) ∧ W.cell? ⟨w.heap.size + 1, 0, none⟩ = some (.slice x.sh.1 x.sh.2.1 x.sh.2.2) ∧ W.cell? ⟨w.heap.size + 1 + 1, 0, none⟩ = some (.slice v.hh.1 v.hh.2.1 v.hh.2.2) ∧ W.cell? ⟨w.heap.size + 1 + 1, 1, none⟩ = some (.slice v.rh.1 v.rh.2.1 v.rh.2.2))
      (exact HS.out _ (by first | assumption | exact below_alloc (by assumption) _))
      (first
        | (go_at_call 14; (with_reducible refine (cool_ok' s loop start a3 k c3 (List.replicate k g) k _ (HI.out.1.later (below_trans HB.out.2.2.2 bR)) hR3).mono ?_); rintro e W9 ⟨u, rfl, ho9, b9⟩; have bC := below_trans bR b9)
        | (go_at_call 71; (with_reducible refine (repeat_ok _ 0 k g _ hk (blk_cell (heap_alloc_new _ _) 0)).mono ?_); rintro e W3 ⟨u3, rfl, ho3, b3⟩; obtain ⟨a3, c3, rfl, hR3⟩ := ownI_reads ho3 (n := k) (by simp); have bR := below_trans (below_alloc bH _) b3)
        | (go_at_call 12; (with_reducible refine (heat_ok s x v loop _ (HI.out.1.later (below_trans HB.out.2.2.2 bX)) (HI.out.2.1.later (below_trans HB.out.2.2.2 bX)) (HI.out.2.2.later (below_trans HB.out.2.2.2 bX))).mono ?_); rintro e W2 ⟨rfl, b2⟩; rw [HG.out]; have bH := below_trans bX b2))
    have HF := Lib.hid (And.intro (owns_base ho9 (below_trans HB.out.2.2.2 bR).size) (below_trans HB.out.2.2.2 bC))
    clear ho9 bC bR b9 b3 bH b2 bX hR3 HS
    go_wp2_with fail
    go_ret2
    exact ⟨_, rfl, HF.out⟩

theorem con_len {s : Site} {x : Wish} {v : Wld} {loop start n : Int} (h : conE s x v loop start n = 0) : 0 ≤ n ∧ n ≤ 1000 ∧ (conV s x v loop start n).length = n.toNat + 1 := by
  unfold conE at h
  by_cases hc : conOk s x v loop start n = true
  · rw [if_pos hc] at h
    have e1 : conV s x v loop start n = couV s loop start (List.replicate n.toNat (heat s x v loop)) n := if_pos hc
    rw [e1]
    unfold couE at h
    by_cases hL : lineE s loop = true
    · rw [if_pos hL] at h
      have e2 : couV s loop start (List.replicate n.toNat (heat s x v loop)) n = courseV (lCar s loop) (lPs s loop) [List.replicate n.toNat (heat s x v loop)] start n := if_pos hL
      rw [e2]
      obtain ⟨_, _, _, _, h0, h1⟩ := asked_zero h
      refine ⟨h0, h1, ?_⟩
      unfold courseV
      rw [if_pos h, levs_len]
    · rw [if_neg hL] at h
      omega
  · rw [if_neg hc] at h
    omega
/-- What After returns. -/
def aftV (s : Site) (x : Wish) (v : Wld) (loop start n : Int) : Int := if conE s x v loop start n = 0 then (conV s x v loop start n).getD n.toNat default else 0

end Go.Proofs.Ytmghcinbdfeeoaa
