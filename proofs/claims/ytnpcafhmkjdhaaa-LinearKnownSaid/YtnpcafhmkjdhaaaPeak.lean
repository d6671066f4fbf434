/- Chapter 06: the program's Course whole, First, Peak. -/
import Derived.Test.YtnpcafhmkjdhaaaCourse
import Derived.Test.YtnpcafhmkjdhaaaSlices
import Derived.OwnWalk
namespace Go.Proofs.Ytnpcafhmkjdhaaa
open Go Go.RowKit Go.Shelf

theorem course_ok (carry : Int) (a : Option Addr) (n cap : Nat) (ps : List Prt) (start : Int) (ai : Option Addr) (ni ci : Nat) (hs : List Hd) (ins : List (List Int)) (t : Int) (w : World) (hn : ps.length = n) (hl : n ≤ 9223372036854775807) (hm : RowsAt w.heap.size w a 3 (Prts ps))
    (hni : ins.length = ni) (hli : ni ≤ 9223372036854775807) (hmi : InsAt w.heap.size w ai hs ins) :
    Calls Try.prog 11 #[.agg #[.int .i64 carry, .slice a n cap], .int .i64 start, .slice ai ni ci, .int .i64 t] w fun e W' => ∃ v, e = .returned (.tuple #[v, .int .i64 (askedE carry ps start ins t)]) ∧ OwnI w.heap.size W' v (courseV carry ps ins start t) ∧ Below w.heap.size w W' := by
  by_cases he : askedE carry ps start ins t = 0
  · obtain ⟨_, _, _, _, ht0, _⟩ := asked_zero he
    obtain ⟨T, rfl⟩ : ∃ T : Nat, t = T := ⟨t.toNat, by omega⟩
    have e1 : courseV carry ps ins start T = levs carry ps ins start T := if_pos he
    rw [e1, he]
    exact course_zero carry a n cap ps start ai ni ci hs ins T w hn hl hm hni hli hmi he
  · have e1 : courseV carry ps ins start t = [] := if_neg he
    rw [e1]
    exact course_err carry a n cap ps start ai ni ci hs ins t w hn hl hm hni hli hmi he

theorem over_ok (x limit : Int) (b : Nat) (w : World) (hc : w.cell? ⟨b, 0, none⟩ = some (.int .i64 limit)) : Calls Try.prog 34 #[.int .i64 x, .pointer (some ⟨b, 0, none⟩)] w fun e W' => e = .returned (.bool (decide (limit < x))) ∧ w = W' := by
  go_enter Try.func34, Try.ntmps34
  go_wp2_with fail
  go_ret
  exact ⟨rfl, rfl⟩

/-- What First returns. -/
def firstV (carry : Int) (ps : List Prt) (ins : List (List Int)) (start t limit : Int) : Int := if askedE carry ps start ins t = 0 then idxI (fun x => decide (limit < x)) (courseV carry ps ins start t) else 0
/-- What Peak returns. -/
def peakV (carry : Int) (ps : List Prt) (ins : List (List Int)) (start t : Int) : Int := if askedE carry ps start ins t = 0 then topI (courseV carry ps ins start t) else 0
def peakT (carry : Int) (ps : List Prt) (ins : List (List Int)) (start t : Int) : Int := if askedE carry ps start ins t = 0 then idxI (fun x => decide (peakV carry ps ins start t = x)) (courseV carry ps ins start t) else 0
theorem courseV_len {carry : Int} {ps : List Prt} {ins : List (List Int)} {start t : Int} (h : askedE carry ps start ins t = 0) : 0 < (courseV carry ps ins start t).length ∧ (courseV carry ps ins start t).length ≤ 1001 := by
  obtain ⟨_, _, _, _, ht0, ht1⟩ := asked_zero h
  unfold courseV
  rw [if_pos h, levs_len]
  omega

set_option maxHeartbeats 1000000 in
theorem first_ok (carry : Int) (a : Option Addr) (n cap : Nat) (ps : List Prt) (start : Int) (ai : Option Addr) (ni ci : Nat) (hs : List Hd) (ins : List (List Int)) (t limit : Int) (w : World) (hn : ps.length = n) (hl : n ≤ 9223372036854775807) (hm : RowsAt w.heap.size w a 3 (Prts ps))
    (hni : ins.length = ni) (hli : ni ≤ 9223372036854775807) (hmi : InsAt w.heap.size w ai hs ins) :
    Calls Try.prog 16 #[.agg #[.int .i64 carry, .slice a n cap], .int .i64 start, .slice ai ni ci, .int .i64 t, .int .i64 limit] w fun e W' => e = .returned (.tuple #[.int .i64 (firstV carry ps ins start t limit), .int .i64 (askedE carry ps start ins t)]) ∧ Below w.heap.size w W' := by
  have Hm := Lib.hid hm; clear hm
  have Hmi := Lib.hid hmi; clear hmi
  by_cases he : askedE carry ps start ins t = 0
  · have e1 : firstV carry ps ins start t limit = idxI (fun x => decide (limit < x)) (courseV carry ps ins start t) := if_pos he
    rw [e1, he]
    have HE := Lib.hid (And.intro he (courseV_len he))
    clear he e1
    go_enter Try.func16, Try.ntmps16
    go_wp2_with fail
    obtain ⟨W1, hW1⟩ : ∃ W' : World, ((w.alloc (.cells #[.int .i64 carry, .slice a n cap] 28)).alloc (.cells #[.int .i64 limit] 3)) = W' := ⟨_, rfl⟩
    have h1 : Has W1 [(w.heap.size + 1, .cells #[.int .i64 limit] 3 (0, 0)), (w.heap.size, .cells #[.int .i64 carry, .slice a n cap] 28 (0, 0))] := by rw [← hW1]; simpa using (((Has.nil w).new _).new _)
    have s1 : W1.heap.size = w.heap.size + 1 + 1 := by rw [← hW1]; simp
    have b1 : Below w.heap.size w W1 := by rw [← hW1]; exact (below_alloc (below_alloc (below_self w) _) _)
    rw [hW1]
    clear hW1
    refine (course_ok carry a n cap ps start ai ni ci hs ins t _ hn hl (Hm.out.later b1) hni hli (Hmi.out.later b1)).mono ?_
    rintro e W2 ⟨v, rfl, ho, hb2⟩
    rw [HE.out.1]
    have h2 := h1.below hb2
    have w2 := Lib.hid (below_trans b1 hb2)
    obtain ⟨g, cg, rfl, hrows⟩ := ho.rows
    have c0 := blk_cell h2.hd 0
    simp at c0
    have l0 : w.heap.size + 1 < W2.heap.size := blk_lt h2.hd
    have HR := Lib.hid (And.intro c0 (And.intro l0 hrows))
    have hlen : (courseV carry ps ins start t).length ≤ 9223372036854775807 := by have := HE.out.2.2; omega
    have HL := Lib.hid hlen
    clear hb2 b1 h1 s1 h2 ho hrows c0 l0 hlen
    go_wp2_with fail
    refine (indexI_ok 34 #[.pointer (some ⟨w.heap.size + 1, 0, none⟩)] (fun x => decide (limit < x)) g _ cg (courseV carry ps ins start t) _ rfl HL.out HR.out.2.2
      (fun W x hb => (over_ok x limit (w.heap.size + 1) W (cell_call hb HR.out.2.1 HR.out.1)).mono (by rintro e W' ⟨rfl, rfl⟩; exact ⟨rfl, below_self _⟩)) (enters_of Try.func34 (by kernel_rfl) rfl)).mono ?_
    rintro e W3 ⟨rfl, hb3⟩
    have w3 := Lib.hid (below_trans w2.out hb3)
    clear hb3
    go_wp2_with fail
    go_ret2
    exact ⟨rfl, w3.out⟩
  · have e1 : firstV carry ps ins start t limit = 0 := if_neg he
    have e2 : courseV carry ps ins start t = [] := if_neg he
    rw [e1]
    have hD : decide (askedE carry ps start ins t = 0) = false := decide_eq_false he
    have HE := Lib.hid e2
    clear e1 e2
    go_enter Try.func16, Try.ntmps16
    go_wp2_with fail
    obtain ⟨W1, hW1⟩ : ∃ W' : World, ((w.alloc (.cells #[.int .i64 carry, .slice a n cap] 28)).alloc (.cells #[.int .i64 limit] 3)) = W' := ⟨_, rfl⟩
    have h1 : Has W1 [(w.heap.size + 1, .cells #[.int .i64 limit] 3 (0, 0)), (w.heap.size, .cells #[.int .i64 carry, .slice a n cap] 28 (0, 0))] := by rw [← hW1]; simpa using (((Has.nil w).new _).new _)
    have s1 : W1.heap.size = w.heap.size + 1 + 1 := by rw [← hW1]; simp
    have b1 : Below w.heap.size w W1 := by rw [← hW1]; exact (below_alloc (below_alloc (below_self w) _) _)
    rw [hW1]
    clear hW1
    refine (course_ok carry a n cap ps start ai ni ci hs ins t _ hn hl (Hm.out.later b1) hni hli (Hmi.out.later b1)).mono ?_
    rintro e W2 ⟨v, rfl, ho, hb2⟩
    rw [HE.out] at ho
    have w2 := Lib.hid (below_trans b1 hb2)
    obtain ⟨g, cg, rfl, hrows⟩ := ho.rows
    clear hb2 b1 h1 s1 ho hrows
    generalize hE : askedE carry ps start ins t = E at he hD ⊢
    have HF := Lib.hid hE
    clear hE
    go_wp2_with fail
    go_ret2
    exact ⟨by rw [HF.out]; rfl, w2.out⟩

set_option maxHeartbeats 1000000 in
theorem peak_ok (carry : Int) (a : Option Addr) (n cap : Nat) (ps : List Prt) (start : Int) (ai : Option Addr) (ni ci : Nat) (hs : List Hd) (ins : List (List Int)) (t : Int) (w : World) (hn : ps.length = n) (hl : n ≤ 9223372036854775807) (hm : RowsAt w.heap.size w a 3 (Prts ps))
    (hni : ins.length = ni) (hli : ni ≤ 9223372036854775807) (hmi : InsAt w.heap.size w ai hs ins) :
    Calls Try.prog 17 #[.agg #[.int .i64 carry, .slice a n cap], .int .i64 start, .slice ai ni ci, .int .i64 t] w fun e W' => e = .returned (.tuple #[.int .i64 (peakT carry ps ins start t), .int .i64 (peakV carry ps ins start t), .int .i64 (askedE carry ps start ins t)]) ∧ Below w.heap.size w W' := by
  have Hm := Lib.hid hm; clear hm
  have Hmi := Lib.hid hmi; clear hmi
  by_cases he : askedE carry ps start ins t = 0
  · have e1 : peakT carry ps ins start t = idxI (fun x => decide (peakV carry ps ins start t = x)) (courseV carry ps ins start t) := if_pos he
    have e2 : peakV carry ps ins start t = topI (courseV carry ps ins start t) := if_pos he
    rw [e1, e2, he]
    have HE := Lib.hid (And.intro he (courseV_len he))
    clear he e1 e2
    go_enter Try.func17, Try.ntmps17
    go_wp2_with fail
    obtain ⟨W1, hW1⟩ : ∃ W' : World, (w.alloc (.cells #[.int .i64 carry, .slice a n cap] 28)) = W' := ⟨_, rfl⟩
    have h1 : Has W1 [(w.heap.size, .cells #[.int .i64 carry, .slice a n cap] 28 (0, 0))] := by rw [← hW1]; simpa using ((Has.nil w).new _)
    have s1 : W1.heap.size = w.heap.size + 1 := by rw [← hW1]; simp
    have b1 : Below w.heap.size w W1 := by rw [← hW1]; exact (below_alloc (below_self w) _)
    rw [hW1]
    clear hW1
    refine (course_ok carry a n cap ps start ai ni ci hs ins t _ hn hl (Hm.out.later b1) hni hli (Hmi.out.later b1)).mono ?_
    rintro e W2 ⟨v, rfl, ho, hb2⟩
    rw [HE.out.1]
    have w2 := Lib.hid (below_trans b1 hb2)
    obtain ⟨g, cg, rfl, hrows⟩ := ho.rows
    have HR := Lib.hid hrows
    have hlen : (courseV carry ps ins start t).length ≤ 9223372036854775807 := by have := HE.out.2.2; omega
    have HL := Lib.hid hlen
    clear hb2 b1 h1 s1 ho hrows hlen
    go_wp2_with fail
    refine (max_ok g _ cg (courseV carry ps ins start t) _ rfl HE.out.2.1 HL.out HR.out).mono ?_
    rintro e W3 ⟨rfl, hb3⟩
    have w3 := Lib.hid (below_trans w2.out hb3)
    have HR3 := Lib.hid (HR.out.later hb3)
    clear hb3
    go_wp2_with fail
    refine (index_ok _ g _ cg (courseV carry ps ins start t) _ rfl HL.out HR3.out).mono ?_
    rintro e W4 ⟨rfl, hb4⟩
    have w4 := Lib.hid (below_trans w3.out hb4)
    clear hb4
    go_wp2_with fail
    go_ret3
    exact ⟨rfl, w4.out⟩
  · have e1 : peakT carry ps ins start t = 0 := if_neg he
    have e3 : peakV carry ps ins start t = 0 := if_neg he
    have e2 : courseV carry ps ins start t = [] := if_neg he
    rw [e1, e3]
    have hD : decide (askedE carry ps start ins t = 0) = false := decide_eq_false he
    have HE := Lib.hid e2
    clear e1 e2 e3
    go_enter Try.func17, Try.ntmps17
    go_wp2_with fail
    obtain ⟨W1, hW1⟩ : ∃ W' : World, (w.alloc (.cells #[.int .i64 carry, .slice a n cap] 28)) = W' := ⟨_, rfl⟩
    have h1 : Has W1 [(w.heap.size, .cells #[.int .i64 carry, .slice a n cap] 28 (0, 0))] := by rw [← hW1]; simpa using ((Has.nil w).new _)
    have s1 : W1.heap.size = w.heap.size + 1 := by rw [← hW1]; simp
    have b1 : Below w.heap.size w W1 := by rw [← hW1]; exact (below_alloc (below_self w) _)
    rw [hW1]
    clear hW1
    refine (course_ok carry a n cap ps start ai ni ci hs ins t _ hn hl (Hm.out.later b1) hni hli (Hmi.out.later b1)).mono ?_
    rintro e W2 ⟨v, rfl, ho, hb2⟩
    rw [HE.out] at ho
    have w2 := Lib.hid (below_trans b1 hb2)
    obtain ⟨g, cg, rfl, hrows⟩ := ho.rows
    clear hb2 b1 h1 s1 ho hrows
    generalize hE : askedE carry ps start ins t = E at he hD ⊢
    have HF := Lib.hid hE
    clear hE
    go_wp2_with fail
    go_ret3
    exact ⟨by rw [HF.out]; rfl, w2.out⟩
end Go.Proofs.Ytnpcafhmkjdhaaa
