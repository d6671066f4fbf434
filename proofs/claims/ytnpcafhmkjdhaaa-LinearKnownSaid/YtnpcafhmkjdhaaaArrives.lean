/- Chapter 06: the program's Arrives. -/
import Derived.Test.YtnpcafhmkjdhaaaLoop
namespace Go.Proofs.Ytnpcafhmkjdhaaa
open Go Go.RowKit Go.Shelf
attribute [local go_sem] Oper.semAt_some

set_option maxRecDepth 100000 in
set_option maxHeartbeats 2000000 in
theorem arrives_err (carry : Int) (a : Option Addr) (n cap : Nat) (ps : List Prt) (ai : Option Addr) (ni ci : Nat) (hs : List Hd) (ins : List (List Int)) (t : Int) (w : World) (hn : ps.length = n) (hl : n ≤ 9223372036854775807) (hm : RowsAt w.heap.size w a 3 (Prts ps))
    (hni : ins.length = ni) (hli : ni ≤ 9223372036854775807) (hmi : InsAt w.heap.size w ai hs ins) (he : askedE carry ps 0 ins t ≠ 0) :
    Calls Try.prog 12 #[.agg #[.int .i64 carry, .slice a n cap], .slice ai ni ci, .int .i64 t] w fun e W' => e = .returned (.tuple #[.int .i64 0, .int .i64 (askedE carry ps 0 ins t)]) ∧ Below w.heap.size w W' := by
  have Hm := Lib.hid hm; clear hm
  have Hn := Lib.hid hn; clear hn
  have Hmi := Lib.hid hmi; clear hmi
  have Hni := Lib.hid hni; clear hni
  have hD : decide (askedE carry ps 0 ins t = 0) = false := decide_eq_false he
  refine (callsIn_wide (n := 0)).1 ?_
  refine callsIn_of_wp_marks Try.func12 rfl trivial ?_ rfl
  simp only [Try.ntmps12, List.size_toArray, List.length_cons, List.length_nil, Nat.reduceAdd, Nat.reduceSub, Array.replicate_succ, Array.replicate_zero, List.push_toArray, List.append_toArray, List.nil_append, List.cons_append]
  gi_wp2_with fail
  obtain ⟨W1, hW1⟩ : ∃ W' : World, (w.alloc (.cells #[.int .i64 carry, .slice a n cap] 28)) = W' := ⟨_, rfl⟩
  have h1 : Has W1 [(w.heap.size, .cells #[.int .i64 carry, .slice a n cap] 28 (0, 0))] := by rw [← hW1]; simpa using ((Has.nil w).new _)
  have s1 : W1.heap.size = w.heap.size + 1 := by rw [← hW1]; simp
  have b1 : Below w.heap.size w W1 := by rw [← hW1]; exact (below_alloc (below_self w) _)
  rw [hW1]
  clear hW1
  refine (callsIn_wide.2 (asked_ok carry a n cap ps 0 ai ni ci hs ins t _ Hn.out hl (Hm.out.later b1) Hni.out hli (Hmi.out.later b1))).mono ?_
  rintro e W2 ⟨rfl, hb2⟩
  have w2 := Lib.hid (below_trans b1 hb2)
  clear hb2 b1 h1 s1
  generalize hE : askedE carry ps 0 ins t = E at he hD ⊢
  have HE := Lib.hid hE
  clear hE
  gi_wp2_with fail
  exact ⟨_, results_tmp2 rfl _ _ _, by rw [HE.out]; rfl, w2.out⟩
/-- What the loop's variable holds after k rounds. -/
def lastV (ps : List Prt) (ins : List (List Int)) : Nat → Int
  | 0 => 0
  | k + 1 => arr ps ins k

set_option maxRecDepth 100000 in
set_option maxHeartbeats 2000000 in
theorem arrives_zero (carry : Int) (a : Option Addr) (n cap : Nat) (ps : List Prt) (ai : Option Addr) (ni ci : Nat) (hs : List Hd) (ins : List (List Int)) (T : Nat) (w : World) (hn : ps.length = n) (hl : n ≤ 9223372036854775807) (hm : RowsAt w.heap.size w a 3 (Prts ps))
    (hni : ins.length = ni) (hli : ni ≤ 9223372036854775807) (hmi : InsAt w.heap.size w ai hs ins) (he : askedE carry ps 0 ins T = 0) :
    Calls Try.prog 12 #[.agg #[.int .i64 carry, .slice a n cap], .slice ai ni ci, .int .i64 T] w fun e W' => e = .returned (.tuple #[.int .i64 (arr ps ins T), .int .i64 0]) ∧ Below w.heap.size w W' := by
  have Hm := Lib.hid hm; clear hm
  have Hn := Lib.hid hn; clear hn
  have Hmi := Lib.hid hmi; clear hmi
  have Hni := Lib.hid hni; clear hni
  obtain ⟨hP, _, hI, _, ht0, ht1⟩ := asked_zero he
  have HPI := Lib.hid (And.intro hP hI)
  clear hP hI
  have HE := Lib.hid he
  clear he
  have hT : T ≤ 1000 := by omega
  clear ht0 ht1
  have hw1 : IntKind.i64.wrap ((T : Int) + 1) = ((T + 1 : Nat) : Int) := by rw [IntWalk.i64_in _ (by omega)]; rfl
  refine (callsIn_wide (n := 0)).1 ?_
  refine callsIn_of_wp_marks Try.func12 rfl trivial ?_ rfl
  simp only [Try.ntmps12, List.size_toArray, List.length_cons, List.length_nil, Nat.reduceAdd, Nat.reduceSub, Array.replicate_succ, Array.replicate_zero, List.push_toArray, List.append_toArray, List.nil_append, List.cons_append]
  gi_wp2_with fail
  obtain ⟨W1, hW1⟩ : ∃ W' : World, (w.alloc (.cells #[.int .i64 carry, .slice a n cap] 28)) = W' := ⟨_, rfl⟩
  have h1 : Has W1 [(w.heap.size, .cells #[.int .i64 carry, .slice a n cap] 28 (0, 0))] := by rw [← hW1]; simpa using ((Has.nil w).new _)
  have s1 : W1.heap.size = w.heap.size + 1 := by rw [← hW1]; simp
  have b1 : Below w.heap.size w W1 := by rw [← hW1]; exact (below_alloc (below_self w) _)
  rw [hW1]
  clear hW1
  refine (callsIn_wide.2 (asked_ok carry a n cap ps 0 ai ni ci hs ins T _ Hn.out hl (Hm.out.later b1) Hni.out hli (Hmi.out.later b1))).mono ?_
  rintro e W2 ⟨rfl, hb2⟩
  rw [HE.out]
  have h2 := h1.below hb2
  have w2 := Lib.hid (below_trans b1 hb2)
  clear hb2 b1 h1 s1
  have c0 := blk_cell h2.hd 0
  have c1 := blk_cell h2.hd 1
  simp at c0 c1
  have l0 : w.heap.size < W2.heap.size := blk_lt h2.hd
  clear h2
  gi_wp2_with fail
  refine (coming_ok carry a n cap ai ni ci _ _).mono ?_
  rintro e w' ⟨rfl, rfl⟩
  gi_wp2
  have hA : ∀ (A : World) (o : Obj) (m : Nat), A.heap.size = m → (A.alloc o).heap[m]? = some o := fun A o m h => by rw [← h]; exact blk_new A o
  have hB0 := w2.out
  clear c0 c1 l0 hw1
  refine range_wide rfl (enters_of Try.func49 (by kernel_rfl) rfl) ?_
  intro rec hrec hround
  simp only [World.size_alloc, Nat.add_assoc, Nat.reduceAdd] at hround ⊢
  refine (coming2_ok _ (W2.heap.size + 1 + 1 + 1) (W2.heap.size + 1 + 1 + 1 + 1) (W2.heap.size + 1) (W2.heap.size + 1 + 1) (T + 1) a n cap ps ai ni ci hs ins Hn.out Hni.out HPI.out.1 HPI.out.2 (by omega)
    (fun k W => LJ w carry a n cap ai ni ci ((T + 1 : Nat) : Int) (W2.heap.size + 1) (rec .ready none) W ∧ W.heap[W2.heap.size]? = some (.cells #[.int .i64 (lastV ps ins k)] 3 (0, 0))) ?hread ?htick ?hY _ ?h0).mono ?done
  case hread =>
    intro k W h
    exact h.1.read Hm.out Hmi.out
  case htick =>
    intro k W W' h _ hb
    exact ⟨h.1.tick hb, blk_below h.2 hb⟩
  case h0 =>
    refine ⟨LJ.new (below_alloc hB0 _) (by simp), ?_⟩
    exact blk_alloc (blk_alloc (blk_alloc (blk_alloc (blk_alloc (blk_alloc (hA _ _ _ rfl) _) _) _) _) _) _
  case hY =>
    intro k W hk h
    refine (hround #[.int .i64 k, .int .i64 (arr ps ins k)] W (fun d W' => d = true ∧ (LJ w carry a n cap ai ni ci ((T + 1 : Nat) : Int) (W2.heap.size + 1) (rec .ready none) W' ∧ W'.heap[W2.heap.size]? = some (.cells #[.int .i64 (arr ps ins k)] 3 (0, 0)))) rfl h.1.loop ?_).mono (by
      rintro e W' ⟨d, rfl, rfl, h⟩
      exact ⟨rfl, h⟩)
    generalize arr ps ins k = v
    have HJ := Lib.hid h; clear h
    have Hround := Lib.hid hround; clear hround
    have Hrec := Lib.hid hrec; clear hrec
    gi_wp2
    refine ⟨HJ.out.1.loop, ?_⟩
    obtain ⟨W4, hW4⟩ : ∃ W4, W.putObj (W2.heap.size + 6) (rec .busy none) = W4 := ⟨_, rfl⟩
    have hJ4 : LJ w carry a n cap ai ni ci ((T + 1 : Nat) : Int) (W2.heap.size + 1) (rec .busy none) W4 := by rw [← hW4]; exact HJ.out.1.put rfl _
    have hO4 : W4.heap[W2.heap.size]? = some (.cells #[.int .i64 (lastV ps ins k)] 3 (0, 0)) := by rw [← hW4]; exact blk_put HJ.out.2 (by omega)
    rw [hW4]
    have HJ4 := Lib.hid hJ4
    have c0 := blk_cell hO4 0
    have f0 := blk_frozen hO4 0
    have HO4 := Lib.hid hO4
    simp at c0
    clear hJ4 hO4 hW4 HJ Hround
    gi_wp2
    have hb := w2.out.size
    have q := HJ4.out.set (p := ⟨W2.heap.size, 0, none⟩) (by simpa using hb) (by simp) (.int .i64 v)
    exact ⟨q.loop, rfl, q.put rfl _, blk_put (blk_set_same HO4.out) (by omega)⟩
  case done =>
    rintro e W3 ⟨⟨v, rfl⟩, h⟩
    refine ⟨⟨_, rfl⟩, .inl ⟨h.1.loop, ?_⟩⟩
    obtain ⟨W5, hW5⟩ : ∃ W5, W3.putObj (W2.heap.size + 6) (rec .exhausted none) = W5 := ⟨_, rfl⟩
    have hJ5 : LJ w carry a n cap ai ni ci ((T + 1 : Nat) : Int) (W2.heap.size + 1) (rec .exhausted none) W5 := by rw [← hW5]; exact h.1.put rfl _
    have hO5 : W5.heap[W2.heap.size]? = some (.cells #[.int .i64 (arr ps ins T)] 3 (0, 0)) := by rw [← hW5]; exact blk_put h.2 (by omega)
    rw [hW5]
    generalize hv : arr ps ins T = v at hO5
    have HV := Lib.hid hv
    clear hv
    have HJ5 := Lib.hid hJ5
    have c0 := blk_cell hO5 0
    simp at c0
    clear hJ5 hO5 hW5 h hround hrec
    gi_wp2
    refine ⟨by simp, .inl ⟨_, _, rfl, run_takeDeferred HJ5.out.marks, ?_⟩⟩
    refine ⟨_, results_tmp2 rfl _ _ _, by rw [HV.out]; rfl, ?_⟩
    have hB5 := HJ5.out.base
    exact below_put HJ5.out.below (by omega) _

/-- What Arrives returns. -/
def arrV (carry : Int) (ps : List Prt) (ins : List (List Int)) (t : Int) : Int := if askedE carry ps 0 ins t = 0 then arr ps ins t else 0
theorem arrives_ok (carry : Int) (a : Option Addr) (n cap : Nat) (ps : List Prt) (ai : Option Addr) (ni ci : Nat) (hs : List Hd) (ins : List (List Int)) (t : Int) (w : World) (hn : ps.length = n) (hl : n ≤ 9223372036854775807) (hm : RowsAt w.heap.size w a 3 (Prts ps))
    (hni : ins.length = ni) (hli : ni ≤ 9223372036854775807) (hmi : InsAt w.heap.size w ai hs ins) :
    Calls Try.prog 12 #[.agg #[.int .i64 carry, .slice a n cap], .slice ai ni ci, .int .i64 t] w fun e W' => e = .returned (.tuple #[.int .i64 (arrV carry ps ins t), .int .i64 (askedE carry ps 0 ins t)]) ∧ Below w.heap.size w W' := by
  by_cases he : askedE carry ps 0 ins t = 0
  · obtain ⟨_, _, _, _, ht0, _⟩ := asked_zero he
    obtain ⟨T, rfl⟩ : ∃ T : Nat, t = T := ⟨t.toNat, by omega⟩
    have e1 : arrV carry ps ins T = arr ps ins T := if_pos he
    rw [e1, he]
    exact arrives_zero carry a n cap ps ai ni ci hs ins T w hn hl hm hni hli hmi he
  · have e1 : arrV carry ps ins t = 0 := if_neg he
    rw [e1]
    exact arrives_err carry a n cap ps ai ni ci hs ins t w hn hl hm hni hli hmi he
end Go.Proofs.Ytnpcafhmkjdhaaa
