/- Chapter 06: the program's Course. -/
import Derived.Test.YtmghcinbdfeeoaaGreatLoop
import Derived.Test.YtmghcinbdfeeoaaGreatLev
import Derived.Test.YtmghcinbdfeeoaaGreatRound
import Derived.Deep.DrawnRows
namespace Go.Proofs.YtmghcinbdfeeoaaGreat
open Go Go.RowKit Go.Shelf
attribute [local go_sem] Oper.semAt_some
attribute [local go_sem ↓] Go.wp_at_zero Go.wp_at_succ

/-- Between two rounds of Course's loop. R: the block of the first slice; behind it the box of out. -/
structure CJ (w : World) (carry : Int) (a : Option Addr) (n cap : Nat) (ai : Option Addr) (ni ci : Nat) (m : Int) (R : Nat) (o : Obj) (L : List Int) (W : World) : Prop where
  lj : LJ w carry a n cap ai ni ci m (R + 2) o W
  base : w.heap.size < R
  lin : W.heap[w.heap.size]? = some (.cells #[.int .i64 carry, .slice a n cap] 80 (0, 0))
  out : ∃ v, W.heap[R + 1]? = some (.cells #[v] 47 (0, 0)) ∧ OwnI R W v L ∧ ∀ j, R < j → j < R + 8 → some j ≠ v.ownBlock
theorem CJ.tick {w : World} {carry : Int} {a : Option Addr} {n cap : Nat} {ai : Option Addr} {ni ci : Nat} {m : Int} {R : Nat} {o : Obj} {L : List Int} {W W' : World}
    (h : CJ w carry a n cap ai ni ci m R o L W) (hb : Below W.heap.size W W') : CJ w carry a n cap ai ni ci m R o L W' := by
  obtain ⟨v, h1, h2, h3⟩ := h.out
  exact ⟨h.lj.tick hb, h.base, blk_below h.lin hb, v, blk_below h1 hb, h2.later hb, h3⟩
theorem CJ.put {w : World} {carry : Int} {a : Option Addr} {n cap : Nat} {ai : Option Addr} {ni ci : Nat} {m : Int} {R : Nat} {o : Obj} {L : List Int} {W : World}
    (h : CJ w carry a n cap ai ni ci m R o L W) {l : Nat} (hl : l = R + 7) (o' : Obj) : CJ w carry a n cap ai ni ci m R o' L (W.putObj l o') := by
  subst hl
  have hR := h.base
  obtain ⟨v, h1, h2, h3⟩ := h.out
  exact ⟨h.lj.put rfl _, h.base, blk_put h.lin (by omega), v, blk_put h1 (by omega), owns_put_ne h2 (h3 _ (by omega) (by omega)) _, h3⟩

theorem CJ.grown {w : World} {carry : Int} {a : Option Addr} {n cap : Nat} {ai : Option Addr} {ni ci : Nat} {m : Int} {R : Nat} {o : Obj} {L : List Int} {W w1 : World} {x : Obj} {av : Option Addr} {len cv q g cap1 : Nat} {y : Int}
    (h : CJ w carry a n cap ai ni ci m R o L W) (hu : W.heap[R + 1]? = some (.cells #[.slice av len cv] 47 (0, 0))) (ho : W.ownsRow R 3 1 (.slice av len cv) len (intsV L)) (hne : ∀ j, R < j → j < R + 8 → some j ≠ (Value.slice av len cv).ownBlock)
    (hg : (W.alloc x).drew.grownBy w1 (Value.slice av len cv).ownBlock) (hown : w1.ownsRow R 3 1 (.slice (some ⟨g, 0, none⟩) q cap1) q (intsV L ++ [.int .i64 y])) (hq : q = L.length + 1) (hat : (Value.slice av len cv).ownBlock = some g ∨ g = W.heap.size + 1) :
    CJ w carry a n cap ai ni ci m R o (L ++ [y]) (w1.setCell ⟨R + 1, 0, none⟩ (.slice (some ⟨g, 0, none⟩) q cap1)) := by
  have hR := h.base
  have hs : R + 8 ≤ W.heap.size := h.lj.size
  have hro : (W.alloc x).drew.ownsRow R 3 1 (.slice av len cv) len (intsV L) := World.ownsRow.alloc ho x
  have hlj : LJ w carry a n cap ai ni ci m (R + 2) o w1 := (show LJ w carry a n cap ai ni ci m (R + 2) o (W.alloc x).drew from h.lj.tick (below_alloc (below_self W) x).drew).grown hro hg (by omega) (fun j h1 h2 => hne j (by omega) (by omega))
  have hne' : ∀ j, R < j → j < R + 8 → some j ≠ (Value.slice (some ⟨g, 0, none⟩) q cap1).ownBlock := by
    intro j h1 h2 h3
    have h4 : g = j := by simpa [Value.ownBlock] using h3.symm
    subst h4
    rcases hat with h | h
    · exact hne g h1 h2 h.symm
    · omega
  refine ⟨hlj.set (by simp; omega) (by simp) _, hR, ?_, _, blk_set_same (grown_blk hg (show (W.alloc x).drew.heap[R + 1]? = _ from blk_alloc hu x) (hne _ (by omega) (by omega))), ?_, hne'⟩
  · exact blk_set (grown_blk hg (show (W.alloc x).drew.heap[w.heap.size]? = _ from blk_alloc h.lin x) (own_ne hro (by omega))) (by simp; omega) _
  · unfold OwnI
    rw [intsV_app, List.length_append]
    have : L.length + [y].length = q := by rw [hq]; rfl
    rw [this]
    exact owns_set_ne hown (hne' _ (by simp) (by simp)) _

theorem own_drew {W : World} {base : Nat} {e : TypeId} {k : Nat} {v : Value} {n : Nat} {xs : List Value} (h : W.ownsRow base e k v n xs) : W.drew.ownsRow base e k v n xs := h

set_option maxRecDepth 100000 in
set_option maxHeartbeats 2000000 in
theorem course_err (carry : Int) (a : Option Addr) (n cap : Nat) (ps : List Prt) (start : Int) (ai : Option Addr) (ni ci : Nat) (hs : List Hd) (ins : List (List Int)) (t : Int) (w : World) (hn : ps.length = n) (hl : n ≤ 9223372036854775807) (hm : RowsAt w.heap.size w a 3 (Prts ps))
    (hni : ins.length = ni) (hli : ni ≤ 9223372036854775807) (hmi : InsAt w.heap.size w ai hs ins) (he : askedE carry ps start ins t ≠ 0) :
    Calls Tryz.prog 43 #[.agg #[.int .i64 carry, .slice a n cap], .int .i64 start, .slice ai ni ci, .int .i64 t] w fun e W' => ∃ v, e = .returned (.tuple #[v, .int .i64 (askedE carry ps start ins t)]) ∧ OwnI w.heap.size W' v [] ∧ Below w.heap.size w W' := by
  have Hm := Lib.hid hm; clear hm
  have Hn := Lib.hid hn; clear hn
  have Hmi := Lib.hid hmi; clear hmi
  have Hni := Lib.hid hni; clear hni
  have hD : decide (askedE carry ps start ins t = 0) = false := decide_eq_false he
  refine (callsIn_wide (n := 0)).1 ?_
  refine callsIn_of_wp_marks Tryz.func43 rfl trivial ?_ rfl
  simp only [Tryz.ntmps43, List.size_toArray, List.length_cons, List.length_nil, Nat.reduceAdd, Nat.reduceSub, Array.replicate_succ, Array.replicate_zero, List.push_toArray, List.append_toArray, List.nil_append, List.cons_append]
  gi_wp2_with fail
  obtain ⟨W1, hW1⟩ : ∃ W' : World, (w.alloc (.cells #[.int .i64 carry, .slice a n cap] 80)) = W' := ⟨_, rfl⟩
  have h1 : Has W1 [(w.heap.size, .cells #[.int .i64 carry, .slice a n cap] 80 (0, 0))] := by rw [← hW1]; simpa using ((Has.nil w).new _)
  have s1 : W1.heap.size = w.heap.size + 1 := by rw [← hW1]; simp
  have b1 : Below w.heap.size w W1 := by rw [← hW1]; exact (below_alloc (below_self w) _)
  rw [hW1]
  clear hW1
  refine (callsIn_wide.2 (asked_ok carry a n cap ps start ai ni ci hs ins t _ Hn.out hl (Hm.out.later b1) Hni.out hli (Hmi.out.later b1))).mono ?_
  rintro e W2 ⟨rfl, hb2⟩
  have w2 := Lib.hid (below_trans b1 hb2)
  clear hb2 b1 h1 s1
  generalize hE : askedE carry ps start ins t = E at he hD ⊢
  have HE := Lib.hid hE
  clear hE
  gi_wp2_with fail
  exact ⟨_, results_tmp2 rfl _ _ _, _, by rw [HE.out]; rfl, OwnI.nil _ _, w2.out⟩

set_option maxRecDepth 100000 in
set_option maxHeartbeats 2000000 in
theorem course_zero (carry : Int) (a : Option Addr) (n cap : Nat) (ps : List Prt) (start : Int) (ai : Option Addr) (ni ci : Nat) (hs : List Hd) (ins : List (List Int)) (T : Nat) (w : World) (hn : ps.length = n) (hl : n ≤ 9223372036854775807) (hm : RowsAt w.heap.size w a 3 (Prts ps))
    (hni : ins.length = ni) (hli : ni ≤ 9223372036854775807) (hmi : InsAt w.heap.size w ai hs ins) (he : askedE carry ps start ins T = 0) :
    Calls Tryz.prog 43 #[.agg #[.int .i64 carry, .slice a n cap], .int .i64 start, .slice ai ni ci, .int .i64 T] w fun e W' => ∃ v, e = .returned (.tuple #[v, .int .i64 0]) ∧ OwnI w.heap.size W' v (levs carry ps ins start T) ∧ Below w.heap.size w W' := by
  have Hm := Lib.hid hm; clear hm
  have Hn := Lib.hid hn; clear hn
  have Hmi := Lib.hid hmi; clear hmi
  have Hni := Lib.hid hni; clear hni
  obtain ⟨hP, hC, hI, hS, ht0, ht1⟩ := asked_zero he
  have HPI := Lib.hid (And.intro hP (And.intro hI (And.intro hC hS)))
  clear hP hI hC hS
  have HE := Lib.hid he
  clear he
  have hT : T ≤ 1000 := by omega
  clear ht0 ht1
  refine (callsIn_wide (n := 0)).1 ?_
  refine callsIn_of_wp_marks Tryz.func43 rfl trivial ?_ rfl
  simp only [Tryz.ntmps43, List.size_toArray, List.length_cons, List.length_nil, Nat.reduceAdd, Nat.reduceSub, Array.replicate_succ, Array.replicate_zero, List.push_toArray, List.append_toArray, List.nil_append, List.cons_append]
  gi_wp2_with fail
  obtain ⟨W1, hW1⟩ : ∃ W' : World, (w.alloc (.cells #[.int .i64 carry, .slice a n cap] 80)) = W' := ⟨_, rfl⟩
  have h1 : Has W1 [(w.heap.size, .cells #[.int .i64 carry, .slice a n cap] 80 (0, 0))] := by rw [← hW1]; simpa using ((Has.nil w).new _)
  have s1 : W1.heap.size = w.heap.size + 1 := by rw [← hW1]; simp
  have b1 : Below w.heap.size w W1 := by rw [← hW1]; exact (below_alloc (below_self w) _)
  rw [hW1]
  clear hW1
  refine (callsIn_wide.2 (asked_ok carry a n cap ps start ai ni ci hs ins T _ Hn.out hl (Hm.out.later b1) Hni.out hli (Hmi.out.later b1))).mono ?_
  rintro e W2 ⟨rfl, hb2⟩
  rw [HE.out]
  have h2 := h1.below hb2
  have w2 := Lib.hid (below_trans b1 hb2)
  clear hb2 b1 h1 s1
  have c0 := blk_cell h2.hd 0
  have c1 := blk_cell h2.hd 1
  simp at c0 c1
  have l0 : w.heap.size < W2.heap.size := blk_lt h2.hd
  have HL := Lib.hid h2.hd
  clear h2
  gi_wp2_with fail
  refine (coming_ok carry a n cap ai ni ci _ _).mono ?_
  rintro e w' ⟨rfl, rfl⟩
  gi_wp2
  have hA : ∀ (A : World) (o : Obj) (m : Nat), A.heap.size = m → (A.alloc o).heap[m]? = some o := fun A o m h => by rw [← h]; exact blk_new A o
  have hB0 := w2.out
  clear c0 c1
  refine range_wide rfl (enters_of Tryz.func105 (by kernel_rfl) rfl) ?_
  intro rec hrec hround
  simp only [World.size_alloc, Nat.add_assoc, Nat.reduceAdd] at hround ⊢
  refine (coming2_ok _ (W2.heap.size + 2 + 1 + 1) (W2.heap.size + 2 + 1 + 1 + 1) (W2.heap.size + 2) (W2.heap.size + 2 + 1) T a n cap ps ai ni ci hs ins Hn.out Hni.out HPI.out.1 HPI.out.2.1 (by omega)
    (fun k W => CJ w carry a n cap ai ni ci T W2.heap.size (rec .ready none) (levs carry ps ins start k) W) ?hread ?htick ?hY _ ?h0).mono ?done
  case hread =>
    intro k W h
    exact h.lj.read Hm.out Hmi.out
  case htick =>
    intro k W W' h _ hb
    exact h.tick hb
  case h0 =>
    refine ⟨LJ.new (below_alloc (below_alloc hB0 _) _) (by simp), l0, ?_, .slice (some ⟨W2.heap.size, 0, none⟩) 1 1, ?_, ?_, ?_⟩
    · exact blk_alloc (blk_alloc (blk_alloc (blk_alloc (blk_alloc (blk_alloc (blk_alloc (blk_alloc HL.out _) _) _) _) _) _) _) _
    · exact blk_alloc (blk_alloc (blk_alloc (blk_alloc (blk_alloc (blk_alloc (hA _ _ _ (by simp)) _) _) _) _) _) _
    · rw [levs_zero]
      refine owns_of_blk (xs := [.int .i64 start]) ?_ (Nat.le_refl _) rfl (by unfold maxLen; simp)
      exact blk_alloc (blk_alloc (blk_alloc (blk_alloc (blk_alloc (blk_alloc (blk_alloc (hA _ _ _ rfl) _) _) _) _) _) _) _
    · intro j h1 _ h2
      simp [Value.ownBlock] at h2
      omega
  case hY =>
    intro k W hk h
    rw [levs_succ]
    have hlev := levs_get (carry := carry) (ps := ps) (ins := ins) (start := start) (Nat.le_refl k)
    have hlen := levs_len carry ps ins start k
    have hle := lev_le (carry := carry) (start := start) HPI.out.1 HPI.out.2.1 HPI.out.2.2.1.1 HPI.out.2.2.2 k
    have hal := arr_all HPI.out.1 HPI.out.2.1 k
    have hnx : lev carry ps ins start (k + 1) = max 0 (lev carry ps ins start k + arr ps ins k - carry) := rfl
    obtain ⟨hc0, hc1⟩ := HPI.out.2.2.1
    generalize lev carry ps ins start k = x at hlev hle hnx
    generalize lev carry ps ins start (k + 1) = y at hnx ⊢
    generalize levs carry ps ins start k = L at h hlev hlen
    generalize arr ps ins k = v at hal hnx
    refine (hround #[.int .i64 k, .int .i64 v] W (fun d W' => d = true ∧ CJ w carry a n cap ai ni ci T W2.heap.size (rec .ready none) (L ++ [y]) W') rfl h.lj.loop ?_).mono (by
      rintro e W' ⟨d, rfl, rfl, h⟩
      exact ⟨rfl, h⟩)
    have HJ := Lib.hid h; clear h
    have Hround := Lib.hid hround; clear hround
    have Hrec := Lib.hid hrec; clear hrec
    have HX := Lib.hid (And.intro hlev (And.intro hlen hnx))
    clear hlev hlen hnx
    gi_wp2
    refine ⟨HJ.out.lj.loop, ?_⟩
    obtain ⟨W4, hW4⟩ : ∃ W4, W.putObj (W2.heap.size + 7) (rec .busy none) = W4 := ⟨_, rfl⟩
    have hJ4 : CJ w carry a n cap ai ni ci T W2.heap.size (rec .busy none) L W4 := by rw [← hW4]; exact HJ.out.put rfl _
    rw [hW4]
    obtain ⟨u, hu, ho, hne⟩ := hJ4.out
    obtain ⟨g, cg, rfl, hrows⟩ := ho.rows
    obtain ⟨bx, ox, rfl, hbx, hcx⟩ := ints_at hrows k (by rw [HX.out.2.1]; omega)
    rw [HX.out.1] at hcx
    unfold OwnI at ho
    rw [HX.out.2.1] at hu ho hne
    have HO := Lib.hid (And.intro hu (And.intro ho hne))
    have c0 := blk_cell hJ4.lin 0
    have c2 := blk_cell hu 0
    simp at c0 c2
    have HJ4 := Lib.hid hJ4
    have hltI : (k : Int) < (k : Int) + 1 := by omega
    clear hJ4 hu ho hne hrows hW4 HJ Hround
    gi_wp2_with fail
    have hw1 : IntKind.i64.wrap (x + v) = x + v := IntWalk.i64_in _ (by omega)
    have hw2 : IntKind.i64.wrap (x + v - carry) = x + v - carry := IntWalk.i64_in _ (by omega)
    have hmx : (if carry < x + v then x + v - carry else 0) = y := by rw [HX.out.2.2]; split <;> omega
    obtain ⟨i0, hi, hz0, hz1, hz2⟩ := info_parts info3
    have hsz4 : W2.heap.size + 8 ≤ W4.heap.size := HJ4.out.lj.size
    have hlt0 : W2.heap.size + 1 < W4.heap.size := by omega
    refine wpIn_region_any (by kernel_rfl) (wpAnyIn_round _ (noDefer_spec (by kernel_rfl)) (fun h => h.elim fun _ h => h.elim fun _ h => h.elim) _ _ _ _ ?_)
    try (change wpAny _ _ _ _ _ _ _ (World.drew _))
    refine wpAny_take (i := 2) (v := ?v1) rfl (by kernel_rfl) (by kernel_rfl) (by kernel_rfl) (fun _ _ _ h => h) (Or.inl ⟨by rfl, ?y1⟩) ?r1
    case y1 => (intro w; go_simp; try with_reducible rfl)
    refine wpAny_take (i := 5) (v := ?v2) rfl (by kernel_rfl) (by kernel_rfl) (by kernel_rfl) (fun _ _ _ h => h) (Or.inl ⟨by rfl, ?y2⟩) ?r2
    case y2 => (intro w; go_simp; try with_reducible rfl)
    refine wpAny_take (i := 7) (v := ?v3) rfl (by kernel_rfl) (by kernel_rfl) (by kernel_rfl) (fun _ _ _ h => h) (Or.inl ⟨by rfl, ?y3⟩) ?r3
    case y3 => (intro w; go_simp; try with_reducible rfl)
    refine wpAny_ready (rs := [0, 1, 8]) (by kernel_rfl) (by simp) ?_
    refine AllReady.cons rfl (fun K hK => ?_) ?_
    · skip
      go_simp
      refine hK _ _ ?_
      clear hK K
      refine wpAny_ready (rs := [1, 8]) (by kernel_rfl) (by simp) ?_
      refine AllReady.cons rfl (fun K hK => ?_) ?_
      · skip
        go_simp
        refine hK _ _ ?_
        clear hK K
        refine wpAny_take (i := 3) (v := ?v4) rfl (by kernel_rfl) (by kernel_rfl) (by kernel_rfl) (fun _ _ _ h => h) (Or.inl ⟨by rfl, ?y4⟩) ?r4
        case y4 => (intro w; go_simp; try with_reducible rfl)
        refine wpAny_ready (rs := [4, 8]) (by kernel_rfl) (by simp) ?_
        refine AllReady.cons rfl (fun K hK => ?_) ?_
        · skip
          go_simp
          refine hK _ _ ?_
          clear hK K
          refine wpAny_take (i := 6) (v := ?v5) rfl (by kernel_rfl) (by kernel_rfl) (by kernel_rfl) (fun _ _ _ h => h) (Or.inl ⟨by rfl, ?y5⟩) ?r5
          case y5 => (intro w; go_simp; try with_reducible rfl)
          refine wpAny_ready (rs := [8]) (by kernel_rfl) (by simp) ?_
          refine AllReady.cons rfl (fun K hK => ?_) ?_
          · skip
            go_simp
            refine hK _ _ ?_
            clear hK K
            refine wpAny_take (i := 9) (v := ?v6) rfl (by kernel_rfl) (by kernel_rfl) (by kernel_rfl) (fun _ _ _ h => h) (Or.inl ⟨by rfl, ?y6⟩) ?r6
            case y6 => (intro w; go_simp; try with_reducible rfl)
            refine wpAny_ready (rs := [10]) (by kernel_rfl) (by simp) ?_
            refine AllReady.cons rfl (fun K hK => ?_) ?_
            · skip
              go_simp
              refine hK _ _ ?_
              clear hK K
              refine wpAny_ready (rs := [11]) (by kernel_rfl) (by simp) ?_
              refine AllReady.cons rfl (fun K hK => ?_) ?_
              · skip
                go_simp
                refine hK _ _ ?_
                clear hK K
                refine wpAny_ready (rs := [12]) (by kernel_rfl) (by simp) ?_
                refine AllReady.cons rfl (fun K hK => ?_) ?_
                · skip
                  refine step_append_lies _ (by rfl) _ _ 47 (by rfl) W2.heap.size 3 i0 _ 1 8 Tryz.underlying47 hi hz0 hz1 hz2 rfl (by decide) _ (k + 1) (intsV L) (by rfl) (own_drew (World.ownsRow.alloc HO.out.2.1 (.cells #[.int .i64 y] 3))) ⟨W4.heap.size, 0, none⟩ 1 1 [.int .i64 y] (by rfl) rfl (World.news_of_block (blk_new W4 (.cells #[.int .i64 y] 3))) (by simp [Value.oneCell']) (by omega) (by unfold maxLen; omega) (by omega) (by simp; omega) (W4.heap.size + 1) (by simp) ?_
                  intro g1 cap1 w1 hown1 hgrow hat hlt1
                  have q1 := grown_blk hgrow (blk_alloc HO.out.1 (.cells #[.int .i64 y] 3)) (HO.out.2.2 _ (by omega) (by omega))
                  have q1c := blk_cell q1 0
                  have q1f := blk_frozen q1 0
                  simp at q1c
                  try go_simp
                  refine hK _ _ ?_
                  clear hK K
                  refine wpAny_ready (rs := [13]) (by kernel_rfl) (by simp) ?_
                  refine AllReady.cons rfl (fun K hK => ?_) ?_
                  · skip
                    go_simp
                    refine hK _ _ ?_
                    clear hK K
                    refine wpAny_done (by kernel_rfl) ?_ _
                    have q := HJ4.out.grown HO.out.1 HO.out.2.1 HO.out.2.2 hgrow hown1 (by rw [HX.out.2.1]) hat
                    exact ⟨q.lj.loop, rfl, q.put rfl _⟩
                  exact AllReady.nil
                exact AllReady.nil
              exact AllReady.nil
            exact AllReady.nil
          exact AllReady.nil
        refine AllReady.cons rfl (fun K hK => ?_) ?_
        · skip
          go_simp
          refine hK _ _ ?_
          clear hK K
          refine wpAny_ready (rs := [4]) (by kernel_rfl) (by simp) ?_
          refine AllReady.cons rfl (fun K hK => ?_) ?_
          · skip
            go_simp
            refine hK _ _ ?_
            clear hK K
            refine wpAny_take (i := 6) (v := ?v7) rfl (by kernel_rfl) (by kernel_rfl) (by kernel_rfl) (fun _ _ _ h => h) (Or.inl ⟨by rfl, ?y7⟩) ?r7
            case y7 => (intro w; go_simp; try with_reducible rfl)
            refine wpAny_take (i := 9) (v := ?v8) rfl (by kernel_rfl) (by kernel_rfl) (by kernel_rfl) (fun _ _ _ h => h) (Or.inl ⟨by rfl, ?y8⟩) ?r8
            case y8 => (intro w; go_simp; try with_reducible rfl)
            refine wpAny_ready (rs := [10]) (by kernel_rfl) (by simp) ?_
            refine AllReady.cons rfl (fun K hK => ?_) ?_
            · skip
              go_simp
              refine hK _ _ ?_
              clear hK K
              refine wpAny_ready (rs := [11]) (by kernel_rfl) (by simp) ?_
              refine AllReady.cons rfl (fun K hK => ?_) ?_
              · skip
                go_simp
                refine hK _ _ ?_
                clear hK K
                refine wpAny_ready (rs := [12]) (by kernel_rfl) (by simp) ?_
                refine AllReady.cons rfl (fun K hK => ?_) ?_
                · skip
                  refine step_append_lies _ (by rfl) _ _ 47 (by rfl) W2.heap.size 3 i0 _ 1 8 Tryz.underlying47 hi hz0 hz1 hz2 rfl (by decide) _ (k + 1) (intsV L) (by rfl) (own_drew (World.ownsRow.alloc HO.out.2.1 (.cells #[.int .i64 y] 3))) ⟨W4.heap.size, 0, none⟩ 1 1 [.int .i64 y] (by rfl) rfl (World.news_of_block (blk_new W4 (.cells #[.int .i64 y] 3))) (by simp [Value.oneCell']) (by omega) (by unfold maxLen; omega) (by omega) (by simp; omega) (W4.heap.size + 1) (by simp) ?_
                  intro g1 cap1 w1 hown1 hgrow hat hlt1
                  have q1 := grown_blk hgrow (blk_alloc HO.out.1 (.cells #[.int .i64 y] 3)) (HO.out.2.2 _ (by omega) (by omega))
                  have q1c := blk_cell q1 0
                  have q1f := blk_frozen q1 0
                  simp at q1c
                  try go_simp
                  refine hK _ _ ?_
                  clear hK K
                  refine wpAny_ready (rs := [13]) (by kernel_rfl) (by simp) ?_
                  refine AllReady.cons rfl (fun K hK => ?_) ?_
                  · skip
                    go_simp
                    refine hK _ _ ?_
                    clear hK K
                    refine wpAny_done (by kernel_rfl) ?_ _
                    have q := HJ4.out.grown HO.out.1 HO.out.2.1 HO.out.2.2 hgrow hown1 (by rw [HX.out.2.1]) hat
                    exact ⟨q.lj.loop, rfl, q.put rfl _⟩
                  exact AllReady.nil
                exact AllReady.nil
              exact AllReady.nil
            exact AllReady.nil
          exact AllReady.nil
        exact AllReady.nil
      refine AllReady.cons rfl (fun K hK => ?_) ?_
      · skip
        go_simp
        refine hK _ _ ?_
        clear hK K
        refine wpAny_ready (rs := [1]) (by kernel_rfl) (by simp) ?_
        refine AllReady.cons rfl (fun K hK => ?_) ?_
        · skip
          go_simp
          refine hK _ _ ?_
          clear hK K
          refine wpAny_take (i := 3) (v := ?v9) rfl (by kernel_rfl) (by kernel_rfl) (by kernel_rfl) (fun _ _ _ h => h) (Or.inl ⟨by rfl, ?y9⟩) ?r9
          case y9 => (intro w; go_simp; try with_reducible rfl)
          refine wpAny_ready (rs := [4]) (by kernel_rfl) (by simp) ?_
          refine AllReady.cons rfl (fun K hK => ?_) ?_
          · skip
            go_simp
            refine hK _ _ ?_
            clear hK K
            refine wpAny_take (i := 6) (v := ?v10) rfl (by kernel_rfl) (by kernel_rfl) (by kernel_rfl) (fun _ _ _ h => h) (Or.inl ⟨by rfl, ?y10⟩) ?r10
            case y10 => (intro w; go_simp; try with_reducible rfl)
            refine wpAny_take (i := 9) (v := ?v11) rfl (by kernel_rfl) (by kernel_rfl) (by kernel_rfl) (fun _ _ _ h => h) (Or.inl ⟨by rfl, ?y11⟩) ?r11
            case y11 => (intro w; go_simp; try with_reducible rfl)
            refine wpAny_ready (rs := [10]) (by kernel_rfl) (by simp) ?_
            refine AllReady.cons rfl (fun K hK => ?_) ?_
            · skip
              go_simp
              refine hK _ _ ?_
              clear hK K
              refine wpAny_ready (rs := [11]) (by kernel_rfl) (by simp) ?_
              refine AllReady.cons rfl (fun K hK => ?_) ?_
              · skip
                go_simp
                refine hK _ _ ?_
                clear hK K
                refine wpAny_ready (rs := [12]) (by kernel_rfl) (by simp) ?_
                refine AllReady.cons rfl (fun K hK => ?_) ?_
                · skip
                  refine step_append_lies _ (by rfl) _ _ 47 (by rfl) W2.heap.size 3 i0 _ 1 8 Tryz.underlying47 hi hz0 hz1 hz2 rfl (by decide) _ (k + 1) (intsV L) (by rfl) (own_drew (World.ownsRow.alloc HO.out.2.1 (.cells #[.int .i64 y] 3))) ⟨W4.heap.size, 0, none⟩ 1 1 [.int .i64 y] (by rfl) rfl (World.news_of_block (blk_new W4 (.cells #[.int .i64 y] 3))) (by simp [Value.oneCell']) (by omega) (by unfold maxLen; omega) (by omega) (by simp; omega) (W4.heap.size + 1) (by simp) ?_
                  intro g1 cap1 w1 hown1 hgrow hat hlt1
                  have q1 := grown_blk hgrow (blk_alloc HO.out.1 (.cells #[.int .i64 y] 3)) (HO.out.2.2 _ (by omega) (by omega))
                  have q1c := blk_cell q1 0
                  have q1f := blk_frozen q1 0
                  simp at q1c
                  try go_simp
                  refine hK _ _ ?_
                  clear hK K
                  refine wpAny_ready (rs := [13]) (by kernel_rfl) (by simp) ?_
                  refine AllReady.cons rfl (fun K hK => ?_) ?_
                  · skip
                    go_simp
                    refine hK _ _ ?_
                    clear hK K
                    refine wpAny_done (by kernel_rfl) ?_ _
                    have q := HJ4.out.grown HO.out.1 HO.out.2.1 HO.out.2.2 hgrow hown1 (by rw [HX.out.2.1]) hat
                    exact ⟨q.lj.loop, rfl, q.put rfl _⟩
                  exact AllReady.nil
                exact AllReady.nil
              exact AllReady.nil
            exact AllReady.nil
          exact AllReady.nil
        exact AllReady.nil
      exact AllReady.nil
    refine AllReady.cons rfl (fun K hK => ?_) ?_
    · skip
      go_simp
      refine hK _ _ ?_
      clear hK K
      refine wpAny_take (i := 3) (v := ?v12) rfl (by kernel_rfl) (by kernel_rfl) (by kernel_rfl) (fun _ _ _ h => h) (Or.inl ⟨by rfl, ?y12⟩) ?r12
      case y12 => (intro w; go_simp; try with_reducible rfl)
      refine wpAny_ready (rs := [0, 4, 8]) (by kernel_rfl) (by simp) ?_
      refine AllReady.cons rfl (fun K hK => ?_) ?_
      · skip
        go_simp
        refine hK _ _ ?_
        clear hK K
        refine wpAny_ready (rs := [4, 8]) (by kernel_rfl) (by simp) ?_
        refine AllReady.cons rfl (fun K hK => ?_) ?_
        · skip
          go_simp
          refine hK _ _ ?_
          clear hK K
          refine wpAny_take (i := 6) (v := ?v13) rfl (by kernel_rfl) (by kernel_rfl) (by kernel_rfl) (fun _ _ _ h => h) (Or.inl ⟨by rfl, ?y13⟩) ?r13
          case y13 => (intro w; go_simp; try with_reducible rfl)
          refine wpAny_ready (rs := [8]) (by kernel_rfl) (by simp) ?_
          refine AllReady.cons rfl (fun K hK => ?_) ?_
          · skip
            go_simp
            refine hK _ _ ?_
            clear hK K
            refine wpAny_take (i := 9) (v := ?v14) rfl (by kernel_rfl) (by kernel_rfl) (by kernel_rfl) (fun _ _ _ h => h) (Or.inl ⟨by rfl, ?y14⟩) ?r14
            case y14 => (intro w; go_simp; try with_reducible rfl)
            refine wpAny_ready (rs := [10]) (by kernel_rfl) (by simp) ?_
            refine AllReady.cons rfl (fun K hK => ?_) ?_
            · skip
              go_simp
              refine hK _ _ ?_
              clear hK K
              refine wpAny_ready (rs := [11]) (by kernel_rfl) (by simp) ?_
              refine AllReady.cons rfl (fun K hK => ?_) ?_
              · skip
                go_simp
                refine hK _ _ ?_
                clear hK K
                refine wpAny_ready (rs := [12]) (by kernel_rfl) (by simp) ?_
                refine AllReady.cons rfl (fun K hK => ?_) ?_
                · skip
                  refine step_append_lies _ (by rfl) _ _ 47 (by rfl) W2.heap.size 3 i0 _ 1 8 Tryz.underlying47 hi hz0 hz1 hz2 rfl (by decide) _ (k + 1) (intsV L) (by rfl) (own_drew (World.ownsRow.alloc HO.out.2.1 (.cells #[.int .i64 y] 3))) ⟨W4.heap.size, 0, none⟩ 1 1 [.int .i64 y] (by rfl) rfl (World.news_of_block (blk_new W4 (.cells #[.int .i64 y] 3))) (by simp [Value.oneCell']) (by omega) (by unfold maxLen; omega) (by omega) (by simp; omega) (W4.heap.size + 1) (by simp) ?_
                  intro g1 cap1 w1 hown1 hgrow hat hlt1
                  have q1 := grown_blk hgrow (blk_alloc HO.out.1 (.cells #[.int .i64 y] 3)) (HO.out.2.2 _ (by omega) (by omega))
                  have q1c := blk_cell q1 0
                  have q1f := blk_frozen q1 0
                  simp at q1c
                  try go_simp
                  refine hK _ _ ?_
                  clear hK K
                  refine wpAny_ready (rs := [13]) (by kernel_rfl) (by simp) ?_
                  refine AllReady.cons rfl (fun K hK => ?_) ?_
                  · skip
                    go_simp
                    refine hK _ _ ?_
                    clear hK K
                    refine wpAny_done (by kernel_rfl) ?_ _
                    have q := HJ4.out.grown HO.out.1 HO.out.2.1 HO.out.2.2 hgrow hown1 (by rw [HX.out.2.1]) hat
                    exact ⟨q.lj.loop, rfl, q.put rfl _⟩
                  exact AllReady.nil
                exact AllReady.nil
              exact AllReady.nil
            exact AllReady.nil
          exact AllReady.nil
        refine AllReady.cons rfl (fun K hK => ?_) ?_
        · skip
          go_simp
          refine hK _ _ ?_
          clear hK K
          refine wpAny_ready (rs := [4]) (by kernel_rfl) (by simp) ?_
          refine AllReady.cons rfl (fun K hK => ?_) ?_
          · skip
            go_simp
            refine hK _ _ ?_
            clear hK K
            refine wpAny_take (i := 6) (v := ?v15) rfl (by kernel_rfl) (by kernel_rfl) (by kernel_rfl) (fun _ _ _ h => h) (Or.inl ⟨by rfl, ?y15⟩) ?r15
            case y15 => (intro w; go_simp; try with_reducible rfl)
            refine wpAny_take (i := 9) (v := ?v16) rfl (by kernel_rfl) (by kernel_rfl) (by kernel_rfl) (fun _ _ _ h => h) (Or.inl ⟨by rfl, ?y16⟩) ?r16
            case y16 => (intro w; go_simp; try with_reducible rfl)
            refine wpAny_ready (rs := [10]) (by kernel_rfl) (by simp) ?_
            refine AllReady.cons rfl (fun K hK => ?_) ?_
            · skip
              go_simp
              refine hK _ _ ?_
              clear hK K
              refine wpAny_ready (rs := [11]) (by kernel_rfl) (by simp) ?_
              refine AllReady.cons rfl (fun K hK => ?_) ?_
              · skip
                go_simp
                refine hK _ _ ?_
                clear hK K
                refine wpAny_ready (rs := [12]) (by kernel_rfl) (by simp) ?_
                refine AllReady.cons rfl (fun K hK => ?_) ?_
                · skip
                  refine step_append_lies _ (by rfl) _ _ 47 (by rfl) W2.heap.size 3 i0 _ 1 8 Tryz.underlying47 hi hz0 hz1 hz2 rfl (by decide) _ (k + 1) (intsV L) (by rfl) (own_drew (World.ownsRow.alloc HO.out.2.1 (.cells #[.int .i64 y] 3))) ⟨W4.heap.size, 0, none⟩ 1 1 [.int .i64 y] (by rfl) rfl (World.news_of_block (blk_new W4 (.cells #[.int .i64 y] 3))) (by simp [Value.oneCell']) (by omega) (by unfold maxLen; omega) (by omega) (by simp; omega) (W4.heap.size + 1) (by simp) ?_
                  intro g1 cap1 w1 hown1 hgrow hat hlt1
                  have q1 := grown_blk hgrow (blk_alloc HO.out.1 (.cells #[.int .i64 y] 3)) (HO.out.2.2 _ (by omega) (by omega))
                  have q1c := blk_cell q1 0
                  have q1f := blk_frozen q1 0
                  simp at q1c
                  try go_simp
                  refine hK _ _ ?_
                  clear hK K
                  refine wpAny_ready (rs := [13]) (by kernel_rfl) (by simp) ?_
                  refine AllReady.cons rfl (fun K hK => ?_) ?_
                  · skip
                    go_simp
                    refine hK _ _ ?_
                    clear hK K
                    refine wpAny_done (by kernel_rfl) ?_ _
                    have q := HJ4.out.grown HO.out.1 HO.out.2.1 HO.out.2.2 hgrow hown1 (by rw [HX.out.2.1]) hat
                    exact ⟨q.lj.loop, rfl, q.put rfl _⟩
                  exact AllReady.nil
                exact AllReady.nil
              exact AllReady.nil
            exact AllReady.nil
          exact AllReady.nil
        exact AllReady.nil
      refine AllReady.cons rfl (fun K hK => ?_) ?_
      · skip
        go_simp
        refine hK _ _ ?_
        clear hK K
        refine wpAny_take (i := 6) (v := ?v17) rfl (by kernel_rfl) (by kernel_rfl) (by kernel_rfl) (fun _ _ _ h => h) (Or.inl ⟨by rfl, ?y17⟩) ?r17
        case y17 => (intro w; go_simp; try with_reducible rfl)
        refine wpAny_ready (rs := [0, 8]) (by kernel_rfl) (by simp) ?_
        refine AllReady.cons rfl (fun K hK => ?_) ?_
        · skip
          go_simp
          refine hK _ _ ?_
          clear hK K
          refine wpAny_ready (rs := [8]) (by kernel_rfl) (by simp) ?_
          refine AllReady.cons rfl (fun K hK => ?_) ?_
          · skip
            go_simp
            refine hK _ _ ?_
            clear hK K
            refine wpAny_take (i := 9) (v := ?v18) rfl (by kernel_rfl) (by kernel_rfl) (by kernel_rfl) (fun _ _ _ h => h) (Or.inl ⟨by rfl, ?y18⟩) ?r18
            case y18 => (intro w; go_simp; try with_reducible rfl)
            refine wpAny_ready (rs := [10]) (by kernel_rfl) (by simp) ?_
            refine AllReady.cons rfl (fun K hK => ?_) ?_
            · skip
              go_simp
              refine hK _ _ ?_
              clear hK K
              refine wpAny_ready (rs := [11]) (by kernel_rfl) (by simp) ?_
              refine AllReady.cons rfl (fun K hK => ?_) ?_
              · skip
                go_simp
                refine hK _ _ ?_
                clear hK K
                refine wpAny_ready (rs := [12]) (by kernel_rfl) (by simp) ?_
                refine AllReady.cons rfl (fun K hK => ?_) ?_
                · skip
                  refine step_append_lies _ (by rfl) _ _ 47 (by rfl) W2.heap.size 3 i0 _ 1 8 Tryz.underlying47 hi hz0 hz1 hz2 rfl (by decide) _ (k + 1) (intsV L) (by rfl) (own_drew (World.ownsRow.alloc HO.out.2.1 (.cells #[.int .i64 y] 3))) ⟨W4.heap.size, 0, none⟩ 1 1 [.int .i64 y] (by rfl) rfl (World.news_of_block (blk_new W4 (.cells #[.int .i64 y] 3))) (by simp [Value.oneCell']) (by omega) (by unfold maxLen; omega) (by omega) (by simp; omega) (W4.heap.size + 1) (by simp) ?_
                  intro g1 cap1 w1 hown1 hgrow hat hlt1
                  have q1 := grown_blk hgrow (blk_alloc HO.out.1 (.cells #[.int .i64 y] 3)) (HO.out.2.2 _ (by omega) (by omega))
                  have q1c := blk_cell q1 0
                  have q1f := blk_frozen q1 0
                  simp at q1c
                  try go_simp
                  refine hK _ _ ?_
                  clear hK K
                  refine wpAny_ready (rs := [13]) (by kernel_rfl) (by simp) ?_
                  refine AllReady.cons rfl (fun K hK => ?_) ?_
                  · skip
                    go_simp
                    refine hK _ _ ?_
                    clear hK K
                    refine wpAny_done (by kernel_rfl) ?_ _
                    have q := HJ4.out.grown HO.out.1 HO.out.2.1 HO.out.2.2 hgrow hown1 (by rw [HX.out.2.1]) hat
                    exact ⟨q.lj.loop, rfl, q.put rfl _⟩
                  exact AllReady.nil
                exact AllReady.nil
              exact AllReady.nil
            exact AllReady.nil
          exact AllReady.nil
        refine AllReady.cons rfl (fun K hK => ?_) ?_
        · skip
          go_simp
          refine hK _ _ ?_
          clear hK K
          refine wpAny_take (i := 9) (v := ?v19) rfl (by kernel_rfl) (by kernel_rfl) (by kernel_rfl) (fun _ _ _ h => h) (Or.inl ⟨by rfl, ?y19⟩) ?r19
          case y19 => (intro w; go_simp; try with_reducible rfl)
          refine wpAny_ready (rs := [0, 10]) (by kernel_rfl) (by simp) ?_
          refine AllReady.cons rfl (fun K hK => ?_) ?_
          · skip
            go_simp
            refine hK _ _ ?_
            clear hK K
            refine wpAny_ready (rs := [10]) (by kernel_rfl) (by simp) ?_
            refine AllReady.cons rfl (fun K hK => ?_) ?_
            · skip
              go_simp
              refine hK _ _ ?_
              clear hK K
              refine wpAny_ready (rs := [11]) (by kernel_rfl) (by simp) ?_
              refine AllReady.cons rfl (fun K hK => ?_) ?_
              · skip
                go_simp
                refine hK _ _ ?_
                clear hK K
                refine wpAny_ready (rs := [12]) (by kernel_rfl) (by simp) ?_
                refine AllReady.cons rfl (fun K hK => ?_) ?_
                · skip
                  refine step_append_lies _ (by rfl) _ _ 47 (by rfl) W2.heap.size 3 i0 _ 1 8 Tryz.underlying47 hi hz0 hz1 hz2 rfl (by decide) _ (k + 1) (intsV L) (by rfl) (own_drew (World.ownsRow.alloc HO.out.2.1 (.cells #[.int .i64 y] 3))) ⟨W4.heap.size, 0, none⟩ 1 1 [.int .i64 y] (by rfl) rfl (World.news_of_block (blk_new W4 (.cells #[.int .i64 y] 3))) (by simp [Value.oneCell']) (by omega) (by unfold maxLen; omega) (by omega) (by simp; omega) (W4.heap.size + 1) (by simp) ?_
                  intro g1 cap1 w1 hown1 hgrow hat hlt1
                  have q1 := grown_blk hgrow (blk_alloc HO.out.1 (.cells #[.int .i64 y] 3)) (HO.out.2.2 _ (by omega) (by omega))
                  have q1c := blk_cell q1 0
                  have q1f := blk_frozen q1 0
                  simp at q1c
                  try go_simp
                  refine hK _ _ ?_
                  clear hK K
                  refine wpAny_ready (rs := [13]) (by kernel_rfl) (by simp) ?_
                  refine AllReady.cons rfl (fun K hK => ?_) ?_
                  · skip
                    go_simp
                    refine hK _ _ ?_
                    clear hK K
                    refine wpAny_done (by kernel_rfl) ?_ _
                    have q := HJ4.out.grown HO.out.1 HO.out.2.1 HO.out.2.2 hgrow hown1 (by rw [HX.out.2.1]) hat
                    exact ⟨q.lj.loop, rfl, q.put rfl _⟩
                  exact AllReady.nil
                exact AllReady.nil
              exact AllReady.nil
            exact AllReady.nil
          refine AllReady.cons rfl (fun K hK => ?_) ?_
          · skip
            go_simp
            refine hK _ _ ?_
            clear hK K
            refine wpAny_ready (rs := [0, 11]) (by kernel_rfl) (by simp) ?_
            refine AllReady.cons rfl (fun K hK => ?_) ?_
            · skip
              go_simp
              refine hK _ _ ?_
              clear hK K
              refine wpAny_ready (rs := [11]) (by kernel_rfl) (by simp) ?_
              refine AllReady.cons rfl (fun K hK => ?_) ?_
              · skip
                go_simp
                refine hK _ _ ?_
                clear hK K
                refine wpAny_ready (rs := [12]) (by kernel_rfl) (by simp) ?_
                refine AllReady.cons rfl (fun K hK => ?_) ?_
                · skip
                  refine step_append_lies _ (by rfl) _ _ 47 (by rfl) W2.heap.size 3 i0 _ 1 8 Tryz.underlying47 hi hz0 hz1 hz2 rfl (by decide) _ (k + 1) (intsV L) (by rfl) (own_drew (World.ownsRow.alloc HO.out.2.1 (.cells #[.int .i64 y] 3))) ⟨W4.heap.size, 0, none⟩ 1 1 [.int .i64 y] (by rfl) rfl (World.news_of_block (blk_new W4 (.cells #[.int .i64 y] 3))) (by simp [Value.oneCell']) (by omega) (by unfold maxLen; omega) (by omega) (by simp; omega) (W4.heap.size + 1) (by simp) ?_
                  intro g1 cap1 w1 hown1 hgrow hat hlt1
                  have q1 := grown_blk hgrow (blk_alloc HO.out.1 (.cells #[.int .i64 y] 3)) (HO.out.2.2 _ (by omega) (by omega))
                  have q1c := blk_cell q1 0
                  have q1f := blk_frozen q1 0
                  simp at q1c
                  try go_simp
                  refine hK _ _ ?_
                  clear hK K
                  refine wpAny_ready (rs := [13]) (by kernel_rfl) (by simp) ?_
                  refine AllReady.cons rfl (fun K hK => ?_) ?_
                  · skip
                    go_simp
                    refine hK _ _ ?_
                    clear hK K
                    refine wpAny_done (by kernel_rfl) ?_ _
                    have q := HJ4.out.grown HO.out.1 HO.out.2.1 HO.out.2.2 hgrow hown1 (by rw [HX.out.2.1]) hat
                    exact ⟨q.lj.loop, rfl, q.put rfl _⟩
                  exact AllReady.nil
                exact AllReady.nil
              exact AllReady.nil
            refine AllReady.cons rfl (fun K hK => ?_) ?_
            · skip
              go_simp
              refine hK _ _ ?_
              clear hK K
              refine wpAny_ready (rs := [0]) (by kernel_rfl) (by simp) ?_
              refine AllReady.cons rfl (fun K hK => ?_) ?_
              · skip
                go_simp
                refine hK _ _ ?_
                clear hK K
                refine wpAny_ready (rs := [12]) (by kernel_rfl) (by simp) ?_
                refine AllReady.cons rfl (fun K hK => ?_) ?_
                · skip
                  refine step_append_lies _ (by rfl) _ _ 47 (by rfl) W2.heap.size 3 i0 _ 1 8 Tryz.underlying47 hi hz0 hz1 hz2 rfl (by decide) _ (k + 1) (intsV L) (by rfl) (own_drew (World.ownsRow.alloc HO.out.2.1 (.cells #[.int .i64 y] 3))) ⟨W4.heap.size, 0, none⟩ 1 1 [.int .i64 y] (by rfl) rfl (World.news_of_block (blk_new W4 (.cells #[.int .i64 y] 3))) (by simp [Value.oneCell']) (by omega) (by unfold maxLen; omega) (by omega) (by simp; omega) (W4.heap.size + 1) (by simp) ?_
                  intro g1 cap1 w1 hown1 hgrow hat hlt1
                  have q1 := grown_blk hgrow (blk_alloc HO.out.1 (.cells #[.int .i64 y] 3)) (HO.out.2.2 _ (by omega) (by omega))
                  have q1c := blk_cell q1 0
                  have q1f := blk_frozen q1 0
                  simp at q1c
                  try go_simp
                  refine hK _ _ ?_
                  clear hK K
                  refine wpAny_ready (rs := [13]) (by kernel_rfl) (by simp) ?_
                  refine AllReady.cons rfl (fun K hK => ?_) ?_
                  · skip
                    go_simp
                    refine hK _ _ ?_
                    clear hK K
                    refine wpAny_done (by kernel_rfl) ?_ _
                    have q := HJ4.out.grown HO.out.1 HO.out.2.1 HO.out.2.2 hgrow hown1 (by rw [HX.out.2.1]) hat
                    exact ⟨q.lj.loop, rfl, q.put rfl _⟩
                  exact AllReady.nil
                exact AllReady.nil
              exact AllReady.nil
            exact AllReady.nil
          exact AllReady.nil
        exact AllReady.nil
      refine AllReady.cons rfl (fun K hK => ?_) ?_
      · skip
        go_simp
        refine hK _ _ ?_
        clear hK K
        refine wpAny_ready (rs := [0, 4]) (by kernel_rfl) (by simp) ?_
        refine AllReady.cons rfl (fun K hK => ?_) ?_
        · skip
          go_simp
          refine hK _ _ ?_
          clear hK K
          refine wpAny_ready (rs := [4]) (by kernel_rfl) (by simp) ?_
          refine AllReady.cons rfl (fun K hK => ?_) ?_
          · skip
            go_simp
            refine hK _ _ ?_
            clear hK K
            refine wpAny_take (i := 6) (v := ?v20) rfl (by kernel_rfl) (by kernel_rfl) (by kernel_rfl) (fun _ _ _ h => h) (Or.inl ⟨by rfl, ?y20⟩) ?r20
            case y20 => (intro w; go_simp; try with_reducible rfl)
            refine wpAny_take (i := 9) (v := ?v21) rfl (by kernel_rfl) (by kernel_rfl) (by kernel_rfl) (fun _ _ _ h => h) (Or.inl ⟨by rfl, ?y21⟩) ?r21
            case y21 => (intro w; go_simp; try with_reducible rfl)
            refine wpAny_ready (rs := [10]) (by kernel_rfl) (by simp) ?_
            refine AllReady.cons rfl (fun K hK => ?_) ?_
            · skip
              go_simp
              refine hK _ _ ?_
              clear hK K
              refine wpAny_ready (rs := [11]) (by kernel_rfl) (by simp) ?_
              refine AllReady.cons rfl (fun K hK => ?_) ?_
              · skip
                go_simp
                refine hK _ _ ?_
                clear hK K
                refine wpAny_ready (rs := [12]) (by kernel_rfl) (by simp) ?_
                refine AllReady.cons rfl (fun K hK => ?_) ?_
                · skip
                  refine step_append_lies _ (by rfl) _ _ 47 (by rfl) W2.heap.size 3 i0 _ 1 8 Tryz.underlying47 hi hz0 hz1 hz2 rfl (by decide) _ (k + 1) (intsV L) (by rfl) (own_drew (World.ownsRow.alloc HO.out.2.1 (.cells #[.int .i64 y] 3))) ⟨W4.heap.size, 0, none⟩ 1 1 [.int .i64 y] (by rfl) rfl (World.news_of_block (blk_new W4 (.cells #[.int .i64 y] 3))) (by simp [Value.oneCell']) (by omega) (by unfold maxLen; omega) (by omega) (by simp; omega) (W4.heap.size + 1) (by simp) ?_
                  intro g1 cap1 w1 hown1 hgrow hat hlt1
                  have q1 := grown_blk hgrow (blk_alloc HO.out.1 (.cells #[.int .i64 y] 3)) (HO.out.2.2 _ (by omega) (by omega))
                  have q1c := blk_cell q1 0
                  have q1f := blk_frozen q1 0
                  simp at q1c
                  try go_simp
                  refine hK _ _ ?_
                  clear hK K
                  refine wpAny_ready (rs := [13]) (by kernel_rfl) (by simp) ?_
                  refine AllReady.cons rfl (fun K hK => ?_) ?_
                  · skip
                    go_simp
                    refine hK _ _ ?_
                    clear hK K
                    refine wpAny_done (by kernel_rfl) ?_ _
                    have q := HJ4.out.grown HO.out.1 HO.out.2.1 HO.out.2.2 hgrow hown1 (by rw [HX.out.2.1]) hat
                    exact ⟨q.lj.loop, rfl, q.put rfl _⟩
                  exact AllReady.nil
                exact AllReady.nil
              exact AllReady.nil
            exact AllReady.nil
          exact AllReady.nil
        refine AllReady.cons rfl (fun K hK => ?_) ?_
        · skip
          go_simp
          refine hK _ _ ?_
          clear hK K
          refine wpAny_take (i := 6) (v := ?v22) rfl (by kernel_rfl) (by kernel_rfl) (by kernel_rfl) (fun _ _ _ h => h) (Or.inl ⟨by rfl, ?y22⟩) ?r22
          case y22 => (intro w; go_simp; try with_reducible rfl)
          refine wpAny_take (i := 9) (v := ?v23) rfl (by kernel_rfl) (by kernel_rfl) (by kernel_rfl) (fun _ _ _ h => h) (Or.inl ⟨by rfl, ?y23⟩) ?r23
          case y23 => (intro w; go_simp; try with_reducible rfl)
          refine wpAny_ready (rs := [0, 10]) (by kernel_rfl) (by simp) ?_
          refine AllReady.cons rfl (fun K hK => ?_) ?_
          · skip
            go_simp
            refine hK _ _ ?_
            clear hK K
            refine wpAny_ready (rs := [10]) (by kernel_rfl) (by simp) ?_
            refine AllReady.cons rfl (fun K hK => ?_) ?_
            · skip
              go_simp
              refine hK _ _ ?_
              clear hK K
              refine wpAny_ready (rs := [11]) (by kernel_rfl) (by simp) ?_
              refine AllReady.cons rfl (fun K hK => ?_) ?_
              · skip
                go_simp
                refine hK _ _ ?_
                clear hK K
                refine wpAny_ready (rs := [12]) (by kernel_rfl) (by simp) ?_
                refine AllReady.cons rfl (fun K hK => ?_) ?_
                · skip
                  refine step_append_lies _ (by rfl) _ _ 47 (by rfl) W2.heap.size 3 i0 _ 1 8 Tryz.underlying47 hi hz0 hz1 hz2 rfl (by decide) _ (k + 1) (intsV L) (by rfl) (own_drew (World.ownsRow.alloc HO.out.2.1 (.cells #[.int .i64 y] 3))) ⟨W4.heap.size, 0, none⟩ 1 1 [.int .i64 y] (by rfl) rfl (World.news_of_block (blk_new W4 (.cells #[.int .i64 y] 3))) (by simp [Value.oneCell']) (by omega) (by unfold maxLen; omega) (by omega) (by simp; omega) (W4.heap.size + 1) (by simp) ?_
                  intro g1 cap1 w1 hown1 hgrow hat hlt1
                  have q1 := grown_blk hgrow (blk_alloc HO.out.1 (.cells #[.int .i64 y] 3)) (HO.out.2.2 _ (by omega) (by omega))
                  have q1c := blk_cell q1 0
                  have q1f := blk_frozen q1 0
                  simp at q1c
                  try go_simp
                  refine hK _ _ ?_
                  clear hK K
                  refine wpAny_ready (rs := [13]) (by kernel_rfl) (by simp) ?_
                  refine AllReady.cons rfl (fun K hK => ?_) ?_
                  · skip
                    go_simp
                    refine hK _ _ ?_
                    clear hK K
                    refine wpAny_done (by kernel_rfl) ?_ _
                    have q := HJ4.out.grown HO.out.1 HO.out.2.1 HO.out.2.2 hgrow hown1 (by rw [HX.out.2.1]) hat
                    exact ⟨q.lj.loop, rfl, q.put rfl _⟩
                  exact AllReady.nil
                exact AllReady.nil
              exact AllReady.nil
            exact AllReady.nil
          refine AllReady.cons rfl (fun K hK => ?_) ?_
          · skip
            go_simp
            refine hK _ _ ?_
            clear hK K
            refine wpAny_ready (rs := [0, 11]) (by kernel_rfl) (by simp) ?_
            refine AllReady.cons rfl (fun K hK => ?_) ?_
            · skip
              go_simp
              refine hK _ _ ?_
              clear hK K
              refine wpAny_ready (rs := [11]) (by kernel_rfl) (by simp) ?_
              refine AllReady.cons rfl (fun K hK => ?_) ?_
              · skip
                go_simp
                refine hK _ _ ?_
                clear hK K
                refine wpAny_ready (rs := [12]) (by kernel_rfl) (by simp) ?_
                refine AllReady.cons rfl (fun K hK => ?_) ?_
                · skip
                  refine step_append_lies _ (by rfl) _ _ 47 (by rfl) W2.heap.size 3 i0 _ 1 8 Tryz.underlying47 hi hz0 hz1 hz2 rfl (by decide) _ (k + 1) (intsV L) (by rfl) (own_drew (World.ownsRow.alloc HO.out.2.1 (.cells #[.int .i64 y] 3))) ⟨W4.heap.size, 0, none⟩ 1 1 [.int .i64 y] (by rfl) rfl (World.news_of_block (blk_new W4 (.cells #[.int .i64 y] 3))) (by simp [Value.oneCell']) (by omega) (by unfold maxLen; omega) (by omega) (by simp; omega) (W4.heap.size + 1) (by simp) ?_
                  intro g1 cap1 w1 hown1 hgrow hat hlt1
                  have q1 := grown_blk hgrow (blk_alloc HO.out.1 (.cells #[.int .i64 y] 3)) (HO.out.2.2 _ (by omega) (by omega))
                  have q1c := blk_cell q1 0
                  have q1f := blk_frozen q1 0
                  simp at q1c
                  try go_simp
                  refine hK _ _ ?_
                  clear hK K
                  refine wpAny_ready (rs := [13]) (by kernel_rfl) (by simp) ?_
                  refine AllReady.cons rfl (fun K hK => ?_) ?_
                  · skip
                    go_simp
                    refine hK _ _ ?_
                    clear hK K
                    refine wpAny_done (by kernel_rfl) ?_ _
                    have q := HJ4.out.grown HO.out.1 HO.out.2.1 HO.out.2.2 hgrow hown1 (by rw [HX.out.2.1]) hat
                    exact ⟨q.lj.loop, rfl, q.put rfl _⟩
                  exact AllReady.nil
                exact AllReady.nil
              exact AllReady.nil
            refine AllReady.cons rfl (fun K hK => ?_) ?_
            · skip
              go_simp
              refine hK _ _ ?_
              clear hK K
              refine wpAny_ready (rs := [0]) (by kernel_rfl) (by simp) ?_
              refine AllReady.cons rfl (fun K hK => ?_) ?_
              · skip
                go_simp
                refine hK _ _ ?_
                clear hK K
                refine wpAny_ready (rs := [12]) (by kernel_rfl) (by simp) ?_
                refine AllReady.cons rfl (fun K hK => ?_) ?_
                · skip
                  refine step_append_lies _ (by rfl) _ _ 47 (by rfl) W2.heap.size 3 i0 _ 1 8 Tryz.underlying47 hi hz0 hz1 hz2 rfl (by decide) _ (k + 1) (intsV L) (by rfl) (own_drew (World.ownsRow.alloc HO.out.2.1 (.cells #[.int .i64 y] 3))) ⟨W4.heap.size, 0, none⟩ 1 1 [.int .i64 y] (by rfl) rfl (World.news_of_block (blk_new W4 (.cells #[.int .i64 y] 3))) (by simp [Value.oneCell']) (by omega) (by unfold maxLen; omega) (by omega) (by simp; omega) (W4.heap.size + 1) (by simp) ?_
                  intro g1 cap1 w1 hown1 hgrow hat hlt1
                  have q1 := grown_blk hgrow (blk_alloc HO.out.1 (.cells #[.int .i64 y] 3)) (HO.out.2.2 _ (by omega) (by omega))
                  have q1c := blk_cell q1 0
                  have q1f := blk_frozen q1 0
                  simp at q1c
                  try go_simp
                  refine hK _ _ ?_
                  clear hK K
                  refine wpAny_ready (rs := [13]) (by kernel_rfl) (by simp) ?_
                  refine AllReady.cons rfl (fun K hK => ?_) ?_
                  · skip
                    go_simp
                    refine hK _ _ ?_
                    clear hK K
                    refine wpAny_done (by kernel_rfl) ?_ _
                    have q := HJ4.out.grown HO.out.1 HO.out.2.1 HO.out.2.2 hgrow hown1 (by rw [HX.out.2.1]) hat
                    exact ⟨q.lj.loop, rfl, q.put rfl _⟩
                  exact AllReady.nil
                exact AllReady.nil
              exact AllReady.nil
            exact AllReady.nil
          exact AllReady.nil
        exact AllReady.nil
      exact AllReady.nil
    refine AllReady.cons rfl (fun K hK => ?_) ?_
    · skip
      go_simp
      refine hK _ _ ?_
      clear hK K
      refine wpAny_ready (rs := [0, 1]) (by kernel_rfl) (by simp) ?_
      refine AllReady.cons rfl (fun K hK => ?_) ?_
      · skip
        go_simp
        refine hK _ _ ?_
        clear hK K
        refine wpAny_ready (rs := [1]) (by kernel_rfl) (by simp) ?_
        refine AllReady.cons rfl (fun K hK => ?_) ?_
        · skip
          go_simp
          refine hK _ _ ?_
          clear hK K
          refine wpAny_take (i := 3) (v := ?v24) rfl (by kernel_rfl) (by kernel_rfl) (by kernel_rfl) (fun _ _ _ h => h) (Or.inl ⟨by rfl, ?y24⟩) ?r24
          case y24 => (intro w; go_simp; try with_reducible rfl)
          refine wpAny_ready (rs := [4]) (by kernel_rfl) (by simp) ?_
          refine AllReady.cons rfl (fun K hK => ?_) ?_
          · skip
            go_simp
            refine hK _ _ ?_
            clear hK K
            refine wpAny_take (i := 6) (v := ?v25) rfl (by kernel_rfl) (by kernel_rfl) (by kernel_rfl) (fun _ _ _ h => h) (Or.inl ⟨by rfl, ?y25⟩) ?r25
            case y25 => (intro w; go_simp; try with_reducible rfl)
            refine wpAny_take (i := 9) (v := ?v26) rfl (by kernel_rfl) (by kernel_rfl) (by kernel_rfl) (fun _ _ _ h => h) (Or.inl ⟨by rfl, ?y26⟩) ?r26
            case y26 => (intro w; go_simp; try with_reducible rfl)
            refine wpAny_ready (rs := [10]) (by kernel_rfl) (by simp) ?_
            refine AllReady.cons rfl (fun K hK => ?_) ?_
            · skip
              go_simp
              refine hK _ _ ?_
              clear hK K
              refine wpAny_ready (rs := [11]) (by kernel_rfl) (by simp) ?_
              refine AllReady.cons rfl (fun K hK => ?_) ?_
              · skip
                go_simp
                refine hK _ _ ?_
                clear hK K
                refine wpAny_ready (rs := [12]) (by kernel_rfl) (by simp) ?_
                refine AllReady.cons rfl (fun K hK => ?_) ?_
                · skip
                  refine step_append_lies _ (by rfl) _ _ 47 (by rfl) W2.heap.size 3 i0 _ 1 8 Tryz.underlying47 hi hz0 hz1 hz2 rfl (by decide) _ (k + 1) (intsV L) (by rfl) (own_drew (World.ownsRow.alloc HO.out.2.1 (.cells #[.int .i64 y] 3))) ⟨W4.heap.size, 0, none⟩ 1 1 [.int .i64 y] (by rfl) rfl (World.news_of_block (blk_new W4 (.cells #[.int .i64 y] 3))) (by simp [Value.oneCell']) (by omega) (by unfold maxLen; omega) (by omega) (by simp; omega) (W4.heap.size + 1) (by simp) ?_
                  intro g1 cap1 w1 hown1 hgrow hat hlt1
                  have q1 := grown_blk hgrow (blk_alloc HO.out.1 (.cells #[.int .i64 y] 3)) (HO.out.2.2 _ (by omega) (by omega))
                  have q1c := blk_cell q1 0
                  have q1f := blk_frozen q1 0
                  simp at q1c
                  try go_simp
                  refine hK _ _ ?_
                  clear hK K
                  refine wpAny_ready (rs := [13]) (by kernel_rfl) (by simp) ?_
                  refine AllReady.cons rfl (fun K hK => ?_) ?_
                  · skip
                    go_simp
                    refine hK _ _ ?_
                    clear hK K
                    refine wpAny_done (by kernel_rfl) ?_ _
                    have q := HJ4.out.grown HO.out.1 HO.out.2.1 HO.out.2.2 hgrow hown1 (by rw [HX.out.2.1]) hat
                    exact ⟨q.lj.loop, rfl, q.put rfl _⟩
                  exact AllReady.nil
                exact AllReady.nil
              exact AllReady.nil
            exact AllReady.nil
          exact AllReady.nil
        exact AllReady.nil
      refine AllReady.cons rfl (fun K hK => ?_) ?_
      · skip
        go_simp
        refine hK _ _ ?_
        clear hK K
        refine wpAny_take (i := 3) (v := ?v27) rfl (by kernel_rfl) (by kernel_rfl) (by kernel_rfl) (fun _ _ _ h => h) (Or.inl ⟨by rfl, ?y27⟩) ?r27
        case y27 => (intro w; go_simp; try with_reducible rfl)
        refine wpAny_ready (rs := [0, 4]) (by kernel_rfl) (by simp) ?_
        refine AllReady.cons rfl (fun K hK => ?_) ?_
        · skip
          go_simp
          refine hK _ _ ?_
          clear hK K
          refine wpAny_ready (rs := [4]) (by kernel_rfl) (by simp) ?_
          refine AllReady.cons rfl (fun K hK => ?_) ?_
          · skip
            go_simp
            refine hK _ _ ?_
            clear hK K
            refine wpAny_take (i := 6) (v := ?v28) rfl (by kernel_rfl) (by kernel_rfl) (by kernel_rfl) (fun _ _ _ h => h) (Or.inl ⟨by rfl, ?y28⟩) ?r28
            case y28 => (intro w; go_simp; try with_reducible rfl)
            refine wpAny_take (i := 9) (v := ?v29) rfl (by kernel_rfl) (by kernel_rfl) (by kernel_rfl) (fun _ _ _ h => h) (Or.inl ⟨by rfl, ?y29⟩) ?r29
            case y29 => (intro w; go_simp; try with_reducible rfl)
            refine wpAny_ready (rs := [10]) (by kernel_rfl) (by simp) ?_
            refine AllReady.cons rfl (fun K hK => ?_) ?_
            · skip
              go_simp
              refine hK _ _ ?_
              clear hK K
              refine wpAny_ready (rs := [11]) (by kernel_rfl) (by simp) ?_
              refine AllReady.cons rfl (fun K hK => ?_) ?_
              · skip
                go_simp
                refine hK _ _ ?_
                clear hK K
                refine wpAny_ready (rs := [12]) (by kernel_rfl) (by simp) ?_
                refine AllReady.cons rfl (fun K hK => ?_) ?_
                · skip
                  refine step_append_lies _ (by rfl) _ _ 47 (by rfl) W2.heap.size 3 i0 _ 1 8 Tryz.underlying47 hi hz0 hz1 hz2 rfl (by decide) _ (k + 1) (intsV L) (by rfl) (own_drew (World.ownsRow.alloc HO.out.2.1 (.cells #[.int .i64 y] 3))) ⟨W4.heap.size, 0, none⟩ 1 1 [.int .i64 y] (by rfl) rfl (World.news_of_block (blk_new W4 (.cells #[.int .i64 y] 3))) (by simp [Value.oneCell']) (by omega) (by unfold maxLen; omega) (by omega) (by simp; omega) (W4.heap.size + 1) (by simp) ?_
                  intro g1 cap1 w1 hown1 hgrow hat hlt1
                  have q1 := grown_blk hgrow (blk_alloc HO.out.1 (.cells #[.int .i64 y] 3)) (HO.out.2.2 _ (by omega) (by omega))
                  have q1c := blk_cell q1 0
                  have q1f := blk_frozen q1 0
                  simp at q1c
                  try go_simp
                  refine hK _ _ ?_
                  clear hK K
                  refine wpAny_ready (rs := [13]) (by kernel_rfl) (by simp) ?_
                  refine AllReady.cons rfl (fun K hK => ?_) ?_
                  · skip
                    go_simp
                    refine hK _ _ ?_
                    clear hK K
                    refine wpAny_done (by kernel_rfl) ?_ _
                    have q := HJ4.out.grown HO.out.1 HO.out.2.1 HO.out.2.2 hgrow hown1 (by rw [HX.out.2.1]) hat
                    exact ⟨q.lj.loop, rfl, q.put rfl _⟩
                  exact AllReady.nil
                exact AllReady.nil
              exact AllReady.nil
            exact AllReady.nil
          exact AllReady.nil
        refine AllReady.cons rfl (fun K hK => ?_) ?_
        · skip
          go_simp
          refine hK _ _ ?_
          clear hK K
          refine wpAny_take (i := 6) (v := ?v30) rfl (by kernel_rfl) (by kernel_rfl) (by kernel_rfl) (fun _ _ _ h => h) (Or.inl ⟨by rfl, ?y30⟩) ?r30
          case y30 => (intro w; go_simp; try with_reducible rfl)
          refine wpAny_take (i := 9) (v := ?v31) rfl (by kernel_rfl) (by kernel_rfl) (by kernel_rfl) (fun _ _ _ h => h) (Or.inl ⟨by rfl, ?y31⟩) ?r31
          case y31 => (intro w; go_simp; try with_reducible rfl)
          refine wpAny_ready (rs := [0, 10]) (by kernel_rfl) (by simp) ?_
          refine AllReady.cons rfl (fun K hK => ?_) ?_
          · skip
            go_simp
            refine hK _ _ ?_
            clear hK K
            refine wpAny_ready (rs := [10]) (by kernel_rfl) (by simp) ?_
            refine AllReady.cons rfl (fun K hK => ?_) ?_
            · skip
              go_simp
              refine hK _ _ ?_
              clear hK K
              refine wpAny_ready (rs := [11]) (by kernel_rfl) (by simp) ?_
              refine AllReady.cons rfl (fun K hK => ?_) ?_
              · skip
                go_simp
                refine hK _ _ ?_
                clear hK K
                refine wpAny_ready (rs := [12]) (by kernel_rfl) (by simp) ?_
                refine AllReady.cons rfl (fun K hK => ?_) ?_
                · skip
                  refine step_append_lies _ (by rfl) _ _ 47 (by rfl) W2.heap.size 3 i0 _ 1 8 Tryz.underlying47 hi hz0 hz1 hz2 rfl (by decide) _ (k + 1) (intsV L) (by rfl) (own_drew (World.ownsRow.alloc HO.out.2.1 (.cells #[.int .i64 y] 3))) ⟨W4.heap.size, 0, none⟩ 1 1 [.int .i64 y] (by rfl) rfl (World.news_of_block (blk_new W4 (.cells #[.int .i64 y] 3))) (by simp [Value.oneCell']) (by omega) (by unfold maxLen; omega) (by omega) (by simp; omega) (W4.heap.size + 1) (by simp) ?_
                  intro g1 cap1 w1 hown1 hgrow hat hlt1
                  have q1 := grown_blk hgrow (blk_alloc HO.out.1 (.cells #[.int .i64 y] 3)) (HO.out.2.2 _ (by omega) (by omega))
                  have q1c := blk_cell q1 0
                  have q1f := blk_frozen q1 0
                  simp at q1c
                  try go_simp
                  refine hK _ _ ?_
                  clear hK K
                  refine wpAny_ready (rs := [13]) (by kernel_rfl) (by simp) ?_
                  refine AllReady.cons rfl (fun K hK => ?_) ?_
                  · skip
                    go_simp
                    refine hK _ _ ?_
                    clear hK K
                    refine wpAny_done (by kernel_rfl) ?_ _
                    have q := HJ4.out.grown HO.out.1 HO.out.2.1 HO.out.2.2 hgrow hown1 (by rw [HX.out.2.1]) hat
                    exact ⟨q.lj.loop, rfl, q.put rfl _⟩
                  exact AllReady.nil
                exact AllReady.nil
              exact AllReady.nil
            exact AllReady.nil
          refine AllReady.cons rfl (fun K hK => ?_) ?_
          · skip
            go_simp
            refine hK _ _ ?_
            clear hK K
            refine wpAny_ready (rs := [0, 11]) (by kernel_rfl) (by simp) ?_
            refine AllReady.cons rfl (fun K hK => ?_) ?_
            · skip
              go_simp
              refine hK _ _ ?_
              clear hK K
              refine wpAny_ready (rs := [11]) (by kernel_rfl) (by simp) ?_
              refine AllReady.cons rfl (fun K hK => ?_) ?_
              · skip
                go_simp
                refine hK _ _ ?_
                clear hK K
                refine wpAny_ready (rs := [12]) (by kernel_rfl) (by simp) ?_
                refine AllReady.cons rfl (fun K hK => ?_) ?_
                · skip
                  refine step_append_lies _ (by rfl) _ _ 47 (by rfl) W2.heap.size 3 i0 _ 1 8 Tryz.underlying47 hi hz0 hz1 hz2 rfl (by decide) _ (k + 1) (intsV L) (by rfl) (own_drew (World.ownsRow.alloc HO.out.2.1 (.cells #[.int .i64 y] 3))) ⟨W4.heap.size, 0, none⟩ 1 1 [.int .i64 y] (by rfl) rfl (World.news_of_block (blk_new W4 (.cells #[.int .i64 y] 3))) (by simp [Value.oneCell']) (by omega) (by unfold maxLen; omega) (by omega) (by simp; omega) (W4.heap.size + 1) (by simp) ?_
                  intro g1 cap1 w1 hown1 hgrow hat hlt1
                  have q1 := grown_blk hgrow (blk_alloc HO.out.1 (.cells #[.int .i64 y] 3)) (HO.out.2.2 _ (by omega) (by omega))
                  have q1c := blk_cell q1 0
                  have q1f := blk_frozen q1 0
                  simp at q1c
                  try go_simp
                  refine hK _ _ ?_
                  clear hK K
                  refine wpAny_ready (rs := [13]) (by kernel_rfl) (by simp) ?_
                  refine AllReady.cons rfl (fun K hK => ?_) ?_
                  · skip
                    go_simp
                    refine hK _ _ ?_
                    clear hK K
                    refine wpAny_done (by kernel_rfl) ?_ _
                    have q := HJ4.out.grown HO.out.1 HO.out.2.1 HO.out.2.2 hgrow hown1 (by rw [HX.out.2.1]) hat
                    exact ⟨q.lj.loop, rfl, q.put rfl _⟩
                  exact AllReady.nil
                exact AllReady.nil
              exact AllReady.nil
            refine AllReady.cons rfl (fun K hK => ?_) ?_
            · skip
              go_simp
              refine hK _ _ ?_
              clear hK K
              refine wpAny_ready (rs := [0]) (by kernel_rfl) (by simp) ?_
              refine AllReady.cons rfl (fun K hK => ?_) ?_
              · skip
                go_simp
                refine hK _ _ ?_
                clear hK K
                refine wpAny_ready (rs := [12]) (by kernel_rfl) (by simp) ?_
                refine AllReady.cons rfl (fun K hK => ?_) ?_
                · skip
                  refine step_append_lies _ (by rfl) _ _ 47 (by rfl) W2.heap.size 3 i0 _ 1 8 Tryz.underlying47 hi hz0 hz1 hz2 rfl (by decide) _ (k + 1) (intsV L) (by rfl) (own_drew (World.ownsRow.alloc HO.out.2.1 (.cells #[.int .i64 y] 3))) ⟨W4.heap.size, 0, none⟩ 1 1 [.int .i64 y] (by rfl) rfl (World.news_of_block (blk_new W4 (.cells #[.int .i64 y] 3))) (by simp [Value.oneCell']) (by omega) (by unfold maxLen; omega) (by omega) (by simp; omega) (W4.heap.size + 1) (by simp) ?_
                  intro g1 cap1 w1 hown1 hgrow hat hlt1
                  have q1 := grown_blk hgrow (blk_alloc HO.out.1 (.cells #[.int .i64 y] 3)) (HO.out.2.2 _ (by omega) (by omega))
                  have q1c := blk_cell q1 0
                  have q1f := blk_frozen q1 0
                  simp at q1c
                  try go_simp
                  refine hK _ _ ?_
                  clear hK K
                  refine wpAny_ready (rs := [13]) (by kernel_rfl) (by simp) ?_
                  refine AllReady.cons rfl (fun K hK => ?_) ?_
                  · skip
                    go_simp
                    refine hK _ _ ?_
                    clear hK K
                    refine wpAny_done (by kernel_rfl) ?_ _
                    have q := HJ4.out.grown HO.out.1 HO.out.2.1 HO.out.2.2 hgrow hown1 (by rw [HX.out.2.1]) hat
                    exact ⟨q.lj.loop, rfl, q.put rfl _⟩
                  exact AllReady.nil
                exact AllReady.nil
              exact AllReady.nil
            exact AllReady.nil
          exact AllReady.nil
        exact AllReady.nil
      exact AllReady.nil
    exact AllReady.nil
  case done =>
    rintro e W3 ⟨⟨v, rfl⟩, h⟩
    refine ⟨⟨_, rfl⟩, .inl ⟨h.lj.loop, ?_⟩⟩
    obtain ⟨W5, hW5⟩ : ∃ W5, W3.putObj (W2.heap.size + 7) (rec .exhausted none) = W5 := ⟨_, rfl⟩
    have hJ5 : CJ w carry a n cap ai ni ci T W2.heap.size (rec .exhausted none) (levs carry ps ins start T) W5 := by rw [← hW5]; exact h.put rfl _
    rw [hW5]
    generalize hv : levs carry ps ins start T = L at hJ5
    have HV := Lib.hid hv
    clear hv
    obtain ⟨v, hv, ho, hne⟩ := hJ5.out
    have HJ5 := Lib.hid hJ5
    have HO := Lib.hid (And.intro ho hne)
    have c0 := blk_cell hv 0
    simp at c0
    clear hJ5 hv ho hne hW5 h hround hrec
    gi_wp2
    refine ⟨by simp, .inl ⟨_, _, rfl, run_takeDeferred HJ5.out.lj.marks, ?_⟩⟩
    have hR := HJ5.out.base
    refine ⟨_, results_tmp2 rfl _ _ _, _, rfl, ?_, below_put HJ5.out.lj.below (by omega) _⟩
    rw [HV.out]
    exact owns_base (owns_put_ne HO.out.1 (HO.out.2 _ (by omega) (by omega)) _) (by omega)
end Go.Proofs.YtmghcinbdfeeoaaGreat
