/- Chapter 07: the program's Course. -/
import Derived.Test.YtojpbmaojbejjaaIter
namespace Go.Proofs.Ytojpbmaojbejjaa
open Go Go.RowKit Go.Shelf
attribute [local go_sem] Oper.semAt_some

def flatS (ss : List BSt) : List Value := (Sts ss).flatten
theorem sts_two (ss : List BSt) : ∀ r ∈ Sts ss, r.length = 2 := by
  intro r hr
  obtain ⟨m, _, rfl⟩ := List.mem_map.1 hr
  rfl
theorem flatS_app (ss ts : List BSt) : flatS (ss ++ ts) = flatS ss ++ flatS ts := by simp [flatS]
theorem flatS_one (s : BSt) : flatS [s] = s.cells := by simp [flatS]
theorem cells_one (s : BSt) : ∀ v ∈ s.cells, v.oneCell' = true := by
  intro v hv
  simp only [BSt.cells, List.mem_cons, List.not_mem_nil, or_false] at hv
  rcases hv with rfl | rfl <;> rfl

/-- The slice v holds just the states ss, in memory of its own, from block base on. -/
def OwnS (base : Nat) (w : World) (v : Value) (ss : List BSt) : Prop := w.ownsRow base 37 2 v ss.length (flatS ss)
theorem OwnS.rows {base : Nat} {w : World} {v : Value} {ss : List BSt} (h : OwnS base w v ss) : ∃ a cap, v = .slice a ss.length cap ∧ RowsAt w.heap.size w a 2 (Sts ss) := by
  have hl : (Sts ss).length = ss.length := by simp
  obtain ⟨a, cap, hv, hr⟩ := owns_slice (rows := Sts ss) (by rw [hl]; exact h) (sts_two ss)
  exact ⟨a, cap, by rw [hv, hl], hr⟩
theorem OwnS.base {b b' : Nat} {w : World} {v : Value} {ss : List BSt} (h : OwnS b w v ss) (hb : b' ≤ b) : OwnS b' w v ss := owns_base h hb
theorem OwnS.later {base : Nat} {w w' : World} {v : Value} {ss : List BSt} (h : OwnS base w v ss) (hb : Below w.heap.size w w') : OwnS base w' v ss := owns_later h hb
theorem OwnS.nil (base : Nat) (w : World) : OwnS base w (.slice none 0 0) [] := World.ownsRow_nil _ _ _ _

theorem owns_kept {W W' : World} {base : Nat} {e : TypeId} {k : Nat} {v : Value} {n : Nat} {xs : List Value} (h : W.ownsRow base e k v n xs) (hk : ∀ g, v.ownBlock = some g → W'.heap[g]? = W.heap[g]?) : W'.ownsRow base e k v n xs := by
  refine ⟨h.1, ?_⟩
  rcases h.2 with h2 | ⟨g, cap, cur, hv, hg, hh, r⟩
  · exact Or.inl h2
  · exact Or.inr ⟨g, cap, cur, hv, hg, by rw [hk g (by rw [hv]; rfl)]; exact hh, r⟩
theorem owns_put_ne {W : World} {base : Nat} {e : TypeId} {k : Nat} {v : Value} {n : Nat} {xs : List Value} (h : W.ownsRow base e k v n xs) {l : Nat} (hl : some l ≠ v.ownBlock) (o : Obj) : (W.putObj l o).ownsRow base e k v n xs :=
  owns_kept h fun g hg => World.putObj_heap_other (by rintro rfl; exact hl hg.symm)
theorem owns_set_ne {W : World} {base : Nat} {e : TypeId} {k : Nat} {v : Value} {n : Nat} {xs : List Value} (h : W.ownsRow base e k v n xs) {a : Addr} (hl : some a.block ≠ v.ownBlock) (u : Value) : (W.setCell a u).ownsRow base e k v n xs :=
  owns_kept h fun g hg => Below.heap_setCell W a u g (by rintro rfl; exact hl hg.symm)
theorem owns_but_ne {W W' : World} {base : Nat} {e : TypeId} {k : Nat} {v : Value} {n : Nat} {xs : List Value} (h : W.ownsRow base e k v n xs) {l : Nat} (hb : ButRow l W W') (hl : some l ≠ v.ownBlock) : W'.ownsRow base e k v n xs :=
  owns_kept h fun g hg => hb.block g (by rintro rfl; exact hl hg.symm)

theorem info37 : (Try.prog.info? 37).map (fun i => (i.zero, i.size, i.bytes)) = some (some (.agg #[.int .i64 0, .bool false]), 2, 16) := by kernel_rfl

/-- Between two rounds of Course's loop. R: the first block that the loop knows. -/
structure SJ (rec : LoopState → Option Code → Obj) (w : World) (b : Brk) (a : Option Addr) (n cap R : Nat) (S : List BSt) (c : BSt) (W : World) : Prop where
  below : Below w.heap.size w W
  base : w.heap.size ≤ R
  size : R + 8 ≤ W.heap.size
  marks : W.heap[R + 6]? = some (.deferred (some []))
  loop : W.heap[R + 7]? = some (rec .ready none)
  bb : W.heap[R + 2]? = some (.cells b.cells.toArray 23 (0, 0))
  sb : W.heap[R + 3]? = some (.cells c.cells.toArray 37 (0, 0))
  wb : W.heap[R + 4]? = some (.cells #[.slice a n cap] 43 (0, 0))
  tb : W.heap[R + 5]? = some (.cells #[.func (.func 53) #[] #[.pointer (some ⟨R + 3, 0, none⟩), .pointer (some ⟨R + 2, 0, none⟩)]] 78 (0, 0))
  out : ∃ v, W.heap[R + 1]? = some (.cells #[v] 40 (0, 0)) ∧ OwnS R W v S ∧ ∀ j, R < j → j < R + 8 → some j ≠ v.ownBlock

theorem SJ.tick {rec : LoopState → Option Code → Obj} {w : World} {b : Brk} {a : Option Addr} {n cap R : Nat} {S : List BSt} {c c' : BSt} {W W' : World} (h : SJ rec w b a n cap R S c W) (hb : ButRow (R + 3) W W')
    (hs : W'.heap[R + 3]? = some (.cells c'.cells.toArray 37 (0, 0))) : SJ rec w b a n cap R S c' W' := by
  obtain ⟨v, h1, h2, h3⟩ := h.out
  have hR := h.base
  exact ⟨hb.below h.below (by omega), hR, by rw [hb.size]; exact h.size, hb.blk h.marks (by omega), hb.blk h.loop (by omega), hb.blk h.bb (by omega), hs, hb.blk h.wb (by omega), hb.blk h.tb (by omega),
    v, hb.blk h1 (by omega), owns_but_ne h2 hb (h3 _ (by omega) (by omega)), h3⟩

set_option maxRecDepth 100000 in
set_option maxHeartbeats 2000000 in
theorem course_ok (b : Brk) (s : BSt) (a : Option Addr) (n cap : Nat) (ws : List Int) (w : World) (hn : ws.length = n) (hl : n ≤ 9223372036854775807) (hm : RowsAt w.heap.size w a 1 (Ints ws)) :
    Calls Try.prog 20 #[b.val, s.val, .slice a n cap] w fun e W' => ∃ v, e = .returned (.tuple #[v, .int .i64 (courseE b s ws)]) ∧ OwnS w.heap.size W' v (courseL b s ws) ∧ Below w.heap.size w W' := by
  have Hm := Lib.hid hm; clear hm
  have Hn := Lib.hid hn
  refine (callsIn_wide (n := 0)).1 ?_
  cases hS : okS b s
  · have e1 : courseE b s ws = 1 := by unfold courseE; rw [hS]; rfl
    have e2 : courseL b s ws = [] := by unfold courseL; rw [e1]; rfl
    rw [e1, e2]
    have HS := Lib.hid hS
    clear e1 e2 hS hn
    refine callsIn_of_wp_marks Try.func20 rfl trivial ?_ rfl
    simp only [Try.ntmps20, List.size_toArray, List.length_cons, List.length_nil, Nat.reduceAdd, Nat.reduceSub, Array.replicate_succ, Array.replicate_zero, List.push_toArray, List.append_toArray, List.nil_append, List.cons_append]
    gi_wp2_with fail
    refine (callsIn_wide.2 (proper_ok _ _ _)).mono ?_
    rintro e W2 ⟨rfl, hb2⟩
    rw [HS.out]
    have w2 := Lib.hid (below_trans (below_alloc (below_alloc (below_self w) _) _) hb2)
    clear hb2
    gi_wp2_with fail
    exact ⟨_, results_tmp2 rfl _ _ _, _, rfl, OwnS.nil _ _, w2.out⟩
  · cases hall : ws.all okW
    · have e1 : courseE b s ws = 2 := by unfold courseE; rw [hS, hall]; simp
      have e2 : courseL b s ws = [] := by unfold courseL; rw [e1]; rfl
      have hany : ws.any (fun z => !okW z) = true := by rw [List.all_eq_not_any_not] at hall; simpa using hall
      rw [e1, e2]
      have HS := Lib.hid hS
      have HA := Lib.hid hany
      clear e1 e2 hS hany hall hn
      by_cases hbig : 1000 < n
      · refine callsIn_of_wp_marks Try.func20 rfl trivial ?_ rfl
        simp only [Try.ntmps20, List.size_toArray, List.length_cons, List.length_nil, Nat.reduceAdd, Nat.reduceSub, Array.replicate_succ, Array.replicate_zero, List.push_toArray, List.append_toArray, List.nil_append, List.cons_append]
        gi_wp2_with fail
        refine (callsIn_wide.2 (proper_ok _ _ _)).mono ?_
        rintro e W2 ⟨rfl, hb2⟩
        rw [HS.out]
        have w2 := Lib.hid (below_trans (below_alloc (below_alloc (below_self w) _) _) hb2)
        clear hb2
        gi_wp2_with fail
        exact ⟨_, results_tmp2 rfl _ _ _, _, rfl, OwnS.nil _ _, w2.out⟩
      · refine callsIn_of_wp_marks Try.func20 rfl trivial ?_ rfl
        simp only [Try.ntmps20, List.size_toArray, List.length_cons, List.length_nil, Nat.reduceAdd, Nat.reduceSub, Array.replicate_succ, Array.replicate_zero, List.push_toArray, List.append_toArray, List.nil_append, List.cons_append]
        gi_wp2_with fail
        refine (callsIn_wide.2 (proper_ok _ _ _)).mono ?_
        rintro e W2 ⟨rfl, hb2⟩
        rw [HS.out]
        have w2 := Lib.hid (below_trans (below_alloc (below_alloc (below_self w) _) _) hb2)
        clear hb2
        gi_wp2_with fail
        refine (callsIn_wide.2 (containsI_ok 44 #[] (fun z => !okW z) a n cap ws _ Hn.out hl (Hm.out.later w2.out)
          (fun W x _ => (bad_ok x W).mono (by rintro e W' ⟨rfl, rfl⟩; exact ⟨rfl, below_self _⟩)) (enters_of Try.func44 (by kernel_rfl) rfl))).mono ?_
        rintro e W3 ⟨rfl, hb3⟩
        rw [HA.out]
        have w3 := Lib.hid (below_trans w2.out hb3)
        clear hb3
        gi_wp2_with fail
        exact ⟨_, results_tmp2 rfl _ _ _, _, rfl, OwnS.nil _ _, w3.out⟩
    · by_cases hbig : 1000 < n
      · have e1 : courseE b s ws = 2 := by unfold courseE; rw [hS, hn, if_pos rfl, if_neg (by omega)]
        have e2 : courseL b s ws = [] := by unfold courseL; rw [e1]; rfl
        rw [e1, e2]
        have HS := Lib.hid hS
        clear e1 e2 hS hall hn
        refine callsIn_of_wp_marks Try.func20 rfl trivial ?_ rfl
        simp only [Try.ntmps20, List.size_toArray, List.length_cons, List.length_nil, Nat.reduceAdd, Nat.reduceSub, Array.replicate_succ, Array.replicate_zero, List.push_toArray, List.append_toArray, List.nil_append, List.cons_append]
        gi_wp2_with fail
        refine (callsIn_wide.2 (proper_ok _ _ _)).mono ?_
        rintro e W2 ⟨rfl, hb2⟩
        rw [HS.out]
        have w2 := Lib.hid (below_trans (below_alloc (below_alloc (below_self w) _) _) hb2)
        clear hb2
        gi_wp2_with fail
        exact ⟨_, results_tmp2 rfl _ _ _, _, rfl, OwnS.nil _ _, w2.out⟩
      · have e1 : courseE b s ws = 0 := by unfold courseE; rw [hS, if_pos rfl, if_pos ⟨by omega, hall⟩]
        have e2 : courseL b s ws = runB b s ws := by unfold courseL; rw [if_pos e1]
        have hany : ws.any (fun z => !okW z) = false := by rw [List.all_eq_not_any_not] at hall; simpa using hall
        have hw : ∀ z ∈ ws, 0 ≤ z ∧ z ≤ 100000000 := fun z hz => inR_iff.1 (List.all_eq_true.1 hall z hz)
        have hB : okB b = true := by unfold okS at hS; rw [Bool.and_eq_true] at hS; exact hS.1
        have hIn := StIn.of hS
        rw [e1, e2]
        have HS := Lib.hid hS
        have HA := Lib.hid hany
        have HW := Lib.hid (And.intro hw (And.intro hB hIn))
        clear e1 e2 hS hany hall hn hw hB hIn
        have hbD : decide (1000 < (n : Int)) = false := decide_eq_false (by omega)
        refine callsIn_of_wp_marks Try.func20 rfl trivial ?_ rfl
        simp only [Try.ntmps20, List.size_toArray, List.length_cons, List.length_nil, Nat.reduceAdd, Nat.reduceSub, Array.replicate_succ, Array.replicate_zero, List.push_toArray, List.append_toArray, List.nil_append, List.cons_append]
        gi_wp2_with fail
        obtain ⟨W1, hW1⟩ : ∃ W' : World, ((w.alloc (.cells b.cells.toArray 23)).alloc (.cells s.cells.toArray 37)) = W' := ⟨_, rfl⟩
        have H1 : Has W1 [(w.heap.size + 1, .cells s.cells.toArray 37 (0, 0)), (w.heap.size, .cells b.cells.toArray 23 (0, 0))] := by rw [← hW1]; simpa using (((Has.nil w).new _).new _)
        have s1 : W1.heap.size = w.heap.size + 1 + 1 := by rw [← hW1]; simp
        have b1 : Below w.heap.size w W1 := by rw [← hW1]; exact (below_alloc (below_alloc (below_self w) _) _)
        rw [hW1]
        clear hW1
        refine (callsIn_wide.2 (proper_ok _ _ _)).mono ?_
        rintro e W2 ⟨rfl, hb2⟩
        rw [HS.out]
        have h2 := H1.below hb2
        have w2 := Lib.hid (below_trans b1 hb2)
        clear hb2 H1 b1
        gi_wp2_with fail
        refine (callsIn_wide.2 (containsI_ok 44 #[] (fun z => !okW z) a n cap ws _ Hn.out hl (Hm.out.later w2.out)
          (fun W x _ => (bad_ok x W).mono (by rintro e W' ⟨rfl, rfl⟩; exact ⟨rfl, below_self _⟩)) (enters_of Try.func44 (by kernel_rfl) rfl))).mono ?_
        rintro e W3 ⟨rfl, hb3⟩
        rw [HA.out]
        have h3 := h2.below hb3
        have w3 := Lib.hid (below_trans w2.out hb3)
        have c0 := blk_cell h3.hd 0
        have c1 := blk_cell h3.hd 1
        have k0 := blk_cell h3.tl.hd 0
        have k1 := blk_cell h3.tl.hd 1
        have k2 := blk_cell h3.tl.hd 2
        have k3 := blk_cell h3.tl.hd 3
        simp at c0 c1 k0 k1 k2 k3
        have l0 : w.heap.size < W3.heap.size := blk_lt h3.tl.hd
        have l1 : w.heap.size + 1 < W3.heap.size := blk_lt h3.hd
        clear hb3 h2 h3 w2 s1
        gi_wp2_with fail
        refine (states_ok _ _ _ _ _ _).mono ?_
        rintro e w' ⟨rfl, rfl⟩
        clear c0 c1 k0 k1 k2 k3
        gi_wp2
        have hws := HW.out.1
        have hlen : n ≤ 1000000 := by omega
        refine range_wide rfl (enters_of Try.func54 (by kernel_rfl) rfl) ?_
        intro rec hrec hround
        simp only [World.size_alloc, Nat.add_assoc, Nat.reduceAdd] at hround ⊢
        refine (st2_ok _ (W3.heap.size + 4) (W3.heap.size + 5) (W3.heap.size + 3) (W3.heap.size + 2) w.heap.size cap n a b s ws Hn.out hlen HW.out.2.2 hws HW.out.2.1
          (fun k => SJ rec w b a n cap W3.heap.size (runB b s (ws.take k)) (stAt b s (ws.take k))) (fun k => SJ rec w b a n cap W3.heap.size (runB b s (ws.take k)) (stAt b s (ws.take (k + 1)))) ?hread ?htick ?hY _ ?h0).mono ?done
        case hread =>
          intro k W h
          exact ⟨by rw [blk_cell h.wb]; rfl, Hm.out.below h.below, h.below.size, by rw [blk_cell h.tb]; rfl, h.sb, h.bb⟩
        case htick =>
          intro k W W' h _ hb hs
          exact h.tick hb hs
        case h0 =>
          have hA : ∀ (A : World) (o : Obj) (m : Nat), A.heap.size = m → (A.alloc o).heap[m]? = some o := fun A o m h => by rw [← h]; exact blk_new A o
          have hb := w3.out
          refine ⟨below_alloc (below_alloc (below_alloc (below_alloc (below_alloc (below_alloc (below_alloc (below_alloc hb _) _) _) _) _) _) _) _, hb.size, by simp, ?_, ?_, ?_, ?_, ?_, ?_, .slice (some ⟨W3.heap.size, 0, none⟩) 1 1, ?_, ?_, ?_⟩
          · exact blk_alloc (hA _ _ _ (by simp)) _
          · exact hA _ _ _ (by simp)
          · exact blk_alloc (blk_alloc (blk_alloc (blk_alloc (blk_alloc (hA _ _ _ (by simp)) _) _) _) _) _
          · exact blk_alloc (blk_alloc (blk_alloc (blk_alloc (hA _ _ _ (by simp)) _) _) _) _
          · exact blk_alloc (blk_alloc (blk_alloc (hA _ _ _ (by simp)) _) _) _
          · exact blk_alloc (blk_alloc (hA _ _ _ (by simp)) _) _
          · exact blk_alloc (blk_alloc (blk_alloc (blk_alloc (blk_alloc (blk_alloc (hA _ _ _ (by simp)) _) _) _) _) _) _
          · refine owns_of_blk (xs := s.cells) ?_ (Nat.le_refl _) rfl (by unfold maxLen; simp)
            exact blk_alloc (blk_alloc (blk_alloc (blk_alloc (blk_alloc (blk_alloc (blk_alloc (hA _ _ _ rfl) _) _) _) _) _) _) _
          · intro j h1 _ h2
            simp [Value.ownBlock] at h2
            omega
        case hY =>
          intro k W hk h hsb
          have hkl : k < ws.length := by rw [Hn.out]; exact hk
          have hrun : runB b s (ws.take (k + 1)) = runB b s (ws.take k) ++ [stAt b s (ws.take (k + 1))] := by
            rw [List.take_succ_eq_append_getElem hkl, runB_snoc, stAt_snoc]
          have hlk : (runB b s (ws.take k)).length = k + 1 := by rw [runB_len, List.length_take]; omega
          generalize hc : stAt b s (ws.take (k + 1)) = c at hrun h hsb ⊢
          generalize runB b s (ws.take k) = S at hrun h hlk
          refine (hround #[.int .i64 k, c.val] W (fun d W' => d = true ∧ SJ rec w b a n cap W3.heap.size (S ++ [c]) c W') rfl h.loop ?_).mono (by
            rintro e W' ⟨d, rfl, rfl, h⟩
            exact ⟨rfl, by rw [hrun]; exact h⟩)
          have HJ := Lib.hid h; clear h
          have Hround := Lib.hid hround; clear hround
          have Hrec := Lib.hid hrec; clear hrec
          have HLK := Lib.hid hlk
          clear hc hrun hsb hkl hlk
          gi_wp2
          refine ⟨blk_alloc HJ.out.loop _, ?_⟩
          obtain ⟨W4, hW4⟩ : ∃ W4, (W.alloc (.cells c.cells.toArray 37)).putObj (W3.heap.size + 7) (rec .busy none) = W4 := ⟨_, rfl⟩
          have hsz := HJ.out.size
          have b0 : W4.heap[W.heap.size]? = some (.cells c.cells.toArray 37 (0, 0)) := by rw [← hW4]; exact blk_put (blk_new _ _) (by omega)
          obtain ⟨v, hv, ho, hne⟩ := HJ.out.out
          have b1 : W4.heap[W3.heap.size + 1]? = some (.cells #[v] 40 (0, 0)) := by rw [← hW4]; exact blk_put (blk_alloc hv _) (by omega)
          have b2 : W4.heap[W3.heap.size + 2]? = some (.cells b.cells.toArray 23 (0, 0)) := by rw [← hW4]; exact blk_put (blk_alloc HJ.out.bb _) (by omega)
          have b3 : W4.heap[W3.heap.size + 3]? = some (.cells c.cells.toArray 37 (0, 0)) := by rw [← hW4]; exact blk_put (blk_alloc HJ.out.sb _) (by omega)
          have b4 : W4.heap[W3.heap.size + 4]? = some (.cells #[.slice a n cap] 43 (0, 0)) := by rw [← hW4]; exact blk_put (blk_alloc HJ.out.wb _) (by omega)
          have b5 : W4.heap[W3.heap.size + 5]? = some (.cells #[.func (.func 53) #[] #[.pointer (some ⟨W3.heap.size + 3, 0, none⟩), .pointer (some ⟨W3.heap.size + 2, 0, none⟩)]] 78 (0, 0)) := by rw [← hW4]; exact blk_put (blk_alloc HJ.out.tb _) (by omega)
          have b6 : W4.heap[W3.heap.size + 6]? = some (.deferred (some [])) := by rw [← hW4]; exact blk_put (blk_alloc HJ.out.marks _) (by omega)
          have b7 : W4.heap[W3.heap.size + 7]? = some (rec .busy none) := by rw [← hW4]; exact World.putObj_heap_same (by simp; omega)
          have o4 : OwnS W3.heap.size W4 v S := by rw [← hW4]; exact owns_put_ne (ho.alloc _) (hne _ (by omega) (by omega)) _
          have hsz4 : W3.heap.size + 8 ≤ W4.heap.size := by rw [← hW4]; simp; omega
          have hbel : Below w.heap.size w W4 := by rw [← hW4]; exact below_put (below_alloc HJ.out.below _) (by have := HJ.out.base; omega) _
          have hW0 : W.heap.size < W4.heap.size := by rw [← hW4]; simp
          rw [hW4]
          have hbase := HJ.out.base
          clear hW4 hv ho HJ Hround
          have HB := Lib.hid (And.intro b1 (And.intro b2 (And.intro b3 (And.intro b4 (And.intro b5 (And.intro b6 (And.intro b7 (And.intro o4 (And.intro hbel hne)))))))))
          have c0 := blk_cell b0 0
          have c1 := blk_cell b0 1
          have c2 := blk_cell b1 0
          simp at c0 c1 c2
          obtain ⟨i0, hi, hz0, hz1, hz2⟩ := info_parts info37
          clear b0 b1 b2 b3 b4 b5 b6 b7 o4 hbel hne
          gi_wp2_with (gi_at_builtin; go_must (refine wpListIn_append_own_at _ rfl _ _ 40 rfl W3.heap.size 37 i0 _ 2 16 Try.underlying40 hi hz0 hz1 hz2 rfl (by decide) _ _ _ rfl (World.ownsRow.alloc HB.out.2.2.2.2.2.2.2.1 (.cells c.cells.toArray 37)) ⟨W4.heap.size, 0, none⟩ 1 1 c.cells rfl rfl ?d1 ?d2 ?d3 ?d4 ?d5 ?_))
          case d1 => exact src_new _ _ _
          case d2 => exact cells_one c
          case d3 => unfold maxLen; have := HLK.out; omega
          case d4 => have := HLK.out; omega
          case d5 => simp; omega
          intro v' w1 hown' hgrow _ hat
          obtain ⟨av, capv, rfl, _⟩ := owns_shape hown'
          have hne' : ∀ j, W3.heap.size < j → j < W3.heap.size + 8 → some j ≠ (Value.slice av (S.length + 1) capv).ownBlock := by
            intro j h1 h2
            rcases hat with h | h
            · rw [h]; exact HB.out.2.2.2.2.2.2.2.2.2 j h1 h2
            · rw [h]; simp; omega
          have hneo := HB.out.2.2.2.2.2.2.2.2.2
          have q1 := grown_blk hgrow (blk_alloc HB.out.1 _) (hneo _ (by omega) (by omega))
          have hq : OwnS W3.heap.size w1 (.slice av (S.length + 1) capv) (S ++ [c]) := by
            unfold OwnS
            rw [flatS_app, flatS_one, List.length_append]
            exact hown'
          have HQ := Lib.hid (And.intro q1 (And.intro (grown_blk hgrow (blk_alloc HB.out.2.1 _) (hneo _ (by omega) (by omega))) (And.intro (grown_blk hgrow (blk_alloc HB.out.2.2.1 _) (hneo _ (by omega) (by omega))) (And.intro (grown_blk hgrow (blk_alloc HB.out.2.2.2.1 _) (hneo _ (by omega) (by omega)))
            (And.intro (grown_blk hgrow (blk_alloc HB.out.2.2.2.2.1 _) (hneo _ (by omega) (by omega))) (And.intro (grown_blk hgrow (blk_alloc HB.out.2.2.2.2.2.1 _) (hneo _ (by omega) (by omega))) (And.intro (grown_blk hgrow (blk_alloc HB.out.2.2.2.2.2.2.1 _) (hneo _ (by omega) (by omega)))
              (And.intro hq (And.intro (grown_below (below_alloc HB.out.2.2.2.2.2.2.2.2.1 _) (World.ownsRow.alloc HB.out.2.2.2.2.2.2.2.1 _) hgrow hbase (by simp; omega)) hne')))))))))
          have hsz5 : W3.heap.size + 8 ≤ w1.heap.size := by have := hgrow.size; simp at this; omega
          have q1c := blk_cell q1 0
          have q1f := blk_frozen q1 0
          simp at q1c
          clear HB q1 hq hown' hgrow c0 c1 c2 hi hz0 hz1 hz2 hat hne' hneo
          gi_wp2
          obtain ⟨b1, b2, b3, b4, b5, b6, b7, o5, hbel, hne'⟩ := HQ.out
          refine ⟨blk_set b7 (by simp) _, rfl, below_put (hbel.setCell (by simp; omega) _) (by omega) _, hbase, by simpa using hsz5, blk_put (blk_set b6 (by simp) _) (by omega), World.putObj_heap_same (by simp; omega), blk_put (blk_set b2 (by simp) _) (by omega),
            blk_put (blk_set b3 (by simp) _) (by omega), blk_put (blk_set b4 (by simp) _) (by omega), blk_put (blk_set b5 (by simp) _) (by omega), _, blk_put (blk_set_same b1) (by omega), ?_, hne'⟩
          exact owns_put_ne (owns_set_ne o5 (hne' _ (by simp) (by simp)) _) (hne' _ (by omega) (by omega)) _
        case done =>
          rintro e W2 ⟨⟨v, rfl⟩, h⟩
          refine ⟨⟨_, rfl⟩, .inl ⟨h.loop, ?_⟩⟩
          have hR := h.base
          have hlast : ws.take n = ws := List.take_of_length_le (by rw [Hn.out]; omega)
          rw [hlast] at h
          obtain ⟨v, hv, ho, hne⟩ := h.out
          obtain ⟨W5, hW5⟩ : ∃ W5, W2.putObj (W3.heap.size + 7) (rec .exhausted none) = W5 := ⟨_, rfl⟩
          have b1 : W5.heap[W3.heap.size + 1]? = some (.cells #[v] 40 (0, 0)) := by rw [← hW5]; exact blk_put hv (by omega)
          have b6 : W5.heap[W3.heap.size + 6]? = some (.deferred (some [])) := by rw [← hW5]; exact blk_put h.marks (by omega)
          have o5 : OwnS W3.heap.size W5 v (runB b s ws) := by rw [← hW5]; exact owns_put_ne ho (hne _ (by omega) (by omega)) _
          have hbel : Below w.heap.size w W5 := by rw [← hW5]; exact below_put h.below (by omega) _
          rw [hW5]
          have HB := Lib.hid (And.intro b6 (And.intro o5 (And.intro hbel (hne (W3.heap.size + 6) (by omega) (by omega)))))
          have c2 := blk_cell b1 0
          simp at c2
          clear hW5 h hv ho b1 o5 b6 hbel hround hrec hlast hne
          gi_wp2
          refine ⟨by simp, .inl ⟨_, _, rfl, run_takeDeferred HB.out.1, ?_⟩⟩
          refine ⟨_, results_tmp2 rfl _ _ _, _, rfl, ?_, ?_⟩
          · exact owns_base (owns_put_ne HB.out.2.1 HB.out.2.2.2 _) hR
          · exact below_put HB.out.2.2.1 (by omega) _
end Go.Proofs.Ytojpbmaojbejjaa
