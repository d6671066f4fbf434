/- Chapter 05: lists of arcs of the call's own; the laws' own; slices.Equal over arcs. -/
import Derived.Test.YtgojjlnpbakfjaaNet
import Derived.Test.YtgojjlnpbakfjaaRow
import Derived.Deep.AppendLies
import Derived.Deep.RegionHeld3
import Derived.BigQuiet
import Derived.Deep.DeepCutAuto
import Derived.Deep.CutRange
namespace Go.Proofs.Ytgojjlnpbakfjaa
open Go Go.RowKit
set_option linter.unusedSimpArgs false

/-- append at a step of a region that draws its order. -/
theorem step_append_any {P : Program} {w : World} {ops : Array Oper} {o : Oper} {a : Act} {K : Act → World → Prop} {Q : Exit → Act → World → Prop} {E : Prop} (hgd : o.guard = none) (s x : Operand) (t : TypeId)
    (ho : o.op = .call { callee := .builtin .append, args := #[s, x], argTypes := #[t, t] })
    (base : Nat) (e : TypeId) (i : TypeInfo) (z : Value) (size bytes : Nat) (ht : P.underlying t = some (.slice e)) (hi : P.info? e = some i) (hz : i.zero = some z)
    (hsize : i.size = size) (hby : i.bytes = bytes) (hzs : z.cells.size = size) (hsz : 0 < size)
    (v : Value) (n : Nat) (xs : List Value) (hs : a.eval s = v) (hown : w.ownsRow base e size v n xs)
    (sp : Option Addr) (m c : Nat) (news : List Value) (hx : a.eval x = .slice sp m c) (hnil : sp = none → m = 0 ∧ c = 0) (hl : news.length = m * size) (hnews : 0 < m → ∃ ad, sp = some ad ∧ ∀ j u, news[j]? = some u → w.cell? (ad.add j) = some u) (h1 : ∀ u ∈ news, u.oneCell' = true)
    (h63 : n + m ≤ maxLen) (hbytes : (n + m) * bytes ≤ 140737488355328) (hbase : base ≤ w.heap.size)
    (h : ∀ a' cap' w', Hid (w'.ownsRow base e size (.slice a' (n + m) cap') (n + m) (xs ++ news) ∧ (a' = none → cap' = 0)) → Hid (w.grownBy w' v.ownBlock) → K (a.put o.dst (.slice a' (n + m) cap')) w') :
    if Region.wanted o (yielded ops a.tmps) = true then Oper.wp P o a w K Q else E := by
  have hw : Region.wanted o (yielded ops a.tmps) = true := by simp [Region.wanted, hgd]
  rw [if_pos hw]
  exact wp_append_any s x t ho base e i z size bytes ht hi hz hsize hby hzs hsz v n xs hs hown sp m c news hx hnil hl hnews h1 h63 hbytes hbase h

theorem flat_inv (k : Nat) (hk : 0 < k) : ∀ (rows : List (List Value)), (∀ r ∈ rows, r.length = k) → ∀ j u, rows.flatten[j]? = some u → ∃ r, rows[j / k]? = some r ∧ r[j % k]? = some u
  | [], _, j, u, h => by simp at h
  | r :: rs, hr, j, u, h => by
    have hl : r.length = k := hr r (List.mem_cons_self ..)
    rw [List.flatten_cons, List.getElem?_append] at h
    by_cases hj : j < r.length
    · rw [if_pos hj] at h
      rw [hl] at hj
      rw [Nat.div_eq_of_lt hj, Nat.mod_eq_of_lt hj]
      exact ⟨r, rfl, h⟩
    · rw [if_neg hj, hl] at h
      obtain ⟨r', h1, h2⟩ := flat_inv k hk rs (fun q hq => hr q (List.mem_cons_of_mem _ hq)) _ _ h
      have hkj : k ≤ j := by omega
      rw [Nat.div_eq_sub_div hk hkj, Nat.mod_eq_sub_mod hkj]
      exact ⟨r', by simpa using h1, h2⟩
theorem rows_src {n k : Nat} {w : World} {a : Option Addr} {rows : List (List Value)} (hk : 0 < k) (hr : ∀ r ∈ rows, r.length = k) (h : RowsAt n w a k rows) : 0 < rows.length → ∃ ad, a = some ad ∧ ∀ j u, rows.flatten[j]? = some u → w.cell? (ad.add j) = some u := by
  intro h0
  obtain ⟨b, off, rfl, _, _⟩ := h 0 rows[0] (List.getElem?_eq_getElem h0)
  refine ⟨_, rfl, fun j u hu => ?_⟩
  obtain ⟨r, h1, h2⟩ := flat_inv k hk rows hr j u hu
  obtain ⟨b', off', he, _, hc⟩ := h _ _ h1
  injection he with he
  injection he with e1 e2
  subst e1 e2
  have := hc _ _ h2
  rw [Addr.add_mid]
  rw [Nat.add_assoc, Nat.div_add_mod'] at this
  exact this
theorem RowsAt.drop {n k b off : Nat} {w : World} {rows : List (List Value)} (h : RowsAt n w (some ⟨b, off, none⟩) k rows) (j : Nat) : RowsAt n w (some ⟨b, off + j * k, none⟩) k (rows.drop j) := by
  intro i r hr
  rw [List.getElem?_drop] at hr
  obtain ⟨b', off', he, hb, hc⟩ := h _ _ hr
  injection he with he
  injection he with e1 e2
  subst e1 e2
  refine ⟨b, _, rfl, hb, ?_⟩
  rw [Nat.add_mul] at hc
  rw [Nat.add_assoc]
  exact hc
theorem ars_three (l : List Ar) : ∀ r ∈ Ars l, r.length = 3 := by
  intro r hr
  obtain ⟨x, _, rfl⟩ := List.mem_map.1 hr
  rfl
def flatA (l : List Ar) : List Value := (Ars l).flatten
theorem flatA_len (l : List Ar) : (flatA l).length = l.length * 3 := by
  unfold flatA
  rw [flat_length 3 _ (ars_three l)]
  simp
theorem flatA_one (l : List Ar) : ∀ v ∈ flatA l, v.oneCell' = true := by
  intro v hv
  obtain ⟨r, hr, hv⟩ := List.mem_flatten.1 hv
  obtain ⟨p, _, rfl⟩ := List.mem_map.1 hr
  simp at hv
  rcases hv with rfl | rfl | rfl <;> rfl
theorem flatA_app (l r : List Ar) : flatA (l ++ r) = flatA l ++ flatA r := by simp [flatA]
theorem ars_take {n : Nat} {w : World} {a : Option Addr} {l : List Ar} (h : RowsAt n w a 3 (Ars l)) (m : Nat) : RowsAt n w a 3 (Ars (l.take m)) := by
  have := h.take m
  unfold Ars
  rw [List.map_take]
  exact this
theorem ars_drop {n b off : Nat} {w : World} {l : List Ar} (h : RowsAt n w (some ⟨b, off, none⟩) 3 (Ars l)) (m : Nat) : RowsAt n w (some ⟨b, off + m * 3, none⟩) 3 (Ars (l.drop m)) := by
  have := h.drop m
  unfold Ars
  rw [List.map_drop]
  exact this
theorem ars_src {n : Nat} {w : World} {a : Option Addr} {l : List Ar} {m : Nat} (hl : l.length = m) (h : RowsAt n w a 3 (Ars l)) : 0 < m → ∃ ad, a = some ad ∧ ∀ j u, (flatA l)[j]? = some u → w.cell? (ad.add j) = some u :=
  fun h0 => rows_src (by omega) (ars_three _) h (by simp only [Ars, List.length_map]; rw [hl]; exact h0)
/-- A slice of arcs of the call's own. -/
def OwnA (base : Nat) (w : World) (a : Option Addr) (m c : Nat) (l : List Ar) : Prop := w.ownsRow base 32 3 (.slice a m c) m (flatA l) ∧ l.length = m ∧ (a = none → m = 0 ∧ c = 0)
theorem OwnA.rows {base : Nat} {w : World} {a : Option Addr} {m c : Nat} {l : List Ar} (h : OwnA base w a m c l) : RowsAt w.heap.size w a 3 (Ars l) := by
  have h1 := h.1
  rw [show m = (Ars l).length by simp [h.2.1]] at h1
  obtain ⟨a', cap, hv, hr⟩ := owns_slice (rows := Ars l) h1 (ars_three l)
  cases hv
  exact hr
theorem OwnA.len {base : Nat} {w : World} {a : Option Addr} {m c : Nat} {l : List Ar} (h : OwnA base w a m c l) : l.length = m ∧ m ≤ c ∧ c ≤ maxLen := by
  obtain ⟨_, _, he, h1, h2⟩ := owns_shape h.1
  cases he
  exact ⟨h.2.1, h1, h2⟩
theorem OwnA.later {base : Nat} {w w' : World} {a : Option Addr} {m c : Nat} {l : List Ar} (h : OwnA base w a m c l) (hb : Below w.heap.size w w') : OwnA base w' a m c l := ⟨owns_later h.1 hb, h.2⟩
theorem OwnA.nil (base : Nat) (w : World) : OwnA base w none 0 0 [] := ⟨World.ownsRow_nil _ _ _ _, rfl, fun _ => ⟨rfl, rfl⟩⟩
theorem infoA : (Try.prog.info? 32).map (fun i => (i.zero, i.size, i.bytes)) = some (some (.agg #[.int .i64 0, .int .i64 0, .int .i64 0]), 3, 24) := by kernel_rfl

set_option maxHeartbeats 4000000 in
theorem own_ok (N : Int) (a : Option Addr) (k c : Nat) (l : List Ar) (w : World) (hn : l.length = k) (hkc : k ≤ c) (hnil : a = none → k = 0 ∧ c = 0) (hm : RowsAt w.heap.size w a 3 (Ars l)) :
    Calls Try.prog 10 #[.agg #[.int .i64 N, .slice a k c]] w fun e W' => ∃ a' m c', e = .returned (.agg #[.int .i64 N, .slice a' m c']) ∧ OwnA w.heap.size W' a' m c' (l.take 130) ∧ Below w.heap.size w W' := by
  obtain ⟨m, hm0⟩ : ∃ m, min k 130 = m := ⟨_, rfl⟩
  have hmk : m ≤ k := by omega
  have hm130 : m ≤ 130 := by omega
  have hmn : (if (130 : Int) < (k : Int) then (130 : Int) else (k : Int)) = (m : Int) := by split <;> omega
  have hlen : (l.take 130).length = m := by rw [List.length_take, hn]; omega
  have hkc2 : (m : Int) ≤ (c : Int) := by omega
  have HM := Lib.hid (And.intro hn (And.intro hm (And.intro hlen (show a = none → m = 0 ∧ c = 0 from fun h => by have := hnil h; omega))))
  clear hn hm hlen hnil hm0
  go_enter Try.func10, Try.ntmps10
  go_upto_region 2 with fail
  obtain ⟨A, hA⟩ : ∃ W' : World, ((w.alloc (.cells #[.int .i64 N, .slice a k c] 24)).alloc (.cells #[.int .i64 0, .slice none 0 0] 24)) = W' := ⟨_, rfl⟩
  have h : Has A [(w.heap.size + 1, .cells #[.int .i64 0, .slice none 0 0] 24 (0, 0)), (w.heap.size, .cells #[.int .i64 N, .slice a k c] 24 (0, 0))] := by rw [← hA]; simpa using (((Has.nil w).new _).new _)
  have z : A.heap.size = w.heap.size + 1 + 1 := by rw [← hA]; simp
  have b : Below w.heap.size w A := by rw [← hA]; exact (below_alloc (below_alloc (below_self w) _) _)
  rw [hA]
  clear hA
  have HA := Lib.hid (And.intro h.tl.hd (And.intro h.hd (And.intro b z)))
  clear h z b
  obtain ⟨i0, hi, hz0, hz1, hz2⟩ := info_parts infoA
  have bX := (below_self A).drew
  have HS := Lib.hid (show ∀ W : World, W.heap[w.heap.size]? = some (.cells #[.int .i64 N, .slice a k c] 24 (0, 0)) → W.cell? ⟨w.heap.size, 0, none⟩ = some (.int .i64 N) ∧ W.cell? ⟨w.heap.size, 1, none⟩ = some (.slice a k c) from fun W h => ⟨(blk_cell h 0).trans rfl, (blk_cell h 1).trans rfl⟩)
  have kD := HS.out _ (blk_below HA.out.1 bX)
  have hown : A.drew.ownsRow (w.heap.size + 2) 32 3 (.slice none 0 0) 0 [] := World.ownsRow_nil _ _ _ _
  have hfl : (flatA (l.take 130)).length = m * 3 := by rw [flatA_len, HM.out.2.2.1]
  have hsrc := ars_src HM.out.2.2.1 (ars_take (HM.out.2.1.later (below_trans HA.out.2.2.1 bX)) 130)
  have hnl := HM.out.2.2.2
  have hone := flatA_one (l.take 130)
  have h63 : 0 + m ≤ maxLen := by unfold maxLen; omega
  have hby : (0 + m) * 24 ≤ 140737488355328 := by omega
  have hbase : w.heap.size + 2 ≤ A.drew.heap.size := by have := HA.out.2.2.2; show w.heap.size + 2 ≤ A.heap.size; omega
  have HH := Lib.hid (And.intro hown (And.intro hfl (And.intro hsrc (And.intro hnl (And.intro hone (And.intro h63 (And.intro hby hbase)))))))
  have hzz : (Value.agg #[.int .i64 0, .int .i64 0, .int .i64 0]).cells.size = 3 := rfl
  have h03 : 0 < 3 := by decide
  clear hown hfl hsrc hnl hone h63 hby hbase
  go_region_held3 (fun W => W.cell? ⟨w.heap.size, 0, none⟩ = some (.int .i64 N) ∧ W.cell? ⟨w.heap.size, 1, none⟩ = some (.slice a k c))
    ((first | with_reducible exact kD | with_reducible exact kW | exact HS.out _ (blk_set (blk_set z1 (by simp) _) (by simp) _) | exact HS.out _ (blk_set z1 (by simp) _)))
    (first
      | (refine step_append_any (by rfl) (.tmp 6) (.tmp 13) 22 (by rfl) (w.heap.size + 2) 32 i0 (.agg #[.int .i64 0, .int .i64 0, .int .i64 0]) 3 24 Try.underlying22 hi hz0 hz1 hz2 hzz h03 (.slice none 0 0) 0 [] (by rfl) HH.out.1 a m c (flatA (l.take 130)) (by rfl) HH.out.2.2.2.1 HH.out.2.1 HH.out.2.2.1 HH.out.2.2.2.2.1 HH.out.2.2.2.2.2.1 HH.out.2.2.2.2.2.2.1 HH.out.2.2.2.2.2.2.2 ?_; intro a' c' W1 hown1 hgrow1; have hg1 : A.drew.grownBy W1 none := hgrow1.out; have z1 := grown_blk hg1 (blk_below HA.out.1 bX) (by simp); have z2 := grown_blk hg1 (blk_below HA.out.2.1 bX) (by simp); have kW := HS.out _ z1; have v0 : W1.cell? ⟨w.heap.size + 1, 0, none⟩ = some (.int .i64 0) := (blk_cell z2 0).trans rfl; have v1 : W1.cell? ⟨w.heap.size + 1, 1, none⟩ = some (.slice none 0 0) := (blk_cell z2 1).trans rfl; have f0 := blk_frozen z2 0; have f1 := blk_frozen z2 1; have lz := blk_lt z2)
      | fail)
  have hzz2 : ((W1.setCell ⟨w.heap.size + 1, 0, none⟩ (.int .i64 N)).setCell ⟨w.heap.size + 1, 1, none⟩ (.slice a' m c')).heap[w.heap.size + 1]? = some (.cells #[.int .i64 N, .slice a' m c'] 24 (0, 0)) := by
    have e1 : (W1.setCell ⟨w.heap.size + 1, 0, none⟩ (.int .i64 N)).heap[w.heap.size + 1]? = some (.cells #[.int .i64 N, .slice none 0 0] 24 (0, 0)) := by simp [World.setCell, Array.getElem?_modify, z2]
    simp [World.setCell, Array.getElem?_modify] at e1 ⊢
    simp [World.setCell, Array.getElem?_modify, z2]
  have k0 : ((W1.setCell ⟨w.heap.size + 1, 0, none⟩ (.int .i64 N)).setCell ⟨w.heap.size + 1, 1, none⟩ (.slice a' m c')).cell? ⟨w.heap.size + 1, 0, none⟩ = some (.int .i64 N) := (blk_cell hzz2 0).trans rfl
  have k1 : ((W1.setCell ⟨w.heap.size + 1, 0, none⟩ (.int .i64 N)).setCell ⟨w.heap.size + 1, 1, none⟩ (.slice a' m c')).cell? ⟨w.heap.size + 1, 1, none⟩ = some (.slice a' m c') := (blk_cell hzz2 1).trans rfl
  have hb1 : Below w.heap.size w W1 := (below_trans HA.out.2.2.1 bX).grown hg1 (by have := HA.out.2.2.2; show w.heap.size ≤ A.heap.size; omega) (fun j hj => by cases hj)
  have ho := hown1.out
  rw [Nat.zero_add, List.nil_append] at ho
  have hfin : OwnA w.heap.size ((W1.setCell ⟨w.heap.size + 1, 0, none⟩ (.int .i64 N)).setCell ⟨w.heap.size + 1, 1, none⟩ (.slice a' m c')) a' m c' (l.take 130) ∧ Below w.heap.size w ((W1.setCell ⟨w.heap.size + 1, 0, none⟩ (.int .i64 N)).setCell ⟨w.heap.size + 1, 1, none⟩ (.slice a' m c')) := by
    refine ⟨⟨owns_base (owns_set (owns_set ho.1 (by simp) _) (by simp) _) (by omega), HM.out.2.2.1, fun h => ⟨?_, ho.2 h⟩⟩, (hb1.setCell (by simp) _).setCell (by simp) _⟩
    subst h
    rcases ho.1.2 with ⟨_, h0⟩ | ⟨g, cap, cur, hv, _⟩
    · exact h0
    · cases hv
  have HF := Lib.hid hfin
  clear hfin hzz2 hb1 ho hown1 hgrow1 hg1 z1 z2 kW v0 v1 f0 f1 lz kD bX HH
  generalize (W1.setCell _ _).setCell _ _ = W2 at k0 k1 HF ⊢
  go_wp2_with fail
  refine bodyPost_ret (v := .agg #[.int .i64 N, .slice a' m c']) (by simp [results, Try.results10, go_sem, k0, k1]) rfl ⟨_, _, _, rfl, HF.out⟩
instance : DecidableEq Ar := fun x y => if h : x.u = y.u ∧ x.v = y.v ∧ x.c = y.c then .isTrue (by cases x; cases y; simp_all) else .isFalse (by rintro rfl; exact h ⟨rfl, rfl, rfl⟩)
theorem guardA : Try.prog.eqGuardType Try.prog.depth 32 = false := by kernel_rfl
theorem stoodA : Try.prog.stoodInHeld 32 = false := by kernel_rfl
theorem eqA (x m : Ar) (w : World) : (Op.equalIn 10000 32 x.val m.val).run Try.prog w = .ok (decide (x = m)) w := by
  have e0 := stoodA
  obtain ⟨x0, x1, x2⟩ := x
  obtain ⟨m0, m1, m2⟩ := m
  simp [go_sem, e0]
  by_cases h0 : x0 = m0 <;> simp [h0]
  by_cases h1 : x1 = m1 <;> simp [h1]
  by_cases h2 : x2 = m2 <;> simp [h2]

set_option maxHeartbeats 1000000 in
theorem equalA_ok (a1 a2 : Option Addr) (n1 c1 n2 c2 : Nat) (xs ys : List Ar) (w : World) (h1 : xs.length = n1) (h2 : ys.length = n2) (hl : n1 ≤ 9223372036854775807) (m1 : RowsAt w.heap.size w a1 3 (Ars xs)) (m2 : RowsAt w.heap.size w a2 3 (Ars ys)) :
    Calls Try.prog 13 #[.slice a1 n1 c1, .slice a2 n2 c2] w fun e W' => e = .returned (.bool (decide (xs = ys))) ∧ Below w.heap.size w W' := by
  have H1 := Lib.hid h1
  have H2 := Lib.hid h2
  have M1 := Lib.hid m1
  have M2 := Lib.hid m2
  clear m1 m2
  by_cases hne : n1 = n2
  · subst hne
    clear h1 h2
    have hg := guardA
    go_enter Try.func13, Try.ntmps13
    go_wp2_with fail
    go_loopw [13] (fun i wr => ∃ k d : Nat, k ≤ n1 ∧ i = .int .i64 k ∧ wr = w.drewN d ∧ Hid (∀ j, j < k → xs.getD j default = ys.getD j default)) (fun i _ => n1 - (intOf i).toNat)
    case atStart => exact ⟨0, 0, Nat.zero_le _, rfl, rfl, fun j hj => by omega⟩
    case round =>
      obtain ⟨k, d, hk, rfl, rfl, Hs⟩ := hrel
      by_cases hlt : k < n1
      · obtain ⟨b1, o1, rfl, _, p0, p1, p2⟩ := ars_at M1.out k (by rw [H1.out]; exact hlt)
        obtain ⟨b2, o2, rfl, _, q0, q1, q2⟩ := ars_at M2.out k (by rw [H2.out]; exact hlt)
        generalize hx : xs.getD k default = x at p0 p1 p2
        generalize hy : ys.getD k default = y at q0 q1 q2
        have HX := Lib.hid hx; clear hx
        have HY := Lib.hid hy; clear hy
        have hltI : (k : Int) < (n1 : Int) := by omega
        by_cases he : x = y
        · have heq : ∀ w, (Op.equalIn 10000 32 x.val y.val).run Try.prog w = .ok true w := fun w => by rw [eqA, decide_eq_true he]
          have HN : Hid (∀ j, j < k + 1 → xs.getD j default = ys.getD j default) := same_succ Hs.out (by rw [HX.out, HY.out]; exact he)
          clear he
          go_wp2_with fail
          go_quiet (fail)
          clear heq p0 p1 p2 q0 q1 q2
          go_wp2_with fail
          go_roundw
          case rel => exact ⟨k + 1, d + nq, by omega, by go_num, rfl, HN⟩
          case measure => simp [intOf]; omega
        · have heq : ∀ w, (Op.equalIn 10000 32 x.val y.val).run Try.prog w = .ok false w := fun w => by rw [eqA, decide_eq_false he]
          have HN := Lib.hid (show ¬ xs = ys by intro h; apply he; rw [← HX.out, ← HY.out, h])
          clear he
          go_wp2_with fail
          go_quiet (fail)
          clear heq p0 p1 p2 q0 q1 q2
          go_wp2_with fail
          go_ret
          exact ⟨by rw [decide_eq_false HN.out]; rfl, below_drewN (below_drewN (below_self w) d) nq⟩
      · have HE := Lib.hid (eq_of_get (by rw [H1.out, H2.out]) (fun j hj => Hs.out j (by rw [H1.out] at hj; omega)))
        go_wp2_with fail
        go_ret
        exact ⟨by rw [decide_eq_true HE.out]; rfl, below_drewN (below_self w) d⟩
  · have hd : decide (xs = ys) = false := decide_eq_false (by intro h; apply hne; rw [← h1, ← h2, h])
    rw [hd]
    have hne2 : ¬ (n1 : Int) = (n2 : Int) := by omega
    clear hd h1 h2
    go_enter Try.func13, Try.ntmps13
    go_wp2_with fail
    go_ret
    exact ⟨rfl, below_self w⟩

def sampA : List Ar := [⟨0, 1, 3⟩, ⟨0, 2, 2⟩, ⟨1, 2, 5⟩, ⟨1, 3, 2⟩, ⟨2, 3, 4⟩]
theorem ars_blk {W : World} {g : Nat} {l : List Ar} {t : TypeId} {fr : Nat × Nat} (h : W.heap[g]? = some (.cells (flatA l).toArray t fr)) : RowsAt W.heap.size W (some ⟨g, 0, none⟩) 3 (Ars l) := by
  intro i r hr
  refine ⟨g, 0, rfl, blk_lt h, fun j v hv => ?_⟩
  have := flat_get 3 _ (ars_three l) i r hr j v hv
  rw [blk_cell h, Nat.zero_add, List.getElem?_toArray]
  exact this
set_option maxHeartbeats 1000000 in
theorem sample_ok (w : World) : Calls Try.prog 22 #[] w fun e W' => ∃ g, e = .returned (.agg #[.int .i64 4, .slice (some ⟨g, 0, none⟩) 5 5]) ∧ RowsAt W'.heap.size W' (some ⟨g, 0, none⟩) 3 (Ars sampA) ∧ Below w.heap.size w W' := by
  go_enter Try.func22, Try.ntmps22
  go_wp2_with fail
  obtain ⟨W1, hW1⟩ : ∃ W' : World, ((w.alloc (.cells #[.int .i64 4, .slice (some ⟨w.heap.size + 1, 0, none⟩) 5 5] 24)).alloc (.cells #[.int .i64 0, .int .i64 1, .int .i64 3, .int .i64 0, .int .i64 2, .int .i64 2, .int .i64 1, .int .i64 2, .int .i64 5, .int .i64 1, .int .i64 3, .int .i64 2, .int .i64 2, .int .i64 3, .int .i64 4] 32)) = W' := ⟨_, rfl⟩
  have h1 : Has W1 [(w.heap.size + 1, .cells #[.int .i64 0, .int .i64 1, .int .i64 3, .int .i64 0, .int .i64 2, .int .i64 2, .int .i64 1, .int .i64 2, .int .i64 5, .int .i64 1, .int .i64 3, .int .i64 2, .int .i64 2, .int .i64 3, .int .i64 4] 32 (0, 0)), (w.heap.size, .cells #[.int .i64 4, .slice (some ⟨w.heap.size + 1, 0, none⟩) 5 5] 24 (0, 0))] := by rw [← hW1]; simpa using (((Has.nil w).new _).new _)
  have s1 : W1.heap.size = w.heap.size + 1 + 1 := by rw [← hW1]; simp
  have b1 : Below w.heap.size w W1 := by rw [← hW1]; exact (below_alloc (below_alloc (below_self w) _) _)
  rw [hW1]
  clear hW1
  have k0 := blk_cell h1.tl.hd 0
  have k1 := blk_cell h1.tl.hd 1
  simp at k0 k1
  have hp := ars_blk (l := sampA) h1.hd
  refine bodyPost_ret (v := .agg #[.int .i64 4, .slice (some ⟨w.heap.size + 1, 0, none⟩) 5 5]) (by simp [results, Try.results22, go_sem, k0, k1]) rfl ⟨_, rfl, hp, b1⟩
end Go.Proofs.Ytgojjlnpbakfjaa
