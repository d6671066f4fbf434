/- Chapter 05: lists of arcs of the call's own; the laws' own; slices.Equal over arcs. -/
import Derived.Test.YthlefdbhkbpejaaGreatFNet
import Derived.Test.YthlefdbhkbpejaaGreatRow
import Derived.Deep.AppendLies
import Derived.Deep.RegionHeld3
import Derived.BigQuiet
import Derived.Deep.DeepCutAuto
import Derived.Deep.CutRange
namespace Go.Proofs.YthlefdbhkbpejaaGreat.F5
open Go Go.RowKit
set_option linter.unusedSimpArgs false

/-- append at a step of a region that draws its order. -/
theorem step_append_any {P : Program} {w : World} {ops : Array Oper} {o : Oper} {a : Act} {K : Act → World → Prop} {Q : Exit → Act → World → Prop} {E : Prop} (hgd : o.guard = none) (s x : Operand) (t : TypeId)
    (ho : o.op = .call { callee := .builtin .append, args := #[s, x], argTypes := #[t, t] })
    (base : Nat) (e : TypeId) (i : TypeInfo) (z : Value) (size bytes : Nat) (ht : P.underlying t = some (.slice e)) (hi : P.info? e = some i) (hz : i.zero = some z)
    (hsize : i.size = size) (hby : i.bytes = bytes) (hzs : z.cells.size = size) (hsz : 0 < size)
    (v : Value) (n : Nat) (xs : List Value) (hs : a.eval s = v) (hown : w.ownsRow base e size v n xs)
    (sp : Option Addr) (m c : Nat) (news : List Value) (hx : a.eval x = .slice sp m c) (hnil : sp = none → m = 0 ∧ c = 0) (hl : news.length = m * size) (hnews : 0 < m → ∃ ad, sp = some ad ∧ ∀ j u, news[j]? = some u → w.cell? (ad.add j) = some u) (h1 : ∀ u ∈ news, u.oneCell' = true)
    (h63 : n + m ≤ maxLen) (hbytes : (n + m) * bytes ≤ 140737488355328) (hbase : base ≤ w.heap.size)
    (h : ∀ a' cap' w', Hid (w'.ownsRow base e size (.slice a' (n + m) cap') (n + m) (xs ++ news) ∧ (a' = none → cap' = 0)) → Hid (w.grownBy w' v.ownBlock) → K (a.put o.dst (.slice a' (n + m) cap')) w') :
    if Region.wanted o (yielded ops a.tmps) = true then Oper.wp P o a w K Q else E := by
  have hw : Region.wanted o (yielded ops a.tmps) = true := by simp [Region.wanted, hgd]
  rw [if_pos hw]
  exact wp_append_any s x t ho base e i z size bytes ht hi hz hsize hby hzs hsz v n xs hs hown sp m c news hx hnil hl hnews h1 h63 hbytes hbase h

theorem flat_inv (k : Nat) (hk : 0 < k) : ∀ (rows : List (List Value)), (∀ r ∈ rows, r.length = k) → ∀ j u, rows.flatten[j]? = some u → ∃ r, rows[j / k]? = some r ∧ r[j % k]? = some u
  | [], _, j, u, h => by simp at h
  | r :: rs, hr, j, u, h => by
    have hl : r.length = k := hr r (List.mem_cons_self ..)
    rw [List.flatten_cons, List.getElem?_append] at h
    by_cases hj : j < r.length
    · rw [if_pos hj] at h
      rw [hl] at hj
      rw [Nat.div_eq_of_lt hj, Nat.mod_eq_of_lt hj]
      exact ⟨r, rfl, h⟩
    · rw [if_neg hj, hl] at h
      obtain ⟨r', h1, h2⟩ := flat_inv k hk rs (fun q hq => hr q (List.mem_cons_of_mem _ hq)) _ _ h
      have hkj : k ≤ j := by omega
      rw [Nat.div_eq_sub_div hk hkj, Nat.mod_eq_sub_mod hkj]
      exact ⟨r', by simpa using h1, h2⟩
theorem rows_src {n k : Nat} {w : World} {a : Option Addr} {rows : List (List Value)} (hk : 0 < k) (hr : ∀ r ∈ rows, r.length = k) (h : RowsAt n w a k rows) : 0 < rows.length → ∃ ad, a = some ad ∧ ∀ j u, rows.flatten[j]? = some u → w.cell? (ad.add j) = some u := by
  intro h0
  obtain ⟨b, off, rfl, _, _⟩ := h 0 rows[0] (List.getElem?_eq_getElem h0)
  refine ⟨_, rfl, fun j u hu => ?_⟩
  obtain ⟨r, h1, h2⟩ := flat_inv k hk rows hr j u hu
  obtain ⟨b', off', he, _, hc⟩ := h _ _ h1
  injection he with he
  injection he with e1 e2
  subst e1 e2
  have := hc _ _ h2
  rw [Addr.add_mid]
  rw [Nat.add_assoc, Nat.div_add_mod'] at this
  exact this
theorem _root_.Go.Proofs.YthlefdbhkbpejaaGreat.RowsAt.drop {n k b off : Nat} {w : World} {rows : List (List Value)} (h : RowsAt n w (some ⟨b, off, none⟩) k rows) (j : Nat) : RowsAt n w (some ⟨b, off + j * k, none⟩) k (rows.drop j) := by
  intro i r hr
  rw [List.getElem?_drop] at hr
  obtain ⟨b', off', he, hb, hc⟩ := h _ _ hr
  injection he with he
  injection he with e1 e2
  subst e1 e2
  refine ⟨b, _, rfl, hb, ?_⟩
  rw [Nat.add_mul] at hc
  rw [Nat.add_assoc]
  exact hc
theorem ars_three (l : List Ar) : ∀ r ∈ Ars l, r.length = 3 := by
  intro r hr
  obtain ⟨x, _, rfl⟩ := List.mem_map.1 hr
  rfl
def flatA (l : List Ar) : List Value := (Ars l).flatten
theorem flatA_len (l : List Ar) : (flatA l).length = l.length * 3 := by
  unfold flatA
  rw [flat_length 3 _ (ars_three l)]
  simp
theorem flatA_one (l : List Ar) : ∀ v ∈ flatA l, v.oneCell' = true := by
  intro v hv
  obtain ⟨r, hr, hv⟩ := List.mem_flatten.1 hv
  obtain ⟨p, _, rfl⟩ := List.mem_map.1 hr
  simp at hv
  rcases hv with rfl | rfl | rfl <;> rfl
theorem flatA_app (l r : List Ar) : flatA (l ++ r) = flatA l ++ flatA r := by simp [flatA]
theorem ars_take {n : Nat} {w : World} {a : Option Addr} {l : List Ar} (h : RowsAt n w a 3 (Ars l)) (m : Nat) : RowsAt n w a 3 (Ars (l.take m)) := by
  have := h.take m
  unfold Ars
  rw [List.map_take]
  exact this
theorem ars_drop {n b off : Nat} {w : World} {l : List Ar} (h : RowsAt n w (some ⟨b, off, none⟩) 3 (Ars l)) (m : Nat) : RowsAt n w (some ⟨b, off + m * 3, none⟩) 3 (Ars (l.drop m)) := by
  have := h.drop m
  unfold Ars
  rw [List.map_drop]
  exact this
theorem ars_src {n : Nat} {w : World} {a : Option Addr} {l : List Ar} {m : Nat} (hl : l.length = m) (h : RowsAt n w a 3 (Ars l)) : 0 < m → ∃ ad, a = some ad ∧ ∀ j u, (flatA l)[j]? = some u → w.cell? (ad.add j) = some u :=
  fun h0 => rows_src (by omega) (ars_three _) h (by simp only [Ars, List.length_map]; rw [hl]; exact h0)
/-- A slice of arcs of the call's own. -/
def OwnA (base : Nat) (w : World) (a : Option Addr) (m c : Nat) (l : List Ar) : Prop := w.ownsRow base 63 3 (.slice a m c) m (flatA l) ∧ l.length = m ∧ (a = none → m = 0 ∧ c = 0)
theorem OwnA.rows {base : Nat} {w : World} {a : Option Addr} {m c : Nat} {l : List Ar} (h : OwnA base w a m c l) : RowsAt w.heap.size w a 3 (Ars l) := by
  have h1 := h.1
  rw [show m = (Ars l).length by simp [h.2.1]] at h1
  obtain ⟨a', cap, hv, hr⟩ := owns_slice (rows := Ars l) h1 (ars_three l)
  cases hv
  exact hr
theorem OwnA.len {base : Nat} {w : World} {a : Option Addr} {m c : Nat} {l : List Ar} (h : OwnA base w a m c l) : l.length = m ∧ m ≤ c ∧ c ≤ maxLen := by
  obtain ⟨_, _, he, h1, h2⟩ := owns_shape h.1
  cases he
  exact ⟨h.2.1, h1, h2⟩
theorem OwnA.later {base : Nat} {w w' : World} {a : Option Addr} {m c : Nat} {l : List Ar} (h : OwnA base w a m c l) (hb : Below w.heap.size w w') : OwnA base w' a m c l := ⟨owns_later h.1 hb, h.2⟩
theorem OwnA.nil (base : Nat) (w : World) : OwnA base w none 0 0 [] := ⟨World.ownsRow_nil _ _ _ _, rfl, fun _ => ⟨rfl, rfl⟩⟩
theorem infoA : (Tryz.prog.info? 63).map (fun i => (i.zero, i.size, i.bytes)) = some (some (.agg #[.int .i64 0, .int .i64 0, .int .i64 0]), 3, 24) := by kernel_rfl

instance : DecidableEq Ar := fun x y => if h : x.u = y.u ∧ x.v = y.v ∧ x.c = y.c then .isTrue (by cases x; cases y; simp_all) else .isFalse (by rintro rfl; exact h ⟨rfl, rfl, rfl⟩)
theorem guardA : Tryz.prog.eqGuardType Tryz.prog.depth 63 = false := by kernel_rfl
theorem stoodA : Tryz.prog.stoodInHeld 63 = false := by kernel_rfl
theorem eqA (x m : Ar) (w : World) : (Op.equalIn 10000 63 x.val m.val).run Tryz.prog w = .ok (decide (x = m)) w := by
  have e0 := stoodA
  obtain ⟨x0, x1, x2⟩ := x
  obtain ⟨m0, m1, m2⟩ := m
  simp [go_sem, e0]
  by_cases h0 : x0 = m0 <;> simp [h0]
  by_cases h1 : x1 = m1 <;> simp [h1]
  by_cases h2 : x2 = m2 <;> simp [h2]

def sampA : List Ar := [⟨0, 1, 3⟩, ⟨0, 2, 2⟩, ⟨1, 2, 5⟩, ⟨1, 3, 2⟩, ⟨2, 3, 4⟩]
theorem ars_blk {W : World} {g : Nat} {l : List Ar} {t : TypeId} {fr : Nat × Nat} (h : W.heap[g]? = some (.cells (flatA l).toArray t fr)) : RowsAt W.heap.size W (some ⟨g, 0, none⟩) 3 (Ars l) := by
  intro i r hr
  refine ⟨g, 0, rfl, blk_lt h, fun j v hv => ?_⟩
  have := flat_get 3 _ (ars_three l) i r hr j v hv
  rw [blk_cell h, Nat.zero_add, List.getElem?_toArray]
  exact this
end Go.Proofs.YthlefdbhkbpejaaGreat.F5
