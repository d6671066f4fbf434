/- Chapter 05: a line of nodes: a slice of the call's own whose front moves on. -/
import Derived.Test.YtgojjlnpbakfjaaRst
import Derived.ArgAppend
import Derived.Laws.IdiomCopy
import Derived.OwnWalkIn
namespace Go.Proofs.Ytgojjlnpbakfjaa
open Go Go.RowKit

theorem blk_setq {W : World} {k o : Nat} {c : Array Value} {t : TypeId} {fr : Nat × Nat} (h : W.heap[k]? = some (.cells c t fr)) (u : Value) : (W.setCell ⟨k, o, none⟩ u).heap[k]? = some (.cells (c.setIfInBounds o u) t fr) := by
  simp [World.setCell, Array.getElem?_modify, h]
/-- The line q. -/
def OwnQ (base : Nat) (W : World) (v : Value) (q : List Int) : Prop :=
  ∃ g off cap cur, v = .slice (some ⟨g, off, none⟩) q.length cap ∧ base ≤ g ∧ W.heap[g]? = some (.cells cur 3 (0, 0)) ∧ q.length ≤ cap ∧ cap ≤ maxLen ∧ off + cap ≤ cur.size ∧ (cur.toList.drop off).take q.length = intsV q
section
variable {base : Nat} {W W' : World} {v : Value} {q : List Int}
theorem OwnQ.kept (h : OwnQ base W v q) (hk : ∀ g, v.ownBlock = some g → W'.heap[g]? = W.heap[g]?) : OwnQ base W' v q := by
  obtain ⟨g, off, cap, cur, rfl, hb, hg, r⟩ := h
  exact ⟨g, off, cap, cur, rfl, hb, by rw [hk g rfl]; exact hg, r⟩
theorem OwnQ.lt (h : OwnQ base W v q) : ∀ g, v.ownBlock = some g → base ≤ g ∧ g < W.heap.size := by
  obtain ⟨g, off, cap, cur, rfl, hb, hg, r⟩ := h
  intro k hk
  cases hk
  exact ⟨hb, blk_lt hg⟩
theorem OwnQ.later (h : OwnQ base W v q) (hb : Below W.heap.size W W') : OwnQ base W' v q := h.kept fun g hg => hb.block g (h.lt g hg).2
theorem OwnQ.front {x : Int} (h : OwnQ base W v (x :: q)) : ∃ g off cap, v = .slice (some ⟨g, off, none⟩) (q.length + 1) cap ∧ W.cell? ⟨g, off, none⟩ = some (.int .i64 x) ∧ OwnQ base W (.slice (some ⟨g, off + 1, none⟩) q.length (cap - 1)) q ∧ q.length + 1 ≤ cap ∧ g < W.heap.size := by
  obtain ⟨g, off, cap, cur, rfl, hb, hg, h1, h2, h3, h4⟩ := h
  simp only [List.length_cons] at h1 h4
  have ho : off < cur.toList.length := by rw [Array.length_toList]; omega
  rw [List.drop_eq_getElem_cons ho, List.take_succ_cons] at h4
  unfold intsV at h4
  rw [List.map_cons] at h4
  injection h4 with e1 e2
  refine ⟨g, off, cap, rfl, ?_, ⟨g, off + 1, cap - 1, cur, rfl, hb, hg, by omega, by omega, by omega, e2⟩, by omega, blk_lt hg⟩
  rw [blk_cell hg, ← e1]
  simp
theorem OwnQ.stay {x : Int} {g off c : Nat} (h : OwnQ base W (.slice (some ⟨g, off, none⟩) c 1) (x :: q)) : OwnQ base W (.slice (some ⟨g, off, none⟩) q.length 0) q := by
  obtain ⟨g', off', cap, cur, he, hb, hg, h1, h2, h3, h4⟩ := h
  injection he with e1 e2 e3
  injection e1 with e1
  injection e1 with e4 e5
  subst e3
  subst e4
  subst e5
  simp at h1
  subst h1
  exact ⟨g, off, 0, cur, rfl, hb, hg, Nat.le_refl _, by unfold maxLen; omega, by omega, by simp [intsV]⟩
theorem OwnQ.slice (h : OwnQ base W v q) : ∃ g off cap, v = .slice (some ⟨g, off, none⟩) q.length cap ∧ q.length ≤ cap ∧ g < W.heap.size := by
  obtain ⟨g, off, cap, cur, rfl, hb, hg, h1, _⟩ := h
  exact ⟨g, off, cap, rfl, h1, blk_lt hg⟩
/-- A block just made. -/
theorem OwnQ.new {g : Nat} {x : Int} (hb : base ≤ g) (hg : W.heap[g]? = some (.cells #[.int .i64 x] 3 (0, 0))) : OwnQ base W (.slice (some ⟨g, 0, none⟩) 1 1) [x] :=
  ⟨g, 0, 1, _, rfl, hb, hg, by simp, by unfold maxLen; omega, by simp, by simp [intsV]⟩
theorem OwnQ.of {n : Nat} (h : W.ownsRow base 3 1 v n (intsV q)) (hn : 0 < n) : OwnQ base W v q := by
  have hl : q.length = n := by have := h.1; simp [intsV] at this; omega
  rcases h.2 with ⟨_, h0⟩ | ⟨g, cap, cur, rfl, hb, hg, h1, h2, h3, h4⟩
  · omega
  · exact ⟨g, 0, cap, cur, by rw [hl], hb, hg, by omega, h2, by omega, by rw [hl, List.drop_zero]; rw [Nat.mul_one] at h4; exact h4⟩
theorem run_append_q (ty : TypeId) (h : OwnQ base W v q) (x : Int) (ad : Addr) (c : Nat) (hn : ∀ j u, [Value.int .i64 x][j]? = some u → W.cell? (ad.add j) = some u) (hq : q.length ≤ 1000) (hbase : base ≤ W.heap.size) :
    ∃ v' w', (Builtin.append_ #[26, 26] ty #[v, .slice (some ad) 1 c]).run Try.prog W = .ok v' w' ∧ OwnQ base w' v' (q ++ [x]) ∧ W.grownBy w' v.ownBlock ∧ ∀ k, v'.ownBlock = some k → v.ownBlock = some k ∨ W.heap.size ≤ k := by
  obtain ⟨g, off, cap, cur, rfl, hb, hg, h1, h2, h3, h4⟩ := h
  obtain ⟨i0, hi, hz0, hz1, hz2⟩ := info_parts info3
  by_cases hr : q.length + 1 ≤ cap
  · have hrun := run_append_room_cells (P := Try.prog) W 26 ty 3 i0 Try.underlying26 hi g off q.length cap ad 1 c [.int .i64 x] (by rw [hz1]; rfl) hn (by simp [Value.oneCell']) hr
      (fun j hj => by
        simp at hj
        subst hj
        rw [hz1, blk_cell hg, Nat.mul_one, Array.getElem?_eq_getElem (by omega)]
        rfl)
      (fun j _ => blk_frozen hg _)
    rw [hz1, Nat.mul_one] at hrun
    refine ⟨_, _, hrun, ⟨g, off, cap, cur.setIfInBounds (off + q.length) (.int .i64 x), by simp, hb, blk_setq hg _, by simpa using hr, h2, by simpa using h3, ?_⟩, ⟨rfl, rfl, rfl, by simp [World.setCells, World.setCell], fun k _ hk => Below.heap_setCell _ _ _ _ (fun e => hk (by simp [Value.ownBlock] at *; exact e))⟩, fun k hk => .inl hk⟩
    have hcl : cur.toList.length = cur.size := Array.length_toList
    have hl : off + q.length < cur.toList.length := by omega
    rw [Array.toList_setIfInBounds, List.length_append, List.length_cons, List.length_nil, Nat.zero_add, List.take_succ_eq_append_getElem (by rw [List.length_drop, List.length_set]; omega)]
    rw [List.getElem_drop, List.getElem_set_self]
    unfold intsV at h4 ⊢
    rw [List.map_append, ← h4]
    congr 1
    rw [List.drop_set, if_neg (by omega), List.take_set, show off + q.length - off = q.length by omega]
    exact List.set_eq_of_length_le (by rw [List.length_take]; omega)
  · obtain ⟨v', w', hrun, r1, r2⟩ := run_append_arg_grows (P := Try.prog) W 26 ty 3 i0 _ 1 8 Try.underlying26 hi hz0 hz1 hz2 rfl (by decide) ⟨g, off, none⟩ q.length cap (intsV q) (by simp [intsV])
      (fun j u hj => by
        rw [Addr.add_lit, blk_cell hg]
        rw [← h4, List.getElem?_take] at hj
        split at hj
        · rw [List.getElem?_drop] at hj
          simpa using hj
        · cases hj)
      ad 1 c [.int .i64 x] rfl hn (by omega) (by unfold maxLen; omega) (by omega)
    refine ⟨v', w', hrun, OwnQ.of (n := q.length + 1) ?_ (by omega), ⟨r2.os, r2.tape, r2.output, r2.size, fun k hk _ => r2.block k hk (by simp)⟩, fun k hk => .inr (r1.lt k hk).1⟩
    rw [intsV_app]
    exact owns_base r1 hbase
end
theorem wpListIn_append_q {F : Fence} {n : Nat} {ops : Array Oper} {rest : List Oper} {o : Oper} {a : Act} {W : World} {Q : Exit → Act → World → Prop}
    (hg : o.guard = none) (s x : Operand) (hop : o.op = Op.call { callee := Callee.builtin Builtin.append, args := #[s, x], argTypes := #[26, 26] })
    (base : Nat) (v : Value) (q : List Int) (hs : a.eval s = v) (hown : OwnQ base W v q) (y : Int) (ad : Addr) (c : Nat) (hx : a.eval x = .slice (some ad) 1 c) (hc : ∀ j u, [Value.int .i64 y][j]? = some u → W.cell? (ad.add j) = some u) (hq : q.length ≤ 1000) (hb : base ≤ W.heap.size)
    (hK : ∀ v' w', OwnQ base w' v' (q ++ [y]) → W.grownBy w' v.ownBlock → (∀ k, v'.ownBlock = some k → v.ownBlock = some k ∨ W.heap.size ≤ k) → wpListIn F n Try.prog ops Q rest (a.put o.dst v') w') :
    wpListIn F n Try.prog ops Q (o :: rest) a W := by
  refine wpListIn_plain hg fun K hK' => ?_
  obtain ⟨v', w', hrun, r1, r2, r3⟩ := run_append_q o.type hown y ad c hc hq hb
  unfold Oper.wpIn
  refine ⟨?_, ?_⟩
  · simp [Oper.about, hop, resolve, Target.leads, Sem.run_pure]
  · rw [Oper.semAt_plain F _ _ (by rw [hop]; intro c hc'; cases hc')]
    simp [execOp, hop, resolve, invoke, builtin, hs, hx, hrun, Result.andThen]
    exact hK' _ _ (hK v' w' r1 r2 r3)
theorem wpList_append_q {ops : Array Oper} {rest : List Oper} {o : Oper} {a : Act} {W : World} {Q : Exit → Act → World → Prop}
    (hg : o.guard = none) (s x : Operand) (hop : o.op = Op.call { callee := Callee.builtin Builtin.append, args := #[s, x], argTypes := #[26, 26] })
    (base : Nat) (v : Value) (q : List Int) (hs : a.eval s = v) (hown : OwnQ base W v q) (y : Int) (ad : Addr) (c : Nat) (hx : a.eval x = .slice (some ad) 1 c) (hc : ∀ j u, [Value.int .i64 y][j]? = some u → W.cell? (ad.add j) = some u) (hq : q.length ≤ 1000) (hb : base ≤ W.heap.size)
    (hK : ∀ v' w', Hid (OwnQ base w' v' (q ++ [y])) → Hid (W.grownBy w' v.ownBlock) → Hid (∀ k, v'.ownBlock = some k → v.ownBlock = some k ∨ W.heap.size ≤ k) → wpList Try.prog ops Q rest (a.put o.dst v') w') :
    wpList Try.prog ops Q (o :: rest) a W := by
  refine wpList_plain hg fun K hK' => ?_
  obtain ⟨v', w', hrun, r1, r2, r3⟩ := run_append_q o.type hown y ad c hc hq hb
  unfold Oper.wp
  simp [execOp, hop, resolve, invoke, builtin, hs, hx, hrun, Result.andThen]
  exact hK' _ _ (hK v' w' r1 r2 r3)
end Go.Proofs.Ytgojjlnpbakfjaa
