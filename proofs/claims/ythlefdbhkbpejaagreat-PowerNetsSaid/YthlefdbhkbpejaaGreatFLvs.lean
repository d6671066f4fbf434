/- Chapter 05: levels (written by wip/gen05lvs.py). -/
import Derived.Test.YthlefdbhkbpejaaGreatFRst
import Derived.ArgAppend
import Derived.Laws.IdiomCopy
import Derived.OwnWalkIn
import Derived.LoopNIn
import Derived.RangeFuncLeaves
import Derived.Test.YthlefdbhkbpejaaGreatBase
import Derived.Test.YthlefdbhkbpejaaGreatFOpn
import Derived.Test.YthlefdbhkbpejaaGreatFRep
import Derived.Deep.DrawnRows
namespace Go.Proofs.YthlefdbhkbpejaaGreat.F5
open Go Go.RowKit

theorem blk_setq {W : World} {k o : Nat} {c : Array Value} {t : TypeId} {fr : Nat × Nat} (h : W.heap[k]? = some (.cells c t fr)) (u : Value) : (W.setCell ⟨k, o, none⟩ u).heap[k]? = some (.cells (c.setIfInBounds o u) t fr) := by
  simp [World.setCell, Array.getElem?_modify, h]
/-- The line q. -/
def OwnQ (base : Nat) (W : World) (v : Value) (q : List Int) : Prop :=
  ∃ g off cap cur, v = .slice (some ⟨g, off, none⟩) q.length cap ∧ base ≤ g ∧ W.heap[g]? = some (.cells cur 3 (0, 0)) ∧ q.length ≤ cap ∧ cap ≤ maxLen ∧ off + cap ≤ cur.size ∧ (cur.toList.drop off).take q.length = intsV q
section
variable {base : Nat} {W W' : World} {v : Value} {q : List Int}
theorem OwnQ.kept (h : OwnQ base W v q) (hk : ∀ g, v.ownBlock = some g → W'.heap[g]? = W.heap[g]?) : OwnQ base W' v q := by
  obtain ⟨g, off, cap, cur, rfl, hb, hg, r⟩ := h
  exact ⟨g, off, cap, cur, rfl, hb, by rw [hk g rfl]; exact hg, r⟩
theorem OwnQ.lt (h : OwnQ base W v q) : ∀ g, v.ownBlock = some g → base ≤ g ∧ g < W.heap.size := by
  obtain ⟨g, off, cap, cur, rfl, hb, hg, r⟩ := h
  intro k hk
  cases hk
  exact ⟨hb, blk_lt hg⟩
theorem OwnQ.later (h : OwnQ base W v q) (hb : Below W.heap.size W W') : OwnQ base W' v q := h.kept fun g hg => hb.block g (h.lt g hg).2
theorem OwnQ.front {x : Int} (h : OwnQ base W v (x :: q)) : ∃ g off cap, v = .slice (some ⟨g, off, none⟩) (q.length + 1) cap ∧ W.cell? ⟨g, off, none⟩ = some (.int .i64 x) ∧ OwnQ base W (.slice (some ⟨g, off + 1, none⟩) q.length (cap - 1)) q ∧ q.length + 1 ≤ cap ∧ g < W.heap.size := by
  obtain ⟨g, off, cap, cur, rfl, hb, hg, h1, h2, h3, h4⟩ := h
  simp only [List.length_cons] at h1 h4
  have ho : off < cur.toList.length := by rw [Array.length_toList]; omega
  rw [List.drop_eq_getElem_cons ho, List.take_succ_cons] at h4
  unfold intsV at h4
  rw [List.map_cons] at h4
  injection h4 with e1 e2
  refine ⟨g, off, cap, rfl, ?_, ⟨g, off + 1, cap - 1, cur, rfl, hb, hg, by omega, by omega, by omega, e2⟩, by omega, blk_lt hg⟩
  rw [blk_cell hg, ← e1]
  simp
theorem OwnQ.stay {x : Int} {g off c : Nat} (h : OwnQ base W (.slice (some ⟨g, off, none⟩) c 1) (x :: q)) : OwnQ base W (.slice (some ⟨g, off, none⟩) q.length 0) q := by
  obtain ⟨g', off', cap, cur, he, hb, hg, h1, h2, h3, h4⟩ := h
  injection he with e1 e2 e3
  injection e1 with e1
  injection e1 with e4 e5
  subst e3
  subst e4
  subst e5
  simp at h1
  subst h1
  exact ⟨g, off, 0, cur, rfl, hb, hg, Nat.le_refl _, by unfold maxLen; omega, by omega, by simp [intsV]⟩
theorem OwnQ.slice (h : OwnQ base W v q) : ∃ g off cap, v = .slice (some ⟨g, off, none⟩) q.length cap ∧ q.length ≤ cap ∧ g < W.heap.size := by
  obtain ⟨g, off, cap, cur, rfl, hb, hg, h1, _⟩ := h
  exact ⟨g, off, cap, rfl, h1, blk_lt hg⟩
/-- A block just made. -/
theorem OwnQ.new {g : Nat} {x : Int} (hb : base ≤ g) (hg : W.heap[g]? = some (.cells #[.int .i64 x] 3 (0, 0))) : OwnQ base W (.slice (some ⟨g, 0, none⟩) 1 1) [x] :=
  ⟨g, 0, 1, _, rfl, hb, hg, by simp, by unfold maxLen; omega, by simp, by simp [intsV]⟩
theorem OwnQ.of {n : Nat} (h : W.ownsRow base 3 1 v n (intsV q)) (hn : 0 < n) : OwnQ base W v q := by
  have hl : q.length = n := by have := h.1; simp [intsV] at this; omega
  rcases h.2 with ⟨_, h0⟩ | ⟨g, cap, cur, rfl, hb, hg, h1, h2, h3, h4⟩
  · omega
  · exact ⟨g, 0, cap, cur, by rw [hl], hb, hg, by omega, h2, by omega, by rw [hl, List.drop_zero]; rw [Nat.mul_one] at h4; exact h4⟩
set_option maxRecDepth 10000 in
theorem run_append_q (ty : TypeId) (h : OwnQ base W v q) (x : Int) (ad : Addr) (c : Nat) (hn : ∀ j u, [Value.int .i64 x][j]? = some u → W.cell? (ad.add j) = some u) (hq : q.length ≤ 1000) (hbase : base ≤ W.heap.size) :
    ∃ v' w', (Builtin.append_ #[68, 68] ty #[v, .slice (some ad) 1 c]).run Tryz.prog W = .ok v' w' ∧ OwnQ base w' v' (q ++ [x]) ∧ W.grownBy w' v.ownBlock ∧ ∀ k, v'.ownBlock = some k → v.ownBlock = some k ∨ W.heap.size ≤ k := by
  obtain ⟨g, off, cap, cur, rfl, hb, hg, h1, h2, h3, h4⟩ := h
  obtain ⟨i0, hi, hz0, hz1, hz2⟩ := info_parts info3
  by_cases hr : q.length + 1 ≤ cap
  · have hrun := run_append_room_cells (P := Tryz.prog) W 68 ty 3 i0 Tryz.underlying68 hi g off q.length cap ad 1 c [.int .i64 x] (by rw [hz1]; rfl) hn (by simp [Value.oneCell']) hr
      (fun j hj => by
        simp at hj
        subst hj
        rw [hz1, blk_cell hg, Nat.mul_one, Array.getElem?_eq_getElem (by omega)]
        rfl)
      (fun j _ => blk_frozen hg _)
    rw [hz1, Nat.mul_one] at hrun
    refine ⟨_, _, hrun, ⟨g, off, cap, cur.setIfInBounds (off + q.length) (.int .i64 x), by simp, hb, blk_setq hg _, by simpa using hr, h2, by simpa using h3, ?_⟩, ⟨rfl, rfl, rfl, by simp [World.setCells, World.setCell], fun k _ hk => Below.heap_setCell _ _ _ _ (fun e => hk (by simp [Value.ownBlock] at *; exact e))⟩, fun k hk => .inl hk⟩
    have hcl : cur.toList.length = cur.size := Array.length_toList
    have hl : off + q.length < cur.toList.length := by omega
    rw [Array.toList_setIfInBounds, List.length_append, List.length_cons, List.length_nil, Nat.zero_add, List.take_succ_eq_append_getElem (by rw [List.length_drop, List.length_set]; omega)]
    rw [List.getElem_drop, List.getElem_set_self]
    unfold intsV at h4 ⊢
    rw [List.map_append, ← h4]
    congr 1
    rw [List.drop_set, if_neg (by omega), List.take_set, show off + q.length - off = q.length by omega]
    exact List.set_eq_of_length_le (by rw [List.length_take]; omega)
  · obtain ⟨v', w', hrun, r1, r2⟩ := run_append_arg_grows (P := Tryz.prog) W 68 ty 3 i0 _ 1 8 Tryz.underlying68 hi hz0 hz1 hz2 rfl (by decide) ⟨g, off, none⟩ q.length cap (intsV q) (by simp [intsV])
      (fun j u hj => by
        rw [Addr.add_lit, blk_cell hg]
        rw [← h4, List.getElem?_take] at hj
        split at hj
        · rw [List.getElem?_drop] at hj
          simpa using hj
        · cases hj)
      ad 1 c [.int .i64 x] rfl hn (by omega) (by unfold maxLen; omega) (by omega)
    refine ⟨v', w', hrun, OwnQ.of (n := q.length + 1) ?_ (by omega), ⟨r2.os, r2.tape, r2.output, r2.size, fun k hk _ => r2.block k hk (by simp)⟩, fun k hk => .inr (r1.lt k hk).1⟩
    rw [intsV_app]
    exact owns_base r1 hbase
end
theorem wpListIn_append_q {F : Fence} {n : Nat} {ops : Array Oper} {rest : List Oper} {o : Oper} {a : Act} {W : World} {Q : Exit → Act → World → Prop}
    (hg : o.guard = none) (s x : Operand) (hop : o.op = Op.call { callee := Callee.builtin Builtin.append, args := #[s, x], argTypes := #[68, 68] })
    (base : Nat) (v : Value) (q : List Int) (hs : a.eval s = v) (hown : OwnQ base W v q) (y : Int) (ad : Addr) (c : Nat) (hx : a.eval x = .slice (some ad) 1 c) (hc : ∀ j u, [Value.int .i64 y][j]? = some u → W.cell? (ad.add j) = some u) (hq : q.length ≤ 1000) (hb : base ≤ W.heap.size)
    (hK : ∀ v' w', OwnQ base w' v' (q ++ [y]) → W.grownBy w' v.ownBlock → (∀ k, v'.ownBlock = some k → v.ownBlock = some k ∨ W.heap.size ≤ k) → wpListIn F n Tryz.prog ops Q rest (a.put o.dst v') w') :
    wpListIn F n Tryz.prog ops Q (o :: rest) a W := by
  refine wpListIn_plain hg fun K hK' => ?_
  obtain ⟨v', w', hrun, r1, r2, r3⟩ := run_append_q o.type hown y ad c hc hq hb
  unfold Oper.wpIn
  refine ⟨?_, ?_⟩
  · simp [Oper.about, hop, resolve, Target.leads, Sem.run_pure]
  · rw [Oper.semAt_plain F _ _ (by rw [hop]; intro c hc'; cases hc')]
    simp [execOp, hop, resolve, invoke, builtin, hs, hx, hrun, Result.andThen]
    exact hK' _ _ (hK v' w' r1 r2 r3)
theorem wpList_append_q {ops : Array Oper} {rest : List Oper} {o : Oper} {a : Act} {W : World} {Q : Exit → Act → World → Prop}
    (hg : o.guard = none) (s x : Operand) (hop : o.op = Op.call { callee := Callee.builtin Builtin.append, args := #[s, x], argTypes := #[68, 68] })
    (base : Nat) (v : Value) (q : List Int) (hs : a.eval s = v) (hown : OwnQ base W v q) (y : Int) (ad : Addr) (c : Nat) (hx : a.eval x = .slice (some ad) 1 c) (hc : ∀ j u, [Value.int .i64 y][j]? = some u → W.cell? (ad.add j) = some u) (hq : q.length ≤ 1000) (hb : base ≤ W.heap.size)
    (hK : ∀ v' w', Hid (OwnQ base w' v' (q ++ [y])) → Hid (W.grownBy w' v.ownBlock) → Hid (∀ k, v'.ownBlock = some k → v.ownBlock = some k ∨ W.heap.size ≤ k) → wpList Tryz.prog ops Q rest (a.put o.dst v') w') :
    wpList Tryz.prog ops Q (o :: rest) a W := by
  refine wpList_plain hg fun K hK' => ?_
  obtain ⟨v', w', hrun, r1, r2, r3⟩ := run_append_q o.type hown y ad c hc hq hb
  unfold Oper.wp
  simp [execOp, hop, resolve, invoke, builtin, hs, hx, hrun, Result.andThen]
  exact hK' _ _ (hK v' w' r1 r2 r3)
end Go.Proofs.YthlefdbhkbpejaaGreat.F5

namespace Go.Proofs.YthlefdbhkbpejaaGreat.F5
open Go Go.RowKit

theorem rounds_steps {F : Fence} {n : Nat} {P : Program} {c : Code} {Q : Exit → Act → World → Prop} (I : Nat → Act → World → Prop)
    (round : ∀ m a w, I m a w → c.wpIn F n P (Exit.then (fun a' w' => ∃ m', m = m' + 1 ∧ I m' a' w') Q) a w) : ∀ m a w, I m a w → Code.roundsIn F n P c Q (m + 1) a w := by
  intro m
  induction m with
  | zero =>
    intro a w h
    refine wpIn_mono (round 0 a w h) ?_
    intro e a' w' hq
    cases e with
    | normal => obtain ⟨m', h, _⟩ := hq; omega
    | _ => exact hq
  | succ m ih =>
    intro a w h
    refine wpIn_mono (round (m + 1) a w h) ?_
    intro e a' w' hq
    cases e with
    | normal =>
      obtain ⟨m', h, hI⟩ := hq
      obtain rfl : m = m' := by omega
      exact ih a' w' hI
    | _ => exact hq
/-- A loop whose rounds are counted by a number that no slot holds. -/
theorem loop_steps {F : Fence} {n : Nat} {P : Program} {c : Code} {Q : Exit → Act → World → Prop} {a : Act} {w : World} (I : Nat → Act → World → Prop) (m : Nat) (h : I m a w)
    (round : ∀ m a w, I m a w → c.wpIn F n P (Exit.then (fun a' w' => ∃ m', m = m' + 1 ∧ I m' a' w') Q) a w) : (Code.loop c).wpIn F n P Q a w :=
  wpIn_loop_rounds (m + 1) (rounds_steps I round m a w h)

/-- The marks of loops that are done. -/
structure Marks (lo hi : Nat) (ds : List Deferred) (W : World) : Prop where
  ex : ∃ rs : List Nat, ds = rs.map (fun r => { target := .collected r, args := #[] }) ∧ rs.Nodup ∧ ∀ r ∈ rs, lo < r ∧ r < hi ∧ W.heap[r]? = some (.deferred (some []))
theorem Marks.nil (lo hi : Nat) (W : World) : Marks lo hi [] W := ⟨[], rfl, List.nodup_nil, fun r h => by simp at h⟩
theorem Marks.keep {lo hi : Nat} {ds : List Deferred} {W W' : World} (h : Marks lo hi ds W) (hk : ∀ r, lo < r → r < hi → W.heap[r]? = some (.deferred (some [])) → W'.heap[r]? = some (.deferred (some []))) : Marks lo hi ds W' := by
  obtain ⟨rs, h1, h2, h3⟩ := h.ex
  exact ⟨rs, h1, h2, fun r hr => ⟨(h3 r hr).1, (h3 r hr).2.1, hk r (h3 r hr).1 (h3 r hr).2.1 (h3 r hr).2.2⟩⟩
theorem Marks.later {lo hi : Nat} {ds : List Deferred} {W W' : World} (h : Marks lo hi ds W) (hb : Below W.heap.size W W') : Marks lo hi ds W' := h.keep fun _ _ _ hr => blk_below hr hb
theorem Marks.add {lo hi hi' : Nat} {ds : List Deferred} {W : World} (h : Marks lo hi ds W) {r : Nat} (h1 : hi ≤ r) (h0 : lo < r) (h2 : r < hi') (hr : W.heap[r]? = some (.deferred (some []))) : Marks lo hi' ({ target := .collected r, args := #[] } :: ds) W := by
  obtain ⟨rs, e, hn, h3⟩ := h.ex
  refine ⟨r :: rs, by rw [e]; rfl, List.nodup_cons.2 ⟨fun hm => by have := (h3 r hm).2.1; omega, hn⟩, fun q hq => ?_⟩
  rcases List.mem_cons.1 hq with rfl | hq
  · exact ⟨h0, h2, hr⟩
  · obtain ⟨a, b, c⟩ := h3 q hq
    exact ⟨a, by omega, c⟩
theorem Marks.mono {lo hi hi' : Nat} {ds : List Deferred} {W : World} (h : Marks lo hi ds W) (hh : hi ≤ hi') : Marks lo hi' ds W := by
  obtain ⟨rs, e, hn, h3⟩ := h.ex
  exact ⟨rs, e, hn, fun q hq => ⟨(h3 q hq).1, by have := (h3 q hq).2.1; omega, (h3 q hq).2.2⟩⟩
/-- A function leaves with marks alone. -/
theorem leaves_marks {P : Program} {fn : Func} {tmps : Array Value} {R : Ending → World → Prop} {lo hi : Nat} : ∀ (ds : List Deferred) (W : World), Marks lo hi ds W →
    (∀ W', Below (lo + 1) W W' → (∀ (k : Nat) (c : Array Value) (t : TypeId) (fr : Nat × Nat), W.heap[k]? = some (Obj.cells c t fr) → W'.heap[k]? = some (Obj.cells c t fr)) → ∃ v, (results fn tmps).run P W' = .ok v W' ∧ R (.returned v) W') → LeavesInM Fence.wide 0 P fn tmps R ds .returning W := by
  intro ds
  induction ds with
  | nil =>
    intro W _ h
    exact h W (Below.refl _ _) (fun _ _ _ _ h => h)
  | cons d ds ih =>
    intro W hm h
    obtain ⟨rs, e, hn, h3⟩ := hm.ex
    cases rs with
    | nil => cases e
    | cons r rs =>
      injection e with e1 e2
      obtain ⟨a, b, c⟩ := h3 r (by simp)
      have hn' := List.nodup_cons.1 hn
      subst e1
      refine ⟨by simp, .inl ⟨_, _, rfl, run_takeDeferred c, ?_⟩⟩
      refine ih _ ⟨rs, e2, hn'.2, fun q hq => ⟨(h3 q (by simp [hq])).1, (h3 q (by simp [hq])).2.1, blk_put (h3 q (by simp [hq])).2.2 (fun e => hn'.1 (e ▸ hq))⟩⟩ ?_
      intro W' hb hk
      refine h W' ((below_put (Below.refl (lo + 1) W) (by omega) _).trans hb) (fun k cs t fr hc => hk k cs t fr (blk_put hc ?_))
      rintro rfl
      rw [c] at hc
      cases hc
end Go.Proofs.YthlefdbhkbpejaaGreat.F5

namespace Go.Proofs.YthlefdbhkbpejaaGreat.F5
open Go Go.RowKit Go.Shelf
attribute [local go_sem] Oper.semAt_some

/-- Between two nodes of the line. F: the box of the levels; Bl: the box of the line. -/
structure LO (w : World) (n : Nat) (l : List Ar) (f : List Int) (s : Int) (F Bl : Nat) (vf : Value) (ds : List Deferred) (L q : List Int) (W : World) : Prop where
  bel : Below w.heap.size w W
  far : OwnI w.heap.size W vf L
  fb : W.heap[F]? = some (.cells #[vf] 68 (0, 0))
  vfl : ∀ g, vf.ownBlock = some g → g < F
  line : ∃ vq, W.heap[Bl]? = some (.cells #[vq] 68 (0, 0)) ∧ OwnQ (F + 1) W vq q ∧ ∀ g, vq.ownBlock = some g → g ≠ Bl
  bfs : BfsO n l f s L q
  mks : Marks F W.heap.size ds W
  lo : w.heap.size ≤ F ∧ F < Bl
/-- Between two edges of the node u. X: open's boxes, the marks, the loop's record. -/
structure LI (w : World) (n : Nat) (l : List Ar) (f : List Int) (s : Int) (F Bl p : Nat) (vf : Value) (ds : List Deferred) (X m : Nat) (u : Int) (o : Obj) (j : Nat) (L r : List Int) (W : World) : Prop where
  bel : Below w.heap.size w W
  far : OwnI w.heap.size W vf L
  fb : W.heap[F]? = some (.cells #[vf] 68 (0, 0))
  vfl : ∀ g, vf.ownBlock = some g → g < F
  line : ∃ vq, W.heap[Bl]? = some (.cells #[vq] 68 (0, 0)) ∧ OwnQ (F + 1) W vq (u :: r) ∧ ∀ g, vq.ownBlock = some g → g ≠ Bl ∧ (g < X ∨ X + 4 ≤ g)
  bfs : BfsI n l f s u j L r
  cnt : r.length + 1 + neg L = m
  mks : Marks F X ds W
  x0 : W.heap[X]? = some (.cells #[.pointer (some ⟨p, 0, none⟩)] 91 (0, 0))
  x1 : W.heap[X + 1]? = some (.cells #[.int .i64 u] 3 (0, 0))
  x2 : W.heap[X + 2]? = some (.deferred (some []))
  x3 : W.heap[X + 3]? = some o
  lo : w.heap.size ≤ F ∧ F < Bl ∧ Bl < X ∧ X + 4 ≤ W.heap.size
section
variable {w : World} {n : Nat} {l : List Ar} {f : List Int} {s : Int} {F Bl p : Nat} {vf : Value} {ds : List Deferred} {X m : Nat} {u : Int} {o : Obj} {j : Nat} {L r : List Int} {W W' : World}
theorem LI.later (h : LI w n l f s F Bl p vf ds X m u o j L r W) (hb : Below W.heap.size W W') : LI w n l f s F Bl p vf ds X m u o j L r W' := by
  obtain ⟨vq, h1, h2, h3⟩ := h.line
  have hs := hb.size
  have hl := h.lo
  exact ⟨below_trans h.bel hb, h.far.later hb, blk_below h.fb hb, h.vfl, ⟨vq, blk_below h1 hb, h2.later hb, h3⟩, h.bfs, h.cnt, h.mks.later hb, blk_below h.x0 hb, blk_below h.x1 hb, blk_below h.x2 hb, blk_below h.x3 hb, by omega⟩
theorem LI.put (h : LI w n l f s F Bl p vf ds X m u o j L r W) (o' : Obj) : LI w n l f s F Bl p vf ds X m u o' j L r (W.putObj (X + 3) o') := by
  obtain ⟨vq, h1, h2, h3⟩ := h.line
  have hl := h.lo
  refine ⟨below_put h.bel (by omega) _, owns_kept h.far fun g hg => World.putObj_heap_other (by have := h.vfl g hg; omega), blk_put h.fb (by omega), h.vfl, ⟨vq, blk_put h1 (by omega), h2.kept fun g hg => World.putObj_heap_other (by have := (h3 g hg).2; omega), h3⟩, h.bfs, h.cnt, h.mks.keep fun q _ hq hr => blk_put hr (by omega), blk_put h.x0 (by omega), blk_put h.x1 (by omega), blk_put h.x2 (by omega), World.putObj_heap_same (by omega), by simpa using hl⟩
/-- An edge that leads on to no new node. -/
theorem LI.pass (h : LI w n l f s F Bl p vf ds X m u o j L r W) {e : Nat} (he : (atL l u l.length).getD j default = e) (hp : 0 < room l f e → 0 ≤ fv L (hd l e)) : LI w n l f s F Bl p vf ds X m u o (j + 1) L r W :=
  { h with bfs := h.bfs.pass he hp }
/-- An edge to a new node. -/
theorem LI.reach (h : LI w n l f s F Bl p vf ds X m u o j L r W) (hin : inN n l) {e : Nat} (he : (atL l u l.length).getD j default = e) (hel : e < 2 * l.length) (ht : tl l e = u) (hr : 0 < room l f e) {v : Nat} (hv : hd l e = v) (v1 : v < n) (hneg : fv L v < 0) {y : Int} (hy : y = fv L u + 1)
    {g c : Nat} (hvf : vf = .slice (some ⟨g, 0, none⟩) n c) {x : Obj} {vq vq' : Value} {W3 : World} (hq : W.heap[Bl]? = some (.cells #[vq] 68 (0, 0))) (hqo : ∀ g, vq.ownBlock = some g → g ≠ Bl ∧ (g < X ∨ X + 4 ≤ g)) (hq0 : OwnQ (F + 1) W vq (u :: r))
    (hg : ((W.setCell ⟨g, v, none⟩ (.int .i64 y)).alloc x).grownBy W3 vq.ownBlock) (hq' : OwnQ (F + 1) W3 vq' (u :: r ++ [(v : Int)])) (hqn : ∀ k, vq'.ownBlock = some k → vq.ownBlock = some k ∨ ((W.setCell ⟨g, v, none⟩ (.int .i64 y)).alloc x).heap.size ≤ k) :
    LI w n l f s F Bl p vf ds X m u o (j + 1) (L.set v y) (r ++ [(v : Int)]) (W3.setCell ⟨Bl, 0, none⟩ vq') := by
  subst hy
  have hl := h.lo
  have hgf : g < F := h.vfl g (by rw [hvf]; rfl)
  have hgw : w.heap.size ≤ g := (h.far.lt g (by rw [hvf]; rfl)).1
  have hqF : ∀ k, vq.ownBlock = some k → F < k := fun k hk => by have := (hq0.lt k hk).1; omega
  obtain ⟨gq, cq, tq, hqe, hqc⟩ : ∃ (gq : Nat) (cq : Array Value) (tq : TypeId), vq.ownBlock = some gq ∧ W.heap[gq]? = some (.cells cq tq (0, 0)) := by
    obtain ⟨g1, _, _, cur, rfl, _, hg1, _⟩ := hq0
    exact ⟨g1, cur, _, rfl, hg1⟩
  have hF1 : OwnI w.heap.size (W.setCell ⟨g, v, none⟩ (.int .i64 (fv L u + 1))) vf (L.set v (fv L u + 1)) := by
    have := h.far
    rw [hvf] at this ⊢
    exact this.put v _
  have hset : ∀ {k : Nat} {ob : Obj}, W.heap[k]? = some ob → k ≠ g → k ≠ gq → k ≠ Bl → (W3.setCell ⟨Bl, 0, none⟩ vq').heap[k]? = some ob := fun hk n1 n2 n3 =>
    blk_set (grown_blk hg (blk_alloc (blk_set hk n1 _) _) (by rw [hqe]; simpa using n2)) n3 _
  have hgq := hqF gq hqe
  have hgq2 := hqo gq hqe
  have hW3 : W.heap.size + 1 ≤ W3.heap.size := by have := hg.size; simp [World.setCell] at this; omega
  have hcnt := neg_set (L := L) (i := v) (y := fv L u + 1) (by rw [h.bfs.len]; exact v1) (by unfold fv at hneg; rwa [Int.toNat_natCast] at hneg) (by have := (h.bfs.inq u (by simp)).2; omega)
  have hb := h.bfs.reach hin he hel ht hr hv (by omega) (by omega) hneg
  rw [Int.toNat_natCast] at hb
  have hown : some g ≠ vq.ownBlock := by rw [hqe]; simp; omega
  refine ⟨?_, ?_, hset h.fb (by omega) (by omega) (by omega), h.vfl, ⟨vq', blk_set_same (grown_blk hg (blk_alloc (blk_set hq (by simp only; omega) _) _) (by rw [hqe]; simp; omega)), ?_, ?_⟩, hb, ?_, ?_, hset h.x0 (by omega) (by omega) (by omega), hset h.x1 (by omega) (by omega) (by omega), hset h.x2 (by omega) (by omega) (by omega), hset h.x3 (by omega) (by omega) (by omega), ?_⟩
  · exact (((h.bel.setCell (p := ⟨g, v, none⟩) hgw _).alloc (by have := h.bel.size; simp [World.setCell]; omega) _).grown hg (by have := h.bel.size; simp [World.setCell]; omega) (fun k hk => by have := hqF k hk; omega)).setCell (p := ⟨Bl, 0, none⟩) (by simp only; omega) _
  · refine owns_set_ne ?_ (by rw [hvf]; simp [Value.ownBlock]; omega) _
    refine (World.ownsRow.alloc hF1 x).kept hg ?_
    right
    rw [hvf]
    exact hown
  · refine hq'.kept fun k hk => Below.heap_setCell _ _ _ _ ?_
    rcases hqn k hk with h1 | h1
    · exact (hqo k h1).1
    · simp [World.setCell] at h1
      simp only
      omega
  · intro k hk
    rcases hqn k hk with h1 | h1
    · exact hqo k h1
    · simp [World.setCell] at h1
      omega
  · rw [List.length_append]
    have := h.cnt
    simp
    omega
  · refine h.mks.keep fun k k1 k2 hk => hset hk (by omega) ?_ (by rintro rfl; rw [hq] at hk; cases hk)
    rintro rfl
    rw [hqc] at hk
    cases hk
  · refine ⟨hl.1, hl.2.1, hl.2.2.1, ?_⟩
    simp [World.setCell]
    omega
end
theorem map_getD (rest : List Value) : rest = (List.range rest.length).map (fun i => rest.getD i undef) := by
  apply List.ext_getElem
  · simp
  · intro i h1 h2
    simp [List.getElem?_eq_getElem h1]
theorem cut47 (rest : List Value) (h : rest.length = 47) : ∃ u : Nat → Value, rest = [u 7, u 8, u 9, u 10, u 11, u 12, u 13, u 14, u 15, u 16, u 17, u 18, u 19, u 20, u 21, u 22, u 23, u 24, u 25, u 26, u 27, u 28, u 29, u 30, u 31, u 32, u 33, u 34, u 35, u 36, u 37, u 38, u 39, u 40, u 41, u 42, u 43, u 44, u 45, u 46, u 47, u 48, u 49, u 50, u 51, u 52, u 53] := by
  have := map_getD rest
  rw [h] at this
  exact ⟨fun k => rest.getD (k - 7) undef, this⟩
theorem loadVar_row {w : World} {g : Nat} {v : Value} (h : w.cell? ⟨g, 0, none⟩ = some v) : (loadVar 68 ⟨g, 0, none⟩).run Tryz.prog w = .ok v w := by
  simp [go_sem, loadVar, h]

set_option maxRecDepth 100000 in
set_option maxHeartbeats 4000000 in
theorem levels_ok (B : Nat) (l : List Ar) (n p : Nat) (vt vl va : Value) (rows : List Value) (f : List Int) (s : Nat) (w : World) (hs : s < n) (hn : n ≤ 64) (hl : l.length ≤ 128) (hin : inN n l) (hne : ∀ a ∈ l, a.u ≠ a.v) (hf : okF l f)
    (hR : Rst B l n p vt vl va rows (leftL l f) w) :
    Calls Tryz.prog 92 #[.pointer (some ⟨p, 0, none⟩), .int .i64 s] w fun e W' => ∃ v L, e = .returned v ∧ OwnI w.heap.size W' v L ∧ L.length = n ∧ Lvl n l f s (fv L) ∧ Below w.heap.size w W' := by
  have HR := Lib.hid hR
  have HC := Lib.hid (And.intro hin (And.intro hne hf))
  obtain ⟨gv, cg, hva, _⟩ := hR.edges (u := s) hs
  have hA := hR.later (below_alloc (below_self w) (.cells #[.int .i64 (-1)] 3))
  have qa : (w.alloc (.cells #[.int .i64 (-1)] 3)).cell? ⟨p, 2, none⟩ = some (.slice (some ⟨gv, 0, none⟩) n cg) := (blk_cell hA.blk 2).trans (by rw [hva]; rfl)
  clear hR hin hne hf hA hva
  refine (callsIn_wide (n := 0)).1 ?_
  refine callsIn_of_wp_marks Tryz.func92 rfl trivial ?_ rfl
  simp only [Tryz.ntmps92, List.size_toArray, List.length_cons, List.length_nil, Nat.reduceAdd, Nat.reduceSub, Array.replicate_succ, Array.replicate_zero, List.push_toArray, List.append_toArray, List.nil_append, List.cons_append]
  gi_wp2_with fail
  refine (callsIn_wide.2 (repeat_ok w.heap.size 0 n (-1) _ (by omega) ((blk_cell (blk_new _ _) 0).trans rfl))).mono ?_
  rintro e W1 ⟨v1, rfl, ho1, hb1⟩
  have hl1 : (List.replicate n (-1 : Int)).length = n := by simp
  obtain ⟨g, c, rfl, hgb, hg, cs, fs⟩ := ho1.at (e := s) (by rw [hl1]; exact hs)
  rw [hl1] at ho1 ⊢
  have hsI : (s : Int) < (n : Int) := by omega
  have H1 := Lib.hid (And.intro ho1 (And.intro (below_trans (below_alloc (below_self w) _) hb1) (And.intro hgb hg)))
  clear ho1 hb1 qa
  generalize (List.replicate n (-1)).getD s default = y0 at cs
  gi_wp2_with fail
  refine loop_steps (fun m a' w' => ∃ (rest : List Value) (ds : List Deferred) (Bl : Nat) (L q : List Int), rest.length = 47 ∧ q.length + neg L = m ∧ LO w n l f s W1.heap.size Bl (.slice (some ⟨g, 0, none⟩) n c) ds L q w' ∧ a' = ⟨(.pointer (some ⟨p, 0, none⟩) :: .int .i64 s :: undef :: undef :: .slice none 0 0 :: .pointer (some ⟨W1.heap.size, 0, none⟩) :: .pointer (some ⟨Bl, 0, none⟩) :: rest).toArray, ds⟩) n ?start ?round
  case start =>
    refine ⟨_, [], W1.heap.size + 1 + 1, (List.replicate n (-1)).set s 0, [(s : Int)], ?_, ?_, ?_, rfl⟩
    · rfl
    · have h1 := neg_set (L := List.replicate n (-1)) (i := s) (y := 0) (by rw [hl1]; exact hs) (by rw [List.getD_eq_getElem?_getD, List.getElem?_replicate, if_pos hs]; decide) (Int.le_refl _)
      rw [neg_rep] at h1
      simp
      omega
    · have hbO := BfsO.start (n := n) (l := l) (f := f) (s := (s : Int)) HC.out.1 (by omega) (by omega)
      rw [Int.toNat_natCast] at hbO
      have hg2 := H1.out.2.2.1
      simp at hg2
      have hA : ∀ (A : World) (o : Obj) (m : Nat), A.heap.size = m → (A.alloc o).heap[m]? = some o := fun A o m h => by rw [← h]; exact blk_new A o
      have hw1 : w.heap.size + 1 ≤ W1.heap.size := by have := H1.out.2.2.2; omega
      have hof := (H1.out.1.put s 0)
      refine ⟨?_, ?_, ?_, ?_, ⟨.slice (some ⟨W1.heap.size + 1, 0, none⟩) 1 1, ?_, ?_, ?_⟩, hbO, Marks.nil _ _ _, by omega, by omega⟩
      · exact (((H1.out.2.1.setCell (p := ⟨g, s, none⟩) (by simp only; omega) _).alloc (by simp [World.setCell]; omega) _).alloc (by simp [World.setCell]; omega) _).alloc (by simp [World.setCell]; omega) _
      · exact owns_base (World.ownsRow.alloc (World.ownsRow.alloc (World.ownsRow.alloc hof _) _) _) (by simp)
      · exact blk_alloc (blk_alloc (hA _ _ _ (by simp [World.setCell])) _) _
      · intro k hk
        cases hk
        exact H1.out.2.2.2
      · exact hA _ _ _ (by simp [World.setCell])
      · exact OwnQ.new (by omega) (blk_alloc (hA _ _ _ (by simp [World.setCell])) _)
      · intro k hk
        cases hk
        simp
  case round =>
    clear cs fs
    rintro m a' w' ⟨rest, ds, Bl, L, q, hr47, hm, hL, rfl⟩
    obtain ⟨u, rfl⟩ := cut47 rest hr47
    clear hr47
    have HL := Lib.hid hL
    obtain ⟨vq, hlb, hoq, hqb⟩ := hL.line
    have HM := Lib.hid hm
    clear hL hm
    have hBl := blk_lt hlb
    cases q with
    | nil =>
      obtain ⟨gq, oq, cq, rfl, hcq, _⟩ := hoq.slice
      have qb : w'.cell? ⟨Bl, 0, none⟩ = some (.slice (some ⟨gq, oq, none⟩) 0 cq) := (blk_cell hlb 0).trans rfl
      have qf : w'.cell? ⟨W1.heap.size, 0, none⟩ = some (.slice (some ⟨g, 0, none⟩) n c) := (blk_cell HL.out.fb 0).trans rfl
      have lf := blk_lt HL.out.fb
      clear hlb hoq hqb hcq
      gi_wp2_with fail
      refine leaves_marks ds _ HL.out.mks fun W' hb hk => ⟨_, results_tmp rfl _ _ _, _, L, rfl, ?_, HL.out.bfs.len, HL.out.bfs.lvl, ?_⟩
      · exact owns_kept HL.out.far fun k hk => hb.block k (by have := HL.out.vfl k hk; omega)
      · exact HL.out.bel.trans (hb.mono (by have := HL.out.lo.1; omega))
    | cons x r =>
      obtain ⟨gq, oq, cq, rfl, hx, _, hcq, hgq⟩ := hoq.front
      have qb : w'.cell? ⟨Bl, 0, none⟩ = some (.slice (some ⟨gq, oq, none⟩) (r.length + 1) cq) := (blk_cell hlb 0).trans rfl
      have hrI : (0 : Int) < (r.length : Int) + 1 := by omega
      have hxn := (HL.out.bfs.inq x (by simp)).1
      obtain ⟨xn, rfl⟩ : ∃ xn : Nat, x = xn := ⟨x.toNat, by omega⟩
      have hxn' : xn < n := by omega
      have HQ := Lib.hid (And.intro hlb (And.intro hoq hqb))
      clear hlb hoq hqb hxn
      gi_wp2_with fail
      refine (open_ok p xn _).mono ?_
      rintro e w2 ⟨rfl, rfl⟩
      clear qb hx hgq
      gi_wp2_with fail
      refine range_wide rfl (enters_of Tryz.func116 (by kernel_rfl) rfl) ?_
      intro rec hrec hround
      simp only [World.size_alloc, Nat.add_assoc, Nat.reduceAdd] at hround ⊢
      refine (open1_ok _ w'.heap.size (w'.heap.size + 1) B l n p vt vl va rows xn hxn' hl HC.out.2.1 (fun j lv W => lv = leftL l f ∧ ∃ L r, LI w n l f s W1.heap.size Bl p (.slice (some ⟨g, 0, none⟩) n c) ds w'.heap.size m xn (rec .ready none) j L r W) (fun _ => False) ?hread ?htick ?hskip ?hY _ (leftL l f) ?h0).mono ?done
      case hread =>
        rintro j lv W ⟨rfl, L, r, h⟩
        exact ⟨HR.out.later h.bel, leftL_len (okF_len HC.out.2.2), (blk_cell h.x0 0).trans rfl, (blk_cell h.x1 0).trans rfl⟩
      case htick =>
        rintro j lv W W' ⟨rfl, L, r, h⟩ hb
        exact ⟨rfl, L, r, h.later hb⟩
      case hskip =>
        rintro j lv W e ⟨rfl, L, r, h⟩ hj he hel hr
        rw [leftL_at (okF_len HC.out.2.2) hel] at hr
        exact ⟨rfl, L, r, h.pass he (fun h => absurd h hr)⟩
      case h0 =>
        have hA : ∀ (A : World) (o : Obj) (m : Nat), A.heap.size = m → (A.alloc o).heap[m]? = some o := fun A o m h => by rw [← h]; exact blk_new A o
        have hb := below_alloc (below_alloc (below_alloc (below_alloc (below_self w') (.cells #[.pointer (some ⟨p, 0, none⟩)] 91)) (.cells #[.int .i64 xn] 3)) (.deferred (some []))) (rec .ready none)
        refine ⟨rfl, L, r, below_trans HL.out.bel hb, HL.out.far.later hb, blk_below HL.out.fb hb, HL.out.vfl, ⟨_, blk_below HQ.out.1 hb, HQ.out.2.1.later hb, fun k hk => ⟨HQ.out.2.2 k hk, .inl (HQ.out.2.1.lt k hk).2⟩⟩, HL.out.bfs.enter, by have := HM.out; simpa using this, HL.out.mks.later hb, ?_, ?_, ?_, ?_, HL.out.lo.1, HL.out.lo.2, hBl, by simp⟩
        · exact blk_alloc (blk_alloc (blk_alloc (hA _ _ _ rfl) _) _) _
        · exact blk_alloc (blk_alloc (hA _ _ _ (by simp)) _) _
        · exact blk_alloc (hA _ _ _ (by simp)) _
        · exact hA _ _ _ (by simp)
      case hY =>
        rintro j lv W e ⟨rfl, L, r, h⟩ hj he hel het hr
        rw [leftL_at (okF_len HC.out.2.2) hel] at hr
        refine (hround #[.int .i64 e, .int .i64 (hd l e)] W (fun c' W' => c' = true ∧ ∃ L r, LI w n l f s W1.heap.size Bl p (.slice (some ⟨g, 0, none⟩) n c) ds w'.heap.size m xn (rec .ready none) (j + 1) L r W') rfl h.x3 ?_).mono (by rintro x W' ⟨c', rfl, rfl, L, r, h⟩; exact ⟨true, rfl, by rw [if_pos rfl]; exact ⟨_, rfl, L, r, h⟩⟩)
        have hvr := hd_nn HC.out.1 e
        have hv2 : hd l e < n := by
          have h2 := HC.out.1 (l.getD (e / 2) default) (by rw [List.getD_eq_getElem?_getD, List.getElem?_eq_getElem (by omega)]; exact List.getElem_mem _)
          unfold hd
          split
          · exact h2.2.2
          · exact h2.1.2
        obtain ⟨v, hvd⟩ : ∃ v : Nat, hd l e = v := ⟨(hd l e).toNat, by omega⟩
        have hvn : v < n := by omega
        have HE := Lib.hid (And.intro he (And.intro hel (And.intro het (And.intro hvd hr))))
        have HJ := Lib.hid h
        have Hround := Lib.hid hround
        have Hrec := Lib.hid hrec
        clear h hround hrec he het hj hvr hv2 hr HL HQ HM hBl
        rw [hvd]
        clear hvd
        gi_wp2_with fail
        refine ⟨HJ.out.x3, ?_⟩
        have h4 := HJ.out.put (rec .busy none)
        generalize W.putObj (w'.heap.size + 3) (rec .busy none) = W4 at h4 ⊢
        have H4 := Lib.hid h4
        clear HJ
        obtain ⟨g', c', hv', _, hgl, cv, fz⟩ := h4.far.at (e := v) (by rw [h4.bfs.len]; exact hvn)
        obtain ⟨g'', c'', hv'', _, _, cu, _⟩ := h4.far.at (e := xn) (by rw [h4.bfs.len]; exact hxn')
        have hgg : g' = g := by cases hv'; rfl
        have hgg2 : g'' = g := by cases hv''; rfl
        subst hgg
        subst hgg2
        obtain ⟨vq, hlb, hoq, hqb⟩ := h4.line
        obtain ⟨gq, oq, cq, rfl, hx, _, hcq, hgq⟩ := hoq.front
        have qf : W4.cell? ⟨W1.heap.size, 0, none⟩ = some (.slice (some ⟨g'', 0, none⟩) n c) := (blk_cell h4.fb 0).trans rfl
        have qb : W4.cell? ⟨Bl, 0, none⟩ = some (.slice (some ⟨gq, oq, none⟩) (r.length + 1) cq) := (blk_cell hlb 0).trans rfl
        have lf := blk_lt h4.fb
        have lb := blk_lt hlb
        have hvI : (v : Int) < (n : Int) := by omega
        have huI : (xn : Int) < (n : Int) := by omega
        have hrI : (0 : Int) < (r.length : Int) + 1 := by omega
        have HQ := Lib.hid (And.intro hlb (And.intro hoq hqb))
        have hxv : fv L v = L.getD v default := by unfold fv; rw [Int.toNat_natCast]
        have hxu : fv L xn = L.getD xn default := by unfold fv; rw [Int.toNat_natCast]
        obtain ⟨xv, hxve⟩ : ∃ xv, L.getD v default = xv := ⟨_, rfl⟩
        obtain ⟨xu, hxue⟩ : ∃ xu, L.getD xn default = xu := ⟨_, rfl⟩
        rw [hxve] at cv hxv
        rw [hxue] at cu hxu
        have hlow := h4.bfs.low xn (by omega) (by omega)
        rw [hxu] at hlow
        have hwx : IntKind.i64.wrap (xu + 1) = xu + 1 := IntWalk.i64_in _ (by omega)
        have HX := Lib.hid (And.intro hxv hxu)
        clear h4 hv' hv'' hlb hoq hqb hxv hxu hxve hxue hlow
        by_cases hneg : xv < 0
        · gi_wp2_with fail
          refine wpIn_region_still_tail 10 (by kernel_rfl) (by kernel_rfl) (by kernel_rfl) (fun h => h.elim fun _ h => h.elim fun _ h => h.elim) ?_
          simp only [List.take_succ_cons, List.take_zero, List.drop_succ_cons, List.drop_zero]
          repeat still_step
          try refine wpStill_nil ?_
          have hbY : Below W4.heap.size W4 { W4 with drawn := W4.drawn + 1 } := (below_self W4).drew
          have HV := Lib.hid (H4.out.later hbY)
          have HQV := Lib.hid (And.intro (blk_below HQ.out.1 hbY) (And.intro (HQ.out.2.1.later hbY) HQ.out.2.2))
          have cvV := (hbY.cell (p := ⟨g'', v, none⟩) hgl).trans cv
          have fzV := (hbY.frozen (p := ⟨g'', v, none⟩) hgl).trans fz
          have hgV : g'' < ({ W4 with drawn := W4.drawn + 1 } : World).heap.size := hgl
          clear hbY H4 HQ
          generalize ({ W4 with drawn := W4.drawn + 1 } : World) = V at HV HQV cvV fzV hgV ⊢
          clear cv fz cu hgl qf qb lf lb hx hgq
          go_wp2_with fail
          have hgF : g'' < W1.heap.size := HV.out.vfl g'' rfl
          have hgqF := (HQV.out.2.1.lt gq rfl).1
          have hBF := HV.out.lo.2.1
          have hlb5 : (V.setCell ⟨g'', v, none⟩ (.int .i64 (xu + 1))).heap[Bl]? = some (.cells #[.slice (some ⟨gq, oq, none⟩) (r.length + 1) cq] 68 (0, 0)) := blk_set HQV.out.1 (by simp only; omega) _
          have qb5 : (V.setCell ⟨g'', v, none⟩ (.int .i64 (xu + 1))).cell? ⟨Bl, 0, none⟩ = some (.slice (some ⟨gq, oq, none⟩) (r.length + 1) cq) := (blk_cell hlb5 0).trans rfl
          have hoq5 : OwnQ (W1.heap.size + 1) (V.setCell ⟨g'', v, none⟩ (.int .i64 (xu + 1))) (.slice (some ⟨gq, oq, none⟩) (r.length + 1) cq) ((xn : Int) :: r) := HQV.out.2.1.kept fun k hk => Below.heap_setCell _ _ _ _ (by cases hk; simp only; omega)
          have HO5 := Lib.hid hoq5
          have hsz5 : (V.setCell ⟨g'', v, none⟩ (.int .i64 (xu + 1))).heap.size = V.heap.size := by simp [World.setCell]
          have HL5 := Lib.hid hlb5
          have hBV := blk_lt HQV.out.1
          have hmost := HV.out.bfs.most
          simp only [List.length_cons] at hmost
          have hFV := HV.out.lo
          clear hoq5 hlb5
          gi_wp2_with (gi_at_builtin; go_must (refine wpListIn_append_q rfl _ _ rfl (W1.heap.size + 1) _ ((xn : Int) :: r) rfl (HO5.out.later (below_alloc (below_self _) _)) v _ 1 rfl ?c1 ?c2 ?c3 ?_))
          case c1 =>
            have h := cell_one_new (V.setCell ⟨g'', v, none⟩ (.int .i64 (xu + 1))) (.int .i64 v) 3
            rwa [hsz5] at h
          case c2 => simp only [List.length_cons]; omega
          case c3 => simp [World.setCell]; omega
          intro v9 W9 hq9 hg9 hn9
          obtain ⟨g9, o9, c9, he9, h99, hl9⟩ := hq9.slice
          rw [show ((xn : Int) :: (r ++ [(v : Int)])).length = r.length + 1 + 1 by simp] at he9
          subst he9
          have hb9 := grown_blk hg9 (blk_alloc HL5.out (.cells #[.int .i64 v] 3)) (by simp only [Value.ownBlock]; have := (HQV.out.2.2 gq rfl).1; simp; omega)
          have qb9 := blk_cell hb9 0
          have fb9 := blk_frozen hb9 0
          simp at qb9
          have hbl9 := blk_lt hb9
          have HLI := Lib.hid (HV.out.reach HC.out.1 HE.out.1 HE.out.2.1 HE.out.2.2.1 HE.out.2.2.2.2 HE.out.2.2.2.1 hvn (by rw [HX.out.1]; exact hneg) (y := xu + 1) (by rw [HX.out.2]) rfl HQV.out.1 HQV.out.2.2 HQV.out.2.1 hg9 hq9 (fun k hk => (hn9 k hk).imp_right fun h => by simp [World.setCell] at h ⊢; omega))
          clear hq9 hg9 hn9 hb9
          gi_wp2_with fail
          exact ⟨HLI.out.x3, rfl, _, _, HLI.out.put _⟩
        · gi_wp2_with fail
          refine ⟨H4.out.x3, rfl, L, r, (H4.out.pass HE.out.1 fun _ => ?_).put _⟩
          rw [HE.out.2.2.2.1, HX.out.1]
          omega
      case done =>
        rintro x W2 ⟨⟨vv, rfl⟩, ⟨lv', rfl, L', r', h⟩ | h⟩
        · refine ⟨⟨_, rfl⟩, .inl ⟨h.x3, ?_⟩⟩
          have h4 := h.put (rec .exhausted none)
          generalize W2.putObj (w'.heap.size + 3) (rec .exhausted none) = W4 at h4 ⊢
          clear h hround hrec HL HQ HM hBl
          have H4 := Lib.hid h4
          obtain ⟨vq, hlb, hoq, hqb⟩ := h4.line
          obtain ⟨gq', oq', cq', rfl, hx, hoq', hcq', hgq⟩ := hoq.front
          have qb : W4.cell? ⟨Bl, 0, none⟩ = some (.slice (some ⟨gq', oq', none⟩) (r'.length + 1) cq') := (blk_cell hlb 0).trans rfl
          have lb := blk_lt hlb
          have HQ := Lib.hid (And.intro hlb (And.intro hoq' (And.intro hqb hoq)))
          have hr0 : (0 : Int) ≤ (r'.length : Int) := by omega
          have hcI : (r'.length : Int) + 1 ≤ (cq' : Int) := by omega
          have HG := Lib.hid hgq
          clear h4 hlb hoq hqb hoq' hx hgq
          by_cases hc1 : cq' = 1
          · subst hc1
            obtain rfl : r' = [] := List.eq_nil_of_length_eq_zero (by omega)
            gi_wp2_with fail
            have hbn := below_alloc (below_self W4) (.cells #[.slice (some ⟨gq', oq', none⟩) 0 0] 68)
            refine ⟨0 + neg L', by have := H4.out.cnt; simp at this; omega, _, _, _, L', [], ?_, rfl, ?_, rfl⟩
            · rfl
            · have h1 := H4.out.lo
              exact ⟨below_trans H4.out.bel hbn, H4.out.far.later hbn, blk_below H4.out.fb hbn, H4.out.vfl, ⟨_, blk_new _ _, HQ.out.2.2.2.stay.later hbn, fun k hk => by cases hk; simp only; have := HG.out; omega⟩, H4.out.bfs.leave (Nat.le_refl _), (H4.out.mks.later hbn).add (Nat.le_add_right _ _) (by omega) (by simp; omega) (blk_below H4.out.x2 hbn), h1.1, by omega⟩
          · have hc2 : ¬ cq' - 1 = 0 := by omega
            gi_wp2_with fail
            have hbn := below_alloc (below_self W4) (.cells #[.slice (some ⟨gq', oq' + 1, none⟩) r'.length (cq' - 1)] 68)
            refine ⟨r'.length + neg L', by have := H4.out.cnt; omega, _, _, _, L', r', ?_, rfl, ?_, rfl⟩
            · rfl
            · have h1 := H4.out.lo
              exact ⟨below_trans H4.out.bel hbn, H4.out.far.later hbn, blk_below H4.out.fb hbn, H4.out.vfl, ⟨_, blk_new _ _, HQ.out.2.1.later hbn, fun k hk => by cases hk; simp only; have := HG.out; omega⟩, H4.out.bfs.leave (Nat.le_refl _), (H4.out.mks.later hbn).add (Nat.le_add_right _ _) (by omega) (by simp; omega) (blk_below H4.out.x2 hbn), h1.1, by omega⟩
        · exact h.elim
end Go.Proofs.YthlefdbhkbpejaaGreat.F5
