/- Chapter 06: own: what holds between its rounds and at its end. -/
import Derived.Test.YtnpcafhmkjdhaaaRs
import Derived.Deep.AppendLies
namespace Go.Proofs.Ytnpcafhmkjdhaaa
open Go Go.RowKit

def cutI (l : List Int) : List Int := l.take (if 1000 < l.length then 1001 else 60)
def cutN (n : Int) : Int := if 100 < n ∧ n < 1000 then 100 else n
theorem flat_inv (k : Nat) (hk : 0 < k) : ∀ (rows : List (List Value)), (∀ r ∈ rows, r.length = k) → ∀ j u, rows.flatten[j]? = some u → ∃ r, rows[j / k]? = some r ∧ r[j % k]? = some u
  | [], _, j, u, h => by simp at h
  | r :: rs, hr, j, u, h => by
    have hl : r.length = k := hr r (List.mem_cons_self ..)
    rw [List.flatten_cons, List.getElem?_append] at h
    by_cases hj : j < r.length
    · rw [if_pos hj] at h
      rw [hl] at hj
      rw [Nat.div_eq_of_lt hj, Nat.mod_eq_of_lt hj]
      exact ⟨r, rfl, h⟩
    · rw [if_neg hj, hl] at h
      obtain ⟨r', h1, h2⟩ := flat_inv k hk rs (fun q hq => hr q (List.mem_cons_of_mem _ hq)) _ _ h
      have hkj : k ≤ j := by omega
      rw [Nat.div_eq_sub_div hk hkj, Nat.mod_eq_sub_mod hkj]
      exact ⟨r', by simpa using h1, h2⟩
theorem rows_src {n k : Nat} {w : World} {a : Option Addr} {rows : List (List Value)} (hk : 0 < k) (hr : ∀ r ∈ rows, r.length = k) (h : RowsAt n w a k rows) : 0 < rows.length → ∃ ad, a = some ad ∧ ∀ j u, rows.flatten[j]? = some u → w.cell? (ad.add j) = some u := by
  intro h0
  obtain ⟨b, off, rfl, _, _⟩ := h 0 rows[0] (List.getElem?_eq_getElem h0)
  refine ⟨_, rfl, fun j u hu => ?_⟩
  obtain ⟨r, h1, h2⟩ := flat_inv k hk rows hr j u hu
  obtain ⟨b', off', he, _, hc⟩ := h _ _ h1
  injection he with he
  injection he with e1 e2
  subst e1 e2
  have := hc _ _ h2
  rw [Addr.add_mid]
  rw [Nat.add_assoc, Nat.div_add_mod'] at this
  exact this
theorem flatP_len (ps : List Prt) : (flatP ps).length = ps.length * 3 := by
  unfold flatP
  rw [flat_length 3 _ (prts_three ps)]
  simp
theorem flatP_one (ps : List Prt) : ∀ v ∈ flatP ps, v.oneCell' = true := by
  intro v hv
  obtain ⟨r, hr, hv⟩ := List.mem_flatten.1 hv
  obtain ⟨p, _, rfl⟩ := List.mem_map.1 hr
  simp at hv
  rcases hv with rfl | rfl | rfl <;> rfl
theorem own_good {W : World} {base : Nat} {e : TypeId} {k : Nat} {q : Hd} {n : Nat} {zs : List Value} (h : W.ownsRow base e k q.val n zs) : q.2.1 = n ∧ q.good := by
  obtain ⟨a, cap, he, h1, h2⟩ := owns_shape h
  have he' := he
  injection he with e1 e2 e3
  refine ⟨e2, by omega, by omega, fun hn => ?_⟩
  rcases h.2 with ⟨h3, h4⟩ | ⟨g, c, cur, hv, _⟩
  · rw [show q.val = .slice q.1 q.2.1 q.2.2 from rfl] at h3
    injection h3 with _ f2 f3
    exact ⟨f2, f3⟩
  · rw [show q.val = .slice q.1 q.2.1 q.2.2 from rfl, hn] at hv
    cases hv
theorem rows_grown {n k : Nat} {W w1 : World} {a : Option Addr} {rows : List (List Value)} {row : Option Nat} (h : RowsAt n W a k rows) (hg : W.grownBy w1 row) (hn : n ≤ W.heap.size) (hne : ∀ ad, a = some ad → some ad.block ≠ row) : RowsAt n w1 a k rows := by
  intro i r hr
  obtain ⟨b, off, ha, hb, hc⟩ := h i r hr
  have hne' := hne _ ha
  simp only at hne'
  have hh : w1.heap[b]? = W.heap[b]? := by
    have hlt : b < W.heap.size := by omega
    rw [grown_blk hg (Array.getElem?_eq_getElem hlt) hne', Array.getElem?_eq_getElem hlt]
  refine ⟨b, off, ha, hb, fun j v hv => ?_⟩
  have := hc j v hv
  unfold World.cell? at this ⊢
  rw [hh]
  exact this

/-- Between two rounds of own. -/
structure OJ (w : World) (x : Arg) (R : Nat) (p' : Hd) (k : Nat) (av : Option Addr) (cv : Nat) (hs' : List Hd) (X : World) : Prop where
  bel : Below w.heap.size w X
  box : X.heap[w.heap.size]? = some (.cells #[.int .i64 x.carry, .slice p'.1 p'.2.1 p'.2.2, .int .i64 x.start, .slice x.i.1 x.i.2.1 x.i.2.2, .int .i64 x.n, .int .i64 x.tick, .int .i64 x.limit] 52 (0, 0))
  out : X.heap[w.heap.size + 1]? = some (.cells #[.int .i64 0, .slice none 0 0, .int .i64 0, .slice none 0 0, .int .i64 0, .int .i64 0, .int .i64 0] 52 (0, 0))
  pw : X.ownsRow (w.heap.size + 2) 43 3 p'.val (x.ps.take 18).length (flatP (x.ps.take 18))
  pR : ∀ g, p'.val.ownBlock = some g → g < R
  wR : w.heap.size + 2 ≤ R
  RX : R ≤ X.heap.size
  own : X.ownsRow R 32 1 (.slice av k cv) k (hs'.map Hd.val)
  hl : hs'.length = k
  at' : ∀ j, j < k → RowsAt X.heap.size X (hs'.getD j default).1 1 (Ints (cutI (x.ins.getD j default))) ∧ (hs'.getD j default).2.1 = (cutI (x.ins.getD j default)).length ∧ (hs'.getD j default).good ∧
    ∀ ad, (hs'.getD j default).1 = some ad → some ad.block ≠ (Value.slice av k cv).ownBlock ∧ R ≤ ad.block ∧ ad.block < X.heap.size
theorem OJ.drew {w : World} {x : Arg} {R : Nat} {p' : Hd} {k : Nat} {av : Option Addr} {cv : Nat} {hs' : List Hd} {X : World} (h : OJ w x R p' k av cv hs' X) : OJ w x R p' k av cv hs' X.drew :=
  ⟨h.bel.drew, h.box, h.out, h.pw, h.pR, h.wR, h.RX, h.own, h.hl, h.at'⟩
theorem OJ.later {w : World} {x : Arg} {R : Nat} {p' : Hd} {k : Nat} {av : Option Addr} {cv : Nat} {hs' : List Hd} {X X1 : World} (h : OJ w x R p' k av cv hs' X) (hb : Below X.heap.size X X1) : OJ w x R p' k av cv hs' X1 :=
  ⟨below_trans h.bel hb, blk_below h.box hb, blk_below h.out hb, owns_later h.pw hb, h.pR, h.wR, Nat.le_trans h.RX hb.size, owns_later h.own hb, h.hl, fun j hj =>
    let ⟨a1, a2, a3, a4⟩ := h.at' j hj
    ⟨a1.later hb, a2, a3, fun ad hd => let ⟨b1, b2, b3⟩ := a4 ad hd; ⟨b1, b2, Nat.lt_of_lt_of_le b3 hb.size⟩⟩⟩
theorem OJ.cells {w : World} {x : Arg} {R : Nat} {p' : Hd} {k : Nat} {av : Option Addr} {cv : Nat} {hs' : List Hd} {X : World} (h : OJ w x R p' k av cv hs' X) {bi o : Nat} {v : Value} (hi : x.i.1 = some ⟨bi, o, none⟩) {i : Nat} (hb : bi < w.heap.size) (hc : w.cell? ⟨bi, i, none⟩ = some v) :
    X.cell? ⟨w.heap.size, 3, none⟩ = some (.slice (some ⟨bi, o, none⟩) x.i.2.1 x.i.2.2) ∧ X.cell? ⟨bi, i, none⟩ = some v := by
  refine ⟨?_, cell_call h.bel (a := ⟨bi, i, none⟩) hb hc⟩
  rw [blk_cell h.box 3, ← hi]
  rfl
theorem OJ.step {w : World} {x : Arg} {R : Nat} {p' : Hd} {k : Nat} {av : Option Addr} {cv : Nat} {hs' : List Hd} {X X1 w1 : World} {q1 : Hd} {g cap q : Nat} (h : OJ w x R p' k av cv hs' X)
    (hb : Below X.heap.size X X1) (ho : OwnI X.heap.size X1 q1.val (cutI (x.ins.getD k default))) (hg : (X1.alloc (.cells #[q1.val] 32)).grownBy w1 (Value.slice av k cv).ownBlock)
    (hown : w1.ownsRow R 32 1 (.slice (some ⟨g, 0, none⟩) q cap) q (hs'.map Hd.val ++ [q1.val])) (hq : q = k + 1) (hat : (Value.slice av k cv).ownBlock = some g ∨ g = (X1.alloc (.cells #[q1.val] 32)).heap.size) :
    OJ w x R p' (k + 1) (some ⟨g, 0, none⟩) cap (hs' ++ [q1]) w1 := by
  subst hq
  have hs1 : X.heap.size ≤ X1.heap.size := hb.size
  have hbA : Below X.heap.size X (X1.alloc (.cells #[q1.val] 32)) := below_alloc hb _
  have hoA : (X1.alloc (.cells #[q1.val] 32)).ownsRow R 32 1 (.slice av k cv) k (hs'.map Hd.val) := World.ownsRow.alloc (owns_later h.own hb) _
  have hsz := hg.size
  have hRX := h.RX
  have hwR := h.wR
  have hbw : Below w.heap.size w (X1.alloc (.cells #[q1.val] 32)) := below_trans h.bel hbA
  have hown0 := own_lt h.own
  have hszA : (X1.alloc (.cells #[q1.val] 32)).heap.size = X1.heap.size + 1 := by simp
  have keep : ∀ {b : Nat} {o : Obj}, X.heap[b]? = some o → b < R → w1.heap[b]? = some o := fun hx hlt => grown_blk hg (blk_below hx hbA) (own_ne hoA hlt)
  refine ⟨grown_below hbw hoA hg (by omega) (by have := hbw.size; omega), keep h.box (by omega), keep h.out (by omega), ?_, h.pR, h.wR, by omega, by simpa using hown, by simp [h.hl], ?_⟩
  · exact owns_kept h.pw fun g' hg' => by
      have hlt := h.pR g' hg'
      have hlX := own_lt h.pw g' hg'
      rw [keep (Array.getElem?_eq_getElem hlX) hlt, Array.getElem?_eq_getElem hlX]
  · intro j hj
    by_cases hjk : j < k
    · have e : (hs' ++ [q1]).getD j default = hs'.getD j default := by
        rw [List.getD_eq_getElem?_getD, List.getElem?_append_left (by rw [h.hl]; exact hjk), ← List.getD_eq_getElem?_getD]
      rw [e]
      obtain ⟨a1, a2, a3, a4⟩ := h.at' j hjk
      refine ⟨(rows_grown (a1.later hbA) hg (Nat.le_refl _) fun ad hd => (a4 ad hd).1).mono (by omega), a2, a3, fun ad hd => ?_⟩
      obtain ⟨b1, b2, b3⟩ := a4 ad hd
      refine ⟨fun he => ?_, b2, by omega⟩
      have he' : ad.block = g := by simpa [Value.ownBlock] using he
      rcases hat with h1 | h1
      · rw [h1, ← he'] at b1; exact b1 rfl
      · omega
    · have hjk2 : j = k := by omega
      subst hjk2
      have e : (hs' ++ [q1]).getD j default = q1 := by
        rw [List.getD_eq_getElem?_getD, List.getElem?_append_right (by rw [h.hl]; exact Nat.le_refl _), h.hl, Nat.sub_self]
        rfl
      rw [e]
      obtain ⟨r1, r2⟩ := own_rows ho
      have hlo := own_lo ho
      have hup : ∀ ad, q1.1 = some ad → ad.block < X1.heap.size := fun ad hd => own_lt ho _ (by rw [show q1.val = .slice q1.1 q1.2.1 q1.2.2 from rfl, hd]; rfl)
      refine ⟨(rows_grown (r2.later (below_alloc (below_self X1) _)) hg (Nat.le_refl _) fun ad hd he => ?_).mono (by omega), r1, (own_good ho).2, fun ad hd => ⟨fun he => ?_, ?_, ?_⟩⟩
      · have := hown0 _ he.symm
        have := hlo ad hd
        omega
      · have he' : ad.block = g := by simpa [Value.ownBlock] using he
        have := hlo ad hd
        have := hup ad hd
        rcases hat with h1 | h1
        · have := hown0 _ h1; omega
        · omega
      · have := hlo ad hd; omega
      · have := hup ad hd; omega

/-- Arguments of the call's own: every block at or above L. -/
structure OY (w W : World) (y : Arg) (L : Nat) : Prop where
  ok : y.ok W
  bel : Below w.heap.size w W
  p : ∀ ad, y.p.1 = some ad → L ≤ ad.block
  i : ∀ ad, y.i.1 = some ad → L ≤ ad.block
  h : ∀ j, j < y.ins.length → ∀ ad, (y.hs.getD j default).1 = some ad → L ≤ ad.block
theorem OY.set {w W : World} {y : Arg} {L : Nat} (h : OY w W y L) {b o : Nat} (hb : b < L) (hw : w.heap.size ≤ b) (u : Value) : OY w (W.setCell ⟨b, o, none⟩ u) y L := by
  refine ⟨⟨h.ok.pl, h.ok.pg, ?_, h.ok.il, h.ok.ig, ⟨h.ok.ir.len, ?_, ?_⟩, h.ok.hg⟩, h.bel.setCell hw _, h.p, h.i, h.h⟩
  · exact rows_size (rows_far h.ok.pr fun ad hd => by have := h.p ad hd; show b ≠ ad.block; omega)
  · exact rows_size (rows_far h.ok.ir.rows fun ad hd => by have := h.i ad hd; show b ≠ ad.block; omega)
  · intro j hj
    obtain ⟨a1, a2, a3⟩ := h.ok.ir.at' j hj
    exact ⟨a1, a2, rows_size (rows_far a3 fun ad hd => by have := h.h j hj ad hd; show b ≠ ad.block; omega)⟩
theorem OY.set7 {w W : World} {y : Arg} (h : OY w W y (w.heap.size + 2)) (v0 v1 v2 v3 v4 v5 v6 : Value) : OY w (((((((W.setCell ⟨w.heap.size + 1, 0, none⟩ v0).setCell ⟨w.heap.size + 1, 1, none⟩ v1).setCell ⟨w.heap.size + 1, 2, none⟩ v2).setCell ⟨w.heap.size + 1, 3, none⟩ v3).setCell ⟨w.heap.size + 1, 4, none⟩ v4).setCell ⟨w.heap.size + 1, 5, none⟩ v5).setCell ⟨w.heap.size + 1, 6, none⟩ v6) y (w.heap.size + 2) := by
  have l1 : w.heap.size + 1 < w.heap.size + 2 := by omega
  have l2 : w.heap.size ≤ w.heap.size + 1 := by omega
  exact ((((((h.set l1 l2 v0).set l1 l2 v1).set l1 l2 v2).set l1 l2 v3).set l1 l2 v4).set l1 l2 v5).set l1 l2 v6
/-- The result of own. -/
def ownArg (x : Arg) (p' i' : Hd) (hs' : List Hd) : Arg := ⟨x.carry, p', x.ps.take 18, x.start, i', hs', (x.ins.take 18).map cutI, cutN x.n, x.tick, x.limit⟩
theorem OJ.end' {w : World} {x : Arg} {R : Nat} {p' : Hd} {k : Nat} {av : Option Addr} {cv : Nat} {hs' : List Hd} {X : World} (h : OJ w x R p' k av cv hs' X) (hk : k = (x.ins.take 18).length) : OY w X (ownArg x p' (av, k, cv) hs') (w.heap.size + 2) := by
  have hg := own_good h.pw
  have hg2 := own_good (q := (av, k, cv)) h.own
  have hwR := h.wR
  have hgd : ∀ j, j < k → ((x.ins.take 18).map cutI).getD j default = cutI (x.ins.getD j default) := by
    intro j hj
    have hj18 : j < 18 := by rw [hk, List.length_take] at hj; omega
    have hjl : j < x.ins.length := by rw [hk, List.length_take] at hj; omega
    rw [List.getD_eq_getElem?_getD, List.getElem?_map, List.getElem?_take, if_pos hj18, List.getD_eq_getElem?_getD, List.getElem?_eq_getElem hjl]
    rfl
  have hrow : RowsAt X.heap.size X av 1 (Hds hs') := by
    have hl : (Hds hs').length = k := by simp [h.hl]
    have hf : (Hds hs').flatten = hs'.map Hd.val := by
      have := flat1 (hs'.map Hd.val)
      rw [List.map_map] at this
      exact this
    obtain ⟨a, cap, he, hr⟩ := owns_slice (rows := Hds hs') (by rw [hl, hf]; exact h.own) (by intro r hr; obtain ⟨q, _, rfl⟩ := List.mem_map.1 hr; rfl)
    injection he with e1
    rw [e1]; exact hr
  refine ⟨⟨hg.1.symm, hg.2, prts_own rfl h.pw, by simp [ownArg, hk], hg2.2, ⟨?_, hrow, ?_⟩, ?_⟩, h.bel, own_lo h.pw, ?_, ?_⟩
  · show hs'.length = ((x.ins.take 18).map cutI).length
    rw [h.hl, List.length_map, ← hk]
  · intro j hj
    have hj' : j < k := by rw [hk]; simpa [ownArg] using hj
    obtain ⟨a1, a2, a3, _⟩ := h.at' j hj'
    show (((x.ins.take 18).map cutI).getD j default).length = (hs'.getD j default).2.1 ∧ (hs'.getD j default).2.1 ≤ 9223372036854775807 ∧ RowsAt X.heap.size X (hs'.getD j default).1 1 (Ints (((x.ins.take 18).map cutI).getD j default))
    rw [hgd j hj']
    exact ⟨a2.symm, by have h1 := a3.1; have h2 := a3.2.1; unfold maxLen at h2; omega, a1⟩
  · intro j hj
    have hj' : j < k := by rw [hk]; simpa [ownArg] using hj
    exact (h.at' j hj').2.2.1
  · intro ad hd
    have := own_lo (q := (av, k, cv)) h.own ad hd
    omega
  · intro j hj ad hd
    have hj' : j < k := by rw [hk]; simpa [ownArg] using hj
    have := ((h.at' j hj').2.2.2 ad hd).2.1
    omega
end Go.Proofs.Ytnpcafhmkjdhaaa
