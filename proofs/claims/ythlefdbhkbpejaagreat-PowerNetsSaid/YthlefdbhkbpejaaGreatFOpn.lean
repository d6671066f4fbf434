/- Chapter 05: the edges that leave a node: open, its iterator. -/
import Derived.RangeFuncCalls
import Derived.OrdersIn
import Derived.StillTail
import Derived.StillTailTactics
import Derived.Deep.RegionLaw
import Derived.BigQuiet
import Derived.Deep.AppendLies
import Derived.Test.YthlefdbhkbpejaaGreatBase
import Derived.Test.YthlefdbhkbpejaaGreatFRst
import Derived.Shelf.Abstract
import Derived.Shelf.RegionOpen
import Derived.OwnWalkIn
import Derived.TacticsInMore
import Derived.LoopNIn
import Derived.LoopIn
import Derived.RangeFuncLeaves
import Derived.RangeFuncBox
import Derived.Maps.OwnIn
import Derived.Laws.EntriesVeiled
namespace Go.Proofs.YthlefdbhkbpejaaGreat.F5
open Go

theorem wpOpIn_round {P : Program} {ops : Array Oper} {Q : Exit → Act → World → Prop} {i : Nat} {K : Act → World → Prop} {a : Act} {w : World} (l : Nat)
    (hd : ∀ (i : Nat) (o : Oper) (c : Call), ops[i]? = some o → o.op ≠ .defer c) (hL : ¬ LetsOut Q) (h : wpOp P ops Q i K a w) : wpOpIn (Fence.wide.inRound l) 0 P ops Q i K a w := by
  unfold wpOpIn
  unfold wpOp at h
  cases ho : ops[i]? with
  | none => rw [ho] at h; exact h
  | some o =>
    rw [ho] at h
    simp only at h ⊢
    split
    · rename_i hw
      rw [if_pos hw] at h
      rcases h with h | h
      · refine ⟨fun _ _ => trivial, ?_⟩
        have e : o.semAt (Fence.wide.inRound l).round a.eval = execOp a.eval o := Oper.semAt_eq _ _ _ (fun c => hd i o c ho)
        rw [e]
        unfold Oper.wp at h
        generalize (execOp a.eval o).run P w = r at h
        cases r with
        | ok x w' =>
          cases x with
          | value v => exact h
          | skip => exact h
          | defer d => exact h
          | enter f args => exact ⟨fun hd => by simp [Fence.wide] at hd, CallsIn.inRound l (callsIn_wide.2 h)⟩
          | row row args => exact ⟨fun hd => by simp [Fence.wide] at hd, fun c cs _ => let ⟨v, w'', r, s⟩ := h c cs; ⟨v, w'', r, stepsIn_wide.2 s⟩⟩
          | _ => exact h.elim
        | halt x w' =>
          cases x <;> exact h
      · exact absurd h.2 hL
    · rename_i hw
      rw [if_neg hw] at h
      exact ⟨fun _ _ => trivial, h⟩

theorem wpAnyIn_round {P : Program} {md : Region.Mode} {ops : Array Oper} {Q : Exit → Act → World → Prop} (l : Nat) (hd : ∀ (i : Nat) (o : Oper) (c : Call), ops[i]? = some o → o.op ≠ .defer c) (hL : ¬ LetsOut Q) :
    ∀ (fuel : Nat) (listed : Array Bool) (a : Act) (w : World), wpAny P md ops Q fuel listed a w → wpAnyIn (Fence.wide.inRound l) 0 P md ops Q fuel listed a w
  | 0, _, _, _, h => h
  | fuel + 1, _, _, _, h => ⟨h.1, fun i hi => wpOpIn_mono (fun a' w' h' => wpAnyIn_round l hd hL fuel _ a' w' h') (wpOpIn_round l hd hL (h.2 i hi))⟩

def noDefer (ops : List Oper) : Bool := ops.all fun o => match o.op with | .defer _ => false | _ => true
theorem noDefer_spec {ops : List Oper} (h : noDefer ops = true) : ∀ (i : Nat) (o : Oper) (c : Call), ops.toArray[i]? = some o → o.op ≠ .defer c := by
  intro i o c ho hc
  have hm : o ∈ ops := by
    have : ops[i]? = some o := by simpa using ho
    exact List.mem_of_getElem? this
  have := List.all_eq_true.1 h o hm
  rw [hc] at this
  cases this

/-- A region that draws its order and only reads, in a round. -/
theorem wpIn_region_quiet {P : Program} {id : Nat} {Q : Exit → Act → World → Prop} {a : Act} {w : World} {l : List Oper} {rl : Nat} (hm : P.follows .mixedOrders = true) (hB : Region.lexB .any l.toArray = true) (hd : noDefer l = true) (hL : ¬ LetsOut Q)
    (h : wpQuiet P l.toArray (fun w' => ∃ n, w' = w.drewN n) (fun a' => ∀ w', (∃ n, w' = w.drewN n) → Q .normal a' w') l a) : (Code.region id l.toArray true).wpIn (Fence.wide.inRound rl) 0 P Q a w := by
  simp only [Region.lexB, Bool.and_eq_true] at hB
  refine wpIn_region_any hm (wpAnyIn_round rl (noDefer_spec hd) hL _ _ _ _ (wpAny_of_quiet (C := fun w' => ∃ n, w' = w.drewN n) (Q := fun a' => ∀ w', (∃ n, w' = w.drewN n) → Q .normal a' w') (fun _ w' hw' h => h w' hw') _ _ _ _ ⟨1, rfl⟩ ?_))
  have := wpAnyQ_lex (C := fun w' => ∃ n, w' = w.drewN n) (md := .any) hB.1 l 0 (Array.replicate l.toArray.size false) a (by simp) (by simpa using hB.2) h
  simpa using this
theorem wpIn_region_still_tail {P : Program} {id : Nat} {Q : Exit → Act → World → Prop} {a : Act} {w : World} {l : List Oper} {rl : Nat} (n : Nat) (hm : P.follows .mixedOrders = true) (hB : Region.lexTailB .any l.toArray n = true) (hd : noDefer l = true) (hL : ¬ LetsOut Q)
    (h : wpStill P l.toArray { w with drawn := w.drawn + 1 } (fun a' => wpList P l.toArray Q (l.drop n) a' { w with drawn := w.drawn + 1 }) (l.take n) a) : (Code.region id l.toArray true).wpIn (Fence.wide.inRound rl) 0 P Q a w := by
  simp only [Region.lexTailB, Bool.and_eq_true, decide_eq_true_eq] at hB
  obtain ⟨⟨⟨⟨hsel, hn⟩, hs⟩, hc⟩, hlex⟩ := hB
  have hn' : n < l.length := by simpa using hn
  have htl : (l.take n).length = n := by simp; omega
  have hdl : (l.drop n).length = l.toArray.size - n := by simp
  have inv0 : HeadInv .any l.toArray n (Array.replicate l.toArray.size false) :=
    ⟨by simp, fun j oj _ hl => (by rw [getD_replicate_false] at hl; cases hl), fun t _ ht => getD_in (by simpa using ht) (getD_replicate_false _ _)⟩
  have H := wpAnyL_lex (md := .any) (g := l.toArray.size - n) hsel hs hc hn (l.take n) 0 _ a (fun j hj => by
    have hj' : j < n := by rw [htl] at hj; exact hj
    simp [hj']) (by simpa using htl) inv0 (by rw [htl]; exact hlex) h
  refine wpIn_region_any hm (wpAnyIn_round rl (noDefer_spec hd) hL _ _ _ _ ?_)
  have := wpAny_of_head (Q' := Q) (g := l.toArray.size - n) (fun listed a' hL => by
    have := wpAny_of_seq (md := .any) (Q' := Q) (l.drop n) n listed a' { w with drawn := w.drawn + 1 } (fun j => by simp [List.getElem?_drop]) (by rw [hdl]; exact hL.1) hL.2
    rwa [hdl] at this) _ _ _ H
  rw [htl, show n + (l.toArray.size - n) = l.toArray.size by omega] at this
  exact this

end Go.Proofs.YthlefdbhkbpejaaGreat.F5

namespace Go.Proofs.YthlefdbhkbpejaaGreat.F5
open Go Go.RowKit

/-- The rest, the levels, the boxes that send's closure holds: t, the rest's pointer, the levels, send itself. H: all lies below. -/
structure Snd (H B : Nat) (l : List Ar) (n p : Nat) (vt vl va : Value) (rows : List Value) (bt bx bf bs : Nat) (t : Int) (vf : Value) (lv L : List Int) (W : World) : Prop where
  rst : Rst B l n p vt vl va rows lv W
  far : OwnI B W vf L
  len : L.length = n
  tb : W.heap[bt]? = some (.cells #[.int .i64 t] 3 (0, 0))
  xb : W.heap[bx]? = some (.cells #[.pointer (some ⟨p, 0, none⟩)] 91 (0, 0))
  fb : W.heap[bf]? = some (.cells #[vf] 68 (0, 0))
  sb : W.heap[bs]? = some (.cells #[.func (.func 93) #[] #[.pointer (some ⟨bt, 0, none⟩), .pointer (some ⟨bx, 0, none⟩), .pointer (some ⟨bf, 0, none⟩), .pointer (some ⟨bs, 0, none⟩)]] 93 (0, 0))
  sf : ∀ g, vf.ownBlock = some g → Apart n p vt va rows g ∧ vl.ownBlock ≠ some g ∧ g ≠ bt ∧ g ≠ bx ∧ g ≠ bf ∧ g ≠ bs ∧ g < H
  sl : ∀ g, vl.ownBlock = some g → g ≠ bt ∧ g ≠ bx ∧ g ≠ bf ∧ g ≠ bs ∧ g < H
  hi : p < H ∧ bt < H ∧ bx < H ∧ bf < H ∧ bs < H
  ho : ∀ g, (vt.ownBlock = some g ∨ va.ownBlock = some g ∨ ∃ u, u < n ∧ (rows.getD u (.slice none 0 0)).ownBlock = some g) → g < H
section
variable {H B : Nat} {l : List Ar} {n p : Nat} {vt vl va : Value} {rows : List Value} {bt bx bf bs : Nat} {t : Int} {vf : Value} {lv L lv' L' : List Int} {W W' : World}
theorem Snd.frm (h : Snd H B l n p vt vl va rows bt bx bf bs t vf lv L W) {K : Nat} (hf : Frm K vl.ownBlock vf.ownBlock W W') (hH : W.heap.size ≤ K) (hl : OwnI B W' vl lv') (hfr : OwnI B W' vf L') (hn : L'.length = n) : Snd H B l n p vt vl va rows bt bx bf bs t vf lv' L' W' := by
  have h1 : ∀ (q : Nat) (o : Obj), W.heap[q]? = some o → (∀ g, vl.ownBlock = some g → g ≠ q) → (∀ g, vf.ownBlock = some g → g ≠ q) → W'.heap[q]? = some o := fun q o hq a b =>
    hf.blk hq (Nat.lt_of_lt_of_le (blk_lt hq) hH) (fun e => a q e.symm rfl) (fun e => b q e.symm rfl)
  exact ⟨h.rst.frm hf hH h.rst.sep (fun g hg => (h.sf g hg).1) hl, hfr, hn,
    h1 _ _ h.tb (fun g hg => (h.sl g hg).1) (fun g hg => (h.sf g hg).2.2.1), h1 _ _ h.xb (fun g hg => (h.sl g hg).2.1) (fun g hg => (h.sf g hg).2.2.2.1),
    h1 _ _ h.fb (fun g hg => (h.sl g hg).2.2.1) (fun g hg => (h.sf g hg).2.2.2.2.1), h1 _ _ h.sb (fun g hg => (h.sl g hg).2.2.2.1) (fun g hg => (h.sf g hg).2.2.2.2.2.1), h.sf, h.sl, h.hi, h.ho⟩
theorem Snd.later (h : Snd H B l n p vt vl va rows bt bx bf bs t vf lv L W) (hb : Below W.heap.size W W') : Snd H B l n p vt vl va rows bt bx bf bs t vf lv L W' :=
  h.frm (Frm.of hb) (Nat.le_refl _) (h.rst.lf.later hb) (h.far.later hb) h.len
/-- A block beyond is turned. -/
theorem Snd.out (h : Snd H B l n p vt vl va rows bt bx bf bs t vf lv L W) (hb : Below H W W') : Snd H B l n p vt vl va rows bt bx bf bs t vf lv L W' := by
  have ho : ∀ {v : Value} {e : TypeId} {k m : Nat} {xs : List Value}, W.ownsRow B e k v m xs → (∀ g, v.ownBlock = some g → g < H) → W'.ownsRow B e k v m xs := fun ho hg => owns_kept ho fun g hv => hb.block g (hg g hv)
  exact ⟨⟨(hb.block _ h.hi.1).trans h.rst.blk, ho h.rst.to (fun g hg => h.ho g (.inl hg)), ho h.rst.lf (fun g hg => (h.sl g hg).2.2.2.2), ho h.rst.ats (fun g hg => h.ho g (.inr (.inl hg))), fun u hu => ho (h.rst.row u hu) (fun g hg => h.ho g (.inr (.inr ⟨u, hu, hg⟩))), h.rst.sep⟩,
    ho h.far (fun g hg => (h.sf g hg).2.2.2.2.2.2), h.len, (hb.block _ h.hi.2.1).trans h.tb, (hb.block _ h.hi.2.2.1).trans h.xb, (hb.block _ h.hi.2.2.2.1).trans h.fb, (hb.block _ h.hi.2.2.2.2).trans h.sb, h.sf, h.sl, h.hi, h.ho⟩
theorem Snd.put (h : Snd H B l n p vt vl va rows bt bx bf bs t vf lv L W) {q : Nat} (hq : H ≤ q) (o : Obj) : Snd H B l n p vt vl va rows bt bx bf bs t vf lv L (W.putObj q o) := h.out (below_put (Below.refl H W) hq o)
theorem Snd.set (h : Snd H B l n p vt vl va rows bt bx bf bs t vf lv L W) {a : Addr} (hq : H ≤ a.block) (v : Value) : Snd H B l n p vt vl va rows bt bx bf bs t vf lv L (W.setCell a v) := h.out ((Below.refl H W).setCell hq v)
/-- A store into what is left. -/
theorem Snd.left (h : Snd H B l n p vt vl va rows bt bx bf bs t vf lv L W) {g c : Nat} (hv : vl = .slice (some ⟨g, 0, none⟩) lv.length c) (e : Nat) (y : Int) : Snd H B l n p vt vl va rows bt bx bf bs t vf (lv.set e y) L (W.setCell ⟨g, e, none⟩ (.int .i64 y)) := by
  have hg : vl.ownBlock = some g := by rw [hv]; rfl
  have hl := h.rst.lf
  refine h.frm (K := W.heap.size) ((Frm.refl _ _ _ W).set (.inr (.inl hg.symm)) _) (Nat.le_refl _) ?_ ?_ h.len
  · rw [hv] at hl ⊢
    exact hl.put e y
  · exact owns_set_ne h.far (fun e => (h.sf g e.symm).2.1 hg) _
/-- A store into the levels. -/
theorem Snd.lev (h : Snd H B l n p vt vl va rows bt bx bf bs t vf lv L W) {g c : Nat} (hv : vf = .slice (some ⟨g, 0, none⟩) L.length c) (e : Nat) (y : Int) : Snd H B l n p vt vl va rows bt bx bf bs t vf lv (L.set e y) (W.setCell ⟨g, e, none⟩ (.int .i64 y)) := by
  have hg : vf.ownBlock = some g := by rw [hv]; rfl
  have hl := h.far
  refine h.frm (K := W.heap.size) ((Frm.refl _ _ _ W).set (.inr (.inr hg.symm)) _) (Nat.le_refl _) ?_ ?_ (by rw [List.length_set]; exact h.len)
  · exact owns_set_ne h.rst.lf (fun e => (h.sf g hg).2.1 e.symm) _
  · rw [hv] at hl ⊢
    exact hl.put e y
end

/-- The boxes of a call of send: u, most, the result, what is sent, open's two, the marks, the loop's record. -/
structure SB (b p : Nat) (u most r k : Int) (o : Obj) (W : World) : Prop where
  bu : W.heap[b]? = some (.cells #[.int .i64 u] 3 (0, 0))
  bm : W.heap[b + 1]? = some (.cells #[.int .i64 most] 3 (0, 0))
  br : W.heap[b + 2]? = some (.cells #[.int .i64 r] 3 (0, 0))
  bk : W.heap[b + 3]? = some (.cells #[.int .i64 k] 3 (0, 0))
  bx : W.heap[b + 4]? = some (.cells #[.pointer (some ⟨p, 0, none⟩)] 91 (0, 0))
  bv : W.heap[b + 5]? = some (.cells #[.int .i64 u] 3 (0, 0))
  bd : W.heap[b + 6]? = some (.deferred (some []))
  bo : W.heap[b + 7]? = some o
section
variable {b p : Nat} {u most r k : Int} {o : Obj} {W W' : World}
theorem SB.frm (h : SB b p u most r k o W) {g1 g2 : Option Nat} {K : Nat} (hf : Frm K g1 g2 W W') (hH : W.heap.size ≤ K) (h1 : ∀ g, g1 = some g → g < b) (h2 : ∀ g, g2 = some g → g < b) : SB b p u most r k o W' := by
  have q : ∀ (q : Nat) (o : Obj), W.heap[q]? = some o → b ≤ q → W'.heap[q]? = some o := fun q o hq hb =>
    hf.blk hq (Nat.lt_of_lt_of_le (blk_lt hq) hH) (fun e => by have := h1 q e.symm; omega) (fun e => by have := h2 q e.symm; omega)
  exact ⟨q _ _ h.bu (by omega), q _ _ h.bm (by omega), q _ _ h.br (by omega), q _ _ h.bk (by omega), q _ _ h.bx (by omega), q _ _ h.bv (by omega), q _ _ h.bd (by omega), q _ _ h.bo (by omega)⟩
theorem SB.later (h : SB b p u most r k o W) (hb : Below W.heap.size W W') : SB b p u most r k o W' := h.frm (Frm.of (g1 := none) (g2 := none) hb) (Nat.le_refl _) (fun _ e => by cases e) (fun _ e => by cases e)
theorem SB.set (h : SB b p u most r k o W) {a : Addr} (ha : a.block < b) (y : Value) : SB b p u most r k o (W.setCell a y) :=
  ⟨blk_set h.bu (by omega) _, blk_set h.bm (by omega) _, blk_set h.br (by omega) _, blk_set h.bk (by omega) _, blk_set h.bx (by omega) _, blk_set h.bv (by omega) _, blk_set h.bd (by omega) _, blk_set h.bo (by omega) _⟩
theorem SB.put (h : SB b p u most r k o W) (o' : Obj) : SB b p u most r k o' (W.putObj (b + 7) o') :=
  ⟨blk_put h.bu (by omega), blk_put h.bm (by omega), blk_put h.br (by omega), blk_put h.bk (by omega), blk_put h.bx (by omega), blk_put h.bv (by omega), blk_put h.bd (by omega), World.putObj_heap_same (blk_lt h.bo)⟩
theorem SB.setK (h : SB b p u most r k o W) (k' : Int) : SB b p u most r k' o (W.setCell ⟨b + 3, 0, none⟩ (.int .i64 k')) :=
  ⟨blk_set h.bu (by simp) _, blk_set h.bm (by simp) _, blk_set h.br (by simp) _, blk_set_same h.bk, blk_set h.bx (by simp) _, blk_set h.bv (by simp) _, blk_set h.bd (by simp) _, blk_set h.bo (by simp) _⟩
theorem SB.setR (h : SB b p u most r k o W) (r' : Int) : SB b p u most r' k o (W.setCell ⟨b + 2, 0, none⟩ (.int .i64 r')) :=
  ⟨blk_set h.bu (by simp) _, blk_set h.bm (by simp) _, blk_set_same h.br, blk_set h.bk (by simp) _, blk_set h.bx (by simp) _, blk_set h.bv (by simp) _, blk_set h.bd (by simp) _, blk_set h.bo (by simp) _⟩
end
end Go.Proofs.YthlefdbhkbpejaaGreat.F5

namespace Go.Proofs.YthlefdbhkbpejaaGreat.F5
open Go Go.RowKit Go.Shelf
attribute [local go_sem] Oper.semAt_some

theorem open_ok (p : Nat) (u : Int) (w : World) :
    CallsIn Fence.wide 0 Tryz.prog 94 #[.pointer (some ⟨p, 0, none⟩), .int .i64 u] w fun e W' => e = .returned (.func (.func 116) #[] #[.pointer (some ⟨w.heap.size, 0, none⟩), .pointer (some ⟨w.heap.size + 1, 0, none⟩)]) ∧
      (w.alloc (.cells #[.pointer (some ⟨p, 0, none⟩)] 91)).alloc (.cells #[.int .i64 u] 3) = W' := by
  refine callsIn_wide.2 ?_
  go_enter Tryz.func94, Tryz.ntmps94
  go_wp2_with fail
  go_ret
  exact ⟨rfl, rfl⟩

set_option maxRecDepth 100000 in
set_option maxHeartbeats 1000000 in
theorem open1_ok (lp bx bu : Nat) (B : Nat) (l : List Ar) (n p : Nat) (vt vl va : Value) (rows : List Value) (u : Nat) (hu : u < n) (hl : l.length ≤ 128) (hne : ∀ a ∈ l, a.u ≠ a.v) (J : Nat → List Int → World → Prop) (S : World → Prop)
    (hread : ∀ j lv W, J j lv W → Rst B l n p vt vl va rows lv W ∧ lv.length = 2 * l.length ∧ W.cell? ⟨bx, 0, none⟩ = some (.pointer (some ⟨p, 0, none⟩)) ∧ W.cell? ⟨bu, 0, none⟩ = some (.int .i64 u))
    (htick : ∀ j lv W W', J j lv W → Below W.heap.size W W' → J j lv W')
    (hskip : ∀ j lv W (e : Nat), J j lv W → j < (atL l u l.length).length → (atL l u l.length).getD j default = e → e < 2 * l.length → ¬ 0 < lv.getD e default → J (j + 1) lv W)
    (hY : ∀ j lv W (e : Nat), J j lv W → j < (atL l u l.length).length → (atL l u l.length).getD j default = e → e < 2 * l.length → tl l e = u → 0 < lv.getD e default →
      YieldAt Fence.wide 0 Tryz.prog lp #[.int .i64 e, .int .i64 (hd l e)] W fun x W' => ∃ c, x = .returned (.bool c) ∧ (if c = true then ∃ lv', J (j + 1) lv' W' else S W'))
    (W : World) (lv0 : List Int) (h0 : J 0 lv0 W) :
    CallsIn Fence.wide 0 Tryz.prog 116 #[.func (.yield lp) #[] #[], .pointer (some ⟨bx, 0, none⟩), .pointer (some ⟨bu, 0, none⟩)] W fun e W' => (∃ v, e = .returned v) ∧ ((∃ lv', J (atL l u l.length).length lv' W') ∨ S W') := by
  have hlen := atL_len l u hne l.length (Nat.le_refl _)
  have hmem : ∀ j, j < (atL l u l.length).length → ∃ e : Nat, (atL l u l.length).getD j default = e ∧ e < 2 * l.length ∧ tl l e = u := fun j hj =>
    atL_mem (by rw [List.getD_eq_getElem?_getD, List.getElem?_eq_getElem hj]; exact List.getElem_mem hj)
  have Hmem := Lib.hid hmem; clear hmem
  have Hread := Lib.hid hread; clear hread
  have Htick := Lib.hid htick; clear htick
  have Hskip := Lib.hid hskip; clear hskip
  have HY := Lib.hid hY; clear hY
  have H0 := Lib.hid h0; clear h0
  obtain ⟨hR, _, hx, hb⟩ := Hread.out 0 lv0 W H0.out
  obtain ⟨g, cg, hva, hrow, a, c, hrv, hes⟩ := hR.edges hu
  have q2 := blk_cell hR.blk 2
  have HE := Lib.hid (hes : RowsAt W.heap.size W a 1 (Ints (atL l u l.length)))
  obtain ⟨L, hL⟩ : ∃ L, (atL l u l.length).length = L := ⟨_, rfl⟩
  rw [hL] at hrv hlen
  simp only [hva] at q2
  rw [hrv] at hrow
  simp at q2
  have HL := Lib.hid hL
  have hpl := blk_lt hR.blk
  have huI : (u : Int) < (n : Int) := by omega
  have Hrl := Lib.hid (And.intro hva (And.intro hrow hrv))
  clear hR hes hva hrv hL hne
  refine callsIn_of_wp Tryz.func116 rfl trivial ?_ rfl
  simp only [Tryz.ntmps116, List.size_toArray, List.length_cons, List.length_nil, Nat.reduceAdd, Nat.reduceSub, Array.replicate_succ, Array.replicate_zero, List.push_toArray, List.append_toArray, List.nil_append, List.cons_append]
  gi_wp2_with fail
  refine wpIn_wide.2 ?_
  go_quiet (fail)
  have H0' := Lib.hid (Htick.out 0 lv0 W _ H0.out (below_drewN (below_self W) nq))
  generalize hV : W.drewN nq = V at H0' ⊢
  clear hV hx hb hrow q2 hpl huI
  gi_wp2_with fail
  gi_loopw [14] (fun i wr => ∃ (k : Nat) (lv : List Int), k ≤ L ∧ i = .int .i64 k ∧ J k lv wr) (fun i _ => L - (intOf i).toNat)
  case atStart => exact ⟨0, lv0, Nat.zero_le _, rfl, H0'.out⟩
  case round =>
    obtain ⟨k, lv, hk, rfl, hJs⟩ := hrel
    have HJ := Lib.hid hJs; clear hJs
    clear H0 H0'
    by_cases hlt : k < L
    · obtain ⟨e, he, hel, het⟩ := Hmem.out k (by rw [HL.out]; exact hlt)
      obtain ⟨hR, hlv, hx, hb⟩ := Hread.out k lv wr HJ.out
      obtain ⟨g', cg', hva', hrow', a', c', hrv', hes'⟩ := hR.edges hu
      have hav : a' = a := by have h := hrv'.symm.trans Hrl.out.2.2; injection h
      subst hav
      obtain ⟨b1, o1, hq1, hb1, c1⟩ := ints_at hes' k (by rw [HL.out]; exact hlt)
      subst hq1
      rw [he] at c1
      have q0 := blk_cell hR.blk 0
      have q1 := blk_cell hR.blk 1
      have hpl := blk_lt hR.blk
      obtain ⟨g1, n1, hvl, _, hg1, d1, _⟩ := hR.lf.at (e := e) (by rw [hlv]; exact hel)
      obtain ⟨g0, n0, hvt, _, hg0, d0, _⟩ := hR.to.at (e := e) (by rw [toL_len]; exact hel)
      rw [hlv] at hvl
      rw [toL_len] at hvt
      rw [toL_at hel] at d0
      simp [hvl] at q1
      simp [hvt] at q0
      have heI : (e : Int) < ((2 * l.length : Nat) : Int) := by omega
      have heI' : (e : Int) < 2 * (l.length : Int) := by omega
      have hltI : (k : Int) < (L : Int) := by omega
      obtain ⟨z, hz⟩ : ∃ z, lv.getD e default = z := ⟨_, rfl⟩
      obtain ⟨v, hv⟩ : ∃ v, hd l e = v := ⟨_, rfl⟩
      rw [hz] at d1
      rw [hv] at d0
      have HE2 := Lib.hid (And.intro he (And.intro hel (And.intro het hz)))
      clear hR hva' hrow' hrv' hes' hvl hvt he hel het
      by_cases hz0 : 0 < z
      · have hy0 := HY.out k lv wr e HJ.out (by rw [HL.out]; exact hlt) HE2.out.1 HE2.out.2.1 HE2.out.2.2.1 (by rw [hz]; exact hz0)
        rw [hv] at hy0
        obtain ⟨fn, tmps, assign, body, hy, hR⟩ := hy0
        have HR := Lib.hid hR; clear hR hz hv hlv
        gi_wp2_with fail
        refine HR.out.mono ?_
        rintro x W3 ⟨c, rfl, hJ3⟩
        have HJ3 := Lib.hid hJ3; clear hJ3
        clear hy HR q0 q1 d0 d1 hx hb c1
        cases c
        · gi_wp2_with fail
          refine bodyPost_ret (results_none rfl _ _ _) rfl ?_
          exact ⟨⟨_, rfl⟩, .inr (by simpa using HJ3.out)⟩
        · obtain ⟨lv', h3⟩ := (by simpa using HJ3.out : ∃ lv', J (k + 1) lv' W3)
          have H3 := Lib.hid h3
          clear h3 HJ3
          gi_wp2_with fail
          go_roundw
          case rel => exact ⟨k + 1, lv', by omega, by simp, H3.out⟩
          case measure => simp [intOf]; omega
      · have H3 := Lib.hid (Hskip.out k lv wr e HJ.out (by rw [HL.out]; exact hlt) HE2.out.1 HE2.out.2.1 (by rw [hz]; omega))
        clear hz hv
        gi_wp2_with fail
        go_roundw
        case rel => exact ⟨k + 1, lv, by omega, by simp, H3.out⟩
        case measure => simp [intOf]; omega
    · have hkn : k = L := by omega
      subst hkn
      have hltI : ¬ (k : Int) < (k : Int) := by omega
      gi_wp2_with fail
      go_end0
      exact ⟨⟨_, rfl⟩, .inl ⟨lv, by rw [HL.out]; exact HJ.out⟩⟩
end Go.Proofs.YthlefdbhkbpejaaGreat.F5
