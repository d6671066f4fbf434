/- Chapter 14: power.join, and the net in the making. -/
import Derived.Test.YthlefdbhkbpejaaGreatPwC
import Derived.Test.YthlefdbhkbpejaaGreatFArs
import Derived.Test.YthlefdbhkbpejaaGreatRf13C
import Derived.Deep.AppendLies
namespace Go.Proofs.YthlefdbhkbpejaaGreat
open Go Go.RowKit F5
set_option linter.unusedSimpArgs false

/-- What join leaves behind. -/
def Joined (bN : Nat) (av : Option Addr) (q cv m : Nat) (L M : List Ar) (w W' : World) : Prop :=
  ∃ g cap W1, W1.ownsRow (bN + 1) 63 3 (.slice (some ⟨g, 0, none⟩) (q + m) cap) (q + m) (flatA L ++ flatA M) ∧ w.grownBy W1 (Value.slice av q cv).ownBlock ∧ ((Value.slice av q cv).ownBlock = some g ∨ g = w.heap.size) ∧ W' = W1.setCell ⟨bN, 1, none⟩ (.slice (some ⟨g, 0, none⟩) (q + m) cap)

set_option maxHeartbeats 4000000 in
theorem join_ok (bN : Nat) (N : Int) (av : Option Addr) (q cv : Nat) (L : List Ar) (ad : Addr) (m c : Nat) (M : List Ar) (w : World) (hbox : w.heap[bN]? = some (.cells #[.int .i64 N, .slice av q cv] 44 (0, 0))) (hown : OwnA (bN + 1) w av q cv L) (hM : M.length = m) (hm : 0 < m) (hq : q + m ≤ 1000)
    (hsrc : ∀ j u, (flatA M)[j]? = some u → w.cell? (ad.add j) = some u) :
    Calls Tryz.prog 33 #[.pointer (some ⟨bN, 0, none⟩), .slice (some ad) m c] w fun e W' => e = .returned (.tuple #[]) ∧ Joined bN av q cv m L M w W' := by
  have k1 : w.cell? ⟨bN, 1, none⟩ = some (.slice av q cv) := (blk_cell hbox 1).trans rfl
  have kl := blk_lt hbox
  obtain ⟨i0, hi, hz0, hz1, hz2⟩ := info_parts infoA
  have hfl : (flatA M).length = m * 3 := by rw [flatA_len, hM]
  have h63 : q + m ≤ maxLen := by unfold maxLen; omega
  have hby : (q + m) * 24 ≤ 140737488355328 := by omega
  have HH := Lib.hid (And.intro hbox (And.intro hown (And.intro hfl (And.intro hsrc (And.intro (flatA_one M) (And.intro h63 (And.intro hby hm)))))))
  clear hbox hown hM hm hq hsrc hfl h63 hby
  go_enter Tryz.func33, Tryz.ntmps33
  go_wp2_with (at_builtin; go_must (refine wpList_append_lies _ rfl _ _ 42 rfl (bN + 1) 63 i0 _ 3 24 Tryz.underlying42 hi hz0 hz1 hz2 rfl (by decide) _ q (flatA L) rfl HH.out.2.1.1 ad m c (flatA M) rfl HH.out.2.2.1 HH.out.2.2.2.1 HH.out.2.2.2.2.1 HH.out.2.2.2.2.2.2.2 HH.out.2.2.2.2.2.1 HH.out.2.2.2.2.2.2.1 (by omega) w.heap.size rfl ?_))
  intro g cap W1 h1 h2 h3 h4
  have z1 := grown_blk h2 HH.out.1 (own_ne HH.out.2.1.1 (by omega))
  have v1 : W1.cell? ⟨bN, 1, none⟩ = some (.slice av q cv) := (blk_cell z1 1).trans rfl
  have f1 := blk_frozen z1 1
  have lz := blk_lt z1
  have HF := Lib.hid (show Joined bN av q cv m L M w (W1.setCell ⟨bN, 1, none⟩ (.slice (some ⟨g, 0, none⟩) (q + m) cap)) from ⟨g, cap, W1, h1, h2, h3, rfl⟩)
  clear h1 h2 h3 h4 z1 k1 kl hi hz0 hz1 hz2
  go_wp2_with fail
  refine bodyPost_end (v := .tuple #[]) (results_none rfl _ _ _) rfl ⟨rfl, HF.out⟩
theorem blk_set_two {W : World} {k : Nat} {v0 v1 u0 u1 : Value} {t : TypeId} {fr : Nat × Nat} (h : W.heap[k]? = some (.cells #[v0, v1] t fr)) : ((W.setCell ⟨k, 0, none⟩ u0).setCell ⟨k, 1, none⟩ u1).heap[k]? = some (.cells #[u0, u1] t fr) := by
  simp [World.setCell, Array.getElem?_modify, h]
theorem net_info : (Tryz.prog.info? 44).map (·.size) = some 2 := by kernel_rfl

/-- The net in the making: its box, its arcs, the box of the result. -/
structure NJ (w : World) (s : Site) (x : Wish) (v : Wld) (bN : Nat) (N : Int) (av : Option Addr) (q cv : Nat) (L : List Ar) (X : World) : Prop where
  vb : VB w s x v X
  rs : X.heap[w.heap.size + 3]? = some (.cells #[.int .i64 0, .slice none 0 0] 44 (0, 0))
  box : X.heap[bN]? = some (.cells #[.int .i64 N, .slice av q cv] 44 (0, 0))
  own : OwnA (bN + 1) X av q cv L
  lt : w.heap.size + 3 < bN
section
variable {w : World} {s : Site} {x : Wish} {v : Wld} {bN : Nat} {N : Int} {av : Option Addr} {q cv : Nat} {L : List Ar} {X X' : World}
theorem NJ.later (h : NJ w s x v bN N av q cv L X) (hb : Below X.heap.size X X') : NJ w s x v bN N av q cv L X' := ⟨h.vb.later hb, blk_below h.rs hb, blk_below h.box hb, h.own.later hb, h.lt⟩
theorem below_low {n : Nat} {a b c : World} (h : Below n a b) {k : Nat} (hk : n ≤ k) (h2 : Below k b c) : Below n a c := h.trans (h2.mono hk)
theorem VB.low (h : VB w s x v X) {k : Nat} (hk : w.heap.size + 3 < k) (hb : Below k X X') : VB w s x v X' :=
  ⟨(hb.block _ (by omega)).trans h.si, (hb.block _ (by omega)).trans h.wi, (hb.block _ (by omega)).trans h.wo, below_low h.bel (by omega) hb⟩
theorem NJ.grown (h : NJ w s x v bN N av q cv L X) {B : Nat} {v9 : Value} {n9 : Nat} {xs : List Value} (ho : X.ownsRow B 63 3 v9 n9 xs) (hB : bN < B) (hg : X.grownBy X' v9.ownBlock) : Below bN X X' ∧ VB w s x v X' ∧ X'.heap[w.heap.size + 3]? = some (.cells #[.int .i64 0, .slice none 0 0] 44 (0, 0)) ∧ X'.heap[bN]? = some (.cells #[.int .i64 N, .slice av q cv] 44 (0, 0)) := by
  have hb1 : Below bN X X' := ⟨hg.os, hg.tape, hg.output, hg.size, fun k hk => hg.block k (by have := blk_lt h.box; omega) (own_ne ho (by omega))⟩
  exact ⟨hb1, h.vb.low h.lt hb1, (hb1.block _ h.lt).trans h.rs, grown_blk hg h.box (own_ne ho hB)⟩
theorem NJ.join (h : NJ w s x v bN N av q cv L X) {m : Nat} {M : List Ar} (hM : M.length = m) (hj : Joined bN av q cv m L M X X') : ∃ a' c', NJ w s x v bN N a' (q + m) c' (L ++ M) X' ∧ (∀ (B : Nat) (v9 : Value) (n9 : Nat) (xs : List Value), X.ownsRow B 63 3 v9 n9 xs → bN < B → (∀ g, v9.ownBlock = some g → (Value.slice av q cv).ownBlock ≠ some g) → X'.ownsRow B 63 3 v9 n9 xs ∧ ∀ g, v9.ownBlock = some g → (Value.slice a' (q + m) c').ownBlock ≠ some g) := by
  obtain ⟨g, cap, W1, h1, h2, h3, rfl⟩ := hj
  obtain ⟨hb1, hv1, hr1, z1⟩ := h.grown h.own.1 (by omega) h2
  refine ⟨some ⟨g, 0, none⟩, cap, ⟨hv1.low h.lt ((Below.refl bN W1).setCell (p := ⟨bN, 1, none⟩) (Nat.le_refl bN) _), blk_set hr1 (by have := h.lt; simp only; omega) _, by simp [World.setCell, Array.getElem?_modify, z1], ?_, h.lt⟩, fun B v9 n9 xs ho hB hne => ⟨?_, fun g9 hg9 => ?_⟩⟩
  · refine ⟨owns_set (by rw [flatA_app]; exact h1) (by simp) _, by rw [List.length_append, hM, h.own.2.1], fun e => by cases e⟩
  · refine owns_set (ho.kept h2 ?_) (by simpa using hB) _
    cases hv : v9.ownBlock with
    | none => exact .inl rfl
    | some g9 => exact .inr fun e => hne g9 hv e.symm
  · have hlt := (ho.lt g9 hg9).2
    show some g ≠ some g9
    intro e
    cases e
    rcases h3 with h3 | h3
    · exact hne _ hg9 h3
    · omega
/-- And the list of the last arcs. -/
structure NK (w : World) (s : Site) (x : Wish) (v : Wld) (bN : Nat) (N : Int) (av : Option Addr) (q cv : Nat) (L : List Ar) (sa : Option Addr) (p sc : Nat) (S : List Ar) (X : World) : Prop where
  nj : NJ w s x v bN N av q cv L X
  snk : OwnA (bN + 1) X sa p sc S
  ne : ∀ g, (Value.slice sa p sc).ownBlock = some g → (Value.slice av q cv).ownBlock ≠ some g
variable {sa : Option Addr} {p sc : Nat} {S : List Ar}
theorem NK.later (h : NK w s x v bN N av q cv L sa p sc S X) (hb : Below X.heap.size X X') : NK w s x v bN N av q cv L sa p sc S X' := ⟨h.nj.later hb, h.snk.later hb, h.ne⟩
theorem NK.join (h : NK w s x v bN N av q cv L sa p sc S X) {m : Nat} {M : List Ar} (hM : M.length = m) (hj : Joined bN av q cv m L M X X') : ∃ a' c', NK w s x v bN N a' (q + m) c' (L ++ M) sa p sc S X' := by
  obtain ⟨a', c', hn, hk⟩ := h.nj.join hM hj
  obtain ⟨ho, hne⟩ := hk (bN + 1) _ _ _ h.snk.1 (by omega) h.ne
  exact ⟨a', c', hn, ⟨ho, h.snk.2⟩, hne⟩
theorem NK.app (h : NK w s x v bN N av q cv L sa p sc S X) {z : Ar} {g c' : Nat} (ho : X'.ownsRow (bN + 1) 63 3 (.slice (some ⟨g, 0, none⟩) (p + 1) c') (p + 1) (flatA S ++ flatA [z])) (hg : X.grownBy X' (Value.slice sa p sc).ownBlock) (h3 : (Value.slice sa p sc).ownBlock = some g ∨ g = X.heap.size) :
    NK w s x v bN N av q cv L (some ⟨g, 0, none⟩) (p + 1) c' (S ++ [z]) X' := by
  obtain ⟨hb1, hv1, hr1, z1⟩ := h.nj.grown h.snk.1 (by omega) hg
  refine ⟨⟨hv1, hr1, z1, ⟨h.nj.own.1.kept hg ?_, h.nj.own.2⟩, h.nj.lt⟩, ⟨by rw [flatA_app]; exact ho, by rw [List.length_append, h.snk.2.1]; rfl, fun e => by cases e⟩, fun g9 hg9 e => ?_⟩
  · cases hv : (Value.slice av q cv).ownBlock with
    | none => exact .inl rfl
    | some g9 => exact .inr fun e => h.ne g9 e.symm hv
  · have e9 : g9 = g := by cases hg9; rfl
    subst e9
    rcases h3 with h3 | h3
    · exact h.ne _ h3 e
    · have := (h.nj.own.1.lt _ e).2
      omega
end
theorem own_at {base : Nat} {w : World} {a : Option Addr} {m c : Nat} {l : List Ar} (h : OwnA base w a m c l) (hm : 0 < m) : ∃ g, a = some ⟨g, 0, none⟩ := by
  rcases h.1.2 with ⟨_, h0⟩ | ⟨g, cap, cur, hv, _⟩
  · omega
  · cases hv; exact ⟨g, rfl⟩
theorem a1_succ (P : Pn) (k : Nat) : P.a1 (k + 1) = P.a1 k ++ [⟨0, 2 + k, P.lf k⟩] := by simp [Pn.a1, List.range_succ]
theorem a2_succ (P : Pn) (k : Nat) : P.a2 (k + 1) = P.a2 k ++ [⟨2 + P.bf k, 2 + P.nf + k, P.lb k⟩] := by simp [Pn.a2, List.range_succ]
theorem a3_succ (P : Pn) (k : Nat) : P.a3 (k + 1) = P.a3 k ++ [⟨2 + P.nf + P.rb k, 2 + P.nf + P.nb + k, P.ld k⟩] := by simp [Pn.a3, List.range_succ]
theorem a4_succ (P : Pn) (k : Nat) : P.a4 (k + 1) = P.a4 k ++ [⟨2 + P.nf + P.nb + k, 1, P.ld k⟩] := by simp [Pn.a4, List.range_succ]
theorem a4_len (P : Pn) (k : Nat) : (P.a4 k).length = k := by simp [Pn.a4]
end Go.Proofs.YthlefdbhkbpejaaGreat
