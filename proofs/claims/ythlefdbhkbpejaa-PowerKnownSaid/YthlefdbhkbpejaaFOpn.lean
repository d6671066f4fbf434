/- Chapter 05: the edges that leave a node: open, its iterator. -/
import Derived.Shelf.Abstract
import Derived.Shelf.RegionOpen
import Derived.OwnWalkIn
import Derived.TacticsInMore
import Derived.LoopNIn
import Derived.LoopIn
import Derived.RangeFuncLeaves
import Derived.RangeFuncBox
import Derived.Maps.OwnIn
import Derived.Laws.EntriesVeiled
import Derived.Test.YthlefdbhkbpejaaFRst
namespace Go.Proofs.Ythlefdbhkbpejaa.F5
open Go Go.RowKit Go.Shelf
attribute [local go_sem] Oper.semAt_some

theorem open_ok (p : Nat) (u : Int) (w : World) :
    CallsIn Fence.wide 0 Try.prog 80 #[.pointer (some ⟨p, 0, none⟩), .int .i64 u] w fun e W' => e = .returned (.func (.func 99) #[] #[.pointer (some ⟨w.heap.size, 0, none⟩), .pointer (some ⟨w.heap.size + 1, 0, none⟩)]) ∧
      (w.alloc (.cells #[.pointer (some ⟨p, 0, none⟩)] 91)).alloc (.cells #[.int .i64 u] 3) = W' := by
  refine callsIn_wide.2 ?_
  go_enter Try.func80, Try.ntmps80
  go_wp2_with fail
  go_ret
  exact ⟨rfl, rfl⟩

set_option maxRecDepth 100000 in
set_option maxHeartbeats 1000000 in
theorem open1_ok (lp bx bu : Nat) (B : Nat) (l : List Ar) (n p : Nat) (vt vl va : Value) (rows : List Value) (u : Nat) (hu : u < n) (hl : l.length ≤ 128) (hne : ∀ a ∈ l, a.u ≠ a.v) (J : Nat → List Int → World → Prop) (S : World → Prop)
    (hread : ∀ j lv W, J j lv W → Rst B l n p vt vl va rows lv W ∧ lv.length = 2 * l.length ∧ W.cell? ⟨bx, 0, none⟩ = some (.pointer (some ⟨p, 0, none⟩)) ∧ W.cell? ⟨bu, 0, none⟩ = some (.int .i64 u))
    (htick : ∀ j lv W W', J j lv W → Below W.heap.size W W' → J j lv W')
    (hskip : ∀ j lv W (e : Nat), J j lv W → j < (atL l u l.length).length → (atL l u l.length).getD j default = e → e < 2 * l.length → ¬ 0 < lv.getD e default → J (j + 1) lv W)
    (hY : ∀ j lv W (e : Nat), J j lv W → j < (atL l u l.length).length → (atL l u l.length).getD j default = e → e < 2 * l.length → tl l e = u → 0 < lv.getD e default →
      YieldAt Fence.wide 0 Try.prog lp #[.int .i64 e, .int .i64 (hd l e)] W fun x W' => ∃ c, x = .returned (.bool c) ∧ (if c = true then ∃ lv', J (j + 1) lv' W' else S W'))
    (W : World) (lv0 : List Int) (h0 : J 0 lv0 W) :
    CallsIn Fence.wide 0 Try.prog 99 #[.func (.yield lp) #[] #[], .pointer (some ⟨bx, 0, none⟩), .pointer (some ⟨bu, 0, none⟩)] W fun e W' => (∃ v, e = .returned v) ∧ ((∃ lv', J (atL l u l.length).length lv' W') ∨ S W') := by
  have hlen := atL_len l u hne l.length (Nat.le_refl _)
  have hmem : ∀ j, j < (atL l u l.length).length → ∃ e : Nat, (atL l u l.length).getD j default = e ∧ e < 2 * l.length ∧ tl l e = u := fun j hj =>
    atL_mem (by rw [List.getD_eq_getElem?_getD, List.getElem?_eq_getElem hj]; exact List.getElem_mem hj)
  have Hmem := Lib.hid hmem; clear hmem
  have Hread := Lib.hid hread; clear hread
  have Htick := Lib.hid htick; clear htick
  have Hskip := Lib.hid hskip; clear hskip
  have HY := Lib.hid hY; clear hY
  have H0 := Lib.hid h0; clear h0
  obtain ⟨hR, _, hx, hb⟩ := Hread.out 0 lv0 W H0.out
  obtain ⟨g, cg, hva, hrow, a, c, hrv, hes⟩ := hR.edges hu
  have q2 := blk_cell hR.blk 2
  have HE := Lib.hid (hes : RowsAt W.heap.size W a 1 (Ints (atL l u l.length)))
  obtain ⟨L, hL⟩ : ∃ L, (atL l u l.length).length = L := ⟨_, rfl⟩
  rw [hL] at hrv hlen
  simp only [hva] at q2
  rw [hrv] at hrow
  simp at q2
  have HL := Lib.hid hL
  have hpl := blk_lt hR.blk
  have huI : (u : Int) < (n : Int) := by omega
  have Hrl := Lib.hid (And.intro hva (And.intro hrow hrv))
  clear hR hes hva hrv hL hne
  refine callsIn_of_wp Try.func99 rfl trivial ?_ rfl
  simp only [Try.ntmps99, List.size_toArray, List.length_cons, List.length_nil, Nat.reduceAdd, Nat.reduceSub, Array.replicate_succ, Array.replicate_zero, List.push_toArray, List.append_toArray, List.nil_append, List.cons_append]
  gi_wp2_with fail
  refine wpIn_wide.2 ?_
  go_quiet (fail)
  have H0' := Lib.hid (Htick.out 0 lv0 W _ H0.out (below_drewN (below_self W) nq))
  generalize hV : W.drewN nq = V at H0' ⊢
  clear hV hx hb hrow q2 hpl huI
  gi_wp2_with fail
  gi_loopw [14] (fun i wr => ∃ (k : Nat) (lv : List Int), k ≤ L ∧ i = .int .i64 k ∧ J k lv wr) (fun i _ => L - (intOf i).toNat)
  case atStart => exact ⟨0, lv0, Nat.zero_le _, rfl, H0'.out⟩
  case round =>
    obtain ⟨k, lv, hk, rfl, hJs⟩ := hrel
    have HJ := Lib.hid hJs; clear hJs
    clear H0 H0'
    by_cases hlt : k < L
    · obtain ⟨e, he, hel, het⟩ := Hmem.out k (by rw [HL.out]; exact hlt)
      obtain ⟨hR, hlv, hx, hb⟩ := Hread.out k lv wr HJ.out
      obtain ⟨g', cg', hva', hrow', a', c', hrv', hes'⟩ := hR.edges hu
      have hav : a' = a := by have h := hrv'.symm.trans Hrl.out.2.2; injection h
      subst hav
      obtain ⟨b1, o1, hq1, hb1, c1⟩ := ints_at hes' k (by rw [HL.out]; exact hlt)
      subst hq1
      rw [he] at c1
      have q0 := blk_cell hR.blk 0
      have q1 := blk_cell hR.blk 1
      have hpl := blk_lt hR.blk
      obtain ⟨g1, n1, hvl, _, hg1, d1, _⟩ := hR.lf.at (e := e) (by rw [hlv]; exact hel)
      obtain ⟨g0, n0, hvt, _, hg0, d0, _⟩ := hR.to.at (e := e) (by rw [toL_len]; exact hel)
      rw [hlv] at hvl
      rw [toL_len] at hvt
      rw [toL_at hel] at d0
      simp [hvl] at q1
      simp [hvt] at q0
      have heI : (e : Int) < ((2 * l.length : Nat) : Int) := by omega
      have heI' : (e : Int) < 2 * (l.length : Int) := by omega
      have hltI : (k : Int) < (L : Int) := by omega
      obtain ⟨z, hz⟩ : ∃ z, lv.getD e default = z := ⟨_, rfl⟩
      obtain ⟨v, hv⟩ : ∃ v, hd l e = v := ⟨_, rfl⟩
      rw [hz] at d1
      rw [hv] at d0
      have HE2 := Lib.hid (And.intro he (And.intro hel (And.intro het hz)))
      clear hR hva' hrow' hrv' hes' hvl hvt he hel het
      by_cases hz0 : 0 < z
      · have hy0 := HY.out k lv wr e HJ.out (by rw [HL.out]; exact hlt) HE2.out.1 HE2.out.2.1 HE2.out.2.2.1 (by rw [hz]; exact hz0)
        rw [hv] at hy0
        obtain ⟨fn, tmps, assign, body, hy, hR⟩ := hy0
        have HR := Lib.hid hR; clear hR hz hv hlv
        gi_wp2_with fail
        refine HR.out.mono ?_
        rintro x W3 ⟨c, rfl, hJ3⟩
        have HJ3 := Lib.hid hJ3; clear hJ3
        clear hy HR q0 q1 d0 d1 hx hb c1
        cases c
        · gi_wp2_with fail
          refine bodyPost_ret (results_none rfl _ _ _) rfl ?_
          exact ⟨⟨_, rfl⟩, .inr (by simpa using HJ3.out)⟩
        · obtain ⟨lv', h3⟩ := (by simpa using HJ3.out : ∃ lv', J (k + 1) lv' W3)
          have H3 := Lib.hid h3
          clear h3 HJ3
          gi_wp2_with fail
          go_roundw
          case rel => exact ⟨k + 1, lv', by omega, by simp, H3.out⟩
          case measure => simp [intOf]; omega
      · have H3 := Lib.hid (Hskip.out k lv wr e HJ.out (by rw [HL.out]; exact hlt) HE2.out.1 HE2.out.2.1 (by rw [hz]; omega))
        clear hz hv
        gi_wp2_with fail
        go_roundw
        case rel => exact ⟨k + 1, lv, by omega, by simp, H3.out⟩
        case measure => simp [intOf]; omega
    · have hkn : k = L := by omega
      subst hkn
      have hltI : ¬ (k : Int) < (k : Int) := by omega
      gi_wp2_with fail
      go_end0
      exact ⟨⟨_, rfl⟩, .inl ⟨lv, by rw [HL.out]; exact HJ.out⟩⟩
end Go.Proofs.Ythlefdbhkbpejaa.F5
