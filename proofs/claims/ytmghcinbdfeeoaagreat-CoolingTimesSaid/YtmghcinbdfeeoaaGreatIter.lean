/- Chapter 06: the iterator over what arrives: coming, its body. -/
import Derived.Shelf.Abstract
import Derived.Shelf.RegionOpen
import Derived.OwnWalkIn
import Derived.TacticsInMore
import Derived.LoopNIn
import Derived.LoopIn
import Derived.RangeFuncLeaves
import Derived.RangeFuncBox
import Derived.Maps.OwnIn
import Derived.Laws.EntriesVeiled
import Derived.Test.YtmghcinbdfeeoaaGreatComing
namespace Go.Proofs.YtmghcinbdfeeoaaGreat
open Go Go.RowKit Go.Shelf
attribute [local go_sem] Oper.semAt_some

theorem coming_ok (carry : Int) (a : Option Addr) (n cap : Nat) (ai : Option Addr) (ni ci : Nat) (t : Int) (w : World) :
    CallsIn Fence.wide 0 Tryz.prog 81 #[.agg #[.int .i64 carry, .slice a n cap], .slice ai ni ci, .int .i64 t] w fun e W' => e = .returned (.func (.func 105) #[] #[.pointer (some ⟨w.heap.size + 1 + 1, 0, none⟩), .pointer (some ⟨w.heap.size + 1 + 1 + 1, 0, none⟩)]) ∧
      (((w.alloc (.cells #[.int .i64 carry, .slice a n cap] 80)).alloc (.cells #[.slice ai ni ci] 84)).alloc (.cells #[.int .i64 t] 3)).alloc (.cells #[.func (.func 104) #[] #[.pointer (some ⟨w.heap.size, 0, none⟩), .pointer (some ⟨w.heap.size + 1, 0, none⟩)]] 119) = W' := by
  refine callsIn_wide.2 ?_
  go_enter Tryz.func81, Tryz.ntmps81
  go_wp2_with fail
  go_ret
  exact ⟨rfl, rfl⟩

set_option maxRecDepth 100000 in
set_option maxHeartbeats 1000000 in
theorem coming2_ok (l gn gf bl bi n : Nat) (a : Option Addr) (np cap : Nat) (ps : List Prt) (ai : Option Addr) (ni ci : Nat) (hs : List Hd) (ins : List (List Int)) (hn : ps.length = np) (hni : ins.length = ni)
    (hP : PsOk ps) (hI : InOk ins) (hl : n ≤ 1001) (J : Nat → World → Prop)
    (hread : ∀ k W, J k W → W.cell? ⟨gn, 0, none⟩ = some (.int .i64 n) ∧ W.cell? ⟨gf, 0, none⟩ = some (.func (.func 104) #[] #[.pointer (some ⟨bl, 0, none⟩), .pointer (some ⟨bi, 0, none⟩)]) ∧
      bi < W.heap.size ∧ W.cell? ⟨bl, 1, none⟩ = some (.slice a np cap) ∧ W.cell? ⟨bi, 0, none⟩ = some (.slice ai ni ci) ∧ RowsAt W.heap.size W a 3 (Prts ps) ∧ InsAt W.heap.size W ai hs ins)
    (htick : ∀ k W W', J k W → k < n → Below W.heap.size W W' → J k W')
    (hY : ∀ k W, k < n → J k W → YieldAt Fence.wide 0 Tryz.prog l #[.int .i64 k, .int .i64 (arr ps ins k)] W fun e W' => e = .returned (.bool true) ∧ J (k + 1) W')
    (W : World) (h0 : J 0 W) :
    CallsIn Fence.wide 0 Tryz.prog 105 #[.func (.yield l) #[] #[], .pointer (some ⟨gn, 0, none⟩), .pointer (some ⟨gf, 0, none⟩)] W fun e W' => (∃ v, e = .returned v) ∧ J n W' := by
  have Hn := Lib.hid hn; clear hn
  have Hni := Lib.hid hni; clear hni
  have HP := Lib.hid hP; clear hP
  have HI := Lib.hid hI; clear hI
  have Hread := Lib.hid hread; clear hread
  have Htick := Lib.hid htick; clear htick
  have HY := Lib.hid hY; clear hY
  have H0 := Lib.hid h0; clear h0
  have hBs := (Hread.out 0 W H0.out).1
  refine callsIn_of_wp Tryz.func105 rfl trivial ?_ rfl
  simp only [Tryz.ntmps105, List.size_toArray, List.length_cons, List.length_nil, Nat.reduceAdd, Nat.reduceSub, Array.replicate_succ, Array.replicate_zero, List.push_toArray, List.append_toArray, List.nil_append, List.cons_append]
  gi_wp2
  gi_loopw [6] (fun i wr => ∃ k : Nat, k ≤ n ∧ i = .int .i64 k ∧ J k wr)
    (fun i _ => n - (intOf i).toNat)
  case atStart => exact ⟨0, Nat.zero_le _, rfl, H0.out⟩
  case round =>
    obtain ⟨k, hk, rfl, hJs⟩ := hrel
    have HJ := Lib.hid hJs; clear hJs
    clear hBs
    by_cases hlt : k < n
    · obtain ⟨_, hf, h3⟩ := Hread.out k wr HJ.out
      have H3 := Lib.hid h3; clear h3
      gi_wp2_with fail
      refine (callsIn_wide.2 (in_ok k bl bi a np cap ps ai ni ci hs ins Hn.out Hni.out HP.out HI.out (by omega) _ H3.out.1 H3.out.2.1 H3.out.2.2.1 H3.out.2.2.2.1 H3.out.2.2.2.2)).mono ?_
      rintro e W1 ⟨rfl, hb1⟩
      have HJ' := Lib.hid (Htick.out k wr W1 HJ.out hlt hb1)
      have hy0 := HY.out k W1 hlt HJ'.out
      obtain ⟨fn, tmps, assign, body, hy, hR⟩ := hy0
      have HR := Lib.hid hR; clear hR
      clear hb1 hf H3 HJ HJ'
      gi_wp2
      refine HR.out.mono ?_
      rintro e W3 ⟨rfl, hJ3⟩
      have HJ3 := Lib.hid hJ3; clear hJ3
      clear hy HR
      gi_wp2
      go_roundw
      case rel => exact ⟨k + 1, by omega, by simp, HJ3.out⟩
      case measure => simp [intOf]; omega
    · have hkn : k = n := by omega
      subst hkn
      gi_wp2
      go_end0
      exact ⟨⟨_, rfl⟩, HJ.out⟩
end Go.Proofs.YtmghcinbdfeeoaaGreat
