/- Chapter 06: the reference's Course. -/
import Derived.Test.YtmghcinbdfeeoaaGreatRefC
import Derived.Deep.RegionLaw
import Derived.Deep.DrawnRows
import Derived.Deep.AppendLies
namespace Go.Proofs.YtmghcinbdfeeoaaGreat
open Go Go.RowKit
attribute [local go_sem ↓] Go.wp_at_zero Go.wp_at_succ

theorem ownr_drew {W : World} {base : Nat} {e : TypeId} {k : Nat} {v : Value} {n : Nat} {xs : List Value} (h : W.ownsRow base e k v n xs) : W.drew.ownsRow base e k v n xs := h

/-- What holds between two rounds of the reference's Course. -/
theorem cr_next {w X X1 w1 : World} {R k q : Nat} {v v' : Value} {o : Obj} {L : List Int} {y : Int} {x : Obj} (hR : w.heap.size < R)
    (hX : Below w.heap.size w X ∧ X.heap[w.heap.size]? = some o ∧ R < X.heap.size ∧ X.ownsRow R 3 1 v k (intsV L)) (hb : Below X.drew.heap.size X.drew X1)
    (hg : (X1.alloc x).grownBy w1 v.ownBlock) (hown : w1.ownsRow R 3 1 v' q (intsV L ++ [.int .i64 y])) :
    Below w.heap.size w w1 ∧ w1.heap[w.heap.size]? = some o ∧ R < w1.heap.size ∧ w1.ownsRow R 3 1 v' q (intsV (L ++ [y])) := by
  have hs : X.heap.size ≤ X1.heap.size := hb.size
  have ho : (X1.alloc x).ownsRow R 3 1 v k (intsV L) := World.ownsRow.alloc (owns_later (ownr_drew hX.2.2.2) hb) x
  refine ⟨grown_below (below_alloc (below_trans hX.1.drew hb) x) ho hg (by omega) (by simp; have := hX.1.size; omega), grown_blk hg (blk_alloc (blk_below (show X.drew.heap[w.heap.size]? = some o from hX.2.1) hb) x) (own_ne ho hR), ?_, by rw [intsV_app]; exact hown⟩
  have h1 := hg.size
  have h2 := hX.2.2.1
  simp at h1
  omega

set_option maxHeartbeats 4000000 in
theorem courseref_zero (carry : Int) (a : Option Addr) (n cap : Nat) (ps : List Prt) (start : Int) (ai : Option Addr) (ni ci : Nat) (hs : List Hd) (ins : List (List Int)) (T : Nat) (w : World) (hn : ps.length = n) (hl : n ≤ 9223372036854775807) (hm : RowsAt w.heap.size w a 3 (Prts ps))
    (hni : ins.length = ni) (hli : ni ≤ 9223372036854775807) (hmi : InsAt w.heap.size w ai hs ins) (he : askedE carry ps start ins T = 0) :
    Calls Tryz.prog 30 #[.agg #[.int .i64 carry, .slice a n cap], .int .i64 start, .slice ai ni ci, .int .i64 T] w fun e W' => ∃ v, e = .returned (.tuple #[v, .int .i64 0]) ∧ OwnI w.heap.size W' v (levs carry ps ins start T) ∧ Below w.heap.size w W' := by
  have Hm := Lib.hid hm; clear hm
  have Hn := Lib.hid hn; clear hn
  have Hmi := Lib.hid hmi; clear hmi
  have Hni := Lib.hid hni; clear hni
  obtain ⟨hP, hC, hI, hS, ht0, ht1⟩ := asked_zero he
  have HPI := Lib.hid (And.intro hP (And.intro hI (And.intro hC hS)))
  clear hP hI hC hS
  have HE := Lib.hid he
  clear he
  have hT : T ≤ 1000 := by omega
  clear ht0 ht1
  go_enter Tryz.func30, Tryz.ntmps30
  go_wp2_with fail
  obtain ⟨W1, hW1⟩ : ∃ W' : World, (w.alloc (.cells #[.int .i64 carry, .slice a n cap] 80)) = W' := ⟨_, rfl⟩
  have h1 : Has W1 [(w.heap.size, .cells #[.int .i64 carry, .slice a n cap] 80 (0, 0))] := by rw [← hW1]; simpa using ((Has.nil w).new _)
  have s1 : W1.heap.size = w.heap.size + 1 := by rw [← hW1]; simp
  have b1 : Below w.heap.size w W1 := by rw [← hW1]; exact (below_alloc (below_self w) _)
  rw [hW1]
  clear hW1
  refine (asked_ref carry a n cap ps start ai ni ci hs ins T _ Hn.out hl (Hm.out.later b1) Hni.out hli (Hmi.out.later b1)).mono ?_
  rintro e W2 ⟨rfl, hb2⟩
  rw [HE.out]
  have h2 := h1.below hb2
  have w2 := Lib.hid (below_trans b1 hb2)
  have l0 : w.heap.size < W2.heap.size := blk_lt h2.hd
  have HL0 := Lib.hid h2.hd
  clear hb2 b1 h1 s1 h2
  go_wp2_with fail
  go_loopw [11, 12] (fun v i wr => ∃ (k : Nat) (X : World) (av : Option Addr) (cv : Nat), k ≤ T ∧ v = .slice av (k + 1) cv ∧ i = .int .i64 k ∧ X = wr ∧ Hid (Below w.heap.size w X ∧ X.heap[w.heap.size]? = some (.cells #[.int .i64 carry, .slice a n cap] 80 (0, 0)) ∧ W2.heap.size < X.heap.size ∧ X.ownsRow W2.heap.size 3 1 (.slice av (k + 1) cv) (k + 1) (intsV (levs carry ps ins start k)))) (fun _ i _ => T - (intOf i).toNat)
  case atStart =>
    refine ⟨0, _, _, _, Nat.zero_le _, rfl, rfl, rfl, Lib.hid ⟨below_alloc w2.out _, blk_alloc HL0.out _, by simp, ?_⟩⟩
    rw [levs_zero]
    exact owns_of_blk (xs := [.int .i64 start]) (blk_new W2 _) (Nat.le_refl _) rfl (by unfold maxLen; simp)
  case round =>
    obtain ⟨k, X, av, cv, hk, rfl, rfl, rfl, HX⟩ := hrel
    by_cases hlt : k < T
    · have hlev := levs_get (carry := carry) (ps := ps) (ins := ins) (start := start) (Nat.le_refl k)
      have hlen := levs_len carry ps ins start k
      have hsc := levs_succ carry ps ins start k
      have hle := lev_le (carry := carry) (start := start) HPI.out.1 HPI.out.2.1 HPI.out.2.2.1.1 HPI.out.2.2.2 k
      have hal := arr_all HPI.out.1 HPI.out.2.1 k
      have hnx : lev carry ps ins start (k + 1) = max 0 (lev carry ps ins start k + arr ps ins k - carry) := rfl
      obtain ⟨hc0, hc1⟩ := HPI.out.2.2.1
      generalize lev carry ps ins start k = x at hlev hle hnx
      generalize lev carry ps ins start (k + 1) = y at hnx hsc
      generalize hL : levs carry ps ins start k = L at HX hlev hlen hsc
      generalize hv : arr ps ins k = v at hal hnx
      have HV := Lib.hid hv
      have HS := Lib.hid (And.intro hsc (And.intro hlev hlen))
      have hrow : OwnI W2.heap.size X (.slice av (k + 1) cv) L := by unfold OwnI; rw [HS.out.2.2]; exact HX.out.2.2.2
      obtain ⟨g, cg, he, hrows⟩ := hrow.rows
      injection he with e1 e2 e3
      subst e1
      clear e2 e3
      obtain ⟨bx, ox, rfl, hbx, hcx⟩ := ints_at hrows k (by rw [HS.out.2.2]; omega)
      rw [HS.out.2.1] at hcx
      have c0 := blk_cell HX.out.2.1 0
      have c1 := blk_cell HX.out.2.1 1
      simp at c0 c1
      have hltI : (k : Int) < (k : Int) + 1 := by omega
      have hltT : (k : Int) < (T : Int) := by omega
      have hw1 : IntKind.i64.wrap (x + v) = x + v := IntWalk.i64_in _ (by omega)
      have hw2 : IntKind.i64.wrap (x + v - carry) = x + v - carry := IntWalk.i64_in _ (by omega)
      have hmx : (if carry < x + v then x + v - carry else 0) = y := by rw [hnx]; split <;> omega
      have HB := Lib.hid hbx
      clear hlev hlen hsc hnx hL hv hrow hrows hbx
      obtain ⟨i0, hi, hz0, hz1, hz2⟩ := info_parts info3
      go_wp2_with fail
      go_region_law (first
          | (go_simp; go_at_call 51; refine (arr_ref (k : Int) carry a n cap ps ai ni ci hs ins X.drew Hn.out (Hm.out.later HX.out.1.drew) Hni.out (Hmi.out.later HX.out.1.drew) HPI.out.1 HPI.out.2.1 (by omega)).mono ?_; rintro e X1 ⟨rfl, hb1⟩; rw [HV.out]; have hcx1 : X1.cell? ⟨bx, ox + k, none⟩ = some (.int .i64 x) := cell_call hb1 (a := ⟨bx, ox + k, none⟩) HB.out hcx; have HB1 := Lib.hid hb1; have k0 : X1.cell? ⟨w.heap.size, 0, none⟩ = some (.int .i64 carry) := cell_call hb1 (a := ⟨w.heap.size, 0, none⟩) (blk_lt HX.out.2.1) c0; clear hb1)
          | (refine step_append_lies _ (by rfl) _ _ 47 (by rfl) W2.heap.size 3 i0 _ 1 8 Tryz.underlying47 hi hz0 hz1 hz2 rfl (by decide) _ (k + 1) (intsV L) (by rfl) (World.ownsRow.alloc (owns_later (ownr_drew HX.out.2.2.2) HB1.out) (.cells #[.int .i64 y] 3)) ⟨X1.heap.size, 0, none⟩ 1 1 [.int .i64 y] (by rfl) rfl (World.news_of_block (blk_new X1 (.cells #[.int .i64 y] 3))) (by simp [Value.oneCell']) (by omega) (by unfold maxLen; omega) (by omega) (show _ ≤ (X1.alloc _).heap.size by have h1 := HX.out.2.2.1; have h2 : X.heap.size ≤ X1.heap.size := HB1.out.size; simp; omega) _ rfl ?_
             intro g1 cap1 w1 hown1 hgrow hat hlt1))
      all_goals
        have q := cr_next (y := y) l0 HX.out HB1.out hgrow hown1
        rw [← HS.out.1] at q
        have HQ := Lib.hid q
        clear q hown1 hgrow hat hlt1 hcx1 k0 hcx c0 c1 hi hz0 hz1 hz2 HB1 HX HB
        go_wp2_with fail
        go_roundw
        case rel => exact ⟨k + 1, _, _, _, by omega, rfl, by go_num, rfl, HQ⟩
        case measure => simp [intOf]; omega
    · have hk2 : k = T := by omega
      subst hk2
      go_wp2_with fail
      go_ret2
      refine ⟨_, rfl, ?_, HX.out.1⟩
      have hlen := levs_len carry ps ins start k
      unfold OwnI
      rw [hlen]
      exact owns_base HX.out.2.2.2 (by omega)

theorem courseref_ok (carry : Int) (a : Option Addr) (n cap : Nat) (ps : List Prt) (start : Int) (ai : Option Addr) (ni ci : Nat) (hs : List Hd) (ins : List (List Int)) (t : Int) (w : World) (hn : ps.length = n) (hl : n ≤ 9223372036854775807) (hm : RowsAt w.heap.size w a 3 (Prts ps))
    (hni : ins.length = ni) (hli : ni ≤ 9223372036854775807) (hmi : InsAt w.heap.size w ai hs ins) :
    Calls Tryz.prog 30 #[.agg #[.int .i64 carry, .slice a n cap], .int .i64 start, .slice ai ni ci, .int .i64 t] w fun e W' => ∃ v, e = .returned (.tuple #[v, .int .i64 (askedE carry ps start ins t)]) ∧ OwnI w.heap.size W' v (courseV carry ps ins start t) ∧ Below w.heap.size w W' := by
  by_cases he : askedE carry ps start ins t = 0
  · obtain ⟨_, _, _, _, ht0, _⟩ := asked_zero he
    obtain ⟨T, rfl⟩ : ∃ T : Nat, t = T := ⟨t.toNat, by omega⟩
    have e1 : courseV carry ps ins start T = levs carry ps ins start T := if_pos he
    rw [e1, he]
    exact courseref_zero carry a n cap ps start ai ni ci hs ins T w hn hl hm hni hli hmi he
  · have e1 : courseV carry ps ins start t = [] := if_neg he
    rw [e1]
    have Hm := Lib.hid hm; clear hm
    have Hmi := Lib.hid hmi; clear hmi
    have hD : decide (askedE carry ps start ins t = 0) = false := decide_eq_false he
    clear e1
    go_enter Tryz.func30, Tryz.ntmps30
    go_wp2_with fail
    obtain ⟨W1, hW1⟩ : ∃ W' : World, (w.alloc (.cells #[.int .i64 carry, .slice a n cap] 80)) = W' := ⟨_, rfl⟩
    have h1 : Has W1 [(w.heap.size, .cells #[.int .i64 carry, .slice a n cap] 80 (0, 0))] := by rw [← hW1]; simpa using ((Has.nil w).new _)
    have s1 : W1.heap.size = w.heap.size + 1 := by rw [← hW1]; simp
    have b1 : Below w.heap.size w W1 := by rw [← hW1]; exact (below_alloc (below_self w) _)
    rw [hW1]
    clear hW1
    refine (asked_ref carry a n cap ps start ai ni ci hs ins t _ hn hl (Hm.out.later b1) hni hli (Hmi.out.later b1)).mono ?_
    rintro e W2 ⟨rfl, hb2⟩
    have w2 := Lib.hid (below_trans b1 hb2)
    clear hb2 b1 h1 s1
    generalize hE : askedE carry ps start ins t = E at he hD ⊢
    have HE := Lib.hid hE
    clear hE
    go_wp2_with fail
    go_ret2
    exact ⟨_, by rw [HE.out]; rfl, OwnI.nil _ _, w2.out⟩
end Go.Proofs.YtmghcinbdfeeoaaGreat
