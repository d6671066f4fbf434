/- Chapter 15: power.sum, power.OfRack. -/
import Derived.Test.YthlefdbhkbpejaaGreatPow
namespace Go.Proofs.YthlefdbhkbpejaaGreat
open Go Go.RowKit
set_option linter.unusedSimpArgs false

def sumT (s : Site) (x : Wish) (v : Wld) (p : Nat → Bool) (k : Nat) : Int := (List.range k).foldl (fun a i => if p i = true then a + wattsH s x v i else a) 0
theorem sumT_succ {s : Site} {x : Wish} {v : Wld} {p : Nat → Bool} {k : Nat} : sumT s x v p (k + 1) = if p k = true then sumT s x v p k + wattsH s x v k else sumT s x v p k := by
  unfold sumT
  rw [List.range_succ, List.foldl_append]
  rfl
theorem sumT_le {s : Site} {x : Wish} {v : Wld} {p : Nat → Bool} (h : worldOk s x v = true) : ∀ k, k ≤ s.hosts.length → 0 ≤ sumT s x v p k ∧ sumT s x v p k ≤ 24010000 * k
  | 0, _ => by simp [sumT]
  | k + 1, hk => by
    have ih := sumT_le (p := p) h k (by omega)
    have := wattsH_le h (i := k) (by omega)
    rw [sumT_succ]
    split <;> omega
theorem sumH_ok {s : Site} {x : Wish} {v : Wld} {p : Nat → Bool} (h : worldOk s x v = true) : sumH s x v p = sumT s x v p s.hosts.length := by
  unfold sumH; rw [if_pos h]; rfl
theorem sumH_no {s : Site} {x : Wish} {v : Wld} {p : Nat → Bool} (h : worldOk s x v = false) : sumH s x v p = 0 := by
  unfold sumH; rw [if_neg (by simp [h])]

set_option maxHeartbeats 4000000 in
theorem sum_ok (gf : Nat) (lb : Array Value) (p : Nat → Bool) (s : Site) (x : Wish) (v : Wld) (w : World) (hs : s.At w) (hx : x.At w) (hv : v.At w)
    (hp : worldOk s x v = true → ∀ W i, i < s.hosts.length → Below w.heap.size w W → Calls Tryz.prog gf (#[.int .i64 i] ++ lb) W fun e W' => e = .returned (.bool (p i)) ∧ Below W.heap.size W W')
    (eg : ∀ args w, (callFunc gf args).run Tryz.prog w = .ok (.enter gf args) w) :
    Calls Tryz.prog 25 #[s.val, x.val, v.val, .func (.func gf) #[] lb] w fun e W' => e = .returned (.int .i64 (sumH s x v p)) ∧ Below w.heap.size w W' := by
  have HI := Lib.hid (And.intro hs (And.intro hx hv))
  have Hp := Lib.hid hp; clear hp
  have Eg := Lib.hid eg; clear eg
  have hN : s.hosts.length = s.hh.2.1 := hs.hosts.len
  have hNl := hs.hosts.le
  have HN := Lib.hid hN
  clear hs hx hv hN
  go_enter Tryz.func25, Tryz.ntmps25
  go_wp2_with fail
  obtain ⟨A, hA⟩ : ∃ W' : World, (((w.alloc (.cells s.cells.toArray 29)).alloc (.cells x.cells.toArray 32)).alloc (.cells v.cells.toArray 36)) = W' := ⟨_, rfl⟩
  have h : Has A [(w.heap.size + 1 + 1, .cells v.cells.toArray 36 (0, 0)), (w.heap.size + 1, .cells x.cells.toArray 32 (0, 0)), (w.heap.size, .cells s.cells.toArray 29 (0, 0))] := by rw [← hA]; simpa using ((((Has.nil w).new _).new _).new _)
  have z : A.heap.size = w.heap.size + 1 + 1 + 1 := by rw [← hA]; simp
  have b : Below w.heap.size w A := by rw [← hA]; exact (below_alloc (below_alloc (below_alloc (below_self w) _) _) _)
  rw [hA]
  clear hA
  have HZ := Lib.hid (show A.heap[w.heap.size]? = some (.cells s.cells.toArray 29 (0, 0)) ∧ A.heap[w.heap.size + 1]? = some (.cells x.cells.toArray 32 (0, 0)) ∧ A.heap[w.heap.size + 1 + 1]? = some (.cells v.cells.toArray 36 (0, 0)) ∧ Below w.heap.size w A from ⟨h.tl.tl.hd, h.tl.hd, h.hd, b⟩)
  clear h z b
  refine (world_ok s x v A (HI.out.1.later HZ.out.2.2.2) (HI.out.2.1.later HZ.out.2.2.2) (HI.out.2.2.later HZ.out.2.2.2)).mono ?_
  rintro e B ⟨rfl, hb⟩
  have HB := Lib.hid (And.intro (blk_below HZ.out.1 hb) (And.intro (blk_below HZ.out.2.1 hb) (And.intro (blk_below HZ.out.2.2.1 hb) (below_trans HZ.out.2.2.2 hb))))
  clear hb HZ
  cases hok : worldOk s x v
  · have HE := Lib.hid (sumH_no (p := p) hok)
    clear hok
    go_wp2_with fail
    go_ret
    exact ⟨by rw [HE.out]; rfl, HB.out.2.2.2⟩
  · have HO := Lib.hid hok
    have HE := Lib.hid (sumH_ok (p := p) hok)
    clear hok
    have d6 : B.cell? ⟨w.heap.size, 6, none⟩ = some (.slice s.hh.1 s.hh.2.1 s.hh.2.2) := (blk_cell HB.out.1 6).trans rfl
    have dl := blk_lt HB.out.1
    go_wp2_with fail
    clear d6 dl
    go_loopw [9, 19] (fun t i wr => ∃ (k : Nat) (X : World), k ≤ s.hh.2.1 ∧ t = .int .i64 (sumT s x v p k) ∧ i = .int .i64 k ∧ X = wr ∧ Hid (X.heap[w.heap.size]? = some (.cells s.cells.toArray 29 (0, 0)) ∧ X.heap[w.heap.size + 1]? = some (.cells x.cells.toArray 32 (0, 0)) ∧ X.heap[w.heap.size + 1 + 1]? = some (.cells v.cells.toArray 36 (0, 0)) ∧ Below w.heap.size w X)) (fun _ i _ => s.hh.2.1 - (intOf i).toNat)
    case atStart => exact ⟨0, _, Nat.zero_le _, rfl, rfl, rfl, HB⟩
    case round =>
      obtain ⟨k, X, hk, rfl, rfl, rfl, HR⟩ := hrel
      by_cases hlt : k < s.hh.2.1
      · have hltI : (k : Int) < (s.hh.2.1 : Int) := by omega
        have eg := Eg.out
        go_wp2_with fail
        refine (Hp.out HO.out X k (by rw [HN.out]; exact hlt) HR.out.2.2.2).mono ?_
        rintro e Y ⟨rfl, hb⟩
        have HY := Lib.hid (And.intro (blk_below HR.out.1 hb) (And.intro (blk_below HR.out.2.1 hb) (And.intro (blk_below HR.out.2.2.1 hb) (below_trans HR.out.2.2.2 hb))))
        clear hb eg
        have hS := sumT_succ (s := s) (x := x) (v := v) (p := p) (k := k)
        have hbd := sumT_le (p := p) HO.out k (by rw [HN.out]; exact hk)
        obtain ⟨t, ht⟩ : ∃ t, sumT s x v p k = t := ⟨_, rfl⟩
        rw [ht] at hS hbd ⊢
        have HS := Lib.hid hS
        have HT := Lib.hid (And.intro ht hbd)
        clear hS ht hbd
        cases hpk : p k
        · have HF := Lib.hid (show sumT s x v p (k + 1) = t by rw [HS.out, if_neg (by simp [hpk])])
          clear hpk
          go_wp2_with fail
          exact ⟨⟨k + 1, _, by omega, by rw [HF.out], by go_num, rfl, HY⟩, by simp [intOf]; omega⟩
        · have hF := show sumT s x v p (k + 1) = t + wattsH s x v k by rw [HS.out, if_pos hpk]
          have hwb := wattsH_le HO.out (i := k) (by rw [HN.out]; exact hlt)
          have hh16 := (siteOk_sizes (worldOk_site HO.out)).2.1
          rw [HN.out] at hh16
          clear hpk
          obtain ⟨g, hg⟩ : ∃ g, wattsH s x v k = g := ⟨_, rfl⟩
          rw [hg] at hF hwb
          have hw1 : IntKind.i64.wrap (t + g) = t + g := IntWalk.i64_in _ (by have := HT.out.2; omega)
          have HG := Lib.hid (And.intro hg hF)
          clear hg hF hwb hh16
          have dl := blk_lt HY.out.1
          have d0 : Y.cell? ⟨w.heap.size, 0, none⟩ = some (.slice s.fh.1 s.fh.2.1 s.fh.2.2) := (blk_cell HY.out.1 0).trans rfl
          have d1 : Y.cell? ⟨w.heap.size, 1, none⟩ = some (.slice s.bh.1 s.bh.2.1 s.bh.2.2) := (blk_cell HY.out.1 1).trans rfl
          have d2 : Y.cell? ⟨w.heap.size, 2, none⟩ = some (.slice s.lh.1 s.lh.2.1 s.lh.2.2) := (blk_cell HY.out.1 2).trans rfl
          have d3 : Y.cell? ⟨w.heap.size, 3, none⟩ = some (.slice s.rh.1 s.rh.2.1 s.rh.2.2) := (blk_cell HY.out.1 3).trans rfl
          have d4 : Y.cell? ⟨w.heap.size, 4, none⟩ = some (.int .i64 s.switches) := (blk_cell HY.out.1 4).trans rfl
          have d5 : Y.cell? ⟨w.heap.size, 5, none⟩ = some (.slice s.kh.1 s.kh.2.1 s.kh.2.2) := (blk_cell HY.out.1 5).trans rfl
          have d6 : Y.cell? ⟨w.heap.size, 6, none⟩ = some (.slice s.hh.1 s.hh.2.1 s.hh.2.2) := (blk_cell HY.out.1 6).trans rfl
          have dm := blk_lt HY.out.2.1
          have e0 : Y.cell? ⟨w.heap.size + 1, 0, none⟩ = some (.slice x.sh.1 x.sh.2.1 x.sh.2.2) := (blk_cell HY.out.2.1 0).trans rfl
          have dn := blk_lt HY.out.2.2.1
          have f0 : Y.cell? ⟨w.heap.size + 1 + 1, 0, none⟩ = some (.slice v.hh.1 v.hh.2.1 v.hh.2.2) := (blk_cell HY.out.2.2.1 0).trans rfl
          have f1 : Y.cell? ⟨w.heap.size + 1 + 1, 1, none⟩ = some (.slice v.rh.1 v.rh.2.1 v.rh.2.2) := (blk_cell HY.out.2.2.1 1).trans rfl
          go_wp2_with fail
          refine (watts_ok s x v k Y (HI.out.1.later HY.out.2.2.2) (HI.out.2.1.later HY.out.2.2.2) (HI.out.2.2.later HY.out.2.2.2) HO.out (by rw [HN.out]; exact hlt)).mono ?_
          rintro e Z ⟨rfl, hb⟩
          rw [HG.out.1]
          have HZ := Lib.hid (And.intro (blk_below HY.out.1 hb) (And.intro (blk_below HY.out.2.1 hb) (And.intro (blk_below HY.out.2.2.1 hb) (below_trans HY.out.2.2.2 hb))))
          clear hb d0 d1 d2 d3 d4 d5 d6 dl dm dn e0 f0 f1
          go_wp2_with fail
          exact ⟨⟨k + 1, _, by omega, by rw [HG.out.2], by go_num, rfl, HZ⟩, by simp [intOf]; omega⟩
      · have hE : k = s.hosts.length := by rw [HN.out]; omega
        have HK := Lib.hid hE
        have hltI : ¬ (k : Int) < (s.hh.2.1 : Int) := by omega
        clear hE
        go_wp2_with fail
        go_ret
        exact ⟨by rw [HE.out, ← HK.out]; rfl, HR.out.2.2.2⟩

/-- The load of a rack. -/
def ofRack (s : Site) (x : Wish) (v : Wld) (rack : Int) : Int := sumH s x v fun i => decide ((s.hosts.getD i default).rack = rack)
theorem rack_is (s : Site) (rack : Int) (B C : Nat) (i : Nat) (w : World) (hs : s.At w) (hi : i < s.hosts.length) (hB : w.heap[B]? = some (.cells s.cells.toArray 29 (0, 0))) (hC : w.heap[C]? = some (.cells #[.int .i64 rack] 3 (0, 0))) :
    Calls Tryz.prog 29 #[.int .i64 i, .pointer (some ⟨B, 0, none⟩), .pointer (some ⟨C, 0, none⟩)] w fun e W' => e = .returned (.bool (decide ((s.hosts.getD i default).rack = rack))) ∧ Below w.heap.size w W' := by
  have hN : s.hosts.length = s.hh.2.1 := hs.hosts.len
  have hNl := hs.hosts.le
  obtain ⟨b1, o1, q1, hb1, p0, p1, p2, p3⟩ := hos_at hs.hosts.rows i hi
  have d6 : w.cell? ⟨B, 6, none⟩ = some (.slice s.hh.1 s.hh.2.1 s.hh.2.2) := (blk_cell hB 6).trans rfl
  have c0 : w.cell? ⟨C, 0, none⟩ = some (.int .i64 rack) := (blk_cell hC 0).trans rfl
  have dB := blk_lt hB
  have dC := blk_lt hC
  have hi1 : i < s.hh.2.1 := by omega
  have hi1I : (i : Int) < (s.hh.2.1 : Int) := by omega
  rw [q1] at d6
  generalize (s.hosts.getD i default).rack = y at p0
  clear hs hB hC hN hi p1 p2 p3
  go_enter Tryz.func29, Tryz.ntmps29
  go_wp2_with fail
  go_quiet (fail)
  go_wp2_with fail
  go_ret
  exact ⟨rfl, below_drewN (below_self w) _⟩
theorem ofrack_ok (s : Site) (x : Wish) (v : Wld) (rack : Int) (w : World) (hs : s.At w) (hx : x.At w) (hv : v.At w) :
    Calls Tryz.prog 9 #[s.val, x.val, v.val, .int .i64 rack] w fun e W' => e = .returned (.int .i64 (ofRack s x v rack)) ∧ Below w.heap.size w W' := by
  obtain ⟨g, hg⟩ : ∃ g, ofRack s x v rack = g := ⟨_, rfl⟩
  have HG := Lib.hid (show (sumH s x v fun i => decide ((s.hosts.getD i default).rack = rack)) = g from hg)
  have HI := Lib.hid (And.intro hs (And.intro hx hv))
  rw [hg]
  clear hg hs hx hv
  go_enter Tryz.func9, Tryz.ntmps9
  go_wp2_with fail
  obtain ⟨A, hA⟩ : ∃ W' : World, ((((w.alloc (.cells s.cells.toArray 29)).alloc (.cells x.cells.toArray 32)).alloc (.cells v.cells.toArray 36)).alloc (.cells #[.int .i64 rack] 3)) = W' := ⟨_, rfl⟩
  have h : Has A [(w.heap.size + 1 + 1 + 1, .cells #[.int .i64 rack] 3 (0, 0)), (w.heap.size + 1 + 1, .cells v.cells.toArray 36 (0, 0)), (w.heap.size + 1, .cells x.cells.toArray 32 (0, 0)), (w.heap.size, .cells s.cells.toArray 29 (0, 0))] := by rw [← hA]; simpa using (((((Has.nil w).new _).new _).new _).new _)
  have z : A.heap.size = w.heap.size + 1 + 1 + 1 + 1 := by rw [← hA]; simp
  have b : Below w.heap.size w A := by rw [← hA]; exact (below_alloc (below_alloc (below_alloc (below_alloc (below_self w) _) _) _) _)
  rw [hA]
  clear hA
  have HZ := Lib.hid (show A.heap[w.heap.size]? = some (.cells s.cells.toArray 29 (0, 0)) ∧ A.heap[w.heap.size + 1 + 1 + 1]? = some (.cells #[.int .i64 rack] 3 (0, 0)) ∧ Below w.heap.size w A from ⟨h.tl.tl.tl.hd, h.hd, b⟩)
  clear h z b
  refine (sum_ok 29 #[.pointer (some ⟨w.heap.size, 0, none⟩), .pointer (some ⟨w.heap.size + 1 + 1 + 1, 0, none⟩)] (fun i => decide ((s.hosts.getD i default).rack = rack)) s x v A (HI.out.1.later HZ.out.2.2) (HI.out.2.1.later HZ.out.2.2) (HI.out.2.2.later HZ.out.2.2) (fun hok W i hi hb => rack_is s rack w.heap.size (w.heap.size + 1 + 1 + 1) i W (HI.out.1.later (below_trans HZ.out.2.2 hb)) hi (blk_below HZ.out.1 hb) (blk_below HZ.out.2.1 hb)) (enters_of Tryz.func29 (by kernel_rfl) rfl)).mono ?_
  rintro e Z ⟨rfl, hb⟩
  have HF := Lib.hid (below_trans HZ.out.2.2 hb)
  clear hb
  rw [HG.out]
  go_wp2_with fail
  go_ret
  exact ⟨rfl, HF.out⟩
end Go.Proofs.YthlefdbhkbpejaaGreat
