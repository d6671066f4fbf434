/- Chapter 15: power.watts, power.sum, power.OfRack. -/
import Derived.Test.YthlefdbhkbpejaaGreatUsed
namespace Go.Proofs.YthlefdbhkbpejaaGreat
open Go Go.RowKit
set_option linter.unusedSimpArgs false

theorem getD_in {α} [Inhabited α] {l : List α} {i : Nat} (hi : i < l.length) : l.getD i default ∈ l := by
  rw [List.getD_eq_getElem?_getD, List.getElem?_eq_getElem hi]; exact List.getElem_mem hi
theorem worldOk_site {s : Site} {x : Wish} {v : Wld} (h : worldOk s x v = true) : siteOk s = true := by
  unfold worldOk at h
  simp only [Bool.and_eq_true] at h
  exact h.1.1.1.1.1.1
theorem worldOk_hosts {s : Site} {x : Wish} {v : Wld} (h : worldOk s x v = true) : v.hosts.length = s.hosts.length := by
  unfold worldOk at h
  simp only [Bool.and_eq_true, decide_eq_true_eq] at h
  exact h.1.1.1.1.2
theorem siteOk_host {s : Site} (h : siteOk s = true) {i : Nat} (hi : i < s.hosts.length) : (0 ≤ (s.hosts.getD i default).rack ∧ (s.hosts.getD i default).rack < (s.racks.length : Int)) ∧ (0 ≤ (s.hosts.getD i default).idle ∧ (s.hosts.getD i default).idle ≤ 10000) ∧ 0 ≤ (s.hosts.getD i default).per ∧ (s.hosts.getD i default).per ≤ 1000 := by
  unfold siteOk at h
  simp only [Bool.and_eq_true, List.all_eq_true] at h
  have := h.2.2.2.2.2.2 _ (getD_in hi)
  unfold okHo idx at this
  simp only [Bool.and_eq_true, decide_eq_true_eq] at this
  exact ⟨this.1, inR_iff.1 this.2.2.1, inR_iff.1 this.2.2.2⟩
theorem siteOk_sizes {s : Site} (h : siteOk s = true) : 1 ≤ s.hosts.length ∧ s.hosts.length ≤ 16 ∧ 1 ≤ s.racks.length ∧ s.racks.length ≤ 8 := by
  unfold siteOk sizesOk at h
  simp only [Bool.and_eq_true] at h
  have h1 := inR_iff.1 h.1.2.2.2.2.2.2
  have h2 := inR_iff.1 h.1.2.2.2.2.1
  omega
theorem used_le {x : Wish} {v : Wld} {h : Int} (hr : RepsIn x v) : 0 ≤ used x v h ∧ used x v h ≤ 24000 := by
  rw [used_all]
  have := usedL_le (h := h) hr v.reps.length (Nat.le_refl _)
  have := hr.1
  omega
theorem mul_le_i {a b m n : Int} (ha : 0 ≤ a) (hb : 0 ≤ b) (h1 : a ≤ m) (h2 : b ≤ n) : 0 ≤ a * b ∧ a * b ≤ m * n := ⟨Int.mul_nonneg ha hb, Int.mul_le_mul h1 h2 hb (by omega)⟩
theorem wattsH_le {s : Site} {x : Wish} {v : Wld} (h : worldOk s x v = true) {i : Nat} (hi : i < s.hosts.length) : 0 ≤ wattsH s x v i ∧ wattsH s x v i ≤ 24010000 := by
  unfold wattsH
  have h1 := siteOk_host (worldOk_site h) hi
  have h2 := used_le (h := (i : Int)) (worldOk_reps h)
  have h3 := mul_le_i h1.2.2.1 h2.1 h1.2.2.2 h2.2
  split <;> omega

set_option maxHeartbeats 4000000 in
theorem watts_ok (s : Site) (x : Wish) (v : Wld) (i : Nat) (w : World) (hs : s.At w) (hx : x.At w) (hv : v.At w) (hok : worldOk s x v = true) (hi : i < s.hosts.length) : Calls Tryz.prog 38 #[s.val, x.val, v.val, .int .i64 i] w fun e W' => e = .returned (.int .i64 (wattsH s x v i)) ∧ Below w.heap.size w W' := by
  have HI := Lib.hid (And.intro hs (And.intro hx (And.intro hv (And.intro hok hi))))
  have hiv : i < v.hosts.length := by rw [worldOk_hosts hok]; exact hi
  have hi1 : i < s.hh.2.1 := by rw [← hs.hosts.len]; exact hi
  have hi2 : i < v.hh.2.1 := by rw [← hv.hosts.len]; exact hiv
  have hl1 := hs.hosts.le
  have hl2 := hv.hosts.le
  obtain ⟨b1, o1, q1, hb1, p0, p1, p2, p3⟩ := hos_at hs.hosts.rows i hi
  obtain ⟨b2, o2, q2, hb2, t0, t1⟩ := hss_at hv.hosts.rows i hiv
  have hbd := siteOk_host (worldOk_site hok) hi
  have hub := used_le (h := (i : Int)) (worldOk_reps hok)
  obtain ⟨g, hg⟩ : ∃ g, wattsH s x v i = g := ⟨_, rfl⟩
  rw [hg]
  unfold wattsH at hg
  generalize hy : s.hosts.getD i default = y at hg hbd p0 p1 p2 p3
  generalize hz : v.hosts.getD i default = z at hg t0 t1
  generalize hu : used x v i = u at hg hub
  have HU := Lib.hid hu
  have HG := Lib.hid (And.intro hg (And.intro hbd hub))
  have HP := Lib.hid (And.intro hb1 (And.intro p0 (And.intro p1 (And.intro p2 (And.intro p3 (And.intro hb2 (And.intro t0 t1)))))))
  clear hs hx hv hok hbd hub hg hy hz hu p0 p1 p2 p3 t0 t1 hb1 hb2 hi hiv
  obtain ⟨feeds, fh, brks, bh, loops, lh, racks, rh, links, kh, hosts, ⟨ha, hn, hc⟩, switches⟩ := s
  obtain ⟨hsts, ⟨va, vn, vc⟩, reps, rrh⟩ := v
  simp only at q1 q2 hi1 hi2 hl1 hl2
  subst q1 q2
  go_enter Tryz.func38, Tryz.ntmps38
  go_upto_region 1 with fail
  obtain ⟨A, hA⟩ : ∃ W' : World, (((w.alloc (.cells #[.slice fh.1 fh.2.1 fh.2.2, .slice bh.1 bh.2.1 bh.2.2, .slice lh.1 lh.2.1 lh.2.2, .slice rh.1 rh.2.1 rh.2.2, .int .i64 switches, .slice kh.1 kh.2.1 kh.2.2, .slice (some ⟨b1, o1, none⟩) hn hc] 29)).alloc (.cells #[.slice x.sh.1 x.sh.2.1 x.sh.2.2] 32)).alloc (.cells #[.slice (some ⟨b2, o2, none⟩) vn vc, .slice rrh.1 rrh.2.1 rrh.2.2] 36)) = W' := ⟨_, rfl⟩
  have h : Has A [(w.heap.size + 1 + 1, .cells #[.slice (some ⟨b2, o2, none⟩) vn vc, .slice rrh.1 rrh.2.1 rrh.2.2] 36 (0, 0)), (w.heap.size + 1, .cells #[.slice x.sh.1 x.sh.2.1 x.sh.2.2] 32 (0, 0)), (w.heap.size, .cells #[.slice fh.1 fh.2.1 fh.2.2, .slice bh.1 bh.2.1 bh.2.2, .slice lh.1 lh.2.1 lh.2.2, .slice rh.1 rh.2.1 rh.2.2, .int .i64 switches, .slice kh.1 kh.2.1 kh.2.2, .slice (some ⟨b1, o1, none⟩) hn hc] 29 (0, 0))] := by rw [← hA]; simpa using ((((Has.nil w).new _).new _).new _)
  have z : A.heap.size = w.heap.size + 1 + 1 + 1 := by rw [← hA]; simp
  have b : Below w.heap.size w A := by rw [← hA]; exact (below_alloc (below_alloc (below_alloc (below_self w) _) _) _)
  rw [hA]
  clear hA
  have HA := Lib.hid (And.intro h.tl.tl.hd (And.intro h.tl.hd (And.intro h.hd b)))
  clear h z b
  have d0 : A.cell? ⟨w.heap.size + 1 + 1, 0, none⟩ = some (.slice (some ⟨b2, o2, none⟩) vn vc) := (blk_cell HA.out.2.2.1 0).trans rfl
  have d6 : A.cell? ⟨w.heap.size, 6, none⟩ = some (.slice (some ⟨b1, o1, none⟩) hn hc) := (blk_cell HA.out.1 6).trans rfl
  have dl0 := blk_lt HA.out.1
  have dl2 := blk_lt HA.out.2.2.1
  obtain ⟨hb1, q0, q1, q2, q3, hb2, t0, t1⟩ := HP.out
  have e0 := cell_call HA.out.2.2.2 (a := ⟨b1, o1 + i * 4, none⟩) hb1 q0
  have e1 := cell_call HA.out.2.2.2 (a := ⟨b1, o1 + i * 4 + 1, none⟩) hb1 q1
  have e2 := cell_call HA.out.2.2.2 (a := ⟨b1, o1 + i * 4 + 2, none⟩) hb1 q2
  have e3 := cell_call HA.out.2.2.2 (a := ⟨b1, o1 + i * 4 + 3, none⟩) hb1 q3
  have f0 := cell_call HA.out.2.2.2 (a := ⟨b2, o2 + i * 2, none⟩) hb2 t0
  clear q0 q1 q2 q3 t0 t1 HP
  have hi1I : (i : Int) < (hn : Int) := by omega
  have hi2I : (i : Int) < (vn : Int) := by omega
  by_cases h4 : z.phase = 4
  · have HE := Lib.hid (show g = 0 by rw [← HG.out.1, if_pos h4])
    go_wp2_with fail
    go_ret
    exact ⟨by rw [HE.out]; rfl, HA.out.2.2.2⟩
  · have hE : y.idle + y.per * u = g := by rw [← HG.out.1, if_neg h4]
    have hm := mul_le_i HG.out.2.1.2.2.1 HG.out.2.2.1 HG.out.2.1.2.2.2 HG.out.2.2.2
    have hid := HG.out.2.1.2.1
    have hw1 : IntKind.i64.wrap (y.per * u) = y.per * u := IntWalk.i64_in _ (by omega)
    have hw2 : IntKind.i64.wrap (y.idle + y.per * u) = y.idle + y.per * u := IntWalk.i64_in _ (by omega)
    have HE := Lib.hid hE
    clear hE hm hid
    go_upto_region 4 with fail
    obtain ⟨B, hB⟩ : ∃ W' : World, (A.alloc (.cells #[.int .i64 y.rack, .int .i64 y.cores, .int .i64 y.idle, .int .i64 y.per] 56)) = W' := ⟨_, rfl⟩
    have hz : Has B [(A.heap.size, .cells #[.int .i64 y.rack, .int .i64 y.cores, .int .i64 y.idle, .int .i64 y.per] 56 (0, 0))] := by rw [← hB]; simpa using ((Has.nil A).new _)
    have sz : B.heap.size = A.heap.size + 1 := by rw [← hB]; simp
    have bz : Below A.heap.size A B := by rw [← hB]; exact (below_alloc (below_self A) _)
    rw [hB]
    clear hB
    clear d0 d6 dl0 dl2 e0 e1 e2 e3 f0 hb1 hb2
    have kA : B.drew.cell? ⟨A.heap.size, 2, none⟩ = some (.int .i64 y.idle) ∧ B.drew.cell? ⟨A.heap.size, 3, none⟩ = some (.int .i64 y.per) ∧ B.drew.cell? ⟨w.heap.size + 1, 0, none⟩ = some (.slice x.sh.1 x.sh.2.1 x.sh.2.2) ∧ B.drew.cell? ⟨w.heap.size + 1 + 1, 0, none⟩ = some (.slice (some ⟨b2, o2, none⟩) vn vc) ∧ B.drew.cell? ⟨w.heap.size + 1 + 1, 1, none⟩ = some (.slice rrh.1 rrh.2.1 rrh.2.2) :=
      ⟨(blk_cell hz.hd 2).trans rfl, (blk_cell hz.hd 3).trans rfl, (blk_cell (blk_below HA.out.2.1 bz.drew) 0).trans rfl, (blk_cell (blk_below HA.out.2.2.1 bz.drew) 0).trans rfl, (blk_cell (blk_below HA.out.2.2.1 bz.drew) 1).trans rfl⟩
    have hkk : ∀ W, Below B.drew.heap.size B.drew W → W.cell? ⟨A.heap.size, 2, none⟩ = some (.int .i64 y.idle) ∧ W.cell? ⟨A.heap.size, 3, none⟩ = some (.int .i64 y.per) ∧ W.cell? ⟨w.heap.size + 1, 0, none⟩ = some (.slice x.sh.1 x.sh.2.1 x.sh.2.2) ∧ W.cell? ⟨w.heap.size + 1 + 1, 0, none⟩ = some (.slice (some ⟨b2, o2, none⟩) vn vc) ∧ W.cell? ⟨w.heap.size + 1 + 1, 1, none⟩ = some (.slice rrh.1 rrh.2.1 rrh.2.2) := fun W h =>
      ⟨cell_call h (a := ⟨A.heap.size, 2, none⟩) (blk_lt hz.hd) kA.1, cell_call h (a := ⟨A.heap.size, 3, none⟩) (blk_lt hz.hd) kA.2.1, cell_call h (a := ⟨w.heap.size + 1, 0, none⟩) (blk_lt (blk_below HA.out.2.1 bz.drew)) kA.2.2.1, cell_call h (a := ⟨w.heap.size + 1 + 1, 0, none⟩) (blk_lt (blk_below HA.out.2.2.1 bz.drew)) kA.2.2.2.1, cell_call h (a := ⟨w.heap.size + 1 + 1, 1, none⟩) (blk_lt (blk_below HA.out.2.2.1 bz.drew)) kA.2.2.2.2⟩
    have HK := Lib.hid hkk
    have hB : Below w.heap.size w B.drew := (below_trans HA.out.2.2.2 bz).drew
    have HB := Lib.hid hB
    clear hkk hB hz sz bz
    go_region_held3 (fun W => W.cell? ⟨A.heap.size, 2, none⟩ = some (.int .i64 y.idle) ∧ W.cell? ⟨A.heap.size, 3, none⟩ = some (.int .i64 y.per) ∧ W.cell? ⟨w.heap.size + 1, 0, none⟩ = some (.slice x.sh.1 x.sh.2.1 x.sh.2.2) ∧ W.cell? ⟨w.heap.size + 1 + 1, 0, none⟩ = some (.slice (some ⟨b2, o2, none⟩) vn vc) ∧ W.cell? ⟨w.heap.size + 1 + 1, 1, none⟩ = some (.slice rrh.1 rrh.2.1 rrh.2.2))
      ((first | (with_reducible exact kA) | (with_reducible exact kZ)))
      (first
        | (go_at_call 59; (with_reducible refine (used_ok x ⟨hsts, (some ⟨b2, o2, none⟩, vn, vc), reps, rrh⟩ (i : Int) B.drew (HI.out.2.1.later HB.out) (HI.out.2.2.1.later HB.out) (worldOk_reps HI.out.2.2.2.1)).mono ?_); rintro e Z ⟨rfl, hb⟩; rw [HU.out]; have kZ := HK.out _ hb; have HZ := Lib.hid (below_trans HB.out hb); clear hb))
    clear kA kZ HK
    go_wp2_with fail
    go_ret
    exact ⟨by rw [← HE.out]; rfl, HZ.out⟩
end Go.Proofs.YthlefdbhkbpejaaGreat
