/- Chapter 15: sizes, site.Valid (written by wip/gen15site.py). -/
import Derived.Test.YthlefdbhkbpejaaGreatSiteB
import Derived.Test.YthlefdbhkbpejaaGreatLnSmall
namespace Go.Proofs.YthlefdbhkbpejaaGreat
open Go Go.RowKit
set_option linter.unusedSimpArgs false

theorem any_all {α : Type} (q : α → Bool) (xs : List α) : xs.any (fun y => !q y) = !xs.all q := by
  induction xs with
  | nil => rfl
  | cons x xs ih => simp only [List.any_cons, List.all_cons, ih, Bool.not_and]
def sizesOf (nf nb nl : Nat) (sw : Int) (nr nk nh : Nat) : Bool := inR nf 1 4 && (inR nb 1 8 && (inR nl 1 4 && (inR sw 1 8 && (inR nr 1 8 && (decide ((nk : Int) ≤ 16) && inR nh 1 16)))))
theorem siteOk_eq {x : Site} {w : World} (h : x.At w) : siteOk x = (sizesOf x.fh.2.1 x.bh.2.1 x.lh.2.1 x.switches x.rh.2.1 x.kh.2.1 x.hh.2.1 && (x.feeds.all okFd && (x.brks.all (okBk x.fh.2.1) && (x.loops.all okLp && (x.racks.all (okRk x.bh.2.1 x.lh.2.1 x.switches) && (x.links.all (okLk x.switches) && x.hosts.all (okHo x.rh.2.1))))))) := by
  unfold siteOk sizesOk sizesOf
  rw [← h.feeds.len, ← h.brks.len, ← h.loops.len, ← h.racks.len, ← h.links.len, ← h.hosts.len]
  have e : decide (x.links.length ≤ 16) = decide ((x.links.length : Int) ≤ 16) := by
    by_cases hh : x.links.length ≤ 16
    · rw [decide_eq_true hh, decide_eq_true (by omega)]
    · rw [decide_eq_false hh, decide_eq_false (by omega)]
  rw [e]

set_option maxHeartbeats 1000000 in
theorem sizes_ok (x : Site) (w : World) :
    Calls Tryz.prog 65 #[x.val] w fun e W' => e = .returned (.bool (sizesOf x.fh.2.1 x.bh.2.1 x.lh.2.1 x.switches x.rh.2.1 x.kh.2.1 x.hh.2.1)) ∧ Below w.heap.size w W' := by
  obtain ⟨r0, h0⟩ : ∃ r, (inR x.fh.2.1 1 4 : Bool) = r := ⟨_, rfl⟩
  have H0 := Lib.hid h0
  clear h0
  obtain ⟨r1, h1⟩ : ∃ r, (inR x.bh.2.1 1 8 : Bool) = r := ⟨_, rfl⟩
  have H1 := Lib.hid h1
  clear h1
  obtain ⟨r2, h2⟩ : ∃ r, (inR x.lh.2.1 1 4 : Bool) = r := ⟨_, rfl⟩
  have H2 := Lib.hid h2
  clear h2
  obtain ⟨r3, h3⟩ : ∃ r, (inR x.switches 1 8 : Bool) = r := ⟨_, rfl⟩
  have H3 := Lib.hid h3
  clear h3
  obtain ⟨r4, h4⟩ : ∃ r, (inR x.rh.2.1 1 8 : Bool) = r := ⟨_, rfl⟩
  have H4 := Lib.hid h4
  clear h4
  obtain ⟨r5, h5⟩ : ∃ r, (decide ((x.kh.2.1 : Int) ≤ 16) : Bool) = r := ⟨_, rfl⟩
  have H5 := Lib.hid h5
  clear h5
  obtain ⟨r6, h6⟩ : ∃ r, (inR x.hh.2.1 1 16 : Bool) = r := ⟨_, rfl⟩
  have H6 := Lib.hid h6
  clear h6
  go_enter Tryz.func65, Tryz.ntmps65
  go_wp2_with fail
  refine (betw_site x.fh.2.1 1 4 _).mono ?_
  rintro e V ⟨rfl, rfl⟩
  rw [H0.out]
  cases r0
  · have HE := Lib.hid (show sizesOf x.fh.2.1 x.bh.2.1 x.lh.2.1 x.switches x.rh.2.1 x.kh.2.1 x.hh.2.1 = false by unfold sizesOf; simp [H0.out])
    go_wp2_with fail
    go_ret
    exact ⟨by rw [HE.out]; rfl, below_alloc (below_self w) _⟩
  · skip
    go_wp2_with fail
    refine (betw_site x.bh.2.1 1 8 _).mono ?_
    rintro e V ⟨rfl, rfl⟩
    rw [H1.out]
    cases r1
    · have HE := Lib.hid (show sizesOf x.fh.2.1 x.bh.2.1 x.lh.2.1 x.switches x.rh.2.1 x.kh.2.1 x.hh.2.1 = false by unfold sizesOf; simp [H0.out, H1.out])
      go_wp2_with fail
      go_ret
      exact ⟨by rw [HE.out]; rfl, below_alloc (below_self w) _⟩
    · skip
      go_wp2_with fail
      refine (betw_site x.lh.2.1 1 4 _).mono ?_
      rintro e V ⟨rfl, rfl⟩
      rw [H2.out]
      cases r2
      · have HE := Lib.hid (show sizesOf x.fh.2.1 x.bh.2.1 x.lh.2.1 x.switches x.rh.2.1 x.kh.2.1 x.hh.2.1 = false by unfold sizesOf; simp [H0.out, H1.out, H2.out])
        go_wp2_with fail
        go_ret
        exact ⟨by rw [HE.out]; rfl, below_alloc (below_self w) _⟩
      · skip
        go_wp2_with fail
        refine (betw_site x.switches 1 8 _).mono ?_
        rintro e V ⟨rfl, rfl⟩
        rw [H3.out]
        cases r3
        · have HE := Lib.hid (show sizesOf x.fh.2.1 x.bh.2.1 x.lh.2.1 x.switches x.rh.2.1 x.kh.2.1 x.hh.2.1 = false by unfold sizesOf; simp [H0.out, H1.out, H2.out, H3.out])
          go_wp2_with fail
          go_ret
          exact ⟨by rw [HE.out]; rfl, below_alloc (below_self w) _⟩
        · skip
          go_wp2_with fail
          refine (betw_site x.rh.2.1 1 8 _).mono ?_
          rintro e V ⟨rfl, rfl⟩
          rw [H4.out]
          cases r4
          · have HE := Lib.hid (show sizesOf x.fh.2.1 x.bh.2.1 x.lh.2.1 x.switches x.rh.2.1 x.kh.2.1 x.hh.2.1 = false by unfold sizesOf; simp [H0.out, H1.out, H2.out, H3.out, H4.out])
            go_wp2_with fail
            go_ret
            exact ⟨by rw [HE.out]; rfl, below_alloc (below_self w) _⟩
          · skip
            by_cases he : (x.kh.2.1 : Int) ≤ 16
            rotate_left
            · have HE := Lib.hid (show sizesOf x.fh.2.1 x.bh.2.1 x.lh.2.1 x.switches x.rh.2.1 x.kh.2.1 x.hh.2.1 = false by unfold sizesOf; simp [H0.out, H1.out, H2.out, H3.out, H4.out, he])
              have he2 : decide ((x.kh.2.1 : Int) ≤ 16) = false := decide_eq_false he
              go_wp2_with fail
              go_ret
              exact ⟨by rw [HE.out]; rfl, below_alloc (below_self w) _⟩
            · obtain rfl : r5 = true := by rw [← H5.out]; simp [he]
              go_wp2_with fail
              refine (betw_site x.hh.2.1 1 16 _).mono ?_
              rintro e V ⟨rfl, rfl⟩
              rw [H6.out]
              cases r6
              · have HE := Lib.hid (show sizesOf x.fh.2.1 x.bh.2.1 x.lh.2.1 x.switches x.rh.2.1 x.kh.2.1 x.hh.2.1 = false by unfold sizesOf; simp [H0.out, H1.out, H2.out, H3.out, H4.out, H5.out, H6.out])
                go_wp2_with fail
                go_ret
                exact ⟨by rw [HE.out]; rfl, below_alloc (below_self w) _⟩
              · have HE := Lib.hid (show sizesOf x.fh.2.1 x.bh.2.1 x.lh.2.1 x.switches x.rh.2.1 x.kh.2.1 x.hh.2.1 = true by unfold sizesOf; simp [H0.out, H1.out, H2.out, H3.out, H4.out, H5.out, H6.out])
                go_wp2_with fail
                go_ret
                exact ⟨by rw [HE.out]; rfl, below_alloc (below_self w) _⟩

set_option maxHeartbeats 4000000 in
theorem site_ok (x : Site) (w : World) (hx : x.At w) : Calls Tryz.prog 42 #[x.val] w fun e W' => e = .returned (.bool (siteOk x)) ∧ Below w.heap.size w W' := by
  have HS := Lib.hid (siteOk_eq hx)
  have HX := Lib.hid hx
  clear hx
  obtain ⟨r0, h0⟩ : ∃ r, (sizesOf x.fh.2.1 x.bh.2.1 x.lh.2.1 x.switches x.rh.2.1 x.kh.2.1 x.hh.2.1 : Bool) = r := ⟨_, rfl⟩
  have H0 := Lib.hid h0
  clear h0
  obtain ⟨r1, h1⟩ : ∃ r, (x.feeds.all okFd : Bool) = r := ⟨_, rfl⟩
  have H1 := Lib.hid h1
  clear h1
  obtain ⟨r2, h2⟩ : ∃ r, (x.brks.all (okBk x.fh.2.1) : Bool) = r := ⟨_, rfl⟩
  have H2 := Lib.hid h2
  clear h2
  obtain ⟨r3, h3⟩ : ∃ r, (x.loops.all okLp : Bool) = r := ⟨_, rfl⟩
  have H3 := Lib.hid h3
  clear h3
  obtain ⟨r4, h4⟩ : ∃ r, (x.racks.all (okRk x.bh.2.1 x.lh.2.1 x.switches) : Bool) = r := ⟨_, rfl⟩
  have H4 := Lib.hid h4
  clear h4
  obtain ⟨r5, h5⟩ : ∃ r, (x.links.all (okLk x.switches) : Bool) = r := ⟨_, rfl⟩
  have H5 := Lib.hid h5
  clear h5
  obtain ⟨r6, h6⟩ : ∃ r, (x.hosts.all (okHo x.rh.2.1) : Bool) = r := ⟨_, rfl⟩
  have H6 := Lib.hid h6
  clear h6
  go_enter Tryz.func42, Tryz.ntmps42
  go_wp2_with fail
  obtain ⟨A, hA⟩ : ∃ W' : World, (w.alloc (.cells x.cells.toArray 29)) = W' := ⟨_, rfl⟩
  have h : Has A [(w.heap.size, .cells x.cells.toArray 29 (0, 0))] := by rw [← hA]; simpa using ((Has.nil w).new _)
  have s : A.heap.size = w.heap.size + 1 := by rw [← hA]; simp
  have b : Below w.heap.size w A := by rw [← hA]; exact (below_alloc (below_self w) _)
  rw [hA]
  clear hA
  have HV := Lib.hid (And.intro h.hd (And.intro b (HX.out.later b)))
  have hlt : w.heap.size < A.heap.size := blk_lt h.hd
  clear h s b
  refine (sizes_ok x A).mono ?_
  rintro e V0 ⟨rfl, hb⟩
  rw [H0.out]
  have HV0 := Lib.hid (And.intro (blk_below HV.out.1 hb) (And.intro (below_trans HV.out.2.1 hb) (HV.out.2.2.later hb)))
  clear hb hlt HV
  cases r0
  · have HE := Lib.hid (show siteOk x = false by rw [HS.out]; simp [H0.out])
    go_wp2_with fail
    go_ret
    exact ⟨by rw [HE.out]; rfl, HV0.out.2.1⟩
  · skip
    have c : _ = some (Value.slice x.fh.1 x.fh.2.1 x.fh.2.2) := (blk_cell HV0.out.1 0).trans rfl
    have cl := blk_lt HV0.out.1
    go_wp2_with fail
    refine (containsFd_ok 66 #[] (fun y => !okFd y) x.fh.1 x.fh.2.1 x.fh.2.2 x.feeds _ HV0.out.2.2.feeds.len HV0.out.2.2.feeds.le HV0.out.2.2.feeds.rows (fun W y _ => feedbad_ok y W) (enters_of Tryz.func66 (by kernel_rfl) rfl)).mono ?_
    rintro e V1 ⟨rfl, hb⟩
    rw [any_all (okFd), H1.out]
    have HV1 := Lib.hid (And.intro (blk_below HV0.out.1 hb) (And.intro (below_trans HV0.out.2.1 hb) (HV0.out.2.2.later hb)))
    clear c cl hb HV0
    cases r1
    · have HE := Lib.hid (show siteOk x = false by rw [HS.out]; simp [H0.out, H1.out])
      go_wp2_with fail
      go_ret
      exact ⟨by rw [HE.out]; rfl, HV1.out.2.1⟩
    · skip
      have c : _ = some (Value.slice x.bh.1 x.bh.2.1 x.bh.2.2) := (blk_cell HV1.out.1 1).trans rfl
      have cl := blk_lt HV1.out.1
      go_wp2_with fail
      refine (containsBk_ok 68 #[.pointer (some ⟨w.heap.size, 0, none⟩)] (fun y => !okBk x.fh.2.1 y) x.bh.1 x.bh.2.1 x.bh.2.2 x.brks _ HV1.out.2.2.brks.len HV1.out.2.2.brks.le HV1.out.2.2.brks.rows (fun W y hb => brkbad_ok y w.heap.size x.fh W (Nat.lt_of_lt_of_le (blk_lt HV1.out.1) hb.size) ((blk_cell (blk_below HV1.out.1 hb) 0).trans rfl)) (enters_of Tryz.func68 (by kernel_rfl) rfl)).mono ?_
      rintro e V2 ⟨rfl, hb⟩
      rw [any_all (okBk x.fh.2.1), H2.out]
      have HV2 := Lib.hid (And.intro (blk_below HV1.out.1 hb) (And.intro (below_trans HV1.out.2.1 hb) (HV1.out.2.2.later hb)))
      clear c cl hb HV1
      cases r2
      · have HE := Lib.hid (show siteOk x = false by rw [HS.out]; simp [H0.out, H1.out, H2.out])
        go_wp2_with fail
        go_ret
        exact ⟨by rw [HE.out]; rfl, HV2.out.2.1⟩
      · skip
        have c : _ = some (Value.slice x.lh.1 x.lh.2.1 x.lh.2.2) := (blk_cell HV2.out.1 2).trans rfl
        have cl := blk_lt HV2.out.1
        go_wp2_with fail
        refine (containsLp_ok 70 #[] (fun y => !okLp y) x.lh.1 x.lh.2.1 x.lh.2.2 x.loops _ HV2.out.2.2.loops.len HV2.out.2.2.loops.le HV2.out.2.2.loops.rows (fun W y _ => loopbad_ok y W) (enters_of Tryz.func70 (by kernel_rfl) rfl)).mono ?_
        rintro e V3 ⟨rfl, hb⟩
        rw [any_all (okLp), H3.out]
        have HV3 := Lib.hid (And.intro (blk_below HV2.out.1 hb) (And.intro (below_trans HV2.out.2.1 hb) (HV2.out.2.2.later hb)))
        clear c cl hb HV2
        cases r3
        · have HE := Lib.hid (show siteOk x = false by rw [HS.out]; simp [H0.out, H1.out, H2.out, H3.out])
          go_wp2_with fail
          go_ret
          exact ⟨by rw [HE.out]; rfl, HV3.out.2.1⟩
        · skip
          have c : _ = some (Value.slice x.rh.1 x.rh.2.1 x.rh.2.2) := (blk_cell HV3.out.1 3).trans rfl
          have cl := blk_lt HV3.out.1
          go_wp2_with fail
          refine (containsRk_ok 72 #[.pointer (some ⟨w.heap.size, 0, none⟩)] (fun y => !okRk x.bh.2.1 x.lh.2.1 x.switches y) x.rh.1 x.rh.2.1 x.rh.2.2 x.racks _ HV3.out.2.2.racks.len HV3.out.2.2.racks.le HV3.out.2.2.racks.rows (fun W y hb => rackbad_ok y w.heap.size x.bh x.lh x.switches W (Nat.lt_of_lt_of_le (blk_lt HV3.out.1) hb.size) ((blk_cell (blk_below HV3.out.1 hb) 1).trans rfl) ((blk_cell (blk_below HV3.out.1 hb) 2).trans rfl) ((blk_cell (blk_below HV3.out.1 hb) 4).trans rfl)) (enters_of Tryz.func72 (by kernel_rfl) rfl)).mono ?_
          rintro e V4 ⟨rfl, hb⟩
          rw [any_all (okRk x.bh.2.1 x.lh.2.1 x.switches), H4.out]
          have HV4 := Lib.hid (And.intro (blk_below HV3.out.1 hb) (And.intro (below_trans HV3.out.2.1 hb) (HV3.out.2.2.later hb)))
          clear c cl hb HV3
          cases r4
          · have HE := Lib.hid (show siteOk x = false by rw [HS.out]; simp [H0.out, H1.out, H2.out, H3.out, H4.out])
            go_wp2_with fail
            go_ret
            exact ⟨by rw [HE.out]; rfl, HV4.out.2.1⟩
          · skip
            have c : _ = some (Value.slice x.kh.1 x.kh.2.1 x.kh.2.2) := (blk_cell HV4.out.1 5).trans rfl
            have cl := blk_lt HV4.out.1
            go_wp2_with fail
            refine (containsLk_ok 73 #[.pointer (some ⟨w.heap.size, 0, none⟩)] (fun y => !okLk x.switches y) x.kh.1 x.kh.2.1 x.kh.2.2 x.links _ HV4.out.2.2.links.len HV4.out.2.2.links.le HV4.out.2.2.links.rows (fun W y hb => linkbad_ok y w.heap.size x.switches W (Nat.lt_of_lt_of_le (blk_lt HV4.out.1) hb.size) ((blk_cell (blk_below HV4.out.1 hb) 4).trans rfl)) (enters_of Tryz.func73 (by kernel_rfl) rfl)).mono ?_
            rintro e V5 ⟨rfl, hb⟩
            rw [any_all (okLk x.switches), H5.out]
            have HV5 := Lib.hid (And.intro (blk_below HV4.out.1 hb) (And.intro (below_trans HV4.out.2.1 hb) (HV4.out.2.2.later hb)))
            clear c cl hb HV4
            cases r5
            · have HE := Lib.hid (show siteOk x = false by rw [HS.out]; simp [H0.out, H1.out, H2.out, H3.out, H4.out, H5.out])
              go_wp2_with fail
              go_ret
              exact ⟨by rw [HE.out]; rfl, HV5.out.2.1⟩
            · skip
              have c : _ = some (Value.slice x.hh.1 x.hh.2.1 x.hh.2.2) := (blk_cell HV5.out.1 6).trans rfl
              have cl := blk_lt HV5.out.1
              go_wp2_with fail
              refine (containsHo_ok 74 #[.pointer (some ⟨w.heap.size, 0, none⟩)] (fun y => !okHo x.rh.2.1 y) x.hh.1 x.hh.2.1 x.hh.2.2 x.hosts _ HV5.out.2.2.hosts.len HV5.out.2.2.hosts.le HV5.out.2.2.hosts.rows (fun W y hb => hostbad_ok y w.heap.size x.rh W (Nat.lt_of_lt_of_le (blk_lt HV5.out.1) hb.size) ((blk_cell (blk_below HV5.out.1 hb) 3).trans rfl)) (enters_of Tryz.func74 (by kernel_rfl) rfl)).mono ?_
              rintro e V6 ⟨rfl, hb⟩
              rw [any_all (okHo x.rh.2.1), H6.out]
              have HV6 := Lib.hid (And.intro (blk_below HV5.out.1 hb) (And.intro (below_trans HV5.out.2.1 hb) (HV5.out.2.2.later hb)))
              clear c cl hb HV5
              cases r6
              · have HE := Lib.hid (show siteOk x = false by rw [HS.out]; simp [H0.out, H1.out, H2.out, H3.out, H4.out, H5.out, H6.out])
                go_wp2_with fail
                go_ret
                exact ⟨by rw [HE.out]; rfl, HV6.out.2.1⟩
              · have HE := Lib.hid (show siteOk x = true by rw [HS.out]; simp [H0.out, H1.out, H2.out, H3.out, H4.out, H5.out, H6.out])
                go_wp2_with fail
                go_ret
                exact ⟨by rw [HE.out]; rfl, HV6.out.2.1⟩
end Go.Proofs.YthlefdbhkbpejaaGreat
