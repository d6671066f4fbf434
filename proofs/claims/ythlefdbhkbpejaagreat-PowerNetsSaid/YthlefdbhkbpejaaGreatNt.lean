/- Chapter 14: power.Net (written by wip/gen14net.py). -/
import Derived.Test.YthlefdbhkbpejaaGreatNtA
namespace Go.Proofs.YthlefdbhkbpejaaGreat
open Go Go.RowKit F5
set_option linter.unusedSimpArgs false

theorem news_one {W : World} {B : Nat} {a b c : Int} {t : TypeId} {fr : Nat × Nat} (h : W.heap[B]? = some (.cells #[.int .i64 a, .int .i64 b, .int .i64 c] t fr)) : ∀ j u, (flatA [⟨a, b, c⟩])[j]? = some u → W.cell? ((⟨B, 0, none⟩ : Addr).add j) = some u := World.news_of_block h

set_option maxRecDepth 10000 in
set_option maxHeartbeats 8000000 in
theorem net_ok (s : Site) (x : Wish) (v : Wld) (w : World) (hs : s.At w) (hx : x.At w) (hv : v.At w) :
    Calls Tryz.prog 16 #[s.val, x.val, v.val] w fun e W' => ∃ a k c, e = .returned (.agg #[.int .i64 (netN s x v), .slice a k c]) ∧ OwnA w.heap.size W' a k c (netL s x v) ∧ Below w.heap.size w W' := by
  have HI := Lib.hid (And.intro hs (And.intro hx hv))
  have HN := Lib.hid (And.intro (show s.feeds.length = s.fh.2.1 from hs.feeds.len) (And.intro (show s.brks.length = s.bh.2.1 from hs.brks.len) (show s.racks.length = s.rh.2.1 from hs.racks.len)))
  clear hs hx hv
  go_enter Tryz.func16, Tryz.ntmps16
  go_wp2_with fail
  obtain ⟨A, hA⟩ : ∃ W' : World, ((((w.alloc (.cells s.cells.toArray 29)).alloc (.cells x.cells.toArray 32)).alloc (.cells v.cells.toArray 36)).alloc (.cells #[.int .i64 0, .slice none 0 0] 44)) = W' := ⟨_, rfl⟩
  have h : Has A [(w.heap.size + 1 + 1 + 1, .cells #[.int .i64 0, .slice none 0 0] 44 (0, 0)), (w.heap.size + 1 + 1, .cells v.cells.toArray 36 (0, 0)), (w.heap.size + 1, .cells x.cells.toArray 32 (0, 0)), (w.heap.size, .cells s.cells.toArray 29 (0, 0))] := by rw [← hA]; simpa using (((((Has.nil w).new _).new _).new _).new _)
  have z : A.heap.size = w.heap.size + 1 + 1 + 1 + 1 := by rw [← hA]; simp
  have b : Below w.heap.size w A := by rw [← hA]; exact (below_alloc (below_alloc (below_alloc (below_alloc (below_self w) _) _) _) _)
  rw [hA]
  clear hA
  have HA := Lib.hid (And.intro (show VB w s x v A from ⟨h.tl.tl.tl.hd, h.tl.tl.hd, h.tl.hd, b⟩) (And.intro h.hd z))
  clear h z b
  refine (world_ok s x v A (HI.out.1.later HA.out.1.bel) (HI.out.2.1.later HA.out.1.bel) (HI.out.2.2.later HA.out.1.bel)).mono ?_
  rintro e B ⟨rfl, b⟩
  have HB := Lib.hid (And.intro (HA.out.1.later b) (And.intro (blk_below HA.out.2.1 b) (show w.heap.size + 3 < B.heap.size by have := b.size; have := HA.out.2.2; omega)))
  clear b HA
  cases hok : worldOk s x v
  · have HE := Lib.hid (show netN s x v = 0 ∧ netL s x v = [] by unfold netN netL; rw [hok]; exact ⟨rfl, rfl⟩)
    clear hok
    have r0 : B.cell? ⟨w.heap.size + 1 + 1 + 1, 0, none⟩ = some (.int .i64 0) := (blk_cell HB.out.2.1 0).trans rfl
    have r1 : B.cell? ⟨w.heap.size + 1 + 1 + 1, 1, none⟩ = some (.slice none 0 0) := (blk_cell HB.out.2.1 1).trans rfl
    have f0 := blk_frozen HB.out.2.1 0
    have f1 := blk_frozen HB.out.2.1 1
    have dl := blk_lt HB.out.2.1
    go_wp2_with fail
    (try simp only [Exit.inBlock, Exit.then]); refine bodyPost_ret (results_cell_row rfl _ _ (w.heap.size + 3) 44 #[.int .i64 0, .slice none 0 0] (0, 0) _ rfl (blk_set_two HB.out.2.1) Tryz.underlying44 rfl net_info) rfl ?_
    rw [HE.out.1, HE.out.2]
    exact ⟨none, 0, 0, rfl, OwnA.nil _ _, (HB.out.1.bel.setCell (by simp only; omega) _).setCell (by simp only; omega) _⟩
  · have HO := Lib.hid hok
    have hso := worldOk_site hok
    have hz := siteOk_sizes hso
    have hn := siteOk_nums hso
    have hr1 : 1 ≤ s.racks.length ∧ s.racks.length ≤ 16 := by omega
    rw [HN.out.1, HN.out.2.1] at hn
    rw [HN.out.2.2] at hr1
    have hE1 : netN s x v = 2 + (s.fh.2.1 : Int) + (s.bh.2.1 : Int) + (s.rh.2.1 : Int) := by
      unfold netN
      rw [if_pos hok]
      show ((2 + s.feeds.length + s.brks.length + s.racks.length : Nat) : Int) = _
      rw [HN.out.1, HN.out.2.1, HN.out.2.2]
      omega
    have hE2 : netL s x v = (pnOf s x v).arcs := by unfold netL; rw [if_pos hok]
    have HE := Lib.hid (And.intro hE1 hE2)
    obtain ⟨P, hP⟩ : ∃ P, pnOf s x v = P := ⟨_, rfl⟩
    have hp := pn_ok hok
    rw [hP] at hp
    have q1 : P.nf = s.fh.2.1 := by rw [← hP]; exact HN.out.1
    have q2 : P.nb = s.bh.2.1 := by rw [← hP]; exact HN.out.2.1
    have q3 : P.nr = s.rh.2.1 := by rw [← hP]; exact HN.out.2.2
    have q4 : ∀ i, P.lf i = (s.feeds.getD i default).limit := fun i => by rw [← hP]; rfl
    have q5 : ∀ i, P.lb i = (s.brks.getD i default).limit := fun i => by rw [← hP]; rfl
    have q6 : ∀ i, P.ld i = ofRack s x v i := fun i => by rw [← hP]; rfl
    have q7 : ∀ i, i < s.bh.2.1 → (s.brks.getD i default).feed = (P.bf i : Int) := fun i hi => by
      have := (siteOk_brk hso (i := i) (by rw [HN.out.2.1]; exact hi)).1
      rw [← hP]
      show _ = ((feedI s i : Nat) : Int)
      unfold feedI
      omega
    have q8 : ∀ i, i < s.rh.2.1 → (s.racks.getD i default).brk = (P.rb i : Int) := fun i hi => by
      have := siteOk_rack hso (i := i) (by rw [HN.out.2.2]; exact hi)
      rw [← hP]
      show _ = ((brkI s i : Nat) : Int)
      unfold brkI
      omega
    have HQ := Lib.hid (And.intro q1 (And.intro q2 (And.intro q3 (And.intro q4 (And.intro q5 (And.intro q6 (And.intro q7 (And.intro q8 hp))))))))
    rw [hP] at HE
    clear hok hso hz hE1 hE2 hP hp q1 q2 q3 q4 q5 q6 q7 q8
    have hw1 : IntKind.i64.wrap (2 + (s.fh.2.1 : Int)) = 2 + (s.fh.2.1 : Int) := IntWalk.i64_in _ (by omega)
    have hw2 : IntKind.i64.wrap (2 + (s.fh.2.1 : Int) + (s.bh.2.1 : Int)) = 2 + (s.fh.2.1 : Int) + (s.bh.2.1 : Int) := IntWalk.i64_in _ (by omega)
    have hw3 : IntKind.i64.wrap (2 + (s.fh.2.1 : Int) + (s.bh.2.1 : Int) + (s.rh.2.1 : Int)) = 2 + (s.fh.2.1 : Int) + (s.bh.2.1 : Int) + (s.rh.2.1 : Int) := IntWalk.i64_in _ (by omega)
    have d0 : B.cell? ⟨w.heap.size, 0, none⟩ = some (.slice s.fh.1 s.fh.2.1 s.fh.2.2) := (blk_cell HB.out.1.si 0).trans rfl
    have d1 : B.cell? ⟨w.heap.size, 1, none⟩ = some (.slice s.bh.1 s.bh.2.1 s.bh.2.2) := (blk_cell HB.out.1.si 1).trans rfl
    have d3 : B.cell? ⟨w.heap.size, 3, none⟩ = some (.slice s.rh.1 s.rh.2.1 s.rh.2.2) := (blk_cell HB.out.1.si 3).trans rfl
    have dlsi := blk_lt HB.out.1.si
    have dlwi := blk_lt HB.out.1.wi
    have dlwo := blk_lt HB.out.1.wo
    go_upto_region 6 with fail
    have b1 := below_alloc (below_self B) (.cells #[.int .i64 (2 + (s.fh.2.1 : Int) + (s.bh.2.1 : Int) + (s.rh.2.1 : Int)), .slice none 0 0] 44)
    have HC := Lib.hid (show NJ w s x v B.heap.size (2 + (s.fh.2.1 : Int) + (s.bh.2.1 : Int) + (s.rh.2.1 : Int)) none 0 0 [] (B.alloc (.cells #[.int .i64 (2 + (s.fh.2.1 : Int) + (s.bh.2.1 : Int) + (s.rh.2.1 : Int)), .slice none 0 0] 44)) from ⟨HB.out.1.later b1, blk_below HB.out.2.1 b1, blk_new B _, OwnA.nil _ _, HB.out.2.2⟩)
    clear b1 d0 d1 d3 dlsi dlwi dlwo HB
    generalize B.alloc _ = C at HC ⊢
    generalize B.heap.size = bN at HC ⊢
    obtain ⟨NN, hNN⟩ : ∃ NN, 2 + (s.fh.2.1 : Int) + (s.bh.2.1 : Int) + (s.rh.2.1 : Int) = NN := ⟨_, rfl⟩
    rw [hNN] at HE HC
    clear hNN hw3
    have d0 : C.cell? ⟨w.heap.size, 0, none⟩ = some (.slice s.fh.1 s.fh.2.1 s.fh.2.2) := (blk_cell HC.out.vb.si 0).trans rfl
    have dlsi := blk_lt HC.out.vb.si
    have dlwi := blk_lt HC.out.vb.wi
    have dlwo := blk_lt HC.out.vb.wo
    go_wp2_with fail
    clear d0 dlsi dlwi dlwo
    go_loopw [42] (fun i wr => ∃ (k : Nat) (X : World) (av : Option Addr) (cv : Nat), k ≤ s.fh.2.1 ∧ i = .int .i64 k ∧ X = wr ∧ Hid (NJ w s x v bN NN av k cv (P.a1 k) X)) (fun i _ => s.fh.2.1 - (intOf i).toNat)
    case atStart => exact ⟨0, _, _, _, Nat.zero_le _, rfl, rfl, HC⟩
    case round =>
      clear HC
      obtain ⟨k, X, av, cv, hk, rfl, rfl, HX⟩ := hrel
      by_cases hlt : k < s.fh.2.1
      · have hltI : (k : Int) < (s.fh.2.1 : Int) := by omega
        have hwk : IntKind.i64.wrap (2 + (k : Int)) = 2 + (k : Int) := IntWalk.i64_in _ (by omega)
        obtain ⟨b1, o1, q1, hb1, p0⟩ := fds_at (HI.out.1.later HX.out.vb.bel).feeds.rows k (by rw [HN.out.1]; exact hlt)
        have hA := a1_succ P k
        rw [HQ.out.2.2.2.1 k] at hA
        generalize (s.feeds.getD k default).limit = g at p0 hA
        have HAS := Lib.hid hA
        have kl := blk_lt HX.out.box
        rw [q1]
        clear hA q1
        go_wp2_with fail
        obtain ⟨D, hD⟩ : ∃ W' : World, ((X.alloc (.cells #[.int .i64 g] 65)).alloc (.cells #[.int .i64 0, .int .i64 (2 + (k : Int)), .int .i64 g] 63)) = W' := ⟨_, rfl⟩
        have h : Has D [(X.heap.size + 1, .cells #[.int .i64 0, .int .i64 (2 + (k : Int)), .int .i64 g] 63 (0, 0)), (X.heap.size, .cells #[.int .i64 g] 65 (0, 0))] := by rw [← hD]; simpa using (((Has.nil X).new _).new _)
        have z : D.heap.size = X.heap.size + 1 + 1 := by rw [← hD]; simp
        have b : Below X.heap.size X D := by rw [← hD]; exact (below_alloc (below_alloc (below_self X) _) _)
        rw [hD]
        clear hD
        have HD := Lib.hid (And.intro (HX.out.later b) h.hd)
        clear h z b HX kl p0 hb1
        refine (join_ok bN NN av k cv (P.a1 k) ⟨X.heap.size + 1, 0, none⟩ 1 1 [⟨0, 2 + (k : Int), g⟩] D HD.out.1.box HD.out.1.own rfl (by omega) (by omega) (news_one HD.out.2)).mono ?_
        rintro e Y ⟨rfl, hj⟩
        obtain ⟨a9, c9, hn9, _⟩ := HD.out.1.join rfl hj
        rw [← HAS.out] at hn9
        have HY := Lib.hid hn9
        clear hj HD HAS hn9
        go_wp2_with fail
        go_roundw
        case rel => exact ⟨k + 1, Y, _, _, by omega, by go_num, rfl, HY⟩
        case measure => simp [intOf]; omega
      · have hltI : ¬ (k : Int) < (s.fh.2.1 : Int) := by omega
        have hke : k = P.nf := by rw [HQ.out.1]; omega
        rw [show P.a1 k = P.a1 P.nf ++ P.a2 0 by rw [hke]; simp [Pn.a2]] at HX
        have HX := Lib.hid (show NJ w s x v bN NN av (s.fh.2.1 + 0) cv (P.a1 P.nf ++ P.a2 0) X by rw [show s.fh.2.1 + 0 = k by omega]; exact HX.out)
        clear hke hk hlt
        have d1 : X.cell? ⟨w.heap.size, 1, none⟩ = some (.slice s.bh.1 s.bh.2.1 s.bh.2.2) := (blk_cell HX.out.vb.si 1).trans rfl
        have dlsi := blk_lt HX.out.vb.si
        have dlwi := blk_lt HX.out.vb.wi
        have dlwo := blk_lt HX.out.vb.wo
        go_wp2_with fail
        clear d1 dlsi dlwi dlwo
        go_loopw [58] (fun i wr => ∃ (k : Nat) (X : World) (av : Option Addr) (cv : Nat), k ≤ s.bh.2.1 ∧ i = .int .i64 k ∧ X = wr ∧ Hid (NJ w s x v bN NN av (s.fh.2.1 + k) cv (P.a1 P.nf ++ P.a2 k) X)) (fun i _ => s.bh.2.1 - (intOf i).toNat)
        case atStart => exact ⟨0, _, _, _, Nat.zero_le _, rfl, rfl, HX⟩
        case round =>
          clear HX hltI
          obtain ⟨k, X, av, cv, hk, rfl, rfl, HX⟩ := hrel
          by_cases hlt : k < s.bh.2.1
          · have hltI : (k : Int) < (s.bh.2.1 : Int) := by omega
            obtain ⟨b1, o1, q1, hb1, p0, p1, p2, p3⟩ := bks_at (HI.out.1.later HX.out.vb.bel).brks.rows k (by rw [HN.out.2.1]; exact hlt)
            have hA := a2_succ P k
            rw [HQ.out.2.2.2.2.1 k, HQ.out.1] at hA
            rw [HQ.out.2.2.2.2.2.2.1 k hlt] at p0
            have hbf : P.bf k < 4 := by have := HQ.out.2.2.2.2.2.2.2.2.bf k (by rw [HQ.out.2.1]; exact hlt); rw [HQ.out.1] at this; omega
            generalize P.bf k = j at p0 hA hbf
            generalize s.brks.getD k default = y at p1 p2 p3 hA
            obtain ⟨yf, g, ys, yt⟩ := y
            simp only at p1 p2 p3 hA
            have HAS := Lib.hid hA
            have hwj : IntKind.i64.wrap (2 + (j : Int)) = 2 + (j : Int) := IntWalk.i64_in _ (by omega)
            have hwk : IntKind.i64.wrap (2 + (s.fh.2.1 : Int) + (k : Int)) = 2 + (s.fh.2.1 : Int) + (k : Int) := IntWalk.i64_in _ (by omega)
            have kl := blk_lt HX.out.box
            rw [q1]
            clear hA q1 hbf
            go_wp2_with fail
            obtain ⟨D, hD⟩ : ∃ W' : World, ((X.alloc (.cells #[.int .i64 j, .int .i64 g, .int .i64 ys, .int .i64 yt] 61)).alloc (.cells #[.int .i64 (2 + (j : Int)), .int .i64 (2 + (s.fh.2.1 : Int) + (k : Int)), .int .i64 g] 63)) = W' := ⟨_, rfl⟩
            have h : Has D [(X.heap.size + 1, .cells #[.int .i64 (2 + (j : Int)), .int .i64 (2 + (s.fh.2.1 : Int) + (k : Int)), .int .i64 g] 63 (0, 0)), (X.heap.size, .cells #[.int .i64 j, .int .i64 g, .int .i64 ys, .int .i64 yt] 61 (0, 0))] := by rw [← hD]; simpa using (((Has.nil X).new _).new _)
            have z : D.heap.size = X.heap.size + 1 + 1 := by rw [← hD]; simp
            have b : Below X.heap.size X D := by rw [← hD]; exact (below_alloc (below_alloc (below_self X) _) _)
            rw [hD]
            clear hD
            have HD := Lib.hid (And.intro (HX.out.later b) h.hd)
            clear h z b HX kl p0 p1 p2 p3 hb1
            refine (join_ok bN NN av (s.fh.2.1 + k) cv (P.a1 P.nf ++ P.a2 k) ⟨X.heap.size + 1, 0, none⟩ 1 1 [⟨2 + (j : Int), 2 + (s.fh.2.1 : Int) + (k : Int), g⟩] D HD.out.1.box HD.out.1.own rfl (by omega) (by omega) (news_one HD.out.2)).mono ?_
            rintro e Y ⟨rfl, hj⟩
            obtain ⟨a9, c9, hn9, _⟩ := HD.out.1.join rfl hj
            rw [List.append_assoc, ← HAS.out] at hn9
            have HY := Lib.hid hn9
            clear hj HD HAS hn9
            go_wp2_with fail
            go_roundw
            case rel => exact ⟨k + 1, Y, _, _, by omega, by go_num, rfl, HY⟩
            case measure => simp [intOf]; omega
          · have hltI : ¬ (k : Int) < (s.bh.2.1 : Int) := by omega
            have hke : k = P.nb := by rw [HQ.out.2.1]; omega
            have HK := Lib.hid (show NK w s x v bN NN av (s.fh.2.1 + s.bh.2.1 + 0) cv (P.a1 P.nf ++ (P.a2 P.nb ++ P.a3 0)) none 0 0 (P.a4 0) X from ⟨by rw [show P.a3 0 = [] from rfl, List.append_nil, ← hke, show s.fh.2.1 + s.bh.2.1 + 0 = s.fh.2.1 + k by omega]; exact HX.out, OwnA.nil _ _, fun g h => by cases h⟩)
            clear hke hk hlt HX
            have d3 : X.cell? ⟨w.heap.size, 3, none⟩ = some (.slice s.rh.1 s.rh.2.1 s.rh.2.2) := (blk_cell HK.out.nj.vb.si 3).trans rfl
            have dlsi := blk_lt HK.out.nj.vb.si
            have dlwi := blk_lt HK.out.nj.vb.wi
            have dlwo := blk_lt HK.out.nj.vb.wo
            go_wp2_with fail
            clear d3 dlsi dlwi dlwo
            go_loopw [14, 78] (fun sv i wr => ∃ (k : Nat) (X : World) (av : Option Addr) (cv : Nat) (sa : Option Addr) (sc : Nat), k ≤ s.rh.2.1 ∧ sv = .slice sa k sc ∧ i = .int .i64 k ∧ X = wr ∧ Hid (NK w s x v bN NN av (s.fh.2.1 + s.bh.2.1 + k) cv (P.a1 P.nf ++ (P.a2 P.nb ++ P.a3 k)) sa k sc (P.a4 k) X)) (fun _ i _ => s.rh.2.1 - (intOf i).toNat)
            case atStart => exact ⟨0, _, _, _, _, _, Nat.zero_le _, rfl, rfl, rfl, HK⟩
            case round =>
              clear HK hltI
              obtain ⟨k, X, av, cv, sa, sc, hk, rfl, rfl, rfl, HX⟩ := hrel
              by_cases hlt : k < s.rh.2.1
              · have hltI : (k : Int) < (s.rh.2.1 : Int) := by omega
                obtain ⟨b1, o1, q1, hb1, p0, p1, p2, p3⟩ := rks_at (HI.out.1.later HX.out.nj.vb.bel).racks.rows k (by rw [HN.out.2.2]; exact hlt)
                have hA := a3_succ P k
                have hA4 := a4_succ P k
                rw [HQ.out.2.2.2.2.2.1 k, HQ.out.1, HQ.out.2.1] at hA hA4
                rw [HQ.out.2.2.2.2.2.2.2.1 k hlt] at p1
                have hrb : P.rb k < 8 := by have := HQ.out.2.2.2.2.2.2.2.2.rb k (by rw [HQ.out.2.2.1]; exact hlt); rw [HQ.out.2.1] at this; omega
                generalize P.rb k = j at p1 hA hrb
                generalize s.racks.getD k default = y at p0 p2 p3
                obtain ⟨yr, yb, yl, ysw⟩ := y
                simp only at p0 p2 p3
                obtain ⟨g, hg⟩ : ∃ g, ofRack s x v k = g := ⟨_, rfl⟩
                rw [hg] at hA hA4
                have HAS := Lib.hid (And.intro hA (And.intro hA4 hg))
                have hwj : IntKind.i64.wrap (2 + (s.fh.2.1 : Int) + (j : Int)) = 2 + (s.fh.2.1 : Int) + (j : Int) := IntWalk.i64_in _ (by omega)
                have hwk : IntKind.i64.wrap (2 + (s.fh.2.1 : Int) + (s.bh.2.1 : Int) + (k : Int)) = 2 + (s.fh.2.1 : Int) + (s.bh.2.1 : Int) + (k : Int) := IntWalk.i64_in _ (by omega)
                have kl := blk_lt HX.out.nj.box
                rw [q1]
                clear hA hA4 hg q1 hrb
                go_upto_region 20 with fail
                obtain ⟨D, hD⟩ : ∃ W' : World, (X.alloc (.cells #[.int .i64 yr, .int .i64 j, .int .i64 yl, .int .i64 ysw] 59)) = W' := ⟨_, rfl⟩
                have h : Has D [(X.heap.size, .cells #[.int .i64 yr, .int .i64 j, .int .i64 yl, .int .i64 ysw] 59 (0, 0))] := by rw [← hD]; simpa using ((Has.nil X).new _)
                have z : D.heap.size = X.heap.size + 1 := by rw [← hD]; simp
                have b : Below X.heap.size X D := by rw [← hD]; exact (below_alloc (below_self X) _)
                rw [hD]
                clear hD
                have HD := Lib.hid (And.intro (HX.out.later b) (And.intro h.hd z))
                clear h z b HX kl p0 p1 p2 p3 hb1
                have d0 : D.cell? ⟨w.heap.size, 0, none⟩ = some (.slice s.fh.1 s.fh.2.1 s.fh.2.2) := (blk_cell HD.out.1.nj.vb.si 0).trans rfl
                have d1 : D.cell? ⟨w.heap.size, 1, none⟩ = some (.slice s.bh.1 s.bh.2.1 s.bh.2.2) := (blk_cell HD.out.1.nj.vb.si 1).trans rfl
                have d2 : D.cell? ⟨w.heap.size, 2, none⟩ = some (.slice s.lh.1 s.lh.2.1 s.lh.2.2) := (blk_cell HD.out.1.nj.vb.si 2).trans rfl
                have d3 : D.cell? ⟨w.heap.size, 3, none⟩ = some (.slice s.rh.1 s.rh.2.1 s.rh.2.2) := (blk_cell HD.out.1.nj.vb.si 3).trans rfl
                have d4 : D.cell? ⟨w.heap.size, 4, none⟩ = some (.int .i64 s.switches) := (blk_cell HD.out.1.nj.vb.si 4).trans rfl
                have d5 : D.cell? ⟨w.heap.size, 5, none⟩ = some (.slice s.kh.1 s.kh.2.1 s.kh.2.2) := (blk_cell HD.out.1.nj.vb.si 5).trans rfl
                have d6 : D.cell? ⟨w.heap.size, 6, none⟩ = some (.slice s.hh.1 s.hh.2.1 s.hh.2.2) := (blk_cell HD.out.1.nj.vb.si 6).trans rfl
                have d7 : D.cell? ⟨w.heap.size + 1, 0, none⟩ = some (.slice x.sh.1 x.sh.2.1 x.sh.2.2) := (blk_cell HD.out.1.nj.vb.wi 0).trans rfl
                have d8 : D.cell? ⟨w.heap.size + 1 + 1, 0, none⟩ = some (.slice v.hh.1 v.hh.2.1 v.hh.2.2) := (blk_cell HD.out.1.nj.vb.wo 0).trans rfl
                have d9 : D.cell? ⟨w.heap.size + 1 + 1, 1, none⟩ = some (.slice v.rh.1 v.rh.2.1 v.rh.2.2) := (blk_cell HD.out.1.nj.vb.wo 1).trans rfl
                have dlsi := blk_lt HD.out.1.nj.vb.si
                have dlwi := blk_lt HD.out.1.nj.vb.wi
                have dlwo := blk_lt HD.out.1.nj.vb.wo
                go_wp2_with fail
                refine (ofrack_ok s x v k D (HI.out.1.later HD.out.1.nj.vb.bel) (HI.out.2.1.later HD.out.1.nj.vb.bel) (HI.out.2.2.later HD.out.1.nj.vb.bel)).mono ?_
                rintro e E ⟨rfl, b⟩
                rw [HAS.out.2.2]
                have HE2 := Lib.hid (And.intro (HD.out.1.later b) (blk_below HD.out.2.1 b))
                clear b HD d0 d1 d2 d3 d4 d5 d6 d7 d8 d9 dlsi dlwi dlwo
                have r1 : E.cell? ⟨X.heap.size, 1, none⟩ = some (.int .i64 j) := (blk_cell HE2.out.2 1).trans rfl
                have rl := blk_lt HE2.out.2
                have kl := blk_lt HE2.out.1.nj.box
                go_wp2_with fail
                obtain ⟨F, hF⟩ : ∃ W' : World, (E.alloc (.cells #[.int .i64 (2 + (s.fh.2.1 : Int) + (j : Int)), .int .i64 (2 + (s.fh.2.1 : Int) + (s.bh.2.1 : Int) + (k : Int)), .int .i64 g] 63)) = W' := ⟨_, rfl⟩
                have h : Has F [(E.heap.size, .cells #[.int .i64 (2 + (s.fh.2.1 : Int) + (j : Int)), .int .i64 (2 + (s.fh.2.1 : Int) + (s.bh.2.1 : Int) + (k : Int)), .int .i64 g] 63 (0, 0))] := by rw [← hF]; simpa using ((Has.nil E).new _)
                have z : F.heap.size = E.heap.size + 1 := by rw [← hF]; simp
                have b : Below E.heap.size E F := by rw [← hF]; exact (below_alloc (below_self E) _)
                rw [hF]
                clear hF
                have HF := Lib.hid (And.intro (HE2.out.1.later b) h.hd)
                clear h z b HE2 r1 rl kl
                refine (join_ok bN NN av (s.fh.2.1 + s.bh.2.1 + k) cv (P.a1 P.nf ++ (P.a2 P.nb ++ P.a3 k)) ⟨E.heap.size, 0, none⟩ 1 1 [⟨2 + (s.fh.2.1 : Int) + (j : Int), 2 + (s.fh.2.1 : Int) + (s.bh.2.1 : Int) + (k : Int), g⟩] F HF.out.1.nj.box HF.out.1.nj.own rfl (by omega) (by omega) (news_one HF.out.2)).mono ?_
                rintro e Y ⟨rfl, hj⟩
                obtain ⟨a9, c9, hn9⟩ := HF.out.1.join rfl hj
                have HY := Lib.hid hn9
                rw [List.append_assoc, List.append_assoc, ← HAS.out.1] at HY
                clear hj HF hn9
                have kl := blk_lt HY.out.nj.box
                obtain ⟨i0, hi, hz0, hz1, hz2⟩ := info_parts infoA
                go_wp2_with (at_builtin; go_must (refine wpList_append_lies _ rfl _ _ 42 rfl (bN + 1) 63 i0 _ 3 24 Tryz.underlying42 hi hz0 hz1 hz2 rfl (by decide) _ k (flatA (P.a4 k)) rfl (World.ownsRow.alloc HY.out.snk.1 _) ⟨Y.heap.size, 0, none⟩ 1 1 (flatA [⟨2 + (s.fh.2.1 : Int) + (s.bh.2.1 : Int) + (k : Int), 1, g⟩]) rfl rfl (news_one (blk_new Y _)) (by simp [flatA, Ars, Value.oneCell']) (by omega) (by unfold maxLen; omega) (by omega) (by simp; omega) (Y.heap.size + 1) (by simp) ?_))
                intro g5 c5 Z h1 h2 h3 h4
                have hN5 := (HY.out.later (below_alloc (below_self Y) (.cells #[.int .i64 (2 + (s.fh.2.1 : Int) + (s.bh.2.1 : Int) + (k : Int)), .int .i64 1, .int .i64 g] 63))).app h1 h2 (by simpa using h3)
                rw [← HAS.out.2.1] at hN5
                have HZ := Lib.hid hN5
                clear hN5 h1 h2 h3 h4 hi hz0 hz1 hz2 HY HAS kl
                go_wp2_with fail
                go_roundw
                case rel => exact ⟨k + 1, Z, _, _, _, _, by omega, rfl, by go_num, rfl, HZ⟩
                case measure => simp [intOf]; omega
              · have hltI : ¬ (k : Int) < (s.rh.2.1 : Int) := by omega
                have hke : k = P.nr := by rw [HQ.out.2.2.1]; omega
                have hk0 : 0 < k := by omega
                obtain ⟨gs, hsa⟩ := own_at HX.out.snk hk0
                subst hsa
                have hsrc := HX.out.snk.1.cells (g := gs) rfl
                have HS := Lib.hid (And.intro hke hsrc)
                clear hke hsrc hlt
                go_wp2_with fail
                refine (join_ok bN NN av (s.fh.2.1 + s.bh.2.1 + k) cv (P.a1 P.nf ++ (P.a2 P.nb ++ P.a3 k)) ⟨gs, 0, none⟩ k sc (P.a4 k) X HX.out.nj.box HX.out.nj.own (a4_len P k) hk0 (by omega) HS.out.2).mono ?_
                rintro e Y ⟨rfl, hj⟩
                obtain ⟨a9, c9, hn9, _⟩ := HX.out.nj.join (a4_len P k) hj
                rw [show P.a1 P.nf ++ (P.a2 P.nb ++ P.a3 k) ++ P.a4 k = P.arcs by rw [HS.out.1, List.append_assoc, List.append_assoc]; rfl] at hn9
                have HY := Lib.hid hn9
                clear hj HX hn9 HS
                have k0 : Y.cell? ⟨bN, 0, none⟩ = some (.int .i64 NN) := (blk_cell HY.out.box 0).trans rfl
                have k1 : Y.cell? ⟨bN, 1, none⟩ = some (.slice a9 (s.fh.2.1 + s.bh.2.1 + k + k) c9) := (blk_cell HY.out.box 1).trans rfl
                have r0 : Y.cell? ⟨w.heap.size + 1 + 1 + 1, 0, none⟩ = some (.int .i64 0) := (blk_cell HY.out.rs 0).trans rfl
                have r1 : Y.cell? ⟨w.heap.size + 1 + 1 + 1, 1, none⟩ = some (.slice none 0 0) := (blk_cell HY.out.rs 1).trans rfl
                have f0 := blk_frozen HY.out.rs 0
                have f1 := blk_frozen HY.out.rs 1
                have dl := blk_lt HY.out.rs
                have kl := blk_lt HY.out.box
                go_wp2_with fail
                (try simp only [Exit.inBlock, Exit.then]); refine bodyPost_ret (results_cell_row rfl _ _ (w.heap.size + 3) 44 #[.int .i64 NN, .slice a9 (s.fh.2.1 + s.bh.2.1 + k + k) c9] (0, 0) _ rfl (blk_set_two HY.out.rs) Tryz.underlying44 rfl net_info) rfl ?_
                rw [HE.out.1, HE.out.2]
                have hlt5 := HY.out.lt
                exact ⟨_, _, _, rfl, ⟨owns_base (owns_set (owns_set HY.out.own.1 (by simp only; omega) _) (by simp only; omega) _) (by omega), HY.out.own.2⟩, (HY.out.vb.bel.setCell (by simp only; omega) _).setCell (by simp only; omega) _⟩
end Go.Proofs.YthlefdbhkbpejaaGreat
