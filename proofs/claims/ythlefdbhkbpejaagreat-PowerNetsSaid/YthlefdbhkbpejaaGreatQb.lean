/- Chapter 14: the document's Net (written by wip/gen14qb.py). -/
import Derived.Test.YthlefdbhkbpejaaGreatNtA
import Derived.Test.YthlefdbhkbpejaaGreatNt
import Derived.Test.YthlefdbhkbpejaaGreatFNew
import Derived.Test.YthlefdbhkbpejaaGreatQa
import Derived.Deep.AppendLies
import Derived.Deep.RegionHeld3
namespace Go.Proofs.YthlefdbhkbpejaaGreat
open Go Go.RowKit F5
set_option linter.unusedSimpArgs false

set_option maxRecDepth 10000 in
set_option maxHeartbeats 8000000 in
theorem netref_ok (s : Site) (x : Wish) (v : Wld) (w : World) (hs : s.At w) (hx : x.At w) (hv : v.At w) :
    Calls Tryz.prog 17 #[s.val, x.val, v.val] w fun e W' => ∃ a k c, e = .returned (.agg #[.int .i64 (netN s x v), .slice a k c]) ∧ OwnA w.heap.size W' a k c (netL s x v) ∧ Below w.heap.size w W' := by
  have HI := Lib.hid (And.intro hs (And.intro hx hv))
  have HN := Lib.hid (And.intro (show s.feeds.length = s.fh.2.1 from hs.feeds.len) (And.intro (show s.brks.length = s.bh.2.1 from hs.brks.len) (show s.racks.length = s.rh.2.1 from hs.racks.len)))
  clear hs hx hv
  go_enter Tryz.func17, Tryz.ntmps17
  go_wp2_with fail
  obtain ⟨A, hA⟩ : ∃ W' : World, ((((w.alloc (.cells s.cells.toArray 29)).alloc (.cells x.cells.toArray 32)).alloc (.cells v.cells.toArray 36)).alloc (.cells #[.int .i64 0, .slice none 0 0] 44)) = W' := ⟨_, rfl⟩
  have h : Has A [(w.heap.size + 1 + 1 + 1, .cells #[.int .i64 0, .slice none 0 0] 44 (0, 0)), (w.heap.size + 1 + 1, .cells v.cells.toArray 36 (0, 0)), (w.heap.size + 1, .cells x.cells.toArray 32 (0, 0)), (w.heap.size, .cells s.cells.toArray 29 (0, 0))] := by rw [← hA]; simpa using (((((Has.nil w).new _).new _).new _).new _)
  have z : A.heap.size = w.heap.size + 1 + 1 + 1 + 1 := by rw [← hA]; simp
  have b : Below w.heap.size w A := by rw [← hA]; exact (below_alloc (below_alloc (below_alloc (below_alloc (below_self w) _) _) _) _)
  rw [hA]
  clear hA
  have HA := Lib.hid (And.intro (show VB w s x v A from ⟨h.tl.tl.tl.hd, h.tl.tl.hd, h.tl.hd, b⟩) (And.intro h.hd z))
  clear h z b
  refine (world_ref s x v A (HI.out.1.later HA.out.1.bel) (HI.out.2.1.later HA.out.1.bel) (HI.out.2.2.later HA.out.1.bel)).mono ?_
  rintro e B ⟨rfl, b⟩
  have HB := Lib.hid (And.intro (HA.out.1.later b) (And.intro (blk_below HA.out.2.1 b) (show w.heap.size + 3 < B.heap.size by have := b.size; have := HA.out.2.2; omega)))
  clear b HA
  cases hok : worldOk s x v
  · have HE := Lib.hid (show netN s x v = 0 ∧ netL s x v = [] by unfold netN netL; rw [hok]; exact ⟨rfl, rfl⟩)
    clear hok
    have r0 : B.cell? ⟨w.heap.size + 1 + 1 + 1, 0, none⟩ = some (.int .i64 0) := (blk_cell HB.out.2.1 0).trans rfl
    have r1 : B.cell? ⟨w.heap.size + 1 + 1 + 1, 1, none⟩ = some (.slice none 0 0) := (blk_cell HB.out.2.1 1).trans rfl
    have f0 := blk_frozen HB.out.2.1 0
    have f1 := blk_frozen HB.out.2.1 1
    have dl := blk_lt HB.out.2.1
    go_wp2_with fail
    (try simp only [Exit.inBlock, Exit.then]); refine bodyPost_ret (results_cell_row rfl _ _ (w.heap.size + 3) 44 #[.int .i64 0, .slice none 0 0] (0, 0) _ rfl (blk_set_two HB.out.2.1) Tryz.underlying44 rfl net_info) rfl ?_
    rw [HE.out.1, HE.out.2]
    exact ⟨none, 0, 0, rfl, OwnA.nil _ _, (HB.out.1.bel.setCell (by simp only; omega) _).setCell (by simp only; omega) _⟩
  · have HO := Lib.hid hok
    have hso := worldOk_site hok
    have hz := siteOk_sizes hso
    have hn := siteOk_nums hso
    have hr1 : 1 ≤ s.racks.length ∧ s.racks.length ≤ 16 := by omega
    rw [HN.out.1, HN.out.2.1] at hn
    rw [HN.out.2.2] at hr1
    have hE1 : netN s x v = 2 + (s.fh.2.1 : Int) + (s.bh.2.1 : Int) + (s.rh.2.1 : Int) := by
      unfold netN
      rw [if_pos hok]
      show ((2 + s.feeds.length + s.brks.length + s.racks.length : Nat) : Int) = _
      rw [HN.out.1, HN.out.2.1, HN.out.2.2]
      omega
    have hE2 : netL s x v = (pnOf s x v).arcs := by unfold netL; rw [if_pos hok]
    have HE := Lib.hid (And.intro hE1 hE2)
    obtain ⟨P, hP⟩ : ∃ P, pnOf s x v = P := ⟨_, rfl⟩
    have hp := pn_ok hok
    rw [hP] at hp
    have q1 : P.nf = s.fh.2.1 := by rw [← hP]; exact HN.out.1
    have q2 : P.nb = s.bh.2.1 := by rw [← hP]; exact HN.out.2.1
    have q3 : P.nr = s.rh.2.1 := by rw [← hP]; exact HN.out.2.2
    have q4 : ∀ i, P.lf i = (s.feeds.getD i default).limit := fun i => by rw [← hP]; rfl
    have q5 : ∀ i, P.lb i = (s.brks.getD i default).limit := fun i => by rw [← hP]; rfl
    have q6 : ∀ i, P.ld i = ofRack s x v i := fun i => by rw [← hP]; rfl
    have q7 : ∀ i, i < s.bh.2.1 → (s.brks.getD i default).feed = (P.bf i : Int) := fun i hi => by
      have := (siteOk_brk hso (i := i) (by rw [HN.out.2.1]; exact hi)).1
      rw [← hP]
      show _ = ((feedI s i : Nat) : Int)
      unfold feedI
      omega
    have q8 : ∀ i, i < s.rh.2.1 → (s.racks.getD i default).brk = (P.rb i : Int) := fun i hi => by
      have := siteOk_rack hso (i := i) (by rw [HN.out.2.2]; exact hi)
      rw [← hP]
      show _ = ((brkI s i : Nat) : Int)
      unfold brkI
      omega
    have HQ := Lib.hid (And.intro q1 (And.intro q2 (And.intro q3 (And.intro q4 (And.intro q5 (And.intro q6 (And.intro q7 (And.intro q8 hp))))))))
    rw [hP] at HE
    clear hok hso hz hE1 hE2 hP hp q1 q2 q3 q4 q5 q6 q7 q8
    have hw1 : IntKind.i64.wrap (2 + (s.fh.2.1 : Int)) = 2 + (s.fh.2.1 : Int) := IntWalk.i64_in _ (by omega)
    have hw2 : IntKind.i64.wrap (2 + (s.fh.2.1 : Int) + (s.bh.2.1 : Int)) = 2 + (s.fh.2.1 : Int) + (s.bh.2.1 : Int) := IntWalk.i64_in _ (by omega)
    have hw3 : IntKind.i64.wrap (2 + (s.fh.2.1 : Int) + (s.bh.2.1 : Int) + (s.rh.2.1 : Int)) = 2 + (s.fh.2.1 : Int) + (s.bh.2.1 : Int) + (s.rh.2.1 : Int) := IntWalk.i64_in _ (by omega)
    have d0 : B.cell? ⟨w.heap.size, 0, none⟩ = some (.slice s.fh.1 s.fh.2.1 s.fh.2.2) := (blk_cell HB.out.1.si 0).trans rfl
    have d1 : B.cell? ⟨w.heap.size, 1, none⟩ = some (.slice s.bh.1 s.bh.2.1 s.bh.2.2) := (blk_cell HB.out.1.si 1).trans rfl
    have d3 : B.cell? ⟨w.heap.size, 3, none⟩ = some (.slice s.rh.1 s.rh.2.1 s.rh.2.2) := (blk_cell HB.out.1.si 3).trans rfl
    have dlsi := blk_lt HB.out.1.si
    have dlwi := blk_lt HB.out.1.wi
    have dlwo := blk_lt HB.out.1.wo
    go_upto_region 7 with fail
    have b1 := below_alloc (below_self B) (.cells #[.int .i64 (2 + (s.fh.2.1 : Int) + (s.bh.2.1 : Int) + (s.rh.2.1 : Int)), .slice none 0 0] 44)
    have HC := Lib.hid (show NJ w s x v B.heap.size (2 + (s.fh.2.1 : Int) + (s.bh.2.1 : Int) + (s.rh.2.1 : Int)) none 0 0 [] (B.alloc (.cells #[.int .i64 (2 + (s.fh.2.1 : Int) + (s.bh.2.1 : Int) + (s.rh.2.1 : Int)), .slice none 0 0] 44)) from ⟨HB.out.1.later b1, blk_below HB.out.2.1 b1, blk_new B _, OwnA.nil _ _, HB.out.2.2⟩)
    clear b1 d0 d1 d3 dlsi dlwi dlwo HB
    generalize B.alloc _ = C at HC ⊢
    generalize B.heap.size = bN at HC ⊢
    obtain ⟨NN, hNN⟩ : ∃ NN, 2 + (s.fh.2.1 : Int) + (s.bh.2.1 : Int) + (s.rh.2.1 : Int) = NN := ⟨_, rfl⟩
    rw [hNN] at HE HC
    clear hNN hw3
    go_wp2_with fail
    go_loopw [11] (fun i wr => ∃ (k : Nat) (X : World) (av : Option Addr) (cv : Nat), k ≤ s.fh.2.1 ∧ i = .int .i64 k ∧ X = wr ∧ Hid (NJ w s x v bN NN av (k) cv (P.a1 k) X)) (fun i _ => s.fh.2.1 - (intOf i).toNat)
    case atStart => exact ⟨0, _, _, _, Nat.zero_le _, rfl, rfl, HC⟩
    case round =>
      clear HC
      obtain ⟨k, X, av, cv, hk, rfl, rfl, HX⟩ := hrel
      have d0 : X.cell? ⟨w.heap.size, 0, none⟩ = some (.slice s.fh.1 s.fh.2.1 s.fh.2.2) := (blk_cell HX.out.vb.si 0).trans rfl
      have d1 : X.cell? ⟨w.heap.size, 1, none⟩ = some (.slice s.bh.1 s.bh.2.1 s.bh.2.2) := (blk_cell HX.out.vb.si 1).trans rfl
      have d2 : X.cell? ⟨w.heap.size, 2, none⟩ = some (.slice s.lh.1 s.lh.2.1 s.lh.2.2) := (blk_cell HX.out.vb.si 2).trans rfl
      have d3 : X.cell? ⟨w.heap.size, 3, none⟩ = some (.slice s.rh.1 s.rh.2.1 s.rh.2.2) := (blk_cell HX.out.vb.si 3).trans rfl
      have d4 : X.cell? ⟨w.heap.size, 4, none⟩ = some (.int .i64 s.switches) := (blk_cell HX.out.vb.si 4).trans rfl
      have d5 : X.cell? ⟨w.heap.size, 5, none⟩ = some (.slice s.kh.1 s.kh.2.1 s.kh.2.2) := (blk_cell HX.out.vb.si 5).trans rfl
      have d6 : X.cell? ⟨w.heap.size, 6, none⟩ = some (.slice s.hh.1 s.hh.2.1 s.hh.2.2) := (blk_cell HX.out.vb.si 6).trans rfl
      have d7 : X.cell? ⟨w.heap.size + 1, 0, none⟩ = some (.slice x.sh.1 x.sh.2.1 x.sh.2.2) := (blk_cell HX.out.vb.wi 0).trans rfl
      have d8 : X.cell? ⟨w.heap.size + 1 + 1, 0, none⟩ = some (.slice v.hh.1 v.hh.2.1 v.hh.2.2) := (blk_cell HX.out.vb.wo 0).trans rfl
      have d9 : X.cell? ⟨w.heap.size + 1 + 1, 1, none⟩ = some (.slice v.rh.1 v.rh.2.1 v.rh.2.2) := (blk_cell HX.out.vb.wo 1).trans rfl
      have dlsi := blk_lt HX.out.vb.si
      have dlwi := blk_lt HX.out.vb.wi
      have dlwo := blk_lt HX.out.vb.wo
      have lbn := HX.out.lt
      by_cases hlt : k < s.fh.2.1
      · have hltI : (k : Int) < (s.fh.2.1 : Int) := by omega
        obtain ⟨b1, o1, q1, hb1, p0⟩ := fds_at HI.out.1.feeds.rows k (by rw [HN.out.1]; exact hlt)
        have p0 := (HX.out.vb.bel.cell (by exact hb1)).trans p0
        have hwk : IntKind.i64.wrap (2 + (k : Int)) = 2 + (k : Int) := IntWalk.i64_in _ (by omega)
        have hA := a1_succ P k
        rw [HQ.out.2.2.2.1 k] at hA
        generalize (s.feeds.getD k default).limit = g at p0 hA
        have HAS := Lib.hid hA
        rw [q1] at d0
        clear hA q1 d1 d2 d3 d4 d5 d6 d7 d8 d9
        go_wp2_with fail
        have hkk : ∀ W, Below bN X W → W.heap[bN]? = some (.cells #[.int .i64 NN, .slice av (k) cv] 44 (0, 0)) → W.cell? ⟨bN, 1, none⟩ = some (.slice av (k) cv) ∧ W.cell? ⟨w.heap.size, 0, none⟩ = some (.slice (some ⟨b1, o1, none⟩) s.fh.2.1 s.fh.2.2) ∧ W.cell? ⟨b1, o1 + k, none⟩ = some (.int .i64 g) := fun W hb hx => ⟨(blk_cell hx 1).trans rfl, (hb.cell (by simp only; omega)).trans d0, (hb.cell (by simp only; omega)).trans p0⟩
        have HkK := Lib.hid hkk
        have bD : Below bN X X.drew := (Below.refl bN X).drew
        have kD := hkk X.drew bD HX.out.box
        have HXD := Lib.hid (HX.out.later (below_self X).drew)
        have lX := blk_lt HX.out.box
        obtain ⟨i0, hi, hz0, hz1, hz2⟩ := info_parts infoA
        clear hkk
        refine wp_region_G (by kernel_rfl) (fun W => W.cell? ⟨bN, 1, none⟩ = some (.slice av (k) cv) ∧ W.cell? ⟨w.heap.size, 0, none⟩ = some (.slice (some ⟨b1, o1, none⟩) s.fh.2.1 s.fh.2.2) ∧ W.cell? ⟨b1, o1 + k, none⟩ = some (.int .i64 g)) 15 ?_
        refine wpAnyG_take (i := 0) (v := ?vAx0) rfl (by kernel_rfl) (by kernel_rfl) (by kernel_rfl) (by kernel_rfl) (fun _ _ _ h => h) (Or.inl ⟨by rfl, ?yAx0⟩) kD ?rAx0
        case yAx0 => (rintro W ⟨s0, s1, s2⟩; go_simp; try with_reducible rfl)
        refine wpAnyG_take (i := 1) (v := ?vAx1) rfl (by kernel_rfl) (by kernel_rfl) (by kernel_rfl) (by kernel_rfl) (fun _ _ _ h => h) (Or.inl ⟨by rfl, ?yAx1⟩) kD ?rAx1
        case yAx1 => (rintro W ⟨s0, s1, s2⟩; go_simp; try with_reducible rfl)
        refine wpAnyG_take (i := 2) (v := ?vAx2) rfl (by kernel_rfl) (by kernel_rfl) (by kernel_rfl) (by kernel_rfl) (fun _ _ _ h => h) (Or.inl ⟨by rfl, ?yAx2⟩) kD ?rAx2
        case yAx2 => (rintro W ⟨s0, s1, s2⟩; go_simp; try with_reducible rfl)
        refine wpAnyG_take (i := 3) (v := ?vAx3) rfl (by kernel_rfl) (by kernel_rfl) (by kernel_rfl) (by kernel_rfl) (fun _ _ _ h => h) (Or.inl ⟨by rfl, ?yAx3⟩) kD ?rAx3
        case yAx3 => (rintro W ⟨s0, s1, s2⟩; go_simp; try with_reducible rfl)
        refine wpAnyG_take (i := 4) (v := ?vAx4) rfl (by kernel_rfl) (by kernel_rfl) (by kernel_rfl) (by kernel_rfl) (fun _ _ _ h => h) (Or.inl ⟨by rfl, ?yAx4⟩) kD ?rAx4
        case yAx4 => (rintro W ⟨s0, s1, s2⟩; go_simp; try with_reducible rfl)
        refine wpAnyG_take (i := 5) (v := ?vAx5) rfl (by kernel_rfl) (by kernel_rfl) (by kernel_rfl) (by kernel_rfl) (fun _ _ _ h => h) (Or.inl ⟨by rfl, ?yAx5⟩) kD ?rAx5
        case yAx5 => (rintro W ⟨s0, s1, s2⟩; go_simp; try with_reducible rfl)
        refine wpAnyG_take (i := 6) (v := ?vAx6) rfl (by kernel_rfl) (by kernel_rfl) (by kernel_rfl) (by kernel_rfl) (fun _ _ _ h => h) (Or.inl ⟨by rfl, ?yAx6⟩) kD ?rAx6
        case yAx6 => (rintro W ⟨s0, s1, s2⟩; go_simp; try with_reducible rfl)
        refine wpAnyG_take (i := 7) (v := ?vAx7) rfl (by kernel_rfl) (by kernel_rfl) (by kernel_rfl) (by kernel_rfl) (fun _ _ _ h => h) (Or.inl ⟨by rfl, ?yAx7⟩) kD ?rAx7
        case yAx7 => (rintro W ⟨s0, s1, s2⟩; go_simp; try with_reducible rfl)
        refine wpAnyG_take (i := 8) (v := ?vAx8) rfl (by kernel_rfl) (by kernel_rfl) (by kernel_rfl) (by kernel_rfl) (fun _ _ _ h => h) (Or.inl ⟨by rfl, ?yAx8⟩) kD ?rAx8
        case yAx8 => (rintro W ⟨s0, s1, s2⟩; go_simp; try with_reducible rfl)
        refine wpAnyG_take (i := 9) (v := ?vAx9) rfl (by kernel_rfl) (by kernel_rfl) (by kernel_rfl) (by kernel_rfl) (fun _ _ _ h => h) (Or.inl ⟨by rfl, ?yAx9⟩) kD ?rAx9
        case yAx9 => (rintro W ⟨s0, s1, s2⟩; go_simp; try with_reducible rfl)
        refine wpAnyG_take (i := 10) (v := ?vAx10) rfl (by kernel_rfl) (by kernel_rfl) (by kernel_rfl) (by kernel_rfl) (fun _ _ _ h => h) (Or.inl ⟨by rfl, ?yAx10⟩) kD ?rAx10
        case yAx10 => (rintro W ⟨s0, s1, s2⟩; go_simp; try with_reducible rfl)
        refine wpAnyG_take (i := 11) (v := ?vAx11) rfl (by kernel_rfl) (by kernel_rfl) (by kernel_rfl) (by kernel_rfl) (fun _ _ _ h => h) (Or.inl ⟨by rfl, ?yAx11⟩) kD ?rAx11
        case yAx11 => (rintro W ⟨s0, s1, s2⟩; go_simp; try with_reducible rfl)
        have lZ : bN ≤ X.drew.heap.size := Nat.le_of_lt (blk_lt HXD.out.box)
        have HA5 := Lib.hid (HXD.out.later (below_alloc (below_self X.drew) (.cells #[.int .i64 (0), .int .i64 (2 + (k : Int)), .int .i64 (g)] 63)))
        have kA := HkK.out _ (bD.alloc lZ (.cells #[.int .i64 (0), .int .i64 (2 + (k : Int)), .int .i64 (g)] 63)) HA5.out.box
        refine wpAnyG_next (i := 12) (by kernel_rfl) rfl (fun K hK => ?_)
        go_simp
        refine hK _ _ (fun _ => kA) ?_
        clear hK K
        refine wpAnyG_next (i := 13) (by kernel_rfl) rfl (fun K hK => ?_)
        refine step_append_lies _ (by rfl) _ _ 42 (by rfl) (bN + 1) 63 i0 _ 3 24 Tryz.underlying42 hi hz0 hz1 hz2 rfl (by decide) _ (k) (flatA (P.a1 k)) (by rfl) HA5.out.own.1 ⟨X.drew.heap.size, 0, none⟩ 1 1 (flatA [⟨0, 2 + (k : Int), g⟩]) (by rfl) rfl (news_one (blk_new X.drew _)) (by simp [flatA, Ars, Value.oneCell']) (by omega) (by unfold maxLen; omega) (by omega) (by simp; omega) _ rfl ?_
        intro g5 c5 W5 h1 h2 h3 h4
        obtain ⟨hb5, _, _, z5⟩ := HA5.out.grown HA5.out.own.1 (by omega) h2
        have kW := HkK.out W5 ((bD.alloc lZ (.cells #[.int .i64 (0), .int .i64 (2 + (k : Int)), .int .i64 (g)] 63)).trans hb5) z5
        have cT := kW.1
        have fT := blk_frozen z5 1
        have lT := blk_lt z5
        obtain ⟨a9, c9, hn9, _⟩ := HA5.out.join (M := [⟨0, 2 + (k : Int), g⟩]) rfl ⟨g5, c5, W5, h1, h2, h3, rfl⟩
        have HN9 := Lib.hid hn9
        clear hn9 h1 h2 h3 h4 z5 hb5
        try go_simp
        refine hK _ _ (fun _ => kW) ?_
        clear hK K
        refine wpAnyG_next (i := 14) (by kernel_rfl) rfl (fun K hK => ?_)
        go_simp
        refine hK _ _ (fun _ => kW) ?_
        clear hK K
        refine wpAnyG_next (i := 15) (by kernel_rfl) rfl (fun K hK => ?_)
        go_simp
        refine hK _ _ (fun h => absurd rfl h) ?_
        clear hK K
        refine wpAnyG_done (by kernel_rfl) ?_ _
        have hn9 := HN9.out
        rw [← HAS.out] at hn9
        have HY := Lib.hid hn9
        clear hn9 HN9 kD kA kW cT fT lT HA5 HXD HAS HkK hi hz0 hz1 hz2
        generalize W5.setCell _ _ = Y at HY ⊢
        go_wp2_with fail
        go_roundw
        case rel => exact ⟨k + 1, Y, _, _, by omega, by go_num, rfl, HY⟩
        case measure => simp [intOf]; omega
      · have hltI : ¬ (k : Int) < (s.fh.2.1 : Int) := by omega
        have hke : k = P.nf := by rw [HQ.out.1]; omega
        have HX9 := Lib.hid (show NJ w s x v bN NN av (s.fh.2.1 + 0) cv (P.a1 P.nf ++ P.a2 0) X by rw [show P.a2 0 = [] from rfl, List.append_nil, ← hke, show s.fh.2.1 + 0 = k by omega]; exact HX.out)
        clear hke hk hlt HX
        have HX := HX9
        clear HX9
        go_wp2_with fail
        clear d0 d1 d2 d3 d4 d5 d6 d7 d8 d9 dlsi dlwi dlwo lbn
        go_loopw [12] (fun i wr => ∃ (k : Nat) (X : World) (av : Option Addr) (cv : Nat), k ≤ s.bh.2.1 ∧ i = .int .i64 k ∧ X = wr ∧ Hid (NJ w s x v bN NN av (s.fh.2.1 + k) cv (P.a1 P.nf ++ P.a2 k) X)) (fun i _ => s.bh.2.1 - (intOf i).toNat)
        case atStart => exact ⟨0, _, _, _, Nat.zero_le _, rfl, rfl, HX⟩
        case round =>
          clear HX hltI
          obtain ⟨k, X, av, cv, hk, rfl, rfl, HX⟩ := hrel
          have d0 : X.cell? ⟨w.heap.size, 0, none⟩ = some (.slice s.fh.1 s.fh.2.1 s.fh.2.2) := (blk_cell HX.out.vb.si 0).trans rfl
          have d1 : X.cell? ⟨w.heap.size, 1, none⟩ = some (.slice s.bh.1 s.bh.2.1 s.bh.2.2) := (blk_cell HX.out.vb.si 1).trans rfl
          have d2 : X.cell? ⟨w.heap.size, 2, none⟩ = some (.slice s.lh.1 s.lh.2.1 s.lh.2.2) := (blk_cell HX.out.vb.si 2).trans rfl
          have d3 : X.cell? ⟨w.heap.size, 3, none⟩ = some (.slice s.rh.1 s.rh.2.1 s.rh.2.2) := (blk_cell HX.out.vb.si 3).trans rfl
          have d4 : X.cell? ⟨w.heap.size, 4, none⟩ = some (.int .i64 s.switches) := (blk_cell HX.out.vb.si 4).trans rfl
          have d5 : X.cell? ⟨w.heap.size, 5, none⟩ = some (.slice s.kh.1 s.kh.2.1 s.kh.2.2) := (blk_cell HX.out.vb.si 5).trans rfl
          have d6 : X.cell? ⟨w.heap.size, 6, none⟩ = some (.slice s.hh.1 s.hh.2.1 s.hh.2.2) := (blk_cell HX.out.vb.si 6).trans rfl
          have d7 : X.cell? ⟨w.heap.size + 1, 0, none⟩ = some (.slice x.sh.1 x.sh.2.1 x.sh.2.2) := (blk_cell HX.out.vb.wi 0).trans rfl
          have d8 : X.cell? ⟨w.heap.size + 1 + 1, 0, none⟩ = some (.slice v.hh.1 v.hh.2.1 v.hh.2.2) := (blk_cell HX.out.vb.wo 0).trans rfl
          have d9 : X.cell? ⟨w.heap.size + 1 + 1, 1, none⟩ = some (.slice v.rh.1 v.rh.2.1 v.rh.2.2) := (blk_cell HX.out.vb.wo 1).trans rfl
          have dlsi := blk_lt HX.out.vb.si
          have dlwi := blk_lt HX.out.vb.wi
          have dlwo := blk_lt HX.out.vb.wo
          have lbn := HX.out.lt
          by_cases hlt : k < s.bh.2.1
          · have hltI : (k : Int) < (s.bh.2.1 : Int) := by omega
            obtain ⟨b1, o1, q1, hb1, p0, p1, _, _⟩ := bks_at HI.out.1.brks.rows k (by rw [HN.out.2.1]; exact hlt)
            have p0 := (HX.out.vb.bel.cell (by exact hb1)).trans p0
            have p1 := (HX.out.vb.bel.cell (by exact hb1)).trans p1
            have hA := a2_succ P k
            rw [HQ.out.2.2.2.2.1 k, HQ.out.1] at hA
            rw [HQ.out.2.2.2.2.2.2.1 k hlt] at p0
            have hbf : P.bf k < 4 := by have := HQ.out.2.2.2.2.2.2.2.2.bf k (by rw [HQ.out.2.1]; exact hlt); rw [HQ.out.1] at this; omega
            generalize P.bf k = j at p0 hA hbf
            generalize (s.brks.getD k default).limit = g at p1 hA
            have HAS := Lib.hid hA
            have hwj : IntKind.i64.wrap (2 + (j : Int)) = 2 + (j : Int) := IntWalk.i64_in _ (by omega)
            have hwk : IntKind.i64.wrap (2 + (s.fh.2.1 : Int) + (k : Int)) = 2 + (s.fh.2.1 : Int) + (k : Int) := IntWalk.i64_in _ (by omega)
            rw [q1] at d1
            clear hA q1 hbf d0 d2 d3 d4 d5 d6 d7 d8 d9
            go_wp2_with fail
            have hkk : ∀ W, Below bN X W → W.heap[bN]? = some (.cells #[.int .i64 NN, .slice av (s.fh.2.1 + k) cv] 44 (0, 0)) → W.cell? ⟨bN, 1, none⟩ = some (.slice av (s.fh.2.1 + k) cv) ∧ W.cell? ⟨w.heap.size, 1, none⟩ = some (.slice (some ⟨b1, o1, none⟩) s.bh.2.1 s.bh.2.2) ∧ W.cell? ⟨b1, o1 + k * 4, none⟩ = some (.int .i64 j) ∧ W.cell? ⟨b1, o1 + k * 4 + 1, none⟩ = some (.int .i64 g) := fun W hb hx => ⟨(blk_cell hx 1).trans rfl, (hb.cell (by simp only; omega)).trans d1, (hb.cell (by simp only; omega)).trans p0, (hb.cell (by simp only; omega)).trans p1⟩
            have HkK := Lib.hid hkk
            have bD : Below bN X X.drew := (Below.refl bN X).drew
            have kD := hkk X.drew bD HX.out.box
            have HXD := Lib.hid (HX.out.later (below_self X).drew)
            have lX := blk_lt HX.out.box
            obtain ⟨i0, hi, hz0, hz1, hz2⟩ := info_parts infoA
            clear hkk
            refine wp_region_G (by kernel_rfl) (fun W => W.cell? ⟨bN, 1, none⟩ = some (.slice av (s.fh.2.1 + k) cv) ∧ W.cell? ⟨w.heap.size, 1, none⟩ = some (.slice (some ⟨b1, o1, none⟩) s.bh.2.1 s.bh.2.2) ∧ W.cell? ⟨b1, o1 + k * 4, none⟩ = some (.int .i64 j) ∧ W.cell? ⟨b1, o1 + k * 4 + 1, none⟩ = some (.int .i64 g)) 23 ?_
            refine wpAnyG_take (i := 0) (v := ?vBx0) rfl (by kernel_rfl) (by kernel_rfl) (by kernel_rfl) (by kernel_rfl) (fun _ _ _ h => h) (Or.inl ⟨by rfl, ?yBx0⟩) kD ?rBx0
            case yBx0 => (rintro W ⟨s0, s1, s2, s3⟩; go_simp; try with_reducible rfl)
            refine wpAnyG_take (i := 1) (v := ?vBx1) rfl (by kernel_rfl) (by kernel_rfl) (by kernel_rfl) (by kernel_rfl) (fun _ _ _ h => h) (Or.inl ⟨by rfl, ?yBx1⟩) kD ?rBx1
            case yBx1 => (rintro W ⟨s0, s1, s2, s3⟩; go_simp; try with_reducible rfl)
            refine wpAnyG_take (i := 2) (v := ?vBx2) rfl (by kernel_rfl) (by kernel_rfl) (by kernel_rfl) (by kernel_rfl) (fun _ _ _ h => h) (Or.inl ⟨by rfl, ?yBx2⟩) kD ?rBx2
            case yBx2 => (rintro W ⟨s0, s1, s2, s3⟩; go_simp; try with_reducible rfl)
            refine wpAnyG_take (i := 3) (v := ?vBx3) rfl (by kernel_rfl) (by kernel_rfl) (by kernel_rfl) (by kernel_rfl) (fun _ _ _ h => h) (Or.inl ⟨by rfl, ?yBx3⟩) kD ?rBx3
            case yBx3 => (rintro W ⟨s0, s1, s2, s3⟩; go_simp; try with_reducible rfl)
            refine wpAnyG_take (i := 4) (v := ?vBx4) rfl (by kernel_rfl) (by kernel_rfl) (by kernel_rfl) (by kernel_rfl) (fun _ _ _ h => h) (Or.inl ⟨by rfl, ?yBx4⟩) kD ?rBx4
            case yBx4 => (rintro W ⟨s0, s1, s2, s3⟩; go_simp; try with_reducible rfl)
            refine wpAnyG_take (i := 5) (v := ?vBx5) rfl (by kernel_rfl) (by kernel_rfl) (by kernel_rfl) (by kernel_rfl) (fun _ _ _ h => h) (Or.inl ⟨by rfl, ?yBx5⟩) kD ?rBx5
            case yBx5 => (rintro W ⟨s0, s1, s2, s3⟩; go_simp; try with_reducible rfl)
            refine wpAnyG_take (i := 6) (v := ?vBx6) rfl (by kernel_rfl) (by kernel_rfl) (by kernel_rfl) (by kernel_rfl) (fun _ _ _ h => h) (Or.inl ⟨by rfl, ?yBx6⟩) kD ?rBx6
            case yBx6 => (rintro W ⟨s0, s1, s2, s3⟩; go_simp; try with_reducible rfl)
            refine wpAnyG_take (i := 7) (v := ?vBx7) rfl (by kernel_rfl) (by kernel_rfl) (by kernel_rfl) (by kernel_rfl) (fun _ _ _ h => h) (Or.inl ⟨by rfl, ?yBx7⟩) kD ?rBx7
            case yBx7 => (rintro W ⟨s0, s1, s2, s3⟩; go_simp; try with_reducible rfl)
            refine wpAnyG_take (i := 8) (v := ?vBx8) rfl (by kernel_rfl) (by kernel_rfl) (by kernel_rfl) (by kernel_rfl) (fun _ _ _ h => h) (Or.inl ⟨by rfl, ?yBx8⟩) kD ?rBx8
            case yBx8 => (rintro W ⟨s0, s1, s2, s3⟩; go_simp; try with_reducible rfl)
            refine wpAnyG_take (i := 9) (v := ?vBx9) rfl (by kernel_rfl) (by kernel_rfl) (by kernel_rfl) (by kernel_rfl) (fun _ _ _ h => h) (Or.inl ⟨by rfl, ?yBx9⟩) kD ?rBx9
            case yBx9 => (rintro W ⟨s0, s1, s2, s3⟩; go_simp; try with_reducible rfl)
            refine wpAnyG_take (i := 10) (v := ?vBx10) rfl (by kernel_rfl) (by kernel_rfl) (by kernel_rfl) (by kernel_rfl) (fun _ _ _ h => h) (Or.inl ⟨by rfl, ?yBx10⟩) kD ?rBx10
            case yBx10 => (rintro W ⟨s0, s1, s2, s3⟩; go_simp; try with_reducible rfl)
            refine wpAnyG_take (i := 11) (v := ?vBx11) rfl (by kernel_rfl) (by kernel_rfl) (by kernel_rfl) (by kernel_rfl) (fun _ _ _ h => h) (Or.inl ⟨by rfl, ?yBx11⟩) kD ?rBx11
            case yBx11 => (rintro W ⟨s0, s1, s2, s3⟩; go_simp; try with_reducible rfl)
            refine wpAnyG_take (i := 12) (v := ?vBx12) rfl (by kernel_rfl) (by kernel_rfl) (by kernel_rfl) (by kernel_rfl) (fun _ _ _ h => h) (Or.inl ⟨by rfl, ?yBx12⟩) kD ?rBx12
            case yBx12 => (rintro W ⟨s0, s1, s2, s3⟩; go_simp; try with_reducible rfl)
            refine wpAnyG_take (i := 13) (v := ?vBx13) rfl (by kernel_rfl) (by kernel_rfl) (by kernel_rfl) (by kernel_rfl) (fun _ _ _ h => h) (Or.inl ⟨by rfl, ?yBx13⟩) kD ?rBx13
            case yBx13 => (rintro W ⟨s0, s1, s2, s3⟩; go_simp; try with_reducible rfl)
            refine wpAnyG_take (i := 14) (v := ?vBx14) rfl (by kernel_rfl) (by kernel_rfl) (by kernel_rfl) (by kernel_rfl) (fun _ _ _ h => h) (Or.inl ⟨by rfl, ?yBx14⟩) kD ?rBx14
            case yBx14 => (rintro W ⟨s0, s1, s2, s3⟩; go_simp; try with_reducible rfl)
            refine wpAnyG_take (i := 15) (v := ?vBx15) rfl (by kernel_rfl) (by kernel_rfl) (by kernel_rfl) (by kernel_rfl) (fun _ _ _ h => h) (Or.inl ⟨by rfl, ?yBx15⟩) kD ?rBx15
            case yBx15 => (rintro W ⟨s0, s1, s2, s3⟩; go_simp; try with_reducible rfl)
            refine wpAnyG_take (i := 16) (v := ?vBx16) rfl (by kernel_rfl) (by kernel_rfl) (by kernel_rfl) (by kernel_rfl) (fun _ _ _ h => h) (Or.inl ⟨by rfl, ?yBx16⟩) kD ?rBx16
            case yBx16 => (rintro W ⟨s0, s1, s2, s3⟩; go_simp; try with_reducible rfl)
            refine wpAnyG_take (i := 17) (v := ?vBx17) rfl (by kernel_rfl) (by kernel_rfl) (by kernel_rfl) (by kernel_rfl) (fun _ _ _ h => h) (Or.inl ⟨by rfl, ?yBx17⟩) kD ?rBx17
            case yBx17 => (rintro W ⟨s0, s1, s2, s3⟩; go_simp; try with_reducible rfl)
            refine wpAnyG_take (i := 18) (v := ?vBx18) rfl (by kernel_rfl) (by kernel_rfl) (by kernel_rfl) (by kernel_rfl) (fun _ _ _ h => h) (Or.inl ⟨by rfl, ?yBx18⟩) kD ?rBx18
            case yBx18 => (rintro W ⟨s0, s1, s2, s3⟩; go_simp; try with_reducible rfl)
            refine wpAnyG_take (i := 19) (v := ?vBx19) rfl (by kernel_rfl) (by kernel_rfl) (by kernel_rfl) (by kernel_rfl) (fun _ _ _ h => h) (Or.inl ⟨by rfl, ?yBx19⟩) kD ?rBx19
            case yBx19 => (rintro W ⟨s0, s1, s2, s3⟩; go_simp; try with_reducible rfl)
            have lZ : bN ≤ X.drew.heap.size := Nat.le_of_lt (blk_lt HXD.out.box)
            have HA5 := Lib.hid (HXD.out.later (below_alloc (below_self X.drew) (.cells #[.int .i64 (2 + (j : Int)), .int .i64 (2 + (s.fh.2.1 : Int) + (k : Int)), .int .i64 (g)] 63)))
            have kA := HkK.out _ (bD.alloc lZ (.cells #[.int .i64 (2 + (j : Int)), .int .i64 (2 + (s.fh.2.1 : Int) + (k : Int)), .int .i64 (g)] 63)) HA5.out.box
            refine wpAnyG_next (i := 20) (by kernel_rfl) rfl (fun K hK => ?_)
            go_simp
            refine hK _ _ (fun _ => kA) ?_
            clear hK K
            refine wpAnyG_next (i := 21) (by kernel_rfl) rfl (fun K hK => ?_)
            refine step_append_lies _ (by rfl) _ _ 42 (by rfl) (bN + 1) 63 i0 _ 3 24 Tryz.underlying42 hi hz0 hz1 hz2 rfl (by decide) _ (s.fh.2.1 + k) (flatA (P.a1 P.nf ++ P.a2 k)) (by rfl) HA5.out.own.1 ⟨X.drew.heap.size, 0, none⟩ 1 1 (flatA [⟨2 + (j : Int), 2 + (s.fh.2.1 : Int) + (k : Int), g⟩]) (by rfl) rfl (news_one (blk_new X.drew _)) (by simp [flatA, Ars, Value.oneCell']) (by omega) (by unfold maxLen; omega) (by omega) (by simp; omega) _ rfl ?_
            intro g5 c5 W5 h1 h2 h3 h4
            obtain ⟨hb5, _, _, z5⟩ := HA5.out.grown HA5.out.own.1 (by omega) h2
            have kW := HkK.out W5 ((bD.alloc lZ (.cells #[.int .i64 (2 + (j : Int)), .int .i64 (2 + (s.fh.2.1 : Int) + (k : Int)), .int .i64 (g)] 63)).trans hb5) z5
            have cT := kW.1
            have fT := blk_frozen z5 1
            have lT := blk_lt z5
            obtain ⟨a9, c9, hn9, _⟩ := HA5.out.join (M := [⟨2 + (j : Int), 2 + (s.fh.2.1 : Int) + (k : Int), g⟩]) rfl ⟨g5, c5, W5, h1, h2, h3, rfl⟩
            have HN9 := Lib.hid hn9
            clear hn9 h1 h2 h3 h4 z5 hb5
            try go_simp
            refine hK _ _ (fun _ => kW) ?_
            clear hK K
            refine wpAnyG_next (i := 22) (by kernel_rfl) rfl (fun K hK => ?_)
            go_simp
            refine hK _ _ (fun _ => kW) ?_
            clear hK K
            refine wpAnyG_next (i := 23) (by kernel_rfl) rfl (fun K hK => ?_)
            go_simp
            refine hK _ _ (fun h => absurd rfl h) ?_
            clear hK K
            refine wpAnyG_done (by kernel_rfl) ?_ _
            have hn9 := HN9.out
            rw [List.append_assoc, ← HAS.out] at hn9
            have HY := Lib.hid hn9
            clear hn9 HN9 kD kA kW cT fT lT HA5 HXD HAS HkK hi hz0 hz1 hz2
            generalize W5.setCell _ _ = Y at HY ⊢
            go_wp2_with fail
            go_roundw
            case rel => exact ⟨k + 1, Y, _, _, by omega, by go_num, rfl, HY⟩
            case measure => simp [intOf]; omega
          · have hltI : ¬ (k : Int) < (s.bh.2.1 : Int) := by omega
            have hke : k = P.nb := by rw [HQ.out.2.1]; omega
            have HX9 := Lib.hid (show NJ w s x v bN NN av (s.fh.2.1 + s.bh.2.1 + 0) cv (P.a1 P.nf ++ (P.a2 P.nb ++ P.a3 0)) X by rw [show P.a3 0 = [] from rfl, List.append_nil, ← hke, show s.fh.2.1 + s.bh.2.1 + 0 = s.fh.2.1 + k by omega]; exact HX.out)
            clear hke hk hlt HX
            have HX := HX9
            clear HX9
            go_wp2_with fail
            clear d0 d1 d2 d3 d4 d5 d6 d7 d8 d9 dlsi dlwi dlwo lbn
            go_loopw [13] (fun i wr => ∃ (k : Nat) (X : World) (av : Option Addr) (cv : Nat), k ≤ s.rh.2.1 ∧ i = .int .i64 k ∧ X = wr ∧ Hid (NJ w s x v bN NN av (s.fh.2.1 + s.bh.2.1 + k) cv (P.a1 P.nf ++ (P.a2 P.nb ++ P.a3 k)) X)) (fun i _ => s.rh.2.1 - (intOf i).toNat)
            case atStart => exact ⟨0, _, _, _, Nat.zero_le _, rfl, rfl, HX⟩
            case round =>
              clear HX hltI
              obtain ⟨k, X, av, cv, hk, rfl, rfl, HX⟩ := hrel
              have d0 : X.cell? ⟨w.heap.size, 0, none⟩ = some (.slice s.fh.1 s.fh.2.1 s.fh.2.2) := (blk_cell HX.out.vb.si 0).trans rfl
              have d1 : X.cell? ⟨w.heap.size, 1, none⟩ = some (.slice s.bh.1 s.bh.2.1 s.bh.2.2) := (blk_cell HX.out.vb.si 1).trans rfl
              have d2 : X.cell? ⟨w.heap.size, 2, none⟩ = some (.slice s.lh.1 s.lh.2.1 s.lh.2.2) := (blk_cell HX.out.vb.si 2).trans rfl
              have d3 : X.cell? ⟨w.heap.size, 3, none⟩ = some (.slice s.rh.1 s.rh.2.1 s.rh.2.2) := (blk_cell HX.out.vb.si 3).trans rfl
              have d4 : X.cell? ⟨w.heap.size, 4, none⟩ = some (.int .i64 s.switches) := (blk_cell HX.out.vb.si 4).trans rfl
              have d5 : X.cell? ⟨w.heap.size, 5, none⟩ = some (.slice s.kh.1 s.kh.2.1 s.kh.2.2) := (blk_cell HX.out.vb.si 5).trans rfl
              have d6 : X.cell? ⟨w.heap.size, 6, none⟩ = some (.slice s.hh.1 s.hh.2.1 s.hh.2.2) := (blk_cell HX.out.vb.si 6).trans rfl
              have d7 : X.cell? ⟨w.heap.size + 1, 0, none⟩ = some (.slice x.sh.1 x.sh.2.1 x.sh.2.2) := (blk_cell HX.out.vb.wi 0).trans rfl
              have d8 : X.cell? ⟨w.heap.size + 1 + 1, 0, none⟩ = some (.slice v.hh.1 v.hh.2.1 v.hh.2.2) := (blk_cell HX.out.vb.wo 0).trans rfl
              have d9 : X.cell? ⟨w.heap.size + 1 + 1, 1, none⟩ = some (.slice v.rh.1 v.rh.2.1 v.rh.2.2) := (blk_cell HX.out.vb.wo 1).trans rfl
              have dlsi := blk_lt HX.out.vb.si
              have dlwi := blk_lt HX.out.vb.wi
              have dlwo := blk_lt HX.out.vb.wo
              have lbn := HX.out.lt
              by_cases hlt : k < s.rh.2.1
              · have hltI : (k : Int) < (s.rh.2.1 : Int) := by omega
                obtain ⟨g, hg⟩ : ∃ g, ofRack s x v k = g := ⟨_, rfl⟩
                have hC2 : ∀ W, Below X.heap.size X W → Calls Tryz.prog 10 #[s.val, x.val, v.val, .int .i64 k] W fun e W' => e = .returned (.int .i64 g) ∧ Below W.heap.size W W' := fun W hb => by rw [← hg]; exact rackref_ok s x v k W (HI.out.1.later (below_trans HX.out.vb.bel hb)) (HI.out.2.1.later (below_trans HX.out.vb.bel hb)) (HI.out.2.2.later (below_trans HX.out.vb.bel hb))
                simp only [Site.val, Site.cells] at hC2
                obtain ⟨b1, o1, q1, hb1, _, p1, _, _⟩ := rks_at HI.out.1.racks.rows k (by rw [HN.out.2.2]; exact hlt)
                have p1 := (HX.out.vb.bel.cell (by exact hb1)).trans p1
                have hA := a3_succ P k
                rw [HQ.out.2.2.2.2.2.1 k, HQ.out.1, HQ.out.2.1, hg] at hA
                rw [HQ.out.2.2.2.2.2.2.2.1 k hlt] at p1
                have hrb : P.rb k < 8 := by have := HQ.out.2.2.2.2.2.2.2.2.rb k (by rw [HQ.out.2.2.1]; exact hlt); rw [HQ.out.2.1] at this; omega
                generalize P.rb k = j at p1 hA hrb
                have HAS := Lib.hid hA
                have hwj : IntKind.i64.wrap (2 + (s.fh.2.1 : Int) + (j : Int)) = 2 + (s.fh.2.1 : Int) + (j : Int) := IntWalk.i64_in _ (by omega)
                have hwk : IntKind.i64.wrap (2 + (s.fh.2.1 : Int) + (s.bh.2.1 : Int) + (k : Int)) = 2 + (s.fh.2.1 : Int) + (s.bh.2.1 : Int) + (k : Int) := IntWalk.i64_in _ (by omega)
                rw [q1] at d3 hC2
                have HC2 := Lib.hid hC2
                clear hA q1 hrb hC2 hg
                go_wp2_with fail
                have hkk : ∀ W, Below bN X W → W.heap[bN]? = some (.cells #[.int .i64 NN, .slice av (s.fh.2.1 + s.bh.2.1 + k) cv] 44 (0, 0)) → W.cell? ⟨bN, 1, none⟩ = some (.slice av (s.fh.2.1 + s.bh.2.1 + k) cv) ∧ W.cell? ⟨w.heap.size, 0, none⟩ = some (.slice s.fh.1 s.fh.2.1 s.fh.2.2) ∧ W.cell? ⟨w.heap.size, 1, none⟩ = some (.slice s.bh.1 s.bh.2.1 s.bh.2.2) ∧ W.cell? ⟨w.heap.size, 2, none⟩ = some (.slice s.lh.1 s.lh.2.1 s.lh.2.2) ∧ W.cell? ⟨w.heap.size, 3, none⟩ = some (.slice (some ⟨b1, o1, none⟩) s.rh.2.1 s.rh.2.2) ∧ W.cell? ⟨w.heap.size, 4, none⟩ = some (.int .i64 s.switches) ∧ W.cell? ⟨w.heap.size, 5, none⟩ = some (.slice s.kh.1 s.kh.2.1 s.kh.2.2) ∧ W.cell? ⟨w.heap.size, 6, none⟩ = some (.slice s.hh.1 s.hh.2.1 s.hh.2.2) ∧ W.cell? ⟨w.heap.size + 1, 0, none⟩ = some (.slice x.sh.1 x.sh.2.1 x.sh.2.2) ∧ W.cell? ⟨w.heap.size + 1 + 1, 0, none⟩ = some (.slice v.hh.1 v.hh.2.1 v.hh.2.2) ∧ W.cell? ⟨w.heap.size + 1 + 1, 1, none⟩ = some (.slice v.rh.1 v.rh.2.1 v.rh.2.2) ∧ W.cell? ⟨b1, o1 + k * 4 + 1, none⟩ = some (.int .i64 j) := fun W hb hx => ⟨(blk_cell hx 1).trans rfl, (hb.cell (by simp only; omega)).trans d0, (hb.cell (by simp only; omega)).trans d1, (hb.cell (by simp only; omega)).trans d2, (hb.cell (by simp only; omega)).trans d3, (hb.cell (by simp only; omega)).trans d4, (hb.cell (by simp only; omega)).trans d5, (hb.cell (by simp only; omega)).trans d6, (hb.cell (by simp only; omega)).trans d7, (hb.cell (by simp only; omega)).trans d8, (hb.cell (by simp only; omega)).trans d9, (hb.cell (by simp only; omega)).trans p1⟩
                have HkK := Lib.hid hkk
                have bD : Below bN X X.drew := (Below.refl bN X).drew
                have kD := hkk X.drew bD HX.out.box
                have HXD := Lib.hid (HX.out.later (below_self X).drew)
                have lX := blk_lt HX.out.box
                obtain ⟨i0, hi, hz0, hz1, hz2⟩ := info_parts infoA
                clear hkk
                refine wp_region_G (by kernel_rfl) (fun W => W.cell? ⟨bN, 1, none⟩ = some (.slice av (s.fh.2.1 + s.bh.2.1 + k) cv) ∧ W.cell? ⟨w.heap.size, 0, none⟩ = some (.slice s.fh.1 s.fh.2.1 s.fh.2.2) ∧ W.cell? ⟨w.heap.size, 1, none⟩ = some (.slice s.bh.1 s.bh.2.1 s.bh.2.2) ∧ W.cell? ⟨w.heap.size, 2, none⟩ = some (.slice s.lh.1 s.lh.2.1 s.lh.2.2) ∧ W.cell? ⟨w.heap.size, 3, none⟩ = some (.slice (some ⟨b1, o1, none⟩) s.rh.2.1 s.rh.2.2) ∧ W.cell? ⟨w.heap.size, 4, none⟩ = some (.int .i64 s.switches) ∧ W.cell? ⟨w.heap.size, 5, none⟩ = some (.slice s.kh.1 s.kh.2.1 s.kh.2.2) ∧ W.cell? ⟨w.heap.size, 6, none⟩ = some (.slice s.hh.1 s.hh.2.1 s.hh.2.2) ∧ W.cell? ⟨w.heap.size + 1, 0, none⟩ = some (.slice x.sh.1 x.sh.2.1 x.sh.2.2) ∧ W.cell? ⟨w.heap.size + 1 + 1, 0, none⟩ = some (.slice v.hh.1 v.hh.2.1 v.hh.2.2) ∧ W.cell? ⟨w.heap.size + 1 + 1, 1, none⟩ = some (.slice v.rh.1 v.rh.2.1 v.rh.2.2) ∧ W.cell? ⟨b1, o1 + k * 4 + 1, none⟩ = some (.int .i64 j)) 22 ?_
                refine wpAnyG_take (i := 0) (v := ?vCx0) rfl (by kernel_rfl) (by kernel_rfl) (by kernel_rfl) (by kernel_rfl) (fun _ _ _ h => h) (Or.inl ⟨by rfl, ?yCx0⟩) kD ?rCx0
                case yCx0 => (rintro W ⟨s0, s1, s2, s3, s4, s5, s6, s7, s8, s9, s10, s11⟩; go_simp; try with_reducible rfl)
                refine wpAnyG_take (i := 1) (v := ?vCx1) rfl (by kernel_rfl) (by kernel_rfl) (by kernel_rfl) (by kernel_rfl) (fun _ _ _ h => h) (Or.inl ⟨by rfl, ?yCx1⟩) kD ?rCx1
                case yCx1 => (rintro W ⟨s0, s1, s2, s3, s4, s5, s6, s7, s8, s9, s10, s11⟩; go_simp; try with_reducible rfl)
                refine wpAnyG_take (i := 2) (v := ?vCx2) rfl (by kernel_rfl) (by kernel_rfl) (by kernel_rfl) (by kernel_rfl) (fun _ _ _ h => h) (Or.inl ⟨by rfl, ?yCx2⟩) kD ?rCx2
                case yCx2 => (rintro W ⟨s0, s1, s2, s3, s4, s5, s6, s7, s8, s9, s10, s11⟩; go_simp; try with_reducible rfl)
                refine wpAnyG_take (i := 3) (v := ?vCx3) rfl (by kernel_rfl) (by kernel_rfl) (by kernel_rfl) (by kernel_rfl) (fun _ _ _ h => h) (Or.inl ⟨by rfl, ?yCx3⟩) kD ?rCx3
                case yCx3 => (rintro W ⟨s0, s1, s2, s3, s4, s5, s6, s7, s8, s9, s10, s11⟩; go_simp; try with_reducible rfl)
                refine wpAnyG_take (i := 4) (v := ?vCx4) rfl (by kernel_rfl) (by kernel_rfl) (by kernel_rfl) (by kernel_rfl) (fun _ _ _ h => h) (Or.inl ⟨by rfl, ?yCx4⟩) kD ?rCx4
                case yCx4 => (rintro W ⟨s0, s1, s2, s3, s4, s5, s6, s7, s8, s9, s10, s11⟩; go_simp; try with_reducible rfl)
                refine wpAnyG_take (i := 5) (v := ?vCx5) rfl (by kernel_rfl) (by kernel_rfl) (by kernel_rfl) (by kernel_rfl) (fun _ _ _ h => h) (Or.inl ⟨by rfl, ?yCx5⟩) kD ?rCx5
                case yCx5 => (rintro W ⟨s0, s1, s2, s3, s4, s5, s6, s7, s8, s9, s10, s11⟩; go_simp; try with_reducible rfl)
                refine wpAnyG_take (i := 6) (v := ?vCx6) rfl (by kernel_rfl) (by kernel_rfl) (by kernel_rfl) (by kernel_rfl) (fun _ _ _ h => h) (Or.inl ⟨by rfl, ?yCx6⟩) kD ?rCx6
                case yCx6 => (rintro W ⟨s0, s1, s2, s3, s4, s5, s6, s7, s8, s9, s10, s11⟩; go_simp; try with_reducible rfl)
                refine wpAnyG_take (i := 7) (v := ?vCx7) rfl (by kernel_rfl) (by kernel_rfl) (by kernel_rfl) (by kernel_rfl) (fun _ _ _ h => h) (Or.inl ⟨by rfl, ?yCx7⟩) kD ?rCx7
                case yCx7 => (rintro W ⟨s0, s1, s2, s3, s4, s5, s6, s7, s8, s9, s10, s11⟩; go_simp; try with_reducible rfl)
                refine wpAnyG_take (i := 8) (v := ?vCx8) rfl (by kernel_rfl) (by kernel_rfl) (by kernel_rfl) (by kernel_rfl) (fun _ _ _ h => h) (Or.inl ⟨by rfl, ?yCx8⟩) kD ?rCx8
                case yCx8 => (rintro W ⟨s0, s1, s2, s3, s4, s5, s6, s7, s8, s9, s10, s11⟩; go_simp; try with_reducible rfl)
                refine wpAnyG_take (i := 9) (v := ?vCx9) rfl (by kernel_rfl) (by kernel_rfl) (by kernel_rfl) (by kernel_rfl) (fun _ _ _ h => h) (Or.inl ⟨by rfl, ?yCx9⟩) kD ?rCx9
                case yCx9 => (rintro W ⟨s0, s1, s2, s3, s4, s5, s6, s7, s8, s9, s10, s11⟩; go_simp; try with_reducible rfl)
                refine wpAnyG_take (i := 10) (v := ?vCx10) rfl (by kernel_rfl) (by kernel_rfl) (by kernel_rfl) (by kernel_rfl) (fun _ _ _ h => h) (Or.inl ⟨by rfl, ?yCx10⟩) kD ?rCx10
                case yCx10 => (rintro W ⟨s0, s1, s2, s3, s4, s5, s6, s7, s8, s9, s10, s11⟩; go_simp; try with_reducible rfl)
                refine wpAnyG_take (i := 11) (v := ?vCx11) rfl (by kernel_rfl) (by kernel_rfl) (by kernel_rfl) (by kernel_rfl) (fun _ _ _ h => h) (Or.inl ⟨by rfl, ?yCx11⟩) kD ?rCx11
                case yCx11 => (rintro W ⟨s0, s1, s2, s3, s4, s5, s6, s7, s8, s9, s10, s11⟩; go_simp; try with_reducible rfl)
                refine wpAnyG_take (i := 12) (v := ?vCx12) rfl (by kernel_rfl) (by kernel_rfl) (by kernel_rfl) (by kernel_rfl) (fun _ _ _ h => h) (Or.inl ⟨by rfl, ?yCx12⟩) kD ?rCx12
                case yCx12 => (rintro W ⟨s0, s1, s2, s3, s4, s5, s6, s7, s8, s9, s10, s11⟩; go_simp; try with_reducible rfl)
                refine wpAnyG_take (i := 13) (v := ?vCx13) rfl (by kernel_rfl) (by kernel_rfl) (by kernel_rfl) (by kernel_rfl) (fun _ _ _ h => h) (Or.inl ⟨by rfl, ?yCx13⟩) kD ?rCx13
                case yCx13 => (rintro W ⟨s0, s1, s2, s3, s4, s5, s6, s7, s8, s9, s10, s11⟩; go_simp; try with_reducible rfl)
                refine wpAnyG_take (i := 14) (v := ?vCx14) rfl (by kernel_rfl) (by kernel_rfl) (by kernel_rfl) (by kernel_rfl) (fun _ _ _ h => h) (Or.inl ⟨by rfl, ?yCx14⟩) kD ?rCx14
                case yCx14 => (rintro W ⟨s0, s1, s2, s3, s4, s5, s6, s7, s8, s9, s10, s11⟩; go_simp; try with_reducible rfl)
                refine wpAnyG_take (i := 15) (v := ?vCx15) rfl (by kernel_rfl) (by kernel_rfl) (by kernel_rfl) (by kernel_rfl) (fun _ _ _ h => h) (Or.inl ⟨by rfl, ?yCx15⟩) kD ?rCx15
                case yCx15 => (rintro W ⟨s0, s1, s2, s3, s4, s5, s6, s7, s8, s9, s10, s11⟩; go_simp; try with_reducible rfl)
                refine wpAnyG_take (i := 16) (v := ?vCx16) rfl (by kernel_rfl) (by kernel_rfl) (by kernel_rfl) (by kernel_rfl) (fun _ _ _ h => h) (Or.inl ⟨by rfl, ?yCx16⟩) kD ?rCx16
                case yCx16 => (rintro W ⟨s0, s1, s2, s3, s4, s5, s6, s7, s8, s9, s10, s11⟩; go_simp; try with_reducible rfl)
                refine wpAnyG_next (i := 17) (by kernel_rfl) rfl (fun K hK => ?_)
                go_simp
                go_at_call 10
                refine (HC2.out _ (below_self X).drew).mono ?_
                rintro e Z ⟨rfl, bZ⟩
                have bZ1 : Below bN X Z := bD.trans (bZ.mono (by show bN ≤ X.heap.size; omega))
                have HZJ := Lib.hid (HXD.out.later bZ)
                have kZ := HkK.out Z bZ1 HZJ.out.box
                try go_simp
                refine hK _ _ (fun _ => kZ) ?_
                clear hK K
                refine wpAnyG_next (i := 18) (by kernel_rfl) rfl (fun K hK => ?_)
                go_simp
                refine hK _ _ (fun _ => kZ) ?_
                clear hK K
                have lZ : bN ≤ Z.heap.size := Nat.le_of_lt (blk_lt HZJ.out.box)
                have HA5 := Lib.hid (HZJ.out.later (below_alloc (below_self Z) (.cells #[.int .i64 (2 + (s.fh.2.1 : Int) + (j : Int)), .int .i64 (2 + (s.fh.2.1 : Int) + (s.bh.2.1 : Int) + (k : Int)), .int .i64 (g)] 63)))
                have kA := HkK.out _ (bZ1.alloc lZ (.cells #[.int .i64 (2 + (s.fh.2.1 : Int) + (j : Int)), .int .i64 (2 + (s.fh.2.1 : Int) + (s.bh.2.1 : Int) + (k : Int)), .int .i64 (g)] 63)) HA5.out.box
                refine wpAnyG_next (i := 19) (by kernel_rfl) rfl (fun K hK => ?_)
                go_simp
                refine hK _ _ (fun _ => kA) ?_
                clear hK K
                refine wpAnyG_next (i := 20) (by kernel_rfl) rfl (fun K hK => ?_)
                refine step_append_lies _ (by rfl) _ _ 42 (by rfl) (bN + 1) 63 i0 _ 3 24 Tryz.underlying42 hi hz0 hz1 hz2 rfl (by decide) _ (s.fh.2.1 + s.bh.2.1 + k) (flatA (P.a1 P.nf ++ (P.a2 P.nb ++ P.a3 k))) (by rfl) HA5.out.own.1 ⟨Z.heap.size, 0, none⟩ 1 1 (flatA [⟨2 + (s.fh.2.1 : Int) + (j : Int), 2 + (s.fh.2.1 : Int) + (s.bh.2.1 : Int) + (k : Int), g⟩]) (by rfl) rfl (news_one (blk_new Z _)) (by simp [flatA, Ars, Value.oneCell']) (by omega) (by unfold maxLen; omega) (by omega) (by simp; omega) _ rfl ?_
                intro g5 c5 W5 h1 h2 h3 h4
                obtain ⟨hb5, _, _, z5⟩ := HA5.out.grown HA5.out.own.1 (by omega) h2
                have kW := HkK.out W5 ((bZ1.alloc lZ (.cells #[.int .i64 (2 + (s.fh.2.1 : Int) + (j : Int)), .int .i64 (2 + (s.fh.2.1 : Int) + (s.bh.2.1 : Int) + (k : Int)), .int .i64 (g)] 63)).trans hb5) z5
                have cT := kW.1
                have fT := blk_frozen z5 1
                have lT := blk_lt z5
                obtain ⟨a9, c9, hn9, _⟩ := HA5.out.join (M := [⟨2 + (s.fh.2.1 : Int) + (j : Int), 2 + (s.fh.2.1 : Int) + (s.bh.2.1 : Int) + (k : Int), g⟩]) rfl ⟨g5, c5, W5, h1, h2, h3, rfl⟩
                have HN9 := Lib.hid hn9
                clear hn9 h1 h2 h3 h4 z5 hb5
                try go_simp
                refine hK _ _ (fun _ => kW) ?_
                clear hK K
                refine wpAnyG_next (i := 21) (by kernel_rfl) rfl (fun K hK => ?_)
                go_simp
                refine hK _ _ (fun _ => kW) ?_
                clear hK K
                refine wpAnyG_next (i := 22) (by kernel_rfl) rfl (fun K hK => ?_)
                go_simp
                refine hK _ _ (fun h => absurd rfl h) ?_
                clear hK K
                refine wpAnyG_done (by kernel_rfl) ?_ _
                have hn9 := HN9.out
                rw [List.append_assoc, List.append_assoc, ← HAS.out] at hn9
                have HY := Lib.hid hn9
                clear hn9 HN9 kD kA kW cT fT lT HA5 HXD HAS HkK hi hz0 hz1 hz2
                generalize W5.setCell _ _ = Y at HY ⊢
                go_wp2_with fail
                go_roundw
                case rel => exact ⟨k + 1, Y, _, _, by omega, by go_num, rfl, HY⟩
                case measure => simp [intOf]; omega
              · have hltI : ¬ (k : Int) < (s.rh.2.1 : Int) := by omega
                have hke : k = P.nr := by rw [HQ.out.2.2.1]; omega
                have HX9 := Lib.hid (show NJ w s x v bN NN av (s.fh.2.1 + s.bh.2.1 + s.rh.2.1 + 0) cv (P.a1 P.nf ++ (P.a2 P.nb ++ (P.a3 P.nr ++ P.a4 0))) X by rw [show P.a4 0 = [] from rfl, List.append_nil, ← hke, show s.fh.2.1 + s.bh.2.1 + s.rh.2.1 + 0 = s.fh.2.1 + s.bh.2.1 + k by omega]; exact HX.out)
                clear hke hk hlt HX
                have HX := HX9
                clear HX9
                go_wp2_with fail
                clear d0 d1 d2 d3 d4 d5 d6 d7 d8 d9 dlsi dlwi dlwo lbn
                go_loopw [14] (fun i wr => ∃ (k : Nat) (X : World) (av : Option Addr) (cv : Nat), k ≤ s.rh.2.1 ∧ i = .int .i64 k ∧ X = wr ∧ Hid (NJ w s x v bN NN av (s.fh.2.1 + s.bh.2.1 + s.rh.2.1 + k) cv (P.a1 P.nf ++ (P.a2 P.nb ++ (P.a3 P.nr ++ P.a4 k))) X)) (fun i _ => s.rh.2.1 - (intOf i).toNat)
                case atStart => exact ⟨0, _, _, _, Nat.zero_le _, rfl, rfl, HX⟩
                case round =>
                  clear HX hltI
                  obtain ⟨k, X, av, cv, hk, rfl, rfl, HX⟩ := hrel
                  have d0 : X.cell? ⟨w.heap.size, 0, none⟩ = some (.slice s.fh.1 s.fh.2.1 s.fh.2.2) := (blk_cell HX.out.vb.si 0).trans rfl
                  have d1 : X.cell? ⟨w.heap.size, 1, none⟩ = some (.slice s.bh.1 s.bh.2.1 s.bh.2.2) := (blk_cell HX.out.vb.si 1).trans rfl
                  have d2 : X.cell? ⟨w.heap.size, 2, none⟩ = some (.slice s.lh.1 s.lh.2.1 s.lh.2.2) := (blk_cell HX.out.vb.si 2).trans rfl
                  have d3 : X.cell? ⟨w.heap.size, 3, none⟩ = some (.slice s.rh.1 s.rh.2.1 s.rh.2.2) := (blk_cell HX.out.vb.si 3).trans rfl
                  have d4 : X.cell? ⟨w.heap.size, 4, none⟩ = some (.int .i64 s.switches) := (blk_cell HX.out.vb.si 4).trans rfl
                  have d5 : X.cell? ⟨w.heap.size, 5, none⟩ = some (.slice s.kh.1 s.kh.2.1 s.kh.2.2) := (blk_cell HX.out.vb.si 5).trans rfl
                  have d6 : X.cell? ⟨w.heap.size, 6, none⟩ = some (.slice s.hh.1 s.hh.2.1 s.hh.2.2) := (blk_cell HX.out.vb.si 6).trans rfl
                  have d7 : X.cell? ⟨w.heap.size + 1, 0, none⟩ = some (.slice x.sh.1 x.sh.2.1 x.sh.2.2) := (blk_cell HX.out.vb.wi 0).trans rfl
                  have d8 : X.cell? ⟨w.heap.size + 1 + 1, 0, none⟩ = some (.slice v.hh.1 v.hh.2.1 v.hh.2.2) := (blk_cell HX.out.vb.wo 0).trans rfl
                  have d9 : X.cell? ⟨w.heap.size + 1 + 1, 1, none⟩ = some (.slice v.rh.1 v.rh.2.1 v.rh.2.2) := (blk_cell HX.out.vb.wo 1).trans rfl
                  have dlsi := blk_lt HX.out.vb.si
                  have dlwi := blk_lt HX.out.vb.wi
                  have dlwo := blk_lt HX.out.vb.wo
                  have lbn := HX.out.lt
                  by_cases hlt : k < s.rh.2.1
                  · have hltI : (k : Int) < (s.rh.2.1 : Int) := by omega
                    obtain ⟨g, hg⟩ : ∃ g, ofRack s x v k = g := ⟨_, rfl⟩
                    have hC2 : ∀ W, Below X.heap.size X W → Calls Tryz.prog 10 #[s.val, x.val, v.val, .int .i64 k] W fun e W' => e = .returned (.int .i64 g) ∧ Below W.heap.size W W' := fun W hb => by rw [← hg]; exact rackref_ok s x v k W (HI.out.1.later (below_trans HX.out.vb.bel hb)) (HI.out.2.1.later (below_trans HX.out.vb.bel hb)) (HI.out.2.2.later (below_trans HX.out.vb.bel hb))
                    simp only [Site.val, Site.cells] at hC2
                    have hA := a4_succ P k
                    rw [HQ.out.2.2.2.2.2.1 k, HQ.out.1, HQ.out.2.1, hg] at hA
                    have HAS := Lib.hid hA
                    have hwk : IntKind.i64.wrap (2 + (s.fh.2.1 : Int) + (s.bh.2.1 : Int) + (k : Int)) = 2 + (s.fh.2.1 : Int) + (s.bh.2.1 : Int) + (k : Int) := IntWalk.i64_in _ (by omega)
                    have HC2 := Lib.hid hC2
                    clear hA hC2 hg
                    go_wp2_with fail
                    have hkk : ∀ W, Below bN X W → W.heap[bN]? = some (.cells #[.int .i64 NN, .slice av (s.fh.2.1 + s.bh.2.1 + s.rh.2.1 + k) cv] 44 (0, 0)) → W.cell? ⟨bN, 1, none⟩ = some (.slice av (s.fh.2.1 + s.bh.2.1 + s.rh.2.1 + k) cv) ∧ W.cell? ⟨w.heap.size, 0, none⟩ = some (.slice s.fh.1 s.fh.2.1 s.fh.2.2) ∧ W.cell? ⟨w.heap.size, 1, none⟩ = some (.slice s.bh.1 s.bh.2.1 s.bh.2.2) ∧ W.cell? ⟨w.heap.size, 2, none⟩ = some (.slice s.lh.1 s.lh.2.1 s.lh.2.2) ∧ W.cell? ⟨w.heap.size, 3, none⟩ = some (.slice s.rh.1 s.rh.2.1 s.rh.2.2) ∧ W.cell? ⟨w.heap.size, 4, none⟩ = some (.int .i64 s.switches) ∧ W.cell? ⟨w.heap.size, 5, none⟩ = some (.slice s.kh.1 s.kh.2.1 s.kh.2.2) ∧ W.cell? ⟨w.heap.size, 6, none⟩ = some (.slice s.hh.1 s.hh.2.1 s.hh.2.2) ∧ W.cell? ⟨w.heap.size + 1, 0, none⟩ = some (.slice x.sh.1 x.sh.2.1 x.sh.2.2) ∧ W.cell? ⟨w.heap.size + 1 + 1, 0, none⟩ = some (.slice v.hh.1 v.hh.2.1 v.hh.2.2) ∧ W.cell? ⟨w.heap.size + 1 + 1, 1, none⟩ = some (.slice v.rh.1 v.rh.2.1 v.rh.2.2) := fun W hb hx => ⟨(blk_cell hx 1).trans rfl, (hb.cell (by simp only; omega)).trans d0, (hb.cell (by simp only; omega)).trans d1, (hb.cell (by simp only; omega)).trans d2, (hb.cell (by simp only; omega)).trans d3, (hb.cell (by simp only; omega)).trans d4, (hb.cell (by simp only; omega)).trans d5, (hb.cell (by simp only; omega)).trans d6, (hb.cell (by simp only; omega)).trans d7, (hb.cell (by simp only; omega)).trans d8, (hb.cell (by simp only; omega)).trans d9⟩
                    have HkK := Lib.hid hkk
                    have bD : Below bN X X.drew := (Below.refl bN X).drew
                    have kD := hkk X.drew bD HX.out.box
                    have HXD := Lib.hid (HX.out.later (below_self X).drew)
                    have lX := blk_lt HX.out.box
                    obtain ⟨i0, hi, hz0, hz1, hz2⟩ := info_parts infoA
                    clear hkk
                    refine wp_region_G (by kernel_rfl) (fun W => W.cell? ⟨bN, 1, none⟩ = some (.slice av (s.fh.2.1 + s.bh.2.1 + s.rh.2.1 + k) cv) ∧ W.cell? ⟨w.heap.size, 0, none⟩ = some (.slice s.fh.1 s.fh.2.1 s.fh.2.2) ∧ W.cell? ⟨w.heap.size, 1, none⟩ = some (.slice s.bh.1 s.bh.2.1 s.bh.2.2) ∧ W.cell? ⟨w.heap.size, 2, none⟩ = some (.slice s.lh.1 s.lh.2.1 s.lh.2.2) ∧ W.cell? ⟨w.heap.size, 3, none⟩ = some (.slice s.rh.1 s.rh.2.1 s.rh.2.2) ∧ W.cell? ⟨w.heap.size, 4, none⟩ = some (.int .i64 s.switches) ∧ W.cell? ⟨w.heap.size, 5, none⟩ = some (.slice s.kh.1 s.kh.2.1 s.kh.2.2) ∧ W.cell? ⟨w.heap.size, 6, none⟩ = some (.slice s.hh.1 s.hh.2.1 s.hh.2.2) ∧ W.cell? ⟨w.heap.size + 1, 0, none⟩ = some (.slice x.sh.1 x.sh.2.1 x.sh.2.2) ∧ W.cell? ⟨w.heap.size + 1 + 1, 0, none⟩ = some (.slice v.hh.1 v.hh.2.1 v.hh.2.2) ∧ W.cell? ⟨w.heap.size + 1 + 1, 1, none⟩ = some (.slice v.rh.1 v.rh.2.1 v.rh.2.2)) 14 ?_
                    refine wpAnyG_take (i := 0) (v := ?vDx0) rfl (by kernel_rfl) (by kernel_rfl) (by kernel_rfl) (by kernel_rfl) (fun _ _ _ h => h) (Or.inl ⟨by rfl, ?yDx0⟩) kD ?rDx0
                    case yDx0 => (rintro W ⟨s0, s1, s2, s3, s4, s5, s6, s7, s8, s9, s10⟩; go_simp; try with_reducible rfl)
                    refine wpAnyG_take (i := 1) (v := ?vDx1) rfl (by kernel_rfl) (by kernel_rfl) (by kernel_rfl) (by kernel_rfl) (fun _ _ _ h => h) (Or.inl ⟨by rfl, ?yDx1⟩) kD ?rDx1
                    case yDx1 => (rintro W ⟨s0, s1, s2, s3, s4, s5, s6, s7, s8, s9, s10⟩; go_simp; try with_reducible rfl)
                    refine wpAnyG_take (i := 2) (v := ?vDx2) rfl (by kernel_rfl) (by kernel_rfl) (by kernel_rfl) (by kernel_rfl) (fun _ _ _ h => h) (Or.inl ⟨by rfl, ?yDx2⟩) kD ?rDx2
                    case yDx2 => (rintro W ⟨s0, s1, s2, s3, s4, s5, s6, s7, s8, s9, s10⟩; go_simp; try with_reducible rfl)
                    refine wpAnyG_take (i := 3) (v := ?vDx3) rfl (by kernel_rfl) (by kernel_rfl) (by kernel_rfl) (by kernel_rfl) (fun _ _ _ h => h) (Or.inl ⟨by rfl, ?yDx3⟩) kD ?rDx3
                    case yDx3 => (rintro W ⟨s0, s1, s2, s3, s4, s5, s6, s7, s8, s9, s10⟩; go_simp; try with_reducible rfl)
                    refine wpAnyG_take (i := 4) (v := ?vDx4) rfl (by kernel_rfl) (by kernel_rfl) (by kernel_rfl) (by kernel_rfl) (fun _ _ _ h => h) (Or.inl ⟨by rfl, ?yDx4⟩) kD ?rDx4
                    case yDx4 => (rintro W ⟨s0, s1, s2, s3, s4, s5, s6, s7, s8, s9, s10⟩; go_simp; try with_reducible rfl)
                    refine wpAnyG_take (i := 5) (v := ?vDx5) rfl (by kernel_rfl) (by kernel_rfl) (by kernel_rfl) (by kernel_rfl) (fun _ _ _ h => h) (Or.inl ⟨by rfl, ?yDx5⟩) kD ?rDx5
                    case yDx5 => (rintro W ⟨s0, s1, s2, s3, s4, s5, s6, s7, s8, s9, s10⟩; go_simp; try with_reducible rfl)
                    refine wpAnyG_take (i := 6) (v := ?vDx6) rfl (by kernel_rfl) (by kernel_rfl) (by kernel_rfl) (by kernel_rfl) (fun _ _ _ h => h) (Or.inl ⟨by rfl, ?yDx6⟩) kD ?rDx6
                    case yDx6 => (rintro W ⟨s0, s1, s2, s3, s4, s5, s6, s7, s8, s9, s10⟩; go_simp; try with_reducible rfl)
                    refine wpAnyG_take (i := 7) (v := ?vDx7) rfl (by kernel_rfl) (by kernel_rfl) (by kernel_rfl) (by kernel_rfl) (fun _ _ _ h => h) (Or.inl ⟨by rfl, ?yDx7⟩) kD ?rDx7
                    case yDx7 => (rintro W ⟨s0, s1, s2, s3, s4, s5, s6, s7, s8, s9, s10⟩; go_simp; try with_reducible rfl)
                    refine wpAnyG_take (i := 8) (v := ?vDx8) rfl (by kernel_rfl) (by kernel_rfl) (by kernel_rfl) (by kernel_rfl) (fun _ _ _ h => h) (Or.inl ⟨by rfl, ?yDx8⟩) kD ?rDx8
                    case yDx8 => (rintro W ⟨s0, s1, s2, s3, s4, s5, s6, s7, s8, s9, s10⟩; go_simp; try with_reducible rfl)
                    refine wpAnyG_next (i := 9) (by kernel_rfl) rfl (fun K hK => ?_)
                    go_simp
                    go_at_call 10
                    refine (HC2.out _ (below_self X).drew).mono ?_
                    rintro e Z ⟨rfl, bZ⟩
                    have bZ1 : Below bN X Z := bD.trans (bZ.mono (by show bN ≤ X.heap.size; omega))
                    have HZJ := Lib.hid (HXD.out.later bZ)
                    have kZ := HkK.out Z bZ1 HZJ.out.box
                    try go_simp
                    refine hK _ _ (fun _ => kZ) ?_
                    clear hK K
                    refine wpAnyG_next (i := 10) (by kernel_rfl) rfl (fun K hK => ?_)
                    go_simp
                    refine hK _ _ (fun _ => kZ) ?_
                    clear hK K
                    have lZ : bN ≤ Z.heap.size := Nat.le_of_lt (blk_lt HZJ.out.box)
                    have HA5 := Lib.hid (HZJ.out.later (below_alloc (below_self Z) (.cells #[.int .i64 (2 + (s.fh.2.1 : Int) + (s.bh.2.1 : Int) + (k : Int)), .int .i64 (1), .int .i64 (g)] 63)))
                    have kA := HkK.out _ (bZ1.alloc lZ (.cells #[.int .i64 (2 + (s.fh.2.1 : Int) + (s.bh.2.1 : Int) + (k : Int)), .int .i64 (1), .int .i64 (g)] 63)) HA5.out.box
                    refine wpAnyG_next (i := 11) (by kernel_rfl) rfl (fun K hK => ?_)
                    go_simp
                    refine hK _ _ (fun _ => kA) ?_
                    clear hK K
                    refine wpAnyG_next (i := 12) (by kernel_rfl) rfl (fun K hK => ?_)
                    refine step_append_lies _ (by rfl) _ _ 42 (by rfl) (bN + 1) 63 i0 _ 3 24 Tryz.underlying42 hi hz0 hz1 hz2 rfl (by decide) _ (s.fh.2.1 + s.bh.2.1 + s.rh.2.1 + k) (flatA (P.a1 P.nf ++ (P.a2 P.nb ++ (P.a3 P.nr ++ P.a4 k)))) (by rfl) HA5.out.own.1 ⟨Z.heap.size, 0, none⟩ 1 1 (flatA [⟨2 + (s.fh.2.1 : Int) + (s.bh.2.1 : Int) + (k : Int), 1, g⟩]) (by rfl) rfl (news_one (blk_new Z _)) (by simp [flatA, Ars, Value.oneCell']) (by omega) (by unfold maxLen; omega) (by omega) (by simp; omega) _ rfl ?_
                    intro g5 c5 W5 h1 h2 h3 h4
                    obtain ⟨hb5, _, _, z5⟩ := HA5.out.grown HA5.out.own.1 (by omega) h2
                    have kW := HkK.out W5 ((bZ1.alloc lZ (.cells #[.int .i64 (2 + (s.fh.2.1 : Int) + (s.bh.2.1 : Int) + (k : Int)), .int .i64 (1), .int .i64 (g)] 63)).trans hb5) z5
                    have cT := kW.1
                    have fT := blk_frozen z5 1
                    have lT := blk_lt z5
                    obtain ⟨a9, c9, hn9, _⟩ := HA5.out.join (M := [⟨2 + (s.fh.2.1 : Int) + (s.bh.2.1 : Int) + (k : Int), 1, g⟩]) rfl ⟨g5, c5, W5, h1, h2, h3, rfl⟩
                    have HN9 := Lib.hid hn9
                    clear hn9 h1 h2 h3 h4 z5 hb5
                    try go_simp
                    refine hK _ _ (fun _ => kW) ?_
                    clear hK K
                    refine wpAnyG_next (i := 13) (by kernel_rfl) rfl (fun K hK => ?_)
                    go_simp
                    refine hK _ _ (fun _ => kW) ?_
                    clear hK K
                    refine wpAnyG_next (i := 14) (by kernel_rfl) rfl (fun K hK => ?_)
                    go_simp
                    refine hK _ _ (fun h => absurd rfl h) ?_
                    clear hK K
                    refine wpAnyG_done (by kernel_rfl) ?_ _
                    have hn9 := HN9.out
                    rw [List.append_assoc, List.append_assoc, List.append_assoc, ← HAS.out] at hn9
                    have HY := Lib.hid hn9
                    clear hn9 HN9 kD kA kW cT fT lT HA5 HXD HAS HkK hi hz0 hz1 hz2
                    generalize W5.setCell _ _ = Y at HY ⊢
                    go_wp2_with fail
                    go_roundw
                    case rel => exact ⟨k + 1, Y, _, _, by omega, by go_num, rfl, HY⟩
                    case measure => simp [intOf]; omega
                  · have hltI : ¬ (k : Int) < (s.rh.2.1 : Int) := by omega
                    have hke : k = P.nr := by rw [HQ.out.2.2.1]; omega
                    have HX9 := Lib.hid (show NJ w s x v bN NN av (s.fh.2.1 + s.bh.2.1 + s.rh.2.1 + k) cv P.arcs X by rw [hke] at HX; rw [hke]; exact HX.out)
                    clear hke hk hlt HX
                    have HX := HX9
                    clear HX9
                    have k0 : X.cell? ⟨bN, 0, none⟩ = some (.int .i64 NN) := (blk_cell HX.out.box 0).trans rfl
                    have k1 : X.cell? ⟨bN, 1, none⟩ = some (.slice av (s.fh.2.1 + s.bh.2.1 + s.rh.2.1 + k) cv) := (blk_cell HX.out.box 1).trans rfl
                    have r0 : X.cell? ⟨w.heap.size + 1 + 1 + 1, 0, none⟩ = some (.int .i64 0) := (blk_cell HX.out.rs 0).trans rfl
                    have r1 : X.cell? ⟨w.heap.size + 1 + 1 + 1, 1, none⟩ = some (.slice none 0 0) := (blk_cell HX.out.rs 1).trans rfl
                    have f0 := blk_frozen HX.out.rs 0
                    have f1 := blk_frozen HX.out.rs 1
                    have dl := blk_lt HX.out.rs
                    have kl := blk_lt HX.out.box
                    go_wp2_with fail
                    (try simp only [Exit.inBlock, Exit.then]); refine bodyPost_ret (results_cell_row rfl _ _ (w.heap.size + 3) 44 #[.int .i64 NN, .slice av (s.fh.2.1 + s.bh.2.1 + s.rh.2.1 + k) cv] (0, 0) _ rfl (blk_set_two HX.out.rs) Tryz.underlying44 rfl net_info) rfl ?_
                    rw [HE.out.1, HE.out.2]
                    have hlt5 := HX.out.lt
                    exact ⟨_, _, _, rfl, ⟨owns_base (owns_set (owns_set HX.out.own.1 (by simp only; omega) _) (by simp only; omega) _) (by omega), HX.out.own.2⟩, (HX.out.vb.bel.setCell (by simp only; omega) _).setCell (by simp only; omega) _⟩
end Go.Proofs.YthlefdbhkbpejaaGreat
