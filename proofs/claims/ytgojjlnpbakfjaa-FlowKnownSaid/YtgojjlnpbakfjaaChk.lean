/- Chapter 05: flow.Check (written by wip/gen05chk.py). -/
import Derived.Test.YtgojjlnpbakfjaaPla
import Derived.Test.YtgojjlnpbakfjaaRst
import Derived.StillTailTactics
import Derived.WalkMore
namespace Go.Proofs.Ytgojjlnpbakfjaa
open Go Go.RowKit
set_option linter.unusedSimpArgs false

theorem drew_below (X : World) : Below X.heap.size X X.drew := (below_self X).drew
/-- The net in its box, a row of balances. -/
structure CR (w : World) (N : Int) (a : Option Addr) (k c n g : Nat) (L : List Int) (X : World) : Prop where
  bel : Below w.heap.size w X
  box : X.heap[w.heap.size]? = some (.cells #[.int .i64 N, .slice a k c] 24 (0, 0))
  row : OwnI (w.heap.size + 1) X (.slice (some ⟨g, 0, none⟩) n n) L
  len : L.length = n
section
variable {w : World} {N : Int} {a : Option Addr} {k c n g : Nat} {L : List Int} {X X' : World}
theorem CR.later (h : CR w N a k c n g L X) (hb : Below X.heap.size X X') : CR w N a k c n g L X' := ⟨below_trans h.bel hb, blk_below h.box hb, h.row.later hb, h.len⟩
theorem CR.lo (h : CR w N a k c n g L X) : w.heap.size + 1 ≤ g ∧ g < X.heap.size := h.row.lt g rfl
theorem CR.put (h : CR w N a k c n g L X) (e : Nat) (y : Int) : CR w N a k c n g (L.set e y) (X.setCell ⟨g, e, none⟩ (.int .i64 y)) := by
  have hg := h.lo
  exact ⟨h.bel.setCell (by simp only; omega) _, blk_set h.box (by simp only; omega) _, h.row.put e y, by rw [List.length_set]; exact h.len⟩
theorem CR.at' (h : CR w N a k c n g L X) {e : Nat} (he : e < n) : X.cell? ⟨g, e, none⟩ = some (.int .i64 (L.getD e default)) ∧ X.frozen? ⟨g, e, none⟩ = false := by
  obtain ⟨g', c', hv, _, _, h1, h2⟩ := h.row.at (e := e) (by rw [h.len]; exact he)
  cases hv
  exact ⟨h1, h2⟩
end
/-- The balances of the first j arcs. -/
structure CJ (l : List Ar) (f : List Int) (n j : Nat) (L : List Int) : Prop where
  val : ∀ x : Nat, x < n → L.getD x default = net (l.take j) (f.take j) x
  ok : okF (l.take j) (f.take j)
theorem take_snocA2 {l : List Ar} {k : Nat} (hk : k < l.length) : l.take (k + 1) = l.take k ++ [l.getD k default] := by
  rw [List.take_succ_eq_append_getElem hk]
  simp [List.getD, List.getElem?_eq_getElem hk]
theorem CJ.start (l : List Ar) (f : List Int) (n : Nat) : CJ l f n 0 (List.replicate n 0) := by
  refine ⟨fun x hx => ?_, by simp [okF]⟩
  rw [List.getD_eq_getElem?_getD, List.getElem?_replicate, if_pos hx]
  simp [net]
theorem CJ.next {l : List Ar} {f : List Int} {n j : Nat} {L : List Int} (h : CJ l f n j L) (hj : j < l.length) (hl : f.length = l.length) (hL : L.length = n) {u v : Nat} {cc y : Int} (hx : l.getD j default = ⟨u, v, cc⟩) (hy : f.getD j default = y) (hu : u < n) (hv : v < n) (huv : u ≠ v) (h0 : 0 ≤ y) (h1 : y ≤ cc)
    {z z2 : Int} (hz : z = L.getD u default + y) (hz2 : z2 = L.getD v default - y) : CJ l f n (j + 1) ((L.set u z).set v z2) := by
  subst hz hz2
  have e1 := take_snocA2 hj
  have e2 := take_snocI (xs := f) (k := j) (by omega)
  rw [hx] at e1
  rw [hy] at e2
  refine ⟨fun x hxn => ?_, by rw [e1, e2]; exact okF_snoc h.ok h0 h1⟩
  rw [e1, e2, net_snoc _ _ _ _ _ (by rw [List.length_take, List.length_take, hl]), ← h.val x hxn, List.getD_eq_getElem?_getD, List.getElem?_set, List.length_set]
  simp only
  by_cases hxv : v = x
  · subst hxv
    rw [if_pos rfl, if_pos (by omega), if_neg (by omega), if_pos rfl, Option.getD_some]
    omega
  · rw [if_neg hxv, if_neg (show ¬ (v : Int) = (x : Int) by omega), List.getElem?_set]
    by_cases hxu : u = x
    · subst hxu
      rw [if_pos rfl, if_pos (by omega), if_pos rfl, Option.getD_some]
      omega
    · rw [if_neg hxu, if_neg (show ¬ (u : Int) = (x : Int) by omega), ← List.getD_eq_getElem?_getD]
      omega
theorem CJ.bound {l : List Ar} {f : List Int} {n j : Nat} {L : List Int} (h : CJ l f n j L) (hc : ∀ a ∈ l, 0 ≤ a.c ∧ a.c ≤ 100000000) (hl : l.length ≤ 128) {x : Nat} (hx : x < n) : -12800000000 ≤ L.getD x default ∧ L.getD x default ≤ 12800000000 := by
  rw [h.val x hx]
  have := net_bound _ _ (x : Int) h.ok (fun a ha => hc a (List.mem_of_mem_take ha))
  have h2 : (l.take j).length ≤ l.length := by rw [List.length_take]; omega
  omega

theorem getD_set {L : List Int} {i : Nat} (y : Int) (hi : i < L.length) (x : Nat) : (L.set i y).getD x default = if x = i then y else L.getD x default := by
  rw [List.getD_eq_getElem?_getD, List.getElem?_set]
  by_cases h : i = x
  · rw [if_pos h, if_pos h.symm, if_pos hi]; rfl
  · rw [if_neg h, if_neg (fun e => h e.symm), List.getD_eq_getElem?_getD]
theorem con_any {n : Nat} {l : List Ar} {f L : List Int} {s t : Nat} (hlen : L.length = n) (hval : ∀ x : Nat, x < n → L.getD x default = net l f x) (hs : s < n) (ht : t < n) : ((L.set s 0).set t 0).any (fun x => x != 0) = !conB n l s t f := by
  have hg : ∀ x : Nat, x < n → ((L.set s 0).set t 0).getD x default = if x = t then 0 else if x = s then 0 else net l f x := fun x hx => by
    rw [getD_set 0 (by rw [List.length_set]; omega), getD_set 0 (by omega), hval x hx]
  cases hc : conB n l s t f
  · unfold conB at hc
    rw [List.all_eq_false] at hc
    obtain ⟨x, hx, hb⟩ := hc
    simp only [List.mem_range] at hx
    simp only [Bool.or_eq_true, decide_eq_true_eq, not_or] at hb
    obtain ⟨⟨h1, h2⟩, h3⟩ := hb
    show _ = true
    rw [List.any_eq_true]
    have h4 := hg x hx
    rw [if_neg (by omega), if_neg (by omega)] at h4
    have hxl : x < ((L.set s 0).set t 0).length := by rw [List.length_set, List.length_set]; omega
    rw [List.getD_eq_getElem?_getD, List.getElem?_eq_getElem hxl, Option.getD_some] at h4
    exact ⟨_, List.getElem_mem hxl, by rw [h4]; simpa using h3⟩
  · have hc2 := conB_iff.1 hc
    show _ = false
    rw [List.any_eq_false]
    intro y hy
    obtain ⟨x, hx, rfl⟩ := List.getElem_of_mem hy
    have hxn : x < n := by rw [List.length_set, List.length_set] at hx; omega
    have h4 := hg x hxn
    rw [List.getD_eq_getElem?_getD, List.getElem?_eq_getElem hx, Option.getD_some] at h4
    rw [h4]
    split
    · simp
    · split
      · simp
      · rename_i h1 h2
        simpa using hc2 x (by omega) (by omega) (by omega) (by omega)
theorem nz_ok (x : Int) (w : World) : Calls Try.prog 42 #[.int .i64 x] w fun e W' => e = .returned (.bool (x != 0)) ∧ Below w.heap.size w W' := by
  go_enter Try.func42, Try.ntmps42
  go_wp2_with fail
  go_ret
  exact ⟨rfl, below_self w⟩

set_option maxRecDepth 100000 in
set_option maxHeartbeats 8000000 in
theorem check_ok (N : Int) (a : Option Addr) (k c : Nat) (l : List Ar) (s t : Int) (af : Option Addr) (kf cf : Nat) (f : List Int) (w : World) (hn : l.length = k) (hl : k ≤ 9223372036854775807) (hm : RowsAt w.heap.size w a 3 (Ars l)) (hnf : f.length = kf) (hlf : kf ≤ 9223372036854775807) (hmf : RowsAt w.heap.size w af 1 (Ints f)) :
    Calls Try.prog 25 #[.agg #[.int .i64 N, .slice a k c], .int .i64 s, .int .i64 t, .slice af kf cf] w fun e W' => e = .returned (.tuple #[.int .i64 (chkV N l s t f), .int .i64 (chkE N l s t f)]) ∧ Below w.heap.size w W' := by
  have HM := Lib.hid (And.intro hn (And.intro hm (And.intro hnf hmf)))
  by_cases h0 : askF N l s t = 0
  · obtain ⟨hv, hs, ht, hst⟩ := askF_zero h0
    obtain ⟨h2, h64, h128, hA⟩ := netOk_iff.1 hv
    obtain ⟨n, rfl⟩ : ∃ n : Nat, N = n := ⟨N.toNat, by omega⟩
    obtain ⟨s, rfl⟩ : ∃ z : Nat, s = z := ⟨s.toNat, by omega⟩
    obtain ⟨t, rfl⟩ : ∃ z : Nat, t = z := ⟨t.toNat, by omega⟩
    have hk : k ≤ 128 := by omega
    have hsn : s < n := by omega
    have htn : t < n := by omega
    have hn64 : n ≤ 64 := by omega
    have hE : chkE n l s t f = if (okFb l f && conB n l s t f) = true then 0 else 13 := by unfold chkE; rw [if_pos h0, Int.toNat_natCast]
    have H0 := Lib.hid (And.intro h0 (And.intro hA (And.intro hE (show (s : Int) ≠ t from hst))))
    clear hn hm hnf hmf hv hs ht hst h2 h64 h128 hA h0 hE
    by_cases hlen : kf = k
    · subst hlen
      obtain ⟨R, hR⟩ : ∃ R, chkV n l s t f = R := ⟨_, rfl⟩
      obtain ⟨E, hE⟩ : ∃ E, chkE n l s t f = E := ⟨_, rfl⟩
      rw [hR, hE]
      have HE := Lib.hid (And.intro hR hE)
      have hbad : okFb l f = false → (0 : Int) = R ∧ (13 : Int) = E := by
        intro hb
        have h13 : chkE n l s t f = 13 := by rw [H0.out.2.2.1, hb]; rfl
        refine ⟨?_, by rw [← HE.out.2, h13]⟩
        rw [← HE.out.1]
        unfold chkV
        rw [h13]; rfl
      have HBad := Lib.hid hbad
      clear hR hE hbad
      go_enter Try.func25, Try.ntmps25
      go_wp2_with fail
      obtain ⟨A, hA⟩ : ∃ W' : World, (w.alloc (.cells #[.int .i64 n, .slice a kf c] 24)) = W' := ⟨_, rfl⟩
      have h : Has A [(w.heap.size, .cells #[.int .i64 n, .slice a kf c] 24 (0, 0))] := by rw [← hA]; simpa using ((Has.nil w).new _)
      have z : A.heap.size = w.heap.size + 1 := by rw [← hA]; simp
      have b : Below w.heap.size w A := by rw [← hA]; exact (below_alloc (below_self w) _)
      rw [hA]
      clear hA
      have HA := Lib.hid (And.intro h.hd b)
      clear h z b
      refine (asked_ok n a kf c l s t A HM.out.1 hl (HM.out.2.1.later HA.out.2)).mono ?_
      rintro e B ⟨rfl, hb⟩
      rw [H0.out.1]
      have HB := Lib.hid (And.intro (blk_below HA.out.1 hb) (below_trans HA.out.2 hb))
      clear hb HA
      have c0 : B.cell? ⟨w.heap.size, 0, none⟩ = some (.int .i64 n) := (blk_cell HB.out.1 0).trans rfl
      have c1 : B.cell? ⟨w.heap.size, 1, none⟩ = some (.slice a kf c) := (blk_cell HB.out.1 1).trans rfl
      have lb := blk_lt HB.out.1
      obtain ⟨i0, hi, hz0, hz1, hz2⟩ := info_parts info3
      go_wp2_with (with_reducible refine wpList_make_row rfl 26 _ _ rfl 3 i0 _ 1 8 Try.underlying26 hi hz0 hz1 hz2 n _ rfl rfl ?a2 ?a3 ?a4 ?_)
      case a2 => rfl
      case a3 => omega
      case a4 => omega
      intro W4 h4 hb4 hs4
      have h4' : W4.heap[B.heap.size]? = some (.cells (intsV (List.replicate n 0)).toArray 3 (0, 0)) := by
        have hm : madeCells #[Value.int .i64 0] n = (intsV (List.replicate n 0)).toArray := by
          apply Array.toList_inj.1
          rw [toList_madeCells_one]
          simp [intsV]
        rw [← hm]
        simpa using h4.out
      have hC : CR w n a kf c n B.heap.size (List.replicate n 0) W4 := by
        refine ⟨below_trans HB.out.2 hb4, blk_below HB.out.1 hb4, ?_, by simp⟩
        unfold OwnI
        rw [List.length_replicate]
        exact owns_of_blk h4' lb (by simp [intsV]) (by unfold maxLen; omega)
      have HC := Lib.hid hC
      generalize B.heap.size = g at HC ⊢
      have c1 : W4.cell? ⟨w.heap.size, 1, none⟩ = some (.slice a kf c) := (blk_cell hC.box 1).trans rfl
      have lb := blk_lt hC.box
      clear c0 h4 hb4 hs4 h4' hC HB hi hz0 hz1 hz2
      go_wp2_with fail
      clear c1 lb
      go_loopw [34] (fun i wr => ∃ (j : Nat) (L : List Int) (X : World), j ≤ kf ∧ i = .int .i64 j ∧ X = wr ∧ Hid (CR w n a kf c n g L X ∧ CJ l f n j L)) (fun i _ => kf - (intOf i).toNat)
      case atStart => exact ⟨0, _, _, Nat.zero_le _, rfl, rfl, Lib.hid ⟨HC.out, CJ.start l f n⟩⟩
      case round =>
        clear HC
        obtain ⟨j, L, X, hj, rfl, rfl, HX⟩ := hrel
        by_cases hlt : j < kf
        · have hltI : (j : Int) < (kf : Int) := by omega
          have hjl : j < l.length := by rw [HM.out.1]; exact hlt
          have hA := okA_iff.1 (H0.out.2.1 (l.getD j default) (by rw [List.getD_eq_getElem?_getD, List.getElem?_eq_getElem hjl]; exact List.getElem_mem _))
          obtain ⟨b1, o1, rfl, hb1, c0, c1, c2⟩ := ars_at HM.out.2.1 j hjl
          obtain ⟨b2, o2, rfl, hb2, d0⟩ := ints_at HM.out.2.2.2 j (by rw [HM.out.2.2.1]; exact hlt)
          replace c0 := cell_call HX.out.1.bel hb1 c0
          replace c1 := cell_call HX.out.1.bel hb1 c1
          replace c2 := cell_call HX.out.1.bel hb1 c2
          replace d0 := cell_call HX.out.1.bel hb2 d0
          have hgw := HX.out.1.lo.1
          have hX2 : b2 < X.heap.size := Nat.lt_of_lt_of_le hb2 HX.out.1.bel.size
          replace hb1 : b1 < X.heap.size := Nat.lt_of_lt_of_le hb1 HX.out.1.bel.size
          have hbg : b2 ≠ g := by omega
          replace hb2 := hX2
          clear hX2 hgw
          obtain ⟨x, hx⟩ : ∃ x, l.getD j default = x := ⟨_, rfl⟩
          obtain ⟨y, hy⟩ : ∃ y, f.getD j default = y := ⟨_, rfl⟩
          rw [hx] at hA c0 c1 c2
          rw [hy] at d0
          obtain ⟨xu, xv, xc⟩ := x
          simp only at hA c0 c1 c2
          obtain ⟨⟨u0, u1⟩, ⟨v0, v1⟩, huv, r0, r1⟩ := hA
          obtain ⟨u, rfl⟩ : ∃ u : Nat, xu = u := ⟨xu.toNat, by omega⟩
          obtain ⟨v, rfl⟩ : ∃ v : Nat, xv = v := ⟨xv.toNat, by omega⟩
          have hun : u < n := by omega
          have hvn : v < n := by omega
          have hunI : (u : Int) < (n : Int) := by omega
          have hvnI : (v : Int) < (n : Int) := by omega
          have huv2 : u ≠ v := by omega
          have HK := Lib.hid (And.intro hx (And.intro hy (And.intro hjl huv2)))
          clear hx hy hjl huv huv2 u0 v0 u1 v1
          by_cases hneg : y < 0
          · have HN := Lib.hid (HBad.out (okFb_not HK.out.2.2.1 (by rw [HK.out.1, HK.out.2.1]; simp only; omega)))
            go_wp2_with fail
            go_quiet (fail)
            go_wp2_with fail
            go_ret2
            exact ⟨by rw [← HN.out.1, ← HN.out.2]; rfl, below_drewN (below_alloc HX.out.1.bel _) nq⟩
          · by_cases hbig : xc < y
            · have HN := Lib.hid (HBad.out (okFb_not HK.out.2.2.1 (by rw [HK.out.1, HK.out.2.1]; simp only; omega)))
              go_wp2_with fail
              go_quiet (fail)
              go_wp2_with fail
              go_ret2
              exact ⟨by rw [← HN.out.1, ← HN.out.2]; rfl, below_drewN (below_alloc HX.out.1.bel _) nq⟩
            · go_wp2_with fail
              go_quiet (fail)
              have hbY := below_drewN (below_alloc (below_self X) (.cells #[.int .i64 u, .int .i64 v, .int .i64 xc] 32)) nq
              have hab : ((X.alloc (.cells #[.int .i64 u, .int .i64 v, .int .i64 xc] 32)).drewN nq).heap[X.heap.size]? = some (.cells #[.int .i64 u, .int .i64 v, .int .i64 xc] 32 (0, 0)) := blk_new X _
              have d0' := cell_call hbY hb2 d0
              have HY := Lib.hid (And.intro (HX.out.1.later hbY) (And.intro hab (And.intro HX.out.1.lo.2 HX.out.2)))
              have hb2' := Nat.lt_of_lt_of_le hb2 hbY.size
              have hXg : X.heap.size ≠ g := by have := HX.out.1.lo.2; omega
              have HG := Lib.hid (And.intro hXg hbg)
              clear hbY hab hXg d0 c0 c1 c2 hb1 HX hb2
              generalize (X.alloc (.cells #[.int .i64 u, .int .i64 v, .int .i64 xc] 32)).drewN nq = Y at HY d0' hb2' ⊢
              generalize X.heap.size = m at HY HG ⊢
              have e0 : Y.cell? ⟨m, 0, none⟩ = some (.int .i64 u) := (blk_cell HY.out.2.1 0).trans rfl
              have lm := blk_lt HY.out.2.1
              have lg := HY.out.1.lo.2
              obtain ⟨qu, fu⟩ := HY.out.1.at' hun
              have hbu := HY.out.2.2.2.bound (fun x hx => by have := okA_iff.1 (H0.out.2.1 x hx); omega) (by rw [HM.out.1]; exact hk) hun
              obtain ⟨zu, hzu⟩ : ∃ z, L.getD u default = z := ⟨_, rfl⟩
              rw [hzu] at qu hbu
              have hwu : IntKind.i64.wrap (zu + y) = zu + y := IntWalk.i64_in _ (by omega)
              have HZU := Lib.hid (And.intro hzu hbu)
              clear hzu hbu
              go_wp2_with fail
              go_still_tail 11, (by kernel_rfl)
              have hbD := drew_below Y
              have HZ := Lib.hid (And.intro (HY.out.1.later hbD) (And.intro (blk_below HY.out.2.1 hbD) (cell_call hbD hb2' d0')))
              have HCJ := Lib.hid HY.out.2.2.2
              have quD : Y.drew.cell? ⟨g, u, none⟩ = some (.int .i64 zu) := qu
              have fuD : Y.drew.frozen? ⟨g, u, none⟩ = false := fu
              have lgD : g < Y.drew.heap.size := lg
              have hb2D : b2 < Y.drew.heap.size := hb2'
              change wpList _ _ _ _ _ Y.drew
              clear hbD HY d0' e0 lm lg qu fu hb2'
              generalize Y.drew = Z at HZ quD fuD lgD hb2D ⊢
              go_wp2_with fail
              have HZ1 := Lib.hid (show CR w n (some ⟨b1, o1, none⟩) kf c n g (L.set u (zu + y)) (Z.setCell ⟨g, u, none⟩ (.int .i64 (zu + y))) ∧ (Z.setCell ⟨g, u, none⟩ (.int .i64 (zu + y))).heap[m]? = some (.cells #[.int .i64 u, .int .i64 v, .int .i64 xc] 32 (0, 0)) ∧ (Z.setCell ⟨g, u, none⟩ (.int .i64 (zu + y))).cell? ⟨b2, o2 + j, none⟩ = some (.int .i64 y) from
                ⟨HZ.out.1.put u (zu + y), blk_set HZ.out.2.1 HG.out.1 _, cell_far (Ne.symm HG.out.2) HZ.out.2.2⟩)
              have hb2E : b2 < (Z.setCell ⟨g, u, none⟩ (.int .i64 (zu + y))).heap.size := by simp [World.setCell]; exact hb2D
              clear HZ quD fuD lgD hb2D hwu
              generalize Z.setCell ⟨g, u, none⟩ (.int .i64 (zu + y)) = Y at HZ1 hb2E ⊢
              have e1 : Y.cell? ⟨m, 1, none⟩ = some (.int .i64 v) := (blk_cell HZ1.out.2.1 1).trans rfl
              have lm := blk_lt HZ1.out.2.1
              have lg := HZ1.out.1.lo.2
              obtain ⟨qv, fv'⟩ := HZ1.out.1.at' hvn
              have hbv := HCJ.out.bound (fun x hx => by have := okA_iff.1 (H0.out.2.1 x hx); omega) (by rw [HM.out.1]; exact hk) hvn
              have hgv : (L.set u (zu + y)).getD v default = L.getD v default := by rw [List.getD_eq_getElem?_getD, List.getElem?_set, if_neg HK.out.2.2.2, List.getD_eq_getElem?_getD]
              rw [hgv] at qv
              obtain ⟨zv, hzv⟩ : ∃ z, L.getD v default = z := ⟨_, rfl⟩
              rw [hzv] at qv hbv
              have hwv : IntKind.i64.wrap (zv - y) = zv - y := IntWalk.i64_in _ (by omega)
              have HZV := Lib.hid hzv
              have d1' := HZ1.out.2.2
              clear hzv hbv hgv
              go_wp2_with fail
              go_still_tail 11, (by kernel_rfl)
              have hbD := drew_below Y
              have HZ := Lib.hid (HZ1.out.1.later hbD)
              have qvD : Y.drew.cell? ⟨g, v, none⟩ = some (.int .i64 zv) := qv
              have fvD : Y.drew.frozen? ⟨g, v, none⟩ = false := fv'
              have lgD : g < Y.drew.heap.size := lg
              change wpList _ _ _ _ _ Y.drew
              clear hbD HZ1 d1' e1 lm lg qv fv' hb2E
              generalize Y.drew = Z at HZ qvD fvD lgD ⊢
              have H9 := Lib.hid (And.intro (HZ.out.put v (zv - y)) (HCJ.out.next HK.out.2.2.1 (by rw [HM.out.1, HM.out.2.2.1]) (by have := HZ.out.len; rw [List.length_set] at this; exact this) HK.out.1 HK.out.2.1 hun hvn HK.out.2.2.2 (by omega) (by omega) (by rw [HZU.out.1]) (by rw [HZV.out])))
              clear HZ HCJ HZU HZV HK HG
              go_wp2_with fail
              go_roundw
              case rel => exact ⟨j + 1, _, _, by omega, by go_num, rfl, H9⟩
              case measure => simp [intOf]; omega
        · have hltI : ¬ (j : Int) < (kf : Int) := by omega
          obtain rfl : j = kf := by omega
          have hval : ∀ x : Nat, x < n → L.getD x default = net l f x := fun x hx => by
            have := HX.out.2.val x hx
            rw [List.take_of_length_le (by rw [HM.out.1]; exact Nat.le_refl _), List.take_of_length_le (by rw [HM.out.2.2.1]; exact Nat.le_refl _)] at this
            exact this
          have hok : okFb l f = true := by
            have := HX.out.2.ok
            rw [List.take_of_length_le (by rw [HM.out.1]; exact Nat.le_refl _), List.take_of_length_le (by rw [HM.out.2.2.1]; exact Nat.le_refl _)] at this
            exact okFb_iff.2 this
          have HV := Lib.hid (And.intro hval (show conB n l s t f = true → net l f s = R ∧ (0 : Int) = E by
            intro hc
            have h0 : chkE n l s t f = 0 := by rw [H0.out.2.2.1, hok, hc]; rfl
            refine ⟨?_, by rw [← HE.out.2, h0]⟩
            rw [← HE.out.1]
            unfold chkV
            rw [if_pos h0]))
          have HB2 := Lib.hid (show conB n l s t f = false → (0 : Int) = R ∧ (13 : Int) = E by
            intro hc
            have h0 : chkE n l s t f = 13 := by rw [H0.out.2.2.1, hok, hc]; rfl
            refine ⟨?_, by rw [← HE.out.2, h0]⟩
            rw [← HE.out.1]
            unfold chkV
            rw [if_neg (by omega)])
          clear hval hok
          obtain ⟨qs, fs⟩ := HX.out.1.at' hsn
          obtain ⟨qt, ft⟩ := HX.out.1.at' htn
          have lg := HX.out.1.lo.2
          have hsI : (s : Int) < (n : Int) := by omega
          have htI : (t : Int) < (n : Int) := by omega
          obtain ⟨zs, hzs⟩ : ∃ z, L.getD s default = z := ⟨_, rfl⟩
          obtain ⟨zt, hzt⟩ : ∃ z, L.getD t default = z := ⟨_, rfl⟩
          rw [hzs] at qs
          rw [hzt] at qt
          have HZS := Lib.hid (And.intro hzs hzt)
          have ft1 : (X.setCell ⟨g, s, none⟩ (.int .i64 0)).frozen? ⟨g, t, none⟩ = false := by simpa using ft
          have qt1 : (X.setCell ⟨g, s, none⟩ (.int .i64 0)).cell? ⟨g, t, none⟩ = some (.int .i64 zt) := (World.cell?_setCell_other _ _ _ _ (fun h => by injection h with _ h _; have := H0.out.2.2.2; omega)).trans qt
          have HP := Lib.hid ((HX.out.1.put s 0).put t 0)
          have HAny := Lib.hid (con_any (L := L) HX.out.1.len HV.out.1 hsn htn)
          clear hzs hzt
          go_wp2_with fail
          have hlX := HP.out.len
          obtain ⟨_, _, he, hrX⟩ := HP.out.row.rows
          rw [hlX] at he
          cases he
          refine (containsI_ok 42 #[] (fun x => x != 0) _ n n _ _ hlX (by omega) hrX (fun W x _ => nz_ok x W) (enters_of Try.func42 (by kernel_rfl) rfl)).mono ?_
          rintro e Y ⟨rfl, hb⟩
          have HY := Lib.hid (below_trans HP.out.bel hb)
          rw [HAny.out]
          clear hb hrX hlX qs qt fs ft ft1 qt1 lg
          cases hc : conB n l s t f
          · have HC := Lib.hid (HB2.out hc)
            clear hc
            go_wp2_with fail
            go_ret2
            exact ⟨by rw [← HC.out.1, ← HC.out.2]; rfl, HY.out⟩
          · have hCV := HV.out.2 hc
            rw [← HV.out.1 s hsn, HZS.out.1] at hCV
            have HC := Lib.hid hCV
            clear hc hCV
            go_wp2_with fail
            go_ret2
            exact ⟨by rw [← HC.out.1, ← HC.out.2]; rfl, HY.out⟩
    · have hne2 : ¬ (kf : Int) = (k : Int) := by omega
      have hne3 : ((kf : Int) != (k : Int)) = true := bne_iff_ne.2 hne2
      have hb : okFb l f = false := by
        cases h : okFb l f
        · rfl
        · have := okF_len (okFb_iff.1 h)
          rw [HM.out.1, HM.out.2.2.1] at this
          exact absurd this hlen
      have h13 : chkE n l s t f = 13 := by rw [H0.out.2.2.1, hb]; rfl
      have hR : chkV n l s t f = 0 := by unfold chkV; rw [h13]; rfl
      rw [h13, hR]
      clear hlen hb h13 hR
      go_enter Try.func25, Try.ntmps25
      go_wp2_with fail
      obtain ⟨A, hA⟩ : ∃ W' : World, (w.alloc (.cells #[.int .i64 n, .slice a k c] 24)) = W' := ⟨_, rfl⟩
      have h : Has A [(w.heap.size, .cells #[.int .i64 n, .slice a k c] 24 (0, 0))] := by rw [← hA]; simpa using ((Has.nil w).new _)
      have z : A.heap.size = w.heap.size + 1 := by rw [← hA]; simp
      have b : Below w.heap.size w A := by rw [← hA]; exact (below_alloc (below_self w) _)
      rw [hA]
      clear hA
      have HA := Lib.hid (And.intro h.hd b)
      clear h z b
      refine (asked_ok n a k c l s t A HM.out.1 hl (HM.out.2.1.later HA.out.2)).mono ?_
      rintro e B ⟨rfl, hb⟩
      rw [H0.out.1]
      have HB := Lib.hid (And.intro (blk_below HA.out.1 hb) (below_trans HA.out.2 hb))
      clear hb HA
      have c1 : B.cell? ⟨w.heap.size, 1, none⟩ = some (.slice a k c) := (blk_cell HB.out.1 1).trans rfl
      have lb := blk_lt HB.out.1
      go_wp2_with fail
      go_ret2
      exact ⟨rfl, HB.out.2⟩
  · have hE : chkE N l s t f = askF N l s t := by unfold chkE; rw [if_neg h0]
    have hR : chkV N l s t f = 0 := by unfold chkV; rw [hE, if_neg h0]
    rw [hE, hR]
    have h0b : (askF N l s t != 0) = true := by simpa using h0
    clear hn hm hE hR
    obtain ⟨E, hE⟩ : ∃ E, askF N l s t = E := ⟨_, rfl⟩
    rw [hE] at h0 h0b
    rw [hE]
    have HE := Lib.hid hE
    clear hE
    go_enter Try.func25, Try.ntmps25
    go_wp2_with fail
    obtain ⟨A, hA⟩ : ∃ W' : World, (w.alloc (.cells #[.int .i64 N, .slice a k c] 24)) = W' := ⟨_, rfl⟩
    have h : Has A [(w.heap.size, .cells #[.int .i64 N, .slice a k c] 24 (0, 0))] := by rw [← hA]; simpa using ((Has.nil w).new _)
    have z : A.heap.size = w.heap.size + 1 := by rw [← hA]; simp
    have b : Below w.heap.size w A := by rw [← hA]; exact (below_alloc (below_self w) _)
    rw [hA]
    clear hA
    have HA := Lib.hid (And.intro h.hd b)
    clear h z b
    refine (asked_ok N a k c l s t A HM.out.1 hl (HM.out.2.1.later HA.out.2)).mono ?_
    rintro e B ⟨rfl, hb⟩
    rw [HE.out]
    have HB := Lib.hid (below_trans HA.out.2 hb)
    clear hb HA
    go_wp2_with fail
    go_ret2
    exact ⟨rfl, HB.out⟩
end Go.Proofs.Ytgojjlnpbakfjaa
