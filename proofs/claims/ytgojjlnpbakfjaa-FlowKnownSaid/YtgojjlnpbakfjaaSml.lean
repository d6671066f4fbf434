/- Chapter 05: small nets: the laws' small. -/
import Derived.Test.YtgojjlnpbakfjaaTypes
import Derived.Test.YtgojjlnpbakfjaaArs
import Derived.Deep.RegionHeld3
import Derived.Deep.DeepCutAuto
import Derived.Deep.CutRange
namespace Go.Proofs.Ytgojjlnpbakfjaa
open Go Go.RowKit
set_option linter.unusedSimpArgs false

def smN (nd : Int) : Nat := (2 + nd % 9).toNat
def mkA (n : Nat) (e : Edg) : Ar := ⟨e.u % n, e.v % n, e.c⟩
def smL (n : Nat) : List Edg → List Ar
  | [] => []
  | e :: l => if e.u % n = e.v % n then smL n l else mkA n e :: smL n l
def smT (n : Nat) (sa sb : Int) : Int := if sa % n = sb % n then (sa % n + 1) % n else sb % n
theorem smN_in {nd : Int} (_h : 0 ≤ nd ∧ nd ≤ 255) : (2 + nd % 9 = (smN nd : Int)) ∧ 2 ≤ smN nd ∧ smN nd ≤ 10 := by
  unfold smN
  omega
theorem smL_snoc (n : Nat) (e : Edg) : ∀ l : List Edg, smL n (l ++ [e]) = smL n l ++ (if e.u % n = e.v % n then [] else [mkA n e])
  | [] => by simp only [List.nil_append, smL]
  | x :: l => by
    simp only [List.cons_append, smL, smL_snoc n e l]
    split <;> simp
theorem smL_len (n : Nat) : ∀ l : List Edg, (smL n l).length ≤ l.length
  | [] => Nat.le_refl _
  | e :: l => by
    have := smL_len n l
    simp only [smL]
    split <;> simp <;> omega
theorem smL_mem {n : Nat} {a : Ar} : ∀ {l : List Edg}, a ∈ smL n l → ∃ e ∈ l, a = mkA n e ∧ e.u % n ≠ e.v % n
  | [], h => by simp [smL] at h
  | e :: l, h => by
    simp only [smL] at h
    split at h
    · obtain ⟨e', h1, h2⟩ := smL_mem h
      exact ⟨e', List.mem_cons_of_mem _ h1, h2⟩
    · rcases List.mem_cons.1 h with rfl | h
      · exact ⟨e, List.mem_cons_self .., rfl, by assumption⟩
      · obtain ⟨e', h1, h2⟩ := smL_mem h
        exact ⟨e', List.mem_cons_of_mem _ h1, h2⟩
theorem sm_ask {nd sa sb : Int} {l : List Edg} (hnd : 0 ≤ nd ∧ nd ≤ 255) (_hsa : 0 ≤ sa ∧ sa ≤ 255) (_hsb : 0 ≤ sb ∧ sb ≤ 255) (hl : ∀ z ∈ l, z.ok) : askF (smN nd) (smL (smN nd) (l.take 40)) (sa % smN nd) (smT (smN nd) sa sb) = 0 := by
  obtain ⟨_, h2, h10⟩ := smN_in hnd
  generalize smN nd = n at h2 h10 ⊢
  have hpos : (0 : Int) < n := by omega
  have hr : ∀ x : Int, 0 ≤ x % n ∧ x % n < n := fun x => ⟨Int.emod_nonneg _ (by omega), Int.emod_lt_of_pos _ hpos⟩
  have hok : netOk n (smL n (l.take 40)) = true := by
    refine netOk_iff.2 ⟨by omega, by omega, ?_, fun a ha => ?_⟩
    · have := smL_len n (l.take 40)
      rw [List.length_take] at this
      omega
    · obtain ⟨e, he, rfl, hne⟩ := smL_mem ha
      have := hl e (List.mem_of_mem_take he)
      unfold Edg.ok at this
      exact okA_iff.2 ⟨hr _, hr _, hne, by simp only [mkA]; omega, by simp only [mkA]; omega⟩
  unfold askF
  rw [if_pos hok, if_pos]
  have h1 := hr sa
  have h3 : 0 ≤ smT n sa sb ∧ smT n sa sb < n := by
    unfold smT
    split
    · exact hr _
    · exact hr _
  refine ⟨inR_iff.2 (by omega), inR_iff.2 (by omega), ?_⟩
  unfold smT
  split
  · intro e
    by_cases hb : sa % n + 1 < n
    · rw [Int.emod_eq_of_lt (a := sa % n + 1) (b := n) (by omega) hb] at e
      omega
    · have h5 : sa % n + 1 = n := by omega
      rw [h5, Int.emod_self] at e
      omega
  · assumption

theorem edgs_at {n : Nat} {w : World} {a : Option Addr} {xs : List Edg} (h : RowsAt n w a 3 (Edgs xs)) (k : Nat) (hk : k < xs.length) :
    ∃ b off, a = some ⟨b, off, none⟩ ∧ b < n ∧ w.cell? ⟨b, off + k * 3, none⟩ = some (.int .u8 (xs.getD k default).u) ∧ w.cell? ⟨b, off + k * 3 + 1, none⟩ = some (.int .u8 (xs.getD k default).v) ∧ w.cell? ⟨b, off + k * 3 + 2, none⟩ = some (.int .u8 (xs.getD k default).c) := by
  obtain ⟨b, off, ha, hb, hc⟩ := h k (xs.getD k default).cells (by simp [hk])
  exact ⟨b, off, ha, hb, hc 0 _ rfl, hc 1 _ rfl, hc 2 _ rfl⟩
theorem take_snocE {l : List Edg} {k : Nat} (hk : k < l.length) : l.take (k + 1) = l.take k ++ [l.getD k default] := by
  rw [List.take_succ_eq_append_getElem hk]
  simp [List.getD, List.getElem?_eq_getElem hk]
/-- Between two edges. -/
structure SmJ (w : World) (n : Nat) (av : Option Addr) (q cv : Nat) (L : List Ar) (X : World) : Prop where
  bel : Below w.heap.size w X
  res : X.heap[w.heap.size]? = some (.cells #[.int .i64 0, .slice none 0 0] 24 (0, 0))
  box : X.heap[w.heap.size + 1]? = some (.cells #[.int .i64 n, .slice av q cv] 24 (0, 0))
  own : OwnA (w.heap.size + 2) X av q cv L
theorem SmJ.later {w : World} {n : Nat} {av : Option Addr} {q cv : Nat} {L : List Ar} {X X' : World} (h : SmJ w n av q cv L X) (hb : Below X.heap.size X X') : SmJ w n av q cv L X' := ⟨below_trans h.bel hb, blk_below h.res hb, blk_below h.box hb, h.own.later hb⟩
theorem OwnA.of {base : Nat} {w : World} {a : Option Addr} {m c : Nat} {l : List Ar} (h : w.ownsRow base 32 3 (.slice a m c) m (flatA l)) (hl : l.length = m) (hc : a = none → c = 0) : OwnA base w a m c l := by
  refine ⟨h, hl, fun e => ⟨?_, hc e⟩⟩
  subst e
  rcases h.2 with ⟨_, h0⟩ | ⟨g, cap, cur, hv, _⟩
  · exact h0
  · cases hv

set_option maxRecDepth 100000 in
set_option maxHeartbeats 8000000 in
theorem small_ok (nd : Int) (a : Option Addr) (k c : Nat) (l : List Edg) (sa sb : Int) (w : World) (hnd : 0 ≤ nd ∧ nd ≤ 255) (hsa : 0 ≤ sa ∧ sa ≤ 255) (hsb : 0 ≤ sb ∧ sb ≤ 255) (hn : l.length = k) (_hk : k ≤ 9223372036854775807) (hm : RowsAt w.heap.size w a 3 (Edgs l)) (hl : ∀ z ∈ l, z.ok) :
    Calls Try.prog 28 #[.int .u8 nd, .slice a k c, .int .u8 sa, .int .u8 sb] w fun e W' => ∃ a' m c', e = .returned (.tuple #[.agg #[.int .i64 (smN nd), .slice a' m c'], .int .i64 (sa % smN nd), .int .i64 (smT (smN nd) sa sb)]) ∧ OwnA w.heap.size W' a' m c' (smL (smN nd) (l.take 40)) ∧ Below w.heap.size w W' := by
  have HM := Lib.hid (And.intro hn (And.intro hm hl))
  clear hn hm hl
  obtain ⟨hnn, hn2, hn10⟩ := smN_in hnd
  obtain ⟨n, hN⟩ : ∃ n, smN nd = n := ⟨_, rfl⟩
  rw [hN] at hnn hn2 hn10 ⊢
  clear hN
  obtain ⟨T, hT⟩ : ∃ T, smT n sa sb = T := ⟨_, rfl⟩
  rw [hT]
  obtain ⟨u, hu⟩ : ∃ u, sa % (n : Int) = u := ⟨_, rfl⟩
  rw [hu]
  obtain ⟨v, hv⟩ : ∃ v, sb % (n : Int) = v := ⟨_, rfl⟩
  have HT := Lib.hid (And.intro (show T = if u = v then (u + 1) % n else v by rw [← hT]; unfold smT; rw [hu, hv]) (And.intro hu hv))
  clear hT hu hv
  go_enter Try.func28, Try.ntmps28
  go_wp2_with fail
  obtain ⟨A, hA⟩ : ∃ W' : World, ((w.alloc (.cells #[.int .i64 0, .slice none 0 0] 24)).alloc (.cells #[.int .i64 n, .slice none 0 0] 24)) = W' := ⟨_, rfl⟩
  have h : Has A [(w.heap.size + 1, .cells #[.int .i64 n, .slice none 0 0] 24 (0, 0)), (w.heap.size, .cells #[.int .i64 0, .slice none 0 0] 24 (0, 0))] := by rw [← hA]; simpa using (((Has.nil w).new _).new _)
  have z : A.heap.size = w.heap.size + 1 + 1 := by rw [← hA]; simp
  have b : Below w.heap.size w A := by rw [← hA]; exact (below_alloc (below_alloc (below_self w) _) _)
  rw [hA]
  clear hA
  have HA := Lib.hid (show SmJ w n none 0 0 [] A from ⟨b, h.tl.hd, h.hd, OwnA.nil _ _⟩)
  clear h z b hnn
  have hn0 : ¬ (n : Int) = 0 := by omega
  have hn0' : ¬ n = 0 := by omega
  go_loopw [12] (fun i wr => ∃ (j : Nat) (X : World) (av : Option Addr) (q cv : Nat), j ≤ k ∧ j ≤ 40 ∧ q ≤ j ∧ i = .int .i64 j ∧ X = wr ∧ Hid (SmJ w n av q cv (smL n (l.take j)) X)) (fun i _ => k - (intOf i).toNat)
  case atStart => exact ⟨0, _, _, 0, _, Nat.zero_le _, Nat.zero_le _, Nat.zero_le _, rfl, rfl, Lib.hid HA.out⟩
  case round =>
    clear HA
    obtain ⟨j, X, av, q, cv, hj, hj40, hq, rfl, rfl, HX⟩ := hrel
    by_cases hlt : j < k
    · have hltI : (j : Int) < (k : Int) := by omega
      by_cases h40 : j < 40
      · have h40I : (j : Int) < 40 := by omega
        have hjl : j < l.length := by rw [HM.out.1]; exact hlt
        obtain ⟨b1, o1, rfl, hb1, c0, c1, c2⟩ := edgs_at HM.out.2.1 j hjl
        have hok := HM.out.2.2 (l.getD j default) (by rw [List.getD_eq_getElem?_getD, List.getElem?_eq_getElem hjl]; exact List.getElem_mem _)
        have hts := take_snocE hjl
        obtain ⟨x, hx⟩ : ∃ x, l.getD j default = x := ⟨_, rfl⟩
        rw [hx] at c0 c1 c2 hok hts
        obtain ⟨xu, xv, xc⟩ := x
        obtain ⟨⟨u0, u1⟩, ⟨v0, v1⟩, r0, r1⟩ := hok
        simp only at c0 c1 c2 u0 u1 v0 v1 r0 r1
        have hS := smL_snoc n ⟨xu, xv, xc⟩ (l.take j)
        rw [← hts] at hS
        simp only [mkA] at hS
        have HK := Lib.hid (And.intro hS HX.out.own.len.1)
        clear hts hx hjl hS
        have hkk : ∀ W, Below X.heap.size X W → W.cell? ⟨b1, o1 + j * 3, none⟩ = some (.int .u8 xu) ∧ W.cell? ⟨b1, o1 + j * 3 + 1, none⟩ = some (.int .u8 xv) ∧ W.cell? ⟨b1, o1 + j * 3 + 2, none⟩ = some (.int .u8 xc) ∧ W.cell? ⟨w.heap.size + 1, 0, none⟩ = some (.int .i64 n) := fun W hb =>
          ⟨cell_call (below_trans HX.out.bel hb) hb1 c0, cell_call (below_trans HX.out.bel hb) hb1 c1, cell_call (below_trans HX.out.bel hb) hb1 c2, (blk_cell (blk_below HX.out.box hb) 0).trans rfl⟩
        have HC := Lib.hid hkk
        have lb := blk_lt HX.out.box
        obtain ⟨u, hu⟩ : ∃ u, xu % (n : Int) = u := ⟨_, rfl⟩
        obtain ⟨v, hv⟩ : ∃ v, xv % (n : Int) = v := ⟨_, rfl⟩
        rw [hu, hv] at HK
        have hwu : IntKind.i64.wrap xu = xu := IntWalk.i64_in _ (by omega)
        have hwv : IntKind.i64.wrap xv = xv := IntWalk.i64_in _ (by omega)
        have hwc : IntKind.i64.wrap xc = xc := IntWalk.i64_in _ (by omega)
        have htu : xu.tmod (n : Int) = u := by rw [Int.tmod_eq_emod_of_nonneg u0, hu]
        have htv : xv.tmod (n : Int) = v := by rw [Int.tmod_eq_emod_of_nonneg v0, hv]
        clear hkk c0 c1 c2 hb1 hu hv
        go_upto_region 5 with fail
        have bX := (below_self X).drew
        go_region_held3 (fun W => W.cell? ⟨b1, o1 + j * 3, none⟩ = some (.int .u8 xu) ∧ W.cell? ⟨b1, o1 + j * 3 + 1, none⟩ = some (.int .u8 xv) ∧ W.cell? ⟨b1, o1 + j * 3 + 2, none⟩ = some (.int .u8 xc) ∧ W.cell? ⟨w.heap.size + 1, 0, none⟩ = some (.int .i64 n))
          (first | exact HC.out _ bX | exact HC.out _ (below_alloc bX _) | exact HC.out _ (by first | exact (below_alloc bX _).setCell (by simp) _ | exact ((below_alloc bX _).setCell (by simp) _).setCell (by simp) _ | exact (((below_alloc bX _).setCell (by simp) _).setCell (by simp) _).setCell (by simp) _))
          (fail)
        clear hwu hwv hwc htu htv HC bX lb u0 u1 v0 v1 r0 r1
        have hbY : Below X.heap.size X (X.alloc (.cells #[.int .i64 u, .int .i64 v, .int .i64 xc] 32)).drew := (below_alloc (below_self X) _).drew
        have HY := Lib.hid (And.intro (HX.out.later hbY) (show (X.alloc (.cells #[.int .i64 u, .int .i64 v, .int .i64 xc] 32)).drew.heap[X.heap.size]? = some (.cells #[.int .i64 u, .int .i64 v, .int .i64 xc] 32 (0, 0)) from blk_new X _))
        clear hbY HX
        generalize (X.alloc (.cells #[.int .i64 u, .int .i64 v, .int .i64 xc] 32)).drew = Y at HY ⊢
        generalize X.heap.size = m at HY ⊢
        have e0 : Y.cell? ⟨m, 0, none⟩ = some (.int .i64 u) := (blk_cell HY.out.2 0).trans rfl
        have e1 : Y.cell? ⟨m, 1, none⟩ = some (.int .i64 v) := (blk_cell HY.out.2 1).trans rfl
        have e2 : Y.cell? ⟨m, 2, none⟩ = some (.int .i64 xc) := (blk_cell HY.out.2 2).trans rfl
        have lm := blk_lt HY.out.2
        by_cases huv : u = v
        · have q5 : (u != v) = false := by simp [huv]
          have HN := Lib.hid (show SmJ w n av q cv (smL n (l.take (j + 1))) Y by
            have h := HK.out.1
            rw [if_pos huv, List.append_nil] at h
            rw [h]; exact HY.out.1)
          clear huv HK HY
          go_wp2_with fail
          go_roundw
          case rel => exact ⟨j + 1, _, av, q, cv, by omega, by omega, by omega, by go_num, rfl, HN⟩
          case measure => simp [intOf]; omega
        · have q5 : (u != v) = true := bne_iff_ne.2 huv
          have HS := Lib.hid (show smL n (l.take (j + 1)) = smL n (l.take j) ++ [⟨u, v, xc⟩] by
            have h := HK.out.1
            rw [if_neg huv] at h
            exact h)
          have hql := HK.out.2
          have HQL := Lib.hid hql
          clear huv HK hql
          have k1 : Y.cell? ⟨w.heap.size + 1, 1, none⟩ = some (.slice av q cv) := (blk_cell HY.out.1.box 1).trans rfl
          have lb := blk_lt HY.out.1.box
          obtain ⟨i0, hi, hz0, hz1, hz2⟩ := info_parts infoA
          go_wp2_with (at_builtin; go_must (refine wpList_append_any rfl _ _ 22 rfl (w.heap.size + 2) 32 i0 _ 3 24 Try.underlying22 hi hz0 hz1 hz2 rfl (by decide) _ q (flatA (smL n (l.take j))) rfl (World.ownsRow.alloc HY.out.1.own.1 _) _ _ _ [.int .i64 u, .int .i64 v, .int .i64 xc] rfl ?c0 ?c1 ?c2 ?c3 ?c4 ?c5 ?c6 ?_))
          case c0 => intro h; cases h
          case c1 => rfl
          case c2 => exact fun _ => ⟨_, rfl, src_new _ _ _⟩
          case c3 => simp [Value.oneCell']
          case c4 => unfold maxLen; omega
          case c5 => omega
          case c6 => simp; omega
          intro a2 cap2 W3 hown3 hgrow3
          have hoA := World.ownsRow.alloc HY.out.1.own.1 (.cells #[.int .i64 u, .int .i64 v, .int .i64 xc] 32)
          have hne : some (w.heap.size + 1) ≠ (Value.slice av q cv).ownBlock := own_ne hoA (by omega)
          have hb3 : Below w.heap.size w W3 := grown_below (below_alloc HY.out.1.bel _) hoA hgrow3.out (by omega) (by have := HY.out.1.bel.size; simp; omega)
          have z1 := grown_blk hgrow3.out (blk_alloc HY.out.1.box _) hne
          have z0 := grown_blk hgrow3.out (blk_alloc HY.out.1.res _) (own_ne hoA (by omega))
          have ho3 : OwnA (w.heap.size + 2) W3 a2 (q + 1) cap2 (smL n (l.take (j + 1))) := by
            refine OwnA.of ?_ ?_ hown3.out.2
            · rw [HS.out, flatA_app]
              exact hown3.out.1
            · rw [HS.out, List.length_append, HQL.out]; rfl
          have v1 : W3.cell? ⟨w.heap.size + 1, 1, none⟩ = some (.slice av q cv) := (blk_cell z1 1).trans rfl
          have f1 := blk_frozen z1 1
          have lz := blk_lt z1
          have HN := Lib.hid (show SmJ w n a2 (q + 1) cap2 (smL n (l.take (j + 1))) (W3.setCell ⟨w.heap.size + 1, 1, none⟩ (.slice a2 (q + 1) cap2)) from
            ⟨hb3.setCell (by simp) _, blk_set z0 (by simp) _, by simp [World.setCell, Array.getElem?_modify, z1], ⟨owns_set ho3.1 (by simp) _, ho3.2⟩⟩)
          clear hoA hne hb3 z1 z0 ho3 hown3 hgrow3 k1 lb hi hz0 hz1 hz2 HY HS e0 e1 e2 lm
          go_wp2_with fail
          go_roundw
          case rel => exact ⟨j + 1, _, a2, q + 1, cap2, by omega, by omega, by omega, by go_num, rfl, HN⟩
          case measure => simp [intOf]; omega
      · have h40I : ¬ (j : Int) < 40 := by omega
        have hjt : l.take j = l.take 40 := by rw [show j = 40 by omega]
        rw [hjt] at HX
        clear hjt
        have k0 : X.cell? ⟨w.heap.size + 1, 0, none⟩ = some (.int .i64 n) := (blk_cell HX.out.box 0).trans rfl
        have lb := blk_lt HX.out.box
        have hu := HT.out.2.1
        have hv := HT.out.2.2
        have hpos : (0 : Int) < n := by omega
        have hur : 0 ≤ u ∧ u < n := by rw [← hu]; exact ⟨Int.emod_nonneg _ (by omega), Int.emod_lt_of_pos _ hpos⟩
        have hwu : IntKind.i64.wrap sa = sa := IntWalk.i64_in _ (by omega)
        have hwv : IntKind.i64.wrap sb = sb := IntWalk.i64_in _ (by omega)
        have htu : sa.tmod (n : Int) = u := by rw [Int.tmod_eq_emod_of_nonneg hsa.1, hu]
        have htv : sb.tmod (n : Int) = v := by rw [Int.tmod_eq_emod_of_nonneg hsb.1, hv]
        clear hu hv
        go_wp2_with fail
        go_quiet (fail)
        have HZ := Lib.hid (HX.out.later (below_drewN (below_self X) nq))
        clear hwu hwv htu htv k0 lb HX
        generalize X.drewN nq = Z at HZ ⊢
        have k0 : Z.cell? ⟨w.heap.size + 1, 0, none⟩ = some (.int .i64 n) := (blk_cell HZ.out.box 0).trans rfl
        have k1 : Z.cell? ⟨w.heap.size + 1, 1, none⟩ = some (.slice av q cv) := (blk_cell HZ.out.box 1).trans rfl
        have lb := blk_lt HZ.out.box
        have r0 : Z.cell? ⟨w.heap.size, 0, none⟩ = some (.int .i64 0) := (blk_cell HZ.out.res 0).trans rfl
        have r1 : Z.cell? ⟨w.heap.size, 1, none⟩ = some (.slice none 0 0) := (blk_cell HZ.out.res 1).trans rfl
        have g0 := blk_frozen HZ.out.res 0
        have g1 := blk_frozen HZ.out.res 1
        have lr := blk_lt HZ.out.res
        have hR : ((Z.setCell ⟨w.heap.size, 0, none⟩ (.int .i64 n)).setCell ⟨w.heap.size, 1, none⟩ (.slice av q cv)).heap[w.heap.size]? = some (.cells #[.int .i64 n, .slice av q cv] 24 (0, 0)) := by
          simp [World.setCell, Array.getElem?_modify, HZ.out.res]
        have s0 : ((Z.setCell ⟨w.heap.size, 0, none⟩ (.int .i64 n)).setCell ⟨w.heap.size, 1, none⟩ (.slice av q cv)).cell? ⟨w.heap.size, 0, none⟩ = some (.int .i64 n) := (blk_cell hR 0).trans rfl
        have s1 : ((Z.setCell ⟨w.heap.size, 0, none⟩ (.int .i64 n)).setCell ⟨w.heap.size, 1, none⟩ (.slice av q cv)).cell? ⟨w.heap.size, 1, none⟩ = some (.slice av q cv) := (blk_cell hR 1).trans rfl
        have HF := Lib.hid (show OwnA w.heap.size ((Z.setCell ⟨w.heap.size, 0, none⟩ (.int .i64 n)).setCell ⟨w.heap.size, 1, none⟩ (.slice av q cv)) av q cv (smL n (l.take 40)) ∧ Below w.heap.size w ((Z.setCell ⟨w.heap.size, 0, none⟩ (.int .i64 n)).setCell ⟨w.heap.size, 1, none⟩ (.slice av q cv)) from
          ⟨⟨owns_base (owns_set (owns_set HZ.out.own.1 (by simp) _) (by simp) _) (by omega), HZ.out.own.2⟩, (HZ.out.bel.setCell (by simp) _).setCell (by simp) _⟩)
        clear hR
        by_cases huv : u = v
        · have hT2 := HT.out.1
          rw [if_pos huv] at hT2
          have q5 : (u == v) = true := beq_iff_eq.2 huv
          have hw1 : IntKind.i64.wrap (u + 1) = u + 1 := IntWalk.i64_in _ (by omega)
          have ht1 : (u + 1).tmod (n : Int) = (u + 1) % n := Int.tmod_eq_emod_of_nonneg (by omega)
          obtain ⟨v2, hv2⟩ : ∃ v2, (u + 1) % (n : Int) = v2 := ⟨_, rfl⟩
          rw [hv2] at ht1 hT2
          have HT2 := Lib.hid hT2
          clear hT2
          clear huv hv2
          go_wp2_with fail
          refine bodyPost_ret (v := .tuple #[.agg #[.int .i64 n, .slice av q cv], .int .i64 u, .int .i64 v2]) (by simp [results, Try.results28, go_sem, s0, s1]) rfl ⟨_, _, _, by rw [HT2.out], HF.out⟩
        · have hT2 := HT.out.1
          rw [if_neg huv] at hT2
          have HT2 := Lib.hid hT2
          clear hT2
          have q5 : (u == v) = false := beq_eq_false_iff_ne.2 huv
          clear huv
          go_wp2_with fail
          refine bodyPost_ret (v := .tuple #[.agg #[.int .i64 n, .slice av q cv], .int .i64 u, .int .i64 v]) (by simp [results, Try.results28, go_sem, s0, s1]) rfl ⟨_, _, _, by rw [HT2.out], HF.out⟩
    · have hltI : ¬ (j : Int) < (k : Int) := by omega
      have hjt : l.take j = l.take 40 := by rw [List.take_of_length_le (by rw [HM.out.1]; omega), List.take_of_length_le (by rw [HM.out.1]; omega)]
      rw [hjt] at HX
      clear hjt
      have k0 : X.cell? ⟨w.heap.size + 1, 0, none⟩ = some (.int .i64 n) := (blk_cell HX.out.box 0).trans rfl
      have lb := blk_lt HX.out.box
      have hu := HT.out.2.1
      have hv := HT.out.2.2
      have hpos : (0 : Int) < n := by omega
      have hur : 0 ≤ u ∧ u < n := by rw [← hu]; exact ⟨Int.emod_nonneg _ (by omega), Int.emod_lt_of_pos _ hpos⟩
      have hwu : IntKind.i64.wrap sa = sa := IntWalk.i64_in _ (by omega)
      have hwv : IntKind.i64.wrap sb = sb := IntWalk.i64_in _ (by omega)
      have htu : sa.tmod (n : Int) = u := by rw [Int.tmod_eq_emod_of_nonneg hsa.1, hu]
      have htv : sb.tmod (n : Int) = v := by rw [Int.tmod_eq_emod_of_nonneg hsb.1, hv]
      clear hu hv
      go_wp2_with fail
      go_quiet (fail)
      have HZ := Lib.hid (HX.out.later (below_drewN (below_self X) nq))
      clear hwu hwv htu htv k0 lb HX
      generalize X.drewN nq = Z at HZ ⊢
      have k0 : Z.cell? ⟨w.heap.size + 1, 0, none⟩ = some (.int .i64 n) := (blk_cell HZ.out.box 0).trans rfl
      have k1 : Z.cell? ⟨w.heap.size + 1, 1, none⟩ = some (.slice av q cv) := (blk_cell HZ.out.box 1).trans rfl
      have lb := blk_lt HZ.out.box
      have r0 : Z.cell? ⟨w.heap.size, 0, none⟩ = some (.int .i64 0) := (blk_cell HZ.out.res 0).trans rfl
      have r1 : Z.cell? ⟨w.heap.size, 1, none⟩ = some (.slice none 0 0) := (blk_cell HZ.out.res 1).trans rfl
      have g0 := blk_frozen HZ.out.res 0
      have g1 := blk_frozen HZ.out.res 1
      have lr := blk_lt HZ.out.res
      have hR : ((Z.setCell ⟨w.heap.size, 0, none⟩ (.int .i64 n)).setCell ⟨w.heap.size, 1, none⟩ (.slice av q cv)).heap[w.heap.size]? = some (.cells #[.int .i64 n, .slice av q cv] 24 (0, 0)) := by
        simp [World.setCell, Array.getElem?_modify, HZ.out.res]
      have s0 : ((Z.setCell ⟨w.heap.size, 0, none⟩ (.int .i64 n)).setCell ⟨w.heap.size, 1, none⟩ (.slice av q cv)).cell? ⟨w.heap.size, 0, none⟩ = some (.int .i64 n) := (blk_cell hR 0).trans rfl
      have s1 : ((Z.setCell ⟨w.heap.size, 0, none⟩ (.int .i64 n)).setCell ⟨w.heap.size, 1, none⟩ (.slice av q cv)).cell? ⟨w.heap.size, 1, none⟩ = some (.slice av q cv) := (blk_cell hR 1).trans rfl
      have HF := Lib.hid (show OwnA w.heap.size ((Z.setCell ⟨w.heap.size, 0, none⟩ (.int .i64 n)).setCell ⟨w.heap.size, 1, none⟩ (.slice av q cv)) av q cv (smL n (l.take 40)) ∧ Below w.heap.size w ((Z.setCell ⟨w.heap.size, 0, none⟩ (.int .i64 n)).setCell ⟨w.heap.size, 1, none⟩ (.slice av q cv)) from
        ⟨⟨owns_base (owns_set (owns_set HZ.out.own.1 (by simp) _) (by simp) _) (by omega), HZ.out.own.2⟩, (HZ.out.bel.setCell (by simp) _).setCell (by simp) _⟩)
      clear hR
      by_cases huv : u = v
      · have hT2 := HT.out.1
        rw [if_pos huv] at hT2
        have q5 : (u == v) = true := beq_iff_eq.2 huv
        have hw1 : IntKind.i64.wrap (u + 1) = u + 1 := IntWalk.i64_in _ (by omega)
        have ht1 : (u + 1).tmod (n : Int) = (u + 1) % n := Int.tmod_eq_emod_of_nonneg (by omega)
        obtain ⟨v2, hv2⟩ : ∃ v2, (u + 1) % (n : Int) = v2 := ⟨_, rfl⟩
        rw [hv2] at ht1 hT2
        have HT2 := Lib.hid hT2
        clear hT2
        clear huv hv2
        go_wp2_with fail
        refine bodyPost_ret (v := .tuple #[.agg #[.int .i64 n, .slice av q cv], .int .i64 u, .int .i64 v2]) (by simp [results, Try.results28, go_sem, s0, s1]) rfl ⟨_, _, _, by rw [HT2.out], HF.out⟩
      · have hT2 := HT.out.1
        rw [if_neg huv] at hT2
        have HT2 := Lib.hid hT2
        clear hT2
        have q5 : (u == v) = false := beq_eq_false_iff_ne.2 huv
        clear huv
        go_wp2_with fail
        refine bodyPost_ret (v := .tuple #[.agg #[.int .i64 n, .slice av q cv], .int .i64 u, .int .i64 v]) (by simp [results, Try.results28, go_sem, s0, s1]) rfl ⟨_, _, _, by rw [HT2.out], HF.out⟩
end Go.Proofs.Ytgojjlnpbakfjaa
