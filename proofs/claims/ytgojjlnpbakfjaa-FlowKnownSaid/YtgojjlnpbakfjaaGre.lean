/- Chapter 05: the reference's greatest. -/
import Derived.Test.YtgojjlnpbakfjaaRea
import Derived.Test.YtgojjlnpbakfjaaPla
import Derived.StillTail
namespace Go.Proofs.Ytgojjlnpbakfjaa
open Go Go.RowKit
set_option linter.unusedSimpArgs false

def rowW (g : Nat) (w : World) : List Int := match w.heap[g]? with
  | some (.cells c _ _) => c.toList.map intOf
  | _ => []
theorem rowW_is {g : Nat} {w : World} {f : List Int} {t : TypeId} {fr : Nat × Nat} (h : w.heap[g]? = some (.cells (intsV f).toArray t fr)) : rowW g w = f := by
  unfold rowW
  rw [h]
  simp only [intsV, List.map_map]
  have : (intOf ∘ Value.int IntKind.i64) = id := by funext x; rfl
  rw [this, List.map_id]
theorem intsV_set (f : List Int) (i : Nat) (y : Int) : (intsV f).toArray.setIfInBounds i (.int .i64 y) = (intsV (f.set i y)).toArray := by
  rw [List.setIfInBounds_toArray]
  unfold intsV
  rw [List.map_set]
theorem eOf_half {b : Stp} : eOf b / 2 = b.arc.toNat := by
  unfold eOf
  split <;> omega
theorem eOf_mod {b : Stp} : eOf b % 2 = if b.back = true then 1 else 0 := by
  unfold eOf
  split <;> omega
/-- The net in its box; the flow's row. -/
structure GO (w : World) (N : Int) (a : Option Addr) (k c g : Nat) (f : List Int) (X : World) : Prop where
  bel : Below w.heap.size w X
  box : X.heap[w.heap.size]? = some (.cells #[.int .i64 N, .slice a k c] 24 (0, 0))
  row : X.heap[g]? = some (.cells (intsV f).toArray 3 (0, 0))
  len : f.length = k
  lo : w.heap.size < g
section
variable {w : World} {N : Int} {a : Option Addr} {k c g : Nat} {f : List Int} {X X' : World}
theorem GO.later (h : GO w N a k c g f X) (hb : Below X.heap.size X X') : GO w N a k c g f X' := ⟨below_trans h.bel hb, blk_below h.box hb, blk_below h.row hb, h.len, h.lo⟩
theorem GO.put (h : GO w N a k c g f X) (i : Nat) (y : Int) : GO w N a k c g (f.set i y) (X.setCell ⟨g, i, none⟩ (.int .i64 y)) := by
  have hl := h.lo
  refine ⟨h.bel.setCell (by simp only; omega) _, blk_set h.box (by simp only; omega) _, ?_, by rw [List.length_set]; exact h.len, hl⟩
  rw [← intsV_set]
  simp [World.setCell, Array.getElem?_modify, h.row]
theorem GO.at' (h : GO w N a k c g f X) {i : Nat} (hi : i < k) : X.cell? ⟨g, i, none⟩ = some (.int .i64 (f.getD i default)) ∧ X.frozen? ⟨g, i, none⟩ = false := by
  refine ⟨?_, blk_frozen h.row i⟩
  rw [blk_cell h.row]
  simp [intsV, List.getElem?_eq_getElem (show i < f.length by rw [h.len]; exact hi)]
end
theorem stp_at {X : World} {g x : Nat} {B : List Stp} (h : X.heap[g]? = some (.cells (flatS B).toArray 70 (0, 0))) (hx : x < B.length) : X.cell? ⟨g, x * 4, none⟩ = some (.int .i64 (B.getD x default).arc) ∧ X.cell? ⟨g, x * 4 + 1, none⟩ = some (.int .i64 (B.getD x default).fr) ∧ X.cell? ⟨g, x * 4 + 2, none⟩ = some (.bool (B.getD x default).back) ∧ X.cell? ⟨g, x * 4 + 3, none⟩ = some (.bool (B.getD x default).is) := by
  have e : ∀ j v, (B.getD x default).cells[j]? = some v → X.cell? ⟨g, x * 4 + j, none⟩ = some v := fun j v hv => by
    rw [blk_cell h, List.getElem?_toArray]
    exact flatS_get hx hv
  exact ⟨e 0 _ rfl, e 1 _ rfl, e 2 _ rfl, e 3 _ rfl⟩

set_option maxRecDepth 100000 in
set_option maxHeartbeats 16000000 in
theorem greatest_ok (n : Nat) (a : Option Addr) (k c : Nat) (l : List Ar) (s t : Nat) (w : World) (hn : l.length = k) (hv : netOk n l = true) (hm : RowsAt w.heap.size w a 3 (Ars l)) (hs : s < n) (ht : t < n) (hst : s ≠ t) :
    Calls Try.prog 35 #[.agg #[.int .i64 n, .slice a k c], .int .i64 s, .int .i64 t] w fun e W' => ∃ g, e = .returned (.slice (some ⟨g, 0, none⟩) k k) ∧ ∃ f, OwnI w.heap.size W' (.slice (some ⟨g, 0, none⟩) k k) f ∧ Best n l s t f ∧ Below w.heap.size w W' := by
  obtain ⟨h2, h64, h128, hA⟩ := netOk_iff.1 hv
  have hin : inN n l := fun x hx => by have := okA_iff.1 (hA x hx); omega
  have hcap : ∀ x ∈ l, 0 ≤ x.c ∧ x.c ≤ 100000000 := fun x hx => (okA_iff.1 (hA x hx)).2.2.2
  have HM := Lib.hid (And.intro hn (And.intro hm (And.intro hv (And.intro hin hcap))))
  have hk : k ≤ 128 := by omega
  have hn64 : n ≤ 64 := by omega
  have hsI : (s : Int) < (n : Int) := by omega
  have htI : (t : Int) < (n : Int) := by omega
  have HST := Lib.hid hst
  clear hn hm hv hA h2 h64 h128 hin hcap hst
  go_enter Try.func35, Try.ntmps35
  obtain ⟨i0, hi, hz0, hz1, hz2⟩ := info_parts info3
  go_wp2_with (with_reducible refine wpList_make_row rfl 26 _ _ rfl 3 i0 _ 1 8 Try.underlying26 hi hz0 hz1 hz2 k _ rfl rfl ?a2 ?a3 ?a4 ?_)
  case a2 => rfl
  case a3 => omega
  case a4 => omega
  intro W4 h4 hb4 hs4
  have h4' : W4.heap[w.heap.size + 1]? = some (.cells (intsV (List.replicate k 0)).toArray 3 (0, 0)) := by
    have hm : madeCells #[Value.int .i64 0] k = (intsV (List.replicate k 0)).toArray := by
      apply Array.toList_inj.1
      rw [toList_madeCells_one]
      simp [intsV]
    rw [← hm]
    simpa using h4.out
  have H4 := Lib.hid (show GO w n a k c (w.heap.size + 1) (List.replicate k 0) W4 from ⟨(below_alloc (below_self w) _).trans (hb4.mono (by omega)), (hb4.block w.heap.size (by omega)).trans (blk_new w _), h4', by simp, by omega⟩)
  have HF0 := Lib.hid (show Flw n l s t (List.replicate k 0) by rw [← HM.out.1]; exact Flw.idle (fun x hx => (HM.out.2.2.2.2 x hx).1))
  clear h4 hb4 hs4 h4' hi hz0 hz1 hz2
  go_wp2_with fail
  go_loopw [8] (fun vv wr => ∃ (f : List Int) (X : World), X = wr ∧ Hid (GO w n a k c (w.heap.size + 1) f X ∧ Flw n l s t f)) (fun _ wr => (tot l - net l (rowW (w.heap.size + 1) wr) s).toNat)
  case atStart => exact ⟨_, _, rfl, Lib.hid ⟨H4.out, HF0.out⟩⟩
  case round =>
    clear H4 HF0
    obtain ⟨f, X, rfl, HX⟩ := hrel
    have q0 : X.cell? ⟨w.heap.size, 0, none⟩ = some (.int .i64 n) := (blk_cell HX.out.1.box 0).trans rfl
    have q1 : X.cell? ⟨w.heap.size, 1, none⟩ = some (.slice a k c) := (blk_cell HX.out.1.box 1).trans rfl
    have lq := blk_lt HX.out.1.box
    go_wp2_with fail
    refine (reached_ok n a k c l s _ k f X HM.out.1 HM.out.2.2.1 (HM.out.2.1.later HX.out.1.bel) (by omega) HX.out.2.ok (ints_blk HX.out.1.row)).mono ?_
    rintro e Y ⟨gb, B, rfl, ⟨r, hR⟩, hrow, hgb, hb⟩
    have hBl := hR.len
    obtain ⟨_, _, _, qt⟩ := stp_at hrow (x := t) (by omega)
    have lgb := blk_lt hrow
    have HY := Lib.hid (And.intro (HX.out.1.later hb) (And.intro hrow (And.intro hR (And.intro HX.out.2 hBl))))
    have HRW := Lib.hid (show rowW (w.heap.size + 1) X = f from rowW_is HX.out.1.row)
    have HGB := Lib.hid (show w.heap.size + 1 < gb by have := blk_lt HX.out.1.row; omega)
    clear hrow hR hb q0 q1 lq hBl HX hgb
    cases his : (B.getD t default).is
    · rw [his] at qt
      have HB := Lib.hid (HY.out.2.2.1.best HY.out.2.2.2.1 HM.out.2.2.2.1 (by omega) (by omega) (by unfold sv; rw [Int.toNat_natCast]; exact his))
      clear his
      go_wp2_with fail
      go_ret
      refine ⟨_, rfl, f, ?_, HB.out, HY.out.1.bel⟩
      unfold OwnI
      have hl := HY.out.1.len
      rw [hl]
      exact owns_of_blk HY.out.1.row (by omega) (by simp [intsV, hl]) (by unfold maxLen; omega)
    · rw [his] at qt
      have HT := Lib.hid (show (sv B t).is = true by unfold sv; rw [Int.toNat_natCast]; exact his)
      clear his
      go_wp2_with fail
      clear qt
      go_loopw [9, 10] (fun v9 v10 wr => ∃ (m d : Nat) (z : Int), v9 = .int .i64 z ∧ v10 = .int .i64 (bck B t m) ∧ wr = Y.drewN d ∧ Hid (Wid l f B t m z)) (fun _ v10 _ => r (intOf v10))
      case atStart => exact ⟨0, 0, _, rfl, rfl, rfl, Lib.hid (Wid.start l f B t)⟩
      case round =>
        obtain ⟨m, d, z, rfl, rfl, rfl, HW⟩ := hrel
        have hbk := HY.out.2.2.1.bck_in (t := (t : Int)) (by omega) (by omega) (by omega) (by omega) HT.out m
        obtain ⟨x, hx⟩ : ∃ x : Nat, bck B t m = x := ⟨(bck B t m).toNat, by omega⟩
        have hs1 : bck B t (m + 1) = (sv B (bck B t m)).fr := rfl
        have hsv : sv B x = B.getD x default := by unfold sv; rw [Int.toNat_natCast]
        rw [hx] at hbk hs1 ⊢
        rw [hsv] at hs1
        have hxn : x < n := by omega
        have hxI : (x : Int) < (n : Int) := by omega
        by_cases hxs : x = s
        · subst hxs
          have hne : ((x : Int) != (x : Int)) = false := by simp
          have HK := Lib.hid (And.intro hx HW.out)
          have HZ := Lib.hid (And.intro (HY.out.1.later (below_drewN (below_self Y) d)) (blk_below HY.out.2.1 (below_drewN (below_self Y) d)))
          have lgb2 := blk_lt HZ.out.2
          clear hbk hx hs1 hsv HW lgb
          generalize Y.drewN d = Z at HZ lgb2 ⊢
          go_wp2_with fail
          go_loopw [12] (fun v12 wr => ∃ (i : Nat) (f' : List Int) (V : World), v12 = .int .i64 (bck B t i) ∧ V = wr ∧ Hid (GO w n a k c (w.heap.size + 1) f' V ∧ V.heap[gb]? = some (.cells (flatS B).toArray 70 (0, 0)) ∧ Sup n l f x t B r z i f')) (fun v12 _ => r (intOf v12))
          case atStart => exact ⟨0, f, _, rfl, rfl, Lib.hid ⟨HZ.out.1, HZ.out.2, Sup.start HY.out.2.2.2.1.ok⟩⟩
          case round =>
            clear HZ lgb2
            obtain ⟨i, f', V, rfl, rfl, HV⟩ := hrel
            have hbk := HY.out.2.2.1.bck_in (t := (t : Int)) (by omega) (by omega) (by omega) (by omega) HT.out i
            obtain ⟨q, hq⟩ : ∃ q : Nat, bck B t i = q := ⟨(bck B t i).toNat, by omega⟩
            have hs1 : bck B t (i + 1) = (sv B (bck B t i)).fr := rfl
            have hsv : sv B q = B.getD q default := by unfold sv; rw [Int.toNat_natCast]
            rw [hq] at hbk hs1 ⊢
            rw [hsv] at hs1
            have hqn : q < n := by omega
            have hqI : (q : Int) < (n : Int) := by omega
            by_cases hqs : q = x
            · subst hqs
              have hne2 : ((q : Int) != (q : Int)) = false := by simp
              have hdn := HV.out.2.2.done HY.out.2.2.2.1 (by have := HST.out; omega) hq
              have htl := Flw.all hdn.1 HM.out.2.2.2.1 (by omega) (by omega) (by have := HST.out; omega) (fun x hx => (HM.out.2.2.2.2 x hx).1)
              have HN := Lib.hid (And.intro HV.out.1 (And.intro hdn (And.intro htl HK.out.2.z0)))
              clear hbk hq hs1 hsv hdn htl HV
              go_wp2_with fail
              go_roundw
              case rel => exact ⟨f', _, rfl, Lib.hid ⟨HN.out.1, HN.out.2.1.1⟩⟩
              case measure =>
                have h1 := HN.out.2.1.2
                have h2 := HN.out.2.2
                rw [rowW_is HN.out.1.row, HRW.out]
                omega
            · have hne2 : ((q : Int) != (x : Int)) = true := bne_iff_ne.2 (by omega)
              have hw := HY.out.2.2.1.way q (by omega) (by omega) (by omega) hbk.2
              have hsn := HV.out.2.2.next HY.out.2.2.1 (by omega) (by omega) (by omega) (by omega) HT.out HK.out.2 HK.out.1 (by rw [hq]; omega)
              rw [hq] at hsn
              rw [hsv] at hw hsn
              obtain ⟨qa, qf, qk, _⟩ := stp_at HV.out.2.1 (x := q) (by rw [HY.out.2.2.2.2]; exact hqn)
              obtain ⟨b, hb⟩ : ∃ b, B.getD q default = b := ⟨_, rfl⟩
              rw [hb] at hw hsn qa qf qk hs1
              obtain ⟨barc, bfr, bback, bis⟩ := b
              obtain ⟨w1, w2, w3, w4, w5, w6, w7, w8⟩ := hw
              have he2 := eOf_half (b := ⟨barc, bfr, bback, bis⟩)
              have hem := eOf_mod (b := ⟨barc, bfr, bback, bis⟩)
              unfold push at hsn
              rw [he2, hem] at hsn
              simp only at w1 w3 w4 w5 qa qf qk hs1 he2 hsn
              obtain ⟨ai, rfl⟩ : ∃ ai : Nat, barc = ai := ⟨barc.toNat, by omega⟩
              rw [Int.toNat_natCast] at he2 hsn
              have hak : ai < k := by have := HM.out.1; omega
              have hakI : (ai : Int) < (k : Int) := by omega
              obtain ⟨yc, yf⟩ := HV.out.1.at' hak
              have hbd := okF_at HV.out.2.2.ok (i := ai) (by rw [HM.out.1]; exact hak)
              have hcp := HM.out.2.2.2.2 (l.getD ai default) (by rw [List.getD_eq_getElem?_getD, List.getElem?_eq_getElem (by rw [HM.out.1]; exact hak)]; exact List.getElem_mem _)
              have hz1 := HK.out.2.z1
              have hz0 := HK.out.2.z0
              obtain ⟨y, hy⟩ : ∃ y, f'.getD ai default = y := ⟨_, rfl⟩
              rw [show f'.getD ai 0 = f'.getD ai default from rfl, hy] at hbd hsn
              rw [hy] at yc
              have lg := blk_lt HV.out.1.row
              have lgb := blk_lt HV.out.2.1
              have hwa : IntKind.i64.wrap (y + z) = y + z := IntWalk.i64_in _ (by omega)
              have hws : IntKind.i64.wrap (y - z) = y - z := IntWalk.i64_in _ (by omega)
              have HS := Lib.hid (And.intro hs1 (And.intro w5 hsn))
              have HG := Lib.hid (show gb ≠ w.heap.size + 1 by have := HGB.out; omega)
              have hput := HV.out.1.put ai
              have HP := Lib.hid (fun yy => And.intro (hput yy) (blk_set HV.out.2.1 (a := ⟨w.heap.size + 1, ai, none⟩) HG.out (.int .i64 yy)))
              clear hput hbk hq hs1 hsv w1 w2 w3 w4 w5 w6 w7 w8 he2 hem hbd hcp hy hsn hb
              cases bback
              · have qf2 : (V.setCell ⟨w.heap.size + 1, ai, none⟩ (.int .i64 (y + z))).cell? ⟨gb, q * 4 + 1, none⟩ = some (.int .i64 bfr) := cell_far (Ne.symm HG.out) qf
                have HN := Lib.hid (show GO w n a k c (w.heap.size + 1) (f'.set ai (y + z)) (V.setCell ⟨w.heap.size + 1, ai, none⟩ (.int .i64 (y + z))) ∧ (V.setCell ⟨w.heap.size + 1, ai, none⟩ (.int .i64 (y + z))).heap[gb]? = some (.cells (flatS B).toArray 70 (0, 0)) ∧ Sup n l f x t B r z (i + 1) (f'.set ai (y + z)) from
                  ⟨(HP.out (y + z)).1, (HP.out (y + z)).2, by simpa using HS.out.2.2⟩)
                clear HV HP
                go_wp2_with fail
                go_roundw
                case rel => exact ⟨i + 1, _, _, by rw [HS.out.1], rfl, HN⟩
                case measure => simp only [intOf]; exact HS.out.2.1
              · have qf2 : (V.setCell ⟨w.heap.size + 1, ai, none⟩ (.int .i64 (y - z))).cell? ⟨gb, q * 4 + 1, none⟩ = some (.int .i64 bfr) := cell_far (Ne.symm HG.out) qf
                have HN := Lib.hid (show GO w n a k c (w.heap.size + 1) (f'.set ai (y - z)) (V.setCell ⟨w.heap.size + 1, ai, none⟩ (.int .i64 (y - z))) ∧ (V.setCell ⟨w.heap.size + 1, ai, none⟩ (.int .i64 (y - z))).heap[gb]? = some (.cells (flatS B).toArray 70 (0, 0)) ∧ Sup n l f x t B r z (i + 1) (f'.set ai (y - z)) from
                  ⟨(HP.out (y - z)).1, (HP.out (y - z)).2, by simpa using HS.out.2.2⟩)
                clear HV HP
                go_wp2_with fail
                go_roundw
                case rel => exact ⟨i + 1, _, _, by rw [HS.out.1], rfl, HN⟩
                case measure => simp only [intOf]; exact HS.out.2.1
        · have hne : ((x : Int) != (s : Int)) = true := bne_iff_ne.2 (by omega)
          have hw := HY.out.2.2.1.way x (by omega) (by omega) (by omega) hbk.2
          have hnx := fun h => HW.out.next (t := (t : Int)) (k := m) h
          rw [hx] at hnx
          rw [hsv] at hw hnx
          obtain ⟨qa, qf, qk, _⟩ := stp_at HY.out.2.1 (x := x) (by rw [HY.out.2.2.2.2]; exact hxn)
          obtain ⟨b, hb⟩ : ∃ b, B.getD x default = b := ⟨_, rfl⟩
          rw [hb] at hw hnx qa qf qk hs1
          obtain ⟨barc, bfr, bback, bis⟩ := b
          obtain ⟨w1, w2, w3, w4, w5, w6, w7, w8⟩ := hw
          replace hnx := hnx w8
          have he2 := eOf_half (b := ⟨barc, bfr, bback, bis⟩)
          have hem := eOf_mod (b := ⟨barc, bfr, bback, bis⟩)
          unfold room at hnx
          rw [he2, hem] at hnx
          simp only at w1 w3 w4 w5 qa qf qk hs1 he2 hnx
          obtain ⟨ai, rfl⟩ : ∃ ai : Nat, barc = ai := ⟨barc.toNat, by omega⟩
          rw [Int.toNat_natCast] at he2 hnx
          have hak : ai < k := by have := HM.out.1; omega
          have hakI : (ai : Int) < (k : Int) := by omega
          obtain ⟨yc, _⟩ := HY.out.1.at' hak
          obtain ⟨b1, o1, rfl, hb1, _, _, d2⟩ := ars_at (HM.out.2.1.later HY.out.1.bel) ai (by rw [HM.out.1]; exact hak)
          have hbd := okF_at HY.out.2.2.2.1.ok (i := ai) (by rw [HM.out.1]; exact hak)
          have hcp := HM.out.2.2.2.2 (l.getD ai default) (by rw [List.getD_eq_getElem?_getD, List.getElem?_eq_getElem (by rw [HM.out.1]; exact hak)]; exact List.getElem_mem _)
          obtain ⟨y, hy⟩ : ∃ y, f.getD ai default = y := ⟨_, rfl⟩
          rw [show f.getD ai 0 = f.getD ai default from rfl, hy] at hbd hnx
          rw [hy] at yc
          obtain ⟨cc, hcc⟩ : ∃ cc, (l.getD ai default).c = cc := ⟨_, rfl⟩
          rw [hcc] at d2 hbd hcp hnx
          have lg := blk_lt HY.out.1.row
          have lb := blk_lt HY.out.1.box
          have p1 : Y.cell? ⟨w.heap.size, 1, none⟩ = some (.slice (some ⟨b1, o1, none⟩) k c) := (blk_cell HY.out.1.box 1).trans rfl
          have hws : IntKind.i64.wrap (cc - y) = cc - y := IntWalk.i64_in _ (by omega)
          have HS := Lib.hid (And.intro hs1 (And.intro w5 hnx))
          clear hbk hx hs1 hsv w1 w2 w3 w4 w5 w6 w7 w8 he2 hem hbd hcp hy hnx hb hcc HW
          cases bback
          · clear hxs
            have HN := Lib.hid (show Wid l f B t (m + 1) (if cc - y < z then cc - y else z) by
              have := HS.out.2.2
              simp only [if_neg (show ¬ (false = true) by decide), if_pos] at this
              rw [show (if cc - y < z then cc - y else z) = min z (cc - y) by split <;> omega]
              simpa using this)
            go_wp2_with fail
            go_quiet (fail)
            go_wp2_with fail
            go_roundw
            case rel => exact ⟨m + 1, d + nq, _, rfl, by rw [HS.out.1], rfl, HN⟩
            case measure => simp only [intOf]; exact HS.out.2.1
          · clear hxs
            have HN := Lib.hid (show Wid l f B t (m + 1) (if y < z then y else z) by
              have := HS.out.2.2
              rw [show (if y < z then y else z) = min z y by split <;> omega]
              simpa using this)
            go_wp2_with fail
            go_roundw
            case rel => exact ⟨m + 1, d, _, rfl, by rw [HS.out.1], rfl, HN⟩
            case measure => simp only [intOf]; exact HS.out.2.1
end Go.Proofs.Ytgojjlnpbakfjaa
