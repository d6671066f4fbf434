/- Chapter 05: flow.Across (written by wip/gen05acr.py). -/
import Derived.Test.YtgojjlnpbakfjaaPla
import Derived.Test.YtgojjlnpbakfjaaRow
import Derived.WalkMore
namespace Go.Proofs.Ytgojjlnpbakfjaa
open Go Go.RowKit
set_option linter.unusedSimpArgs false

def bRow (n : Nat) (p : Nat → Bool) : Array Value := ((List.range n).map fun x => Value.bool (p x)).toArray
theorem bRow_get {n x : Nat} (p : Nat → Bool) (hx : x < n) : (bRow n p)[x]? = some (.bool (p x)) := by simp [bRow, hx]
theorem bRow_set {n v : Nat} (p : Nat → Bool) : (bRow n p).setIfInBounds v (.bool true) = bRow n (fun x => x == v || p x) := by
  unfold bRow
  rw [List.setIfInBounds_toArray]
  congr 1
  apply List.ext_getElem
  · simp
  · intro i h1 h2
    rw [List.getElem_set]
    simp only [List.getElem_map, List.getElem_range]
    by_cases e : v = i
    · subst e; simp
    · rw [if_neg e, show (i == v) = false from beq_eq_false_iff_ne.2 (fun h => e h.symm)]; simp
theorem infoB : (Try.prog.info? 4).map (fun i => (i.zero, i.size, i.bytes)) = some (some (.bool false), 1, 1) := by kernel_rfl
theorem lastD_ge {N : Int} : ∀ {d : Int} {l : List Int}, incB N d l = true → d ≤ lastD d l
  | d, [], _ => Int.le_refl _
  | d, x :: l, h => by
    simp only [incB, Bool.and_eq_true, decide_eq_true_eq] at h
    have := lastD_ge h.2
    simp only [lastD]
    omega
theorem lastD_take {d : Int} {l : List Int} {j : Nat} (h : j < l.length) : lastD d (l.take (j + 1)) = l.getD j default := by
  rw [take_snocI h, lastD_snoc]
theorem incB_next {N d : Int} {l : List Int} {j : Nat} (h : incB N d (l.take j) = true) (hj : j < l.length) (h1 : lastD d (l.take j) < l.getD j default) (h2 : l.getD j default < N) : incB N d (l.take (j + 1)) = true := by
  rw [take_snocI hj, incB_snoc, h, decide_eq_true h1, decide_eq_true h2]; rfl
theorem capS_bound (S : Int → Bool) : ∀ l : List Ar, (∀ a ∈ l, 0 ≤ a.c ∧ a.c ≤ 100000000) → 0 ≤ capS S l ∧ capS S l ≤ 100000000 * l.length
  | [], _ => by simp [capS]
  | a :: l, h => by
    have h1 := h a (by simp)
    have ih := capS_bound S l (fun b hb => h b (by simp [hb]))
    simp only [capS, List.length_cons]
    split <;> omega
theorem take_snocA3 {l : List Ar} {k : Nat} (hk : k < l.length) : l.take (k + 1) = l.take k ++ [l.getD k default] := by
  rw [List.take_succ_eq_append_getElem hk]
  simp [List.getD, List.getElem?_eq_getElem hk]

/-- The net in its box; which nodes are in. -/
structure AR (w : World) (N : Int) (a : Option Addr) (k c n g : Nat) (p : Nat → Bool) (X : World) : Prop where
  bel : Below w.heap.size w X
  box : X.heap[w.heap.size]? = some (.cells #[.int .i64 N, .slice a k c] 24 (0, 0))
  row : X.heap[g]? = some (.cells (bRow n p) 4 (0, 0))
  lo : w.heap.size < g
section
variable {w : World} {N : Int} {a : Option Addr} {k c n g : Nat} {p : Nat → Bool} {X X' : World}
theorem AR.later (h : AR w N a k c n g p X) (hb : Below X.heap.size X X') : AR w N a k c n g p X' := ⟨below_trans h.bel hb, blk_below h.box hb, blk_below h.row hb, h.lo⟩
theorem AR.put (h : AR w N a k c n g p X) (v : Nat) : AR w N a k c n g (fun x => x == v || p x) (X.setCell ⟨g, v, none⟩ (.bool true)) := by
  have hl := h.lo
  refine ⟨h.bel.setCell (by simp only; omega) _, blk_set h.box (by simp only; omega) _, ?_, hl⟩
  rw [← bRow_set]
  simp [World.setCell, Array.getElem?_modify, h.row]
theorem AR.at' (h : AR w N a k c n g p X) {x : Nat} (hx : x < n) : X.cell? ⟨g, x, none⟩ = some (.bool (p x)) ∧ X.frozen? ⟨g, x, none⟩ = false := ⟨(blk_cell h.row x).trans (bRow_get p hx), blk_frozen h.row x⟩
end
/-- The nodes of the first j numbers. -/
def InP (n : Nat) (set : List Int) (j : Nat) (p : Nat → Bool) : Prop := ∀ x : Nat, x < n → (p x = true ↔ (x : Int) ∈ set.take j)
theorem InP.start (n : Nat) (set : List Int) : InP n set 0 (fun _ => false) := fun x _ => by simp
theorem InP.next {n : Nat} {set : List Int} {j v : Nat} {p : Nat → Bool} (h : InP n set j p) (hj : j < set.length) (hv : set.getD j default = v) : InP n set (j + 1) (fun x => x == v || p x) := fun x hx => by
  rw [take_snocI hj, List.mem_append, hv, Bool.or_eq_true, h x hx, beq_iff_eq, List.mem_singleton]
  constructor
  · rintro (h | h)
    · exact .inr (by omega)
    · exact .inl h
  · rintro (h | h)
    · exact .inr h
    · exact .inl (by omega)
theorem InP.all {n : Nat} {set : List Int} {p : Nat → Bool} (h : InP n set set.length p) {x : Nat} (hx : x < n) : set.contains (x : Int) = p x := by
  have h1 := h x hx
  rw [List.take_of_length_le (Nat.le_refl _), ← List.contains_iff_mem] at h1
  exact bool_same (p := set.contains (x : Int) = true) Iff.rfl h1

set_option maxRecDepth 100000 in
set_option maxHeartbeats 8000000 in
theorem across_ok (N : Int) (a : Option Addr) (k c : Nat) (l : List Ar) (af : Option Addr) (kf cf : Nat) (set : List Int) (w : World) (hn : l.length = k) (hl : k ≤ 9223372036854775807) (hm : RowsAt w.heap.size w a 3 (Ars l)) (hnf : set.length = kf) (hlf : kf ≤ 9223372036854775807) (hmf : RowsAt w.heap.size w af 1 (Ints set)) :
    Calls Try.prog 23 #[.agg #[.int .i64 N, .slice a k c], .slice af kf cf] w fun e W' => e = .returned (.tuple #[.int .i64 (acrV N l set), .int .i64 (acrE N l set)]) ∧ Below w.heap.size w W' := by
  have HM := Lib.hid (And.intro hn (And.intro hm (And.intro hnf hmf)))
  clear hn hm hnf hmf
  cases hv : netOk N l
  · have h1 : acrE N l set = 1 := by unfold acrE; rw [hv]; rfl
    have h0 : acrV N l set = 0 := by unfold acrV; rw [h1]; rfl
    rw [h0, h1]
    have HV := Lib.hid hv
    clear hv h0 h1
    go_enter Try.func23, Try.ntmps23
    go_wp2_with fail
    obtain ⟨A, hA⟩ : ∃ W' : World, (w.alloc (.cells #[.int .i64 N, .slice a k c] 24)) = W' := ⟨_, rfl⟩
    have h : Has A [(w.heap.size, .cells #[.int .i64 N, .slice a k c] 24 (0, 0))] := by rw [← hA]; simpa using ((Has.nil w).new _)
    have z : A.heap.size = w.heap.size + 1 := by rw [← hA]; simp
    have b : Below w.heap.size w A := by rw [← hA]; exact (below_alloc (below_self w) _)
    rw [hA]
    clear hA
    have HA := Lib.hid (And.intro h.hd b)
    clear h z b
    refine (valid_ok N a k c l A HM.out.1 hl (HM.out.2.1.later HA.out.2)).mono ?_
    rintro e B ⟨rfl, hb⟩
    have HB := Lib.hid (below_trans HA.out.2 hb)
    clear hb HA
    rw [HV.out]
    go_wp2_with fail
    go_ret2
    exact ⟨rfl, HB.out⟩
  · obtain ⟨h2, h64, h128, hA⟩ := netOk_iff.1 hv
    obtain ⟨n, rfl⟩ : ∃ n : Nat, N = n := ⟨N.toNat, by omega⟩
    have hn64 : n ≤ 64 := by omega
    have hk : k ≤ 128 := by have := HM.out.1; omega
    have hE : acrE n l set = if incB n (-1) set = true then 0 else 2 := by unfold acrE; rw [hv]; rfl
    obtain ⟨R, hR⟩ : ∃ R, acrV n l set = R := ⟨_, rfl⟩
    obtain ⟨E, hEE⟩ : ∃ E, acrE n l set = E := ⟨_, rfl⟩
    rw [hR, hEE]
    have hbad : incB n (-1) set = false → (0 : Int) = R ∧ (2 : Int) = E := by
      intro hb
      have h13 : acrE n l set = 2 := by rw [hE, hb]; rfl
      refine ⟨?_, by rw [← hEE, h13]⟩
      rw [← hR]
      unfold acrV
      rw [h13]; rfl
    have hgood : incB n (-1) set = true → capL l set = R ∧ (0 : Int) = E := by
      intro hb
      have h13 : acrE n l set = 0 := by rw [hE, hb]; rfl
      refine ⟨?_, by rw [← hEE, h13]⟩
      rw [← hR]
      unfold acrV
      rw [h13]; rfl
    have H0 := Lib.hid (And.intro hA (And.intro hbad hgood))
    have HV := Lib.hid hv
    clear hv h2 h64 h128 hA hE hR hEE hbad hgood
    go_enter Try.func23, Try.ntmps23
    go_wp2_with fail
    obtain ⟨A, hA⟩ : ∃ W' : World, (w.alloc (.cells #[.int .i64 n, .slice a k c] 24)) = W' := ⟨_, rfl⟩
    have h : Has A [(w.heap.size, .cells #[.int .i64 n, .slice a k c] 24 (0, 0))] := by rw [← hA]; simpa using ((Has.nil w).new _)
    have z : A.heap.size = w.heap.size + 1 := by rw [← hA]; simp
    have b : Below w.heap.size w A := by rw [← hA]; exact (below_alloc (below_self w) _)
    rw [hA]
    clear hA
    have HA := Lib.hid (And.intro h.hd b)
    clear h z b
    refine (valid_ok n a k c l A HM.out.1 hl (HM.out.2.1.later HA.out.2)).mono ?_
    rintro e B ⟨rfl, hb⟩
    rw [HV.out]
    have HB := Lib.hid (And.intro (blk_below HA.out.1 hb) (below_trans HA.out.2 hb))
    clear hb HA
    have c0 : B.cell? ⟨w.heap.size, 0, none⟩ = some (.int .i64 n) := (blk_cell HB.out.1 0).trans rfl
    have c1 : B.cell? ⟨w.heap.size, 1, none⟩ = some (.slice a k c) := (blk_cell HB.out.1 1).trans rfl
    have lb := blk_lt HB.out.1
    obtain ⟨i0, hi, hz0, hz1, hz2⟩ := info_parts infoB
    go_wp2_with (with_reducible refine wpList_make_row rfl 71 _ _ rfl 4 i0 _ 1 1 Try.underlying71 hi hz0 hz1 hz2 n _ rfl rfl ?a2 ?a3 ?a4 ?_)
    case a2 => rfl
    case a3 => omega
    case a4 => omega
    intro W4 h4 hb4 hs4
    have h4' : W4.heap[B.heap.size]? = some (.cells (bRow n (fun _ => false)) 4 (0, 0)) := by
      have hm : madeCells #[Value.bool false] n = bRow n (fun _ => false) := by
        apply Array.toList_inj.1
        rw [toList_madeCells_one]
        show List.replicate n _ = (List.range n).map (fun _ => Value.bool false)
        rw [List.map_const', List.length_range]
      rw [← hm]
      simpa using h4.out
    have hC : AR w n a k c n B.heap.size (fun _ => false) W4 := ⟨below_trans HB.out.2 hb4, blk_below HB.out.1 hb4, h4', lb⟩
    have HC := Lib.hid hC
    generalize B.heap.size = g at HC ⊢
    clear c0 c1 lb h4 hb4 hs4 h4' hC HB hi hz0 hz1 hz2
    go_wp2_with fail
    go_loopw [7, 21] (fun v i wr => ∃ (j : Nat) (p : Nat → Bool) (X : World), j ≤ kf ∧ v = .int .i64 (lastD (-1) (set.take j)) ∧ i = .int .i64 j ∧ X = wr ∧ Hid (AR w n a k c n g p X ∧ InP n set j p ∧ incB n (-1) (set.take j) = true)) (fun _ i _ => kf - (intOf i).toNat)
    case atStart => exact ⟨0, _, _, Nat.zero_le _, rfl, rfl, rfl, Lib.hid ⟨HC.out, InP.start n set, rfl⟩⟩
    case round =>
      clear HC
      obtain ⟨j, p, X, hj, rfl, rfl, rfl, HX⟩ := hrel
      by_cases hlt : j < kf
      · have hltI : (j : Int) < (kf : Int) := by omega
        have hjl : j < set.length := by rw [HM.out.2.2.1]; exact hlt
        obtain ⟨b2, o2, rfl, hb2, d0⟩ := ints_at (HM.out.2.2.2.later HX.out.1.bel) j hjl
        have p0 : X.cell? ⟨w.heap.size, 0, none⟩ = some (.int .i64 n) := (blk_cell HX.out.1.box 0).trans rfl
        have lp := blk_lt HX.out.1.box
        have lg := blk_lt HX.out.1.row
        have hge := lastD_ge HX.out.2.2
        have hst := incB_stop (N := n) (d := -1) (l := set) hjl
        have hnx := incB_next HX.out.2.2 hjl
        obtain ⟨y, hy⟩ : ∃ y, set.getD j default = y := ⟨_, rfl⟩
        have hlt1 := lastD_take (d := -1) hjl
        rw [hy] at d0 hst hnx hlt1
        have HK := Lib.hid (And.intro hy (And.intro hjl (And.intro hst (And.intro hnx hlt1))))
        obtain ⟨z, hz⟩ : ∃ z, lastD (-1) (set.take j) = z := ⟨_, rfl⟩
        rw [hz] at hst hnx hge ⊢
        have HK := Lib.hid (And.intro hy (And.intro hjl (And.intro hst (And.intro hnx hlt1))))
        clear hz
        clear hy hjl hst hnx hlt1
        by_cases g1 : y ≤ z
        · have HN := Lib.hid (H0.out.2.1 (HK.out.2.2.1 (by omega)))
          go_wp2_with fail
          go_ret2
          exact ⟨by rw [← HN.out.1, ← HN.out.2]; rfl, HX.out.1.bel⟩
        · skip
          by_cases g2 : (n : Int) ≤ y
          · have HN := Lib.hid (H0.out.2.1 (HK.out.2.2.1 (by omega)))
            go_wp2_with fail
            go_ret2
            exact ⟨by rw [← HN.out.1, ← HN.out.2]; rfl, HX.out.1.bel⟩
          · skip
            obtain ⟨v, rfl⟩ : ∃ v : Nat, y = v := ⟨y.toNat, by omega⟩
            have hvI : (v : Int) < (n : Int) := by omega
            obtain ⟨qv, fv'⟩ := HX.out.1.at' (x := v) (by omega)
            have HN := Lib.hid (And.intro (HX.out.1.put v) (And.intro (HX.out.2.1.next HK.out.2.1 HK.out.1) (HK.out.2.2.2.1 (by omega) (by omega))))
            have HT := Lib.hid HK.out.2.2.2.2
            clear HK HX 
            go_wp2_with fail
            go_roundw
            case rel => exact ⟨j + 1, _, _, by omega, by rw [HT.out], by go_num, rfl, HN⟩
            case measure => simp [intOf]; omega
      · have hltI : ¬ (j : Int) < (kf : Int) := by omega
        obtain rfl : j = kf := by omega
        have hinc : incB n (-1) set = true := by
          have := HX.out.2.2
          rw [List.take_of_length_le (by rw [HM.out.2.2.1]; exact Nat.le_refl _)] at this
          exact this
        have hin : InP n set set.length p := by rw [HM.out.2.2.1]; exact HX.out.2.1
        have HX1 := Lib.hid (And.intro HX.out.1 (And.intro hin (H0.out.2.2 hinc)))
        clear HX hinc hin
        have p1 : X.cell? ⟨w.heap.size, 1, none⟩ = some (.slice a k c) := (blk_cell HX1.out.1.box 1).trans rfl
        have lp := blk_lt HX1.out.1.box
        go_wp2_with fail
        clear p1 lp
        go_loopw [10, 42] (fun v i wr => ∃ (q : Nat) (Y : World), q ≤ k ∧ v = .int .i64 (capS (fun x => set.contains x) (l.take q)) ∧ i = .int .i64 q ∧ Y = wr ∧ Hid (AR w n a k c n g p Y)) (fun _ i _ => k - (intOf i).toNat)
        case atStart => exact ⟨0, _, Nat.zero_le _, rfl, rfl, rfl, Lib.hid HX1.out.1⟩
        case round =>
          obtain ⟨q, Y, hq, rfl, rfl, rfl, HY⟩ := hrel
          by_cases hqk : q < k
          · have hqI : (q : Int) < (k : Int) := by omega
            have hql : q < l.length := by rw [HM.out.1]; exact hqk
            have hA := okA_iff.1 (H0.out.1 (l.getD q default) (by rw [List.getD_eq_getElem?_getD, List.getElem?_eq_getElem hql]; exact List.getElem_mem _))
            obtain ⟨b1, o1, rfl, hb1, c0, c1, c2⟩ := ars_at (HM.out.2.1.later HY.out.bel) q hql
            have hsn := take_snocA3 hql
            have hbd := capS_bound (fun x => set.contains x) (l.take q) (fun x hx => by have := okA_iff.1 (H0.out.1 x (List.mem_of_mem_take hx)); omega)
            have hlq : (l.take q).length ≤ 128 := by rw [List.length_take]; omega
            obtain ⟨x, hx⟩ : ∃ x, l.getD q default = x := ⟨_, rfl⟩
            rw [hx] at hA c0 c1 c2 hsn
            obtain ⟨xu, xv, xc⟩ := x
            simp only at hA c0 c1 c2
            obtain ⟨⟨u0, u1⟩, ⟨v0, v1⟩, huv, r0, r1⟩ := hA
            obtain ⟨u, rfl⟩ : ∃ u : Nat, xu = u := ⟨xu.toNat, by omega⟩
            obtain ⟨v, rfl⟩ : ∃ v : Nat, xv = v := ⟨xv.toNat, by omega⟩
            have hunI : (u : Int) < (n : Int) := by omega
            have hvnI : (v : Int) < (n : Int) := by omega
            have hnext := capS_snoc (fun x => set.contains x) (l.take q) ⟨u, v, xc⟩
            rw [← hsn] at hnext
            have hpu := HX1.out.2.1.all (x := u) (by omega)
            have hpv := HX1.out.2.1.all (x := v) (by omega)
            simp only at hnext
            rw [hpu, hpv] at hnext
            obtain ⟨qu, _⟩ := HY.out.at' (x := u) (by omega)
            obtain ⟨qv, _⟩ := HY.out.at' (x := v) (by omega)
            have lg := blk_lt HY.out.row
            obtain ⟨T, hT⟩ : ∃ T, capS (fun x => set.contains x) (l.take q) = T := ⟨_, rfl⟩
            rw [hT] at hnext hbd ⊢
            have hw : IntKind.i64.wrap (T + xc) = T + xc := IntWalk.i64_in _ (by omega)
            have HYn := Lib.hid (fun X' (hb : Below Y.heap.size Y X') => HY.out.later hb)
            clear hsn hbd hlq hx hT huv hpu hpv hql
            cases hu : p u
            · rw [hu] at qu hnext
              rw [if_neg (by simp)] at hnext
              have HN := Lib.hid hnext
              clear hu hnext
              go_wp2_with fail
              go_roundw
              case rel => exact ⟨q + 1, _, by omega, by rw [HN.out, Int.add_zero], by go_num, rfl, Lib.hid (HYn.out _ (below_alloc (below_self Y) _))⟩
              case measure => simp [intOf]; omega
            · cases hv : p v
              · rw [hu] at qu hnext
                rw [hv] at qv hnext
                rw [if_pos (by simp)] at hnext
                have HN := Lib.hid hnext
                clear hu hv hnext
                go_wp2_with fail
                go_roundw
                case rel => exact ⟨q + 1, _, by omega, by rw [HN.out], by go_num, rfl, Lib.hid (HYn.out _ (below_alloc (below_self Y) _))⟩
                case measure => simp [intOf]; omega
              · rw [hu] at qu hnext
                rw [hv] at qv hnext
                rw [if_neg (by simp)] at hnext
                have HN := Lib.hid hnext
                clear hu hv hnext
                go_wp2_with fail
                go_roundw
                case rel => exact ⟨q + 1, _, by omega, by rw [HN.out, Int.add_zero], by go_num, rfl, Lib.hid (HYn.out _ (below_alloc (below_self Y) _))⟩
                case measure => simp [intOf]; omega
          · have hqI : ¬ (q : Int) < (k : Int) := by omega
            obtain ⟨T, hT⟩ : ∃ T, capS (fun x => set.contains x) (l.take q) = T := ⟨_, rfl⟩
            rw [hT]
            have HT := Lib.hid (show T = R by
              rw [← HX1.out.2.2.1, ← hT, List.take_of_length_le (by rw [HM.out.1]; omega)]
              rfl)
            clear hT
            go_wp2_with fail
            go_ret2
            exact ⟨by rw [← HX1.out.2.2.2, ← HT.out]; rfl, HY.out.bel⟩
end Go.Proofs.Ytgojjlnpbakfjaa
