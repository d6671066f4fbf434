/- Chapter 25, law CarrierOrders: its walk. -/
import Derived.Test.YtkfoclibejpbdaaLaw
import Derived.Deep.RegionHeld3
import Derived.Deep.DeepCutAuto
import Derived.Deep.CutRange
import Derived.IntWalk
namespace Go.Proofs.Ytkfoclibejpbdaa
open Go Go.RowKit

/-- The messages' ids rise, and none is above i. -/
def Inc (ms : List Msg) (i : Nat) : Prop := ms.Pairwise (fun x y => x.id < y.id) ∧ ∀ x ∈ ms, x.id ≤ i
theorem Inc.nil : Inc [] 0 := ⟨List.Pairwise.nil, fun _ h => by simp at h⟩
theorem Inc.snoc {ms : List Msg} {i : Nat} {m : Msg} (h : Inc ms i) (hm : m.id = (i : Int) + 1) : Inc (ms ++ [m]) (i + 1) := by
  refine ⟨List.pairwise_append.2 ⟨h.1, by simp, fun x hx y hy => ?_⟩, fun x hx => ?_⟩
  · have := h.2 x hx
    simp only [List.mem_singleton] at hy
    subst hy; omega
  · rcases List.mem_append.1 hx with hx | hx
    · have := h.2 x hx; omega
    · simp only [List.mem_singleton] at hx
      subst hx; omega
theorem drop1_sub (ms : List Msg) (p : Nat) : (drop1 ms p).Sublist ms := by
  unfold drop1
  conv => rhs; rw [← List.take_append_drop p ms]
  refine List.Sublist.append (List.Sublist.refl _) ?_
  rw [← List.drop_drop]
  simpa [Nat.add_comm] using List.drop_sublist 1 (ms.drop p)
theorem Inc.del {ms : List Msg} {i : Nat} (h : Inc ms i) (p : Nat) : Inc (drop1 ms p) i :=
  ⟨h.1.sublist (drop1_sub ms p), fun x hx => h.2 x ((drop1_sub ms p).subset hx)⟩
theorem Inc.at' {ms : List Msg} {i : Nat} (h : Inc ms i) {j : Nat} (hj : j + 1 < ms.length) : (ms.getD j default).id < (ms.getD (j + 1) default).id := by
  have := List.pairwise_iff_getElem.1 h.1 j (j + 1) (by omega) hj (by omega)
  simpa [List.getD, List.getElem?_eq_getElem hj, List.getElem?_eq_getElem (show j < ms.length by omega)] using this

/-- What the law's loop holds: the box of c, its messages. -/
def OSt (w wr : World) (i : Nat) : Prop :=
  ∃ v ms, Has wr [(w.heap.size, .cells #[v] 24 (0, 0))] ∧ Below w.heap.size w wr ∧ OwnMs (w.heap.size + 1) wr v ms ∧ Inc ms i ∧ ms.length ≤ i
theorem OSt.start (w : World) : OSt w (w.alloc (.cells #[.slice none 0 0] 24)) 0 :=
  ⟨_, [], (Has.nil w).new _, below_alloc (below_self w) _, OwnMs.nil _ _, Inc.nil, Nat.le_refl _⟩
theorem OSt.drewN {w wr : World} {i : Nat} (h : OSt w wr i) (d : Nat) : OSt w (wr.drewN d) i := by
  obtain ⟨v, ms, h1, h2, h3, h4, h5⟩ := h
  exact ⟨v, ms, h1.drewN d, below_drewN h2 d, h3, h4, h5⟩

set_option maxRecDepth 100000 in
set_option maxHeartbeats 4000000 in
theorem orders_walk (a : Option Addr) (n cap : Nat) (zs : List Int) (w : World) (hn : zs.length = n) (hcap : n ≤ cap) (hmax : cap ≤ maxLen) (_hnone : a = none → n = 0 ∧ cap = 0) (hm : RowsAt w.heap.size w a 1 (zs.map fun z => [.int .u8 z])) (hb : ∀ z ∈ zs, 0 ≤ z ∧ z ≤ 255) :
    Calls Try.prog 5 #[.slice a n cap] w fun e W' => e = .returned (.bool true) ∧ Below w.heap.size w W' := by
  have hl : n ≤ 9223372036854775807 := by unfold maxLen at hmax; omega
  have Hn := Lib.hid hn
  have Hm := Lib.hid hm
  have Hb := Lib.hid hb
  clear hn hm hmax hb hcap
  go_enter Try.func5, Try.ntmps5
  go_wp2_with fail
  go_loopw [4] (fun i wr => ∃ (j : Nat) (X : World), j ≤ n ∧ j ≤ 40 ∧ i = .int .i64 j ∧ X = wr ∧ OSt w X j) (fun i _ => n - (intOf i).toNat)
  case atStart =>
    exact ⟨0, _, Nat.zero_le _, by omega, rfl, rfl, OSt.start w⟩
  case round =>
    obtain ⟨j, X, hj, hj40, rfl, rfl, ho⟩ := hrel
    by_cases hlt : j < n ∧ j < 40
    · obtain ⟨v, ms, h1, bw, ho, hinc, hml⟩ := ho
      obtain ⟨h1n, h140⟩ := hlt
      obtain ⟨a2, k, cap2, rfl, hk, hc2, ho⟩ := Car.own' ho (by omega)
      obtain ⟨z, hz⟩ : ∃ z, zs[j]? = some z := ⟨_, List.getElem?_eq_getElem (by rw [Hn.out]; exact h1n)⟩
      have hzb := Hb.out z (List.mem_of_getElem? hz)
      obtain ⟨b0, o0, rfl, hb0, e0⟩ := Hm.out j [.int .u8 z] (by simp [hz])
      have e0 : _ = _ := e0 0 _ rfl
      rw [Nat.mul_one, Nat.add_zero] at e0
      have e0 := cell_call bw hb0 e0
      have lt0 := blk_lt h1.hd
      have lt1 := Nat.lt_of_lt_of_le hb0 bw.size
      have c0 := blk_one h1.hd
      have HC := Lib.hid (fun W (hb : Below X.heap.size X W) => (And.intro (cell_call hb lt0 c0) (cell_call hb lt1 e0)))
      have HX := Lib.hid (And.intro h1 (And.intro bw (And.intro ho (And.intro hinc (And.intro hml (And.intro hc2 hk))))))
      clear h1 bw ho hinc hml hc2 hk
      obtain ⟨hz0, hz255⟩ := hzb
      go_upto_region 5 with fail
      go_cut [5, 6] from 10 to 88 (fun s5 s6 wx => ∃ g v', s5 = .pointer (some ⟨g, 0, none⟩) ∧ s6 = .int .i64 0 ∧ g ≠ w.heap.size ∧ Has wx [(g, .cells #[v'] 24 (0, 0)), (w.heap.size, .cells #[.slice a2 k cap2] 24 (0, 0))] ∧ Below X.heap.size X wx ∧ ∃ m, m.id = (j : Int) + 1 ∧ OwnMs (w.heap.size + 1) wx v' (ms ++ [m]))
      case first =>
        have bX := (below_self X).drew
        have hsE : sendE ms = 0 := by unfold sendE; rw [if_neg (by have := HX.out.2.2.2.2.1; omega)]
        have hsL : ∀ m, sendL ms m = ms ++ [m] := fun m => by unfold sendL; rw [if_neg (by have := HX.out.2.2.2.2.1; omega)]
        have HE := Lib.hid (And.intro hsE hsL)
        clear hsE hsL
        have hw1 : IntKind.i64.wrap ((j : Int) + 1) = (j : Int) + 1 := IntWalk.i64_in _ (by omega)
        go_region_held3 (fun w' => Below X.heap.size X w' ∧ w'.cell? ⟨w.heap.size, 0, none⟩ = some (.slice a2 k cap2) ∧ w'.cell? ⟨b0, o0 + j, none⟩ = some (.int .u8 z))
          ((first | exact ⟨bX, HC.out _ bX⟩ | exact ⟨below_alloc bX _, HC.out _ (below_alloc bX _)⟩ | exact ⟨bY, HC.out _ bY⟩ | exact ⟨below_alloc bY _, HC.out _ (below_alloc bY _)⟩ | exact ⟨bY.setCell (Nat.le_refl _) _, HC.out _ (bY.setCell (Nat.le_refl _) _)⟩))
          (first
            | (go_at_call 20; refine (send_ok a2 k cap2 ms ⟨_, (j : Int) + 1, 0, 0, 0, 0, 0, 0, 0⟩ _ HX.out.2.2.2.2.2.2 HX.out.2.2.2.2.2.1.l64 (HX.out.2.2.2.2.2.1.at'.later (by first | exact bX | exact below_alloc bX _))).mono ?_; rintro e WA ⟨vA, rfl, hoA, hbA⟩; rw [HE.out.1]; (rcases owns_shape hoA with ⟨aA, capA, rfl, _, _⟩); (generalize hLA : sendL ms _ = LA at hoA ⊢); have HLA := Lib.hid hLA; clear hLA; have bY := below_trans (by first | exact bX | exact below_alloc bX _) hbA; (try (have hN : WA.heap[X.heap.size]? = some (.cells #[.slice none 0 0] 24 (0, 0)) := blk_below (blk_new X.drew _) hbA; have cN := blk_one hN; have fN := blk_frozen hN 0))))
        · have hh := Has.new (Has.below (W := X.drew) HX.out.1 hbA) (.cells #[.slice aA LA.length capA] 24)
          have hne : WA.heap.size ≠ w.heap.size := by have h1 := hbA.size; have h2 := blk_lt HX.out.1.hd; have h3 : X.drew.heap.size = X.heap.size := rfl; omega
          have hLA := (HE.out.2 _).symm.trans HLA.out
          have hoB : OwnMs (w.heap.size + 1) (WA.alloc (.cells #[.slice aA LA.length capA] 24)) (.slice aA LA.length capA) LA := (hoA.base (by have h2 := blk_lt HX.out.1.hd; have h3 : X.drew.heap.size = X.heap.size := rfl; omega)).alloc _
          have HZ := Lib.hid (And.intro hne (And.intro hh (And.intro (below_alloc bY (.cells #[.slice aA LA.length capA] 24)) (And.intro hLA hoB))))
          clear hne hh bY hLA hoA hoB hbA HLA HE HC
          go_wp2_with fail
          go_meet
          exact ⟨_, _, rfl, rfl, HZ.out.1, HZ.out.2.1, HZ.out.2.2.1, _, rfl, by rw [HZ.out.2.2.2.1]; exact HZ.out.2.2.2.2⟩
        · have h0 := Has.below (W := X.drew.alloc (.cells #[.slice none 0 0] 24)) (Has.new (W := X.drew) HX.out.1 _) hbA
          have h3 : X.drew.heap.size = X.heap.size := rfl
          have hne : X.heap.size ≠ w.heap.size := by have h2 := blk_lt HX.out.1.hd; omega
          have hh : Has (WA.setCell ⟨X.heap.size, 0, none⟩ (.slice aA LA.length capA)) [(X.heap.size, .cells #[.slice aA LA.length capA] 24 (0, 0)), (w.heap.size, .cells #[.slice a2 k cap2] 24 (0, 0))] :=
            Has.cons (blk_set_same h0.hd) (Has.cons (blk_set h0.tl.hd (Ne.symm hne) _) (Has.nil _))
          have hLA := (HE.out.2 _).symm.trans HLA.out
          have hoB : OwnMs (w.heap.size + 1) (WA.setCell ⟨X.heap.size, 0, none⟩ (.slice aA LA.length capA)) (.slice aA LA.length capA) LA :=
            (hoA.set (a := ⟨X.heap.size, 0, none⟩) (by simp) _).base (by have h2 := blk_lt HX.out.1.hd; simp; omega)
          have bZ : Below X.heap.size X (WA.setCell ⟨X.heap.size, 0, none⟩ (.slice aA LA.length capA)) := bY.setCell (Nat.le_refl _) _
          have HZ := Lib.hid (And.intro hne (And.intro hh (And.intro bZ (And.intro hLA hoB))))
          clear hne hh bY hLA hoA hoB hbA HLA HE HC bZ h0 h3
          go_wp2_with fail
          go_meet
          exact ⟨_, _, rfl, rfl, HZ.out.1, HZ.out.2.1, HZ.out.2.2.1, _, rfl, by rw [HZ.out.2.2.2.1]; exact HZ.out.2.2.2.2⟩
      case rest =>
        obtain ⟨g, v5, rfl, rfl, hg, h5, b5, m5, hm5, ho5⟩ := hcut
        have hinc := HX.out.2.2.2.1.snoc hm5
        have hml : (ms ++ [m5]).length ≤ j + 1 := by have := HX.out.2.2.2.2.1; simp; omega
        have hpos : 0 < (ms ++ [m5]).length := by simp
        generalize ms ++ [m5] = MS at ho5 hinc hml hpos
        obtain ⟨a5, k5, cap5, rfl, hk5, hc5, ho5⟩ := Car.own' ho5 (by omega)
        have c0 := blk_one h5.tl.hd
        have f0 := blk_frozen h5.tl.hd 0
        have c5 := blk_one h5.hd
        have h6 : Has (wc.setCell ⟨w.heap.size, 0, none⟩ (.slice a5 k5 cap5)) [(w.heap.size, .cells #[.slice a5 k5 cap5] 24 (0, 0))] := Has.cons (blk_set_same h5.tl.hd) (Has.nil _)
        have w6 : Below w.heap.size w (wc.setCell ⟨w.heap.size, 0, none⟩ (.slice a5 k5 cap5)) := (below_trans HX.out.2.1 b5).setCell (Nat.le_refl _) _
        have ho6 : OwnMs (w.heap.size + 1) (wc.setCell ⟨w.heap.size, 0, none⟩ (.slice a5 k5 cap5)) (.slice a5 k5 cap5) MS := ho5.set (a := ⟨w.heap.size, 0, none⟩) (by simp) _
        have e6 : (wc.setCell ⟨w.heap.size, 0, none⟩ (.slice a5 k5 cap5)).cell? ⟨b0, o0 + j, none⟩ = some (.int .u8 z) := cell_far (by simp; omega) (cell_call b5 lt1 e0)
        have lt6 := Nat.lt_of_lt_of_le hb0 w6.size
        have HZ := Lib.hid (And.intro h6 (And.intro w6 (And.intro ho6 (And.intro hinc (And.intro hml (And.intro hpos hk5))))))
        clear HX HC h5 h6 w6 ho6 hinc hml hpos hk5 ho5 hc5 b5 hm5 lt0 lt1 e0
        go_upto_region 9 with fail
        generalize wc.setCell _ _ = Y at HZ e6 lt6 ⊢
        clear c0 f0 c5
        have c6 := blk_one HZ.out.1.hd
        have hkp : 0 < k5 := by have h1 := HZ.out.2.2.2.2.2.1; have h2 := HZ.out.2.2.2.2.2.2; omega
        go_cut [48] from 10 to 88 (fun s48 wx => ∃ bb, s48 = .bool bb ∧ Y = wx)
        case first =>
          by_cases hz100 : 100 ≤ z
          · go_wp2_with fail
            go_meet
            exact ⟨_, rfl, rfl⟩
          · go_wp2_with fail
            go_meet
            exact ⟨_, rfl, rfl⟩
        case rest =>
          obtain ⟨bb, rfl, rfl⟩ := hcut
          go_upto_if 48 with fail
          go_cut [] from 10 to 88 (fun wx => OSt w wx (j + 1))
          case first =>
            cases bb
            · go_wp2_with fail
              go_meet
              exact ⟨_, MS, HZ.out.1, HZ.out.2.1, HZ.out.2.2.1, HZ.out.2.2.2.1, HZ.out.2.2.2.2.1⟩
            · go_upto_region 10 with fail
              have lt0 := blk_lt HZ.out.1.hd
              have HC := Lib.hid (fun W (hb : Below Y.heap.size Y W) => (And.intro (cell_call hb lt0 c6) (cell_call hb lt6 e6)))
              have hp0 : 0 ≤ z.tmod (k5 : Int) := Int.tmod_nonneg _ hz0
              have hp1 : z.tmod (k5 : Int) < k5 := Int.tmod_lt_of_pos _ (by omega)
              have hw1 : IntKind.i64.wrap z = z := IntWalk.i64_in _ ⟨by omega, by omega⟩
              have hw2 : IntKind.i64.wrap (z.tmod (k5 : Int)) = z.tmod (k5 : Int) := IntWalk.i64_in _ ⟨by omega, by have := hz255; have h1 := HZ.out.2.2.2.2.1; have h2 := HZ.out.2.2.2.2.2.2; omega⟩
              have hin : inside (z.tmod (k5 : Int)) MS.length = true := by rw [HZ.out.2.2.2.2.2.2]; unfold inside; exact decide_eq_true ⟨hp0, hp1⟩
              have hsE : delE MS (z.tmod (k5 : Int)) = 0 := by unfold delE; rw [if_pos hin]
              have hsL : delL MS (z.tmod (k5 : Int)) = drop1 MS (z.tmod (k5 : Int)).toNat := by unfold delL; rw [if_pos hin]
              have HE := Lib.hid (And.intro hsE hsL)
              clear hsE hsL hin hp0 hp1
              have hk0 : ¬ k5 = 0 := by omega
              have hk1 : ¬ (k5 : Int) = 0 := by omega
              have bX := (below_self Y).drew
              have hcY : Car Y a5 k5 cap5 MS := by
                obtain ⟨a', cap', he, hc'⟩ := Car.own HZ.out.2.2.1 (by have := HZ.out.2.2.2.2.1; omega)
                rw [HZ.out.2.2.2.2.2.2] at he hc'
                cases he
                exact hc'
              have HCY := Lib.hid hcY
              clear hcY
              go_region_held3 (fun w' => Below Y.heap.size Y w' ∧ w'.cell? ⟨w.heap.size, 0, none⟩ = some (.slice a5 k5 cap5) ∧ w'.cell? ⟨b0, o0 + j, none⟩ = some (.int .u8 z))
                ((first | exact ⟨bX, HC.out _ bX⟩ | exact ⟨below_alloc bX _, HC.out _ (below_alloc bX _)⟩ | exact ⟨bY, HC.out _ bY⟩ | exact ⟨below_alloc bY _, HC.out _ (below_alloc bY _)⟩ | exact ⟨bY.setCell (Nat.le_refl _) _, HC.out _ (bY.setCell (Nat.le_refl _) _)⟩))
                (first
                  | (go_at_call 18; refine (lose_ok a5 k5 cap5 (z.tmod (k5 : Int)) MS _ HCY.out.len HCY.out.le HCY.out.leCap (HCY.out.at'.later (by first | exact bX | exact below_alloc bX _))).mono ?_; rintro e WA ⟨vA, rfl, hoA, hbA⟩; rw [HE.out.1]; rw [HE.out.2] at hoA; (rcases owns_shape hoA with ⟨aA, capA, rfl, _, _⟩); (generalize hLA : drop1 MS _ = LA at hoA ⊢); have HLA := Lib.hid hLA; clear hLA; have bY := below_trans (by first | exact bX | exact below_alloc bX _) hbA; (try (have hN : WA.heap[Y.heap.size]? = some (.cells #[.slice none 0 0] 24 (0, 0)) := blk_below (blk_new Y.drew _) hbA; have cN := blk_one hN; have fN := blk_frozen hN 0))))
              · have hh := Has.new (Has.below (W := Y.drew) HZ.out.1 hbA) (.cells #[.slice aA LA.length capA] 24)
                have hoB : OwnMs (w.heap.size + 1) (WA.alloc (.cells #[.slice aA LA.length capA] 24)) (.slice aA LA.length capA) LA := (hoA.base (by have h3 : Y.drew.heap.size = Y.heap.size := rfl; omega)).alloc _
                have bZ := below_alloc bY (.cells #[.slice aA LA.length capA] 24)
                generalize WA.alloc _ = Z at hh bZ hoB ⊢
                have wZ := below_trans HZ.out.2.1 bZ
                have hinc : Inc LA (j + 1) := by rw [← HLA.out]; exact HZ.out.2.2.2.1.del _
                have hml : LA.length ≤ j + 1 := by rw [← HLA.out]; exact Nat.le_trans (drop1_sub _ _).length_le HZ.out.2.2.2.2.1
                have c0 := blk_one hh.tl.hd
                have f0 := blk_frozen hh.tl.hd 0
                have c7 := blk_one hh.hd
                have hO : OSt w (Z.setCell ⟨w.heap.size, 0, none⟩ (.slice aA LA.length capA)) (j + 1) :=
                  ⟨_, LA, Has.cons (blk_set_same hh.tl.hd) (Has.nil _), wZ.setCell (Nat.le_refl _) _, hoB.set (a := ⟨w.heap.size, 0, none⟩) (by simp) _, hinc, hml⟩
                have HO := Lib.hid hO
                clear hO hml hinc wZ hh bZ hoB HLA HE HC HZ HCY hbA hoA bY bX hw1 hw2 hk0 hk1
                go_wp2_with fail
                go_meet
                exact HO.out
              · have h0 := Has.below (W := Y.drew.alloc (.cells #[.slice none 0 0] 24)) (Has.new (W := Y.drew) HZ.out.1 _) hbA
                have h3 : Y.drew.heap.size = Y.heap.size := rfl
                have hh : Has (WA.setCell ⟨Y.heap.size, 0, none⟩ (.slice aA LA.length capA)) [(Y.heap.size, .cells #[.slice aA LA.length capA] 24 (0, 0)), (w.heap.size, .cells #[.slice a5 k5 cap5] 24 (0, 0))] :=
                  Has.cons (blk_set_same h0.hd) (Has.cons (blk_set h0.tl.hd (by simp; omega) _) (Has.nil _))
                have hoB : OwnMs (w.heap.size + 1) (WA.setCell ⟨Y.heap.size, 0, none⟩ (.slice aA LA.length capA)) (.slice aA LA.length capA) LA :=
                  (hoA.set (a := ⟨Y.heap.size, 0, none⟩) (by show Y.heap.size < (Y.alloc _).heap.size; simp) _).base (by show w.heap.size + 1 ≤ (Y.alloc _).heap.size; simp; omega)
                have bZ : Below Y.heap.size Y (WA.setCell ⟨Y.heap.size, 0, none⟩ (.slice aA LA.length capA)) := bY.setCell (Nat.le_refl _) _
                clear h0 h3 cN fN hN
                generalize WA.setCell _ _ = Z at hh bZ hoB ⊢
                have wZ := below_trans HZ.out.2.1 bZ
                have hinc : Inc LA (j + 1) := by rw [← HLA.out]; exact HZ.out.2.2.2.1.del _
                have hml : LA.length ≤ j + 1 := by rw [← HLA.out]; exact Nat.le_trans (drop1_sub _ _).length_le HZ.out.2.2.2.2.1
                have c0 := blk_one hh.tl.hd
                have f0 := blk_frozen hh.tl.hd 0
                have c7 := blk_one hh.hd
                have hO : OSt w (Z.setCell ⟨w.heap.size, 0, none⟩ (.slice aA LA.length capA)) (j + 1) :=
                  ⟨_, LA, Has.cons (blk_set_same hh.tl.hd) (Has.nil _), wZ.setCell (Nat.le_refl _) _, hoB.set (a := ⟨w.heap.size, 0, none⟩) (by simp) _, hinc, hml⟩
                have HO := Lib.hid hO
                clear hO hml hinc wZ hh bZ hoB HLA HE HC HZ HCY hbA hoA bY bX hw1 hw2 hk0 hk1
                go_wp2_with fail
                go_meet
                exact HO.out
          case rest =>
            clear HZ e6 lt6 c6 hkp
            obtain ⟨v, NS, h1, bw, ho, hinc, hml⟩ := hcut
            obtain ⟨a6, k6, cap6, rfl, hk6, hc6, ho⟩ := Car.own' ho (by omega)
            have c0 := blk_one h1.hd
            have HO := Lib.hid (And.intro h1 (And.intro bw (And.intro ho (And.intro hinc (And.intro hml (And.intro hk6 hc6.at'))))))
            clear h1 bw ho hinc hml hk6 hc6
            go_wp2_with fail
            go_loopw [9] (fun i wr => ∃ l d : Nat, (1 ≤ l ∧ (l ≤ k6 ∨ l = 1)) ∧ i = .int .i64 l ∧ wr = wc.drewN d) (fun i _ => k6 - (intOf i).toNat)
            case atStart =>
              exact ⟨1, 0, ⟨Nat.le_refl _, .inr rfl⟩, rfl, rfl⟩
            case round =>
              obtain ⟨l, d, hl1, rfl, rfl⟩ := hrel
              by_cases hlk : l < k6
              · obtain ⟨p, rfl⟩ : ∃ p, l = p + 1 := ⟨l - 1, by omega⟩
                obtain ⟨b1, o1, rfl, _, hx⟩ := HO.out.2.2.2.2.2.2.at' p (by rw [HO.out.2.2.2.2.2.1]; omega)
                obtain ⟨b2, o2, hbo, _, hy⟩ := HO.out.2.2.2.2.2.2.at' (p + 1) (by rw [HO.out.2.2.2.2.2.1]; exact hlk)
                cases hbo
                have hid := HO.out.2.2.2.1.at' (j := p) (by rw [HO.out.2.2.2.2.2.1]; exact hlk)
                have hx1 := hx.2.1
                have hy1 := hy.2.1
                generalize (NS.getD p default).id = x1 at hx1 hid
                generalize (NS.getD (p + 1) default).id = y1 at hy1 hid
                have hnge : ¬ y1 ≤ x1 := by omega
                have hk6 : k6 ≤ 40 := by have h1 := HO.out.2.2.2.2.1; have h2 := HO.out.2.2.2.2.2.1; omega
                have hws : IntKind.i64.wrap ((p : Int) + 1 - 1) = (p : Int) := by rw [show (p : Int) + 1 - 1 = p by omega]; exact IntWalk.i64_in _ ⟨by omega, by omega⟩
                clear hx hy hid
                go_wp2_with fail
                go_quiet (fail)
                clear hx1 hy1 hws
                go_wp2
                go_roundw
                case rel => exact ⟨p + 1 + 1, d + nq, ⟨by omega, .inl (by omega)⟩, by go_num, rfl⟩
                case measure => simp [intOf]; omega
              · have hO : OSt w (wc.drewN d) (j + 1) := OSt.drewN ⟨_, NS, HO.out.1, HO.out.2.1, HO.out.2.2.1, HO.out.2.2.2.1, HO.out.2.2.2.2.1⟩ d
                have HP := Lib.hid hO
                clear hO HO
                go_wp2
                go_roundw
                case rel => exact ⟨j + 1, _, by omega, by omega, by go_num, rfl, HP.out⟩
                case measure => simp [intOf]; omega
    · have HY := Lib.hid ho
      clear ho
      have hor : n ≤ j ∨ 40 ≤ j := by omega
      by_cases hjn : j < n
      · go_wp2_with fail
        refine (lives_ok _).mono ?_
        rintro e W9 ⟨rfl, hb⟩
        obtain ⟨_, _, _, bw, _⟩ := HY.out
        have HZ := Lib.hid (below_trans bw hb)
        clear HY hb bw
        go_wp2
        go_ret
        exact ⟨rfl, HZ.out⟩
      · go_wp2_with fail
        refine (lives_ok _).mono ?_
        rintro e W9 ⟨rfl, hb⟩
        obtain ⟨_, _, _, bw, _⟩ := HY.out
        have HZ := Lib.hid (below_trans bw hb)
        clear HY hb bw
        go_wp2
        go_ret
        exact ⟨rfl, HZ.out⟩
end Go.Proofs.Ytkfoclibejpbdaa
