/- Chapter 06: the law that more never gives less: the walk. -/
import Derived.Test.YtnpcafhmkjdhaaaRs
import Derived.BigQuiet
import Derived.Lib.Hide
import Derived.Deep.RegionLaw
import Derived.Deep.DrawnRows
namespace Go.Proofs.Ytnpcafhmkjdhaaa
open Go Go.RowKit

/-- xs, the first t numbers greater by those of ds. -/
def addTo (xs ds : List Int) : Nat → List Int
  | 0 => xs
  | t + 1 => if t < ds.length then (addTo xs ds t).set t ((addTo xs ds t).getD t default + ds.getD t default) else addTo xs ds t
theorem addTo_len (xs ds : List Int) : ∀ t, (addTo xs ds t).length = xs.length
  | 0 => rfl
  | t + 1 => by
    simp only [addTo]
    split
    · rw [List.length_set]; exact addTo_len xs ds t
    · exact addTo_len xs ds t
theorem addTo_get (xs ds : List Int) {j : Nat} (hj : j < xs.length) : ∀ t, (addTo xs ds t).getD j default = if j < t ∧ j < ds.length then xs.getD j default + ds.getD j default else xs.getD j default
  | 0 => by simp [addTo]
  | t + 1 => by
    have ih := addTo_get xs ds hj t
    have hl := addTo_len xs ds t
    simp only [addTo]
    by_cases ht : t < ds.length
    · rw [if_pos ht]
      by_cases e : j = t
      · subst e
        rw [List.getD_eq_getElem?_getD, List.getElem?_set, if_pos rfl, if_pos (by omega)]
        rw [ih, if_neg (by omega), if_pos (by omega)]
        rfl
      · rw [List.getD_eq_getElem?_getD, List.getElem?_set, if_neg (by omega), ← List.getD_eq_getElem?_getD, ih]
        by_cases h1 : j < t ∧ j < ds.length
        · rw [if_pos h1, if_pos (by omega)]
        · rw [if_neg h1, if_neg (by omega)]
    · rw [if_neg ht, ih]
      by_cases h1 : j < t ∧ j < ds.length
      · rw [if_pos h1, if_pos (by omega)]
      · rw [if_neg h1, if_neg (by omega)]
theorem addTo_ge {xs ds : List Int} (hd : ∀ z ∈ ds, 0 ≤ z ∧ z ≤ 255) (t : Nat) {j : Nat} (hj : j < xs.length) : xs.getD j default ≤ (addTo xs ds t).getD j default ∧ (addTo xs ds t).getD j default ≤ xs.getD j default + 255 := by
  rw [addTo_get xs ds hj t]
  split
  · rename_i h
    have := hd _ (getD_in h.2)
    omega
  · omega
theorem addTo_in {xs ds : List Int} (hx : ∀ z ∈ xs, 0 ≤ z ∧ z ≤ 255) (hd : ∀ z ∈ ds, 0 ≤ z ∧ z ≤ 255) (t : Nat) : ∀ z ∈ addTo xs ds t, 0 ≤ z ∧ z ≤ 510 := by
  intro z hz
  obtain ⟨j, hj, rfl⟩ := List.getElem_of_mem hz
  have e : (addTo xs ds t).getD j default = (addTo xs ds t)[j] := by rw [List.getD_eq_getElem?_getD, List.getElem?_eq_getElem hj]; rfl
  rw [← e]
  rw [addTo_len] at hj
  have h1 := addTo_ge hd t hj
  have h2 := hx _ (getD_in hj)
  omega
/-- What the law asks for. -/
theorem rises_plain {x : Sml} (hx : x.ok) {ds : List Int} (hd : ∀ z ∈ ds, 0 ≤ z ∧ z ≤ 255) {m n : Nat} {s c : Int} (hs : 0 ≤ s ∧ s ≤ 255) (hc : 0 ≤ c ∧ c ≤ 255) {c' : Int} (hc' : c' = max 0 (x.carry - c)) :
    askedE c' x.ps (x.start + s) [addTo (x.A.take 30) ds m, addTo (x.B.take 30) ds n] x.N = 0 ∧ ∀ k, lev x.carry x.ps x.ins x.start k ≤ lev c' x.ps [addTo (x.A.take 30) ds m, addTo (x.B.take 30) ds n] (x.start + s) k := by
  have h1 := hx.carry
  have h2 := hx.start
  unfold u8 at h1 h2
  have hN := x.N_le
  have hA : ∀ z ∈ x.A.take 30, 0 ≤ z ∧ z ≤ 255 := fun z hz => hx.A z (List.mem_of_mem_take hz)
  have hB : ∀ z ∈ x.B.take 30, 0 ≤ z ∧ z ≤ 255 := fun z hz => hx.B z (List.mem_of_mem_take hz)
  constructor
  · refine asked_of (by omega) (by simp [Sml.ps]) Sml.ps_ok (by omega) (by omega) (by simp) fun l hl => ?_
    simp only [List.mem_cons, List.not_mem_nil, or_false] at hl
    rcases hl with rfl | rfl
    · exact ⟨by rw [addTo_len]; simp; omega, fun z hz => by have := addTo_in hA hd m z hz; omega⟩
    · exact ⟨by rw [addTo_len]; simp; omega, fun z hz => by have := addTo_in hB hd n z hz; omega⟩
  · refine lev_mono (by omega) (by omega) fun t => arr_mono (ins := x.ins) (ins' := [addTo (x.A.take 30) ds m, addTo (x.B.take 30) ds n]) Sml.ps_ok rfl ?_ t
    intro i hi
    match i, hi with
    | 0, _ => exact ⟨(addTo_len _ _ _).symm, fun j hj => (addTo_ge hd m hj).1⟩
    | 1, _ => exact ⟨(addTo_len _ _ _).symm, fun j hj => (addTo_ge hd n hj).1⟩

set_option maxRecDepth 100000 in
set_option maxHeartbeats 4000000 in
theorem rises_walk (x : SmA) (a : Option Addr) (n cap : Nat) (zs : List Int) (start carry : Int) (w : World) (hx : x.ok w)
    (hz : zs.length = n ∧ n ≤ cap ∧ cap ≤ maxLen ∧ (a = none → n = 0 ∧ cap = 0) ∧ RowsAt w.heap.size w a 1 (zs.map fun z => [.int .u8 z]) ∧ ∀ z ∈ zs, 0 ≤ z ∧ z ≤ 255) (hu : 0 ≤ start ∧ start ≤ 255) (hv : 0 ≤ carry ∧ carry ≤ 255) :
    Calls Try.prog 4 #[x.val, .slice a n cap, .int .u8 start, .int .u8 carry] w fun e W' => e = .returned (.bool true) ∧ Below w.heap.size w W' := by
  have hN := x.toSml.N_le
  have hs := hx.ok.start
  have hc := hx.ok.carry
  unfold u8 at hs hc
  have hE := Sml.asked hx.ok (carry := x.carry) (start := x.start) (n := x.N) ⟨by omega, by omega⟩ ⟨by omega, by omega⟩ ⟨by omega, by omega⟩
  have hd : ∀ z ∈ zs.take 30, 0 ≤ z ∧ z ≤ 255 := fun z hm => hz.2.2.2.2.2 z (List.mem_of_mem_take hm)
  have hpl := fun m n => rises_plain hx.ok hd (m := m) (n := n) hu hv (c' := max 0 (x.carry - carry)) rfl
  have HE := Lib.hid (And.intro hE (And.intro hpl hd))
  have hw1 : IntKind.i64.wrap x.start = x.start := IntWalk.i64_in _ (by omega)
  have hw2 : IntKind.i64.wrap start = start := IntWalk.i64_in _ (by omega)
  have hw3 : IntKind.i64.wrap carry = carry := IntWalk.i64_in _ (by omega)
  have hw4 : IntKind.i64.wrap (x.start + start) = x.start + start := IntWalk.i64_in _ (by omega)
  have hw5 : IntKind.i64.wrap (x.carry - carry) = x.carry - carry := IntWalk.i64_in _ (by omega)
  have hw6 : IntKind.i64.wrap ((x.N : Int) + 1) = (x.N : Int) + 1 := IntWalk.i64_in _ (by omega)
  have hmx : (if carry < x.carry then x.carry - carry else 0) = max 0 (x.carry - carry) := by split <;> omega
  generalize max 0 (x.carry - carry) = c' at hmx HE
  have HX := Lib.hid hx
  have HZ := Lib.hid hz
  have hnl : n ≤ 9223372036854775807 := by have := hz.2.1; have := hz.2.2.1; unfold maxLen at this; omega
  clear hx hz hE hpl hd hs hc hu hv
  go_enter Try.func4, Try.ntmps4
  go_wp2_with fail
  obtain ⟨A0, hA0⟩ : ∃ W' : World, (w.alloc (.cells x.cells.toArray 25)) = W' := ⟨_, rfl⟩
  have h0 : Has A0 [(w.heap.size, .cells x.cells.toArray 25 (0, 0))] := by rw [← hA0]; simpa using ((Has.nil w).new _)
  have z0 : A0.heap.size = w.heap.size + 1 := by rw [← hA0]; simp
  have b0 : Below w.heap.size w A0 := by rw [← hA0]; exact (below_alloc (below_self w) _)
  rw [hA0]
  clear hA0
  refine (made_ok x A0 (HX.out.later b0)).mono ?_
  rintro e W1 ⟨p, g0, g1, q1, q2, gi, rfl, hM⟩
  obtain ⟨a0, n0, k0⟩ := g0
  obtain ⟨a1, n1, k1⟩ := g1
  have HM := Lib.hid (And.intro hM (And.intro b0 (And.intro z0 h0.hd)))
  have hn0 : n0 = (x.A.take 30).length := hM.n0
  have hn1 : n1 = (x.B.take 30).length := hM.n1
  have hn0' : n0 ≤ 30 := by rw [hn0]; simp; omega
  have hn1' : n1 ≤ 30 := by rw [hn1]; simp; omega
  have HN := Lib.hid (And.intro hn0.symm hn1.symm)
  clear h0 z0 b0 hM hn0 hn1
  go_upto_region 2 with fail
  generalize hZ : (W1.alloc _) = Z
  have R0 := Lib.hid (HM.out.1.rs HM.out.2.1 HM.out.2.2.1 HM.out.2.2.2 x.carry hZ)
  generalize W1.heap.size = B at R0 ⊢
  have y0 := blk_cell R0.out.sm 1
  have y1 := blk_cell R0.out.box 0
  have y2 := blk_cell R0.out.box 1
  have yl : B < Z.heap.size := blk_lt R0.out.box
  simp at y0 y1 y2
  clear hZ HM
  go_wp2_with fail
  refine (course_ok x.carry p.1 2 p.2.2 x.ps x.start (some ⟨gi, 0, none⟩) 2 2 [(a0, n0, k0), (a1, n1, k1)] x.ins x.N _ rfl (by omega) R0.out.pr rfl (by omega) (R0.out.ins HN.out.1 HN.out.2 hn0' hn1')).mono ?_
  rintro e X ⟨v, rfl, ho, hb1⟩
  rw [HE.out.1]
  rw [courseV_eq HE.out.1] at ho
  obtain ⟨ac, cc, rfl, hr⟩ := ho.rows
  have hll := levs_len x.carry x.ps x.ins x.start x.N
  generalize (levs x.carry x.ps x.ins x.start x.N).length = n8 at hll ho ⊢
  have hlo := own_lo (q := (ac, n8, cc)) ho
  have R1 := Lib.hid ((R0.out.later hb1).low (l' := (ac, n8, cc)) (fun ad hd => by have := hlo ad hd; omega) hr)
  have HL := Lib.hid hll
  clear y0 y1 y2 yl hb1 hr ho R0 hlo hll
  go_wp2_with fail
  refine (numbers_ok a n cap zs X HZ.out.1 hnl HZ.out.2.2.2.2.2 (HZ.out.2.2.2.2.1.later R1.out.bel)).mono ?_
  rintro e X1 ⟨v, rfl, ho, hb2⟩
  obtain ⟨ad, kd, rfl, hr⟩ := ho.rows
  generalize hDL : (zs.take 30).length = DL at ho ⊢
  have HDL := Lib.hid hDL
  clear hDL
  have hlo := own_lo (q := (ad, DL, kd)) ho
  have hBX : B < X.heap.size := blk_lt R1.out.box
  have R2 := Lib.hid ((R1.out.later hb2).more (d' := (ad, DL, kd)) (fun ad hd => by have := hlo ad hd; omega) hr)
  clear hb2 hr ho R1 hlo hBX
  go_wp2_with fail
  go_loopw [40] (fun i wr => ∃ (k : Nat) (Y : World) (m0 m1 : Nat), k ≤ 2 ∧ (k < 1 → m0 = 0) ∧ (k < 2 → m1 = 0) ∧ i = .int .i64 k ∧ Y = wr ∧ Hid (RS w Y x x.carry p (a0, n0, k0) (a1, n1, k1) (ad, DL, kd) (ac, n8, cc) q1 q2 gi B x.ps (addTo (x.A.take 30) (zs.take 30) m0) (addTo (x.B.take 30) (zs.take 30) m1) (zs.take 30) (levs x.carry x.ps x.ins x.start x.N))) (fun i _ => 2 - (intOf i).toNat)
  case atStart => exact ⟨0, _, 0, 0, by omega, fun _ => rfl, fun _ => rfl, rfl, rfl, R2⟩
  case round =>
    obtain ⟨k, X2, m0, m1, hk, hm0, hm1, rfl, rfl, HR⟩ := hrel
    by_cases hlt : k < 2
    · rcases (show k = 0 ∨ k = 1 by omega) with rfl | rfl
      · clear hk hlt
        obtain rfl : m0 = 0 := hm0 (by omega)
        have g0 : X2.cell? ⟨gi, 0, none⟩ = some (.slice a0 n0 k0) := (blk_cell HR.out.gb 0).trans rfl
        have ez : ((0 : Nat) : Int) = 0 := rfl
        rw [ez]
        have hm2 := Lib.hid (hm1 (by omega))
        clear ez hm0 hm1
        go_wp2_with fail
        clear g0
        go_loopw [48] (fun tv wr => ∃ (t : Nat) (Y : World), t ≤ n0 ∧ tv = .int .i64 t ∧ Y = wr ∧ Hid (RS w Y x x.carry p (a0, n0, k0) (a1, n1, k1) (ad, DL, kd) (ac, n8, cc) q1 q2 gi B x.ps (addTo (x.A.take 30) (zs.take 30) t) (addTo (x.B.take 30) (zs.take 30) m1) (zs.take 30) (levs x.carry x.ps x.ins x.start x.N))) (fun tv _ => n0 - (intOf tv).toNat)
        case atStart => exact ⟨0, _, Nat.zero_le _, rfl, rfl, HR⟩
        case round =>
          obtain ⟨t, Y, ht, rfl, rfl, HY⟩ := hrel
          by_cases htn : t < n0
          · have htI : (t : Int) < (n0 : Int) := by omega
            have hAl : (addTo (x.A.take 30) (zs.take 30) t).length = n0 := by rw [addTo_len]; exact HN.out.1
            have htN : t ≤ 30 := by omega
            by_cases htd : t < DL
            · have htdI : (t : Int) < (DL : Int) := by omega
              obtain ⟨b, o, rfl, _, hc1⟩ := ints_at HY.out.r0 t (by rw [hAl]; exact htn)
              obtain ⟨bd, od, rfl, _, hc2⟩ := ints_at HY.out.rd t (by rw [HDL.out]; exact htd)
              have hf := HY.out.z0.get rfl (o + t)
              have g0 : Y.cell? ⟨gi, 0, none⟩ = some (.slice (some ⟨b, o, none⟩) n0 k0) := (blk_cell HY.out.gb 0).trans rfl
              have hsm := addTo_in (fun z hm => HX.out.ok.A z (List.mem_of_mem_take hm)) HE.out.2.2 t _ (getD_in (show t < (addTo (x.A.take 30) (zs.take 30) t).length by rw [hAl]; exact htn))
              have hd5 := HE.out.2.2 _ (getD_in (show t < (zs.take 30).length by rw [HDL.out]; exact htd))
              have hstep : addTo (x.A.take 30) (zs.take 30) (t + 1) = (addTo (x.A.take 30) (zs.take 30) t).set t ((addTo (x.A.take 30) (zs.take 30) t).getD t default + (zs.take 30).getD t default) := by
                show (if t < (zs.take 30).length then _ else _) = _
                rw [if_pos (by rw [HDL.out]; exact htd)]
              have HS := Lib.hid (And.intro hstep hAl)
              generalize (addTo (x.A.take 30) (zs.take 30) t).getD t default = u at hc1 hsm HS
              generalize (zs.take 30).getD t default = v at hc2 hd5 HS
              have hw7 : IntKind.i64.wrap (u + v) = u + v := IntWalk.i64_in _ (by omega)
              clear hsm hd5 hstep hAl htd
              go_wp2_with fail
              go_region_law (fail)
              all_goals
                have HU := Lib.hid ((HY.out.later (below_self Y).drew).set0 (b := b) (off := o) (t := t) rfl (by rw [HS.out.2]; exact htn) (u + v))
                rw [← HS.out.1] at HU
                clear HY HS g0 hf hc1 hc2
                go_wp2_with fail
                go_roundw
                case rel => exact ⟨t + 1, _, by omega, by go_num, rfl, HU⟩
                case measure => simp [intOf]; omega
            · have htdI : ¬ (t : Int) < (DL : Int) := by omega
              have hstep : addTo (x.A.take 30) (zs.take 30) (t + 1) = addTo (x.A.take 30) (zs.take 30) t := by
                show (if t < (zs.take 30).length then _ else _) = _
                rw [if_neg (by rw [HDL.out]; exact htd)]
              rw [← hstep] at HY
              clear hstep hAl htd
              go_wp2_with fail
              go_roundw
              case rel => exact ⟨t + 1, _, by omega, by go_num, rfl, HY⟩
              case measure => simp [intOf]; omega
          · have htI : ¬ (t : Int) < (n0 : Int) := by omega
            go_wp2_with fail
            go_roundw
            case rel => exact ⟨1, _, t, m1, by omega, by intro h; omega, fun _ => hm2.out, by go_num, rfl, HY⟩
            case measure => simp [intOf]
      · clear hk hlt
        obtain rfl : m1 = 0 := hm1 (by omega)
        have g0 : X2.cell? ⟨gi, 1, none⟩ = some (.slice a1 n1 k1) := (blk_cell HR.out.gb 1).trans rfl
        have ez : ((1 : Nat) : Int) = 1 := rfl
        rw [ez]
        clear ez hm0 hm1
        go_wp2_with fail
        clear g0
        go_loopw [48] (fun tv wr => ∃ (t : Nat) (Y : World), t ≤ n1 ∧ tv = .int .i64 t ∧ Y = wr ∧ Hid (RS w Y x x.carry p (a0, n0, k0) (a1, n1, k1) (ad, DL, kd) (ac, n8, cc) q1 q2 gi B x.ps (addTo (x.A.take 30) (zs.take 30) m0) (addTo (x.B.take 30) (zs.take 30) t) (zs.take 30) (levs x.carry x.ps x.ins x.start x.N))) (fun tv _ => n1 - (intOf tv).toNat)
        case atStart => exact ⟨0, _, Nat.zero_le _, rfl, rfl, HR⟩
        case round =>
          obtain ⟨t, Y, ht, rfl, rfl, HY⟩ := hrel
          by_cases htn : t < n1
          · have htI : (t : Int) < (n1 : Int) := by omega
            have hAl : (addTo (x.B.take 30) (zs.take 30) t).length = n1 := by rw [addTo_len]; exact HN.out.2
            have htN : t ≤ 30 := by omega
            by_cases htd : t < DL
            · have htdI : (t : Int) < (DL : Int) := by omega
              obtain ⟨b, o, rfl, _, hc1⟩ := ints_at HY.out.r1 t (by rw [hAl]; exact htn)
              obtain ⟨bd, od, rfl, _, hc2⟩ := ints_at HY.out.rd t (by rw [HDL.out]; exact htd)
              have hf := HY.out.z1.get rfl (o + t)
              have g0 : Y.cell? ⟨gi, 1, none⟩ = some (.slice (some ⟨b, o, none⟩) n1 k1) := (blk_cell HY.out.gb 1).trans rfl
              have hsm := addTo_in (fun z hm => HX.out.ok.B z (List.mem_of_mem_take hm)) HE.out.2.2 t _ (getD_in (show t < (addTo (x.B.take 30) (zs.take 30) t).length by rw [hAl]; exact htn))
              have hd5 := HE.out.2.2 _ (getD_in (show t < (zs.take 30).length by rw [HDL.out]; exact htd))
              have hstep : addTo (x.B.take 30) (zs.take 30) (t + 1) = (addTo (x.B.take 30) (zs.take 30) t).set t ((addTo (x.B.take 30) (zs.take 30) t).getD t default + (zs.take 30).getD t default) := by
                show (if t < (zs.take 30).length then _ else _) = _
                rw [if_pos (by rw [HDL.out]; exact htd)]
              have HS := Lib.hid (And.intro hstep hAl)
              generalize (addTo (x.B.take 30) (zs.take 30) t).getD t default = u at hc1 hsm HS
              generalize (zs.take 30).getD t default = v at hc2 hd5 HS
              have hw7 : IntKind.i64.wrap (u + v) = u + v := IntWalk.i64_in _ (by omega)
              clear hsm hd5 hstep hAl htd
              go_wp2_with fail
              go_region_law (fail)
              all_goals
                have HU := Lib.hid ((HY.out.later (below_self Y).drew).set1 (b := b) (off := o) (t := t) rfl (by rw [HS.out.2]; exact htn) (u + v))
                rw [← HS.out.1] at HU
                clear HY HS g0 hf hc1 hc2
                go_wp2_with fail
                go_roundw
                case rel => exact ⟨t + 1, _, by omega, by go_num, rfl, HU⟩
                case measure => simp [intOf]; omega
            · have htdI : ¬ (t : Int) < (DL : Int) := by omega
              have hstep : addTo (x.B.take 30) (zs.take 30) (t + 1) = addTo (x.B.take 30) (zs.take 30) t := by
                show (if t < (zs.take 30).length then _ else _) = _
                rw [if_neg (by rw [HDL.out]; exact htd)]
              rw [← hstep] at HY
              clear hstep hAl htd
              go_wp2_with fail
              go_roundw
              case rel => exact ⟨t + 1, _, by omega, by go_num, rfl, HY⟩
              case measure => simp [intOf]; omega
          · have htI : ¬ (t : Int) < (n1 : Int) := by omega
            go_wp2_with fail
            go_roundw
            case rel => exact ⟨2, _, m0, t, by omega, by intro h; omega, by intro h; omega, by go_num, rfl, HY⟩
            case measure => simp [intOf]
    · have hltI : ¬ (k : Int) < 2 := by omega
      clear hm0 hm1 hlt
      have y1 := blk_cell HR.out.box 0
      have y2 := blk_cell HR.out.box 1
      have yf := blk_frozen HR.out.box 0
      have yl : B < X2.heap.size := blk_lt HR.out.box
      simp at y1 y2
      go_upto_region 15 with fail
      have R3 := Lib.hid (HR.out.carry c')
      clear y1 y2 yf yl HR hmx hw5 hw3
      generalize X2.setCell _ _ = X3 at R3 ⊢
      have hp := HE.out.2.1 m0 m1
      have HP := Lib.hid hp.2
      have hE2 := hp.1
      have HE2 := Lib.hid hE2
      have y0 := blk_cell R3.out.sm 1
      have y1 := blk_cell R3.out.box 0
      have y2 := blk_cell R3.out.box 1
      have yl : B < X3.heap.size := blk_lt R3.out.box
      simp at y0 y1 y2
      clear hp hE2
      go_wp2_with fail
      refine (course_ok c' p.1 2 p.2.2 x.ps (x.start + start) (some ⟨gi, 0, none⟩) 2 2 [(a0, n0, k0), (a1, n1, k1)] [addTo (x.A.take 30) (zs.take 30) m0, addTo (x.B.take 30) (zs.take 30) m1] x.N _ rfl (by omega) R3.out.pr rfl (by omega) (R3.out.ins (by rw [addTo_len]; exact HN.out.1) (by rw [addTo_len]; exact HN.out.2) hn0' hn1')).mono ?_
      rintro e X4 ⟨v, rfl, ho, hb4⟩
      rw [HE2.out]
      rw [courseV_eq HE2.out] at ho
      obtain ⟨ah, ch, rfl, hr⟩ := ho.rows
      have hll := levs_len c' x.ps [addTo (x.A.take 30) (zs.take 30) m0, addTo (x.B.take 30) (zs.take 30) m1] (x.start + start) x.N
      have hl8 := HL.out
      have R4 := Lib.hid (R3.out.later hb4)
      have hc : Hid (∀ t, t < n8 → ∃ u v bl ol bh oh, ac = some ⟨bl, ol, none⟩ ∧ ah = some ⟨bh, oh, none⟩ ∧ X4.cell? ⟨bl, ol + t, none⟩ = some (.int .i64 u) ∧ X4.cell? ⟨bh, oh + t, none⟩ = some (.int .i64 v) ∧ ¬ v < u ∧ bl < X4.heap.size ∧ bh < X4.heap.size) := Lib.hid fun t ht => by
        obtain ⟨bl, ol, e1, hbl, hc1⟩ := ints_at R4.out.rl t (by rw [levs_len]; omega)
        obtain ⟨bh, oh, e2, hbh, hc2⟩ := ints_at hr t (by rw [levs_len]; omega)
        rw [levs_get (by omega)] at hc1 hc2
        exact ⟨_, _, bl, ol, bh, oh, e1, e2, hc1, hc2, by have := HP.out t; omega, hbl, hbh⟩
      generalize (levs c' x.ps [addTo (x.A.take 30) (zs.take 30) m0, addTo (x.B.take 30) (zs.take 30) m1] (x.start + start) x.N).length = n9 at hll ⊢
      have h8 : (n8 : Int) = (x.N : Int) + 1 := by omega
      have h9 : (n9 : Int) = (x.N : Int) + 1 := by omega
      have HB := Lib.hid R4.out.bel
      clear y0 y1 y2 yl hb4 hr ho R3 R4 hll hl8 HP HE2
      go_wp2_with fail
      go_loopw [112] (fun i wr => ∃ (t : Nat) (Y : World), t ≤ n8 ∧ i = .int .i64 t ∧ Y = wr ∧ Hid (Below X4.heap.size X4 Y)) (fun i _ => n8 - (intOf i).toNat)
      case atStart => exact ⟨0, _, Nat.zero_le _, rfl, rfl, Lib.hid (below_self X4)⟩
      case round =>
        obtain ⟨t, Y, ht, rfl, rfl, HY⟩ := hrel
        by_cases htn : t < n8
        · have ht8 : (t : Int) < (n8 : Int) := by omega
          have ht9 : (t : Int) < (n9 : Int) := by omega
          have htx : (t : Int) < (x.N : Int) + 1 := by omega
          obtain ⟨u, v, bl, ol, bh, oh, rfl, rfl, hc1, hc2, hle, l1, l2⟩ := hc.out t htn
          have d1 := cell_call HY.out (a := ⟨bl, ol + t, none⟩) l1 hc1
          have d2 := cell_call HY.out (a := ⟨bh, oh + t, none⟩) l2 hc2
          clear hc1 hc2 l1 l2
          go_wp2_with fail
          go_quiet (fail)
          clear d1 d2
          have HU := Lib.hid (below_trans HY.out (below_drewN (below_self Y) nq))
          generalize Y.drewN nq = Y2 at HU ⊢
          clear HY
          go_wp2_with fail
          go_roundw
          case rel => exact ⟨t + 1, _, by omega, by go_num, rfl, HU⟩
          case measure => simp [intOf]; omega
        · have ht8 : ¬ (t : Int) < (n8 : Int) := by omega
          have htx : ¬ (t : Int) < (x.N : Int) + 1 := by omega
          have B9 := Lib.hid (below_trans HB.out HY.out)
          clear HY HB hc
          go_wp2_with fail
          refine (works_ok _).mono ?_
          rintro e X9 ⟨rfl, hb9⟩
          have B10 := Lib.hid (below_trans B9.out hb9)
          clear hb9 B9
          go_wp2_with fail
          go_ret
          exact ⟨rfl, B10.out⟩
end Go.Proofs.Ytnpcafhmkjdhaaa
