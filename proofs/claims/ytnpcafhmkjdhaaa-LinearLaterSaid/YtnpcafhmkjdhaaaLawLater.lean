/- Chapter 06: the law that greater delays come later: the walk. -/
import Derived.Test.YtnpcafhmkjdhaaaRs
import Derived.BigQuiet
import Derived.Lib.Hide
import Derived.Deep.RegionLaw
import Derived.Deep.DrawnRows
namespace Go.Proofs.Ytnpcafhmkjdhaaa
open Go Go.RowKit

/-- The parts, the delays of the first m greater by d. -/
def slow (ps : List Prt) (d : Int) (m : Nat) : List Prt := delayed d (ps.take m) ++ ps.drop m
theorem slow_all (x : Sml) (d : Int) : slow x.ps d 2 = delayed d x.ps := by
  simp [slow, Sml.ps, delayed]
theorem prts_set {n : Nat} {W : World} {b off : Nat} {P0 P1 : Prt} {k : Nat} {u : Int} (hk : k < 2) (h : RowsAt n W (some ⟨b, off, none⟩) 3 (Prts [P0, P1])) :
    RowsAt n (W.setCell ⟨b, off + k * 3 + 2, none⟩ (.int .i64 u)) (some ⟨b, off, none⟩) 3 (Prts (if k = 0 then [⟨P0.src, P0.times, u⟩, P1] else [P0, ⟨P1.src, P1.times, u⟩])) := by
  obtain ⟨b0, o0, e0, hb0, hc0⟩ := h 0 P0.cells rfl
  obtain ⟨b1, o1, e1, hb1, hc1⟩ := h 1 P1.cells rfl
  injection e0 with e0
  injection e0 with e01 e02
  injection e1 with e1
  injection e1 with e11 e12
  subst e01 e02 e11 e12
  have c00 := hc0 0 _ rfl
  have c01 := hc0 1 _ rfl
  have c02 := hc0 2 _ rfl
  have c10 := hc1 0 _ rfl
  have c11 := hc1 1 _ rfl
  have c12 := hc1 2 _ rfl
  simp only [Nat.zero_mul, Nat.one_mul, Nat.add_zero] at c00 c01 c02 c10 c11 c12
  rcases (show k = 0 ∨ k = 1 by omega) with rfl | rfl
  · rw [if_pos rfl]
    simp only [Nat.zero_mul, Nat.add_zero]
    intro i r hr
    refine ⟨_, _, rfl, hb0, ?_⟩
    match i, hr with
    | 0, hr =>
      have : r = Prt.cells ⟨P0.src, P0.times, u⟩ := by simpa using hr.symm
      subst this
      intro j v hv
      simp only [Nat.zero_mul, Nat.add_zero]
      match j, hv with
      | 0, hv => rw [World.cell?_setCell_other (h := addr_ne (by omega))]; exact c00.trans hv
      | 1, hv => rw [World.cell?_setCell_other (h := addr_ne (by omega))]; exact c01.trans hv
      | 2, hv => rw [World.cell?_setCell_same (h := c02)]; exact hv
    | 1, hr =>
      have : r = P1.cells := by simpa using hr.symm
      subst this
      intro j v hv
      simp only [Nat.one_mul]
      match j, hv with
      | 0, hv => rw [World.cell?_setCell_other (h := addr_ne (by omega))]; exact c10.trans hv
      | 1, hv => rw [World.cell?_setCell_other (h := addr_ne (by omega))]; exact c11.trans hv
      | 2, hv => rw [World.cell?_setCell_other (h := addr_ne (by omega))]; exact c12.trans hv
  · rw [if_neg (by omega)]
    simp only [Nat.one_mul]
    intro i r hr
    refine ⟨_, _, rfl, hb0, ?_⟩
    match i, hr with
    | 0, hr =>
      have : r = P0.cells := by simpa using hr.symm
      subst this
      intro j v hv
      simp only [Nat.zero_mul, Nat.add_zero]
      match j, hv with
      | 0, hv => rw [World.cell?_setCell_other (h := addr_ne (by omega))]; exact c00.trans hv
      | 1, hv => rw [World.cell?_setCell_other (h := addr_ne (by omega))]; exact c01.trans hv
      | 2, hv => rw [World.cell?_setCell_other (h := addr_ne (by omega))]; exact c02.trans hv
    | 1, hr =>
      have : r = Prt.cells ⟨P1.src, P1.times, u⟩ := by simpa using hr.symm
      subst this
      intro j v hv
      simp only [Nat.one_mul]
      match j, hv with
      | 0, hv => rw [World.cell?_setCell_other (h := addr_ne (by omega))]; exact c10.trans hv
      | 1, hv => rw [World.cell?_setCell_other (h := addr_ne (by omega))]; exact c11.trans hv
      | 2, hv => rw [World.cell?_setCell_same (h := c12)]; exact hv
theorem RS.setp {w W : World} {x : SmA} {c : Int} {p h0 h1 d l : Hd} {s1 s2 gi B : Nat} {P0 P1 : Prt} {xs ys ds ls : List Int} (h : RS w W x c p h0 h1 d l s1 s2 gi B [P0, P1] xs ys ds ls) {b off k : Nat} (ha : p.1 = some ⟨b, off, none⟩) (hk : k < 2) (u : Int) :
    RS w (W.setCell ⟨b, off + k * 3 + 2, none⟩ (.int .i64 u)) x c p h0 h1 d l s1 s2 gi B (if k = 0 then [⟨P0.src, P0.times, u⟩, P1] else [P0, ⟨P1.src, P1.times, u⟩]) xs ys ds ls := by
  have ho := h.sep.o
  obtain ⟨a1, a2⟩ := h.sep.p _ ha
  simp only at a1 a2
  refine ⟨h.sep, h.bel.setCell (by show w.heap.size ≤ b; omega) _, blk_set h.sm (by show w.heap.size ≠ b; omega) _, blk_set h.box (by show B ≠ b; omega) _, ?_, blk_set h.gb (by show gi ≠ b; omega) _, ?_, ?_, ?_, ?_, h.zp.set _ _ _, h.z0.set _ _ _, h.z1.set _ _ _⟩
  · have := h.pr
    rw [ha] at this ⊢
    exact rows_size (prts_set hk this)
  · exact rows_size (rows_far h.r0 fun ad hd => by have := h.sep.a ad hd; show b ≠ ad.block; omega)
  · exact rows_size (rows_far h.r1 fun ad hd => by have := h.sep.b ad hd; show b ≠ ad.block; omega)
  · exact rows_size (rows_far h.rd fun ad hd => by have := h.sep.d ad hd; show b ≠ ad.block; omega)
  · exact rows_size (rows_far h.rl fun ad hd => by have := h.sep.l ad hd; show b ≠ ad.block; omega)

/-- What the law asks for. -/
theorem later_plain {x : Sml} (hx : x.ok) {d : Nat} (hd : d ≤ 15) : askedE x.carry (delayed d x.ps) 0 x.ins ((x.N : Int) + d) = 0 ∧ (∀ k, k ≤ d → lev x.carry (delayed d x.ps) x.ins 0 k = 0) ∧ ∀ k, lev x.carry (delayed d x.ps) x.ins 0 (d + k) = lev x.carry x.ps x.ins 0 k := by
  have h1 := hx.carry
  unfold u8 at h1
  have hN := x.N_le
  refine ⟨asked_of (by omega) (by simp [Sml.ps, delayed]) ?_ (by omega) (by omega) (by simp [Sml.ins]) (fun l hl => ?_), lev_before Sml.ps_ok (by omega) d, lev_later Sml.ps_ok (by omega) d⟩
  · intro p hp
    obtain ⟨q, hq, rfl⟩ := List.mem_map.1 hp
    have h2 := okP_iff'.1 (Sml.ps_ok q hq)
    have h3 : q.delay ≤ 8 := by
      unfold Sml.ps at hq
      simp only [List.mem_cons, List.not_mem_nil, or_false] at hq
      rcases hq with rfl | rfl <;> simp only <;> omega
    rw [okP_iff']
    simp only
    omega
  · obtain ⟨a, b⟩ := Sml.ins_ok hx l hl
    exact ⟨by omega, fun z hz => by have := b z hz; omega⟩

set_option maxRecDepth 100000 in
set_option maxHeartbeats 4000000 in
theorem later_walk (x : SmA) (dd : Int) (w : World) (hx : x.ok w) (hu : 0 ≤ dd ∧ dd ≤ 255) :
    Calls Try.prog 5 #[x.val, .int .u8 dd] w fun e W' => e = .returned (.bool true) ∧ Below w.heap.size w W' := by
  have hN := x.toSml.N_le
  have hc := hx.ok.carry
  unfold u8 at hc
  obtain ⟨D, hD, hD15⟩ : ∃ D : Nat, dd % 16 = D ∧ D ≤ 15 := ⟨(dd % 16).toNat, by omega, by omega⟩
  have hE := Sml.asked hx.ok (carry := x.carry) (start := 0) (n := x.N) ⟨by omega, by omega⟩ ⟨by omega, by omega⟩ ⟨by omega, by omega⟩
  have HE := Lib.hid (And.intro hE (later_plain hx.ok hD15))
  have hw1 : IntKind.i64.wrap dd = dd := IntWalk.i64_in _ (by omega)
  have hw2 : dd.tmod 16 = (D : Int) := by rw [Int.tmod_eq_emod_of_nonneg hu.1]; exact hD
  have hw3 : IntKind.i64.wrap ((x.N : Int) + D) = (x.N : Int) + D := IntWalk.i64_in _ (by omega)
  have hw4 : IntKind.i64.wrap ((x.N : Int) + D + 1) = (x.N : Int) + D + 1 := IntWalk.i64_in _ (by omega)
  have hw5 : IntKind.i64.wrap ((x.N : Int) + 1) = (x.N : Int) + 1 := IntWalk.i64_in _ (by omega)
  have HX := Lib.hid hx
  clear hx hE hc hu hD
  go_enter Try.func5, Try.ntmps5
  go_wp2_with fail
  obtain ⟨A0, hA0⟩ : ∃ W' : World, (w.alloc (.cells x.cells.toArray 25)) = W' := ⟨_, rfl⟩
  have h0 : Has A0 [(w.heap.size, .cells x.cells.toArray 25 (0, 0))] := by rw [← hA0]; simpa using ((Has.nil w).new _)
  have z0 : A0.heap.size = w.heap.size + 1 := by rw [← hA0]; simp
  have b0 : Below w.heap.size w A0 := by rw [← hA0]; exact (below_alloc (below_self w) _)
  rw [hA0]
  clear hA0
  refine (made_ok x A0 (HX.out.later b0)).mono ?_
  rintro e W1 ⟨p, g0, g1, q1, q2, gi, rfl, hM⟩
  obtain ⟨ap, np, kp⟩ := p
  have HM := Lib.hid (And.intro hM (And.intro b0 (And.intro z0 h0.hd)))
  have hn0 : g0.2.1 = (x.A.take 30).length := hM.n0
  have hn1 : g1.2.1 = (x.B.take 30).length := hM.n1
  have hn0' : g0.2.1 ≤ 30 := by rw [hn0]; simp; omega
  have hn1' : g1.2.1 ≤ 30 := by rw [hn1]; simp; omega
  have HN := Lib.hid (And.intro hn0.symm (And.intro hn1.symm (And.intro hn0' hn1')))
  clear h0 z0 b0 hM hn0 hn1 hn0' hn1'
  go_upto_region 3 with fail
  generalize hZ : (W1.alloc _) = Z
  have R0 := Lib.hid (HM.out.1.rs HM.out.2.1 HM.out.2.2.1 HM.out.2.2.2 x.carry hZ)
  generalize W1.heap.size = B at R0 ⊢
  have y1 := blk_cell R0.out.box 0
  have y2 := blk_cell R0.out.box 1
  have yl : B < Z.heap.size := blk_lt R0.out.box
  simp at y1 y2
  clear hZ HM
  go_wp2_with fail
  refine (course_ok x.carry ap 2 kp x.ps 0 (some ⟨gi, 0, none⟩) 2 2 [g0, g1] x.ins x.N _ rfl (by omega) R0.out.pr rfl (by omega) (R0.out.ins HN.out.1 HN.out.2.1 HN.out.2.2.1 HN.out.2.2.2)).mono ?_
  rintro e X ⟨v, rfl, ho, hb1⟩
  rw [HE.out.1]
  rw [courseV_eq HE.out.1] at ho
  obtain ⟨ac, cc, rfl, hr⟩ := ho.rows
  have hll := levs_len x.carry x.ps x.ins 0 x.N
  generalize (levs x.carry x.ps x.ins 0 x.N).length = n8 at hll ho ⊢
  have hlo := own_lo (q := (ac, n8, cc)) ho
  have R1 := Lib.hid ((R0.out.later hb1).low (l' := (ac, n8, cc)) (fun ad hd => by have := hlo ad hd; omega) hr)
  have HL := Lib.hid hll
  clear y1 y2 yl hb1 hr ho R0 hlo hll
  have y1 := blk_cell R1.out.box 0
  have y2 := blk_cell R1.out.box 1
  simp at y1 y2
  go_wp2_with fail
  clear y1 y2
  go_loopw [34] (fun i wr => ∃ (k : Nat) (Y : World), k ≤ 2 ∧ i = .int .i64 k ∧ Y = wr ∧ Hid (RS w Y x x.carry (ap, np, kp) g0 g1 (none, 0, 0) (ac, n8, cc) q1 q2 gi B (slow x.ps D k) (x.A.take 30) (x.B.take 30) [] (levs x.carry x.ps x.ins 0 x.N))) (fun i _ => 2 - (intOf i).toNat)
  case atStart => exact ⟨0, _, by omega, rfl, rfl, R1⟩
  case round =>
    obtain ⟨k, Y, hk, rfl, rfl, HR⟩ := hrel
    by_cases hlt : k < 2
    · have hltI : (k : Int) < 2 := by omega
      have y1 := blk_cell HR.out.box 1
      simp at y1
      obtain ⟨P0, P1, hsl, hdl, hnx⟩ : ∃ P0 P1 : Prt, slow x.ps D k = [P0, P1] ∧ (0 ≤ (if k = 0 then P0 else P1).delay ∧ (if k = 0 then P0 else P1).delay ≤ 8) ∧ slow x.ps D (k + 1) = (if k = 0 then [⟨P0.src, P0.times, P0.delay + D⟩, P1] else [P0, ⟨P1.src, P1.times, P1.delay + D⟩]) := by
        rcases (show k = 0 ∨ k = 1 by omega) with rfl | rfl
        · exact ⟨_, _, rfl, by simp only [if_pos]; omega, rfl⟩
        · exact ⟨_, _, rfl, by simp only [show ¬ (1 = 0) by omega, if_false]; omega, rfl⟩
      rw [hsl] at HR
      obtain ⟨b, o, rfl, _, _, _, hc⟩ := prts_at HR.out.pr k hlt
      have hPk : ([P0, P1].getD k default) = (if k = 0 then P0 else P1) := by
        rcases (show k = 0 ∨ k = 1 by omega) with rfl | rfl <;> rfl
      rw [hPk] at hc
      have hst := fun u => HR.out.setp (b := b) (off := o) (k := k) rfl hlt u
      have hnx2 : slow x.ps D (k + 1) = (if k = 0 then [⟨P0.src, P0.times, (if k = 0 then P0 else P1).delay + D⟩, P1] else [P0, ⟨P1.src, P1.times, (if k = 0 then P0 else P1).delay + D⟩]) := by
        rw [hnx]; by_cases e : k = 0
        · simp only [e, if_pos]
        · simp only [e, if_false]
      generalize (if k = 0 then P0 else P1).delay = dl at hc hdl hnx2
      have hf := HR.out.zp.get rfl (o + k * 3 + 2)
      have hw6 : IntKind.i64.wrap (dl + D) = dl + D := IntWalk.i64_in _ (by omega)
      have HU := Lib.hid (show RS w (Y.setCell ⟨b, o + k * 3 + 2, none⟩ (.int .i64 (dl + D))) x x.carry (some ⟨b, o, none⟩, np, kp) g0 g1 (none, 0, 0) (ac, n8, cc) q1 q2 gi B (slow x.ps D (k + 1)) (x.A.take 30) (x.B.take 30) [] (levs x.carry x.ps x.ins 0 x.N) by rw [hnx2]; exact hst (dl + D))
      clear hsl hdl hnx hnx2 hPk hst HR
      go_wp2_with fail
      clear hc hf y1
      generalize Y.setCell _ _ = Y2 at HU ⊢
      go_roundw
      case rel => exact ⟨k + 1, _, by omega, by go_num, rfl, HU⟩
      case measure => simp [intOf]; omega
    · have hltI : ¬ (k : Int) < 2 := by omega
      have hk2 : k = 2 := by omega
      have HR2 := Lib.hid (show RS w Y x x.carry (ap, np, kp) g0 g1 (none, 0, 0) (ac, n8, cc) q1 q2 gi B (delayed D x.ps) (x.A.take 30) (x.B.take 30) [] (levs x.carry x.ps x.ins 0 x.N) by
        have := HR.out
        rw [hk2, slow_all] at this
        exact this)
      clear HR hk2 hk hlt
      have y1 := blk_cell HR2.out.box 0
      have y2 := blk_cell HR2.out.box 1
      have yl : B < Y.heap.size := blk_lt HR2.out.box
      simp at y1 y2
      go_wp2_with fail
      refine (course_ok x.carry ap 2 kp (delayed D x.ps) 0 (some ⟨gi, 0, none⟩) 2 2 [g0, g1] x.ins ((x.N : Int) + D) _ rfl (by omega) HR2.out.pr rfl (by omega) (HR2.out.ins HN.out.1 HN.out.2.1 HN.out.2.2.1 HN.out.2.2.2)).mono ?_
      rintro e X4 ⟨v, rfl, ho, hb4⟩
      rw [HE.out.2.1]
      have hV : courseV x.carry (delayed D x.ps) x.ins 0 ((x.N : Int) + D) = levs x.carry (delayed D x.ps) x.ins 0 (x.N + D) := by
        have he := HE.out.2.1
        rw [show (x.N : Int) + D = ((x.N + D : Nat) : Int) by omega] at he ⊢
        exact courseV_eq he
      rw [hV] at ho
      obtain ⟨ah, ch, rfl, hr⟩ := ho.rows
      have hll := levs_len x.carry (delayed D x.ps) x.ins 0 (x.N + D)
      have hl8 := HL.out
      have R4 := Lib.hid (HR2.out.later hb4)
      have hc0 : Hid (∀ t, t < D → ∃ bh oh, ah = some ⟨bh, oh, none⟩ ∧ X4.cell? ⟨bh, oh + t, none⟩ = some (.int .i64 0) ∧ bh < X4.heap.size) := Lib.hid fun t ht => by
        obtain ⟨bh, oh, e2, hbh, hc2⟩ := ints_at hr t (by rw [levs_len]; omega)
        rw [levs_get (by omega), HE.out.2.2.1 t (by omega)] at hc2
        exact ⟨bh, oh, e2, hc2, hbh⟩
      have hc : Hid (∀ j, j ≤ x.N → ∃ u bl ol bh oh, ac = some ⟨bl, ol, none⟩ ∧ ah = some ⟨bh, oh, none⟩ ∧ X4.cell? ⟨bl, ol + j, none⟩ = some (.int .i64 u) ∧ X4.cell? ⟨bh, oh + (D + j), none⟩ = some (.int .i64 u) ∧ bl < X4.heap.size ∧ bh < X4.heap.size) := Lib.hid fun j hj => by
        obtain ⟨bl, ol, e1, hbl, hc1⟩ := ints_at R4.out.rl j (by rw [levs_len]; omega)
        obtain ⟨bh, oh, e2, hbh, hc2⟩ := ints_at hr (D + j) (by rw [levs_len]; omega)
        rw [levs_get (by omega)] at hc1 hc2
        rw [HE.out.2.2.2] at hc2
        exact ⟨_, bl, ol, bh, oh, e1, e2, hc1, hc2, hbl, hbh⟩
      generalize (levs x.carry (delayed D x.ps) x.ins 0 (x.N + D)).length = n9 at hll ⊢
      have h8 : (n8 : Int) = (x.N : Int) + 1 := by omega
      have h9 : (n9 : Int) = (x.N : Int) + D + 1 := by omega
      have HL9 := Lib.hid hll
      have HB := Lib.hid R4.out.bel
      clear y1 y2 yl hb4 hr ho HR2 R4 hll hl8 hV
      go_wp2_with fail
      go_loopw [81] (fun i wr => ∃ (t : Nat) (Y : World), t ≤ x.N + D + 1 ∧ i = .int .i64 t ∧ Y = wr ∧ Hid (Below X4.heap.size X4 Y)) (fun i _ => x.N + D + 1 - (intOf i).toNat)
      case atStart => exact ⟨0, _, Nat.zero_le _, rfl, rfl, Lib.hid (below_self X4)⟩
      case round =>
        obtain ⟨t, Y, ht, rfl, rfl, HY⟩ := hrel
        by_cases htn : t < x.N + D + 1
        · have htx : (t : Int) < (x.N : Int) + D + 1 := by omega
          by_cases htD : t < D
          · have htDI : (t : Int) < (D : Int) := by omega
            have htDJ : decide ((D : Int) ≤ (t : Int)) = false := decide_eq_false (by omega)
            have htDK : decide (D ≤ t) = false := decide_eq_false (by omega)
            obtain ⟨bh, oh, rfl, hc2, l2⟩ := hc0.out t htD
            have d2 := cell_call HY.out (a := ⟨bh, oh + t, none⟩) l2 hc2
            clear hc2 l2
            go_wp2_with fail
            go_quiet (fail)
            clear d2
            have HU := Lib.hid (below_trans HY.out (below_drewN (below_self Y) nq))
            generalize Y.drewN nq = Y2 at HU ⊢
            clear HY
            go_wp2_with fail
            go_roundw
            case rel => exact ⟨t + 1, _, by omega, by go_num, rfl, HU⟩
            case measure => simp [intOf]; omega
          · have htDI : decide ((t : Int) < (D : Int)) = false := decide_eq_false (by omega)
            have htDK : decide (t < D) = false := decide_eq_false htD
            have htDM : D ≤ t := by omega
            have htDJ : (D : Int) ≤ (t : Int) := by omega
            obtain ⟨j, hj⟩ : ∃ j : Nat, t = D + j := ⟨t - D, by omega⟩
            have hw7 : IntKind.i64.wrap ((t : Int) - (D : Int)) = (j : Int) := by rw [IntWalk.i64_in _ (by omega)]; omega
            obtain ⟨u, bl, ol, bh, oh, rfl, rfl, hc1, hc2, l1, l2⟩ := hc.out j (by omega)
            rw [← hj] at hc2
            have d1 := cell_call HY.out (a := ⟨bl, ol + j, none⟩) l1 hc1
            have d2 := cell_call HY.out (a := ⟨bh, oh + t, none⟩) l2 hc2
            have hj0 : (0 : Int) ≤ (j : Int) := by omega
            have hjn : (j : Int) < (x.N : Int) + 1 := by omega
            clear hc1 hc2 l1 l2 hj
            go_wp2_with fail
            go_quiet (fail)
            clear d1 d2
            have HU := Lib.hid (below_trans HY.out (below_drewN (below_self Y) nq))
            generalize Y.drewN nq = Y2 at HU ⊢
            clear HY
            go_wp2_with fail
            go_roundw
            case rel => exact ⟨t + 1, _, by omega, by go_num, rfl, HU⟩
            case measure => simp [intOf]; omega
        · have htx : ¬ (t : Int) < (x.N : Int) + D + 1 := by omega
          have B9 := Lib.hid (below_trans HB.out HY.out)
          clear HY HB hc hc0
          go_wp2_with fail
          refine (works_ok _).mono ?_
          rintro e X9 ⟨rfl, hb9⟩
          have B10 := Lib.hid (below_trans B9.out hb9)
          clear hb9 B9
          go_wp2_with fail
          go_ret
          exact ⟨rfl, B10.out⟩
end Go.Proofs.Ytnpcafhmkjdhaaa
