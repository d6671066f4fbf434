/- Chapter 07, law BreakerParts: its walk. -/
import Derived.Test.YtojpbmaojbejjaaConcat
import Derived.Test.YtojpbmaojbejjaaLawLower
import Derived.Deep.RegionHeld3
import Derived.Deep.DeepCutAuto
import Derived.Deep.CutRange
namespace Go.Proofs.Ytojpbmaojbejjaa
open Go Go.RowKit

theorem stAt_app (b : Brk) (s : BSt) (p q : List Int) : stAt b s (p ++ q) = stAt b (stAt b s p) q := by simp [stAt]
theorem runB_app (b : Brk) : ∀ (p q : List Int) (s : BSt), runB b s (p ++ q) = runB b s p ++ (runB b (stAt b s p) q).tail
  | [], q, s => by
    cases q with
    | nil => rfl
    | cons x xs => rfl
  | x :: xs, q, s => by
    rw [List.cons_append, runB, runB_app b xs q, runB]
    rfl
theorem okS_of {b : Brk} {s : BSt} (hb : okB b = true) (h : StIn b s) : okS b s = true := by
  unfold okS mostOf
  rw [hb]
  obtain ⟨h1, h2, h3⟩ := h
  obtain ⟨heat, trip⟩ := s
  simp only at h1 h2 h3
  cases trip
  · have := h3 rfl
    simp [inR]; omega
  · simp [inR]; omega
theorem aft_same {b : Brk} {s : BSt} (w : Int) (h : s.trip = true) : aft b s w = s := by unfold aft; rw [if_pos h]
theorem okW_of {xs : List Int} (h : ∀ j, j < xs.length → 0 ≤ xs.getD j default ∧ xs.getD j default ≤ 255) : ∀ j, j < xs.length → okW (xs.getD j default) = true :=
  fun j hj => inR_iff.2 (by have := h j hj; omega)
theorem app_in {p q : List Int} (hp : ∀ j, j < p.length → 0 ≤ p.getD j default ∧ p.getD j default ≤ 255) (hq : ∀ j, j < q.length → 0 ≤ q.getD j default ∧ q.getD j default ≤ 255) : ∀ j, j < (p ++ q).length → 0 ≤ (p ++ q).getD j default ∧ (p ++ q).getD j default ≤ 255 := by
  intro j hj
  rw [List.length_append] at hj
  by_cases h : j < p.length
  · have := hp j h
    simpa [List.getD, List.getElem?_append_left h] using this
  · have := hq (j - p.length) (by omega)
    simpa [List.getD, List.getElem?_append_right (show p.length ≤ j by omega)] using this
theorem sts_nil (n : Nat) (W : World) (a : Option Addr) : RowsAt n W a 2 (Sts []) := RowsAt.nil n W a 2
/-- What the law needs of the lists. -/
structure PQ (b : Brk) (s : BSt) (p q : List Int) (R O T : List BSt) : Prop where
  r : R = O ++ T.tail
  cr : courseE b s (p ++ q) = 0 ∧ courseL b s (p ++ q) = R
  co : courseE b s p = 0 ∧ courseL b s p = O
  ct : courseE b (O.getD p.length default) q = 0 ∧ courseL b (O.getD p.length default) q = T
  lr : R.length = p.length + q.length + 1
  lo : O.length = p.length + 1
  lt : T.length = q.length + 1
  nx : ∀ i, i < (p ++ q).length → courseE b (R.getD i default) [(p ++ q).getD i default] = 0 ∧ nextS b (R.getD i default) ((p ++ q).getD i default) = R.getD (i + 1) default ∧ ((R.getD i default).trip = true → R.getD (i + 1) default = R.getD i default)
theorem pq {b : Brk} {h : Int} {p q : List Int} (hb : okB b = true) (h0 : 0 ≤ h) (h1 : h ≤ b.slow) (lp : p.length ≤ 30) (lq : q.length ≤ 30) (hp : ∀ j, j < p.length → 0 ≤ p.getD j default ∧ p.getD j default ≤ 255) (hq : ∀ j, j < q.length → 0 ≤ q.getD j default ∧ q.getD j default ≤ 255) :
    PQ b ⟨h, false⟩ p q (runB b ⟨h, false⟩ (p ++ q)) (runB b ⟨h, false⟩ p) (runB b (stAt b ⟨h, false⟩ p) q) := by
  have hs : b.slow ≤ 1000000 := (okB_iff.1 hb).2.1.2
  have hin : StIn b ⟨h, false⟩ := ⟨h0, by simp only; omega, fun _ => h1⟩
  have hpq := app_in hp hq
  have o1 := okS_of hb hin
  have o2 := okS_of hb (StIn.all p _ hin)
  have e1 : courseE b ⟨h, false⟩ (p ++ q) = 0 := courseE_all o1 (by rw [List.length_append]; omega) (okW_of hpq)
  have e2 : courseE b ⟨h, false⟩ p = 0 := courseE_all o1 (by omega) (okW_of hp)
  have hg : (runB b ⟨h, false⟩ p).getD p.length default = stAt b ⟨h, false⟩ p := by
    rw [runB_getD _ _ _ _ (Nat.le_refl _), List.take_length]
  have e3 : courseE b (stAt b ⟨h, false⟩ p) q = 0 := courseE_all o2 (by omega) (okW_of hq)
  refine ⟨runB_app b p q _, ⟨e1, by unfold courseL; rw [if_pos e1]⟩, ⟨e2, by unfold courseL; rw [if_pos e2]⟩, ⟨by rw [hg]; exact e3, by rw [hg]; unfold courseL; rw [if_pos e3]⟩, by rw [runB_len, List.length_append], runB_len _ _ _, runB_len _ _ _, ?_⟩
  intro i hi
  have o3 := okS_of hb (StIn.all ((p ++ q).take i) _ hin)
  have hw := hpq i hi
  obtain ⟨t1, _⟩ := take_next b ⟨h, false⟩ (ws := p ++ q) (k := i) hi
  rw [runB_getD _ _ _ _ (by omega), runB_getD _ _ _ _ (by omega), t1]
  generalize stAt b ⟨h, false⟩ ((p ++ q).take i) = c at o3 ⊢
  generalize (p ++ q).getD i default = x at hw ⊢
  have e : courseE b c [x] = 0 := by rw [courseE_next o3, if_pos (by omega)]
  exact ⟨e, by unfold nextS; rw [if_pos e], fun ht => aft_same x ht⟩

set_option maxRecDepth 100000 in
set_option maxHeartbeats 4000000 in
theorem parts_walk (x : Sml) (a1 : Option Addr) (n1 c1 : Nat) (z1 : List Int) (a2 : Option Addr) (n2 c2 : Nat) (z2 : List Int) (w : World) (hx : x.ok)
    (h1 : z1.length = n1 ∧ n1 ≤ c1 ∧ c1 ≤ maxLen ∧ (a1 = none → n1 = 0 ∧ c1 = 0) ∧ RowsAt w.heap.size w a1 1 (Bytes z1) ∧ ∀ z ∈ z1, 0 ≤ z ∧ z ≤ 255)
    (h2 : z2.length = n2 ∧ n2 ≤ c2 ∧ c2 ≤ maxLen ∧ (a2 = none → n2 = 0 ∧ c2 = 0) ∧ RowsAt w.heap.size w a2 1 (Bytes z2) ∧ ∀ z ∈ z2, 0 ≤ z ∧ z ≤ 255) :
    Calls Try.prog 8 #[x.val, .slice a1 n1 c1, .slice a2 n2 c2] w fun e W' => e = .returned (.bool true) ∧ Below w.heap.size w W' := by
  obtain ⟨hb, h0, hh1⟩ := sml_ok hx
  have hsl : x.brk.slow = x.slow := rfl
  have hpi : (z1.take 30).length ≤ 30 ∧ ∀ j, j < (z1.take 30).length → 0 ≤ (z1.take 30).getD j default ∧ (z1.take 30).getD j default ≤ 255 :=
    ⟨by rw [List.length_take]; omega, fun j hj => h1.2.2.2.2.2 _ (List.mem_of_mem_take (getD_mem hj))⟩
  have hqi : (z2.take 30).length ≤ 30 ∧ ∀ j, j < (z2.take 30).length → 0 ≤ (z2.take 30).getD j default ∧ (z2.take 30).getD j default ≤ 255 :=
    ⟨by rw [List.length_take]; omega, fun j hj => h2.2.2.2.2.2 _ (List.mem_of_mem_take (getD_mem hj))⟩
  obtain ⟨R, O, T, hpq⟩ : ∃ R O T, PQ x.brk ⟨x.h, false⟩ (z1.take 30) (z2.take 30) R O T := ⟨_, _, _, pq hb h0 (by rw [hsl]; exact hh1) hpi.1 hqi.1 hpi.2 hqi.2⟩
  have HX := Lib.hid hx
  have G1 := Lib.hid h1
  have G2 := Lib.hid h2
  clear hsl hb h0 hh1 hx h1 h2
  obtain ⟨p, hp⟩ : ∃ p, z1.take 30 = p := ⟨_, rfl⟩
  obtain ⟨q, hq⟩ : ∃ q, z2.take 30 = q := ⟨_, rfl⟩
  rw [hp] at hpi hpq
  rw [hq] at hqi hpq
  obtain ⟨np, hnp⟩ : ∃ np, p.length = np := ⟨_, rfl⟩
  obtain ⟨nq, hnq⟩ : ∃ nq, q.length = nq := ⟨_, rfl⟩
  have lp : np ≤ 30 := by rw [← hnp]; exact hpi.1
  have lq : nq ≤ 30 := by rw [← hnq]; exact hqi.1
  have lr := hpq.lr
  have lo := hpq.lo
  have lt := hpq.lt
  rw [hnp, hnq] at lr
  rw [hnp] at lo
  rw [hnq] at lt
  have HL := Lib.hid (And.intro hnp (And.intro hnq (And.intro lr (And.intro lo lt))))
  have HP := Lib.hid hpq
  have HPQ := Lib.hid (And.intro hp hq)
  clear hpi hqi hpq hp hq hnp hnq lr lo lt
  go_enter Try.func8, Try.ntmps8
  go_wp2_with fail
  refine (made_ok x HX.out _).mono ?_
  rintro e W1 ⟨rfl, hb1⟩
  have B1 := Lib.hid (below_trans (below_alloc (below_self w) _) hb1)
  clear hb1
  generalize x.h = h at *
  generalize x.brk = b at *
  go_wp2_with fail
  obtain ⟨A1, hA1⟩ : ∃ W' : World, (W1.alloc (.cells b.cells.toArray 23)) = W' := ⟨_, rfl⟩
  have H1 : Has A1 [(W1.heap.size, .cells b.cells.toArray 23 (0, 0))] := by rw [← hA1]; simpa using ((Has.nil W1).new _)
  have s1 : A1.heap.size = W1.heap.size + 1 := by rw [← hA1]; simp
  have b1 : Below W1.heap.size W1 A1 := by rw [← hA1]; exact (below_alloc (below_self W1) _)
  rw [hA1]
  clear hA1
  refine (loads_ok a1 n1 c1 z1 _ ⟨G1.out.1, G1.out.2.1, G1.out.2.2.1, G1.out.2.2.2.1, G1.out.2.2.2.2.1.later (below_trans B1.out b1), G1.out.2.2.2.2.2⟩).mono ?_
  rintro e W2 ⟨v2, rfl, ho2, hb2⟩
  rw [HPQ.out.1] at ho2
  obtain ⟨ap, cp, rfl, hcp, hzp, rp⟩ := ho2.full
  rw [HL.out.1] at hcp hzp ⊢
  have R2 := Lib.hid (And.intro (H1.below hb2) (And.intro (below_trans (below_trans B1.out b1) hb2) (And.intro rp hzp)))
  clear ho2 hb2 H1 s1 b1 rp hzp B1
  go_wp2_with fail
  refine (loads_ok a2 n2 c2 z2 _ ⟨G2.out.1, G2.out.2.1, G2.out.2.2.1, G2.out.2.2.2.1, G2.out.2.2.2.2.1.later R2.out.2.1, G2.out.2.2.2.2.2⟩).mono ?_
  rintro e W3 ⟨v3, rfl, ho3, hb3⟩
  rw [HPQ.out.2] at ho3
  obtain ⟨aq, cq, rfl, hcq, hzq, rq⟩ := ho3.full
  rw [HL.out.2.1] at hcq hzq ⊢
  have h3 := R2.out.1.below hb3
  have R3 := Lib.hid (And.intro h3 (And.intro (below_trans R2.out.2.1 hb3) (And.intro (R2.out.2.2.1.later hb3) (And.intro rq (And.intro R2.out.2.2.2 hzq)))))
  have k0 := blk_cell h3.hd 0
  have k1 := blk_cell h3.hd 1
  have k2 := blk_cell h3.hd 2
  have k3 := blk_cell h3.hd 3
  simp at k0 k1 k2 k3
  have l1 : W1.heap.size < W3.heap.size := blk_lt h3.hd
  clear ho3 hb3 rq hzq R2 h3
  go_wp2_with fail
  have bX := (below_self W3).drew
  have bX2 := (below_alloc (below_self W3) (.cells #[.slice ap np cp, .slice aq nq cq] 43)).drew
  have hg2 : (W3.alloc (.cells #[.slice ap np cp, .slice aq nq cq] 43)).drew.heap[W3.heap.size]? = some (.cells #[.slice ap np cp, .slice aq nq cq] 43 (0, 0)) := (blk_new W3 (.cells #[.slice ap np cp, .slice aq nq cq] 43) : _)
  have HG2 := Lib.hid (And.intro hg2 bX2)
  have HC := Lib.hid (fun W (hb : Below W3.heap.size W3 W) => (And.intro (cell_call hb l1 k0) (And.intro (cell_call hb l1 k1) (And.intro (cell_call hb l1 k2) (cell_call hb l1 k3)))))
  clear k0 k1 k2 k3 hg2
  go_region_held3 (fun w' => Below W3.heap.size W3 w' ∧ w'.cell? ⟨W1.heap.size, 0, none⟩ = some (.int .i64 b.feed) ∧ w'.cell? ⟨W1.heap.size, 1, none⟩ = some (.int .i64 b.limit) ∧ w'.cell? ⟨W1.heap.size, 2, none⟩ = some (.int .i64 b.slow) ∧ w'.cell? ⟨W1.heap.size, 3, none⟩ = some (.int .i64 b.fast))
    ((first | exact ⟨bX, HC.out _ bX⟩ | exact ⟨bX2, HC.out _ bX2⟩ | exact ⟨bY2, HC.out _ bY2⟩ | exact ⟨bY1, HC.out _ bY1⟩))
    (first
      | (go_at_call 32; refine (concatI_ok _ 43 ap aq np cp nq cq p q _ HL.out.1 HL.out.2.1 (by omega) (by omega) R3.out.2.2.2.2.1 R3.out.2.2.2.2.2 HG2.out.1 (R3.out.2.2.1.later HG2.out.2) (R3.out.2.2.2.1.later HG2.out.2)).mono ?_; rintro e WR ⟨vR, rfl, hoR, hbR⟩; (obtain ⟨aR, cR, rfl, hrR⟩ := hoR.rows); rw [List.length_append, HL.out.1, HL.out.2.1]; have bY1 := below_trans bX2 hbR)
      | (go_at_call 20; refine (course_ok b ⟨h, false⟩ aR (np + nq) cR (p ++ q) _ (by rw [List.length_append, HL.out.1, HL.out.2.1]) (by omega) hrR).mono ?_; rintro e WC ⟨vC, rfl, hoC, hbC⟩; rw [HP.out.cr.1]; rw [HP.out.cr.2] at hoC; (obtain ⟨aC, cC, rfl, hrC⟩ := hoC.rows); rw [HL.out.2.2.1]; have bY2 := below_trans bY1 hbC))
  have h4 := R3.out.1.below bY2
  have R4 := Lib.hid (And.intro h4 (And.intro (below_trans R3.out.2.1 bY2) (And.intro (R3.out.2.2.1.later bY2) (And.intro (R3.out.2.2.2.1.later bY2) (And.intro R3.out.2.2.2.2 hrC)))))
  clear l1
  have k0 := blk_cell h4.hd 0
  have k1 := blk_cell h4.hd 1
  have k2 := blk_cell h4.hd 2
  have k3 := blk_cell h4.hd 3
  simp at k0 k1 k2 k3
  have l1 : W1.heap.size < WC.heap.size := blk_lt h4.hd
  clear h4 bX bX2 bY1 bY2 hoR hbR hrR hoC hbC hrC HC HG2 R3
  go_wp2_with fail
  refine (course_ok b ⟨h, false⟩ ap np cp p _ HL.out.1 (by omega) R4.out.2.2.1).mono ?_
  rintro e W5 ⟨v5, rfl, hoO, hb5⟩
  rw [HP.out.co.1]
  rw [HP.out.co.2] at hoO
  obtain ⟨aO, cO, rfl, hrO⟩ := hoO.rows
  rw [HL.out.2.2.2.1]
  have h5 := R4.out.1.below hb5
  have R5 := Lib.hid (And.intro h5 (And.intro (below_trans R4.out.2.1 hb5) (And.intro (R4.out.2.2.1.later hb5) (And.intro (R4.out.2.2.2.1.later hb5) (And.intro R4.out.2.2.2.2.1 (And.intro (R4.out.2.2.2.2.2.later hb5) hrO))))))
  clear k0 k1 k2 k3 l1
  have k0 := blk_cell h5.hd 0
  have k1 := blk_cell h5.hd 1
  have k2 := blk_cell h5.hd 2
  have k3 := blk_cell h5.hd 3
  simp at k0 k1 k2 k3
  have l1 : W1.heap.size < W5.heap.size := blk_lt h5.hd
  clear h5 hb5 hoO hrO R4
  go_wp2_with fail
  have hct := HP.out.ct
  rw [HL.out.1] at hct
  obtain ⟨bO, oO, rfl, ltO, e0, e1⟩ := sts_at R5.out.2.2.2.2.2.2 np (by rw [HL.out.2.2.2.1]; omega)
  generalize hS : O.getD np default = S at hct e0 e1
  have HS := Lib.hid (And.intro hS hct)
  clear hS hct
  have bX := (below_self W5).drew
  have HC := Lib.hid (fun W (hb : Below W5.heap.size W5 W) => (And.intro (cell_call hb ltO e0) (And.intro (cell_call hb ltO e1) (And.intro (cell_call hb l1 k0) (And.intro (cell_call hb l1 k1) (And.intro (cell_call hb l1 k2) (cell_call hb l1 k3)))))))
  have hnI0 : (0 : Int) ≤ (np : Int) := by omega
  have hnI1 : (np : Int) < (np : Int) + 1 := by omega
  clear k0 k1 k2 k3 e0 e1
  go_region_held3 (fun w' => Below W5.heap.size W5 w' ∧ w'.cell? ⟨bO, oO + np * 2, none⟩ = some (.int .i64 S.heat) ∧ w'.cell? ⟨bO, oO + np * 2 + 1, none⟩ = some (.bool S.trip) ∧ w'.cell? ⟨W1.heap.size, 0, none⟩ = some (.int .i64 b.feed) ∧ w'.cell? ⟨W1.heap.size, 1, none⟩ = some (.int .i64 b.limit) ∧ w'.cell? ⟨W1.heap.size, 2, none⟩ = some (.int .i64 b.slow) ∧ w'.cell? ⟨W1.heap.size, 3, none⟩ = some (.int .i64 b.fast))
    ((first | exact ⟨bX, HC.out _ bX⟩ | exact ⟨bY2, HC.out _ bY2⟩))
    (first
      | (go_at_call 20; refine (course_ok b S aq nq cq q _ HL.out.2.1 (by omega) (R5.out.2.2.2.1.later bX)).mono ?_; rintro e WT ⟨vT, rfl, hoT, hbT⟩; rw [HS.out.2.1]; rw [HS.out.2.2] at hoT; (obtain ⟨aT, cT, rfl, hcT, _⟩ := owns_shape hoT); rw [HL.out.2.2.2.2] at hcT ⊢; have bY2 := below_trans bX hbT))
  have hrT : RowsAt WT.heap.size WT aT 2 (Sts T) := by
    obtain ⟨_, _, he, hr⟩ := hoT.rows
    cases he
    exact hr
  have h6 := R5.out.1.below bY2
  have R6 := Lib.hid (And.intro h6 (And.intro (below_trans R5.out.2.1 bY2) (And.intro (R5.out.2.2.1.later bY2) (And.intro (R5.out.2.2.2.1.later bY2) (And.intro R5.out.2.2.2.2.1 (And.intro (R5.out.2.2.2.2.2.1.later bY2) (And.intro (R5.out.2.2.2.2.2.2.later bY2) hrT)))))))
  clear l1 hnI0 hnI1
  have k0 := blk_cell h6.hd 0
  have k1 := blk_cell h6.hd 1
  have k2 := blk_cell h6.hd 2
  have k3 := blk_cell h6.hd 3
  simp at k0 k1 k2 k3
  have l1 : W1.heap.size < WT.heap.size := blk_lt h6.hd
  clear h6 bX bY2 hoT hbT HC R5 ltO
  obtain ⟨bT, oT, rfl, _, _, _⟩ := sts_at hrT 0 (by rw [HL.out.2.2.2.2]; omega)
  clear hrT
  go_upto_region 8 with fail
  go_cut [15, 74, 82, 83, 99] from 85 to 99 (fun s15 s74 s82 s83 s99 wx => s99 = .bool false ∧ Below WT.heap.size WT wx)
  case first =>
    have HRT := Lib.hid HP.out.r
    by_cases hc1 : cT = 1
    · have htl : T.tail = [] := by
        apply List.eq_nil_of_length_eq_zero
        rw [List.length_tail, HL.out.2.2.2.2]; omega
      have HTL := Lib.hid htl
      clear htl
      go_wp2_with fail
      have hb9 := below_alloc (below_self WT) (.cells #[.slice (some ⟨bO, oO, none⟩) (np + 1) cO, .slice (some ⟨bT, oT, none⟩) nq 0] 40)
      with_reducible refine (concatS_ok WT.heap.size 40 _ _ (np + 1) cO nq 0 O T.tail _ HL.out.2.2.2.1 (by rw [List.length_tail, HL.out.2.2.2.2]; omega) (by omega) (by omega) (by intro h; cases h) (by intro h; cases h) (blk_new _ _) (R6.out.2.2.2.2.2.2.1.later hb9) (by rw [HTL.out]; exact sts_nil _ _ _)).mono ?_
      rintro e W8 ⟨v8, rfl, ho8, hb8⟩
      rw [← HRT.out] at ho8
      obtain ⟨a8, c8, rfl, hr8⟩ := ho8.rows
      rw [HL.out.2.2.1]
      have H8 := Lib.hid (And.intro (below_trans hb9 hb8) hr8)
      clear ho8 hb8 hr8 hb9
      go_wp2_with fail
      with_reducible refine (equalS_ok aC a8 (np + nq + 1) cC (np + nq + 1) c8 R R _ HL.out.2.2.1 HL.out.2.2.1 (by omega) (R6.out.2.2.2.2.2.1.later H8.out.1) H8.out.2).mono ?_
      rintro e W9 ⟨rfl, hb9⟩
      rw [decide_eq_true (rfl : R = R)]
      have H9 := Lib.hid (below_trans H8.out.1 hb9)
      clear hb9 H8
      go_wp2_with fail
      go_meet
      exact ⟨rfl, H9.out⟩
    · have hr9 : RowsAt WT.heap.size WT (some ⟨bT, oT + 2, none⟩) 2 (Sts T.tail) := by
        intro i r hr
        have hr' : (Sts T)[i + 1]? = some r := by
          cases T with
          | nil => simp at hr
          | cons t ts => simpa using hr
        obtain ⟨b', o', he, hlt, hra⟩ := R6.out.2.2.2.2.2.2.2 (i + 1) r hr'
        cases he
        refine ⟨bT, oT + 2, rfl, hlt, fun j v hv => ?_⟩
        have := hra j v hv
        rw [show oT + 2 + i * 2 + j = oT + (i + 1) * 2 + j by omega]
        exact this
      have HR9 := Lib.hid hr9
      clear hr9
      go_wp2_with fail
      have hb9 := below_alloc (below_self WT) (.cells #[.slice (some ⟨bO, oO, none⟩) (np + 1) cO, .slice (some ⟨bT, oT + 2, none⟩) nq (cT - 1)] 40)
      with_reducible refine (concatS_ok WT.heap.size 40 _ _ (np + 1) cO nq (cT - 1) O T.tail _ HL.out.2.2.2.1 (by rw [List.length_tail, HL.out.2.2.2.2]; omega) (by omega) (by omega) (by intro h; cases h) (by intro h; cases h) (blk_new _ _) (R6.out.2.2.2.2.2.2.1.later hb9) (HR9.out.later hb9)).mono ?_
      rintro e W8 ⟨v8, rfl, ho8, hb8⟩
      rw [← HRT.out] at ho8
      obtain ⟨a8, c8, rfl, hr8⟩ := ho8.rows
      rw [HL.out.2.2.1]
      have H8 := Lib.hid (And.intro (below_trans hb9 hb8) hr8)
      clear ho8 hb8 hr8 hb9
      go_wp2_with fail
      with_reducible refine (equalS_ok aC a8 (np + nq + 1) cC (np + nq + 1) c8 R R _ HL.out.2.2.1 HL.out.2.2.1 (by omega) (R6.out.2.2.2.2.2.1.later H8.out.1) H8.out.2).mono ?_
      rintro e W9 ⟨rfl, hb9⟩
      rw [decide_eq_true (rfl : R = R)]
      have H9 := Lib.hid (below_trans H8.out.1 hb9)
      clear hb9 H8
      go_wp2_with fail
      go_meet
      exact ⟨rfl, H9.out⟩
  case rest =>
    obtain ⟨rfl, bb⟩ := hcut
    have R7 := Lib.hid (And.intro (R6.out.1.below bb) (And.intro (below_trans R6.out.2.1 bb) (And.intro (R6.out.2.2.1.later bb) (And.intro (R6.out.2.2.2.1.later bb) (And.intro R6.out.2.2.2.2.1 (R6.out.2.2.2.2.2.1.later bb))))))
    clear k0 k1 k2 k3 l1 bb R6
    go_wp2_with fail
    have hb9 := below_alloc (below_self wc) (.cells #[.slice ap np cp, .slice aq nq cq] 43)
    refine (concatI_ok wc.heap.size 43 ap aq np cp nq cq p q _ HL.out.1 HL.out.2.1 (by omega) (by omega) R7.out.2.2.2.2.1.1 R7.out.2.2.2.2.1.2 (blk_new _ _) (R7.out.2.2.1.later hb9) (R7.out.2.2.2.1.later hb9)).mono ?_
    rintro e W9 ⟨v9, rfl, ho9, hb9'⟩
    obtain ⟨aQ, cQ, rfl, hrQ⟩ := ho9.rows
    have hlQ : (p ++ q).length = np + nq := by rw [List.length_append, HL.out.1, HL.out.2.1]
    rw [hlQ]
    have HQ := Lib.hid hlQ
    have bb := below_trans hb9 hb9'
    have R8 := Lib.hid (And.intro (R7.out.1.below bb) (And.intro (below_trans R7.out.2.1 bb) (And.intro (R7.out.2.2.2.2.2.later bb) hrQ)))
    clear hb9 hb9' ho9 hrQ bb R7 hlQ
    obtain ⟨L, hL⟩ : ∃ L, p ++ q = L := ⟨_, rfl⟩
    have hnx := HP.out.nx
    rw [hL] at hnx
    have HN := Lib.hid hnx
    rw [hL] at R8 HQ
    obtain ⟨nL, hnL⟩ : ∃ nL, np + nq = nL := ⟨_, rfl⟩
    have hLR := HL.out.2.2.1
    rw [hnL] at HQ hLR ⊢
    have lL : nL ≤ 60 := by omega
    have HLR := Lib.hid hLR
    clear hL hnx hnL hLR
    go_wp2_with fail
    go_loopw [105] (fun i wr => ∃ (k : Nat) (X : World), k ≤ nL ∧ i = .int .i64 k ∧ X = wr ∧ Hid (Has X [(W1.heap.size, .cells b.cells.toArray 23 (0, 0))] ∧ Below w.heap.size w X ∧ RowsAt X.heap.size X aC 2 (Sts R) ∧ RowsAt X.heap.size X aQ 1 (Ints L))) (fun i _ => nL - (intOf i).toNat)
    case atStart => exact ⟨0, _, Nat.zero_le _, rfl, rfl, R8⟩
    case round =>
      clear R8
      obtain ⟨k, X, hk, rfl, rfl, Hr⟩ := hrel
      by_cases hlt : k < nL
      · obtain ⟨bQ, oQ, rfl, _, ex⟩ := ints_at Hr.out.2.2.2 k (by rw [HQ.out]; exact hlt)
        obtain ⟨bC, oC, rfl, ltC, e0, e1⟩ := sts_at Hr.out.2.2.1 k (by rw [HLR.out]; omega)
        obtain ⟨bC', oC', heC, ltC', f0, f1⟩ := sts_at Hr.out.2.2.1 (k + 1) (by rw [HLR.out]; omega)
        cases heC
        have hn := HN.out k (by rw [HQ.out]; exact hlt)
        generalize R.getD k default = rk at e0 e1 hn
        generalize R.getD (k + 1) default = rn at f0 f1 hn
        generalize L.getD k default = x1 at ex hn
        have Hn := Lib.hid hn
        have k0 := blk_cell Hr.out.1.hd 0
        have k1 := blk_cell Hr.out.1.hd 1
        have k2 := blk_cell Hr.out.1.hd 2
        have k3 := blk_cell Hr.out.1.hd 3
        simp at k0 k1 k2 k3
        have l1 : W1.heap.size < X.heap.size := blk_lt Hr.out.1.hd
        have HC := Lib.hid (fun W (hb : Below X.heap.size X W) => (And.intro (cell_call hb l1 k0) (And.intro (cell_call hb l1 k1) (And.intro (cell_call hb l1 k2) (And.intro (cell_call hb l1 k3) (And.intro (cell_call hb ltC e0) (cell_call hb ltC e1)))))))
        have HF := Lib.hid (fun W (hb : Below X.heap.size X W) => (And.intro (cell_call hb ltC e0) (And.intro (cell_call hb ltC e1) (And.intro (cell_call hb ltC f0) (cell_call hb ltC f1)))))
        clear hn e0 e1 f0 f1 ltC ltC' k0 k1 k2 k3
        go_upto_region 13 with fail
        clear ex
        go_cut [19, 20] from 107 to 119 (fun s19 s20 wx => ∃ g, s19 = .pointer (some ⟨g, 0, none⟩) ∧ s20 = .int .i64 0 ∧ Has wx [(g, .cells rn.cells.toArray 37 (0, 0))] ∧ Below X.heap.size X wx)
        case first =>
          have bX := (below_self X).drew
          have hkI0 : (0 : Int) ≤ (k : Int) := by omega
          have hkI1 : (k : Int) < (nL : Int) + 1 := by omega
          go_region_held3 (fun w' => Below X.heap.size X w' ∧ w'.cell? ⟨W1.heap.size, 0, none⟩ = some (.int .i64 b.feed) ∧ w'.cell? ⟨W1.heap.size, 1, none⟩ = some (.int .i64 b.limit) ∧ w'.cell? ⟨W1.heap.size, 2, none⟩ = some (.int .i64 b.slow) ∧ w'.cell? ⟨W1.heap.size, 3, none⟩ = some (.int .i64 b.fast) ∧ w'.cell? ⟨bC, oC + k * 2, none⟩ = some (.int .i64 rk.heat) ∧ w'.cell? ⟨bC, oC + k * 2 + 1, none⟩ = some (.bool rk.trip))
            ((first | exact ⟨bX, HC.out _ bX⟩ | exact ⟨below_alloc bX _, HC.out _ (below_alloc bX _)⟩ | exact ⟨bY, HC.out _ bY⟩ | exact ⟨below_alloc bY _, HC.out _ (below_alloc bY _)⟩ | exact ⟨(bY.setCell (Nat.le_refl _) _).setCell (Nat.le_refl _) _, HC.out _ ((bY.setCell (Nat.le_refl _) _).setCell (Nat.le_refl _) _)⟩))
            (first
              | (go_at_call 19; refine (next_ok b rk x1 _).mono ?_; rintro e WA ⟨rfl, hbA⟩; rw [Hn.out.1, Hn.out.2.1]; have bY := below_trans (by first | exact bX | exact below_alloc bX _) hbA; (try (have hN : WA.heap[X.heap.size]? = some (.cells (BSt.cells ⟨0, false⟩).toArray 37 (0, 0)) := blk_below (blk_new X.drew _) hbA; have cN := blk_cell hN 0; have cN1 := blk_cell hN 1; have fN := blk_frozen hN 0; have fN1 := blk_frozen hN 1; simp at cN cN1))))
          · have hh : Has (WA.alloc (.cells rn.cells.toArray 37)) [(WA.heap.size, .cells rn.cells.toArray 37 (0, 0))] := (Has.nil _).new _
            have HZ := Lib.hid (And.intro hh (below_alloc bY (.cells rn.cells.toArray 37)))
            clear hh bY bX hbA HC HF
            go_wp2_with fail
            go_meet
            exact ⟨_, rfl, rfl, HZ.out⟩
          · have hN : WA.heap[X.heap.size]? = some (.cells (BSt.cells ⟨0, false⟩).toArray 37 (0, 0)) := blk_below (blk_new X.drew _) hbA
            have HZ := Lib.hid (And.intro (Has.cons (st_store hN rn) (Has.nil _)) (show Below X.heap.size X ((WA.setCell ⟨X.heap.size, 0, none⟩ (.int .i64 rn.heat)).setCell ⟨X.heap.size, 1, none⟩ (.bool rn.trip)) from (bY.setCell (Nat.le_refl _) _).setCell (Nat.le_refl _) _))
            clear bY bX hbA HC HF
            go_wp2_with fail
            go_meet
            exact ⟨_, rfl, rfl, HZ.out⟩
        case rest =>
          obtain ⟨g, rfl, rfl, hg, bb⟩ := hcut
          obtain ⟨e0, e1, f0, f1⟩ := HF.out _ bb
          have r0 := blk_cell hg.hd 0
          have r1 := blk_cell hg.hd 1
          simp at r0 r1
          have R9 := Lib.hid (fun W (h9 : Below wc.heap.size wc W) => (And.intro (Hr.out.1.below (below_trans bb h9)) (And.intro (below_trans Hr.out.2.1 (below_trans bb h9)) (And.intro (Hr.out.2.2.1.later (below_trans bb h9)) (Hr.out.2.2.2.later (below_trans bb h9))))))
          have hw1 : IntKind.i64.wrap ((k : Int) + 1) = (k : Int) + 1 := IntWalk.i64_in _ ⟨by omega, by omega⟩
          have hw2 : (0 : Int) ≤ (k : Int) + 1 := by omega
          have hw3 : ((k : Int) + 1).toNat = k + 1 := by omega
          have hg37 := guard37
          clear bb hg HC HF Hr
          cases htr : rk.trip
          · have heq : ∀ w, (Op.equalIn 10000 37 rn.val rn.val).run Try.prog w = .ok true w := fun w => by rw [eq37, decide_eq_true rfl]
            rw [htr] at e1
            clear htr
            go_wp2_with fail
            go_quiet (fail)
            clear heq e0 e1 f0 f1 r0 r1 hg37 hw1 hw2 hw3
            go_wp2_with fail
            go_roundw
            case rel => exact ⟨k + 1, _, by omega, by go_num, rfl, R9.out _ (below_drewN (below_self wc) _)⟩
            case measure => simp [intOf]; omega
          · have hsame := Hn.out.2.2 htr
            clear Hn
            subst hsame
            obtain ⟨hh, tt⟩ := rn
            simp only at htr e0 e1 f0 f1 r0 r1
            subst htr
            have heq : ∀ w, (Op.equalIn 10000 37 (.agg #[.int .i64 hh, .bool true]) (.agg #[.int .i64 hh, .bool true])).run Try.prog w = .ok true w := fun w => by
              have := eq37 ⟨hh, true⟩ ⟨hh, true⟩ w
              simpa using this
            go_wp2_with fail
            go_quiet (fail)
            clear heq e0 e1 f0 f1 r0 r1 hg37 hw1 hw2 hw3
            go_wp2_with fail
            go_roundw
            case rel => exact ⟨k + 1, _, by omega, by go_num, rfl, R9.out _ (below_drewN (below_self wc) _)⟩
            case measure => simp [intOf]; omega
      · have HB := Lib.hid Hr.out.2.1
        clear Hr
        go_wp2_with fail
        refine (works_ok _).mono ?_
        rintro e WW ⟨rfl, hb⟩
        have HF := Lib.hid (below_trans HB.out hb)
        clear hb HB
        go_wp2_with fail
        go_ret
        exact ⟨rfl, HF.out⟩
end Go.Proofs.Ytojpbmaojbejjaa
