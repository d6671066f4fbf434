/- Chapter 05: send (fill's inner function). -/
import Derived.Test.YthlefdbhkbpejaaGreatFOpn
import Derived.Deep.DrawnRows
namespace Go.Proofs.YthlefdbhkbpejaaGreat.F5
open Go Go.RowKit Go.Shelf
attribute [local go_sem] Oper.semAt_some

theorem xor_one : ∀ e : Nat, e < 256 → bits BinOp.xor IntKind.i64 e 1 = ((if e % 2 = 0 then e + 1 else e - 1 : Nat) : Int) := by decide +kernel

theorem loadVar_int {w : World} {g : Nat} {v : Value} (h : w.cell? ⟨g, 0, none⟩ = some v) : (loadVar 3 ⟨g, 0, none⟩).run Tryz.prog w = .ok v w := by
  simp [go_sem, loadVar, h]
theorem results_cell_int {fn : Func} {p : Tmp} (hf : fn.results = #[.cell p 3]) (tmps : Array Value) (w : World) {g : Nat} {v : Value} (hp : tmps.getD p undef = .pointer (some ⟨g, 0, none⟩)) (h : w.cell? ⟨g, 0, none⟩ = some v) :
    (results fn tmps).run Tryz.prog w = .ok v w := by
  have hp' : tmps[p]?.getD undef = .pointer (some ⟨g, 0, none⟩) := by simpa using hp
  have hl := loadVar_int h
  simp [results, hf, hp', asAddr, hl]

/-- What the walk of a call of send holds fast. -/
structure SC (B : Nat) (l : List Ar) (n : Nat) (t : Int) (far0 : Int → Int) : Prop where
  inn : inN n l
  ne : ∀ a ∈ l, a.u ≠ a.v
  cap : ∀ a ∈ l, 0 ≤ a.c ∧ a.c ≤ 100000000
  len : l.length ≤ 128
  n64 : n ≤ 64
  low : ∀ x : Int, 0 ≤ x → x < n → -1 ≤ far0 x ∧ far0 x < n
theorem SC.room {B : Nat} {l : List Ar} {n : Nat} {t : Int} {far0 : Int → Int} (h : SC B l n t far0) {f : List Int} (ho : okF l f) {e : Nat} (he : e < 2 * l.length) : 0 ≤ room l f e ∧ room l f e ≤ 100000000 := by
  have h1 := okF_at ho (i := e / 2) (by omega)
  have h2 := h.cap (l.getD (e / 2) default) (by rw [List.getD_eq_getElem?_getD, List.getElem?_eq_getElem (by omega)]; exact List.getElem_mem _)
  unfold Go.Proofs.YthlefdbhkbpejaaGreat.F5.room
  split <;> omega
theorem SC.hd {B : Nat} {l : List Ar} {n : Nat} {t : Int} {far0 : Int → Int} (h : SC B l n t far0) {e : Nat} (he : e < 2 * l.length) : 0 ≤ hd l e ∧ hd l e < n := by
  have h2 := h.inn (l.getD (e / 2) default) (by rw [List.getD_eq_getElem?_getD, List.getElem?_eq_getElem (by omega)]; exact List.getElem_mem _)
  unfold Go.Proofs.YthlefdbhkbpejaaGreat.F5.hd
  split
  · exact h2.2
  · exact h2.1

/-- Between two edges of u. -/
structure SJ (H B : Nat) (l : List Ar) (n p : Nat) (vt vl va : Value) (rows : List Value) (bt bx bf bs : Nat) (t : Int) (vf : Value) (far0 : Int → Int) (w : World) (u most : Int) (f0 L0 : List Int) (o : Obj) (j : Nat) (lv : List Int) (W : World) : Prop where
  st : ∃ k f1 L1, lv = leftL l f1 ∧ Mid l t far0 u most f0 (fv L0) (atL l u l.length) j k f1 (fv L1) ∧ k < most ∧ Snd H B l n p vt vl va rows bt bx bf bs t vf lv L1 W ∧ SB w.heap.size p u most 0 k o W
  fr : Frm w.heap.size vl.ownBlock vf.ownBlock w W
/-- All is sent. -/
structure SS (H B : Nat) (l : List Ar) (n p : Nat) (vt vl va : Value) (rows : List Value) (bt bx bf bs : Nat) (t : Int) (vf : Value) (far0 : Int → Int) (w : World) (u most : Int) (f0 L0 : List Int) (o : Obj) (W : World) : Prop where
  st : ∃ k f1 L1, Sent l t far0 u most f0 (fv L0) k f1 (fv L1) ∧ Snd H B l n p vt vl va rows bt bx bf bs t vf (leftL l f1) L1 W ∧ SB w.heap.size p u most k k o W
  fr : Frm w.heap.size vl.ownBlock vf.ownBlock w W

set_option maxRecDepth 100000 in
set_option maxHeartbeats 4000000 in
theorem send_ok (H B : Nat) (l : List Ar) (n p : Nat) (vt vl va : Value) (rows : List Value) (bt bx bf bs : Nat) (t : Int) (vf : Value) (far0 : Int → Int) (hc : SC B l n t far0) (t0 : 0 ≤ t ∧ t < n) :
    ∀ (d : Nat) (u : Nat) (most : Int) (f L : List Int) (w : World), u < n → (n : Int) ≤ fv L u + d → 0 ≤ fv L u → 1 ≤ most → most ≤ 12800000000 → okF l f → Sub far0 (fv L) → H ≤ w.heap.size →
      Snd H B l n p vt vl va rows bt bx bf bs t vf (leftL l f) L w →
      Calls Tryz.prog 93 #[.int .i64 u, .int .i64 most, .pointer (some ⟨bt, 0, none⟩), .pointer (some ⟨bx, 0, none⟩), .pointer (some ⟨bf, 0, none⟩), .pointer (some ⟨bs, 0, none⟩)] w fun e W' =>
        ∃ k f' L', e = .returned (.int .i64 k) ∧ Sent l t far0 u most f (fv L) k f' (fv L') ∧ Snd H B l n p vt vl va rows bt bx bf bs t vf (leftL l f') L' W' ∧ Frm w.heap.size vl.ownBlock vf.ownBlock w W' := by
  intro d
  induction d with
  | zero =>
    intro u most f L w hu hd h0 _ _ _ hs _ _
    exfalso
    have h1 := hc.low u (by omega) (by omega)
    rcases hs u with h | h <;> omega
  | succ d ih =>
    intro u most f L w hu hd h0 hm1 hm2 ho hs hH hS
    have IH := Lib.hid ih; clear ih
    have HC := Lib.hid hc; clear hc
    have HS := Lib.hid hS
    have HO := Lib.hid (And.intro ho (And.intro hs h0))
    have HD := Lib.hid hd
    have h3 := below_alloc (below_alloc (below_alloc (below_self w) (.cells #[.int .i64 u] 3)) (.cells #[.int .i64 most] 3)) (.cells #[.int .i64 0] 3)
    have h4 := below_alloc h3 (.cells #[.int .i64 0] 3)
    have qt := (blk_cell (blk_below hS.tb h3) 0 : _ = some (Value.int .i64 t))
    have qx := (blk_cell (blk_below hS.xb h4) 0 : _ = some (Value.pointer (some ⟨p, 0, none⟩)))
    clear h3 h4
    clear hS ho hs h0 hd
    refine (callsIn_wide (n := 0)).1 ?_
    refine callsIn_of_wp_marks Tryz.func93 rfl trivial ?_ rfl
    simp only [Tryz.ntmps93, List.size_toArray, List.length_cons, List.length_nil, Nat.reduceAdd, Nat.reduceSub, Array.replicate_succ, Array.replicate_zero, List.push_toArray, List.append_toArray, List.nil_append, List.cons_append]
    by_cases hut : (u : Int) = t
    · subst hut
      gi_wp2_with fail
      refine ⟨_, results_cell_int rfl _ _ (g := w.heap.size + 1 + 1) (v := .int .i64 most) rfl ?_, most, f, L, rfl, Sent.here hm1 HO.out.1, HS.out.later (below_alloc (below_alloc (below_alloc (below_self w) _) _) _), Frm.of (below_alloc (below_alloc (below_alloc (below_self w) _) _) _)⟩
      simp [go_sem]
    · gi_wp2_with fail
      refine (open_ok p u _).mono ?_
      rintro e w' ⟨rfl, rfl⟩
      gi_wp2_with fail
      clear qt qx
      refine range_wide rfl (enters_of Tryz.func116 (by kernel_rfl) rfl) ?_
      intro rec hrec hround
      simp only [World.size_alloc, Nat.add_assoc, Nat.reduceAdd] at hround ⊢
      refine (open1_ok _ (w.heap.size + 4) (w.heap.size + 5) B l n p vt vl va rows u hu HC.out.len HC.out.ne (SJ H B l n p vt vl va rows bt bx bf bs t vf far0 w u most f L (rec .ready none)) (SS H B l n p vt vl va rows bt bx bf bs t vf far0 w u most f L (rec .done (some .ret))) ?hread ?htick ?hskip ?hY _ (leftL l f) ?h0).mono ?done
      case hread =>
        rintro j lv W ⟨⟨k, f1, L1, rfl, hM, hk, hS, hB⟩, hF⟩
        exact ⟨hS.rst, leftL_len (okF_len hM.ok), (blk_cell hB.bx 0).trans rfl, (blk_cell hB.bv 0).trans rfl⟩
      case htick =>
        rintro j lv W W' ⟨⟨k, f1, L1, rfl, hM, hk, hS, hB⟩, hF⟩ hb
        exact ⟨⟨k, f1, L1, rfl, hM, hk, hS.later hb, hB.later hb⟩, hF.later hb hF.size⟩
      case hskip =>
        rintro j lv W e ⟨⟨k, f1, L1, rfl, hM, hk, hS, hB⟩, hF⟩ hj he hel hr
        rw [leftL_at (okF_len hM.ok) hel] at hr
        exact ⟨⟨k, f1, L1, rfl, hM.full he hr, hk, hS, hB⟩, hF⟩
      case h0 =>
        have hA : ∀ (A : World) (o : Obj) (m : Nat), A.heap.size = m → (A.alloc o).heap[m]? = some o := fun A o m h => by rw [← h]; exact blk_new A o
        have hb := below_alloc (below_alloc (below_alloc (below_alloc (below_alloc (below_alloc (below_alloc (below_alloc (below_self w) (.cells #[.int .i64 u] 3)) (.cells #[.int .i64 most] 3)) (.cells #[.int .i64 0] 3)) (.cells #[.int .i64 0] 3)) (.cells #[.pointer (some ⟨p, 0, none⟩)] 91)) (.cells #[.int .i64 u] 3)) (.deferred (some []))) (rec .ready none)
        refine ⟨⟨0, f, L, rfl, Mid.start (by omega) HO.out.1, by omega, HS.out.later hb, ?_, ?_, ?_, ?_, ?_, ?_, ?_, ?_⟩, Frm.of hb⟩
        · exact blk_alloc (blk_alloc (blk_alloc (blk_alloc (blk_alloc (blk_alloc (blk_alloc (hA _ _ _ rfl) _) _) _) _) _) _) _
        · exact blk_alloc (blk_alloc (blk_alloc (blk_alloc (blk_alloc (blk_alloc (hA _ _ _ (by simp)) _) _) _) _) _) _
        · exact blk_alloc (blk_alloc (blk_alloc (blk_alloc (blk_alloc (hA _ _ _ (by simp)) _) _) _) _) _
        · exact blk_alloc (blk_alloc (blk_alloc (blk_alloc (hA _ _ _ (by simp)) _) _) _) _
        · exact blk_alloc (blk_alloc (blk_alloc (hA _ _ _ (by simp)) _) _) _
        · exact blk_alloc (blk_alloc (hA _ _ _ (by simp)) _) _
        · exact blk_alloc (hA _ _ _ (by simp)) _
        · exact hA _ _ _ (by simp)
      case hY =>
        rintro j lv W e ⟨⟨k, f1, L1, rfl, hM, hk, hS, hB⟩, hF⟩ hj he hel het hr
        rw [leftL_at (okF_len hM.ok) hel] at hr
        refine (hround #[.int .i64 e, .int .i64 (hd l e)] W (fun c W' => if c = true then ∃ lv', SJ H B l n p vt vl va rows bt bx bf bs t vf far0 w u most f L (rec .ready none) (j + 1) lv' W' else SS H B l n p vt vl va rows bt bx bf bs t vf far0 w u most f L (rec .done (some .ret)) W') rfl hB.bo ?_).mono (by rintro x W' ⟨c, rfl, h⟩; exact ⟨c, rfl, h⟩)
        have hv := HC.out.hd hel
        obtain ⟨v, hvd⟩ : ∃ v : Nat, hd l e = v := ⟨(hd l e).toNat, by omega⟩
        have hvn : v < n := by omega
        have HE := Lib.hid (And.intro he (And.intro hel (And.intro het (And.intro hvd hr))))
        have HJ := Lib.hid (And.intro hM (And.intro hk (And.intro hS (And.intro hB hF))))
        have Hround := Lib.hid hround
        have Hrec := Lib.hid hrec
        clear hM hS hB hF hround hrec he het hj hv hr
        rw [hvd]
        clear hvd
        gi_wp2_with fail
        refine ⟨HJ.out.2.2.2.1.bo, ?_⟩
        obtain ⟨W4, hW4⟩ : ∃ W4, W.putObj (w.heap.size + 7) (rec .busy none) = W4 := ⟨_, rfl⟩
        rw [hW4]
        have hS4 : Snd H B l n p vt vl va rows bt bx bf bs t vf (leftL l f1) L1 W4 := by rw [← hW4]; exact HJ.out.2.2.1.put (by omega) _
        have hB4 : SB w.heap.size p u most 0 k (rec .busy none) W4 := by rw [← hW4]; exact HJ.out.2.2.2.1.put _
        have hF4 : Frm w.heap.size vl.ownBlock vf.ownBlock w W4 := by rw [← hW4]; exact HJ.out.2.2.2.2.put (by omega) _
        have HM := Lib.hid (And.intro HJ.out.1 HJ.out.2.1)
        clear hW4 HJ
        have HS4 := Lib.hid hS4
        have HB4 := Lib.hid hB4
        have HF4 := Lib.hid hF4
        obtain ⟨gf, cf, hvf, _, hgf, cu, _⟩ := hS4.far.at (e := u) (by rw [hS4.len]; exact hu)
        obtain ⟨gf', cf', hvf', _, _, cv, _⟩ := hS4.far.at (e := v) (by rw [hS4.len]; exact hvn)
        have hgg : gf' = gf := by rw [hvf] at hvf'; cases hvf'; rfl
        subst hgg
        rw [hS4.len] at hvf
        have qf := blk_cell hS4.fb 0
        have qu := (blk_cell hB4.bu 0).trans rfl
        rw [hvf] at qf
        simp at qf qu
        have qfl := blk_lt hS4.fb
        have hvI : (v : Int) < (n : Int) := by omega
        have huI : (u : Int) < (n : Int) := by omega
        obtain ⟨xu, hxu⟩ : ∃ xu, L1.getD u default = xu := ⟨_, rfl⟩
        obtain ⟨xv, hxv⟩ : ∃ xv, L1.getD v default = xv := ⟨_, rfl⟩
        rw [hxu] at cu
        rw [hxv] at cv
        have HX := Lib.hid (And.intro hxu hxv)
        clear hS4 hB4 hF4 hvf hvf' hxu hxv
        have hlx := HC.out.low v (by omega) (by omega)
        have hwx : IntKind.i64.wrap (xu + 1) = xu + 1 := IntWalk.i64_in _ (by
          have h1 := HO.out.2.1 u
          have h2 := HM.out.1.low u (Int.le_refl _)
          have h3 := HC.out.low u (by omega) (by omega)
          have h4 := HX.out.1
          have h5 : fv L1 u = xu := by unfold fv; rw [Int.toNat_natCast]; exact h4
          have h6 := HC.out.n64
          rcases h1 with h | h <;> omega)
        by_cases hne : xv = xu + 1
        · gi_wp2_with fail
          refine wpIn_region_quiet (by kernel_rfl) (by kernel_rfl) (by kernel_rfl) (fun h => h.elim fun _ h => h.elim fun _ h => h.elim) ?_
          repeat (go_big_quiet_step (fail))
          refine wpQuiet_nil ?_
          intro _ hw'
          obtain ⟨nq, hw''⟩ := hw'
          subst hw''
          have HSV := Lib.hid (HS4.out.later (below_drewN (below_self W4) nq))
          have HBV := Lib.hid (HB4.out.later (below_drewN (below_self W4) nq))
          have HFV := Lib.hid (HF4.out.later (below_drewN (below_self W4) nq) HF4.out.size)
          generalize W4.drewN nq = V at HSV HBV HFV ⊢
          clear HS4 HB4 HF4 cu cv qf qu qfl hgf
          have hfl := leftL_len (okF_len HM.out.1.ok)
          have hza := leftL_at (okF_len HM.out.1.ok) HE.out.2.1
          obtain ⟨g, c, hvl, _, hg, cz, _⟩ := HSV.out.rst.lf.at (e := e) (by rw [hfl]; exact HE.out.2.1)
          rw [hza] at cz
          rw [hfl] at hvl
          have hzb := HC.out.room HM.out.1.ok HE.out.2.1
          have hz1 := HE.out.2.2.2.2
          obtain ⟨z, hz⟩ : ∃ z, room l f1 e = z := ⟨_, rfl⟩
          rw [hz] at cz hzb hz1
          have qs := (blk_cell HSV.out.sb 0).trans rfl
          have qx := (blk_cell HSV.out.xb 0).trans rfl
          have qp := blk_cell HSV.out.rst.blk 1
          rw [hvl] at qp
          have qm := (blk_cell HBV.out.bm 0).trans rfl
          have qk := (blk_cell HBV.out.bk 0).trans rfl
          simp at qs qx qp qm qk
          have hk0 := HM.out.1.k0
          have hk1 := HM.out.2
          have hwm : IntKind.i64.wrap (most - k) = most - k := IntWalk.i64_in _ (by omega)
          have heI : (e : Int) < 2 * (l.length : Int) := by have := HE.out.2.1; omega
          have heN : e < 2 * l.length := HE.out.2.1
          have ls := blk_lt HSV.out.sb
          have lx := blk_lt HSV.out.xb
          have lp := blk_lt HSV.out.rst.blk
          have HZ := Lib.hid (And.intro hz hvl)
          clear hza hz hvl hfl
          gi_wp2_with fail
          refine wpIn_region_still_tail 13 (by kernel_rfl) (by kernel_rfl) (by kernel_rfl) (fun h => h.elim fun _ h => h.elim fun _ h => h.elim) ?_
          simp only [List.take_succ_cons, List.take_zero, List.drop_succ_cons, List.drop_zero]
          repeat still_step
          try refine wpStill_nil ?_
          have hbY : Below V.heap.size V { V with drawn := V.drawn + 1 } := (below_self V).drew
          have HSY := Lib.hid (HSV.out.later hbY)
          have HBY := Lib.hid (HBV.out.later hbY)
          have HFY := Lib.hid (HFV.out.later hbY HFV.out.size)
          clear hbY
          generalize ({ V with drawn := V.drawn + 1 } : World) = Y at HSY HBY HFY ⊢
          clear HSV HBV HFV cz qs qx qp qm qk hg ls lx lp
          rw [show (if z < most - k then z else most - k) = min (most - k) z by split <;> omega]
          have h1 : fv L1 v = xv := by unfold fv; rw [Int.toNat_natCast]; exact HX.out.2
          have h2 : fv L1 u = xu := by unfold fv; rw [Int.toNat_natCast]; exact HX.out.1
          have h3 : fv L1 u = fv L u := HM.out.1.low u (Int.le_refl _)
          have h4 := HO.out.2.2
          have h5 := HD.out
          have hsub : Sub far0 (fv L1) := fun x => by
            rcases HM.out.1.any x with h | h
            · rw [h]; exact HO.out.2.1 x
            · exact .inr h
          have hC := IH.out v (min (most - k) z) f1 L1 Y hvn (by omega) (by omega) (by omega) (by omega) HM.out.1.ok hsub (Nat.le_trans hH HFY.out.size) HSY.out
          have HV := Lib.hid (And.intro h1 h2)
          clear h1 h2 h3 h4 h5 hsub
          go_wp2_with fail
          refine hC.mono ?_
          rintro x W5 ⟨k2, f2, L2, rfl, hSent, hS5, hF5⟩
          have HSent := Lib.hid hSent
          have HS5 := Lib.hid hS5
          have HB5 := Lib.hid (HBY.out.frm hF5 (Nat.le_refl _) (fun g hg => by have := (hS5.sl g hg).2.2.2.2; omega) (fun g hg => by have := (hS5.sf g hg).2.2.2.2.2.2; omega))
          have HF5 := Lib.hid (HFY.out.trans (hF5.mono HFY.out.size))
          clear hC hSent hS5 hF5 HSY HBY HFY
          go_wp2_with fail
          have hf2 := leftL_len (okF_len HSent.out.ok)
          obtain ⟨e2, he2⟩ : ∃ e2, (if e % 2 = 0 then e + 1 else e - 1) = e2 := ⟨_, rfl⟩
          have he2n : e2 < 2 * l.length := by rw [← he2]; split <;> omega
          have hee : e2 ≠ e := by rw [← he2]; split <;> omega
          have hxr : bits BinOp.xor IntKind.i64 e 1 = (e2 : Int) := by rw [← he2]; exact xor_one e (by have := HC.out.len; omega)
          have hz5 := HC.out.room HSent.out.ok heN
          have hz6 := HC.out.room HSent.out.ok he2n
          have ha5 := leftL_at (okF_len HSent.out.ok) heN
          have ha6 := leftL_at (okF_len HSent.out.ok) he2n
          have hvl : vl = .slice (some ⟨g, 0, none⟩) (2 * l.length) c := HZ.out.2
          obtain ⟨g', c', hvl', _, hg, cz, fz⟩ := HS5.out.rst.lf.at (e := e) (by rw [hf2]; exact heN)
          obtain ⟨g'', c'', hvl'', _, _, cy, fy⟩ := HS5.out.rst.lf.at (e := e2) (by rw [hf2]; exact he2n)
          rw [hf2] at hvl' hvl''
          have hgg : g' = g := by rw [hvl] at hvl'; cases hvl'; rfl
          have hgg2 : g'' = g := by rw [hvl] at hvl''; cases hvl''; rfl
          subst hgg
          subst hgg2
          rw [ha5] at cz
          rw [ha6] at cy
          have HA := Lib.hid (And.intro ha5 ha6)
          have hpl := push_left (k := k2) heN (okF_len HSent.out.ok)
          rw [he2] at hpl
          obtain ⟨z5, hz5e⟩ : ∃ z5, room l f2 e = z5 := ⟨_, rfl⟩
          obtain ⟨z6, hz6e⟩ : ∃ z6, room l f2 e2 = z6 := ⟨_, rfl⟩
          rw [hz5e] at cz hz5 hpl
          rw [hz6e] at cy hz6 hpl
          have hk20 := HSent.out.k0
          have hk21 := HSent.out.k1
          have hw5 : IntKind.i64.wrap (z5 - k2) = z5 - k2 := IntWalk.i64_in _ (by omega)
          have hw6 : IntKind.i64.wrap (z6 + k2) = z6 + k2 := IntWalk.i64_in _ (by omega)
          have hw7 : IntKind.i64.wrap (k + k2) = k + k2 := IntWalk.i64_in _ (by omega)
          have he2I : (e2 : Int) < 2 * (l.length : Int) := by omega
          have hgb : g'' < w.heap.size := by have := (HS5.out.sl g'' (by rw [hvl]; rfl)).2.2.2.2; omega
          have hS6 := HS5.out.left (g := g'') (c := c) (by rw [hf2]; exact hvl) e (z5 - k2)
          have hS7 := hS6.left (g := g'') (c := c) (by rw [List.length_set, hf2]; exact hvl) e2 (z6 + k2)
          have hB6 := HB5.out.set (a := ⟨g'', e, none⟩) hgb (.int .i64 (z5 - k2))
          have hB7 := hB6.set (a := ⟨g'', e2, none⟩) hgb (.int .i64 (z6 + k2))
          have hB8 := hB7.setK (k + k2)
          have hF7 := (HF5.out.set (a := ⟨g'', e, none⟩) (.inr (.inl (by rw [hvl]; rfl))) (.int .i64 (z5 - k2))).set (a := ⟨g'', e2, none⟩) (.inr (.inl (by rw [hvl]; rfl))) (.int .i64 (z6 + k2))
          rw [← hpl] at hS7
          have qx : W5.cell? ⟨bx, 0, none⟩ = some (.pointer (some ⟨p, 0, none⟩)) := (blk_cell HS5.out.xb 0).trans rfl
          have qp : W5.cell? ⟨p, 1, none⟩ = some (.slice (some ⟨g'', 0, none⟩) (2 * l.length) c) := (blk_cell HS5.out.rst.blk 1).trans (by rw [hvl]; rfl)
          have qx6 : (W5.setCell ⟨g'', e, none⟩ (.int .i64 (z5 - k2))).cell? ⟨bx, 0, none⟩ = some (.pointer (some ⟨p, 0, none⟩)) := (blk_cell hS6.xb 0).trans rfl
          have qp6 : (W5.setCell ⟨g'', e, none⟩ (.int .i64 (z5 - k2))).cell? ⟨p, 1, none⟩ = some (.slice (some ⟨g'', 0, none⟩) (2 * l.length) c) := (blk_cell hS6.rst.blk 1).trans (by rw [hvl]; rfl)
          have qy6 : (W5.setCell ⟨g'', e, none⟩ (.int .i64 (z5 - k2))).cell? ⟨g'', e2, none⟩ = some (.int .i64 z6) := (World.cell?_setCell_other _ _ _ _ (fun h => hee (by injection h with _ h _; exact h.symm))).trans cy
          have fy6 : (W5.setCell ⟨g'', e, none⟩ (.int .i64 (z5 - k2))).frozen? ⟨g'', e2, none⟩ = false := by simpa using fy
          have qm5 : W5.cell? ⟨w.heap.size + 1, 0, none⟩ = some (.int .i64 most) := (blk_cell HB5.out.bm 0).trans rfl
          have qk5 : W5.cell? ⟨w.heap.size + 3, 0, none⟩ = some (.int .i64 k) := (blk_cell HB5.out.bk 0).trans rfl
          have qr5 : W5.cell? ⟨w.heap.size + 2, 0, none⟩ = some (.int .i64 0) := (blk_cell HB5.out.br 0).trans rfl
          have fr5 := blk_frozen HB5.out.br 0
          have fk5 := blk_frozen HB5.out.bk 0
          have H7 := Lib.hid (And.intro hS7 (And.intro hB8 (And.intro hF7 hB7)))
          have hlx' := blk_lt HS5.out.xb
          have hlp' := blk_lt HS5.out.rst.blk
          clear hpl hS6 hS7 hB6 hB7 hB8 hF7 hf2 ha5 ha6 hvl hvl' hvl'' he2 hz5e hz6e
          have hMn : Mid l t far0 u most f (fv L) (atL l u l.length) (j + 1) (k + k2) (push f2 e k2) (fv L2) := HM.out.1.send HO.out.2.2 HE.out.1 heN HE.out.2.2.1 (by rw [HE.out.2.2.2.1, HV.out.1, HV.out.2]; exact hne) (by rw [HE.out.2.2.2.1, HZ.out.1]; exact HSent.out)
          have HMn := Lib.hid hMn
          clear hMn
          by_cases hst : k + k2 = most
          · subst hst
            gi_wp2_with fail
            have hB9 := H7.out.2.1.setR (k + k2)
            refine ⟨hB9.bo, ?_⟩
            dsimp only
            rw [if_neg (by decide)]
            exact ⟨⟨k + k2, push f2 e k2, L2, HMn.out.stop hm1 rfl, ((H7.out.1.set (a := ⟨w.heap.size + 3, 0, none⟩) (by simp only; omega) _).set (a := ⟨w.heap.size + 2, 0, none⟩) (by simp only; omega) _).put (by omega) _, hB9.put _⟩,
              ((H7.out.2.2.1.set (a := ⟨w.heap.size + 3, 0, none⟩) (.inl (by simp)) _).set (a := ⟨w.heap.size + 2, 0, none⟩) (.inl (by simp)) _).put (by omega) _⟩
          · gi_wp2_with fail
            refine ⟨H7.out.2.1.bo, ?_⟩
            dsimp only
            rw [if_pos rfl]
            exact ⟨_, ⟨k + k2, push f2 e k2, L2, rfl, HMn.out, by omega, (H7.out.1.set (a := ⟨w.heap.size + 3, 0, none⟩) (by simp only; omega) _).put (by omega) _, H7.out.2.1.put _⟩,
              (H7.out.2.2.1.set (a := ⟨w.heap.size + 3, 0, none⟩) (.inl (by simp)) _).put (by omega) _⟩
        · gi_wp2_with fail
          refine wpIn_region_quiet (by kernel_rfl) (by kernel_rfl) (by kernel_rfl) (fun h => h.elim fun _ h => h.elim fun _ h => h.elim) ?_
          repeat (go_big_quiet_step (fail))
          refine wpQuiet_nil ?_
          intro _ hw'
          obtain ⟨nq, hw''⟩ := hw'
          subst hw''
          gi_wp2_with fail
          have hS5 := HS4.out.later (below_drewN (below_self W4) nq)
          have hB5 := HB4.out.later (below_drewN (below_self W4) nq)
          have hF5 := HF4.out.later (below_drewN (below_self W4) nq) HF4.out.size
          refine ⟨hB5.bo, ?_⟩
          dsimp only
          rw [if_pos rfl]
          refine ⟨_, ⟨k, f1, L1, rfl, HM.out.1.side HO.out.2.1 HO.out.2.2 HE.out.1 ?_, HM.out.2, hS5.put (by omega) _, hB5.put _⟩, hF5.put (by omega) _⟩
          rw [HE.out.2.2.2.1]
          have h1 : fv L1 v = xv := by unfold fv; rw [Int.toNat_natCast]; exact HX.out.2
          have h2 : fv L1 u = xu := by unfold fv; rw [Int.toNat_natCast]; exact HX.out.1
          rw [h1, h2]
          exact hne
      case done =>
        rintro x W2 ⟨⟨vv, rfl⟩, hfin⟩
        refine ⟨⟨_, rfl⟩, ?_⟩
        rcases hfin with ⟨lv', ⟨k, f1, L1, rfl, hM, hk, hS, hB⟩, hF⟩ | ⟨⟨k, f1, L1, hSt, hS, hB⟩, hF⟩
        · refine .inl ⟨hB.bo, ?_⟩
          have hS3 := hS.put (q := w.heap.size + 7) (by omega) (rec .exhausted none)
          have hB3 := hB.put (rec .exhausted none)
          have hF3 := hF.put (l := w.heap.size + 7) (by omega) (rec .exhausted none)
          generalize W2.putObj (w.heap.size + 7) (rec .exhausted none) = W3 at hS3 hB3 hF3 ⊢
          have HM := Lib.hid (And.intro hM hk)
          have HS3 := Lib.hid hS3
          have HB3 := Lib.hid hB3
          have HF3 := Lib.hid hF3
          have qk : W3.cell? ⟨w.heap.size + 3, 0, none⟩ = some (.int .i64 k) := (blk_cell hB3.bk 0).trans rfl
          have qr : W3.cell? ⟨w.heap.size + 2, 0, none⟩ = some (.int .i64 0) := (blk_cell hB3.br 0).trans rfl
          have fr := blk_frozen hB3.br 0
          clear hM hS hB hF hS3 hB3 hF3 hround hrec
          by_cases hk0 : k = 0
          · obtain ⟨gf, cf, hvf, _, hgf, cu, fu⟩ := HS3.out.far.at (e := u) (by rw [HS3.out.len]; exact hu)
            rw [HS3.out.len] at hvf
            have qf : W3.cell? ⟨bf, 0, none⟩ = some (.slice (some ⟨gf, 0, none⟩) n cf) := (blk_cell HS3.out.fb 0).trans (by rw [hvf]; rfl)
            have qu : W3.cell? ⟨w.heap.size, 0, none⟩ = some (.int .i64 u) := (blk_cell HB3.out.bu 0).trans rfl
            have lf := blk_lt HS3.out.fb
            have huI : (u : Int) < (n : Int) := by omega
            have hgb : gf < w.heap.size := by have := (HS3.out.sf gf (by rw [hvf]; rfl)).2.2.2.2.2.2; omega
            have hS4 := HS3.out.lev (g := gf) (c := cf) (by rw [HS3.out.len]; exact hvf) u (-1)
            have hB4 := HB3.out.set (a := ⟨gf, u, none⟩) hgb (.int .i64 (-1))
            have hF4 := HF3.out.set (a := ⟨gf, u, none⟩) (.inr (.inr (by rw [hvf]; rfl))) (.int .i64 (-1))
            have HE := Lib.hid (And.intro hS4 (And.intro hB4 hF4))
            have HL := Lib.hid HS3.out.len
            clear hvf hS4 hB4 hF4
            gi_wp2_with fail
            subst hk0
            have hB5 := HE.out.2.1.setR 0
            refine ⟨by simp, .inl ⟨_, _, rfl, run_takeDeferred hB5.bd, ?_⟩⟩
            refine ⟨_, results_cell_int rfl _ _ (g := w.heap.size + 2) (v := .int .i64 0) rfl ((blk_cell (blk_put hB5.br (by omega)) 0).trans rfl), 0, f1, L1.set u (-1), rfl, HM.out.1.none (by omega) hut rfl (Nat.le_refl _) rfl (fun x => ?_) (fun x hx => ?_), (HE.out.1.set (a := ⟨w.heap.size + 2, 0, none⟩) (by simp only; omega) _).put (by omega) _, (HE.out.2.2.set (a := ⟨w.heap.size + 2, 0, none⟩) (.inl (by simp)) _).put (by omega) _⟩
            · have h := fv_set (L := L1) (i := (u : Int)) (y := -1) (by rw [Int.toNat_natCast, HL.out]; exact hu) x
              rw [Int.toNat_natCast] at h ⊢
              exact h
            · unfold fv; rw [hx]
          · gi_wp2_with fail
            have hB5 := HB3.out.setR k
            refine ⟨by simp, .inl ⟨_, _, rfl, run_takeDeferred hB5.bd, ?_⟩⟩
            exact ⟨_, results_cell_int rfl _ _ (g := w.heap.size + 2) (v := .int .i64 k) rfl ((blk_cell (blk_put hB5.br (by omega)) 0).trans rfl), k, f1, L1, rfl, HM.out.1.some hk0, (HS3.out.set (a := ⟨w.heap.size + 2, 0, none⟩) (by simp only; omega) _).put (by omega) _, (HF3.out.set (a := ⟨w.heap.size + 2, 0, none⟩) (.inl (by simp)) _).put (by omega) _⟩
        · refine .inr ⟨_, hB.bo, ?_⟩
          have hS3 := hS.put (q := w.heap.size + 7) (by omega) (rec .exhausted (some .ret))
          have hB3 := hB.put (rec .exhausted (some .ret))
          have hF3 := hF.put (l := w.heap.size + 7) (by omega) (rec .exhausted (some .ret))
          generalize W2.putObj (w.heap.size + 7) (rec .exhausted (some .ret)) = W3 at hS3 hB3 hF3 ⊢
          clear hS hB hF hround hrec
          have HSt := Lib.hid (And.intro hSt (And.intro hS3 (And.intro hB3 hF3)))
          clear hSt hS3 hB3 hF3
          gi_wp2_with fail
          refine ⟨by simp, .inl ⟨_, _, rfl, run_takeDeferred HSt.out.2.2.1.bd, ?_⟩⟩
          exact ⟨_, results_cell_int rfl _ _ (g := w.heap.size + 2) (v := .int .i64 k) rfl ((blk_cell (blk_put HSt.out.2.2.1.br (by omega)) 0).trans rfl), k, f1, L1, rfl, HSt.out.1, HSt.out.2.1.put (by omega) _, HSt.out.2.2.2.put (by omega) _⟩
end Go.Proofs.YthlefdbhkbpejaaGreat.F5
