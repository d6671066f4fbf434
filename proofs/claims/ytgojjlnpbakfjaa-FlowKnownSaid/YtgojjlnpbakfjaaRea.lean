/- Chapter 05: the reference's reached (written by wip/gen05rea.py). -/
import Derived.Test.YtgojjlnpbakfjaaNet
import Derived.Test.YtgojjlnpbakfjaaFloC
import Derived.Test.YtgojjlnpbakfjaaQue
import Derived.Test.YtgojjlnpbakfjaaRow
import Derived.StillTailTactics
import Derived.BigQuiet
import Derived.Deep.DeepCutAuto
import Derived.Deep.CutRange
import Derived.WalkMore
namespace Go.Proofs.Ytgojjlnpbakfjaa
open Go Go.RowKit
set_option linter.unusedSimpArgs false

abbrev Stp.cells (b : Stp) : List Value := [.int .i64 b.arc, .int .i64 b.fr, .bool b.back, .bool b.is]
abbrev StpR (B : List Stp) : List (List Value) := B.map Stp.cells
def flatS (B : List Stp) : List Value := (StpR B).flatten
theorem stp_four (B : List Stp) : ∀ r ∈ StpR B, r.length = 4 := by
  intro r hr
  obtain ⟨b, _, rfl⟩ := List.mem_map.1 hr
  rfl
theorem flatS_len (B : List Stp) : (flatS B).length = B.length * 4 := by
  unfold flatS
  rw [flat_length 4 _ (stp_four B)]
  simp
theorem flatS_get {B : List Stp} {x : Nat} (hx : x < B.length) {j : Nat} {v : Value} (hv : (B.getD x default).cells[j]? = some v) : (flatS B)[x * 4 + j]? = some v := by
  unfold flatS
  refine flat_get 4 _ (stp_four B) x (B.getD x default).cells ?_ j v hv
  rw [List.getElem?_map, List.getElem?_eq_getElem hx, List.getD_eq_getElem?_getD, List.getElem?_eq_getElem hx]
  rfl
theorem splice_flat : ∀ {B : List Stp} {i : Nat} {b : Stp}, i < B.length → splice (flatS B) (i * 4) b.cells = flatS (B.set i b)
  | [], _, _, h => by simp at h
  | x :: B, 0, b, _ => by simp [splice, flatS, StpR]
  | x :: B, i + 1, b, h => by
    have ih := splice_flat (B := B) (i := i) (b := b) (by simpa using h)
    have e : (i + 1) * 4 = x.cells.length + i * 4 := by simp; omega
    rw [List.set_cons_succ]
    show splice (x.cells ++ flatS B) ((i + 1) * 4) b.cells = x.cells ++ flatS (B.set i b)
    rw [← ih, e]
    unfold splice
    rw [List.take_length_add_append, Nat.add_assoc, List.drop_length_add_append, List.append_assoc]
/-- How many nodes aren't reached, by the row's cells. -/
def unrL : List Value → Nat
  | _ :: _ :: _ :: .bool b :: r => (if b = true then 0 else 1) + unrL r
  | _ => 0
theorem unrL_flat : ∀ B : List Stp, unrL (flatS B) = unr B
  | [] => rfl
  | b :: B => by
    show unrL (b.cells ++ flatS B) = _
    have := unrL_flat B
    simp [unrL, unr, this]
def unrW (g : Nat) (w : World) : Nat := match w.heap[g]? with
  | some (.cells c _ _) => unrL c.toList
  | _ => 0
def lenV : Value → Nat
  | .slice _ n _ => n
  | _ => 0
theorem unrW_row {g : Nat} {w : World} {B : List Stp} {t : TypeId} {fr : Nat × Nat} (h : w.heap[g]? = some (.cells (flatS B).toArray t fr)) : unrW g w = unr B := by
  unfold unrW
  rw [h]
  exact unrL_flat B
theorem made_four : ∀ n : Nat, (madeCells #[.int .i64 0, .int .i64 0, .bool false, .bool false] (n * 4)).toList = flatS (List.replicate n default)
  | 0 => by simp [madeCells, flatS]
  | n + 1 => by
    have ih := made_four n
    have e : ∀ m, (madeCells #[.int .i64 0, .int .i64 0, .bool false, .bool false] m).toList = (List.range m).map (fun i => (#[.int .i64 0, .int .i64 0, .bool false, .bool false] : Array Value)[i % 4]!) := fun m => by simp [madeCells]
    rw [e] at ih ⊢
    rw [show (n + 1) * 4 = n * 4 + 1 + 1 + 1 + 1 by omega, List.range_succ, List.range_succ, List.range_succ, List.range_succ]
    simp only [List.map_append, ih, List.map_cons, List.map_nil]
    rw [List.replicate_succ', show n * 4 % 4 = 0 by omega, show (n * 4 + 1) % 4 = 1 by omega, show (n * 4 + 1 + 1) % 4 = 2 by omega, show (n * 4 + 1 + 1 + 1) % 4 = 3 by omega]
    simp [flatS, StpR]
    exact ⟨rfl, rfl, rfl, rfl⟩
theorem infoS : (Try.prog.info? 70).map (fun i => (i.zero, i.size, i.bytes)) = some (some (.agg #[.int .i64 0, .int .i64 0, .bool false, .bool false]), 4, 24) := by kernel_rfl

/-- The net in its box; the steps; the line. -/
structure RO (w : World) (N : Int) (a : Option Addr) (k c n g : Nat) (B : List Stp) (R : Nat) (vq : Value) (q : List Int) (X : World) : Prop where
  bel : Below w.heap.size w X
  box : X.heap[w.heap.size]? = some (.cells #[.int .i64 N, .slice a k c] 24 (0, 0))
  row : X.heap[g]? = some (.cells (flatS B).toArray 70 (0, 0))
  len : B.length = n
  lo : w.heap.size < g
  hi : g < R
  line : OwnQ R X vq q
  RX : R ≤ X.heap.size
section
variable {w : World} {N : Int} {a : Option Addr} {k c n g : Nat} {B : List Stp} {R : Nat} {vq : Value} {q : List Int} {X X' : World}
theorem RO.later (h : RO w N a k c n g B R vq q X) (hb : Below X.heap.size X X') : RO w N a k c n g B R vq q X' :=
  ⟨below_trans h.bel hb, blk_below h.box hb, blk_below h.row hb, h.len, h.lo, h.hi, h.line.later hb, Nat.le_trans h.RX hb.size⟩
theorem RO.turn (h : RO w N a k c n g B R vq q X) {v2 : Value} {q2 : List Int} (h2 : OwnQ R X v2 q2) : RO w N a k c n g B R v2 q2 X := { h with line := h2 }
theorem RO.at' (h : RO w N a k c n g B R vq q X) {x : Nat} (hx : x < n) : X.cell? ⟨g, x * 4, none⟩ = some (.int .i64 (B.getD x default).arc) ∧ X.cell? ⟨g, x * 4 + 1, none⟩ = some (.int .i64 (B.getD x default).fr) ∧ X.cell? ⟨g, x * 4 + 2, none⟩ = some (.bool (B.getD x default).back) ∧ X.cell? ⟨g, x * 4 + 3, none⟩ = some (.bool (B.getD x default).is) := by
  have hx2 : x < B.length := by rw [h.len]; exact hx
  have e : ∀ j v, (B.getD x default).cells[j]? = some v → X.cell? ⟨g, x * 4 + j, none⟩ = some v := fun j v hv => by
    rw [blk_cell h.row, List.getElem?_toArray]
    exact flatS_get hx2 hv
  exact ⟨e 0 _ rfl, e 1 _ rfl, e 2 _ rfl, e 3 _ rfl⟩
theorem RO.store (h : RO w N a k c n g B R vq q X) {v : Nat} (hv : v < n) {b : Stp} (hr : X'.heap[g]? = some (.cells (splice (flatS B) (v * 4) b.cells).toArray 70 (0, 0))) (hb : ButRow g X X') : RO w N a k c n g (B.set v b) R vq q X' := by
  have hlo := h.lo
  have hhi := h.hi
  have hbx := blk_lt h.box
  refine ⟨hb.below h.bel (by omega), hb.blk h.box (by omega), ?_, by rw [List.length_set]; exact h.len, hlo, hhi, h.line.kept fun j hj => hb.block j (fun e => by have := (h.line.lt j hj).1; omega), by rw [hb.size]; exact h.RX⟩
  rw [hr, splice_flat (by rw [h.len]; exact hv)]
theorem RO.push (h : RO w N a k c n g B R vq q X) {o : Obj} {v9 : Value} {q9 : List Int} (hg : (X.alloc o).grownBy X' vq.ownBlock) (hq : OwnQ R X' v9 q9) : RO w N a k c n g B R v9 q9 X' := by
  have hlo := h.lo
  have hhi := h.hi
  have hRX := h.RX
  have hne : ∀ j, j < R → some j ≠ vq.ownBlock := fun j hj e => by have := (h.line.lt j e.symm).1; omega
  refine ⟨?_, grown_blk hg (blk_alloc h.box _) (hne _ (by omega)), grown_blk hg (blk_alloc h.row _) (hne _ hhi), h.len, hlo, hhi, hq, ?_⟩
  · exact (below_alloc h.bel o).grown hg (by have := h.bel.size; simp; omega) (fun j hj => by have := (h.line.lt j hj).1; omega)
  · have := hg.size
    simp at this
    omega
/-- Another block of another type. -/
theorem OwnQ.ne_type {base : Nat} {W : World} {v : Value} {q : List Int} (h : OwnQ base W v q) {k : Nat} {cs : Array Value} {t : TypeId} {fr : Nat × Nat} (hb : W.heap[k]? = some (.cells cs t fr)) (hte : t ≠ 3) : some k ≠ v.ownBlock := by
  obtain ⟨g, off, cap, cur, rfl, _, hg, _⟩ := h
  intro e
  obtain rfl : k = g := by simpa [Value.ownBlock] using e
  rw [hg] at hb
  injection hb with hb
  injection hb with _ h2
  exact hte h2.symm
end

set_option maxRecDepth 100000 in
set_option maxHeartbeats 16000000 in
theorem reached_ok (n : Nat) (a : Option Addr) (k c : Nat) (l : List Ar) (s : Nat) (af : Option Addr) (cf : Nat) (f : List Int) (w : World) (hn : l.length = k) (hv : netOk n l = true) (hm : RowsAt w.heap.size w a 3 (Ars l)) (hs : s < n) (hf : okF l f) (hmf : RowsAt w.heap.size w af 1 (Ints f)) :
    Calls Try.prog 37 #[.agg #[.int .i64 n, .slice a k c], .int .i64 s, .slice af k cf] w fun e W' => ∃ g B, e = .returned (.slice (some ⟨g, 0, none⟩) n n) ∧ (∃ r, ReaO n l f s B [] r) ∧ W'.heap[g]? = some (.cells (flatS B).toArray 70 (0, 0)) ∧ w.heap.size ≤ g ∧ Below w.heap.size w W' := by
  obtain ⟨h2, h64, h128, hA⟩ := netOk_iff.1 hv
  have hnf : f.length = k := by rw [okF_len hf, hn]
  have hin : inN n l := fun x hx => by have := okA_iff.1 (hA x hx); omega
  have HM := Lib.hid (And.intro hn (And.intro hm (And.intro hnf (And.intro hmf (And.intro hA (And.intro hf hin))))))
  have hk : k ≤ 128 := by omega
  have hn64 : n ≤ 64 := by omega
  have hsI : (s : Int) < (n : Int) := by omega
  clear hn hm hnf hmf hA hf hv h2 h64 h128 hin
  go_enter Try.func37, Try.ntmps37
  obtain ⟨i0, hi, hz0, hz1, hz2⟩ := info_parts infoS
  go_wp2_with (with_reducible refine wpList_make_row rfl 67 _ _ rfl 70 i0 _ 4 24 Try.underlying67 hi hz0 hz1 hz2 n _ rfl rfl ?a2 ?a3 ?a4 ?_)
  case a2 => rfl
  case a3 => omega
  case a4 => omega
  intro W4 h4 hb4 hs4
  have h4' : W4.heap[w.heap.size + 1]? = some (.cells (flatS (List.replicate n default)).toArray 70 (0, 0)) := by
    rw [← made_four]
    simpa using h4.out
  have hbw : Below w.heap.size w W4 := (below_alloc (below_self w) _).trans (hb4.mono (by omega))
  have h0' : W4.heap[w.heap.size]? = some (.cells #[.int .i64 n, .slice a k c] 24 (0, 0)) := (hb4.block w.heap.size (by omega)).trans (blk_new w _)
  have hsz4 : W4.heap.size = w.heap.size + 1 + 1 := by rw [hs4]
  have H4 := Lib.hid (And.intro h4' (And.intro hbw (And.intro h0' hsz4)))
  clear h4 hb4 hs4 h4' hbw h0' hsz4 hi hz0 hz1 hz2
  go_wp2_with (with_reducible refine wpList_store_row rfl 70 _ _ rfl (w.heap.size + 1) (s * 4) (Stp.cells ⟨-1, s, false, true⟩) rfl rfl _ 70 H4.out.1 (by kernel_rfl) ?b1 ?b2 ?_)
  case b1 => rw [flatS_len]; simp; omega
  case b2 => simp [Value.oneCell']
  intro W5 hr5 hb5
  have hR0 : RO w n a k c n (w.heap.size + 1) ((List.replicate n default).set s ⟨-1, s, false, true⟩) (w.heap.size + 2) (.slice (some ⟨w.heap.size + 2, 0, none⟩) 1 1) [(s : Int)] (W5.alloc (.cells #[.int .i64 s] 3)) := by
    have h1 := hb5.size
    have h2 := H4.out.2.2.2
    have hsz : W5.heap.size = w.heap.size + 2 := by omega
    refine ⟨below_alloc (hb5.below H4.out.2.1 (by omega)) _, blk_alloc (hb5.blk H4.out.2.2.1 (by omega)) _, blk_alloc ?_ _, by simp, by omega, by omega, OwnQ.new (by omega) ?_, by simp; omega⟩
    · rw [hr5.out, splice_flat (by simpa using hs)]
    · have := blk_new W5 (.cells #[.int .i64 s] 3)
      rw [hsz] at this
      exact this
  have HR0 := Lib.hid (And.intro hR0 (show W5.heap.size = w.heap.size + 2 by have h1 := hb5.size; have h2 := H4.out.2.2.2; omega))
  clear hR0 hr5 hb5
  have HBO := Lib.hid (ReaO.start (f := f) (s := (s : Int)) HM.out.2.2.2.2.2.2 (by omega) (by omega))
  clear H4
  go_wp2_with fail
  rw [HR0.out.2]
  go_loopw [8] (fun vv wr => ∃ (vq : Value) (q : List Int) (B : List Stp) (r : Int → Nat) (X : World), vv = vq ∧ X = wr ∧ Hid (RO w n a k c n (w.heap.size + 1) B (w.heap.size + 2) vq q X ∧ ReaO n l f s B q r)) (fun vv wr => lenV vv + unrW (w.heap.size + 1) wr)
  case atStart => exact ⟨_, _, _, _, _, rfl, rfl, Lib.hid ⟨HR0.out.1, HBO.out⟩⟩
  case round =>
    clear HR0 HBO
    obtain ⟨vq, q, B, r, X, rfl, rfl, HX⟩ := hrel
    have hln := HX.out.1.line
    cases q with
    | nil =>
      obtain ⟨gq, oq, cq, rfl, hcq, _⟩ := hln.slice
      clear hln hcq
      go_wp2_with fail
      go_ret
      exact ⟨_, B, rfl, ⟨r, HX.out.2⟩, HX.out.1.row, by omega, HX.out.1.bel⟩
    | cons x q =>
      obtain ⟨gq, oq, cq, rfl, hx, hoq, hcq, hgq⟩ := hln.front
      have hq0 : (0 : Int) < (q.length : Int) + 1 := by omega
      have hxn := (HX.out.2.inq x (by simp)).1
      obtain ⟨u, rfl⟩ : ∃ u : Nat, x = u := ⟨x.toNat, by omega⟩
      have HQ := Lib.hid (And.intro hln hoq)
      have hcI : (q.length : Int) + 1 ≤ (cq : Int) := by omega
      clear hln hoq hxn
      go_upto_region 6 with fail
      clear hx
      go_cut [8] from 28 to 29 (fun vv wx => ∃ vq, vv = vq ∧ X = wx ∧ Hid (OwnQ (w.heap.size + 2) X vq q))
      case first =>
        by_cases hc1 : cq = 1
        · subst hc1
          obtain rfl : q = [] := List.eq_nil_of_length_eq_zero (by omega)
          have HS := Lib.hid (HQ.out.1.stay)
          go_wp2_with fail
          go_meet
          exact ⟨_, rfl, rfl, HS⟩
        · have hc2 : ¬ cq - 1 = 0 := by omega
          have HS := Lib.hid HQ.out.2
          go_wp2_with fail
          go_meet
          exact ⟨_, rfl, rfl, HS⟩
      case rest =>
        obtain ⟨vq, rfl, rfl, HO⟩ := hcut
        have HX2 := Lib.hid (And.intro (HX.out.1.turn HO.out) (And.intro HX.out.2.enter (show q.length + unr B + 1 = q.length + 1 + unrW (w.heap.size + 1) X by rw [unrW_row HX.out.1.row]; omega)))
        have p1 : X.cell? ⟨w.heap.size, 1, none⟩ = some (.slice a k c) := (blk_cell HX.out.1.box 1).trans rfl
        have lp := blk_lt HX.out.1.box
        clear HX HO HQ hcI hcq hgq
        go_wp2_with fail
        clear p1 lp
        go_loopw [8, 33] (fun vv i wr => ∃ (j : Nat) (vq1 : Value) (q1 : List Int) (B1 : List Stp) (r1 : Int → Nat) (Y : World), j ≤ k ∧ vv = vq1 ∧ i = .int .i64 j ∧ Y = wr ∧ Hid (RO w n a k c n (w.heap.size + 1) B1 (w.heap.size + 2) vq1 q1 Y ∧ ReaI n l f s u (2 * j) B1 q1 r1 ∧ q1.length + unr B1 + 1 = q.length + 1 + unrW (w.heap.size + 1) X)) (fun _ i _ => k - (intOf i).toNat)
        case atStart => exact ⟨0, _, _, _, _, _, Nat.zero_le _, rfl, rfl, rfl, HX2⟩
        case round =>
          clear HX2
          obtain ⟨j, vq1, q1, B1, r1, Y, hj, rfl, rfl, rfl, HY⟩ := hrel
          by_cases hlt : j < k
          · have hltI : (j : Int) < (k : Int) := by omega
            have hjl : j < l.length := by rw [HM.out.1]; exact hlt
            have hA := okA_iff.1 (HM.out.2.2.2.2.1 (l.getD j default) (by rw [List.getD_eq_getElem?_getD, List.getElem?_eq_getElem hjl]; exact List.getElem_mem _))
            obtain ⟨b1, o1, rfl, hb1, c0, c1, c2⟩ := ars_at HM.out.2.1 j hjl
            obtain ⟨b2, o2, rfl, hb2, d0⟩ := ints_at HM.out.2.2.2.1 j (by rw [HM.out.2.2.1]; exact hlt)
            replace c0 := cell_call HY.out.1.bel hb1 c0
            replace c1 := cell_call HY.out.1.bel hb1 c1
            replace c2 := cell_call HY.out.1.bel hb1 c2
            replace d0 := cell_call HY.out.1.bel hb2 d0
            replace hb1 : b1 < Y.heap.size := Nat.lt_of_lt_of_le hb1 HY.out.1.bel.size
            replace hb2 : b2 < Y.heap.size := Nat.lt_of_lt_of_le hb2 HY.out.1.bel.size
            have t0 : tl l (2 * j) = (l.getD j default).u := by unfold tl; rw [if_pos (by omega), show 2 * j / 2 = j by omega]
            have t1 : hd l (2 * j) = (l.getD j default).v := by unfold hd; rw [if_pos (by omega), show 2 * j / 2 = j by omega]
            have t2 : room l f (2 * j) = (l.getD j default).c - f.getD j default := by unfold room; rw [if_pos (by omega), show 2 * j / 2 = j by omega]; rfl
            have t3 : tl l (2 * j + 1) = (l.getD j default).v := by unfold tl; rw [if_neg (by omega), show (2 * j + 1) / 2 = j by omega]
            have t4 : hd l (2 * j + 1) = (l.getD j default).u := by unfold hd; rw [if_neg (by omega), show (2 * j + 1) / 2 = j by omega]
            have t5 : room l f (2 * j + 1) = f.getD j default := by unfold room; rw [if_neg (by omega), show (2 * j + 1) / 2 = j by omega]; rfl
            obtain ⟨x, hx⟩ : ∃ x, l.getD j default = x := ⟨_, rfl⟩
            obtain ⟨y, hy⟩ : ∃ y, f.getD j default = y := ⟨_, rfl⟩
            rw [hx] at hA c0 c1 c2 t0 t1 t2 t3 t4
            rw [hy] at d0 t2 t5
            obtain ⟨xu, xv, xc⟩ := x
            simp only at hA c0 c1 c2 t0 t1 t2 t3 t4
            obtain ⟨⟨u0, u1⟩, ⟨v0, v1⟩, huv, zz0, zz1⟩ := hA
            obtain ⟨iu, rfl⟩ : ∃ u : Nat, xu = u := ⟨xu.toNat, by omega⟩
            obtain ⟨iv, rfl⟩ : ∃ v : Nat, xv = v := ⟨xv.toNat, by omega⟩
            have huI : (iu : Int) < (n : Int) := by omega
            have hvI : (iv : Int) < (n : Int) := by omega
            have hunI : (u : Int) < (n : Int) := by have := HY.out.2.1.nu; omega
            have HE := Lib.hid (And.intro t0 (And.intro t1 (And.intro t2 (And.intro t3 (And.intro t4 t5)))))
            have HUV := Lib.hid huv
            have HJ := Lib.hid hjl
            have QK := True.intro
            clear t0 t1 t2 t3 t4 t5 hx hy huv hjl u0 v0 u1 v1
            by_cases hu : u = iu
            · subst hu
              have hvu : ((iv : Int) == (u : Int)) = false := beq_eq_false_iff_ne.2 (fun e => HUV.out e.symm)
              have huu : ((u : Int) == (u : Int)) = true := beq_iff_eq.2 rfl
              obtain ⟨_, _, _, qv⟩ := HY.out.1.at' (x := iv) (by omega)
              cases his : (B1.getD iv default).is
              · rw [his] at qv
                have HIS := Lib.hid his
                clear his
                by_cases hrm : y < xc
                · have lgy := blk_lt HY.out.1.row
                  go_wp2_with fail
                  go_quiet (fail)
                  have hbZ := below_drewN (below_alloc (below_self Y) (.cells #[.int .i64 u, .int .i64 iv, .int .i64 xc] 32)) nq
                  have HZ := Lib.hid (And.intro (HY.out.1.later hbZ) (show ((Y.alloc (.cells #[.int .i64 u, .int .i64 iv, .int .i64 xc] 32)).drewN nq).heap[Y.heap.size]? = some (.cells #[.int .i64 u, .int .i64 iv, .int .i64 xc] 32 (0, 0)) from blk_new Y _))
                  have HI := Lib.hid HY.out.2
                  have hmg : Y.heap.size ≠ w.heap.size + 1 := by have := blk_lt HY.out.1.row; omega
                  have HMG := Lib.hid hmg
                  have d0z := cell_call hbZ hb2 d0
                  have hb2z := Nat.lt_of_lt_of_le hb2 hbZ.size
                  clear hbZ c0 c1 c2 hb1 HY hmg d0 hb2 QK lgy
                  generalize Y.heap.size = m at HZ HMG ⊢
                  generalize (Y.alloc (.cells #[.int .i64 u, .int .i64 iv, .int .i64 xc] 32)).drewN nq = Z at HZ d0z hb2z ⊢
                  have e0 : Z.cell? ⟨m, 0, none⟩ = some (.int .i64 u) := (blk_cell HZ.out.2 0).trans rfl
                  have e1 : Z.cell? ⟨m, 1, none⟩ = some (.int .i64 iv) := (blk_cell HZ.out.2 1).trans rfl
                  have lm := blk_lt HZ.out.2
                  have lg := blk_lt HZ.out.1.row
                  go_wp2_with (with_reducible refine wpList_store_row rfl 70 _ _ rfl (w.heap.size + 1) (iv * 4) (Stp.cells ⟨(j : Int), (u : Int), false, true⟩) rfl rfl _ 70 HZ.out.1.row (by kernel_rfl) ?b1 ?b2 ?_)
                  case b1 => rw [flatS_len, HZ.out.1.len]; simp; omega
                  case b2 => simp [Value.oneCell']
                  intro W6 hr6 hb6
                  have H6 := Lib.hid (And.intro (HZ.out.1.store (v := iv) (b := ⟨(j : Int), (u : Int), false, true⟩) (by omega) hr6.out hb6) (hb6.blk HZ.out.2 HMG.out))
                  have f0 : W6.cell? ⟨m, 0, none⟩ = some (.int .i64 u) := (blk_cell H6.out.2 0).trans rfl
                  have f1 : W6.cell? ⟨m, 1, none⟩ = some (.int .i64 iv) := (blk_cell H6.out.2 1).trans rfl
                  have lm := blk_lt H6.out.2
                  clear hr6 hb6 e0 e1 d0z hb2z lg
                  go_wp2_with (at_builtin; go_must (refine wpList_append_q rfl _ _ rfl (w.heap.size + 2) _ q1 rfl (H6.out.1.line.later (below_alloc (below_self _) _)) (iv : Int) _ 1 rfl ?c1 ?c2 ?c3 ?_))
                  case c1 => exact src_new _ _ _
                  case c2 => have := HI.out.1.most; omega
                  case c3 => have := H6.out.1.RX; simp; omega
                  intro v9 W9 hq9 hg9 hn9
                  have h9 := H6.out.1.push hg9.out hq9.out
                  have ab9 := grown_blk hg9.out (blk_alloc H6.out.2 _) (H6.out.1.line.ne_type H6.out.2 (by decide))
                  have g0 : W9.cell? ⟨m, 0, none⟩ = some (.int .i64 u) := (blk_cell ab9 0).trans rfl
                  have g1 : W9.cell? ⟨m, 1, none⟩ = some (.int .i64 iv) := (blk_cell ab9 1).trans rfl
                  have lm := blk_lt ab9
                  have hI1 := ReaI.reach (r := r1) (v := (iv : Int)) (b := ⟨(j : Int), (u : Int), false, true⟩) HM.out.2.2.2.2.2.2 HI.out.1 (m := 2 * j) (by have := HJ.out; omega) HE.out.1 (by rw [HE.out.2.2.1]; omega) HE.out.2.1 (by omega) (by omega) (by unfold sv; rw [Int.toNat_natCast]; exact HIS.out) (by rw [show 2 * j / 2 = j by omega, show 2 * j % 2 = 0 by omega]; rfl)
                  rw [Int.toNat_natCast] at hI1
                  have hun := unr_set (B := B1) (i := iv) (b := ⟨(j : Int), (u : Int), false, true⟩) (by rw [HZ.out.1.len]; omega) HIS.out rfl
                  have HN := Lib.hid (And.intro h9 (And.intro (show ReaI n l f s u (2 * (j + 1)) _ _ _ from ReaI.pass (m := 2 * j + 1) hI1 (fun h _ => absurd (HE.out.2.2.2.1.symm.trans h) (fun e => HUV.out e.symm))) (show (q1 ++ [(iv : Int)]).length + unr (B1.set iv ⟨(j : Int), (u : Int), false, true⟩) + 1 = q.length + 1 + unrW (w.heap.size + 1) X by have := HI.out.2; rw [List.length_append, List.length_cons, List.length_nil]; omega)))
                  clear h9 ab9 hI1 hun hq9 hg9 hn9 H6 HZ HI f0 f1
                  go_wp2_with fail
                  go_roundw
                  case rel => exact ⟨j + 1, _, q1 ++ [(iv : Int)], B1.set iv ⟨(j : Int), (u : Int), false, true⟩, _, _, by omega, rfl, by go_num, rfl, HN⟩
                  case measure => simp [intOf]; omega
                · skip
                  have lgy := blk_lt HY.out.1.row
                  go_wp2_with fail
                  go_quiet (fail)
                  have hbZ := below_drewN (below_alloc (below_self Y) (.cells #[.int .i64 u, .int .i64 iv, .int .i64 xc] 32)) nq
                  have HZ := Lib.hid (And.intro (HY.out.1.later hbZ) (show ((Y.alloc (.cells #[.int .i64 u, .int .i64 iv, .int .i64 xc] 32)).drewN nq).heap[Y.heap.size]? = some (.cells #[.int .i64 u, .int .i64 iv, .int .i64 xc] 32 (0, 0)) from blk_new Y _))
                  have HI := Lib.hid HY.out.2
                  have hmg : Y.heap.size ≠ w.heap.size + 1 := by have := blk_lt HY.out.1.row; omega
                  have HMG := Lib.hid hmg
                  have d0z := cell_call hbZ hb2 d0
                  have hb2z := Nat.lt_of_lt_of_le hb2 hbZ.size
                  clear hbZ c0 c1 c2 hb1 HY hmg d0 hb2 QK lgy
                  generalize Y.heap.size = m at HZ HMG ⊢
                  generalize (Y.alloc (.cells #[.int .i64 u, .int .i64 iv, .int .i64 xc] 32)).drewN nq = Z at HZ d0z hb2z ⊢
                  have e0 : Z.cell? ⟨m, 0, none⟩ = some (.int .i64 u) := (blk_cell HZ.out.2 0).trans rfl
                  have e1 : Z.cell? ⟨m, 1, none⟩ = some (.int .i64 iv) := (blk_cell HZ.out.2 1).trans rfl
                  have lm := blk_lt HZ.out.2
                  have lg := blk_lt HZ.out.1.row
                  have HN := Lib.hid (And.intro HZ.out.1 (And.intro (show ReaI n l f s u (2 * (j + 1)) B1 q1 r1 from ReaI.pass (m := 2 * j + 1) (ReaI.pass (m := 2 * j) HI.out.1 (fun _ hr => absurd hr (by rw [HE.out.2.2.1]; omega))) (fun h _ => absurd (HE.out.2.2.2.1.symm.trans h) (fun e => HUV.out e.symm))) HI.out.2))
                  clear HZ HI
                  go_wp2_with fail
                  go_roundw
                  case rel => exact ⟨j + 1, _, q1, B1, r1, _, by omega, rfl, by go_num, rfl, HN⟩
                  case measure => simp [intOf]; omega
              · rw [his] at qv
                have HIS := Lib.hid his
                clear his
                have lgy := blk_lt HY.out.1.row
                go_wp2_with fail
                go_quiet (fail)
                have hbZ := below_drewN (below_alloc (below_self Y) (.cells #[.int .i64 u, .int .i64 iv, .int .i64 xc] 32)) nq
                have HZ := Lib.hid (And.intro (HY.out.1.later hbZ) (show ((Y.alloc (.cells #[.int .i64 u, .int .i64 iv, .int .i64 xc] 32)).drewN nq).heap[Y.heap.size]? = some (.cells #[.int .i64 u, .int .i64 iv, .int .i64 xc] 32 (0, 0)) from blk_new Y _))
                have HI := Lib.hid HY.out.2
                have hmg : Y.heap.size ≠ w.heap.size + 1 := by have := blk_lt HY.out.1.row; omega
                have HMG := Lib.hid hmg
                have d0z := cell_call hbZ hb2 d0
                have hb2z := Nat.lt_of_lt_of_le hb2 hbZ.size
                clear hbZ c0 c1 c2 hb1 HY hmg d0 hb2 QK lgy
                generalize Y.heap.size = m at HZ HMG ⊢
                generalize (Y.alloc (.cells #[.int .i64 u, .int .i64 iv, .int .i64 xc] 32)).drewN nq = Z at HZ d0z hb2z ⊢
                have e0 : Z.cell? ⟨m, 0, none⟩ = some (.int .i64 u) := (blk_cell HZ.out.2 0).trans rfl
                have e1 : Z.cell? ⟨m, 1, none⟩ = some (.int .i64 iv) := (blk_cell HZ.out.2 1).trans rfl
                have lm := blk_lt HZ.out.2
                have lg := blk_lt HZ.out.1.row
                have HN := Lib.hid (And.intro HZ.out.1 (And.intro (show ReaI n l f s u (2 * (j + 1)) B1 q1 r1 from ReaI.pass (m := 2 * j + 1) (ReaI.pass (m := 2 * j) HI.out.1 (fun _ _ => by rw [HE.out.2.1]; unfold sv; rw [Int.toNat_natCast]; exact HIS.out)) (fun h _ => absurd (HE.out.2.2.2.1.symm.trans h) (fun e => HUV.out e.symm))) HI.out.2))
                clear HZ HI
                go_wp2_with fail
                go_roundw
                case rel => exact ⟨j + 1, _, q1, B1, r1, _, by omega, rfl, by go_num, rfl, HN⟩
                case measure => simp [intOf]; omega
            · have hub : ((iu : Int) == (u : Int)) = false := beq_eq_false_iff_ne.2 (by omega)
              have HU := Lib.hid hu
              by_cases hv : u = iv
              · subst hv
                have huu : ((u : Int) == (u : Int)) = true := beq_iff_eq.2 rfl
                obtain ⟨_, _, _, qu⟩ := HY.out.1.at' (x := iu) (by omega)
                clear hu
                cases his : (B1.getD iu default).is
                · rw [his] at qu
                  have HIS := Lib.hid his
                  clear his
                  by_cases hrm : 0 < y
                  · have lgy := blk_lt HY.out.1.row
                    go_wp2_with fail
                    go_quiet (fail)
                    have hbZ := below_drewN (below_alloc (below_self Y) (.cells #[.int .i64 iu, .int .i64 u, .int .i64 xc] 32)) nq
                    have HZ := Lib.hid (And.intro (HY.out.1.later hbZ) (show ((Y.alloc (.cells #[.int .i64 iu, .int .i64 u, .int .i64 xc] 32)).drewN nq).heap[Y.heap.size]? = some (.cells #[.int .i64 iu, .int .i64 u, .int .i64 xc] 32 (0, 0)) from blk_new Y _))
                    have HI := Lib.hid HY.out.2
                    have hmg : Y.heap.size ≠ w.heap.size + 1 := by have := blk_lt HY.out.1.row; omega
                    have HMG := Lib.hid hmg
                    have d0z := cell_call hbZ hb2 d0
                    have hb2z := Nat.lt_of_lt_of_le hb2 hbZ.size
                    clear hbZ c0 c1 c2 hb1 HY hmg d0 hb2 QK lgy
                    generalize Y.heap.size = m at HZ HMG ⊢
                    generalize (Y.alloc (.cells #[.int .i64 iu, .int .i64 u, .int .i64 xc] 32)).drewN nq = Z at HZ d0z hb2z ⊢
                    have e0 : Z.cell? ⟨m, 0, none⟩ = some (.int .i64 iu) := (blk_cell HZ.out.2 0).trans rfl
                    have e1 : Z.cell? ⟨m, 1, none⟩ = some (.int .i64 u) := (blk_cell HZ.out.2 1).trans rfl
                    have lm := blk_lt HZ.out.2
                    have lg := blk_lt HZ.out.1.row
                    obtain ⟨_, _, _, qz⟩ := HZ.out.1.at' (x := iu) (by omega)
                    rw [HIS.out] at qz
                    go_wp2_with (with_reducible refine wpList_store_row rfl 70 _ _ rfl (w.heap.size + 1) (iu * 4) (Stp.cells ⟨(j : Int), (u : Int), true, true⟩) rfl rfl _ 70 HZ.out.1.row (by kernel_rfl) ?b1 ?b2 ?_)
                    case b1 => rw [flatS_len, HZ.out.1.len]; simp; omega
                    case b2 => simp [Value.oneCell']
                    intro W6 hr6 hb6
                    have H6 := Lib.hid (And.intro (HZ.out.1.store (v := iu) (b := ⟨(j : Int), (u : Int), true, true⟩) (by omega) hr6.out hb6) (hb6.blk HZ.out.2 HMG.out))
                    have f0 : W6.cell? ⟨m, 0, none⟩ = some (.int .i64 iu) := (blk_cell H6.out.2 0).trans rfl
                    have f1 : W6.cell? ⟨m, 1, none⟩ = some (.int .i64 u) := (blk_cell H6.out.2 1).trans rfl
                    have lm := blk_lt H6.out.2
                    clear hr6 hb6 e0 e1 d0z hb2z lg
                    go_wp2_with (at_builtin; go_must (refine wpList_append_q rfl _ _ rfl (w.heap.size + 2) _ q1 rfl (H6.out.1.line.later (below_alloc (below_self _) _)) (iu : Int) _ 1 rfl ?c1 ?c2 ?c3 ?_))
                    case c1 => exact src_new _ _ _
                    case c2 => have := HI.out.1.most; omega
                    case c3 => have := H6.out.1.RX; simp; omega
                    intro v9 W9 hq9 hg9 hn9
                    have h9 := H6.out.1.push hg9.out hq9.out
                    have ab9 := grown_blk hg9.out (blk_alloc H6.out.2 _) (H6.out.1.line.ne_type H6.out.2 (by decide))
                    have g0 : W9.cell? ⟨m, 0, none⟩ = some (.int .i64 iu) := (blk_cell ab9 0).trans rfl
                    have g1 : W9.cell? ⟨m, 1, none⟩ = some (.int .i64 u) := (blk_cell ab9 1).trans rfl
                    have lm := blk_lt ab9
                    have hI1 := ReaI.reach (r := r1) (v := (iu : Int)) (b := ⟨(j : Int), (u : Int), true, true⟩) HM.out.2.2.2.2.2.2 (ReaI.pass (m := 2 * j) HI.out.1 (fun h _ => absurd (HE.out.1.symm.trans h) (fun e => HU.out (by omega)))) (m := 2 * j + 1) (by have := HJ.out; omega) HE.out.2.2.2.1 (by rw [HE.out.2.2.2.2.2]; omega) HE.out.2.2.2.2.1 (by omega) (by omega) (by unfold sv; rw [Int.toNat_natCast]; exact HIS.out) (by rw [show (2 * j + 1) / 2 = j by omega, show (2 * j + 1) % 2 = 1 by omega]; rfl)
                    rw [Int.toNat_natCast] at hI1
                    have hun := unr_set (B := B1) (i := iu) (b := ⟨(j : Int), (u : Int), true, true⟩) (by rw [HZ.out.1.len]; omega) HIS.out rfl
                    have HN := Lib.hid (And.intro h9 (And.intro (show ReaI n l f s u (2 * (j + 1)) _ _ _ from hI1) (show (q1 ++ [(iu : Int)]).length + unr (B1.set iu ⟨(j : Int), (u : Int), true, true⟩) + 1 = q.length + 1 + unrW (w.heap.size + 1) X by have := HI.out.2; rw [List.length_append, List.length_cons, List.length_nil]; omega)))
                    clear h9 ab9 hI1 hun hq9 hg9 hn9 H6 HZ HI f0 f1
                    go_wp2_with fail
                    go_roundw
                    case rel => exact ⟨j + 1, _, q1 ++ [(iu : Int)], B1.set iu ⟨(j : Int), (u : Int), true, true⟩, _, _, by omega, rfl, by go_num, rfl, HN⟩
                    case measure => simp [intOf]; omega
                  · skip
                    have lgy := blk_lt HY.out.1.row
                    go_wp2_with fail
                    go_quiet (fail)
                    have hbZ := below_drewN (below_alloc (below_self Y) (.cells #[.int .i64 iu, .int .i64 u, .int .i64 xc] 32)) nq
                    have HZ := Lib.hid (And.intro (HY.out.1.later hbZ) (show ((Y.alloc (.cells #[.int .i64 iu, .int .i64 u, .int .i64 xc] 32)).drewN nq).heap[Y.heap.size]? = some (.cells #[.int .i64 iu, .int .i64 u, .int .i64 xc] 32 (0, 0)) from blk_new Y _))
                    have HI := Lib.hid HY.out.2
                    have hmg : Y.heap.size ≠ w.heap.size + 1 := by have := blk_lt HY.out.1.row; omega
                    have HMG := Lib.hid hmg
                    have d0z := cell_call hbZ hb2 d0
                    have hb2z := Nat.lt_of_lt_of_le hb2 hbZ.size
                    clear hbZ c0 c1 c2 hb1 HY hmg d0 hb2 QK lgy
                    generalize Y.heap.size = m at HZ HMG ⊢
                    generalize (Y.alloc (.cells #[.int .i64 iu, .int .i64 u, .int .i64 xc] 32)).drewN nq = Z at HZ d0z hb2z ⊢
                    have e0 : Z.cell? ⟨m, 0, none⟩ = some (.int .i64 iu) := (blk_cell HZ.out.2 0).trans rfl
                    have e1 : Z.cell? ⟨m, 1, none⟩ = some (.int .i64 u) := (blk_cell HZ.out.2 1).trans rfl
                    have lm := blk_lt HZ.out.2
                    have lg := blk_lt HZ.out.1.row
                    obtain ⟨_, _, _, qz⟩ := HZ.out.1.at' (x := iu) (by omega)
                    rw [HIS.out] at qz
                    have HN := Lib.hid (And.intro HZ.out.1 (And.intro (show ReaI n l f s u (2 * (j + 1)) B1 q1 r1 from ReaI.pass (m := 2 * j + 1) (ReaI.pass (m := 2 * j) HI.out.1 (fun h _ => absurd (HE.out.1.symm.trans h) (fun e => HU.out (by omega)))) (fun _ hr => absurd hr (by rw [HE.out.2.2.2.2.2]; omega))) HI.out.2))
                    clear HZ HI
                    go_wp2_with fail
                    go_roundw
                    case rel => exact ⟨j + 1, _, q1, B1, r1, _, by omega, rfl, by go_num, rfl, HN⟩
                    case measure => simp [intOf]; omega
                · rw [his] at qu
                  have HIS := Lib.hid his
                  clear his
                  have lgy := blk_lt HY.out.1.row
                  go_wp2_with fail
                  go_quiet (fail)
                  have hbZ := below_drewN (below_alloc (below_self Y) (.cells #[.int .i64 iu, .int .i64 u, .int .i64 xc] 32)) nq
                  have HZ := Lib.hid (And.intro (HY.out.1.later hbZ) (show ((Y.alloc (.cells #[.int .i64 iu, .int .i64 u, .int .i64 xc] 32)).drewN nq).heap[Y.heap.size]? = some (.cells #[.int .i64 iu, .int .i64 u, .int .i64 xc] 32 (0, 0)) from blk_new Y _))
                  have HI := Lib.hid HY.out.2
                  have hmg : Y.heap.size ≠ w.heap.size + 1 := by have := blk_lt HY.out.1.row; omega
                  have HMG := Lib.hid hmg
                  have d0z := cell_call hbZ hb2 d0
                  have hb2z := Nat.lt_of_lt_of_le hb2 hbZ.size
                  clear hbZ c0 c1 c2 hb1 HY hmg d0 hb2 QK lgy
                  generalize Y.heap.size = m at HZ HMG ⊢
                  generalize (Y.alloc (.cells #[.int .i64 iu, .int .i64 u, .int .i64 xc] 32)).drewN nq = Z at HZ d0z hb2z ⊢
                  have e0 : Z.cell? ⟨m, 0, none⟩ = some (.int .i64 iu) := (blk_cell HZ.out.2 0).trans rfl
                  have e1 : Z.cell? ⟨m, 1, none⟩ = some (.int .i64 u) := (blk_cell HZ.out.2 1).trans rfl
                  have lm := blk_lt HZ.out.2
                  have lg := blk_lt HZ.out.1.row
                  obtain ⟨_, _, _, qz⟩ := HZ.out.1.at' (x := iu) (by omega)
                  rw [HIS.out] at qz
                  have HN := Lib.hid (And.intro HZ.out.1 (And.intro (show ReaI n l f s u (2 * (j + 1)) B1 q1 r1 from ReaI.pass (m := 2 * j + 1) (ReaI.pass (m := 2 * j) HI.out.1 (fun h _ => absurd (HE.out.1.symm.trans h) (fun e => HU.out (by omega)))) (fun _ _ => by rw [HE.out.2.2.2.2.1]; unfold sv; rw [Int.toNat_natCast]; exact HIS.out)) HI.out.2))
                  clear HZ HI
                  go_wp2_with fail
                  go_roundw
                  case rel => exact ⟨j + 1, _, q1, B1, r1, _, by omega, rfl, by go_num, rfl, HN⟩
                  case measure => simp [intOf]; omega
              · have hvb : ((iv : Int) == (u : Int)) = false := beq_eq_false_iff_ne.2 (by omega)
                have HV := Lib.hid hv
                clear hu hv
                have lgy := blk_lt HY.out.1.row
                go_wp2_with fail
                go_quiet (fail)
                have hbZ := below_drewN (below_alloc (below_self Y) (.cells #[.int .i64 iu, .int .i64 iv, .int .i64 xc] 32)) nq
                have HZ := Lib.hid (And.intro (HY.out.1.later hbZ) (show ((Y.alloc (.cells #[.int .i64 iu, .int .i64 iv, .int .i64 xc] 32)).drewN nq).heap[Y.heap.size]? = some (.cells #[.int .i64 iu, .int .i64 iv, .int .i64 xc] 32 (0, 0)) from blk_new Y _))
                have HI := Lib.hid HY.out.2
                have hmg : Y.heap.size ≠ w.heap.size + 1 := by have := blk_lt HY.out.1.row; omega
                have HMG := Lib.hid hmg
                have d0z := cell_call hbZ hb2 d0
                have hb2z := Nat.lt_of_lt_of_le hb2 hbZ.size
                clear hbZ c0 c1 c2 hb1 HY hmg d0 hb2 QK lgy
                generalize Y.heap.size = m at HZ HMG ⊢
                generalize (Y.alloc (.cells #[.int .i64 iu, .int .i64 iv, .int .i64 xc] 32)).drewN nq = Z at HZ d0z hb2z ⊢
                have e0 : Z.cell? ⟨m, 0, none⟩ = some (.int .i64 iu) := (blk_cell HZ.out.2 0).trans rfl
                have e1 : Z.cell? ⟨m, 1, none⟩ = some (.int .i64 iv) := (blk_cell HZ.out.2 1).trans rfl
                have lm := blk_lt HZ.out.2
                have lg := blk_lt HZ.out.1.row
                have HN := Lib.hid (And.intro HZ.out.1 (And.intro (show ReaI n l f s u (2 * (j + 1)) B1 q1 r1 from ReaI.pass (m := 2 * j + 1) (ReaI.pass (m := 2 * j) HI.out.1 (fun h _ => absurd (HE.out.1.symm.trans h) (fun e => HU.out (by omega)))) (fun h _ => absurd (HE.out.2.2.2.1.symm.trans h) (fun e => HV.out (by omega)))) HI.out.2))
                clear HZ HI
                go_wp2_with fail
                go_roundw
                case rel => exact ⟨j + 1, _, q1, B1, r1, _, by omega, rfl, by go_num, rfl, HN⟩
                case measure => simp [intOf]; omega
          · have hltI : ¬ (j : Int) < (k : Int) := by omega
            obtain rfl : j = k := by omega
            have HN := Lib.hid (And.intro HY.out.1 (And.intro (show ReaO n l f s B1 q1 r1 from ReaI.leave (by rw [HM.out.1]; exact HY.out.2.1)) HY.out.2.2))
            have hlq := HY.out.1.line.slice
            obtain ⟨gq, oq, cq, rfl, _, _⟩ := hlq
            clear HY
            go_wp2_with fail
            go_roundw
            case rel => exact ⟨_, q1, B1, r1, _, rfl, rfl, Lib.hid ⟨HN.out.1, HN.out.2.1⟩⟩
            case measure =>
              have h1 := HN.out.2.2
              rw [unrW_row HN.out.1.row]
              simp only [lenV]
              omega
end Go.Proofs.Ytgojjlnpbakfjaa
