/- Chapter 05: the reference's Max. -/
import Derived.Test.YthlefdbhkbpejaaGreatFNet
import Derived.Test.YthlefdbhkbpejaaGreatFMst
import Derived.Test.YthlefdbhkbpejaaGreatFLvs
import Derived.Test.YthlefdbhkbpejaaGreatRow
import Derived.StillTailTactics
import Derived.BigQuiet
import Derived.Deep.DeepCutAuto
import Derived.Deep.CutRange
import Derived.WalkMore
import Derived.Test.YthlefdbhkbpejaaGreatFChkR
import Derived.StillTail
import Derived.Test.YthlefdbhkbpejaaGreatFMax
namespace Go.Proofs.YthlefdbhkbpejaaGreat.F5
open Go Go.RowKit
set_option linter.unusedSimpArgs false

abbrev Stp.cells (b : Stp) : List Value := [.int .i64 b.arc, .int .i64 b.fr, .bool b.back, .bool b.is]
abbrev StpR (B : List Stp) : List (List Value) := B.map Stp.cells
def flatS (B : List Stp) : List Value := (StpR B).flatten
theorem stp_four (B : List Stp) : ∀ r ∈ StpR B, r.length = 4 := by
  intro r hr
  obtain ⟨b, _, rfl⟩ := List.mem_map.1 hr
  rfl
theorem flatS_len (B : List Stp) : (flatS B).length = B.length * 4 := by
  unfold flatS
  rw [flat_length 4 _ (stp_four B)]
  simp
theorem flatS_get {B : List Stp} {x : Nat} (hx : x < B.length) {j : Nat} {v : Value} (hv : (B.getD x default).cells[j]? = some v) : (flatS B)[x * 4 + j]? = some v := by
  unfold flatS
  refine flat_get 4 _ (stp_four B) x (B.getD x default).cells ?_ j v hv
  rw [List.getElem?_map, List.getElem?_eq_getElem hx, List.getD_eq_getElem?_getD, List.getElem?_eq_getElem hx]
  rfl
theorem splice_flat : ∀ {B : List Stp} {i : Nat} {b : Stp}, i < B.length → splice (flatS B) (i * 4) b.cells = flatS (B.set i b)
  | [], _, _, h => by simp at h
  | x :: B, 0, b, _ => by simp [splice, flatS, StpR]
  | x :: B, i + 1, b, h => by
    have ih := splice_flat (B := B) (i := i) (b := b) (by simpa using h)
    have e : (i + 1) * 4 = x.cells.length + i * 4 := by simp; omega
    rw [List.set_cons_succ]
    show splice (x.cells ++ flatS B) ((i + 1) * 4) b.cells = x.cells ++ flatS (B.set i b)
    rw [← ih, e]
    unfold splice
    rw [List.take_length_add_append, Nat.add_assoc, List.drop_length_add_append, List.append_assoc]
/-- How many nodes aren't reached, by the row's cells. -/
def unrL : List Value → Nat
  | _ :: _ :: _ :: .bool b :: r => (if b = true then 0 else 1) + unrL r
  | _ => 0
theorem unrL_flat : ∀ B : List Stp, unrL (flatS B) = unr B
  | [] => rfl
  | b :: B => by
    show unrL (b.cells ++ flatS B) = _
    have := unrL_flat B
    simp [unrL, unr, this]
def unrW (g : Nat) (w : World) : Nat := match w.heap[g]? with
  | some (.cells c _ _) => unrL c.toList
  | _ => 0
def lenV : Value → Nat
  | .slice _ n _ => n
  | _ => 0
theorem unrW_row {g : Nat} {w : World} {B : List Stp} {t : TypeId} {fr : Nat × Nat} (h : w.heap[g]? = some (.cells (flatS B).toArray t fr)) : unrW g w = unr B := by
  unfold unrW
  rw [h]
  exact unrL_flat B
theorem made_four : ∀ n : Nat, (madeCells #[.int .i64 0, .int .i64 0, .bool false, .bool false] (n * 4)).toList = flatS (List.replicate n default)
  | 0 => by simp [madeCells, flatS]
  | n + 1 => by
    have ih := made_four n
    have e : ∀ m, (madeCells #[.int .i64 0, .int .i64 0, .bool false, .bool false] m).toList = (List.range m).map (fun i => (#[.int .i64 0, .int .i64 0, .bool false, .bool false] : Array Value)[i % 4]!) := fun m => by simp [madeCells]
    rw [e] at ih ⊢
    rw [show (n + 1) * 4 = n * 4 + 1 + 1 + 1 + 1 by omega, List.range_succ, List.range_succ, List.range_succ, List.range_succ]
    simp only [List.map_append, ih, List.map_cons, List.map_nil]
    rw [List.replicate_succ', show n * 4 % 4 = 0 by omega, show (n * 4 + 1) % 4 = 1 by omega, show (n * 4 + 1 + 1) % 4 = 2 by omega, show (n * 4 + 1 + 1 + 1) % 4 = 3 by omega]
    simp [flatS, StpR]
    exact ⟨rfl, rfl, rfl, rfl⟩
theorem infoS : (Tryz.prog.info? 141).map (fun i => (i.zero, i.size, i.bytes)) = some (some (.agg #[.int .i64 0, .int .i64 0, .bool false, .bool false]), 4, 24) := by kernel_rfl

/-- The net in its box; the steps; the line. -/
structure RO (w : World) (N : Int) (a : Option Addr) (k c n g : Nat) (B : List Stp) (R : Nat) (vq : Value) (q : List Int) (X : World) : Prop where
  bel : Below w.heap.size w X
  box : X.heap[w.heap.size]? = some (.cells #[.int .i64 N, .slice a k c] 44 (0, 0))
  row : X.heap[g]? = some (.cells (flatS B).toArray 141 (0, 0))
  len : B.length = n
  lo : w.heap.size < g
  hi : g < R
  line : OwnQ R X vq q
  RX : R ≤ X.heap.size
section
variable {w : World} {N : Int} {a : Option Addr} {k c n g : Nat} {B : List Stp} {R : Nat} {vq : Value} {q : List Int} {X X' : World}
theorem RO.later (h : RO w N a k c n g B R vq q X) (hb : Below X.heap.size X X') : RO w N a k c n g B R vq q X' :=
  ⟨below_trans h.bel hb, blk_below h.box hb, blk_below h.row hb, h.len, h.lo, h.hi, h.line.later hb, Nat.le_trans h.RX hb.size⟩
theorem RO.turn (h : RO w N a k c n g B R vq q X) {v2 : Value} {q2 : List Int} (h2 : OwnQ R X v2 q2) : RO w N a k c n g B R v2 q2 X := { h with line := h2 }
theorem RO.at' (h : RO w N a k c n g B R vq q X) {x : Nat} (hx : x < n) : X.cell? ⟨g, x * 4, none⟩ = some (.int .i64 (B.getD x default).arc) ∧ X.cell? ⟨g, x * 4 + 1, none⟩ = some (.int .i64 (B.getD x default).fr) ∧ X.cell? ⟨g, x * 4 + 2, none⟩ = some (.bool (B.getD x default).back) ∧ X.cell? ⟨g, x * 4 + 3, none⟩ = some (.bool (B.getD x default).is) := by
  have hx2 : x < B.length := by rw [h.len]; exact hx
  have e : ∀ j v, (B.getD x default).cells[j]? = some v → X.cell? ⟨g, x * 4 + j, none⟩ = some v := fun j v hv => by
    rw [blk_cell h.row, List.getElem?_toArray]
    exact flatS_get hx2 hv
  exact ⟨e 0 _ rfl, e 1 _ rfl, e 2 _ rfl, e 3 _ rfl⟩
theorem RO.store (h : RO w N a k c n g B R vq q X) {v : Nat} (hv : v < n) {b : Stp} (hr : X'.heap[g]? = some (.cells (splice (flatS B) (v * 4) b.cells).toArray 141 (0, 0))) (hb : ButRow g X X') : RO w N a k c n g (B.set v b) R vq q X' := by
  have hlo := h.lo
  have hhi := h.hi
  have hbx := blk_lt h.box
  refine ⟨hb.below h.bel (by omega), hb.blk h.box (by omega), ?_, by rw [List.length_set]; exact h.len, hlo, hhi, h.line.kept fun j hj => hb.block j (fun e => by have := (h.line.lt j hj).1; omega), by rw [hb.size]; exact h.RX⟩
  rw [hr, splice_flat (by rw [h.len]; exact hv)]
theorem RO.push (h : RO w N a k c n g B R vq q X) {o : Obj} {v9 : Value} {q9 : List Int} (hg : (X.alloc o).grownBy X' vq.ownBlock) (hq : OwnQ R X' v9 q9) : RO w N a k c n g B R v9 q9 X' := by
  have hlo := h.lo
  have hhi := h.hi
  have hRX := h.RX
  have hne : ∀ j, j < R → some j ≠ vq.ownBlock := fun j hj e => by have := (h.line.lt j e.symm).1; omega
  refine ⟨?_, grown_blk hg (blk_alloc h.box _) (hne _ (by omega)), grown_blk hg (blk_alloc h.row _) (hne _ hhi), h.len, hlo, hhi, hq, ?_⟩
  · exact (below_alloc h.bel o).grown hg (by have := h.bel.size; simp; omega) (fun j hj => by have := (h.line.lt j hj).1; omega)
  · have := hg.size
    simp at this
    omega
/-- Another block of another type. -/
theorem OwnQ.ne_type {base : Nat} {W : World} {v : Value} {q : List Int} (h : OwnQ base W v q) {k : Nat} {cs : Array Value} {t : TypeId} {fr : Nat × Nat} (hb : W.heap[k]? = some (.cells cs t fr)) (hte : t ≠ 3) : some k ≠ v.ownBlock := by
  obtain ⟨g, off, cap, cur, rfl, _, hg, _⟩ := h
  intro e
  obtain rfl : k = g := by simpa [Value.ownBlock] using e
  rw [hg] at hb
  injection hb with hb
  injection hb with _ h2
  exact hte h2.symm
end

set_option maxRecDepth 100000 in
set_option maxHeartbeats 16000000 in
theorem reached_ok (n : Nat) (a : Option Addr) (k c : Nat) (l : List Ar) (s : Nat) (af : Option Addr) (cf : Nat) (f : List Int) (w : World) (hn : l.length = k) (hv : netOk n l = true) (hm : RowsAt w.heap.size w a 3 (Ars l)) (hs : s < n) (hf : okF l f) (hmf : RowsAt w.heap.size w af 1 (Ints f)) :
    Calls Tryz.prog 96 #[.agg #[.int .i64 n, .slice a k c], .int .i64 s, .slice af k cf] w fun e W' => ∃ g B, e = .returned (.slice (some ⟨g, 0, none⟩) n n) ∧ (∃ r, ReaO n l f s B [] r) ∧ W'.heap[g]? = some (.cells (flatS B).toArray 141 (0, 0)) ∧ w.heap.size ≤ g ∧ Below w.heap.size w W' := by
  obtain ⟨h2, h64, h128, hA⟩ := netOk_iff.1 hv
  have hnf : f.length = k := by rw [okF_len hf, hn]
  have hin : inN n l := fun x hx => by have := okA_iff.1 (hA x hx); omega
  have HM := Lib.hid (And.intro hn (And.intro hm (And.intro hnf (And.intro hmf (And.intro hA (And.intro hf hin))))))
  have hk : k ≤ 128 := by omega
  have hn64 : n ≤ 64 := by omega
  have hsI : (s : Int) < (n : Int) := by omega
  clear hn hm hnf hmf hA hf hv h2 h64 h128 hin
  go_enter Tryz.func96, Tryz.ntmps96
  obtain ⟨i0, hi, hz0, hz1, hz2⟩ := info_parts infoS
  go_wp2_with (with_reducible refine wpList_make_row rfl 138 _ _ rfl 141 i0 _ 4 24 Tryz.underlying138 hi hz0 hz1 hz2 n _ rfl rfl ?a2 ?a3 ?a4 ?_)
  case a2 => rfl
  case a3 => omega
  case a4 => omega
  intro W4 h4 hb4 hs4
  have h4' : W4.heap[w.heap.size + 1]? = some (.cells (flatS (List.replicate n default)).toArray 141 (0, 0)) := by
    rw [← made_four]
    simpa using h4.out
  have hbw : Below w.heap.size w W4 := (below_alloc (below_self w) _).trans (hb4.mono (by omega))
  have h0' : W4.heap[w.heap.size]? = some (.cells #[.int .i64 n, .slice a k c] 44 (0, 0)) := (hb4.block w.heap.size (by omega)).trans (blk_new w _)
  have hsz4 : W4.heap.size = w.heap.size + 1 + 1 := by rw [hs4]
  have H4 := Lib.hid (And.intro h4' (And.intro hbw (And.intro h0' hsz4)))
  clear h4 hb4 hs4 h4' hbw h0' hsz4 hi hz0 hz1 hz2
  go_wp2_with (with_reducible refine wpList_store_row rfl 141 _ _ rfl (w.heap.size + 1) (s * 4) (Stp.cells ⟨-1, s, false, true⟩) rfl rfl _ 141 H4.out.1 (by kernel_rfl) ?b1 ?b2 ?_)
  case b1 => rw [flatS_len]; simp; omega
  case b2 => simp [Value.oneCell']
  intro W5 hr5 hb5
  have hR0 : RO w n a k c n (w.heap.size + 1) ((List.replicate n default).set s ⟨-1, s, false, true⟩) (w.heap.size + 2) (.slice (some ⟨w.heap.size + 2, 0, none⟩) 1 1) [(s : Int)] (W5.alloc (.cells #[.int .i64 s] 3)) := by
    have h1 := hb5.size
    have h2 := H4.out.2.2.2
    have hsz : W5.heap.size = w.heap.size + 2 := by omega
    refine ⟨below_alloc (hb5.below H4.out.2.1 (by omega)) _, blk_alloc (hb5.blk H4.out.2.2.1 (by omega)) _, blk_alloc ?_ _, by simp, by omega, by omega, OwnQ.new (by omega) ?_, by simp; omega⟩
    · rw [hr5.out, splice_flat (by simpa using hs)]
    · have := blk_new W5 (.cells #[.int .i64 s] 3)
      rw [hsz] at this
      exact this
  have HR0 := Lib.hid (And.intro hR0 (show W5.heap.size = w.heap.size + 2 by have h1 := hb5.size; have h2 := H4.out.2.2.2; omega))
  clear hR0 hr5 hb5
  have HBO := Lib.hid (ReaO.start (f := f) (s := (s : Int)) HM.out.2.2.2.2.2.2 (by omega) (by omega))
  clear H4
  go_wp2_with fail
  rw [HR0.out.2]
  go_loopw [8] (fun vv wr => ∃ (vq : Value) (q : List Int) (B : List Stp) (r : Int → Nat) (X : World), vv = vq ∧ X = wr ∧ Hid (RO w n a k c n (w.heap.size + 1) B (w.heap.size + 2) vq q X ∧ ReaO n l f s B q r)) (fun vv wr => lenV vv + unrW (w.heap.size + 1) wr)
  case atStart => exact ⟨_, _, _, _, _, rfl, rfl, Lib.hid ⟨HR0.out.1, HBO.out⟩⟩
  case round =>
    clear HR0 HBO
    obtain ⟨vq, q, B, r, X, rfl, rfl, HX⟩ := hrel
    have hln := HX.out.1.line
    cases q with
    | nil =>
      obtain ⟨gq, oq, cq, rfl, hcq, _⟩ := hln.slice
      clear hln hcq
      go_wp2_with fail
      go_ret
      exact ⟨_, B, rfl, ⟨r, HX.out.2⟩, HX.out.1.row, by omega, HX.out.1.bel⟩
    | cons x q =>
      obtain ⟨gq, oq, cq, rfl, hx, hoq, hcq, hgq⟩ := hln.front
      have hq0 : (0 : Int) < (q.length : Int) + 1 := by omega
      have hxn := (HX.out.2.inq x (by simp)).1
      obtain ⟨u, rfl⟩ : ∃ u : Nat, x = u := ⟨x.toNat, by omega⟩
      have HQ := Lib.hid (And.intro hln hoq)
      have hcI : (q.length : Int) + 1 ≤ (cq : Int) := by omega
      clear hln hoq hxn
      go_upto_region 6 with fail
      clear hx
      go_cut [8] from 28 to 29 (fun vv wx => ∃ vq, vv = vq ∧ X = wx ∧ Hid (OwnQ (w.heap.size + 2) X vq q))
      case first =>
        by_cases hc1 : cq = 1
        · subst hc1
          obtain rfl : q = [] := List.eq_nil_of_length_eq_zero (by omega)
          have HS := Lib.hid (HQ.out.1.stay)
          go_wp2_with fail
          go_meet
          exact ⟨_, rfl, rfl, HS⟩
        · have hc2 : ¬ cq - 1 = 0 := by omega
          have HS := Lib.hid HQ.out.2
          go_wp2_with fail
          go_meet
          exact ⟨_, rfl, rfl, HS⟩
      case rest =>
        obtain ⟨vq, rfl, rfl, HO⟩ := hcut
        have HX2 := Lib.hid (And.intro (HX.out.1.turn HO.out) (And.intro HX.out.2.enter (show q.length + unr B + 1 = q.length + 1 + unrW (w.heap.size + 1) X by rw [unrW_row HX.out.1.row]; omega)))
        have p1 : X.cell? ⟨w.heap.size, 1, none⟩ = some (.slice a k c) := (blk_cell HX.out.1.box 1).trans rfl
        have lp := blk_lt HX.out.1.box
        clear HX HO HQ hcI hcq hgq
        go_wp2_with fail
        clear p1 lp
        go_loopw [8, 33] (fun vv i wr => ∃ (j : Nat) (vq1 : Value) (q1 : List Int) (B1 : List Stp) (r1 : Int → Nat) (Y : World), j ≤ k ∧ vv = vq1 ∧ i = .int .i64 j ∧ Y = wr ∧ Hid (RO w n a k c n (w.heap.size + 1) B1 (w.heap.size + 2) vq1 q1 Y ∧ ReaI n l f s u (2 * j) B1 q1 r1 ∧ q1.length + unr B1 + 1 = q.length + 1 + unrW (w.heap.size + 1) X)) (fun _ i _ => k - (intOf i).toNat)
        case atStart => exact ⟨0, _, _, _, _, _, Nat.zero_le _, rfl, rfl, rfl, HX2⟩
        case round =>
          clear HX2
          obtain ⟨j, vq1, q1, B1, r1, Y, hj, rfl, rfl, rfl, HY⟩ := hrel
          by_cases hlt : j < k
          · have hltI : (j : Int) < (k : Int) := by omega
            have hjl : j < l.length := by rw [HM.out.1]; exact hlt
            have hA := okA_iff.1 (HM.out.2.2.2.2.1 (l.getD j default) (by rw [List.getD_eq_getElem?_getD, List.getElem?_eq_getElem hjl]; exact List.getElem_mem _))
            obtain ⟨b1, o1, rfl, hb1, c0, c1, c2⟩ := ars_at HM.out.2.1 j hjl
            obtain ⟨b2, o2, rfl, hb2, d0⟩ := ints_at HM.out.2.2.2.1 j (by rw [HM.out.2.2.1]; exact hlt)
            replace c0 := cell_call HY.out.1.bel hb1 c0
            replace c1 := cell_call HY.out.1.bel hb1 c1
            replace c2 := cell_call HY.out.1.bel hb1 c2
            replace d0 := cell_call HY.out.1.bel hb2 d0
            replace hb1 : b1 < Y.heap.size := Nat.lt_of_lt_of_le hb1 HY.out.1.bel.size
            replace hb2 : b2 < Y.heap.size := Nat.lt_of_lt_of_le hb2 HY.out.1.bel.size
            have t0 : tl l (2 * j) = (l.getD j default).u := by unfold tl; rw [if_pos (by omega), show 2 * j / 2 = j by omega]
            have t1 : hd l (2 * j) = (l.getD j default).v := by unfold hd; rw [if_pos (by omega), show 2 * j / 2 = j by omega]
            have t2 : room l f (2 * j) = (l.getD j default).c - f.getD j default := by unfold room; rw [if_pos (by omega), show 2 * j / 2 = j by omega]; rfl
            have t3 : tl l (2 * j + 1) = (l.getD j default).v := by unfold tl; rw [if_neg (by omega), show (2 * j + 1) / 2 = j by omega]
            have t4 : hd l (2 * j + 1) = (l.getD j default).u := by unfold hd; rw [if_neg (by omega), show (2 * j + 1) / 2 = j by omega]
            have t5 : room l f (2 * j + 1) = f.getD j default := by unfold room; rw [if_neg (by omega), show (2 * j + 1) / 2 = j by omega]; rfl
            obtain ⟨x, hx⟩ : ∃ x, l.getD j default = x := ⟨_, rfl⟩
            obtain ⟨y, hy⟩ : ∃ y, f.getD j default = y := ⟨_, rfl⟩
            rw [hx] at hA c0 c1 c2 t0 t1 t2 t3 t4
            rw [hy] at d0 t2 t5
            obtain ⟨xu, xv, xc⟩ := x
            simp only at hA c0 c1 c2 t0 t1 t2 t3 t4
            obtain ⟨⟨u0, u1⟩, ⟨v0, v1⟩, huv, zz0, zz1⟩ := hA
            obtain ⟨iu, rfl⟩ : ∃ u : Nat, xu = u := ⟨xu.toNat, by omega⟩
            obtain ⟨iv, rfl⟩ : ∃ v : Nat, xv = v := ⟨xv.toNat, by omega⟩
            have huI : (iu : Int) < (n : Int) := by omega
            have hvI : (iv : Int) < (n : Int) := by omega
            have hunI : (u : Int) < (n : Int) := by have := HY.out.2.1.nu; omega
            have HE := Lib.hid (And.intro t0 (And.intro t1 (And.intro t2 (And.intro t3 (And.intro t4 t5)))))
            have HUV := Lib.hid huv
            have HJ := Lib.hid hjl
            have QK := True.intro
            clear t0 t1 t2 t3 t4 t5 hx hy huv hjl u0 v0 u1 v1
            by_cases hu : u = iu
            · subst hu
              have hvu : ((iv : Int) == (u : Int)) = false := beq_eq_false_iff_ne.2 (fun e => HUV.out e.symm)
              have huu : ((u : Int) == (u : Int)) = true := beq_iff_eq.2 rfl
              obtain ⟨_, _, _, qv⟩ := HY.out.1.at' (x := iv) (by omega)
              cases his : (B1.getD iv default).is
              · rw [his] at qv
                have HIS := Lib.hid his
                clear his
                by_cases hrm : y < xc
                · have lgy := blk_lt HY.out.1.row
                  go_wp2_with fail
                  go_quiet (fail)
                  have hbZ := below_drewN (below_alloc (below_self Y) (.cells #[.int .i64 u, .int .i64 iv, .int .i64 xc] 63)) nq
                  have HZ := Lib.hid (And.intro (HY.out.1.later hbZ) (show ((Y.alloc (.cells #[.int .i64 u, .int .i64 iv, .int .i64 xc] 63)).drewN nq).heap[Y.heap.size]? = some (.cells #[.int .i64 u, .int .i64 iv, .int .i64 xc] 63 (0, 0)) from blk_new Y _))
                  have HI := Lib.hid HY.out.2
                  have hmg : Y.heap.size ≠ w.heap.size + 1 := by have := blk_lt HY.out.1.row; omega
                  have HMG := Lib.hid hmg
                  have d0z := cell_call hbZ hb2 d0
                  have hb2z := Nat.lt_of_lt_of_le hb2 hbZ.size
                  clear hbZ c0 c1 c2 hb1 HY hmg d0 hb2 QK lgy
                  generalize Y.heap.size = m at HZ HMG ⊢
                  generalize (Y.alloc (.cells #[.int .i64 u, .int .i64 iv, .int .i64 xc] 63)).drewN nq = Z at HZ d0z hb2z ⊢
                  have e0 : Z.cell? ⟨m, 0, none⟩ = some (.int .i64 u) := (blk_cell HZ.out.2 0).trans rfl
                  have e1 : Z.cell? ⟨m, 1, none⟩ = some (.int .i64 iv) := (blk_cell HZ.out.2 1).trans rfl
                  have lm := blk_lt HZ.out.2
                  have lg := blk_lt HZ.out.1.row
                  go_wp2_with (with_reducible refine wpList_store_row rfl 141 _ _ rfl (w.heap.size + 1) (iv * 4) (Stp.cells ⟨(j : Int), (u : Int), false, true⟩) rfl rfl _ 141 HZ.out.1.row (by kernel_rfl) ?b1 ?b2 ?_)
                  case b1 => rw [flatS_len, HZ.out.1.len]; simp; omega
                  case b2 => simp [Value.oneCell']
                  intro W6 hr6 hb6
                  have H6 := Lib.hid (And.intro (HZ.out.1.store (v := iv) (b := ⟨(j : Int), (u : Int), false, true⟩) (by omega) hr6.out hb6) (hb6.blk HZ.out.2 HMG.out))
                  have f0 : W6.cell? ⟨m, 0, none⟩ = some (.int .i64 u) := (blk_cell H6.out.2 0).trans rfl
                  have f1 : W6.cell? ⟨m, 1, none⟩ = some (.int .i64 iv) := (blk_cell H6.out.2 1).trans rfl
                  have lm := blk_lt H6.out.2
                  clear hr6 hb6 e0 e1 d0z hb2z lg
                  go_wp2_with (at_builtin; go_must (refine wpList_append_q rfl _ _ rfl (w.heap.size + 2) _ q1 rfl (H6.out.1.line.later (below_alloc (below_self _) _)) (iv : Int) _ 1 rfl ?c1 ?c2 ?c3 ?_))
                  case c1 => exact src_new _ _ _
                  case c2 => have := HI.out.1.most; omega
                  case c3 => have := H6.out.1.RX; simp; omega
                  intro v9 W9 hq9 hg9 hn9
                  have h9 := H6.out.1.push hg9.out hq9.out
                  have ab9 := grown_blk hg9.out (blk_alloc H6.out.2 _) (H6.out.1.line.ne_type H6.out.2 (by decide))
                  have g0 : W9.cell? ⟨m, 0, none⟩ = some (.int .i64 u) := (blk_cell ab9 0).trans rfl
                  have g1 : W9.cell? ⟨m, 1, none⟩ = some (.int .i64 iv) := (blk_cell ab9 1).trans rfl
                  have lm := blk_lt ab9
                  have hI1 := ReaI.reach (r := r1) (v := (iv : Int)) (b := ⟨(j : Int), (u : Int), false, true⟩) HM.out.2.2.2.2.2.2 HI.out.1 (m := 2 * j) (by have := HJ.out; omega) HE.out.1 (by rw [HE.out.2.2.1]; omega) HE.out.2.1 (by omega) (by omega) (by unfold sv; rw [Int.toNat_natCast]; exact HIS.out) (by rw [show 2 * j / 2 = j by omega, show 2 * j % 2 = 0 by omega]; rfl)
                  rw [Int.toNat_natCast] at hI1
                  have hun := unr_set (B := B1) (i := iv) (b := ⟨(j : Int), (u : Int), false, true⟩) (by rw [HZ.out.1.len]; omega) HIS.out rfl
                  have HN := Lib.hid (And.intro h9 (And.intro (show ReaI n l f s u (2 * (j + 1)) _ _ _ from ReaI.pass (m := 2 * j + 1) hI1 (fun h _ => absurd (HE.out.2.2.2.1.symm.trans h) (fun e => HUV.out e.symm))) (show (q1 ++ [(iv : Int)]).length + unr (B1.set iv ⟨(j : Int), (u : Int), false, true⟩) + 1 = q.length + 1 + unrW (w.heap.size + 1) X by have := HI.out.2; rw [List.length_append, List.length_cons, List.length_nil]; omega)))
                  clear h9 ab9 hI1 hun hq9 hg9 hn9 H6 HZ HI f0 f1
                  go_wp2_with fail
                  go_roundw
                  case rel => exact ⟨j + 1, _, q1 ++ [(iv : Int)], B1.set iv ⟨(j : Int), (u : Int), false, true⟩, _, _, by omega, rfl, by go_num, rfl, HN⟩
                  case measure => simp [intOf]; omega
                · skip
                  have lgy := blk_lt HY.out.1.row
                  go_wp2_with fail
                  go_quiet (fail)
                  have hbZ := below_drewN (below_alloc (below_self Y) (.cells #[.int .i64 u, .int .i64 iv, .int .i64 xc] 63)) nq
                  have HZ := Lib.hid (And.intro (HY.out.1.later hbZ) (show ((Y.alloc (.cells #[.int .i64 u, .int .i64 iv, .int .i64 xc] 63)).drewN nq).heap[Y.heap.size]? = some (.cells #[.int .i64 u, .int .i64 iv, .int .i64 xc] 63 (0, 0)) from blk_new Y _))
                  have HI := Lib.hid HY.out.2
                  have hmg : Y.heap.size ≠ w.heap.size + 1 := by have := blk_lt HY.out.1.row; omega
                  have HMG := Lib.hid hmg
                  have d0z := cell_call hbZ hb2 d0
                  have hb2z := Nat.lt_of_lt_of_le hb2 hbZ.size
                  clear hbZ c0 c1 c2 hb1 HY hmg d0 hb2 QK lgy
                  generalize Y.heap.size = m at HZ HMG ⊢
                  generalize (Y.alloc (.cells #[.int .i64 u, .int .i64 iv, .int .i64 xc] 63)).drewN nq = Z at HZ d0z hb2z ⊢
                  have e0 : Z.cell? ⟨m, 0, none⟩ = some (.int .i64 u) := (blk_cell HZ.out.2 0).trans rfl
                  have e1 : Z.cell? ⟨m, 1, none⟩ = some (.int .i64 iv) := (blk_cell HZ.out.2 1).trans rfl
                  have lm := blk_lt HZ.out.2
                  have lg := blk_lt HZ.out.1.row
                  have HN := Lib.hid (And.intro HZ.out.1 (And.intro (show ReaI n l f s u (2 * (j + 1)) B1 q1 r1 from ReaI.pass (m := 2 * j + 1) (ReaI.pass (m := 2 * j) HI.out.1 (fun _ hr => absurd hr (by rw [HE.out.2.2.1]; omega))) (fun h _ => absurd (HE.out.2.2.2.1.symm.trans h) (fun e => HUV.out e.symm))) HI.out.2))
                  clear HZ HI
                  go_wp2_with fail
                  go_roundw
                  case rel => exact ⟨j + 1, _, q1, B1, r1, _, by omega, rfl, by go_num, rfl, HN⟩
                  case measure => simp [intOf]; omega
              · rw [his] at qv
                have HIS := Lib.hid his
                clear his
                have lgy := blk_lt HY.out.1.row
                go_wp2_with fail
                go_quiet (fail)
                have hbZ := below_drewN (below_alloc (below_self Y) (.cells #[.int .i64 u, .int .i64 iv, .int .i64 xc] 63)) nq
                have HZ := Lib.hid (And.intro (HY.out.1.later hbZ) (show ((Y.alloc (.cells #[.int .i64 u, .int .i64 iv, .int .i64 xc] 63)).drewN nq).heap[Y.heap.size]? = some (.cells #[.int .i64 u, .int .i64 iv, .int .i64 xc] 63 (0, 0)) from blk_new Y _))
                have HI := Lib.hid HY.out.2
                have hmg : Y.heap.size ≠ w.heap.size + 1 := by have := blk_lt HY.out.1.row; omega
                have HMG := Lib.hid hmg
                have d0z := cell_call hbZ hb2 d0
                have hb2z := Nat.lt_of_lt_of_le hb2 hbZ.size
                clear hbZ c0 c1 c2 hb1 HY hmg d0 hb2 QK lgy
                generalize Y.heap.size = m at HZ HMG ⊢
                generalize (Y.alloc (.cells #[.int .i64 u, .int .i64 iv, .int .i64 xc] 63)).drewN nq = Z at HZ d0z hb2z ⊢
                have e0 : Z.cell? ⟨m, 0, none⟩ = some (.int .i64 u) := (blk_cell HZ.out.2 0).trans rfl
                have e1 : Z.cell? ⟨m, 1, none⟩ = some (.int .i64 iv) := (blk_cell HZ.out.2 1).trans rfl
                have lm := blk_lt HZ.out.2
                have lg := blk_lt HZ.out.1.row
                have HN := Lib.hid (And.intro HZ.out.1 (And.intro (show ReaI n l f s u (2 * (j + 1)) B1 q1 r1 from ReaI.pass (m := 2 * j + 1) (ReaI.pass (m := 2 * j) HI.out.1 (fun _ _ => by rw [HE.out.2.1]; unfold sv; rw [Int.toNat_natCast]; exact HIS.out)) (fun h _ => absurd (HE.out.2.2.2.1.symm.trans h) (fun e => HUV.out e.symm))) HI.out.2))
                clear HZ HI
                go_wp2_with fail
                go_roundw
                case rel => exact ⟨j + 1, _, q1, B1, r1, _, by omega, rfl, by go_num, rfl, HN⟩
                case measure => simp [intOf]; omega
            · have hub : ((iu : Int) == (u : Int)) = false := beq_eq_false_iff_ne.2 (by omega)
              have HU := Lib.hid hu
              by_cases hv : u = iv
              · subst hv
                have huu : ((u : Int) == (u : Int)) = true := beq_iff_eq.2 rfl
                obtain ⟨_, _, _, qu⟩ := HY.out.1.at' (x := iu) (by omega)
                clear hu
                cases his : (B1.getD iu default).is
                · rw [his] at qu
                  have HIS := Lib.hid his
                  clear his
                  by_cases hrm : 0 < y
                  · have lgy := blk_lt HY.out.1.row
                    go_wp2_with fail
                    go_quiet (fail)
                    have hbZ := below_drewN (below_alloc (below_self Y) (.cells #[.int .i64 iu, .int .i64 u, .int .i64 xc] 63)) nq
                    have HZ := Lib.hid (And.intro (HY.out.1.later hbZ) (show ((Y.alloc (.cells #[.int .i64 iu, .int .i64 u, .int .i64 xc] 63)).drewN nq).heap[Y.heap.size]? = some (.cells #[.int .i64 iu, .int .i64 u, .int .i64 xc] 63 (0, 0)) from blk_new Y _))
                    have HI := Lib.hid HY.out.2
                    have hmg : Y.heap.size ≠ w.heap.size + 1 := by have := blk_lt HY.out.1.row; omega
                    have HMG := Lib.hid hmg
                    have d0z := cell_call hbZ hb2 d0
                    have hb2z := Nat.lt_of_lt_of_le hb2 hbZ.size
                    clear hbZ c0 c1 c2 hb1 HY hmg d0 hb2 QK lgy
                    generalize Y.heap.size = m at HZ HMG ⊢
                    generalize (Y.alloc (.cells #[.int .i64 iu, .int .i64 u, .int .i64 xc] 63)).drewN nq = Z at HZ d0z hb2z ⊢
                    have e0 : Z.cell? ⟨m, 0, none⟩ = some (.int .i64 iu) := (blk_cell HZ.out.2 0).trans rfl
                    have e1 : Z.cell? ⟨m, 1, none⟩ = some (.int .i64 u) := (blk_cell HZ.out.2 1).trans rfl
                    have lm := blk_lt HZ.out.2
                    have lg := blk_lt HZ.out.1.row
                    obtain ⟨_, _, _, qz⟩ := HZ.out.1.at' (x := iu) (by omega)
                    rw [HIS.out] at qz
                    go_wp2_with (with_reducible refine wpList_store_row rfl 141 _ _ rfl (w.heap.size + 1) (iu * 4) (Stp.cells ⟨(j : Int), (u : Int), true, true⟩) rfl rfl _ 141 HZ.out.1.row (by kernel_rfl) ?b1 ?b2 ?_)
                    case b1 => rw [flatS_len, HZ.out.1.len]; simp; omega
                    case b2 => simp [Value.oneCell']
                    intro W6 hr6 hb6
                    have H6 := Lib.hid (And.intro (HZ.out.1.store (v := iu) (b := ⟨(j : Int), (u : Int), true, true⟩) (by omega) hr6.out hb6) (hb6.blk HZ.out.2 HMG.out))
                    have f0 : W6.cell? ⟨m, 0, none⟩ = some (.int .i64 iu) := (blk_cell H6.out.2 0).trans rfl
                    have f1 : W6.cell? ⟨m, 1, none⟩ = some (.int .i64 u) := (blk_cell H6.out.2 1).trans rfl
                    have lm := blk_lt H6.out.2
                    clear hr6 hb6 e0 e1 d0z hb2z lg
                    go_wp2_with (at_builtin; go_must (refine wpList_append_q rfl _ _ rfl (w.heap.size + 2) _ q1 rfl (H6.out.1.line.later (below_alloc (below_self _) _)) (iu : Int) _ 1 rfl ?c1 ?c2 ?c3 ?_))
                    case c1 => exact src_new _ _ _
                    case c2 => have := HI.out.1.most; omega
                    case c3 => have := H6.out.1.RX; simp; omega
                    intro v9 W9 hq9 hg9 hn9
                    have h9 := H6.out.1.push hg9.out hq9.out
                    have ab9 := grown_blk hg9.out (blk_alloc H6.out.2 _) (H6.out.1.line.ne_type H6.out.2 (by decide))
                    have g0 : W9.cell? ⟨m, 0, none⟩ = some (.int .i64 iu) := (blk_cell ab9 0).trans rfl
                    have g1 : W9.cell? ⟨m, 1, none⟩ = some (.int .i64 u) := (blk_cell ab9 1).trans rfl
                    have lm := blk_lt ab9
                    have hI1 := ReaI.reach (r := r1) (v := (iu : Int)) (b := ⟨(j : Int), (u : Int), true, true⟩) HM.out.2.2.2.2.2.2 (ReaI.pass (m := 2 * j) HI.out.1 (fun h _ => absurd (HE.out.1.symm.trans h) (fun e => HU.out (by omega)))) (m := 2 * j + 1) (by have := HJ.out; omega) HE.out.2.2.2.1 (by rw [HE.out.2.2.2.2.2]; omega) HE.out.2.2.2.2.1 (by omega) (by omega) (by unfold sv; rw [Int.toNat_natCast]; exact HIS.out) (by rw [show (2 * j + 1) / 2 = j by omega, show (2 * j + 1) % 2 = 1 by omega]; rfl)
                    rw [Int.toNat_natCast] at hI1
                    have hun := unr_set (B := B1) (i := iu) (b := ⟨(j : Int), (u : Int), true, true⟩) (by rw [HZ.out.1.len]; omega) HIS.out rfl
                    have HN := Lib.hid (And.intro h9 (And.intro (show ReaI n l f s u (2 * (j + 1)) _ _ _ from hI1) (show (q1 ++ [(iu : Int)]).length + unr (B1.set iu ⟨(j : Int), (u : Int), true, true⟩) + 1 = q.length + 1 + unrW (w.heap.size + 1) X by have := HI.out.2; rw [List.length_append, List.length_cons, List.length_nil]; omega)))
                    clear h9 ab9 hI1 hun hq9 hg9 hn9 H6 HZ HI f0 f1
                    go_wp2_with fail
                    go_roundw
                    case rel => exact ⟨j + 1, _, q1 ++ [(iu : Int)], B1.set iu ⟨(j : Int), (u : Int), true, true⟩, _, _, by omega, rfl, by go_num, rfl, HN⟩
                    case measure => simp [intOf]; omega
                  · skip
                    have lgy := blk_lt HY.out.1.row
                    go_wp2_with fail
                    go_quiet (fail)
                    have hbZ := below_drewN (below_alloc (below_self Y) (.cells #[.int .i64 iu, .int .i64 u, .int .i64 xc] 63)) nq
                    have HZ := Lib.hid (And.intro (HY.out.1.later hbZ) (show ((Y.alloc (.cells #[.int .i64 iu, .int .i64 u, .int .i64 xc] 63)).drewN nq).heap[Y.heap.size]? = some (.cells #[.int .i64 iu, .int .i64 u, .int .i64 xc] 63 (0, 0)) from blk_new Y _))
                    have HI := Lib.hid HY.out.2
                    have hmg : Y.heap.size ≠ w.heap.size + 1 := by have := blk_lt HY.out.1.row; omega
                    have HMG := Lib.hid hmg
                    have d0z := cell_call hbZ hb2 d0
                    have hb2z := Nat.lt_of_lt_of_le hb2 hbZ.size
                    clear hbZ c0 c1 c2 hb1 HY hmg d0 hb2 QK lgy
                    generalize Y.heap.size = m at HZ HMG ⊢
                    generalize (Y.alloc (.cells #[.int .i64 iu, .int .i64 u, .int .i64 xc] 63)).drewN nq = Z at HZ d0z hb2z ⊢
                    have e0 : Z.cell? ⟨m, 0, none⟩ = some (.int .i64 iu) := (blk_cell HZ.out.2 0).trans rfl
                    have e1 : Z.cell? ⟨m, 1, none⟩ = some (.int .i64 u) := (blk_cell HZ.out.2 1).trans rfl
                    have lm := blk_lt HZ.out.2
                    have lg := blk_lt HZ.out.1.row
                    obtain ⟨_, _, _, qz⟩ := HZ.out.1.at' (x := iu) (by omega)
                    rw [HIS.out] at qz
                    have HN := Lib.hid (And.intro HZ.out.1 (And.intro (show ReaI n l f s u (2 * (j + 1)) B1 q1 r1 from ReaI.pass (m := 2 * j + 1) (ReaI.pass (m := 2 * j) HI.out.1 (fun h _ => absurd (HE.out.1.symm.trans h) (fun e => HU.out (by omega)))) (fun _ hr => absurd hr (by rw [HE.out.2.2.2.2.2]; omega))) HI.out.2))
                    clear HZ HI
                    go_wp2_with fail
                    go_roundw
                    case rel => exact ⟨j + 1, _, q1, B1, r1, _, by omega, rfl, by go_num, rfl, HN⟩
                    case measure => simp [intOf]; omega
                · rw [his] at qu
                  have HIS := Lib.hid his
                  clear his
                  have lgy := blk_lt HY.out.1.row
                  go_wp2_with fail
                  go_quiet (fail)
                  have hbZ := below_drewN (below_alloc (below_self Y) (.cells #[.int .i64 iu, .int .i64 u, .int .i64 xc] 63)) nq
                  have HZ := Lib.hid (And.intro (HY.out.1.later hbZ) (show ((Y.alloc (.cells #[.int .i64 iu, .int .i64 u, .int .i64 xc] 63)).drewN nq).heap[Y.heap.size]? = some (.cells #[.int .i64 iu, .int .i64 u, .int .i64 xc] 63 (0, 0)) from blk_new Y _))
                  have HI := Lib.hid HY.out.2
                  have hmg : Y.heap.size ≠ w.heap.size + 1 := by have := blk_lt HY.out.1.row; omega
                  have HMG := Lib.hid hmg
                  have d0z := cell_call hbZ hb2 d0
                  have hb2z := Nat.lt_of_lt_of_le hb2 hbZ.size
                  clear hbZ c0 c1 c2 hb1 HY hmg d0 hb2 QK lgy
                  generalize Y.heap.size = m at HZ HMG ⊢
                  generalize (Y.alloc (.cells #[.int .i64 iu, .int .i64 u, .int .i64 xc] 63)).drewN nq = Z at HZ d0z hb2z ⊢
                  have e0 : Z.cell? ⟨m, 0, none⟩ = some (.int .i64 iu) := (blk_cell HZ.out.2 0).trans rfl
                  have e1 : Z.cell? ⟨m, 1, none⟩ = some (.int .i64 u) := (blk_cell HZ.out.2 1).trans rfl
                  have lm := blk_lt HZ.out.2
                  have lg := blk_lt HZ.out.1.row
                  obtain ⟨_, _, _, qz⟩ := HZ.out.1.at' (x := iu) (by omega)
                  rw [HIS.out] at qz
                  have HN := Lib.hid (And.intro HZ.out.1 (And.intro (show ReaI n l f s u (2 * (j + 1)) B1 q1 r1 from ReaI.pass (m := 2 * j + 1) (ReaI.pass (m := 2 * j) HI.out.1 (fun h _ => absurd (HE.out.1.symm.trans h) (fun e => HU.out (by omega)))) (fun _ _ => by rw [HE.out.2.2.2.2.1]; unfold sv; rw [Int.toNat_natCast]; exact HIS.out)) HI.out.2))
                  clear HZ HI
                  go_wp2_with fail
                  go_roundw
                  case rel => exact ⟨j + 1, _, q1, B1, r1, _, by omega, rfl, by go_num, rfl, HN⟩
                  case measure => simp [intOf]; omega
              · have hvb : ((iv : Int) == (u : Int)) = false := beq_eq_false_iff_ne.2 (by omega)
                have HV := Lib.hid hv
                clear hu hv
                have lgy := blk_lt HY.out.1.row
                go_wp2_with fail
                go_quiet (fail)
                have hbZ := below_drewN (below_alloc (below_self Y) (.cells #[.int .i64 iu, .int .i64 iv, .int .i64 xc] 63)) nq
                have HZ := Lib.hid (And.intro (HY.out.1.later hbZ) (show ((Y.alloc (.cells #[.int .i64 iu, .int .i64 iv, .int .i64 xc] 63)).drewN nq).heap[Y.heap.size]? = some (.cells #[.int .i64 iu, .int .i64 iv, .int .i64 xc] 63 (0, 0)) from blk_new Y _))
                have HI := Lib.hid HY.out.2
                have hmg : Y.heap.size ≠ w.heap.size + 1 := by have := blk_lt HY.out.1.row; omega
                have HMG := Lib.hid hmg
                have d0z := cell_call hbZ hb2 d0
                have hb2z := Nat.lt_of_lt_of_le hb2 hbZ.size
                clear hbZ c0 c1 c2 hb1 HY hmg d0 hb2 QK lgy
                generalize Y.heap.size = m at HZ HMG ⊢
                generalize (Y.alloc (.cells #[.int .i64 iu, .int .i64 iv, .int .i64 xc] 63)).drewN nq = Z at HZ d0z hb2z ⊢
                have e0 : Z.cell? ⟨m, 0, none⟩ = some (.int .i64 iu) := (blk_cell HZ.out.2 0).trans rfl
                have e1 : Z.cell? ⟨m, 1, none⟩ = some (.int .i64 iv) := (blk_cell HZ.out.2 1).trans rfl
                have lm := blk_lt HZ.out.2
                have lg := blk_lt HZ.out.1.row
                have HN := Lib.hid (And.intro HZ.out.1 (And.intro (show ReaI n l f s u (2 * (j + 1)) B1 q1 r1 from ReaI.pass (m := 2 * j + 1) (ReaI.pass (m := 2 * j) HI.out.1 (fun h _ => absurd (HE.out.1.symm.trans h) (fun e => HU.out (by omega)))) (fun h _ => absurd (HE.out.2.2.2.1.symm.trans h) (fun e => HV.out (by omega)))) HI.out.2))
                clear HZ HI
                go_wp2_with fail
                go_roundw
                case rel => exact ⟨j + 1, _, q1, B1, r1, _, by omega, rfl, by go_num, rfl, HN⟩
                case measure => simp [intOf]; omega
          · have hltI : ¬ (j : Int) < (k : Int) := by omega
            obtain rfl : j = k := by omega
            have HN := Lib.hid (And.intro HY.out.1 (And.intro (show ReaO n l f s B1 q1 r1 from ReaI.leave (by rw [HM.out.1]; exact HY.out.2.1)) HY.out.2.2))
            have hlq := HY.out.1.line.slice
            obtain ⟨gq, oq, cq, rfl, _, _⟩ := hlq
            clear HY
            go_wp2_with fail
            go_roundw
            case rel => exact ⟨_, q1, B1, r1, _, rfl, rfl, Lib.hid ⟨HN.out.1, HN.out.2.1⟩⟩
            case measure =>
              have h1 := HN.out.2.2
              rw [unrW_row HN.out.1.row]
              simp only [lenV]
              omega
end Go.Proofs.YthlefdbhkbpejaaGreat.F5

namespace Go.Proofs.YthlefdbhkbpejaaGreat.F5
open Go Go.RowKit
set_option linter.unusedSimpArgs false

def rowW (g : Nat) (w : World) : List Int := match w.heap[g]? with
  | some (.cells c _ _) => c.toList.map intOf
  | _ => []
theorem rowW_is {g : Nat} {w : World} {f : List Int} {t : TypeId} {fr : Nat × Nat} (h : w.heap[g]? = some (.cells (intsV f).toArray t fr)) : rowW g w = f := by
  unfold rowW
  rw [h]
  simp only [intsV, List.map_map]
  have : (intOf ∘ Value.int IntKind.i64) = id := by funext x; rfl
  rw [this, List.map_id]
theorem intsV_set (f : List Int) (i : Nat) (y : Int) : (intsV f).toArray.setIfInBounds i (.int .i64 y) = (intsV (f.set i y)).toArray := by
  rw [List.setIfInBounds_toArray]
  unfold intsV
  rw [List.map_set]
theorem eOf_half {b : Stp} : eOf b / 2 = b.arc.toNat := by
  unfold eOf
  split <;> omega
theorem eOf_mod {b : Stp} : eOf b % 2 = if b.back = true then 1 else 0 := by
  unfold eOf
  split <;> omega
/-- The net in its box; the flow's row. -/
structure GO (w : World) (N : Int) (a : Option Addr) (k c g : Nat) (f : List Int) (X : World) : Prop where
  bel : Below w.heap.size w X
  box : X.heap[w.heap.size]? = some (.cells #[.int .i64 N, .slice a k c] 44 (0, 0))
  row : X.heap[g]? = some (.cells (intsV f).toArray 3 (0, 0))
  len : f.length = k
  lo : w.heap.size < g
section
variable {w : World} {N : Int} {a : Option Addr} {k c g : Nat} {f : List Int} {X X' : World}
theorem GO.later (h : GO w N a k c g f X) (hb : Below X.heap.size X X') : GO w N a k c g f X' := ⟨below_trans h.bel hb, blk_below h.box hb, blk_below h.row hb, h.len, h.lo⟩
theorem GO.put (h : GO w N a k c g f X) (i : Nat) (y : Int) : GO w N a k c g (f.set i y) (X.setCell ⟨g, i, none⟩ (.int .i64 y)) := by
  have hl := h.lo
  refine ⟨h.bel.setCell (by simp only; omega) _, blk_set h.box (by simp only; omega) _, ?_, by rw [List.length_set]; exact h.len, hl⟩
  rw [← intsV_set]
  simp [World.setCell, Array.getElem?_modify, h.row]
theorem GO.at' (h : GO w N a k c g f X) {i : Nat} (hi : i < k) : X.cell? ⟨g, i, none⟩ = some (.int .i64 (f.getD i default)) ∧ X.frozen? ⟨g, i, none⟩ = false := by
  refine ⟨?_, blk_frozen h.row i⟩
  rw [blk_cell h.row]
  simp [intsV, List.getElem?_eq_getElem (show i < f.length by rw [h.len]; exact hi)]
end
theorem stp_at {X : World} {g x : Nat} {B : List Stp} (h : X.heap[g]? = some (.cells (flatS B).toArray 141 (0, 0))) (hx : x < B.length) : X.cell? ⟨g, x * 4, none⟩ = some (.int .i64 (B.getD x default).arc) ∧ X.cell? ⟨g, x * 4 + 1, none⟩ = some (.int .i64 (B.getD x default).fr) ∧ X.cell? ⟨g, x * 4 + 2, none⟩ = some (.bool (B.getD x default).back) ∧ X.cell? ⟨g, x * 4 + 3, none⟩ = some (.bool (B.getD x default).is) := by
  have e : ∀ j v, (B.getD x default).cells[j]? = some v → X.cell? ⟨g, x * 4 + j, none⟩ = some v := fun j v hv => by
    rw [blk_cell h, List.getElem?_toArray]
    exact flatS_get hx hv
  exact ⟨e 0 _ rfl, e 1 _ rfl, e 2 _ rfl, e 3 _ rfl⟩

set_option maxRecDepth 100000 in
set_option maxHeartbeats 16000000 in
theorem greatest_ok (n : Nat) (a : Option Addr) (k c : Nat) (l : List Ar) (s t : Nat) (w : World) (hn : l.length = k) (hv : netOk n l = true) (hm : RowsAt w.heap.size w a 3 (Ars l)) (hs : s < n) (ht : t < n) (hst : s ≠ t) :
    Calls Tryz.prog 54 #[.agg #[.int .i64 n, .slice a k c], .int .i64 s, .int .i64 t] w fun e W' => ∃ g, e = .returned (.slice (some ⟨g, 0, none⟩) k k) ∧ ∃ f, OwnI w.heap.size W' (.slice (some ⟨g, 0, none⟩) k k) f ∧ Best n l s t f ∧ Below w.heap.size w W' := by
  obtain ⟨h2, h64, h128, hA⟩ := netOk_iff.1 hv
  have hin : inN n l := fun x hx => by have := okA_iff.1 (hA x hx); omega
  have hcap : ∀ x ∈ l, 0 ≤ x.c ∧ x.c ≤ 100000000 := fun x hx => (okA_iff.1 (hA x hx)).2.2.2
  have HM := Lib.hid (And.intro hn (And.intro hm (And.intro hv (And.intro hin hcap))))
  have hk : k ≤ 128 := by omega
  have hn64 : n ≤ 64 := by omega
  have hsI : (s : Int) < (n : Int) := by omega
  have htI : (t : Int) < (n : Int) := by omega
  have HST := Lib.hid hst
  clear hn hm hv hA h2 h64 h128 hin hcap hst
  go_enter Tryz.func54, Tryz.ntmps54
  obtain ⟨i0, hi, hz0, hz1, hz2⟩ := info_parts info3
  go_wp2_with (with_reducible refine wpList_make_row rfl 68 _ _ rfl 3 i0 _ 1 8 Tryz.underlying68 hi hz0 hz1 hz2 k _ rfl rfl ?a2 ?a3 ?a4 ?_)
  case a2 => rfl
  case a3 => omega
  case a4 => omega
  intro W4 h4 hb4 hs4
  have h4' : W4.heap[w.heap.size + 1]? = some (.cells (intsV (List.replicate k 0)).toArray 3 (0, 0)) := by
    have hm : madeCells #[Value.int .i64 0] k = (intsV (List.replicate k 0)).toArray := by
      apply Array.toList_inj.1
      rw [toList_madeCells_one]
      simp [intsV]
    rw [← hm]
    simpa using h4.out
  have H4 := Lib.hid (show GO w n a k c (w.heap.size + 1) (List.replicate k 0) W4 from ⟨(below_alloc (below_self w) _).trans (hb4.mono (by omega)), (hb4.block w.heap.size (by omega)).trans (blk_new w _), h4', by simp, by omega⟩)
  have HF0 := Lib.hid (show Flw n l s t (List.replicate k 0) by rw [← HM.out.1]; exact Flw.idle (fun x hx => (HM.out.2.2.2.2 x hx).1))
  clear h4 hb4 hs4 h4' hi hz0 hz1 hz2
  go_wp2_with fail
  go_loopw [8] (fun vv wr => ∃ (f : List Int) (X : World), X = wr ∧ Hid (GO w n a k c (w.heap.size + 1) f X ∧ Flw n l s t f)) (fun _ wr => (tot l - net l (rowW (w.heap.size + 1) wr) s).toNat)
  case atStart => exact ⟨_, _, rfl, Lib.hid ⟨H4.out, HF0.out⟩⟩
  case round =>
    clear H4 HF0
    obtain ⟨f, X, rfl, HX⟩ := hrel
    have q0 : X.cell? ⟨w.heap.size, 0, none⟩ = some (.int .i64 n) := (blk_cell HX.out.1.box 0).trans rfl
    have q1 : X.cell? ⟨w.heap.size, 1, none⟩ = some (.slice a k c) := (blk_cell HX.out.1.box 1).trans rfl
    have lq := blk_lt HX.out.1.box
    go_wp2_with fail
    refine (reached_ok n a k c l s _ k f X HM.out.1 HM.out.2.2.1 (HM.out.2.1.later HX.out.1.bel) (by omega) HX.out.2.ok (ints_blk HX.out.1.row)).mono ?_
    rintro e Y ⟨gb, B, rfl, ⟨r, hR⟩, hrow, hgb, hb⟩
    have hBl := hR.len
    obtain ⟨_, _, _, qt⟩ := stp_at hrow (x := t) (by omega)
    have lgb := blk_lt hrow
    have HY := Lib.hid (And.intro (HX.out.1.later hb) (And.intro hrow (And.intro hR (And.intro HX.out.2 hBl))))
    have HRW := Lib.hid (show rowW (w.heap.size + 1) X = f from rowW_is HX.out.1.row)
    have HGB := Lib.hid (show w.heap.size + 1 < gb by have := blk_lt HX.out.1.row; omega)
    clear hrow hR hb q0 q1 lq hBl HX hgb
    cases his : (B.getD t default).is
    · rw [his] at qt
      have HB := Lib.hid (HY.out.2.2.1.best HY.out.2.2.2.1 HM.out.2.2.2.1 (by omega) (by omega) (by unfold sv; rw [Int.toNat_natCast]; exact his))
      clear his
      go_wp2_with fail
      go_ret
      refine ⟨_, rfl, f, ?_, HB.out, HY.out.1.bel⟩
      unfold OwnI
      have hl := HY.out.1.len
      rw [hl]
      exact owns_of_blk HY.out.1.row (by omega) (by simp [intsV, hl]) (by unfold maxLen; omega)
    · rw [his] at qt
      have HT := Lib.hid (show (sv B t).is = true by unfold sv; rw [Int.toNat_natCast]; exact his)
      clear his
      go_wp2_with fail
      clear qt
      go_loopw [9, 10] (fun v9 v10 wr => ∃ (m d : Nat) (z : Int), v9 = .int .i64 z ∧ v10 = .int .i64 (bck B t m) ∧ wr = Y.drewN d ∧ Hid (Wid l f B t m z)) (fun _ v10 _ => r (intOf v10))
      case atStart => exact ⟨0, 0, _, rfl, rfl, rfl, Lib.hid (Wid.start l f B t)⟩
      case round =>
        obtain ⟨m, d, z, rfl, rfl, rfl, HW⟩ := hrel
        have hbk := HY.out.2.2.1.bck_in (t := (t : Int)) (by omega) (by omega) (by omega) (by omega) HT.out m
        obtain ⟨x, hx⟩ : ∃ x : Nat, bck B t m = x := ⟨(bck B t m).toNat, by omega⟩
        have hs1 : bck B t (m + 1) = (sv B (bck B t m)).fr := rfl
        have hsv : sv B x = B.getD x default := by unfold sv; rw [Int.toNat_natCast]
        rw [hx] at hbk hs1 ⊢
        rw [hsv] at hs1
        have hxn : x < n := by omega
        have hxI : (x : Int) < (n : Int) := by omega
        by_cases hxs : x = s
        · subst hxs
          have hne : ((x : Int) != (x : Int)) = false := by simp
          have HK := Lib.hid (And.intro hx HW.out)
          have HZ := Lib.hid (And.intro (HY.out.1.later (below_drewN (below_self Y) d)) (blk_below HY.out.2.1 (below_drewN (below_self Y) d)))
          have lgb2 := blk_lt HZ.out.2
          clear hbk hx hs1 hsv HW lgb
          generalize Y.drewN d = Z at HZ lgb2 ⊢
          go_wp2_with fail
          go_loopw [12] (fun v12 wr => ∃ (i : Nat) (f' : List Int) (V : World), v12 = .int .i64 (bck B t i) ∧ V = wr ∧ Hid (GO w n a k c (w.heap.size + 1) f' V ∧ V.heap[gb]? = some (.cells (flatS B).toArray 141 (0, 0)) ∧ Sup n l f x t B r z i f')) (fun v12 _ => r (intOf v12))
          case atStart => exact ⟨0, f, _, rfl, rfl, Lib.hid ⟨HZ.out.1, HZ.out.2, Sup.start HY.out.2.2.2.1.ok⟩⟩
          case round =>
            clear HZ lgb2
            obtain ⟨i, f', V, rfl, rfl, HV⟩ := hrel
            have hbk := HY.out.2.2.1.bck_in (t := (t : Int)) (by omega) (by omega) (by omega) (by omega) HT.out i
            obtain ⟨q, hq⟩ : ∃ q : Nat, bck B t i = q := ⟨(bck B t i).toNat, by omega⟩
            have hs1 : bck B t (i + 1) = (sv B (bck B t i)).fr := rfl
            have hsv : sv B q = B.getD q default := by unfold sv; rw [Int.toNat_natCast]
            rw [hq] at hbk hs1 ⊢
            rw [hsv] at hs1
            have hqn : q < n := by omega
            have hqI : (q : Int) < (n : Int) := by omega
            by_cases hqs : q = x
            · subst hqs
              have hne2 : ((q : Int) != (q : Int)) = false := by simp
              have hdn := HV.out.2.2.done HY.out.2.2.2.1 (by have := HST.out; omega) hq
              have htl := Flw.all hdn.1 HM.out.2.2.2.1 (by omega) (by omega) (by have := HST.out; omega) (fun x hx => (HM.out.2.2.2.2 x hx).1)
              have HN := Lib.hid (And.intro HV.out.1 (And.intro hdn (And.intro htl HK.out.2.z0)))
              clear hbk hq hs1 hsv hdn htl HV
              go_wp2_with fail
              go_roundw
              case rel => exact ⟨f', _, rfl, Lib.hid ⟨HN.out.1, HN.out.2.1.1⟩⟩
              case measure =>
                have h1 := HN.out.2.1.2
                have h2 := HN.out.2.2
                rw [rowW_is HN.out.1.row, HRW.out]
                omega
            · have hne2 : ((q : Int) != (x : Int)) = true := bne_iff_ne.2 (by omega)
              have hw := HY.out.2.2.1.way q (by omega) (by omega) (by omega) hbk.2
              have hsn := HV.out.2.2.next HY.out.2.2.1 (by omega) (by omega) (by omega) (by omega) HT.out HK.out.2 HK.out.1 (by rw [hq]; omega)
              rw [hq] at hsn
              rw [hsv] at hw hsn
              obtain ⟨qa, qf, qk, _⟩ := stp_at HV.out.2.1 (x := q) (by rw [HY.out.2.2.2.2]; exact hqn)
              obtain ⟨b, hb⟩ : ∃ b, B.getD q default = b := ⟨_, rfl⟩
              rw [hb] at hw hsn qa qf qk hs1
              obtain ⟨barc, bfr, bback, bis⟩ := b
              obtain ⟨w1, w2, w3, w4, w5, w6, w7, w8⟩ := hw
              have he2 := eOf_half (b := ⟨barc, bfr, bback, bis⟩)
              have hem := eOf_mod (b := ⟨barc, bfr, bback, bis⟩)
              unfold push at hsn
              rw [he2, hem] at hsn
              simp only at w1 w3 w4 w5 qa qf qk hs1 he2 hsn
              obtain ⟨ai, rfl⟩ : ∃ ai : Nat, barc = ai := ⟨barc.toNat, by omega⟩
              rw [Int.toNat_natCast] at he2 hsn
              have hak : ai < k := by have := HM.out.1; omega
              have hakI : (ai : Int) < (k : Int) := by omega
              obtain ⟨yc, yf⟩ := HV.out.1.at' hak
              have hbd := okF_at HV.out.2.2.ok (i := ai) (by rw [HM.out.1]; exact hak)
              have hcp := HM.out.2.2.2.2 (l.getD ai default) (by rw [List.getD_eq_getElem?_getD, List.getElem?_eq_getElem (by rw [HM.out.1]; exact hak)]; exact List.getElem_mem _)
              have hz1 := HK.out.2.z1
              have hz0 := HK.out.2.z0
              obtain ⟨y, hy⟩ : ∃ y, f'.getD ai default = y := ⟨_, rfl⟩
              rw [show f'.getD ai 0 = f'.getD ai default from rfl, hy] at hbd hsn
              rw [hy] at yc
              have lg := blk_lt HV.out.1.row
              have lgb := blk_lt HV.out.2.1
              have hwa : IntKind.i64.wrap (y + z) = y + z := IntWalk.i64_in _ (by omega)
              have hws : IntKind.i64.wrap (y - z) = y - z := IntWalk.i64_in _ (by omega)
              have HS := Lib.hid (And.intro hs1 (And.intro w5 hsn))
              have HG := Lib.hid (show gb ≠ w.heap.size + 1 by have := HGB.out; omega)
              have hput := HV.out.1.put ai
              have HP := Lib.hid (fun yy => And.intro (hput yy) (blk_set HV.out.2.1 (a := ⟨w.heap.size + 1, ai, none⟩) HG.out (.int .i64 yy)))
              clear hput hbk hq hs1 hsv w1 w2 w3 w4 w5 w6 w7 w8 he2 hem hbd hcp hy hsn hb
              cases bback
              · have qf2 : (V.setCell ⟨w.heap.size + 1, ai, none⟩ (.int .i64 (y + z))).cell? ⟨gb, q * 4 + 1, none⟩ = some (.int .i64 bfr) := cell_far (Ne.symm HG.out) qf
                have HN := Lib.hid (show GO w n a k c (w.heap.size + 1) (f'.set ai (y + z)) (V.setCell ⟨w.heap.size + 1, ai, none⟩ (.int .i64 (y + z))) ∧ (V.setCell ⟨w.heap.size + 1, ai, none⟩ (.int .i64 (y + z))).heap[gb]? = some (.cells (flatS B).toArray 141 (0, 0)) ∧ Sup n l f x t B r z (i + 1) (f'.set ai (y + z)) from
                  ⟨(HP.out (y + z)).1, (HP.out (y + z)).2, by simpa using HS.out.2.2⟩)
                clear HV HP
                go_wp2_with fail
                go_roundw
                case rel => exact ⟨i + 1, _, _, by rw [HS.out.1], rfl, HN⟩
                case measure => simp only [intOf]; exact HS.out.2.1
              · have qf2 : (V.setCell ⟨w.heap.size + 1, ai, none⟩ (.int .i64 (y - z))).cell? ⟨gb, q * 4 + 1, none⟩ = some (.int .i64 bfr) := cell_far (Ne.symm HG.out) qf
                have HN := Lib.hid (show GO w n a k c (w.heap.size + 1) (f'.set ai (y - z)) (V.setCell ⟨w.heap.size + 1, ai, none⟩ (.int .i64 (y - z))) ∧ (V.setCell ⟨w.heap.size + 1, ai, none⟩ (.int .i64 (y - z))).heap[gb]? = some (.cells (flatS B).toArray 141 (0, 0)) ∧ Sup n l f x t B r z (i + 1) (f'.set ai (y - z)) from
                  ⟨(HP.out (y - z)).1, (HP.out (y - z)).2, by simpa using HS.out.2.2⟩)
                clear HV HP
                go_wp2_with fail
                go_roundw
                case rel => exact ⟨i + 1, _, _, by rw [HS.out.1], rfl, HN⟩
                case measure => simp only [intOf]; exact HS.out.2.1
        · have hne : ((x : Int) != (s : Int)) = true := bne_iff_ne.2 (by omega)
          have hw := HY.out.2.2.1.way x (by omega) (by omega) (by omega) hbk.2
          have hnx := fun h => HW.out.next (t := (t : Int)) (k := m) h
          rw [hx] at hnx
          rw [hsv] at hw hnx
          obtain ⟨qa, qf, qk, _⟩ := stp_at HY.out.2.1 (x := x) (by rw [HY.out.2.2.2.2]; exact hxn)
          obtain ⟨b, hb⟩ : ∃ b, B.getD x default = b := ⟨_, rfl⟩
          rw [hb] at hw hnx qa qf qk hs1
          obtain ⟨barc, bfr, bback, bis⟩ := b
          obtain ⟨w1, w2, w3, w4, w5, w6, w7, w8⟩ := hw
          replace hnx := hnx w8
          have he2 := eOf_half (b := ⟨barc, bfr, bback, bis⟩)
          have hem := eOf_mod (b := ⟨barc, bfr, bback, bis⟩)
          unfold room at hnx
          rw [he2, hem] at hnx
          simp only at w1 w3 w4 w5 qa qf qk hs1 he2 hnx
          obtain ⟨ai, rfl⟩ : ∃ ai : Nat, barc = ai := ⟨barc.toNat, by omega⟩
          rw [Int.toNat_natCast] at he2 hnx
          have hak : ai < k := by have := HM.out.1; omega
          have hakI : (ai : Int) < (k : Int) := by omega
          obtain ⟨yc, _⟩ := HY.out.1.at' hak
          obtain ⟨b1, o1, rfl, hb1, _, _, d2⟩ := ars_at (HM.out.2.1.later HY.out.1.bel) ai (by rw [HM.out.1]; exact hak)
          have hbd := okF_at HY.out.2.2.2.1.ok (i := ai) (by rw [HM.out.1]; exact hak)
          have hcp := HM.out.2.2.2.2 (l.getD ai default) (by rw [List.getD_eq_getElem?_getD, List.getElem?_eq_getElem (by rw [HM.out.1]; exact hak)]; exact List.getElem_mem _)
          obtain ⟨y, hy⟩ : ∃ y, f.getD ai default = y := ⟨_, rfl⟩
          rw [show f.getD ai 0 = f.getD ai default from rfl, hy] at hbd hnx
          rw [hy] at yc
          obtain ⟨cc, hcc⟩ : ∃ cc, (l.getD ai default).c = cc := ⟨_, rfl⟩
          rw [hcc] at d2 hbd hcp hnx
          have lg := blk_lt HY.out.1.row
          have lb := blk_lt HY.out.1.box
          have p1 : Y.cell? ⟨w.heap.size, 1, none⟩ = some (.slice (some ⟨b1, o1, none⟩) k c) := (blk_cell HY.out.1.box 1).trans rfl
          have hws : IntKind.i64.wrap (cc - y) = cc - y := IntWalk.i64_in _ (by omega)
          have HS := Lib.hid (And.intro hs1 (And.intro w5 hnx))
          clear hbk hx hs1 hsv w1 w2 w3 w4 w5 w6 w7 w8 he2 hem hbd hcp hy hnx hb hcc HW
          cases bback
          · clear hxs
            have HN := Lib.hid (show Wid l f B t (m + 1) (if cc - y < z then cc - y else z) by
              have := HS.out.2.2
              simp only [if_neg (show ¬ (false = true) by decide), if_pos] at this
              rw [show (if cc - y < z then cc - y else z) = min z (cc - y) by split <;> omega]
              simpa using this)
            go_wp2_with fail
            go_quiet (fail)
            go_wp2_with fail
            go_roundw
            case rel => exact ⟨m + 1, d + nq, _, rfl, by rw [HS.out.1], rfl, HN⟩
            case measure => simp only [intOf]; exact HS.out.2.1
          · clear hxs
            have HN := Lib.hid (show Wid l f B t (m + 1) (if y < z then y else z) by
              have := HS.out.2.2
              rw [show (if y < z then y else z) = min z y by split <;> omega]
              simpa using this)
            go_wp2_with fail
            go_roundw
            case rel => exact ⟨m + 1, d, _, rfl, by rw [HS.out.1], rfl, HN⟩
            case measure => simp only [intOf]; exact HS.out.2.1
end Go.Proofs.YthlefdbhkbpejaaGreat.F5

namespace Go.Proofs.YthlefdbhkbpejaaGreat.F5
open Go Go.RowKit
set_option linter.unusedSimpArgs false

theorem chk_flow {n : Nat} {l : List Ar} {s t : Nat} {f : List Int} (h0 : askF n l s t = 0) (hf : Flw n l s t f) : chkE n l s t f = 0 ∧ chkV n l s t f = net l f s := by
  have h1 : chkE n l s t f = 0 := by
    unfold chkE
    rw [if_pos h0, Int.toNat_natCast, flw_iff.2 hf]
    rfl
  refine ⟨h1, ?_⟩
  unfold chkV
  rw [if_pos h1]

set_option maxRecDepth 100000 in
set_option maxHeartbeats 4000000 in
theorem maxref_ok (N : Int) (a : Option Addr) (k c : Nat) (l : List Ar) (s t : Int) (w : World) (hn : l.length = k) (hl : k ≤ 9223372036854775807) (hm : RowsAt w.heap.size w a 3 (Ars l)) :
    Calls Tryz.prog 35 #[.agg #[.int .i64 N, .slice a k c], .int .i64 s, .int .i64 t] w fun e W' => ∃ r v, e = .returned (.tuple #[.int .i64 r, v, .int .i64 (askF N l s t)]) ∧ ∃ f, OwnI w.heap.size W' v f ∧ MaxIs N l s t r f ∧ Below w.heap.size w W' := by
  have HM := Lib.hid (And.intro hn hm)
  by_cases h0 : askF N l s t = 0
  · obtain ⟨hv, hs, ht, hst⟩ := askF_zero h0
    obtain ⟨h2, h64, h128, hA⟩ := netOk_iff.1 hv
    obtain ⟨n, rfl⟩ : ∃ n : Nat, N = n := ⟨N.toNat, by omega⟩
    obtain ⟨s, rfl⟩ : ∃ z : Nat, s = z := ⟨s.toNat, by omega⟩
    obtain ⟨t, rfl⟩ : ∃ z : Nat, t = z := ⟨t.toNat, by omega⟩
    have H0 := Lib.hid (And.intro h0 (And.intro hv (show s < n ∧ t < n ∧ s ≠ t by omega)))
    have hk : k ≤ 128 := by omega
    rw [h0]
    clear hn hm hv hs ht hst h2 h64 h128 hA h0
    go_enter Tryz.func35, Tryz.ntmps35
    go_wp2_with fail
    obtain ⟨A, hA⟩ : ∃ W' : World, (w.alloc (.cells #[.int .i64 n, .slice a k c] 44)) = W' := ⟨_, rfl⟩
    have h : Has A [(w.heap.size, .cells #[.int .i64 n, .slice a k c] 44 (0, 0))] := by rw [← hA]; simpa using ((Has.nil w).new _)
    have z : A.heap.size = w.heap.size + 1 := by rw [← hA]; simp
    have b : Below w.heap.size w A := by rw [← hA]; exact (below_alloc (below_self w) _)
    rw [hA]
    clear hA
    have HA := Lib.hid (And.intro h.hd b)
    clear h z b
    refine (askedref_ok n a k c l s t A HM.out.1 hl (HM.out.2.later HA.out.2)).mono ?_
    rintro e B ⟨rfl, hb⟩
    rw [H0.out.1]
    have HB := Lib.hid (And.intro (blk_below HA.out.1 hb) (below_trans HA.out.2 hb))
    clear hb HA
    have c0 : B.cell? ⟨w.heap.size, 0, none⟩ = some (.int .i64 n) := (blk_cell HB.out.1 0).trans rfl
    have c1 : B.cell? ⟨w.heap.size, 1, none⟩ = some (.slice a k c) := (blk_cell HB.out.1 1).trans rfl
    have lb := blk_lt HB.out.1
    go_wp2_with fail
    refine (greatest_ok n a k c l s t B HM.out.1 H0.out.2.1 (HM.out.2.later HB.out.2) H0.out.2.2.1 H0.out.2.2.2.1 H0.out.2.2.2.2).mono ?_
    rintro e C ⟨g, rfl, f, ho, hf, hb⟩
    have HC := Lib.hid (And.intro (blk_below HB.out.1 hb) (And.intro (below_trans HB.out.2 hb) (And.intro (owns_base ho HB.out.2.size) hf)))
    clear c0 c1 lb ho hf hb HB
    have c0 : C.cell? ⟨w.heap.size, 0, none⟩ = some (.int .i64 n) := (blk_cell HC.out.1 0).trans rfl
    have c1 : C.cell? ⟨w.heap.size, 1, none⟩ = some (.slice a k c) := (blk_cell HC.out.1 1).trans rfl
    have lb := blk_lt HC.out.1
    have hfl : f.length = k := by rw [okF_len HC.out.2.2.2.flw.ok, HM.out.1]
    have HFL := Lib.hid hfl
    clear hfl
    have hrow : OwnI w.heap.size C (.slice (some ⟨g, 0, none⟩) k k) f := HC.out.2.2.1
    obtain ⟨_, _, he, hr⟩ := hrow.rows
    injection he with he1 he2 he3
    subst he1
    have HR := Lib.hid hr
    clear hrow he2 he3 hr
    go_wp2_with fail
    refine (checkref_ok n a k c l s t (some ⟨g, 0, none⟩) k k f C HM.out.1 hl (HM.out.2.later HC.out.2.1) HFL.out hl HR.out).mono ?_
    rintro e D ⟨rfl, hb⟩
    obtain ⟨e1, e2⟩ := chk_flow H0.out.1 HC.out.2.2.2.flw
    rw [e1, e2]
    have HD := Lib.hid (And.intro (owns_later HC.out.2.2.1 hb) (below_trans HC.out.2.1 hb))
    clear e1 e2 hb c0 c1 lb
    go_wp2_with fail
    go_ret3
    refine ⟨_, _, rfl, f, HD.out.1, ⟨fun _ => ⟨?_, rfl⟩, fun h => absurd H0.out.1 h⟩, HD.out.2⟩
    rw [Int.toNat_natCast]
    exact HC.out.2.2.2
  · have H0 := Lib.hid h0
    have h0b : (askF N l s t != 0) = true := by simpa using h0
    clear hn hm
    obtain ⟨E, hE⟩ : ∃ E, askF N l s t = E := ⟨_, rfl⟩
    rw [hE] at h0 h0b
    rw [hE]
    have HE := Lib.hid hE
    clear hE
    go_enter Tryz.func35, Tryz.ntmps35
    go_wp2_with fail
    obtain ⟨A, hA⟩ : ∃ W' : World, (w.alloc (.cells #[.int .i64 N, .slice a k c] 44)) = W' := ⟨_, rfl⟩
    have h : Has A [(w.heap.size, .cells #[.int .i64 N, .slice a k c] 44 (0, 0))] := by rw [← hA]; simpa using ((Has.nil w).new _)
    have z : A.heap.size = w.heap.size + 1 := by rw [← hA]; simp
    have b : Below w.heap.size w A := by rw [← hA]; exact (below_alloc (below_self w) _)
    rw [hA]
    clear hA
    have HA := Lib.hid (And.intro h.hd b)
    clear h z b
    refine (askedref_ok N a k c l s t A HM.out.1 hl (HM.out.2.later HA.out.2)).mono ?_
    rintro e B ⟨rfl, hb⟩
    rw [HE.out]
    have HB := Lib.hid (below_trans HA.out.2 hb)
    clear hb HA
    go_wp2_with fail
    go_ret3
    exact ⟨_, _, rfl, [], OwnI.nil _ _, ⟨fun h => absurd h H0.out, fun _ => ⟨rfl, rfl⟩⟩, HB.out⟩
end Go.Proofs.YthlefdbhkbpejaaGreat.F5
