/- Chapter 25, law CarrierWaits: its walk. -/
import Derived.Test.YtkfoclibejpbdaaLaw
import Derived.Deep.RegionHeld3
import Derived.Deep.DeepCutAuto
namespace Go.Proofs.Ytkfoclibejpbdaa
open Go Go.RowKit

/-- Two rows of numbers that a law holds. -/
abbrev toIdx (ms : List Msg) (t0 : Int) (n : Nat) : List Nat := idxTo (fun x => x.to == t0) ms n
abbrev toRows (ms : List Msg) (t0 : Int) (n : Nat) : List (List Value) := (ints (toIdx ms t0 n)).map fun x => [x]

set_option maxRecDepth 100000 in
set_option maxHeartbeats 4000000 in
theorem waits_walk (a : Option Addr) (n cap : Nat) (ms : List Msg) (t0 : Int) (m : Msg) (w : World) (hn : ms.length = n) (hcap : n ≤ cap) (hmax : cap ≤ maxLen) (hnone : a = none → n = 0 ∧ cap = 0) (hm : MsgsAt w.heap.size w a ms) :
    Calls Try.prog 3 #[.agg #[.slice a n cap], .int .i64 t0, m.val] w fun e W' => e = .returned (.bool true) ∧ Below w.heap.size w W' := by
  have hl : n ≤ 9223372036854775807 := by unfold maxLen at hmax; omega
  have Hn := Lib.hid hn
  have Hm := Lib.hid hm
  clear hn hm hmax
  go_enter Try.func3, Try.ntmps3
  go_wp2_with fail
  obtain ⟨W1, hW1⟩ : ∃ W' : World, ((w.alloc (.cells #[.slice a n cap] 24)).alloc (.cells m.cells.toArray 34)) = W' := ⟨_, rfl⟩
  have H1 : Has W1 [(w.heap.size + 1, .cells m.cells.toArray 34 (0, 0)), (w.heap.size, .cells #[.slice a n cap] 24 (0, 0))] := by rw [← hW1]; simpa using (((Has.nil w).new _).new _)
  have s1 : W1.heap.size = w.heap.size + 1 + 1 := by rw [← hW1]; simp
  have b1 : Below w.heap.size w W1 := by rw [← hW1]; exact (below_alloc (below_alloc (below_self w) _) _)
  rw [hW1]
  clear hW1
  refine (cut_ok a n cap ms W1 Hn.out hl hcap hnone (Hm.out.later b1)).mono ?_
  rintro e W2 ⟨v, rfl, ho, hb⟩
  have h50 := take50 ms
  generalize ms.take 50 = L at ho h50
  obtain ⟨a2, k, cap2, rfl, hk, hc2, _⟩ := Car.own' ho (by omega)
  rw [hk] at h50
  have h2 := H1.below hb
  have w2 := below_trans b1 hb
  have c0 := blk_one h2.tl.hd
  have f0 := blk_frozen h2.tl.hd 0
  have w3 : Below w.heap.size w (W2.setCell ⟨w.heap.size, 0, none⟩ (.slice a2 k cap2)) := w2.setCell (Nat.le_refl _) _
  have h3 : Has (W2.setCell ⟨w.heap.size, 0, none⟩ (.slice a2 k cap2)) [(w.heap.size, .cells #[.slice a2 k cap2] 24 (0, 0)), (w.heap.size + 1, .cells m.cells.toArray 34 (0, 0))] :=
    Has.cons (blk_set_same h2.tl.hd) (Has.cons (blk_set h2.hd (by simp) _) (Has.nil _))
  have hc3 : Car (W2.setCell ⟨w.heap.size, 0, none⟩ (.slice a2 k cap2)) a2 k cap2 L := by
    have ho3 := OwnMs.set (by assumption : OwnMs W1.heap.size W2 (.slice a2 k cap2) L) (a := ⟨w.heap.size, 0, none⟩) (by have := s1; simp at this ⊢; omega) (.slice a2 k cap2)
    obtain ⟨a', cap', he, hc'⟩ := Car.own ho3 (by rw [hk]; omega)
    rw [hk] at he hc'
    cases he
    exact hc'
  have HX := Lib.hid (And.intro h3 (And.intro w3 (And.intro hc3 h50)))
  have Hk := Lib.hid hk
  clear h2 w2 hc2 ho hb s1 H1 b1 h50 hk h3 w3 hc3
  go_upto_region 2 with fail
  generalize W2.setCell _ _ = X at HX ⊢
  clear c0 f0
  have c0 := blk_one HX.out.1.hd
  have lt0 := blk_lt HX.out.1.hd
  go_cut [7, 8] (fun s7 s8 wx => ∃ a7 c7 a8 c8, s7 = .slice a7 (toIdx L t0 k).length c7 ∧ s8 = .slice a8 (toIdx L t0 k).length c8 ∧ RowsAt wx.heap.size wx a7 1 (toRows L t0 k) ∧ RowsAt wx.heap.size wx a8 1 (toRows L t0 k) ∧ Below X.heap.size X wx)
  case first =>
    have bX := (below_self X).drew
    go_region_held3 (fun w' => Below X.heap.size X w' ∧ w'.cell? ⟨w.heap.size, 0, none⟩ = some (.slice a2 k cap2))
      ((first | exact ⟨bX, c0⟩ | exact ⟨bY, cY⟩))
      (first
        | (go_at_call 11; refine (waiting_ok a2 k cap2 L t0 _ Hk.out HX.out.2.2.1.le (HX.out.2.2.1.at'.later (by assumption))).mono ?_; rintro e WA ⟨vA, rfl, hoA, hbA⟩; have bY := below_trans (by assumption) hbA; have cY := cell_call bY lt0 c0)
        | (go_at_call 12; refine (waiting_ref a2 k cap2 L t0 _ Hk.out HX.out.2.2.1.le (HX.out.2.2.1.at'.later (by assumption))).mono ?_; rintro e WB ⟨vB, rfl, hoB, hbB⟩; have bY := below_trans (by assumption) hbB; have cY := cell_call bY lt0 c0))
    obtain ⟨a7, c7, rfl, h7⟩ := owns_cells1 (owns_later hoA hbB)
    obtain ⟨a8, c8, rfl, h8⟩ := owns_cells1 hoB
    have HR := Lib.hid (And.intro h7 (And.intro h8 bY))
    clear h7 h8 bY hoA hoB hbA hbB cY
    go_wp2_with fail
    go_meet
    exact ⟨a7, c7, a8, c8, rfl, rfl, HR.out.1, HR.out.2.1, HR.out.2.2⟩
  case rest =>
    obtain ⟨a7, c7, a8, c8, rfl, rfl, h7, h8, bX⟩ := hcut
    have h1 := HX.out.1.below bX
    have hcar := HX.out.2.2.1.below bX
    have wX := below_trans HX.out.2.1 bX
    have hq : (toIdx L t0 k).length ≤ 1000000 := Nat.le_trans (idxTo_len _ _ _) HX.out.2.2.1.le
    generalize hTR : toRows L t0 k = R at h7 h8
    have hRl : R.length = (toIdx L t0 k).length := by rw [← hTR]; simp [toRows, ints]
    have hRq : ∀ i, i < (toIdx L t0 k).length → ∃ z, R[i]? = some [.int .i64 z] := by
      intro i hi
      rw [← hTR]
      exact ⟨((toIdx L t0 k)[i] : Nat), by simp [toRows, ints, hi]⟩
    generalize (toIdx L t0 k).length = q at *
    clear lt0 c0 hTR
    have HY := Lib.hid (And.intro h1 (And.intro wX (And.intro hcar (And.intro h7 (And.intro h8 (And.intro hRl hRq))))))
    have lt0 := blk_lt h1.hd
    have lt1 := blk_lt h1.tl.hd
    have c0 := blk_one h1.hd
    obtain ⟨M0, M1, M2, M3, M4, M5, M6, M7, M8⟩ := blk_msg h1.tl.hd
    have HC := Lib.hid (fun W (hb : Below wc.heap.size wc W) => (And.intro (cell_call hb lt0 c0) (And.intro (cell_call hb lt1 M0) (And.intro (cell_call hb lt1 M1) (And.intro (cell_call hb lt1 M2) (And.intro (cell_call hb lt1 M3) (And.intro (cell_call hb lt1 M4) (And.intro (cell_call hb lt1 M5) (And.intro (cell_call hb lt1 M6) (And.intro (cell_call hb lt1 M7) (cell_call hb lt1 M8)))))))))))
    clear HX h1 wX hcar h7 h8 hRl hRq bX
    go_upto_region 3 with fail
    have bX := (below_self wc).drew
    have hcX := HY.out.2.2.1
    go_region_held3 (fun w' => Below wc.heap.size wc w' ∧ w'.cell? ⟨w.heap.size, 0, none⟩ = some (.slice a2 k cap2) ∧ w'.cell? ⟨w.heap.size + 1, 0, none⟩ = some (.int .i64 m.to) ∧ w'.cell? ⟨w.heap.size + 1, 1, none⟩ = some (.int .i64 m.id) ∧ w'.cell? ⟨w.heap.size + 1, 2, none⟩ = some (.int .i64 m.lease) ∧ w'.cell? ⟨w.heap.size + 1, 3, none⟩ = some (.int .u8 m.kind)
        ∧ w'.cell? ⟨w.heap.size + 1, 4, none⟩ = some (.int .i64 m.host) ∧ w'.cell? ⟨w.heap.size + 1, 5, none⟩ = some (.int .i64 m.service) ∧ w'.cell? ⟨w.heap.size + 1, 6, none⟩ = some (.int .i64 m.version) ∧ w'.cell? ⟨w.heap.size + 1, 7, none⟩ = some (.int .i64 m.rid) ∧ w'.cell? ⟨w.heap.size + 1, 8, none⟩ = some (.int .u8 m.ans))
      ((first | exact ⟨bX, HC.out _ bX⟩ | exact ⟨bY, HC.out _ bY⟩))
      (first
        | (go_at_call 13; refine (count_ok a2 k cap2 L m _ Hk.out hcX.le (hcX.at'.later (by assumption))).mono ?_; rintro e WA ⟨rfl, hbA⟩; have bY := below_trans (by assumption) hbA)
        | (go_at_call 14; refine (count_ref a2 k cap2 L m _ Hk.out hcX.l64 (hcX.at'.later (by assumption))).mono ?_; rintro e WB ⟨rfl, hbB⟩; have bY := below_trans (by assumption) hbB))
    have r7 := (HY.out.2.2.2.1).later bY
    have r8 := (HY.out.2.2.2.2.1).later bY
    have HZ := Lib.hid (And.intro (below_trans HY.out.2.1 bY) (And.intro r7 (And.intro r8 (And.intro HY.out.2.2.2.2.2.1 HY.out.2.2.2.2.2.2))))
    clear r7 r8 hbA hbB bX bY hcX HY HC lt0 lt1 c0 M0 M1 M2 M3 M4 M5 M6 M7 M8
    go_wp2_with fail
    go_loopw [9] (fun i wr => ∃ j d : Nat, j ≤ q ∧ i = .int .i64 j ∧ wr = WB.drewN d) (fun i _ => q - (intOf i).toNat)
    case atStart =>
      exact ⟨0, 0, Nat.zero_le _, rfl, rfl⟩
    case round =>
      obtain ⟨j, d, hj, rfl, rfl⟩ := hrel
      by_cases hlt : j < q
      · obtain ⟨z, hz⟩ := HZ.out.2.2.2.2 j hlt
        obtain ⟨b7, o7, rfl, hb7, hc7⟩ := HZ.out.2.1 j _ hz
        obtain ⟨b8, o8, rfl, hb8, hc8⟩ := HZ.out.2.2.1 j _ hz
        have e7 : WB.cell? ⟨b7, o7 + j, none⟩ = some (.int .i64 z) := by simpa using hc7 0 _ rfl
        have e8 : WB.cell? ⟨b8, o8 + j, none⟩ = some (.int .i64 z) := by simpa using hc8 0 _ rfl
        clear hc7 hc8 hb7 hb8 hz
        go_wp2
        go_quiet (fail)
        clear e7 e8
        go_wp2
        go_roundw
        case rel => exact ⟨j + 1, d + nq, by omega, by go_num, rfl⟩
        case measure => simp [intOf]; omega
      · have hb := below_drewN HZ.out.1 d
        have HY := Lib.hid hb
        clear HZ hb
        go_wp2_with fail
        refine (lives_ok _).mono ?_
        rintro e W9 ⟨rfl, hb⟩
        have HZ := Lib.hid (below_trans HY.out hb)
        clear HY hb
        go_wp2
        go_ret
        exact ⟨rfl, HZ.out⟩
end Go.Proofs.Ytkfoclibejpbdaa
