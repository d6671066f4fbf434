/- Chapter 25, law CarrierOwns: its walk. -/
import Derived.Test.YtkfoclibejpbdaaLaw
import Derived.Deep.RegionHeld3
import Derived.Deep.DeepCutAuto
import Derived.Deep.CutRange
import Derived.IntWalk
import Derived.StillTailTactics
namespace Go.Proofs.Ytkfoclibejpbdaa
open Go Go.RowKit

/-- A row that came from a call of the law's: the numbers To of its messages can be turned, behind block B and beside block gl. -/
def Turns (wr : World) (B gl : Nat) (a : Option Addr) (n : Nat) : Prop :=
  ∀ i, i < n → ∃ b o z, a = some ⟨b, o, none⟩ ∧ B ≤ b ∧ b ≠ gl ∧ wr.cell? ⟨b, o + i * 9, none⟩ = some (.int .i64 z) ∧ wr.frozen? ⟨b, o + i * 9, none⟩ = false
theorem Turns.own {base B gl : Nat} {W W' : World} {a : Option Addr} {n cap : Nat} {ms : List Msg} (h : OwnMs base W (.slice a n cap) ms) (hB : B ≤ base) (hg : W.heap.size ≤ gl) (hb' : Below W.heap.size W W') : Turns W' B gl a n := by
  intro i hi
  have hn : ms.length = n := by
    obtain ⟨a', cap', he, _⟩ := h.msgs
    cases he; rfl
  obtain ⟨a', cap', he, hm⟩ := h.msgs
  cases he
  obtain ⟨b, o, rfl, hb, hc⟩ := hm.at' i hi
  refine ⟨b, o, _, rfl, ?_, by omega, cell_call hb' hb hc.1, ?_⟩
  · rcases h.2 with ⟨h1, h2⟩ | ⟨g, c, cur, hv, hgb, _⟩
    · cases h1
    · cases hv; omega
  · rcases h.2 with ⟨h1, h2⟩ | ⟨g, c, cur, hv, hgb, hh, _⟩
    · cases h1
    · cases hv
      exact (hb'.frozen hb).trans (blk_frozen hh _)
theorem cell_turn {W : World} {p q : Addr} {z u : Int} (h : W.cell? q = some (.int .i64 z)) : ∃ y, (W.setCell p (.int .i64 u)).cell? q = some (.int .i64 y) := by
  by_cases hpq : p = q
  · subst hpq
    exact ⟨u, World.cell?_setCell_same _ _ _ (by rw [h])⟩
  · exact ⟨z, (World.cell?_setCell_other _ _ _ _ hpq).trans h⟩
theorem Turns.set {W : World} {B gl n : Nat} {a : Option Addr} (h : Turns W B gl a n) (p : Addr) (u : Int) : Turns (W.setCell p (.int .i64 u)) B gl a n := by
  intro i hi
  obtain ⟨b, o, z, h1, h2, h3, h4, h5⟩ := h i hi
  obtain ⟨y, hy⟩ := cell_turn (p := p) (u := u) h4
  exact ⟨b, o, y, h1, h2, h3, hy, (World.frozen?_setCell _ _ _ _).trans h5⟩

/-- What the two loops hold: the row l of four carriers lies in block gl. -/
structure OwSt (X wr : World) (gl : Nat) (A : Nat → Option Addr) (N C : Nat → Nat) : Prop where
  below : Below X.heap.size X wr
  row : ∀ k, k < 4 → wr.cell? ⟨gl, k, none⟩ = some (.slice (A k) (N k) (C k))
  turns : ∀ k, k < 4 → Turns wr X.heap.size gl (A k) (N k)
theorem OwSt.drewN {X wr : World} {gl : Nat} {A : Nat → Option Addr} {N C : Nat → Nat} (h : OwSt X wr gl A N C) (d : Nat) : OwSt X (wr.drewN d) gl A N C :=
  ⟨below_drewN h.below d, h.row, h.turns⟩
theorem OwSt.set {X wr : World} {gl : Nat} {A : Nat → Option Addr} {N C : Nat → Nat} (h : OwSt X wr gl A N C) {p : Addr} (hp : X.heap.size ≤ p.block) (hg : p.block ≠ gl) (u : Int) : OwSt X (wr.setCell p (.int .i64 u)) gl A N C :=
  ⟨h.below.setCell hp _, fun k hk => cell_far hg (h.row k hk), fun k hk => (h.turns k hk).set p u⟩

set_option maxRecDepth 100000 in
set_option maxHeartbeats 4000000 in
theorem owns_walk (a : Option Addr) (n cap : Nat) (ms : List Msg) (m : Msg) (p0 : Int) (w : World) (hn : ms.length = n) (hcap : n ≤ cap) (hmax : cap ≤ maxLen) (hnone : a = none → n = 0 ∧ cap = 0) (hm : MsgsAt w.heap.size w a ms) (hp : 0 ≤ p0 ∧ p0 ≤ 255) :
    Calls Try.prog 7 #[.agg #[.slice a n cap], m.val, .int .u8 p0] w fun e W' => e = .returned (.bool true) ∧ Below w.heap.size w W' := by
  have hl : n ≤ 9223372036854775807 := by unfold maxLen at hmax; omega
  have Hn := Lib.hid hn
  have Hm := Lib.hid hm
  clear hn hm hmax
  go_enter Try.func7, Try.ntmps7
  go_wp2_with fail
  obtain ⟨W1, hW1⟩ : ∃ W' : World, ((w.alloc (.cells #[.slice a n cap] 24)).alloc (.cells m.cells.toArray 34)) = W' := ⟨_, rfl⟩
  have H1 : Has W1 [(w.heap.size + 1, .cells m.cells.toArray 34 (0, 0)), (w.heap.size, .cells #[.slice a n cap] 24 (0, 0))] := by rw [← hW1]; simpa using (((Has.nil w).new _).new _)
  have s1 : W1.heap.size = w.heap.size + 1 + 1 := by rw [← hW1]; simp
  have b1 : Below w.heap.size w W1 := by rw [← hW1]; exact (below_alloc (below_alloc (below_self w) _) _)
  rw [hW1]
  clear hW1
  refine (cut_ok a n cap ms W1 Hn.out hl hcap hnone (Hm.out.later b1)).mono ?_
  rintro e W2 ⟨v, rfl, ho, hb⟩
  have h50 := take50 ms
  generalize ms.take 50 = L at ho h50
  obtain ⟨a2, k, cap2, rfl, hk, hc2, _⟩ := Car.own' ho (by omega)
  rw [hk] at h50
  have h2 := H1.below hb
  have w2 := below_trans b1 hb
  have c0 := blk_one h2.tl.hd
  have f0 := blk_frozen h2.tl.hd 0
  obtain ⟨M0, M1, M2, M3, M4, M5, M6, M7, M8⟩ := blk_msg h2.hd
  have w3 : Below w.heap.size w (W2.setCell ⟨w.heap.size, 0, none⟩ (.slice a2 k cap2)) := w2.setCell (Nat.le_refl _) _
  have h3 : Has (W2.setCell ⟨w.heap.size, 0, none⟩ (.slice a2 k cap2)) [(w.heap.size, .cells #[.slice a2 k cap2] 24 (0, 0)), (w.heap.size + 1, .cells m.cells.toArray 34 (0, 0))] :=
    Has.cons (blk_set_same h2.tl.hd) (Has.cons (blk_set h2.hd (by simp) _) (Has.nil _))
  have hc3 : Car (W2.setCell ⟨w.heap.size, 0, none⟩ (.slice a2 k cap2)) a2 k cap2 L := by
    have ho3 := OwnMs.set (by assumption : OwnMs W1.heap.size W2 (.slice a2 k cap2) L) (a := ⟨w.heap.size, 0, none⟩) (by have := s1; simp at this ⊢; omega) (.slice a2 k cap2)
    obtain ⟨a', cap', he, hc'⟩ := Car.own ho3 (by rw [hk]; omega)
    rw [hk] at he hc'
    cases he
    exact hc'
  have HX := Lib.hid (And.intro h3 (And.intro w3 (And.intro hc3 h50)))
  have Hk := Lib.hid hk
  clear h2 w2 hc2 ho hb s1 H1 b1 h50 hk h3 w3 hc3
  go_wp2_with fail
  generalize W2.setCell _ _ = X at HX ⊢
  clear M0 M1 M2 M3 M4 M5 M6 M7 M8 c0 f0
  refine (cut_ok a2 k cap2 L X Hk.out HX.out.2.2.1.l64 HX.out.2.2.1.leCap HX.out.2.2.1.nil HX.out.2.2.1.at').mono ?_
  rintro e W3 ⟨v, rfl, ho, hb⟩
  rw [List.take_of_length_le (by rw [Hk.out]; exact HX.out.2.2.2)] at ho
  obtain ⟨a3, k3, cap3, rfl, hk3, hc3, _⟩ := Car.own' ho (by rw [Hk.out]; have := HX.out.2.2.2; omega)
  obtain rfl : k = k3 := Hk.out.symm.trans hk3
  have b3 := below_alloc (below_self W3) (.cells #[.slice a3 k cap3] 24)
  have h3 := (HX.out.1.below hb).new (.cells #[.slice a3 k cap3] 24)
  have w3 := below_trans (below_trans HX.out.2.1 hb) b3
  have hcc := (HX.out.2.2.1.below hb).below b3
  have hc3 := hc3.below b3
  have hs3 : W3.heap.size ≠ w.heap.size := by have h1 := hb.size; have h2 := blk_lt HX.out.1.hd; omega
  have h50 := HX.out.2.2.2
  clear HX hb ho
  go_upto_region 4 with fail
  generalize W3.alloc _ = Y at b3 h3 w3 hcc hc3 ⊢
  have c0 := blk_one h3.tl.hd
  have HY := Lib.hid (And.intro h3 (And.intro w3 (And.intro hcc (And.intro hc3 h50))))
  clear h3 w3 hcc hc3 b3 hs3 hk3
  go_upto_if 28 with fail
  go_cut [8] (fun s8 wx => ∃ p, s8 = .int .i64 p ∧ Y = wx)
  case first =>
    obtain ⟨hp1, hp2⟩ := hp
    by_cases hk0 : 0 < k
    · have hk1 : ¬ k = 0 := by omega
      have hk2 : ¬ (k : Int) = 0 := by omega
      have hw1 : IntKind.i64.wrap p0 = p0 := IntWalk.i64_in _ ⟨by omega, by omega⟩
      go_wp2_with fail
      go_meet
      exact ⟨_, rfl, rfl⟩
    · go_wp2_with fail
      go_meet
      exact ⟨_, rfl, rfl⟩
  case rest =>
    obtain ⟨p, rfl, rfl⟩ := hcut
    clear hp
    obtain ⟨M0, M1, M2, M3, M4, M5, M6, M7, M8⟩ := blk_msg HY.out.1.tl.tl.hd
    go_wp2_with fail
    have hCL := HY.out.2.2.1
    refine (send_ok a2 k cap2 L m Y Hk.out hCL.l64 hCL.at').mono ?_
    rintro e WA ⟨v, rfl, ho, hb⟩
    obtain ⟨aA, nA, cA, rfl, _, kA, oA⟩ := Car.own' ho (sendL_len L m (by rw [Hk.out]; exact HY.out.2.2.2.2))
    have hA := (HY.out.1.tl.below hb).cons (blk_below HY.out.1.hd hb)
    have ltA := Nat.lt_of_lt_of_le (blk_lt HY.out.1.tl.hd) hb.size
    have c0 := blk_one hA.tl.hd
    have zA := kA.le
    clear kA
    have HA := Lib.hid (And.intro hA (And.intro hb oA))
    clear ho hb hA oA M0 M1 M2 M3 M4 M5 M6 M7 M8
    generalize sendL L m = LA at HA
    go_wp2_with fail
    obtain ⟨XA, hXA⟩ : ∃ W' : World, (WA.alloc (.cells #[.slice aA nA cA] 24)) = W' := ⟨_, rfl⟩
    have H1 : Has XA [(WA.heap.size, .cells #[.slice aA nA cA] 24 (0, 0))] := by rw [← hXA]; simpa using ((Has.nil WA).new _)
    have s1 : XA.heap.size = WA.heap.size + 1 := by rw [← hXA]; simp
    have b1 : Below WA.heap.size WA XA := by rw [← hXA]; exact (below_alloc (below_self WA) _)
    rw [hXA]
    clear hXA
    clear c0 ltA
    have bA := below_trans HA.out.2.1 b1
    refine (deliver_ok a2 k cap2 p L XA Hk.out hCL.le hCL.leCap (hCL.at'.later bA)).mono ?_
    rintro e WB ⟨v, rfl, ho, hb⟩
    obtain ⟨aB, nB, cB, rfl, _, kB, oB⟩ := Car.own' ho (delL_len L p (by rw [Hk.out]; exact HY.out.2.2.2.2))
    have hB := (H1.below hb).hd
    have hs1 := hb.size
    have hs2 := HA.out.2.1.size
    have c0 := blk_one (HA.out.1.below b1 |>.below hb).tl.hd
    have hBh := ((HA.out.1.below b1).below hb).cons hB
    have oA := (HA.out.2.2.later b1).later hb
    have bB := below_trans bA hb
    have oB := oB.base (show Y.heap.size ≤ XA.heap.size by omega)
    have ltA : WA.heap.size < WB.heap.size := by omega
    have lt0 := blk_lt (HA.out.1.below b1 |>.below hb).tl.hd
    have zB := kB.le
    clear kB
    have HB := Lib.hid (And.intro hBh (And.intro bB (And.intro oA oB)))
    clear HA H1 s1 b1 bA ho hb hB hs1 hs2 hBh oA oB bB
    generalize delL L p = LB at HB
    generalize delM L p = MB
    generalize delE L p = EB
    go_wp2_with fail
    obtain ⟨XB, hXB⟩ : ∃ W' : World, ((WB.alloc (.cells MB.cells.toArray 34)).alloc (.cells #[.slice aB nB cB] 24)) = W' := ⟨_, rfl⟩
    have H1 : Has XB [(WB.heap.size + 1, .cells #[.slice aB nB cB] 24 (0, 0)), (WB.heap.size, .cells MB.cells.toArray 34 (0, 0))] := by rw [← hXB]; simpa using (((Has.nil WB).new _).new _)
    have s1 : XB.heap.size = WB.heap.size + 1 + 1 := by rw [← hXB]; simp
    have b1 : Below WB.heap.size WB XB := by rw [← hXB]; exact (below_alloc (below_alloc (below_self WB) _) _)
    rw [hXB]
    clear hXB
    clear c0 lt0
    have bA := below_trans HB.out.2.1 b1
    refine (repeat_ok a2 k cap2 p L XB Hk.out hCL.le (hCL.at'.later bA)).mono ?_
    rintro e WC ⟨v, rfl, ho, hb⟩
    obtain ⟨aC, nC, cC, rfl, _, kC, oC⟩ := Car.own' ho (repL_len L p (by rw [Hk.out]; exact HY.out.2.2.2.2))
    have hB := (H1.below hb).hd
    have hs1 := hb.size
    have hs2 := HB.out.2.1.size
    have hCh := ((HB.out.1.below b1).below hb).cons hB
    have c0 := blk_one hCh.tl.tl.tl.hd
    have oA := (HB.out.2.2.1.later b1).later hb
    have oB := (HB.out.2.2.2.later b1).later hb
    have bC := below_trans bA hb
    have oC := oC.base (show Y.heap.size ≤ XB.heap.size by omega)
    have ltB : WB.heap.size + 1 < WC.heap.size := by omega
    have lt0 := blk_lt hCh.tl.tl.tl.hd
    have zC := kC.le
    clear kC
    have HC := Lib.hid (And.intro hCh (And.intro bC (And.intro oA (And.intro oB oC))))
    clear HB H1 s1 b1 bA ho hb hB hs1 hs2 hCh oA oB oC bC
    generalize repL L p = LC at HC
    generalize repE L p = EC
    go_wp2_with fail
    obtain ⟨XC, hXC⟩ : ∃ W' : World, (WC.alloc (.cells #[.slice aC nC cC] 24)) = W' := ⟨_, rfl⟩
    have H1 : Has XC [(WC.heap.size, .cells #[.slice aC nC cC] 24 (0, 0))] := by rw [← hXC]; simpa using ((Has.nil WC).new _)
    have s1 : XC.heap.size = WC.heap.size + 1 := by rw [← hXC]; simp
    have b1 : Below WC.heap.size WC XC := by rw [← hXC]; exact (below_alloc (below_self WC) _)
    rw [hXC]
    clear hXC
    clear c0 lt0
    have bA := below_trans HC.out.2.1 b1
    refine (lose_ok a2 k cap2 p L XC Hk.out hCL.le hCL.leCap (hCL.at'.later bA)).mono ?_
    rintro e WD ⟨v, rfl, ho, hb⟩
    obtain ⟨aD, nD, cD, rfl, _, kD, oD⟩ := Car.own' ho (delL_len L p (by rw [Hk.out]; exact HY.out.2.2.2.2))
    have hB := (H1.below hb).hd
    have hs1 := hb.size
    have hs2 := HC.out.2.1.size
    have hDh := ((HC.out.1.below b1).below hb).cons hB
    have oA := (HC.out.2.2.1.later b1).later hb
    have oB := (HC.out.2.2.2.1.later b1).later hb
    have oC := (HC.out.2.2.2.2.later b1).later hb
    have bD := below_trans bA hb
    have oD := oD.base (show Y.heap.size ≤ XC.heap.size by omega)
    have ltC : WC.heap.size < WD.heap.size := by omega
    have dC := blk_one hDh.hd
    have dB := blk_one hDh.tl.hd
    have dA := blk_one hDh.tl.tl.hd
    have lA : WA.heap.size < WD.heap.size := blk_lt hDh.tl.tl.hd
    have lB : WB.heap.size + 1 < WD.heap.size := blk_lt hDh.tl.hd
    have zD := kD.le
    clear kD
    have HD := Lib.hid (And.intro bD (And.intro oA (And.intro oB (And.intro oC oD))))
    clear HC H1 s1 b1 bA ho hb hB hs1 hs2 hDh oA oB oC oD bD ltA ltB
    generalize delL L p = LD at HD
    generalize delE L p = ED
    go_wp2_with fail
    obtain ⟨XD, hXD⟩ : ∃ W' : World, ((WD.alloc (.cells #[.slice aD nD cD] 24)).alloc (.cells #[.slice aA nA cA, .slice aB nB cB, .slice aC nC cC, .slice aD nD cD] 24)) = W' := ⟨_, rfl⟩
    have H1 : Has XD [(WD.heap.size + 1, .cells #[.slice aA nA cA, .slice aB nB cB, .slice aC nC cC, .slice aD nD cD] 24 (0, 0)), (WD.heap.size, .cells #[.slice aD nD cD] 24 (0, 0))] := by rw [← hXD]; simpa using (((Has.nil WD).new _).new _)
    have s1 : XD.heap.size = WD.heap.size + 1 + 1 := by rw [← hXD]; simp
    have b1 : Below WD.heap.size WD XD := by rw [← hXD]; exact (below_alloc (below_alloc (below_self WD) _) _)
    rw [hXD]
    clear hXD
    have hst : ∃ (A : Nat → Option Addr) (N C : Nat → Nat), (∀ k, k < 4 → N k ≤ 1000000) ∧ OwSt Y XD (WD.heap.size + 1) A N C := by
      have hg : WD.heap.size ≤ WD.heap.size + 1 := by omega
      have tA := Turns.own HD.out.2.1 (Nat.le_refl _) hg b1
      have tB := Turns.own HD.out.2.2.1 (Nat.le_refl _) hg b1
      have tC := Turns.own HD.out.2.2.2.1 (Nat.le_refl _) hg b1
      have tD := Turns.own HD.out.2.2.2.2 (Nat.le_refl _) hg b1
      refine ⟨fun k => match k with | 0 => aA | 1 => aB | 2 => aC | _ => aD, fun k => match k with | 0 => nA | 1 => nB | 2 => nC | _ => nD, fun k => match k with | 0 => cA | 1 => cB | 2 => cC | _ => cD, ?_, below_trans HD.out.1 b1, ?_, ?_⟩
      · intro k hk
        match k, hk with
        | 0, _ => exact zA
        | 1, _ => exact zB
        | 2, _ => exact zC
        | 3, _ => exact zD
      · intro k hk
        rw [blk_cell H1.hd]
        match k, hk with
        | 0, _ => rfl
        | 1, _ => rfl
        | 2, _ => rfl
        | 3, _ => rfl
      · intro k hk
        match k, hk with
        | 0, _ => exact tA
        | 1, _ => exact tB
        | 2, _ => exact tC
        | 3, _ => exact tD
    obtain ⟨A, N, C, hN, hst⟩ := hst
    have h4 : (WD.heap.size : Int) + 1 = ((WD.heap.size + 1 : Nat) : Int) := by omega
    generalize WD.heap.size + 1 = gl at hst h4 ⊢
    clear H1 s1 b1 dA dB dC lA lB ltC HD h4 c0 hCL
    go_loopw [19] (fun kk wr => ∃ (k1 : Nat) (Z : World), k1 ≤ 4 ∧ kk = .int .i64 k1 ∧ Z = wr ∧ OwSt Y Z gl A N C) (fun kk _ => 4 - (intOf kk).toNat)
    case atStart =>
      exact ⟨0, _, by omega, rfl, rfl, hst⟩
    case round =>
      obtain ⟨k1, Z, hk1, rfl, rfl, hz⟩ := hrel
      by_cases hlt : k1 < 4
      · have hNk := hN k1 hlt
        go_wp2_with fail
        have hd : decide ((k1 : Int) < 4) = true := decide_eq_true (by omega)
        rw [hd]
        clear hd
        go_loopw [20] (fun ii wr => ∃ (i : Nat) (V : World), i ≤ N k1 ∧ ii = .int .i64 i ∧ V = wr ∧ OwSt Y V gl A N C) (fun ii _ => N k1 - (intOf ii).toNat)
        case atStart =>
          exact ⟨0, _, by omega, rfl, rfl, hz⟩
        case round =>
          obtain ⟨i, V, hi, rfl, rfl, hv⟩ := hrel
          have g0 := hv.row k1 hlt
          by_cases hil : i < N k1
          · obtain ⟨b, o, z, hAk, hBb, hbg, hcz, hfz⟩ := hv.turns k1 hlt i hil
            rw [hAk] at g0
            have HV := Lib.hid (And.intro hv (And.intro hBb hbg))
            clear hv hBb hbg hAk
            generalize N k1 = nk at *
            go_wp2_with fail
            go_still_tail 18, (by kernel_rfl)
            have hv' : OwSt Y V.drew gl A N C := ⟨HV.out.1.below.drew, HV.out.1.row, HV.out.1.turns⟩
            have hfz' : V.drew.frozen? ⟨b, o + i * 9, none⟩ = false := hfz
            have hcz' : V.drew.cell? ⟨b, o + i * 9, none⟩ = some (.int .i64 z) := hcz
            change wpList _ _ _ _ _ V.drew
            generalize V.drew = V5 at hv' hfz' hcz' ⊢
            have H5 := Lib.hid (hv'.set (p := ⟨b, o + i * 9, none⟩) HV.out.2.1 HV.out.2.2)
            clear hv' HV hcz hfz g0
            go_wp2
            go_roundw
            case rel => exact ⟨i + 1, _, by omega, by go_num, rfl, H5.out _⟩
            case measure => simp [intOf]; omega
          · have HV := Lib.hid hv
            clear hv
            generalize A k1 = ak at *
            generalize C k1 = ck at *
            generalize N k1 = nk at *
            go_wp2
            go_roundw
            case rel => exact ⟨k1 + 1, _, by omega, by go_num, rfl, HV.out⟩
            case measure => simp [intOf]; omega
      · have hb := hz.below
        have hk4 : k1 = 4 := by omega
        subst hk4
        have c0 := cell_call hb (blk_lt HY.out.1.tl.hd) (blk_one HY.out.1.tl.hd)
        have c1 := cell_call hb (blk_lt HY.out.1.hd) (blk_one HY.out.1.hd)
        have hc2 := HY.out.2.2.1.below hb
        have hc3 := HY.out.2.2.2.1.below hb
        have HZ := Lib.hid (And.intro (below_trans HY.out.2.1 hb) (And.intro hc2 hc3))
        clear hz hb HY hc2 hc3
        go_wp2_with fail
        refine (same_ok a2 a3 k k cap2 cap3 L L Z Hk.out Hk.out HZ.out.2.1.l64 HZ.out.2.2.l64 HZ.out.2.1.at' HZ.out.2.2.at').mono ?_
        rintro e W8 ⟨rfl, hb⟩
        rw [decide_eq_true rfl]
        have HY := Lib.hid (below_trans HZ.out.1 hb)
        clear HZ hb c0 c1
        go_wp2_with fail
        refine (lives_ok W8).mono ?_
        rintro e W9 ⟨rfl, hb⟩
        have HZ := Lib.hid (below_trans HY.out hb)
        clear HY hb
        go_wp2
        go_ret
        exact ⟨rfl, HZ.out⟩
end Go.Proofs.Ytkfoclibejpbdaa
