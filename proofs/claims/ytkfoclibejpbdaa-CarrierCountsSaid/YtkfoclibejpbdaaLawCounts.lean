/- Chapter 25, law CarrierCounts: its walk. -/
import Derived.Test.YtkfoclibejpbdaaLaw
import Derived.Test.YtkfoclibejpbdaaTypes3
import Derived.Deep.RegionHeld3
import Derived.Deep.DeepCutAuto
import Derived.Deep.CutRange
import Derived.IntWalk
import Derived.Deep.CutBlock
namespace Go.Proofs.Ytkfoclibejpbdaa
open Go Go.RowKit

theorem count_snoc (ms : List Msg) (x m : Msg) : (ms ++ [x]).count m = ms.count m + (if x = m then 1 else 0) := by
  rw [List.count_append]
  by_cases h : x = m <;> simp [h]
theorem count_drop1 (ms : List Msg) (m : Msg) (p : Nat) (hp : p < ms.length) : (drop1 ms p).count m + (if ms.getD p default = m then 1 else 0) = ms.count m := by
  have h : ms = ms.take p ++ ms.getD p default :: ms.drop (p + 1) := by
    simp [List.getD, List.getElem?_eq_getElem hp]
  have h2 : ms.count m = (ms.take p ++ ms.getD p default :: ms.drop (p + 1)).count m := by rw [← h]
  rw [h2]
  unfold drop1
  rw [List.count_append, List.count_append, List.count_cons]
  by_cases hx : ms.getD p default = m
  · simp only [hx, if_true, beq_self_eq_true]; omega
  · simp only [hx, if_false, beq_iff_eq]; omega

theorem drop1_len (ms : List Msg) (p : Nat) (hp : p < ms.length) : (drop1 ms p).length + 1 = ms.length := by
  unfold drop1; rw [List.length_append, List.length_take, List.length_drop]; omega

/-- What the loop holds of the memory: m's box, c's box, c's messages. -/
structure CF (w X : World) (m : Msg) (v : Value) (ms : List Msg) : Prop where
  has : Has X [(w.heap.size + 1, .cells #[v] 24 (0, 0)), (w.heap.size, .cells m.cells.toArray 34 (0, 0))]
  below : Below w.heap.size w X
  own : OwnMs (w.heap.size + 2) X v ms
theorem CF.start (w : World) (m : Msg) : CF w ((w.alloc (.cells m.cells.toArray 34)).alloc (.cells #[.slice none 0 0] 24)) m (.slice none 0 0) [] :=
  ⟨by simpa using ((Has.nil w).new (.cells m.cells.toArray 34)).new (.cells #[.slice none 0 0] 24), below_alloc (below_alloc (below_self w) _) _, OwnMs.nil _ _⟩
theorem CF.drewN {w X : World} {m : Msg} {v : Value} {ms : List Msg} (h : CF w X m v ms) (d : Nat) : CF w (X.drewN d) m v ms := ⟨h.has, below_drewN h.below d, h.own⟩
theorem CF.later {w X Y : World} {m : Msg} {v : Value} {ms : List Msg} (h : CF w X m v ms) (hb : Below X.heap.size X Y) : CF w Y m v ms := ⟨h.has.below hb, below_trans h.below hb, h.own.later hb⟩

/-- How often a call puts the message in, takes it out. -/
def inB (b : Bool) (d : Int) : Nat := if b = true ∧ (d % 4 = 0 ∨ d % 4 = 3) then 1 else 0
def outB (b : Bool) (d : Int) : Nat := if b = true ∧ (d % 4 = 1 ∨ d % 4 = 2) then 1 else 0
/-- What holds behind the switch: the boxes of x (block g), c and m; what they hold; the counts if no error came. -/
def Sw (w wx : World) (m : Msg) (v : Value) (ms : List Msg) (d : Int) (j g : Nat) (b : Bool) (ec : Int) : Prop :=
  ∃ v' ms', Has wx [(g, .cells #[v'] 24 (0, 0)), (w.heap.size + 1, .cells #[v] 24 (0, 0)), (w.heap.size, .cells m.cells.toArray 34 (0, 0))] ∧ Below w.heap.size w wx ∧ OwnMs (w.heap.size + 2) wx v ms ∧ w.heap.size + 2 ≤ g ∧
    OwnMs (w.heap.size + 2) wx v' ms' ∧ (ec = 0 → ms'.length ≤ j + 1 ∧ ms'.count m + outB b d = ms.count m + inB b d)
theorem Sw.drewN {w wx : World} {m : Msg} {v : Value} {ms : List Msg} {d : Int} {j g : Nat} {b : Bool} {ec : Int} (h : Sw w wx m v ms d j g b ec) (q : Nat) : Sw w (wx.drewN q) m v ms d j g b ec := by
  obtain ⟨v', ms', h1, h2, h3, h4, h5, h6⟩ := h
  exact ⟨v', ms', h1, below_drewN h2 q, h3, h4, h5, h6⟩
/-- Behind the call (world WA) and the store of its result. -/
theorem Sw.mk' {w A WA : World} {m : Msg} {v v0 v' : Value} {ms ms' : List Msg} {d : Int} {j g : Nat} {b : Bool} {ec : Int}
    (hA : Has A [(g, .cells #[v0] 24 (0, 0)), (w.heap.size + 1, .cells #[v] 24 (0, 0)), (w.heap.size, .cells m.cells.toArray 34 (0, 0))]) (bA : Below w.heap.size w A) (oA : OwnMs (w.heap.size + 2) A v ms) (hg : w.heap.size + 2 ≤ g) (hgv : some g ≠ v.ownBlock)
    (ho : OwnMs A.heap.size WA v' ms') (hb : Below A.heap.size A WA) (hc : ec = 0 → ms'.length ≤ j + 1 ∧ ms'.count m + outB b d = ms.count m + inB b d) :
    Sw w (WA.setCell ⟨g, 0, none⟩ v') m v ms d j g b ec := by
  have h1 := hA.below hb
  have hgA := blk_lt hA.hd
  refine ⟨v', ms', Has.cons (blk_set_same h1.hd) (Has.cons (blk_set h1.tl.hd (by simp; omega) _) (Has.cons (blk_set h1.tl.tl.hd (by simp; omega) _) (Has.nil _))), (below_trans bA hb).setCell (by simp; omega) _, ?_, hg, (ho.set (a := ⟨g, 0, none⟩) (by simpa using hgA) _).base (by omega), hc⟩
  have h3 := oA.later hb
  refine ⟨h3.1, ?_⟩
  rcases h3.2 with h2 | ⟨g', cap, cur, hv, hg', hh, r⟩
  · exact Or.inl h2
  · refine Or.inr ⟨g', cap, cur, hv, hg', ?_, r⟩
    exact blk_set hh (by intro he; apply hgv; rw [hv]; simp [Value.ownBlock] at he ⊢; exact he.symm) _

theorem cnt_send (ms : List Msg) (x m : Msg) (j : Nat) (d : Int) (hd : d % 4 = 0) (hl : ms.length ≤ j) : sendE ms = 0 → (sendL ms x).length ≤ j + 1 ∧ (sendL ms x).count m + outB (decide (x = m)) d = ms.count m + inB (decide (x = m)) d := by
  intro he
  have h40 : ¬ 40 ≤ ms.length := by unfold sendE at he; intro h; rw [if_pos h] at he; omega
  unfold sendL
  rw [if_neg h40, count_snoc]
  have h1 : outB (decide (x = m)) d = 0 := by unfold outB; rw [if_neg (by omega)]
  refine ⟨by simp; omega, ?_⟩
  rw [h1]
  by_cases hx : x = m <;> simp [inB, hx, hd]
theorem cnt_del (ms : List Msg) (m : Msg) (p j k : Nat) (b : Bool) (d : Int) (hd : d % 4 = 1 ∨ d % 4 = 2) (hk : ms.length = k) (hl : ms.length ≤ j) (hb : p < k → b = decide (ms.getD p default = m)) :
    delE ms p = 0 → (delL ms p).length ≤ j + 1 ∧ (delL ms p).count m + outB b d = ms.count m + inB b d := by
  intro he
  have hin : inside p ms.length = true := by
    unfold delE at he
    by_cases h : inside p ms.length = true
    · exact h
    · rw [if_neg h] at he; omega
  have hp : p < ms.length := by unfold inside at hin; simp at hin; omega
  have h0 : inB b d = 0 := by unfold inB; rw [if_neg (by omega)]
  have hb' := hb (by omega)
  unfold delL
  rw [if_pos hin]
  have h1 := count_drop1 ms m p hp
  rw [show ((p : Nat) : Int).toNat = p from rfl]
  refine ⟨by have := (drop1_len ms p hp); omega, ?_⟩
  rw [h0, ← h1, hb']
  generalize ms.getD p default = x
  by_cases hx : x = m
  · simp [outB, hx, hd]
  · simp [outB, hx]
theorem cnt_rep (ms : List Msg) (m : Msg) (p j k : Nat) (b : Bool) (d : Int) (hd : d % 4 = 3) (hk : ms.length = k) (hl : ms.length ≤ j) (hb : p < k → b = decide (ms.getD p default = m)) :
    repE ms p = 0 → (repL ms p).length ≤ j + 1 ∧ (repL ms p).count m + outB b d = ms.count m + inB b d := by
  intro he
  have hin : inside p ms.length = true := by
    unfold repE at he
    by_cases h : inside p ms.length = true
    · exact h
    · rw [if_neg h] at he; omega
  have hp : p < ms.length := by unfold inside at hin; simp at hin; omega
  have hb' := hb (by omega)
  unfold repE at he
  rw [if_pos hin] at he
  unfold repL
  rw [if_pos hin, hb']
  rw [show ((p : Nat) : Int).toNat = p from rfl]
  generalize ms.getD p default = x
  have h40 : ¬ 40 ≤ ms.length := by unfold sendE at he; intro h; rw [if_pos h] at he; omega
  unfold sendL
  rw [if_neg h40, count_snoc]
  have h1 : outB (decide (x = m)) d = 0 := by unfold outB; rw [if_neg (by omega)]
  refine ⟨by simp; omega, ?_⟩
  rw [h1]
  by_cases hx : x = m <;> simp [inB, hx, hd]

set_option maxRecDepth 100000 in
set_option maxHeartbeats 4000000 in
theorem counts_walk (a : Option Addr) (n cap : Nat) (xs : List LAct) (m : Msg) (w : World) (hn : xs.length = n) (_hcap : n ≤ cap) (hmax : cap ≤ maxLen) (_hnone : a = none → n = 0 ∧ cap = 0) (hm : RowsAt w.heap.size w a 11 (xs.map LAct.cells)) (hb : ∀ x ∈ xs, x.ok) :
    Calls Try.prog 8 #[.slice a n cap, m.val] w fun e W' => e = .returned (.bool true) ∧ Below w.heap.size w W' := by
  have hl : n ≤ 9223372036854775807 := by unfold maxLen at hmax; omega
  have Hn := Lib.hid hn
  have Hm := Lib.hid hm
  have Hb := Lib.hid hb
  clear hn hm hmax hb
  go_enter Try.func8, Try.ntmps8
  go_wp2_with fail
  go_loopw [6, 7, 8] (fun s6 s7 s8 wr => ∃ (j i o : Nat) (X : World) (v : Value) (ms : List Msg), (j ≤ n ∧ j ≤ 100 ∧ i ≤ j ∧ o ≤ j ∧ ms.length ≤ j ∧ i = o + ms.count m) ∧ s6 = .int .i64 i ∧ s7 = .int .i64 o ∧ s8 = .int .i64 j ∧ X = wr ∧ CF w X m v ms) (fun _ _ s8 _ => n - (intOf s8).toNat)
  case atStart =>
    exact ⟨0, 0, 0, _, _, [], ⟨Nat.zero_le _, by omega, by omega, by omega, by simp, by simp⟩, rfl, rfl, rfl, rfl, CF.start w m⟩
  case round =>
    obtain ⟨j, i, o, X, v, ms, ⟨hj, hj100, hij, hoj, hml, hio⟩, rfl, rfl, rfl, rfl, hcf⟩ := hrel
    have HIO := Lib.hid hio
    clear hio
    by_cases hlt : j < n ∧ j < 100
    · obtain ⟨h1n, h1h⟩ := hlt
      obtain ⟨a2, k, cap2, rfl, hk, hc2, ho2⟩ := Car.own' hcf.own (by omega)
      obtain ⟨x, hx⟩ : ∃ x, xs[j]? = some x := ⟨_, List.getElem?_eq_getElem (by rw [Hn.out]; exact h1n)⟩
      obtain ⟨hx1, hx2⟩ := Hb.out x (List.mem_of_getElem? hx)
      obtain ⟨b0, o0, rfl, hb0, e0⟩ := Hm.out j x.cells (by simp [hx])
      have HCF := Lib.hid hcf
      have HE := Lib.hid (fun W (hb : Below w.heap.size w W) i u (hu : x.cells[i]? = some u) => cell_call hb (a := ⟨b0, o0 + j * 11 + i, none⟩) hb0 (e0 i u hu))
      clear hcf e0 ho2
      have c5 := blk_one HCF.out.has.hd
      have y0 := HE.out _ HCF.out.below 0 _ rfl
      have y1 := HE.out _ HCF.out.below 1 _ rfl
      rw [Nat.add_zero] at y0
      go_upto_if 26 with fail
      go_cut [9] from 13 to 146 (fun s9 wx => ∃ (p : Nat) (d : Nat), s9 = .int .i64 p ∧ (p < k ∨ (k = 0 ∧ p = 0)) ∧ X.drewN d = wx)
      case first =>
        obtain ⟨hx3, hx4⟩ := hx2
        by_cases hk0 : 0 < k
        · have hk1 : ¬ k = 0 := by omega
          have hk2 : ¬ (k : Int) = 0 := by omega
          have hw1 : IntKind.i64.wrap x.at' = x.at' := IntWalk.i64_in _ ⟨by omega, by omega⟩
          obtain ⟨p, hp⟩ : ∃ p : Nat, (p : Int) = x.at'.tmod (k : Int) := ⟨(x.at'.tmod (k : Int)).toNat, Int.toNat_of_nonneg (Int.tmod_nonneg _ hx3)⟩
          have hp1 : x.at'.tmod (k : Int) < k := Int.tmod_lt_of_pos _ (by omega)
          have hpk : p < k := by omega
          have hw2 : IntKind.i64.wrap (x.at'.tmod (k : Int)) = (p : Int) := by rw [← hp]; exact IntWalk.i64_in _ ⟨by omega, by omega⟩
          have HP := Lib.hid (show x.at' % (k : Int) = (p : Int) by rw [hp, Int.tmod_eq_emod_of_nonneg hx3])
          clear hp hp1
          go_wp2_with fail
          go_quiet (fail)
          rw [HP.out]
          clear hw1 hw2 hk1 hk2 y0 y1
          go_wp2_with fail
          go_meet
          exact ⟨p, nq, rfl, .inl hpk, rfl⟩
        · go_wp2_with fail
          go_meet
          exact ⟨0, 0, rfl, .inr ⟨by omega, rfl⟩, rfl⟩
      case rest =>
        obtain ⟨p, d, rfl, hp, rfl⟩ := hcut
        have hcf := HCF.out.drewN d
        generalize X.drewN d = Y at hcf ⊢
        clear c5 y0 y1 HCF
        have HCF := Lib.hid hcf
        clear hcf
        go_upto_region 9 with fail
        have hmY : MsgsAt Y.heap.size Y a2 ms := by
          obtain ⟨a', cap', he, hm'⟩ := HCF.out.own.msgs
          cases he
          exact hm'
        go_cut [10] from 13 to 146 (fun s10 wx => ∃ (isb : Bool) (d : Nat), s10 = .bool isb ∧ (p < k → isb = decide (ms.getD p default = m)) ∧ Y.drewN d = wx)
        case first =>
          have c5 := blk_one HCF.out.has.hd
          obtain ⟨M0, M1, M2, M3, M4, M5, M6, M7, M8⟩ := blk_msg HCF.out.has.tl.hd
          by_cases hpk : p < k
          · obtain ⟨b1, o1, rfl, _, hc⟩ := hmY.at' p (by rw [hk]; exact hpk)
            obtain ⟨hc0, hc1, hc2, hc3, hc4, hc5, hc6, hc7, hc8⟩ := hc
            generalize hxp : ms.getD p default = xp at hc0 hc1 hc2 hc3 hc4 hc5 hc6 hc7 hc8 ⊢
            have HXP := Lib.hid hxp
            clear hxp
            have heq := eq34 xp m
            have hg := guard34
            have hpI : (p : Int) < (k : Int) := by omega
            have hd : decide ((p : Int) < (k : Int)) = true := decide_eq_true hpI
            go_quiet (fail)
            clear hc0 hc1 hc2 hc3 hc4 hc5 hc6 hc7 hc8 heq hg hd c5 M0 M1 M2 M3 M4 M5 M6 M7 M8
            go_wp2_with fail
            go_meet
            exact ⟨_, nq, rfl, fun _ => by rw [HXP.out], rfl⟩
          · have hd : decide ((p : Int) < (k : Int)) = false := decide_eq_false (by omega)
            go_quiet (fail)
            go_wp2_with fail
            go_meet
            exact ⟨_, nq, rfl, fun h => absurd h hpk, rfl⟩
        case rest =>
          obtain ⟨isb, d, rfl, his, rfl⟩ := hcut
          have hcf := HCF.out.drewN d
          generalize Y.drewN d = Z at hcf ⊢
          clear HCF hmY
          have HCF := Lib.hid hcf
          clear hcf
          have c5 := blk_one HCF.out.has.hd
          have l5 : w.heap.size + 1 < Z.heap.size := blk_lt HCF.out.has.hd
          have y0 := HE.out _ HCF.out.below 0 _ rfl
          have ly : b0 < Z.heap.size := Nat.lt_of_lt_of_le hb0 HCF.out.below.size
          rw [Nat.add_zero] at y0
          obtain ⟨hx5, hx6⟩ := hx1
          go_upto_block 2 with fail
          have hA := HCF.out.has.new (.cells #[.slice a2 k cap2] 24)
          have bA := below_alloc HCF.out.below (.cells #[.slice a2 k cap2] 24)
          have oA := HCF.out.own.alloc (.cells #[.slice a2 k cap2] 24)
          have hgs : w.heap.size + 2 ≤ Z.heap.size := by omega
          have hgv : some Z.heap.size ≠ (Value.slice a2 k cap2).ownBlock := by
            intro he
            have := (HCF.out.own.lt _ he.symm).2
            omega
          generalize Z.alloc _ = A at hA bA oA ⊢
          generalize Z.heap.size = g at hA hgs hgv ⊢
          have HA := Lib.hid (And.intro hA (And.intro bA (And.intro oA (And.intro hgs (And.intro hgv his)))))
          clear hA bA oA hgs hgv his HCF c5 l5 y0 ly
          go_cut [10, 12] from 13 to 146 (fun s10 s12 wx => ∃ (b2 : Bool) (ec : Int), s10 = .bool b2 ∧ s12 = .int .i64 ec ∧ Sw w wx m (.slice a2 k cap2) ms x.op j g b2 ec)
          case first =>
            have c5 := blk_one HA.out.1.tl.hd
            have hcA : MsgsAt A.heap.size A a2 ms := by
              obtain ⟨a', cap', he, hm'⟩ := HA.out.2.2.1.msgs
              cases he
              exact hm'
            have HCA := Lib.hid hcA
            clear hcA
            have hkM : k ≤ 1000000 := by omega
            have h4 : x.op % 4 = 0 ∨ x.op % 4 = 1 ∨ x.op % 4 = 2 ∨ x.op % 4 = 3 := by omega
            rcases h4 with hd | hd | hd | hd
            · have hE : ∀ i u, x.cells[i]? = some u → A.cell? ⟨b0, o0 + j * 11 + i, none⟩ = some u := fun i u h => HE.out _ HA.out.2.1 i u h
              have e2 := hE 2 _ rfl
              have e3 := hE 3 _ rfl
              have e4 := hE 4 _ rfl
              have e5 := hE 5 _ rfl
              have e6 := hE 6 _ rfl
              have e7 := hE 7 _ rfl
              have e8 := hE 8 _ rfl
              have e9 := hE 9 _ rfl
              have e10 := hE 10 _ rfl
              clear hE
              have ly : b0 < A.heap.size := Nat.lt_of_lt_of_le hb0 HA.out.2.1.size
              have l5 : w.heap.size + 1 < A.heap.size := blk_lt HA.out.1.tl.hd
              have HC := Lib.hid (fun W (hb : Below A.heap.size A W) => (And.intro (cell_call hb l5 c5) (And.intro (cell_call hb ly e2) (And.intro (cell_call hb ly e3) (And.intro (cell_call hb ly e4) (And.intro (cell_call hb ly e5) (And.intro (cell_call hb ly e6) (And.intro (cell_call hb ly e7) (And.intro (cell_call hb ly e8) (And.intro (cell_call hb ly e9) (cell_call hb ly e10)))))))))))
              clear e2 e3 e4 e5 e6 e7 e8 e9 e10 c5
              go_upto_region 13 with fail
              go_cut [12] from 13 to 146 (fun s12 wx => ∃ (ec : Int), s12 = .int .i64 ec ∧ Sw w wx m (.slice a2 k cap2) ms x.op j g (decide (x.m = m)) ec)
              case first =>
                have bX := (below_self A).drew
                have hg1 : g ≠ w.heap.size + 1 := by have := HA.out.2.2.2.1; omega
                have hg2 : g ≠ b0 := by have := HA.out.2.2.2.1; omega
                go_region_held3 (fun w' => w'.cell? ⟨w.heap.size + 1, 0, none⟩ = some (.slice a2 k cap2) ∧ w'.cell? ⟨b0, o0 + j * 11 + 2, none⟩ = some (.int .i64 x.m.to) ∧ w'.cell? ⟨b0, o0 + j * 11 + 3, none⟩ = some (.int .i64 x.m.id) ∧ w'.cell? ⟨b0, o0 + j * 11 + 4, none⟩ = some (.int .i64 x.m.lease) ∧ w'.cell? ⟨b0, o0 + j * 11 + 5, none⟩ = some (.int .u8 x.m.kind)
                    ∧ w'.cell? ⟨b0, o0 + j * 11 + 6, none⟩ = some (.int .i64 x.m.host) ∧ w'.cell? ⟨b0, o0 + j * 11 + 7, none⟩ = some (.int .i64 x.m.service) ∧ w'.cell? ⟨b0, o0 + j * 11 + 8, none⟩ = some (.int .i64 x.m.version) ∧ w'.cell? ⟨b0, o0 + j * 11 + 9, none⟩ = some (.int .i64 x.m.rid) ∧ w'.cell? ⟨b0, o0 + j * 11 + 10, none⟩ = some (.int .u8 x.m.ans))
                  ((first | exact HC.out _ bX | exact HC.out _ bY | (obtain ⟨k0, k1, k2, k3, k4, k5, k6, k7, k8, k9⟩ := HC.out _ bY; exact ⟨cell_far hg1 k0, cell_far hg2 k1, cell_far hg2 k2, cell_far hg2 k3, cell_far hg2 k4, cell_far hg2 k5, cell_far hg2 k6, cell_far hg2 k7, cell_far hg2 k8, cell_far hg2 k9⟩)))
                  (first
                    | (go_at_call 20; refine (send_ok a2 k cap2 ms x.m _ hk (by omega) (HCA.out.later bX)).mono ?_; rintro e WA ⟨vA, rfl, hoA, hbA⟩; have bY := below_trans bX hbA; (rcases owns_shape hoA with ⟨aA, capA, rfl, _, _⟩); have hN := (HA.out.1.below bY).hd; have cN := blk_one hN; have fN := blk_frozen hN 0))
                have HS := Lib.hid (Sw.mk' HA.out.1 HA.out.2.1 HA.out.2.2.1 HA.out.2.2.2.1 HA.out.2.2.2.2.1 hoA bY (cnt_send ms x.m m j x.op hd hml))
                clear hN hoA hbA hd
                go_wp2_with fail
                go_meet
                exact ⟨_, rfl, HS.out⟩
              case rest =>
                obtain ⟨ec, rfl, hs⟩ := hcut
                have HS := Lib.hid hs
                obtain ⟨v1, ms1, h1, bw, _, _, _, _⟩ := hs
                have hE : ∀ i u, x.cells[i]? = some u → wc.cell? ⟨b0, o0 + j * 11 + i, none⟩ = some u := fun i u h => HE.out _ bw i u h
                have e2 := hE 2 _ rfl
                have e3 := hE 3 _ rfl
                have e4 := hE 4 _ rfl
                have e5 := hE 5 _ rfl
                have e6 := hE 6 _ rfl
                have e7 := hE 7 _ rfl
                have e8 := hE 8 _ rfl
                have e9 := hE 9 _ rfl
                have e10 := hE 10 _ rfl
                obtain ⟨M0, M1, M2, M3, M4, M5, M6, M7, M8⟩ := blk_msg h1.tl.tl.hd
                have heq := eq34 x.m m
                have hg := guard34
                clear hE h1 bw HC HA HCA hd
                go_wp2_with fail
                go_quiet (fail)
                clear heq hg e2 e3 e4 e5 e6 e7 e8 e9 e10 M0 M1 M2 M3 M4 M5 M6 M7 M8
                go_wp2_with fail
                go_meet
                exact ⟨_, ec, rfl, rfl, HS.out.drewN nq⟩
            · go_wp2_with fail
              refine (deliver_ok a2 k cap2 p ms _ hk hkM hc2.leCap HCA.out).mono ?_
              rintro e WA ⟨vA, rfl, hoA, hbA⟩
              have hN := (HA.out.1.below hbA).hd
              have cN := blk_one hN
              have fN := blk_frozen hN 0
              have HS := Lib.hid (Sw.mk' HA.out.1 HA.out.2.1 HA.out.2.2.1 HA.out.2.2.2.1 HA.out.2.2.2.2.1 hoA hbA (cnt_del ms m p j k isb x.op (.inl hd) hk hml HA.out.2.2.2.2.2))
              obtain ⟨aA, capA, rfl, _, _⟩ := owns_shape hoA
              clear hN hoA hbA hd
              go_wp2_with fail
              go_meet
              exact ⟨_, _, rfl, rfl, HS.out⟩
            · go_wp2_with fail
              refine (lose_ok a2 k cap2 p ms _ hk hkM hc2.leCap HCA.out).mono ?_
              rintro e WA ⟨vA, rfl, hoA, hbA⟩
              have hN := (HA.out.1.below hbA).hd
              have cN := blk_one hN
              have fN := blk_frozen hN 0
              have HS := Lib.hid (Sw.mk' HA.out.1 HA.out.2.1 HA.out.2.2.1 HA.out.2.2.2.1 HA.out.2.2.2.2.1 hoA hbA (cnt_del ms m p j k isb x.op (.inr hd) hk hml HA.out.2.2.2.2.2))
              obtain ⟨aA, capA, rfl, _, _⟩ := owns_shape hoA
              clear hN hoA hbA hd
              go_wp2_with fail
              go_meet
              exact ⟨_, _, rfl, rfl, HS.out⟩
            · go_wp2_with fail
              refine (repeat_ok a2 k cap2 p ms _ hk hkM HCA.out).mono ?_
              rintro e WA ⟨vA, rfl, hoA, hbA⟩
              have hN := (HA.out.1.below hbA).hd
              have cN := blk_one hN
              have fN := blk_frozen hN 0
              have HS := Lib.hid (Sw.mk' HA.out.1 HA.out.2.1 HA.out.2.2.1 HA.out.2.2.2.1 HA.out.2.2.2.2.1 hoA hbA (cnt_rep ms m p j k isb x.op hd hk hml HA.out.2.2.2.2.2))
              obtain ⟨aA, capA, rfl, _, _⟩ := owns_shape hoA
              clear hN hoA hbA hd
              go_wp2_with fail
              go_meet
              exact ⟨_, _, rfl, rfl, HS.out⟩
          case rest =>
            obtain ⟨b2, ec, rfl, rfl, hs⟩ := hcut
            clear HA
            obtain ⟨v1, ms1, h1, bw, ho1, hg1, ho2, hcnt⟩ := hs
            by_cases hec : ec = 0
            · obtain ⟨hl1, hc1⟩ := hcnt hec
              subst hec
              obtain ⟨a3, k3, cap3, rfl, hk3, hc3, ho3⟩ := Car.own' ho2 (by omega)
              have c5 := blk_one h1.tl.hd
              have f5 := blk_frozen h1.tl.hd 0
              have cg := blk_one h1.hd
              have hcf2 : CF w (wc.setCell ⟨w.heap.size + 1, 0, none⟩ (.slice a3 k3 cap3)) m (.slice a3 k3 cap3) ms1 :=
                ⟨Has.cons (blk_set_same h1.tl.hd) (Has.cons (blk_set h1.tl.tl.hd (by simp) _) (Has.nil _)), bw.setCell (by simp) _, ho3.set (a := ⟨w.heap.size + 1, 0, none⟩) (by simp) _⟩
              have HC2 := Lib.hid hcf2
              have HK := Lib.hid hc1
              have hj1 : ms1.length ≤ j + 1 := hl1
              clear hcf2 hc1 hcnt h1 bw ho1 ho2 ho3 hc3 hk3 hl1 hg1
              go_upto_region 23 with fail
              generalize wc.setCell _ _ = Y at HC2 ⊢
              clear c5 f5 cg
              have y0 := HE.out _ HC2.out.below 0 _ rfl
              rw [Nat.add_zero] at y0
              have h4 : x.op % 4 = 0 ∨ x.op % 4 = 1 ∨ x.op % 4 = 2 ∨ x.op % 4 = 3 := by omega
              have HIK := Lib.hid (And.intro HIO.out HK.out)
              clear HIO HK
              cases b2
              · have hz : i = o + ms1.count m := by
                  have h1 := HIK.out.1
                  have h2 := HIK.out.2
                  simp [inB, outB] at h2
                  omega
                have HZ := Lib.hid hz
                clear hz HIK h4
                go_wp2_with fail
                go_roundw
                case rel => exact ⟨j + 1, i, o, _, _, ms1, ⟨by omega, by omega, by omega, by omega, hj1, HZ.out⟩, rfl, rfl, by go_num, rfl, HC2.out⟩
                case measure => simp [intOf]; omega
              · rcases h4 with hd | hd | hd | hd
                · have hz : i + 1 = o + ms1.count m := by
                    have h1 := HIK.out.1
                    have h2 := HIK.out.2
                    simp [inB, outB, hd] at h2
                    omega
                  have HZ := Lib.hid hz
                  clear hz HIK
                  go_wp2_with fail
                  go_roundw
                  case rel => exact ⟨j + 1, i + 1, o, _, _, ms1, ⟨by omega, by omega, by omega, by omega, hj1, HZ.out⟩, by go_num, rfl, by go_num, rfl, HC2.out⟩
                  case measure => simp [intOf]; omega
                · have hz : i = (o + 1) + ms1.count m := by
                    have h1 := HIK.out.1
                    have h2 := HIK.out.2
                    simp [inB, outB, hd] at h2
                    omega
                  have HZ := Lib.hid hz
                  clear hz HIK
                  go_wp2_with fail
                  go_roundw
                  case rel => exact ⟨j + 1, i, o + 1, _, _, ms1, ⟨by omega, by omega, by omega, by omega, hj1, HZ.out⟩, rfl, by go_num, by go_num, rfl, HC2.out⟩
                  case measure => simp [intOf]; omega
                · have hz : i = (o + 1) + ms1.count m := by
                    have h1 := HIK.out.1
                    have h2 := HIK.out.2
                    simp [inB, outB, hd] at h2
                    omega
                  have HZ := Lib.hid hz
                  clear hz HIK
                  go_wp2_with fail
                  go_roundw
                  case rel => exact ⟨j + 1, i, o + 1, _, _, ms1, ⟨by omega, by omega, by omega, by omega, hj1, HZ.out⟩, rfl, by go_num, by go_num, rfl, HC2.out⟩
                  case measure => simp [intOf]; omega
                · have hz : i + 1 = o + ms1.count m := by
                    have h1 := HIK.out.1
                    have h2 := HIK.out.2
                    simp [inB, outB, hd] at h2
                    omega
                  have HZ := Lib.hid hz
                  clear hz HIK
                  go_wp2_with fail
                  go_roundw
                  case rel => exact ⟨j + 1, i + 1, o, _, _, ms1, ⟨by omega, by omega, by omega, by omega, hj1, HZ.out⟩, by go_num, rfl, by go_num, rfl, HC2.out⟩
                  case measure => simp [intOf]; omega
            · have hcf2 : CF w wc m (.slice a2 k cap2) ms := ⟨h1.tl, bw, ho1⟩
              have HC2 := Lib.hid hcf2
              clear hcf2 hcnt h1 bw ho1 ho2 hg1
              go_wp2_with fail
              go_roundw
              case rel => exact ⟨j + 1, i, o, _, _, ms, ⟨by omega, by omega, by omega, by omega, by omega, HIO.out⟩, rfl, rfl, by go_num, rfl, HC2.out⟩
              case measure => simp [intOf]; omega
    · obtain ⟨a2, k, cap2, rfl, hk, hc2, ho2⟩ := Car.own' hcf.own (by omega)
      have c5 := blk_one hcf.has.hd
      obtain ⟨M0, M1, M2, M3, M4, M5, M6, M7, M8⟩ := blk_msg hcf.has.tl.hd
      have hcl : ms.count m ≤ ms.length := List.count_le_length
      have hio := HIO.out
      have HB := Lib.hid hcf.below
      have HC := Lib.hid hc2
      have hkM : k ≤ 1000000 := by omega
      clear hcf hc2 ho2
      by_cases hjn : j < n
      · go_wp2_with fail
        refine (count_ok a2 k cap2 ms m _ hk hkM HC.out.at').mono ?_
        rintro e W8 ⟨rfl, hb8⟩
        have HB8 := Lib.hid (below_trans HB.out hb8)
        clear HB HC hb8 c5 M0 M1 M2 M3 M4 M5 M6 M7 M8
        go_wp2_with fail
        refine (lives_ok _).mono ?_
        rintro e W9 ⟨rfl, hb⟩
        have HZ := Lib.hid (below_trans HB8.out hb)
        clear HB8 hb
        go_wp2
        go_ret
        exact ⟨rfl, HZ.out⟩
      · go_wp2_with fail
        refine (count_ok a2 k cap2 ms m _ hk hkM HC.out.at').mono ?_
        rintro e W8 ⟨rfl, hb8⟩
        have HB8 := Lib.hid (below_trans HB.out hb8)
        clear HB HC hb8 c5 M0 M1 M2 M3 M4 M5 M6 M7 M8
        go_wp2_with fail
        refine (lives_ok _).mono ?_
        rintro e W9 ⟨rfl, hb⟩
        have HZ := Lib.hid (below_trans HB8.out hb)
        clear HB8 hb
        go_wp2
        go_ret
        exact ⟨rfl, HZ.out⟩
end Go.Proofs.Ytkfoclibejpbdaa
