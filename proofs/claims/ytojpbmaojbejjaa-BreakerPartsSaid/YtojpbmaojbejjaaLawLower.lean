/- Chapter 07, law BreakerLower: its walk. -/
import Derived.Test.YtojpbmaojbejjaaLoads
import Derived.Test.YtojpbmaojbejjaaLawGalois
import Derived.Test.YtojpbmaojbejjaaRefCourse2
import Derived.Laws.OwnMore
import Derived.StillTailTactics
import Derived.Deep.AppendLies
namespace Go.Proofs.Ytojpbmaojbejjaa
open Go Go.RowKit

theorem idxI_spec {α : Type} [Inhabited α] (p : α → Bool) (l : List α) : idxI p l = -1 ∨ ∃ j : Nat, idxI p l = j ∧ j < l.length ∧ p (l.getD j default) = true := by
  unfold idxI
  cases h : l.findIdx? p with
  | none => exact .inl rfl
  | some i =>
    obtain ⟨hi, hp, _⟩ := List.findIdx?_eq_some_iff_getElem.1 h
    exact .inr ⟨i, rfl, hi, by simpa [List.getD, List.getElem?_eq_getElem hi] using hp⟩
theorem idxI_le {α : Type} [Inhabited α] {p : α → Bool} {l : List α} {j : Nat} (hj : j < l.length) (hp : p (l.getD j default) = true) : 0 ≤ idxI p l ∧ idxI p l ≤ j := by
  unfold idxI
  cases h : l.findIdx? p with
  | none =>
    rw [List.findIdx?_eq_none_iff] at h
    have := h (l.getD j default) (getD_mem' hj)
    rw [hp] at this; cases this
  | some i =>
    obtain ⟨hi, _, hno⟩ := List.findIdx?_eq_some_iff_getElem.1 h
    refine ⟨by simp, ?_⟩
    by_cases hij : i ≤ j
    · show (i : Int) ≤ j; omega
    · exact absurd (by simpa [List.getD, List.getElem?_eq_getElem hj] using hp) (hno j (by omega))
where
  getD_mem' {α : Type} [Inhabited α] {xs : List α} {k : Nat} (hk : k < xs.length) : xs.getD k default ∈ xs := by
    rw [List.getD_eq_getElem?_getD, List.getElem?_eq_getElem hk]; exact List.getElem_mem _

/-- The lower course is no hotter, and trips no sooner. -/
def Lo (lo hi : BSt) : Prop := hi.trip = true ∨ (lo.trip = false ∧ hi.trip = false ∧ lo.heat ≤ hi.heat)
theorem Lo.aft {b : Brk} {lo hi : BSt} (h : Lo lo hi) {x y : Int} (hxy : x ≤ y) : Lo (aft b lo x) (aft b hi y) := by
  rcases h with h | ⟨h1, h2, h3⟩
  · left; unfold Go.Proofs.Ytojpbmaojbejjaa.aft; rw [if_pos h]; exact h
  · obtain ⟨lh, lt⟩ := lo
    obtain ⟨hh, ht⟩ := hi
    simp only at h1 h2 h3
    subst h1 h2
    unfold Lo Go.Proofs.Ytojpbmaojbejjaa.aft
    rw [if_neg (by simp), if_neg (by simp)]
    simp only [decide_eq_true_eq, decide_eq_false_iff_not]
    omega
theorem Lo.all {b : Brk} : ∀ (xs ys : List Int) (lo hi : BSt), xs.length = ys.length → (∀ j, j < xs.length → xs.getD j default ≤ ys.getD j default) → Lo lo hi → Lo (stAt b lo xs) (stAt b hi ys)
  | [], [], _, _, _, _, h => h
  | x :: xs, y :: ys, lo, hi, hl, hle, h => by
    have h0 := hle 0 (by simp)
    exact Lo.all xs ys _ _ (by simpa using hl) (fun j hj => by have := hle (j + 1) (by simpa using hj); simpa using this) (h.aft (by simpa using h0))
  | [], _ :: _, _, _, hl, _, _ => by simp at hl
  | _ :: _, [], _, _, hl, _, _ => by simp at hl
theorem runB_getD (b : Brk) (s : BSt) (ws : List Int) (k : Nat) (hk : k ≤ ws.length) : (runB b s ws).getD k default = stAt b s (ws.take k) := by
  simp [List.getD, runB_get b ws s k hk]
theorem take_le {xs ys : List Int} (hl : xs.length = ys.length) (hle : ∀ j, j < xs.length → xs.getD j default ≤ ys.getD j default) (k : Nat) : (xs.take k).length = (ys.take k).length ∧ ∀ j, j < (xs.take k).length → (xs.take k).getD j default ≤ (ys.take k).getD j default := by
  refine ⟨by rw [List.length_take, List.length_take, hl], fun j hj => ?_⟩
  rw [List.length_take] at hj
  have := hle j (by omega)
  simpa [List.getD, List.getElem?_take, show j < k by omega] using this

theorem lower (b : Brk) (h h' : Int) (hi lo : List Int) (hb : okB b = true) (h0 : 0 ≤ h') (h1 : h' ≤ h) (h2 : h ≤ b.slow) (hl : lo.length = hi.length) (hn : hi.length ≤ 1000)
    (hlo : ∀ j, j < lo.length → 0 ≤ lo.getD j default ∧ lo.getD j default ≤ hi.getD j default) (hhi : ∀ j, j < hi.length → 0 ≤ hi.getD j default ∧ hi.getD j default ≤ 255) :
    tripsE b h hi = 0 ∧ tripsE b h' lo = 0 ∧ (tripsN b h' lo = -1 ∨ (¬ tripsN b h' lo = -1 ∧ ¬ tripsN b h hi = -1 ∧ tripsN b h hi ≤ tripsN b h' lo)) := by
  have e1 := steadyE_of (x := 0) hb (show 0 ≤ h by omega) h2 (by omega) (by omega)
  have e2 := steadyE_of (x := 0) hb h0 (show h' ≤ b.slow by omega) (by omega) (by omega)
  have o1 : okS b ⟨h, false⟩ = true := by unfold okS mostOf; rw [hb]; simp [inR]; omega
  have o2 : okS b ⟨h', false⟩ = true := by unfold okS mostOf; rw [hb]; simp [inR]; omega
  have c1 : courseE b ⟨h, false⟩ hi = 0 := courseE_all o1 hn (fun j hj => inR_iff.2 (by have := hhi j hj; omega))
  have c2 : courseE b ⟨h', false⟩ lo = 0 := courseE_all o2 (by omega) (fun j hj => inR_iff.2 (by have := hlo j hj; have := hhi j (by omega); omega))
  have t1 : tripsE b h hi = 0 := by unfold tripsE; rw [if_pos e1, c1]
  have t2 : tripsE b h' lo = 0 := by unfold tripsE; rw [if_pos e2, c2]
  refine ⟨t1, t2, ?_⟩
  unfold tripsN
  rw [if_pos t1, if_pos t2]
  rcases idxI_spec (fun s : BSt => s.trip) (runB b ⟨h', false⟩ lo) with hi1 | ⟨j, hj1, hj2, hj3⟩
  · left; rw [hi1]; rfl
  · rw [runB_len] at hj2
    have hj0 : j ≠ 0 := by
      rintro rfl
      rw [runB_getD _ _ _ _ (by omega)] at hj3
      simp [stAt] at hj3
    rw [runB_getD _ _ _ _ (by omega)] at hj3
    obtain ⟨q1, q2⟩ := take_le hl (fun j hj => (hlo j hj).2) j
    have hL := Lo.all (b := b) (lo.take j) (hi.take j) ⟨h', false⟩ ⟨h, false⟩ q1 q2 (.inr ⟨rfl, rfl, h1⟩)
    have hT : (stAt b ⟨h, false⟩ (hi.take j)).trip = true := by
      rcases hL with hL | ⟨hL, _⟩
      · exact hL
      · rw [hj3] at hL; cases hL
    obtain ⟨g0, g1⟩ := idxI_le (p := fun s : BSt => s.trip) (l := runB b ⟨h, false⟩ hi) (j := j) (by rw [runB_len]; omega) (by rw [runB_getD _ _ _ _ (by omega)]; exact hT)
    have g2 : idxI (fun s : BSt => s.trip) (runB b ⟨h, false⟩ hi) ≠ 0 := by
      intro he
      rcases idxI_spec (fun s : BSt => s.trip) (runB b ⟨h, false⟩ hi) with hi2 | ⟨i, hi2, _, hi4⟩
      · omega
      · obtain rfl : i = 0 := by omega
        rw [runB_getD _ _ _ _ (by omega)] at hi4
        simp [stAt] at hi4
    right
    rw [hj1]
    omega
/-- The loop's memory: low's own block turned, all else as it was in X0. -/
structure LW (X0 : World) (v : Value) (hi L : List Int) (X : World) : Prop where
  below : Below X0.heap.size X0 X
  own : OwnI X0.heap.size X v L
  len : L.length = hi.length
  le : ∀ j, j < L.length → 0 ≤ L.getD j default ∧ L.getD j default ≤ hi.getD j default
theorem LW.set {X0 : World} {g cap n : Nat} {hi L : List Int} {X : World} (h : LW X0 (.slice (some ⟨g, 0, none⟩) n cap) hi L X) (hn : n = L.length) {k : Nat} (_hk : k < n) {z : Int} (hz : 0 ≤ z ∧ z ≤ L.getD k default) :
    LW X0 (.slice (some ⟨g, 0, none⟩) n cap) hi (L.set k z) (X.setCell ⟨g, k, none⟩ (.int .i64 z)) := by
  subst hn
  have hst := World.ownsRow.stored h.own k (.int .i64 z)
  refine ⟨grown_below h.below h.own (by simpa [Value.ownBlock] using hst.2) (Nat.le_refl _) h.below.size, ?_, by rw [List.length_set]; exact h.len, ?_⟩
  · unfold OwnI
    rw [List.length_set]
    have : intsV (L.set k z) = (intsV L).set k (.int .i64 z) := by unfold intsV; rw [List.map_set]
    rw [this]
    exact hst.1
  · intro j hj
    rw [List.length_set] at hj
    by_cases e : k = j
    · subst e
      have := h.le k hj
      simp [List.getD, hj] at this ⊢
      simp [List.getD, hj] at hz
      omega
    · have := h.le j hj
      simpa [List.getD, List.getElem?_set, e] using this

set_option maxRecDepth 100000 in
set_option maxHeartbeats 4000000 in
theorem lower_walk (x : Sml) (a1 : Option Addr) (n1 c1 : Nat) (z1 : List Int) (a2 : Option Addr) (n2 c2 : Nat) (z2 : List Int) (u : Int) (w : World) (hx : x.ok)
    (h1 : z1.length = n1 ∧ n1 ≤ c1 ∧ c1 ≤ maxLen ∧ (a1 = none → n1 = 0 ∧ c1 = 0) ∧ RowsAt w.heap.size w a1 1 (Bytes z1) ∧ ∀ z ∈ z1, 0 ≤ z ∧ z ≤ 255)
    (h2 : z2.length = n2 ∧ n2 ≤ c2 ∧ c2 ≤ maxLen ∧ (a2 = none → n2 = 0 ∧ c2 = 0) ∧ RowsAt w.heap.size w a2 1 (Bytes z2) ∧ ∀ z ∈ z2, 0 ≤ z ∧ z ≤ 255) (hu : 0 ≤ u ∧ u ≤ 255) :
    Calls Try.prog 7 #[x.val, .slice a1 n1 c1, .slice a2 n2 c2, .int .u8 u] w fun e W' => e = .returned (.bool true) ∧ Below w.heap.size w W' := by
  have hl2 : n2 ≤ 9223372036854775807 := by have := h2.2.1; have := h2.2.2.1; unfold maxLen at this; omega
  have HB := Lib.hid (sml_ok hx)
  have HX := Lib.hid hx
  have G1 := Lib.hid h1
  have G2 := Lib.hid h2
  obtain ⟨u0, u1⟩ := hu
  clear hx h1 h2
  go_enter Try.func7, Try.ntmps7
  go_wp2_with fail
  refine (made_ok x HX.out _).mono ?_
  rintro e W1 ⟨rfl, hb1⟩
  have B1 := Lib.hid (below_trans (below_alloc (below_self w) _) hb1)
  clear hb1
  have hsl : x.brk.slow = x.slow := rfl
  have HBB := Lib.hid (show okB x.brk = true ∧ 0 ≤ x.h ∧ x.h ≤ x.brk.slow by rw [hsl]; exact HB.out)
  clear hsl HB HX
  obtain ⟨h0, hh1, hs2⟩ : 0 ≤ x.h ∧ x.h ≤ x.brk.slow ∧ x.brk.slow ≤ 1000000 := ⟨HBB.out.2.1, HBB.out.2.2, (okB_iff.1 HBB.out.1).2.1.2⟩
  generalize x.h = h at *
  generalize x.brk = b at *
  go_wp2_with fail
  obtain ⟨A1, hA1⟩ : ∃ W' : World, (W1.alloc (.cells b.cells.toArray 23)) = W' := ⟨_, rfl⟩
  have H1 : Has A1 [(W1.heap.size, .cells b.cells.toArray 23 (0, 0))] := by rw [← hA1]; simpa using ((Has.nil W1).new _)
  have s1 : A1.heap.size = W1.heap.size + 1 := by rw [← hA1]; simp
  have b1 : Below W1.heap.size W1 A1 := by rw [← hA1]; exact (below_alloc (below_self W1) _)
  rw [hA1]
  clear hA1
  refine (loads_ok a1 n1 c1 z1 _ ⟨G1.out.1, G1.out.2.1, G1.out.2.2.1, G1.out.2.2.2.1, G1.out.2.2.2.2.1.later (below_trans B1.out b1), G1.out.2.2.2.2.2⟩).mono ?_
  rintro e W2 ⟨v2, rfl, ho2, hb2⟩
  obtain ⟨hi, hhi⟩ : ∃ hi, z1.take 30 = hi := ⟨_, rfl⟩
  rw [hhi] at ho2
  have hH : hi.length ≤ 30 ∧ ∀ j, j < hi.length → 0 ≤ hi.getD j default ∧ hi.getD j default ≤ 255 := by
    rw [← hhi]
    refine ⟨by rw [List.length_take]; omega, fun j hj => ?_⟩
    exact G1.out.2.2.2.2.2 _ (List.mem_of_mem_take (getD_mem hj))
  obtain ⟨a3, c3, rfl, hc3, hz3, r3⟩ := ho2.full
  obtain ⟨q, hq⟩ : ∃ q, hi.length = q := ⟨_, rfl⟩
  rw [hq] at hc3 hz3 ⊢
  have R2 := Lib.hid (And.intro (H1.below hb2) (And.intro (below_trans (below_trans B1.out b1) hb2) (And.intro r3 (And.intro hq (And.intro hH hz3)))))
  have hq30 : q ≤ 30 := by rw [← hq]; exact hH.1
  clear hhi hH ho2 hb2 H1 s1 b1 r3 hq hz3 B1
  go_wp2_with fail
  refine (clone_ok a3 q c3 hi _ R2.out.2.2.2.1 (by omega) R2.out.2.2.2.2.2 R2.out.2.2.1).mono ?_
  rintro e W3 ⟨v3, rfl, ho3, hb3⟩
  have hlw : LW W2 v3 hi hi W3 := ⟨hb3, ho3, rfl, fun j hj => ⟨(R2.out.2.2.2.2.1.2 j hj).1, Int.le_refl _⟩⟩
  obtain ⟨a4, c4, rfl, _⟩ := ho3.rows
  rw [R2.out.2.2.2.1] at hlw ⊢
  have HLW := Lib.hid hlw
  clear ho3 hb3 hlw
  go_wp2_with fail
  go_loopw [29] (fun i wr => ∃ (k : Nat) (L : List Int) (X : World), k ≤ q ∧ i = .int .i64 k ∧ X = wr ∧ Hid (LW W2 (.slice a4 q c4) hi L X)) (fun i _ => q - (intOf i).toNat)
  case atStart => exact ⟨0, hi, _, Nat.zero_le _, rfl, rfl, HLW⟩
  case round =>
    clear HLW
    obtain ⟨k, L, X, hk, rfl, rfl, Hr⟩ := hrel
    by_cases hlt : k < q
    · by_cases hlt2 : k < n2
      · have hLq : L.length = q := by rw [Hr.out.len, R2.out.2.2.2.1]
        obtain ⟨g, cg, hv, hg1, hg2⟩ := World.ownsRow.form Hr.out.own (by omega)
        rw [hLq] at hv
        cases hv
        have e1 := World.ownsRow.cellAt (n := q) (by have := Hr.out.own; unfold OwnI at this; rw [hLq] at this; exact this) k (by omega)
        have f1 := World.ownsRow.frozenAt (n := q) (by have := Hr.out.own; unfold OwnI at this; rw [hLq] at this; exact this) k
        have e2 : (intsV L)[k]? = some (.int .i64 (L.getD k default)) := by simp [intsV, List.getD, hLq, hlt]
        rw [e2] at e1
        obtain ⟨b0, o0, rfl, hb0, hc0⟩ := bytes_at (G2.out.2.2.2.2.1.below (below_trans R2.out.2.1 Hr.out.below)) k (by rw [G2.out.1]; exact hlt2)
        have hy := G2.out.2.2.2.2.2 _ (getD_mem (xs := z2) (k := k) (by rw [G2.out.1]; exact hlt2))
        have hx := Hr.out.le k (by rw [hLq]; exact hlt)
        have hx2 := (R2.out.2.2.2.2.1.2 k (by rw [R2.out.2.2.2.1]; exact hlt)).2
        generalize hLk : L.getD k default = x at e1 hx
        have HLk := Lib.hid hLk
        generalize z2.getD k default = y at hc0 hy
        obtain ⟨y0, y1⟩ := hy
        obtain ⟨x0, x1⟩ := hx
        have x2 : x ≤ 255 := by omega
        have HLq := Lib.hid hLq
        clear hLq hx2 x1 e2 hLk
        have hkI : (k : Int) < (q : Int) := by omega
        have hkI2 : (k : Int) < (n2 : Int) := by omega
        have hw1 : IntKind.i64.wrap y = y := IntWalk.i64_in _ ⟨by omega, by omega⟩
        have hw2 : IntKind.i64.wrap (x - y) = x - y := IntWalk.i64_in _ ⟨by omega, by omega⟩
        have hltX : g < X.heap.size := hg2
        obtain ⟨zz, hzz⟩ : ∃ zz, max 0 (x - y) = zz := ⟨_, rfl⟩
        have HS := Lib.hid (fun (X' : World) (h : LW W2 (.slice (some ⟨g, 0, none⟩) q c4) hi L X') => h.set HLq.out.symm hlt (z := zz) (by rw [HLk.out]; omega))
        by_cases hpos : 0 < x - y
        · obtain rfl : zz = x - y := by omega
          clear hzz
          go_wp2_with fail
          go_still_tail 14, (by kernel_rfl)
          have hr' : LW W2 (.slice (some ⟨g, 0, none⟩) q c4) hi L X.drew := ⟨Hr.out.below.drew, Hr.out.own, Hr.out.len, Hr.out.le⟩
          have e1' : X.drew.cell? ⟨g, k, none⟩ = some (.int .i64 x) := e1
          have f1' : X.drew.frozen? ⟨g, k, none⟩ = false := f1
          change wpList _ _ _ _ _ X.drew
          generalize X.drew = X5 at hr' e1' f1' ⊢
          have H5 := Lib.hid (HS.out _ hr')
          clear hr' HS e1 f1 hc0 Hr hltX hg2 hw1 hw2
          go_wp2_with fail
          go_roundw
          case rel => exact ⟨k + 1, _, _, by omega, by go_num, rfl, H5⟩
          case measure => simp [intOf]; omega
        · obtain rfl : zz = 0 := by omega
          clear hzz
          go_wp2_with fail
          go_still_tail 14, (by kernel_rfl)
          have hr' : LW W2 (.slice (some ⟨g, 0, none⟩) q c4) hi L X.drew := ⟨Hr.out.below.drew, Hr.out.own, Hr.out.len, Hr.out.le⟩
          have e1' : X.drew.cell? ⟨g, k, none⟩ = some (.int .i64 x) := e1
          have f1' : X.drew.frozen? ⟨g, k, none⟩ = false := f1
          change wpList _ _ _ _ _ X.drew
          generalize X.drew = X5 at hr' e1' f1' ⊢
          have H5 := Lib.hid (HS.out _ hr')
          clear hr' HS e1 f1 hc0 Hr hltX hg2 hw1 hw2
          go_wp2_with fail
          go_roundw
          case rel => exact ⟨k + 1, _, _, by omega, by go_num, rfl, H5⟩
          case measure => simp [intOf]; omega
      · go_wp2_with fail
        go_roundw
        case rel => exact ⟨k + 1, L, X, by omega, by go_num, rfl, Hr⟩
        case measure => simp [intOf]; omega
    · have hB3 : Has X [(W1.heap.size, .cells b.cells.toArray 23 (0, 0))] := R2.out.1.below Hr.out.below
      have hlo := Hr.out
      have hLq : L.length = q := by rw [Hr.out.len, R2.out.2.2.2.1]
      obtain ⟨_, _, he4, r4⟩ := hlo.own.rows
      rw [hLq] at he4
      cases he4
      have R3 := Lib.hid (And.intro hB3 (And.intro (below_trans R2.out.2.1 hlo.below) (And.intro (R2.out.2.2.1.later hlo.below) r4)))
      have h'0 : 0 ≤ max 0 (h - u) := by omega
      have HLaw := Lib.hid (lower b h (max 0 (h - u)) hi L HBB.out.1 h'0 (by omega) hh1 hlo.len (by have := R2.out.2.2.2.2.1.1; omega) hlo.le R2.out.2.2.2.2.1.2)
      have HLq := Lib.hid hLq
      have HHq := Lib.hid R2.out.2.2.2.1
      have k0 := blk_cell hB3.hd 0
      have k1 := blk_cell hB3.hd 1
      have k2 := blk_cell hB3.hd 2
      have k3 := blk_cell hB3.hd 3
      simp at k0 k1 k2 k3
      have l0 : W1.heap.size < X.heap.size := blk_lt hB3.hd
      have hkq : k = q := by omega
      clear hB3 hlo hLq r4 h'0 Hr R2
      have hw1 : IntKind.i64.wrap u = u := IntWalk.i64_in _ ⟨by omega, by omega⟩
      go_wp2_with fail
      refine (trips_ok b h a3 q c3 hi _ HHq.out (by omega) R3.out.2.2.1).mono ?_
      rintro e W5 ⟨rfl, hb5⟩
      rw [HLaw.out.1]
      have h5 := R3.out.1.below hb5
      have R5 := Lib.hid (And.intro (below_trans R3.out.2.1 hb5) (R3.out.2.2.2.later hb5))
      clear k0 k1 k2 k3 l0
      have k0 := blk_cell h5.hd 0
      have k1 := blk_cell h5.hd 1
      have k2 := blk_cell h5.hd 2
      have k3 := blk_cell h5.hd 3
      simp at k0 k1 k2 k3
      have l0 : W1.heap.size < W5.heap.size := blk_lt h5.hd
      clear h5 hb5 R3
      generalize hA : tripsN b h hi = A5 at *
      have HA := Lib.hid hA
      clear hA
      by_cases hpos : 0 < h - u
      case' pos => (have hmx : max 0 (h - u) = h - u := by omega)
      case' neg => (have hmx : max 0 (h - u) = 0 := by omega)
      all_goals
        have HLaw2 := HLaw.out
        rw [hmx] at HLaw2
        try rw [HA.out] at HLaw2
        have HL2 := Lib.hid HLaw2
        clear hmx HLaw2 HLaw
        go_wp2_with fail
        refine (trips_ok b _ a4 q c4 L _ HLq.out (by omega) R5.out.2).mono ?_
        rintro e W6 ⟨rfl, hb6⟩
        rw [HL2.out.2.1]
        have B6 := Lib.hid (below_trans R5.out.1 hb6)
        have H3 := HL2.out.2.2
        clear k0 k1 k2 k3 l0 hb6 R5 HL2
        generalize tripsN b _ L = C5 at *
        rcases H3 with H3 | ⟨H3, H4, H5⟩
        · subst H3
          go_wp2_with fail
          refine (works_ok _).mono ?_
          rintro e W9 ⟨rfl, hb⟩
          have B9 := Lib.hid (below_trans B6.out hb)
          clear hb B6
          go_wp2_with fail
          go_ret
          exact ⟨rfl, B9.out⟩
        · have e1 : (C5 == -1) = false := by simpa using H3
          have e2 : (A5 != -1) = true := by simpa using H4
          go_wp2_with fail
          refine (works_ok _).mono ?_
          rintro e W9 ⟨rfl, hb⟩
          have B9 := Lib.hid (below_trans B6.out hb)
          clear hb B6
          go_wp2_with fail
          go_ret
          exact ⟨rfl, B9.out⟩
end Go.Proofs.Ytojpbmaojbejjaa
