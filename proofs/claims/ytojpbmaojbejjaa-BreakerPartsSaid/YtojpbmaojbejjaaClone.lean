/- Chapter 07: slices.Clone and Equal for loads, own. -/
import Derived.Test.YtojpbmaojbejjaaWorks
namespace Go.Proofs.Ytojpbmaojbejjaa
open Go Go.RowKit

def intsV (xs : List Int) : List Value := xs.map (Value.int .i64)
theorem intsV_flat (xs : List Int) : (Ints xs).flatten = intsV xs := by
  induction xs with
  | nil => rfl
  | cons x xs ih => simpa [intsV] using ih
theorem intsV_one (xs : List Int) : ∀ v ∈ intsV xs, v.oneCell' = true := by
  intro v hv
  obtain ⟨x, _, rfl⟩ := List.mem_map.1 hv
  rfl
/-- The slice v holds just the loads xs, in memory of its own. -/
def OwnI (base : Nat) (w : World) (v : Value) (xs : List Int) : Prop := w.ownsRow base 3 1 v xs.length (intsV xs)
theorem OwnI.rows {base : Nat} {w : World} {v : Value} {xs : List Int} (h : OwnI base w v xs) : ∃ a cap, v = .slice a xs.length cap ∧ RowsAt w.heap.size w a 1 (Ints xs) := by
  have hl : (Ints xs).length = xs.length := by simp
  obtain ⟨a, cap, hv, hr⟩ := owns_slice (rows := Ints xs) (by rw [hl, intsV_flat]; exact h) (by simp)
  exact ⟨a, cap, by rw [hv, hl], hr⟩
theorem OwnI.full {base : Nat} {w : World} {v : Value} {xs : List Int} (h : OwnI base w v xs) : ∃ a cap, v = .slice a xs.length cap ∧ xs.length ≤ cap ∧ (a = none → xs.length = 0 ∧ cap = 0) ∧ RowsAt w.heap.size w a 1 (Ints xs) := by
  obtain ⟨a, cap, rfl, hr⟩ := h.rows
  refine ⟨a, cap, rfl, ?_, ?_, hr⟩
  · obtain ⟨_, _, he, h1, _⟩ := owns_shape h; cases he; exact h1
  · rintro rfl
    rcases h.2 with ⟨h1, h2⟩ | ⟨g, c, cur, hv, _⟩
    · injection h1 with _ _ h3; exact ⟨h2, h3⟩
    · cases hv
theorem OwnI.later {base : Nat} {w w' : World} {v : Value} {xs : List Int} (h : OwnI base w v xs) (hb : Below w.heap.size w w') : OwnI base w' v xs := owns_later h hb
theorem OwnI.nil (base : Nat) (w : World) : OwnI base w (.slice none 0 0) [] := World.ownsRow_nil _ _ _ _
theorem info3 : (Try.prog.info? 3).map (fun i => (i.zero, i.size, i.bytes)) = some (some (.int .i64 0), 1, 8) := by kernel_rfl
theorem ints_src {n : Nat} {w : World} {ad : Addr} {xs : List Int} (h : RowsAt n w (some ad) 1 (Ints xs)) : ∀ j u, (intsV xs)[j]? = some u → w.cell? (ad.add j) = some u := by
  intro j u hu
  have hx : ∃ x, xs[j]? = some x ∧ u = .int .i64 x := by
    unfold intsV at hu
    rw [List.getElem?_map] at hu
    cases hxi : xs[j]? with
    | none => rw [hxi] at hu; simp at hu
    | some x => rw [hxi] at hu; exact ⟨x, rfl, by simpa using hu.symm⟩
  obtain ⟨x, hxj, rfl⟩ := hx
  obtain ⟨b, off, ha, _, hc⟩ := h j [.int .i64 x] (by simp [hxj])
  cases ha
  have := hc 0 _ rfl
  rw [Addr.add_mid]
  simpa using this
theorem ints_take {n : Nat} {w : World} {a : Option Addr} {xs : List Int} (h : RowsAt n w a 1 (Ints xs)) (k : Nat) : RowsAt n w a 1 (Ints (xs.take k)) := by
  have := RowsAt.take h k
  unfold Ints
  rw [List.map_take]
  exact this

set_option maxHeartbeats 1000000 in
theorem clone_ok (a : Option Addr) (n cap : Nat) (xs : List Int) (w : World) (hn : xs.length = n) (hl : n ≤ 1000000) (hnone : a = none → n = 0 ∧ cap = 0) (hm : RowsAt w.heap.size w a 1 (Ints xs)) :
    Calls Try.prog 31 #[.slice a n cap] w fun e W' => ∃ v, e = .returned v ∧ OwnI w.heap.size W' v xs ∧ Below w.heap.size w W' := by
  have Hn := Lib.hid hn; clear hn
  have Hm := Lib.hid hm; clear hm
  cases a with
  | none =>
    obtain ⟨rfl, rfl⟩ := hnone rfl
    clear hnone
    obtain rfl : xs = [] := List.eq_nil_of_length_eq_zero Hn.out
    have e1 := Lib.run_eql_slice_nil (P := Try.prog)
    go_enter Try.func31, Try.ntmps31
    go_wp2_with fail
    go_ret
    exact ⟨_, rfl, OwnI.nil _ _, below_self w⟩
  | some ad =>
    clear hnone
    obtain ⟨i0, hi, hz0, hz1, hz2⟩ := info_parts info3
    have e1 := Lib.run_eql_slice_nil (P := Try.prog)
    have Hsrc := Lib.hid (ints_src Hm.out)
    go_enter Try.func31, Try.ntmps31
    go_wp2_with (at_builtin; go_must (refine wpList_append_own _ rfl _ _ 43 rfl w.heap.size 3 i0 _ 1 8 Try.underlying43 hi hz0 hz1 hz2 rfl (by decide) _ _ _ rfl (owns_of_blk (n := 0) (xs := []) (blk_new w _) (Nat.le_refl _) rfl (by unfold maxLen; omega)) ad _ _ (intsV xs) rfl ?c0 ?c1 ?c2 ?c3 ?c4 ?c5 ?_))
    case c0 => simp [intsV, Hn.out]
    case c1 =>
      intro j v hv
      have h := Hsrc.out j v hv
      have hb := World.block_lt_of_cell? w _ h
      rw [World.cell?_alloc_lt _ _ _ hb]
      exact h
    case c2 => exact intsV_one _
    case c3 => unfold maxLen; omega
    case c4 => omega
    case c5 => simp
    intro v' w1 hown' hgrow _
    have hb : Below w.heap.size w w1 := (below_alloc (below_self w) _).grown hgrow (by simp) (by intro k hk; simp [Value.ownBlock] at hk; omega)
    have ho : OwnI w.heap.size w1 v' xs := by
      unfold OwnI
      rw [Hn.out]
      simpa using hown'
    obtain ⟨av, capv, rfl, _⟩ := owns_shape hown'
    have HO := Lib.hid (And.intro ho hb)
    clear hown' hgrow ho hb hi hz0 hz1 hz2
    go_wp2_with fail
    go_ret
    exact ⟨_, rfl, HO.out⟩

def ownN (n : Nat) : Nat := if 1000 < n then 1001 else 40
set_option maxHeartbeats 1000000 in
theorem own_ok (a : Option Addr) (n cap : Nat) (xs : List Int) (w : World) (hn : xs.length = n) (hl : n ≤ 9223372036854775807) (hcap : n ≤ cap) (hnone : a = none → n = 0 ∧ cap = 0) (hm : RowsAt w.heap.size w a 1 (Ints xs)) :
    Calls Try.prog 23 #[.slice a n cap] w fun e W' => ∃ v, e = .returned v ∧ OwnI w.heap.size W' v (xs.take (ownN n)) ∧ Below w.heap.size w W' := by
  have Hn := Lib.hid hn; clear hn
  have Hm := Lib.hid hm; clear hm
  have Hnone := Lib.hid hnone; clear hnone
  by_cases hb : 1000 < n
  · have e : ownN n = 1001 := by unfold ownN; rw [if_pos hb]
    rw [e]; clear e
    go_enter Try.func23, Try.ntmps23
    go_wp2_with fail
    all_goals
      refine (clone_ok a _ cap (xs.take 1001) w (by rw [List.length_take, Hn.out]; omega) (by omega) (by intro h; have := Hnone.out h; omega) (ints_take Hm.out _)).mono ?_
      rintro e W2 ⟨v, rfl, ho, hb2⟩
      have HO := Lib.hid (And.intro ho hb2)
      clear ho hb2
      go_wp2_with fail
      go_ret
      exact ⟨_, rfl, HO.out⟩
  · have e : ownN n = 40 := by unfold ownN; rw [if_neg hb]
    rw [e]; clear e
    by_cases h40 : n ≤ 40
    · go_enter Try.func23, Try.ntmps23
      go_wp2_with fail
      all_goals
        refine (clone_ok a _ cap (xs.take 40) w (by rw [List.length_take, Hn.out]; omega) (by omega) (by intro h; have := Hnone.out h; omega) (ints_take Hm.out _)).mono ?_
        rintro e W2 ⟨v, rfl, ho, hb2⟩
        have HO := Lib.hid (And.intro ho hb2)
        clear ho hb2
        go_wp2_with fail
        go_ret
        exact ⟨_, rfl, HO.out⟩
    · go_enter Try.func23, Try.ntmps23
      go_wp2_with fail
      all_goals
        refine (clone_ok a _ cap (xs.take 40) w (by rw [List.length_take, Hn.out]; omega) (by omega) (by intro h; have := Hnone.out h; omega) (ints_take Hm.out _)).mono ?_
        rintro e W2 ⟨v, rfl, ho, hb2⟩
        have HO := Lib.hid (And.intro ho hb2)
        clear ho hb2
        go_wp2_with fail
        go_ret
        exact ⟨_, rfl, HO.out⟩

set_option maxHeartbeats 1000000 in
theorem equalI_ok (a1 a2 : Option Addr) (n1 c1 n2 c2 : Nat) (xs ys : List Int) (w : World) (h1 : xs.length = n1) (h2 : ys.length = n2) (hl : n1 ≤ 9223372036854775807) (m1 : RowsAt w.heap.size w a1 1 (Ints xs)) (m2 : RowsAt w.heap.size w a2 1 (Ints ys)) :
    Calls Try.prog 29 #[.slice a1 n1 c1, .slice a2 n2 c2] w fun e W' => e = .returned (.bool (decide (xs = ys))) ∧ Below w.heap.size w W' := by
  have H1 := Lib.hid h1
  have H2 := Lib.hid h2
  have M1 := Lib.hid m1
  have M2 := Lib.hid m2
  clear m1 m2
  by_cases hne : n1 = n2
  · subst hne
    clear h1 h2
    go_enter Try.func29, Try.ntmps29
    go_wp2_with fail
    go_loopw [13] (fun i wr => ∃ k d : Nat, k ≤ n1 ∧ i = .int .i64 k ∧ wr = w.drewN d ∧ Hid (∀ j, j < k → xs.getD j default = ys.getD j default)) (fun i _ => n1 - (intOf i).toNat)
    case atStart => exact ⟨0, 0, Nat.zero_le _, rfl, rfl, fun j hj => by omega⟩
    case round =>
      obtain ⟨k, d, hk, rfl, rfl, Hs⟩ := hrel
      by_cases hlt : k < n1
      · obtain ⟨b1, o1, rfl, _, p0⟩ := ints_at M1.out k (by rw [H1.out]; exact hlt)
        obtain ⟨b2, o2, rfl, _, q0⟩ := ints_at M2.out k (by rw [H2.out]; exact hlt)
        generalize hx : xs.getD k default = x at p0
        generalize hy : ys.getD k default = y at q0
        have HX := Lib.hid hx; clear hx
        have HY := Lib.hid hy; clear hy
        have hltI : (k : Int) < (n1 : Int) := by omega
        by_cases he : x = y
        · have HN : Hid (∀ j, j < k + 1 → xs.getD j default = ys.getD j default) := same_succ Hs.out (by rw [HX.out, HY.out]; exact he)
          subst he
          go_wp2_with fail
          go_quiet (fail)
          clear p0 q0
          go_wp2_with fail
          go_roundw
          case rel => exact ⟨k + 1, d + nq, by omega, by go_num, rfl, HN⟩
          case measure => simp [intOf]; omega
        · have HN := Lib.hid (show ¬ xs = ys by intro h; apply he; rw [← HX.out, ← HY.out, h])
          have he2 : (x != y) = true := by simpa using he
          have he3 : (x == y) = false := by simpa using he
          go_wp2_with fail
          go_quiet (fail)
          clear p0 q0
          go_wp2_with fail
          go_ret
          exact ⟨by rw [decide_eq_false HN.out]; rfl, below_drewN (below_drewN (below_self w) d) nq⟩
      · have HE := Lib.hid (eq_of_get (by rw [H1.out, H2.out]) (fun j hj => Hs.out j (by rw [H1.out] at hj; omega)))
        go_wp2_with fail
        go_ret
        exact ⟨by rw [decide_eq_true HE.out]; rfl, below_drewN (below_self w) d⟩
  · have hd : decide (xs = ys) = false := decide_eq_false (by intro h; apply hne; rw [← h1, ← h2, h])
    rw [hd]
    have hne2 : ¬ (n1 : Int) = (n2 : Int) := by omega
    clear hd h1 h2
    go_enter Try.func29, Try.ntmps29
    go_wp2_with fail
    go_ret
    exact ⟨rfl, below_self w⟩
end Go.Proofs.Ytojpbmaojbejjaa
