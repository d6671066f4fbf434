/- Chapter 07: slices.IndexFunc, ContainsFunc and Equal, for loads and for states. -/
import Derived.Test.YtojpbmaojbejjaaBk
import Derived.Test.YtojpbmaojbejjaaRow
import Derived.RegionTactic
import Derived.IntWalk
namespace Go.Proofs.Ytojpbmaojbejjaa
open Go Go.RowKit

theorem idxI_found {α : Type} [Inhabited α] {p : α → Bool} {l : List α} {k : Nat} (hk : k < l.length) (hp : p (l.getD k default) = true) (hno : ∀ j, j < k → p (l.getD j default) = false) : idxI p l = (k : Int) := by
  have h : l.findIdx? p = some k := by
    rw [List.findIdx?_eq_some_iff_getElem]
    refine ⟨hk, by simpa [List.getD, List.getElem?_eq_getElem hk] using hp, fun j hj => ?_⟩
    have := hno j hj
    have hj2 : j < l.length := by omega
    simpa [List.getD, List.getElem?_eq_getElem hj2] using this
  unfold idxI; rw [h]
theorem idxI_none {α : Type} [Inhabited α] {p : α → Bool} {l : List α} (hno : ∀ j, j < l.length → p (l.getD j default) = false) : idxI p l = -1 := by
  have h : l.findIdx? p = none := by
    rw [List.findIdx?_eq_none_iff]
    intro x hx
    obtain ⟨j, hj, rfl⟩ := List.getElem_of_mem hx
    have := hno j hj
    simpa [List.getD, List.getElem?_eq_getElem hj] using this
  unfold idxI; rw [h]
theorem no_succ {α : Type} [Inhabited α] {p : α → Bool} {l : List α} {k : Nat} (h : ∀ j, j < k → p (l.getD j default) = false) (hk : p (l.getD k default) = false) : ∀ j, j < k + 1 → p (l.getD j default) = false := by
  intro j hj
  by_cases e : j = k
  · subst e; exact hk
  · exact h j (by omega)
theorem idxI_ge {α : Type} [Inhabited α] (p : α → Bool) (l : List α) : 0 ≤ idxI p l ∨ idxI p l = -1 := by
  unfold idxI; split
  · exact .inr rfl
  · exact .inl (by omega)
theorem idxI_lt {α : Type} (p : α → Bool) (l : List α) : idxI p l < l.length ∧ -1 ≤ idxI p l := by
  unfold idxI
  split
  · omega
  · rename_i i h
    have := (List.findIdx?_eq_some_iff_getElem.1 h).1
    omega
theorem idxI_any {α : Type} (p : α → Bool) (l : List α) : decide (0 ≤ idxI p l) = l.any p := by
  unfold idxI
  cases h : l.findIdx? p with
  | none =>
    rw [List.findIdx?_eq_none_iff] at h
    simp; exact fun x hx => by simp [h x hx]
  | some i =>
    obtain ⟨hi, hp, _⟩ := List.findIdx?_eq_some_iff_getElem.1 h
    simp
    exact ⟨l[i], List.getElem_mem hi, hp⟩

/-- Rows of loads, of states. -/
abbrev Ints (xs : List Int) : List (List Value) := xs.map fun x => [.int .i64 x]
abbrev Sts (ss : List BSt) : List (List Value) := ss.map BSt.cells
theorem ints_at {n : Nat} {w : World} {a : Option Addr} {xs : List Int} (h : RowsAt n w a 1 (Ints xs)) (k : Nat) (hk : k < xs.length) :
    ∃ b off, a = some ⟨b, off, none⟩ ∧ b < n ∧ w.cell? ⟨b, off + k, none⟩ = some (.int .i64 (xs.getD k default)) := by
  obtain ⟨b, off, ha, hb, hc⟩ := h k [.int .i64 (xs.getD k default)] (by simp [hk])
  exact ⟨b, off, ha, hb, by simpa using hc 0 _ rfl⟩
theorem sts_at {n : Nat} {w : World} {a : Option Addr} {ss : List BSt} (h : RowsAt n w a 2 (Sts ss)) (k : Nat) (hk : k < ss.length) :
    ∃ b off, a = some ⟨b, off, none⟩ ∧ b < n ∧ w.cell? ⟨b, off + k * 2, none⟩ = some (.int .i64 (ss.getD k default).heat) ∧ w.cell? ⟨b, off + k * 2 + 1, none⟩ = some (.bool (ss.getD k default).trip) := by
  obtain ⟨b, off, ha, hb, hc⟩ := h k (ss.getD k default).cells (by simp [hk])
  exact ⟨b, off, ha, hb, hc 0 _ rfl, hc 1 _ rfl⟩

set_option maxHeartbeats 1000000 in
theorem indexI_ok (gf : Nat) (lb : Array Value) (p : Int → Bool) (a : Option Addr) (n cap : Nat) (xs : List Int) (w : World) (hn : xs.length = n) (hl : n ≤ 9223372036854775807) (hm : RowsAt w.heap.size w a 1 (Ints xs))
    (hp : ∀ W x, Below w.heap.size w W → Calls Try.prog gf (#[.int .i64 x] ++ lb) W fun e W' => e = .returned (.bool (p x)) ∧ Below W.heap.size W W')
    (eg : ∀ args w, (callFunc gf args).run Try.prog w = .ok (.enter gf args) w) :
    Calls Try.prog 52 #[.slice a n cap, .func (.func gf) #[] lb] w fun e W' => e = .returned (.int .i64 (idxI p xs)) ∧ Below w.heap.size w W' := by
  have Hn := Lib.hid hn; clear hn
  have Hm := Lib.hid hm; clear hm
  have Hp := Lib.hid hp; clear hp
  have Eg := Lib.hid eg; clear eg
  go_enter Try.func52, Try.ntmps52
  go_wp2_with fail
  go_loopw [8] (fun i wr => ∃ k : Nat, k ≤ n ∧ i = .int .i64 k ∧ Below w.heap.size w wr ∧ Hid (∀ j, j < k → p (xs.getD j default) = false)) (fun i _ => n - (intOf i).toNat)
  case atStart => exact ⟨0, Nat.zero_le _, rfl, below_self w, fun j hj => by omega⟩
  case round =>
    obtain ⟨k, hk, rfl, hb, Hno⟩ := hrel
    have HB := Lib.hid hb; clear hb
    by_cases hlt : k < n
    · obtain ⟨b, off, rfl, hb, hc⟩ := ints_at (Hm.out.below HB.out) k (by rw [Hn.out]; exact hlt)
      generalize hx : xs.getD k default = x at hc
      have HX := Lib.hid hx; clear hx
      have eg := Eg.out
      go_wp2_with fail
      refine (Hp.out _ x HB.out).mono ?_
      rintro e W2 ⟨rfl, hb2⟩
      have HB2 := Lib.hid (below_trans HB.out hb2)
      clear hb2 hc eg HB
      cases hpx : p x
      · have HN := Lib.hid (no_succ Hno.out (by rw [HX.out]; exact hpx))
        clear hpx
        go_wp2_with fail
        go_roundw
        case rel => exact ⟨k + 1, by omega, by go_num, HB2.out, HN⟩
        case measure => simp [intOf]; omega
      · have HI := Lib.hid (idxI_found (by rw [Hn.out]; exact hlt) (by rw [HX.out]; exact hpx) Hno.out)
        clear hpx
        go_wp2_with fail
        go_ret
        exact ⟨by rw [HI.out]; rfl, HB2.out⟩
    · have HI := Lib.hid (idxI_none (p := p) (l := xs) (fun j hj => Hno.out j (by rw [Hn.out] at hj; omega)))
      go_wp2_with fail
      go_ret
      exact ⟨by rw [HI.out]; rfl, HB.out⟩

theorem containsI_ok (gf : Nat) (lb : Array Value) (p : Int → Bool) (a : Option Addr) (n cap : Nat) (xs : List Int) (w : World) (hn : xs.length = n) (hl : n ≤ 9223372036854775807) (hm : RowsAt w.heap.size w a 1 (Ints xs))
    (hp : ∀ W x, Below w.heap.size w W → Calls Try.prog gf (#[.int .i64 x] ++ lb) W fun e W' => e = .returned (.bool (p x)) ∧ Below W.heap.size W W')
    (eg : ∀ args w, (callFunc gf args).run Try.prog w = .ok (.enter gf args) w) :
    Calls Try.prog 43 #[.slice a n cap, .func (.func gf) #[] lb] w fun e W' => e = .returned (.bool (xs.any p)) ∧ Below w.heap.size w W' := by
  have Hn := Lib.hid hn; clear hn
  have Hm := Lib.hid hm; clear hm
  have Hp := Lib.hid hp; clear hp
  have Eg := Lib.hid eg; clear eg
  rw [← idxI_any]
  go_enter Try.func43, Try.ntmps43
  go_wp2_with fail
  refine (indexI_ok gf lb p a n cap xs w Hn.out hl Hm.out Hp.out Eg.out).mono ?_
  rintro e W2 ⟨rfl, hb2⟩
  have HB := Lib.hid hb2; clear hb2
  go_wp2_with fail
  go_ret
  exact ⟨rfl, HB.out⟩

set_option maxHeartbeats 1000000 in
theorem indexS_ok (gf : Nat) (lb : Array Value) (p : BSt → Bool) (a : Option Addr) (n cap : Nat) (xs : List BSt) (w : World) (hn : xs.length = n) (hl : n ≤ 9223372036854775807) (hm : RowsAt w.heap.size w a 2 (Sts xs))
    (hp : ∀ W x, Below w.heap.size w W → Calls Try.prog gf (#[x.val] ++ lb) W fun e W' => e = .returned (.bool (p x)) ∧ Below W.heap.size W W')
    (eg : ∀ args w, (callFunc gf args).run Try.prog w = .ok (.enter gf args) w) :
    Calls Try.prog 35 #[.slice a n cap, .func (.func gf) #[] lb] w fun e W' => e = .returned (.int .i64 (idxI p xs)) ∧ Below w.heap.size w W' := by
  have Hn := Lib.hid hn; clear hn
  have Hm := Lib.hid hm; clear hm
  have Hp := Lib.hid hp; clear hp
  have Eg := Lib.hid eg; clear eg
  go_enter Try.func35, Try.ntmps35
  go_wp2_with fail
  go_loopw [8] (fun i wr => ∃ k : Nat, k ≤ n ∧ i = .int .i64 k ∧ Below w.heap.size w wr ∧ Hid (∀ j, j < k → p (xs.getD j default) = false)) (fun i _ => n - (intOf i).toNat)
  case atStart => exact ⟨0, Nat.zero_le _, rfl, below_self w, fun j hj => by omega⟩
  case round =>
    obtain ⟨k, hk, rfl, hb, Hno⟩ := hrel
    have HB := Lib.hid hb; clear hb
    by_cases hlt : k < n
    · obtain ⟨b, off, rfl, hb, hc0, hc1⟩ := sts_at (Hm.out.below HB.out) k (by rw [Hn.out]; exact hlt)
      generalize hx : xs.getD k default = x at hc0 hc1
      have HX := Lib.hid hx; clear hx
      have eg := Eg.out
      go_wp2_with fail
      refine (Hp.out _ x HB.out).mono ?_
      rintro e W2 ⟨rfl, hb2⟩
      have HB2 := Lib.hid (below_trans HB.out hb2)
      clear hb2 hc0 hc1 eg HB
      cases hpx : p x
      · have HN := Lib.hid (no_succ Hno.out (by rw [HX.out]; exact hpx))
        clear hpx
        go_wp2_with fail
        go_roundw
        case rel => exact ⟨k + 1, by omega, by go_num, HB2.out, HN⟩
        case measure => simp [intOf]; omega
      · have HI := Lib.hid (idxI_found (by rw [Hn.out]; exact hlt) (by rw [HX.out]; exact hpx) Hno.out)
        clear hpx
        go_wp2_with fail
        go_ret
        exact ⟨by rw [HI.out]; rfl, HB2.out⟩
    · have HI := Lib.hid (idxI_none (p := p) (l := xs) (fun j hj => Hno.out j (by rw [Hn.out] at hj; omega)))
      go_wp2_with fail
      go_ret
      exact ⟨by rw [HI.out]; rfl, HB.out⟩

theorem guard37 : Try.prog.eqGuardType Try.prog.depth 37 = false := by kernel_rfl
theorem stood37 : Try.prog.stoodInHeld 37 = false := by kernel_rfl
theorem eq37 (x m : BSt) (w : World) : (Op.equalIn 10000 37 x.val m.val).run Try.prog w = .ok (decide (x = m)) w := by
  have e0 := stood37
  obtain ⟨x0, x1⟩ := x
  obtain ⟨m0, m1⟩ := m
  simp [go_sem, e0]
  by_cases h0 : x0 = m0 <;> simp [h0]
  by_cases h1 : x1 = m1 <;> simp [h1]

theorem eq_of_get {α : Type} [Inhabited α] {xs ys : List α} (hl : xs.length = ys.length) (h : ∀ j, j < xs.length → xs.getD j default = ys.getD j default) : xs = ys := by
  apply List.ext_getElem hl
  intro i h1 h2
  have := h i h1
  simpa [List.getD, List.getElem?_eq_getElem h1, List.getElem?_eq_getElem h2] using this
theorem same_succ {α : Type} [Inhabited α] {xs ys : List α} {k : Nat} (h : ∀ j, j < k → xs.getD j default = ys.getD j default) (hk : xs.getD k default = ys.getD k default) : ∀ j, j < k + 1 → xs.getD j default = ys.getD j default := by
  intro j hj
  by_cases e : j = k
  · subst e; exact hk
  · exact h j (by omega)

set_option maxHeartbeats 1000000 in
theorem equalS_ok (a1 a2 : Option Addr) (n1 c1 n2 c2 : Nat) (xs ys : List BSt) (w : World) (h1 : xs.length = n1) (h2 : ys.length = n2) (hl : n1 ≤ 9223372036854775807) (m1 : RowsAt w.heap.size w a1 2 (Sts xs)) (m2 : RowsAt w.heap.size w a2 2 (Sts ys)) :
    Calls Try.prog 26 #[.slice a1 n1 c1, .slice a2 n2 c2] w fun e W' => e = .returned (.bool (decide (xs = ys))) ∧ Below w.heap.size w W' := by
  have H1 := Lib.hid h1
  have H2 := Lib.hid h2
  have M1 := Lib.hid m1
  have M2 := Lib.hid m2
  clear m1 m2
  by_cases hne : n1 = n2
  · subst hne
    clear h1 h2
    have hg := guard37
    go_enter Try.func26, Try.ntmps26
    go_wp2_with fail
    go_loopw [13] (fun i wr => ∃ k d : Nat, k ≤ n1 ∧ i = .int .i64 k ∧ wr = w.drewN d ∧ Hid (∀ j, j < k → xs.getD j default = ys.getD j default)) (fun i _ => n1 - (intOf i).toNat)
    case atStart => exact ⟨0, 0, Nat.zero_le _, rfl, rfl, fun j hj => by omega⟩
    case round =>
      obtain ⟨k, d, hk, rfl, rfl, Hs⟩ := hrel
      by_cases hlt : k < n1
      · obtain ⟨b1, o1, rfl, _, p0, p1⟩ := sts_at M1.out k (by rw [H1.out]; exact hlt)
        obtain ⟨b2, o2, rfl, _, q0, q1⟩ := sts_at M2.out k (by rw [H2.out]; exact hlt)
        generalize hx : xs.getD k default = x at p0 p1
        generalize hy : ys.getD k default = y at q0 q1
        have HX := Lib.hid hx; clear hx
        have HY := Lib.hid hy; clear hy
        have hltI : (k : Int) < (n1 : Int) := by omega
        by_cases he : x = y
        · have heq : ∀ w, (Op.equalIn 10000 37 x.val y.val).run Try.prog w = .ok true w := fun w => by rw [eq37, decide_eq_true he]
          have HN : Hid (∀ j, j < k + 1 → xs.getD j default = ys.getD j default) := same_succ Hs.out (by rw [HX.out, HY.out]; exact he)
          clear he
          go_wp2_with fail
          go_quiet (fail)
          clear heq p0 p1 q0 q1
          go_wp2_with fail
          go_roundw
          case rel => exact ⟨k + 1, d + nq, by omega, by go_num, rfl, HN⟩
          case measure => simp [intOf]; omega
        · have heq : ∀ w, (Op.equalIn 10000 37 x.val y.val).run Try.prog w = .ok false w := fun w => by rw [eq37, decide_eq_false he]
          have HN := Lib.hid (show ¬ xs = ys by intro h; apply he; rw [← HX.out, ← HY.out, h])
          clear he
          go_wp2_with fail
          go_quiet (fail)
          clear heq p0 p1 q0 q1
          go_wp2_with fail
          go_ret
          exact ⟨by rw [decide_eq_false HN.out]; rfl, below_drewN (below_drewN (below_self w) d) nq⟩
      · have HE := Lib.hid (eq_of_get (by rw [H1.out, H2.out]) (fun j hj => Hs.out j (by rw [H1.out] at hj; omega)))
        go_wp2_with fail
        go_ret
        exact ⟨by rw [decide_eq_true HE.out]; rfl, below_drewN (below_self w) d⟩
  · have hd : decide (xs = ys) = false := decide_eq_false (by intro h; apply hne; rw [← h1, ← h2, h])
    rw [hd]
    have hne2 : ¬ (n1 : Int) = (n2 : Int) := by omega
    clear hd h1 h2
    go_enter Try.func26, Try.ntmps26
    go_wp2_with fail
    go_ret
    exact ⟨rfl, below_self w⟩
end Go.Proofs.Ytojpbmaojbejjaa
