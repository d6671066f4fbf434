/- Chapter 15: the flat elements of sites, wishes and worlds as data; IndexFunc and ContainsFunc over them (written by wip/gen15ln.py). -/
import Derived.Test.YthlefdbhkbpejaaGreatLn
namespace Go.Proofs.YthlefdbhkbpejaaGreat
open Go Go.RowKit

structure Feed where
  limit : Int
  deriving DecidableEq, Inhabited
abbrev Feed.cells (x : Feed) : List Value := [.int .i64 x.limit]
abbrev Feed.val (x : Feed) : Value := .agg x.cells.toArray
abbrev Fds (xs : List Feed) : List (List Value) := xs.map Feed.cells
theorem fds_at {n : Nat} {w : World} {a : Option Addr} {xs : List Feed} (h : RowsAt n w a 1 (Fds xs)) (k : Nat) (hk : k < xs.length) :
    ∃ b off, a = some ⟨b, off, none⟩ ∧ b < n ∧ w.cell? ⟨b, off + k, none⟩ = some (.int .i64 (xs.getD k default).limit) := by
  obtain ⟨b, off, ha, hb, hc⟩ := h k (xs.getD k default).cells (by simp [hk])
  exact ⟨b, off, ha, hb, by simpa using hc 0 _ rfl⟩

set_option maxHeartbeats 1000000 in
theorem indexFd_ok (gf : Nat) (lb : Array Value) (p : Feed → Bool) (a : Option Addr) (n cap : Nat) (xs : List Feed) (w : World) (hn : xs.length = n) (hl : n ≤ 9223372036854775807) (hm : RowsAt w.heap.size w a 1 (Fds xs))
    (hp : ∀ W x, Below w.heap.size w W → Calls Tryz.prog gf (#[x.val] ++ lb) W fun e W' => e = .returned (.bool (p x)) ∧ Below W.heap.size W W')
    (eg : ∀ args w, (callFunc gf args).run Tryz.prog w = .ok (.enter gf args) w) :
    Calls Tryz.prog 103 #[.slice a n cap, .func (.func gf) #[] lb] w fun e W' => e = .returned (.int .i64 (idxI p xs)) ∧ Below w.heap.size w W' := by
  have Hn := Lib.hid hn; clear hn
  have Hm := Lib.hid hm; clear hm
  have Hp := Lib.hid hp; clear hp
  have Eg := Lib.hid eg; clear eg
  go_enter Tryz.func103, Tryz.ntmps103
  go_wp2_with fail
  go_loopw [8] (fun i wr => ∃ k : Nat, k ≤ n ∧ i = .int .i64 k ∧ Below w.heap.size w wr ∧ Hid (∀ j, j < k → p (xs.getD j default) = false)) (fun i _ => n - (intOf i).toNat)
  case atStart => exact ⟨0, Nat.zero_le _, rfl, below_self w, fun j hj => by omega⟩
  case round =>
    obtain ⟨k, hk, rfl, hb, Hno⟩ := hrel
    have HB := Lib.hid hb; clear hb
    by_cases hlt : k < n
    · obtain ⟨b, off, rfl, hb, hc0⟩ := fds_at (Hm.out.below HB.out) k (by rw [Hn.out]; exact hlt)
      have eg := Eg.out
      go_wp2_with fail
      refine (Hp.out _ (xs.getD k default) HB.out).mono ?_
      rintro e W2 ⟨rfl, hb2⟩
      have HB2 := Lib.hid (below_trans HB.out hb2)
      clear hb2 hc0 eg HB
      cases hpx : p (xs.getD k default)
      · have HN := Lib.hid (no_succ Hno.out hpx)
        clear hpx
        go_wp2_with fail
        go_roundw
        case rel => exact ⟨k + 1, by omega, by go_num, HB2.out, HN⟩
        case measure => simp [intOf]; omega
      · have HI := Lib.hid (idxI_found (by rw [Hn.out]; exact hlt) hpx Hno.out)
        clear hpx
        go_wp2_with fail
        go_ret
        exact ⟨by rw [HI.out]; rfl, HB2.out⟩
    · have HI := Lib.hid (idxI_none (p := p) (l := xs) (fun j hj => Hno.out j (by rw [Hn.out] at hj; omega)))
      go_wp2_with fail
      go_ret
      exact ⟨by rw [HI.out]; rfl, HB.out⟩

theorem containsFd_ok (gf : Nat) (lb : Array Value) (p : Feed → Bool) (a : Option Addr) (n cap : Nat) (xs : List Feed) (w : World) (hn : xs.length = n) (hl : n ≤ 9223372036854775807) (hm : RowsAt w.heap.size w a 1 (Fds xs))
    (hp : ∀ W x, Below w.heap.size w W → Calls Tryz.prog gf (#[x.val] ++ lb) W fun e W' => e = .returned (.bool (p x)) ∧ Below W.heap.size W W')
    (eg : ∀ args w, (callFunc gf args).run Tryz.prog w = .ok (.enter gf args) w) :
    Calls Tryz.prog 75 #[.slice a n cap, .func (.func gf) #[] lb] w fun e W' => e = .returned (.bool (xs.any p)) ∧ Below w.heap.size w W' := by
  have Hn := Lib.hid hn; clear hn
  have Hm := Lib.hid hm; clear hm
  have Hp := Lib.hid hp; clear hp
  have Eg := Lib.hid eg; clear eg
  rw [← idxI_any]
  go_enter Tryz.func75, Tryz.ntmps75
  go_wp2_with fail
  refine (indexFd_ok gf lb p a n cap xs w Hn.out hl Hm.out Hp.out Eg.out).mono ?_
  rintro e W2 ⟨rfl, hb2⟩
  have HB := Lib.hid hb2; clear hb2
  go_wp2_with fail
  go_ret
  exact ⟨rfl, HB.out⟩

structure Bkr where
  feed : Int
  limit : Int
  slow : Int
  fast : Int
  deriving DecidableEq, Inhabited
abbrev Bkr.cells (x : Bkr) : List Value := [.int .i64 x.feed, .int .i64 x.limit, .int .i64 x.slow, .int .i64 x.fast]
abbrev Bkr.val (x : Bkr) : Value := .agg x.cells.toArray
abbrev Bks (xs : List Bkr) : List (List Value) := xs.map Bkr.cells
theorem bks_at {n : Nat} {w : World} {a : Option Addr} {xs : List Bkr} (h : RowsAt n w a 4 (Bks xs)) (k : Nat) (hk : k < xs.length) :
    ∃ b off, a = some ⟨b, off, none⟩ ∧ b < n ∧ w.cell? ⟨b, off + k * 4, none⟩ = some (.int .i64 (xs.getD k default).feed) ∧ w.cell? ⟨b, off + k * 4 + 1, none⟩ = some (.int .i64 (xs.getD k default).limit) ∧ w.cell? ⟨b, off + k * 4 + 2, none⟩ = some (.int .i64 (xs.getD k default).slow) ∧ w.cell? ⟨b, off + k * 4 + 3, none⟩ = some (.int .i64 (xs.getD k default).fast) := by
  obtain ⟨b, off, ha, hb, hc⟩ := h k (xs.getD k default).cells (by simp [hk])
  exact ⟨b, off, ha, hb, hc 0 _ rfl, hc 1 _ rfl, hc 2 _ rfl, hc 3 _ rfl⟩

set_option maxHeartbeats 1000000 in
theorem indexBk_ok (gf : Nat) (lb : Array Value) (p : Bkr → Bool) (a : Option Addr) (n cap : Nat) (xs : List Bkr) (w : World) (hn : xs.length = n) (hl : n ≤ 9223372036854775807) (hm : RowsAt w.heap.size w a 4 (Bks xs))
    (hp : ∀ W x, Below w.heap.size w W → Calls Tryz.prog gf (#[x.val] ++ lb) W fun e W' => e = .returned (.bool (p x)) ∧ Below W.heap.size W W')
    (eg : ∀ args w, (callFunc gf args).run Tryz.prog w = .ok (.enter gf args) w) :
    Calls Tryz.prog 104 #[.slice a n cap, .func (.func gf) #[] lb] w fun e W' => e = .returned (.int .i64 (idxI p xs)) ∧ Below w.heap.size w W' := by
  have Hn := Lib.hid hn; clear hn
  have Hm := Lib.hid hm; clear hm
  have Hp := Lib.hid hp; clear hp
  have Eg := Lib.hid eg; clear eg
  go_enter Tryz.func104, Tryz.ntmps104
  go_wp2_with fail
  go_loopw [8] (fun i wr => ∃ k : Nat, k ≤ n ∧ i = .int .i64 k ∧ Below w.heap.size w wr ∧ Hid (∀ j, j < k → p (xs.getD j default) = false)) (fun i _ => n - (intOf i).toNat)
  case atStart => exact ⟨0, Nat.zero_le _, rfl, below_self w, fun j hj => by omega⟩
  case round =>
    obtain ⟨k, hk, rfl, hb, Hno⟩ := hrel
    have HB := Lib.hid hb; clear hb
    by_cases hlt : k < n
    · obtain ⟨b, off, rfl, hb, hc0, hc1, hc2, hc3⟩ := bks_at (Hm.out.below HB.out) k (by rw [Hn.out]; exact hlt)
      have eg := Eg.out
      go_wp2_with fail
      refine (Hp.out _ (xs.getD k default) HB.out).mono ?_
      rintro e W2 ⟨rfl, hb2⟩
      have HB2 := Lib.hid (below_trans HB.out hb2)
      clear hb2 hc0 hc1 hc2 hc3 eg HB
      cases hpx : p (xs.getD k default)
      · have HN := Lib.hid (no_succ Hno.out hpx)
        clear hpx
        go_wp2_with fail
        go_roundw
        case rel => exact ⟨k + 1, by omega, by go_num, HB2.out, HN⟩
        case measure => simp [intOf]; omega
      · have HI := Lib.hid (idxI_found (by rw [Hn.out]; exact hlt) hpx Hno.out)
        clear hpx
        go_wp2_with fail
        go_ret
        exact ⟨by rw [HI.out]; rfl, HB2.out⟩
    · have HI := Lib.hid (idxI_none (p := p) (l := xs) (fun j hj => Hno.out j (by rw [Hn.out] at hj; omega)))
      go_wp2_with fail
      go_ret
      exact ⟨by rw [HI.out]; rfl, HB.out⟩

theorem containsBk_ok (gf : Nat) (lb : Array Value) (p : Bkr → Bool) (a : Option Addr) (n cap : Nat) (xs : List Bkr) (w : World) (hn : xs.length = n) (hl : n ≤ 9223372036854775807) (hm : RowsAt w.heap.size w a 4 (Bks xs))
    (hp : ∀ W x, Below w.heap.size w W → Calls Tryz.prog gf (#[x.val] ++ lb) W fun e W' => e = .returned (.bool (p x)) ∧ Below W.heap.size W W')
    (eg : ∀ args w, (callFunc gf args).run Tryz.prog w = .ok (.enter gf args) w) :
    Calls Tryz.prog 76 #[.slice a n cap, .func (.func gf) #[] lb] w fun e W' => e = .returned (.bool (xs.any p)) ∧ Below w.heap.size w W' := by
  have Hn := Lib.hid hn; clear hn
  have Hm := Lib.hid hm; clear hm
  have Hp := Lib.hid hp; clear hp
  have Eg := Lib.hid eg; clear eg
  rw [← idxI_any]
  go_enter Tryz.func76, Tryz.ntmps76
  go_wp2_with fail
  refine (indexBk_ok gf lb p a n cap xs w Hn.out hl Hm.out Hp.out Eg.out).mono ?_
  rintro e W2 ⟨rfl, hb2⟩
  have HB := Lib.hid hb2; clear hb2
  go_wp2_with fail
  go_ret
  exact ⟨rfl, HB.out⟩

structure Loop where
  carry : Int
  delay : Int
  deriving DecidableEq, Inhabited
abbrev Loop.cells (x : Loop) : List Value := [.int .i64 x.carry, .int .i64 x.delay]
abbrev Loop.val (x : Loop) : Value := .agg x.cells.toArray
abbrev Lps (xs : List Loop) : List (List Value) := xs.map Loop.cells
theorem lps_at {n : Nat} {w : World} {a : Option Addr} {xs : List Loop} (h : RowsAt n w a 2 (Lps xs)) (k : Nat) (hk : k < xs.length) :
    ∃ b off, a = some ⟨b, off, none⟩ ∧ b < n ∧ w.cell? ⟨b, off + k * 2, none⟩ = some (.int .i64 (xs.getD k default).carry) ∧ w.cell? ⟨b, off + k * 2 + 1, none⟩ = some (.int .i64 (xs.getD k default).delay) := by
  obtain ⟨b, off, ha, hb, hc⟩ := h k (xs.getD k default).cells (by simp [hk])
  exact ⟨b, off, ha, hb, hc 0 _ rfl, hc 1 _ rfl⟩

set_option maxHeartbeats 1000000 in
theorem indexLp_ok (gf : Nat) (lb : Array Value) (p : Loop → Bool) (a : Option Addr) (n cap : Nat) (xs : List Loop) (w : World) (hn : xs.length = n) (hl : n ≤ 9223372036854775807) (hm : RowsAt w.heap.size w a 2 (Lps xs))
    (hp : ∀ W x, Below w.heap.size w W → Calls Tryz.prog gf (#[x.val] ++ lb) W fun e W' => e = .returned (.bool (p x)) ∧ Below W.heap.size W W')
    (eg : ∀ args w, (callFunc gf args).run Tryz.prog w = .ok (.enter gf args) w) :
    Calls Tryz.prog 105 #[.slice a n cap, .func (.func gf) #[] lb] w fun e W' => e = .returned (.int .i64 (idxI p xs)) ∧ Below w.heap.size w W' := by
  have Hn := Lib.hid hn; clear hn
  have Hm := Lib.hid hm; clear hm
  have Hp := Lib.hid hp; clear hp
  have Eg := Lib.hid eg; clear eg
  go_enter Tryz.func105, Tryz.ntmps105
  go_wp2_with fail
  go_loopw [8] (fun i wr => ∃ k : Nat, k ≤ n ∧ i = .int .i64 k ∧ Below w.heap.size w wr ∧ Hid (∀ j, j < k → p (xs.getD j default) = false)) (fun i _ => n - (intOf i).toNat)
  case atStart => exact ⟨0, Nat.zero_le _, rfl, below_self w, fun j hj => by omega⟩
  case round =>
    obtain ⟨k, hk, rfl, hb, Hno⟩ := hrel
    have HB := Lib.hid hb; clear hb
    by_cases hlt : k < n
    · obtain ⟨b, off, rfl, hb, hc0, hc1⟩ := lps_at (Hm.out.below HB.out) k (by rw [Hn.out]; exact hlt)
      have eg := Eg.out
      go_wp2_with fail
      refine (Hp.out _ (xs.getD k default) HB.out).mono ?_
      rintro e W2 ⟨rfl, hb2⟩
      have HB2 := Lib.hid (below_trans HB.out hb2)
      clear hb2 hc0 hc1 eg HB
      cases hpx : p (xs.getD k default)
      · have HN := Lib.hid (no_succ Hno.out hpx)
        clear hpx
        go_wp2_with fail
        go_roundw
        case rel => exact ⟨k + 1, by omega, by go_num, HB2.out, HN⟩
        case measure => simp [intOf]; omega
      · have HI := Lib.hid (idxI_found (by rw [Hn.out]; exact hlt) hpx Hno.out)
        clear hpx
        go_wp2_with fail
        go_ret
        exact ⟨by rw [HI.out]; rfl, HB2.out⟩
    · have HI := Lib.hid (idxI_none (p := p) (l := xs) (fun j hj => Hno.out j (by rw [Hn.out] at hj; omega)))
      go_wp2_with fail
      go_ret
      exact ⟨by rw [HI.out]; rfl, HB.out⟩

theorem containsLp_ok (gf : Nat) (lb : Array Value) (p : Loop → Bool) (a : Option Addr) (n cap : Nat) (xs : List Loop) (w : World) (hn : xs.length = n) (hl : n ≤ 9223372036854775807) (hm : RowsAt w.heap.size w a 2 (Lps xs))
    (hp : ∀ W x, Below w.heap.size w W → Calls Tryz.prog gf (#[x.val] ++ lb) W fun e W' => e = .returned (.bool (p x)) ∧ Below W.heap.size W W')
    (eg : ∀ args w, (callFunc gf args).run Tryz.prog w = .ok (.enter gf args) w) :
    Calls Tryz.prog 77 #[.slice a n cap, .func (.func gf) #[] lb] w fun e W' => e = .returned (.bool (xs.any p)) ∧ Below w.heap.size w W' := by
  have Hn := Lib.hid hn; clear hn
  have Hm := Lib.hid hm; clear hm
  have Hp := Lib.hid hp; clear hp
  have Eg := Lib.hid eg; clear eg
  rw [← idxI_any]
  go_enter Tryz.func77, Tryz.ntmps77
  go_wp2_with fail
  refine (indexLp_ok gf lb p a n cap xs w Hn.out hl Hm.out Hp.out Eg.out).mono ?_
  rintro e W2 ⟨rfl, hb2⟩
  have HB := Lib.hid hb2; clear hb2
  go_wp2_with fail
  go_ret
  exact ⟨rfl, HB.out⟩

structure Rack where
  row : Int
  brk : Int
  loop : Int
  switch : Int
  deriving DecidableEq, Inhabited
abbrev Rack.cells (x : Rack) : List Value := [.int .i64 x.row, .int .i64 x.brk, .int .i64 x.loop, .int .i64 x.switch]
abbrev Rack.val (x : Rack) : Value := .agg x.cells.toArray
abbrev Rks (xs : List Rack) : List (List Value) := xs.map Rack.cells
theorem rks_at {n : Nat} {w : World} {a : Option Addr} {xs : List Rack} (h : RowsAt n w a 4 (Rks xs)) (k : Nat) (hk : k < xs.length) :
    ∃ b off, a = some ⟨b, off, none⟩ ∧ b < n ∧ w.cell? ⟨b, off + k * 4, none⟩ = some (.int .i64 (xs.getD k default).row) ∧ w.cell? ⟨b, off + k * 4 + 1, none⟩ = some (.int .i64 (xs.getD k default).brk) ∧ w.cell? ⟨b, off + k * 4 + 2, none⟩ = some (.int .i64 (xs.getD k default).loop) ∧ w.cell? ⟨b, off + k * 4 + 3, none⟩ = some (.int .i64 (xs.getD k default).switch) := by
  obtain ⟨b, off, ha, hb, hc⟩ := h k (xs.getD k default).cells (by simp [hk])
  exact ⟨b, off, ha, hb, hc 0 _ rfl, hc 1 _ rfl, hc 2 _ rfl, hc 3 _ rfl⟩

set_option maxHeartbeats 1000000 in
theorem indexRk_ok (gf : Nat) (lb : Array Value) (p : Rack → Bool) (a : Option Addr) (n cap : Nat) (xs : List Rack) (w : World) (hn : xs.length = n) (hl : n ≤ 9223372036854775807) (hm : RowsAt w.heap.size w a 4 (Rks xs))
    (hp : ∀ W x, Below w.heap.size w W → Calls Tryz.prog gf (#[x.val] ++ lb) W fun e W' => e = .returned (.bool (p x)) ∧ Below W.heap.size W W')
    (eg : ∀ args w, (callFunc gf args).run Tryz.prog w = .ok (.enter gf args) w) :
    Calls Tryz.prog 106 #[.slice a n cap, .func (.func gf) #[] lb] w fun e W' => e = .returned (.int .i64 (idxI p xs)) ∧ Below w.heap.size w W' := by
  have Hn := Lib.hid hn; clear hn
  have Hm := Lib.hid hm; clear hm
  have Hp := Lib.hid hp; clear hp
  have Eg := Lib.hid eg; clear eg
  go_enter Tryz.func106, Tryz.ntmps106
  go_wp2_with fail
  go_loopw [8] (fun i wr => ∃ k : Nat, k ≤ n ∧ i = .int .i64 k ∧ Below w.heap.size w wr ∧ Hid (∀ j, j < k → p (xs.getD j default) = false)) (fun i _ => n - (intOf i).toNat)
  case atStart => exact ⟨0, Nat.zero_le _, rfl, below_self w, fun j hj => by omega⟩
  case round =>
    obtain ⟨k, hk, rfl, hb, Hno⟩ := hrel
    have HB := Lib.hid hb; clear hb
    by_cases hlt : k < n
    · obtain ⟨b, off, rfl, hb, hc0, hc1, hc2, hc3⟩ := rks_at (Hm.out.below HB.out) k (by rw [Hn.out]; exact hlt)
      have eg := Eg.out
      go_wp2_with fail
      refine (Hp.out _ (xs.getD k default) HB.out).mono ?_
      rintro e W2 ⟨rfl, hb2⟩
      have HB2 := Lib.hid (below_trans HB.out hb2)
      clear hb2 hc0 hc1 hc2 hc3 eg HB
      cases hpx : p (xs.getD k default)
      · have HN := Lib.hid (no_succ Hno.out hpx)
        clear hpx
        go_wp2_with fail
        go_roundw
        case rel => exact ⟨k + 1, by omega, by go_num, HB2.out, HN⟩
        case measure => simp [intOf]; omega
      · have HI := Lib.hid (idxI_found (by rw [Hn.out]; exact hlt) hpx Hno.out)
        clear hpx
        go_wp2_with fail
        go_ret
        exact ⟨by rw [HI.out]; rfl, HB2.out⟩
    · have HI := Lib.hid (idxI_none (p := p) (l := xs) (fun j hj => Hno.out j (by rw [Hn.out] at hj; omega)))
      go_wp2_with fail
      go_ret
      exact ⟨by rw [HI.out]; rfl, HB.out⟩

theorem containsRk_ok (gf : Nat) (lb : Array Value) (p : Rack → Bool) (a : Option Addr) (n cap : Nat) (xs : List Rack) (w : World) (hn : xs.length = n) (hl : n ≤ 9223372036854775807) (hm : RowsAt w.heap.size w a 4 (Rks xs))
    (hp : ∀ W x, Below w.heap.size w W → Calls Tryz.prog gf (#[x.val] ++ lb) W fun e W' => e = .returned (.bool (p x)) ∧ Below W.heap.size W W')
    (eg : ∀ args w, (callFunc gf args).run Tryz.prog w = .ok (.enter gf args) w) :
    Calls Tryz.prog 78 #[.slice a n cap, .func (.func gf) #[] lb] w fun e W' => e = .returned (.bool (xs.any p)) ∧ Below w.heap.size w W' := by
  have Hn := Lib.hid hn; clear hn
  have Hm := Lib.hid hm; clear hm
  have Hp := Lib.hid hp; clear hp
  have Eg := Lib.hid eg; clear eg
  rw [← idxI_any]
  go_enter Tryz.func78, Tryz.ntmps78
  go_wp2_with fail
  refine (indexRk_ok gf lb p a n cap xs w Hn.out hl Hm.out Hp.out Eg.out).mono ?_
  rintro e W2 ⟨rfl, hb2⟩
  have HB := Lib.hid hb2; clear hb2
  go_wp2_with fail
  go_ret
  exact ⟨rfl, HB.out⟩

structure Link where
  a : Int
  b : Int
  lat : Int
  deriving DecidableEq, Inhabited
abbrev Link.cells (x : Link) : List Value := [.int .i64 x.a, .int .i64 x.b, .int .i64 x.lat]
abbrev Link.val (x : Link) : Value := .agg x.cells.toArray
abbrev Lks (xs : List Link) : List (List Value) := xs.map Link.cells
theorem lks_at {n : Nat} {w : World} {a : Option Addr} {xs : List Link} (h : RowsAt n w a 3 (Lks xs)) (k : Nat) (hk : k < xs.length) :
    ∃ b off, a = some ⟨b, off, none⟩ ∧ b < n ∧ w.cell? ⟨b, off + k * 3, none⟩ = some (.int .i64 (xs.getD k default).a) ∧ w.cell? ⟨b, off + k * 3 + 1, none⟩ = some (.int .i64 (xs.getD k default).b) ∧ w.cell? ⟨b, off + k * 3 + 2, none⟩ = some (.int .i64 (xs.getD k default).lat) := by
  obtain ⟨b, off, ha, hb, hc⟩ := h k (xs.getD k default).cells (by simp [hk])
  exact ⟨b, off, ha, hb, hc 0 _ rfl, hc 1 _ rfl, hc 2 _ rfl⟩

set_option maxHeartbeats 1000000 in
theorem indexLk_ok (gf : Nat) (lb : Array Value) (p : Link → Bool) (a : Option Addr) (n cap : Nat) (xs : List Link) (w : World) (hn : xs.length = n) (hl : n ≤ 9223372036854775807) (hm : RowsAt w.heap.size w a 3 (Lks xs))
    (hp : ∀ W x, Below w.heap.size w W → Calls Tryz.prog gf (#[x.val] ++ lb) W fun e W' => e = .returned (.bool (p x)) ∧ Below W.heap.size W W')
    (eg : ∀ args w, (callFunc gf args).run Tryz.prog w = .ok (.enter gf args) w) :
    Calls Tryz.prog 107 #[.slice a n cap, .func (.func gf) #[] lb] w fun e W' => e = .returned (.int .i64 (idxI p xs)) ∧ Below w.heap.size w W' := by
  have Hn := Lib.hid hn; clear hn
  have Hm := Lib.hid hm; clear hm
  have Hp := Lib.hid hp; clear hp
  have Eg := Lib.hid eg; clear eg
  go_enter Tryz.func107, Tryz.ntmps107
  go_wp2_with fail
  go_loopw [8] (fun i wr => ∃ k : Nat, k ≤ n ∧ i = .int .i64 k ∧ Below w.heap.size w wr ∧ Hid (∀ j, j < k → p (xs.getD j default) = false)) (fun i _ => n - (intOf i).toNat)
  case atStart => exact ⟨0, Nat.zero_le _, rfl, below_self w, fun j hj => by omega⟩
  case round =>
    obtain ⟨k, hk, rfl, hb, Hno⟩ := hrel
    have HB := Lib.hid hb; clear hb
    by_cases hlt : k < n
    · obtain ⟨b, off, rfl, hb, hc0, hc1, hc2⟩ := lks_at (Hm.out.below HB.out) k (by rw [Hn.out]; exact hlt)
      have eg := Eg.out
      go_wp2_with fail
      refine (Hp.out _ (xs.getD k default) HB.out).mono ?_
      rintro e W2 ⟨rfl, hb2⟩
      have HB2 := Lib.hid (below_trans HB.out hb2)
      clear hb2 hc0 hc1 hc2 eg HB
      cases hpx : p (xs.getD k default)
      · have HN := Lib.hid (no_succ Hno.out hpx)
        clear hpx
        go_wp2_with fail
        go_roundw
        case rel => exact ⟨k + 1, by omega, by go_num, HB2.out, HN⟩
        case measure => simp [intOf]; omega
      · have HI := Lib.hid (idxI_found (by rw [Hn.out]; exact hlt) hpx Hno.out)
        clear hpx
        go_wp2_with fail
        go_ret
        exact ⟨by rw [HI.out]; rfl, HB2.out⟩
    · have HI := Lib.hid (idxI_none (p := p) (l := xs) (fun j hj => Hno.out j (by rw [Hn.out] at hj; omega)))
      go_wp2_with fail
      go_ret
      exact ⟨by rw [HI.out]; rfl, HB.out⟩

theorem containsLk_ok (gf : Nat) (lb : Array Value) (p : Link → Bool) (a : Option Addr) (n cap : Nat) (xs : List Link) (w : World) (hn : xs.length = n) (hl : n ≤ 9223372036854775807) (hm : RowsAt w.heap.size w a 3 (Lks xs))
    (hp : ∀ W x, Below w.heap.size w W → Calls Tryz.prog gf (#[x.val] ++ lb) W fun e W' => e = .returned (.bool (p x)) ∧ Below W.heap.size W W')
    (eg : ∀ args w, (callFunc gf args).run Tryz.prog w = .ok (.enter gf args) w) :
    Calls Tryz.prog 79 #[.slice a n cap, .func (.func gf) #[] lb] w fun e W' => e = .returned (.bool (xs.any p)) ∧ Below w.heap.size w W' := by
  have Hn := Lib.hid hn; clear hn
  have Hm := Lib.hid hm; clear hm
  have Hp := Lib.hid hp; clear hp
  have Eg := Lib.hid eg; clear eg
  rw [← idxI_any]
  go_enter Tryz.func79, Tryz.ntmps79
  go_wp2_with fail
  refine (indexLk_ok gf lb p a n cap xs w Hn.out hl Hm.out Hp.out Eg.out).mono ?_
  rintro e W2 ⟨rfl, hb2⟩
  have HB := Lib.hid hb2; clear hb2
  go_wp2_with fail
  go_ret
  exact ⟨rfl, HB.out⟩

structure Host where
  rack : Int
  cores : Int
  idle : Int
  per : Int
  deriving DecidableEq, Inhabited
abbrev Host.cells (x : Host) : List Value := [.int .i64 x.rack, .int .i64 x.cores, .int .i64 x.idle, .int .i64 x.per]
abbrev Host.val (x : Host) : Value := .agg x.cells.toArray
abbrev Hos (xs : List Host) : List (List Value) := xs.map Host.cells
theorem hos_at {n : Nat} {w : World} {a : Option Addr} {xs : List Host} (h : RowsAt n w a 4 (Hos xs)) (k : Nat) (hk : k < xs.length) :
    ∃ b off, a = some ⟨b, off, none⟩ ∧ b < n ∧ w.cell? ⟨b, off + k * 4, none⟩ = some (.int .i64 (xs.getD k default).rack) ∧ w.cell? ⟨b, off + k * 4 + 1, none⟩ = some (.int .i64 (xs.getD k default).cores) ∧ w.cell? ⟨b, off + k * 4 + 2, none⟩ = some (.int .i64 (xs.getD k default).idle) ∧ w.cell? ⟨b, off + k * 4 + 3, none⟩ = some (.int .i64 (xs.getD k default).per) := by
  obtain ⟨b, off, ha, hb, hc⟩ := h k (xs.getD k default).cells (by simp [hk])
  exact ⟨b, off, ha, hb, hc 0 _ rfl, hc 1 _ rfl, hc 2 _ rfl, hc 3 _ rfl⟩

set_option maxHeartbeats 1000000 in
theorem indexHo_ok (gf : Nat) (lb : Array Value) (p : Host → Bool) (a : Option Addr) (n cap : Nat) (xs : List Host) (w : World) (hn : xs.length = n) (hl : n ≤ 9223372036854775807) (hm : RowsAt w.heap.size w a 4 (Hos xs))
    (hp : ∀ W x, Below w.heap.size w W → Calls Tryz.prog gf (#[x.val] ++ lb) W fun e W' => e = .returned (.bool (p x)) ∧ Below W.heap.size W W')
    (eg : ∀ args w, (callFunc gf args).run Tryz.prog w = .ok (.enter gf args) w) :
    Calls Tryz.prog 108 #[.slice a n cap, .func (.func gf) #[] lb] w fun e W' => e = .returned (.int .i64 (idxI p xs)) ∧ Below w.heap.size w W' := by
  have Hn := Lib.hid hn; clear hn
  have Hm := Lib.hid hm; clear hm
  have Hp := Lib.hid hp; clear hp
  have Eg := Lib.hid eg; clear eg
  go_enter Tryz.func108, Tryz.ntmps108
  go_wp2_with fail
  go_loopw [8] (fun i wr => ∃ k : Nat, k ≤ n ∧ i = .int .i64 k ∧ Below w.heap.size w wr ∧ Hid (∀ j, j < k → p (xs.getD j default) = false)) (fun i _ => n - (intOf i).toNat)
  case atStart => exact ⟨0, Nat.zero_le _, rfl, below_self w, fun j hj => by omega⟩
  case round =>
    obtain ⟨k, hk, rfl, hb, Hno⟩ := hrel
    have HB := Lib.hid hb; clear hb
    by_cases hlt : k < n
    · obtain ⟨b, off, rfl, hb, hc0, hc1, hc2, hc3⟩ := hos_at (Hm.out.below HB.out) k (by rw [Hn.out]; exact hlt)
      have eg := Eg.out
      go_wp2_with fail
      refine (Hp.out _ (xs.getD k default) HB.out).mono ?_
      rintro e W2 ⟨rfl, hb2⟩
      have HB2 := Lib.hid (below_trans HB.out hb2)
      clear hb2 hc0 hc1 hc2 hc3 eg HB
      cases hpx : p (xs.getD k default)
      · have HN := Lib.hid (no_succ Hno.out hpx)
        clear hpx
        go_wp2_with fail
        go_roundw
        case rel => exact ⟨k + 1, by omega, by go_num, HB2.out, HN⟩
        case measure => simp [intOf]; omega
      · have HI := Lib.hid (idxI_found (by rw [Hn.out]; exact hlt) hpx Hno.out)
        clear hpx
        go_wp2_with fail
        go_ret
        exact ⟨by rw [HI.out]; rfl, HB2.out⟩
    · have HI := Lib.hid (idxI_none (p := p) (l := xs) (fun j hj => Hno.out j (by rw [Hn.out] at hj; omega)))
      go_wp2_with fail
      go_ret
      exact ⟨by rw [HI.out]; rfl, HB.out⟩

theorem containsHo_ok (gf : Nat) (lb : Array Value) (p : Host → Bool) (a : Option Addr) (n cap : Nat) (xs : List Host) (w : World) (hn : xs.length = n) (hl : n ≤ 9223372036854775807) (hm : RowsAt w.heap.size w a 4 (Hos xs))
    (hp : ∀ W x, Below w.heap.size w W → Calls Tryz.prog gf (#[x.val] ++ lb) W fun e W' => e = .returned (.bool (p x)) ∧ Below W.heap.size W W')
    (eg : ∀ args w, (callFunc gf args).run Tryz.prog w = .ok (.enter gf args) w) :
    Calls Tryz.prog 80 #[.slice a n cap, .func (.func gf) #[] lb] w fun e W' => e = .returned (.bool (xs.any p)) ∧ Below w.heap.size w W' := by
  have Hn := Lib.hid hn; clear hn
  have Hm := Lib.hid hm; clear hm
  have Hp := Lib.hid hp; clear hp
  have Eg := Lib.hid eg; clear eg
  rw [← idxI_any]
  go_enter Tryz.func80, Tryz.ntmps80
  go_wp2_with fail
  refine (indexHo_ok gf lb p a n cap xs w Hn.out hl Hm.out Hp.out Eg.out).mono ?_
  rintro e W2 ⟨rfl, hb2⟩
  have HB := Lib.hid hb2; clear hb2
  go_wp2_with fail
  go_ret
  exact ⟨rfl, HB.out⟩

structure HSt where
  phase : Int
  firm : Int
  deriving DecidableEq, Inhabited
abbrev HSt.cells (x : HSt) : List Value := [.int .u8 x.phase, .int .i64 x.firm]
abbrev HSt.val (x : HSt) : Value := .agg x.cells.toArray
abbrev Hss (xs : List HSt) : List (List Value) := xs.map HSt.cells
theorem hss_at {n : Nat} {w : World} {a : Option Addr} {xs : List HSt} (h : RowsAt n w a 2 (Hss xs)) (k : Nat) (hk : k < xs.length) :
    ∃ b off, a = some ⟨b, off, none⟩ ∧ b < n ∧ w.cell? ⟨b, off + k * 2, none⟩ = some (.int .u8 (xs.getD k default).phase) ∧ w.cell? ⟨b, off + k * 2 + 1, none⟩ = some (.int .i64 (xs.getD k default).firm) := by
  obtain ⟨b, off, ha, hb, hc⟩ := h k (xs.getD k default).cells (by simp [hk])
  exact ⟨b, off, ha, hb, hc 0 _ rfl, hc 1 _ rfl⟩

set_option maxHeartbeats 1000000 in
theorem indexHs_ok (gf : Nat) (lb : Array Value) (p : HSt → Bool) (a : Option Addr) (n cap : Nat) (xs : List HSt) (w : World) (hn : xs.length = n) (hl : n ≤ 9223372036854775807) (hm : RowsAt w.heap.size w a 2 (Hss xs))
    (hp : ∀ W x, Below w.heap.size w W → Calls Tryz.prog gf (#[x.val] ++ lb) W fun e W' => e = .returned (.bool (p x)) ∧ Below W.heap.size W W')
    (eg : ∀ args w, (callFunc gf args).run Tryz.prog w = .ok (.enter gf args) w) :
    Calls Tryz.prog 89 #[.slice a n cap, .func (.func gf) #[] lb] w fun e W' => e = .returned (.int .i64 (idxI p xs)) ∧ Below w.heap.size w W' := by
  have Hn := Lib.hid hn; clear hn
  have Hm := Lib.hid hm; clear hm
  have Hp := Lib.hid hp; clear hp
  have Eg := Lib.hid eg; clear eg
  go_enter Tryz.func89, Tryz.ntmps89
  go_wp2_with fail
  go_loopw [8] (fun i wr => ∃ k : Nat, k ≤ n ∧ i = .int .i64 k ∧ Below w.heap.size w wr ∧ Hid (∀ j, j < k → p (xs.getD j default) = false)) (fun i _ => n - (intOf i).toNat)
  case atStart => exact ⟨0, Nat.zero_le _, rfl, below_self w, fun j hj => by omega⟩
  case round =>
    obtain ⟨k, hk, rfl, hb, Hno⟩ := hrel
    have HB := Lib.hid hb; clear hb
    by_cases hlt : k < n
    · obtain ⟨b, off, rfl, hb, hc0, hc1⟩ := hss_at (Hm.out.below HB.out) k (by rw [Hn.out]; exact hlt)
      have eg := Eg.out
      go_wp2_with fail
      refine (Hp.out _ (xs.getD k default) HB.out).mono ?_
      rintro e W2 ⟨rfl, hb2⟩
      have HB2 := Lib.hid (below_trans HB.out hb2)
      clear hb2 hc0 hc1 eg HB
      cases hpx : p (xs.getD k default)
      · have HN := Lib.hid (no_succ Hno.out hpx)
        clear hpx
        go_wp2_with fail
        go_roundw
        case rel => exact ⟨k + 1, by omega, by go_num, HB2.out, HN⟩
        case measure => simp [intOf]; omega
      · have HI := Lib.hid (idxI_found (by rw [Hn.out]; exact hlt) hpx Hno.out)
        clear hpx
        go_wp2_with fail
        go_ret
        exact ⟨by rw [HI.out]; rfl, HB2.out⟩
    · have HI := Lib.hid (idxI_none (p := p) (l := xs) (fun j hj => Hno.out j (by rw [Hn.out] at hj; omega)))
      go_wp2_with fail
      go_ret
      exact ⟨by rw [HI.out]; rfl, HB.out⟩

theorem containsHs_ok (gf : Nat) (lb : Array Value) (p : HSt → Bool) (a : Option Addr) (n cap : Nat) (xs : List HSt) (w : World) (hn : xs.length = n) (hl : n ≤ 9223372036854775807) (hm : RowsAt w.heap.size w a 2 (Hss xs))
    (hp : ∀ W x, Below w.heap.size w W → Calls Tryz.prog gf (#[x.val] ++ lb) W fun e W' => e = .returned (.bool (p x)) ∧ Below W.heap.size W W')
    (eg : ∀ args w, (callFunc gf args).run Tryz.prog w = .ok (.enter gf args) w) :
    Calls Tryz.prog 48 #[.slice a n cap, .func (.func gf) #[] lb] w fun e W' => e = .returned (.bool (xs.any p)) ∧ Below w.heap.size w W' := by
  have Hn := Lib.hid hn; clear hn
  have Hm := Lib.hid hm; clear hm
  have Hp := Lib.hid hp; clear hp
  have Eg := Lib.hid eg; clear eg
  rw [← idxI_any]
  go_enter Tryz.func48, Tryz.ntmps48
  go_wp2_with fail
  refine (indexHs_ok gf lb p a n cap xs w Hn.out hl Hm.out Hp.out Eg.out).mono ?_
  rintro e W2 ⟨rfl, hb2⟩
  have HB := Lib.hid hb2; clear hb2
  go_wp2_with fail
  go_ret
  exact ⟨rfl, HB.out⟩

structure Rep where
  svc : Int
  host : Int
  deriving DecidableEq, Inhabited
abbrev Rep.cells (x : Rep) : List Value := [.int .i64 x.svc, .int .i64 x.host]
abbrev Rep.val (x : Rep) : Value := .agg x.cells.toArray
abbrev Rps (xs : List Rep) : List (List Value) := xs.map Rep.cells
theorem rps_at {n : Nat} {w : World} {a : Option Addr} {xs : List Rep} (h : RowsAt n w a 2 (Rps xs)) (k : Nat) (hk : k < xs.length) :
    ∃ b off, a = some ⟨b, off, none⟩ ∧ b < n ∧ w.cell? ⟨b, off + k * 2, none⟩ = some (.int .i64 (xs.getD k default).svc) ∧ w.cell? ⟨b, off + k * 2 + 1, none⟩ = some (.int .i64 (xs.getD k default).host) := by
  obtain ⟨b, off, ha, hb, hc⟩ := h k (xs.getD k default).cells (by simp [hk])
  exact ⟨b, off, ha, hb, hc 0 _ rfl, hc 1 _ rfl⟩

set_option maxHeartbeats 1000000 in
theorem indexRp_ok (gf : Nat) (lb : Array Value) (p : Rep → Bool) (a : Option Addr) (n cap : Nat) (xs : List Rep) (w : World) (hn : xs.length = n) (hl : n ≤ 9223372036854775807) (hm : RowsAt w.heap.size w a 2 (Rps xs))
    (hp : ∀ W x, Below w.heap.size w W → Calls Tryz.prog gf (#[x.val] ++ lb) W fun e W' => e = .returned (.bool (p x)) ∧ Below W.heap.size W W')
    (eg : ∀ args w, (callFunc gf args).run Tryz.prog w = .ok (.enter gf args) w) :
    Calls Tryz.prog 90 #[.slice a n cap, .func (.func gf) #[] lb] w fun e W' => e = .returned (.int .i64 (idxI p xs)) ∧ Below w.heap.size w W' := by
  have Hn := Lib.hid hn; clear hn
  have Hm := Lib.hid hm; clear hm
  have Hp := Lib.hid hp; clear hp
  have Eg := Lib.hid eg; clear eg
  go_enter Tryz.func90, Tryz.ntmps90
  go_wp2_with fail
  go_loopw [8] (fun i wr => ∃ k : Nat, k ≤ n ∧ i = .int .i64 k ∧ Below w.heap.size w wr ∧ Hid (∀ j, j < k → p (xs.getD j default) = false)) (fun i _ => n - (intOf i).toNat)
  case atStart => exact ⟨0, Nat.zero_le _, rfl, below_self w, fun j hj => by omega⟩
  case round =>
    obtain ⟨k, hk, rfl, hb, Hno⟩ := hrel
    have HB := Lib.hid hb; clear hb
    by_cases hlt : k < n
    · obtain ⟨b, off, rfl, hb, hc0, hc1⟩ := rps_at (Hm.out.below HB.out) k (by rw [Hn.out]; exact hlt)
      have eg := Eg.out
      go_wp2_with fail
      refine (Hp.out _ (xs.getD k default) HB.out).mono ?_
      rintro e W2 ⟨rfl, hb2⟩
      have HB2 := Lib.hid (below_trans HB.out hb2)
      clear hb2 hc0 hc1 eg HB
      cases hpx : p (xs.getD k default)
      · have HN := Lib.hid (no_succ Hno.out hpx)
        clear hpx
        go_wp2_with fail
        go_roundw
        case rel => exact ⟨k + 1, by omega, by go_num, HB2.out, HN⟩
        case measure => simp [intOf]; omega
      · have HI := Lib.hid (idxI_found (by rw [Hn.out]; exact hlt) hpx Hno.out)
        clear hpx
        go_wp2_with fail
        go_ret
        exact ⟨by rw [HI.out]; rfl, HB2.out⟩
    · have HI := Lib.hid (idxI_none (p := p) (l := xs) (fun j hj => Hno.out j (by rw [Hn.out] at hj; omega)))
      go_wp2_with fail
      go_ret
      exact ⟨by rw [HI.out]; rfl, HB.out⟩

theorem containsRp_ok (gf : Nat) (lb : Array Value) (p : Rep → Bool) (a : Option Addr) (n cap : Nat) (xs : List Rep) (w : World) (hn : xs.length = n) (hl : n ≤ 9223372036854775807) (hm : RowsAt w.heap.size w a 2 (Rps xs))
    (hp : ∀ W x, Below w.heap.size w W → Calls Tryz.prog gf (#[x.val] ++ lb) W fun e W' => e = .returned (.bool (p x)) ∧ Below W.heap.size W W')
    (eg : ∀ args w, (callFunc gf args).run Tryz.prog w = .ok (.enter gf args) w) :
    Calls Tryz.prog 49 #[.slice a n cap, .func (.func gf) #[] lb] w fun e W' => e = .returned (.bool (xs.any p)) ∧ Below w.heap.size w W' := by
  have Hn := Lib.hid hn; clear hn
  have Hm := Lib.hid hm; clear hm
  have Hp := Lib.hid hp; clear hp
  have Eg := Lib.hid eg; clear eg
  rw [← idxI_any]
  go_enter Tryz.func49, Tryz.ntmps49
  go_wp2_with fail
  refine (indexRp_ok gf lb p a n cap xs w Hn.out hl Hm.out Hp.out Eg.out).mono ?_
  rintro e W2 ⟨rfl, hb2⟩
  have HB := Lib.hid hb2; clear hb2
  go_wp2_with fail
  go_ret
  exact ⟨rfl, HB.out⟩

structure Near where
  svc : Int
  lat : Int
  deriving DecidableEq, Inhabited
abbrev Near.cells (x : Near) : List Value := [.int .i64 x.svc, .int .i64 x.lat]
abbrev Near.val (x : Near) : Value := .agg x.cells.toArray
abbrev Nrs (xs : List Near) : List (List Value) := xs.map Near.cells
theorem nrs_at {n : Nat} {w : World} {a : Option Addr} {xs : List Near} (h : RowsAt n w a 2 (Nrs xs)) (k : Nat) (hk : k < xs.length) :
    ∃ b off, a = some ⟨b, off, none⟩ ∧ b < n ∧ w.cell? ⟨b, off + k * 2, none⟩ = some (.int .i64 (xs.getD k default).svc) ∧ w.cell? ⟨b, off + k * 2 + 1, none⟩ = some (.int .i64 (xs.getD k default).lat) := by
  obtain ⟨b, off, ha, hb, hc⟩ := h k (xs.getD k default).cells (by simp [hk])
  exact ⟨b, off, ha, hb, hc 0 _ rfl, hc 1 _ rfl⟩

set_option maxHeartbeats 1000000 in
theorem indexNr_ok (gf : Nat) (lb : Array Value) (p : Near → Bool) (a : Option Addr) (n cap : Nat) (xs : List Near) (w : World) (hn : xs.length = n) (hl : n ≤ 9223372036854775807) (hm : RowsAt w.heap.size w a 2 (Nrs xs))
    (hp : ∀ W x, Below w.heap.size w W → Calls Tryz.prog gf (#[x.val] ++ lb) W fun e W' => e = .returned (.bool (p x)) ∧ Below W.heap.size W W')
    (eg : ∀ args w, (callFunc gf args).run Tryz.prog w = .ok (.enter gf args) w) :
    Calls Tryz.prog 109 #[.slice a n cap, .func (.func gf) #[] lb] w fun e W' => e = .returned (.int .i64 (idxI p xs)) ∧ Below w.heap.size w W' := by
  have Hn := Lib.hid hn; clear hn
  have Hm := Lib.hid hm; clear hm
  have Hp := Lib.hid hp; clear hp
  have Eg := Lib.hid eg; clear eg
  go_enter Tryz.func109, Tryz.ntmps109
  go_wp2_with fail
  go_loopw [8] (fun i wr => ∃ k : Nat, k ≤ n ∧ i = .int .i64 k ∧ Below w.heap.size w wr ∧ Hid (∀ j, j < k → p (xs.getD j default) = false)) (fun i _ => n - (intOf i).toNat)
  case atStart => exact ⟨0, Nat.zero_le _, rfl, below_self w, fun j hj => by omega⟩
  case round =>
    obtain ⟨k, hk, rfl, hb, Hno⟩ := hrel
    have HB := Lib.hid hb; clear hb
    by_cases hlt : k < n
    · obtain ⟨b, off, rfl, hb, hc0, hc1⟩ := nrs_at (Hm.out.below HB.out) k (by rw [Hn.out]; exact hlt)
      have eg := Eg.out
      go_wp2_with fail
      refine (Hp.out _ (xs.getD k default) HB.out).mono ?_
      rintro e W2 ⟨rfl, hb2⟩
      have HB2 := Lib.hid (below_trans HB.out hb2)
      clear hb2 hc0 hc1 eg HB
      cases hpx : p (xs.getD k default)
      · have HN := Lib.hid (no_succ Hno.out hpx)
        clear hpx
        go_wp2_with fail
        go_roundw
        case rel => exact ⟨k + 1, by omega, by go_num, HB2.out, HN⟩
        case measure => simp [intOf]; omega
      · have HI := Lib.hid (idxI_found (by rw [Hn.out]; exact hlt) hpx Hno.out)
        clear hpx
        go_wp2_with fail
        go_ret
        exact ⟨by rw [HI.out]; rfl, HB2.out⟩
    · have HI := Lib.hid (idxI_none (p := p) (l := xs) (fun j hj => Hno.out j (by rw [Hn.out] at hj; omega)))
      go_wp2_with fail
      go_ret
      exact ⟨by rw [HI.out]; rfl, HB.out⟩

theorem containsNr_ok (gf : Nat) (lb : Array Value) (p : Near → Bool) (a : Option Addr) (n cap : Nat) (xs : List Near) (w : World) (hn : xs.length = n) (hl : n ≤ 9223372036854775807) (hm : RowsAt w.heap.size w a 2 (Nrs xs))
    (hp : ∀ W x, Below w.heap.size w W → Calls Tryz.prog gf (#[x.val] ++ lb) W fun e W' => e = .returned (.bool (p x)) ∧ Below W.heap.size W W')
    (eg : ∀ args w, (callFunc gf args).run Tryz.prog w = .ok (.enter gf args) w) :
    Calls Tryz.prog 86 #[.slice a n cap, .func (.func gf) #[] lb] w fun e W' => e = .returned (.bool (xs.any p)) ∧ Below w.heap.size w W' := by
  have Hn := Lib.hid hn; clear hn
  have Hm := Lib.hid hm; clear hm
  have Hp := Lib.hid hp; clear hp
  have Eg := Lib.hid eg; clear eg
  rw [← idxI_any]
  go_enter Tryz.func86, Tryz.ntmps86
  go_wp2_with fail
  refine (indexNr_ok gf lb p a n cap xs w Hn.out hl Hm.out Hp.out Eg.out).mono ?_
  rintro e W2 ⟨rfl, hb2⟩
  have HB := Lib.hid hb2; clear hb2
  go_wp2_with fail
  go_ret
  exact ⟨rfl, HB.out⟩

end Go.Proofs.YthlefdbhkbpejaaGreat
