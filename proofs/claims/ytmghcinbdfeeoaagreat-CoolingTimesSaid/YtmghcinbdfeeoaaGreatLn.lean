/- Chapter 06: lines, parts and inputs as data; IndexFunc and ContainsFunc over them; the program's small functions. -/
import Derived.Test.YtmghcinbdfeeoaaGreatInts
namespace Go.Proofs.YtmghcinbdfeeoaaGreat
open Go Go.RowKit

structure Prt where
  src : Int
  times : Int
  delay : Int
  deriving DecidableEq, Inhabited
abbrev Prt.cells (x : Prt) : List Value := [.int .i64 x.src, .int .i64 x.times, .int .i64 x.delay]
abbrev Prt.val (x : Prt) : Value := .agg x.cells.toArray
abbrev Prts (xs : List Prt) : List (List Value) := xs.map Prt.cells
theorem prts_at {n : Nat} {w : World} {a : Option Addr} {xs : List Prt} (h : RowsAt n w a 3 (Prts xs)) (k : Nat) (hk : k < xs.length) :
    ∃ b off, a = some ⟨b, off, none⟩ ∧ b < n ∧ w.cell? ⟨b, off + k * 3, none⟩ = some (.int .i64 (xs.getD k default).src) ∧ w.cell? ⟨b, off + k * 3 + 1, none⟩ = some (.int .i64 (xs.getD k default).times) ∧ w.cell? ⟨b, off + k * 3 + 2, none⟩ = some (.int .i64 (xs.getD k default).delay) := by
  obtain ⟨b, off, ha, hb, hc⟩ := h k (xs.getD k default).cells (by simp [hk])
  exact ⟨b, off, ha, hb, hc 0 _ rfl, hc 1 _ rfl, hc 2 _ rfl⟩
/-- A slice as a cell holds it. -/
abbrev Hd : Type := Option Addr × Nat × Nat
abbrev Hd.val (h : Hd) : Value := .slice h.1 h.2.1 h.2.2
abbrev Hds (hs : List Hd) : List (List Value) := hs.map fun h => [h.val]
/-- The slice at a reads as the lists ins; hs: the slices themselves. -/
structure InsAt (n : Nat) (w : World) (a : Option Addr) (hs : List Hd) (ins : List (List Int)) : Prop where
  len : hs.length = ins.length
  rows : RowsAt n w a 1 (Hds hs)
  at' : ∀ i, i < ins.length → (ins.getD i default).length = (hs.getD i default).2.1 ∧ (hs.getD i default).2.1 ≤ 9223372036854775807 ∧ RowsAt n w (hs.getD i default).1 1 (Ints (ins.getD i default))
theorem InsAt.below {n : Nat} {w w' : World} {a : Option Addr} {hs : List Hd} {ins : List (List Int)} (h : InsAt n w a hs ins) (hb : Below n w w') : InsAt n w' a hs ins :=
  ⟨h.len, h.rows.below hb, fun i hi => ⟨(h.at' i hi).1, (h.at' i hi).2.1, (h.at' i hi).2.2.below hb⟩⟩
theorem InsAt.later {w w' : World} {a : Option Addr} {hs : List Hd} {ins : List (List Int)} (h : InsAt w.heap.size w a hs ins) (hb : Below w.heap.size w w') : InsAt w'.heap.size w' a hs ins :=
  ⟨h.len, h.rows.later hb, fun i hi => ⟨(h.at' i hi).1, (h.at' i hi).2.1, (h.at' i hi).2.2.later hb⟩⟩
theorem hds_at {n : Nat} {w : World} {a : Option Addr} {hs : List Hd} (h : RowsAt n w a 1 (Hds hs)) (k : Nat) (hk : k < hs.length) :
    ∃ b off, a = some ⟨b, off, none⟩ ∧ b < n ∧ w.cell? ⟨b, off + k, none⟩ = some (hs.getD k default).val := by
  obtain ⟨b, off, ha, hb, hc⟩ := h k [(hs.getD k default).val] (by simp [hk])
  exact ⟨b, off, ha, hb, by simpa using hc 0 _ rfl⟩

def inR (n lo hi : Int) : Bool := decide (lo ≤ n ∧ n ≤ hi)
theorem inR_iff {n lo hi : Int} : inR n lo hi = true ↔ lo ≤ n ∧ n ≤ hi := by simp [inR]
theorem inR_not {n lo hi : Int} : inR n lo hi = false ↔ ¬ (lo ≤ n ∧ n ≤ hi) := by simp [inR]
def okP (x : Prt) : Bool := inR x.src 0 15 && inR x.times 0 1000 && inR x.delay 0 1000
def okX (x : Int) : Bool := inR x 0 100000000
def okL (carry : Int) (ps : List Prt) : Bool := inR carry 0 100000000 && decide (ps.length ≤ 16) && ps.all okP
def badList (l : List Int) : Bool := decide (1000 < l.length) || l.any (fun x => !okX x)
def askedE (carry : Int) (ps : List Prt) (start : Int) (ins : List (List Int)) (n : Int) : Int :=
  if okL carry ps = true then (if inR start 0 100000000 = true ∧ inR n 0 1000 = true ∧ ins.length ≤ 16 ∧ ins.any badList = false then 0 else 2) else 1


set_option maxHeartbeats 1000000 in
theorem indexP_ok (gf : Nat) (lb : Array Value) (p : Prt → Bool) (a : Option Addr) (n cap : Nat) (xs : List Prt) (w : World) (hn : xs.length = n) (hl : n ≤ 9223372036854775807) (hm : RowsAt w.heap.size w a 3 (Prts xs))
    (hp : ∀ W x, Below w.heap.size w W → Calls Tryz.prog gf (#[x.val] ++ lb) W fun e W' => e = .returned (.bool (p x)) ∧ Below W.heap.size W W')
    (eg : ∀ args w, (callFunc gf args).run Tryz.prog w = .ok (.enter gf args) w) :
    Calls Tryz.prog 110 #[.slice a n cap, .func (.func gf) #[] lb] w fun e W' => e = .returned (.int .i64 (idxI p xs)) ∧ Below w.heap.size w W' := by
  have Hn := Lib.hid hn; clear hn
  have Hm := Lib.hid hm; clear hm
  have Hp := Lib.hid hp; clear hp
  have Eg := Lib.hid eg; clear eg
  go_enter Tryz.func110, Tryz.ntmps110
  go_wp2_with fail
  go_loopw [8] (fun i wr => ∃ k : Nat, k ≤ n ∧ i = .int .i64 k ∧ Below w.heap.size w wr ∧ Hid (∀ j, j < k → p (xs.getD j default) = false)) (fun i _ => n - (intOf i).toNat)
  case atStart => exact ⟨0, Nat.zero_le _, rfl, below_self w, fun j hj => by omega⟩
  case round =>
    obtain ⟨k, hk, rfl, hb, Hno⟩ := hrel
    have HB := Lib.hid hb; clear hb
    by_cases hlt : k < n
    · obtain ⟨b, off, rfl, hb, hc0, hc1, hc2⟩ := prts_at (Hm.out.below HB.out) k (by rw [Hn.out]; exact hlt)
      have eg := Eg.out
      go_wp2_with fail
      refine (Hp.out _ (xs.getD k default) HB.out).mono ?_
      rintro e W2 ⟨rfl, hb2⟩
      have HB2 := Lib.hid (below_trans HB.out hb2)
      clear hb2 hc0 hc1 hc2 eg HB
      cases hpx : p (xs.getD k default)
      · have HN := Lib.hid (no_succ Hno.out hpx)
        clear hpx
        go_wp2_with fail
        go_roundw
        case rel => exact ⟨k + 1, by omega, by go_num, HB2.out, HN⟩
        case measure => simp [intOf]; omega
      · have HI := Lib.hid (idxI_found (by rw [Hn.out]; exact hlt) hpx Hno.out)
        clear hpx
        go_wp2_with fail
        go_ret
        exact ⟨by rw [HI.out]; rfl, HB2.out⟩
    · have HI := Lib.hid (idxI_none (p := p) (l := xs) (fun j hj => Hno.out j (by rw [Hn.out] at hj; omega)))
      go_wp2_with fail
      go_ret
      exact ⟨by rw [HI.out]; rfl, HB.out⟩

theorem containsP_ok (gf : Nat) (lb : Array Value) (p : Prt → Bool) (a : Option Addr) (n cap : Nat) (xs : List Prt) (w : World) (hn : xs.length = n) (hl : n ≤ 9223372036854775807) (hm : RowsAt w.heap.size w a 3 (Prts xs))
    (hp : ∀ W x, Below w.heap.size w W → Calls Tryz.prog gf (#[x.val] ++ lb) W fun e W' => e = .returned (.bool (p x)) ∧ Below W.heap.size W W')
    (eg : ∀ args w, (callFunc gf args).run Tryz.prog w = .ok (.enter gf args) w) :
    Calls Tryz.prog 107 #[.slice a n cap, .func (.func gf) #[] lb] w fun e W' => e = .returned (.bool (xs.any p)) ∧ Below w.heap.size w W' := by
  have Hn := Lib.hid hn; clear hn
  have Hm := Lib.hid hm; clear hm
  have Hp := Lib.hid hp; clear hp
  have Eg := Lib.hid eg; clear eg
  rw [← idxI_any]
  go_enter Tryz.func107, Tryz.ntmps107
  go_wp2_with fail
  refine (indexP_ok gf lb p a n cap xs w Hn.out hl Hm.out Hp.out Eg.out).mono ?_
  rintro e W2 ⟨rfl, hb2⟩
  have HB := Lib.hid hb2; clear hb2
  go_wp2_with fail
  go_ret
  exact ⟨rfl, HB.out⟩


set_option maxHeartbeats 1000000 in
theorem indexL_ok (gf : Nat) (lb : Array Value) (p : List Int → Bool) (a : Option Addr) (n cap : Nat) (hs : List Hd) (xs : List (List Int)) (w : World) (hn : xs.length = n) (hl : n ≤ 9223372036854775807) (hm : InsAt w.heap.size w a hs xs)
    (hp : ∀ W i, i < xs.length → Below w.heap.size w W → Calls Tryz.prog gf (#[(hs.getD i default).val] ++ lb) W fun e W' => e = .returned (.bool (p (xs.getD i default))) ∧ Below W.heap.size W W')
    (eg : ∀ args w, (callFunc gf args).run Tryz.prog w = .ok (.enter gf args) w) :
    Calls Tryz.prog 109 #[.slice a n cap, .func (.func gf) #[] lb] w fun e W' => e = .returned (.int .i64 (idxI p xs)) ∧ Below w.heap.size w W' := by
  have Hn := Lib.hid hn; clear hn
  have Hm := Lib.hid hm; clear hm
  have Hp := Lib.hid hp; clear hp
  have Eg := Lib.hid eg; clear eg
  go_enter Tryz.func109, Tryz.ntmps109
  go_wp2_with fail
  go_loopw [8] (fun i wr => ∃ k : Nat, k ≤ n ∧ i = .int .i64 k ∧ Below w.heap.size w wr ∧ Hid (∀ j, j < k → p (xs.getD j default) = false)) (fun i _ => n - (intOf i).toNat)
  case atStart => exact ⟨0, Nat.zero_le _, rfl, below_self w, fun j hj => by omega⟩
  case round =>
    obtain ⟨k, hk, rfl, hb, Hno⟩ := hrel
    have HB := Lib.hid hb; clear hb
    by_cases hlt : k < n
    · obtain ⟨b, off, rfl, hb, hc0⟩ := hds_at (Hm.out.below HB.out).rows k (by rw [Hm.out.len, Hn.out]; exact hlt)
      have eg := Eg.out
      go_wp2_with fail
      refine (Hp.out _ k (by rw [Hn.out]; exact hlt) HB.out).mono ?_
      rintro e W2 ⟨rfl, hb2⟩
      have HB2 := Lib.hid (below_trans HB.out hb2)
      clear hb2 hc0 eg HB
      cases hpx : p (xs.getD k default)
      · have HN := Lib.hid (no_succ Hno.out hpx)
        clear hpx
        go_wp2_with fail
        go_roundw
        case rel => exact ⟨k + 1, by omega, by go_num, HB2.out, HN⟩
        case measure => simp [intOf]; omega
      · have HI := Lib.hid (idxI_found (by rw [Hn.out]; exact hlt) hpx Hno.out)
        clear hpx
        go_wp2_with fail
        go_ret
        exact ⟨by rw [HI.out]; rfl, HB2.out⟩
    · have HI := Lib.hid (idxI_none (p := p) (l := xs) (fun j hj => Hno.out j (by rw [Hn.out] at hj; omega)))
      go_wp2_with fail
      go_ret
      exact ⟨by rw [HI.out]; rfl, HB.out⟩

theorem containsL_ok (gf : Nat) (lb : Array Value) (p : List Int → Bool) (a : Option Addr) (n cap : Nat) (hs : List Hd) (xs : List (List Int)) (w : World) (hn : xs.length = n) (hl : n ≤ 9223372036854775807) (hm : InsAt w.heap.size w a hs xs)
    (hp : ∀ W i, i < xs.length → Below w.heap.size w W → Calls Tryz.prog gf (#[(hs.getD i default).val] ++ lb) W fun e W' => e = .returned (.bool (p (xs.getD i default))) ∧ Below W.heap.size W W')
    (eg : ∀ args w, (callFunc gf args).run Tryz.prog w = .ok (.enter gf args) w) :
    Calls Tryz.prog 101 #[.slice a n cap, .func (.func gf) #[] lb] w fun e W' => e = .returned (.bool (xs.any p)) ∧ Below w.heap.size w W' := by
  have Hn := Lib.hid hn; clear hn
  have Hm := Lib.hid hm; clear hm
  have Hp := Lib.hid hp; clear hp
  have Eg := Lib.hid eg; clear eg
  rw [← idxI_any]
  go_enter Tryz.func101, Tryz.ntmps101
  go_wp2_with fail
  refine (indexL_ok gf lb p a n cap hs xs w Hn.out hl Hm.out Hp.out Eg.out).mono ?_
  rintro e W2 ⟨rfl, hb2⟩
  have HB := Lib.hid hb2; clear hb2
  go_wp2_with fail
  go_ret
  exact ⟨rfl, HB.out⟩

end Go.Proofs.YtmghcinbdfeeoaaGreat
