/- Chapter 15: how the laws' arguments are read (written by wip/gen15types.py). -/
import Derived.Test.YthlefdbhkbpejaaOpen
import Derived.Test.YthlefdbhkbpejaaWorld
import Derived.WalkKit
namespace Go.Proofs.Ythlefdbhkbpejaa
open Go Go.RowKit Go.Deep Go.ChangeShapes Go.WideShapes Go.ChangeAt Go.Joins
section
variable {H : Type} {enc : TypeId × Value → H} {P : Program} {w : World} {base : Nat} {spare : Nat → Bool} {held : Bool}
theorem trod_struct7 {t : TypeId} {f0 f1 f2 f3 f4 f5 f6 : Field} {fuel : Nat} {cs : List Value} {x : DataW H × List MemPlace} (ht : P.underlying t = some (.struct #[f0, f1, f2, f3, f4, f5, f6])) (h : DataW.trod enc P w base spare held fuel t cs = some x) :
    ∃ y0 y1 y2 y3 y4 y5 y6 n, cs.length = P.cellsOf t ∧ DataW.trod enc P w base spare held n f0.type ((cs.drop f0.offset).take (P.cellsOf f0.type)) = some y0 ∧ DataW.trod enc P w base spare held n f1.type ((cs.drop f1.offset).take (P.cellsOf f1.type)) = some y1 ∧ DataW.trod enc P w base spare held n f2.type ((cs.drop f2.offset).take (P.cellsOf f2.type)) = some y2 ∧ DataW.trod enc P w base spare held n f3.type ((cs.drop f3.offset).take (P.cellsOf f3.type)) = some y3 ∧ DataW.trod enc P w base spare held n f4.type ((cs.drop f4.offset).take (P.cellsOf f4.type)) = some y4 ∧ DataW.trod enc P w base spare held n f5.type ((cs.drop f5.offset).take (P.cellsOf f5.type)) = some y5 ∧ DataW.trod enc P w base spare held n f6.type ((cs.drop f6.offset).take (P.cellsOf f6.type)) = some y6 := by
  obtain ⟨xs, n, _, rfl, hl, hlen, hf⟩ := DataW.trod_struct ht h
  match xs, hlen with
  | [y0, y1, y2, y3, y4, y5, y6], _ => exact ⟨y0, y1, y2, y3, y4, y5, y6, n, hl, by simpa using hf 0 f0 rfl, by simpa using hf 1 f1 rfl, by simpa using hf 2 f2 rfl, by simpa using hf 3 f3 rfl, by simpa using hf 4 f4 rfl, by simpa using hf 5 f5 rfl, by simpa using hf 6 f6 rfl⟩
theorem trod_struct8 {t : TypeId} {f0 f1 f2 f3 f4 f5 f6 f7 : Field} {fuel : Nat} {cs : List Value} {x : DataW H × List MemPlace} (ht : P.underlying t = some (.struct #[f0, f1, f2, f3, f4, f5, f6, f7])) (h : DataW.trod enc P w base spare held fuel t cs = some x) :
    ∃ y0 y1 y2 y3 y4 y5 y6 y7 n, cs.length = P.cellsOf t ∧ DataW.trod enc P w base spare held n f0.type ((cs.drop f0.offset).take (P.cellsOf f0.type)) = some y0 ∧ DataW.trod enc P w base spare held n f1.type ((cs.drop f1.offset).take (P.cellsOf f1.type)) = some y1 ∧ DataW.trod enc P w base spare held n f2.type ((cs.drop f2.offset).take (P.cellsOf f2.type)) = some y2 ∧ DataW.trod enc P w base spare held n f3.type ((cs.drop f3.offset).take (P.cellsOf f3.type)) = some y3 ∧ DataW.trod enc P w base spare held n f4.type ((cs.drop f4.offset).take (P.cellsOf f4.type)) = some y4 ∧ DataW.trod enc P w base spare held n f5.type ((cs.drop f5.offset).take (P.cellsOf f5.type)) = some y5 ∧ DataW.trod enc P w base spare held n f6.type ((cs.drop f6.offset).take (P.cellsOf f6.type)) = some y6 ∧ DataW.trod enc P w base spare held n f7.type ((cs.drop f7.offset).take (P.cellsOf f7.type)) = some y7 := by
  obtain ⟨xs, n, _, rfl, hl, hlen, hf⟩ := DataW.trod_struct ht h
  match xs, hlen with
  | [y0, y1, y2, y3, y4, y5, y6, y7], _ => exact ⟨y0, y1, y2, y3, y4, y5, y6, y7, n, hl, by simpa using hf 0 f0 rfl, by simpa using hf 1 f1 rfl, by simpa using hf 2 f2 rfl, by simpa using hf 3 f3 rfl, by simpa using hf 4 f4 rfl, by simpa using hf 5 f5 rfl, by simpa using hf 6 f6 rfl, by simpa using hf 7 f7 rfl⟩
end
variable {H : Type} {enc : TypeId × Value → H} {w : World} {base : Nat} {spare : Nat → Bool} {held : Bool}
theorem coint : Try.prog.cellsOf 3 = 1 := by kernel_rfl
theorem coLint : Try.prog.cellsOf 74 = 1 := by kernel_rfl
theorem coPhase : Try.prog.cellsOf 42 = 1 := by kernel_rfl
theorem coDomain : Try.prog.cellsOf 73 = 1 := by kernel_rfl
theorem coLNear : Try.prog.cellsOf 75 = 1 := by kernel_rfl
theorem coLService : Try.prog.cellsOf 30 = 1 := by kernel_rfl
theorem coLHostState : Try.prog.cellsOf 33 = 1 := by kernel_rfl
theorem coLReplica : Try.prog.cellsOf 34 = 1 := by kernel_rfl
theorem coLFeed : Try.prog.cellsOf 22 = 1 := by kernel_rfl
theorem coLBreaker : Try.prog.cellsOf 23 = 1 := by kernel_rfl
theorem coLLoop : Try.prog.cellsOf 24 = 1 := by kernel_rfl
theorem coLRack : Try.prog.cellsOf 25 = 1 := by kernel_rfl
theorem coLLink : Try.prog.cellsOf 26 = 1 := by kernel_rfl
theorem coLHost : Try.prog.cellsOf 27 = 1 := by kernel_rfl
theorem len1 {cs : List Value} (h : cs.length = 1) : ∃ c0, cs = [c0] := by
  match cs, h with
  | [c0], _ => exact ⟨_, rfl⟩
theorem len2 {cs : List Value} (h : cs.length = 2) : ∃ c0 c1, cs = [c0, c1] := by
  match cs, h with
  | [c0, c1], _ => exact ⟨_, _, rfl⟩
theorem len3 {cs : List Value} (h : cs.length = 3) : ∃ c0 c1 c2, cs = [c0, c1, c2] := by
  match cs, h with
  | [c0, c1, c2], _ => exact ⟨_, _, _, rfl⟩
theorem len4 {cs : List Value} (h : cs.length = 4) : ∃ c0 c1 c2 c3, cs = [c0, c1, c2, c3] := by
  match cs, h with
  | [c0, c1, c2, c3], _ => exact ⟨_, _, _, _, rfl⟩
theorem len7 {cs : List Value} (h : cs.length = 7) : ∃ c0 c1 c2 c3 c4 c5 c6, cs = [c0, c1, c2, c3, c4, c5, c6] := by
  match cs, h with
  | [c0, c1, c2, c3, c4, c5, c6], _ => exact ⟨_, _, _, _, _, _, _, rfl⟩
theorem len8 {cs : List Value} (h : cs.length = 8) : ∃ c0 c1 c2 c3 c4 c5 c6 c7, cs = [c0, c1, c2, c3, c4, c5, c6, c7] := by
  match cs, h with
  | [c0, c1, c2, c3, c4, c5, c6, c7], _ => exact ⟨_, _, _, _, _, _, _, _, rfl⟩
theorem coFeed : Try.prog.cellsOf 55 = 1 := by kernel_rfl
theorem rd_fd (n : Nat) (cs : List Value) (y : DataW H × List MemPlace) (h : DataW.trod enc Try.prog w base spare held n 55 cs = some y) : ∃ m : Feed, cs = m.cells ∧ True := by
  obtain ⟨y0, n1, rfl, hl, h0⟩ := trod_struct1 Try.underlying55 h
  rw [coFeed] at hl
  obtain ⟨c0, rfl⟩ := len1 hl
  rw [coint] at h0
  obtain ⟨x0, e0, _, _⟩ := DataW.trod_int Try.underlying3 h0
  refine ⟨⟨x0⟩, ?_, trivial⟩
  simp at e0
  simp [e0]
theorem rd_fds {n : Nat} {cs : List Value} {y : DataW H × List MemPlace} (h : DataW.trod enc Try.prog w base spare held n 22 cs = some y) : ∃ (a : Hd) (xs : List Feed), cs = [.slice a.1 a.2.1 a.2.2] ∧ Reads w a 1 xs.length (Fds xs) := by
  obtain ⟨a, k, cap, zs, h1, h2, h3, h4, h5, h6, _⟩ := rd_flat (α := Feed) Feed.cells Try.underlying22 coFeed (by omega) (fun _ => True) rd_fd h
  exact ⟨(a, k, cap), zs, h1, ⟨h2, ⟨h3, h4, h5⟩, h6⟩⟩
theorem coBreaker : Try.prog.cellsOf 53 = 4 := by kernel_rfl
theorem rd_bk (n : Nat) (cs : List Value) (y : DataW H × List MemPlace) (h : DataW.trod enc Try.prog w base spare held n 53 cs = some y) : ∃ m : Bkr, cs = m.cells ∧ True := by
  obtain ⟨y0, y1, y2, y3, n1, rfl, hl, h0, h1, h2, h3⟩ := trod_struct4 Try.underlying53 h
  rw [coBreaker] at hl
  obtain ⟨c0, c1, c2, c3, rfl⟩ := len4 hl
  rw [coint] at h0
  rw [coint] at h1
  rw [coint] at h2
  rw [coint] at h3
  obtain ⟨x0, e0, _, _⟩ := DataW.trod_int Try.underlying3 h0
  obtain ⟨x1, e1, _, _⟩ := DataW.trod_int Try.underlying3 h1
  obtain ⟨x2, e2, _, _⟩ := DataW.trod_int Try.underlying3 h2
  obtain ⟨x3, e3, _, _⟩ := DataW.trod_int Try.underlying3 h3
  refine ⟨⟨x0, x1, x2, x3⟩, ?_, trivial⟩
  simp at e0 e1 e2 e3
  simp [e0, e1, e2, e3]
theorem rd_bks {n : Nat} {cs : List Value} {y : DataW H × List MemPlace} (h : DataW.trod enc Try.prog w base spare held n 23 cs = some y) : ∃ (a : Hd) (xs : List Bkr), cs = [.slice a.1 a.2.1 a.2.2] ∧ Reads w a 4 xs.length (Bks xs) := by
  obtain ⟨a, k, cap, zs, h1, h2, h3, h4, h5, h6, _⟩ := rd_flat (α := Bkr) Bkr.cells Try.underlying23 coBreaker (by omega) (fun _ => True) rd_bk h
  exact ⟨(a, k, cap), zs, h1, ⟨h2, ⟨h3, h4, h5⟩, h6⟩⟩
theorem coLoop : Try.prog.cellsOf 72 = 2 := by kernel_rfl
theorem rd_lp (n : Nat) (cs : List Value) (y : DataW H × List MemPlace) (h : DataW.trod enc Try.prog w base spare held n 72 cs = some y) : ∃ m : Loop, cs = m.cells ∧ True := by
  obtain ⟨y0, y1, n1, rfl, hl, h0, h1⟩ := trod_struct2 Try.underlying72 h
  rw [coLoop] at hl
  obtain ⟨c0, c1, rfl⟩ := len2 hl
  rw [coint] at h0
  rw [coint] at h1
  obtain ⟨x0, e0, _, _⟩ := DataW.trod_int Try.underlying3 h0
  obtain ⟨x1, e1, _, _⟩ := DataW.trod_int Try.underlying3 h1
  refine ⟨⟨x0, x1⟩, ?_, trivial⟩
  simp at e0 e1
  simp [e0, e1]
theorem rd_lps {n : Nat} {cs : List Value} {y : DataW H × List MemPlace} (h : DataW.trod enc Try.prog w base spare held n 24 cs = some y) : ∃ (a : Hd) (xs : List Loop), cs = [.slice a.1 a.2.1 a.2.2] ∧ Reads w a 2 xs.length (Lps xs) := by
  obtain ⟨a, k, cap, zs, h1, h2, h3, h4, h5, h6, _⟩ := rd_flat (α := Loop) Loop.cells Try.underlying24 coLoop (by omega) (fun _ => True) rd_lp h
  exact ⟨(a, k, cap), zs, h1, ⟨h2, ⟨h3, h4, h5⟩, h6⟩⟩
theorem coRack : Try.prog.cellsOf 66 = 4 := by kernel_rfl
theorem rd_rk (n : Nat) (cs : List Value) (y : DataW H × List MemPlace) (h : DataW.trod enc Try.prog w base spare held n 66 cs = some y) : ∃ m : Rack, cs = m.cells ∧ True := by
  obtain ⟨y0, y1, y2, y3, n1, rfl, hl, h0, h1, h2, h3⟩ := trod_struct4 Try.underlying66 h
  rw [coRack] at hl
  obtain ⟨c0, c1, c2, c3, rfl⟩ := len4 hl
  rw [coint] at h0
  rw [coint] at h1
  rw [coint] at h2
  rw [coint] at h3
  obtain ⟨x0, e0, _, _⟩ := DataW.trod_int Try.underlying3 h0
  obtain ⟨x1, e1, _, _⟩ := DataW.trod_int Try.underlying3 h1
  obtain ⟨x2, e2, _, _⟩ := DataW.trod_int Try.underlying3 h2
  obtain ⟨x3, e3, _, _⟩ := DataW.trod_int Try.underlying3 h3
  refine ⟨⟨x0, x1, x2, x3⟩, ?_, trivial⟩
  simp at e0 e1 e2 e3
  simp [e0, e1, e2, e3]
theorem rd_rks {n : Nat} {cs : List Value} {y : DataW H × List MemPlace} (h : DataW.trod enc Try.prog w base spare held n 25 cs = some y) : ∃ (a : Hd) (xs : List Rack), cs = [.slice a.1 a.2.1 a.2.2] ∧ Reads w a 4 xs.length (Rks xs) := by
  obtain ⟨a, k, cap, zs, h1, h2, h3, h4, h5, h6, _⟩ := rd_flat (α := Rack) Rack.cells Try.underlying25 coRack (by omega) (fun _ => True) rd_rk h
  exact ⟨(a, k, cap), zs, h1, ⟨h2, ⟨h3, h4, h5⟩, h6⟩⟩
theorem coLink : Try.prog.cellsOf 99 = 3 := by kernel_rfl
theorem rd_lk (n : Nat) (cs : List Value) (y : DataW H × List MemPlace) (h : DataW.trod enc Try.prog w base spare held n 99 cs = some y) : ∃ m : Link, cs = m.cells ∧ True := by
  obtain ⟨y0, y1, y2, n1, rfl, hl, h0, h1, h2⟩ := trod_struct3 Try.underlying99 h
  rw [coLink] at hl
  obtain ⟨c0, c1, c2, rfl⟩ := len3 hl
  rw [coint] at h0
  rw [coint] at h1
  rw [coint] at h2
  obtain ⟨x0, e0, _, _⟩ := DataW.trod_int Try.underlying3 h0
  obtain ⟨x1, e1, _, _⟩ := DataW.trod_int Try.underlying3 h1
  obtain ⟨x2, e2, _, _⟩ := DataW.trod_int Try.underlying3 h2
  refine ⟨⟨x0, x1, x2⟩, ?_, trivial⟩
  simp at e0 e1 e2
  simp [e0, e1, e2]
theorem rd_lks {n : Nat} {cs : List Value} {y : DataW H × List MemPlace} (h : DataW.trod enc Try.prog w base spare held n 26 cs = some y) : ∃ (a : Hd) (xs : List Link), cs = [.slice a.1 a.2.1 a.2.2] ∧ Reads w a 3 xs.length (Lks xs) := by
  obtain ⟨a, k, cap, zs, h1, h2, h3, h4, h5, h6, _⟩ := rd_flat (α := Link) Link.cells Try.underlying26 coLink (by omega) (fun _ => True) rd_lk h
  exact ⟨(a, k, cap), zs, h1, ⟨h2, ⟨h3, h4, h5⟩, h6⟩⟩
theorem coHost : Try.prog.cellsOf 64 = 4 := by kernel_rfl
theorem rd_ho (n : Nat) (cs : List Value) (y : DataW H × List MemPlace) (h : DataW.trod enc Try.prog w base spare held n 64 cs = some y) : ∃ m : Host, cs = m.cells ∧ True := by
  obtain ⟨y0, y1, y2, y3, n1, rfl, hl, h0, h1, h2, h3⟩ := trod_struct4 Try.underlying64 h
  rw [coHost] at hl
  obtain ⟨c0, c1, c2, c3, rfl⟩ := len4 hl
  rw [coint] at h0
  rw [coint] at h1
  rw [coint] at h2
  rw [coint] at h3
  obtain ⟨x0, e0, _, _⟩ := DataW.trod_int Try.underlying3 h0
  obtain ⟨x1, e1, _, _⟩ := DataW.trod_int Try.underlying3 h1
  obtain ⟨x2, e2, _, _⟩ := DataW.trod_int Try.underlying3 h2
  obtain ⟨x3, e3, _, _⟩ := DataW.trod_int Try.underlying3 h3
  refine ⟨⟨x0, x1, x2, x3⟩, ?_, trivial⟩
  simp at e0 e1 e2 e3
  simp [e0, e1, e2, e3]
theorem rd_hos {n : Nat} {cs : List Value} {y : DataW H × List MemPlace} (h : DataW.trod enc Try.prog w base spare held n 27 cs = some y) : ∃ (a : Hd) (xs : List Host), cs = [.slice a.1 a.2.1 a.2.2] ∧ Reads w a 4 xs.length (Hos xs) := by
  obtain ⟨a, k, cap, zs, h1, h2, h3, h4, h5, h6, _⟩ := rd_flat (α := Host) Host.cells Try.underlying27 coHost (by omega) (fun _ => True) rd_ho h
  exact ⟨(a, k, cap), zs, h1, ⟨h2, ⟨h3, h4, h5⟩, h6⟩⟩
theorem coHostState : Try.prog.cellsOf 44 = 2 := by kernel_rfl
theorem rd_hs (n : Nat) (cs : List Value) (y : DataW H × List MemPlace) (h : DataW.trod enc Try.prog w base spare held n 44 cs = some y) : ∃ m : HSt, cs = m.cells ∧ True := by
  obtain ⟨y0, y1, n1, rfl, hl, h0, h1⟩ := trod_struct2 Try.underlying44 h
  rw [coHostState] at hl
  obtain ⟨c0, c1, rfl⟩ := len2 hl
  rw [coPhase] at h0
  rw [coint] at h1
  obtain ⟨x0, e0, _, _⟩ := DataW.trod_int Try.underlying42 h0
  obtain ⟨x1, e1, _, _⟩ := DataW.trod_int Try.underlying3 h1
  refine ⟨⟨x0, x1⟩, ?_, trivial⟩
  simp at e0 e1
  simp [e0, e1]
theorem rd_hss {n : Nat} {cs : List Value} {y : DataW H × List MemPlace} (h : DataW.trod enc Try.prog w base spare held n 33 cs = some y) : ∃ (a : Hd) (xs : List HSt), cs = [.slice a.1 a.2.1 a.2.2] ∧ Reads w a 2 xs.length (Hss xs) := by
  obtain ⟨a, k, cap, zs, h1, h2, h3, h4, h5, h6, _⟩ := rd_flat (α := HSt) HSt.cells Try.underlying33 coHostState (by omega) (fun _ => True) rd_hs h
  exact ⟨(a, k, cap), zs, h1, ⟨h2, ⟨h3, h4, h5⟩, h6⟩⟩
theorem coReplica : Try.prog.cellsOf 60 = 2 := by kernel_rfl
theorem rd_rp (n : Nat) (cs : List Value) (y : DataW H × List MemPlace) (h : DataW.trod enc Try.prog w base spare held n 60 cs = some y) : ∃ m : Rep, cs = m.cells ∧ True := by
  obtain ⟨y0, y1, n1, rfl, hl, h0, h1⟩ := trod_struct2 Try.underlying60 h
  rw [coReplica] at hl
  obtain ⟨c0, c1, rfl⟩ := len2 hl
  rw [coint] at h0
  rw [coint] at h1
  obtain ⟨x0, e0, _, _⟩ := DataW.trod_int Try.underlying3 h0
  obtain ⟨x1, e1, _, _⟩ := DataW.trod_int Try.underlying3 h1
  refine ⟨⟨x0, x1⟩, ?_, trivial⟩
  simp at e0 e1
  simp [e0, e1]
theorem rd_rps {n : Nat} {cs : List Value} {y : DataW H × List MemPlace} (h : DataW.trod enc Try.prog w base spare held n 34 cs = some y) : ∃ (a : Hd) (xs : List Rep), cs = [.slice a.1 a.2.1 a.2.2] ∧ Reads w a 2 xs.length (Rps xs) := by
  obtain ⟨a, k, cap, zs, h1, h2, h3, h4, h5, h6, _⟩ := rd_flat (α := Rep) Rep.cells Try.underlying34 coReplica (by omega) (fun _ => True) rd_rp h
  exact ⟨(a, k, cap), zs, h1, ⟨h2, ⟨h3, h4, h5⟩, h6⟩⟩
theorem coNear : Try.prog.cellsOf 101 = 2 := by kernel_rfl
theorem rd_nr (n : Nat) (cs : List Value) (y : DataW H × List MemPlace) (h : DataW.trod enc Try.prog w base spare held n 101 cs = some y) : ∃ m : Near, cs = m.cells ∧ True := by
  obtain ⟨y0, y1, n1, rfl, hl, h0, h1⟩ := trod_struct2 Try.underlying101 h
  rw [coNear] at hl
  obtain ⟨c0, c1, rfl⟩ := len2 hl
  rw [coint] at h0
  rw [coint] at h1
  obtain ⟨x0, e0, _, _⟩ := DataW.trod_int Try.underlying3 h0
  obtain ⟨x1, e1, _, _⟩ := DataW.trod_int Try.underlying3 h1
  refine ⟨⟨x0, x1⟩, ?_, trivial⟩
  simp at e0 e1
  simp [e0, e1]
theorem rd_nrs {n : Nat} {cs : List Value} {y : DataW H × List MemPlace} (h : DataW.trod enc Try.prog w base spare held n 75 cs = some y) : ∃ (a : Hd) (xs : List Near), cs = [.slice a.1 a.2.1 a.2.2] ∧ Reads w a 2 xs.length (Nrs xs) := by
  obtain ⟨a, k, cap, zs, h1, h2, h3, h4, h5, h6, _⟩ := rd_flat (α := Near) Near.cells Try.underlying75 coNear (by omega) (fun _ => True) rd_nr h
  exact ⟨(a, k, cap), zs, h1, ⟨h2, ⟨h3, h4, h5⟩, h6⟩⟩
theorem rd_ints {n : Nat} {cs : List Value} {y : DataW H × List MemPlace} (h : DataW.trod enc Try.prog w base spare held n 74 cs = some y) :
    ∃ a k cap, ∃ zs : List Int, cs = [.slice a k cap] ∧ zs.length = k ∧ k ≤ cap ∧ cap ≤ maxLen ∧ (a = none → k = 0 ∧ cap = 0) ∧ RowsAt w.heap.size w a 1 (Ints zs) := by
  obtain ⟨a, k, cap, zs, h1, h2, h3, h4, h5, h6, _⟩ := rd_flat (α := Int) (fun z => [.int .i64 z]) Try.underlying74 coint (by omega) (fun _ => True) (fun n cs y h => by
    obtain ⟨z, e, _, _⟩ := DataW.trod_int Try.underlying3 h
    exact ⟨z, e, trivial⟩) h
  exact ⟨a, k, cap, zs, h1, h2, h3, h4, h5, h6⟩
theorem rd_intsR {n : Nat} {cs : List Value} {y : DataW H × List MemPlace} (h : DataW.trod enc Try.prog w base spare held n 74 cs = some y) :
    ∃ (a : Hd) (zs : List Int), cs = [.slice a.1 a.2.1 a.2.2] ∧ Reads w a 1 zs.length (Ints zs) := by
  obtain ⟨a, k, cap, zs, h1, h2, h3, h4, h5, h6⟩ := rd_ints h
  exact ⟨(a, k, cap), zs, h1, ⟨h2, ⟨h3, h4, h5⟩, h6⟩⟩
theorem coSite : Try.prog.cellsOf 29 = 7 := by kernel_rfl
theorem coService : Try.prog.cellsOf 77 = 8 := by kernel_rfl
theorem coWish : Try.prog.cellsOf 32 = 1 := by kernel_rfl
theorem coWorld : Try.prog.cellsOf 36 = 2 := by kernel_rfl
theorem rd_site (n : Nat) (cs : List Value) (y : DataW H × List MemPlace) (h : DataW.trod enc Try.prog w base spare held n 29 cs = some y) : ∃ m : Site, cs = m.cells ∧ m.At w := by
  obtain ⟨y0, y1, y2, y3, y4, y5, y6, n1, hl, h0, h1, h2, h3, h4, h5, h6⟩ := trod_struct7 Try.underlying29 h
  rw [coSite] at hl
  obtain ⟨c0, c1, c2, c3, c4, c5, c6, rfl⟩ := len7 hl
  rw [coLFeed] at h0; rw [coLBreaker] at h1; rw [coLLoop] at h2; rw [coLRack] at h3; rw [coint] at h4; rw [coLLink] at h5; rw [coLHost] at h6
  simp at h0 h1 h2 h3 h4 h5 h6
  obtain ⟨a0, z0, e0, r0⟩ := rd_fds h0
  obtain ⟨a1, z1, e1, r1⟩ := rd_bks h1
  obtain ⟨a2, z2, e2, r2⟩ := rd_lps h2
  obtain ⟨a3, z3, e3, r3⟩ := rd_rks h3
  obtain ⟨x4, e4, _, _⟩ := DataW.trod_int Try.underlying3 h4
  obtain ⟨a5, z5, e5, r5⟩ := rd_lks h5
  obtain ⟨a6, z6, e6, r6⟩ := rd_hos h6
  simp at e0 e1 e2 e3 e4 e5 e6
  refine ⟨⟨z0, a0, z1, a1, z2, a2, z3, a3, z5, a5, z6, a6, x4⟩, ?_, ⟨r0, r1, r2, r3, r5, r6⟩⟩
  simp [e0, e1, e2, e3, e4, e5, e6]
theorem rd_svc (n : Nat) (cs : List Value) (y : DataW H × List MemPlace) (h : DataW.trod enc Try.prog w base spare held n 77 cs = some y) : ∃ m : Svc, cs = m.cells ∧ m.At w := by
  obtain ⟨y0, y1, y2, y3, y4, y5, y6, y7, n1, hl, h0, h1, h2, h3, h4, h5, h6, h7⟩ := trod_struct8 Try.underlying77 h
  rw [coService] at hl
  obtain ⟨c0, c1, c2, c3, c4, c5, c6, c7, rfl⟩ := len8 hl
  rw [coint] at h0 h1 h2 h4 h7; rw [coDomain] at h3; rw [coLint] at h5; rw [coLNear] at h6
  simp at h0 h1 h2 h3 h4 h5 h6 h7
  obtain ⟨x0, e0, _, _⟩ := DataW.trod_int Try.underlying3 h0
  obtain ⟨x1, e1, _, _⟩ := DataW.trod_int Try.underlying3 h1
  obtain ⟨x2, e2, _, _⟩ := DataW.trod_int Try.underlying3 h2
  obtain ⟨x3, e3, _, _⟩ := DataW.trod_int Try.underlying73 h3
  obtain ⟨x4, e4, _, _⟩ := DataW.trod_int Try.underlying3 h4
  obtain ⟨a5, z5, e5, r5⟩ := rd_intsR h5
  obtain ⟨a6, z6, e6, r6⟩ := rd_nrs h6
  obtain ⟨x7, e7, _, _⟩ := DataW.trod_int Try.underlying3 h7
  simp at e0 e1 e2 e3 e4 e5 e6 e7
  refine ⟨⟨x0, x1, x2, x3, x4, z5, a5, z6, a6, x7⟩, ?_, ⟨r5, r6⟩⟩
  simp [e0, e1, e2, e3, e4, e5, e6, e7]
theorem rd_wish (n : Nat) (cs : List Value) (y : DataW H × List MemPlace) (h : DataW.trod enc Try.prog w base spare held n 32 cs = some y) : ∃ m : Wish, cs = m.cells ∧ m.At w := by
  obtain ⟨y0, n1, rfl, hl, h0⟩ := trod_struct1 Try.underlying32 h
  rw [coWish] at hl
  obtain ⟨c0, rfl⟩ := len1 hl
  rw [coLService] at h0
  simp at h0
  obtain ⟨a, k, cap, ms, rows, e0, g1, g2, g3, g4, g5, g6, g7⟩ := rd_slice (α := Svc) Try.underlying30 coService (by omega) (R := fun cs m => cs = m.cells ∧ m.At w) rd_svc h0
  simp at e0
  have hrows : rows = Svs ms := by
    apply List.ext_getElem (by simp [g1, g2])
    intro i hi1 hi2
    have := (g7 i (by omega)).1
    simpa [List.getD, List.getElem?_eq_getElem hi1, List.getElem?_eq_getElem (show i < ms.length by simpa using hi2)] using this
  refine ⟨⟨ms, (a, k, cap)⟩, by simp [e0], ⟨⟨g1, ⟨g3, g4, g5⟩, hrows ▸ g6⟩, fun i hi => (g7 i (by rw [← g1]; exact hi)).2⟩⟩
theorem rd_world (n : Nat) (cs : List Value) (y : DataW H × List MemPlace) (h : DataW.trod enc Try.prog w base spare held n 36 cs = some y) : ∃ m : Wld, cs = m.cells ∧ m.At w := by
  obtain ⟨y0, y1, n1, rfl, hl, h0, h1⟩ := trod_struct2 Try.underlying36 h
  rw [coWorld] at hl
  obtain ⟨c0, c1, rfl⟩ := len2 hl
  rw [coLHostState] at h0; rw [coLReplica] at h1
  simp at h0 h1
  obtain ⟨a0, z0, e0, r0⟩ := rd_hss h0
  obtain ⟨a1, z1, e1, r1⟩ := rd_rps h1
  simp at e0 e1
  refine ⟨⟨z0, a0, z1, a1⟩, ?_, ⟨r0, r1⟩⟩
  simp [e0, e1]
end Go.Proofs.Ythlefdbhkbpejaa
