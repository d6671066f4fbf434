/- Chapter 15: how the laws' arguments are read (written by wip/gen15types.py). -/
import Derived.Test.YthlefdbhkbpejaaGreatOpen
import Derived.Test.YthlefdbhkbpejaaGreatWorld
import Derived.WalkKit
namespace Go.Proofs.YthlefdbhkbpejaaGreat
open Go Go.RowKit Go.Deep Go.ChangeShapes Go.WideShapes Go.ChangeAt Go.Joins
section
variable {H : Type} {enc : TypeId × Value → H} {P : Program} {w : World} {base : Nat} {spare : Nat → Bool} {held : Bool}
theorem trod_struct7 {t : TypeId} {f0 f1 f2 f3 f4 f5 f6 : Field} {fuel : Nat} {cs : List Value} {x : DataW H × List MemPlace} (ht : P.underlying t = some (.struct #[f0, f1, f2, f3, f4, f5, f6])) (h : DataW.trod enc P w base spare held fuel t cs = some x) :
    ∃ y0 y1 y2 y3 y4 y5 y6 n, cs.length = P.cellsOf t ∧ DataW.trod enc P w base spare held n f0.type ((cs.drop f0.offset).take (P.cellsOf f0.type)) = some y0 ∧ DataW.trod enc P w base spare held n f1.type ((cs.drop f1.offset).take (P.cellsOf f1.type)) = some y1 ∧ DataW.trod enc P w base spare held n f2.type ((cs.drop f2.offset).take (P.cellsOf f2.type)) = some y2 ∧ DataW.trod enc P w base spare held n f3.type ((cs.drop f3.offset).take (P.cellsOf f3.type)) = some y3 ∧ DataW.trod enc P w base spare held n f4.type ((cs.drop f4.offset).take (P.cellsOf f4.type)) = some y4 ∧ DataW.trod enc P w base spare held n f5.type ((cs.drop f5.offset).take (P.cellsOf f5.type)) = some y5 ∧ DataW.trod enc P w base spare held n f6.type ((cs.drop f6.offset).take (P.cellsOf f6.type)) = some y6 := by
  obtain ⟨xs, n, _, rfl, hl, hlen, hf⟩ := DataW.trod_struct ht h
  match xs, hlen with
  | [y0, y1, y2, y3, y4, y5, y6], _ => exact ⟨y0, y1, y2, y3, y4, y5, y6, n, hl, by simpa using hf 0 f0 rfl, by simpa using hf 1 f1 rfl, by simpa using hf 2 f2 rfl, by simpa using hf 3 f3 rfl, by simpa using hf 4 f4 rfl, by simpa using hf 5 f5 rfl, by simpa using hf 6 f6 rfl⟩
theorem trod_struct8 {t : TypeId} {f0 f1 f2 f3 f4 f5 f6 f7 : Field} {fuel : Nat} {cs : List Value} {x : DataW H × List MemPlace} (ht : P.underlying t = some (.struct #[f0, f1, f2, f3, f4, f5, f6, f7])) (h : DataW.trod enc P w base spare held fuel t cs = some x) :
    ∃ y0 y1 y2 y3 y4 y5 y6 y7 n, cs.length = P.cellsOf t ∧ DataW.trod enc P w base spare held n f0.type ((cs.drop f0.offset).take (P.cellsOf f0.type)) = some y0 ∧ DataW.trod enc P w base spare held n f1.type ((cs.drop f1.offset).take (P.cellsOf f1.type)) = some y1 ∧ DataW.trod enc P w base spare held n f2.type ((cs.drop f2.offset).take (P.cellsOf f2.type)) = some y2 ∧ DataW.trod enc P w base spare held n f3.type ((cs.drop f3.offset).take (P.cellsOf f3.type)) = some y3 ∧ DataW.trod enc P w base spare held n f4.type ((cs.drop f4.offset).take (P.cellsOf f4.type)) = some y4 ∧ DataW.trod enc P w base spare held n f5.type ((cs.drop f5.offset).take (P.cellsOf f5.type)) = some y5 ∧ DataW.trod enc P w base spare held n f6.type ((cs.drop f6.offset).take (P.cellsOf f6.type)) = some y6 ∧ DataW.trod enc P w base spare held n f7.type ((cs.drop f7.offset).take (P.cellsOf f7.type)) = some y7 := by
  obtain ⟨xs, n, _, rfl, hl, hlen, hf⟩ := DataW.trod_struct ht h
  match xs, hlen with
  | [y0, y1, y2, y3, y4, y5, y6, y7], _ => exact ⟨y0, y1, y2, y3, y4, y5, y6, y7, n, hl, by simpa using hf 0 f0 rfl, by simpa using hf 1 f1 rfl, by simpa using hf 2 f2 rfl, by simpa using hf 3 f3 rfl, by simpa using hf 4 f4 rfl, by simpa using hf 5 f5 rfl, by simpa using hf 6 f6 rfl, by simpa using hf 7 f7 rfl⟩
end
variable {H : Type} {enc : TypeId × Value → H} {w : World} {base : Nat} {spare : Nat → Bool} {held : Bool}
theorem coint : Tryz.prog.cellsOf 3 = 1 := by kernel_rfl
theorem coLint : Tryz.prog.cellsOf 68 = 1 := by kernel_rfl
theorem coPhase : Tryz.prog.cellsOf 52 = 1 := by kernel_rfl
theorem coDomain : Tryz.prog.cellsOf 76 = 1 := by kernel_rfl
theorem coLNear : Tryz.prog.cellsOf 77 = 1 := by kernel_rfl
theorem coLService : Tryz.prog.cellsOf 30 = 1 := by kernel_rfl
theorem coLHostState : Tryz.prog.cellsOf 33 = 1 := by kernel_rfl
theorem coLReplica : Tryz.prog.cellsOf 34 = 1 := by kernel_rfl
theorem coLFeed : Tryz.prog.cellsOf 22 = 1 := by kernel_rfl
theorem coLBreaker : Tryz.prog.cellsOf 23 = 1 := by kernel_rfl
theorem coLLoop : Tryz.prog.cellsOf 24 = 1 := by kernel_rfl
theorem coLRack : Tryz.prog.cellsOf 25 = 1 := by kernel_rfl
theorem coLLink : Tryz.prog.cellsOf 26 = 1 := by kernel_rfl
theorem coLHost : Tryz.prog.cellsOf 27 = 1 := by kernel_rfl
theorem len1 {cs : List Value} (h : cs.length = 1) : ∃ c0, cs = [c0] := by
  match cs, h with
  | [c0], _ => exact ⟨_, rfl⟩
theorem len2 {cs : List Value} (h : cs.length = 2) : ∃ c0 c1, cs = [c0, c1] := by
  match cs, h with
  | [c0, c1], _ => exact ⟨_, _, rfl⟩
theorem len3 {cs : List Value} (h : cs.length = 3) : ∃ c0 c1 c2, cs = [c0, c1, c2] := by
  match cs, h with
  | [c0, c1, c2], _ => exact ⟨_, _, _, rfl⟩
theorem len4 {cs : List Value} (h : cs.length = 4) : ∃ c0 c1 c2 c3, cs = [c0, c1, c2, c3] := by
  match cs, h with
  | [c0, c1, c2, c3], _ => exact ⟨_, _, _, _, rfl⟩
theorem len7 {cs : List Value} (h : cs.length = 7) : ∃ c0 c1 c2 c3 c4 c5 c6, cs = [c0, c1, c2, c3, c4, c5, c6] := by
  match cs, h with
  | [c0, c1, c2, c3, c4, c5, c6], _ => exact ⟨_, _, _, _, _, _, _, rfl⟩
theorem len8 {cs : List Value} (h : cs.length = 8) : ∃ c0 c1 c2 c3 c4 c5 c6 c7, cs = [c0, c1, c2, c3, c4, c5, c6, c7] := by
  match cs, h with
  | [c0, c1, c2, c3, c4, c5, c6, c7], _ => exact ⟨_, _, _, _, _, _, _, _, rfl⟩
theorem coFeed : Tryz.prog.cellsOf 65 = 1 := by kernel_rfl
theorem rd_fd (n : Nat) (cs : List Value) (y : DataW H × List MemPlace) (h : DataW.trod enc Tryz.prog w base spare held n 65 cs = some y) : ∃ m : Feed, cs = m.cells ∧ True := by
  obtain ⟨y0, n1, rfl, hl, h0⟩ := trod_struct1 Tryz.underlying65 h
  rw [coFeed] at hl
  obtain ⟨c0, rfl⟩ := len1 hl
  rw [coint] at h0
  obtain ⟨x0, e0, _, _⟩ := DataW.trod_int Tryz.underlying3 h0
  refine ⟨⟨x0⟩, ?_, trivial⟩
  simp at e0
  simp [e0]
theorem rd_fds {n : Nat} {cs : List Value} {y : DataW H × List MemPlace} (h : DataW.trod enc Tryz.prog w base spare held n 22 cs = some y) : ∃ (a : Hd) (xs : List Feed), cs = [.slice a.1 a.2.1 a.2.2] ∧ Reads w a 1 xs.length (Fds xs) := by
  obtain ⟨a, k, cap, zs, h1, h2, h3, h4, h5, h6, _⟩ := rd_flat (α := Feed) Feed.cells Tryz.underlying22 coFeed (by omega) (fun _ => True) rd_fd h
  exact ⟨(a, k, cap), zs, h1, ⟨h2, ⟨h3, h4, h5⟩, h6⟩⟩
theorem coBreaker : Tryz.prog.cellsOf 61 = 4 := by kernel_rfl
theorem rd_bk (n : Nat) (cs : List Value) (y : DataW H × List MemPlace) (h : DataW.trod enc Tryz.prog w base spare held n 61 cs = some y) : ∃ m : Bkr, cs = m.cells ∧ True := by
  obtain ⟨y0, y1, y2, y3, n1, rfl, hl, h0, h1, h2, h3⟩ := trod_struct4 Tryz.underlying61 h
  rw [coBreaker] at hl
  obtain ⟨c0, c1, c2, c3, rfl⟩ := len4 hl
  rw [coint] at h0
  rw [coint] at h1
  rw [coint] at h2
  rw [coint] at h3
  obtain ⟨x0, e0, _, _⟩ := DataW.trod_int Tryz.underlying3 h0
  obtain ⟨x1, e1, _, _⟩ := DataW.trod_int Tryz.underlying3 h1
  obtain ⟨x2, e2, _, _⟩ := DataW.trod_int Tryz.underlying3 h2
  obtain ⟨x3, e3, _, _⟩ := DataW.trod_int Tryz.underlying3 h3
  refine ⟨⟨x0, x1, x2, x3⟩, ?_, trivial⟩
  simp at e0 e1 e2 e3
  simp [e0, e1, e2, e3]
theorem rd_bks {n : Nat} {cs : List Value} {y : DataW H × List MemPlace} (h : DataW.trod enc Tryz.prog w base spare held n 23 cs = some y) : ∃ (a : Hd) (xs : List Bkr), cs = [.slice a.1 a.2.1 a.2.2] ∧ Reads w a 4 xs.length (Bks xs) := by
  obtain ⟨a, k, cap, zs, h1, h2, h3, h4, h5, h6, _⟩ := rd_flat (α := Bkr) Bkr.cells Tryz.underlying23 coBreaker (by omega) (fun _ => True) rd_bk h
  exact ⟨(a, k, cap), zs, h1, ⟨h2, ⟨h3, h4, h5⟩, h6⟩⟩
theorem coLoop : Tryz.prog.cellsOf 75 = 2 := by kernel_rfl
theorem rd_lp (n : Nat) (cs : List Value) (y : DataW H × List MemPlace) (h : DataW.trod enc Tryz.prog w base spare held n 75 cs = some y) : ∃ m : Loop, cs = m.cells ∧ True := by
  obtain ⟨y0, y1, n1, rfl, hl, h0, h1⟩ := trod_struct2 Tryz.underlying75 h
  rw [coLoop] at hl
  obtain ⟨c0, c1, rfl⟩ := len2 hl
  rw [coint] at h0
  rw [coint] at h1
  obtain ⟨x0, e0, _, _⟩ := DataW.trod_int Tryz.underlying3 h0
  obtain ⟨x1, e1, _, _⟩ := DataW.trod_int Tryz.underlying3 h1
  refine ⟨⟨x0, x1⟩, ?_, trivial⟩
  simp at e0 e1
  simp [e0, e1]
theorem rd_lps {n : Nat} {cs : List Value} {y : DataW H × List MemPlace} (h : DataW.trod enc Tryz.prog w base spare held n 24 cs = some y) : ∃ (a : Hd) (xs : List Loop), cs = [.slice a.1 a.2.1 a.2.2] ∧ Reads w a 2 xs.length (Lps xs) := by
  obtain ⟨a, k, cap, zs, h1, h2, h3, h4, h5, h6, _⟩ := rd_flat (α := Loop) Loop.cells Tryz.underlying24 coLoop (by omega) (fun _ => True) rd_lp h
  exact ⟨(a, k, cap), zs, h1, ⟨h2, ⟨h3, h4, h5⟩, h6⟩⟩
theorem coRack : Tryz.prog.cellsOf 59 = 4 := by kernel_rfl
theorem rd_rk (n : Nat) (cs : List Value) (y : DataW H × List MemPlace) (h : DataW.trod enc Tryz.prog w base spare held n 59 cs = some y) : ∃ m : Rack, cs = m.cells ∧ True := by
  obtain ⟨y0, y1, y2, y3, n1, rfl, hl, h0, h1, h2, h3⟩ := trod_struct4 Tryz.underlying59 h
  rw [coRack] at hl
  obtain ⟨c0, c1, c2, c3, rfl⟩ := len4 hl
  rw [coint] at h0
  rw [coint] at h1
  rw [coint] at h2
  rw [coint] at h3
  obtain ⟨x0, e0, _, _⟩ := DataW.trod_int Tryz.underlying3 h0
  obtain ⟨x1, e1, _, _⟩ := DataW.trod_int Tryz.underlying3 h1
  obtain ⟨x2, e2, _, _⟩ := DataW.trod_int Tryz.underlying3 h2
  obtain ⟨x3, e3, _, _⟩ := DataW.trod_int Tryz.underlying3 h3
  refine ⟨⟨x0, x1, x2, x3⟩, ?_, trivial⟩
  simp at e0 e1 e2 e3
  simp [e0, e1, e2, e3]
theorem rd_rks {n : Nat} {cs : List Value} {y : DataW H × List MemPlace} (h : DataW.trod enc Tryz.prog w base spare held n 25 cs = some y) : ∃ (a : Hd) (xs : List Rack), cs = [.slice a.1 a.2.1 a.2.2] ∧ Reads w a 4 xs.length (Rks xs) := by
  obtain ⟨a, k, cap, zs, h1, h2, h3, h4, h5, h6, _⟩ := rd_flat (α := Rack) Rack.cells Tryz.underlying25 coRack (by omega) (fun _ => True) rd_rk h
  exact ⟨(a, k, cap), zs, h1, ⟨h2, ⟨h3, h4, h5⟩, h6⟩⟩
theorem coLink : Tryz.prog.cellsOf 112 = 3 := by kernel_rfl
theorem rd_lk (n : Nat) (cs : List Value) (y : DataW H × List MemPlace) (h : DataW.trod enc Tryz.prog w base spare held n 112 cs = some y) : ∃ m : Link, cs = m.cells ∧ True := by
  obtain ⟨y0, y1, y2, n1, rfl, hl, h0, h1, h2⟩ := trod_struct3 Tryz.underlying112 h
  rw [coLink] at hl
  obtain ⟨c0, c1, c2, rfl⟩ := len3 hl
  rw [coint] at h0
  rw [coint] at h1
  rw [coint] at h2
  obtain ⟨x0, e0, _, _⟩ := DataW.trod_int Tryz.underlying3 h0
  obtain ⟨x1, e1, _, _⟩ := DataW.trod_int Tryz.underlying3 h1
  obtain ⟨x2, e2, _, _⟩ := DataW.trod_int Tryz.underlying3 h2
  refine ⟨⟨x0, x1, x2⟩, ?_, trivial⟩
  simp at e0 e1 e2
  simp [e0, e1, e2]
theorem rd_lks {n : Nat} {cs : List Value} {y : DataW H × List MemPlace} (h : DataW.trod enc Tryz.prog w base spare held n 26 cs = some y) : ∃ (a : Hd) (xs : List Link), cs = [.slice a.1 a.2.1 a.2.2] ∧ Reads w a 3 xs.length (Lks xs) := by
  obtain ⟨a, k, cap, zs, h1, h2, h3, h4, h5, h6, _⟩ := rd_flat (α := Link) Link.cells Tryz.underlying26 coLink (by omega) (fun _ => True) rd_lk h
  exact ⟨(a, k, cap), zs, h1, ⟨h2, ⟨h3, h4, h5⟩, h6⟩⟩
theorem coHost : Tryz.prog.cellsOf 56 = 4 := by kernel_rfl
theorem rd_ho (n : Nat) (cs : List Value) (y : DataW H × List MemPlace) (h : DataW.trod enc Tryz.prog w base spare held n 56 cs = some y) : ∃ m : Host, cs = m.cells ∧ True := by
  obtain ⟨y0, y1, y2, y3, n1, rfl, hl, h0, h1, h2, h3⟩ := trod_struct4 Tryz.underlying56 h
  rw [coHost] at hl
  obtain ⟨c0, c1, c2, c3, rfl⟩ := len4 hl
  rw [coint] at h0
  rw [coint] at h1
  rw [coint] at h2
  rw [coint] at h3
  obtain ⟨x0, e0, _, _⟩ := DataW.trod_int Tryz.underlying3 h0
  obtain ⟨x1, e1, _, _⟩ := DataW.trod_int Tryz.underlying3 h1
  obtain ⟨x2, e2, _, _⟩ := DataW.trod_int Tryz.underlying3 h2
  obtain ⟨x3, e3, _, _⟩ := DataW.trod_int Tryz.underlying3 h3
  refine ⟨⟨x0, x1, x2, x3⟩, ?_, trivial⟩
  simp at e0 e1 e2 e3
  simp [e0, e1, e2, e3]
theorem rd_hos {n : Nat} {cs : List Value} {y : DataW H × List MemPlace} (h : DataW.trod enc Tryz.prog w base spare held n 27 cs = some y) : ∃ (a : Hd) (xs : List Host), cs = [.slice a.1 a.2.1 a.2.2] ∧ Reads w a 4 xs.length (Hos xs) := by
  obtain ⟨a, k, cap, zs, h1, h2, h3, h4, h5, h6, _⟩ := rd_flat (α := Host) Host.cells Tryz.underlying27 coHost (by omega) (fun _ => True) rd_ho h
  exact ⟨(a, k, cap), zs, h1, ⟨h2, ⟨h3, h4, h5⟩, h6⟩⟩
theorem coHostState : Tryz.prog.cellsOf 54 = 2 := by kernel_rfl
theorem rd_hs (n : Nat) (cs : List Value) (y : DataW H × List MemPlace) (h : DataW.trod enc Tryz.prog w base spare held n 54 cs = some y) : ∃ m : HSt, cs = m.cells ∧ True := by
  obtain ⟨y0, y1, n1, rfl, hl, h0, h1⟩ := trod_struct2 Tryz.underlying54 h
  rw [coHostState] at hl
  obtain ⟨c0, c1, rfl⟩ := len2 hl
  rw [coPhase] at h0
  rw [coint] at h1
  obtain ⟨x0, e0, _, _⟩ := DataW.trod_int Tryz.underlying52 h0
  obtain ⟨x1, e1, _, _⟩ := DataW.trod_int Tryz.underlying3 h1
  refine ⟨⟨x0, x1⟩, ?_, trivial⟩
  simp at e0 e1
  simp [e0, e1]
theorem rd_hss {n : Nat} {cs : List Value} {y : DataW H × List MemPlace} (h : DataW.trod enc Tryz.prog w base spare held n 33 cs = some y) : ∃ (a : Hd) (xs : List HSt), cs = [.slice a.1 a.2.1 a.2.2] ∧ Reads w a 2 xs.length (Hss xs) := by
  obtain ⟨a, k, cap, zs, h1, h2, h3, h4, h5, h6, _⟩ := rd_flat (α := HSt) HSt.cells Tryz.underlying33 coHostState (by omega) (fun _ => True) rd_hs h
  exact ⟨(a, k, cap), zs, h1, ⟨h2, ⟨h3, h4, h5⟩, h6⟩⟩
theorem coReplica : Tryz.prog.cellsOf 81 = 2 := by kernel_rfl
theorem rd_rp (n : Nat) (cs : List Value) (y : DataW H × List MemPlace) (h : DataW.trod enc Tryz.prog w base spare held n 81 cs = some y) : ∃ m : Rep, cs = m.cells ∧ True := by
  obtain ⟨y0, y1, n1, rfl, hl, h0, h1⟩ := trod_struct2 Tryz.underlying81 h
  rw [coReplica] at hl
  obtain ⟨c0, c1, rfl⟩ := len2 hl
  rw [coint] at h0
  rw [coint] at h1
  obtain ⟨x0, e0, _, _⟩ := DataW.trod_int Tryz.underlying3 h0
  obtain ⟨x1, e1, _, _⟩ := DataW.trod_int Tryz.underlying3 h1
  refine ⟨⟨x0, x1⟩, ?_, trivial⟩
  simp at e0 e1
  simp [e0, e1]
theorem rd_rps {n : Nat} {cs : List Value} {y : DataW H × List MemPlace} (h : DataW.trod enc Tryz.prog w base spare held n 34 cs = some y) : ∃ (a : Hd) (xs : List Rep), cs = [.slice a.1 a.2.1 a.2.2] ∧ Reads w a 2 xs.length (Rps xs) := by
  obtain ⟨a, k, cap, zs, h1, h2, h3, h4, h5, h6, _⟩ := rd_flat (α := Rep) Rep.cells Tryz.underlying34 coReplica (by omega) (fun _ => True) rd_rp h
  exact ⟨(a, k, cap), zs, h1, ⟨h2, ⟨h3, h4, h5⟩, h6⟩⟩
theorem coNear : Tryz.prog.cellsOf 126 = 2 := by kernel_rfl
theorem rd_nr (n : Nat) (cs : List Value) (y : DataW H × List MemPlace) (h : DataW.trod enc Tryz.prog w base spare held n 126 cs = some y) : ∃ m : Near, cs = m.cells ∧ True := by
  obtain ⟨y0, y1, n1, rfl, hl, h0, h1⟩ := trod_struct2 Tryz.underlying126 h
  rw [coNear] at hl
  obtain ⟨c0, c1, rfl⟩ := len2 hl
  rw [coint] at h0
  rw [coint] at h1
  obtain ⟨x0, e0, _, _⟩ := DataW.trod_int Tryz.underlying3 h0
  obtain ⟨x1, e1, _, _⟩ := DataW.trod_int Tryz.underlying3 h1
  refine ⟨⟨x0, x1⟩, ?_, trivial⟩
  simp at e0 e1
  simp [e0, e1]
theorem rd_nrs {n : Nat} {cs : List Value} {y : DataW H × List MemPlace} (h : DataW.trod enc Tryz.prog w base spare held n 77 cs = some y) : ∃ (a : Hd) (xs : List Near), cs = [.slice a.1 a.2.1 a.2.2] ∧ Reads w a 2 xs.length (Nrs xs) := by
  obtain ⟨a, k, cap, zs, h1, h2, h3, h4, h5, h6, _⟩ := rd_flat (α := Near) Near.cells Tryz.underlying77 coNear (by omega) (fun _ => True) rd_nr h
  exact ⟨(a, k, cap), zs, h1, ⟨h2, ⟨h3, h4, h5⟩, h6⟩⟩
theorem rd_ints {n : Nat} {cs : List Value} {y : DataW H × List MemPlace} (h : DataW.trod enc Tryz.prog w base spare held n 68 cs = some y) :
    ∃ a k cap, ∃ zs : List Int, cs = [.slice a k cap] ∧ zs.length = k ∧ k ≤ cap ∧ cap ≤ maxLen ∧ (a = none → k = 0 ∧ cap = 0) ∧ RowsAt w.heap.size w a 1 (Ints zs) := by
  obtain ⟨a, k, cap, zs, h1, h2, h3, h4, h5, h6, _⟩ := rd_flat (α := Int) (fun z => [.int .i64 z]) Tryz.underlying68 coint (by omega) (fun _ => True) (fun n cs y h => by
    obtain ⟨z, e, _, _⟩ := DataW.trod_int Tryz.underlying3 h
    exact ⟨z, e, trivial⟩) h
  exact ⟨a, k, cap, zs, h1, h2, h3, h4, h5, h6⟩
theorem rd_intsR {n : Nat} {cs : List Value} {y : DataW H × List MemPlace} (h : DataW.trod enc Tryz.prog w base spare held n 68 cs = some y) :
    ∃ (a : Hd) (zs : List Int), cs = [.slice a.1 a.2.1 a.2.2] ∧ Reads w a 1 zs.length (Ints zs) := by
  obtain ⟨a, k, cap, zs, h1, h2, h3, h4, h5, h6⟩ := rd_ints h
  exact ⟨(a, k, cap), zs, h1, ⟨h2, ⟨h3, h4, h5⟩, h6⟩⟩
theorem coSite : Tryz.prog.cellsOf 29 = 7 := by kernel_rfl
theorem coService : Tryz.prog.cellsOf 79 = 8 := by kernel_rfl
theorem coWish : Tryz.prog.cellsOf 32 = 1 := by kernel_rfl
theorem coWorld : Tryz.prog.cellsOf 36 = 2 := by kernel_rfl
theorem rd_site (n : Nat) (cs : List Value) (y : DataW H × List MemPlace) (h : DataW.trod enc Tryz.prog w base spare held n 29 cs = some y) : ∃ m : Site, cs = m.cells ∧ m.At w := by
  obtain ⟨y0, y1, y2, y3, y4, y5, y6, n1, hl, h0, h1, h2, h3, h4, h5, h6⟩ := trod_struct7 Tryz.underlying29 h
  rw [coSite] at hl
  obtain ⟨c0, c1, c2, c3, c4, c5, c6, rfl⟩ := len7 hl
  rw [coLFeed] at h0; rw [coLBreaker] at h1; rw [coLLoop] at h2; rw [coLRack] at h3; rw [coint] at h4; rw [coLLink] at h5; rw [coLHost] at h6
  simp at h0 h1 h2 h3 h4 h5 h6
  obtain ⟨a0, z0, e0, r0⟩ := rd_fds h0
  obtain ⟨a1, z1, e1, r1⟩ := rd_bks h1
  obtain ⟨a2, z2, e2, r2⟩ := rd_lps h2
  obtain ⟨a3, z3, e3, r3⟩ := rd_rks h3
  obtain ⟨x4, e4, _, _⟩ := DataW.trod_int Tryz.underlying3 h4
  obtain ⟨a5, z5, e5, r5⟩ := rd_lks h5
  obtain ⟨a6, z6, e6, r6⟩ := rd_hos h6
  simp at e0 e1 e2 e3 e4 e5 e6
  refine ⟨⟨z0, a0, z1, a1, z2, a2, z3, a3, z5, a5, z6, a6, x4⟩, ?_, ⟨r0, r1, r2, r3, r5, r6⟩⟩
  simp [e0, e1, e2, e3, e4, e5, e6]
theorem rd_svc (n : Nat) (cs : List Value) (y : DataW H × List MemPlace) (h : DataW.trod enc Tryz.prog w base spare held n 79 cs = some y) : ∃ m : Svc, cs = m.cells ∧ m.At w := by
  obtain ⟨y0, y1, y2, y3, y4, y5, y6, y7, n1, hl, h0, h1, h2, h3, h4, h5, h6, h7⟩ := trod_struct8 Tryz.underlying79 h
  rw [coService] at hl
  obtain ⟨c0, c1, c2, c3, c4, c5, c6, c7, rfl⟩ := len8 hl
  rw [coint] at h0 h1 h2 h4 h7; rw [coDomain] at h3; rw [coLint] at h5; rw [coLNear] at h6
  simp at h0 h1 h2 h3 h4 h5 h6 h7
  obtain ⟨x0, e0, _, _⟩ := DataW.trod_int Tryz.underlying3 h0
  obtain ⟨x1, e1, _, _⟩ := DataW.trod_int Tryz.underlying3 h1
  obtain ⟨x2, e2, _, _⟩ := DataW.trod_int Tryz.underlying3 h2
  obtain ⟨x3, e3, _, _⟩ := DataW.trod_int Tryz.underlying76 h3
  obtain ⟨x4, e4, _, _⟩ := DataW.trod_int Tryz.underlying3 h4
  obtain ⟨a5, z5, e5, r5⟩ := rd_intsR h5
  obtain ⟨a6, z6, e6, r6⟩ := rd_nrs h6
  obtain ⟨x7, e7, _, _⟩ := DataW.trod_int Tryz.underlying3 h7
  simp at e0 e1 e2 e3 e4 e5 e6 e7
  refine ⟨⟨x0, x1, x2, x3, x4, z5, a5, z6, a6, x7⟩, ?_, ⟨r5, r6⟩⟩
  simp [e0, e1, e2, e3, e4, e5, e6, e7]
theorem rd_wish (n : Nat) (cs : List Value) (y : DataW H × List MemPlace) (h : DataW.trod enc Tryz.prog w base spare held n 32 cs = some y) : ∃ m : Wish, cs = m.cells ∧ m.At w := by
  obtain ⟨y0, n1, rfl, hl, h0⟩ := trod_struct1 Tryz.underlying32 h
  rw [coWish] at hl
  obtain ⟨c0, rfl⟩ := len1 hl
  rw [coLService] at h0
  simp at h0
  obtain ⟨a, k, cap, ms, rows, e0, g1, g2, g3, g4, g5, g6, g7⟩ := rd_slice (α := Svc) Tryz.underlying30 coService (by omega) (R := fun cs m => cs = m.cells ∧ m.At w) rd_svc h0
  simp at e0
  have hrows : rows = Svs ms := by
    apply List.ext_getElem (by simp [g1, g2])
    intro i hi1 hi2
    have := (g7 i (by omega)).1
    simpa [List.getD, List.getElem?_eq_getElem hi1, List.getElem?_eq_getElem (show i < ms.length by simpa using hi2)] using this
  refine ⟨⟨ms, (a, k, cap)⟩, by simp [e0], ⟨⟨g1, ⟨g3, g4, g5⟩, hrows ▸ g6⟩, fun i hi => (g7 i (by rw [← g1]; exact hi)).2⟩⟩
theorem rd_world (n : Nat) (cs : List Value) (y : DataW H × List MemPlace) (h : DataW.trod enc Tryz.prog w base spare held n 36 cs = some y) : ∃ m : Wld, cs = m.cells ∧ m.At w := by
  obtain ⟨y0, y1, n1, rfl, hl, h0, h1⟩ := trod_struct2 Tryz.underlying36 h
  rw [coWorld] at hl
  obtain ⟨c0, c1, rfl⟩ := len2 hl
  rw [coLHostState] at h0; rw [coLReplica] at h1
  simp at h0 h1
  obtain ⟨a0, z0, e0, r0⟩ := rd_hss h0
  obtain ⟨a1, z1, e1, r1⟩ := rd_rps h1
  simp at e0 e1
  refine ⟨⟨z0, a0, z1, a1⟩, ?_, ⟨r0, r1⟩⟩
  simp [e0, e1]
end Go.Proofs.YthlefdbhkbpejaaGreat
