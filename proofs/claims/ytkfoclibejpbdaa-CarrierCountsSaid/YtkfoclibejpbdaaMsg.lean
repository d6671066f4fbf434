/- Chapter 25: messages as data; how two of them compare. -/
import Derived.Test.YtkfoclibejpbdaaProg
import Derived.Test.YtkfoclibejpbdaaBase
namespace Go.Proofs.Ytkfoclibejpbdaa
open Go Go.RowKit

structure Msg where
  to : Int
  id : Int
  lease : Int
  kind : Int
  host : Int
  service : Int
  version : Int
  rid : Int
  ans : Int
  deriving DecidableEq, Inhabited

abbrev Msg.cells (m : Msg) : List Value := [.int .i64 m.to, .int .i64 m.id, .int .i64 m.lease, .int .u8 m.kind, .int .i64 m.host, .int .i64 m.service, .int .i64 m.version, .int .i64 m.rid, .int .u8 m.ans]
abbrev Msg.val (m : Msg) : Value := .agg m.cells.toArray

/-- The cells of one message. -/
def MsgCells (w : World) (b o : Nat) (x : Msg) : Prop :=
  w.cell? ⟨b, o, none⟩ = some (.int .i64 x.to) ∧ w.cell? ⟨b, o + 1, none⟩ = some (.int .i64 x.id) ∧ w.cell? ⟨b, o + 2, none⟩ = some (.int .i64 x.lease) ∧ w.cell? ⟨b, o + 3, none⟩ = some (.int .u8 x.kind) ∧
  w.cell? ⟨b, o + 4, none⟩ = some (.int .i64 x.host) ∧ w.cell? ⟨b, o + 5, none⟩ = some (.int .i64 x.service) ∧ w.cell? ⟨b, o + 6, none⟩ = some (.int .i64 x.version) ∧ w.cell? ⟨b, o + 7, none⟩ = some (.int .i64 x.rid) ∧ w.cell? ⟨b, o + 8, none⟩ = some (.int .u8 x.ans)

def rowsOf (ms : List Msg) : List (List Value) := ms.map Msg.cells
theorem rowsOf_len (ms : List Msg) : (rowsOf ms).length = ms.length := by simp [rowsOf]
theorem rowsOf_nine (ms : List Msg) : ∀ r ∈ rowsOf ms, r.length = 9 := by
  intro r hr
  obtain ⟨m, _, rfl⟩ := List.mem_map.1 hr
  rfl

def MsgsAt (n : Nat) (w : World) (a : Option Addr) (ms : List Msg) : Prop := RowsAt n w a 9 (rowsOf ms)

theorem MsgsAt.below {n : Nat} {w w' : World} {a : Option Addr} {ms : List Msg} (h : MsgsAt n w a ms) (hb : Below n w w') : MsgsAt n w' a ms := RowsAt.below h hb
theorem MsgsAt.later {w w' : World} {a : Option Addr} {ms : List Msg} (h : MsgsAt w.heap.size w a ms) (hb : Below w.heap.size w w') : MsgsAt w'.heap.size w' a ms := RowsAt.later h hb
theorem MsgsAt.at' {n : Nat} {w : World} {a : Option Addr} {ms : List Msg} (h : MsgsAt n w a ms) (k : Nat) (hk : k < ms.length) : ∃ b off, a = some ⟨b, off, none⟩ ∧ b < n ∧ MsgCells w b (off + k * 9) (ms.getD k default) := by
  obtain ⟨b, off, rfl, hb, hc⟩ := h k (ms.getD k default).cells (by simp [rowsOf, hk])
  exact ⟨b, off, rfl, hb, hc 0 _ rfl, hc 1 _ rfl, hc 2 _ rfl, hc 3 _ rfl, hc 4 _ rfl, hc 5 _ rfl, hc 6 _ rfl, hc 7 _ rfl, hc 8 _ rfl⟩

theorem MsgsAt.drop {n : Nat} {w : World} {b off : Nat} {ms : List Msg} (h : MsgsAt n w (some ⟨b, off, none⟩) ms) (k : Nat) : MsgsAt n w (some ⟨b, off + k * 9, none⟩) (ms.drop k) := by
  intro i r hr
  have hr' : (rowsOf ms)[k + i]? = some r := by simpa [rowsOf, List.getElem?_drop] using hr
  obtain ⟨b', off', he, hb, hc⟩ := h (k + i) r hr'
  cases he
  refine ⟨b, off + k * 9, rfl, hb, fun j v hv => ?_⟩
  have := hc j v hv
  rw [show off + k * 9 + i * 9 + j = off + (k + i) * 9 + j by rw [Nat.add_mul]; omega]
  exact this

theorem guard34 : Try.prog.eqGuardType Try.prog.depth 34 = false := by kernel_rfl
theorem stood34 : Try.prog.stoodInHeld 34 = false := by kernel_rfl
theorem stood29 : Try.prog.stoodInHeld 29 = false := by kernel_rfl
theorem stood27 : Try.prog.stoodInHeld 27 = false := by kernel_rfl
theorem stood32 : Try.prog.stoodInHeld 32 = false := by kernel_rfl

theorem eq34 (x m : Msg) (w : World) : (Op.equalIn 10000 34 x.val m.val).run Try.prog w = .ok (decide (x = m)) w := by
  have e0 := stood34
  have e1 := stood29
  have e2 := stood27
  have e3 := stood32
  obtain ⟨x0, x1, x2, x3, x4, x5, x6, x7, x8⟩ := x
  obtain ⟨m0, m1, m2, m3, m4, m5, m6, m7, m8⟩ := m
  simp [go_sem, e0, e1, e2, e3]
  by_cases h0 : x0 = m0 <;> simp [h0]
  by_cases h1 : x1 = m1 <;> simp [h1]
  by_cases h2 : x2 = m2 <;> simp [h2]
  by_cases h3 : x3 = m3 <;> simp [h3]
  by_cases h4 : x4 = m4 <;> simp [h4]
  by_cases h5 : x5 = m5 <;> simp [h5]
  by_cases h6 : x6 = m6 <;> simp [h6]
  by_cases h7 : x7 = m7 <;> simp [h7]
  by_cases h8 : x8 = m8 <;> simp [h8]

theorem take_snoc (ms : List Msg) (k : Nat) (h : k < ms.length) : ms.take (k+1) = ms.take k ++ [ms.getD k default] := by
  rw [List.take_succ_eq_append_getElem h]
  simp [h]
theorem take_count (ms : List Msg) (m : Msg) (k : Nat) (h : k < ms.length) : (ms.take (k+1)).count m = (ms.take k).count m + if ms.getD k default = m then 1 else 0 := by
  rw [take_snoc ms k h, List.count_append]
  congr 1
  simp [List.count_singleton]
theorem blk_msg {W : World} {k : Nat} {m : Msg} {fr : Nat × Nat} (h : W.heap[k]? = some (.cells m.cells.toArray 34 fr)) :
    W.cell? ⟨k, 0, none⟩ = some (.int .i64 m.to) ∧ W.cell? ⟨k, 1, none⟩ = some (.int .i64 m.id) ∧ W.cell? ⟨k, 2, none⟩ = some (.int .i64 m.lease) ∧ W.cell? ⟨k, 3, none⟩ = some (.int .u8 m.kind) ∧
    W.cell? ⟨k, 4, none⟩ = some (.int .i64 m.host) ∧ W.cell? ⟨k, 5, none⟩ = some (.int .i64 m.service) ∧ W.cell? ⟨k, 6, none⟩ = some (.int .i64 m.version) ∧ W.cell? ⟨k, 7, none⟩ = some (.int .i64 m.rid) ∧ W.cell? ⟨k, 8, none⟩ = some (.int .u8 m.ans) :=
  ⟨blk_cell h 0, blk_cell h 1, blk_cell h 2, blk_cell h 3, blk_cell h 4, blk_cell h 5, blk_cell h 6, blk_cell h 7, blk_cell h 8⟩
theorem blk_one {W : World} {k : Nat} {v : Value} {t : TypeId} {fr : Nat × Nat} (h : W.heap[k]? = some (.cells #[v] t fr)) : W.cell? ⟨k, 0, none⟩ = some v := blk_cell h 0
end Go.Proofs.Ytkfoclibejpbdaa
