/- Chapter 25: a carrier as a law's walk holds it, and the first lines of five laws: c = cut(c). -/
import Derived.Test.YtkfoclibejpbdaaLives
namespace Go.Proofs.Ytkfoclibejpbdaa
open Go Go.RowKit

/-- A carrier that a law holds: what the contracts ask of it. -/
structure Car (W : World) (a : Option Addr) (n cap : Nat) (ms : List Msg) : Prop where
  len : ms.length = n
  le : n ≤ 1000000
  leCap : n ≤ cap
  nil : a = none → n = 0 ∧ cap = 0
  at' : MsgsAt W.heap.size W a ms

theorem Car.below {W W' : World} {a : Option Addr} {n cap : Nat} {ms : List Msg} (h : Car W a n cap ms) (hb : Below W.heap.size W W') : Car W' a n cap ms :=
  ⟨h.len, h.le, h.leCap, h.nil, h.at'.later hb⟩
theorem Car.l64 {W : World} {a : Option Addr} {n cap : Nat} {ms : List Msg} (h : Car W a n cap ms) : n ≤ 9223372036854775807 := by have := h.le; omega
theorem Car.own {base : Nat} {W : World} {v : Value} {ms : List Msg} (h : OwnMs base W v ms) (hl : ms.length ≤ 1000000) : ∃ a cap, v = .slice a ms.length cap ∧ Car W a ms.length cap ms := by
  obtain ⟨a, cap, rfl, hm⟩ := h.msgs
  refine ⟨a, cap, rfl, rfl, hl, ?_, ?_, hm⟩
  · obtain ⟨_, _, he, h1, _⟩ := owns_shape h; cases he; exact h1
  · rintro rfl
    rcases h.2 with ⟨h1, h2⟩ | ⟨g, c, cur, hv, _⟩
    · injection h1 with _ _ h3; exact ⟨h2, h3⟩
    · cases hv
/-- The result of a contract, once its length is named. -/
theorem Car.own' {base : Nat} {W : World} {v : Value} {ms : List Msg} (h : OwnMs base W v ms) (hl : ms.length ≤ 1000000) : ∃ a n cap, v = .slice a n cap ∧ ms.length = n ∧ Car W a n cap ms ∧ OwnMs base W (.slice a n cap) ms := by
  obtain ⟨a, cap, rfl, hc⟩ := Car.own h hl
  exact ⟨a, _, cap, rfl, rfl, hc, h⟩
theorem sendL_len (ms : List Msg) (m : Msg) (h : ms.length ≤ 50) : (sendL ms m).length ≤ 1000000 := by
  unfold sendL; split <;> simp <;> omega
theorem delL_len (ms : List Msg) (p : Int) (h : ms.length ≤ 50) : (delL ms p).length ≤ 1000000 := by
  unfold delL
  split <;> (try simp [drop1, List.length_take, List.length_drop]) <;> omega
theorem repL_len (ms : List Msg) (p : Int) (h : ms.length ≤ 50) : (repL ms p).length ≤ 1000000 := by
  unfold repL
  split
  · exact sendL_len ms _ h
  · simp
theorem take50 (ms : List Msg) : (ms.take 50).length ≤ 50 := by rw [List.length_take]; omega
end Go.Proofs.Ytkfoclibejpbdaa
