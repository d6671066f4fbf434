/- Chapter 14: what the net carries, (plain). -/
import Derived.Test.YthlefdbhkbpejaaPwC
import Derived.Test.YthlefdbhkbpejaaFMax
namespace Go.Proofs.Ythlefdbhkbpejaa
open Go F5

def carV (s : Site) (x : Wish) (v : Wld) : Int := if worldOk s x v = true then (pnOf s x v).val else 0

theorem pn_ask {s : Site} {x : Wish} {v : Wld} (h : worldOk s x v = true) : askF (pnOf s x v).nodes (pnOf s x v).arcs 0 1 = 0 := by
  unfold askF
  have hn : 2 ≤ (pnOf s x v).nodes := by unfold Pn.nodes; omega
  rw [if_pos (pn_net h), if_pos ⟨F5.inR_iff.2 (by omega), F5.inR_iff.2 (by omega), by omega⟩]
/-- A greatest flow of the power net carries that much. -/
theorem pn_max {s : Site} {x : Wish} {v : Wld} (h : worldOk s x v = true) {r : Int} {f : List Int} (hm : MaxIs (pnOf s x v).nodes (pnOf s x v).arcs 0 1 r f) : r = (pnOf s x v).val := by
  obtain ⟨hB, hr⟩ := hm.1 (pn_ask h)
  rw [Int.toNat_natCast] at hB
  rw [hr]
  exact (pnOf s x v).best (pn_ok h) hB
end Go.Proofs.Ythlefdbhkbpejaa
