/- Chapter 14: how long a breaker bears its load (plain). -/
import Derived.Test.YthlefdbhkbpejaaPwC
import Derived.Test.YthlefdbhkbpejaaBTimes
namespace Go.Proofs.Ythlefdbhkbpejaa
open Go F5

def bkOf (b : Bkr) : B7.Brk := ⟨b.feed, b.limit, b.slow, max b.fast b.limit⟩
def bearV (s : Site) (x : Wish) (v : Wld) (b : Int) : Int := if (0 ≤ b ∧ b < (s.brks.length : Int)) ∧ worldOk s x v = true then B7.lastsN (bkOf (s.brks.getD b.toNat default)) 0 (ofBrk s x v b) else 0

theorem bk_ok {s : Site} {x : Wish} {v : Wld} (h : worldOk s x v = true) {b : Nat} (hb : b < s.brks.length) : B7.steadyE (bkOf (s.brks.getD b default)) 0 (ofBrk s x v b) = 0 := by
  have h1 := siteOk_brk (worldOk_site h) hb
  have h2 := sumH_le h fun i => decide ((s.racks.getD (s.hosts.getD i default).rack.toNat default).brk = (b : Int))
  have h3 : B7.okW (ofBrk s x v b) = true := B7.inR_iff.2 (by unfold ofBrk; omega)
  unfold B7.steadyE bkOf
  rw [if_pos (B7.okB_iff.2 ⟨h1.2.1, h1.2.2.1, by simp only; omega⟩), if_pos ⟨B7.inR_iff.2 ⟨by omega, h1.2.2.1.1⟩, h3⟩]
/-- For ever exactly if the load is at most the limit. -/
theorem bear_iff {s : Site} {x : Wish} {v : Wld} (h : worldOk s x v = true) {b : Nat} (hb : b < s.brks.length) : bearV s x v b = -1 ↔ ofBrk s x v b ≤ (s.brks.getD b default).limit := by
  unfold bearV
  rw [if_pos ⟨⟨by omega, by omega⟩, h⟩, Int.toNat_natCast]
  unfold B7.lastsN
  rw [if_pos (bk_ok h hb)]
  have h1 := siteOk_brk (worldOk_site h) hb
  show (if _ ≤ (s.brks.getD b default).limit then (-1 : Int) else if max _ _ < _ then 0 else ((s.brks.getD b default).slow - 0) / _) = -1 ↔ _
  by_cases hl : ofBrk s x v b ≤ (s.brks.getD b default).limit
  · rw [if_pos hl]
    exact ⟨fun _ => hl, fun _ => rfl⟩
  · rw [if_neg hl]
    refine ⟨fun e => ?_, fun e => absurd e hl⟩
    have h3 : 0 ≤ ((s.brks.getD b default).slow - 0) / (ofBrk s x v b - (s.brks.getD b default).limit) := Int.ediv_nonneg (by omega) (by omega)
    change (if max (s.brks.getD b default).fast (s.brks.getD b default).limit < ofBrk s x v b then (0 : Int) else ((s.brks.getD b default).slow - 0) / (ofBrk s x v b - (s.brks.getD b default).limit)) = -1 at e
    split at e <;> omega
end Go.Proofs.Ythlefdbhkbpejaa
