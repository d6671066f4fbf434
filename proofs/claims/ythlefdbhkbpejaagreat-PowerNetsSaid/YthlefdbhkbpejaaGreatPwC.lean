/- Chapter 14: the sums over 16 numbers are the watts of all hosts (plain). -/
import Derived.Test.YthlefdbhkbpejaaGreatPwB
namespace Go.Proofs.YthlefdbhkbpejaaGreat
open Go

theorem sumI_cut {g : Nat → Int} {n : Nat} : ∀ {m : Nat}, n ≤ m → (∀ i, n ≤ i → i < m → g i = 0) → sumI m g = sumI n g
  | 0, h, _ => by obtain rfl : n = 0 := by omega
                  rfl
  | m + 1, h, hz => by
    by_cases e : n = m + 1
    · rw [e]
    · have ih := sumI_cut (g := g) (n := n) (m := m) (by omega) fun i h1 h2 => hz i h1 (by omega)
      simp only [sumI]
      rw [ih, hz m (by omega) (by omega)]
      omega
def totW (s : Site) (x : Wish) (v : Wld) : Int := sumI s.hosts.length fun i => wattsH s x v i
theorem wattsN_val {s : Site} {x : Wish} {v : Wld} (h : worldOk s x v = true) (i : Nat) : wattsN s x v i = if i < s.hosts.length then wattsH s x v i else 0 := by
  unfold wattsN
  rw [sumH_ok h, sumT_sum, ← sumI_one (g := fun j => wattsH s x v j)]
  refine sumI_congr fun j _ => ?_
  by_cases e : i = j
  · rw [if_pos e, if_pos (by simp only [decide_eq_true_eq]; omega)]
  · rw [if_neg e, if_neg (by simp only [decide_eq_true_eq]; omega)]
theorem brk_sum {s : Site} {x : Wish} {v : Wld} (h : worldOk s x v = true) (b : Nat) : ofBrk s x v b = sumI s.hosts.length fun i => if brkI s (rackI s i) = b then wattsH s x v i else 0 := by
  have hs := worldOk_site h
  unfold ofBrk
  rw [sumH_ok h, sumT_sum]
  refine sumI_congr fun i hi => ?_
  have h2 := siteOk_rack hs (rackI_lt hs hi)
  unfold brkI
  unfold rackI at h2 ⊢
  simp only [decide_eq_true_eq]
  by_cases e : (s.racks.getD (s.hosts.getD i default).rack.toNat default).brk = (b : Int)
  · rw [if_pos e, if_pos (by omega)]
  · rw [if_neg e, if_neg (by omega)]
theorem feed_sum {s : Site} {x : Wish} {v : Wld} (h : worldOk s x v = true) (f : Nat) : ofFeed s x v f = sumI s.hosts.length fun i => if feedI s (brkI s (rackI s i)) = f then wattsH s x v i else 0 := by
  have hs := worldOk_site h
  unfold ofFeed
  rw [sumH_ok h, sumT_sum]
  refine sumI_congr fun i hi => ?_
  have h2 := (siteOk_brk hs ((pn_ok h).rb _ (rackI_lt hs hi))).1
  change 0 ≤ (s.brks.getD (brkI s (rackI s i)) default).feed ∧ _ at h2
  unfold feedI
  unfold brkI rackI at h2 ⊢
  simp only [decide_eq_true_eq]
  by_cases e : (s.brks.getD (s.racks.getD (s.hosts.getD i default).rack.toNat default).brk.toNat default).feed = (f : Int)
  · rw [if_pos e, if_pos (by omega)]
  · rw [if_neg e, if_neg (by omega)]
/-- The four sums of the law. -/
theorem sums16 {s : Site} {x : Wish} {v : Wld} (h : worldOk s x v = true) :
    sumI 16 (fun i => wattsN s x v i) = totW s x v ∧ sumI 16 (fun i => ofRack s x v i) = totW s x v ∧ sumI 16 (fun i => ofBrk s x v i) = totW s x v ∧ sumI 16 (fun i => ofFeed s x v i) = totW s x v := by
  have hs := worldOk_site h
  have hz := siteOk_sizes hs
  have hn := siteOk_nums hs
  have hr : ∀ i, i < s.hosts.length → rackI s i < s.racks.length := fun i hi => rackI_lt hs hi
  have hb : ∀ i, i < s.hosts.length → brkI s (rackI s i) < s.brks.length := fun i hi => (pn_ok h).rb _ (hr i hi)
  have hf : ∀ i, i < s.hosts.length → feedI s (brkI s (rackI s i)) < s.feeds.length := fun i hi => (pn_ok h).bf _ (hb i hi)
  refine ⟨?_, ?_, ?_, ?_⟩
  · rw [sumI_cut (n := s.hosts.length) (by omega) fun i h1 _ => by rw [wattsN_val h, if_neg (by omega)]]
    exact sumI_congr fun i hi => by rw [wattsN_val h, if_pos hi]
  · exact (sumI_congr fun r _ => rack_sum h r).trans (sumI_all (n := s.hosts.length) (m := 16) (ix := rackI s) (w := fun i => wattsH s x v i) fun i hi => by have := hr i hi; omega).symm
  · exact (sumI_congr fun r _ => brk_sum h r).trans (sumI_all (n := s.hosts.length) (m := 16) (ix := fun i => brkI s (rackI s i)) (w := fun i => wattsH s x v i) fun i hi => by have := hb i hi; show brkI s (rackI s i) < 16; omega).symm
  · exact (sumI_congr fun r _ => feed_sum h r).trans (sumI_all (n := s.hosts.length) (m := 16) (ix := fun i => feedI s (brkI s (rackI s i))) (w := fun i => wattsH s x v i) fun i hi => by have := hf i hi; show feedI s (brkI s (rackI s i)) < 16; omega).symm
def netN (s : Site) (x : Wish) (v : Wld) : Int := if worldOk s x v = true then ((pnOf s x v).nodes : Int) else 0
def netL (s : Site) (x : Wish) (v : Wld) : List F5.Ar := if worldOk s x v = true then (pnOf s x v).arcs else []
end Go.Proofs.YthlefdbhkbpejaaGreat
