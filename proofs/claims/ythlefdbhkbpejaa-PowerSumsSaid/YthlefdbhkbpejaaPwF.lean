/- Chapter 14: the document's loads: sums of sums (plain). -/
import Derived.Test.YthlefdbhkbpejaaPwE
namespace Go.Proofs.Ythlefdbhkbpejaa
open Go

def rackT (s : Site) (x : Wish) (v : Wld) (r : Int) (k : Nat) : Int := sumI k fun i => if (s.hosts.getD i default).rack = r then wattsN s x v i else 0
def brkT (s : Site) (x : Wish) (v : Wld) (b : Int) (k : Nat) : Int := sumI k fun i => if (s.racks.getD i default).brk = b then ofRack s x v i else 0
def feedT (s : Site) (x : Wish) (v : Wld) (f : Int) (k : Nat) : Int := sumI k fun i => if (s.brks.getD i default).feed = f then ofBrk s x v i else 0
theorem rackT_succ {s : Site} {x : Wish} {v : Wld} {r : Int} {k : Nat} : rackT s x v r (k + 1) = if (s.hosts.getD k default).rack = r then rackT s x v r k + wattsN s x v k else rackT s x v r k := by
  unfold rackT
  simp only [sumI]
  split <;> omega
theorem brkT_succ {s : Site} {x : Wish} {v : Wld} {r : Int} {k : Nat} : brkT s x v r (k + 1) = if (s.racks.getD k default).brk = r then brkT s x v r k + ofRack s x v k else brkT s x v r k := by
  unfold brkT
  simp only [sumI]
  split <;> omega
theorem feedT_succ {s : Site} {x : Wish} {v : Wld} {r : Int} {k : Nat} : feedT s x v r (k + 1) = if (s.brks.getD k default).feed = r then feedT s x v r k + ofBrk s x v k else feedT s x v r k := by
  unfold feedT
  simp only [sumI]
  split <;> omega
theorem sumH_in (s : Site) (x : Wish) (v : Wld) (p : Nat → Bool) : 0 ≤ sumH s x v p ∧ sumH s x v p ≤ 24160000 := by
  cases h : worldOk s x v
  · rw [sumH_no h]; omega
  · exact sumH_le h p
theorem wattsN_in (s : Site) (x : Wish) (v : Wld) (i : Int) : 0 ≤ wattsN s x v i ∧ wattsN s x v i ≤ 24160000 := sumH_in s x v _
theorem ofRack_in (s : Site) (x : Wish) (v : Wld) (i : Int) : 0 ≤ ofRack s x v i ∧ ofRack s x v i ≤ 24160000 := sumH_in s x v _
theorem ofBrk_in (s : Site) (x : Wish) (v : Wld) (i : Int) : 0 ≤ ofBrk s x v i ∧ ofBrk s x v i ≤ 24160000 := sumH_in s x v _
theorem ofFeed_in (s : Site) (x : Wish) (v : Wld) (i : Int) : 0 ≤ ofFeed s x v i ∧ ofFeed s x v i ≤ 24160000 := sumH_in s x v _
theorem rackT_in (s : Site) (x : Wish) (v : Wld) (r : Int) (k : Nat) : 0 ≤ rackT s x v r k ∧ rackT s x v r k ≤ 24160000 * k := sumI_bound fun i _ => by have := wattsN_in s x v i; split <;> omega
theorem brkT_in (s : Site) (x : Wish) (v : Wld) (r : Int) (k : Nat) : 0 ≤ brkT s x v r k ∧ brkT s x v r k ≤ 24160000 * k := sumI_bound fun i _ => by have := ofRack_in s x v i; split <;> omega
theorem feedT_in (s : Site) (x : Wish) (v : Wld) (r : Int) (k : Nat) : 0 ≤ feedT s x v r k ∧ feedT s x v r k ≤ 24160000 * k := sumI_bound fun i _ => by have := ofBrk_in s x v i; split <;> omega
theorem wattsN_out {s : Site} {x : Wish} {v : Wld} {h : Int} (hn : ¬ (0 ≤ h ∧ h < (s.hosts.length : Int))) : wattsN s x v h = 0 := by
  cases hw : worldOk s x v
  · exact sumH_no hw
  · unfold wattsN
    rw [sumH_ok hw, sumT_sum]
    refine (sumI_congr (h := fun _ => 0) fun i hi => ?_).trans (sumI_zero _)
    rw [if_neg (by simp only [decide_eq_true_eq]; omega)]
theorem sumI_no {g : Nat → Int} {k : Nat} (h : ∀ i, g i = 0) : sumI k g = 0 := (sumI_congr (h := fun _ => 0) fun i _ => h i).trans (sumI_zero _)
theorem rackT_end (s : Site) (x : Wish) (v : Wld) (r : Int) : rackT s x v r s.hosts.length = ofRack s x v r := by
  cases h : worldOk s x v
  · unfold ofRack rackT
    rw [sumH_no h]
    exact sumI_no fun i => by unfold wattsN; rw [sumH_no h]; split <;> rfl
  · unfold ofRack
    rw [sumH_ok h, sumT_sum]
    refine sumI_congr fun i hi => ?_
    rw [wattsN_val h, if_pos hi]
    simp only [decide_eq_true_eq]
theorem brkT_end (s : Site) (x : Wish) (v : Wld) (b : Int) : brkT s x v b s.racks.length = ofBrk s x v b := by
  cases h : worldOk s x v
  · unfold ofBrk brkT
    rw [sumH_no h]
    exact sumI_no fun i => by unfold ofRack; rw [sumH_no h]; split <;> rfl
  · by_cases hb : 0 ≤ b
    · obtain ⟨b, rfl⟩ : ∃ n : Nat, b = n := ⟨b.toNat, by omega⟩
      rw [← pn_loadB h]
      refine sumI_congr fun i hi => ?_
      have h1 := siteOk_rack (worldOk_site h) hi
      show _ = if brkI s i = b then ofRack s x v i else 0
      unfold brkI
      by_cases e : (s.racks.getD i default).brk = (b : Int)
      · rw [if_pos e, if_pos (by omega)]
      · rw [if_neg e, if_neg (by omega)]
    · unfold ofBrk brkT
      rw [sumH_ok h, sumT_sum]
      refine ((sumI_congr (h := fun _ => 0) fun i hi => ?_).trans (sumI_zero _)).trans ((sumI_congr (h := fun _ => 0) fun i hi => ?_).trans (sumI_zero _)).symm
      · have h1 := siteOk_rack (worldOk_site h) hi
        rw [if_neg (by omega)]
      · have h1 := siteOk_rack (worldOk_site h) (rackI_lt (worldOk_site h) hi)
        unfold rackI at h1
        rw [if_neg (by simp only [decide_eq_true_eq]; omega)]
theorem feedT_end (s : Site) (x : Wish) (v : Wld) (f : Int) : feedT s x v f s.brks.length = ofFeed s x v f := by
  cases h : worldOk s x v
  · unfold ofFeed feedT
    rw [sumH_no h]
    exact sumI_no fun i => by unfold ofBrk; rw [sumH_no h]; split <;> rfl
  · by_cases hb : 0 ≤ f
    · obtain ⟨f, rfl⟩ : ∃ n : Nat, f = n := ⟨f.toNat, by omega⟩
      rw [← pn_loadF h]
      refine sumI_congr fun i hi => ?_
      have h1 := (siteOk_brk (worldOk_site h) hi).1
      show _ = if feedI s i = f then (pnOf s x v).loadB i else 0
      rw [pn_loadB h]
      unfold feedI
      by_cases e : (s.brks.getD i default).feed = (f : Int)
      · rw [if_pos e, if_pos (by omega)]
      · rw [if_neg e, if_neg (by omega)]
    · unfold ofFeed feedT
      rw [sumH_ok h, sumT_sum]
      refine ((sumI_congr (h := fun _ => 0) fun i hi => ?_).trans (sumI_zero _)).trans ((sumI_congr (h := fun _ => 0) fun i hi => ?_).trans (sumI_zero _)).symm
      · have h1 := (siteOk_brk (worldOk_site h) hi).1
        rw [if_neg (by omega)]
      · have h1 := (siteOk_brk (worldOk_site h) ((pn_ok h).rb _ (rackI_lt (worldOk_site h) hi))).1
        change 0 ≤ (s.brks.getD (brkI s (rackI s i)) default).feed ∧ _ at h1
        unfold brkI rackI at h1
        rw [if_neg (by simp only [decide_eq_true_eq]; omega)]
end Go.Proofs.Ythlefdbhkbpejaa
