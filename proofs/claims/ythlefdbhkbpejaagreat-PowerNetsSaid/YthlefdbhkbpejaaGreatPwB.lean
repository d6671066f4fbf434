/- Chapter 14: the loads of a valid world as sums; the power net of a site (plain). -/
import Derived.Test.YthlefdbhkbpejaaGreatPwA
import Derived.Test.YthlefdbhkbpejaaGreatSum
import Derived.Test.YthlefdbhkbpejaaGreatFNet
namespace Go.Proofs.YthlefdbhkbpejaaGreat
open Go F5

theorem sumT_sum (s : Site) (x : Wish) (v : Wld) (p : Nat → Bool) : ∀ k, sumT s x v p k = sumI k fun i => if p i = true then wattsH s x v i else 0
  | 0 => rfl
  | k + 1 => by
    rw [sumT_succ, sumT_sum s x v p k]
    simp only [sumI]
    split <;> omega
def rackI (s : Site) (i : Nat) : Nat := (s.hosts.getD i default).rack.toNat
def brkI (s : Site) (r : Nat) : Nat := (s.racks.getD r default).brk.toNat
def feedI (s : Site) (b : Nat) : Nat := (s.brks.getD b default).feed.toNat
def ofBrk (s : Site) (x : Wish) (v : Wld) (b : Int) : Int := sumH s x v fun i => decide ((s.racks.getD (s.hosts.getD i default).rack.toNat default).brk = b)
def ofFeed (s : Site) (x : Wish) (v : Wld) (f : Int) : Int := sumH s x v fun i => decide ((s.brks.getD (s.racks.getD (s.hosts.getD i default).rack.toNat default).brk.toNat default).feed = f)
def wattsN (s : Site) (x : Wish) (v : Wld) (h : Int) : Int := sumH s x v fun i => decide ((i : Int) = h)

theorem siteOk_rack {s : Site} (h : siteOk s = true) {i : Nat} (hi : i < s.racks.length) : 0 ≤ (s.racks.getD i default).brk ∧ (s.racks.getD i default).brk < (s.brks.length : Int) := by
  unfold siteOk at h
  simp only [Bool.and_eq_true, List.all_eq_true] at h
  have := h.2.2.2.2.1 _ (getD_in hi)
  unfold okRk idx at this
  simp only [Bool.and_eq_true, decide_eq_true_eq] at this
  exact this.2.1
theorem siteOk_brk {s : Site} (h : siteOk s = true) {i : Nat} (hi : i < s.brks.length) : (0 ≤ (s.brks.getD i default).feed ∧ (s.brks.getD i default).feed < (s.feeds.length : Int)) ∧ (0 ≤ (s.brks.getD i default).limit ∧ (s.brks.getD i default).limit ≤ 1000000) ∧ (0 ≤ (s.brks.getD i default).slow ∧ (s.brks.getD i default).slow ≤ 1000000) ∧ 0 ≤ (s.brks.getD i default).fast ∧ (s.brks.getD i default).fast ≤ 1000000 := by
  unfold siteOk at h
  simp only [Bool.and_eq_true, List.all_eq_true] at h
  have := h.2.2.1 _ (getD_in hi)
  unfold okBk idx num at this
  simp only [Bool.and_eq_true, decide_eq_true_eq] at this
  exact ⟨this.1, inR_iff.1 this.2.1.1, inR_iff.1 this.2.1.2, inR_iff.1 this.2.2⟩
theorem siteOk_feed {s : Site} (h : siteOk s = true) {i : Nat} (hi : i < s.feeds.length) : 0 ≤ (s.feeds.getD i default).limit ∧ (s.feeds.getD i default).limit ≤ 1000000 := by
  unfold siteOk at h
  simp only [Bool.and_eq_true, List.all_eq_true] at h
  have := h.2.1 _ (getD_in hi)
  unfold okFd num at this
  exact inR_iff.1 this
theorem siteOk_nums {s : Site} (h : siteOk s = true) : (1 ≤ s.feeds.length ∧ s.feeds.length ≤ 4) ∧ 1 ≤ s.brks.length ∧ s.brks.length ≤ 8 := by
  unfold siteOk sizesOk at h
  simp only [Bool.and_eq_true] at h
  have h1 := inR_iff.1 h.1.1
  have h2 := inR_iff.1 h.1.2.1
  omega

/- The watts of all hosts are few. -/
theorem sumI_mul (c : Int) (g : Nat → Int) : ∀ k, sumI k (fun i => c * g i) = c * sumI k g
  | 0 => by simp [sumI]
  | k + 1 => by simp only [sumI, sumI_mul c g k, Int.mul_add]
theorem sumI_const (c : Int) : ∀ k : Nat, sumI k (fun _ => c) = c * k
  | 0 => by simp [sumI]
  | k + 1 => by
    simp only [sumI, sumI_const c k, Int.natCast_add, Int.natCast_one, Int.mul_add, Int.mul_one]
theorem used_sum {x : Wish} {v : Wld} (hr : RepsIn x v) (n : Nat) : ∀ k, k ≤ v.reps.length → sumI n (fun h => usedL x (v.reps.take k) h) ≤ 1000 * k
  | 0, _ => by
    rw [show (fun h : Nat => usedL x (v.reps.take 0) h) = fun _ => 0 from funext fun h => by simp [usedL], sumI_zero]
    omega
  | k + 1, hk => by
    have ih := used_sum hr n k (by omega)
    have hlt : k < v.reps.length := by omega
    obtain ⟨r, hrr⟩ : ∃ r, v.reps.getD k default = r := ⟨_, rfl⟩
    have hs := hr.2.1 k hlt
    rw [hrr] at hs
    have hc := hr.2.2 r.svc.toNat (by omega)
    obtain ⟨c, hcc⟩ : ∃ c, (x.svcs.getD r.svc.toNat default).cores = c := ⟨_, rfl⟩
    rw [hcc] at hc
    have e : ∀ h : Nat, usedL x (v.reps.take (k + 1)) h ≤ usedL x (v.reps.take k) h + (if r.host.toNat = h then c else 0) := fun h => by
      rw [usedL_succ hlt r hrr, hcc]
      by_cases h1 : r.host = (h : Int)
      · rw [if_pos ⟨h1, hs⟩, if_pos (by omega)]
        omega
      · rw [if_neg (fun q => h1 q.1)]
        split <;> omega
    have h2 := sumI_le (k := n) fun h _ => e h
    rw [sumI_add, sumI_one (g := fun _ => c)] at h2
    have : (if r.host.toNat < n then c else 0) ≤ 1000 := by split <;> omega
    omega
theorem watts_used {s : Site} {x : Wish} {v : Wld} (h : worldOk s x v = true) {i : Nat} (hi : i < s.hosts.length) : wattsH s x v i ≤ 10000 + 1000 * used x v i := by
  unfold wattsH
  have h1 := siteOk_host (worldOk_site h) hi
  have h2 := used_le (h := (i : Int)) (worldOk_reps h)
  have h3 : (s.hosts.getD i default).per * used x v i ≤ 1000 * used x v i := Int.mul_le_mul_of_nonneg_right h1.2.2.2 h2.1
  split <;> omega
/-- The watts of all hosts together. -/
theorem total_le {s : Site} {x : Wish} {v : Wld} (h : worldOk s x v = true) : sumI s.hosts.length (fun i => wattsH s x v i) ≤ 24160000 := by
  have h1 := sumI_le (k := s.hosts.length) (g := fun i => wattsH s x v i) (h := fun i => 10000 + 1000 * used x v i) fun i hi => watts_used h hi
  rw [sumI_add, sumI_const, sumI_mul] at h1
  have h2 := used_sum (worldOk_reps h) s.hosts.length v.reps.length (Nat.le_refl _)
  rw [show (fun h : Nat => usedL x (v.reps.take v.reps.length) h) = fun h : Nat => used x v h from funext fun h => (used_all x v h).symm] at h2
  have h3 := (worldOk_reps h).1
  have h4 := (siteOk_sizes (worldOk_site h)).2.1
  omega
theorem sumH_le {s : Site} {x : Wish} {v : Wld} (h : worldOk s x v = true) (p : Nat → Bool) : 0 ≤ sumH s x v p ∧ sumH s x v p ≤ 24160000 := by
  rw [sumH_ok h, sumT_sum]
  have h1 := total_le h
  have h2 := sumI_le (k := s.hosts.length) (g := fun i => if p i = true then wattsH s x v i else 0) (h := fun i => wattsH s x v i) fun i hi => by
    have := wattsH_le h hi
    split <;> omega
  refine ⟨sumI_nonneg fun i hi => ?_, by omega⟩
  have := wattsH_le h hi
  split <;> omega

/-- The power net's numbers. -/
def pnOf (s : Site) (x : Wish) (v : Wld) : Pn := ⟨s.feeds.length, s.brks.length, s.racks.length, fun i => (s.feeds.getD i default).limit, fun i => (s.brks.getD i default).limit, feedI s, brkI s, fun r => ofRack s x v r⟩
theorem pn_ok {s : Site} {x : Wish} {v : Wld} (h : worldOk s x v = true) : (pnOf s x v).ok := by
  have hs := worldOk_site h
  refine ⟨fun i hi => ?_, fun i hi => ?_, fun i hi => (sumH_le h _).1⟩
  · have := (siteOk_brk hs (i := i) hi).1
    show (s.brks.getD i default).feed.toNat < s.feeds.length
    omega
  · have := siteOk_rack hs (i := i) hi
    show (s.racks.getD i default).brk.toNat < s.brks.length
    omega
theorem rackI_lt {s : Site} (h : siteOk s = true) {i : Nat} (hi : i < s.hosts.length) : rackI s i < s.racks.length := by
  have := (siteOk_host h hi).1
  unfold rackI
  omega
theorem rack_sum {s : Site} {x : Wish} {v : Wld} (h : worldOk s x v = true) (r : Nat) : ofRack s x v r = sumI s.hosts.length fun i => if rackI s i = r then wattsH s x v i else 0 := by
  unfold ofRack
  rw [sumH_ok h, sumT_sum]
  refine sumI_congr fun i hi => ?_
  have := (siteOk_host (worldOk_site h) hi).1
  unfold rackI
  by_cases e : (s.hosts.getD i default).rack = (r : Int)
  · rw [if_pos (decide_eq_true e), if_pos (by omega)]
  · rw [if_neg (by simp only [decide_eq_true_eq]; exact e), if_neg (by omega)]
theorem pn_loadB {s : Site} {x : Wish} {v : Wld} (h : worldOk s x v = true) (b : Nat) : (pnOf s x v).loadB b = ofBrk s x v b := by
  have hs := worldOk_site h
  unfold ofBrk
  rw [sumH_ok h, sumT_sum]
  have e := sumI_group (p := fun r => decide (brkI s r = b)) (ix := rackI s) (w := fun i => wattsH s x v i) (m := s.racks.length) (n := s.hosts.length) fun i hi => rackI_lt hs hi
  have e1 : (sumI s.hosts.length fun i => if decide ((s.racks.getD (s.hosts.getD i default).rack.toNat default).brk = (b : Int)) = true then wattsH s x v i else 0) = sumI s.hosts.length fun i => if decide (brkI s (rackI s i) = b) = true then wattsH s x v i else 0 := sumI_congr fun i hi => by
    have h2 := siteOk_rack hs (rackI_lt hs hi)
    unfold brkI
    unfold rackI at h2 ⊢
    simp only [decide_eq_true_eq]
    by_cases e : (s.racks.getD (s.hosts.getD i default).rack.toNat default).brk = (b : Int)
    · rw [if_pos e, if_pos (by omega)]
    · rw [if_neg e, if_neg (by omega)]
  rw [e1]
  refine Eq.trans ?_ e.symm
  refine sumI_congr fun r _ => ?_
  simp only [decide_eq_true_eq]
  show (if brkI s r = b then ofRack s x v r else 0) = _
  rw [rack_sum h r]
theorem pn_loadF {s : Site} {x : Wish} {v : Wld} (h : worldOk s x v = true) (f : Nat) : (pnOf s x v).loadF f = ofFeed s x v f := by
  have hs := worldOk_site h
  unfold ofFeed
  rw [sumH_ok h, sumT_sum]
  have hb : ∀ i, i < s.hosts.length → brkI s (rackI s i) < s.brks.length := fun i hi => (pn_ok h).rb _ (rackI_lt hs hi)
  have e := sumI_group (p := fun b => decide (feedI s b = f)) (ix := fun i => brkI s (rackI s i)) (w := fun i => wattsH s x v i) (m := s.brks.length) (n := s.hosts.length) hb
  have e1 : (sumI s.hosts.length fun i => if decide ((s.brks.getD (s.racks.getD (s.hosts.getD i default).rack.toNat default).brk.toNat default).feed = (f : Int)) = true then wattsH s x v i else 0) = sumI s.hosts.length fun i => if decide (feedI s (brkI s (rackI s i)) = f) = true then wattsH s x v i else 0 := sumI_congr fun i hi => by
    have h2 := (siteOk_brk hs (hb i hi)).1
    unfold feedI
    unfold brkI rackI at h2 ⊢
    simp only [decide_eq_true_eq]
    by_cases e : (s.brks.getD (s.racks.getD (s.hosts.getD i default).rack.toNat default).brk.toNat default).feed = (f : Int)
    · rw [if_pos e, if_pos (by omega)]
    · rw [if_neg e, if_neg (by omega)]
  rw [e1]
  refine Eq.trans ?_ e.symm
  refine sumI_congr fun b _ => ?_
  simp only [decide_eq_true_eq]
  show (if feedI s b = f then (pnOf s x v).loadB b else 0) = _
  rw [pn_loadB h b]
  unfold ofBrk
  rw [sumH_ok h, sumT_sum]
  congr 1
  refine sumI_congr fun i hi => ?_
  have h2 := siteOk_rack hs (rackI_lt hs hi)
  unfold brkI
  unfold rackI at h2 ⊢
  simp only [decide_eq_true_eq]
  by_cases e : (s.racks.getD (s.hosts.getD i default).rack.toNat default).brk = (b : Int)
  · rw [if_pos e, if_pos (by omega)]
  · rw [if_neg e, if_neg (by omega)]
theorem pn_all {s : Site} {x : Wish} {v : Wld} (h : worldOk s x v = true) : sumI s.racks.length (fun r => ofRack s x v r) = sumI s.hosts.length fun i => wattsH s x v i := by
  rw [sumI_all (w := fun i => wattsH s x v i) (ix := rackI s) (m := s.racks.length) fun i hi => rackI_lt (worldOk_site h) hi]
  exact sumI_congr fun r _ => rack_sum h r
/-- The power net is proper. -/
theorem pn_net {s : Site} {x : Wish} {v : Wld} (h : worldOk s x v = true) : netOk (pnOf s x v).nodes (pnOf s x v).arcs = true := by
  have hs := worldOk_site h
  have h1 := siteOk_nums hs
  have h2 := siteOk_sizes hs
  have hp := pn_ok h
  have q1 : (pnOf s x v).nf = s.feeds.length := rfl
  have q2 : (pnOf s x v).nb = s.brks.length := rfl
  have q3 : (pnOf s x v).nr = s.racks.length := rfl
  refine netOk_iff.2 ⟨?_, ?_, ?_, fun a ha => okA_iff.2 ?_⟩
  · unfold Pn.nodes; omega
  · unfold Pn.nodes; omega
  · unfold Pn.arcs Pn.a1 Pn.a2 Pn.a3 Pn.a4
    simp only [List.length_append, List.length_map, List.length_range]
    omega
  · unfold Pn.arcs Pn.a1 Pn.a2 Pn.a3 Pn.a4 at ha
    unfold Pn.nodes
    simp only [List.mem_append, List.mem_map, List.mem_range] at ha
    rcases ha with ⟨i, hi, rfl⟩ | ⟨i, hi, rfl⟩ | ⟨i, hi, rfl⟩ | ⟨i, hi, rfl⟩
    · have : 0 ≤ (pnOf s x v).lf i ∧ (pnOf s x v).lf i ≤ 1000000 := siteOk_feed hs hi
      simp only; omega
    · have := hp.bf i hi
      have : 0 ≤ (pnOf s x v).lb i ∧ (pnOf s x v).lb i ≤ 1000000 := (siteOk_brk hs hi).2.1
      simp only; omega
    · have := hp.rb i hi
      have : 0 ≤ (pnOf s x v).ld i ∧ (pnOf s x v).ld i ≤ 24160000 := sumH_le h _
      simp only; omega
    · have : 0 ≤ (pnOf s x v).ld i ∧ (pnOf s x v).ld i ≤ 24160000 := sumH_le h _
      simp only; omega
end Go.Proofs.YthlefdbhkbpejaaGreat
