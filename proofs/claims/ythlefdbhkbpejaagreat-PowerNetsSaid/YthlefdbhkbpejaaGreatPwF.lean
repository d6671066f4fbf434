/- Chapter 14: the document's loads: sums of sums (plain). -/
import Derived.Test.YthlefdbhkbpejaaGreatPwC
namespace Go.Proofs.YthlefdbhkbpejaaGreat
open Go

def partK (P : Pn) (f b : Nat) : Int := sumI b fun b => if P.bf b = f then min (P.loadB b) (P.lb b) else 0
def kIn (P : Pn) (f : Nat) : Nat → Bool
  | 0 => true
  | b + 1 => kIn P f b && (if P.bf b = f then decide (P.loadB b ≤ P.lb b) else true)
def kOut (P : Pn) : Nat → Bool
  | 0 => true
  | f + 1 => kOut P f && kIn P f P.nb && decide (P.loadF f ≤ P.lf f)
def carK (P : Pn) (f : Nat) : Int := sumI f fun f => min (P.part f) (P.lf f)
def allK (s : Site) (x : Wish) (v : Wld) (i : Nat) : Int := sumI i fun i => wattsN s x v i

theorem partK_succ (P : Pn) (f b : Nat) : partK P f (b + 1) = if P.bf b = f then partK P f b + min (P.loadB b) (P.lb b) else partK P f b := by
  unfold partK
  simp only [sumI]
  split <;> omega
theorem carK_succ (P : Pn) (f : Nat) : carK P (f + 1) = carK P f + min (partK P f P.nb) (P.lf f) := rfl
theorem kIn_succ (P : Pn) (f b : Nat) : kIn P f (b + 1) = if P.bf b = f then (kIn P f b && decide (P.loadB b ≤ P.lb b)) else kIn P f b := by
  show (kIn P f b && _) = _
  split <;> simp
theorem kIn_iff (P : Pn) (f : Nat) : ∀ b, kIn P f b = true ↔ ∀ i, i < b → P.bf i = f → P.loadB i ≤ P.lb i
  | 0 => by simp [kIn]
  | b + 1 => by
    rw [kIn_succ]
    have ih := kIn_iff P f b
    constructor
    · intro h i hi he
      by_cases hb : P.bf b = f
      · rw [if_pos hb, Bool.and_eq_true, decide_eq_true_eq] at h
        by_cases e : i = b
        · rw [e]; exact h.2
        · exact ih.1 h.1 i (by omega) he
      · rw [if_neg hb] at h
        exact ih.1 h i (by by_cases e : i = b; · rw [e] at he; exact absurd he hb
                           · omega) he
    · intro h
      have h1 := ih.2 fun i hi he => h i (by omega) he
      split
      · rename_i hb
        rw [h1, Bool.true_and, decide_eq_true_eq]
        exact h b (by omega) hb
      · exact h1
theorem kOut_iff (P : Pn) : ∀ f, kOut P f = true ↔ ∀ g, g < f → (∀ i, i < P.nb → P.bf i = g → P.loadB i ≤ P.lb i) ∧ P.loadF g ≤ P.lf g
  | 0 => by simp [kOut]
  | f + 1 => by
    have ih := kOut_iff P f
    simp only [kOut, Bool.and_eq_true, decide_eq_true_eq]
    rw [ih, kIn_iff]
    constructor
    · rintro ⟨⟨h1, h2⟩, h3⟩ g hg
      by_cases e : g = f
      · subst e; exact ⟨h2, h3⟩
      · exact h1 g (by omega)
    · intro h
      exact ⟨⟨fun g hg => h g (by omega), (h f (by omega)).1⟩, (h f (by omega)).2⟩
theorem allK_end {s : Site} {x : Wish} {v : Wld} (h : worldOk s x v = true) : allK s x v s.hosts.length = totW s x v :=
  sumI_congr fun i hi => by rw [wattsN_val h, if_pos hi]
/-- The law's last comparison. -/
theorem car_kept {s : Site} {x : Wish} {v : Wld} (h : worldOk s x v = true) : decide ((pnOf s x v).val = allK s x v s.hosts.length) = kOut (pnOf s x v) s.feeds.length := by
  have hp := pn_ok h
  have h1 := (pnOf s x v).all hp
  have h2 : sumI (pnOf s x v).nr (pnOf s x v).ld = totW s x v := pn_all h
  have h3 := kOut_iff (pnOf s x v) s.feeds.length
  rw [h2] at h1
  rw [allK_end h]
  have h4 : (pnOf s x v).val = totW s x v ↔ kOut (pnOf s x v) s.feeds.length = true := by
    rw [h1, h3]
    constructor
    · rintro ⟨hb, hf⟩ g hg
      exact ⟨fun i hi _ => hb i hi, hf g hg⟩
    · intro hh
      exact ⟨fun b hb => (hh _ (hp.bf b hb)).1 b hb rfl, fun f hf => (hh f hf).2⟩
  by_cases hk : kOut (pnOf s x v) s.feeds.length = true
  · rw [hk, decide_eq_true_eq]; exact h4.2 hk
  · rw [Bool.not_eq_true] at hk
    rw [hk, decide_eq_false_iff_not]
    intro e
    rw [h4, hk] at e
    cases e
theorem sumI_bound {g : Nat → Int} {c : Int} : ∀ {k : Nat}, (∀ i, i < k → 0 ≤ g i ∧ g i ≤ c) → 0 ≤ sumI k g ∧ sumI k g ≤ c * k
  | 0, _ => by simp [sumI]
  | k + 1, h => by
    have ih := sumI_bound (k := k) fun i hi => h i (by omega)
    have := h k (by omega)
    have e : c * ((k + 1 : Nat) : Int) = c * k + c := by rw [Int.natCast_add, Int.natCast_one, Int.mul_add, Int.mul_one]
    simp only [sumI]
    omega
theorem pn_lb {s : Site} {x : Wish} {v : Wld} (h : worldOk s x v = true) {b : Nat} (hb : b < s.brks.length) : 0 ≤ (pnOf s x v).lb b ∧ (pnOf s x v).lb b ≤ 1000000 := (siteOk_brk (worldOk_site h) hb).2.1
theorem pn_lf {s : Site} {x : Wish} {v : Wld} (h : worldOk s x v = true) {f : Nat} (hf : f < s.feeds.length) : 0 ≤ (pnOf s x v).lf f ∧ (pnOf s x v).lf f ≤ 1000000 := siteOk_feed (worldOk_site h) hf
theorem pn_lB {s : Site} {x : Wish} {v : Wld} (h : worldOk s x v = true) (b : Nat) : 0 ≤ (pnOf s x v).loadB b ∧ (pnOf s x v).loadB b ≤ 24160000 := by
  rw [pn_loadB h]
  exact sumH_le h _
theorem pn_lF {s : Site} {x : Wish} {v : Wld} (h : worldOk s x v = true) (f : Nat) : 0 ≤ (pnOf s x v).loadF f ∧ (pnOf s x v).loadF f ≤ 24160000 := by
  rw [pn_loadF h]
  exact sumH_le h _
theorem partK_le {s : Site} {x : Wish} {v : Wld} (h : worldOk s x v = true) (f : Nat) {b : Nat} (hb : b ≤ s.brks.length) : 0 ≤ partK (pnOf s x v) f b ∧ partK (pnOf s x v) f b ≤ 1000000 * b :=
  sumI_bound fun i hi => by
    have h1 := pn_lb h (b := i) (by omega)
    have h2 := pn_lB h i
    split <;> omega
theorem carK_le {s : Site} {x : Wish} {v : Wld} (h : worldOk s x v = true) {f : Nat} (hf : f ≤ s.feeds.length) : 0 ≤ carK (pnOf s x v) f ∧ carK (pnOf s x v) f ≤ 1000000 * f :=
  sumI_bound fun i hi => by
    have h1 := pn_lf h (f := i) (by omega)
    have h2 : 0 ≤ (pnOf s x v).part i := (partK_le h i (Nat.le_refl s.brks.length)).1
    omega
theorem wattsN_le {s : Site} {x : Wish} {v : Wld} (h : worldOk s x v = true) (i : Int) : 0 ≤ wattsN s x v i ∧ wattsN s x v i ≤ 24160000 := sumH_le h _
theorem allK_le {s : Site} {x : Wish} {v : Wld} (h : worldOk s x v = true) (i : Nat) : 0 ≤ allK s x v i ∧ allK s x v i ≤ 24160000 * i := sumI_bound fun j _ => wattsN_le h j
end Go.Proofs.YthlefdbhkbpejaaGreat

namespace Go.Proofs.YthlefdbhkbpejaaGreat
open Go

def rackT (s : Site) (x : Wish) (v : Wld) (r : Int) (k : Nat) : Int := sumI k fun i => if (s.hosts.getD i default).rack = r then wattsN s x v i else 0
def brkT (s : Site) (x : Wish) (v : Wld) (b : Int) (k : Nat) : Int := sumI k fun i => if (s.racks.getD i default).brk = b then ofRack s x v i else 0
def feedT (s : Site) (x : Wish) (v : Wld) (f : Int) (k : Nat) : Int := sumI k fun i => if (s.brks.getD i default).feed = f then ofBrk s x v i else 0
theorem rackT_succ {s : Site} {x : Wish} {v : Wld} {r : Int} {k : Nat} : rackT s x v r (k + 1) = if (s.hosts.getD k default).rack = r then rackT s x v r k + wattsN s x v k else rackT s x v r k := by
  unfold rackT
  simp only [sumI]
  split <;> omega
theorem brkT_succ {s : Site} {x : Wish} {v : Wld} {r : Int} {k : Nat} : brkT s x v r (k + 1) = if (s.racks.getD k default).brk = r then brkT s x v r k + ofRack s x v k else brkT s x v r k := by
  unfold brkT
  simp only [sumI]
  split <;> omega
theorem feedT_succ {s : Site} {x : Wish} {v : Wld} {r : Int} {k : Nat} : feedT s x v r (k + 1) = if (s.brks.getD k default).feed = r then feedT s x v r k + ofBrk s x v k else feedT s x v r k := by
  unfold feedT
  simp only [sumI]
  split <;> omega
theorem sumH_in (s : Site) (x : Wish) (v : Wld) (p : Nat → Bool) : 0 ≤ sumH s x v p ∧ sumH s x v p ≤ 24160000 := by
  cases h : worldOk s x v
  · rw [sumH_no h]; omega
  · exact sumH_le h p
theorem wattsN_in (s : Site) (x : Wish) (v : Wld) (i : Int) : 0 ≤ wattsN s x v i ∧ wattsN s x v i ≤ 24160000 := sumH_in s x v _
theorem ofRack_in (s : Site) (x : Wish) (v : Wld) (i : Int) : 0 ≤ ofRack s x v i ∧ ofRack s x v i ≤ 24160000 := sumH_in s x v _
theorem ofBrk_in (s : Site) (x : Wish) (v : Wld) (i : Int) : 0 ≤ ofBrk s x v i ∧ ofBrk s x v i ≤ 24160000 := sumH_in s x v _
theorem ofFeed_in (s : Site) (x : Wish) (v : Wld) (i : Int) : 0 ≤ ofFeed s x v i ∧ ofFeed s x v i ≤ 24160000 := sumH_in s x v _
theorem rackT_in (s : Site) (x : Wish) (v : Wld) (r : Int) (k : Nat) : 0 ≤ rackT s x v r k ∧ rackT s x v r k ≤ 24160000 * k := sumI_bound fun i _ => by have := wattsN_in s x v i; split <;> omega
theorem brkT_in (s : Site) (x : Wish) (v : Wld) (r : Int) (k : Nat) : 0 ≤ brkT s x v r k ∧ brkT s x v r k ≤ 24160000 * k := sumI_bound fun i _ => by have := ofRack_in s x v i; split <;> omega
theorem feedT_in (s : Site) (x : Wish) (v : Wld) (r : Int) (k : Nat) : 0 ≤ feedT s x v r k ∧ feedT s x v r k ≤ 24160000 * k := sumI_bound fun i _ => by have := ofBrk_in s x v i; split <;> omega
theorem wattsN_out {s : Site} {x : Wish} {v : Wld} {h : Int} (hn : ¬ (0 ≤ h ∧ h < (s.hosts.length : Int))) : wattsN s x v h = 0 := by
  cases hw : worldOk s x v
  · exact sumH_no hw
  · unfold wattsN
    rw [sumH_ok hw, sumT_sum]
    refine (sumI_congr (h := fun _ => 0) fun i hi => ?_).trans (sumI_zero _)
    rw [if_neg (by simp only [decide_eq_true_eq]; omega)]
theorem sumI_no {g : Nat → Int} {k : Nat} (h : ∀ i, g i = 0) : sumI k g = 0 := (sumI_congr (h := fun _ => 0) fun i _ => h i).trans (sumI_zero _)
theorem rackT_end (s : Site) (x : Wish) (v : Wld) (r : Int) : rackT s x v r s.hosts.length = ofRack s x v r := by
  cases h : worldOk s x v
  · unfold ofRack rackT
    rw [sumH_no h]
    exact sumI_no fun i => by unfold wattsN; rw [sumH_no h]; split <;> rfl
  · unfold ofRack
    rw [sumH_ok h, sumT_sum]
    refine sumI_congr fun i hi => ?_
    rw [wattsN_val h, if_pos hi]
    simp only [decide_eq_true_eq]
theorem brkT_end (s : Site) (x : Wish) (v : Wld) (b : Int) : brkT s x v b s.racks.length = ofBrk s x v b := by
  cases h : worldOk s x v
  · unfold ofBrk brkT
    rw [sumH_no h]
    exact sumI_no fun i => by unfold ofRack; rw [sumH_no h]; split <;> rfl
  · by_cases hb : 0 ≤ b
    · obtain ⟨b, rfl⟩ : ∃ n : Nat, b = n := ⟨b.toNat, by omega⟩
      rw [← pn_loadB h]
      refine sumI_congr fun i hi => ?_
      have h1 := siteOk_rack (worldOk_site h) hi
      show _ = if brkI s i = b then ofRack s x v i else 0
      unfold brkI
      by_cases e : (s.racks.getD i default).brk = (b : Int)
      · rw [if_pos e, if_pos (by omega)]
      · rw [if_neg e, if_neg (by omega)]
    · unfold ofBrk brkT
      rw [sumH_ok h, sumT_sum]
      refine ((sumI_congr (h := fun _ => 0) fun i hi => ?_).trans (sumI_zero _)).trans ((sumI_congr (h := fun _ => 0) fun i hi => ?_).trans (sumI_zero _)).symm
      · have h1 := siteOk_rack (worldOk_site h) hi
        rw [if_neg (by omega)]
      · have h1 := siteOk_rack (worldOk_site h) (rackI_lt (worldOk_site h) hi)
        unfold rackI at h1
        rw [if_neg (by simp only [decide_eq_true_eq]; omega)]
theorem feedT_end (s : Site) (x : Wish) (v : Wld) (f : Int) : feedT s x v f s.brks.length = ofFeed s x v f := by
  cases h : worldOk s x v
  · unfold ofFeed feedT
    rw [sumH_no h]
    exact sumI_no fun i => by unfold ofBrk; rw [sumH_no h]; split <;> rfl
  · by_cases hb : 0 ≤ f
    · obtain ⟨f, rfl⟩ : ∃ n : Nat, f = n := ⟨f.toNat, by omega⟩
      rw [← pn_loadF h]
      refine sumI_congr fun i hi => ?_
      have h1 := (siteOk_brk (worldOk_site h) hi).1
      show _ = if feedI s i = f then (pnOf s x v).loadB i else 0
      rw [pn_loadB h]
      unfold feedI
      by_cases e : (s.brks.getD i default).feed = (f : Int)
      · rw [if_pos e, if_pos (by omega)]
      · rw [if_neg e, if_neg (by omega)]
    · unfold ofFeed feedT
      rw [sumH_ok h, sumT_sum]
      refine ((sumI_congr (h := fun _ => 0) fun i hi => ?_).trans (sumI_zero _)).trans ((sumI_congr (h := fun _ => 0) fun i hi => ?_).trans (sumI_zero _)).symm
      · have h1 := (siteOk_brk (worldOk_site h) hi).1
        rw [if_neg (by omega)]
      · have h1 := (siteOk_brk (worldOk_site h) ((pn_ok h).rb _ (rackI_lt (worldOk_site h) hi))).1
        change 0 ≤ (s.brks.getD (brkI s (rackI s i)) default).feed ∧ _ at h1
        unfold brkI rackI at h1
        rw [if_neg (by simp only [decide_eq_true_eq]; omega)]
end Go.Proofs.YthlefdbhkbpejaaGreat
