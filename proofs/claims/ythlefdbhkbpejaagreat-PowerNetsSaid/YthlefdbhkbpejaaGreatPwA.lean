/- Chapter 14: sums, and the least cut of the power net (plain). -/
import Derived.Test.YthlefdbhkbpejaaGreatFMst
namespace Go.Proofs.YthlefdbhkbpejaaGreat
open F5

def sumI : Nat → (Nat → Int) → Int
  | 0, _ => 0
  | k + 1, g => sumI k g + g k
theorem sumI_congr {g h : Nat → Int} : ∀ {k : Nat}, (∀ i, i < k → g i = h i) → sumI k g = sumI k h
  | 0, _ => rfl
  | k + 1, e => by
    simp only [sumI, sumI_congr (k := k) fun i hi => e i (by omega), e k (by omega)]
theorem sumI_le {g h : Nat → Int} : ∀ {k : Nat}, (∀ i, i < k → g i ≤ h i) → sumI k g ≤ sumI k h
  | 0, _ => by simp [sumI]
  | k + 1, e => by
    have := sumI_le (k := k) fun i hi => e i (by omega)
    have := e k (by omega)
    simp only [sumI]
    omega
theorem sumI_add (g h : Nat → Int) : ∀ k, sumI k (fun i => g i + h i) = sumI k g + sumI k h
  | 0 => rfl
  | k + 1 => by
    simp only [sumI, sumI_add g h k]
    omega
theorem sumI_zero : ∀ k, sumI k (fun _ => 0) = 0
  | 0 => rfl
  | k + 1 => by simp only [sumI, sumI_zero k]; rfl
theorem sumI_nonneg {g : Nat → Int} {k : Nat} (h : ∀ i, i < k → 0 ≤ g i) : 0 ≤ sumI k g := by
  have := sumI_le (k := k) (g := fun _ => 0) (h := g) h
  rw [sumI_zero] at this
  exact this
theorem sumI_one {g : Nat → Int} {j : Nat} : ∀ {m : Nat}, sumI m (fun i => if j = i then g i else 0) = if j < m then g j else 0
  | 0 => by simp [sumI]
  | m + 1 => by
    simp only [sumI, sumI_one (m := m)]
    by_cases h : j = m
    · subst h
      rw [if_neg (by omega), if_pos rfl, if_pos (by omega)]; omega
    · rw [if_neg h]
      by_cases h2 : j < m
      · rw [if_pos h2, if_pos (by omega)]; omega
      · rw [if_neg h2, if_neg (by omega)]; omega
/-- What is summed over all is summed group by group. -/
theorem sumI_group {p : Nat → Bool} {ix : Nat → Nat} {w : Nat → Int} {m : Nat} : ∀ {n : Nat}, (∀ i, i < n → ix i < m) →
    sumI n (fun i => if p (ix i) = true then w i else 0) = sumI m (fun j => if p j = true then sumI n (fun i => if ix i = j then w i else 0) else 0)
  | 0, _ => by
    rw [show (fun j => if p j = true then sumI 0 (fun i => if ix i = j then w i else 0) else 0) = fun _ => (0 : Int) from funext fun j => by simp [sumI], sumI_zero]
    rfl
  | n + 1, h => by
    have ih := sumI_group (p := p) (ix := ix) (w := w) (m := m) (n := n) fun i hi => h i (by omega)
    have e : ∀ j, (if p j = true then sumI (n + 1) (fun i => if ix i = j then w i else 0) else 0) = (if p j = true then sumI n (fun i => if ix i = j then w i else 0) else 0) + (if ix n = j then (if p j = true then w n else 0) else 0) := fun j => by
      simp only [sumI]
      by_cases hp : p j = true <;> by_cases hj : ix n = j <;> simp [hp, hj]
    rw [funext e, sumI_add, ← ih, sumI_one (g := fun j => if p j = true then w n else 0), if_pos (h n (by omega))]
    rfl
theorem sumI_all {ix : Nat → Nat} {w : Nat → Int} {m n : Nat} (h : ∀ i, i < n → ix i < m) : sumI n w = sumI m (fun j => sumI n (fun i => if ix i = j then w i else 0)) := by
  have := sumI_group (p := fun _ => true) (w := w) h
  simpa using this
theorem sumI_eq {g h : Nat → Int} : ∀ {k : Nat}, (∀ i, i < k → g i ≤ h i) → sumI k g = sumI k h → ∀ i, i < k → g i = h i
  | 0, _, _, i, hi => by omega
  | k + 1, hle, he, i, hi => by
    have h1 := sumI_le (k := k) fun i hi => hle i (by omega)
    have h2 := hle k (by omega)
    simp only [sumI] at he
    by_cases hk : i = k
    · subst hk; omega
    · exact sumI_eq (k := k) (fun i hi => hle i (by omega)) (by omega) i (by omega)

/-- The numbers that the power net is made of. -/
structure Pn where
  nf : Nat
  nb : Nat
  nr : Nat
  lf : Nat → Int
  lb : Nat → Int
  bf : Nat → Nat
  rb : Nat → Nat
  ld : Nat → Int
structure Pn.ok (P : Pn) : Prop where
  bf : ∀ i, i < P.nb → P.bf i < P.nf
  rb : ∀ i, i < P.nr → P.rb i < P.nb
  ld : ∀ i, i < P.nr → 0 ≤ P.ld i
def Pn.a1 (P : Pn) (k : Nat) : List Ar := (List.range k).map fun i : Nat => ⟨0, 2 + i, P.lf i⟩
def Pn.a2 (P : Pn) (k : Nat) : List Ar := (List.range k).map fun i : Nat => ⟨2 + P.bf i, 2 + P.nf + i, P.lb i⟩
def Pn.a3 (P : Pn) (k : Nat) : List Ar := (List.range k).map fun i : Nat => ⟨2 + P.nf + P.rb i, 2 + P.nf + P.nb + i, P.ld i⟩
def Pn.a4 (P : Pn) (k : Nat) : List Ar := (List.range k).map fun i : Nat => ⟨2 + P.nf + P.nb + i, 1, P.ld i⟩
def Pn.arcs (P : Pn) : List Ar := P.a1 P.nf ++ (P.a2 P.nb ++ (P.a3 P.nr ++ P.a4 P.nr))
def Pn.nodes (P : Pn) : Nat := 2 + P.nf + P.nb + P.nr
def Pn.loadB (P : Pn) (b : Nat) : Int := sumI P.nr fun r => if P.rb r = b then P.ld r else 0
def Pn.loadF (P : Pn) (f : Nat) : Int := sumI P.nb fun b => if P.bf b = f then P.loadB b else 0
def Pn.part (P : Pn) (f : Nat) : Int := sumI P.nb fun b => if P.bf b = f then min (P.loadB b) (P.lb b) else 0
def Pn.val (P : Pn) : Int := sumI P.nf fun f => min (P.part f) (P.lf f)

theorem capS_app (S : Int → Bool) : ∀ l m : List Ar, capS S (l ++ m) = capS S l + capS S m
  | [], m => by simp [capS]
  | a :: l, m => by
    simp only [List.cons_append, capS, capS_app S l m]
    omega
theorem capS_map (S : Int → Bool) (g : Nat → Ar) : ∀ k, capS S ((List.range k).map g) = sumI k fun i => if S (g i).u = true ∧ S (g i).v = false then (g i).c else 0
  | 0 => rfl
  | k + 1 => by
    rw [List.range_succ, List.map_append, capS_app, capS_map S g k]
    simp [capS, sumI]
theorem Pn.cap (P : Pn) (S : Int → Bool) (h0 : S 0 = true) (h1 : S 1 = false) : capS S P.arcs =
    sumI P.nf (fun i => if S (2 + i) = false then P.lf i else 0) + (sumI P.nb (fun i => if S (2 + P.bf i) = true ∧ S (2 + P.nf + i) = false then P.lb i else 0) + (sumI P.nr (fun i => if S (2 + P.nf + P.rb i) = true ∧ S (2 + P.nf + P.nb + i) = false then P.ld i else 0) + sumI P.nr (fun i => if S (2 + P.nf + P.nb + i) = true then P.ld i else 0))) := by
  unfold Pn.arcs Pn.a1 Pn.a2 Pn.a3 Pn.a4
  rw [capS_app, capS_app, capS_app, capS_map, capS_map, capS_map, capS_map]
  simp only [h0, h1, true_and, and_true]
/-- The breakers' part of a cut, feed by feed. -/
theorem Pn.feeds (P : Pn) (h : P.ok) (p : Nat → Bool) : sumI P.nb (fun b => if p (P.bf b) = true then min (P.loadB b) (P.lb b) else 0) = sumI P.nf (fun f => if p f = true then P.part f else 0) := sumI_group h.bf
theorem Pn.loads (P : Pn) (h : P.ok) (p : Nat → Bool) : sumI P.nr (fun r => if p (P.rb r) = true then P.ld r else 0) = sumI P.nb (fun b => if p b = true then P.loadB b else 0) := sumI_group h.rb
/-- No cut is less. -/
theorem Pn.cut_ge (P : Pn) (h : P.ok) {S : Int → Bool} (h0 : S 0 = true) (h1 : S 1 = false) : P.val ≤ capS S P.arcs := by
  rw [P.cap S h0 h1]
  have e1 : sumI P.nr (fun r => if S (2 + P.nf + P.rb r) = true then P.ld r else 0) ≤ sumI P.nr (fun i => if S (2 + P.nf + P.rb i) = true ∧ S (2 + P.nf + P.nb + i) = false then P.ld i else 0) + sumI P.nr (fun i => if S (2 + P.nf + P.nb + i) = true then P.ld i else 0) := by
    rw [← sumI_add]
    refine sumI_le fun i hi => ?_
    have := h.ld i hi
    cases S (2 + P.nf + P.rb i) <;> cases S (2 + P.nf + P.nb + i) <;> simp <;> omega
  have e2 := P.loads h (fun b => S (2 + P.nf + b))
  have e3 : sumI P.nb (fun b => if S (2 + P.bf b) = true then min (P.loadB b) (P.lb b) else 0) ≤ sumI P.nb (fun i => if S (2 + P.bf i) = true ∧ S (2 + P.nf + i) = false then P.lb i else 0) + sumI P.nb (fun b => if S (2 + P.nf + b) = true then P.loadB b else 0) := by
    rw [← sumI_add]
    refine sumI_le fun i hi => ?_
    have : 0 ≤ P.loadB i := sumI_nonneg fun r hr => by
      have := h.ld r hr
      split <;> omega
    cases S (2 + P.bf i) <;> cases S (2 + P.nf + i) <;> simp <;> omega
  have e4 := P.feeds h (fun f => S (2 + f))
  have e5 : P.val ≤ sumI P.nf (fun i => if S (2 + i) = false then P.lf i else 0) + sumI P.nf (fun f => if S (2 + f) = true then P.part f else 0) := by
    rw [← sumI_add]
    refine sumI_le fun i hi => ?_
    cases S (2 + i) <;> simp <;> omega
  omega
/-- A cut of that capacity. -/
def Pn.inF (P : Pn) (f : Nat) : Bool := decide (P.part f < P.lf f)
def Pn.inB (P : Pn) (b : Nat) : Bool := P.inF (P.bf b) && decide (P.loadB b < P.lb b)
def Pn.inS (P : Pn) (x : Int) : Bool :=
  if x = 0 then true else if x = 1 then false else if x < 2 + P.nf then P.inF (x - 2).toNat else if x < 2 + P.nf + P.nb then P.inB (x - 2 - P.nf).toNat else P.inB (P.rb (x - 2 - P.nf - P.nb).toNat)
theorem Pn.inS_f (P : Pn) {i : Nat} (hi : i < P.nf) : P.inS (2 + i) = P.inF i := by
  unfold Pn.inS
  rw [if_neg (by omega), if_neg (by omega), if_pos (by omega), show (2 + (i : Int) - 2).toNat = i by omega]
theorem Pn.inS_b (P : Pn) {i : Nat} (hi : i < P.nb) : P.inS (2 + P.nf + i) = P.inB i := by
  unfold Pn.inS
  rw [if_neg (by omega), if_neg (by omega), if_neg (by omega), if_pos (by omega), show (2 + (P.nf : Int) + i - 2 - P.nf).toNat = i by omega]
theorem Pn.inS_r (P : Pn) (i : Nat) : P.inS (2 + P.nf + P.nb + i) = P.inB (P.rb i) := by
  unfold Pn.inS
  rw [if_neg (by omega), if_neg (by omega), if_neg (by omega), if_neg (by omega), show (2 + (P.nf : Int) + P.nb + i - 2 - P.nf - P.nb).toNat = i by omega]
theorem Pn.cut_is (P : Pn) (h : P.ok) : capS P.inS P.arcs = P.val := by
  rw [P.cap P.inS (by simp [Pn.inS]) (by simp [Pn.inS])]
  have e1 : sumI P.nf (fun i => if P.inS (2 + i) = false then P.lf i else 0) = sumI P.nf (fun i => if P.inF i = false then P.lf i else 0) := sumI_congr fun i hi => by rw [P.inS_f hi]
  have e2 : sumI P.nb (fun i => if P.inS (2 + P.bf i) = true ∧ P.inS (2 + P.nf + i) = false then P.lb i else 0) = sumI P.nb (fun i => if P.inF (P.bf i) = true ∧ P.inB i = false then P.lb i else 0) := sumI_congr fun i hi => by rw [P.inS_f (h.bf i hi), P.inS_b hi]
  have e3 : sumI P.nr (fun i => if P.inS (2 + P.nf + P.rb i) = true ∧ P.inS (2 + P.nf + P.nb + i) = false then P.ld i else 0) = 0 := by
    refine (sumI_congr (h := fun _ => 0) fun i hi => ?_).trans (sumI_zero _)
    rw [P.inS_b (h.rb i hi), P.inS_r]
    cases P.inB (P.rb i) <;> simp
  have e4 : sumI P.nr (fun i => if P.inS (2 + P.nf + P.nb + i) = true then P.ld i else 0) = sumI P.nb (fun b => if P.inB b = true then P.loadB b else 0) := by
    rw [← P.loads h P.inB]
    exact sumI_congr fun i _ => by rw [P.inS_r]
  have e5 : sumI P.nb (fun i => if P.inF (P.bf i) = true ∧ P.inB i = false then P.lb i else 0) + sumI P.nb (fun b => if P.inB b = true then P.loadB b else 0) = sumI P.nb (fun b => if P.inF (P.bf b) = true then min (P.loadB b) (P.lb b) else 0) := by
    rw [← sumI_add]
    refine sumI_congr fun i _ => ?_
    unfold Pn.inB
    cases hf : P.inF (P.bf i)
    · simp
    · by_cases hl : P.loadB i < P.lb i <;> simp [hl] <;> omega
  have e6 : sumI P.nf (fun i => if P.inF i = false then P.lf i else 0) + sumI P.nf (fun f => if P.inF f = true then P.part f else 0) = P.val := by
    rw [← sumI_add]
    refine sumI_congr fun i _ => ?_
    unfold Pn.inF
    by_cases hl : P.part i < P.lf i <;> simp [hl] <;> omega
  rw [P.feeds h P.inF] at e5
  omega
theorem Pn.in_ok (P : Pn) (h : P.ok) : inN P.nodes P.arcs := by
  intro a ha
  unfold Pn.arcs Pn.a1 Pn.a2 Pn.a3 Pn.a4 at ha
  unfold Pn.nodes
  simp only [List.mem_append, List.mem_map, List.mem_range] at ha
  rcases ha with ⟨i, hi, rfl⟩ | ⟨i, hi, rfl⟩ | ⟨i, hi, rfl⟩ | ⟨i, hi, rfl⟩
  · simp only; omega
  · have := h.bf i hi; simp only; omega
  · have := h.rb i hi; simp only; omega
  · simp only; omega
/-- What the power net carries. -/
theorem Pn.best (P : Pn) (h : P.ok) {f : List Int} (hf : Best P.nodes P.arcs 0 1 f) : net P.arcs f 0 = P.val := by
  have h1 : net P.arcs f 0 ≤ P.val := by
    rw [← P.cut_is h]
    exact hf.flw.le (P.in_ok h) (by omega) (by unfold Pn.nodes; omega) (by simp [Pn.inS]) (by simp [Pn.inS])
  obtain ⟨S, h2, h3, h4⟩ := hf.cut
  have := P.cut_ge h h2 h3
  omega
/-- All is carried exactly if no load is above its limit. -/
theorem Pn.all (P : Pn) (h : P.ok) : P.val = sumI P.nr P.ld ↔ (∀ b, b < P.nb → P.loadB b ≤ P.lb b) ∧ ∀ f, f < P.nf → P.loadF f ≤ P.lf f := by
  have e1 : sumI P.nr P.ld = sumI P.nb P.loadB := sumI_all h.rb
  have e2 : sumI P.nb P.loadB = sumI P.nf P.loadF := sumI_all h.bf
  have e3 : ∀ f, P.part f ≤ P.loadF f := fun f => sumI_le fun b _ => by split <;> omega
  rw [e1, e2]
  constructor
  · intro he
    have e4 : ∀ f, f < P.nf → min (P.part f) (P.lf f) = P.loadF f := sumI_eq (k := P.nf) (g := fun f => min (P.part f) (P.lf f)) (h := P.loadF) (fun f _ => by have := e3 f; show min (P.part f) (P.lf f) ≤ _; omega) he
    refine ⟨fun b hb => ?_, fun f hf => by have := e4 f hf; have := e3 f; omega⟩
    have h5 := e4 (P.bf b) (h.bf b hb)
    have h6 := e3 (P.bf b)
    have h7 : (if P.bf b = P.bf b then min (P.loadB b) (P.lb b) else 0) = if P.bf b = P.bf b then P.loadB b else 0 := sumI_eq (k := P.nb) (g := fun c => if P.bf c = P.bf b then min (P.loadB c) (P.lb c) else 0) (h := fun c => if P.bf c = P.bf b then P.loadB c else 0) (fun c _ => by by_cases hc : P.bf c = P.bf b <;> simp [hc] <;> omega) (show P.part (P.bf b) = P.loadF (P.bf b) by omega) b hb
    rw [if_pos rfl, if_pos rfl] at h7
    omega
  · rintro ⟨hb, hf⟩
    refine sumI_congr fun f hff => ?_
    have h8 : P.part f = P.loadF f := sumI_congr fun b hbb => by
      have := hb b hbb
      split <;> omega
    have := hf f hff
    omega
end Go.Proofs.YthlefdbhkbpejaaGreat
