/- Chapter 05: the greatest net: a line of 64 nodes with two arcs from each to the next one; in plain Lean. -/
import Derived.Test.YtgojjlnpbakfjaaWrk
namespace Go.Proofs.Ytgojjlnpbakfjaa

/-- The first k pairs of arcs. -/
def bigL : Nat → List Ar
  | 0 => []
  | k + 1 => bigL k ++ [⟨k, (k : Int) + 1, 100000000⟩, ⟨k, (k : Int) + 1, 100000000 - k⟩]
/-- m pairs from the node k on. -/
def bigA : Nat → Nat → List Ar
  | 0, _ => []
  | m + 1, k => ⟨k, (k : Int) + 1, 100000000⟩ :: ⟨k, (k : Int) + 1, 100000000 - k⟩ :: bigA m (k + 1)
def bigF : Nat → List Int
  | 0 => []
  | m + 1 => 100000000 :: 99999938 :: bigF m
/-- Without the arc i: what the other arc of its pair carries. -/
def bigW (i : Nat) : Int := if i % 2 = 0 then 100000000 - ((i / 2 : Nat) : Int) else 100000000
def bigG (z : Int) (p : Nat) : Nat → Nat → List Int
  | 0, _ => []
  | m + 1, k => if k = p then z :: bigG z p m (k + 1) else z :: 0 :: bigG z p m (k + 1)
def bigOk (i : Nat) : Bool := (okFb ((bigA 63 0).eraseIdx i) (bigG (bigW i) (i / 2) 63 0) && conB 64 ((bigA 63 0).eraseIdx i) 0 63 (bigG (bigW i) (i / 2) 63 0)) && (decide (capS (fun x => decide (x ≤ ((i / 2 : Nat) : Int))) ((bigA 63 0).eraseIdx i) = net ((bigA 63 0).eraseIdx i) (bigG (bigW i) (i / 2) 63 0) 0) && decide (net ((bigA 63 0).eraseIdx i) (bigG (bigW i) (i / 2) 63 0) 0 < 199999938))
set_option maxRecDepth 100000 in
theorem big_same : bigL 63 = bigA 63 0 := by decide +kernel
set_option maxRecDepth 100000 in
theorem big_net : netOk 64 (bigA 63 0) = true := by decide +kernel
set_option maxRecDepth 100000 in
theorem big_best : (okFb (bigA 63 0) (bigF 63) && conB 64 (bigA 63 0) 0 63 (bigF 63)) = true ∧ capS (fun x => decide (x ≤ 62)) (bigA 63 0) = 199999938 ∧ net (bigA 63 0) (bigF 63) 0 = 199999938 := by decide +kernel
set_option maxRecDepth 100000 in
theorem big_res : ∀ x, x < 62 → ((bigA 63 0).getD (2 * x + 1) default).u = x ∧ ((bigA 63 0).getD (2 * x + 1) default).v = x + 1 ∧ (bigF 63).getD (2 * x + 1) 0 < ((bigA 63 0).getD (2 * x + 1) default).c := by decide +kernel
theorem big_len : (bigA 63 0).length = 126 := by decide +kernel
theorem big_in : inN 64 (bigA 63 0) := fun a ha => by have := okA_iff.1 ((netOk_iff.1 big_net).2.2.2 a ha); omega
theorem big_flw : Best 64 (bigA 63 0) 0 63 (bigF 63) := ⟨flw_iff.1 big_best.1, fun x => decide (x ≤ 62), by decide, by decide, by rw [big_best.2.1, big_best.2.2]⟩
theorem big_rch : ∀ x : Nat, x ≤ 62 → Rch (bigA 63 0) (bigF 63) 0 x
  | 0, _ => Rch.self _ _ _
  | x + 1, h => by
    obtain ⟨h1, h2, h3⟩ := big_res x (by omega)
    exact (big_rch x (by omega)).step ⟨2 * x + 1, by rw [big_len]; omega, .inl ⟨h1, by rw [h2]; omega, h3⟩⟩
theorem big_cut : ∃ c, IsCut 64 (bigA 63 0) 0 63 c ∧ c.length = 63 := by
  refine ⟨sel (fun x => decide (x ≤ 62)) 64, cut_of (bigF 63) (fun x => decide (x ≤ 62)) big_in (by decide) (by decide) big_flw rfl (fun x => decide (x ≤ 62)) (by decide) (by decide) (by rw [big_best.2.1, big_best.2.2]) (fun x hx h => ?_) (fun x hx h => ?_), by decide⟩
  · simp at h ⊢
    omega
  · simp at h
    exact big_rch x h
theorem big_need {i : Nat} (hi : i < 126) (h : bigOk i = true) : Needed 64 (bigA 63 0) 0 63 i := by
  unfold bigOk at h
  simp only [Bool.and_eq_true, decide_eq_true_eq] at h
  obtain ⟨⟨h0, h1⟩, h2, h3⟩ := h
  have hf : Flw 64 ((bigA 63 0).eraseIdx i) 0 63 (bigG (bigW i) (i / 2) 63 0) := flw_iff.1 (by rw [h0, h1]; rfl)
  exact ⟨199999938, _, ⟨bigF 63, big_flw, big_best.2.2⟩, ⟨_, ⟨hf, fun x => decide (x ≤ ((i / 2 : Nat) : Int)), decide_eq_true (by omega), decide_eq_false (by omega), h2⟩, rfl⟩, h3⟩
end Go.Proofs.Ytgojjlnpbakfjaa
