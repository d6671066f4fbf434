/- Chapter 06: what arrives in a tick: the program's inner function. -/
import Derived.Test.YtmghcinbdfeeoaaGreatAsked
import Derived.Deep.DeepCutAuto
import Derived.Deep.CutRange
namespace Go.Proofs.YtmghcinbdfeeoaaGreat
open Go Go.RowKit

def given (ins : List (List Int)) (s t : Int) : Int :=
  if s < ins.length ∧ 0 ≤ t ∧ t < (ins.getD s.toNat default).length then (ins.getD s.toNat default).getD t.toNat default else 0
def arr (ps : List Prt) (ins : List (List Int)) (t : Int) : Int := ps.foldl (fun a p => a + p.times * given ins p.src (t - p.delay)) 0
theorem arr_snoc (ps : List Prt) (p : Prt) (ins : List (List Int)) (t : Int) : arr (ps ++ [p]) ins t = arr ps ins t + p.times * given ins p.src (t - p.delay) := by simp [arr]
/-- What the inputs may be. -/
def InOk (ins : List (List Int)) : Prop := ins.length ≤ 16 ∧ ∀ i, i < ins.length → (ins.getD i default).length ≤ 1000 ∧ ∀ j, j < (ins.getD i default).length → 0 ≤ (ins.getD i default).getD j default ∧ (ins.getD i default).getD j default ≤ 100000000
def PsOk (ps : List Prt) : Prop := ps.length ≤ 16 ∧ ∀ i, i < ps.length → (0 ≤ (ps.getD i default).src ∧ (ps.getD i default).src ≤ 15) ∧ (0 ≤ (ps.getD i default).times ∧ (ps.getD i default).times ≤ 1000) ∧ 0 ≤ (ps.getD i default).delay ∧ (ps.getD i default).delay ≤ 1000
theorem given_le {ins : List (List Int)} (h : InOk ins) (s t : Int) (hs : 0 ≤ s) : 0 ≤ given ins s t ∧ given ins s t ≤ 100000000 := by
  unfold given
  split
  · rename_i hc
    exact (h.2 s.toNat (by omega)).2 t.toNat (by omega)
  · omega
theorem term_le {ins : List (List Int)} (h : InOk ins) {p : Prt} (h1 : 0 ≤ p.src) (h2 : 0 ≤ p.times ∧ p.times ≤ 1000) (t : Int) : 0 ≤ p.times * given ins p.src (t - p.delay) ∧ p.times * given ins p.src (t - p.delay) ≤ 100000000000 := by
  obtain ⟨g0, g1⟩ := given_le h p.src (t - p.delay) h1
  refine ⟨Int.mul_nonneg h2.1 g0, ?_⟩
  have := Int.mul_le_mul h2.2 g1 g0 (by omega)
  omega
theorem takeP_snoc {ps : List Prt} {k : Nat} (hk : k < ps.length) : ps.take (k + 1) = ps.take k ++ [ps.getD k default] := by
  rw [List.take_succ_eq_append_getElem hk]
  simp [List.getD, List.getElem?_eq_getElem hk]
theorem arr_le {ps : List Prt} {ins : List (List Int)} (hp : PsOk ps) (h : InOk ins) (t : Int) : ∀ k, k ≤ ps.length → 0 ≤ arr (ps.take k) ins t ∧ arr (ps.take k) ins t ≤ k * 100000000000
  | 0, _ => by simp [arr]
  | k + 1, hk => by
    obtain ⟨i1, i2⟩ := arr_le hp h t k (by omega)
    rw [takeP_snoc (by omega), arr_snoc]
    obtain ⟨q1, q2, _⟩ := hp.2 k (by omega)
    obtain ⟨t1, t2⟩ := term_le h q1.1 q2 t
    omega
theorem okL_ps {carry : Int} {ps : List Prt} (h : okL carry ps = true) : PsOk ps ∧ 0 ≤ carry ∧ carry ≤ 100000000 := by
  unfold okL at h
  simp only [Bool.and_eq_true, inR_iff, decide_eq_true_eq, List.all_eq_true] at h
  obtain ⟨⟨h1, h2⟩, h3⟩ := h
  refine ⟨⟨h2, fun i hi => ?_⟩, h1⟩
  have := h3 (ps.getD i default) (by rw [List.getD_eq_getElem?_getD, List.getElem?_eq_getElem hi]; exact List.getElem_mem _)
  unfold okP at this
  simp only [Bool.and_eq_true, inR_iff] at this
  obtain ⟨⟨a1, a2⟩, a3⟩ := this
  exact ⟨a1, a2, a3⟩
theorem asked_zero {carry : Int} {ps : List Prt} {start : Int} {ins : List (List Int)} {n : Int} (h : askedE carry ps start ins n = 0) : PsOk ps ∧ (0 ≤ carry ∧ carry ≤ 100000000) ∧ InOk ins ∧ (0 ≤ start ∧ start ≤ 100000000) ∧ 0 ≤ n ∧ n ≤ 1000 := by
  unfold askedE at h
  by_cases h1 : okL carry ps = true
  · rw [if_pos h1] at h
    by_cases h2 : inR start 0 100000000 = true ∧ inR n 0 1000 = true ∧ ins.length ≤ 16 ∧ ins.any badList = false
    · obtain ⟨a, b, c, d⟩ := h2
      obtain ⟨p1, p2⟩ := okL_ps h1
      refine ⟨p1, p2, ⟨c, fun i hi => ?_⟩, inR_iff.1 a, inR_iff.1 b⟩
      rw [List.any_eq_false] at d
      have hm : ins.getD i default ∈ ins := by rw [List.getD_eq_getElem?_getD, List.getElem?_eq_getElem hi]; exact List.getElem_mem _
      have := d _ hm
      unfold badList at this
      simp only [Bool.or_eq_true, decide_eq_true_eq, not_or, List.any_eq_true, not_exists, not_and] at this
      obtain ⟨q1, q2⟩ := this
      refine ⟨by omega, fun j hj => ?_⟩
      have hx := q2 ((ins.getD i default).getD j default) (getD_mem hj)
      have : okX ((ins.getD i default).getD j default) = true := by simpa using hx
      exact inR_iff.1 this
    · rw [if_neg h2] at h; omega
  · rw [if_neg h1] at h; omega
end Go.Proofs.YtmghcinbdfeeoaaGreat
