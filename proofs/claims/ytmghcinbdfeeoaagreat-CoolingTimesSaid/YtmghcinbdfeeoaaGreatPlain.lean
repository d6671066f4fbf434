/- Chapter 06: plain laws: lines by small numbers; more, less, later. -/
import Derived.Test.YtmghcinbdfeeoaaGreatLev
namespace Go.Proofs.YtmghcinbdfeeoaaGreat
open Go Go.RowKit

/-- A line by small numbers. -/
structure Sml where
  carry : Int
  start : Int
  n : Int
  t0 : Int
  t1 : Int
  d0 : Int
  d1 : Int
  A : List Int
  B : List Int
def u8 (x : Int) : Prop := 0 ≤ x ∧ x ≤ 255
structure Sml.ok (x : Sml) : Prop where
  carry : u8 x.carry
  start : u8 x.start
  n : u8 x.n
  t0 : u8 x.t0
  t1 : u8 x.t1
  d0 : u8 x.d0
  d1 : u8 x.d1
  A : ∀ z ∈ x.A, u8 z
  B : ∀ z ∈ x.B, u8 z
def Sml.ps (x : Sml) : List Prt := [⟨0, x.t0 % 4, x.d0 % 9⟩, ⟨1, x.t1 % 4, x.d1 % 9⟩]
def Sml.ins (x : Sml) : List (List Int) := [x.A.take 30, x.B.take 30]
def Sml.N (x : Sml) : Nat := (x.n % 41).toNat
theorem Sml.N_le (x : Sml) : x.N ≤ 40 := by unfold Sml.N; omega
theorem Sml.N_eq {x : Sml} (h : x.ok) : x.n % 41 = (x.N : Int) := by unfold Sml.N; have := h.n; unfold u8 at this; omega

/-- Parts as they may be. -/
theorem okP_iff' {p : Prt} : okP p = true ↔ (0 ≤ p.src ∧ p.src ≤ 15) ∧ (0 ≤ p.times ∧ p.times ≤ 1000) ∧ 0 ≤ p.delay ∧ p.delay ≤ 1000 := by
  unfold okP
  simp only [Bool.and_eq_true, inR_iff]
  constructor
  · rintro ⟨⟨a, b⟩, c⟩; exact ⟨a, b, c⟩
  · rintro ⟨a, b, c⟩; exact ⟨⟨a, b⟩, c⟩
theorem asked_of {carry : Int} {ps : List Prt} {start : Int} {ins : List (List Int)} {n : Int} (hc : 0 ≤ carry ∧ carry ≤ 100000000) (hl : ps.length ≤ 16) (hp : ∀ p ∈ ps, okP p = true)
    (hs : 0 ≤ start ∧ start ≤ 100000000) (hn : 0 ≤ n ∧ n ≤ 1000) (hi : ins.length ≤ 16) (hb : ∀ l ∈ ins, l.length ≤ 1000 ∧ ∀ z ∈ l, 0 ≤ z ∧ z ≤ 100000000) : askedE carry ps start ins n = 0 := by
  have h1 : okL carry ps = true := by
    unfold okL
    simp only [Bool.and_eq_true, inR_iff, decide_eq_true_eq, List.all_eq_true]
    exact ⟨⟨hc, hl⟩, hp⟩
  unfold askedE
  rw [if_pos h1, if_pos]
  refine ⟨inR_iff.2 hs, inR_iff.2 hn, hi, ?_⟩
  rw [List.any_eq_false]
  intro l hl
  obtain ⟨a, b⟩ := hb l hl
  unfold badList
  simp only [Bool.or_eq_true, decide_eq_true_eq, not_or, List.any_eq_true, not_exists, not_and]
  refine ⟨by omega, fun z hz => ?_⟩
  have : okX z = true := inR_iff.2 (b z hz)
  simp [this]
theorem Sml.ps_ok {x : Sml} : ∀ p ∈ x.ps, okP p = true := by
  intro p hp
  rw [okP_iff']
  unfold Sml.ps at hp
  simp only [List.mem_cons, List.not_mem_nil, or_false] at hp
  rcases hp with rfl | rfl <;> simp only <;> omega
theorem Sml.ins_ok {x : Sml} (h : x.ok) : ∀ l ∈ x.ins, l.length ≤ 30 ∧ ∀ z ∈ l, 0 ≤ z ∧ z ≤ 255 := by
  intro l hl
  unfold Sml.ins at hl
  simp only [List.mem_cons, List.not_mem_nil, or_false] at hl
  rcases hl with rfl | rfl
  · exact ⟨by simp; omega, fun z hz => h.A z (List.mem_of_mem_take hz)⟩
  · exact ⟨by simp; omega, fun z hz => h.B z (List.mem_of_mem_take hz)⟩
theorem Sml.asked {x : Sml} (h : x.ok) {carry start n : Int} (hc : 0 ≤ carry ∧ carry ≤ 100000000) (hs : 0 ≤ start ∧ start ≤ 100000000) (hn : 0 ≤ n ∧ n ≤ 1000) : askedE carry x.ps start x.ins n = 0 :=
  asked_of hc (by simp [Sml.ps]) Sml.ps_ok hs hn (by simp [Sml.ins]) (fun l hl => by
    obtain ⟨a, b⟩ := Sml.ins_ok h l hl
    exact ⟨by omega, fun z hz => by have := b z hz; omega⟩)

/- Rises -/
theorem arr_mono_aux (f g : Prt → Int) : ∀ (ps : List Prt) (a b : Int), (∀ p ∈ ps, f p ≤ g p) → a ≤ b → ps.foldl (fun a p => a + f p) a ≤ ps.foldl (fun a p => a + g p) b
  | [], a, b, _, h => h
  | p :: ps, a, b, hf, h => by
    simp only [List.foldl_cons]
    have := hf p (List.mem_cons_self ..)
    exact arr_mono_aux f g ps _ _ (fun q hq => hf q (List.mem_cons_of_mem _ hq)) (by omega)
theorem given_mono {ins ins' : List (List Int)} (hl : ins.length = ins'.length) (h : ∀ i, i < ins.length → (ins.getD i default).length = (ins'.getD i default).length ∧ ∀ j, j < (ins.getD i default).length → (ins.getD i default).getD j default ≤ (ins'.getD i default).getD j default)
    {s t : Int} (hs : 0 ≤ s) : given ins s t ≤ given ins' s t := by
  unfold given
  by_cases hc : s < ins.length ∧ 0 ≤ t ∧ t < (ins.getD s.toNat default).length
  · have := h s.toNat (by omega)
    rw [if_pos hc, if_pos (by omega)]
    exact this.2 _ (by omega)
  · by_cases h1 : s < ins.length
    · have := h s.toNat (by omega)
      rw [if_neg hc, if_neg (by omega)]
      omega
    · rw [if_neg hc, if_neg (by omega)]
      omega
theorem arr_mono {ps : List Prt} {ins ins' : List (List Int)} (hp : ∀ p ∈ ps, okP p = true) (hl : ins.length = ins'.length) (h : ∀ i, i < ins.length → (ins.getD i default).length = (ins'.getD i default).length ∧ ∀ j, j < (ins.getD i default).length → (ins.getD i default).getD j default ≤ (ins'.getD i default).getD j default)
    (t : Int) : arr ps ins t ≤ arr ps ins' t := by
  unfold arr
  refine arr_mono_aux _ _ ps 0 0 (fun p hpm => ?_) (by omega)
  have hq := okP_iff'.1 (hp p hpm)
  exact Int.mul_le_mul_of_nonneg_left (given_mono hl h hq.1.1) hq.2.1.1
theorem lev_mono {c c' s s' : Int} {ps : List Prt} {ins ins' : List (List Int)} (hc : c' ≤ c) (hs : s ≤ s') (ha : ∀ t, arr ps ins t ≤ arr ps ins' t) : ∀ k, lev c ps ins s k ≤ lev c' ps ins' s' k
  | 0 => by simp only [lev]; exact hs
  | k + 1 => by
    have := lev_mono hc hs ha k
    have := ha k
    simp only [lev]
    omega

/- Later -/
def delayed (k : Int) (ps : List Prt) : List Prt := ps.map fun p => ⟨p.src, p.times, p.delay + k⟩
theorem arr_delayed (ps : List Prt) (ins : List (List Int)) (k t : Int) : arr (delayed k ps) ins t = arr ps ins (t - k) := by
  unfold arr delayed
  rw [List.foldl_map]
  congr 1
  funext a p
  simp only
  rw [show t - (p.delay + k) = t - k - p.delay by omega]
theorem arr_neg {ps : List Prt} (hp : ∀ p ∈ ps, okP p = true) (ins : List (List Int)) {t : Int} (ht : t < 0) : arr ps ins t = 0 := by
  have : ∀ (ps : List Prt), (∀ p ∈ ps, okP p = true) → ps.foldl (fun a p => a + p.times * given ins p.src (t - p.delay)) 0 = 0 := by
    intro ps
    induction ps with
    | nil => intro _; rfl
    | cons p ps ih =>
      intro hp
      have hq := okP_iff'.1 (hp p (List.mem_cons_self ..))
      have hg : given ins p.src (t - p.delay) = 0 := by
        unfold given
        rw [if_neg (by omega)]
      rw [List.foldl_cons, hg, Int.mul_zero, Int.add_zero]
      exact ih fun q hq => hp q (List.mem_cons_of_mem _ hq)
  exact this ps hp
theorem lev_before {c : Int} {ps : List Prt} {ins : List (List Int)} (hp : ∀ p ∈ ps, okP p = true) (hc : 0 ≤ c) (d : Nat) : ∀ k, k ≤ d → lev c (delayed d ps) ins 0 k = 0
  | 0, _ => rfl
  | k + 1, hk => by
    simp only [lev]
    rw [lev_before hp hc d k (by omega), arr_delayed, arr_neg hp ins (by omega)]
    omega
theorem lev_later {c : Int} {ps : List Prt} {ins : List (List Int)} (hp : ∀ p ∈ ps, okP p = true) (hc : 0 ≤ c) (d : Nat) : ∀ k, lev c (delayed d ps) ins 0 (d + k) = lev c ps ins 0 k
  | 0 => by rw [Nat.add_zero, lev_before hp hc d d (Nat.le_refl _)]; rfl
  | k + 1 => by
    rw [show d + (k + 1) = (d + k) + 1 by omega]
    simp only [lev]
    rw [lev_later hp hc d k, arr_delayed, show ((d + k : Nat) : Int) - (d : Int) = (k : Int) by omega]
end Go.Proofs.YtmghcinbdfeeoaaGreat
