/- Chapter 05: the greatest value, the least cut, the arcs that are needed; in plain Lean. -/
import Derived.Test.YtgojjlnpbakfjaaFloC
namespace Go.Proofs.Ytgojjlnpbakfjaa

/-- v is the greatest value. -/
def Most (n : Nat) (l : List Ar) (s t v : Int) : Prop := ∃ f, Best n l s t f ∧ net l f s = v
theorem Best.val {n : Nat} {l : List Ar} {s t : Int} {f : List Int} (h : Best n l s t f) : Most n l s t (net l f s) := ⟨f, h, rfl⟩
theorem Most.same {n : Nat} {l : List Ar} {s t v w : Int} (h : Most n l s t v) (k : Most n l s t w) (hn : inN n l) (h0 : 0 ≤ s) (h1 : s < n) : v = w := by
  obtain ⟨f, hf, rfl⟩ := h
  obtain ⟨g, hg, rfl⟩ := k
  exact hf.same hg hn h0 h1
theorem Most.mk' {n : Nat} {l : List Ar} {s t v : Int} (f : List Int) (S : Int → Bool) (hf : Flw n l s t f) (hs : S s = true) (ht : S t = false) (hc : capS S l = v) (hv : net l f s = v) : Most n l s t v :=
  ⟨f, ⟨hf, S, hs, ht, by rw [hc, hv]⟩, hv⟩

/-- The numbers below n with a property. -/
def sel (p : Nat → Bool) : Nat → List Int
  | 0 => []
  | k + 1 => sel p k ++ (if p k = true then [(k : Int)] else [])
theorem sel_congr {p q : Nat → Bool} : ∀ {n : Nat}, (∀ i, i < n → p i = q i) → sel p n = sel q n
  | 0, _ => rfl
  | n + 1, h => by
    simp only [sel]
    rw [sel_congr (fun i hi => h i (by omega)), h n (by omega)]
theorem sel_mem {p : Nat → Bool} {x : Int} : ∀ {n : Nat}, x ∈ sel p n ↔ ∃ i : Nat, i < n ∧ p i = true ∧ x = i
  | 0 => by simp [sel]
  | n + 1 => by
    simp only [sel, List.mem_append, sel_mem (n := n)]
    constructor
    · rintro (⟨i, h1, h2, h3⟩ | h)
      · exact ⟨i, by omega, h2, h3⟩
      · split at h
        · simp only [List.mem_cons, List.not_mem_nil, or_false] at h
          exact ⟨n, by omega, by assumption, h⟩
        · simp at h
    · rintro ⟨i, h1, h2, h3⟩
      by_cases e : i = n
      · subst e
        right
        rw [if_pos h2]; simp [h3]
      · exact .inl ⟨i, by omega, h2, h3⟩
theorem sel_len (p : Nat → Bool) : ∀ n, (sel p n).length ≤ n
  | 0 => by simp [sel]
  | n + 1 => by
    have := sel_len p n
    simp only [sel, List.length_append]
    split <;> simp <;> omega
theorem sel_all {p : Nat → Bool} : ∀ {n : Nat}, (∀ i, i < n → p i = true) → (sel p n).length = n
  | 0, _ => rfl
  | n + 1, h => by
    simp only [sel, List.length_append]
    rw [if_pos (h n (by omega)), sel_all (fun i hi => h i (by omega))]
    rfl
theorem sel_pair {p : Nat → Bool} : ∀ {n : Nat}, (sel p n).Pairwise (· < ·)
  | 0 => List.Pairwise.nil
  | n + 1 => by
    simp only [sel]
    rw [List.pairwise_append]
    refine ⟨sel_pair, ?_, ?_⟩
    · split
      · exact List.pairwise_singleton _ _
      · exact List.Pairwise.nil
    · intro a ha b hb
      obtain ⟨i, h1, _, h3⟩ := sel_mem.1 ha
      split at hb
      · simp only [List.mem_cons, List.not_mem_nil, or_false] at hb
        omega
      · simp at hb
theorem bool_same {a b : Bool} {p : Prop} (h : a = true ↔ p) (k : b = true ↔ p) : a = b := by
  cases a <;> cases b <;> simp_all

/-- The nodes that can be reached from s in what a greatest flow leaves. -/
def IsCut (n : Nat) (l : List Ar) (s t : Int) (c : List Int) : Prop := ∃ f, Best n l s t f ∧ ∃ S : Nat → Bool, (∀ x : Nat, x < n → (S x = true ↔ Rch l f s x)) ∧ c = sel S n
theorem IsCut.same {n : Nat} {l : List Ar} {s t : Int} {c d : List Int} (h : IsCut n l s t c) (k : IsCut n l s t d) (hn : inN n l) (h0 : 0 ≤ s) (h1 : s < n) : c = d := by
  obtain ⟨f, hf, S, hS, rfl⟩ := h
  obtain ⟨g, hg, T, hT, rfl⟩ := k
  exact sel_congr fun x hx => bool_same (hS x hx) ((hT x hx).trans (hg.rch_iff hf hn h0 h1))
/-- Without the arc i the greatest value is less. -/
def Needed (n : Nat) (l : List Ar) (s t : Int) (i : Nat) : Prop := ∃ v w, Most n l s t v ∧ Most n (l.eraseIdx i) s t w ∧ w < v
/-- The arcs that are needed. -/
def IsCrit (n : Nat) (l : List Ar) (s t : Int) (c : List Int) : Prop := ∃ C : Nat → Bool, (∀ i, i < l.length → (C i = true ↔ Needed n l s t i)) ∧ c = sel C l.length
theorem IsCrit.same {n : Nat} {l : List Ar} {s t : Int} {c d : List Int} (h : IsCrit n l s t c) (k : IsCrit n l s t d) : c = d := by
  obtain ⟨C, hC, rfl⟩ := h
  obtain ⟨D, hD, rfl⟩ := k
  exact sel_congr fun i hi => bool_same (hC i hi) (hD i hi)
theorem Most.needed {n : Nat} {l : List Ar} {s t v w : Int} {i : Nat} (h : Most n l s t v) (k : Most n (l.eraseIdx i) s t w) (hn : inN n l) (h0 : 0 ≤ s) (h1 : s < n) : Needed n l s t i ↔ w < v := by
  constructor
  · rintro ⟨v', w', h', k', hlt⟩
    rw [h.same h' hn h0 h1, k.same k' (inN_erase hn) h0 h1]
    exact hlt
  · exact fun hlt => ⟨v, w, h, k, hlt⟩
/-- An arc that carries nothing in a greatest flow is not needed. -/
theorem Best.unneeded {n : Nat} {l : List Ar} {s t : Int} {f : List Int} {i : Nat} (h : Best n l s t f) (hn : inN n l) (s0 : 0 ≤ s) (s1 : s < n) (hc : ∀ a ∈ l, 0 ≤ a.c) (hi : i < l.length) (h0 : f.getD i 0 = 0) : ¬ Needed n l s t i := by
  obtain ⟨h1, h2⟩ := h.idle hn s0 s1 hc hi h0
  rw [(h.val).needed h1.val hn s0 s1]
  omega
/-- The room 0 in an arc: the net without it. -/
theorem Best.needs {n : Nat} {l : List Ar} {s t : Int} {f g : List Int} {i : Nat} (h : Best n l s t f) (hn : inN n l) (s0 : 0 ≤ s) (s1 : s < n) (hi : i < l.length) (hg : Best n (moreL l i 0) s t g) : Needed n l s t i ↔ net (moreL l i 0) g s < net l f s := by
  obtain ⟨h1, h2⟩ := hg.without hi
  rw [(h.val).needed h1.val hn s0 s1, h2]
end Go.Proofs.Ytgojjlnpbakfjaa
