/- Chapter 05: flows and cuts, in plain Lean. -/
import Derived.WalkKit
namespace Go.Proofs.Ytgojjlnpbakfjaa

/-- An arc: from, to, capacity. -/
structure Ar where
  u : Int
  v : Int
  c : Int
instance : Inhabited Ar := ⟨⟨0, 0, 0⟩⟩

/-- What flows out of a node, less what flows into it. -/
def net : List Ar → List Int → Int → Int
  | a :: l, f :: fs, x => (if a.u = x then f else 0) - (if a.v = x then f else 0) + net l fs x
  | _, _, _ => 0
/-- What flows out of a set, less what flows into it. -/
def crs (S : Int → Bool) : List Ar → List Int → Int
  | a :: l, f :: fs => (if S a.u = true then f else 0) - (if S a.v = true then f else 0) + crs S l fs
  | _, _ => 0
/-- The capacity of a set. -/
def capS (S : Int → Bool) : List Ar → Int
  | [] => 0
  | a :: l => (if S a.u = true ∧ S a.v = false then a.c else 0) + capS S l
/-- Each arc carries between 0 and its capacity. -/
def okF : List Ar → List Int → Prop
  | a :: l, f :: fs => (0 ≤ f ∧ f ≤ a.c) ∧ okF l fs
  | [], [] => True
  | _, _ => False
def nsum : Nat → (Int → Int) → Int
  | 0, _ => 0
  | n + 1, g => nsum n g + g n
/-- The arcs' ends are nodes. -/
def inN (n : Nat) (l : List Ar) : Prop := ∀ a ∈ l, (0 ≤ a.u ∧ a.u < n) ∧ (0 ≤ a.v ∧ a.v < n)

theorem nsum_add (n : Nat) (g h : Int → Int) : nsum n (fun x => g x + h x) = nsum n g + nsum n h := by
  induction n with
  | zero => rfl
  | succ n ih => simp only [nsum, ih]; omega
theorem nsum_sub (n : Nat) (g h : Int → Int) : nsum n (fun x => g x - h x) = nsum n g - nsum n h := by
  induction n with
  | zero => rfl
  | succ n ih => simp only [nsum, ih]; omega
theorem nsum_congr {n : Nat} {g h : Int → Int} (e : ∀ x : Int, 0 ≤ x → x < n → g x = h x) : nsum n g = nsum n h := by
  induction n with
  | zero => rfl
  | succ n ih =>
    simp only [nsum]
    rw [ih (fun x h0 h1 => e x h0 (by omega)), e n (by omega) (by omega)]
theorem nsum_zero (n : Nat) : nsum n (fun _ => 0) = 0 := by
  induction n with
  | zero => rfl
  | succ n ih => simp only [nsum, ih]; rfl
theorem nsum_one (n : Nat) (a f : Int) (h0 : 0 ≤ a) : nsum n (fun x => if a = x then f else 0) = if a < n then f else 0 := by
  induction n with
  | zero => simp only [nsum]; rw [if_neg (by omega)]
  | succ n ih =>
    simp only [nsum, ih]
    by_cases h : a < n
    · rw [if_pos h, if_neg (by omega), if_pos (by omega)]; omega
    · by_cases e : a = n
      · rw [if_neg h, if_pos e, if_pos (by omega)]; omega
      · rw [if_neg h, if_neg e, if_neg (by omega)]; omega
theorem nsum_ind {n : Nat} (S : Int → Bool) {a : Int} (f : Int) (h0 : 0 ≤ a) (h1 : a < n) : nsum n (fun x => if S x = true then (if a = x then f else 0) else 0) = if S a = true then f else 0 := by
  have h : nsum n (fun x => if S x = true then (if a = x then f else 0) else 0) = nsum n (fun x => if a = x then (if S a = true then f else 0) else 0) := by
    apply nsum_congr
    intro x _ _
    by_cases e : a = x
    · subst e; simp
    · simp [e]
  rw [h, nsum_one n a _ h0, if_pos h1]
/-- What a set's nodes send out is what flows out of the set. -/
theorem nsum_crs {n : Nat} (S : Int → Bool) : ∀ (l : List Ar) (f : List Int), inN n l → nsum n (fun x => if S x = true then net l f x else 0) = crs S l f
  | [], f, _ => by
    have h : (fun x => if S x = true then net [] f x else 0) = fun _ => 0 := by funext x; simp only [net]; split <;> rfl
    rw [h]
    cases f <;> exact nsum_zero n
  | a :: l, [], _ => by
    have h : (fun x => if S x = true then net (a :: l) [] x else 0) = fun _ => 0 := by funext x; simp only [net]; split <;> rfl
    rw [h]
    exact nsum_zero n
  | a :: l, f :: fs, h => by
    have ha := h a (by simp)
    have ih := nsum_crs S l fs (fun b hb => h b (by simp [hb]))
    simp only [crs]
    rw [← ih, ← nsum_ind S f ha.1.1 ha.1.2, ← nsum_ind S f ha.2.1 ha.2.2, ← nsum_sub, ← nsum_add]
    apply nsum_congr
    intro x _ _
    simp only [net]
    by_cases e : S x = true
    · simp [e]
    · simp [e]

/-- A flow from s to t. -/
structure Flw (n : Nat) (l : List Ar) (s t : Int) (f : List Int) : Prop where
  ok : okF l f
  con : ∀ x : Int, 0 ≤ x → x < n → x ≠ s → x ≠ t → net l f x = 0
theorem okF_len {l : List Ar} {f : List Int} (h : okF l f) : f.length = l.length := by
  induction l generalizing f with
  | nil => cases f <;> simp_all [okF]
  | cons a l ih => cases f with
    | nil => simp [okF] at h
    | cons x f => simp [ih h.2]
theorem okF_at {l : List Ar} {f : List Int} (h : okF l f) {i : Nat} (hi : i < l.length) : 0 ≤ f.getD i 0 ∧ f.getD i 0 ≤ (l.getD i default).c := by
  induction l generalizing f i with
  | nil => simp at hi
  | cons a l ih => cases f with
    | nil => simp [okF] at h
    | cons x f =>
      cases i with
      | zero => simpa using h.1
      | succ i => simpa using ih h.2 (i := i) (by simpa using hi)
theorem okF_mk {l : List Ar} {f : List Int} (hl : f.length = l.length) (h : ∀ i, i < l.length → 0 ≤ f.getD i 0 ∧ f.getD i 0 ≤ (l.getD i default).c) : okF l f := by
  induction l generalizing f with
  | nil => cases f with
    | nil => trivial
    | cons x f => simp at hl
  | cons a l ih => cases f with
    | nil => simp at hl
    | cons x f =>
      refine ⟨by simpa using h 0 (by simp), ih (by simpa using hl) fun i hi => ?_⟩
      simpa using h (i + 1) (by simpa using hi)
theorem nsum_st {n : Nat} {g : Int → Int} {S : Int → Bool} {s t : Int} (h0 : 0 ≤ s) (h1 : s < n) (hs : S s = true) (ht : S t = false) (hz : ∀ x : Int, 0 ≤ x → x < n → x ≠ s → x ≠ t → g x = 0) : nsum n (fun x => if S x = true then g x else 0) = g s := by
  have h : nsum n (fun x => if S x = true then g x else 0) = nsum n (fun x => if s = x then g s else 0) := by
    apply nsum_congr
    intro x hx0 hx1
    by_cases e : s = x
    · subst e; simp [hs]
    · by_cases e2 : x = t
      · subst e2; simp [e, ht]
      · rw [hz x hx0 hx1 (fun h => e h.symm) e2]; simp [e]
  rw [h, nsum_one n s _ h0, if_pos h1]
theorem Flw.cross {n : Nat} {l : List Ar} {s t : Int} {f : List Int} (h : Flw n l s t f) (hn : inN n l) (h0 : 0 ≤ s) (h1 : s < n) {S : Int → Bool} (hs : S s = true) (ht : S t = false) : crs S l f = net l f s := by
  rw [← nsum_crs S l f hn]
  exact nsum_st h0 h1 hs ht h.con
/-- An arc between the set and the rest that is not full, or an arc back that is not empty. -/
def Tight (S : Int → Bool) (l : List Ar) (f : List Int) : Prop := ∀ i, i < l.length → (S (l.getD i default).u = true → S (l.getD i default).v = false → f.getD i 0 = (l.getD i default).c) ∧ (S (l.getD i default).u = false → S (l.getD i default).v = true → f.getD i 0 = 0)
theorem crs_le {S : Int → Bool} {l : List Ar} {f : List Int} (h : okF l f) : crs S l f ≤ capS S l := by
  induction l generalizing f with
  | nil => cases f <;> simp [crs, capS]
  | cons a l ih => cases f with
    | nil => simp [okF] at h
    | cons x f =>
      have := ih h.2
      have := h.1
      simp only [crs, capS]
      cases hu : S a.u <;> cases hv : S a.v <;> simp <;> omega
theorem crs_tight {S : Int → Bool} {l : List Ar} {f : List Int} (h : okF l f) : crs S l f = capS S l ↔ Tight S l f := by
  induction l generalizing f with
  | nil => cases f <;> simp [crs, capS, Tight]
  | cons a l ih => cases f with
    | nil => simp [okF] at h
    | cons x f =>
      have hle := crs_le (S := S) h.2
      have h1 := h.1
      have ih := ih h.2
      simp only [crs, capS]
      constructor
      · intro e
        have e2 : crs S l f = capS S l := by
          cases hu : S a.u <;> cases hv : S a.v <;> simp [hu, hv] at e <;> omega
        have hT := ih.1 e2
        intro i hi
        cases i with
        | zero =>
          simp only [List.getD_cons_zero]
          cases hu : S a.u <;> cases hv : S a.v <;> simp [hu, hv] at e ⊢ <;> omega
        | succ i => simpa using hT i (by simpa using hi)
      · intro hT
        have e2 := ih.2 (fun i hi => by simpa using hT (i + 1) (by simpa using hi))
        have h0 := hT 0 (by simp)
        simp only [List.getD_cons_zero] at h0
        cases hu : S a.u <;> cases hv : S a.v <;> simp [hu, hv] at h0 ⊢ <;> omega

/-- What a flow leaves: a step from x to y. -/
def Res (l : List Ar) (f : List Int) (x y : Int) : Prop := ∃ i, i < l.length ∧ (((l.getD i default).u = x ∧ (l.getD i default).v = y ∧ f.getD i 0 < (l.getD i default).c) ∨ ((l.getD i default).v = x ∧ (l.getD i default).u = y ∧ 0 < f.getD i 0))
def Shut (l : List Ar) (f : List Int) (S : Int → Bool) : Prop := ∀ x y, Res l f x y → S x = true → S y = true
theorem tight_shut {S : Int → Bool} {l : List Ar} {f : List Int} (h : okF l f) : Tight S l f ↔ Shut l f S := by
  constructor
  · rintro hT x y ⟨i, hi, h⟩ hx
    have := hT i hi
    rcases h with ⟨rfl, rfl, hc⟩ | ⟨rfl, rfl, hc⟩
    · cases hv : S (l.getD i default).v
      · have := this.1 hx hv; omega
      · rfl
    · cases hv : S (l.getD i default).u
      · have := this.2 hv hx; omega
      · rfl
  · intro hS i hi
    have hb := okF_at h hi
    constructor
    · intro hu hv
      by_cases hc : f.getD i 0 < (l.getD i default).c
      · have := hS _ _ ⟨i, hi, .inl ⟨rfl, rfl, hc⟩⟩ hu
        rw [hv] at this; cases this
      · omega
    · intro hu hv
      by_cases hc : 0 < f.getD i 0
      · have := hS _ _ ⟨i, hi, .inr ⟨rfl, rfl, hc⟩⟩ hv
        rw [hu] at this; cases this
      · omega
/-- A node that can be reached from s. -/
def Rch (l : List Ar) (f : List Int) (s x : Int) : Prop := ∀ S : Int → Bool, S s = true → Shut l f S → S x = true
theorem Rch.self (l : List Ar) (f : List Int) (s : Int) : Rch l f s s := fun _ h _ => h
theorem Rch.step {l : List Ar} {f : List Int} {s x y : Int} (h : Rch l f s x) (hr : Res l f x y) : Rch l f s y := fun S hs hc => hc x y hr (h S hs hc)
theorem bool_ex (p : Nat → Prop) : ∃ P : Nat → Bool, ∀ i, P i = true ↔ p i := by
  classical
  exact ⟨fun i => decide (p i), fun i => by simp⟩
theorem set_ex (p : Int → Prop) : ∃ P : Int → Bool, ∀ i, P i = true ↔ p i := by
  classical
  exact ⟨fun i => decide (p i), fun i => by simp⟩
/-- A greatest flow: there is a set of the same capacity. -/
structure Best (n : Nat) (l : List Ar) (s t : Int) (f : List Int) : Prop where
  flw : Flw n l s t f
  cut : ∃ S : Int → Bool, S s = true ∧ S t = false ∧ capS S l = net l f s
section
variable {n : Nat} {l : List Ar} {s t : Int} {f g : List Int}
theorem Flw.le (h : Flw n l s t f) (hn : inN n l) (h0 : 0 ≤ s) (h1 : s < n) {S : Int → Bool} (hs : S s = true) (ht : S t = false) : net l f s ≤ capS S l := by
  rw [← h.cross hn h0 h1 hs ht]
  exact crs_le h.ok
/-- A set that is left by no step is a set of the flow's value. -/
theorem Flw.best (h : Flw n l s t f) (hn : inN n l) (h0 : 0 ≤ s) (h1 : s < n) {S : Int → Bool} (hs : S s = true) (ht : S t = false) (hc : Shut l f S) : Best n l s t f :=
  ⟨h, S, hs, ht, by rw [← (crs_tight h.ok).2 ((tight_shut h.ok).2 hc)]; exact h.cross hn h0 h1 hs ht⟩
theorem Best.most (h : Best n l s t f) (hn : inN n l) (h0 : 0 ≤ s) (h1 : s < n) (hg : Flw n l s t g) : net l g s ≤ net l f s := by
  obtain ⟨S, hs, ht, hc⟩ := h.cut
  rw [← hc]
  exact hg.le hn h0 h1 hs ht
theorem Best.same (h : Best n l s t f) (k : Best n l s t g) (hn : inN n l) (h0 : 0 ≤ s) (h1 : s < n) : net l f s = net l g s :=
  Int.le_antisymm (k.most hn h0 h1 h.flw) (h.most hn h0 h1 k.flw)
/-- A set of a greatest flow's value is left by no step. -/
theorem Best.shut (h : Best n l s t f) (hn : inN n l) (h0 : 0 ≤ s) (h1 : s < n) {S : Int → Bool} (hs : S s = true) (ht : S t = false) (hc : capS S l = net l f s) : Shut l f S :=
  (tight_shut h.flw.ok).1 ((crs_tight h.flw.ok).1 (by rw [hc]; exact h.flw.cross hn h0 h1 hs ht))
theorem Best.far (h : Best n l s t f) (hn : inN n l) (h0 : 0 ≤ s) (h1 : s < n) : ¬ Rch l f s t := by
  obtain ⟨S, hs, ht, hc⟩ := h.cut
  intro hr
  have := hr S hs (h.shut hn h0 h1 hs ht hc)
  rw [ht] at this
  cases this
theorem Best.cap (h : Best n l s t f) (hn : inN n l) (h0 : 0 ≤ s) (h1 : s < n) : ∃ S : Int → Bool, (∀ x, S x = true ↔ Rch l f s x) ∧ S s = true ∧ S t = false ∧ capS S l = net l f s := by
  obtain ⟨S, hS⟩ := set_ex (Rch l f s)
  have hs : S s = true := (hS s).2 (Rch.self _ _ _)
  have ht : S t = false := by
    cases hb : S t
    · rfl
    · exact absurd ((hS t).1 hb) (h.far hn h0 h1)
  refine ⟨S, hS, hs, ht, ?_⟩
  rw [← (crs_tight h.flw.ok).2 ((tight_shut h.flw.ok).2 (fun x y hr hx => (hS y).2 (((hS x).1 hx).step hr)))]
  exact h.flw.cross hn h0 h1 hs ht
theorem Best.rch (h : Best n l s t f) (k : Best n l s t g) (hn : inN n l) (h0 : 0 ≤ s) (h1 : s < n) {x : Int} (hx : Rch l g s x) : Rch l f s x := by
  obtain ⟨S, hS, hs, ht, hc⟩ := h.cap hn h0 h1
  exact (hS x).1 (hx S hs (k.shut hn h0 h1 hs ht (by rw [hc]; exact h.same k hn h0 h1)))
/-- The nodes that can be reached are the same for all greatest flows. -/
theorem Best.rch_iff (h : Best n l s t f) (k : Best n l s t g) (hn : inN n l) (h0 : 0 ≤ s) (h1 : s < n) {x : Int} : Rch l f s x ↔ Rch l g s x := ⟨k.rch h hn h0 h1, h.rch k hn h0 h1⟩
/-- A least set contains all nodes that can be reached. -/
theorem Best.least (h : Best n l s t f) (hn : inN n l) (h0 : 0 ≤ s) (h1 : s < n) {S : Int → Bool} (hs : S s = true) (ht : S t = false) (hc : capS S l = net l f s) {x : Int} (hx : Rch l f s x) : S x = true :=
  hx S hs (h.shut hn h0 h1 hs ht hc)
end
/-! The net turned round. -/
def Ar.turn (a : Ar) : Ar := ⟨a.v, a.u, a.c⟩
def turnL (l : List Ar) : List Ar := l.map Ar.turn
theorem net_turn : ∀ (l : List Ar) (f : List Int) (x : Int), net (turnL l) f x = - net l f x
  | [], f, x => by cases f <;> simp [turnL, net]
  | a :: l, [], x => by simp [turnL, net]
  | a :: l, f :: fs, x => by
    have ih := net_turn l fs x
    simp only [turnL] at ih
    simp only [turnL, List.map_cons, net, ih, Ar.turn]
    omega
theorem okF_turn : ∀ {l : List Ar} {f : List Int}, okF l f → okF (turnL l) f
  | [], [], _ => trivial
  | _ :: _, _ :: _, h => ⟨h.1, okF_turn h.2⟩
  | [], _ :: _, h => h
  | _ :: _, [], h => h
theorem capS_turn (S : Int → Bool) : ∀ l : List Ar, capS (fun x => !S x) (turnL l) = capS S l
  | [] => rfl
  | a :: l => by
    have ih := capS_turn S l
    simp only [turnL] at ih
    simp only [turnL, List.map_cons, capS, ih, Ar.turn]
    cases S a.u <;> cases S a.v <;> simp
theorem inN_turn {n : Nat} {l : List Ar} (h : inN n l) : inN n (turnL l) := by
  intro a ha
  obtain ⟨b, hb, rfl⟩ := List.mem_map.1 ha
  exact ⟨(h b hb).2, (h b hb).1⟩
/-- What t takes is what s gives. -/
theorem Flw.ends {n : Nat} {l : List Ar} {s t : Int} {f : List Int} (h : Flw n l s t f) (hn : inN n l) (s0 : 0 ≤ s) (s1 : s < n) (t0 : 0 ≤ t) (t1 : t < n) (hst : s ≠ t) : net l f t = - net l f s := by
  have h1 := nsum_crs (n := n) (fun _ => true) l f hn
  have h2 : crs (fun _ => true) l f = 0 := by
    clear h hn h1
    induction l generalizing f with
    | nil => cases f <;> rfl
    | cons a l ih => cases f with
      | nil => rfl
      | cons x f => simp only [crs, ih]; simp
  have h3 : nsum n (fun x => net l f x) = nsum n (fun x => (if s = x then net l f s else 0) + (if t = x then net l f t else 0)) := by
    apply nsum_congr
    intro x h0 h1
    by_cases e : s = x
    · subst e; rw [if_pos rfl, if_neg (fun e : t = s => hst e.symm)]; omega
    · by_cases e2 : t = x
      · subst e2; simp [e]
      · simp [e, e2, h.con x h0 h1 (fun h => e h.symm) (fun h => e2 h.symm)]
  simp only [if_true, h2] at h1
  rw [h3, nsum_add, nsum_one n s _ s0, nsum_one n t _ t0, if_pos s1, if_pos t1] at h1
  omega
theorem Best.turn {n : Nat} {l : List Ar} {s t : Int} {f : List Int} (h : Best n l s t f) (hn : inN n l) (s0 : 0 ≤ s) (s1 : s < n) (t0 : 0 ≤ t) (t1 : t < n) (hst : s ≠ t) : Best n (turnL l) t s f ∧ net (turnL l) f t = net l f s := by
  have he : net (turnL l) f t = net l f s := by
    have := h.flw.ends hn s0 s1 t0 t1 hst
    rw [net_turn]
    omega
  obtain ⟨S, hs, ht, hc⟩ := h.cut
  refine ⟨⟨⟨okF_turn h.flw.ok, fun x h0 h1 h2 h3 => ?_⟩, fun x => !S x, by simp [ht], by simp [hs], ?_⟩, he⟩
  · rw [net_turn, h.flw.con x h0 h1 h3 h2]; rfl
  · rw [capS_turn, hc, he]

/-! An arc of more room; an arc left out. -/
def moreL (l : List Ar) (i : Nat) (c : Int) : List Ar := l.set i ⟨(l.getD i default).u, (l.getD i default).v, c⟩
theorem net_more : ∀ (l : List Ar) (f : List Int) (i : Nat) (c : Int) (x : Int), net (moreL l i c) f x = net l f x
  | [], _, _, _, _ => by simp [moreL]
  | a :: l, [], i, c, x => by cases i <;> simp [moreL, net]
  | a :: l, f :: fs, 0, c, x => by simp [moreL, net]
  | a :: l, f :: fs, i + 1, c, x => by
    have ih := net_more l fs i c x
    simp only [moreL] at ih
    simp only [moreL, List.getD_cons_succ, List.set_cons_succ, net, ih]
theorem okF_more {c : Int} : ∀ {l : List Ar} {f : List Int} {i : Nat}, okF l f → (l.getD i default).c ≤ c → okF (moreL l i c) f
  | [], [], _, _, _ => by simp [moreL, okF]
  | a :: l, f :: fs, 0, h, hc => ⟨⟨h.1.1, by have := h.1.2; simp at hc ⊢; omega⟩, h.2⟩
  | a :: l, f :: fs, i + 1, h, hc => ⟨h.1, okF_more h.2 hc⟩
  | [], _ :: _, _, h, _ => by simp [okF] at h
  | _ :: _, [], _, h, _ => by simp [okF] at h
theorem capS_more {S : Int → Bool} {k : Int} (hk : 0 ≤ k) : ∀ {l : List Ar} {i : Nat}, capS S (moreL l i ((l.getD i default).c + k)) ≤ capS S l + k
  | [], _ => by simp [moreL, capS]; exact hk
  | a :: l, 0 => by
    simp only [moreL, List.getD_cons_zero, List.set_cons_zero, capS]
    split <;> omega
  | a :: l, i + 1 => by
    have ih := capS_more (S := S) hk (l := l) (i := i)
    simp only [moreL] at ih
    simp only [moreL, List.getD_cons_succ, List.set_cons_succ, capS]
    omega
theorem inN_more {n : Nat} {l : List Ar} {i : Nat} {c : Int} (h : inN n l) : inN n (moreL l i c) := by
  intro a ha
  by_cases hi : i < l.length
  · rcases List.mem_or_eq_of_mem_set ha with ha | rfl
    · exact h a ha
    · refine h (l.getD i default) ?_
      rw [List.getD_eq_getElem?_getD, List.getElem?_eq_getElem hi]
      exact List.getElem_mem hi
  · unfold moreL at ha
    rw [List.set_eq_of_length_le (by omega)] at ha
    exact h a ha
/-- With k more room in an arc the greatest value is at most k greater, and not less. -/
theorem Best.wider {n : Nat} {l : List Ar} {s t : Int} {f g : List Int} {i : Nat} {k : Int} (h : Best n l s t f) (hk : 0 ≤ k) (hg : Best n (moreL l i ((l.getD i default).c + k)) s t g) (hn : inN n l) (s0 : 0 ≤ s) (s1 : s < n) :
    net l f s ≤ net (moreL l i ((l.getD i default).c + k)) g s ∧ net (moreL l i ((l.getD i default).c + k)) g s ≤ net l f s + k := by
  have hf : Flw n (moreL l i ((l.getD i default).c + k)) s t f := ⟨okF_more h.flw.ok (by omega), fun x h0 h1 h2 h3 => by rw [net_more]; exact h.flw.con x h0 h1 h2 h3⟩
  have h1 := hg.most (inN_more hn) s0 s1 hf
  rw [net_more] at h1
  obtain ⟨S, hs, ht, hc⟩ := h.cut
  have h2 := hg.flw.le (inN_more hn) s0 s1 hs ht
  have h3 := capS_more (S := S) hk (l := l) (i := i)
  omega
theorem net_erase : ∀ (l : List Ar) (f : List Int) (i : Nat) (x : Int), i < l.length → f.getD i 0 = 0 → net (l.eraseIdx i) (f.eraseIdx i) x = net l f x
  | [], _, _, _, h, _ => by simp at h
  | a :: l, [], i, x, _, _ => by cases i <;> cases l <;> simp [net]
  | a :: l, f :: fs, 0, x, _, h => by simp at h; subst h; simp [net]
  | a :: l, f :: fs, i + 1, x, hi, h => by
    have ih := net_erase l fs i x (by simpa using hi) (by simpa using h)
    simp only [List.eraseIdx_cons_succ, net, ih]
theorem okF_erase : ∀ {l : List Ar} {f : List Int} {i : Nat}, okF l f → okF (l.eraseIdx i) (f.eraseIdx i)
  | [], [], _, _ => by simp [okF]
  | a :: l, f :: fs, 0, h => h.2
  | a :: l, f :: fs, i + 1, h => ⟨h.1, okF_erase h.2⟩
  | [], _ :: _, _, h => by simp [okF] at h
  | _ :: _, [], _, h => by simp [okF] at h
theorem capS_erase (S : Int → Bool) : ∀ (l : List Ar) (i : Nat), (∀ a ∈ l, 0 ≤ a.c) → capS S (l.eraseIdx i) ≤ capS S l
  | [], _, _ => by simp
  | a :: l, 0, h => by
    have := h a (by simp)
    simp only [List.eraseIdx_cons_zero, capS]
    split <;> omega
  | a :: l, i + 1, h => by
    have ih := capS_erase S l i (fun b hb => h b (by simp [hb]))
    simp only [List.eraseIdx_cons_succ, capS]
    omega
theorem inN_erase {n : Nat} {l : List Ar} {i : Nat} (h : inN n l) : inN n (l.eraseIdx i) := fun a ha => h a (List.mem_of_mem_eraseIdx ha)
/-- An arc that carries nothing is not needed. -/
theorem Best.idle {n : Nat} {l : List Ar} {s t : Int} {f : List Int} {i : Nat} (h : Best n l s t f) (hn : inN n l) (s0 : 0 ≤ s) (s1 : s < n) (hc : ∀ a ∈ l, 0 ≤ a.c) (hi : i < l.length) (h0 : f.getD i 0 = 0) : Best n (l.eraseIdx i) s t (f.eraseIdx i) ∧ net (l.eraseIdx i) (f.eraseIdx i) s = net l f s := by
  have hv := net_erase l f i s hi h0
  have hf : Flw n (l.eraseIdx i) s t (f.eraseIdx i) := ⟨okF_erase h.flw.ok, fun x a b c d => by rw [net_erase l f i x hi h0]; exact h.flw.con x a b c d⟩
  obtain ⟨S, hs, ht, hcut⟩ := h.cut
  have h1 := hf.le (inN_erase hn) s0 s1 hs ht
  have h2 := capS_erase S l i hc
  exact ⟨⟨hf, S, hs, ht, by omega⟩, hv⟩
/-- The net with the room 0 in an arc, and the net without it. -/
theorem capS_zero (S : Int → Bool) : ∀ (l : List Ar) (i : Nat), i < l.length → capS S (moreL l i 0) = capS S (l.eraseIdx i)
  | [], _, h => by simp at h
  | a :: l, 0, _ => by
    simp only [moreL, List.getD_cons_zero, List.set_cons_zero, List.eraseIdx_cons_zero, capS]
    split <;> omega
  | a :: l, i + 1, h => by
    have ih := capS_zero S l i (by simpa using h)
    simp only [moreL] at ih
    simp only [moreL, List.getD_cons_succ, List.set_cons_succ, List.eraseIdx_cons_succ, capS, ih]
theorem okF_zero : ∀ {l : List Ar} {f : List Int} {i : Nat}, i < l.length → okF (moreL l i 0) f → f.getD i 0 = 0 ∧ okF (l.eraseIdx i) (f.eraseIdx i)
  | [], _, _, h, _ => by simp at h
  | a :: l, f :: fs, 0, _, h => by
    have h1 := h.1
    simp at h1
    exact ⟨by simp; omega, h.2⟩
  | a :: l, f :: fs, i + 1, hi, h => by
    have ih := okF_zero (l := l) (f := fs) (i := i) (by simpa using hi) h.2
    exact ⟨by simpa using ih.1, h.1, ih.2⟩
  | a :: l, [], 0, _, h => by simp [moreL, okF] at h
  | a :: l, [], i + 1, _, h => by simp [moreL, okF] at h
theorem Best.without {n : Nat} {l : List Ar} {s t : Int} {f : List Int} {i : Nat} (hi : i < l.length) (h : Best n (moreL l i 0) s t f) : Best n (l.eraseIdx i) s t (f.eraseIdx i) ∧ net (l.eraseIdx i) (f.eraseIdx i) s = net (moreL l i 0) f s := by
  obtain ⟨h0, hk⟩ := okF_zero hi h.flw.ok
  have hv : ∀ x, net (l.eraseIdx i) (f.eraseIdx i) x = net (moreL l i 0) f x := fun x => by rw [net_erase l f i x hi h0, net_more]
  obtain ⟨S, hs, ht, hc⟩ := h.cut
  exact ⟨⟨⟨hk, fun x a b c d => by rw [hv]; exact h.flw.con x a b c d⟩, S, hs, ht, by rw [← capS_zero S l i hi, hc, hv]⟩, hv s⟩
end Go.Proofs.Ytgojjlnpbakfjaa
