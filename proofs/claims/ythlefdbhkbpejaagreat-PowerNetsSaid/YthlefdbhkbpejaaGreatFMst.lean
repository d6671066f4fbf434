/- Chapter 05: the greatest value, the least cut, the arcs that are needed; in plain Lean. -/
import Derived.WalkKit
namespace Go.Proofs.YthlefdbhkbpejaaGreat.F5

/-- An arc: from, to, capacity. -/
structure Ar where
  u : Int
  v : Int
  c : Int
instance : Inhabited Ar := ⟨⟨0, 0, 0⟩⟩

/-- What flows out of a node, less what flows into it. -/
def net : List Ar → List Int → Int → Int
  | a :: l, f :: fs, x => (if a.u = x then f else 0) - (if a.v = x then f else 0) + net l fs x
  | _, _, _ => 0
/-- What flows out of a set, less what flows into it. -/
def crs (S : Int → Bool) : List Ar → List Int → Int
  | a :: l, f :: fs => (if S a.u = true then f else 0) - (if S a.v = true then f else 0) + crs S l fs
  | _, _ => 0
/-- The capacity of a set. -/
def capS (S : Int → Bool) : List Ar → Int
  | [] => 0
  | a :: l => (if S a.u = true ∧ S a.v = false then a.c else 0) + capS S l
/-- Each arc carries between 0 and its capacity. -/
def okF : List Ar → List Int → Prop
  | a :: l, f :: fs => (0 ≤ f ∧ f ≤ a.c) ∧ okF l fs
  | [], [] => True
  | _, _ => False
def nsum : Nat → (Int → Int) → Int
  | 0, _ => 0
  | n + 1, g => nsum n g + g n
/-- The arcs' ends are nodes. -/
def inN (n : Nat) (l : List Ar) : Prop := ∀ a ∈ l, (0 ≤ a.u ∧ a.u < n) ∧ (0 ≤ a.v ∧ a.v < n)

theorem nsum_add (n : Nat) (g h : Int → Int) : nsum n (fun x => g x + h x) = nsum n g + nsum n h := by
  induction n with
  | zero => rfl
  | succ n ih => simp only [nsum, ih]; omega
theorem nsum_sub (n : Nat) (g h : Int → Int) : nsum n (fun x => g x - h x) = nsum n g - nsum n h := by
  induction n with
  | zero => rfl
  | succ n ih => simp only [nsum, ih]; omega
theorem nsum_congr {n : Nat} {g h : Int → Int} (e : ∀ x : Int, 0 ≤ x → x < n → g x = h x) : nsum n g = nsum n h := by
  induction n with
  | zero => rfl
  | succ n ih =>
    simp only [nsum]
    rw [ih (fun x h0 h1 => e x h0 (by omega)), e n (by omega) (by omega)]
theorem nsum_zero (n : Nat) : nsum n (fun _ => 0) = 0 := by
  induction n with
  | zero => rfl
  | succ n ih => simp only [nsum, ih]; rfl
theorem nsum_one (n : Nat) (a f : Int) (h0 : 0 ≤ a) : nsum n (fun x => if a = x then f else 0) = if a < n then f else 0 := by
  induction n with
  | zero => simp only [nsum]; rw [if_neg (by omega)]
  | succ n ih =>
    simp only [nsum, ih]
    by_cases h : a < n
    · rw [if_pos h, if_neg (by omega), if_pos (by omega)]; omega
    · by_cases e : a = n
      · rw [if_neg h, if_pos e, if_pos (by omega)]; omega
      · rw [if_neg h, if_neg e, if_neg (by omega)]; omega
theorem nsum_ind {n : Nat} (S : Int → Bool) {a : Int} (f : Int) (h0 : 0 ≤ a) (h1 : a < n) : nsum n (fun x => if S x = true then (if a = x then f else 0) else 0) = if S a = true then f else 0 := by
  have h : nsum n (fun x => if S x = true then (if a = x then f else 0) else 0) = nsum n (fun x => if a = x then (if S a = true then f else 0) else 0) := by
    apply nsum_congr
    intro x _ _
    by_cases e : a = x
    · subst e; simp
    · simp [e]
  rw [h, nsum_one n a _ h0, if_pos h1]
/-- What a set's nodes send out is what flows out of the set. -/
theorem nsum_crs {n : Nat} (S : Int → Bool) : ∀ (l : List Ar) (f : List Int), inN n l → nsum n (fun x => if S x = true then net l f x else 0) = crs S l f
  | [], f, _ => by
    have h : (fun x => if S x = true then net [] f x else 0) = fun _ => 0 := by funext x; simp only [net]; split <;> rfl
    rw [h]
    cases f <;> exact nsum_zero n
  | a :: l, [], _ => by
    have h : (fun x => if S x = true then net (a :: l) [] x else 0) = fun _ => 0 := by funext x; simp only [net]; split <;> rfl
    rw [h]
    exact nsum_zero n
  | a :: l, f :: fs, h => by
    have ha := h a (by simp)
    have ih := nsum_crs S l fs (fun b hb => h b (by simp [hb]))
    simp only [crs]
    rw [← ih, ← nsum_ind S f ha.1.1 ha.1.2, ← nsum_ind S f ha.2.1 ha.2.2, ← nsum_sub, ← nsum_add]
    apply nsum_congr
    intro x _ _
    simp only [net]
    by_cases e : S x = true
    · simp [e]
    · simp [e]

/-- A flow from s to t. -/
structure Flw (n : Nat) (l : List Ar) (s t : Int) (f : List Int) : Prop where
  ok : okF l f
  con : ∀ x : Int, 0 ≤ x → x < n → x ≠ s → x ≠ t → net l f x = 0
theorem okF_len {l : List Ar} {f : List Int} (h : okF l f) : f.length = l.length := by
  induction l generalizing f with
  | nil => cases f <;> simp_all [okF]
  | cons a l ih => cases f with
    | nil => simp [okF] at h
    | cons x f => simp [ih h.2]
theorem okF_at {l : List Ar} {f : List Int} (h : okF l f) {i : Nat} (hi : i < l.length) : 0 ≤ f.getD i 0 ∧ f.getD i 0 ≤ (l.getD i default).c := by
  induction l generalizing f i with
  | nil => simp at hi
  | cons a l ih => cases f with
    | nil => simp [okF] at h
    | cons x f =>
      cases i with
      | zero => simpa using h.1
      | succ i => simpa using ih h.2 (i := i) (by simpa using hi)
theorem okF_mk {l : List Ar} {f : List Int} (hl : f.length = l.length) (h : ∀ i, i < l.length → 0 ≤ f.getD i 0 ∧ f.getD i 0 ≤ (l.getD i default).c) : okF l f := by
  induction l generalizing f with
  | nil => cases f with
    | nil => trivial
    | cons x f => simp at hl
  | cons a l ih => cases f with
    | nil => simp at hl
    | cons x f =>
      refine ⟨by simpa using h 0 (by simp), ih (by simpa using hl) fun i hi => ?_⟩
      simpa using h (i + 1) (by simpa using hi)
theorem nsum_st {n : Nat} {g : Int → Int} {S : Int → Bool} {s t : Int} (h0 : 0 ≤ s) (h1 : s < n) (hs : S s = true) (ht : S t = false) (hz : ∀ x : Int, 0 ≤ x → x < n → x ≠ s → x ≠ t → g x = 0) : nsum n (fun x => if S x = true then g x else 0) = g s := by
  have h : nsum n (fun x => if S x = true then g x else 0) = nsum n (fun x => if s = x then g s else 0) := by
    apply nsum_congr
    intro x hx0 hx1
    by_cases e : s = x
    · subst e; simp [hs]
    · by_cases e2 : x = t
      · subst e2; simp [e, ht]
      · rw [hz x hx0 hx1 (fun h => e h.symm) e2]; simp [e]
  rw [h, nsum_one n s _ h0, if_pos h1]
theorem Flw.cross {n : Nat} {l : List Ar} {s t : Int} {f : List Int} (h : Flw n l s t f) (hn : inN n l) (h0 : 0 ≤ s) (h1 : s < n) {S : Int → Bool} (hs : S s = true) (ht : S t = false) : crs S l f = net l f s := by
  rw [← nsum_crs S l f hn]
  exact nsum_st h0 h1 hs ht h.con
/-- An arc between the set and the rest that is not full, or an arc back that is not empty. -/
def Tight (S : Int → Bool) (l : List Ar) (f : List Int) : Prop := ∀ i, i < l.length → (S (l.getD i default).u = true → S (l.getD i default).v = false → f.getD i 0 = (l.getD i default).c) ∧ (S (l.getD i default).u = false → S (l.getD i default).v = true → f.getD i 0 = 0)
theorem crs_le {S : Int → Bool} {l : List Ar} {f : List Int} (h : okF l f) : crs S l f ≤ capS S l := by
  induction l generalizing f with
  | nil => cases f <;> simp [crs, capS]
  | cons a l ih => cases f with
    | nil => simp [okF] at h
    | cons x f =>
      have := ih h.2
      have := h.1
      simp only [crs, capS]
      cases hu : S a.u <;> cases hv : S a.v <;> simp <;> omega
theorem crs_tight {S : Int → Bool} {l : List Ar} {f : List Int} (h : okF l f) : crs S l f = capS S l ↔ Tight S l f := by
  induction l generalizing f with
  | nil => cases f <;> simp [crs, capS, Tight]
  | cons a l ih => cases f with
    | nil => simp [okF] at h
    | cons x f =>
      have hle := crs_le (S := S) h.2
      have h1 := h.1
      have ih := ih h.2
      simp only [crs, capS]
      constructor
      · intro e
        have e2 : crs S l f = capS S l := by
          cases hu : S a.u <;> cases hv : S a.v <;> simp [hu, hv] at e <;> omega
        have hT := ih.1 e2
        intro i hi
        cases i with
        | zero =>
          simp only [List.getD_cons_zero]
          cases hu : S a.u <;> cases hv : S a.v <;> simp [hu, hv] at e ⊢ <;> omega
        | succ i => simpa using hT i (by simpa using hi)
      · intro hT
        have e2 := ih.2 (fun i hi => by simpa using hT (i + 1) (by simpa using hi))
        have h0 := hT 0 (by simp)
        simp only [List.getD_cons_zero] at h0
        cases hu : S a.u <;> cases hv : S a.v <;> simp [hu, hv] at h0 ⊢ <;> omega

/-- What a flow leaves: a step from x to y. -/
def Res (l : List Ar) (f : List Int) (x y : Int) : Prop := ∃ i, i < l.length ∧ (((l.getD i default).u = x ∧ (l.getD i default).v = y ∧ f.getD i 0 < (l.getD i default).c) ∨ ((l.getD i default).v = x ∧ (l.getD i default).u = y ∧ 0 < f.getD i 0))
def Shut (l : List Ar) (f : List Int) (S : Int → Bool) : Prop := ∀ x y, Res l f x y → S x = true → S y = true
theorem tight_shut {S : Int → Bool} {l : List Ar} {f : List Int} (h : okF l f) : Tight S l f ↔ Shut l f S := by
  constructor
  · rintro hT x y ⟨i, hi, h⟩ hx
    have := hT i hi
    rcases h with ⟨rfl, rfl, hc⟩ | ⟨rfl, rfl, hc⟩
    · cases hv : S (l.getD i default).v
      · have := this.1 hx hv; omega
      · rfl
    · cases hv : S (l.getD i default).u
      · have := this.2 hv hx; omega
      · rfl
  · intro hS i hi
    have hb := okF_at h hi
    constructor
    · intro hu hv
      by_cases hc : f.getD i 0 < (l.getD i default).c
      · have := hS _ _ ⟨i, hi, .inl ⟨rfl, rfl, hc⟩⟩ hu
        rw [hv] at this; cases this
      · omega
    · intro hu hv
      by_cases hc : 0 < f.getD i 0
      · have := hS _ _ ⟨i, hi, .inr ⟨rfl, rfl, hc⟩⟩ hv
        rw [hu] at this; cases this
      · omega
/-- A node that can be reached from s. -/
def Rch (l : List Ar) (f : List Int) (s x : Int) : Prop := ∀ S : Int → Bool, S s = true → Shut l f S → S x = true
theorem Rch.self (l : List Ar) (f : List Int) (s : Int) : Rch l f s s := fun _ h _ => h
theorem Rch.step {l : List Ar} {f : List Int} {s x y : Int} (h : Rch l f s x) (hr : Res l f x y) : Rch l f s y := fun S hs hc => hc x y hr (h S hs hc)
theorem bool_ex (p : Nat → Prop) : ∃ P : Nat → Bool, ∀ i, P i = true ↔ p i := by
  classical
  exact ⟨fun i => decide (p i), fun i => by simp⟩
theorem set_ex (p : Int → Prop) : ∃ P : Int → Bool, ∀ i, P i = true ↔ p i := by
  classical
  exact ⟨fun i => decide (p i), fun i => by simp⟩
/-- A greatest flow: there is a set of the same capacity. -/
structure Best (n : Nat) (l : List Ar) (s t : Int) (f : List Int) : Prop where
  flw : Flw n l s t f
  cut : ∃ S : Int → Bool, S s = true ∧ S t = false ∧ capS S l = net l f s
section
variable {n : Nat} {l : List Ar} {s t : Int} {f g : List Int}
theorem Flw.le (h : Flw n l s t f) (hn : inN n l) (h0 : 0 ≤ s) (h1 : s < n) {S : Int → Bool} (hs : S s = true) (ht : S t = false) : net l f s ≤ capS S l := by
  rw [← h.cross hn h0 h1 hs ht]
  exact crs_le h.ok
/-- A set that is left by no step is a set of the flow's value. -/
theorem Flw.best (h : Flw n l s t f) (hn : inN n l) (h0 : 0 ≤ s) (h1 : s < n) {S : Int → Bool} (hs : S s = true) (ht : S t = false) (hc : Shut l f S) : Best n l s t f :=
  ⟨h, S, hs, ht, by rw [← (crs_tight h.ok).2 ((tight_shut h.ok).2 hc)]; exact h.cross hn h0 h1 hs ht⟩
theorem Best.most (h : Best n l s t f) (hn : inN n l) (h0 : 0 ≤ s) (h1 : s < n) (hg : Flw n l s t g) : net l g s ≤ net l f s := by
  obtain ⟨S, hs, ht, hc⟩ := h.cut
  rw [← hc]
  exact hg.le hn h0 h1 hs ht
theorem Best.same (h : Best n l s t f) (k : Best n l s t g) (hn : inN n l) (h0 : 0 ≤ s) (h1 : s < n) : net l f s = net l g s :=
  Int.le_antisymm (k.most hn h0 h1 h.flw) (h.most hn h0 h1 k.flw)
/-- A set of a greatest flow's value is left by no step. -/
theorem Best.shut (h : Best n l s t f) (hn : inN n l) (h0 : 0 ≤ s) (h1 : s < n) {S : Int → Bool} (hs : S s = true) (ht : S t = false) (hc : capS S l = net l f s) : Shut l f S :=
  (tight_shut h.flw.ok).1 ((crs_tight h.flw.ok).1 (by rw [hc]; exact h.flw.cross hn h0 h1 hs ht))
theorem Best.far (h : Best n l s t f) (hn : inN n l) (h0 : 0 ≤ s) (h1 : s < n) : ¬ Rch l f s t := by
  obtain ⟨S, hs, ht, hc⟩ := h.cut
  intro hr
  have := hr S hs (h.shut hn h0 h1 hs ht hc)
  rw [ht] at this
  cases this
theorem Best.cap (h : Best n l s t f) (hn : inN n l) (h0 : 0 ≤ s) (h1 : s < n) : ∃ S : Int → Bool, (∀ x, S x = true ↔ Rch l f s x) ∧ S s = true ∧ S t = false ∧ capS S l = net l f s := by
  obtain ⟨S, hS⟩ := set_ex (Rch l f s)
  have hs : S s = true := (hS s).2 (Rch.self _ _ _)
  have ht : S t = false := by
    cases hb : S t
    · rfl
    · exact absurd ((hS t).1 hb) (h.far hn h0 h1)
  refine ⟨S, hS, hs, ht, ?_⟩
  rw [← (crs_tight h.flw.ok).2 ((tight_shut h.flw.ok).2 (fun x y hr hx => (hS y).2 (((hS x).1 hx).step hr)))]
  exact h.flw.cross hn h0 h1 hs ht
theorem Best.rch (h : Best n l s t f) (k : Best n l s t g) (hn : inN n l) (h0 : 0 ≤ s) (h1 : s < n) {x : Int} (hx : Rch l g s x) : Rch l f s x := by
  obtain ⟨S, hS, hs, ht, hc⟩ := h.cap hn h0 h1
  exact (hS x).1 (hx S hs (k.shut hn h0 h1 hs ht (by rw [hc]; exact h.same k hn h0 h1)))
/-- The nodes that can be reached are the same for all greatest flows. -/
theorem Best.rch_iff (h : Best n l s t f) (k : Best n l s t g) (hn : inN n l) (h0 : 0 ≤ s) (h1 : s < n) {x : Int} : Rch l f s x ↔ Rch l g s x := ⟨k.rch h hn h0 h1, h.rch k hn h0 h1⟩
/-- A least set contains all nodes that can be reached. -/
theorem Best.least (h : Best n l s t f) (hn : inN n l) (h0 : 0 ≤ s) (h1 : s < n) {S : Int → Bool} (hs : S s = true) (ht : S t = false) (hc : capS S l = net l f s) {x : Int} (hx : Rch l f s x) : S x = true :=
  hx S hs (h.shut hn h0 h1 hs ht hc)
end
/-! The net turned round. -/
def Ar.turn (a : Ar) : Ar := ⟨a.v, a.u, a.c⟩
def turnL (l : List Ar) : List Ar := l.map Ar.turn
theorem net_turn : ∀ (l : List Ar) (f : List Int) (x : Int), net (turnL l) f x = - net l f x
  | [], f, x => by cases f <;> simp [turnL, net]
  | a :: l, [], x => by simp [turnL, net]
  | a :: l, f :: fs, x => by
    have ih := net_turn l fs x
    simp only [turnL] at ih
    simp only [turnL, List.map_cons, net, ih, Ar.turn]
    omega
theorem okF_turn : ∀ {l : List Ar} {f : List Int}, okF l f → okF (turnL l) f
  | [], [], _ => trivial
  | _ :: _, _ :: _, h => ⟨h.1, okF_turn h.2⟩
  | [], _ :: _, h => h
  | _ :: _, [], h => h
theorem capS_turn (S : Int → Bool) : ∀ l : List Ar, capS (fun x => !S x) (turnL l) = capS S l
  | [] => rfl
  | a :: l => by
    have ih := capS_turn S l
    simp only [turnL] at ih
    simp only [turnL, List.map_cons, capS, ih, Ar.turn]
    cases S a.u <;> cases S a.v <;> simp
theorem inN_turn {n : Nat} {l : List Ar} (h : inN n l) : inN n (turnL l) := by
  intro a ha
  obtain ⟨b, hb, rfl⟩ := List.mem_map.1 ha
  exact ⟨(h b hb).2, (h b hb).1⟩
/-- What t takes is what s gives. -/
theorem Flw.ends {n : Nat} {l : List Ar} {s t : Int} {f : List Int} (h : Flw n l s t f) (hn : inN n l) (s0 : 0 ≤ s) (s1 : s < n) (t0 : 0 ≤ t) (t1 : t < n) (hst : s ≠ t) : net l f t = - net l f s := by
  have h1 := nsum_crs (n := n) (fun _ => true) l f hn
  have h2 : crs (fun _ => true) l f = 0 := by
    clear h hn h1
    induction l generalizing f with
    | nil => cases f <;> rfl
    | cons a l ih => cases f with
      | nil => rfl
      | cons x f => simp only [crs, ih]; simp
  have h3 : nsum n (fun x => net l f x) = nsum n (fun x => (if s = x then net l f s else 0) + (if t = x then net l f t else 0)) := by
    apply nsum_congr
    intro x h0 h1
    by_cases e : s = x
    · subst e; rw [if_pos rfl, if_neg (fun e : t = s => hst e.symm)]; omega
    · by_cases e2 : t = x
      · subst e2; simp [e]
      · simp [e, e2, h.con x h0 h1 (fun h => e h.symm) (fun h => e2 h.symm)]
  simp only [if_true, h2] at h1
  rw [h3, nsum_add, nsum_one n s _ s0, nsum_one n t _ t0, if_pos s1, if_pos t1] at h1
  omega
theorem Best.turn {n : Nat} {l : List Ar} {s t : Int} {f : List Int} (h : Best n l s t f) (hn : inN n l) (s0 : 0 ≤ s) (s1 : s < n) (t0 : 0 ≤ t) (t1 : t < n) (hst : s ≠ t) : Best n (turnL l) t s f ∧ net (turnL l) f t = net l f s := by
  have he : net (turnL l) f t = net l f s := by
    have := h.flw.ends hn s0 s1 t0 t1 hst
    rw [net_turn]
    omega
  obtain ⟨S, hs, ht, hc⟩ := h.cut
  refine ⟨⟨⟨okF_turn h.flw.ok, fun x h0 h1 h2 h3 => ?_⟩, fun x => !S x, by simp [ht], by simp [hs], ?_⟩, he⟩
  · rw [net_turn, h.flw.con x h0 h1 h3 h2]; rfl
  · rw [capS_turn, hc, he]

/-! An arc of more room; an arc left out. -/
def moreL (l : List Ar) (i : Nat) (c : Int) : List Ar := l.set i ⟨(l.getD i default).u, (l.getD i default).v, c⟩
theorem net_more : ∀ (l : List Ar) (f : List Int) (i : Nat) (c : Int) (x : Int), net (moreL l i c) f x = net l f x
  | [], _, _, _, _ => by simp [moreL]
  | a :: l, [], i, c, x => by cases i <;> simp [moreL, net]
  | a :: l, f :: fs, 0, c, x => by simp [moreL, net]
  | a :: l, f :: fs, i + 1, c, x => by
    have ih := net_more l fs i c x
    simp only [moreL] at ih
    simp only [moreL, List.getD_cons_succ, List.set_cons_succ, net, ih]
theorem okF_more {c : Int} : ∀ {l : List Ar} {f : List Int} {i : Nat}, okF l f → (l.getD i default).c ≤ c → okF (moreL l i c) f
  | [], [], _, _, _ => by simp [moreL, okF]
  | a :: l, f :: fs, 0, h, hc => ⟨⟨h.1.1, by have := h.1.2; simp at hc ⊢; omega⟩, h.2⟩
  | a :: l, f :: fs, i + 1, h, hc => ⟨h.1, okF_more h.2 hc⟩
  | [], _ :: _, _, h, _ => by simp [okF] at h
  | _ :: _, [], _, h, _ => by simp [okF] at h
theorem capS_more {S : Int → Bool} {k : Int} (hk : 0 ≤ k) : ∀ {l : List Ar} {i : Nat}, capS S (moreL l i ((l.getD i default).c + k)) ≤ capS S l + k
  | [], _ => by simp [moreL, capS]; exact hk
  | a :: l, 0 => by
    simp only [moreL, List.getD_cons_zero, List.set_cons_zero, capS]
    split <;> omega
  | a :: l, i + 1 => by
    have ih := capS_more (S := S) hk (l := l) (i := i)
    simp only [moreL] at ih
    simp only [moreL, List.getD_cons_succ, List.set_cons_succ, capS]
    omega
theorem inN_more {n : Nat} {l : List Ar} {i : Nat} {c : Int} (h : inN n l) : inN n (moreL l i c) := by
  intro a ha
  by_cases hi : i < l.length
  · rcases List.mem_or_eq_of_mem_set ha with ha | rfl
    · exact h a ha
    · refine h (l.getD i default) ?_
      rw [List.getD_eq_getElem?_getD, List.getElem?_eq_getElem hi]
      exact List.getElem_mem hi
  · unfold moreL at ha
    rw [List.set_eq_of_length_le (by omega)] at ha
    exact h a ha
/-- With k more room in an arc the greatest value is at most k greater, and not less. -/
theorem Best.wider {n : Nat} {l : List Ar} {s t : Int} {f g : List Int} {i : Nat} {k : Int} (h : Best n l s t f) (hk : 0 ≤ k) (hg : Best n (moreL l i ((l.getD i default).c + k)) s t g) (hn : inN n l) (s0 : 0 ≤ s) (s1 : s < n) :
    net l f s ≤ net (moreL l i ((l.getD i default).c + k)) g s ∧ net (moreL l i ((l.getD i default).c + k)) g s ≤ net l f s + k := by
  have hf : Flw n (moreL l i ((l.getD i default).c + k)) s t f := ⟨okF_more h.flw.ok (by omega), fun x h0 h1 h2 h3 => by rw [net_more]; exact h.flw.con x h0 h1 h2 h3⟩
  have h1 := hg.most (inN_more hn) s0 s1 hf
  rw [net_more] at h1
  obtain ⟨S, hs, ht, hc⟩ := h.cut
  have h2 := hg.flw.le (inN_more hn) s0 s1 hs ht
  have h3 := capS_more (S := S) hk (l := l) (i := i)
  omega
theorem net_erase : ∀ (l : List Ar) (f : List Int) (i : Nat) (x : Int), i < l.length → f.getD i 0 = 0 → net (l.eraseIdx i) (f.eraseIdx i) x = net l f x
  | [], _, _, _, h, _ => by simp at h
  | a :: l, [], i, x, _, _ => by cases i <;> cases l <;> simp [net]
  | a :: l, f :: fs, 0, x, _, h => by simp at h; subst h; simp [net]
  | a :: l, f :: fs, i + 1, x, hi, h => by
    have ih := net_erase l fs i x (by simpa using hi) (by simpa using h)
    simp only [List.eraseIdx_cons_succ, net, ih]
theorem okF_erase : ∀ {l : List Ar} {f : List Int} {i : Nat}, okF l f → okF (l.eraseIdx i) (f.eraseIdx i)
  | [], [], _, _ => by simp [okF]
  | a :: l, f :: fs, 0, h => h.2
  | a :: l, f :: fs, i + 1, h => ⟨h.1, okF_erase h.2⟩
  | [], _ :: _, _, h => by simp [okF] at h
  | _ :: _, [], _, h => by simp [okF] at h
theorem capS_erase (S : Int → Bool) : ∀ (l : List Ar) (i : Nat), (∀ a ∈ l, 0 ≤ a.c) → capS S (l.eraseIdx i) ≤ capS S l
  | [], _, _ => by simp
  | a :: l, 0, h => by
    have := h a (by simp)
    simp only [List.eraseIdx_cons_zero, capS]
    split <;> omega
  | a :: l, i + 1, h => by
    have ih := capS_erase S l i (fun b hb => h b (by simp [hb]))
    simp only [List.eraseIdx_cons_succ, capS]
    omega
theorem inN_erase {n : Nat} {l : List Ar} {i : Nat} (h : inN n l) : inN n (l.eraseIdx i) := fun a ha => h a (List.mem_of_mem_eraseIdx ha)
/-- An arc that carries nothing is not needed. -/
theorem Best.idle {n : Nat} {l : List Ar} {s t : Int} {f : List Int} {i : Nat} (h : Best n l s t f) (hn : inN n l) (s0 : 0 ≤ s) (s1 : s < n) (hc : ∀ a ∈ l, 0 ≤ a.c) (hi : i < l.length) (h0 : f.getD i 0 = 0) : Best n (l.eraseIdx i) s t (f.eraseIdx i) ∧ net (l.eraseIdx i) (f.eraseIdx i) s = net l f s := by
  have hv := net_erase l f i s hi h0
  have hf : Flw n (l.eraseIdx i) s t (f.eraseIdx i) := ⟨okF_erase h.flw.ok, fun x a b c d => by rw [net_erase l f i x hi h0]; exact h.flw.con x a b c d⟩
  obtain ⟨S, hs, ht, hcut⟩ := h.cut
  have h1 := hf.le (inN_erase hn) s0 s1 hs ht
  have h2 := capS_erase S l i hc
  exact ⟨⟨hf, S, hs, ht, by omega⟩, hv⟩
/-- The net with the room 0 in an arc, and the net without it. -/
theorem capS_zero (S : Int → Bool) : ∀ (l : List Ar) (i : Nat), i < l.length → capS S (moreL l i 0) = capS S (l.eraseIdx i)
  | [], _, h => by simp at h
  | a :: l, 0, _ => by
    simp only [moreL, List.getD_cons_zero, List.set_cons_zero, List.eraseIdx_cons_zero, capS]
    split <;> omega
  | a :: l, i + 1, h => by
    have ih := capS_zero S l i (by simpa using h)
    simp only [moreL] at ih
    simp only [moreL, List.getD_cons_succ, List.set_cons_succ, List.eraseIdx_cons_succ, capS, ih]
theorem okF_zero : ∀ {l : List Ar} {f : List Int} {i : Nat}, i < l.length → okF (moreL l i 0) f → f.getD i 0 = 0 ∧ okF (l.eraseIdx i) (f.eraseIdx i)
  | [], _, _, h, _ => by simp at h
  | a :: l, f :: fs, 0, _, h => by
    have h1 := h.1
    simp at h1
    exact ⟨by simp; omega, h.2⟩
  | a :: l, f :: fs, i + 1, hi, h => by
    have ih := okF_zero (l := l) (f := fs) (i := i) (by simpa using hi) h.2
    exact ⟨by simpa using ih.1, h.1, ih.2⟩
  | a :: l, [], 0, _, h => by simp [moreL, okF] at h
  | a :: l, [], i + 1, _, h => by simp [moreL, okF] at h
theorem Best.without {n : Nat} {l : List Ar} {s t : Int} {f : List Int} {i : Nat} (hi : i < l.length) (h : Best n (moreL l i 0) s t f) : Best n (l.eraseIdx i) s t (f.eraseIdx i) ∧ net (l.eraseIdx i) (f.eraseIdx i) s = net (moreL l i 0) f s := by
  obtain ⟨h0, hk⟩ := okF_zero hi h.flw.ok
  have hv : ∀ x, net (l.eraseIdx i) (f.eraseIdx i) x = net (moreL l i 0) f x := fun x => by rw [net_erase l f i x hi h0, net_more]
  obtain ⟨S, hs, ht, hc⟩ := h.cut
  exact ⟨⟨⟨hk, fun x a b c d => by rw [hv]; exact h.flw.con x a b c d⟩, S, hs, ht, by rw [← capS_zero S l i hi, hc, hv]⟩, hv s⟩
end Go.Proofs.YthlefdbhkbpejaaGreat.F5

namespace Go.Proofs.YthlefdbhkbpejaaGreat.F5

/-! What is left of a net, by edges: the edge 2 i along the arc i, the edge 2 i + 1 back. -/
def toL : List Ar → List Int
  | [] => []
  | a :: l => a.v :: a.u :: toL l
def leftL : List Ar → List Int → List Int
  | a :: l, f :: fs => (a.c - f) :: f :: leftL l fs
  | _, _ => []
/-- The edges of the first k arcs that leave a node. -/
def atL (l : List Ar) (x : Int) : Nat → List Int
  | 0 => []
  | k + 1 => (atL l x k ++ (if (l.getD k default).u = x then [2 * (k : Int)] else [])) ++ (if (l.getD k default).v = x then [2 * (k : Int) + 1] else [])
def hd (l : List Ar) (e : Nat) : Int := if e % 2 = 0 then (l.getD (e / 2) default).v else (l.getD (e / 2) default).u
def tl (l : List Ar) (e : Nat) : Int := if e % 2 = 0 then (l.getD (e / 2) default).u else (l.getD (e / 2) default).v
def room (l : List Ar) (f : List Int) (e : Nat) : Int := if e % 2 = 0 then (l.getD (e / 2) default).c - f.getD (e / 2) 0 else f.getD (e / 2) 0
/-- k more along an edge. -/
def push (f : List Int) (e : Nat) (k : Int) : List Int := f.set (e / 2) (if e % 2 = 0 then f.getD (e / 2) 0 + k else f.getD (e / 2) 0 - k)

theorem toL_len : ∀ l : List Ar, (toL l).length = 2 * l.length
  | [] => rfl
  | a :: l => by simp [toL, toL_len l]; omega
theorem leftL_len : ∀ {l : List Ar} {f : List Int}, f.length = l.length → (leftL l f).length = 2 * l.length
  | [], [], _ => rfl
  | a :: l, x :: f, h => by simp [leftL, leftL_len (l := l) (f := f) (by simpa using h)]; omega
  | [], _ :: _, h => by simp at h
  | _ :: _, [], h => by simp at h
theorem toL_at : ∀ {l : List Ar} {e : Nat}, e < 2 * l.length → (toL l).getD e default = hd l e
  | [], _, h => by simp at h
  | a :: l, 0, _ => rfl
  | a :: l, 1, _ => rfl
  | a :: l, e + 2, h => by
    have ih := toL_at (l := l) (e := e) (by simp at h; omega)
    have h1 : (e + 2) % 2 = e % 2 := by omega
    have h2 : (e + 2) / 2 = e / 2 + 1 := by omega
    simp only [toL, List.getD_cons_succ, ih, hd, h1, h2]
theorem leftL_at : ∀ {l : List Ar} {f : List Int} {e : Nat}, f.length = l.length → e < 2 * l.length → (leftL l f).getD e default = room l f e
  | [], _, _, _, h => by simp at h
  | _ :: _, [], _, h, _ => by simp at h
  | a :: l, x :: f, 0, _, _ => by simp [leftL, room]
  | a :: l, x :: f, 1, _, _ => by simp [leftL, room]
  | a :: l, x :: f, e + 2, hl, h => by
    have ih := leftL_at (l := l) (f := f) (e := e) (by simpa using hl) (by simp at h; omega)
    have h1 : (e + 2) % 2 = e % 2 := by omega
    have h2 : (e + 2) / 2 = e / 2 + 1 := by omega
    simp only [leftL, List.getD_cons_succ, ih, room, h1, h2]
theorem atL_mem {l : List Ar} {x : Int} : ∀ {k : Nat} {z : Int}, z ∈ atL l x k → ∃ e : Nat, z = e ∧ e < 2 * k ∧ tl l e = x
  | 0, _, h => by simp [atL] at h
  | k + 1, z, h => by
    simp only [atL, List.mem_append] at h
    rcases h with (h | h) | h
    · obtain ⟨e, h1, h2, h3⟩ := atL_mem h
      exact ⟨e, h1, by omega, h3⟩
    · split at h
      · simp at h
        exact ⟨2 * k, by omega, by omega, by unfold tl; rw [if_pos (by omega), show 2 * k / 2 = k by omega]; assumption⟩
      · simp at h
    · split at h
      · simp at h
        exact ⟨2 * k + 1, by omega, by omega, by unfold tl; rw [if_neg (by omega), show (2 * k + 1) / 2 = k by omega]; assumption⟩
      · simp at h
theorem mem_atL {l : List Ar} {x : Int} : ∀ {k e : Nat}, e < 2 * k → tl l e = x → (e : Int) ∈ atL l x k
  | 0, _, h, _ => by omega
  | k + 1, e, h, ht => by
    simp only [atL, List.mem_append]
    by_cases h1 : e < 2 * k
    · exact .inl (.inl (mem_atL h1 ht))
    · unfold tl at ht
      by_cases h2 : e % 2 = 0
      · rw [if_pos h2, show e / 2 = k by omega] at ht
        refine .inl (.inr ?_)
        rw [if_pos ht]; simp; omega
      · rw [if_neg h2, show e / 2 = k by omega] at ht
        refine .inr ?_
        rw [if_pos ht]; simp; omega
theorem atL_len (l : List Ar) (x : Int) (hne : ∀ a ∈ l, a.u ≠ a.v) : ∀ k, k ≤ l.length → (atL l x k).length ≤ k
  | 0, _ => by simp [atL]
  | k + 1, hk => by
    have ih := atL_len l x hne k (by omega)
    have h1 := hne (l.getD k default) (by rw [List.getD_eq_getElem?_getD, List.getElem?_eq_getElem (by omega)]; exact List.getElem_mem _)
    simp only [atL, List.length_append]
    by_cases h2 : (l.getD k default).u = x
    · rw [if_pos h2, if_neg (by omega)]; simp; omega
    · rw [if_neg h2]
      split <;> simp <;> omega
/-- A step of what is left is an edge with room. -/
theorem res_edge {l : List Ar} {f : List Int} {x y : Int} : Res l f x y ↔ ∃ e, e < 2 * l.length ∧ tl l e = x ∧ hd l e = y ∧ 0 < room l f e := by
  constructor
  · rintro ⟨i, hi, ⟨h1, h2, h3⟩ | ⟨h1, h2, h3⟩⟩
    · exact ⟨2 * i, by omega, by unfold tl; rw [if_pos (by omega), show 2 * i / 2 = i by omega]; exact h1, by unfold hd; rw [if_pos (by omega), show 2 * i / 2 = i by omega]; exact h2, by unfold room; rw [if_pos (by omega), show 2 * i / 2 = i by omega]; omega⟩
    · exact ⟨2 * i + 1, by omega, by unfold tl; rw [if_neg (by omega), show (2 * i + 1) / 2 = i by omega]; exact h1, by unfold hd; rw [if_neg (by omega), show (2 * i + 1) / 2 = i by omega]; exact h2, by unfold room; rw [if_neg (by omega), show (2 * i + 1) / 2 = i by omega]; exact h3⟩
  · rintro ⟨e, he, h1, h2, h3⟩
    refine ⟨e / 2, by omega, ?_⟩
    unfold tl at h1
    unfold hd at h2
    unfold room at h3
    by_cases hp : e % 2 = 0
    · rw [if_pos hp] at h1 h2 h3
      exact .inl ⟨h1, h2, by omega⟩
    · rw [if_neg hp] at h1 h2 h3
      exact .inr ⟨h1, h2, h3⟩
theorem net_set : ∀ (l : List Ar) (f : List Int) (i : Nat) (d x : Int), i < l.length → f.length = l.length →
    net l (f.set i (f.getD i 0 + d)) x = net l f x + (if (l.getD i default).u = x then d else 0) - (if (l.getD i default).v = x then d else 0)
  | [], _, _, _, _, h, _ => by simp at h
  | _ :: _, [], _, _, _, _, h => by simp at h
  | a :: l, y :: f, 0, d, x, _, _ => by
    simp only [List.set_cons_zero, List.getD_cons_zero, net]
    split <;> split <;> omega
  | a :: l, y :: f, i + 1, d, x, hi, hl => by
    have ih := net_set l f i d x (by simpa using hi) (by simpa using hl)
    simp only [List.set_cons_succ, List.getD_cons_succ, net, ih]
    omega
theorem push_net {l : List Ar} {f : List Int} {e : Nat} {k x : Int} (he : e < 2 * l.length) (hl : f.length = l.length) : net l (push f e k) x = net l f x + (if tl l e = x then k else 0) - (if hd l e = x then k else 0) := by
  unfold push tl hd
  by_cases hp : e % 2 = 0
  · simp only [if_pos hp]
    exact net_set l f (e / 2) k x (by omega) hl
  · simp only [if_neg hp]
    have := net_set l f (e / 2) (-k) x (by omega) hl
    rw [Int.sub_eq_add_neg, this]
    split <;> split <;> omega
theorem push_len (f : List Int) (e : Nat) (k : Int) : (push f e k).length = f.length := by simp [push]
theorem push_zero (f : List Int) (e : Nat) : push f e 0 = f := by
  unfold push
  apply List.ext_getElem?
  intro i
  rw [List.getElem?_set]
  by_cases h : e / 2 = i
  · subst h
    by_cases hl : e / 2 < f.length
    · rw [if_pos rfl, if_pos hl, List.getD_eq_getElem?_getD, List.getElem?_eq_getElem hl]
      simp
    · rw [if_pos rfl, if_neg hl, List.getElem?_eq_none (by omega)]
  · rw [if_neg h]
theorem push_at {f : List Int} {e i : Nat} {k : Int} (h : i ≠ e / 2) : (push f e k).getD i 0 = f.getD i 0 := by
  unfold push
  rw [List.getD_eq_getElem?_getD, List.getElem?_set, if_neg (fun e => h e.symm), List.getD_eq_getElem?_getD]
theorem push_here {f : List Int} {e : Nat} {k : Int} (h : e / 2 < f.length) : (push f e k).getD (e / 2) 0 = if e % 2 = 0 then f.getD (e / 2) 0 + k else f.getD (e / 2) 0 - k := by
  unfold push
  rw [List.getD_eq_getElem?_getD, List.getElem?_set, if_pos rfl, if_pos h]
  rfl
theorem push_ok {l : List Ar} {f : List Int} {e : Nat} {k : Int} (_he : e < 2 * l.length) (h : okF l f) (h0 : 0 ≤ k) (h1 : k ≤ room l f e) : okF l (push f e k) := by
  have hl := okF_len h
  refine okF_mk (by rw [push_len, hl]) fun i hi => ?_
  have hb := okF_at h hi
  by_cases hx : i = e / 2
  · subst hx
    rw [push_here (by omega)]
    unfold room at h1
    split <;> rename_i hp
    · rw [if_pos hp] at h1; omega
    · rw [if_neg hp] at h1; omega
  · rw [push_at hx]; exact hb
/-- The edges' rooms after a push: the edge has k less, its fellow k more. -/
theorem push_left {l : List Ar} {f : List Int} {e : Nat} {k : Int} (_he : e < 2 * l.length) (hl : f.length = l.length) :
    leftL l (push f e k) = ((leftL l f).set e (room l f e - k)).set (if e % 2 = 0 then e + 1 else e - 1) (room l f (if e % 2 = 0 then e + 1 else e - 1) + k) := by
  apply List.ext_getElem
  · rw [List.length_set, List.length_set, leftL_len hl, leftL_len (by rw [push_len, hl])]
  · intro i h1 h2
    rw [leftL_len (by rw [push_len, hl])] at h1
    have e1 := leftL_at (l := l) (f := push f e k) (e := i) (by rw [push_len, hl]) h1
    have e2 := leftL_at (l := l) (f := f) (e := i) hl h1
    rw [List.getD_eq_getElem?_getD, List.getElem?_eq_getElem (by rw [leftL_len (by rw [push_len, hl])]; exact h1), Option.getD_some] at e1
    rw [List.getD_eq_getElem?_getD, List.getElem?_eq_getElem (by rw [leftL_len hl]; exact h1), Option.getD_some] at e2
    rw [e1, List.getElem_set, List.getElem_set, e2]
    clear e1 e2 h2
    by_cases hx : i / 2 = e / 2
    · have hph := push_here (f := f) (e := e) (k := k) (by omega)
      by_cases hp : e % 2 = 0
      · rw [if_pos hp] at hph
        by_cases hi : i = e
        · subst hi
          rw [if_neg (by rw [if_pos hp]; omega), if_pos rfl]
          unfold room
          rw [if_pos hp, if_pos hp, hph]; omega
        · rw [if_pos (by rw [if_pos hp]; omega), if_pos hp, show i = e + 1 by omega]
          unfold room
          rw [if_neg (by omega), if_neg (by omega), show (e + 1) / 2 = e / 2 by omega, hph]
      · rw [if_neg hp] at hph
        by_cases hi : i = e
        · subst hi
          rw [if_neg (by rw [if_neg hp]; omega), if_pos rfl]
          unfold room
          rw [if_neg hp, if_neg hp, hph]
        · rw [if_pos (by rw [if_neg hp]; omega), if_neg hp, show i = e - 1 by omega]
          unfold room
          rw [if_pos (by omega), if_pos (by omega), show (e - 1) / 2 = e / 2 by omega, hph]; omega
    · rw [if_neg (by split <;> omega), if_neg (by omega)]
      unfold room
      rw [push_at (by omega)]
/-- The nodes that are given up: from each no step leads on to a node of the next level that isn't given up too. -/
def Blk (l : List Ar) (t : Int) (far0 far : Int → Int) (f : List Int) : Prop := ∀ w, 0 ≤ w → 0 ≤ far0 w → far w = -1 → w ≠ t ∧ ∀ x, Res l f w x → far0 x = far0 w + 1 → far x = -1
/-- The levels, of which some are given up. -/
def Sub (far0 far : Int → Int) : Prop := ∀ x, far x = far0 x ∨ far x = -1
/-- What send returns: k, and what it does. -/
structure Sent (l : List Ar) (t : Int) (far0 : Int → Int) (u most : Int) (f : List Int) (far : Int → Int) (k : Int) (f' : List Int) (far' : Int → Int) : Prop where
  k0 : 0 ≤ k
  k1 : k ≤ most
  ok : okF l f'
  bal : ∀ x, net l f' x = net l f x + (if u = x then k else 0) - (if t = x then k else 0)
  arcs : ∀ i, i < l.length → (far (l.getD i default).u < far u ∨ far (l.getD i default).v < far u) → f'.getD i 0 = f.getD i 0
  low : ∀ x, far x < far u → far' x = far x
  any : ∀ x, far' x = far x ∨ far' x = -1
  dead : k = 0 → Blk l t far0 far f → f' = f ∧ Blk l t far0 far' f ∧ far' u = -1
/-- The same, in the midst: j of the edges of u are done. -/
structure Mid (l : List Ar) (t : Int) (far0 : Int → Int) (u most : Int) (f : List Int) (far : Int → Int) (es : List Int) (j : Nat) (k : Int) (f' : List Int) (far' : Int → Int) : Prop where
  k0 : 0 ≤ k
  k1 : k ≤ most
  ok : okF l f'
  bal : ∀ x, net l f' x = net l f x + (if u = x then k else 0) - (if t = x then k else 0)
  arcs : ∀ i, i < l.length → (far (l.getD i default).u < far u ∨ far (l.getD i default).v < far u) → f'.getD i 0 = f.getD i 0
  low : ∀ x, far x ≤ far u → far' x = far x
  any : ∀ x, far' x = far x ∨ far' x = -1
  dead : k = 0 → Blk l t far0 far f → f' = f ∧ Blk l t far0 far' f ∧ ∀ m, m < j → ∀ e : Nat, es.getD m default = e → 0 < room l f e → far0 (hd l e) = far0 u + 1 → far' (hd l e) = -1
section
variable {l : List Ar} {t : Int} {far0 : Int → Int} {u most : Int} {f : List Int} {far : Int → Int} {es : List Int} {j : Nat} {k : Int} {f' : List Int} {far' : Int → Int}
theorem Sent.here (hm : 1 ≤ most) (ho : okF l f) : Sent l t far0 t most f far most f far :=
  ⟨by omega, Int.le_refl _, ho, fun x => by omega, fun _ _ _ => rfl, fun _ _ => rfl, fun _ => .inl rfl, fun h => by omega⟩
theorem Mid.start (hm : 0 ≤ most) (ho : okF l f) : Mid l t far0 u most f far es 0 0 f far :=
  ⟨Int.le_refl _, hm, ho, fun x => by split <;> split <;> omega, fun _ _ _ => rfl, fun _ _ => rfl, fun _ => .inl rfl, fun _ h => ⟨rfl, h, fun m hm => by omega⟩⟩
/-- An edge without room is passed. -/
theorem Mid.full (h : Mid l t far0 u most f far es j k f' far') {e : Nat} (he : es.getD j default = e) (hr : ¬ 0 < room l f' e) : Mid l t far0 u most f far es (j + 1) k f' far' := by
  refine { h with dead := fun hk hb => ?_ }
  obtain ⟨rfl, h2, h3⟩ := h.dead hk hb
  refine ⟨rfl, h2, fun m hm e' he' hr' hx => ?_⟩
  by_cases hmj : m = j
  · subst hmj
    rw [he] at he'
    obtain rfl : e = e' := by omega
    exact absurd hr' hr
  · exact h3 m (by omega) e' he' hr' hx
/-- An edge to another level is passed. -/
theorem Mid.side (h : Mid l t far0 u most f far es j k f' far') (hs : Sub far0 far) (hu : 0 ≤ far u) {e : Nat} (he : es.getD j default = e) (hr : far' (hd l e) ≠ far' u + 1) : Mid l t far0 u most f far es (j + 1) k f' far' := by
  refine { h with dead := fun hk hb => ?_ }
  obtain ⟨rfl, h2, h3⟩ := h.dead hk hb
  refine ⟨rfl, h2, fun m hm e' he' hr' hx => ?_⟩
  by_cases hmj : m = j
  · subst hmj
    rw [he] at he'
    obtain rfl : e = e' := by omega
    have h4 := h.low u (Int.le_refl _)
    have h5 : far u = far0 u := by rcases hs u with h | h <;> omega
    rcases h.any (hd l e) with h6 | h6
    · rcases hs (hd l e) with h7 | h7 <;> omega
    · exact h6
  · exact h3 m (by omega) e' he' hr' hx
/-- What an edge sends on. -/
theorem Mid.send (h : Mid l t far0 u most f far es j k f' far') (hu : 0 ≤ far u) {e : Nat} (he : es.getD j default = e) (hel : e < 2 * l.length) (ht : tl l e = u) (hr : far' (hd l e) = far' u + 1)
    {k2 : Int} {f2 : List Int} {far2 : Int → Int} (h2 : Sent l t far0 (hd l e) (min (most - k) (room l f' e)) f' far' k2 f2 far2) : Mid l t far0 u most f far es (j + 1) (k + k2) (push f2 e k2) far2 := by
  have hlu := h.low u (Int.le_refl _)
  have hk0 := h.k0
  have h20 := h2.k0
  have h21 := h2.k1
  have hlow : ∀ x, far x ≤ far u → far2 x = far x := fun x hx => by
    have h3 := h.low x hx
    rw [h2.low x (by omega), h3]
  have hend : far' (l.getD (e / 2) default).u < far' (hd l e) ∨ far' (l.getD (e / 2) default).v < far' (hd l e) := by
    unfold tl at ht
    unfold hd at hr ⊢
    by_cases hp : e % 2 = 0
    · rw [if_pos hp] at ht hr ⊢
      left; rw [ht]; omega
    · rw [if_neg hp] at ht hr ⊢
      right; rw [ht]; omega
  have hsame := h2.arcs (e / 2) (by omega) hend
  have hroom : room l f2 e = room l f' e := by unfold room; rw [hsame]
  refine ⟨by omega, by omega, push_ok hel h2.ok h20 (by omega), fun x => ?_, fun i hi hx => ?_, hlow, fun x => ?_, fun hk hb => ?_⟩
  · rw [push_net hel (okF_len h2.ok), h2.bal, h.bal, ht]
    split <;> split <;> split <;> omega
  · have hne : i ≠ e / 2 := by
      rintro rfl
      unfold tl at ht
      unfold hd at hr
      by_cases hp : e % 2 = 0
      · rw [if_pos hp] at ht hr
        rw [ht] at hx
        rcases h.any (l.getD (e / 2) default).v with h3 | h3 <;> omega
      · rw [if_neg hp] at ht hr
        rw [ht] at hx
        rcases h.any (l.getD (e / 2) default).u with h3 | h3 <;> omega
    rw [push_at hne, h2.arcs i hi ?_, h.arcs i hi hx]
    rcases hx with hx | hx
    · left; have := h.low _ (Int.le_of_lt hx); omega
    · right; have := h.low _ (Int.le_of_lt hx); omega
  · rcases h2.any x with h3 | h3
    · rw [h3]; exact h.any x
    · exact .inr h3
  · have hka : k = 0 := by omega
    have hkb : k2 = 0 := by omega
    obtain ⟨rfl, h4, h5⟩ := h.dead hka hb
    obtain ⟨rfl, h6, h7⟩ := h2.dead hkb h4
    refine ⟨by rw [hkb, push_zero], h6, fun m hm e' he' hr' hx => ?_⟩
    by_cases hmj : m = j
    · subst hmj
      rw [he] at he'
      obtain rfl : e = e' := by omega
      exact h7
    · have h8 := h5 m (by omega) e' he' hr' hx
      rcases h2.any (hd l e') with h9 | h9
      · rw [h9, h8]
      · exact h9
/-- All is sent. -/
theorem Mid.stop (h : Mid l t far0 u most f far es j k f' far') (hm : 1 ≤ most) (hk : k = most) : Sent l t far0 u most f far k f' far' :=
  ⟨h.k0, h.k1, h.ok, h.bal, h.arcs, fun x hx => h.low x (Int.le_of_lt hx), h.any, fun h0 => by omega⟩
/-- The edges are done: something was sent. -/
theorem Mid.some (h : Mid l t far0 u most f far es j k f' far') (hk : k ≠ 0) : Sent l t far0 u most f far k f' far' :=
  ⟨h.k0, h.k1, h.ok, h.bal, h.arcs, fun x hx => h.low x (Int.le_of_lt hx), h.any, fun h0 => absurd h0 hk⟩
/-- The edges are done: nothing was sent; u is given up. -/
theorem Mid.none (h : Mid l t far0 u most f far es j k f' far') (hu0 : 0 ≤ u) (hut : u ≠ t) (hes : es = atL l u l.length) (hj : es.length ≤ j) (hk : k = 0) {far2 : Int → Int} (h2 : ∀ x, far2 x = if x.toNat = u.toNat then -1 else far' x)
    (hag : ∀ x, x.toNat = u.toNat → far' x = far' u) : Sent l t far0 u most f far k f' far2 := by
  have hlu := h.low u (Int.le_refl _)
  have hu2 : far2 u = -1 := by rw [h2, if_pos rfl]
  refine ⟨h.k0, h.k1, h.ok, h.bal, h.arcs, fun x hx => ?_, fun x => ?_, fun _ hb => ?_⟩
  · have h3 := h.low x (Int.le_of_lt hx)
    rw [h2, if_neg (fun e => by have := hag x e; omega), h3]
  · rw [h2]
    split
    · exact .inr rfl
    · exact h.any x
  · obtain ⟨rfl, h4, h5⟩ := h.dead hk hb
    refine ⟨rfl, fun w hw0 hw hd => ?_, hu2⟩
    by_cases hwu : w = u
    · subst hwu
      refine ⟨hut, fun x hr hx => ?_⟩
      obtain ⟨e, he, e1, e2, e3⟩ := res_edge.1 hr
      have hmem := mem_atL (l := l) (k := l.length) he e1
      rw [← hes] at hmem
      obtain ⟨m, hm, hme⟩ := List.mem_iff_getElem.1 hmem
      have := h5 m (by omega) e (by rw [List.getD_eq_getElem?_getD, List.getElem?_eq_getElem hm]; exact hme) e3 (by rw [e2]; exact hx)
      rw [e2] at this
      rw [h2]
      split
      · rfl
      · exact this
    · rw [h2, if_neg (by omega)] at hd
      obtain ⟨h6, h7⟩ := h4 w hw0 hw hd
      refine ⟨h6, fun x hr hx => ?_⟩
      rw [h2]
      split
      · rfl
      · exact h7 x hr hx
end

/-- Levels: how many steps lead from s to a node. -/
structure Lvl (n : Nat) (l : List Ar) (f : List Int) (s : Int) (far0 : Int → Int) : Prop where
  src : far0 s = 0
  zero : ∀ x : Int, 0 ≤ x → x < n → far0 x = 0 → x = s
  pred : ∀ x : Int, 0 ≤ x → x < n → 0 < far0 x → ∃ w : Int, (0 ≤ w ∧ w < n) ∧ far0 w + 1 = far0 x ∧ Res l f w x
  low : ∀ x : Int, 0 ≤ x → x < n → -1 ≤ far0 x ∧ far0 x < n
  shut : ∀ x y, Res l f x y → 0 ≤ far0 x → 0 ≤ far0 y
theorem res_in {n : Nat} {l : List Ar} {f : List Int} (hl : inN n l) {x y : Int} (h : Res l f x y) : (0 ≤ x ∧ x < n) ∧ 0 ≤ y ∧ y < n := by
  obtain ⟨i, hi, h⟩ := h
  have := hl (l.getD i default) (by rw [List.getD_eq_getElem?_getD, List.getElem?_eq_getElem hi]; exact List.getElem_mem hi)
  rcases h with ⟨rfl, rfl, _⟩ | ⟨rfl, rfl, _⟩
  · exact ⟨this.1, this.2⟩
  · exact ⟨this.2, this.1⟩
/-- If s is given up, so are all that can be reached. -/
theorem Lvl.gone {n : Nat} {l : List Ar} {f : List Int} {s t : Int} {far0 far : Int → Int} (h : Lvl n l f s far0) (hb : Blk l t far0 far f) (hs : far s = -1) : ∀ d : Nat, ∀ x : Int, 0 ≤ x → x < n → far0 x = d → far x = -1
  | 0, x, h0, h1, hx => by rw [h.zero x h0 h1 hx]; exact hs
  | d + 1, x, h0, h1, hx => by
    obtain ⟨w, ⟨w0, w1⟩, h3, h4⟩ := h.pred x h0 h1 (by omega)
    have h5 := h.gone hb hs d w w0 w1 (by omega)
    exact (hb w w0 (by omega) h5).2 x h4 (by omega)
/-- As long as t can be reached, something is sent. -/
theorem Lvl.moves {n : Nat} {l : List Ar} {f : List Int} {s t most : Int} {far0 : Int → Int} (h : Lvl n l f s far0) (t0 : 0 ≤ t) (t1 : t < n) (ht : 0 ≤ far0 t) {k : Int} {f' : List Int} {far' : Int → Int} (hs : Sent l t far0 s most f far0 k f' far') : 1 ≤ k := by
  have := hs.k0
  by_cases hk : k = 0
  · have hb : Blk l t far0 far0 f := fun w _ hw hd => by omega
    obtain ⟨_, h2, h3⟩ := hs.dead hk hb
    have h4 := h.gone h2 h3 (far0 t).toNat t t0 t1 (by omega)
    exact absurd rfl (h2 t t0 ht h4).1
  · omega
theorem Lvl.rch {n : Nat} {l : List Ar} {f : List Int} {s : Int} {far0 : Int → Int} (h : Lvl n l f s far0) : ∀ d : Nat, ∀ x : Int, 0 ≤ x → x < n → far0 x = d → Rch l f s x
  | 0, x, h0, h1, hx => by rw [h.zero x h0 h1 hx]; exact Rch.self _ _ _
  | d + 1, x, h0, h1, hx => by
    obtain ⟨w, ⟨w0, w1⟩, h3, h4⟩ := h.pred x h0 h1 (by omega)
    exact (h.rch d w w0 w1 (by omega)).step h4
theorem Lvl.rch_iff {n : Nat} {l : List Ar} {f : List Int} {s x : Int} {far0 : Int → Int} (h : Lvl n l f s far0) (h0 : 0 ≤ x) (h1 : x < n) : 0 ≤ far0 x ↔ Rch l f s x := by
  constructor
  · intro hx
    exact h.rch (far0 x).toNat x h0 h1 (by omega)
  · intro hr
    have := hr (fun y => decide (0 ≤ far0 y)) (by simp [h.src]) (fun a b hab ha => by simp at ha ⊢; exact h.shut a b hab ha)
    simpa using this
/-- If t cannot be reached, the flow is a greatest one. -/
theorem Lvl.best {n : Nat} {l : List Ar} {f : List Int} {s t : Int} {far0 : Int → Int} (h : Lvl n l f s far0) (hf : Flw n l s t f) (hn : inN n l) (s0 : 0 ≤ s) (s1 : s < n) (ht : far0 t < 0) : Best n l s t f :=
  hf.best hn s0 s1 (S := fun y => decide (0 ≤ far0 y)) (by simp [h.src]) (by simp; omega) (fun a b hab ha => by simp at ha ⊢; exact h.shut a b hab ha)
end Go.Proofs.YthlefdbhkbpejaaGreat.F5

namespace Go.Proofs.YthlefdbhkbpejaaGreat.F5

/-- The level of a node in a list. -/
def fv (L : List Int) : Int → Int := fun x => L.getD x.toNat default
theorem hd_nn {n : Nat} {l : List Ar} (hl : inN n l) (e : Nat) : 0 ≤ hd l e := by
  have h : ∀ i, 0 ≤ (l.getD i default).u ∧ 0 ≤ (l.getD i default).v := fun i => by
    by_cases hi : i < l.length
    · have := hl (l.getD i default) (by rw [List.getD_eq_getElem?_getD, List.getElem?_eq_getElem hi]; exact List.getElem_mem hi)
      exact ⟨this.1.1, this.2.1⟩
    · rw [List.getD_eq_getElem?_getD, List.getElem?_eq_none (by omega)]
      exact ⟨Int.le_refl _, Int.le_refl _⟩
  unfold hd
  split
  · exact (h _).2
  · exact (h _).1
/-- How many nodes aren't reached yet. -/
def neg : List Int → Nat
  | [] => 0
  | x :: L => (if x < 0 then 1 else 0) + neg L
theorem neg_le : ∀ L : List Int, neg L ≤ L.length
  | [] => Nat.le_refl _
  | x :: L => by
    have := neg_le L
    simp only [neg, List.length_cons]
    split <;> omega
theorem neg_set : ∀ {L : List Int} {i : Nat} {y : Int}, i < L.length → L.getD i default < 0 → 0 ≤ y → neg (L.set i y) + 1 = neg L
  | [], _, _, h, _, _ => by simp at h
  | x :: L, 0, y, _, h, hy => by
    simp only [List.getD_cons_zero] at h
    simp only [List.set_cons_zero, neg]
    rw [if_neg (by omega), if_pos h]
    omega
  | x :: L, i + 1, y, hi, h, hy => by
    have ih := neg_set (L := L) (i := i) (y := y) (by simpa using hi) (by simpa using h) hy
    simp only [List.set_cons_succ, neg]
    omega
theorem neg_rep (n : Nat) : neg (List.replicate n (-1)) = n := by
  induction n with
  | zero => rfl
  | succ n ih => simp only [List.replicate_succ, neg, ih]; rw [if_pos (by omega)]; omega
theorem fv_set {L : List Int} {i : Int} {y : Int} (hi : i.toNat < L.length) (x : Int) : fv (L.set i.toNat y) x = if x.toNat = i.toNat then y else fv L x := by
  unfold fv
  rw [List.getD_eq_getElem?_getD, List.getElem?_set]
  by_cases h : i.toNat = x.toNat
  · rw [if_pos h, if_pos h.symm, if_pos hi]; rfl
  · rw [if_neg h, if_neg (fun e => h e.symm), List.getD_eq_getElem?_getD]

/-- What holds of the levels and the line while levels are counted. -/
structure Bfs (n : Nat) (l : List Ar) (f : List Int) (s : Int) (L q : List Int) : Prop where
  len : L.length = n
  src : fv L s = 0
  zero : ∀ x : Int, 0 ≤ x → x < n → fv L x = 0 → x = s
  pred : ∀ x : Int, 0 ≤ x → x < n → 0 < fv L x → ∃ w : Int, (0 ≤ w ∧ w < n) ∧ fv L w + 1 = fv L x ∧ Res l f w x
  low : ∀ x : Int, 0 ≤ x → x < n → -1 ≤ fv L x ∧ fv L x + neg L + 1 ≤ n
  inq : ∀ x ∈ q, (0 ≤ x ∧ x < n) ∧ 0 ≤ fv L x
  most : q.length + neg L ≤ n
/-- Between two nodes of the line. -/
structure BfsO (n : Nat) (l : List Ar) (f : List Int) (s : Int) (L q : List Int) : Prop extends Bfs n l f s L q where
  clo : ∀ x y, Res l f x y → 0 ≤ fv L x → x ∈ q ∨ 0 ≤ fv L y
/-- At the node u, j of its edges are done. -/
structure BfsI (n : Nat) (l : List Ar) (f : List Int) (s u : Int) (j : Nat) (L r : List Int) : Prop extends Bfs n l f s L (u :: r) where
  clo : ∀ x y, Res l f x y → 0 ≤ fv L x → x = u ∨ x ∈ r ∨ 0 ≤ fv L y
  fin : ∀ m, m < j → ∀ e : Nat, (atL l u l.length).getD m default = e → 0 < room l f e → 0 ≤ fv L (hd l e)
section
variable {n : Nat} {l : List Ar} {f : List Int} {s u : Int} {j : Nat} {L q r : List Int}
theorem BfsO.start (hl : inN n l) (s0 : 0 ≤ s) (s1 : s < n) : BfsO n l f s ((List.replicate n (-1)).set s.toNat 0) [s] := by
  have hlen : s.toNat < (List.replicate n (-1 : Int)).length := by simp; omega
  have hrep : ∀ x : Int, 0 ≤ x → x < n → fv (List.replicate n (-1)) x = -1 := fun x h0 h1 => by
    unfold fv
    rw [List.getD_eq_getElem?_getD, List.getElem?_replicate, if_pos (by omega)]
    rfl
  have hneg : neg ((List.replicate n (-1 : Int)).set s.toNat 0) + 1 = n := by
    have := neg_set (L := List.replicate n (-1)) (y := 0) hlen (by rw [List.getD_eq_getElem?_getD, List.getElem?_replicate, if_pos (by omega)]; decide) (Int.le_refl _)
    rw [neg_rep] at this
    exact this
  have hs : fv ((List.replicate n (-1)).set s.toNat 0) s = 0 := by rw [fv_set hlen, if_pos rfl]
  have hx : ∀ x : Int, 0 ≤ x → x < n → x ≠ s → fv ((List.replicate n (-1)).set s.toNat 0) x = -1 := fun x h0 h1 h2 => by rw [fv_set hlen, if_neg (by omega)]; exact hrep x h0 h1
  refine ⟨⟨by simp, hs, fun x h0 h1 h2 => ?_, fun x h0 h1 h2 => ?_, fun x h0 h1 => ?_, fun x hx => ?_, by simp; omega⟩, fun x y hr h => ?_⟩
  · by_cases e : x = s
    · exact e
    · rw [hx x h0 h1 e] at h2; omega
  · by_cases e : x = s
    · rw [e, hs] at h2; omega
    · rw [hx x h0 h1 e] at h2; omega
  · by_cases e : x = s
    · rw [e, hs]; omega
    · rw [hx x h0 h1 e]; omega
  · simp only [List.mem_cons, List.not_mem_nil, or_false] at hx
    subst hx
    exact ⟨⟨s0, s1⟩, by rw [hs]; omega⟩
  · obtain ⟨⟨h0, h1⟩, _⟩ := res_in hl hr
    by_cases e : x = s
    · left; simp [e]
    · rw [hx x h0 h1 e] at h; omega
theorem BfsO.enter (h : BfsO n l f s L (u :: r)) : BfsI n l f s u 0 L r :=
  { h.toBfs with
    clo := fun x y hr hx => by
      rcases h.clo x y hr hx with h | h
      · rcases List.mem_cons.1 h with rfl | h
        · exact .inl rfl
        · exact .inr (.inl h)
      · exact .inr (.inr h)
    fin := fun m hm => by omega }
theorem BfsI.leave (h : BfsI n l f s u j L r) (hj : (atL l u l.length).length ≤ j) : BfsO n l f s L r :=
  { len := h.len, src := h.src, zero := h.zero, pred := h.pred, low := h.low,
    inq := fun x hx => h.inq x (by simp [hx]),
    most := by have := h.most; simp at this; omega,
    clo := fun x y hr hx => by
      rcases h.clo x y hr hx with rfl | h1 | h1
      · right
        obtain ⟨e, he, e1, e2, e3⟩ := res_edge.1 hr
        obtain ⟨m, hm, hme⟩ := List.mem_iff_getElem.1 (mem_atL (l := l) (k := l.length) he e1)
        have := h.fin m (by omega) e (by rw [List.getD_eq_getElem?_getD, List.getElem?_eq_getElem hm]; exact hme) e3
        rw [e2] at this
        exact this
      · exact .inl h1
      · exact .inr h1 }
/-- An edge without room, or to a node that has a level. -/
theorem BfsI.pass (h : BfsI n l f s u j L r) {e : Nat} (he : (atL l u l.length).getD j default = e) (hp : 0 < room l f e → 0 ≤ fv L (hd l e)) : BfsI n l f s u (j + 1) L r :=
  { h with
    fin := fun m hm e' he' hr => by
      by_cases hmj : m = j
      · subst hmj
        rw [he] at he'
        obtain rfl : e = e' := by omega
        exact hp hr
      · exact h.fin m (by omega) e' he' hr }
theorem BfsI.reach (hl : inN n l) (h : BfsI n l f s u j L r) {e : Nat} (he : (atL l u l.length).getD j default = e) (hel : e < 2 * l.length) (ht : tl l e = u) (hr : 0 < room l f e) {v : Int} (hv : hd l e = v) (v0 : 0 ≤ v) (v1 : v < n) (hneg : fv L v < 0) :
    BfsI n l f s u (j + 1) (L.set v.toNat (fv L u + 1)) (r ++ [v]) := by
  have hu := h.inq u (by simp)
  have hlen : v.toNat < L.length := by rw [h.len]; omega
  have hns := neg_set (L := L) (i := v.toNat) (y := fv L u + 1) hlen hneg (by omega)
  have hlu := h.low u hu.1.1 hu.1.2
  have hres : Res l f u v := res_edge.2 ⟨e, hel, ht, hv, hr⟩
  have hfv : fv (L.set v.toNat (fv L u + 1)) v = fv L u + 1 := by rw [fv_set hlen, if_pos rfl]
  have hne : ∀ x : Int, 0 ≤ x → x ≠ v → fv (L.set v.toNat (fv L u + 1)) x = fv L x := fun x h0 hx => by rw [fv_set hlen, if_neg (by omega)]
  have hup : ∀ x : Int, 0 ≤ x → 0 ≤ fv L x → fv (L.set v.toNat (fv L u + 1)) x = fv L x := fun x h0 hx => hne x h0 (fun e => by subst e; omega)
  have hvl := h.low v v0 v1
  refine { len := by rw [List.length_set]; exact h.len, src := ?_, zero := ?_, pred := ?_, low := ?_, inq := ?_, most := ?_, clo := ?_, fin := ?_ }
  · by_cases e : v.toNat = s.toNat
    · have h1 := h.src
      unfold fv at h1 hneg
      rw [e] at hneg
      omega
    · rw [fv_set hlen, if_neg (fun h => e h.symm)]; exact h.src
  · intro x h0 h1 hx
    by_cases e : x = v
    · subst e; rw [hfv] at hx; omega
    · rw [hne x h0 e] at hx; exact h.zero x h0 h1 hx
  · intro x h0 h1 hx
    by_cases e : x = v
    · subst e
      rw [hfv]
      exact ⟨u, hu.1, by rw [hup u hu.1.1 hu.2], hres⟩
    · rw [hne x h0 e] at hx ⊢
      obtain ⟨w, hw, h3, h4⟩ := h.pred x h0 h1 hx
      have := h.low w hw.1 hw.2
      exact ⟨w, hw, by rw [hup w hw.1 (by omega)]; exact h3, h4⟩
  · intro x h0 h1
    by_cases e : x = v
    · subst e; rw [hfv]; omega
    · have := h.low x h0 h1
      rw [hne x h0 e]; omega
  · intro x hx
    have h1 : x = v ∨ x ∈ u :: r := by
      simp only [List.mem_cons, List.mem_append, List.not_mem_nil, or_false] at hx ⊢
      rcases hx with h | h | h
      · exact .inr (.inl h)
      · exact .inr (.inr h)
      · exact .inl h
    rcases h1 with rfl | h1
    · exact ⟨⟨v0, v1⟩, by rw [hfv]; omega⟩
    · obtain ⟨h2, h3⟩ := h.inq x h1
      exact ⟨h2, by rw [hup x h2.1 h3]; exact h3⟩
  · have := h.most
    simp at this ⊢
    omega
  · intro x y hr' hx
    obtain ⟨⟨x0, x1⟩, y0, y1⟩ : (0 ≤ x ∧ x < n) ∧ 0 ≤ y ∧ y < n := res_in hl hr'
    by_cases e : x = v
    · subst e
      exact .inr (.inl (by simp))
    · rw [hne x x0 e] at hx
      rcases h.clo x y hr' hx with h1 | h1 | h1
      · exact .inl h1
      · exact .inr (.inl (by simp [h1]))
      · exact .inr (.inr (by rw [hup y y0 h1]; exact h1))
  · intro m hm e' he' hr'
    have hin : 0 ≤ hd l e' := hd_nn hl e'
    by_cases hmj : m = j
    · subst hmj
      rw [he] at he'
      obtain rfl : e = e' := by omega
      rw [hv, hfv]; omega
    · rw [hup _ hin (h.fin m (by omega) e' he' hr')]
      exact h.fin m (by omega) e' he' hr'
theorem BfsO.lvl (h : BfsO n l f s L []) : Lvl n l f s (fv L) :=
  ⟨h.src, h.zero, h.pred, fun x h0 h1 => by have := h.low x h0 h1; omega, fun x y hr hx => by
    rcases h.clo x y hr hx with h | h
    · simp at h
    · exact h⟩
end
/-- A step of the reference's search: by which arc, from which node, whether back, whether reached. -/
structure Stp where
  arc : Int
  fr : Int
  back : Bool
  is : Bool
instance : Inhabited Stp := ⟨⟨0, 0, false, false⟩⟩
def sv (B : List Stp) (x : Int) : Stp := B.getD x.toNat default
def eOf (b : Stp) : Nat := 2 * b.arc.toNat + (if b.back = true then 1 else 0)
def unr : List Stp → Nat
  | [] => 0
  | b :: B => (if b.is = true then 0 else 1) + unr B
theorem unr_le : ∀ B : List Stp, unr B ≤ B.length
  | [] => Nat.le_refl _
  | b :: B => by
    have := unr_le B
    simp only [unr, List.length_cons]
    split <;> omega
theorem unr_set : ∀ {B : List Stp} {i : Nat} {b : Stp}, i < B.length → (B.getD i default).is = false → b.is = true → unr (B.set i b) + 1 = unr B
  | [], _, _, h, _, _ => by simp at h
  | x :: B, 0, y, _, h, hy => by
    simp only [List.getD_cons_zero] at h
    simp only [List.set_cons_zero, unr]
    rw [if_pos hy, if_neg (by simp [h])]
    omega
  | x :: B, i + 1, y, hi, h, hy => by
    have ih := unr_set (B := B) (i := i) (b := y) (by simpa using hi) (by simpa using h) hy
    simp only [List.set_cons_succ, unr]
    omega
theorem unr_rep (n : Nat) : unr (List.replicate n default) = n := by
  induction n with
  | zero => rfl
  | succ n ih =>
    simp only [List.replicate_succ, unr, ih]
    rw [if_neg (by decide)]
    omega
theorem sv_set {B : List Stp} {i : Int} {b : Stp} (hi : i.toNat < B.length) (x : Int) : sv (B.set i.toNat b) x = if x.toNat = i.toNat then b else sv B x := by
  unfold sv
  rw [List.getD_eq_getElem?_getD, List.getElem?_set]
  by_cases h : i.toNat = x.toNat
  · rw [if_pos h, if_pos h.symm, if_pos hi]; rfl
  · rw [if_neg h, if_neg (fun e => h e.symm), List.getD_eq_getElem?_getD]

structure Rea (n : Nat) (l : List Ar) (f : List Int) (s : Int) (B : List Stp) (q : List Int) (r : Int → Nat) : Prop where
  len : B.length = n
  src : (sv B s).is = true ∧ (sv B s).fr = s
  way : ∀ x : Int, 0 ≤ x → x < n → x ≠ s → (sv B x).is = true → 0 ≤ (sv B x).arc ∧ eOf (sv B x) < 2 * l.length ∧ (0 ≤ (sv B x).fr ∧ (sv B x).fr < n) ∧ (sv B (sv B x).fr).is = true ∧ r (sv B x).fr < r x ∧ tl l (eOf (sv B x)) = (sv B x).fr ∧ hd l (eOf (sv B x)) = x ∧ 0 < room l f (eOf (sv B x))
  inq : ∀ x ∈ q, (0 ≤ x ∧ x < n) ∧ (sv B x).is = true
  most : q.length + unr B ≤ n
structure ReaO (n : Nat) (l : List Ar) (f : List Int) (s : Int) (B : List Stp) (q : List Int) (r : Int → Nat) : Prop extends Rea n l f s B q r where
  clo : ∀ x y, Res l f x y → (sv B x).is = true → x ∈ q ∨ (sv B y).is = true
/-- At the node u; the first m edges are looked at. -/
structure ReaI (n : Nat) (l : List Ar) (f : List Int) (s u : Int) (m : Nat) (B : List Stp) (q : List Int) (r : Int → Nat) : Prop extends Rea n l f s B q r where
  nu : (0 ≤ u ∧ u < n) ∧ (sv B u).is = true
  clo : ∀ x y, Res l f x y → (sv B x).is = true → x = u ∨ x ∈ q ∨ (sv B y).is = true
  fin : ∀ e, e < m → tl l e = u → 0 < room l f e → (sv B (hd l e)).is = true
section
variable {n : Nat} {l : List Ar} {f : List Int} {s u : Int} {m : Nat} {B : List Stp} {q : List Int} {r : Int → Nat}
theorem ReaO.start (hl : inN n l) (s0 : 0 ≤ s) (s1 : s < n) : ReaO n l f s ((List.replicate n default).set s.toNat ⟨-1, s, false, true⟩) [s] (fun _ => 0) := by
  have hlen : s.toNat < (List.replicate n (default : Stp)).length := by simp; omega
  have hrep : ∀ x : Int, 0 ≤ x → x < n → sv (List.replicate n default) x = default := fun x h0 h1 => by
    unfold sv
    rw [List.getD_eq_getElem?_getD, List.getElem?_replicate, if_pos (by omega)]
    rfl
  have hunr : unr ((List.replicate n (default : Stp)).set s.toNat ⟨-1, s, false, true⟩) + 1 = n := by
    have := unr_set (B := List.replicate n default) (b := ⟨-1, s, false, true⟩) hlen (by rw [List.getD_eq_getElem?_getD, List.getElem?_replicate, if_pos (by omega)]; rfl) rfl
    rw [unr_rep] at this
    exact this
  have hs : sv ((List.replicate n default).set s.toNat ⟨-1, s, false, true⟩) s = ⟨-1, s, false, true⟩ := by rw [sv_set hlen, if_pos rfl]
  have hx : ∀ x : Int, 0 ≤ x → x < n → x ≠ s → (sv ((List.replicate n default).set s.toNat ⟨-1, s, false, true⟩) x).is = false := fun x h0 h1 h2 => by rw [sv_set hlen, if_neg (by omega), hrep x h0 h1]; rfl
  refine ⟨⟨by simp, by rw [hs]; exact ⟨rfl, rfl⟩, fun x h0 h1 h2 h3 => ?_, fun x hx => ?_, by simp; omega⟩, fun x y hr h => ?_⟩
  · rw [hx x h0 h1 h2] at h3; cases h3
  · simp only [List.mem_cons, List.not_mem_nil, or_false] at hx
    subst hx
    exact ⟨⟨s0, s1⟩, by rw [hs]⟩
  · obtain ⟨⟨h0, h1⟩, _⟩ := res_in hl hr
    by_cases e : x = s
    · left; simp [e]
    · rw [hx x h0 h1 e] at h; cases h
theorem ReaO.enter (h : ReaO n l f s B (u :: q) r) : ReaI n l f s u 0 B q r :=
  { len := h.len, src := h.src, way := h.way, inq := fun x hx => h.inq x (by simp [hx]), most := by have := h.most; simp at this; omega,
    nu := h.inq u (by simp),
    clo := fun x y hr hx => by
      rcases h.clo x y hr hx with h | h
      · rcases List.mem_cons.1 h with rfl | h
        · exact .inl rfl
        · exact .inr (.inl h)
      · exact .inr (.inr h)
    fin := fun m hm => by omega }
theorem ReaI.leave (h : ReaI n l f s u (2 * l.length) B q r) : ReaO n l f s B q r :=
  { h.toRea with
    clo := fun x y hr hx => by
      rcases h.clo x y hr hx with rfl | h1 | h1
      · right
        obtain ⟨e, he, e1, e2, e3⟩ := res_edge.1 hr
        have := h.fin e he e1 e3
        rw [e2] at this
        exact this
      · exact .inl h1
      · exact .inr h1 }
theorem ReaI.pass (h : ReaI n l f s u m B q r) (hp : tl l m = u → 0 < room l f m → (sv B (hd l m)).is = true) : ReaI n l f s u (m + 1) B q r :=
  { h with
    fin := fun e he ht hr => by
      by_cases hm : e = m
      · subst hm; exact hp ht hr
      · exact h.fin e (by omega) ht hr }
theorem ReaI.reach (hl : inN n l) (h : ReaI n l f s u m B q r) (hel : m < 2 * l.length) (ht : tl l m = u) (hr : 0 < room l f m) {v : Int} (hv : hd l m = v) (v0 : 0 ≤ v) (v1 : v < n) (hneg : (sv B v).is = false) {b : Stp} (hb : b = ⟨((m / 2 : Nat) : Int), u, decide (m % 2 = 1), true⟩) :
    ReaI n l f s u (m + 1) (B.set v.toNat b) (q ++ [v]) (fun x => if x = v then r u + 1 else r x) := by
  subst hb
  have hu := h.nu
  have hlen : v.toNat < B.length := by rw [h.len]; omega
  obtain ⟨b, hb⟩ : ∃ b : Stp, b = ⟨((m / 2 : Nat) : Int), u, decide (m % 2 = 1), true⟩ := ⟨_, rfl⟩
  rw [← hb]
  have hbi : b.is = true := by rw [hb]
  have hbf : b.fr = u := by rw [hb]
  have hba : 0 ≤ b.arc := by rw [hb]; simp only; omega
  have hbe : eOf b = m := by
    rw [hb]
    unfold eOf
    simp only [Int.toNat_natCast, decide_eq_true_eq]
    split <;> omega
  have hns := unr_set (B := B) (i := v.toNat) (b := b) hlen hneg hbi
  have hvu : v ≠ u := fun e => by rw [e, hu.2] at hneg; cases hneg
  have hfv : sv (B.set v.toNat b) v = b := by rw [sv_set hlen, if_pos rfl]
  have hne : ∀ x : Int, 0 ≤ x → x ≠ v → sv (B.set v.toNat b) x = sv B x := fun x h0 hx => by rw [sv_set hlen, if_neg (by omega)]
  have hup : ∀ x : Int, 0 ≤ x → (sv B x).is = true → sv (B.set v.toNat b) x = sv B x := fun x h0 hx => hne x h0 (fun e => by subst e; rw [hneg] at hx; cases hx)
  have hhas : ∀ x : Int, 0 ≤ x → (sv B x).is = true → (sv (B.set v.toNat b) x).is = true := fun x h0 hx => by rw [hup x h0 hx]; exact hx
  have hres : Res l f u v := res_edge.2 ⟨m, hel, ht, hv, hr⟩
  refine { len := by rw [List.length_set]; exact h.len, src := ?_, way := ?_, inq := ?_, most := ?_, nu := ⟨hu.1, hhas u hu.1.1 hu.2⟩, clo := ?_, fin := ?_ }
  · have hvs : v.toNat ≠ s.toNat := fun e => by
      have h1 := h.src.1
      unfold sv at h1 hneg
      rw [e, h1] at hneg
      cases hneg
    rw [sv_set hlen, if_neg (fun e => hvs e.symm)]; exact h.src
  · intro x h0 h1 hxs hx
    by_cases e : x = v
    · subst e
      rw [hfv, hbf, hbe]
      refine ⟨hba, hel, hu.1, hhas u hu.1.1 hu.2, ?_, ht, hv, hr⟩
      rw [if_pos rfl, if_neg (fun h => hvu h.symm)]
      omega
    · rw [hne x h0 e] at hx ⊢
      obtain ⟨w1, w2, w3, w4, w5, w6, w7, w8⟩ := h.way x h0 h1 hxs hx
      refine ⟨w1, w2, w3, hhas _ w3.1 w4, ?_, w6, w7, w8⟩
      rw [if_neg e, if_neg (fun h => by rw [h, hneg] at w4; cases w4)]
      exact w5
  · intro x hx
    have h1 : x = v ∨ x ∈ q := by
      simp only [List.mem_append, List.mem_cons, List.not_mem_nil, or_false] at hx
      exact hx.symm
    rcases h1 with rfl | h1
    · exact ⟨⟨v0, v1⟩, by rw [hfv]; exact hbi⟩
    · obtain ⟨h2, h3⟩ := h.inq x h1
      exact ⟨h2, hhas x h2.1 h3⟩
  · have := h.most
    simp at this ⊢
    omega
  · intro x y hr' hx
    obtain ⟨⟨x0, x1⟩, y0, y1⟩ := res_in hl hr'
    by_cases e : x = v
    · subst e
      exact .inr (.inl (by simp))
    · rw [hne x x0 e] at hx
      rcases h.clo x y hr' hx with h1 | h1 | h1
      · exact .inl h1
      · exact .inr (.inl (by simp [h1]))
      · exact .inr (.inr (hhas y y0 h1))
  · intro e' he' ht' hr'
    by_cases hmj : e' = m
    · subst hmj
      rw [hv, hfv]; exact hbi
    · exact hhas _ (hd_nn hl e') (h.fin e' (by omega) ht' hr')
theorem ReaO.set (h : ReaO n l f s B [] r) : Shut l f (fun x => (sv B x).is) := fun x y hr hx => by
  rcases h.clo x y hr hx with h | h
  · simp at h
  · exact h
theorem ReaO.rch (h : ReaO n l f s B [] r) : ∀ d : Nat, ∀ x : Int, 0 ≤ x → x < n → r x ≤ d → (sv B x).is = true → Rch l f s x
  | 0, x, h0, h1, hd, hx => by
    by_cases e : x = s
    · rw [e]; exact Rch.self _ _ _
    · have := h.way x h0 h1 e hx
      omega
  | d + 1, x, h0, h1, hd, hx => by
    by_cases e : x = s
    · rw [e]; exact Rch.self _ _ _
    · obtain ⟨_, w2, w3, w4, w5, w6, w7, w8⟩ := h.way x h0 h1 e hx
      exact (h.rch d _ w3.1 w3.2 (by omega) w4).step (res_edge.2 ⟨_, w2, w6, w7, w8⟩)
theorem ReaO.rch_iff (h : ReaO n l f s B [] r) {x : Int} (h0 : 0 ≤ x) (h1 : x < n) : (sv B x).is = true ↔ Rch l f s x :=
  ⟨fun hx => h.rch (r x) x h0 h1 (Nat.le_refl _) hx, fun hr => hr _ h.src.1 h.set⟩
theorem ReaO.best {t : Int} (h : ReaO n l f s B [] r) (hf : Flw n l s t f) (hn : inN n l) (s0 : 0 ≤ s) (s1 : s < n) (ht : (sv B t).is = false) : Best n l s t f :=
  hf.best hn s0 s1 (S := fun x => (sv B x).is) h.src.1 ht h.set

/-! The way back from t. -/
/-- The node k steps back. -/
def bck (B : List Stp) (t : Int) : Nat → Int
  | 0 => t
  | k + 1 => (sv B (bck B t k)).fr
theorem ReaO.bck_in {t : Int} (h : ReaO n l f s B [] r) (s0 : 0 ≤ s) (s1 : s < n) (t0 : 0 ≤ t) (t1 : t < n) (ht : (sv B t).is = true) : ∀ k, (0 ≤ bck B t k ∧ bck B t k < n) ∧ (sv B (bck B t k)).is = true
  | 0 => ⟨⟨t0, t1⟩, ht⟩
  | k + 1 => by
    have ih := h.bck_in s0 s1 t0 t1 ht k
    by_cases e : bck B t k = s
    · simp only [bck, e, h.src.2]
      exact ⟨⟨s0, s1⟩, h.src.1⟩
    · obtain ⟨_, _, w3, w4, _⟩ := h.way _ ih.1.1 ih.1.2 e ih.2
      exact ⟨w3, w4⟩
theorem ReaO.bck_stay {t : Int} (h : ReaO n l f s B [] r) {K : Nat} (hK : bck B t K = s) : ∀ d, bck B t (K + d) = s
  | 0 => hK
  | d + 1 => by
    show (sv B (bck B t (K + d))).fr = s
    rw [h.bck_stay hK d, h.src.2]
/-- While room is counted: it is at most what each edge of the way has. -/
structure Wid (l : List Ar) (f : List Int) (B : List Stp) (t : Int) (k : Nat) (z : Int) : Prop where
  z0 : 1 ≤ z
  z1 : z ≤ 100000000
  each : ∀ j, j < k → z ≤ room l f (eOf (sv B (bck B t j)))
theorem Wid.start (l : List Ar) (f : List Int) (B : List Stp) (t : Int) : Wid l f B t 0 100000000 := ⟨by omega, Int.le_refl _, fun j hj => by omega⟩
theorem Wid.next {t : Int} {k : Nat} {z : Int} (h : Wid l f B t k z) (hr : 0 < room l f (eOf (sv B (bck B t k)))) : Wid l f B t (k + 1) (min z (room l f (eOf (sv B (bck B t k))))) := by
  have h0 := h.z0
  have h1 := h.z1
  refine ⟨by omega, by omega, fun j hj => ?_⟩
  by_cases e : j = k
  · subst e; omega
  · have := h.each j (by omega); omega
/-- While more is sent: k steps of the way are done. -/
structure Sup (n : Nat) (l : List Ar) (f : List Int) (s t : Int) (B : List Stp) (r : Int → Nat) (z : Int) (k : Nat) (g : List Int) : Prop where
  ok : okF l g
  bal : ∀ x, net l g x = net l f x + (if bck B t k = x then z else 0) - (if t = x then z else 0)
  old : ∀ x : Int, 0 ≤ x → x < n → x ≠ s → (sv B x).is = true → r x ≤ r (bck B t k) → g.getD (eOf (sv B x) / 2) 0 = f.getD (eOf (sv B x) / 2) 0
theorem Sup.start {t z : Int} (h : okF l f) : Sup n l f s t B r z 0 f := ⟨h, fun x => by simp only [bck]; omega, fun _ _ _ _ _ _ => rfl⟩
theorem ends_edge {l : List Ar} {e e' : Nat} (h : e / 2 = e' / 2) (hne : tl l e ≠ hd l e) : (tl l e = tl l e' ∧ hd l e = hd l e') ∨ (tl l e = hd l e' ∧ hd l e = tl l e') := by
  unfold tl hd at *
  rw [h] at *
  by_cases h1 : e % 2 = 0 <;> by_cases h2 : e' % 2 = 0 <;> simp_all
theorem Sup.next {t z : Int} {k K : Nat} {g : List Int} (hR : ReaO n l f s B [] r) (s0 : 0 ≤ s) (s1 : s < n) (t0 : 0 ≤ t) (t1 : t < n) (ht : (sv B t).is = true) (hW : Wid l f B t K z) (hK : bck B t K = s) (h : Sup n l f s t B r z k g) (hk : bck B t k ≠ s) :
    Sup n l f s t B r z (k + 1) (push g (eOf (sv B (bck B t k))) z) := by
  have hkK : k < K := by
    by_cases e : k < K
    · exact e
    · have := hR.bck_stay hK (k - K)
      rw [show K + (k - K) = k by omega] at this
      exact absurd this hk
  obtain ⟨hv, hvi⟩ := hR.bck_in s0 s1 t0 t1 ht k
  have hz0 := hW.z0
  have hzr := hW.each k hkK
  have hold := h.old
  have hnet := h.bal
  have hbk : bck B t (k + 1) = (sv B (bck B t k)).fr := rfl
  obtain ⟨v, hve⟩ : ∃ v, bck B t k = v := ⟨_, rfl⟩
  rw [hve] at hk hv hvi hzr hold hnet hbk ⊢
  obtain ⟨w1, w2, w3, w4, w5, w6, w7, w8⟩ := hR.way v hv.1 hv.2 hk hvi
  have hsame := hold v hv.1 hv.2 hk hvi (Nat.le_refl _)
  have hroom : room l g (eOf (sv B v)) = room l f (eOf (sv B v)) := by unfold room; rw [hsame]
  refine ⟨push_ok w2 h.ok (by omega) (by omega), fun x => ?_, fun x x0 x1 hxs hxi hrx => ?_⟩
  · rw [push_net w2 (okF_len h.ok), hnet, hbk, w6, w7]
    split <;> split <;> split <;> omega
  · rw [hbk] at hrx
    obtain ⟨y1, y2, y3, y4, y5, y6, y7, y8⟩ := hR.way x x0 x1 hxs hxi
    have hne : eOf (sv B x) / 2 ≠ eOf (sv B v) / 2 := by
      intro e
      have hth : tl l (eOf (sv B v)) ≠ hd l (eOf (sv B v)) := by
        rw [w6, w7]; intro h; rw [h] at w5; omega
      rcases ends_edge e.symm hth with ⟨h1, h2⟩ | ⟨h1, h2⟩
      · rw [w7, y7] at h2; subst h2; omega
      · rw [w6, y7] at h1
        rw [w7, y6] at h2
        rw [← h2] at y5
        rw [h1] at w5
        omega
    rw [push_at hne]
    exact hold x x0 x1 hxs hxi (by omega)
/-- At s more has been sent. -/
theorem Sup.done {t z : Int} {k : Nat} {g : List Int} (hf : Flw n l s t f) (hst : s ≠ t) (h : Sup n l f s t B r z k g) (hk : bck B t k = s) : Flw n l s t g ∧ net l g s = net l f s + z := by
  have hnet := h.bal
  rw [hk] at hnet
  refine ⟨⟨h.ok, fun x x0 x1 h1 h2 => ?_⟩, ?_⟩
  · rw [hnet, if_neg (fun e => h1 e.symm), if_neg (fun e => h2 e.symm), hf.con x x0 x1 h1 h2]; rfl
  · rw [hnet, if_pos rfl, if_neg (fun e => hst e.symm)]; omega
end
/-- All capacities together. -/
def tot : List Ar → Int
  | [] => 0
  | a :: l => a.c + tot l
theorem capS_tot (S : Int → Bool) : ∀ l : List Ar, (∀ a ∈ l, 0 ≤ a.c) → capS S l ≤ tot l
  | [], _ => Int.le_refl _
  | a :: l, h => by
    have := h a (by simp)
    have ih := capS_tot S l (fun b hb => h b (by simp [hb]))
    simp only [capS, tot]
    split <;> omega
theorem tot_le : ∀ l : List Ar, (∀ a ∈ l, 0 ≤ a.c ∧ a.c ≤ 100000000) → 0 ≤ tot l ∧ tot l ≤ 100000000 * l.length
  | [], _ => by simp [tot]
  | a :: l, h => by
    have := h a (by simp)
    have ih := tot_le l (fun b hb => h b (by simp [hb]))
    simp only [tot, List.length_cons]
    omega
theorem Flw.all {n : Nat} {l : List Ar} {s t : Int} {f : List Int} (h : Flw n l s t f) (hn : inN n l) (s0 : 0 ≤ s) (s1 : s < n) (hst : s ≠ t) (hc : ∀ a ∈ l, 0 ≤ a.c) : net l f s ≤ tot l :=
  Int.le_trans (h.le hn s0 s1 (S := fun x => decide (x = s)) (by simp) (by simp; exact fun e => hst e.symm)) (capS_tot _ l hc)
theorem net_zero : ∀ (l : List Ar) (k : Nat) (x : Int), net l (List.replicate k 0) x = 0
  | [], k, _ => by cases k <;> simp [net]
  | a :: l, 0, _ => by simp [net]
  | a :: l, k + 1, x => by simp [List.replicate_succ, net, net_zero l k x]
theorem okF_zeros : ∀ l : List Ar, (∀ a ∈ l, 0 ≤ a.c) → okF l (List.replicate l.length 0)
  | [], _ => trivial
  | a :: l, h => by
    simp only [List.length_cons, List.replicate_succ]
    exact ⟨⟨Int.le_refl _, h a (by simp)⟩, okF_zeros l (fun b hb => h b (by simp [hb]))⟩
theorem Flw.idle {n : Nat} {l : List Ar} {s t : Int} (h : ∀ a ∈ l, 0 ≤ a.c) : Flw n l s t (List.replicate l.length 0) := ⟨okF_zeros l h, fun x _ _ _ _ => net_zero l _ x⟩
end Go.Proofs.YthlefdbhkbpejaaGreat.F5

namespace Go.Proofs.YthlefdbhkbpejaaGreat.F5

/-- v is the greatest value. -/
def Most (n : Nat) (l : List Ar) (s t v : Int) : Prop := ∃ f, Best n l s t f ∧ net l f s = v
theorem Best.val {n : Nat} {l : List Ar} {s t : Int} {f : List Int} (h : Best n l s t f) : Most n l s t (net l f s) := ⟨f, h, rfl⟩
theorem Most.same {n : Nat} {l : List Ar} {s t v w : Int} (h : Most n l s t v) (k : Most n l s t w) (hn : inN n l) (h0 : 0 ≤ s) (h1 : s < n) : v = w := by
  obtain ⟨f, hf, rfl⟩ := h
  obtain ⟨g, hg, rfl⟩ := k
  exact hf.same hg hn h0 h1
theorem Most.mk' {n : Nat} {l : List Ar} {s t v : Int} (f : List Int) (S : Int → Bool) (hf : Flw n l s t f) (hs : S s = true) (ht : S t = false) (hc : capS S l = v) (hv : net l f s = v) : Most n l s t v :=
  ⟨f, ⟨hf, S, hs, ht, by rw [hc, hv]⟩, hv⟩

/-- The numbers below n with a property. -/
def sel (p : Nat → Bool) : Nat → List Int
  | 0 => []
  | k + 1 => sel p k ++ (if p k = true then [(k : Int)] else [])
theorem sel_congr {p q : Nat → Bool} : ∀ {n : Nat}, (∀ i, i < n → p i = q i) → sel p n = sel q n
  | 0, _ => rfl
  | n + 1, h => by
    simp only [sel]
    rw [sel_congr (fun i hi => h i (by omega)), h n (by omega)]
theorem sel_mem {p : Nat → Bool} {x : Int} : ∀ {n : Nat}, x ∈ sel p n ↔ ∃ i : Nat, i < n ∧ p i = true ∧ x = i
  | 0 => by simp [sel]
  | n + 1 => by
    simp only [sel, List.mem_append, sel_mem (n := n)]
    constructor
    · rintro (⟨i, h1, h2, h3⟩ | h)
      · exact ⟨i, by omega, h2, h3⟩
      · split at h
        · simp only [List.mem_cons, List.not_mem_nil, or_false] at h
          exact ⟨n, by omega, by assumption, h⟩
        · simp at h
    · rintro ⟨i, h1, h2, h3⟩
      by_cases e : i = n
      · subst e
        right
        rw [if_pos h2]; simp [h3]
      · exact .inl ⟨i, by omega, h2, h3⟩
theorem sel_len (p : Nat → Bool) : ∀ n, (sel p n).length ≤ n
  | 0 => by simp [sel]
  | n + 1 => by
    have := sel_len p n
    simp only [sel, List.length_append]
    split <;> simp <;> omega
theorem sel_all {p : Nat → Bool} : ∀ {n : Nat}, (∀ i, i < n → p i = true) → (sel p n).length = n
  | 0, _ => rfl
  | n + 1, h => by
    simp only [sel, List.length_append]
    rw [if_pos (h n (by omega)), sel_all (fun i hi => h i (by omega))]
    rfl
theorem sel_pair {p : Nat → Bool} : ∀ {n : Nat}, (sel p n).Pairwise (· < ·)
  | 0 => List.Pairwise.nil
  | n + 1 => by
    simp only [sel]
    rw [List.pairwise_append]
    refine ⟨sel_pair, ?_, ?_⟩
    · split
      · exact List.pairwise_singleton _ _
      · exact List.Pairwise.nil
    · intro a ha b hb
      obtain ⟨i, h1, _, h3⟩ := sel_mem.1 ha
      split at hb
      · simp only [List.mem_cons, List.not_mem_nil, or_false] at hb
        omega
      · simp at hb
theorem bool_same {a b : Bool} {p : Prop} (h : a = true ↔ p) (k : b = true ↔ p) : a = b := by
  cases a <;> cases b <;> simp_all

/-- The nodes that can be reached from s in what a greatest flow leaves. -/
def IsCut (n : Nat) (l : List Ar) (s t : Int) (c : List Int) : Prop := ∃ f, Best n l s t f ∧ ∃ S : Nat → Bool, (∀ x : Nat, x < n → (S x = true ↔ Rch l f s x)) ∧ c = sel S n
theorem IsCut.same {n : Nat} {l : List Ar} {s t : Int} {c d : List Int} (h : IsCut n l s t c) (k : IsCut n l s t d) (hn : inN n l) (h0 : 0 ≤ s) (h1 : s < n) : c = d := by
  obtain ⟨f, hf, S, hS, rfl⟩ := h
  obtain ⟨g, hg, T, hT, rfl⟩ := k
  exact sel_congr fun x hx => bool_same (hS x hx) ((hT x hx).trans (hg.rch_iff hf hn h0 h1))
/-- Without the arc i the greatest value is less. -/
def Needed (n : Nat) (l : List Ar) (s t : Int) (i : Nat) : Prop := ∃ v w, Most n l s t v ∧ Most n (l.eraseIdx i) s t w ∧ w < v
/-- The arcs that are needed. -/
def IsCrit (n : Nat) (l : List Ar) (s t : Int) (c : List Int) : Prop := ∃ C : Nat → Bool, (∀ i, i < l.length → (C i = true ↔ Needed n l s t i)) ∧ c = sel C l.length
theorem IsCrit.same {n : Nat} {l : List Ar} {s t : Int} {c d : List Int} (h : IsCrit n l s t c) (k : IsCrit n l s t d) : c = d := by
  obtain ⟨C, hC, rfl⟩ := h
  obtain ⟨D, hD, rfl⟩ := k
  exact sel_congr fun i hi => bool_same (hC i hi) (hD i hi)
theorem Most.needed {n : Nat} {l : List Ar} {s t v w : Int} {i : Nat} (h : Most n l s t v) (k : Most n (l.eraseIdx i) s t w) (hn : inN n l) (h0 : 0 ≤ s) (h1 : s < n) : Needed n l s t i ↔ w < v := by
  constructor
  · rintro ⟨v', w', h', k', hlt⟩
    rw [h.same h' hn h0 h1, k.same k' (inN_erase hn) h0 h1]
    exact hlt
  · exact fun hlt => ⟨v, w, h, k, hlt⟩
/-- An arc that carries nothing in a greatest flow is not needed. -/
theorem Best.unneeded {n : Nat} {l : List Ar} {s t : Int} {f : List Int} {i : Nat} (h : Best n l s t f) (hn : inN n l) (s0 : 0 ≤ s) (s1 : s < n) (hc : ∀ a ∈ l, 0 ≤ a.c) (hi : i < l.length) (h0 : f.getD i 0 = 0) : ¬ Needed n l s t i := by
  obtain ⟨h1, h2⟩ := h.idle hn s0 s1 hc hi h0
  rw [(h.val).needed h1.val hn s0 s1]
  omega
/-- The room 0 in an arc: the net without it. -/
theorem Best.needs {n : Nat} {l : List Ar} {s t : Int} {f g : List Int} {i : Nat} (h : Best n l s t f) (hn : inN n l) (s0 : 0 ≤ s) (s1 : s < n) (hi : i < l.length) (hg : Best n (moreL l i 0) s t g) : Needed n l s t i ↔ net (moreL l i 0) g s < net l f s := by
  obtain ⟨h1, h2⟩ := hg.without hi
  rw [(h.val).needed h1.val hn s0 s1, h2]
end Go.Proofs.YthlefdbhkbpejaaGreat.F5
