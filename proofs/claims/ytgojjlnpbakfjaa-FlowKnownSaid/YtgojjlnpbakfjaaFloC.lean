/- Chapter 05: levels while they are counted; the reference's search; in plain Lean. -/
import Derived.Test.YtgojjlnpbakfjaaFloB
namespace Go.Proofs.Ytgojjlnpbakfjaa

/-- The level of a node in a list. -/
def fv (L : List Int) : Int → Int := fun x => L.getD x.toNat default
theorem hd_nn {n : Nat} {l : List Ar} (hl : inN n l) (e : Nat) : 0 ≤ hd l e := by
  have h : ∀ i, 0 ≤ (l.getD i default).u ∧ 0 ≤ (l.getD i default).v := fun i => by
    by_cases hi : i < l.length
    · have := hl (l.getD i default) (by rw [List.getD_eq_getElem?_getD, List.getElem?_eq_getElem hi]; exact List.getElem_mem hi)
      exact ⟨this.1.1, this.2.1⟩
    · rw [List.getD_eq_getElem?_getD, List.getElem?_eq_none (by omega)]
      exact ⟨Int.le_refl _, Int.le_refl _⟩
  unfold hd
  split
  · exact (h _).2
  · exact (h _).1
/-- How many nodes aren't reached yet. -/
def neg : List Int → Nat
  | [] => 0
  | x :: L => (if x < 0 then 1 else 0) + neg L
theorem neg_le : ∀ L : List Int, neg L ≤ L.length
  | [] => Nat.le_refl _
  | x :: L => by
    have := neg_le L
    simp only [neg, List.length_cons]
    split <;> omega
theorem neg_set : ∀ {L : List Int} {i : Nat} {y : Int}, i < L.length → L.getD i default < 0 → 0 ≤ y → neg (L.set i y) + 1 = neg L
  | [], _, _, h, _, _ => by simp at h
  | x :: L, 0, y, _, h, hy => by
    simp only [List.getD_cons_zero] at h
    simp only [List.set_cons_zero, neg]
    rw [if_neg (by omega), if_pos h]
    omega
  | x :: L, i + 1, y, hi, h, hy => by
    have ih := neg_set (L := L) (i := i) (y := y) (by simpa using hi) (by simpa using h) hy
    simp only [List.set_cons_succ, neg]
    omega
theorem neg_rep (n : Nat) : neg (List.replicate n (-1)) = n := by
  induction n with
  | zero => rfl
  | succ n ih => simp only [List.replicate_succ, neg, ih]; rw [if_pos (by omega)]; omega
theorem fv_set {L : List Int} {i : Int} {y : Int} (hi : i.toNat < L.length) (x : Int) : fv (L.set i.toNat y) x = if x.toNat = i.toNat then y else fv L x := by
  unfold fv
  rw [List.getD_eq_getElem?_getD, List.getElem?_set]
  by_cases h : i.toNat = x.toNat
  · rw [if_pos h, if_pos h.symm, if_pos hi]; rfl
  · rw [if_neg h, if_neg (fun e => h e.symm), List.getD_eq_getElem?_getD]

/-- What holds of the levels and the line while levels are counted. -/
structure Bfs (n : Nat) (l : List Ar) (f : List Int) (s : Int) (L q : List Int) : Prop where
  len : L.length = n
  src : fv L s = 0
  zero : ∀ x : Int, 0 ≤ x → x < n → fv L x = 0 → x = s
  pred : ∀ x : Int, 0 ≤ x → x < n → 0 < fv L x → ∃ w : Int, (0 ≤ w ∧ w < n) ∧ fv L w + 1 = fv L x ∧ Res l f w x
  low : ∀ x : Int, 0 ≤ x → x < n → -1 ≤ fv L x ∧ fv L x + neg L + 1 ≤ n
  inq : ∀ x ∈ q, (0 ≤ x ∧ x < n) ∧ 0 ≤ fv L x
  most : q.length + neg L ≤ n
/-- Between two nodes of the line. -/
structure BfsO (n : Nat) (l : List Ar) (f : List Int) (s : Int) (L q : List Int) : Prop extends Bfs n l f s L q where
  clo : ∀ x y, Res l f x y → 0 ≤ fv L x → x ∈ q ∨ 0 ≤ fv L y
/-- At the node u, j of its edges are done. -/
structure BfsI (n : Nat) (l : List Ar) (f : List Int) (s u : Int) (j : Nat) (L r : List Int) : Prop extends Bfs n l f s L (u :: r) where
  clo : ∀ x y, Res l f x y → 0 ≤ fv L x → x = u ∨ x ∈ r ∨ 0 ≤ fv L y
  fin : ∀ m, m < j → ∀ e : Nat, (atL l u l.length).getD m default = e → 0 < room l f e → 0 ≤ fv L (hd l e)
section
variable {n : Nat} {l : List Ar} {f : List Int} {s u : Int} {j : Nat} {L q r : List Int}
theorem BfsO.start (hl : inN n l) (s0 : 0 ≤ s) (s1 : s < n) : BfsO n l f s ((List.replicate n (-1)).set s.toNat 0) [s] := by
  have hlen : s.toNat < (List.replicate n (-1 : Int)).length := by simp; omega
  have hrep : ∀ x : Int, 0 ≤ x → x < n → fv (List.replicate n (-1)) x = -1 := fun x h0 h1 => by
    unfold fv
    rw [List.getD_eq_getElem?_getD, List.getElem?_replicate, if_pos (by omega)]
    rfl
  have hneg : neg ((List.replicate n (-1 : Int)).set s.toNat 0) + 1 = n := by
    have := neg_set (L := List.replicate n (-1)) (y := 0) hlen (by rw [List.getD_eq_getElem?_getD, List.getElem?_replicate, if_pos (by omega)]; decide) (Int.le_refl _)
    rw [neg_rep] at this
    exact this
  have hs : fv ((List.replicate n (-1)).set s.toNat 0) s = 0 := by rw [fv_set hlen, if_pos rfl]
  have hx : ∀ x : Int, 0 ≤ x → x < n → x ≠ s → fv ((List.replicate n (-1)).set s.toNat 0) x = -1 := fun x h0 h1 h2 => by rw [fv_set hlen, if_neg (by omega)]; exact hrep x h0 h1
  refine ⟨⟨by simp, hs, fun x h0 h1 h2 => ?_, fun x h0 h1 h2 => ?_, fun x h0 h1 => ?_, fun x hx => ?_, by simp; omega⟩, fun x y hr h => ?_⟩
  · by_cases e : x = s
    · exact e
    · rw [hx x h0 h1 e] at h2; omega
  · by_cases e : x = s
    · rw [e, hs] at h2; omega
    · rw [hx x h0 h1 e] at h2; omega
  · by_cases e : x = s
    · rw [e, hs]; omega
    · rw [hx x h0 h1 e]; omega
  · simp only [List.mem_cons, List.not_mem_nil, or_false] at hx
    subst hx
    exact ⟨⟨s0, s1⟩, by rw [hs]; omega⟩
  · obtain ⟨⟨h0, h1⟩, _⟩ := res_in hl hr
    by_cases e : x = s
    · left; simp [e]
    · rw [hx x h0 h1 e] at h; omega
theorem BfsO.enter (h : BfsO n l f s L (u :: r)) : BfsI n l f s u 0 L r :=
  { h.toBfs with
    clo := fun x y hr hx => by
      rcases h.clo x y hr hx with h | h
      · rcases List.mem_cons.1 h with rfl | h
        · exact .inl rfl
        · exact .inr (.inl h)
      · exact .inr (.inr h)
    fin := fun m hm => by omega }
theorem BfsI.leave (h : BfsI n l f s u j L r) (hj : (atL l u l.length).length ≤ j) : BfsO n l f s L r :=
  { len := h.len, src := h.src, zero := h.zero, pred := h.pred, low := h.low,
    inq := fun x hx => h.inq x (by simp [hx]),
    most := by have := h.most; simp at this; omega,
    clo := fun x y hr hx => by
      rcases h.clo x y hr hx with rfl | h1 | h1
      · right
        obtain ⟨e, he, e1, e2, e3⟩ := res_edge.1 hr
        obtain ⟨m, hm, hme⟩ := List.mem_iff_getElem.1 (mem_atL (l := l) (k := l.length) he e1)
        have := h.fin m (by omega) e (by rw [List.getD_eq_getElem?_getD, List.getElem?_eq_getElem hm]; exact hme) e3
        rw [e2] at this
        exact this
      · exact .inl h1
      · exact .inr h1 }
/-- An edge without room, or to a node that has a level. -/
theorem BfsI.pass (h : BfsI n l f s u j L r) {e : Nat} (he : (atL l u l.length).getD j default = e) (hp : 0 < room l f e → 0 ≤ fv L (hd l e)) : BfsI n l f s u (j + 1) L r :=
  { h with
    fin := fun m hm e' he' hr => by
      by_cases hmj : m = j
      · subst hmj
        rw [he] at he'
        obtain rfl : e = e' := by omega
        exact hp hr
      · exact h.fin m (by omega) e' he' hr }
theorem BfsI.reach (hl : inN n l) (h : BfsI n l f s u j L r) {e : Nat} (he : (atL l u l.length).getD j default = e) (hel : e < 2 * l.length) (ht : tl l e = u) (hr : 0 < room l f e) {v : Int} (hv : hd l e = v) (v0 : 0 ≤ v) (v1 : v < n) (hneg : fv L v < 0) :
    BfsI n l f s u (j + 1) (L.set v.toNat (fv L u + 1)) (r ++ [v]) := by
  have hu := h.inq u (by simp)
  have hlen : v.toNat < L.length := by rw [h.len]; omega
  have hns := neg_set (L := L) (i := v.toNat) (y := fv L u + 1) hlen hneg (by omega)
  have hlu := h.low u hu.1.1 hu.1.2
  have hres : Res l f u v := res_edge.2 ⟨e, hel, ht, hv, hr⟩
  have hfv : fv (L.set v.toNat (fv L u + 1)) v = fv L u + 1 := by rw [fv_set hlen, if_pos rfl]
  have hne : ∀ x : Int, 0 ≤ x → x ≠ v → fv (L.set v.toNat (fv L u + 1)) x = fv L x := fun x h0 hx => by rw [fv_set hlen, if_neg (by omega)]
  have hup : ∀ x : Int, 0 ≤ x → 0 ≤ fv L x → fv (L.set v.toNat (fv L u + 1)) x = fv L x := fun x h0 hx => hne x h0 (fun e => by subst e; omega)
  have hvl := h.low v v0 v1
  refine { len := by rw [List.length_set]; exact h.len, src := ?_, zero := ?_, pred := ?_, low := ?_, inq := ?_, most := ?_, clo := ?_, fin := ?_ }
  · by_cases e : v.toNat = s.toNat
    · have h1 := h.src
      unfold fv at h1 hneg
      rw [e] at hneg
      omega
    · rw [fv_set hlen, if_neg (fun h => e h.symm)]; exact h.src
  · intro x h0 h1 hx
    by_cases e : x = v
    · subst e; rw [hfv] at hx; omega
    · rw [hne x h0 e] at hx; exact h.zero x h0 h1 hx
  · intro x h0 h1 hx
    by_cases e : x = v
    · subst e
      rw [hfv]
      exact ⟨u, hu.1, by rw [hup u hu.1.1 hu.2], hres⟩
    · rw [hne x h0 e] at hx ⊢
      obtain ⟨w, hw, h3, h4⟩ := h.pred x h0 h1 hx
      have := h.low w hw.1 hw.2
      exact ⟨w, hw, by rw [hup w hw.1 (by omega)]; exact h3, h4⟩
  · intro x h0 h1
    by_cases e : x = v
    · subst e; rw [hfv]; omega
    · have := h.low x h0 h1
      rw [hne x h0 e]; omega
  · intro x hx
    have h1 : x = v ∨ x ∈ u :: r := by
      simp only [List.mem_cons, List.mem_append, List.not_mem_nil, or_false] at hx ⊢
      rcases hx with h | h | h
      · exact .inr (.inl h)
      · exact .inr (.inr h)
      · exact .inl h
    rcases h1 with rfl | h1
    · exact ⟨⟨v0, v1⟩, by rw [hfv]; omega⟩
    · obtain ⟨h2, h3⟩ := h.inq x h1
      exact ⟨h2, by rw [hup x h2.1 h3]; exact h3⟩
  · have := h.most
    simp at this ⊢
    omega
  · intro x y hr' hx
    obtain ⟨⟨x0, x1⟩, y0, y1⟩ : (0 ≤ x ∧ x < n) ∧ 0 ≤ y ∧ y < n := res_in hl hr'
    by_cases e : x = v
    · subst e
      exact .inr (.inl (by simp))
    · rw [hne x x0 e] at hx
      rcases h.clo x y hr' hx with h1 | h1 | h1
      · exact .inl h1
      · exact .inr (.inl (by simp [h1]))
      · exact .inr (.inr (by rw [hup y y0 h1]; exact h1))
  · intro m hm e' he' hr'
    have hin : 0 ≤ hd l e' := hd_nn hl e'
    by_cases hmj : m = j
    · subst hmj
      rw [he] at he'
      obtain rfl : e = e' := by omega
      rw [hv, hfv]; omega
    · rw [hup _ hin (h.fin m (by omega) e' he' hr')]
      exact h.fin m (by omega) e' he' hr'
theorem BfsO.lvl (h : BfsO n l f s L []) : Lvl n l f s (fv L) :=
  ⟨h.src, h.zero, h.pred, fun x h0 h1 => by have := h.low x h0 h1; omega, fun x y hr hx => by
    rcases h.clo x y hr hx with h | h
    · simp at h
    · exact h⟩
end
/-- A step of the reference's search: by which arc, from which node, whether back, whether reached. -/
structure Stp where
  arc : Int
  fr : Int
  back : Bool
  is : Bool
instance : Inhabited Stp := ⟨⟨0, 0, false, false⟩⟩
def sv (B : List Stp) (x : Int) : Stp := B.getD x.toNat default
def eOf (b : Stp) : Nat := 2 * b.arc.toNat + (if b.back = true then 1 else 0)
def unr : List Stp → Nat
  | [] => 0
  | b :: B => (if b.is = true then 0 else 1) + unr B
theorem unr_le : ∀ B : List Stp, unr B ≤ B.length
  | [] => Nat.le_refl _
  | b :: B => by
    have := unr_le B
    simp only [unr, List.length_cons]
    split <;> omega
theorem unr_set : ∀ {B : List Stp} {i : Nat} {b : Stp}, i < B.length → (B.getD i default).is = false → b.is = true → unr (B.set i b) + 1 = unr B
  | [], _, _, h, _, _ => by simp at h
  | x :: B, 0, y, _, h, hy => by
    simp only [List.getD_cons_zero] at h
    simp only [List.set_cons_zero, unr]
    rw [if_pos hy, if_neg (by simp [h])]
    omega
  | x :: B, i + 1, y, hi, h, hy => by
    have ih := unr_set (B := B) (i := i) (b := y) (by simpa using hi) (by simpa using h) hy
    simp only [List.set_cons_succ, unr]
    omega
theorem unr_rep (n : Nat) : unr (List.replicate n default) = n := by
  induction n with
  | zero => rfl
  | succ n ih =>
    simp only [List.replicate_succ, unr, ih]
    rw [if_neg (by decide)]
    omega
theorem sv_set {B : List Stp} {i : Int} {b : Stp} (hi : i.toNat < B.length) (x : Int) : sv (B.set i.toNat b) x = if x.toNat = i.toNat then b else sv B x := by
  unfold sv
  rw [List.getD_eq_getElem?_getD, List.getElem?_set]
  by_cases h : i.toNat = x.toNat
  · rw [if_pos h, if_pos h.symm, if_pos hi]; rfl
  · rw [if_neg h, if_neg (fun e => h e.symm), List.getD_eq_getElem?_getD]

structure Rea (n : Nat) (l : List Ar) (f : List Int) (s : Int) (B : List Stp) (q : List Int) (r : Int → Nat) : Prop where
  len : B.length = n
  src : (sv B s).is = true ∧ (sv B s).fr = s
  way : ∀ x : Int, 0 ≤ x → x < n → x ≠ s → (sv B x).is = true → 0 ≤ (sv B x).arc ∧ eOf (sv B x) < 2 * l.length ∧ (0 ≤ (sv B x).fr ∧ (sv B x).fr < n) ∧ (sv B (sv B x).fr).is = true ∧ r (sv B x).fr < r x ∧ tl l (eOf (sv B x)) = (sv B x).fr ∧ hd l (eOf (sv B x)) = x ∧ 0 < room l f (eOf (sv B x))
  inq : ∀ x ∈ q, (0 ≤ x ∧ x < n) ∧ (sv B x).is = true
  most : q.length + unr B ≤ n
structure ReaO (n : Nat) (l : List Ar) (f : List Int) (s : Int) (B : List Stp) (q : List Int) (r : Int → Nat) : Prop extends Rea n l f s B q r where
  clo : ∀ x y, Res l f x y → (sv B x).is = true → x ∈ q ∨ (sv B y).is = true
/-- At the node u; the first m edges are looked at. -/
structure ReaI (n : Nat) (l : List Ar) (f : List Int) (s u : Int) (m : Nat) (B : List Stp) (q : List Int) (r : Int → Nat) : Prop extends Rea n l f s B q r where
  nu : (0 ≤ u ∧ u < n) ∧ (sv B u).is = true
  clo : ∀ x y, Res l f x y → (sv B x).is = true → x = u ∨ x ∈ q ∨ (sv B y).is = true
  fin : ∀ e, e < m → tl l e = u → 0 < room l f e → (sv B (hd l e)).is = true
section
variable {n : Nat} {l : List Ar} {f : List Int} {s u : Int} {m : Nat} {B : List Stp} {q : List Int} {r : Int → Nat}
theorem ReaO.start (hl : inN n l) (s0 : 0 ≤ s) (s1 : s < n) : ReaO n l f s ((List.replicate n default).set s.toNat ⟨-1, s, false, true⟩) [s] (fun _ => 0) := by
  have hlen : s.toNat < (List.replicate n (default : Stp)).length := by simp; omega
  have hrep : ∀ x : Int, 0 ≤ x → x < n → sv (List.replicate n default) x = default := fun x h0 h1 => by
    unfold sv
    rw [List.getD_eq_getElem?_getD, List.getElem?_replicate, if_pos (by omega)]
    rfl
  have hunr : unr ((List.replicate n (default : Stp)).set s.toNat ⟨-1, s, false, true⟩) + 1 = n := by
    have := unr_set (B := List.replicate n default) (b := ⟨-1, s, false, true⟩) hlen (by rw [List.getD_eq_getElem?_getD, List.getElem?_replicate, if_pos (by omega)]; rfl) rfl
    rw [unr_rep] at this
    exact this
  have hs : sv ((List.replicate n default).set s.toNat ⟨-1, s, false, true⟩) s = ⟨-1, s, false, true⟩ := by rw [sv_set hlen, if_pos rfl]
  have hx : ∀ x : Int, 0 ≤ x → x < n → x ≠ s → (sv ((List.replicate n default).set s.toNat ⟨-1, s, false, true⟩) x).is = false := fun x h0 h1 h2 => by rw [sv_set hlen, if_neg (by omega), hrep x h0 h1]; rfl
  refine ⟨⟨by simp, by rw [hs]; exact ⟨rfl, rfl⟩, fun x h0 h1 h2 h3 => ?_, fun x hx => ?_, by simp; omega⟩, fun x y hr h => ?_⟩
  · rw [hx x h0 h1 h2] at h3; cases h3
  · simp only [List.mem_cons, List.not_mem_nil, or_false] at hx
    subst hx
    exact ⟨⟨s0, s1⟩, by rw [hs]⟩
  · obtain ⟨⟨h0, h1⟩, _⟩ := res_in hl hr
    by_cases e : x = s
    · left; simp [e]
    · rw [hx x h0 h1 e] at h; cases h
theorem ReaO.enter (h : ReaO n l f s B (u :: q) r) : ReaI n l f s u 0 B q r :=
  { len := h.len, src := h.src, way := h.way, inq := fun x hx => h.inq x (by simp [hx]), most := by have := h.most; simp at this; omega,
    nu := h.inq u (by simp),
    clo := fun x y hr hx => by
      rcases h.clo x y hr hx with h | h
      · rcases List.mem_cons.1 h with rfl | h
        · exact .inl rfl
        · exact .inr (.inl h)
      · exact .inr (.inr h)
    fin := fun m hm => by omega }
theorem ReaI.leave (h : ReaI n l f s u (2 * l.length) B q r) : ReaO n l f s B q r :=
  { h.toRea with
    clo := fun x y hr hx => by
      rcases h.clo x y hr hx with rfl | h1 | h1
      · right
        obtain ⟨e, he, e1, e2, e3⟩ := res_edge.1 hr
        have := h.fin e he e1 e3
        rw [e2] at this
        exact this
      · exact .inl h1
      · exact .inr h1 }
theorem ReaI.pass (h : ReaI n l f s u m B q r) (hp : tl l m = u → 0 < room l f m → (sv B (hd l m)).is = true) : ReaI n l f s u (m + 1) B q r :=
  { h with
    fin := fun e he ht hr => by
      by_cases hm : e = m
      · subst hm; exact hp ht hr
      · exact h.fin e (by omega) ht hr }
theorem ReaI.reach (hl : inN n l) (h : ReaI n l f s u m B q r) (hel : m < 2 * l.length) (ht : tl l m = u) (hr : 0 < room l f m) {v : Int} (hv : hd l m = v) (v0 : 0 ≤ v) (v1 : v < n) (hneg : (sv B v).is = false) {b : Stp} (hb : b = ⟨((m / 2 : Nat) : Int), u, decide (m % 2 = 1), true⟩) :
    ReaI n l f s u (m + 1) (B.set v.toNat b) (q ++ [v]) (fun x => if x = v then r u + 1 else r x) := by
  subst hb
  have hu := h.nu
  have hlen : v.toNat < B.length := by rw [h.len]; omega
  obtain ⟨b, hb⟩ : ∃ b : Stp, b = ⟨((m / 2 : Nat) : Int), u, decide (m % 2 = 1), true⟩ := ⟨_, rfl⟩
  rw [← hb]
  have hbi : b.is = true := by rw [hb]
  have hbf : b.fr = u := by rw [hb]
  have hba : 0 ≤ b.arc := by rw [hb]; simp only; omega
  have hbe : eOf b = m := by
    rw [hb]
    unfold eOf
    simp only [Int.toNat_natCast, decide_eq_true_eq]
    split <;> omega
  have hns := unr_set (B := B) (i := v.toNat) (b := b) hlen hneg hbi
  have hvu : v ≠ u := fun e => by rw [e, hu.2] at hneg; cases hneg
  have hfv : sv (B.set v.toNat b) v = b := by rw [sv_set hlen, if_pos rfl]
  have hne : ∀ x : Int, 0 ≤ x → x ≠ v → sv (B.set v.toNat b) x = sv B x := fun x h0 hx => by rw [sv_set hlen, if_neg (by omega)]
  have hup : ∀ x : Int, 0 ≤ x → (sv B x).is = true → sv (B.set v.toNat b) x = sv B x := fun x h0 hx => hne x h0 (fun e => by subst e; rw [hneg] at hx; cases hx)
  have hhas : ∀ x : Int, 0 ≤ x → (sv B x).is = true → (sv (B.set v.toNat b) x).is = true := fun x h0 hx => by rw [hup x h0 hx]; exact hx
  have hres : Res l f u v := res_edge.2 ⟨m, hel, ht, hv, hr⟩
  refine { len := by rw [List.length_set]; exact h.len, src := ?_, way := ?_, inq := ?_, most := ?_, nu := ⟨hu.1, hhas u hu.1.1 hu.2⟩, clo := ?_, fin := ?_ }
  · have hvs : v.toNat ≠ s.toNat := fun e => by
      have h1 := h.src.1
      unfold sv at h1 hneg
      rw [e, h1] at hneg
      cases hneg
    rw [sv_set hlen, if_neg (fun e => hvs e.symm)]; exact h.src
  · intro x h0 h1 hxs hx
    by_cases e : x = v
    · subst e
      rw [hfv, hbf, hbe]
      refine ⟨hba, hel, hu.1, hhas u hu.1.1 hu.2, ?_, ht, hv, hr⟩
      rw [if_pos rfl, if_neg (fun h => hvu h.symm)]
      omega
    · rw [hne x h0 e] at hx ⊢
      obtain ⟨w1, w2, w3, w4, w5, w6, w7, w8⟩ := h.way x h0 h1 hxs hx
      refine ⟨w1, w2, w3, hhas _ w3.1 w4, ?_, w6, w7, w8⟩
      rw [if_neg e, if_neg (fun h => by rw [h, hneg] at w4; cases w4)]
      exact w5
  · intro x hx
    have h1 : x = v ∨ x ∈ q := by
      simp only [List.mem_append, List.mem_cons, List.not_mem_nil, or_false] at hx
      exact hx.symm
    rcases h1 with rfl | h1
    · exact ⟨⟨v0, v1⟩, by rw [hfv]; exact hbi⟩
    · obtain ⟨h2, h3⟩ := h.inq x h1
      exact ⟨h2, hhas x h2.1 h3⟩
  · have := h.most
    simp at this ⊢
    omega
  · intro x y hr' hx
    obtain ⟨⟨x0, x1⟩, y0, y1⟩ := res_in hl hr'
    by_cases e : x = v
    · subst e
      exact .inr (.inl (by simp))
    · rw [hne x x0 e] at hx
      rcases h.clo x y hr' hx with h1 | h1 | h1
      · exact .inl h1
      · exact .inr (.inl (by simp [h1]))
      · exact .inr (.inr (hhas y y0 h1))
  · intro e' he' ht' hr'
    by_cases hmj : e' = m
    · subst hmj
      rw [hv, hfv]; exact hbi
    · exact hhas _ (hd_nn hl e') (h.fin e' (by omega) ht' hr')
theorem ReaO.set (h : ReaO n l f s B [] r) : Shut l f (fun x => (sv B x).is) := fun x y hr hx => by
  rcases h.clo x y hr hx with h | h
  · simp at h
  · exact h
theorem ReaO.rch (h : ReaO n l f s B [] r) : ∀ d : Nat, ∀ x : Int, 0 ≤ x → x < n → r x ≤ d → (sv B x).is = true → Rch l f s x
  | 0, x, h0, h1, hd, hx => by
    by_cases e : x = s
    · rw [e]; exact Rch.self _ _ _
    · have := h.way x h0 h1 e hx
      omega
  | d + 1, x, h0, h1, hd, hx => by
    by_cases e : x = s
    · rw [e]; exact Rch.self _ _ _
    · obtain ⟨_, w2, w3, w4, w5, w6, w7, w8⟩ := h.way x h0 h1 e hx
      exact (h.rch d _ w3.1 w3.2 (by omega) w4).step (res_edge.2 ⟨_, w2, w6, w7, w8⟩)
theorem ReaO.rch_iff (h : ReaO n l f s B [] r) {x : Int} (h0 : 0 ≤ x) (h1 : x < n) : (sv B x).is = true ↔ Rch l f s x :=
  ⟨fun hx => h.rch (r x) x h0 h1 (Nat.le_refl _) hx, fun hr => hr _ h.src.1 h.set⟩
theorem ReaO.best {t : Int} (h : ReaO n l f s B [] r) (hf : Flw n l s t f) (hn : inN n l) (s0 : 0 ≤ s) (s1 : s < n) (ht : (sv B t).is = false) : Best n l s t f :=
  hf.best hn s0 s1 (S := fun x => (sv B x).is) h.src.1 ht h.set

/-! The way back from t. -/
/-- The node k steps back. -/
def bck (B : List Stp) (t : Int) : Nat → Int
  | 0 => t
  | k + 1 => (sv B (bck B t k)).fr
theorem ReaO.bck_in {t : Int} (h : ReaO n l f s B [] r) (s0 : 0 ≤ s) (s1 : s < n) (t0 : 0 ≤ t) (t1 : t < n) (ht : (sv B t).is = true) : ∀ k, (0 ≤ bck B t k ∧ bck B t k < n) ∧ (sv B (bck B t k)).is = true
  | 0 => ⟨⟨t0, t1⟩, ht⟩
  | k + 1 => by
    have ih := h.bck_in s0 s1 t0 t1 ht k
    by_cases e : bck B t k = s
    · simp only [bck, e, h.src.2]
      exact ⟨⟨s0, s1⟩, h.src.1⟩
    · obtain ⟨_, _, w3, w4, _⟩ := h.way _ ih.1.1 ih.1.2 e ih.2
      exact ⟨w3, w4⟩
theorem ReaO.bck_stay {t : Int} (h : ReaO n l f s B [] r) {K : Nat} (hK : bck B t K = s) : ∀ d, bck B t (K + d) = s
  | 0 => hK
  | d + 1 => by
    show (sv B (bck B t (K + d))).fr = s
    rw [h.bck_stay hK d, h.src.2]
/-- While room is counted: it is at most what each edge of the way has. -/
structure Wid (l : List Ar) (f : List Int) (B : List Stp) (t : Int) (k : Nat) (z : Int) : Prop where
  z0 : 1 ≤ z
  z1 : z ≤ 100000000
  each : ∀ j, j < k → z ≤ room l f (eOf (sv B (bck B t j)))
theorem Wid.start (l : List Ar) (f : List Int) (B : List Stp) (t : Int) : Wid l f B t 0 100000000 := ⟨by omega, Int.le_refl _, fun j hj => by omega⟩
theorem Wid.next {t : Int} {k : Nat} {z : Int} (h : Wid l f B t k z) (hr : 0 < room l f (eOf (sv B (bck B t k)))) : Wid l f B t (k + 1) (min z (room l f (eOf (sv B (bck B t k))))) := by
  have h0 := h.z0
  have h1 := h.z1
  refine ⟨by omega, by omega, fun j hj => ?_⟩
  by_cases e : j = k
  · subst e; omega
  · have := h.each j (by omega); omega
/-- While more is sent: k steps of the way are done. -/
structure Sup (n : Nat) (l : List Ar) (f : List Int) (s t : Int) (B : List Stp) (r : Int → Nat) (z : Int) (k : Nat) (g : List Int) : Prop where
  ok : okF l g
  bal : ∀ x, net l g x = net l f x + (if bck B t k = x then z else 0) - (if t = x then z else 0)
  old : ∀ x : Int, 0 ≤ x → x < n → x ≠ s → (sv B x).is = true → r x ≤ r (bck B t k) → g.getD (eOf (sv B x) / 2) 0 = f.getD (eOf (sv B x) / 2) 0
theorem Sup.start {t z : Int} (h : okF l f) : Sup n l f s t B r z 0 f := ⟨h, fun x => by simp only [bck]; omega, fun _ _ _ _ _ _ => rfl⟩
theorem ends_edge {l : List Ar} {e e' : Nat} (h : e / 2 = e' / 2) (hne : tl l e ≠ hd l e) : (tl l e = tl l e' ∧ hd l e = hd l e') ∨ (tl l e = hd l e' ∧ hd l e = tl l e') := by
  unfold tl hd at *
  rw [h] at *
  by_cases h1 : e % 2 = 0 <;> by_cases h2 : e' % 2 = 0 <;> simp_all
theorem Sup.next {t z : Int} {k K : Nat} {g : List Int} (hR : ReaO n l f s B [] r) (s0 : 0 ≤ s) (s1 : s < n) (t0 : 0 ≤ t) (t1 : t < n) (ht : (sv B t).is = true) (hW : Wid l f B t K z) (hK : bck B t K = s) (h : Sup n l f s t B r z k g) (hk : bck B t k ≠ s) :
    Sup n l f s t B r z (k + 1) (push g (eOf (sv B (bck B t k))) z) := by
  have hkK : k < K := by
    by_cases e : k < K
    · exact e
    · have := hR.bck_stay hK (k - K)
      rw [show K + (k - K) = k by omega] at this
      exact absurd this hk
  obtain ⟨hv, hvi⟩ := hR.bck_in s0 s1 t0 t1 ht k
  have hz0 := hW.z0
  have hzr := hW.each k hkK
  have hold := h.old
  have hnet := h.bal
  have hbk : bck B t (k + 1) = (sv B (bck B t k)).fr := rfl
  obtain ⟨v, hve⟩ : ∃ v, bck B t k = v := ⟨_, rfl⟩
  rw [hve] at hk hv hvi hzr hold hnet hbk ⊢
  obtain ⟨w1, w2, w3, w4, w5, w6, w7, w8⟩ := hR.way v hv.1 hv.2 hk hvi
  have hsame := hold v hv.1 hv.2 hk hvi (Nat.le_refl _)
  have hroom : room l g (eOf (sv B v)) = room l f (eOf (sv B v)) := by unfold room; rw [hsame]
  refine ⟨push_ok w2 h.ok (by omega) (by omega), fun x => ?_, fun x x0 x1 hxs hxi hrx => ?_⟩
  · rw [push_net w2 (okF_len h.ok), hnet, hbk, w6, w7]
    split <;> split <;> split <;> omega
  · rw [hbk] at hrx
    obtain ⟨y1, y2, y3, y4, y5, y6, y7, y8⟩ := hR.way x x0 x1 hxs hxi
    have hne : eOf (sv B x) / 2 ≠ eOf (sv B v) / 2 := by
      intro e
      have hth : tl l (eOf (sv B v)) ≠ hd l (eOf (sv B v)) := by
        rw [w6, w7]; intro h; rw [h] at w5; omega
      rcases ends_edge e.symm hth with ⟨h1, h2⟩ | ⟨h1, h2⟩
      · rw [w7, y7] at h2; subst h2; omega
      · rw [w6, y7] at h1
        rw [w7, y6] at h2
        rw [← h2] at y5
        rw [h1] at w5
        omega
    rw [push_at hne]
    exact hold x x0 x1 hxs hxi (by omega)
/-- At s more has been sent. -/
theorem Sup.done {t z : Int} {k : Nat} {g : List Int} (hf : Flw n l s t f) (hst : s ≠ t) (h : Sup n l f s t B r z k g) (hk : bck B t k = s) : Flw n l s t g ∧ net l g s = net l f s + z := by
  have hnet := h.bal
  rw [hk] at hnet
  refine ⟨⟨h.ok, fun x x0 x1 h1 h2 => ?_⟩, ?_⟩
  · rw [hnet, if_neg (fun e => h1 e.symm), if_neg (fun e => h2 e.symm), hf.con x x0 x1 h1 h2]; rfl
  · rw [hnet, if_pos rfl, if_neg (fun e => hst e.symm)]; omega
end
/-- All capacities together. -/
def tot : List Ar → Int
  | [] => 0
  | a :: l => a.c + tot l
theorem capS_tot (S : Int → Bool) : ∀ l : List Ar, (∀ a ∈ l, 0 ≤ a.c) → capS S l ≤ tot l
  | [], _ => Int.le_refl _
  | a :: l, h => by
    have := h a (by simp)
    have ih := capS_tot S l (fun b hb => h b (by simp [hb]))
    simp only [capS, tot]
    split <;> omega
theorem tot_le : ∀ l : List Ar, (∀ a ∈ l, 0 ≤ a.c ∧ a.c ≤ 100000000) → 0 ≤ tot l ∧ tot l ≤ 100000000 * l.length
  | [], _ => by simp [tot]
  | a :: l, h => by
    have := h a (by simp)
    have ih := tot_le l (fun b hb => h b (by simp [hb]))
    simp only [tot, List.length_cons]
    omega
theorem Flw.all {n : Nat} {l : List Ar} {s t : Int} {f : List Int} (h : Flw n l s t f) (hn : inN n l) (s0 : 0 ≤ s) (s1 : s < n) (hst : s ≠ t) (hc : ∀ a ∈ l, 0 ≤ a.c) : net l f s ≤ tot l :=
  Int.le_trans (h.le hn s0 s1 (S := fun x => decide (x = s)) (by simp) (by simp; exact fun e => hst e.symm)) (capS_tot _ l hc)
theorem net_zero : ∀ (l : List Ar) (k : Nat) (x : Int), net l (List.replicate k 0) x = 0
  | [], k, _ => by cases k <;> simp [net]
  | a :: l, 0, _ => by simp [net]
  | a :: l, k + 1, x => by simp [List.replicate_succ, net, net_zero l k x]
theorem okF_zeros : ∀ l : List Ar, (∀ a ∈ l, 0 ≤ a.c) → okF l (List.replicate l.length 0)
  | [], _ => trivial
  | a :: l, h => by
    simp only [List.length_cons, List.replicate_succ]
    exact ⟨⟨Int.le_refl _, h a (by simp)⟩, okF_zeros l (fun b hb => h b (by simp [hb]))⟩
theorem Flw.idle {n : Nat} {l : List Ar} {s t : Int} (h : ∀ a ∈ l, 0 ≤ a.c) : Flw n l s t (List.replicate l.length 0) := ⟨okF_zeros l h, fun x _ _ _ _ => net_zero l _ x⟩
end Go.Proofs.Ytgojjlnpbakfjaa
