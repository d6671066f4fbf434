/- Chapter 05: what is left of a net, by edges; what send does; levels; in plain Lean. -/
import Derived.Test.YtgojjlnpbakfjaaFloA
namespace Go.Proofs.Ytgojjlnpbakfjaa

/-! What is left of a net, by edges: the edge 2 i along the arc i, the edge 2 i + 1 back. -/
def toL : List Ar → List Int
  | [] => []
  | a :: l => a.v :: a.u :: toL l
def leftL : List Ar → List Int → List Int
  | a :: l, f :: fs => (a.c - f) :: f :: leftL l fs
  | _, _ => []
/-- The edges of the first k arcs that leave a node. -/
def atL (l : List Ar) (x : Int) : Nat → List Int
  | 0 => []
  | k + 1 => (atL l x k ++ (if (l.getD k default).u = x then [2 * (k : Int)] else [])) ++ (if (l.getD k default).v = x then [2 * (k : Int) + 1] else [])
def hd (l : List Ar) (e : Nat) : Int := if e % 2 = 0 then (l.getD (e / 2) default).v else (l.getD (e / 2) default).u
def tl (l : List Ar) (e : Nat) : Int := if e % 2 = 0 then (l.getD (e / 2) default).u else (l.getD (e / 2) default).v
def room (l : List Ar) (f : List Int) (e : Nat) : Int := if e % 2 = 0 then (l.getD (e / 2) default).c - f.getD (e / 2) 0 else f.getD (e / 2) 0
/-- k more along an edge. -/
def push (f : List Int) (e : Nat) (k : Int) : List Int := f.set (e / 2) (if e % 2 = 0 then f.getD (e / 2) 0 + k else f.getD (e / 2) 0 - k)

theorem toL_len : ∀ l : List Ar, (toL l).length = 2 * l.length
  | [] => rfl
  | a :: l => by simp [toL, toL_len l]; omega
theorem leftL_len : ∀ {l : List Ar} {f : List Int}, f.length = l.length → (leftL l f).length = 2 * l.length
  | [], [], _ => rfl
  | a :: l, x :: f, h => by simp [leftL, leftL_len (l := l) (f := f) (by simpa using h)]; omega
  | [], _ :: _, h => by simp at h
  | _ :: _, [], h => by simp at h
theorem toL_at : ∀ {l : List Ar} {e : Nat}, e < 2 * l.length → (toL l).getD e default = hd l e
  | [], _, h => by simp at h
  | a :: l, 0, _ => rfl
  | a :: l, 1, _ => rfl
  | a :: l, e + 2, h => by
    have ih := toL_at (l := l) (e := e) (by simp at h; omega)
    have h1 : (e + 2) % 2 = e % 2 := by omega
    have h2 : (e + 2) / 2 = e / 2 + 1 := by omega
    simp only [toL, List.getD_cons_succ, ih, hd, h1, h2]
theorem leftL_at : ∀ {l : List Ar} {f : List Int} {e : Nat}, f.length = l.length → e < 2 * l.length → (leftL l f).getD e default = room l f e
  | [], _, _, _, h => by simp at h
  | _ :: _, [], _, h, _ => by simp at h
  | a :: l, x :: f, 0, _, _ => by simp [leftL, room]
  | a :: l, x :: f, 1, _, _ => by simp [leftL, room]
  | a :: l, x :: f, e + 2, hl, h => by
    have ih := leftL_at (l := l) (f := f) (e := e) (by simpa using hl) (by simp at h; omega)
    have h1 : (e + 2) % 2 = e % 2 := by omega
    have h2 : (e + 2) / 2 = e / 2 + 1 := by omega
    simp only [leftL, List.getD_cons_succ, ih, room, h1, h2]
theorem atL_mem {l : List Ar} {x : Int} : ∀ {k : Nat} {z : Int}, z ∈ atL l x k → ∃ e : Nat, z = e ∧ e < 2 * k ∧ tl l e = x
  | 0, _, h => by simp [atL] at h
  | k + 1, z, h => by
    simp only [atL, List.mem_append] at h
    rcases h with (h | h) | h
    · obtain ⟨e, h1, h2, h3⟩ := atL_mem h
      exact ⟨e, h1, by omega, h3⟩
    · split at h
      · simp at h
        exact ⟨2 * k, by omega, by omega, by unfold tl; rw [if_pos (by omega), show 2 * k / 2 = k by omega]; assumption⟩
      · simp at h
    · split at h
      · simp at h
        exact ⟨2 * k + 1, by omega, by omega, by unfold tl; rw [if_neg (by omega), show (2 * k + 1) / 2 = k by omega]; assumption⟩
      · simp at h
theorem mem_atL {l : List Ar} {x : Int} : ∀ {k e : Nat}, e < 2 * k → tl l e = x → (e : Int) ∈ atL l x k
  | 0, _, h, _ => by omega
  | k + 1, e, h, ht => by
    simp only [atL, List.mem_append]
    by_cases h1 : e < 2 * k
    · exact .inl (.inl (mem_atL h1 ht))
    · unfold tl at ht
      by_cases h2 : e % 2 = 0
      · rw [if_pos h2, show e / 2 = k by omega] at ht
        refine .inl (.inr ?_)
        rw [if_pos ht]; simp; omega
      · rw [if_neg h2, show e / 2 = k by omega] at ht
        refine .inr ?_
        rw [if_pos ht]; simp; omega
theorem atL_len (l : List Ar) (x : Int) (hne : ∀ a ∈ l, a.u ≠ a.v) : ∀ k, k ≤ l.length → (atL l x k).length ≤ k
  | 0, _ => by simp [atL]
  | k + 1, hk => by
    have ih := atL_len l x hne k (by omega)
    have h1 := hne (l.getD k default) (by rw [List.getD_eq_getElem?_getD, List.getElem?_eq_getElem (by omega)]; exact List.getElem_mem _)
    simp only [atL, List.length_append]
    by_cases h2 : (l.getD k default).u = x
    · rw [if_pos h2, if_neg (by omega)]; simp; omega
    · rw [if_neg h2]
      split <;> simp <;> omega
/-- A step of what is left is an edge with room. -/
theorem res_edge {l : List Ar} {f : List Int} {x y : Int} : Res l f x y ↔ ∃ e, e < 2 * l.length ∧ tl l e = x ∧ hd l e = y ∧ 0 < room l f e := by
  constructor
  · rintro ⟨i, hi, ⟨h1, h2, h3⟩ | ⟨h1, h2, h3⟩⟩
    · exact ⟨2 * i, by omega, by unfold tl; rw [if_pos (by omega), show 2 * i / 2 = i by omega]; exact h1, by unfold hd; rw [if_pos (by omega), show 2 * i / 2 = i by omega]; exact h2, by unfold room; rw [if_pos (by omega), show 2 * i / 2 = i by omega]; omega⟩
    · exact ⟨2 * i + 1, by omega, by unfold tl; rw [if_neg (by omega), show (2 * i + 1) / 2 = i by omega]; exact h1, by unfold hd; rw [if_neg (by omega), show (2 * i + 1) / 2 = i by omega]; exact h2, by unfold room; rw [if_neg (by omega), show (2 * i + 1) / 2 = i by omega]; exact h3⟩
  · rintro ⟨e, he, h1, h2, h3⟩
    refine ⟨e / 2, by omega, ?_⟩
    unfold tl at h1
    unfold hd at h2
    unfold room at h3
    by_cases hp : e % 2 = 0
    · rw [if_pos hp] at h1 h2 h3
      exact .inl ⟨h1, h2, by omega⟩
    · rw [if_neg hp] at h1 h2 h3
      exact .inr ⟨h1, h2, h3⟩
theorem net_set : ∀ (l : List Ar) (f : List Int) (i : Nat) (d x : Int), i < l.length → f.length = l.length →
    net l (f.set i (f.getD i 0 + d)) x = net l f x + (if (l.getD i default).u = x then d else 0) - (if (l.getD i default).v = x then d else 0)
  | [], _, _, _, _, h, _ => by simp at h
  | _ :: _, [], _, _, _, _, h => by simp at h
  | a :: l, y :: f, 0, d, x, _, _ => by
    simp only [List.set_cons_zero, List.getD_cons_zero, net]
    split <;> split <;> omega
  | a :: l, y :: f, i + 1, d, x, hi, hl => by
    have ih := net_set l f i d x (by simpa using hi) (by simpa using hl)
    simp only [List.set_cons_succ, List.getD_cons_succ, net, ih]
    omega
theorem push_net {l : List Ar} {f : List Int} {e : Nat} {k x : Int} (he : e < 2 * l.length) (hl : f.length = l.length) : net l (push f e k) x = net l f x + (if tl l e = x then k else 0) - (if hd l e = x then k else 0) := by
  unfold push tl hd
  by_cases hp : e % 2 = 0
  · simp only [if_pos hp]
    exact net_set l f (e / 2) k x (by omega) hl
  · simp only [if_neg hp]
    have := net_set l f (e / 2) (-k) x (by omega) hl
    rw [Int.sub_eq_add_neg, this]
    split <;> split <;> omega
theorem push_len (f : List Int) (e : Nat) (k : Int) : (push f e k).length = f.length := by simp [push]
theorem push_zero (f : List Int) (e : Nat) : push f e 0 = f := by
  unfold push
  apply List.ext_getElem?
  intro i
  rw [List.getElem?_set]
  by_cases h : e / 2 = i
  · subst h
    by_cases hl : e / 2 < f.length
    · rw [if_pos rfl, if_pos hl, List.getD_eq_getElem?_getD, List.getElem?_eq_getElem hl]
      simp
    · rw [if_pos rfl, if_neg hl, List.getElem?_eq_none (by omega)]
  · rw [if_neg h]
theorem push_at {f : List Int} {e i : Nat} {k : Int} (h : i ≠ e / 2) : (push f e k).getD i 0 = f.getD i 0 := by
  unfold push
  rw [List.getD_eq_getElem?_getD, List.getElem?_set, if_neg (fun e => h e.symm), List.getD_eq_getElem?_getD]
theorem push_here {f : List Int} {e : Nat} {k : Int} (h : e / 2 < f.length) : (push f e k).getD (e / 2) 0 = if e % 2 = 0 then f.getD (e / 2) 0 + k else f.getD (e / 2) 0 - k := by
  unfold push
  rw [List.getD_eq_getElem?_getD, List.getElem?_set, if_pos rfl, if_pos h]
  rfl
theorem push_ok {l : List Ar} {f : List Int} {e : Nat} {k : Int} (_he : e < 2 * l.length) (h : okF l f) (h0 : 0 ≤ k) (h1 : k ≤ room l f e) : okF l (push f e k) := by
  have hl := okF_len h
  refine okF_mk (by rw [push_len, hl]) fun i hi => ?_
  have hb := okF_at h hi
  by_cases hx : i = e / 2
  · subst hx
    rw [push_here (by omega)]
    unfold room at h1
    split <;> rename_i hp
    · rw [if_pos hp] at h1; omega
    · rw [if_neg hp] at h1; omega
  · rw [push_at hx]; exact hb
/-- The edges' rooms after a push: the edge has k less, its fellow k more. -/
theorem push_left {l : List Ar} {f : List Int} {e : Nat} {k : Int} (_he : e < 2 * l.length) (hl : f.length = l.length) :
    leftL l (push f e k) = ((leftL l f).set e (room l f e - k)).set (if e % 2 = 0 then e + 1 else e - 1) (room l f (if e % 2 = 0 then e + 1 else e - 1) + k) := by
  apply List.ext_getElem
  · rw [List.length_set, List.length_set, leftL_len hl, leftL_len (by rw [push_len, hl])]
  · intro i h1 h2
    rw [leftL_len (by rw [push_len, hl])] at h1
    have e1 := leftL_at (l := l) (f := push f e k) (e := i) (by rw [push_len, hl]) h1
    have e2 := leftL_at (l := l) (f := f) (e := i) hl h1
    rw [List.getD_eq_getElem?_getD, List.getElem?_eq_getElem (by rw [leftL_len (by rw [push_len, hl])]; exact h1), Option.getD_some] at e1
    rw [List.getD_eq_getElem?_getD, List.getElem?_eq_getElem (by rw [leftL_len hl]; exact h1), Option.getD_some] at e2
    rw [e1, List.getElem_set, List.getElem_set, e2]
    clear e1 e2 h2
    by_cases hx : i / 2 = e / 2
    · have hph := push_here (f := f) (e := e) (k := k) (by omega)
      by_cases hp : e % 2 = 0
      · rw [if_pos hp] at hph
        by_cases hi : i = e
        · subst hi
          rw [if_neg (by rw [if_pos hp]; omega), if_pos rfl]
          unfold room
          rw [if_pos hp, if_pos hp, hph]; omega
        · rw [if_pos (by rw [if_pos hp]; omega), if_pos hp, show i = e + 1 by omega]
          unfold room
          rw [if_neg (by omega), if_neg (by omega), show (e + 1) / 2 = e / 2 by omega, hph]
      · rw [if_neg hp] at hph
        by_cases hi : i = e
        · subst hi
          rw [if_neg (by rw [if_neg hp]; omega), if_pos rfl]
          unfold room
          rw [if_neg hp, if_neg hp, hph]
        · rw [if_pos (by rw [if_neg hp]; omega), if_neg hp, show i = e - 1 by omega]
          unfold room
          rw [if_pos (by omega), if_pos (by omega), show (e - 1) / 2 = e / 2 by omega, hph]; omega
    · rw [if_neg (by split <;> omega), if_neg (by omega)]
      unfold room
      rw [push_at (by omega)]
/-- The nodes that are given up: from each no step leads on to a node of the next level that isn't given up too. -/
def Blk (l : List Ar) (t : Int) (far0 far : Int → Int) (f : List Int) : Prop := ∀ w, 0 ≤ w → 0 ≤ far0 w → far w = -1 → w ≠ t ∧ ∀ x, Res l f w x → far0 x = far0 w + 1 → far x = -1
/-- The levels, of which some are given up. -/
def Sub (far0 far : Int → Int) : Prop := ∀ x, far x = far0 x ∨ far x = -1
/-- What send returns: k, and what it does. -/
structure Sent (l : List Ar) (t : Int) (far0 : Int → Int) (u most : Int) (f : List Int) (far : Int → Int) (k : Int) (f' : List Int) (far' : Int → Int) : Prop where
  k0 : 0 ≤ k
  k1 : k ≤ most
  ok : okF l f'
  bal : ∀ x, net l f' x = net l f x + (if u = x then k else 0) - (if t = x then k else 0)
  arcs : ∀ i, i < l.length → (far (l.getD i default).u < far u ∨ far (l.getD i default).v < far u) → f'.getD i 0 = f.getD i 0
  low : ∀ x, far x < far u → far' x = far x
  any : ∀ x, far' x = far x ∨ far' x = -1
  dead : k = 0 → Blk l t far0 far f → f' = f ∧ Blk l t far0 far' f ∧ far' u = -1
/-- The same, in the midst: j of the edges of u are done. -/
structure Mid (l : List Ar) (t : Int) (far0 : Int → Int) (u most : Int) (f : List Int) (far : Int → Int) (es : List Int) (j : Nat) (k : Int) (f' : List Int) (far' : Int → Int) : Prop where
  k0 : 0 ≤ k
  k1 : k ≤ most
  ok : okF l f'
  bal : ∀ x, net l f' x = net l f x + (if u = x then k else 0) - (if t = x then k else 0)
  arcs : ∀ i, i < l.length → (far (l.getD i default).u < far u ∨ far (l.getD i default).v < far u) → f'.getD i 0 = f.getD i 0
  low : ∀ x, far x ≤ far u → far' x = far x
  any : ∀ x, far' x = far x ∨ far' x = -1
  dead : k = 0 → Blk l t far0 far f → f' = f ∧ Blk l t far0 far' f ∧ ∀ m, m < j → ∀ e : Nat, es.getD m default = e → 0 < room l f e → far0 (hd l e) = far0 u + 1 → far' (hd l e) = -1
section
variable {l : List Ar} {t : Int} {far0 : Int → Int} {u most : Int} {f : List Int} {far : Int → Int} {es : List Int} {j : Nat} {k : Int} {f' : List Int} {far' : Int → Int}
theorem Sent.here (hm : 1 ≤ most) (ho : okF l f) : Sent l t far0 t most f far most f far :=
  ⟨by omega, Int.le_refl _, ho, fun x => by omega, fun _ _ _ => rfl, fun _ _ => rfl, fun _ => .inl rfl, fun h => by omega⟩
theorem Mid.start (hm : 0 ≤ most) (ho : okF l f) : Mid l t far0 u most f far es 0 0 f far :=
  ⟨Int.le_refl _, hm, ho, fun x => by split <;> split <;> omega, fun _ _ _ => rfl, fun _ _ => rfl, fun _ => .inl rfl, fun _ h => ⟨rfl, h, fun m hm => by omega⟩⟩
/-- An edge without room is passed. -/
theorem Mid.full (h : Mid l t far0 u most f far es j k f' far') {e : Nat} (he : es.getD j default = e) (hr : ¬ 0 < room l f' e) : Mid l t far0 u most f far es (j + 1) k f' far' := by
  refine { h with dead := fun hk hb => ?_ }
  obtain ⟨rfl, h2, h3⟩ := h.dead hk hb
  refine ⟨rfl, h2, fun m hm e' he' hr' hx => ?_⟩
  by_cases hmj : m = j
  · subst hmj
    rw [he] at he'
    obtain rfl : e = e' := by omega
    exact absurd hr' hr
  · exact h3 m (by omega) e' he' hr' hx
/-- An edge to another level is passed. -/
theorem Mid.side (h : Mid l t far0 u most f far es j k f' far') (hs : Sub far0 far) (hu : 0 ≤ far u) {e : Nat} (he : es.getD j default = e) (hr : far' (hd l e) ≠ far' u + 1) : Mid l t far0 u most f far es (j + 1) k f' far' := by
  refine { h with dead := fun hk hb => ?_ }
  obtain ⟨rfl, h2, h3⟩ := h.dead hk hb
  refine ⟨rfl, h2, fun m hm e' he' hr' hx => ?_⟩
  by_cases hmj : m = j
  · subst hmj
    rw [he] at he'
    obtain rfl : e = e' := by omega
    have h4 := h.low u (Int.le_refl _)
    have h5 : far u = far0 u := by rcases hs u with h | h <;> omega
    rcases h.any (hd l e) with h6 | h6
    · rcases hs (hd l e) with h7 | h7 <;> omega
    · exact h6
  · exact h3 m (by omega) e' he' hr' hx
/-- What an edge sends on. -/
theorem Mid.send (h : Mid l t far0 u most f far es j k f' far') (hu : 0 ≤ far u) {e : Nat} (he : es.getD j default = e) (hel : e < 2 * l.length) (ht : tl l e = u) (hr : far' (hd l e) = far' u + 1)
    {k2 : Int} {f2 : List Int} {far2 : Int → Int} (h2 : Sent l t far0 (hd l e) (min (most - k) (room l f' e)) f' far' k2 f2 far2) : Mid l t far0 u most f far es (j + 1) (k + k2) (push f2 e k2) far2 := by
  have hlu := h.low u (Int.le_refl _)
  have hk0 := h.k0
  have h20 := h2.k0
  have h21 := h2.k1
  have hlow : ∀ x, far x ≤ far u → far2 x = far x := fun x hx => by
    have h3 := h.low x hx
    rw [h2.low x (by omega), h3]
  have hend : far' (l.getD (e / 2) default).u < far' (hd l e) ∨ far' (l.getD (e / 2) default).v < far' (hd l e) := by
    unfold tl at ht
    unfold hd at hr ⊢
    by_cases hp : e % 2 = 0
    · rw [if_pos hp] at ht hr ⊢
      left; rw [ht]; omega
    · rw [if_neg hp] at ht hr ⊢
      right; rw [ht]; omega
  have hsame := h2.arcs (e / 2) (by omega) hend
  have hroom : room l f2 e = room l f' e := by unfold room; rw [hsame]
  refine ⟨by omega, by omega, push_ok hel h2.ok h20 (by omega), fun x => ?_, fun i hi hx => ?_, hlow, fun x => ?_, fun hk hb => ?_⟩
  · rw [push_net hel (okF_len h2.ok), h2.bal, h.bal, ht]
    split <;> split <;> split <;> omega
  · have hne : i ≠ e / 2 := by
      rintro rfl
      unfold tl at ht
      unfold hd at hr
      by_cases hp : e % 2 = 0
      · rw [if_pos hp] at ht hr
        rw [ht] at hx
        rcases h.any (l.getD (e / 2) default).v with h3 | h3 <;> omega
      · rw [if_neg hp] at ht hr
        rw [ht] at hx
        rcases h.any (l.getD (e / 2) default).u with h3 | h3 <;> omega
    rw [push_at hne, h2.arcs i hi ?_, h.arcs i hi hx]
    rcases hx with hx | hx
    · left; have := h.low _ (Int.le_of_lt hx); omega
    · right; have := h.low _ (Int.le_of_lt hx); omega
  · rcases h2.any x with h3 | h3
    · rw [h3]; exact h.any x
    · exact .inr h3
  · have hka : k = 0 := by omega
    have hkb : k2 = 0 := by omega
    obtain ⟨rfl, h4, h5⟩ := h.dead hka hb
    obtain ⟨rfl, h6, h7⟩ := h2.dead hkb h4
    refine ⟨by rw [hkb, push_zero], h6, fun m hm e' he' hr' hx => ?_⟩
    by_cases hmj : m = j
    · subst hmj
      rw [he] at he'
      obtain rfl : e = e' := by omega
      exact h7
    · have h8 := h5 m (by omega) e' he' hr' hx
      rcases h2.any (hd l e') with h9 | h9
      · rw [h9, h8]
      · exact h9
/-- All is sent. -/
theorem Mid.stop (h : Mid l t far0 u most f far es j k f' far') (hm : 1 ≤ most) (hk : k = most) : Sent l t far0 u most f far k f' far' :=
  ⟨h.k0, h.k1, h.ok, h.bal, h.arcs, fun x hx => h.low x (Int.le_of_lt hx), h.any, fun h0 => by omega⟩
/-- The edges are done: something was sent. -/
theorem Mid.some (h : Mid l t far0 u most f far es j k f' far') (hk : k ≠ 0) : Sent l t far0 u most f far k f' far' :=
  ⟨h.k0, h.k1, h.ok, h.bal, h.arcs, fun x hx => h.low x (Int.le_of_lt hx), h.any, fun h0 => absurd h0 hk⟩
/-- The edges are done: nothing was sent; u is given up. -/
theorem Mid.none (h : Mid l t far0 u most f far es j k f' far') (hu0 : 0 ≤ u) (hut : u ≠ t) (hes : es = atL l u l.length) (hj : es.length ≤ j) (hk : k = 0) {far2 : Int → Int} (h2 : ∀ x, far2 x = if x.toNat = u.toNat then -1 else far' x)
    (hag : ∀ x, x.toNat = u.toNat → far' x = far' u) : Sent l t far0 u most f far k f' far2 := by
  have hlu := h.low u (Int.le_refl _)
  have hu2 : far2 u = -1 := by rw [h2, if_pos rfl]
  refine ⟨h.k0, h.k1, h.ok, h.bal, h.arcs, fun x hx => ?_, fun x => ?_, fun _ hb => ?_⟩
  · have h3 := h.low x (Int.le_of_lt hx)
    rw [h2, if_neg (fun e => by have := hag x e; omega), h3]
  · rw [h2]
    split
    · exact .inr rfl
    · exact h.any x
  · obtain ⟨rfl, h4, h5⟩ := h.dead hk hb
    refine ⟨rfl, fun w hw0 hw hd => ?_, hu2⟩
    by_cases hwu : w = u
    · subst hwu
      refine ⟨hut, fun x hr hx => ?_⟩
      obtain ⟨e, he, e1, e2, e3⟩ := res_edge.1 hr
      have hmem := mem_atL (l := l) (k := l.length) he e1
      rw [← hes] at hmem
      obtain ⟨m, hm, hme⟩ := List.mem_iff_getElem.1 hmem
      have := h5 m (by omega) e (by rw [List.getD_eq_getElem?_getD, List.getElem?_eq_getElem hm]; exact hme) e3 (by rw [e2]; exact hx)
      rw [e2] at this
      rw [h2]
      split
      · rfl
      · exact this
    · rw [h2, if_neg (by omega)] at hd
      obtain ⟨h6, h7⟩ := h4 w hw0 hw hd
      refine ⟨h6, fun x hr hx => ?_⟩
      rw [h2]
      split
      · rfl
      · exact h7 x hr hx
end

/-- Levels: how many steps lead from s to a node. -/
structure Lvl (n : Nat) (l : List Ar) (f : List Int) (s : Int) (far0 : Int → Int) : Prop where
  src : far0 s = 0
  zero : ∀ x : Int, 0 ≤ x → x < n → far0 x = 0 → x = s
  pred : ∀ x : Int, 0 ≤ x → x < n → 0 < far0 x → ∃ w : Int, (0 ≤ w ∧ w < n) ∧ far0 w + 1 = far0 x ∧ Res l f w x
  low : ∀ x : Int, 0 ≤ x → x < n → -1 ≤ far0 x ∧ far0 x < n
  shut : ∀ x y, Res l f x y → 0 ≤ far0 x → 0 ≤ far0 y
theorem res_in {n : Nat} {l : List Ar} {f : List Int} (hl : inN n l) {x y : Int} (h : Res l f x y) : (0 ≤ x ∧ x < n) ∧ 0 ≤ y ∧ y < n := by
  obtain ⟨i, hi, h⟩ := h
  have := hl (l.getD i default) (by rw [List.getD_eq_getElem?_getD, List.getElem?_eq_getElem hi]; exact List.getElem_mem hi)
  rcases h with ⟨rfl, rfl, _⟩ | ⟨rfl, rfl, _⟩
  · exact ⟨this.1, this.2⟩
  · exact ⟨this.2, this.1⟩
/-- If s is given up, so are all that can be reached. -/
theorem Lvl.gone {n : Nat} {l : List Ar} {f : List Int} {s t : Int} {far0 far : Int → Int} (h : Lvl n l f s far0) (hb : Blk l t far0 far f) (hs : far s = -1) : ∀ d : Nat, ∀ x : Int, 0 ≤ x → x < n → far0 x = d → far x = -1
  | 0, x, h0, h1, hx => by rw [h.zero x h0 h1 hx]; exact hs
  | d + 1, x, h0, h1, hx => by
    obtain ⟨w, ⟨w0, w1⟩, h3, h4⟩ := h.pred x h0 h1 (by omega)
    have h5 := h.gone hb hs d w w0 w1 (by omega)
    exact (hb w w0 (by omega) h5).2 x h4 (by omega)
/-- As long as t can be reached, something is sent. -/
theorem Lvl.moves {n : Nat} {l : List Ar} {f : List Int} {s t most : Int} {far0 : Int → Int} (h : Lvl n l f s far0) (t0 : 0 ≤ t) (t1 : t < n) (ht : 0 ≤ far0 t) {k : Int} {f' : List Int} {far' : Int → Int} (hs : Sent l t far0 s most f far0 k f' far') : 1 ≤ k := by
  have := hs.k0
  by_cases hk : k = 0
  · have hb : Blk l t far0 far0 f := fun w _ hw hd => by omega
    obtain ⟨_, h2, h3⟩ := hs.dead hk hb
    have h4 := h.gone h2 h3 (far0 t).toNat t t0 t1 (by omega)
    exact absurd rfl (h2 t t0 ht h4).1
  · omega
theorem Lvl.rch {n : Nat} {l : List Ar} {f : List Int} {s : Int} {far0 : Int → Int} (h : Lvl n l f s far0) : ∀ d : Nat, ∀ x : Int, 0 ≤ x → x < n → far0 x = d → Rch l f s x
  | 0, x, h0, h1, hx => by rw [h.zero x h0 h1 hx]; exact Rch.self _ _ _
  | d + 1, x, h0, h1, hx => by
    obtain ⟨w, ⟨w0, w1⟩, h3, h4⟩ := h.pred x h0 h1 (by omega)
    exact (h.rch d w w0 w1 (by omega)).step h4
theorem Lvl.rch_iff {n : Nat} {l : List Ar} {f : List Int} {s x : Int} {far0 : Int → Int} (h : Lvl n l f s far0) (h0 : 0 ≤ x) (h1 : x < n) : 0 ≤ far0 x ↔ Rch l f s x := by
  constructor
  · intro hx
    exact h.rch (far0 x).toNat x h0 h1 (by omega)
  · intro hr
    have := hr (fun y => decide (0 ≤ far0 y)) (by simp [h.src]) (fun a b hab ha => by simp at ha ⊢; exact h.shut a b hab ha)
    simpa using this
/-- If t cannot be reached, the flow is a greatest one. -/
theorem Lvl.best {n : Nat} {l : List Ar} {f : List Int} {s t : Int} {far0 : Int → Int} (h : Lvl n l f s far0) (hf : Flw n l s t f) (hn : inN n l) (s0 : 0 ≤ s) (s1 : s < n) (ht : far0 t < 0) : Best n l s t f :=
  hf.best hn s0 s1 (S := fun y => decide (0 ≤ far0 y)) (by simp [h.src]) (by simp; omega) (fun a b hab ha => by simp at ha ⊢; exact h.shut a b hab ha)
end Go.Proofs.Ytgojjlnpbakfjaa
