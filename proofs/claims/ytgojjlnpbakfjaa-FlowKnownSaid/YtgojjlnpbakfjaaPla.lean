/- Chapter 05: what Check and Across return, in plain Lean. -/
import Derived.Test.YtgojjlnpbakfjaaMst
import Derived.Test.YtgojjlnpbakfjaaNet
namespace Go.Proofs.Ytgojjlnpbakfjaa

/-- Each arc carries between 0 and its capacity, by a test. -/
def okFb : List Ar → List Int → Bool
  | a :: l, f :: fs => (decide (0 ≤ f) && decide (f ≤ a.c)) && okFb l fs
  | [], [] => true
  | _, _ => false
theorem okFb_iff : ∀ {l : List Ar} {f : List Int}, okFb l f = true ↔ okF l f
  | a :: l, f :: fs => by simp [okFb, okF, okFb_iff (l := l) (f := fs)]
  | [], [] => by simp [okFb, okF]
  | [], _ :: _ => by simp [okFb, okF]
  | _ :: _, [] => by simp [okFb, okF]
theorem okFb_not {l : List Ar} {f : List Int} {k : Nat} (hk : k < l.length) (h : ¬ (0 ≤ f.getD k default ∧ f.getD k default ≤ (l.getD k default).c)) : okFb l f = false := by
  cases hb : okFb l f
  · rfl
  · have := okF_at (okFb_iff.1 hb) hk
    exact absurd this h
/-- All nodes but s and t send on what they get. -/
def conB (n : Nat) (l : List Ar) (s t : Int) (f : List Int) : Bool := (List.range n).all fun x => decide ((x : Int) = s) || decide ((x : Int) = t) || decide (net l f x = 0)
theorem conB_iff {n : Nat} {l : List Ar} {s t : Int} {f : List Int} : conB n l s t f = true ↔ ∀ x : Int, 0 ≤ x → x < n → x ≠ s → x ≠ t → net l f x = 0 := by
  unfold conB
  rw [List.all_eq_true]
  constructor
  · intro h x h0 h1 h2 h3
    have := h x.toNat (by simp; omega)
    rw [show ((x.toNat : Nat) : Int) = x by omega] at this
    simpa [h2, h3] using this
  · intro h x hx
    simp only [List.mem_range] at hx
    have := h x (by omega) (by omega)
    by_cases h2 : (x : Int) = s
    · simp [h2]
    · by_cases h3 : (x : Int) = t
      · simp [h3]
      · simp [this h2 h3]
theorem flw_iff {n : Nat} {l : List Ar} {s t : Int} {f : List Int} : (okFb l f && conB n l s t f) = true ↔ Flw n l s t f := by
  rw [Bool.and_eq_true, okFb_iff, conB_iff]
  exact ⟨fun h => ⟨h.1, h.2⟩, fun h => ⟨h.ok, h.con⟩⟩
/-- What Check returns: the value and the error. -/
def chkE (N : Int) (l : List Ar) (s t : Int) (f : List Int) : Int := if askF N l s t = 0 then (if (okFb l f && conB N.toNat l s t f) = true then 0 else 13) else askF N l s t
def chkV (N : Int) (l : List Ar) (s t : Int) (f : List Int) : Int := if chkE N l s t f = 0 then net l f s else 0

/-- Numbers that rise, above last and below N. -/
def incB (N : Int) : Int → List Int → Bool
  | _, [] => true
  | last, v :: r => (decide (last < v) && decide (v < N)) && incB N v r
/-- The capacity of a list of nodes. -/
def capL (l : List Ar) (set : List Int) : Int := capS (fun x => set.contains x) l
def acrE (N : Int) (l : List Ar) (set : List Int) : Int := if netOk N l = true then (if incB N (-1) set = true then 0 else 2) else 1
def acrV (N : Int) (l : List Ar) (set : List Int) : Int := if acrE N l set = 0 then capL l set else 0

/-- The last one of a list; d: of the empty one. -/
def lastD (d : Int) : List Int → Int
  | [] => d
  | v :: r => lastD v r
theorem lastD_snoc (d v : Int) : ∀ l : List Int, lastD d (l ++ [v]) = v
  | [] => rfl
  | x :: l => by simp [lastD, lastD_snoc x v l]
theorem incB_snoc (N v : Int) : ∀ (d : Int) (l : List Int), incB N d (l ++ [v]) = (incB N d l && (decide (lastD d l < v) && decide (v < N)))
  | d, [] => by simp [incB, lastD] <;> rfl
  | d, x :: l => by simp [incB, lastD, incB_snoc N v x l, Bool.and_assoc] <;> rfl
theorem incB_append (N : Int) : ∀ (d : Int) (l r : List Int), incB N d (l ++ r) = (incB N d l && incB N (lastD d l) r)
  | d, [], r => by simp [incB, lastD]
  | d, x :: l, r => by simp [incB, lastD, incB_append N x l r, Bool.and_assoc]
theorem incB_in {N : Int} : ∀ {d : Int} {l : List Int}, incB N d l = true → ∀ x ∈ l, d < x ∧ x < N
  | d, [], _, x, hx => by simp at hx
  | d, y :: l, h, x, hx => by
    simp only [incB, Bool.and_eq_true, decide_eq_true_eq] at h
    rcases List.mem_cons.1 hx with rfl | hx
    · exact h.1
    · have := incB_in h.2 x hx
      omega
/-- At the number k the test fails. -/
theorem incB_stop {N : Int} {d : Int} {l : List Int} {k : Nat} (hk : k < l.length) (h : ¬ (lastD d (l.take k) < l.getD k default ∧ l.getD k default < N)) : incB N d l = false := by
  have e : l = l.take k ++ (l.getD k default :: l.drop (k + 1)) := by
    rw [List.getD_eq_getElem?_getD, List.getElem?_eq_getElem hk, Option.getD_some, ← List.drop_eq_getElem_cons hk, List.take_append_drop]
  rw [e, incB_append]
  simp only [incB]
  have : (decide (lastD d (l.take k) < l.getD k default) && decide (l.getD k default < N)) = false := by
    rw [Bool.and_eq_false_iff, decide_eq_false_iff_not, decide_eq_false_iff_not]
    omega
  rw [this]
  simp
theorem net_snoc : ∀ (l : List Ar) (f : List Int) (a : Ar) (y x : Int), f.length = l.length → net (l ++ [a]) (f ++ [y]) x = net l f x + (if a.u = x then y else 0) - (if a.v = x then y else 0)
  | [], [], a, y, x, _ => by simp [net]
  | b :: l, z :: f, a, y, x, h => by
    simp only [List.cons_append, net, net_snoc l f a y x (by simpa using h)]
    omega
  | [], _ :: _, _, _, _, h => by simp at h
  | _ :: _, [], _, _, _, h => by simp at h
theorem capS_snoc (S : Int → Bool) : ∀ (l : List Ar) (a : Ar), capS S (l ++ [a]) = capS S l + (if S a.u = true ∧ S a.v = false then a.c else 0)
  | [], a => by simp [capS]
  | b :: l, a => by simp only [List.cons_append, capS, capS_snoc S l a]; omega
theorem net_bound : ∀ (l : List Ar) (f : List Int) (x : Int), okF l f → (∀ a ∈ l, 0 ≤ a.c ∧ a.c ≤ 100000000) → -(100000000 * (l.length : Int)) ≤ net l f x ∧ net l f x ≤ 100000000 * l.length
  | [], [], x, _, _ => by simp [net]
  | a :: l, y :: f, x, h, hc => by
    have h1 := h.1
    have h2 := hc a (by simp)
    have ih := net_bound l f x h.2 (fun b hb => hc b (by simp [hb]))
    simp only [net, List.length_cons]
    split <;> split <;> omega
  | [], _ :: _, _, h, _ => by simp [okF] at h
  | _ :: _, [], _, h, _ => by simp [okF] at h
theorem okF_snoc : ∀ {l : List Ar} {f : List Int} {a : Ar} {y : Int}, okF l f → 0 ≤ y → y ≤ a.c → okF (l ++ [a]) (f ++ [y])
  | [], [], _, _, _, h0, h1 => ⟨⟨h0, h1⟩, trivial⟩
  | _ :: _, _ :: _, _, _, h, h0, h1 => ⟨h.1, okF_snoc h.2 h0 h1⟩
  | [], _ :: _, _, _, h, _, _ => by simp [okF] at h
  | _ :: _, [], _, _, h, _, _ => by simp [okF] at h
end Go.Proofs.Ytgojjlnpbakfjaa
