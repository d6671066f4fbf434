/- A region that draws its order, by an invariant over the operations that are done. -/
import Derived.RegionTactic
import Derived.Test.YtnpcafhmkjdhaaaBase
namespace Go.Proofs.Ytnpcafhmkjdhaaa
open Go Go.RowKit

def undone (n : Nat) (listed : Array Bool) : Nat := (List.range n).countP fun i => !listed.getD i true
theorem countP_lt {p q : Nat → Bool} : ∀ (l : List Nat), (∀ x ∈ l, q x = true → p x = true) → (∃ x ∈ l, p x = true ∧ q x = false) → l.countP q < l.countP p
  | [], _, ⟨x, hx, _⟩ => by cases hx
  | y :: l, h, ⟨x, hx, h1, h2⟩ => by
    have hle : ∀ (l : List Nat), (∀ x ∈ l, q x = true → p x = true) → l.countP q ≤ l.countP p := fun l h => List.countP_mono_left h
    rw [List.countP_cons, List.countP_cons]
    rcases List.mem_cons.1 hx with rfl | hx
    · have := hle l fun x hx => h x (List.mem_cons_of_mem _ hx)
      rw [h1, h2]; simp; omega
    · have := countP_lt l (fun x hx => h x (List.mem_cons_of_mem _ hx)) ⟨x, hx, h1, h2⟩
      cases hq : q y
      · cases hp : p y <;> simp <;> omega
      · rw [h y (List.mem_cons_self ..) hq]; simp; omega
theorem undone_set {n i : Nat} {listed : Array Bool} (hs : listed.size = n) (hi : i < n) (h : listed.getD i true = false) : undone n (listed.setIfInBounds i true) < undone n listed := by
  unfold undone
  have hi' : i < listed.size := by omega
  refine countP_lt _ (fun x hx hq => ?_) ⟨i, by simpa using hi, by rw [h]; rfl, ?_⟩
  · by_cases e : i = x
    · subst e; rw [h]; rfl
    · have : (listed.setIfInBounds i true).getD x true = listed.getD x true := by simp [Array.getD_eq_getD_getElem?, e]
      rw [this] at hq; exact hq
  · have : (listed.setIfInBounds i true).getD i true = true := by simp [Array.getD_eq_getD_getElem?, hi']
    rw [this]; rfl
section
variable {P : Program} {md : Region.Mode} {ops : Array Oper} {Q : Exit → Act → World → Prop}
theorem ready_mem {listed : Array Bool} {i : Nat} (h : i ∈ Region.ready md ops listed) : i < ops.size ∧ listed.getD i true = false ∧ ∃ o, ops[i]? = some o ∧ ∀ e ∈ o.after, Region.binds md e = true → listed.getD e.on false = true := by
  unfold Region.ready at h
  rw [List.mem_filter] at h
  obtain ⟨h1, h2⟩ := h
  simp only [Bool.and_eq_true, Bool.not_eq_true'] at h2
  obtain ⟨h2, h3⟩ := h2
  refine ⟨by simpa using h1, h2, ?_⟩
  cases ho : ops[i]? with
  | none => rw [ho] at h3; simp at h3
  | some o =>
    rw [ho] at h3
    refine ⟨o, rfl, fun e he hb => ?_⟩
    simp only [Option.map_some, Option.getD_some, Array.all_eq_true'] at h3
    have := h3 e he
    rw [hb] at this
    simpa using this
theorem ready_of {listed : Array Bool} {i : Nat} {o : Oper} (h1 : i < ops.size) (h2 : listed.getD i true = false) (ho : ops[i]? = some o) (h3 : ∀ e ∈ o.after, Region.binds md e = true → listed.getD e.on false = true) : i ∈ Region.ready md ops listed := by
  unfold Region.ready
  rw [List.mem_filter]
  refine ⟨by simpa using h1, ?_⟩
  rw [ho, h2]
  simp only [Bool.not_false, Bool.true_and, Option.map_some, Option.getD_some, Array.all_eq_true']
  intro e he
  cases hb : Region.binds md e
  · rfl
  · rw [h3 e he hb]; rfl
theorem all_of_done {listed : Array Bool} (hs : listed.size = ops.size) (hlt : ∀ (i : Nat) (o : Oper), ops[i]? = some o → ∀ e ∈ o.after, e.on < i) (h : Region.ready md ops listed = []) : ∀ i, i < ops.size → listed.getD i false = true := by
  intro i
  induction i using Nat.strongRecOn with
  | ind i ih =>
    intro hi
    have hgl : listed.getD i true = listed.getD i false := by
      rw [Array.getD_eq_getD_getElem?, Array.getD_eq_getD_getElem?, Array.getElem?_eq_getElem (by omega)]; rfl
    cases hx : listed.getD i false
    · exfalso
      rw [hx] at hgl
      have ho : ops[i]? = some ops[i] := Array.getElem?_eq_getElem hi
      have := ready_of hi hgl ho (md := md) fun e he _ => by
        have h1 := hlt i _ ho e he
        exact ih _ h1 (by omega)
      rw [h] at this
      cases this
    · rfl
theorem wpAny_inv (I : Array Bool → Act → World → Prop) (hlt : ∀ (i : Nat) (o : Oper), ops[i]? = some o → ∀ e ∈ o.after, e.on < i)
    (hstep : ∀ (listed : Array Bool) (a : Act) (w : World) (i : Nat) (o : Oper), listed.size = ops.size → I listed a w → i < ops.size → ops[i]? = some o → (∀ e ∈ o.after, Region.binds md e = true → listed.getD e.on false = true) → wpOp P ops Q i (I (listed.setIfInBounds i true)) a w)
    (hend : ∀ listed a w, I listed a w → (∀ i, i < ops.size → listed.getD i false = true) → Q .normal a w) :
    ∀ fuel listed a w, listed.size = ops.size → undone ops.size listed ≤ fuel → I listed a w → wpAny P md ops Q fuel listed a w
  | 0, listed, a, w, hs, hu, hI => by
    have hr : Region.ready md ops listed = [] := by
      cases hq : Region.ready md ops listed with
      | nil => rfl
      | cons i r =>
        obtain ⟨h1, h2, _⟩ := ready_mem (i := i) (by rw [hq]; exact List.mem_cons_self ..)
        have := undone_set hs h1 h2
        omega
    exact ⟨hr, hend listed a w hI (all_of_done hs hlt hr)⟩
  | fuel + 1, listed, a, w, hs, hu, hI => by
    refine ⟨fun hr => hend listed a w hI (all_of_done hs hlt hr), fun i hi => ?_⟩
    obtain ⟨h1, h2, o, ho, h3⟩ := ready_mem hi
    have hlt' := undone_set hs h1 h2
    exact wpOp_mono (fun a' w' h' => wpAny_inv I hlt hstep hend fuel _ a' w' (by simpa using hs) (by omega) h') (hstep listed a w i o hs hI h1 ho h3)
theorem undone_le (n : Nat) (listed : Array Bool) : undone n listed ≤ n := by
  unfold undone
  have := List.countP_le_length (p := fun i => !listed.getD i true) (l := List.range n)
  simpa using this
theorem wp_region_inv {id : Nat} {a : Act} {w : World} (hm : P.follows .mixedOrders = true) (I : Array Bool → Act → World → Prop) (hlt : ∀ (i : Nat) (o : Oper), ops[i]? = some o → ∀ e ∈ o.after, e.on < i)
    (hstep : ∀ (listed : Array Bool) (a : Act) (w : World) (i : Nat) (o : Oper), listed.size = ops.size → I listed a w → i < ops.size → ops[i]? = some o → (∀ e ∈ o.after, Region.binds .any e = true → listed.getD e.on false = true) → wpOp P ops Q i (I (listed.setIfInBounds i true)) a w)
    (hend : ∀ listed a w, I listed a w → (∀ i, i < ops.size → listed.getD i false = true) → Q .normal a w)
    (h0 : I (Array.replicate ops.size false) a w.drew) : (Code.region id ops true).wp P Q a w :=
  wp_region_any hm (wpAny_inv I hlt hstep hend ops.size _ a _ (by simp) (undone_le _ _) h0)
end

/-- What holds between two operations: the slots dst i, for the operations done, each with its property. -/
structure RI (n : Nat) (dst : Nat → Nat) (prop : Nat → Value → World → Prop) (a0 : Act) (X : World) (listed : Array Bool) (a : Act) (w : World) : Prop where
  agree : ∀ s, (∀ i, i < n → s ≠ dst i) → a.tmps[s]? = a0.tmps[s]?
  size : a.tmps.size = a0.tmps.size
  defers : a.defers = a0.defers
  bel : Below X.heap.size X w
  props : ∀ i, i < n → listed.getD i false = true → prop i (a.tmps.getD (dst i) undef) w
theorem RI.put {n : Nat} {dst : Nat → Nat} {prop : Nat → Value → World → Prop} {a0 : Act} {X : World} {listed : Array Bool} {a : Act} {w w' : World} (h : RI n dst prop a0 X listed a w) {i : Nat} (hi : i < n) (hd : dst i < a0.tmps.size) (inj : ∀ j, j < n → j ≠ i → dst j ≠ dst i)
    (stable : ∀ j v (w w' : World), prop j v w → Below w.heap.size w w' → prop j v w') (hb : Below w.heap.size w w') (v : Value) (hp : prop i v w') : RI n dst prop a0 X (listed.setIfInBounds i true) (a.put (some (dst i)) v) w' := by
  have ht : (a.put (some (dst i)) v).tmps = a.tmps.setIfInBounds (dst i) v := rfl
  refine ⟨fun s hs => ?_, by rw [ht]; simpa using h.size, h.defers, below_trans h.bel hb, fun j hj hl => ?_⟩
  · rw [ht, Array.getElem?_setIfInBounds, if_neg (by have := hs i hi; omega)]
    exact h.agree s hs
  · rw [ht]
    by_cases e : j = i
    · subst e
      have hsz : dst j < a.tmps.size := by rw [h.size]; exact hd
      rw [Array.getD_eq_getD_getElem?, Array.getElem?_setIfInBounds, if_pos rfl, if_pos hsz]
      exact hp
    · have hl2 : listed.getD j false = true := by
        have : (listed.setIfInBounds i true).getD j false = listed.getD j false := by
          rw [Array.getD_eq_getD_getElem?, Array.getElem?_setIfInBounds, if_neg (by omega), ← Array.getD_eq_getD_getElem?]
        rw [← this]; exact hl
      have := h.props j hj hl2
      rw [Array.getD_eq_getD_getElem?, Array.getElem?_setIfInBounds, if_neg (by have := inj j hj e; omega), ← Array.getD_eq_getD_getElem?]
      exact stable _ _ _ _ this hb
def puts (n : Nat) (dst : Nat → Nat) (g : Nat → Value) (t : Array Value) : Array Value := (List.range n).foldl (fun t i => t.setIfInBounds (dst i) (g (dst i))) t
theorem puts_succ (n : Nat) (dst : Nat → Nat) (g : Nat → Value) (t : Array Value) : puts (n + 1) dst g t = (puts n dst g t).setIfInBounds (dst n) (g (dst n)) := by
  unfold puts
  rw [List.range_succ, List.foldl_append]
  rfl
theorem puts_size (dst : Nat → Nat) (g : Nat → Value) (t : Array Value) : ∀ n, (puts n dst g t).size = t.size
  | 0 => rfl
  | n + 1 => by rw [puts_succ, Array.size_setIfInBounds, puts_size dst g t n]
theorem puts_in (dst : Nat → Nat) (g : Nat → Value) (t : Array Value) : ∀ n s, s < t.size → (∃ i, i < n ∧ dst i = s) → (puts n dst g t)[s]? = some (g s)
  | 0, _, _, ⟨i, hi, _⟩ => by omega
  | n + 1, s, hs, ⟨i, hi, he⟩ => by
    rw [puts_succ, Array.getElem?_setIfInBounds]
    by_cases e : dst n = s
    · rw [if_pos e, if_pos (by rw [puts_size, e]; exact hs), e]
    · rw [if_neg e]
      exact puts_in dst g t n s hs ⟨i, by
        by_cases e2 : i = n
        · subst e2; exact absurd he e
        · omega, he⟩
theorem puts_out (dst : Nat → Nat) (g : Nat → Value) (t : Array Value) : ∀ n s, (∀ i, i < n → s ≠ dst i) → (puts n dst g t)[s]? = t[s]?
  | 0, _, _ => rfl
  | n + 1, s, h => by
    rw [puts_succ, Array.getElem?_setIfInBounds, if_neg (by have := h n (by omega); omega)]
    exact puts_out dst g t n s fun i hi => h i (by omega)
theorem RI.lit {n : Nat} {dst : Nat → Nat} {prop : Nat → Value → World → Prop} {a0 : Act} {X : World} {listed : Array Bool} {a : Act} {w : World} (h : RI n dst prop a0 X listed a w) :
    a = { tmps := puts n dst (fun s => a.tmps.getD s undef) a0.tmps, defers := a0.defers } := by
  obtain ⟨t, d⟩ := a
  have hd : d = a0.defers := h.defers
  have ht : t = puts n dst (fun s => t.getD s undef) a0.tmps := by
    apply Array.ext_getElem?
    intro s
    by_cases hs : s < a0.tmps.size
    · by_cases hx : ∃ i, i < n ∧ dst i = s
      · rw [puts_in dst _ _ n s hs hx]
        have hst : s < t.size := by have := h.size; simp only at this; omega
        rw [Array.getD_eq_getD_getElem?, Array.getElem?_eq_getElem hst]
        rfl
      · have hno : ∀ i, i < n → s ≠ dst i := fun i hi e => hx ⟨i, hi, e.symm⟩
        rw [puts_out dst _ _ n s hno]
        exact h.agree s hno
    · have h1 : t[s]? = none := Array.getElem?_eq_none (by have := h.size; simp only at this; omega)
      rw [h1, Array.getElem?_eq_none (by rw [puts_size]; omega)]
  rw [hd]
  exact congrArg (fun t => ({ tmps := t, defers := a0.defers } : Act)) ht
theorem wp_region_RI {P : Program} {ops : Array Oper} {Q : Exit → Act → World → Prop} {id : Nat} {a : Act} {w : World} (hm : P.follows .mixedOrders = true) (n : Nat) (dst : Nat → Nat) (prop : Nat → Value → World → Prop) (hn : ops.size = n)
    (hlt : ∀ (i : Nat) (o : Oper), ops[i]? = some o → ∀ e ∈ o.after, e.on < i) (hd : ∀ i, i < n → dst i < a.tmps.size) (inj : ∀ i j, i < n → j < n → j ≠ i → dst j ≠ dst i)
    (stable : ∀ j v (w w' : World), prop j v w → Below w.heap.size w w' → prop j v w')
    (hstep : ∀ (a' : Act) (w' : World) (i : Nat) (o : Oper) (K : Act → World → Prop), i < n → ops[i]? = some o → (∀ e ∈ o.after, Region.binds .any e = true → prop e.on (a'.tmps.getD (dst e.on) undef) w') →
      (∀ v w'', Below w'.heap.size w' w'' → prop i v w'' → K (a'.put (some (dst i)) v) w'') → wpOp P ops Q i K a' w')
    (hend : ∀ (g : Nat → Value) (w' : World), (∀ i, i < n → prop i (g (dst i)) w') → Below w.heap.size w w' → Q .normal { tmps := puts n dst g a.tmps, defers := a.defers } w') : (Code.region id ops true).wp P Q a w := by
  refine wp_region_inv hm (fun listed a' w' => RI n dst prop a w listed a' w') hlt ?_ ?_ ?_
  · intro listed a' w' i o _ hI hi ho hafter
    rw [hn] at hi
    refine hstep a' w' i o _ hi ho (fun e he hb => hI.props e.on (by have := hlt i o ho e he; omega) (hafter e he hb)) fun v w'' hbel hp => ?_
    exact hI.put hi (hd i hi) (fun j hj hji => inj i j hi hj hji) stable hbel v hp
  · intro listed a' w' hI hall
    rw [hI.lit]
    exact hend (fun s => a'.tmps.getD s undef) w' (fun i hi => hI.props i hi (hall i (by rw [hn]; exact hi))) hI.bel
  · exact ⟨fun _ _ => rfl, rfl, rfl, (below_self w).drew, fun i _ hl => by
      exfalso
      rw [Array.getD_eq_getD_getElem?, Array.getElem?_replicate] at hl
      split at hl <;> cases hl⟩
def afterLess (ops : Array Oper) : Bool := (List.range ops.size).all fun i => match ops[i]? with
  | some o => o.after.all fun e => decide (e.on < i)
  | none => true
theorem afterLess_spec {ops : Array Oper} (h : afterLess ops = true) : ∀ (i : Nat) (o : Oper), ops[i]? = some o → ∀ e ∈ o.after, e.on < i := by
  intro i o ho e he
  have hi : i < ops.size := (Array.getElem?_eq_some_iff.1 ho).1
  have := List.all_eq_true.1 h i (by simpa using hi)
  rw [ho] at this
  simp only [Array.all_eq_true'] at this
  simpa using this e he
end Go.Proofs.Ytnpcafhmkjdhaaa
