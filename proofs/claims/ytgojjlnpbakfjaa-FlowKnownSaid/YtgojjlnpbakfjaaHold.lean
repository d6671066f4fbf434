/- A region that draws its order and ends in a store that all the others come before: while the store is not done, S holds of the world. -/
import Derived.OrdersHeld
import Derived.RegionTactic
import Derived.Test.YtgojjlnpbakfjaaBase
namespace Go.Proofs.Ytgojjlnpbakfjaa
open Go

section
variable {P : Program} {ops : Array Oper} {Q : Exit → Act → World → Prop} {md : Region.Mode} {S : World → Prop} {z : Nat}

/-- Whatever comes next; behind all but number z, S holds. -/
def wpAnyG (P : Program) (md : Region.Mode) (ops : Array Oper) (Q : Exit → Act → World → Prop) (S : World → Prop) (z : Nat) : Nat → Array Bool → Act → World → Prop
  | 0, done, a, w => Region.ready md ops done = [] ∧ Q .normal a w
  | m + 1, done, a, w => (Region.ready md ops done = [] → Q .normal a w) ∧
      ∀ i ∈ Region.ready md ops done, wpOp P ops Q i (fun b v => (i ≠ z → S v) ∧ wpAnyG P md ops Q S z m (done.setIfInBounds i true) b v) a w
theorem wpAny_of_G : ∀ (m : Nat) (done : Array Bool) (a : Act) (w : World), wpAnyG P md ops Q S z m done a w → wpAny P md ops Q m done a w
  | 0, _, _, _, h => h
  | m + 1, _, _, _, h => ⟨h.1, fun i hi => wpOp_mono (fun b v g => wpAny_of_G m _ b v g.2) (h.2 i hi)⟩
/-- Number z waits for number i. -/
def waitsFor (md : Region.Mode) (ops : Array Oper) (z i : Nat) : Bool := match ops[z]? with
  | some o => o.after.any (fun e => Region.binds md e && e.on == i)
  | none => false
theorem waits_not {done : Array Bool} {i : Nat} (hw : waitsFor md ops z i = true) (hi : i ∈ Region.ready md ops done) : z ∉ Region.ready md ops done := by
  intro hz
  obtain ⟨_, o, ho, hall⟩ := mem_ready.1 hz
  obtain ⟨hun, _⟩ := mem_ready.1 hi
  unfold waitsFor at hw
  rw [ho] at hw
  simp only [Array.any_eq_true'] at hw
  obtain ⟨e, he, hb⟩ := hw
  simp only [Bool.and_eq_true, beq_iff_eq] at hb
  have h1 := hall e he hb.1
  rw [hb.2] at h1
  by_cases hlt : i < done.size
  · simp [hlt] at hun h1
    rw [hun] at h1
    cases h1
  · simp [Array.getElem?_eq_none (Nat.le_of_not_lt hlt)] at hun
/-- What yields its value in every world that meets S may be taken first. -/
theorem wpAnyG_first {i : Nat} {oi : Oper} {v : Value} (hi : ops[i]? = some oi) (hsel : ∀ (j : Nat) (o : Oper) cs b, ops[j]? = some o → o.op ≠ .select cs b)
    (hQ : ∀ c a w, Q (.panic c) (a.put oi.dst v) w → Q (.panic c) a w) (hw : waitsFor md ops z i = true) : ∀ (m : Nat) (done : Array Bool) (a : Act) (w : World),
      (∀ j oj, ops[j]? = some oj → j ≠ i → done.getD j true = false → (∀ e ∈ oj.after, Region.binds md e = true → e.on ≠ i) → oi.apart ops oj = true) →
      i ∈ Region.ready md ops done → YieldsIf P ops S oi v a → S w → wpAnyG P md ops Q S z m (done.setIfInBounds i true) (a.put oi.dst v) w → wpAnyG P md ops Q S z (m + 1) done a w
  | 0, done, a, w, _, hr, hy, hS, H => ⟨fun h => (by rw [h] at hr; cases hr), fun j hj => by
      by_cases e : j = i
      · subst e; exact hy.wpOp hi hS ⟨fun _ => hS, H⟩
      · have := ready_mono hj e
        rw [H.1] at this
        cases this⟩
  | m + 1, done, a, w, hfree, hr, hy, hS, H => ⟨fun h => (by rw [h] at hr; cases hr), fun j hj => by
      by_cases e : j = i
      · subst e; exact hy.wpOp hi hS ⟨fun _ => hS, H⟩
      · have hjz : j ≠ z := fun h => waits_not hw hr (h ▸ hj)
        obtain ⟨hun, oj, hoj, hall⟩ := mem_ready.1 hj
        have hno : ∀ x ∈ oj.after, Region.binds md x = true → x.on ≠ i := fun x hx hb h => by
          have h1 := hall x hx hb
          have h0 := (mem_ready.1 hr).1
          rw [h] at h1
          by_cases hlt : i < done.size
          · simp [hlt] at h0 h1
            rw [h0] at h1
            cases h1
          · simp [Array.getElem?_eq_none (Nat.le_of_not_lt hlt)] at h0
        refine wpOp_mono (fun b y g => ⟨fun _ => g.2.1 hjz, ?_⟩) (wpOp_putIf hoj (hfree j oj hoj e hun hno) (fun cs b => hsel i oi cs b hi) (fun cs b => hsel j oj cs b hoj) hQ hy (H.2 j (ready_mono hj e)))
        refine wpAnyG_first hi hsel hQ hw m _ b y (fun k ok hk hki hku hkn => ?_) (ready_mono hr (fun h => e h.symm)) g.1 (g.2.1 hjz) ?_
        · refine hfree k ok hk hki ?_ hkn
          by_cases hjk : j = k
          · subst hjk; exact hun
          · rw [getD_set_ne true hjk] at hku; exact hku
        · rw [Array.setIfInBounds_comm _ _ e]
          exact g.2.2⟩
theorem wpAnyG_take {i : Nat} {oi : Oper} {v : Value} {m : Nat} {done : Array Bool} {a : Act} {w : World} (hi : ops[i]? = some oi) (hs : Region.noSelect ops = true) (hf : Region.free md ops done i = true) (hr : (Region.ready md ops done).contains i = true)
    (hw : waitsFor md ops z i = true) (hQ : ∀ c a w, Q (.panic c) (a.put oi.dst v) w → Q (.panic c) a w) (hy : YieldsIf P ops S oi v a) (hS : S w)
    (h : wpAnyG P md ops Q S z m (done.setIfInBounds i true) (a.put oi.dst v) w) : wpAnyG P md ops Q S z (m + 1) done a w :=
  wpAnyG_first hi (Region.noSelect_spec hs) hQ hw m done a w (Region.free_spec hi hf) (by simpa using hr) hy hS h
/-- The one that comes next. -/
theorem wpAnyG_next {i : Nat} {o : Oper} {m : Nat} {done : Array Bool} {a : Act} {w : World} (hr : Region.ready md ops done = [i]) (ho : ops[i]? = some o)
    (h : ∀ K : Act → World → Prop, (∀ b v, (i ≠ z → S v) → wpAnyG P md ops Q S z m (done.setIfInBounds i true) b v → K b v) → if Region.wanted o (yielded ops a.tmps) = true then Oper.wp P o a w K Q else K (a.put o.dst undef) w) : wpAnyG P md ops Q S z (m + 1) done a w := by
  refine ⟨fun h0 => (by rw [hr] at h0; cases h0), fun j hj => ?_⟩
  rw [hr] at hj
  obtain rfl : j = i := by simpa using hj
  exact wpOp_step ho fun K hK => h K fun b v h1 h2 => hK b v ⟨h1, h2⟩
theorem wpAnyG_done {done : Array Bool} {a : Act} {w : World} (hr : Region.ready md ops done = []) (h : Q .normal a w) : ∀ m, wpAnyG P md ops Q S z m done a w
  | 0 => ⟨hr, h⟩
  | _ + 1 => ⟨fun _ => h, by rw [hr]; simp⟩
theorem wp_region_G {id : Nat} {a : Act} {w : World} (hm : P.follows .mixedOrders = true) (S : World → Prop) (z : Nat) (h : wpAnyG P .any ops Q S z ops.size (Array.replicate ops.size false) a w.drew) : (Code.region id ops true).wp P Q a w :=
  wp_region_any hm (wpAny_of_G _ _ _ _ h)
end
end Go.Proofs.Ytgojjlnpbakfjaa
