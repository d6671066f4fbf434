/- Loops by a number that no slot holds; marks among the deferred calls. -/
import Derived.LoopNIn
import Derived.RangeFuncLeaves
import Derived.Test.YtgojjlnpbakfjaaBase
namespace Go.Proofs.Ytgojjlnpbakfjaa
open Go Go.RowKit

theorem rounds_steps {F : Fence} {n : Nat} {P : Program} {c : Code} {Q : Exit → Act → World → Prop} (I : Nat → Act → World → Prop)
    (round : ∀ m a w, I m a w → c.wpIn F n P (Exit.then (fun a' w' => ∃ m', m = m' + 1 ∧ I m' a' w') Q) a w) : ∀ m a w, I m a w → Code.roundsIn F n P c Q (m + 1) a w := by
  intro m
  induction m with
  | zero =>
    intro a w h
    refine wpIn_mono (round 0 a w h) ?_
    intro e a' w' hq
    cases e with
    | normal => obtain ⟨m', h, _⟩ := hq; omega
    | _ => exact hq
  | succ m ih =>
    intro a w h
    refine wpIn_mono (round (m + 1) a w h) ?_
    intro e a' w' hq
    cases e with
    | normal =>
      obtain ⟨m', h, hI⟩ := hq
      obtain rfl : m = m' := by omega
      exact ih a' w' hI
    | _ => exact hq
/-- A loop whose rounds are counted by a number that no slot holds. -/
theorem loop_steps {F : Fence} {n : Nat} {P : Program} {c : Code} {Q : Exit → Act → World → Prop} {a : Act} {w : World} (I : Nat → Act → World → Prop) (m : Nat) (h : I m a w)
    (round : ∀ m a w, I m a w → c.wpIn F n P (Exit.then (fun a' w' => ∃ m', m = m' + 1 ∧ I m' a' w') Q) a w) : (Code.loop c).wpIn F n P Q a w :=
  wpIn_loop_rounds (m + 1) (rounds_steps I round m a w h)

/-- The marks of loops that are done. -/
structure Marks (lo hi : Nat) (ds : List Deferred) (W : World) : Prop where
  ex : ∃ rs : List Nat, ds = rs.map (fun r => { target := .collected r, args := #[] }) ∧ rs.Nodup ∧ ∀ r ∈ rs, lo < r ∧ r < hi ∧ W.heap[r]? = some (.deferred (some []))
theorem Marks.nil (lo hi : Nat) (W : World) : Marks lo hi [] W := ⟨[], rfl, List.nodup_nil, fun r h => by simp at h⟩
theorem Marks.keep {lo hi : Nat} {ds : List Deferred} {W W' : World} (h : Marks lo hi ds W) (hk : ∀ r, lo < r → r < hi → W.heap[r]? = some (.deferred (some [])) → W'.heap[r]? = some (.deferred (some []))) : Marks lo hi ds W' := by
  obtain ⟨rs, h1, h2, h3⟩ := h.ex
  exact ⟨rs, h1, h2, fun r hr => ⟨(h3 r hr).1, (h3 r hr).2.1, hk r (h3 r hr).1 (h3 r hr).2.1 (h3 r hr).2.2⟩⟩
theorem Marks.later {lo hi : Nat} {ds : List Deferred} {W W' : World} (h : Marks lo hi ds W) (hb : Below W.heap.size W W') : Marks lo hi ds W' := h.keep fun _ _ _ hr => blk_below hr hb
theorem Marks.add {lo hi hi' : Nat} {ds : List Deferred} {W : World} (h : Marks lo hi ds W) {r : Nat} (h1 : hi ≤ r) (h0 : lo < r) (h2 : r < hi') (hr : W.heap[r]? = some (.deferred (some []))) : Marks lo hi' ({ target := .collected r, args := #[] } :: ds) W := by
  obtain ⟨rs, e, hn, h3⟩ := h.ex
  refine ⟨r :: rs, by rw [e]; rfl, List.nodup_cons.2 ⟨fun hm => by have := (h3 r hm).2.1; omega, hn⟩, fun q hq => ?_⟩
  rcases List.mem_cons.1 hq with rfl | hq
  · exact ⟨h0, h2, hr⟩
  · obtain ⟨a, b, c⟩ := h3 q hq
    exact ⟨a, by omega, c⟩
theorem Marks.mono {lo hi hi' : Nat} {ds : List Deferred} {W : World} (h : Marks lo hi ds W) (hh : hi ≤ hi') : Marks lo hi' ds W := by
  obtain ⟨rs, e, hn, h3⟩ := h.ex
  exact ⟨rs, e, hn, fun q hq => ⟨(h3 q hq).1, by have := (h3 q hq).2.1; omega, (h3 q hq).2.2⟩⟩
/-- A function leaves with marks alone. -/
theorem leaves_marks {P : Program} {fn : Func} {tmps : Array Value} {R : Ending → World → Prop} {lo hi : Nat} : ∀ (ds : List Deferred) (W : World), Marks lo hi ds W →
    (∀ W', Below (lo + 1) W W' → (∀ (k : Nat) (c : Array Value) (t : TypeId) (fr : Nat × Nat), W.heap[k]? = some (Obj.cells c t fr) → W'.heap[k]? = some (Obj.cells c t fr)) → ∃ v, (results fn tmps).run P W' = .ok v W' ∧ R (.returned v) W') → LeavesInM Fence.wide 0 P fn tmps R ds .returning W := by
  intro ds
  induction ds with
  | nil =>
    intro W _ h
    exact h W (Below.refl _ _) (fun _ _ _ _ h => h)
  | cons d ds ih =>
    intro W hm h
    obtain ⟨rs, e, hn, h3⟩ := hm.ex
    cases rs with
    | nil => cases e
    | cons r rs =>
      injection e with e1 e2
      obtain ⟨a, b, c⟩ := h3 r (by simp)
      have hn' := List.nodup_cons.1 hn
      subst e1
      refine ⟨by simp, .inl ⟨_, _, rfl, run_takeDeferred c, ?_⟩⟩
      refine ih _ ⟨rs, e2, hn'.2, fun q hq => ⟨(h3 q (by simp [hq])).1, (h3 q (by simp [hq])).2.1, blk_put (h3 q (by simp [hq])).2.2 (fun e => hn'.1 (e ▸ hq))⟩⟩ ?_
      intro W' hb hk
      refine h W' ((below_put (Below.refl (lo + 1) W) (by omega) _).trans hb) (fun k cs t fr hc => hk k cs t fr (blk_put hc ?_))
      rintro rfl
      rw [c] at hc
      cases hc
end Go.Proofs.Ytgojjlnpbakfjaa
