/- How arguments that came in are read: slices of rows. -/
import Derived.Test.YthlefdbhkbpejaaGreatBase
import Derived.ProofKit
import Derived.Deep.Slices
import Derived.Deep.Strs
import Derived.Lib.SmallJoins
namespace Go.Proofs.YthlefdbhkbpejaaGreat
open Go Go.RowKit Go.Deep
variable {H : Type} {enc : TypeId × Value → H} {P : Program} {w : World} {base : Nat} {spare : Nat → Bool} {held : Bool}

theorem exists_list {α : Type} [Inhabited α] (p : Nat → α → Prop) : ∀ n, (∀ i, i < n → ∃ x, p i x) → ∃ l : List α, l.length = n ∧ ∀ i, i < n → p i (l.getD i default)
  | 0, _ => ⟨[], rfl, fun i hi => by omega⟩
  | n + 1, h => by
    obtain ⟨l, hl, hp⟩ := exists_list p n (fun i hi => h i (by omega))
    obtain ⟨x, hx⟩ := h n (by omega)
    refine ⟨l ++ [x], by simp [hl], fun i hi => ?_⟩
    by_cases hin : i < n
    · have := hp i hin
      simpa [List.getD, List.getElem?_append_left (show i < l.length by omega)] using this
    · have : i = n := by omega
      subst this
      simpa [List.getD, ← hl] using hx

theorem cells_spot {a : Addr} {k : Nat} {cs : List Value} (hk : 0 < k) (h : w.cells? base a k = some cs) : a.spot = none ∧ a.block < w.heap.size ∧ cs.length = k ∧ w.rangeAt a.block a.off cs := by
  unfold World.cells? at h
  split at h
  · have hlen := mapM_some_length h
    simp only [List.length_range] at hlen
    have hget := fun i c (hc : (List.range k)[i]? = some c) => mapM_some_get h i c hc
    have h0 := hget 0 0 (by simp [hk])
    have hcell0 : (w.cell? (a.add 0)).isSome = true := by
      have : cs[0]? = some cs[0] := List.getElem?_eq_getElem (by omega)
      rw [this] at h0
      rw [h0]; rfl
    obtain ⟨u, hu⟩ := Option.isSome_iff_exists.1 hcell0
    have hadd0 : a.add 0 = a := by simp [Addr.add]
    rw [hadd0] at hu
    have hspot : a.spot = none := World.cell?_spot hu
    refine ⟨hspot, World.block_lt_of_cell? w _ hu, hlen, fun j v hv => ?_⟩
    have hj : j < k := by rw [← hlen]; exact (List.getElem?_eq_some_iff.1 hv).1
    have h1 := hget j j (by simp [hj])
    rw [hv] at h1
    have hadd : a.add j = ⟨a.block, a.off + j, none⟩ := by
      obtain ⟨b, o, s⟩ := a
      simp only at hspot
      subst hspot
      exact Addr.add_mid b o j
    rw [hadd] at h1
    exact h1
  · cases h

theorem rd_slice {α : Type} [Inhabited α] {t e : TypeId} {k : Nat} (ht : P.underlying t = some (.slice e)) (hk : P.cellsOf e = k) (hk0 : 0 < k) {R : List Value → α → Prop}
    (hR : ∀ n cs y, DataW.trod enc P w base spare held n e cs = some y → ∃ m, R cs m) {fuel : Nat} {cs : List Value} {x : DataW H × List MemPlace} (h : DataW.trod enc P w base spare held fuel t cs = some x) :
    ∃ a n cap, ∃ (ms : List α) (rows : List (List Value)), cs = [.slice a n cap] ∧ ms.length = n ∧ rows.length = n ∧ n ≤ cap ∧ cap ≤ maxLen ∧ (a = none → n = 0 ∧ cap = 0) ∧ RowsAt w.heap.size w a k rows ∧
      ∀ i, i < n → R (rows.getD i default) (ms.getD i default) := by
  rcases open_slice ht h with ⟨hcs, _⟩ | ⟨a, len, cap, m, n, D, Pl, hcs, hb, hl, hm, hmm, _, hel⟩
  · exact ⟨none, 0, 0, [], [], hcs, rfl, rfl, Nat.le_refl _, by unfold maxLen; omega, fun _ => ⟨rfl, rfl⟩, RowsAt.nil _ _ _ _, fun i hi => by omega⟩
  · have hle : len ≤ m := by rw [hmm]; split <;> omega
    rw [hk] at hel
    have hall : ∀ i, i < len → ∃ p : List Value × α, w.cells? base (a.add (i * k)) k = some p.1 ∧ R p.1 p.2 := by
      intro i hi
      obtain ⟨cs', h1, h2⟩ := hel i (by omega)
      obtain ⟨mm, hmm'⟩ := hR _ _ _ h2
      exact ⟨(cs', mm), h1, hmm'⟩
    obtain ⟨L, hL, hp⟩ := exists_list (fun i (p : List Value × α) => w.cells? base (a.add (i * k)) k = some p.1 ∧ R p.1 p.2) len hall
    refine ⟨some a, len, cap, L.map (·.2), L.map (·.1), hcs, by simp [hL], by simp [hL], hl, hm, (fun h => by cases h), ?_, ?_⟩
    · intro i r hr
      have hi : i < len := by rw [← hL]; have := (List.getElem?_eq_some_iff.1 hr).1; simpa using this
      have hLi : L[i]? = some (L.getD i default) := by simp [hL ▸ hi]
      have hr' : r = (L.getD i default).1 := by
        rw [List.getElem?_map, hLi] at hr
        simpa using hr.symm
      have hq := (hp i hi).1
      obtain ⟨hsp, hlt, hlen, hra⟩ := cells_spot hk0 hq
      obtain ⟨hsp0, _⟩ := cells_spot hk0 (hp 0 (by omega)).1
      have ha : a.spot = none := by
        rw [Nat.zero_mul] at hsp0
        simpa [Addr.add] using hsp0
      obtain ⟨b, o, s⟩ := a
      simp only at ha
      subst ha
      rw [Addr.add_mid] at hlt hra
      exact ⟨b, o, rfl, hlt, by rw [hr']; exact hra⟩
    · intro i hi
      have hx := List.getElem?_eq_getElem (show i < L.length by omega)
      have := (hp i hi).2
      simpa [List.getD, List.getElem?_map, hx] using this

/-- Elements without memory of their own. -/
theorem rd_flat {α : Type} [Inhabited α] {t e : TypeId} {k : Nat} (cells : α → List Value) (ht : P.underlying t = some (.slice e)) (hk : P.cellsOf e = k) (hk0 : 0 < k) (ok : α → Prop)
    (hR : ∀ n cs y, DataW.trod enc P w base spare held n e cs = some y → ∃ m, cs = cells m ∧ ok m) {fuel : Nat} {cs : List Value} {x : DataW H × List MemPlace} (h : DataW.trod enc P w base spare held fuel t cs = some x) :
    ∃ a n cap, ∃ ms : List α, cs = [.slice a n cap] ∧ ms.length = n ∧ n ≤ cap ∧ cap ≤ maxLen ∧ (a = none → n = 0 ∧ cap = 0) ∧ RowsAt w.heap.size w a k (ms.map cells) ∧ ∀ m ∈ ms, ok m := by
  obtain ⟨a, n, cap, ms, rows, hcs, h1, h2, h3, h4, h5, h6, h7⟩ := rd_slice ht hk hk0 (R := fun cs m => cs = cells m ∧ ok m) hR h
  have hrows : rows = ms.map cells := by
    apply List.ext_getElem (by simp [h1, h2])
    intro i hi1 hi2
    have := (h7 i (by omega)).1
    simpa [List.getD, List.getElem?_eq_getElem hi1, List.getElem?_eq_getElem (show i < ms.length by simpa using hi2)] using this
  refine ⟨a, n, cap, ms, hcs, h1, h3, h4, h5, hrows ▸ h6, fun m hm => ?_⟩
  obtain ⟨i, hi, rfl⟩ := List.getElem_of_mem hm
  have := (h7 i (by omega)).2
  simpa [List.getD, List.getElem?_eq_getElem hi] using this
end Go.Proofs.YthlefdbhkbpejaaGreat
