/- Rows of ints: slices.IndexFunc, ContainsFunc at []int; slices of the call's own (cut out of chapter 06's text). -/
import Derived.Test.YthlefdbhkbpejaaGreatProg
import Derived.Test.YthlefdbhkbpejaaGreatBase
import Derived.Test.YthlefdbhkbpejaaGreatRow
import Derived.RegionTactic
import Derived.IntWalk
namespace Go.Proofs.YthlefdbhkbpejaaGreat
open Go Go.RowKit

/-- The first place with the property; -1: none. -/
def idxI {α : Type} (p : α → Bool) (l : List α) : Int := match l.findIdx? p with
  | none => -1
  | some i => (i : Int)
theorem idxI_found {α : Type} [Inhabited α] {p : α → Bool} {l : List α} {k : Nat} (hk : k < l.length) (hp : p (l.getD k default) = true) (hno : ∀ j, j < k → p (l.getD j default) = false) : idxI p l = (k : Int) := by
  have h : l.findIdx? p = some k := by
    rw [List.findIdx?_eq_some_iff_getElem]
    refine ⟨hk, by simpa [List.getD, List.getElem?_eq_getElem hk] using hp, fun j hj => ?_⟩
    have := hno j hj
    have hj2 : j < l.length := by omega
    simpa [List.getD, List.getElem?_eq_getElem hj2] using this
  unfold idxI; rw [h]
theorem idxI_none {α : Type} [Inhabited α] {p : α → Bool} {l : List α} (hno : ∀ j, j < l.length → p (l.getD j default) = false) : idxI p l = -1 := by
  have h : l.findIdx? p = none := by
    rw [List.findIdx?_eq_none_iff]
    intro x hx
    obtain ⟨j, hj, rfl⟩ := List.getElem_of_mem hx
    have := hno j hj
    simpa [List.getD, List.getElem?_eq_getElem hj] using this
  unfold idxI; rw [h]
theorem no_succ {α : Type} [Inhabited α] {p : α → Bool} {l : List α} {k : Nat} (h : ∀ j, j < k → p (l.getD j default) = false) (hk : p (l.getD k default) = false) : ∀ j, j < k + 1 → p (l.getD j default) = false := by
  intro j hj
  by_cases e : j = k
  · subst e; exact hk
  · exact h j (by omega)
theorem idxI_ge {α : Type} [Inhabited α] (p : α → Bool) (l : List α) : 0 ≤ idxI p l ∨ idxI p l = -1 := by
  unfold idxI; split
  · exact .inr rfl
  · exact .inl (by omega)
theorem idxI_lt {α : Type} (p : α → Bool) (l : List α) : idxI p l < l.length ∧ -1 ≤ idxI p l := by
  unfold idxI
  split
  · omega
  · rename_i i h
    have := (List.findIdx?_eq_some_iff_getElem.1 h).1
    omega
theorem idxI_any {α : Type} (p : α → Bool) (l : List α) : decide (0 ≤ idxI p l) = l.any p := by
  unfold idxI
  cases h : l.findIdx? p with
  | none =>
    rw [List.findIdx?_eq_none_iff] at h
    simp; exact fun x hx => by simp [h x hx]
  | some i =>
    obtain ⟨hi, hp, _⟩ := List.findIdx?_eq_some_iff_getElem.1 h
    simp
    exact ⟨l[i], List.getElem_mem hi, hp⟩

abbrev Ints (xs : List Int) : List (List Value) := xs.map fun x => [.int .i64 x]
theorem ints_at {n : Nat} {w : World} {a : Option Addr} {xs : List Int} (h : RowsAt n w a 1 (Ints xs)) (k : Nat) (hk : k < xs.length) :
    ∃ b off, a = some ⟨b, off, none⟩ ∧ b < n ∧ w.cell? ⟨b, off + k, none⟩ = some (.int .i64 (xs.getD k default)) := by
  obtain ⟨b, off, ha, hb, hc⟩ := h k [.int .i64 (xs.getD k default)] (by simp [hk])
  exact ⟨b, off, ha, hb, by simpa using hc 0 _ rfl⟩

theorem eq_of_get {α : Type} [Inhabited α] {xs ys : List α} (hl : xs.length = ys.length) (h : ∀ j, j < xs.length → xs.getD j default = ys.getD j default) : xs = ys := by
  apply List.ext_getElem hl
  intro i h1 h2
  have := h i h1
  simpa [List.getD, List.getElem?_eq_getElem h1, List.getElem?_eq_getElem h2] using this
theorem same_succ {α : Type} [Inhabited α] {xs ys : List α} {k : Nat} (h : ∀ j, j < k → xs.getD j default = ys.getD j default) (hk : xs.getD k default = ys.getD k default) : ∀ j, j < k + 1 → xs.getD j default = ys.getD j default := by
  intro j hj
  by_cases e : j = k
  · subst e; exact hk
  · exact h j (by omega)

def intsV (xs : List Int) : List Value := xs.map (Value.int .i64)
theorem intsV_flat (xs : List Int) : (Ints xs).flatten = intsV xs := by
  induction xs with
  | nil => rfl
  | cons x xs ih => simpa [intsV] using ih
theorem intsV_one (xs : List Int) : ∀ v ∈ intsV xs, v.oneCell' = true := by
  intro v hv
  obtain ⟨x, _, rfl⟩ := List.mem_map.1 hv
  rfl
/-- The slice v holds just the loads xs, in memory of its own. -/
def OwnI (base : Nat) (w : World) (v : Value) (xs : List Int) : Prop := w.ownsRow base 3 1 v xs.length (intsV xs)
theorem OwnI.rows {base : Nat} {w : World} {v : Value} {xs : List Int} (h : OwnI base w v xs) : ∃ a cap, v = .slice a xs.length cap ∧ RowsAt w.heap.size w a 1 (Ints xs) := by
  have hl : (Ints xs).length = xs.length := by simp
  obtain ⟨a, cap, hv, hr⟩ := owns_slice (rows := Ints xs) (by rw [hl, intsV_flat]; exact h) (by simp)
  exact ⟨a, cap, by rw [hv, hl], hr⟩
theorem OwnI.full {base : Nat} {w : World} {v : Value} {xs : List Int} (h : OwnI base w v xs) : ∃ a cap, v = .slice a xs.length cap ∧ xs.length ≤ cap ∧ (a = none → xs.length = 0 ∧ cap = 0) ∧ RowsAt w.heap.size w a 1 (Ints xs) := by
  obtain ⟨a, cap, rfl, hr⟩ := h.rows
  refine ⟨a, cap, rfl, ?_, ?_, hr⟩
  · obtain ⟨_, _, he, h1, _⟩ := owns_shape h; cases he; exact h1
  · rintro rfl
    rcases h.2 with ⟨h1, h2⟩ | ⟨g, c, cur, hv, _⟩
    · injection h1 with _ _ h3; exact ⟨h2, h3⟩
    · cases hv
theorem OwnI.later {base : Nat} {w w' : World} {v : Value} {xs : List Int} (h : OwnI base w v xs) (hb : Below w.heap.size w w') : OwnI base w' v xs := owns_later h hb
theorem OwnI.nil (base : Nat) (w : World) : OwnI base w (.slice none 0 0) [] := World.ownsRow_nil _ _ _ _
theorem info3 : (Tryz.prog.info? 3).map (fun i => (i.zero, i.size, i.bytes)) = some (some (.int .i64 0), 1, 8) := by kernel_rfl
theorem ints_src {n : Nat} {w : World} {ad : Addr} {xs : List Int} (h : RowsAt n w (some ad) 1 (Ints xs)) : ∀ j u, (intsV xs)[j]? = some u → w.cell? (ad.add j) = some u := by
  intro j u hu
  have hx : ∃ x, xs[j]? = some x ∧ u = .int .i64 x := by
    unfold intsV at hu
    rw [List.getElem?_map] at hu
    cases hxi : xs[j]? with
    | none => rw [hxi] at hu; simp at hu
    | some x => rw [hxi] at hu; exact ⟨x, rfl, by simpa using hu.symm⟩
  obtain ⟨x, hxj, rfl⟩ := hx
  obtain ⟨b, off, ha, _, hc⟩ := h j [.int .i64 x] (by simp [hxj])
  cases ha
  have := hc 0 _ rfl
  rw [Addr.add_mid]
  simpa using this
theorem ints_take {n : Nat} {w : World} {a : Option Addr} {xs : List Int} (h : RowsAt n w a 1 (Ints xs)) (k : Nat) : RowsAt n w a 1 (Ints (xs.take k)) := by
  have := RowsAt.take h k
  unfold Ints
  rw [List.map_take]
  exact this


theorem ints_blk {W : World} {g : Nat} {xs : List Int} {t : TypeId} (h : W.heap[g]? = some (.cells (xs.map (Value.int .i64)).toArray t (0, 0))) : RowsAt W.heap.size W (some ⟨g, 0, none⟩) 1 (Ints xs) := by
  intro i r hr
  have hg := blk_lt h
  obtain ⟨x, hx, rfl⟩ : ∃ x, xs[i]? = some x ∧ r = [.int .i64 x] := by
    rw [List.getElem?_map] at hr
    cases hxi : xs[i]? with
    | none => rw [hxi] at hr; simp at hr
    | some x => rw [hxi] at hr; exact ⟨x, rfl, by simpa using hr.symm⟩
  refine ⟨_, _, rfl, hg, fun j v hv => ?_⟩
  cases j with
  | zero =>
    rw [blk_cell h]
    simp at hv ⊢
    rw [hx]; simpa using hv
  | succ j => simp at hv
abbrev Bytes (zs : List Int) : List (List Value) := zs.map fun z => [.int .u8 z]
theorem bytes_at {n : Nat} {w : World} {a : Option Addr} {xs : List Int} (h : RowsAt n w a 1 (Bytes xs)) (k : Nat) (hk : k < xs.length) :
    ∃ b off, a = some ⟨b, off, none⟩ ∧ b < n ∧ w.cell? ⟨b, off + k, none⟩ = some (.int .u8 (xs.getD k default)) := by
  obtain ⟨b, off, ha, hb, hc⟩ := h k [.int .u8 (xs.getD k default)] (by simp [hk])
  exact ⟨b, off, ha, hb, by simpa using hc 0 _ rfl⟩
theorem getD_mem {xs : List Int} {k : Nat} (hk : k < xs.length) : xs.getD k default ∈ xs := by
  rw [List.getD_eq_getElem?_getD, List.getElem?_eq_getElem hk]; exact List.getElem_mem _
theorem take_snocI {xs : List Int} {k : Nat} (hk : k < xs.length) : xs.take (k + 1) = xs.take k ++ [xs.getD k default] := by
  rw [List.take_succ_eq_append_getElem hk]
  simp [List.getD, List.getElem?_eq_getElem hk]
theorem intsV_app (xs : List Int) (x : Int) : intsV (xs ++ [x]) = intsV xs ++ [.int .i64 x] := by simp [intsV]


theorem owns_kept {W W' : World} {base : Nat} {e : TypeId} {k : Nat} {v : Value} {n : Nat} {xs : List Value} (h : W.ownsRow base e k v n xs) (hk : ∀ g, v.ownBlock = some g → W'.heap[g]? = W.heap[g]?) : W'.ownsRow base e k v n xs := by
  refine ⟨h.1, ?_⟩
  rcases h.2 with h2 | ⟨g, cap, cur, hv, hg, hh, r⟩
  · exact Or.inl h2
  · exact Or.inr ⟨g, cap, cur, hv, hg, by rw [hk g (by rw [hv]; rfl)]; exact hh, r⟩
theorem owns_put_ne {W : World} {base : Nat} {e : TypeId} {k : Nat} {v : Value} {n : Nat} {xs : List Value} (h : W.ownsRow base e k v n xs) {l : Nat} (hl : some l ≠ v.ownBlock) (o : Obj) : (W.putObj l o).ownsRow base e k v n xs :=
  owns_kept h fun g hg => World.putObj_heap_other (by rintro rfl; exact hl hg.symm)
theorem owns_set_ne {W : World} {base : Nat} {e : TypeId} {k : Nat} {v : Value} {n : Nat} {xs : List Value} (h : W.ownsRow base e k v n xs) {a : Addr} (hl : some a.block ≠ v.ownBlock) (u : Value) : (W.setCell a u).ownsRow base e k v n xs :=
  owns_kept h fun g hg => Below.heap_setCell W a u g (by rintro rfl; exact hl hg.symm)
theorem owns_but_ne {W W' : World} {base : Nat} {e : TypeId} {k : Nat} {v : Value} {n : Nat} {xs : List Value} (h : W.ownsRow base e k v n xs) {l : Nat} (hb : ButRow l W W') (hl : some l ≠ v.ownBlock) : W'.ownsRow base e k v n xs :=
  owns_kept h fun g hg => hb.block g (by rintro rfl; exact hl hg.symm)

theorem ButRow.set (g o : Nat) (W : World) (u : Value) : ButRow g W (W.setCell ⟨g, o, none⟩ u) :=
  ⟨rfl, rfl, rfl, by simp, fun k hk => Below.heap_setCell W _ u k hk⟩
theorem ButRow.refl (g : Nat) (W : World) : ButRow g W W := ⟨rfl, rfl, rfl, rfl, fun _ _ => rfl⟩
theorem ButRow.trans {g : Nat} {W W1 W2 : World} (h : ButRow g W W1) (k : ButRow g W1 W2) : ButRow g W W2 :=
  ⟨k.os.trans h.os, k.tape.trans h.tape, k.output.trans h.output, k.size.trans h.size, fun j hj => (k.block j hj).trans (h.block j hj)⟩
end Go.Proofs.YthlefdbhkbpejaaGreat
