/- Chapter 05: the law that Max returns a flow with the greatest value: the walk. -/
import Derived.Test.YtgojjlnpbakfjaaMaxR
import Derived.Test.YtgojjlnpbakfjaaWrk
import Derived.Test.YtgojjlnpbakfjaaTypes
namespace Go.Proofs.Ytgojjlnpbakfjaa
open Go Go.RowKit
set_option linter.unusedSimpArgs false

theorem max_same {N : Int} {l : List Ar} {s t r r' : Int} {f f' : List Int} (h : MaxIs N l s t r f) (k : MaxIs N l s t r' f') : r = r' := by
  by_cases h0 : askF N l s t = 0
  · obtain ⟨b1, rfl⟩ := h.1 h0
    obtain ⟨b2, rfl⟩ := k.1 h0
    obtain ⟨hv, hs, ht, hst⟩ := askF_zero h0
    have hA := (netOk_iff.1 hv).2.2.2
    exact b1.same b2 (fun a ha => by have := okA_iff.1 (hA a ha); omega) (by omega) (by omega)
  · rw [(h.2 h0).1, (k.2 h0).1]
/-- A net of the call's own in the box of an argument. -/
structure NX (w X : World) (N : Int) (a : Option Addr) (k c : Nat) (l : List Ar) : Prop where
  box : X.heap[w.heap.size]? = some (.cells #[.int .i64 N, .slice a k c] 24 (0, 0))
  rows : RowsAt X.heap.size X a 3 (Ars l)
  len : l.length = k
  cap : k ≤ c
  nil : a = none → k = 0 ∧ c = 0
  bel : Below w.heap.size w X
theorem NX.later {w X X' : World} {N : Int} {a : Option Addr} {k c : Nat} {l : List Ar} (h : NX w X N a k c l) (hb : Below X.heap.size X X') : NX w X' N a k c l := ⟨blk_below h.box hb, h.rows.later hb, h.len, h.cap, h.nil, below_trans h.bel hb⟩
theorem NX.c0 {w X : World} {N : Int} {a : Option Addr} {k c : Nat} {l : List Ar} (h : NX w X N a k c l) : X.cell? ⟨w.heap.size, 0, none⟩ = some (.int .i64 N) := (blk_cell h.box 0).trans rfl
theorem NX.c1 {w X : World} {N : Int} {a : Option Addr} {k c : Nat} {l : List Ar} (h : NX w X N a k c l) : X.cell? ⟨w.heap.size, 1, none⟩ = some (.slice a k c) := (blk_cell h.box 1).trans rfl
theorem NX.lt {w X : World} {N : Int} {a : Option Addr} {k c : Nat} {l : List Ar} (h : NX w X N a k c l) : w.heap.size < X.heap.size := blk_lt h.box
/-- own's result is laid into the box. -/
theorem NX.put {w A W : World} {N N' : Int} {a a' : Option Addr} {k c m c' : Nat} {l : List Ar} (hA : A.heap[w.heap.size]? = some (.cells #[.int .i64 N', .slice a k c] 24 (0, 0))) (hbA : Below w.heap.size w A) (ho : OwnA A.heap.size W a' m c' l) (hb : Below A.heap.size A W) :
    NX w ((W.setCell ⟨w.heap.size, 0, none⟩ (.int .i64 N)).setCell ⟨w.heap.size, 1, none⟩ (.slice a' m c')) N a' m c' l := by
  have hlt := blk_lt hA
  have hB := blk_below hA hb
  have ho2 : OwnA A.heap.size ((W.setCell ⟨w.heap.size, 0, none⟩ (.int .i64 N)).setCell ⟨w.heap.size, 1, none⟩ (.slice a' m c')) a' m c' l :=
    ⟨owns_set (owns_set ho.1 (by simp only; exact hlt) _) (by simp only; exact hlt) _, ho.2⟩
  refine ⟨?_, ho2.rows, ho.len.1, ho.len.2.1, ho.2.2, ((below_trans hbA hb).setCell (Nat.le_refl _) _).setCell (Nat.le_refl _) _⟩
  simp [World.setCell, Array.getElem?_modify, hB]
theorem take_take130 (l : List Ar) : (l.take 130).take 130 = l.take 130 := by rw [List.take_take, Nat.min_self]

set_option maxRecDepth 100000 in
set_option maxHeartbeats 8000000 in
theorem maxes_walk (x : NetV) (s t : Int) (w : World) (hx : x.ok w) :
    Calls Try.prog 3 #[x.val, .int .i64 s, .int .i64 t] w fun e W' => e = .returned (.bool true) ∧ Below w.heap.size w W' := by
  obtain ⟨N, a, k, c, l⟩ := x
  have HX := Lib.hid hx
  clear hx
  go_enter Try.func3, Try.ntmps3
  go_wp2_with fail
  obtain ⟨A, hA⟩ : ∃ W' : World, (w.alloc (.cells #[.int .i64 N, .slice a k c] 24)) = W' := ⟨_, rfl⟩
  have h : Has A [(w.heap.size, .cells #[.int .i64 N, .slice a k c] 24 (0, 0))] := by rw [← hA]; simpa using ((Has.nil w).new _)
  have z : A.heap.size = w.heap.size + 1 := by rw [← hA]; simp
  have b : Below w.heap.size w A := by rw [← hA]; exact (below_alloc (below_self w) _)
  rw [hA]
  clear hA
  have HA := Lib.hid (And.intro h.hd b)
  clear h z b
  refine (own_ok N a k c l A HX.out.len HX.out.cap HX.out.nil (HX.out.rows.later HA.out.2)).mono ?_
  rintro e W1 ⟨a1, m1, c1, rfl, ho, hb⟩
  have H1 := Lib.hid (NX.put (N := N) HA.out.1 HA.out.2 ho hb)
  have hB := blk_below HA.out.1 hb
  have m0 : W1.cell? ⟨w.heap.size, 0, none⟩ = some (.int .i64 N) := (blk_cell hB 0).trans rfl
  have m1' : W1.cell? ⟨w.heap.size, 1, none⟩ = some (.slice a k c) := (blk_cell hB 1).trans rfl
  have f0 := blk_frozen hB 0
  have f1 := blk_frozen hB 1
  have lb := blk_lt hB
  obtain ⟨l', hl'⟩ : ∃ l', l.take 130 = l' := ⟨_, rfl⟩
  have hlt : l'.take 130 = l' := by rw [← hl']; exact take_take130 l
  have hl63 : l'.length ≤ 130 := by rw [← hl', List.length_take]; omega
  rw [hl'] at H1
  have HL := Lib.hid (And.intro hlt hl63)
  clear ho hb hB hl' hlt hl63 HA HX
  go_upto_region 2 with fail
  generalize (W1.setCell ⟨w.heap.size, 0, none⟩ (.int .i64 N)).setCell ⟨w.heap.size, 1, none⟩ (.slice a1 m1 c1) = X1 at H1 ⊢
  clear m0 m1' f0 f1 lb
  have k0 := H1.out.c0
  have k1 := H1.out.c1
  have kl := H1.out.lt
  go_wp2_with fail
  refine (own_ok N a1 m1 c1 l' X1 H1.out.len H1.out.cap H1.out.nil H1.out.rows).mono ?_
  rintro e X2 ⟨a2, m2, c2, rfl, ho, hb⟩
  rw [HL.out.1] at ho
  obtain rfl : m2 = m1 := by rw [← ho.len.1, H1.out.len]
  have H2 := Lib.hid (And.intro (H1.out.later hb) ho)
  clear ho hb k0 k1 kl H1
  go_upto_region 3 with fail
  have H3 := Lib.hid (show NX w (X2.alloc (.cells #[.int .i64 N, .slice a2 m2 c2] 24)) N a1 m2 c1 l' ∧ (X2.alloc (.cells #[.int .i64 N, .slice a2 m2 c2] 24)).heap[X2.heap.size]? = some (.cells #[.int .i64 N, .slice a2 m2 c2] 24 (0, 0)) ∧ RowsAt (X2.alloc (.cells #[.int .i64 N, .slice a2 m2 c2] 24)).heap.size (X2.alloc (.cells #[.int .i64 N, .slice a2 m2 c2] 24)) a2 3 (Ars l') from
    ⟨H2.out.1.later (below_alloc (below_self X2) _), blk_new X2 _, (H2.out.2.later (below_alloc (below_self X2) _)).rows⟩)
  generalize X2.alloc _ = X3 at H3 ⊢
  generalize X2.heap.size = b7 at H3 ⊢
  clear H2
  have hm63 : m2 ≤ 9223372036854775807 := by have := HL.out.2; have := H3.out.1.len; omega
  have k0 := H3.out.1.c0
  have k1 := H3.out.1.c1
  have kl := H3.out.1.lt
  by_cases h0 : askF N l' s t = 0
  · have HE := Lib.hid h0
    clear h0
    go_wp2_with fail
    refine (max_ok N a1 m2 c1 l' s t X3 H3.out.1.len hm63 H3.out.1.rows).mono ?_
    rintro e X4 ⟨r, v, rfl, f, ho, hm, hb⟩
    rw [HE.out]
    have H4 := Lib.hid (show NX w X4 N a1 m2 c1 l' ∧ X4.heap[b7]? = some (.cells #[.int .i64 N, .slice a2 m2 c2] 24 (0, 0)) ∧ RowsAt X4.heap.size X4 a2 3 (Ars l') ∧ OwnI X3.heap.size X4 v f ∧ MaxIs N l' s t r f from ⟨H3.out.1.later hb, blk_below H3.out.2.1 hb, H3.out.2.2.later hb, ho, hm⟩)
    obtain ⟨av, cv, rfl, _⟩ := ho.rows
    have hfl : f.length = m2 := by rw [okF_len (hm.1 HE.out).1.flw.ok]; exact H3.out.1.len
    rw [hfl]
    rw [hfl] at H4
    have HFL := Lib.hid hfl
    clear ho hm hb k0 k1 kl H3 hfl
    have k0 : X4.cell? ⟨b7, 0, none⟩ = some (.int .i64 N) := (blk_cell H4.out.2.1 0).trans rfl
    have k1 : X4.cell? ⟨b7, 1, none⟩ = some (.slice a2 m2 c2) := (blk_cell H4.out.2.1 1).trans rfl
    have kl := blk_lt H4.out.2.1
    go_wp2_with fail
    refine (maxref_ok N a2 m2 c2 l' s t X4 H4.out.1.len hm63 H4.out.2.2.1).mono ?_
    rintro e X5 ⟨r2, v2, rfl, f2, ho, hm, hb⟩
    rw [HE.out]
    obtain rfl := max_same H4.out.2.2.2.2 hm
    have H5 := Lib.hid (show NX w X5 N a1 m2 c1 l' ∧ X5.heap[b7]? = some (.cells #[.int .i64 N, .slice a2 m2 c2] 24 (0, 0)) ∧ RowsAt X5.heap.size X5 a2 3 (Ars l') ∧ OwnI X3.heap.size X5 (.slice av m2 cv) f ∧ MaxIs N l' s t r f from ⟨H4.out.1.later hb, blk_below H4.out.2.1 hb, H4.out.2.2.1.later hb, H4.out.2.2.2.1.later hb, H4.out.2.2.2.2⟩)
    obtain ⟨av2, cv2, rfl, _⟩ := ho.rows
    clear ho hm hb k0 k1 kl H4
    have k1 := H5.out.1.c1
    have kl := H5.out.1.lt
    have q1 : X5.cell? ⟨b7, 1, none⟩ = some (.slice a2 m2 c2) := (blk_cell H5.out.2.1 1).trans rfl
    have ql := blk_lt H5.out.2.1
    go_wp2_with fail
    refine (equalA_ok a1 a2 m2 c1 m2 c2 l' l' X5 H5.out.1.len H5.out.1.len hm63 H5.out.1.rows H5.out.2.2.1).mono ?_
    rintro e X6 ⟨rfl, hb⟩
    rw [decide_eq_true (rfl : l' = l')]
    have H6 := Lib.hid (show NX w X6 N a1 m2 c1 l' ∧ X6.heap[b7]? = some (.cells #[.int .i64 N, .slice a2 m2 c2] 24 (0, 0)) ∧ RowsAt X6.heap.size X6 a2 3 (Ars l') ∧ OwnI X3.heap.size X6 (.slice av m2 cv) f ∧ MaxIs N l' s t r f from ⟨H5.out.1.later hb, blk_below H5.out.2.1 hb, H5.out.2.2.1.later hb, H5.out.2.2.2.1.later hb, H5.out.2.2.2.2⟩)
    clear hb k1 kl q1 ql H5
    have k0 : X6.cell? ⟨b7, 0, none⟩ = some (.int .i64 N) := (blk_cell H6.out.2.1 0).trans rfl
    have k1 : X6.cell? ⟨b7, 1, none⟩ = some (.slice a2 m2 c2) := (blk_cell H6.out.2.1 1).trans rfl
    have kl := blk_lt H6.out.2.1
    have hro := H6.out.2.2.2.1
    obtain ⟨_, _, he, hro⟩ : ∃ a' c', Value.slice av m2 cv = .slice a' f.length c' ∧ RowsAt X6.heap.size X6 a' 1 (Ints f) := by
      have : OwnI X3.heap.size X6 (.slice av m2 cv) f := hro
      exact this.rows
    injection he with he1 he2 he3
    subst he1
    have HR := Lib.hid hro
    clear hro he2 he3
    go_wp2_with fail
    refine (checkref_ok N a2 m2 c2 l' s t av m2 cv f X6 H6.out.1.len hm63 H6.out.2.2.1 HFL.out hm63 HR.out).mono ?_
    rintro e X7 ⟨rfl, hb⟩
    have hck : chkE N l' s t f = 0 ∧ chkV N l' s t f = r := by
      obtain ⟨hB, rfl⟩ := H6.out.2.2.2.2.1 HE.out
      have e1 : chkE N l' s t f = 0 := by
        unfold chkE
        rw [if_pos HE.out, flw_iff.2 hB.flw]; rfl
      exact ⟨e1, by unfold chkV; rw [if_pos e1]⟩
    rw [hck.1, hck.2]
    have H7 := Lib.hid (below_trans H6.out.1.bel hb)
    clear hck hb k0 k1 kl H6 HR
    go_wp2_with fail
    refine (works_ok X7).mono ?_
    rintro e X8 ⟨rfl, hb⟩
    have H8 := Lib.hid (below_trans H7.out hb)
    clear hb H7
    go_wp2_with fail
    go_ret
    exact ⟨rfl, H8.out⟩
  · obtain ⟨E, hE⟩ : ∃ E, askF N l' s t = E := ⟨_, rfl⟩
    have H0 := Lib.hid h0
    rw [hE] at h0
    have h0b : (E != 0) = true := by simpa using h0
    have hEE : (E != E) = false := by simp
    have HE := Lib.hid hE
    clear hE
    go_wp2_with fail
    refine (max_ok N a1 m2 c1 l' s t X3 H3.out.1.len hm63 H3.out.1.rows).mono ?_
    rintro e X4 ⟨r, v, rfl, f, ho, hm, hb⟩
    rw [HE.out]
    obtain ⟨rfl, rfl⟩ := hm.2 H0.out
    have H4 := Lib.hid (show NX w X4 N a1 m2 c1 l' ∧ X4.heap[b7]? = some (.cells #[.int .i64 N, .slice a2 m2 c2] 24 (0, 0)) ∧ RowsAt X4.heap.size X4 a2 3 (Ars l') from ⟨H3.out.1.later hb, blk_below H3.out.2.1 hb, H3.out.2.2.later hb⟩)
    obtain ⟨av, cv, rfl, _⟩ := ho.rows
    clear ho hm hb k0 k1 kl H3
    have k0 : X4.cell? ⟨b7, 0, none⟩ = some (.int .i64 N) := (blk_cell H4.out.2.1 0).trans rfl
    have k1 : X4.cell? ⟨b7, 1, none⟩ = some (.slice a2 m2 c2) := (blk_cell H4.out.2.1 1).trans rfl
    have kl := blk_lt H4.out.2.1
    go_wp2_with fail
    refine (maxref_ok N a2 m2 c2 l' s t X4 H4.out.1.len hm63 H4.out.2.2).mono ?_
    rintro e X5 ⟨r2, v2, rfl, f2, ho, hm, hb⟩
    rw [HE.out]
    obtain ⟨rfl, rfl⟩ := hm.2 H0.out
    have H5 := Lib.hid (show NX w X5 N a1 m2 c1 l' ∧ X5.heap[b7]? = some (.cells #[.int .i64 N, .slice a2 m2 c2] 24 (0, 0)) ∧ RowsAt X5.heap.size X5 a2 3 (Ars l') from ⟨H4.out.1.later hb, blk_below H4.out.2.1 hb, H4.out.2.2.later hb⟩)
    obtain ⟨av2, cv2, rfl, _⟩ := ho.rows
    clear ho hm hb k0 k1 kl H4
    have k1 := H5.out.1.c1
    have kl := H5.out.1.lt
    have q1 : X5.cell? ⟨b7, 1, none⟩ = some (.slice a2 m2 c2) := (blk_cell H5.out.2.1 1).trans rfl
    have ql := blk_lt H5.out.2.1
    go_wp2_with fail
    refine (equalA_ok a1 a2 m2 c1 m2 c2 l' l' X5 H5.out.1.len H5.out.1.len hm63 H5.out.1.rows H5.out.2.2).mono ?_
    rintro e X6 ⟨rfl, hb⟩
    rw [decide_eq_true (rfl : l' = l')]
    have H6 := Lib.hid (below_trans H5.out.1.bel hb)
    clear hb k1 kl q1 ql H5
    go_wp2_with fail
    refine (works_ok X6).mono ?_
    rintro e X8 ⟨rfl, hb⟩
    have H8 := Lib.hid (below_trans H6.out hb)
    clear hb H6
    go_wp2_with fail
    go_ret
    exact ⟨rfl, H8.out⟩
end Go.Proofs.Ytgojjlnpbakfjaa
