/- Chapter 06: a line in a box above its parts and inputs: what the laws about small numbers hold. -/
import Derived.Test.YtnpcafhmkjdhaaaMade
import Derived.Test.YtnpcafhmkjdhaaaWorks
import Derived.Test.YtnpcafhmkjdhaaaPlainB
namespace Go.Proofs.Ytnpcafhmkjdhaaa
open Go Go.RowKit

structure LinB (w W : World) (B : Nat) (c : Int) (p i : Hd) (ps : List Prt) (hs : List Hd) (ins : List (List Int)) : Prop where
  box : W.heap[B]? = some (.cells #[.int .i64 c, .slice p.1 p.2.1 p.2.2] 28 (0, 0))
  pb : RowsAt B W p.1 3 (Prts ps)
  ib : InsAt B W i.1 hs ins
  wB : w.heap.size ≤ B
  bel : Below w.heap.size w W
section
variable {w W W' : World} {B : Nat} {c : Int} {p i : Hd} {ps : List Prt} {hs : List Hd} {ins : List (List Int)}
theorem LinB.lt (h : LinB w W B c p i ps hs ins) : B < W.heap.size := blk_lt h.box
theorem LinB.later (h : LinB w W B c p i ps hs ins) (hb : Below W.heap.size W W') : LinB w W' B c p i ps hs ins :=
  ⟨blk_below h.box hb, h.pb.below (hb.mono (Nat.le_of_lt h.lt)), h.ib.below (hb.mono (Nat.le_of_lt h.lt)), h.wB, below_trans h.bel hb⟩
theorem InsAt.mono {n n' : Nat} {a : Option Addr} (h : InsAt n W a hs ins) (hn : n ≤ n') : InsAt n' W a hs ins :=
  ⟨h.len, h.rows.mono hn, fun j hj => ⟨(h.at' j hj).1, (h.at' j hj).2.1, (h.at' j hj).2.2.mono hn⟩⟩
theorem LinB.pr (h : LinB w W B c p i ps hs ins) : RowsAt W.heap.size W p.1 3 (Prts ps) := h.pb.mono (Nat.le_of_lt h.lt)
theorem LinB.ir (h : LinB w W B c p i ps hs ins) : InsAt W.heap.size W i.1 hs ins := h.ib.mono (Nat.le_of_lt h.lt)
theorem below_set {n : Nat} (W : World) {a : Addr} (hn : n ≤ a.block) (u : Value) : Below n W (W.setCell a u) := (Below.refl n W).setCell hn u
theorem LinB.set (h : LinB w W B c p i ps hs ins) (c' : Int) : LinB w (W.setCell ⟨B, 0, none⟩ (.int .i64 c')) B c' p i ps hs ins :=
  ⟨by simpa using blk_setcell (i := 0) (u := .int .i64 c') h.box, h.pb.below (below_set W (n := B) (a := ⟨B, 0, none⟩) (Nat.le_refl B) _), h.ib.below (below_set W (n := B) (a := ⟨B, 0, none⟩) (Nat.le_refl B) _), h.wB, h.bel.setCell h.wB _⟩
theorem LinB.drew (h : LinB w W B c p i ps hs ins) : LinB w W.drew B c p i ps hs ins :=
  h.later (below_self W).drew
theorem LinB.c0 (h : LinB w W B c p i ps hs ins) : W.cell? ⟨B, 0, none⟩ = some (.int .i64 c) := by rw [blk_cell h.box]; rfl
theorem LinB.c1 (h : LinB w W B c p i ps hs ins) : W.cell? ⟨B, 1, none⟩ = some (.slice p.1 p.2.1 p.2.2) := by rw [blk_cell h.box]; rfl
theorem LinB.f0 (h : LinB w W B c p i ps hs ins) : W.frozen? ⟨B, 0, none⟩ = false := blk_frozen h.box 0
end
theorem SmA.ok.later {x : SmA} {w w' : World} (h : x.ok w) (hb : Below w.heap.size w w') : x.ok w' := ⟨h.ok, h.al, h.ag, h.ar.later hb, h.bl, h.bg, h.br.later hb⟩
/-- The rows of an own slice of ints. -/
theorem own_rows {base : Nat} {W : World} {h : Hd} {xs : List Int} (ho : OwnI base W h.val xs) : h.2.1 = xs.length ∧ RowsAt W.heap.size W h.1 1 (Ints xs) := by
  obtain ⟨a, cap, he, hr⟩ := ho.rows
  injection he with e1 e2 e3
  exact ⟨e2, e1 ▸ hr⟩
theorem prts_own {base : Nat} {W : World} {h : Hd} {ps : List Prt} {n : Nat} (hn : ps.length = n) (ho : W.ownsRow base 43 3 h.val n (flatP ps)) : RowsAt W.heap.size W h.1 3 (Prts ps) := by
  have hl : (Prts ps).length = n := by simp [hn]
  obtain ⟨a, cap, he, hr⟩ := owns_slice (rows := Prts ps) (by rw [hl]; exact ho) (prts_three ps)
  injection he with e1 e2 e3
  exact e1 ▸ hr
theorem Made.ins {w W : World} {x : SmA} {p h0 h1 : Hd} {s1 s2 gi : Nat} (h : Made w W x p h0 h1 s1 s2 gi) : InsAt W.heap.size W (some ⟨gi, 0, none⟩) [h0, h1] x.ins := by
  obtain ⟨e0, r0⟩ := own_rows h.o0
  obtain ⟨e1, r1⟩ := own_rows h.o1
  have l0 : (x.A.take 30).length ≤ 30 := by simp; omega
  have l1 : (x.B.take 30).length ≤ 30 := by simp; omega
  exact ins_two (hds_blk (hs := [h0, h1]) h.gb) e0.symm e1.symm (by omega) (by omega) r0 r1
theorem Made.linb {w w0 W : World} {x : SmA} {p h0 h1 : Hd} {s1 s2 gi : Nat} (h : Made w0 W x p h0 h1 s1 s2 gi) (hb : Below w.heap.size w w0) (c : Int) {Z : World}
    (hZ : W.alloc (.cells #[.int .i64 c, .slice p.1 2 p.2.2] 28) = Z) : LinB w Z W.heap.size c (p.1, 2, p.2.2) (some ⟨gi, 0, none⟩, 2, 2) x.ps [h0, h1] x.ins := by
  subst hZ
  have hp : RowsAt W.heap.size W p.1 3 (Prts x.ps) := prts_own rfl h.po
  have hbw : Below w.heap.size w W := below_trans hb h.bel
  exact ⟨blk_new W _, hp.below (below_alloc (below_self W) _), h.ins.below (below_alloc (below_self W) _), hbw.size, below_alloc hbw _⟩
/-- What comes of small numbers is small. -/
theorem Sml.given_le {x : Sml} (h : x.ok) (s t : Int) (hs : 0 ≤ s) : 0 ≤ given x.ins s t ∧ given x.ins s t ≤ 255 := by
  unfold given
  split
  · rename_i hc
    have hl : s.toNat < x.ins.length := by omega
    have := Sml.ins_ok h _ (getD_in hl)
    exact this.2 _ (getD_in (by omega))
  · omega
theorem Sml.arr_le {x : Sml} (h : x.ok) (t : Int) : 0 ≤ arr x.ps x.ins t ∧ arr x.ps x.ins t ≤ 1530 := by
  obtain ⟨a0, a1⟩ := Sml.given_le h 0 (t - x.d0 % 9) (by omega)
  obtain ⟨b0, b1⟩ := Sml.given_le h 1 (t - x.d1 % 9) (by omega)
  have e : arr x.ps x.ins t = 0 + (x.t0 % 4) * given x.ins 0 (t - x.d0 % 9) + (x.t1 % 4) * given x.ins 1 (t - x.d1 % 9) := rfl
  rw [e]
  generalize given x.ins 0 (t - x.d0 % 9) = u at *
  generalize given x.ins 1 (t - x.d1 % 9) = v at *
  have t0 : 0 ≤ x.t0 % 4 ∧ x.t0 % 4 ≤ 3 := by omega
  have t1 : 0 ≤ x.t1 % 4 ∧ x.t1 % 4 ≤ 3 := by omega
  generalize x.t0 % 4 = p at *
  generalize x.t1 % 4 = q at *
  have p1 : 0 ≤ p * u := Int.mul_nonneg t0.1 a0
  have p2 : 0 ≤ q * v := Int.mul_nonneg t1.1 b0
  have p3 : p * u ≤ 3 * 255 := Int.mul_le_mul t0.2 a1 a0 (by omega)
  have p4 : q * v ≤ 3 * 255 := Int.mul_le_mul t1.2 b1 b0 (by omega)
  omega
end Go.Proofs.Ytnpcafhmkjdhaaa
