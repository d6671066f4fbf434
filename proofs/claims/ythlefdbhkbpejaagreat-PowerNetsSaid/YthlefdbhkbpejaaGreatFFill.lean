/- Chapter 05: fill: as much as possible is sent. -/
import Derived.Test.YthlefdbhkbpejaaGreatFSend
import Derived.Test.YthlefdbhkbpejaaGreatFLvs
import Derived.WalkMore
namespace Go.Proofs.YthlefdbhkbpejaaGreat.F5
open Go Go.RowKit

/-- What is asked of a net with two of its nodes. -/
structure NetA (n : Nat) (l : List Ar) (s t : Nat) : Prop where
  inn : inN n l
  ne : ∀ a ∈ l, a.u ≠ a.v
  cap : ∀ a ∈ l, 0 ≤ a.c ∧ a.c ≤ 100000000
  len : l.length ≤ 128
  n64 : n ≤ 64
  s1 : s < n
  t1 : t < n
  st : s ≠ t
theorem NetA.sc {B n : Nat} {l : List Ar} {s t : Nat} {f : List Int} {far0 : Int → Int} (h : NetA n l s t) (hl : Lvl n l f s far0) : SC B l n t far0 := ⟨h.inn, h.ne, h.cap, h.len, h.n64, hl.low⟩
theorem NetA.le {n : Nat} {l : List Ar} {s t : Nat} (h : NetA n l s t) {f : List Int} (hf : Flw n l s t f) : net l f s ≤ tot l ∧ tot l ≤ 12800000000 := by
  have h1 := h.len
  have h2 := tot_le l h.cap
  exact ⟨hf.all h.inn (by omega) (by have := h.s1; omega) (by have := h.st; omega) (fun a ha => (h.cap a ha).1), by omega⟩
theorem Frm.drop {H : Nat} {g1 g2 : Option Nat} {W W' : World} (h : Frm H g1 g2 W W') (h2 : ∀ g, g2 = some g → H ≤ g) : Frm H g1 none W W' :=
  ⟨h.os, h.tape, h.output, h.size, fun k hk n1 _ => h.block k hk n1 (fun e => by have := h2 k e.symm; omega)⟩
/-- After a round more has been sent. -/
theorem Sent.more {n : Nat} {l : List Ar} {s t : Int} {far0 : Int → Int} {most : Int} {f : List Int} {far : Int → Int} {k : Int} {f' : List Int} {far' : Int → Int} (h : Sent l t far0 s most f far k f' far') (hf : Flw n l s t f) (hst : s ≠ t) : Flw n l s t f' ∧ net l f' s = net l f s + k := by
  refine ⟨⟨h.ok, fun x x0 x1 h1 h2 => ?_⟩, ?_⟩
  · rw [h.bal, if_neg (fun e => h1 e.symm), if_neg (fun e => h2 e.symm), hf.con x x0 x1 h1 h2]; rfl
  · rw [h.bal, if_pos rfl, if_neg (fun e => hst e.symm)]; omega

set_option maxRecDepth 100000 in
set_option maxHeartbeats 4000000 in
theorem fill_ok (B : Nat) (l : List Ar) (n p : Nat) (vt vl va : Value) (rows : List Value) (f0 : List Int) (s t : Nat) (w : World) (hN : NetA n l s t) (hf : Flw n l s t f0) (hR : Rst B l n p vt vl va rows (leftL l f0) w) (hz : net l f0 s = 0) (hB : B ≤ w.heap.size) :
    Calls Tryz.prog 52 #[.pointer (some ⟨p, 0, none⟩), .int .i64 s, .int .i64 t] w fun e W' => ∃ f, e = .returned (.int .i64 (net l f s)) ∧ Best n l s t f ∧ Rst B l n p vt vl va rows (leftL l f) W' ∧ Frm w.heap.size vl.ownBlock none w W' := by
  have HR := Lib.hid hR
  have HN := Lib.hid hN
  have HF := Lib.hid (And.intro hf hz)
  have hst := hN.st
  have ht1 := hN.t1
  clear hR hN hf hz
  go_enter Tryz.func52, Tryz.ntmps52
  go_wp2_with fail
  obtain ⟨A, hA⟩ : ∃ W' : World, ((w.alloc (.cells #[.pointer (some ⟨p, 0, none⟩)] 91)).alloc (.cells #[.int .i64 t] 3)) = W' := ⟨_, rfl⟩
  have h : Has A [(w.heap.size + 1, .cells #[.int .i64 t] 3 (0, 0)), (w.heap.size, .cells #[.pointer (some ⟨p, 0, none⟩)] 91 (0, 0))] := by rw [← hA]; simpa using (((Has.nil w).new _).new _)
  have z : A.heap.size = w.heap.size + 1 + 1 := by rw [← hA]; simp
  have b : Below w.heap.size w A := by rw [← hA]; exact (below_alloc (below_alloc (below_self w) _) _)
  rw [hA]
  clear hA
  have HA := Lib.hid (And.intro h.tl.hd (And.intro h.hd b))
  clear h z b
  go_step3
  go_wp2_with fail
  go_step3
  go_wp2_with fail
  go_loopw [7] (fun tt wr => ∃ (f : List Int) (X : World), tt = .int .i64 (net l f s) ∧ X = wr ∧ Hid (Flw n l s t f ∧ Rst B l n p vt vl va rows (leftL l f) X ∧ X.heap[w.heap.size]? = some (.cells #[.pointer (some ⟨p, 0, none⟩)] 91 (0, 0)) ∧ X.heap[w.heap.size + 1]? = some (.cells #[.int .i64 t] 3 (0, 0)) ∧ Frm w.heap.size vl.ownBlock none w X ∧ 0 ≤ net l f s)) (fun tt _ => (tot l - intOf tt).toNat)
  case atStart => exact ⟨f0, _, by rw [HF.out.2], rfl, Lib.hid ⟨HF.out.1, HR.out.later HA.out.2.2, HA.out.1, HA.out.2.1, Frm.of HA.out.2.2, by rw [HF.out.2]; omega⟩⟩
  case round =>
    obtain ⟨f, X, rfl, rfl, HX⟩ := hrel
    have qx : X.cell? ⟨w.heap.size, 0, none⟩ = some (.pointer (some ⟨p, 0, none⟩)) := (blk_cell HX.out.2.2.1 0).trans rfl
    have qt : X.cell? ⟨w.heap.size + 1, 0, none⟩ = some (.int .i64 t) := (blk_cell HX.out.2.2.2.1 0).trans rfl
    have lx := blk_lt HX.out.2.2.1
    have lt := blk_lt HX.out.2.2.2.1
    go_wp2_with fail
    refine (levels_ok B l n p vt vl va rows f s X HN.out.s1 HN.out.n64 HN.out.len HN.out.inn HN.out.ne HX.out.1.ok HX.out.2.1).mono ?_
    rintro e Y ⟨v, L, rfl, ho, hlen, hL, hb⟩
    obtain ⟨g, c, rfl, hgb, hg, ct, _⟩ := ho.at (e := t) (by rw [hlen]; exact ht1)
    rw [hlen] at ho ⊢
    have hfv : fv L t = L.getD t default := by unfold fv; rw [Int.toNat_natCast]
    obtain ⟨y, hy⟩ : ∃ y, L.getD t default = y := ⟨_, rfl⟩
    rw [hy] at ct hfv
    have qx : Y.cell? ⟨w.heap.size, 0, none⟩ = some (.pointer (some ⟨p, 0, none⟩)) := (blk_cell (blk_below HX.out.2.2.1 hb) 0).trans rfl
    have qt : Y.cell? ⟨w.heap.size + 1, 0, none⟩ = some (.int .i64 t) := (blk_cell (blk_below HX.out.2.2.2.1 hb) 0).trans rfl
    have lx := blk_lt (blk_below HX.out.2.2.1 hb)
    have lt := blk_lt (blk_below HX.out.2.2.2.1 hb)
    have htI : (t : Int) < (n : Int) := by omega
    have HY := Lib.hid (And.intro ho (And.intro hlen (And.intro hL (And.intro hb (And.intro hgb (And.intro hg hfv))))))
    clear ho hlen hL hb hgb hy hfv
    by_cases hneg : y < 0
    · go_wp2_with fail
      rw [Exit.noGoto_ret]
      go_ret
      have hbn := below_alloc (below_self Y) (.cells #[.slice (some ⟨g, 0, none⟩) n c] 68)
      have hbx := below_trans HY.out.2.2.2.1 hbn
      refine ⟨f, rfl, HY.out.2.2.1.best HX.out.1 HN.out.inn (by omega) (by have := HN.out.s1; omega) (by rw [HY.out.2.2.2.2.2.2]; exact hneg), HX.out.2.1.later hbx, HX.out.2.2.2.2.1.later hbx HX.out.2.2.2.2.1.size⟩
    · go_wp2_with fail
      obtain ⟨Z, hZ⟩ : ∃ W' : World, ((Y.alloc (.cells #[.slice (some ⟨g, 0, none⟩) n c] 68)).alloc (.cells #[.func (.func 93) #[] #[.pointer (some ⟨w.heap.size + 1, 0, none⟩), .pointer (some ⟨w.heap.size, 0, none⟩), .pointer (some ⟨Y.heap.size, 0, none⟩), .pointer (some ⟨Y.heap.size + 1, 0, none⟩)]] 93)) = W' := ⟨_, rfl⟩
      have h : Has Z [(Y.heap.size + 1, .cells #[.func (.func 93) #[] #[.pointer (some ⟨w.heap.size + 1, 0, none⟩), .pointer (some ⟨w.heap.size, 0, none⟩), .pointer (some ⟨Y.heap.size, 0, none⟩), .pointer (some ⟨Y.heap.size + 1, 0, none⟩)]] 93 (0, 0)), (Y.heap.size, .cells #[.slice (some ⟨g, 0, none⟩) n c] 68 (0, 0))] := by rw [← hZ]; simpa using (((Has.nil Y).new _).new _)
      have z : Z.heap.size = Y.heap.size + 1 + 1 := by rw [← hZ]; simp
      have b : Below Y.heap.size Y Z := by rw [← hZ]; exact (below_alloc (below_alloc (below_self Y) _) _)
      rw [hZ]
      clear hZ
      have hbx := below_trans HY.out.2.2.2.1 b
      have hXw := HX.out.2.2.2.2.1.size
      have hYX := HY.out.2.2.2.1.size
      have hgb := HY.out.2.2.2.2.1
      have hRw := HR.out
      have hRl : ∀ k, (vt.ownBlock = some k ∨ va.ownBlock = some k ∨ ∃ u, u < n ∧ (rows.getD u (.slice none 0 0)).ownBlock = some k) → k < w.heap.size := by
        rintro k (hk | hk | ⟨u, hu, hk⟩)
        · exact (hRw.to.lt k hk).2
        · exact (hRw.ats.lt k hk).2
        · exact ((hRw.row u hu).lt k hk).2
      have hvl : ∀ k, vl.ownBlock = some k → k < w.heap.size := fun k hk => (hRw.lf.lt k hk).2
      have hpw := blk_lt hRw.blk
      have hS : Snd Z.heap.size B l n p vt vl va rows (w.heap.size + 1) w.heap.size Y.heap.size (Y.heap.size + 1) t (.slice (some ⟨g, 0, none⟩) n c) (leftL l f) L Z := by
        refine ⟨HX.out.2.1.later hbx, ?_, HY.out.2.1, blk_below HX.out.2.2.2.1 hbx, blk_below HX.out.2.2.1 hbx, h.tl.hd, h.hd, ?_, ?_, ?_, ?_⟩
        · exact owns_base (HY.out.1.later b) (by omega)
        · intro k hk
          cases hk
          have hgY := HY.out.2.2.2.2.2.1
          refine ⟨⟨by simp only; omega, fun e => ?_, fun e => ?_, fun u hu e => ?_⟩, fun e => ?_, by simp only; omega, by simp only; omega, by simp only; omega, by simp only; omega, by simp only; omega⟩
          · have := hRl _ (.inl e); simp only at this; omega
          · have := hRl _ (.inr (.inl e)); simp only at this; omega
          · have := hRl _ (.inr (.inr ⟨u, hu, e⟩)); simp only at this; omega
          · have := hvl _ e; simp only at this; omega
        · intro k hk
          have := hvl k hk
          exact ⟨by omega, by omega, by omega, by omega, by omega⟩
        · exact ⟨by omega, by omega, by omega, by omega, by omega⟩
        · intro k hk
          have := hRl k hk
          omega
      have hfs := HY.out.2.2.1.src
      have hft := HY.out.2.2.2.2.2.2
      refine (send_ok Z.heap.size B l n p vt vl va rows (w.heap.size + 1) w.heap.size Y.heap.size (Y.heap.size + 1) t (.slice (some ⟨g, 0, none⟩) n c) (fv L) (HN.out.sc HY.out.2.2.1) ⟨by omega, by omega⟩ n s 12800000000 f L Z HN.out.s1 (by omega) (by omega) (by omega) (by omega) HX.out.1.ok (fun x => .inl rfl) (Nat.le_refl _) hS).mono ?_
      rintro e W ⟨k, f', L', rfl, hSent, hS', hF'⟩
      obtain ⟨hm1, hm2⟩ := hSent.more HX.out.1 (by omega)
      have hk := HY.out.2.2.1.moves (by omega) (by omega) (by omega) hSent
      have hle := HN.out.le hm1
      have hnn := HX.out.2.2.2.2.2
      have hw : IntKind.i64.wrap (net l f s + k) = net l f' s := by rw [IntWalk.i64_in _ (by omega), hm2]
      have HW := Lib.hid (show Flw n l s t f' ∧ Rst B l n p vt vl va rows (leftL l f') W ∧ W.heap[w.heap.size]? = some (.cells #[.pointer (some ⟨p, 0, none⟩)] 91 (0, 0)) ∧ W.heap[w.heap.size + 1]? = some (.cells #[.int .i64 t] 3 (0, 0)) ∧ Frm w.heap.size vl.ownBlock none w W ∧ 0 ≤ net l f' s from
        ⟨hm1, hS'.rst, hS'.xb, hS'.tb, (HX.out.2.2.2.2.1.later hbx hXw).trans ((hF'.mono (by omega)).drop fun q hq => by cases hq; simp only; omega), by omega⟩)
      have Hm := Lib.hid (And.intro hm2 (And.intro hk hle))
      clear hS hSent hS' hF' hm1 hm2 hk hle hnn h z b
      go_wp2_with fail
      go_roundw
      case rel => exact ⟨f', _, rfl, rfl, HW⟩
      case measure =>
        have h1 := Hm.out
        simp only [intOf]
        omega
end Go.Proofs.YthlefdbhkbpejaaGreat.F5
