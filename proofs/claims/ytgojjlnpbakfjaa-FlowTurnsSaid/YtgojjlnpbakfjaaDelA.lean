/- Chapter 05: slices.Delete of one arc. -/
import Derived.Test.YtgojjlnpbakfjaaArs
import Derived.ArgAppend
import Derived.Lib.SliceRun
namespace Go.Proofs.Ytgojjlnpbakfjaa
open Go Go.RowKit
set_option linter.unusedSimpArgs false

section
variable {P : Program}
/-- append to a row that is known whole, in its room. -/
theorem run_append_room3 (w : World) (t ty e : TypeId) (i : TypeInfo) (ht : P.underlying t = some (.slice e)) (hi : P.info? e = some i) (k : Nat) (hs : i.size = k) (g sLen sCap : Nat) (cur : List Value) (tt : TypeId) (hg : w.heap[g]? = some (.cells cur.toArray tt (0, 0))) (ad : Addr) (m c : Nat) (news : List Value) (hl : news.length = m * k) (hnews : ∀ j u, news[j]? = some u → w.cell? (ad.add j) = some u) (h1 : ∀ u ∈ news, u.oneCell' = true)
    (hroom : sLen + m ≤ sCap) (hfit : sLen * k + news.length ≤ cur.length) :
    ∃ w', (Builtin.append_ #[t, t] ty #[.slice (some ⟨g, 0, none⟩) sLen sCap, .slice (some ad) m c]).run P w = .ok (.slice (some ⟨g, 0, none⟩) (sLen + m) sCap) w' ∧ w'.heap[g]? = some (.cells (splice cur (sLen * k) news).toArray tt (0, 0)) ∧ ButRow g w w' := by
  subst hs
  have hfc := run_firstCells_some (P := P) w i.size m ad m c news hl hnews
  have hst := run_storeCells_at P g (sLen * i.size) tt news 0 cur.toArray w hg (by simpa using hfit) h1
  refine ⟨w.setRow g (splice cur (sLen * i.size) news).toArray, ?_, setRow_heap w g _ _ tt _ hg, ButRow.setRow g w _⟩
  simp [Builtin.append_, run_underlying ht, sizeOf, typeInfo, hi, Builtin.lenOf, hroom, hfc, Addr.add_lit, hst, splice]
theorem step_append_room3 {w : World} {ops : Array Oper} {o : Oper} {a : Act} {K : Act → World → Prop} {Q : Exit → Act → World → Prop} {E : Prop} (hgd : o.guard = none) (s x : Operand) (t : TypeId)
    (ho : o.op = .call { callee := .builtin .append, args := #[s, x], argTypes := #[t, t] })
    (e : TypeId) (i : TypeInfo) (ht : P.underlying t = some (.slice e)) (hi : P.info? e = some i) (k : Nat) (hsz : i.size = k) (g sLen sCap : Nat) (hs : a.eval s = .slice (some ⟨g, 0, none⟩) sLen sCap) (cur : List Value) (tt : TypeId) (hg : w.heap[g]? = some (.cells cur.toArray tt (0, 0))) (ad : Addr) (m c : Nat) (hx : a.eval x = .slice (some ad) m c) (news : List Value) (hl : news.length = m * k) (hnews : ∀ j u, news[j]? = some u → w.cell? (ad.add j) = some u) (h1 : ∀ u ∈ news, u.oneCell' = true)
    (hroom : sLen + m ≤ sCap) (hfit : sLen * k + news.length ≤ cur.length)
    (h : ∀ w', Hid (w'.heap[g]? = some (.cells (splice cur (sLen * k) news).toArray tt (0, 0))) → Hid (ButRow g w w') → K (a.put o.dst (.slice (some ⟨g, 0, none⟩) (sLen + m) sCap)) w') :
    if Region.wanted o (yielded ops a.tmps) = true then Oper.wp P o a w K Q else E := by
  have hw : Region.wanted o (yielded ops a.tmps) = true := by simp [Region.wanted, hgd]
  rw [if_pos hw]
  obtain ⟨w', hr, h2, h3⟩ := run_append_room3 (P := P) w t o.type e i ht hi k hsz g sLen sCap cur tt hg ad m c news hl hnews h1 hroom hfit
  unfold Oper.wp execOp
  simp only [ho, resolve, invoke, builtin, Sem.run_bind, Sem.run_pure, Result.andThen_ok, List.map_toArray, List.map_cons, List.map_nil, hs, hx, hr]
  exact h w' h2 h3
end
theorem zeroArc (w : World) : (zeroValue 32).run Try.prog w = .ok (.agg #[.int .i64 0, .int .i64 0, .int .i64 0]) w := by
  obtain ⟨i0, hi, hz0, hz1, hz2⟩ := info_parts infoA
  simp [zeroValue, typeInfo, hi, hz0]
theorem run_clear1 (w : World) (ty : TypeId) (g o c : Nat) (cur : List Value) (tt : TypeId) (hg : w.heap[g]? = some (.cells cur.toArray tt (0, 0))) (hfit : o + 3 ≤ cur.length) :
    ∃ w', (Builtin.clear_ #[22] ty #[.slice (some ⟨g, o, none⟩) 1 c]).run Try.prog w = .ok (.tuple #[]) w' ∧ w'.heap[g]? = some (.cells (splice cur o [.int .i64 0, .int .i64 0, .int .i64 0]).toArray tt (0, 0)) ∧ ButRow g w w' := by
  have hzc : (Builtin.zeroCells (Value.agg #[.int .i64 0, .int .i64 0, .int .i64 0]).cells 1).toList = [.int .i64 0, .int .i64 0, .int .i64 0] := by kernel_rfl
  have hst := run_storeCells_at Try.prog g o tt [.int .i64 0, .int .i64 0, .int .i64 0] 0 cur.toArray w hg (by simpa using hfit) (by simp [Value.oneCell'])
  refine ⟨w.setRow g (splice cur o [.int .i64 0, .int .i64 0, .int .i64 0]).toArray, ?_, setRow_heap w g _ _ tt _ hg, ButRow.setRow g w _⟩
  simp [Builtin.clear_, run_underlying Try.underlying22, zeroArc, hzc, hst, splice]
theorem wpList_clear1 {ops : Array Oper} {rest : List Oper} {o : Oper} {a : Act} {w : World} {Q : Exit → Act → World → Prop} (hgd : o.guard = none) (x : Operand)
    (ho : o.op = .call { callee := .builtin .clear, args := #[x], argTypes := #[22] }) (g of c : Nat) (hx : a.eval x = .slice (some ⟨g, of, none⟩) 1 c) (cur : List Value) (tt : TypeId) (hg : w.heap[g]? = some (.cells cur.toArray tt (0, 0))) (hfit : of + 3 ≤ cur.length)
    (h : ∀ w', Hid (w'.heap[g]? = some (.cells (splice cur of [.int .i64 0, .int .i64 0, .int .i64 0]).toArray tt (0, 0))) → Hid (ButRow g w w') → wpList Try.prog ops Q rest (a.put o.dst (.tuple #[])) w') : wpList Try.prog ops Q (o :: rest) a w :=
  wpList_plain hgd fun _ hK => by
    obtain ⟨w', hr, h2, h3⟩ := run_clear1 w o.type g of c cur tt hg hfit
    unfold Oper.wp execOp
    simp only [ho, resolve, invoke, builtin, Sem.run_bind, Sem.run_pure, Result.andThen_ok, List.map_toArray, List.map_cons, List.map_nil, hx, hr]
    exact hK _ _ (h w' h2 h3)
theorem OwnA.blk {base : Nat} {w : World} {a : Option Addr} {m c : Nat} {l : List Ar} (h : OwnA base w a m c l) (hm : 0 < m) : ∃ g cur, a = some ⟨g, 0, none⟩ ∧ base ≤ g ∧ w.heap[g]? = some (.cells (List.toArray cur) 32 (0, 0)) ∧ cur.length = c * 3 ∧ cur.take (m * 3) = flatA l ∧ m ≤ c ∧ c ≤ maxLen := by
  rcases h.1.2 with ⟨_, h0⟩ | ⟨g, cap, cur, hv, hb, hg, h1, h2, h3, h4⟩
  · omega
  · injection hv with e1 _ e3
    subst e3
    exact ⟨g, cur.toList, e1, hb, by simpa using hg, by simpa using h3, h4, h1, h2⟩
theorem ButRow.drew {g : Nat} {w w' : World} (h : ButRow g w.drew w') : ButRow g w w' := ⟨h.os, h.tape, h.output, h.size, h.block⟩
theorem own_of_cur {base g m c : Nat} {w : World} {l : List Ar} {cur : List Value} (hb : base ≤ g) (hg : w.heap[g]? = some (.cells cur.toArray 32 (0, 0))) (hc : cur.length = c * 3) (hm : m ≤ c) (hx : c ≤ maxLen) (hl : l.length = m) (ht : cur.take (m * 3) = flatA l) : OwnA base w (some ⟨g, 0, none⟩) m c l :=
  ⟨⟨by rw [flatA_len, hl], .inr ⟨g, c, cur.toArray, rfl, hb, hg, hm, hx, by simpa using hc, by simpa using ht⟩⟩, hl, fun h => by cases h⟩

set_option maxRecDepth 100000 in
set_option maxHeartbeats 4000000 in
theorem deleteA_ok (base g k c : Nat) (l : List Ar) (i : Nat) (w : World) (ho : OwnA base w (some ⟨g, 0, none⟩) k c l) (hi : i < k) :
    Calls Try.prog 30 #[.slice (some ⟨g, 0, none⟩) k c, .int .i64 i, .int .i64 ((i : Int) + 1)] w fun e W' => e = .returned (.slice (some ⟨g, 0, none⟩) (k - 1) c) ∧ OwnA base W' (some ⟨g, 0, none⟩) (k - 1) c (l.eraseIdx i) ∧ ButRow g w W' := by
  obtain ⟨g', cur, he, hbg, hg, hcur, htk, hkc, hcm⟩ := ho.blk (by omega)
  injection he with he
  injection he with he
  subst he
  have hlen := ho.len.1
  have HO := Lib.hid (And.intro hbg (And.intro hg (And.intro hcur (And.intro htk (And.intro hlen hcm)))))
  unfold maxLen at hcm
  obtain ⟨jj, hjj⟩ : ∃ jj, i + 1 = jj := ⟨_, rfl⟩
  have hjI : (i : Int) + 1 = (jj : Int) := by omega
  rw [hjI]
  have hij : (i : Int) ≤ (jj : Int) := by omega
  have hjk : (jj : Int) ≤ (k : Int) := by omega
  have hkcI : (k : Int) ≤ (c : Int) := by omega
  have hne : ¬ (i : Int) = (jj : Int) := by omega
  have hneb : ((i : Int) == (jj : Int)) = false := beq_eq_false_iff_ne.2 hne
  have hi0 : (0 : Int) ≤ (i : Int) := by omega
  have hik : (i : Int) ≤ (c : Int) := by omega
  have hjc : (jj : Int) ≤ (c : Int) := by omega
  have HJ := Lib.hid hjj
  clear ho hbg hg hcur htk hlen hjj hjI
  go_enter Try.func30, Try.ntmps30
  go_upto_region 5 with fail
  obtain ⟨m, hm⟩ : ∃ m, k - jj = m := ⟨_, rfl⟩
  obtain ⟨k1, hk1⟩ : ∃ k1, i + m = k1 := ⟨_, rfl⟩
  have hk2 : k - k1 = 1 := by have := HJ.out; omega
  have hkk : k1 + 1 = k := by have := HJ.out; omega
  have hroom : i + m ≤ c := by omega
  have hl : (flatA (l.drop jj)).length = m * 3 := by rw [flatA_len, List.length_drop, HO.out.2.2.2.2.1, hm]
  have hfit : i * 3 + (flatA (l.drop jj)).length ≤ cur.length := by rw [hl, HO.out.2.2.1]; omega
  have hgd : w.drew.heap[g]? = some (.cells cur.toArray 32 (0, 0)) := HO.out.2.1
  have hcur : cur.take (k * 3) = flatA l := HO.out.2.2.2.1
  have hsrc : ∀ x u, (flatA (l.drop jj))[x]? = some u → w.drew.cell? ((⟨g, jj * 3, none⟩ : Addr).add x) = some u := by
    intro x u hx
    have hxl := (List.getElem?_eq_some_iff.1 hx).1
    have hsp : flatA l = flatA (l.take jj) ++ flatA (l.drop jj) := by rw [← flatA_app, List.take_append_drop]
    have hfl : (flatA (l.take jj)).length = jj * 3 := by rw [flatA_len, List.length_take, HO.out.2.2.2.2.1]; omega
    have h1 : (flatA l)[jj * 3 + x]? = some u := by
      rw [hsp, List.getElem?_append_right (by omega), hfl, show jj * 3 + x - jj * 3 = x by omega]
      exact hx
    rw [← hcur, List.getElem?_take] at h1
    rw [Addr.add_mid, blk_cell hgd, List.getElem?_toArray]
    split at h1
    · exact h1
    · cases h1
  have hone := flatA_one (l.drop jj)
  -- the cells behind the append: the rows are those of the shorter list
  have htk1 : (splice cur (i * 3) (flatA (l.drop jj))).take (k1 * 3) = flatA (l.eraseIdx i) := by
    have e : l.eraseIdx i = l.take i ++ l.drop jj := by rw [← HJ.out]; exact List.eraseIdx_eq_take_drop_succ l i
    have h1 : cur.take (i * 3) = flatA (l.take i) := by
      have hfl : (flatA (l.take i)).length = i * 3 := by rw [flatA_len, List.length_take, HO.out.2.2.2.2.1]; omega
      have hsp : flatA l = flatA (l.take i) ++ flatA (l.drop i) := by rw [← flatA_app, List.take_append_drop]
      rw [hsp] at hcur
      have := congrArg (fun z => List.take (i * 3) z) hcur
      simp only [List.take_take] at this
      rw [Nat.min_eq_left (show i * 3 ≤ k * 3 by omega), List.take_append_of_le_length (l₁ := flatA (l.take i)) (by omega), List.take_of_length_le (l := flatA (l.take i)) (by omega)] at this
      exact this
    rw [e, flatA_app, ← h1]
    have hlt : (cur.take (i * 3)).length = i * 3 := by rw [List.length_take, HO.out.2.2.1]; omega
    have hsp : splice cur (i * 3) (flatA (l.drop jj)) = (cur.take (i * 3) ++ flatA (l.drop jj)) ++ cur.drop (i * 3 + (flatA (l.drop jj)).length) := by unfold splice; rw [List.append_assoc]
    rw [hsp]
    exact List.take_left' (by rw [List.length_append, hlt, hl]; omega)
  have hl1 : (splice cur (i * 3) (flatA (l.drop jj))).length = c * 3 := by rw [length_splice _ _ _ hfit]; exact HO.out.2.2.1
  obtain ⟨i0, hi0', hz0, hz1, hz2⟩ := info_parts infoA
  have HH := Lib.hid (And.intro hl (And.intro hfit (And.intro hgd (And.intro hsrc (And.intro hone (And.intro htk1 hl1))))))
  have HK := Lib.hid (show l.length = k ∧ k1 + 1 = k ∧ i < k by exact ⟨HO.out.2.2.2.2.1, hkk, hi⟩)
  clear hl hfit hgd hcur hsrc hone htk1 hl1
  have hk1I : (k1 : Int) ≤ (k : Int) := by omega
  have hk1c : (k1 : Int) ≤ (c : Int) := by omega
  have hk10 : (0 : Int) ≤ (k1 : Int) := by omega
  have hck1 : ¬ c - k1 = 0 := by omega
  have hkk2 : k = k1 + 1 := hkk.symm
  clear hkk hkk2
  by_cases hcj : c = jj
  · subst hcj
    have hm0 : (flatA (l.drop c)) = [] := List.eq_nil_of_length_eq_zero (by rw [HH.out.1]; omega)
    have hsrc0 : ∀ x u, (flatA (l.drop c))[x]? = some u → w.drew.cell? ((⟨g, 0, none⟩ : Addr).add x) = some u := by rw [hm0]; intro x u hx; simp at hx
    have HS0 := Lib.hid hsrc0
    clear hm0 hsrc0
    go_region_held3 (fun _ => True) (trivial)
      (first
        | (refine step_append_room3 (by rfl) (.tmp 22) (.tmp 25) 22 (by rfl) 32 i0 Try.underlying22 hi0' 3 hz1 g i c (by rfl) cur 32 HH.out.2.2.1 ⟨g, 0, none⟩ m 0 (by rfl) (flatA (l.drop c)) HH.out.1 HS0.out HH.out.2.2.2.2.1 hroom HH.out.2.1 ?_; intro W1 hrow1 hbut1)
        | fail)
    go_wp2_with (with_reducible refine wpList_clear1 rfl _ rfl g (k1 * 3) (c - k1) rfl _ 32 hrow1.out ?xb1 ?_)
    case xb1 => rw [HH.out.2.2.2.2.2.2]; have := HK.out; omega
    intro W2 hrow2 hbut2
    have HF := Lib.hid (show OwnA base W2 (some ⟨g, 0, none⟩) k1 c (l.eraseIdx i) ∧ ButRow g w W2 by
      refine ⟨own_of_cur HO.out.1 hrow2.out ?_ (by omega) HO.out.2.2.2.2.2 ?_ ?_, (hbut1.out.drew).trans hbut2.out⟩
      · rw [length_splice _ _ _ (by rw [HH.out.2.2.2.2.2.2]; have := HK.out; simp only [List.length_cons, List.length_nil]; omega)]
        exact HH.out.2.2.2.2.2.2
      · rw [List.length_eraseIdx, if_pos (by rw [HK.out.1]; exact HK.out.2.2), HK.out.1]
        have := HK.out.2.1
        omega
      · rw [← HH.out.2.2.2.2.2.1]
        unfold splice
        rw [List.take_append_of_le_length (by rw [List.length_take]; have := HH.out.2.2.2.2.2.2; unfold splice at this; rw [this]; omega), List.take_take, Nat.min_self])
    clear hrow1 hbut1 hrow2 hbut2 HH
    go_wp2_with fail
    go_ret
    exact ⟨by rw [show k - 1 = k1 by have := HK.out.2.1; omega]; rfl, by rw [show k - 1 = k1 by have := HK.out.2.1; omega]; exact HF.out.1, HF.out.2⟩
  · go_region_held3 (fun _ => True) (trivial)
      ((refine step_append_room3 (by rfl) (.tmp 22) (.tmp 25) 22 (by rfl) 32 i0 Try.underlying22 hi0' 3 hz1 g i c (by rfl) cur 32 HH.out.2.2.1 ⟨g, jj * 3, none⟩ m (c - jj) (by rfl) (flatA (l.drop jj)) HH.out.1 HH.out.2.2.2.1 HH.out.2.2.2.2.1 hroom HH.out.2.1 ?_; intro W1 hrow1 hbut1))
    go_wp2_with (with_reducible refine wpList_clear1 rfl _ rfl g (k1 * 3) (c - k1) rfl _ 32 hrow1.out ?yb1 ?_)
    case yb1 => rw [HH.out.2.2.2.2.2.2]; have := HK.out; omega
    intro W2 hrow2 hbut2
    have HF := Lib.hid (show OwnA base W2 (some ⟨g, 0, none⟩) k1 c (l.eraseIdx i) ∧ ButRow g w W2 by
      refine ⟨own_of_cur HO.out.1 hrow2.out ?_ (by omega) HO.out.2.2.2.2.2 ?_ ?_, (hbut1.out.drew).trans hbut2.out⟩
      · rw [length_splice _ _ _ (by rw [HH.out.2.2.2.2.2.2]; have := HK.out; simp only [List.length_cons, List.length_nil]; omega)]
        exact HH.out.2.2.2.2.2.2
      · rw [List.length_eraseIdx, if_pos (by rw [HK.out.1]; exact HK.out.2.2), HK.out.1]
        have := HK.out.2.1
        omega
      · rw [← HH.out.2.2.2.2.2.1]
        unfold splice
        rw [List.take_append_of_le_length (by rw [List.length_take]; have := HH.out.2.2.2.2.2.2; unfold splice at this; rw [this]; omega), List.take_take, Nat.min_self])
    clear hrow1 hbut1 hrow2 hbut2 HH
    go_wp2_with fail
    go_ret
    exact ⟨by rw [show k - 1 = k1 by have := HK.out.2.1; omega]; rfl, by rw [show k - 1 = k1 by have := HK.out.2.1; omega]; exact HF.out.1, HF.out.2⟩
end Go.Proofs.Ytgojjlnpbakfjaa
