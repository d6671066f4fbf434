/- Chapter 25: cut, Send (program and reference). -/
import Derived.Test.YtkfoclibejpbdaaMsg
import Derived.Test.YtkfoclibejpbdaaRow
namespace Go.Proofs.Ytkfoclibejpbdaa
open Go Go.RowKit

def flatMs (ms : List Msg) : List Value := (rowsOf ms).flatten
theorem flatMs_len (ms : List Msg) : (flatMs ms).length = ms.length * 9 := by
  unfold flatMs; rw [flat_length 9 _ (rowsOf_nine ms), rowsOf_len]
theorem flatMs_app (ms ns : List Msg) : flatMs (ms ++ ns) = flatMs ms ++ flatMs ns := by simp [flatMs, rowsOf]
theorem flatMs_one (m : Msg) : flatMs [m] = m.cells := by simp [flatMs, rowsOf]
theorem flatMs_nil : flatMs [] = [] := rfl
theorem flatMs_oneCell (ms : List Msg) : ∀ v ∈ flatMs ms, v.oneCell' = true := by
  intro v hv
  obtain ⟨r, hr, hv⟩ := List.mem_flatten.1 hv
  obtain ⟨m, _, rfl⟩ := List.mem_map.1 hr
  simp only [Msg.cells, List.mem_cons, List.not_mem_nil, or_false] at hv
  rcases hv with rfl | rfl | rfl | rfl | rfl | rfl | rfl | rfl | rfl <;> rfl

/-- The slice v holds just the messages ms, in memory of its own, from block base on. -/
def OwnMs (base : Nat) (w : World) (v : Value) (ms : List Msg) : Prop := w.ownsRow base 34 9 v ms.length (flatMs ms)
theorem OwnMs.later {base : Nat} {w w' : World} {v : Value} {ms : List Msg} (h : OwnMs base w v ms) (hb : Below w.heap.size w w') : OwnMs base w' v ms := owns_later h hb
theorem OwnMs.base {b b' : Nat} {w : World} {v : Value} {ms : List Msg} (h : OwnMs b w v ms) (hb : b' ≤ b) : OwnMs b' w v ms := owns_base h hb
theorem OwnMs.msgs {base : Nat} {w : World} {v : Value} {ms : List Msg} (h : OwnMs base w v ms) : ∃ a cap, v = .slice a ms.length cap ∧ MsgsAt w.heap.size w a ms := by
  obtain ⟨a, cap, hv, hr⟩ := owns_slice (rows := rowsOf ms) (by rw [rowsOf_len]; exact h) (rowsOf_nine ms)
  exact ⟨a, cap, by rw [hv, rowsOf_len], hr⟩
theorem OwnMs.set {base : Nat} {w : World} {v : Value} {ms : List Msg} (h : OwnMs base w v ms) {a : Addr} (hl : a.block < base) (u : Value) : OwnMs base (w.setCell a u) v ms := owns_set h hl u
theorem OwnMs.alloc {base : Nat} {w : World} {v : Value} {ms : List Msg} (h : OwnMs base w v ms) (o : Obj) : OwnMs base (w.alloc o) v ms := World.ownsRow.alloc h o
theorem OwnMs.drew {base : Nat} {w : World} {v : Value} {ms : List Msg} (h : OwnMs base w v ms) : OwnMs base w.drew v ms := h
theorem OwnMs.nil (base : Nat) (w : World) : OwnMs base w (.slice none 0 0) [] := World.ownsRow_nil _ _ _ _

theorem MsgsAt.flat {n : Nat} {w : World} {a : Option Addr} {ms : List Msg} (h : MsgsAt n w a ms) {b off : Nat} (ha : a = some ⟨b, off, none⟩) : ∀ j v, (flatMs ms)[j]? = some v → w.cell? ((⟨b, off, none⟩ : Addr).add j) = some v := by
  intro j v hv
  rw [Addr.add_mid]
  have hj : j < ms.length * 9 := by rw [← flatMs_len]; exact (List.getElem?_eq_some_iff.1 hv).1
  have hi : j / 9 < ms.length := by omega
  have hr : (rowsOf ms)[j / 9]? = some (ms.getD (j / 9) default).cells := by simp [rowsOf, hi]
  obtain ⟨b', off', he, hb, hc⟩ := h (j / 9) _ hr
  rw [ha] at he
  cases he
  have hlt : j % 9 < (ms.getD (j / 9) default).cells.length := by simp only [Msg.cells, List.length_cons, List.length_nil]; omega
  have h2 := flat_get 9 (rowsOf ms) (rowsOf_nine ms) (j / 9) _ hr (j % 9) _ (List.getElem?_eq_getElem hlt)
  rw [show j / 9 * 9 + j % 9 = j by omega] at h2
  have h3 : v = (ms.getD (j / 9) default).cells[j % 9] := by
    have := hv.symm.trans h2
    simpa using this
  have h4 := hc (j % 9) _ (List.getElem?_eq_getElem hlt)
  rw [show off + j / 9 * 9 + j % 9 = off + j by omega] at h4
  rw [h4, h3]

theorem MsgsAt.src {n : Nat} {w : World} {a : Option Addr} {ms : List Msg} (h : MsgsAt n w a ms) (h0 : 0 < (flatMs ms).length) : ∃ ad, a = some ad ∧ ∀ j v, (flatMs ms)[j]? = some v → w.cell? (ad.add j) = some v := by
  rw [flatMs_len] at h0
  obtain ⟨b, off, ha, _, _⟩ := h.at' 0 (by omega)
  exact ⟨_, ha, h.flat ha⟩
theorem MsgsAt.some {n : Nat} {w : World} {a : Option Addr} {ms : List Msg} (h : MsgsAt n w a ms) (h0 : 0 < ms.length) : ∃ b off, a = some ⟨b, off, none⟩ ∧ b < n := by
  obtain ⟨b, off, ha, hb, _⟩ := h.at' 0 h0
  exact ⟨b, off, ha, hb⟩
theorem MsgsAt.take {n : Nat} {w : World} {a : Option Addr} {ms : List Msg} (h : MsgsAt n w a ms) (k : Nat) : MsgsAt n w a (ms.take k) := by
  have := RowsAt.take h k
  unfold MsgsAt rowsOf
  rw [List.map_take]
  exact this

theorem info34 : (Try.prog.info? 34).map (fun i => (i.zero, i.size, i.bytes)) = some (some (.agg #[.int .i64 0, .int .i64 0, .int .i64 0, .int .u8 0, .int .i64 0, .int .i64 0, .int .i64 0, .int .i64 0, .int .u8 0]), 9, 72) := by kernel_rfl

set_option maxHeartbeats 1000000 in
theorem cut_ok (a : Option Addr) (n cap : Nat) (ms : List Msg) (w : World) (hn : ms.length = n) (hl : n ≤ 9223372036854775807) (hcap : n ≤ cap) (hnone : a = none → n = 0 ∧ cap = 0) (hm : MsgsAt w.heap.size w a ms) :
    Calls Try.prog 10 #[.agg #[.slice a n cap]] w fun e W' => ∃ v, e = .returned (.agg #[v]) ∧ OwnMs w.heap.size W' v (ms.take 50) ∧ Below w.heap.size w W' := by
  have Hn := Lib.hid hn; clear hn
  have Hm := Lib.hid hm; clear hm
  cases a with
  | none =>
    obtain ⟨rfl, rfl⟩ := hnone rfl
    clear hnone
    have hms : ms = [] := List.eq_nil_of_length_eq_zero Hn.out
    subst hms
    go_enter Try.func10, Try.ntmps10
    go_wp2_with fail
    refine bodyPost_ret (v := .agg #[.slice none 0 0]) (by simp [results, Try.results10, go_sem]) rfl ⟨_, rfl, OwnMs.nil _ _, ?_⟩
    exact below_alloc (below_alloc (below_self w) _) _
  | some ad =>
    clear hnone
    obtain ⟨i0, hi, hz0, hz1, hz2⟩ := info_parts info34
    have hsrc : ∀ j v, (flatMs (ms.take 50))[j]? = Option.some v → w.cell? (ad.add j) = Option.some v := by
      by_cases h0 : 0 < (ms.take 50).length
      · obtain ⟨b, off, he, _⟩ := (Hm.out.take 50).some h0
        cases he
        exact (Hm.out.take 50).flat rfl
      · have : ms.take 50 = [] := List.eq_nil_of_length_eq_zero (by omega)
        rw [this]
        intro j v hv; simp [flatMs, rowsOf] at hv
    have Hsrc := Lib.hid hsrc; clear hsrc
    have hlt : (ms.take 50).length = min 50 n := by rw [List.length_take, Hn.out]
    have Hlt := Lib.hid hlt; clear hlt
    by_cases h50 : 50 < n
    · go_enter Try.func10, Try.ntmps10
      go_wp2_with (at_builtin; go_must (refine wpList_append_own _ rfl _ _ 22 rfl (w.heap.size + 2) 34 i0 _ 9 72 Try.underlying22 hi hz0 hz1 hz2 rfl (by decide) _ _ _ rfl (World.ownsRow_nil _ _ _ _) ad _ _ (flatMs (ms.take 50)) rfl ?c0 ?c1 ?c2 ?c3 ?c4 ?c5 ?_))
      case c0 => rw [flatMs_len, Hlt.out]; omega
      case c1 =>
        intro j v hv
        have h := Hsrc.out j v hv
        have hb := World.block_lt_of_cell? w _ h
        rw [World.cell?_alloc_lt _ _ _ (by simp; omega), World.cell?_alloc_lt _ _ _ hb]
        exact h
      case c2 => exact flatMs_oneCell _
      case c3 => unfold maxLen; omega
      case c4 => omega
      case c5 => simp
      intro v' w1 hown' hgrow _
      have hb : Below w.heap.size w w1 := (below_alloc (below_alloc (below_self w) _) _).grown hgrow (by simp; omega) (by intro k hk; simp [Value.ownBlock] at hk)
      have c0 : w1.cell? ⟨w.heap.size + 1, 0, none⟩ = Option.some (.slice none 0 0) := by
        have h := grown_blk hgrow (k := w.heap.size + 1) (by simpa using blk_new (w.alloc _) _) (by simp [Value.ownBlock])
        rw [blk_cell h]; rfl
      have f0 : w1.frozen? ⟨w.heap.size + 1, 0, none⟩ = false := by
        have h := grown_blk hgrow (k := w.heap.size + 1) (by simpa using blk_new (w.alloc _) _) (by simp [Value.ownBlock])
        exact blk_frozen h 0
      have hown2 : OwnMs (w.heap.size + 2) w1 v' (ms.take 50) := by
        unfold OwnMs; rw [Hlt.out]
        rw [show min 50 n = 50 by omega]; exact hown'
      obtain ⟨a', cap', rfl, _⟩ := owns_shape hown'
      have HO := Lib.hid (And.intro hown2 hb)
      clear hown' hown2 hgrow hb hi hz0 hz1 hz2
      go_wp2
      refine bodyPost_ret (v := .agg #[.slice a' 50 cap']) (by simp [results, Try.results10, go_sem, c0]) rfl ⟨_, rfl, ?_, ?_⟩
      · exact (HO.out.1.set (a := ⟨w.heap.size + 1, 0, Option.none⟩) (by simp) _).base (by omega)
      · exact HO.out.2.setCell (by simp) _
    · go_enter Try.func10, Try.ntmps10
      go_wp2_with (at_builtin; go_must (refine wpList_append_own _ rfl _ _ 22 rfl (w.heap.size + 2) 34 i0 _ 9 72 Try.underlying22 hi hz0 hz1 hz2 rfl (by decide) _ _ _ rfl (World.ownsRow_nil _ _ _ _) ad _ _ (flatMs (ms.take 50)) rfl ?c0 ?c1 ?c2 ?c3 ?c4 ?c5 ?_))
      case c0 => rw [flatMs_len, Hlt.out]; omega
      case c1 =>
        intro j v hv
        have h := Hsrc.out j v hv
        have hb := World.block_lt_of_cell? w _ h
        rw [World.cell?_alloc_lt _ _ _ (by simp; omega), World.cell?_alloc_lt _ _ _ hb]
        exact h
      case c2 => exact flatMs_oneCell _
      case c3 => unfold maxLen; omega
      case c4 => omega
      case c5 => simp
      intro v' w1 hown' hgrow _
      have hb : Below w.heap.size w w1 := (below_alloc (below_alloc (below_self w) _) _).grown hgrow (by simp; omega) (by intro k hk; simp [Value.ownBlock] at hk)
      have c0 : w1.cell? ⟨w.heap.size + 1, 0, none⟩ = Option.some (.slice none 0 0) := by
        have h := grown_blk hgrow (k := w.heap.size + 1) (by simpa using blk_new (w.alloc _) _) (by simp [Value.ownBlock])
        rw [blk_cell h]; rfl
      have f0 : w1.frozen? ⟨w.heap.size + 1, 0, none⟩ = false := by
        have h := grown_blk hgrow (k := w.heap.size + 1) (by simpa using blk_new (w.alloc _) _) (by simp [Value.ownBlock])
        exact blk_frozen h 0
      have hown2 : OwnMs (w.heap.size + 2) w1 v' (ms.take 50) := by
        unfold OwnMs; rw [Hlt.out]
        rw [show min 50 n = n by omega]; exact hown'
      obtain ⟨a', cap', rfl, _⟩ := owns_shape hown'
      have HO := Lib.hid (And.intro hown2 hb)
      clear hown' hown2 hgrow hb hi hz0 hz1 hz2
      go_wp2
      refine bodyPost_ret (v := .agg #[.slice a' n cap']) (by simp [results, Try.results10, go_sem, c0]) rfl ⟨_, rfl, ?_, ?_⟩
      · exact (HO.out.1.set (a := ⟨w.heap.size + 1, 0, Option.none⟩) (by simp) _).base (by omega)
      · exact HO.out.2.setCell (by simp) _

def sendE (ms : List Msg) : Int := if 40 ≤ ms.length then 9 else 0
def sendL (ms : List Msg) (m : Msg) : List Msg := if 40 ≤ ms.length then [] else ms ++ [m]

theorem splice_all {α : Type} (cur xs ys : List α) (h : cur.length = xs.length + ys.length) : splice (splice cur 0 xs) xs.length ys = xs ++ ys := by
  unfold splice
  simp only [List.take_zero, List.nil_append, Nat.zero_add]
  rw [List.take_left, List.drop_of_length_le (by simp; omega)]
  simp

set_option maxHeartbeats 1000000 in
theorem send_ok (a : Option Addr) (n cap : Nat) (ms : List Msg) (m : Msg) (w : World) (hn : ms.length = n) (hl : n ≤ 9223372036854775807) (hm : MsgsAt w.heap.size w a ms) :
    Calls Try.prog 20 #[.agg #[.slice a n cap], m.val] w fun e W' => ∃ v, e = .returned (.tuple #[.agg #[v], .int .i64 (sendE ms)]) ∧ OwnMs w.heap.size W' v (sendL ms m) ∧ Below w.heap.size w W' := by
  have Hn := Lib.hid hn
  have Hm := Lib.hid hm; clear hm
  by_cases h40 : 40 ≤ n
  · have e1 : sendE ms = 9 := by unfold sendE; rw [if_pos (by omega)]
    have e2 : sendL ms m = [] := by unfold sendL; rw [if_pos (by omega)]
    rw [e1, e2]
    clear e1 e2 hn
    go_enter Try.func20, Try.ntmps20
    go_wp2_with fail
    refine bodyPost_ret (v := .tuple #[.agg #[.slice none 0 0], .int .i64 9]) (by simp [results, Try.results20, go_sem]) rfl ⟨_, rfl, OwnMs.nil _ _, ?_⟩
    exact below_alloc (below_alloc (below_alloc (below_self w) _) _) _
  · have e1 : sendE ms = 0 := by unfold sendE; rw [if_neg (by omega)]
    have e2 : sendL ms m = ms ++ [m] := by unfold sendL; rw [if_neg (by omega)]
    rw [e1, e2]
    clear e1 e2 hn
    obtain ⟨i0, hi, hz0, hz1, hz2⟩ := info_parts info34
    go_enter Try.func20, Try.ntmps20
    go_wp2_with (with_reducible refine wpList_make_row rfl 22 _ _ rfl 34 i0 _ 9 72 Try.underlying22 hi hz0 hz1 hz2 (n + 1) _ rfl rfl ?a2 ?a3 ?a4 ?_)
    case a2 => omega
    case a3 => omega
    case a4 => omega
    obtain ⟨W3, hW3⟩ : ∃ W3, ((w.alloc (.cells #[.slice a n cap] 24)).alloc (.cells m.cells.toArray 34)).alloc (.cells #[.slice none 0 0] 24) = W3 := ⟨_, rfl⟩
    have h3 : Has W3 [(w.heap.size + 1 + 1, .cells #[.slice none 0 0] 24 (0, 0)), (w.heap.size + 1, .cells m.cells.toArray 34 (0, 0)), (w.heap.size, .cells #[.slice a n cap] 24 (0, 0))] := by
      rw [← hW3]; simpa using (((Has.nil w).new _).new _).new _
    have h3s : W3.heap.size = w.heap.size + 1 + 1 + 1 := by rw [← hW3]; simp
    have h3w : Below w.heap.size w W3 := by rw [← hW3]; exact below_alloc (below_alloc (below_alloc (below_self w) _) _) _
    rw [hW3, ← h3s]
    clear hW3
    intro W4 h4 hb4 hs4
    obtain ⟨cur, hcur, hrow⟩ : ∃ cur : List Value, cur.length = (n + 1) * 9 ∧ W4.heap[W3.heap.size]? = some (.cells cur.toArray 34 (0, 0)) := ⟨_, made_length _ _, h4.out⟩
    have h4w := below_trans h3w hb4
    have h4h := h3.below hb4
    have c0 := blk_cell h4h.tl.tl.hd 0
    simp at c0
    have H4 := Lib.hid (And.intro hrow (And.intro h4w (And.intro h4h (And.intro hcur (And.intro h3s hs4)))))
    generalize hg : W3.heap.size = g at *
    have Hg := Lib.hid hg
    clear h4 hb4 hs4 hrow h4w h4h hcur h3s h3w h3 hg hi hz0 hz1 hz2
    go_wp2_with (with_reducible refine wpList_copy_k rfl _ _ _ _ rfl 34 9 Try.underlying22 (by kernel_rfl) _ _ _ _ _ _ rfl rfl g 0 cur 34 H4.out.1 (flatMs ms) (by decide) ?b1 ?b2 ?b3 ?b4 ?_)
    case b1 => rw [flatMs_len, Hn.out]; have : n.min (n + 1) = n := Nat.min_eq_left (by omega); rw [this]
    case b2 => exact fun h0 => (Hm.out.below H4.out.2.1).src h0
    case b3 => rw [flatMs_len, Hn.out, H4.out.2.2.2.1]; omega
    case b4 => exact flatMs_oneCell ms
    intro W5 hr5 hb5
    have hgw := H4.out.2.2.2.2.1
    have h5h := hb5.has H4.out.2.2.1 (by simp; omega)
    have h5w := hb5.below H4.out.2.1 (by omega)
    have m0 := blk_cell h5h.tl.hd 0
    have m1 := blk_cell h5h.tl.hd 1
    have m2 := blk_cell h5h.tl.hd 2
    have m3 := blk_cell h5h.tl.hd 3
    have m4 := blk_cell h5h.tl.hd 4
    have m5 := blk_cell h5h.tl.hd 5
    have m6 := blk_cell h5h.tl.hd 6
    have m7 := blk_cell h5h.tl.hd 7
    have m8 := blk_cell h5h.tl.hd 8
    simp at m0 m1 m2 m3 m4 m5 m6 m7 m8
    have H5 := Lib.hid (And.intro hr5.out (And.intro h5w (And.intro h5h (And.intro H4.out.2.2.2.1 hgw))))
    clear hr5 hb5 h5h h5w hgw c0 H4
    go_wp2_with (with_reducible refine wpList_store_row rfl 34 _ _ rfl g (n * 9) m.cells rfl rfl _ 34 H5.out.1 (by kernel_rfl) ?b1 ?b2 ?_)
    case b1 =>
      have h := H5.out.2.2.2.1
      rw [length_splice _ _ _ (by rw [flatMs_len, Hn.out]; omega), h]
      simp only [Msg.cells, List.length_cons, List.length_nil]; omega
    case b2 => exact fun v hv => flatMs_oneCell [m] v (by rw [flatMs_one]; exact hv)
    intro W6 hr6 hb6
    have hr6' := hr6.out
    rw [show n * 9 = (flatMs ms).length by rw [flatMs_len, Hn.out], splice_all cur _ _ (by rw [flatMs_len, Hn.out, H5.out.2.2.2.1]; simp only [Msg.cells, List.length_cons, List.length_nil]; omega), ← flatMs_one, ← flatMs_app] at hr6'
    have hgw := H5.out.2.2.2.2
    have h6h := hb6.has H5.out.2.2.1 (by simp; omega)
    have h6w := hb6.below H5.out.2.1 (by omega)
    have c0 := blk_cell h6h.hd 0
    have f0 := blk_frozen h6h.hd 0
    simp at c0
    have H6 := Lib.hid (And.intro hr6' (And.intro h6w hgw))
    clear hr6 hb6 h6h h6w hgw hr6' m0 m1 m2 m3 m4 m5 m6 m7 m8 H5
    go_wp2
    refine bodyPost_ret (v := .tuple #[.agg #[.slice (some ⟨g, 0, none⟩) (n + 1) (n + 1)], .int .i64 0]) (by simp [results, Try.results20, go_sem, c0]) rfl ⟨_, rfl, ?_, ?_⟩
    · have hgw := H6.out.2.2
      refine (OwnMs.set (base := g) ?_ (by simp; omega) _).base (by omega)
      unfold OwnMs
      rw [List.length_append, Hn.out]
      exact owns_of_blk H6.out.1 (Nat.le_refl _) (by rw [flatMs_len, List.length_append, Hn.out]; rfl) (by unfold maxLen; omega)
    · exact H6.out.2.1.setCell (by simp; omega) _

set_option maxHeartbeats 1000000 in
theorem send_ref (a : Option Addr) (n cap : Nat) (ms : List Msg) (m : Msg) (w : World) (hn : ms.length = n) (hl : n ≤ 9223372036854775807) (hnone : a = none → n = 0 ∧ cap = 0) (hm : MsgsAt w.heap.size w a ms) :
    Calls Try.prog 21 #[.agg #[.slice a n cap], m.val] w fun e W' => ∃ v, e = .returned (.tuple #[.agg #[v], .int .i64 (sendE ms)]) ∧ OwnMs w.heap.size W' v (sendL ms m) ∧ Below w.heap.size w W' := by
  have Hn := Lib.hid hn
  have Hm := Lib.hid hm; clear hm
  by_cases h40 : 40 ≤ n
  · have e1 : sendE ms = 9 := by unfold sendE; rw [if_pos (by omega)]
    have e2 : sendL ms m = [] := by unfold sendL; rw [if_pos (by omega)]
    rw [e1, e2]
    clear e1 e2 hn hnone
    go_enter Try.func21, Try.ntmps21
    go_wp2_with fail
    refine bodyPost_ret (v := .tuple #[.agg #[.slice none 0 0], .int .i64 9]) (by simp [results, Try.results21, go_sem]) rfl ⟨_, rfl, OwnMs.nil _ _, ?_⟩
    exact below_alloc (below_alloc (below_alloc (below_self w) _) _) _
  · have e1 : sendE ms = 0 := by unfold sendE; rw [if_neg (by omega)]
    have e2 : sendL ms m = ms ++ [m] := by unfold sendL; rw [if_neg (by omega)]
    rw [e1, e2]
    clear e1 e2 hn
    obtain ⟨i0, hi, hz0, hz1, hz2⟩ := info_parts info34
    have tok : True := trivial
    go_enter Try.func21, Try.ntmps21
    go_wp2_with (at_builtin; have _t := tok; go_must (refine wpList_append_any rfl _ _ 22 rfl (w.heap.size + 1 + 1 + 1) 34 i0 _ 9 72 Try.underlying22 hi hz0 hz1 hz2 rfl (by decide) _ _ _ rfl (World.ownsRow_nil _ _ _ _) _ _ _ (flatMs ms) rfl ?c0 ?c1 ?c2 ?c3 ?c4 ?c5 ?c6 ?_); clear tok)
    case c0 => exact hnone
    case c1 => rw [flatMs_len, Hn.out]
    case c2 =>
      intro h0
      obtain ⟨ad, ha, h⟩ := Hm.out.src (by rw [flatMs_len, Hn.out]; omega)
      refine ⟨ad, ha, fun j u hu => ?_⟩
      have h := h j u hu
      have hb := World.block_lt_of_cell? w _ h
      rw [World.cell?_alloc_lt _ _ _ (by simp; omega), World.cell?_alloc_lt _ _ _ (by simp; omega), World.cell?_alloc_lt _ _ _ hb]
      exact h
    case c3 => exact flatMs_oneCell _
    case c4 => unfold maxLen; omega
    case c5 => omega
    case c6 => simp
    intro a1 cap1 W1 hown1 hgrow1
    have h3 : Has (((w.alloc (.cells #[.slice a n cap] 24)).alloc (.cells m.cells.toArray 34)).alloc (.cells #[.slice none 0 0] 24))
        [(w.heap.size + 1 + 1, .cells #[.slice none 0 0] 24 (0, 0)), (w.heap.size + 1, .cells m.cells.toArray 34 (0, 0)), (w.heap.size, .cells #[.slice a n cap] 24 (0, 0))] := by
      simpa using (((Has.nil w).new _).new _).new _
    have h1 := h3.grown hgrow1.out (by simp [Value.ownBlock])
    have h1w : Below w.heap.size w W1 := (below_alloc (below_alloc (below_alloc (below_self w) _) _) _).grown hgrow1.out (by simp; omega) (by simp [Value.ownBlock])
    have hs1 : w.heap.size + 1 + 1 + 1 ≤ W1.heap.size := by have := hgrow1.out.size; simp at this; omega
    have m0 := blk_cell h1.tl.hd 0
    have m1 := blk_cell h1.tl.hd 1
    have m2 := blk_cell h1.tl.hd 2
    have m3 := blk_cell h1.tl.hd 3
    have m4 := blk_cell h1.tl.hd 4
    have m5 := blk_cell h1.tl.hd 5
    have m6 := blk_cell h1.tl.hd 6
    have m7 := blk_cell h1.tl.hd 7
    have m8 := blk_cell h1.tl.hd 8
    simp at m0 m1 m2 m3 m4 m5 m6 m7 m8
    have H1 := Lib.hid (And.intro h1 (And.intro h1w hown1.out))
    clear h3 h1 h1w hgrow1 hown1 hnone
    go_wp2_with (at_builtin; go_must (refine wpList_append_any rfl _ _ 22 rfl (w.heap.size + 1 + 1 + 1) 34 i0 _ 9 72 Try.underlying22 hi hz0 hz1 hz2 rfl (by decide) _ _ _ rfl (H1.out.2.2.1.alloc _) _ _ _ m.cells rfl ?c0 ?c1 ?c2 ?c3 ?c4 ?c5 ?c6 ?_))
    case c0 => intro h; cases h
    case c1 => rfl
    case c2 => exact fun _ => ⟨_, rfl, src_new _ _ _⟩
    case c3 => exact fun v hv => flatMs_oneCell [m] v (by rw [flatMs_one]; exact hv)
    case c4 => unfold maxLen; omega
    case c5 => omega
    case c6 => simp; omega
    intro a2 cap2 W2 hown2 hgrow2
    have hoA := H1.out.2.2.1.alloc (.cells m.cells.toArray 34)
    have h2 := (H1.out.1.alloc (.cells m.cells.toArray 34)).grown hgrow2.out (by intro p hp; exact own_ne hoA (by simp at hp; rcases hp with rfl | rfl | rfl <;> simp <;> omega))
    have h2w : Below w.heap.size w W2 := grown_below (below_alloc H1.out.2.1 _) hoA hgrow2.out (by omega) (by simp; omega)
    have c0 := blk_cell h2.hd 0
    have f0 := blk_frozen h2.hd 0
    simp at c0
    have hown2' := hown2.out.1
    rw [← flatMs_one, ← flatMs_app] at hown2'
    have H2 := Lib.hid (And.intro h2w hown2')
    clear h2 h2w hgrow2 hown2 hown2' hoA H1 m0 m1 m2 m3 m4 m5 m6 m7 m8 hi hz0 hz1 hz2
    go_wp2
    refine bodyPost_ret (v := .tuple #[.agg #[.slice a2 (n + 1) cap2], .int .i64 0]) (by simp [results, Try.results21, go_sem, c0]) rfl ⟨_, rfl, ?_, ?_⟩
    · refine (OwnMs.set (base := w.heap.size + 1 + 1 + 1) ?_ (by simp) _).base (by omega)
      unfold OwnMs
      rw [List.length_append, Hn.out]
      exact H2.out.2
    · exact H2.out.1.setCell (by simp; omega) _
end Go.Proofs.Ytkfoclibejpbdaa
