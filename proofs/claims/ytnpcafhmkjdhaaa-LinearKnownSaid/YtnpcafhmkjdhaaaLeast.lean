/- Chapter 06: the program's Least. -/
import Derived.Test.YtnpcafhmkjdhaaaLeastA
import Derived.Test.YtnpcafhmkjdhaaaLoop
import Derived.OwnWalk
import Derived.Maps.AppendAt
import Derived.Deep.AppendLies
namespace Go.Proofs.Ytnpcafhmkjdhaaa
open Go Go.RowKit Go.Shelf
attribute [local go_sem] Oper.semAt_some

/-- What comes in the ticks 0 to n - 1. -/
def comes (ps : List Prt) (ins : List (List Int)) (n : Nat) : List Int := (List.range n).map fun (k : Nat) => arr ps ins k
theorem comes_succ (ps : List Prt) (ins : List (List Int)) (n : Nat) : comes ps ins (n + 1) = comes ps ins n ++ [arr ps ins n] := by
  unfold comes
  rw [List.range_succ, List.map_append]
  rfl
theorem comes_len (ps : List Prt) (ins : List (List Int)) (n : Nat) : (comes ps ins n).length = n := by simp [comes]
theorem comes_get {ps : List Prt} {ins : List (List Int)} {n k : Nat} (h : k < n) : (comes ps ins n).getD k default = arr ps ins k := by
  unfold comes
  rw [List.getD_eq_getElem?_getD, List.getElem?_eq_getElem (by simp; omega)]
  simp
theorem comes_ok {ps : List Prt} {ins : List (List Int)} {n : Nat} (hp : PsOk ps) (h : InOk ins) (hn : n ≤ 1000) : ComeOk (comes ps ins n) := by
  refine ⟨by rw [comes_len]; exact hn, fun k hk => ?_⟩
  rw [comes_len] at hk
  rw [comes_get hk]
  exact arr_all hp h k
/-- The least Carry (100000001: none) that Least looks for. -/
def leastN (ps : List Prt) (ins : List (List Int)) (start : Int) (n : Nat) (limit : Int) : Nat := leastOf (fun c => fits c start (comes ps ins n) limit) 100000001
def leastE (carry : Int) (ps : List Prt) (ins : List (List Int)) (start t limit : Int) : Int := if askedE carry ps start ins t = 0 then (if 100000000 < leastN ps ins start t.toNat limit then 7 else 0) else askedE carry ps start ins t
def leastV (carry : Int) (ps : List Prt) (ins : List (List Int)) (start t limit : Int) : Int := if askedE carry ps start ins t = 0 then (if 100000000 < leastN ps ins start t.toNat limit then 0 else leastN ps ins start t.toNat limit) else 0

/-- Between two rounds of Least's loop. R: the box of come. -/
structure TJ (w : World) (carry : Int) (a : Option Addr) (n cap : Nat) (ai : Option Addr) (ni ci : Nat) (m : Int) (R : Nat) (o : Obj) (s limit : Int) (L : List Int) (W : World) : Prop where
  lj : LJ w carry a n cap ai ni ci m (R + 1) o W
  base : w.heap.size + 2 < R
  sb : W.heap[w.heap.size + 1]? = some (.cells #[.int .i64 s] 3 (0, 0))
  mb : W.heap[w.heap.size + 2]? = some (.cells #[.int .i64 limit] 3 (0, 0))
  out : ∃ v, W.heap[R]? = some (.cells #[v] 32 (0, 0)) ∧ OwnI R W v L ∧ ∀ j, R ≤ j → j < R + 7 → some j ≠ v.ownBlock
section
variable {w : World} {carry : Int} {a : Option Addr} {n cap : Nat} {ai : Option Addr} {ni ci : Nat} {m : Int} {R : Nat} {o : Obj} {s limit : Int} {L : List Int} {W W' : World}
theorem TJ.tick (h : TJ w carry a n cap ai ni ci m R o s limit L W) (hb : Below W.heap.size W W') : TJ w carry a n cap ai ni ci m R o s limit L W' := by
  obtain ⟨v, h1, h2, h3⟩ := h.out
  exact ⟨h.lj.tick hb, h.base, blk_below h.sb hb, blk_below h.mb hb, v, blk_below h1 hb, h2.later hb, h3⟩
theorem TJ.put (h : TJ w carry a n cap ai ni ci m R o s limit L W) {l : Nat} (hl : l = R + 6) (o' : Obj) : TJ w carry a n cap ai ni ci m R o' s limit L (W.putObj l o') := by
  subst hl
  have hR := h.base
  obtain ⟨v, h1, h2, h3⟩ := h.out
  exact ⟨h.lj.put rfl _, h.base, blk_put h.sb (by omega), blk_put h.mb (by omega), v, blk_put h1 (by omega), owns_put_ne h2 (h3 _ (by omega) (by omega)) _, h3⟩
theorem TJ.grown {w1 : World} {x : Obj} {u v' : Value} {q : Nat} {y : Int}
    (h : TJ w carry a n cap ai ni ci m R o s limit L W) (hu : W.heap[R]? = some (.cells #[u] 32 (0, 0))) (ho : W.ownsRow R 3 1 u L.length (intsV L)) (hne : ∀ j, R ≤ j → j < R + 7 → some j ≠ u.ownBlock)
    (hg : (W.alloc x).grownBy w1 u.ownBlock) (hown : w1.ownsRow R 3 1 v' q (intsV L ++ [.int .i64 y])) (hq : q = L.length + 1) (hat : v'.ownBlock = u.ownBlock ∨ v'.ownBlock = some (W.heap.size + 1)) :
    TJ w carry a n cap ai ni ci m R o s limit (L ++ [y]) (w1.setCell ⟨R, 0, none⟩ v') := by
  have hR := h.base
  have hs : R + 7 ≤ W.heap.size := h.lj.size
  have hro : (W.alloc x).ownsRow R 3 1 u L.length (intsV L) := World.ownsRow.alloc ho x
  have hlj : LJ w carry a n cap ai ni ci m (R + 1) o w1 := (h.lj.alloc x).grown hro hg (by omega) (fun j h1 h2 => hne j (by omega) (by omega))
  have hne' : ∀ j, R ≤ j → j < R + 7 → some j ≠ v'.ownBlock := by
    intro j h1 h2 h3
    rcases hat with h | h
    · exact hne j h1 h2 (h3.trans h)
    · rw [h] at h3
      simp at h3
      omega
  refine ⟨hlj.set (by simp; omega) (by simp) _, hR, blk_set (grown_blk hg (blk_alloc h.sb x) (own_ne hro (by omega))) (by simp; omega) _, blk_set (grown_blk hg (blk_alloc h.mb x) (own_ne hro (by omega))) (by simp; omega) _, _, blk_set_same (grown_blk hg (blk_alloc hu x) (hne _ (by omega) (by omega))), ?_, hne'⟩
  unfold OwnI
  rw [intsV_app, List.length_append]
  have : L.length + [y].length = q := by rw [hq]; rfl
  rw [this]
  exact owns_set_ne hown (hne' _ (by simp) (by simp)) _
end

set_option maxRecDepth 100000 in
set_option maxHeartbeats 2000000 in
theorem least_err (carry : Int) (a : Option Addr) (n cap : Nat) (ps : List Prt) (start : Int) (ai : Option Addr) (ni ci : Nat) (hs : List Hd) (ins : List (List Int)) (t limit : Int) (w : World) (hn : ps.length = n) (hl : n ≤ 9223372036854775807) (hm : RowsAt w.heap.size w a 3 (Prts ps))
    (hni : ins.length = ni) (hli : ni ≤ 9223372036854775807) (hmi : InsAt w.heap.size w ai hs ins) (he : askedE carry ps start ins t ≠ 0) :
    Calls Try.prog 15 #[.agg #[.int .i64 carry, .slice a n cap], .int .i64 start, .slice ai ni ci, .int .i64 t, .int .i64 limit] w fun e W' => e = .returned (.tuple #[.int .i64 0, .int .i64 (askedE carry ps start ins t)]) ∧ Below w.heap.size w W' := by
  have Hm := Lib.hid hm; clear hm
  have Hn := Lib.hid hn; clear hn
  have Hmi := Lib.hid hmi; clear hmi
  have Hni := Lib.hid hni; clear hni
  have hD : decide (askedE carry ps start ins t = 0) = false := decide_eq_false he
  refine (callsIn_wide (n := 0)).1 ?_
  refine callsIn_of_wp_marks Try.func15 rfl trivial ?_ rfl
  simp only [Try.ntmps15, List.size_toArray, List.length_cons, List.length_nil, Nat.reduceAdd, Nat.reduceSub, Array.replicate_succ, Array.replicate_zero, List.push_toArray, List.append_toArray, List.nil_append, List.cons_append]
  gi_wp2_with fail
  obtain ⟨W1, hW1⟩ : ∃ W' : World, (((w.alloc (.cells #[.int .i64 carry, .slice a n cap] 28)).alloc (.cells #[.int .i64 start] 3)).alloc (.cells #[.int .i64 limit] 3)) = W' := ⟨_, rfl⟩
  have h1 : Has W1 [(w.heap.size + 1 + 1, .cells #[.int .i64 limit] 3 (0, 0)), (w.heap.size + 1, .cells #[.int .i64 start] 3 (0, 0)), (w.heap.size, .cells #[.int .i64 carry, .slice a n cap] 28 (0, 0))] := by rw [← hW1]; simpa using ((((Has.nil w).new _).new _).new _)
  have s1 : W1.heap.size = w.heap.size + 1 + 1 + 1 := by rw [← hW1]; simp
  have b1 : Below w.heap.size w W1 := by rw [← hW1]; exact (below_alloc (below_alloc (below_alloc (below_self w) _) _) _)
  rw [hW1]
  clear hW1
  refine (callsIn_wide.2 (asked_ok carry a n cap ps start ai ni ci hs ins t _ Hn.out hl (Hm.out.later b1) Hni.out hli (Hmi.out.later b1))).mono ?_
  rintro e W2 ⟨rfl, hb2⟩
  have w2 := Lib.hid (below_trans b1 hb2)
  clear hb2 b1 h1 s1
  generalize hE : askedE carry ps start ins t = E at he hD ⊢
  have HE := Lib.hid hE
  clear hE
  gi_wp2_with fail
  exact ⟨_, results_tmp2 rfl _ _ _, by rw [HE.out]; rfl, w2.out⟩

set_option maxRecDepth 100000 in
set_option maxHeartbeats 2000000 in
theorem least_zero (carry : Int) (a : Option Addr) (n cap : Nat) (ps : List Prt) (start : Int) (ai : Option Addr) (ni ci : Nat) (hs : List Hd) (ins : List (List Int)) (T : Nat) (limit : Int) (w : World) (hn : ps.length = n) (hl : n ≤ 9223372036854775807) (hm : RowsAt w.heap.size w a 3 (Prts ps))
    (hni : ins.length = ni) (hli : ni ≤ 9223372036854775807) (hmi : InsAt w.heap.size w ai hs ins) (he : askedE carry ps start ins T = 0) (V E : Int)
    (hVE : Hid (∀ s : Nat, leastN ps ins start T limit = s → V = (if (100000000 : Int) < (s : Int) then 0 else (s : Int)) ∧ E = if (100000000 : Int) < (s : Int) then 7 else 0)) :
    Calls Try.prog 15 #[.agg #[.int .i64 carry, .slice a n cap], .int .i64 start, .slice ai ni ci, .int .i64 T, .int .i64 limit] w fun e W' => e = .returned (.tuple #[.int .i64 V, .int .i64 E]) ∧ Below w.heap.size w W' := by
  have Hm := Lib.hid hm; clear hm
  have Hn := Lib.hid hn; clear hn
  have Hmi := Lib.hid hmi; clear hmi
  have Hni := Lib.hid hni; clear hni
  obtain ⟨hP, hC, hI, hS, ht0, ht1⟩ := asked_zero he
  have HPI := Lib.hid (And.intro hP (And.intro hI (And.intro hC hS)))
  clear hP hI hC hS
  have HE := Lib.hid he
  clear he
  have hT : T ≤ 1000 := by omega
  clear ht0 ht1
  refine (callsIn_wide (n := 0)).1 ?_
  refine callsIn_of_wp_marks Try.func15 rfl trivial ?_ rfl
  simp only [Try.ntmps15, List.size_toArray, List.length_cons, List.length_nil, Nat.reduceAdd, Nat.reduceSub, Array.replicate_succ, Array.replicate_zero, List.push_toArray, List.append_toArray, List.nil_append, List.cons_append]
  gi_wp2_with fail
  obtain ⟨W1, hW1⟩ : ∃ W' : World, (((w.alloc (.cells #[.int .i64 carry, .slice a n cap] 28)).alloc (.cells #[.int .i64 start] 3)).alloc (.cells #[.int .i64 limit] 3)) = W' := ⟨_, rfl⟩
  have h1 : Has W1 [(w.heap.size + 1 + 1, .cells #[.int .i64 limit] 3 (0, 0)), (w.heap.size + 1, .cells #[.int .i64 start] 3 (0, 0)), (w.heap.size, .cells #[.int .i64 carry, .slice a n cap] 28 (0, 0))] := by rw [← hW1]; simpa using ((((Has.nil w).new _).new _).new _)
  have s1 : W1.heap.size = w.heap.size + 1 + 1 + 1 := by rw [← hW1]; simp
  have b1 : Below w.heap.size w W1 := by rw [← hW1]; exact (below_alloc (below_alloc (below_alloc (below_self w) _) _) _)
  rw [hW1]
  clear hW1
  refine (callsIn_wide.2 (asked_ok carry a n cap ps start ai ni ci hs ins T _ Hn.out hl (Hm.out.later b1) Hni.out hli (Hmi.out.later b1))).mono ?_
  rintro e W2 ⟨rfl, hb2⟩
  rw [HE.out]
  have h2 := h1.below hb2
  have w2 := Lib.hid (below_trans b1 hb2)
  clear hb2 b1 h1 s1
  have c0 := blk_cell h2.tl.tl.hd 0
  have c1 := blk_cell h2.tl.tl.hd 1
  simp at c0 c1
  have l0 : w.heap.size + 1 + 1 < W2.heap.size := blk_lt h2.hd
  have l00 : w.heap.size < W2.heap.size := by omega
  have HL := Lib.hid h2
  clear h2
  gi_wp2_with fail
  refine (coming_ok carry a n cap ai ni ci _ _).mono ?_
  rintro e w' ⟨rfl, rfl⟩
  gi_wp2
  have hA : ∀ (A : World) (o : Obj) (m : Nat), A.heap.size = m → (A.alloc o).heap[m]? = some o := fun A o m h => by rw [← h]; exact blk_new A o
  have hB0 := w2.out
  clear c0 c1
  refine range_wide rfl (enters_of Try.func49 (by kernel_rfl) rfl) ?_
  intro rec hrec hround
  simp only [World.size_alloc, Nat.add_assoc, Nat.reduceAdd] at hround ⊢
  refine (coming2_ok _ (W2.heap.size + 1 + 1 + 1) (W2.heap.size + 1 + 1 + 1 + 1) (W2.heap.size + 1) (W2.heap.size + 1 + 1) T a n cap ps ai ni ci hs ins Hn.out Hni.out HPI.out.1 HPI.out.2.1 (by omega)
    (fun k W => TJ w carry a n cap ai ni ci T W2.heap.size (rec .ready none) start limit (comes ps ins k) W) ?hread ?htick ?hY _ ?h0).mono ?done
  case hread =>
    intro k W h
    exact h.lj.read Hm.out Hmi.out
  case htick =>
    intro k W W' h _ hb
    exact h.tick hb
  case h0 =>
    refine ⟨LJ.new (below_alloc hB0 _) (by simp), l0, ?_, ?_, .slice none 0 0, ?_, OwnI.nil _ _, ?_⟩
    · exact blk_alloc (blk_alloc (blk_alloc (blk_alloc (blk_alloc (blk_alloc (blk_alloc HL.out.tl.hd _) _) _) _) _) _) _
    · exact blk_alloc (blk_alloc (blk_alloc (blk_alloc (blk_alloc (blk_alloc (blk_alloc HL.out.hd _) _) _) _) _) _) _
    · exact blk_alloc (blk_alloc (blk_alloc (blk_alloc (blk_alloc (blk_alloc (hA _ _ _ rfl) _) _) _) _) _) _
    · intro j h1 _ h2
      simp [Value.ownBlock] at h2
  case hY =>
    intro k W hk h
    rw [comes_succ]
    have hlen := comes_len ps ins k
    generalize comes ps ins k = L at h hlen
    generalize arr ps ins k = v
    refine (hround #[.int .i64 k, .int .i64 v] W (fun d W' => d = true ∧ TJ w carry a n cap ai ni ci T W2.heap.size (rec .ready none) start limit (L ++ [v]) W') rfl h.lj.loop ?_).mono (by
      rintro e W' ⟨d, rfl, rfl, h⟩
      exact ⟨rfl, h⟩)
    have HJ := Lib.hid h; clear h
    have Hround := Lib.hid hround; clear hround
    have Hrec := Lib.hid hrec; clear hrec
    have HX := Lib.hid hlen
    clear hlen
    gi_wp2
    refine ⟨HJ.out.lj.loop, ?_⟩
    obtain ⟨W4, hW4⟩ : ∃ W4, W.putObj (W2.heap.size + 6) (rec .busy none) = W4 := ⟨_, rfl⟩
    have hJ4 : TJ w carry a n cap ai ni ci T W2.heap.size (rec .busy none) start limit L W4 := by rw [← hW4]; exact HJ.out.put rfl _
    rw [hW4]
    obtain ⟨u, hu, ho, hne⟩ := hJ4.out
    have HO := Lib.hid (And.intro hu (And.intro ho hne))
    have c2 := blk_cell hu 0
    simp at c2
    have hlt0 : W2.heap.size < W4.heap.size := blk_lt hu
    have HJ4 := Lib.hid hJ4
    obtain ⟨i0, hi, hz0, hz1, hz2⟩ := info_parts info3
    clear hJ4 hu ho hne hW4 HJ Hround
    gi_wp2_with (gi_at_builtin; go_must (refine wpListIn_append_own_at _ rfl _ _ 32 rfl W2.heap.size 3 i0 _ 1 8 Try.underlying32 hi hz0 hz1 hz2 rfl (by decide) _ L.length (intsV L) rfl (World.ownsRow.alloc HO.out.2.1 (.cells #[.int .i64 v] 3)) ⟨W4.heap.size, 0, none⟩ 1 1 [.int .i64 v] rfl rfl ?d1 ?d2 ?d3 ?d4 ?d5 ?_))
    case d1 => exact World.news_of_block (blk_new W4 (.cells #[.int .i64 v] 3))
    case d2 => simp [Value.oneCell']
    case d3 => unfold maxLen; have := HX.out; omega
    case d4 => have := HX.out; omega
    case d5 => simp; omega
    intro v' w1 hown1 hgrow _ hat
    obtain ⟨av, capv, rfl, _⟩ := owns_shape hown1
    have q1 := grown_blk hgrow (blk_alloc HO.out.1 (.cells #[.int .i64 v] 3)) (HO.out.2.2 _ (by omega) (by omega))
    have q1c := blk_cell q1 0
    have q1f := blk_frozen q1 0
    simp at q1c
    have q := HJ4.out.grown HO.out.1 HO.out.2.1 HO.out.2.2 hgrow hown1 rfl hat
    have HQ := Lib.hid q
    clear q hown1 hgrow hat q1 HO c2 hi hz0 hz1 hz2 hlt0
    gi_wp2
    exact ⟨HQ.out.lj.loop, rfl, HQ.out.put rfl _⟩
  case done =>
    rintro e W3 ⟨⟨v, rfl⟩, h⟩
    refine ⟨⟨_, rfl⟩, .inl ⟨h.lj.loop, ?_⟩⟩
    obtain ⟨W5, hW5⟩ : ∃ W5, W3.putObj (W2.heap.size + 6) (rec .exhausted none) = W5 := ⟨_, rfl⟩
    have hJ5 : TJ w carry a n cap ai ni ci T W2.heap.size (rec .exhausted none) start limit (comes ps ins T) W5 := by rw [← hW5]; exact h.put rfl _
    rw [hW5]
    obtain ⟨v, hv, ho, hne⟩ := hJ5.out
    obtain ⟨g, cg, rfl, hrows⟩ := ho.rows
    have hc2 := blk_cell hv 0
    have hs2 := blk_cell hJ5.sb 0
    have hm2 := blk_cell hJ5.mb 0
    simp at hc2 hs2 hm2
    have e1 := comes_ok HPI.out.1 HPI.out.2.1 hT
    have HO := Lib.hid (And.intro hrows (And.intro hc2 (And.intro hs2 (And.intro hm2 (And.intro e1 (And.intro (blk_lt hv) (And.intro (blk_lt hJ5.sb) (blk_lt hJ5.mb))))))))
    have HJ5 := Lib.hid hJ5
    clear hJ5 hv ho hne hW5 h hround hrec hrows hc2 hs2 hm2 e1
    gi_wp2_with fail
    refine (callsIn_wide.2 (search_ok 32 #[.pointer (some ⟨w.heap.size + 1, 0, none⟩), .pointer (some ⟨W2.heap.size, 0, none⟩), .pointer (some ⟨w.heap.size + 1 + 1, 0, none⟩)] (fun c => fits c start (comes ps ins T) limit) 100000001 W5 (by omega)
      (fun W x hx hb => (least1_ok x start limit _ _ _ g _ cg (comes ps ins T) W rfl HO.out.2.2.2.2.1 (by omega) HPI.out.2.2.2 (cell_call hb HO.out.2.2.2.2.2.2.1 HO.out.2.2.1) (cell_call hb HO.out.2.2.2.2.2.1 HO.out.2.1) (cell_call hb HO.out.2.2.2.2.2.2.2 HO.out.2.2.2.1) (HO.out.1.later hb)).mono (by rintro e W' ⟨rfl, rfl⟩; exact ⟨rfl, below_self _⟩)) (enters_of Try.func32 (by kernel_rfl) rfl))).mono ?_
    rintro e W6 ⟨⟨s, rfl, hs1, hs2, hs3⟩, hb6⟩
    have hls : leastN ps ins start T limit = s := leastOf_eq (fun c c' h1 h2 => fits_mono h1 h2) hs1 hs2 hs3
    have HLS := Lib.hid hls
    have HB6 := Lib.hid (blk_below HJ5.out.lj.marks hb6)
    have w6 := Lib.hid (below_trans HJ5.out.lj.below hb6)
    have hbs := HJ5.out.base
    clear hls hs2 hs3 hb6
    obtain ⟨hV, hE2⟩ := hVE.out s HLS.out
    clear HLS hs1 hVE
    generalize (s : Int) = x at hV hE2 ⊢
    by_cases h7 : 100000000 < x
    · rw [if_pos h7] at hV hE2
      have HV := Lib.hid (And.intro hV hE2)
      clear hV hE2
      gi_wp2_with fail
      refine ⟨by simp, .inl ⟨_, _, rfl, run_takeDeferred HB6.out, ?_⟩⟩
      refine ⟨_, results_tmp2 rfl _ _ _, by rw [HV.out.1, HV.out.2]; rfl, below_put w6.out (by omega) _⟩
    · rw [if_neg h7] at hV hE2
      have HV := Lib.hid (And.intro hV hE2)
      clear hV hE2
      gi_wp2_with fail
      refine ⟨by simp, .inl ⟨_, _, rfl, run_takeDeferred HB6.out, ?_⟩⟩
      refine ⟨_, results_tmp2 rfl _ _ _, by rw [HV.out.1, HV.out.2]; rfl, below_put w6.out (by omega) _⟩

theorem least_ok (carry : Int) (a : Option Addr) (n cap : Nat) (ps : List Prt) (start : Int) (ai : Option Addr) (ni ci : Nat) (hs : List Hd) (ins : List (List Int)) (t limit : Int) (w : World) (hn : ps.length = n) (hl : n ≤ 9223372036854775807) (hm : RowsAt w.heap.size w a 3 (Prts ps))
    (hni : ins.length = ni) (hli : ni ≤ 9223372036854775807) (hmi : InsAt w.heap.size w ai hs ins) :
    Calls Try.prog 15 #[.agg #[.int .i64 carry, .slice a n cap], .int .i64 start, .slice ai ni ci, .int .i64 t, .int .i64 limit] w fun e W' => e = .returned (.tuple #[.int .i64 (leastV carry ps ins start t limit), .int .i64 (leastE carry ps ins start t limit)]) ∧ Below w.heap.size w W' := by
  by_cases he : askedE carry ps start ins t = 0
  · obtain ⟨_, _, _, _, ht0, _⟩ := asked_zero he
    obtain ⟨T, rfl⟩ : ∃ T : Nat, t = T := ⟨t.toNat, by omega⟩
    unfold leastV leastE
    rw [if_pos he, if_pos he]
    refine least_zero carry a n cap ps start ai ni ci hs ins T limit w hn hl hm hni hli hmi he _ _ (Lib.hid fun s h => ?_)
    have hT : ((T : Int)).toNat = T := by omega
    rw [hT, h]
    constructor <;> split <;> split <;> omega
  · unfold leastV leastE
    rw [if_neg he, if_neg he]
    exact least_err carry a n cap ps start ai ni ci hs ins t limit w hn hl hm hni hli hmi he
end Go.Proofs.Ytnpcafhmkjdhaaa
