/- Chapter 15: world.Used, power.watts. -/
import Derived.Test.YthlefdbhkbpejaaGreatValid
namespace Go.Proofs.YthlefdbhkbpejaaGreat
open Go Go.RowKit
set_option linter.unusedSimpArgs false

/-- What is known of the replicas of a valid world. -/
def RepsIn (x : Wish) (v : Wld) : Prop := v.reps.length ≤ 24 ∧ (∀ i, i < v.reps.length → 0 ≤ (v.reps.getD i default).svc ∧ (v.reps.getD i default).svc < (x.svcs.length : Int)) ∧ ∀ i, i < x.svcs.length → 1 ≤ (x.svcs.getD i default).cores ∧ (x.svcs.getD i default).cores ≤ 1000
def usedL (x : Wish) (l : List Rep) (h : Int) : Int := l.foldl (fun s r => if r.host = h ∧ 0 ≤ r.svc ∧ r.svc < (x.svcs.length : Int) then s + (x.svcs.getD r.svc.toNat default).cores else s) 0
theorem used_all (x : Wish) (v : Wld) (h : Int) : used x v h = usedL x (v.reps.take v.reps.length) h := by rw [List.take_length]; rfl
theorem usedL_succ {x : Wish} {l : List Rep} {h : Int} {k : Nat} (hk : k < l.length) (r : Rep) (hr : l.getD k default = r) : usedL x (l.take (k + 1)) h = if r.host = h ∧ 0 ≤ r.svc ∧ r.svc < (x.svcs.length : Int) then usedL x (l.take k) h + (x.svcs.getD r.svc.toNat default).cores else usedL x (l.take k) h := by
  subst hr
  unfold usedL
  rw [List.take_succ_eq_append_getElem hk, List.foldl_append, List.getD_eq_getElem?_getD, List.getElem?_eq_getElem hk]
  rfl
theorem usedL_le {x : Wish} {v : Wld} {h : Int} (hr : RepsIn x v) : ∀ k, k ≤ v.reps.length → 0 ≤ usedL x (v.reps.take k) h ∧ usedL x (v.reps.take k) h ≤ 1000 * k
  | 0, _ => by simp [usedL]
  | k + 1, hk => by
    have ih := usedL_le (h := h) hr k (by omega)
    have hi := hr.2.1 k (by omega)
    have hc := hr.2.2 (v.reps.getD k default).svc.toNat (by omega)
    rw [usedL_succ (by omega) _ rfl]
    split <;> omega
theorem worldOk_reps {s : Site} {x : Wish} {v : Wld} (h : worldOk s x v = true) : RepsIn x v := by
  unfold worldOk at h
  simp only [Bool.and_eq_true, decide_eq_true_eq, List.all_eq_true] at h
  obtain ⟨⟨⟨⟨⟨⟨_, hw⟩, _⟩, hn⟩, _⟩, _⟩, hr⟩ := h
  unfold wishOk at hw
  simp only [Bool.and_eq_true, decide_eq_true_eq, List.all_eq_true] at hw
  refine ⟨hn, fun i hi => ?_, fun i hi => ?_⟩
  · have := hr (v.reps.getD i default) (by rw [List.getD_eq_getElem?_getD, List.getElem?_eq_getElem hi]; exact List.getElem_mem hi)
    unfold okRp at this
    simp only [Bool.and_eq_true] at this
    have := inR_iff.1 this.1
    omega
  · have := hw.1.2 i (by simpa using hi)
    unfold svcOk at this
    simp only [Bool.and_eq_true] at this
    exact inR_iff.1 this.1.1.1.1.1.1.1

set_option maxHeartbeats 4000000 in
theorem used_ok (x : Wish) (v : Wld) (host : Int) (w : World) (hx : x.At w) (hv : v.At w) (hr : RepsIn x v) : Calls Tryz.prog 59 #[x.val, v.val, .int .i64 host] w fun e W' => e = .returned (.int .i64 (used x v host)) ∧ Below w.heap.size w W' := by
  rw [used_all]
  obtain ⟨svcs, ⟨sa, sn, sc⟩⟩ := x
  obtain ⟨hosts, ⟨ha, hn, hc⟩, reps, ⟨ra, rn, rc⟩⟩ := v
  have hN : svcs.length = sn := hx.svcs.len
  have hM : reps.length = rn := hv.reps.len
  have hNl : sn ≤ 9223372036854775807 := hx.svcs.le
  have hMl : rn ≤ 24 := by rw [← hM]; exact hr.1
  have HX := Lib.hid (And.intro hx (And.intro hv (And.intro hr (And.intro hN hM))))
  clear hx hv hr hN hM
  go_enter Tryz.func59, Tryz.ntmps59
  go_upto_region 5 with fail
  obtain ⟨A, hA⟩ : ∃ W' : World, ((w.alloc (.cells #[.slice sa sn sc] 32)).alloc (.cells #[.slice ha hn hc, .slice ra rn rc] 36)) = W' := ⟨_, rfl⟩
  have h : Has A [(w.heap.size + 1, .cells #[.slice ha hn hc, .slice ra rn rc] 36 (0, 0)), (w.heap.size, .cells #[.slice sa sn sc] 32 (0, 0))] := by rw [← hA]; simpa using (((Has.nil w).new _).new _)
  have z : A.heap.size = w.heap.size + 1 + 1 := by rw [← hA]; simp
  have b : Below w.heap.size w A := by rw [← hA]; exact (below_alloc (below_alloc (below_self w) _) _)
  rw [hA]
  clear hA
  have HA := Lib.hid (And.intro (show A.heap[w.heap.size]? = some (.cells #[.slice sa sn sc] 32 (0, 0)) from h.tl.hd) b)
  clear h z b
  go_loopw [7, 13] (fun s i wr => ∃ (k : Nat) (X : World), k ≤ rn ∧ s = .int .i64 (usedL ⟨svcs, (sa, sn, sc)⟩ (reps.take k) host) ∧ i = .int .i64 k ∧ X = wr ∧ Hid (X.heap[w.heap.size]? = some (.cells #[.slice sa sn sc] 32 (0, 0)) ∧ Below w.heap.size w X)) (fun _ i _ => rn - (intOf i).toNat)
  case atStart => exact ⟨0, _, Nat.zero_le _, rfl, rfl, rfl, HA⟩
  case round =>
    obtain ⟨k, X, hk, rfl, rfl, rfl, HR⟩ := hrel
    by_cases hlt : k < rn
    · have hltI : (k : Int) < (rn : Int) := by omega
      obtain ⟨b, off, rfl, hbl, p0, p1⟩ := rps_at (HX.out.2.1.reps.rows.later HR.out.2) k (by show k < reps.length; rw [HX.out.2.2.2.2]; exact hlt)
      have hu := usedL_succ (x := ⟨svcs, (sa, sn, sc)⟩) (l := reps) (h := host) (k := k) (by rw [HX.out.2.2.2.2]; exact hlt) _ rfl
      have hbd := usedL_le (h := host) HX.out.2.2.1 k (by show k ≤ reps.length; rw [HX.out.2.2.2.2]; exact hk)
      have hin := HX.out.2.2.1.2.1 k (by show k < reps.length; rw [HX.out.2.2.2.2]; exact hlt)
      simp only at hin hbd
      generalize hy : reps.getD k default = y at p0 p1 hu hin
      rw [HX.out.2.2.2.1] at hin
      obtain ⟨t, ht⟩ : ∃ t, usedL ⟨svcs, (sa, sn, sc)⟩ (reps.take k) host = t := ⟨_, rfl⟩
      rw [ht] at hu hbd ⊢
      have HU := Lib.hid (And.intro hu (And.intro hbd hin))
      have d0 : X.cell? ⟨w.heap.size, 0, none⟩ = some (.slice sa sn sc) := (blk_cell HR.out.1 0).trans rfl
      have dl := blk_lt HR.out.1
      clear hu hbd ht hy
      go_upto_region 5 with fail
      obtain ⟨Z, hZ⟩ : ∃ W' : World, (X.alloc (.cells #[.int .i64 y.svc, .int .i64 y.host] 81)) = W' := ⟨_, rfl⟩
      have hz : Has Z [(X.heap.size, .cells #[.int .i64 y.svc, .int .i64 y.host] 81 (0, 0))] := by rw [← hZ]; simpa using ((Has.nil X).new _)
      have sz : Z.heap.size = X.heap.size + 1 := by rw [← hZ]; simp
      have bz : Below X.heap.size X Z := by rw [← hZ]; exact (below_alloc (below_self X) _)
      rw [hZ]
      clear hZ
      have HZ := Lib.hid (And.intro (HR.out.1) (And.intro (below_trans HR.out.2 bz) bz))
      have c0 : Z.cell? ⟨X.heap.size, 0, none⟩ = some (.int .i64 y.svc) := (blk_cell hz.hd 0).trans rfl
      have c1 : Z.cell? ⟨X.heap.size, 1, none⟩ = some (.int .i64 y.host) := (blk_cell hz.hd 1).trans rfl
      have d1 : Z.cell? ⟨w.heap.size, 0, none⟩ = some (.slice sa sn sc) := (blk_cell (blk_below HR.out.1 bz) 0).trans rfl
      have HZ := Lib.hid (And.intro (blk_below HR.out.1 bz) (below_trans HR.out.2 bz))
      clear p0 p1 d0 dl bz hz
      have sz2 : X.heap.size < Z.heap.size := by omega
      have dl := blk_lt HZ.out.1
      have hw1 : IntKind.i64.wrap ((sn : Int) - 1) = (sn : Int) - 1 := IntWalk.i64_in _ (by omega)
      have hir : inR y.svc 0 ((sn : Int) - 1) = true := inR_iff.2 (by omega)
      have HIR := Lib.hid hir
      clear hir
      by_cases hh : y.host = host
      · have hE := HU.out.1
        rw [if_pos ⟨hh, HU.out.2.2.1, by show y.svc < (svcs.length : Int); rw [HX.out.2.2.2.1]; exact HU.out.2.2.2⟩] at hE
        have hco := HX.out.2.2.1.2.2 y.svc.toNat (by show y.svc.toNat < svcs.length; rw [HX.out.2.2.2.1]; omega)
        obtain ⟨b2, o2, rfl, hb2, hc⟩ := svs_at ((HX.out.1.svcs.rows.later HZ.out.2)) y.svc.toNat (by show y.svc.toNat < svcs.length; rw [HX.out.2.2.2.1]; omega)
        have e0 : Z.cell? ⟨b2, o2 + y.svc.toNat * 8, none⟩ = some (.int .i64 (svcs.getD y.svc.toNat default).cores) := hc 0 _ rfl
        clear hc
        simp only at hco hE
        generalize (svcs.getD y.svc.toNat default).cores = z at e0 hE hco
        have HE := Lib.hid hE
        clear hE
        have hx0 := hin.1
        have hx1 := hin.2
        have hsw : IntKind.i64.wrap (t + z) = t + z := IntWalk.i64_in _ (by have := HU.out.2.1; omega)
        have HCO := Lib.hid hco
        clear hco hin
        go_wp2_with fail
        refine (betw_world y.svc 0 ((sn : Int) - 1) _).mono ?_
        rintro e V ⟨rfl, rfl⟩
        rw [HIR.out]
        go_wp2_with fail
        refine ⟨⟨k + 1, _, by omega, by rw [HE.out], by go_num, rfl, HZ⟩, by simp [intOf]; omega⟩
      · have hE := HU.out.1
        rw [if_neg (fun h => hh h.1)] at hE
        have HE := Lib.hid hE
        clear hE
        go_wp2_with fail
        refine ⟨⟨k + 1, _, by omega, by rw [HE.out], by go_num, rfl, HZ⟩, by simp [intOf]; omega⟩
    · have hE : k = reps.length := by rw [HX.out.2.2.2.2]; omega
      have HE := Lib.hid hE
      go_wp2_with fail
      go_ret
      exact ⟨by rw [← HE.out]; rfl, HR.out.2⟩
end Go.Proofs.YthlefdbhkbpejaaGreat
