/- Chapter 15: few. -/
import Derived.Test.YthlefdbhkbpejaaGreatWorld
namespace Go.Proofs.YthlefdbhkbpejaaGreat
open Go Go.RowKit
set_option linter.unusedSimpArgs false

def Few (s : Site) (x : Wish) (v : Wld) : Prop := s.feeds.length ≤ 60 ∧ s.brks.length ≤ 60 ∧ s.loops.length ≤ 60 ∧ s.racks.length ≤ 60 ∧ s.links.length ≤ 60 ∧ s.hosts.length ≤ 60 ∧ x.svcs.length ≤ 60 ∧ v.hosts.length ≤ 60 ∧ v.reps.length ≤ 60
instance (s : Site) (x : Wish) (v : Wld) : Decidable (Few s x v) := by unfold Few; infer_instance
set_option maxHeartbeats 4000000 in
theorem few_ok (s : Site) (x : Wish) (v : Wld) (w : World) (hs : s.At w) (hx : x.At w) (hv : v.At w) :
    Calls Tryz.prog 5 #[s.val, x.val, v.val] w fun e W' => e = .returned (.bool (decide (Few s x v))) ∧ Below w.heap.size w W' := by
  have e0 : Few s x v ↔ s.fh.2.1 ≤ 60 ∧ s.bh.2.1 ≤ 60 ∧ s.lh.2.1 ≤ 60 ∧ s.rh.2.1 ≤ 60 ∧ s.kh.2.1 ≤ 60 ∧ s.hh.2.1 ≤ 60 ∧ x.sh.2.1 ≤ 60 ∧ v.hh.2.1 ≤ 60 ∧ v.rh.2.1 ≤ 60 := by
    unfold Few
    rw [hs.feeds.len, hs.brks.len, hs.loops.len, hs.racks.len, hs.links.len, hs.hosts.len, hx.svcs.len, hv.hosts.len, hv.reps.len]
  have HE := Lib.hid (And.intro e0.1 e0.2)
  have l0 := hs.feeds.le
  have l1 := hs.brks.le
  have l2 := hs.loops.le
  have l3 := hs.racks.le
  have l4 := hs.links.le
  have l5 := hs.hosts.le
  have l6 := hx.svcs.le
  have l7 := hv.hosts.le
  have l8 := hv.reps.le
  clear hs hx hv e0
  have b := below_alloc (below_alloc (below_alloc (below_self w) (.cells s.cells.toArray 29)) (.cells x.cells.toArray 32)) (.cells v.cells.toArray 36)
  go_enter Tryz.func5, Tryz.ntmps5
  by_cases c0 : s.fh.2.1 ≤ 60
  · by_cases c1 : s.bh.2.1 ≤ 60
    · by_cases c2 : s.lh.2.1 ≤ 60
      · by_cases c3 : s.rh.2.1 ≤ 60
        · by_cases c4 : s.kh.2.1 ≤ 60
          · by_cases c5 : s.hh.2.1 ≤ 60
            · by_cases c6 : x.sh.2.1 ≤ 60
              · by_cases c7 : v.hh.2.1 ≤ 60
                · have HT := Lib.hid (show decide (Few s x v) = decide ((v.rh.2.1 : Int) ≤ 60) from decide_eq_decide.2 ⟨fun q => by have := (HE.out.1 q).2.2.2.2.2.2.2.2; omega, fun q => HE.out.2 ⟨c0, c1, c2, c3, c4, c5, c6, c7, by omega⟩⟩)
                  go_wp2_with fail
                  go_ret
                  exact ⟨by rw [HT.out]; rfl, b⟩
                · have HT := Lib.hid (decide_eq_false (fun q => c7 (HE.out.1 q).2.2.2.2.2.2.2.1))
                  go_wp2_with fail
                  go_ret
                  exact ⟨by rw [HT.out]; rfl, b⟩
              · have HT := Lib.hid (decide_eq_false (fun q => c6 (HE.out.1 q).2.2.2.2.2.2.1))
                go_wp2_with fail
                go_ret
                exact ⟨by rw [HT.out]; rfl, b⟩
            · have HT := Lib.hid (decide_eq_false (fun q => c5 (HE.out.1 q).2.2.2.2.2.1))
              go_wp2_with fail
              go_ret
              exact ⟨by rw [HT.out]; rfl, b⟩
          · have HT := Lib.hid (decide_eq_false (fun q => c4 (HE.out.1 q).2.2.2.2.1))
            go_wp2_with fail
            go_ret
            exact ⟨by rw [HT.out]; rfl, b⟩
        · have HT := Lib.hid (decide_eq_false (fun q => c3 (HE.out.1 q).2.2.2.1))
          go_wp2_with fail
          go_ret
          exact ⟨by rw [HT.out]; rfl, b⟩
      · have HT := Lib.hid (decide_eq_false (fun q => c2 (HE.out.1 q).2.2.1))
        go_wp2_with fail
        go_ret
        exact ⟨by rw [HT.out]; rfl, b⟩
    · have HT := Lib.hid (decide_eq_false (fun q => c1 (HE.out.1 q).2.1))
      go_wp2_with fail
      go_ret
      exact ⟨by rw [HT.out]; rfl, b⟩
  · have HT := Lib.hid (decide_eq_false (fun q => c0 (HE.out.1 q).1))
    go_wp2_with fail
    go_ret
    exact ⟨by rw [HT.out]; rfl, b⟩
end Go.Proofs.YthlefdbhkbpejaaGreat
