/- Chapter 15: the two ways to say that a site is valid. -/
import Derived.Test.YtmghcinbdfeeoaaGreatRf12
namespace Go.Proofs.YtmghcinbdfeeoaaGreat
open Go Go.RowKit
set_option linter.unusedSimpArgs false

theorem idx_inR (n m : Int) : inR n 0 (m - 1) = idx n m := by
  unfold inR idx
  exact decide_eq_decide.2 (by omega)
theorem rBk_eq (n : Nat) : rBk n = okBk n := by
  funext b
  unfold rBk okBk num
  rw [idx_inR]
  simp only [Bool.and_assoc]
theorem rRk_eq (nb nl : Nat) (sw : Int) : rRk nb nl sw = okRk nb nl sw := by
  funext r
  unfold rRk okRk
  rw [idx_inR, idx_inR, idx_inR, show inR r.row 0 3 = idx r.row 4 from idx_inR r.row 4]
theorem rLk_eq (sw : Int) : rLk sw = okLk sw := by
  funext l
  unfold rLk okLk
  rw [idx_inR, idx_inR]
theorem rHo_eq (nr : Nat) : rHo nr = okHo nr := by
  funext h
  unfold rHo okHo
  rw [idx_inR]
theorem siteR_eq {s : Site} {w : World} (hs : s.At w) : siteR s = siteOk s := by
  unfold siteR powerOk roomsOk siteOk sizesOk
  rw [hs.feeds.len, hs.brks.len, hs.loops.len, hs.racks.len, hs.links.len, hs.hosts.len, rBk_eq, rRk_eq, rLk_eq, rHo_eq, show rFd = okFd from rfl, show rLp = okLp from rfl]
  ac_rfl
theorem site_ref (s : Site) (w : World) (hs : s.At w) : Calls Tryz.prog 26 #[s.val] w fun e W' => e = .returned (.bool (siteOk s)) ∧ Below w.heap.size w W' := by
  rw [← siteR_eq hs]
  exact sitev_ref s w hs

end Go.Proofs.YtmghcinbdfeeoaaGreat
