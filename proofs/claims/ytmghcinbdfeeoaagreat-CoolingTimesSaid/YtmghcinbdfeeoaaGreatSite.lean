/- Chapter 15: sites as data. -/
import Derived.Test.YtmghcinbdfeeoaaGreatFlat
namespace Go.Proofs.YtmghcinbdfeeoaaGreat
open Go Go.RowKit

def Hd.good (h : Hd) : Prop := h.2.1 ≤ h.2.2 ∧ h.2.2 ≤ maxLen ∧ (h.1 = none → h.2.1 = 0 ∧ h.2.2 = 0)
/-- The slice h reads as the rows, k cells each. -/
structure Reads (w : World) (h : Hd) (k n : Nat) (rows : List (List Value)) : Prop where
  len : n = h.2.1
  good : h.good
  rows : RowsAt w.heap.size w h.1 k rows
theorem Reads.later {w w' : World} {h : Hd} {k n : Nat} {rows : List (List Value)} (r : Reads w h k n rows) (hb : Below w.heap.size w w') : Reads w' h k n rows := ⟨r.len, r.good, r.rows.later hb⟩
theorem Reads.le {w : World} {h : Hd} {k n : Nat} {rows : List (List Value)} (r : Reads w h k n rows) : h.2.1 ≤ 9223372036854775807 := by
  have h1 := r.good.1
  have h2 := r.good.2.1
  unfold maxLen at h2
  omega

structure Site where
  feeds : List Feed
  fh : Hd
  brks : List Bkr
  bh : Hd
  loops : List Loop
  lh : Hd
  racks : List Rack
  rh : Hd
  links : List Link
  kh : Hd
  hosts : List Host
  hh : Hd
  switches : Int
abbrev Site.cells (x : Site) : List Value := [.slice x.fh.1 x.fh.2.1 x.fh.2.2, .slice x.bh.1 x.bh.2.1 x.bh.2.2, .slice x.lh.1 x.lh.2.1 x.lh.2.2, .slice x.rh.1 x.rh.2.1 x.rh.2.2, .int .i64 x.switches, .slice x.kh.1 x.kh.2.1 x.kh.2.2, .slice x.hh.1 x.hh.2.1 x.hh.2.2]
abbrev Site.val (x : Site) : Value := .agg x.cells.toArray
structure Site.At (x : Site) (w : World) : Prop where
  feeds : Reads w x.fh 1 x.feeds.length (Fds x.feeds)
  brks : Reads w x.bh 4 x.brks.length (Bks x.brks)
  loops : Reads w x.lh 2 x.loops.length (Lps x.loops)
  racks : Reads w x.rh 4 x.racks.length (Rks x.racks)
  links : Reads w x.kh 3 x.links.length (Lks x.links)
  hosts : Reads w x.hh 4 x.hosts.length (Hos x.hosts)
theorem Site.At.later {x : Site} {w w' : World} (h : x.At w) (hb : Below w.heap.size w w') : x.At w' := ⟨h.feeds.later hb, h.brks.later hb, h.loops.later hb, h.racks.later hb, h.links.later hb, h.hosts.later hb⟩

/- What a valid site is. -/
def idx (n len : Int) : Bool := decide (0 ≤ n ∧ n < len)
def num (n : Int) : Bool := inR n 0 1000000
def okFd (f : Feed) : Bool := num f.limit
def okBk (nf : Nat) (b : Bkr) : Bool := idx b.feed nf && (num b.limit && num b.slow && num b.fast)
def okLp (l : Loop) : Bool := num l.carry && inR l.delay 0 100
def okRk (nb nl : Nat) (sw : Int) (r : Rack) : Bool := idx r.row 4 && (idx r.brk nb && (idx r.loop nl && idx r.switch sw))
def okLk (sw : Int) (l : Link) : Bool := idx l.a sw && (idx l.b sw && (!decide (l.a = l.b) && inR l.lat 1 1000000))
def okHo (nr : Nat) (h : Host) : Bool := idx h.rack nr && (inR h.cores 1 1000 && (inR h.idle 0 10000 && inR h.per 0 1000))
def sizesOk (x : Site) : Bool := inR x.feeds.length 1 4 && (inR x.brks.length 1 8 && (inR x.loops.length 1 4 && (inR x.switches 1 8 && (inR x.racks.length 1 8 && (decide (x.links.length ≤ 16) && inR x.hosts.length 1 16)))))
def siteOk (x : Site) : Bool := sizesOk x && (x.feeds.all okFd && (x.brks.all (okBk x.feeds.length) && (x.loops.all okLp && (x.racks.all (okRk x.brks.length x.loops.length x.switches) && (x.links.all (okLk x.switches) && x.hosts.all (okHo x.racks.length))))))
end Go.Proofs.YtmghcinbdfeeoaaGreat
