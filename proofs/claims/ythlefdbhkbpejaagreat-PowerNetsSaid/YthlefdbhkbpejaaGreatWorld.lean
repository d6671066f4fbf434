/- Chapter 15: wishes and worlds as data. -/
import Derived.Test.YthlefdbhkbpejaaGreatFlat
namespace Go.Proofs.YthlefdbhkbpejaaGreat
open Go Go.RowKit

def Hd.good (h : Hd) : Prop := h.2.1 ≤ h.2.2 ∧ h.2.2 ≤ maxLen ∧ (h.1 = none → h.2.1 = 0 ∧ h.2.2 = 0)
/-- The slice h reads as the rows, k cells each. -/
structure Reads (w : World) (h : Hd) (k n : Nat) (rows : List (List Value)) : Prop where
  len : n = h.2.1
  good : h.good
  rows : RowsAt w.heap.size w h.1 k rows
theorem Reads.later {w w' : World} {h : Hd} {k n : Nat} {rows : List (List Value)} (r : Reads w h k n rows) (hb : Below w.heap.size w w') : Reads w' h k n rows := ⟨r.len, r.good, r.rows.later hb⟩
theorem Reads.le {w : World} {h : Hd} {k n : Nat} {rows : List (List Value)} (r : Reads w h k n rows) : h.2.1 ≤ 9223372036854775807 := by
  have h1 := r.good.1
  have h2 := r.good.2.1
  unfold maxLen at h2
  omega

structure Site where
  feeds : List Feed
  fh : Hd
  brks : List Bkr
  bh : Hd
  loops : List Loop
  lh : Hd
  racks : List Rack
  rh : Hd
  links : List Link
  kh : Hd
  hosts : List Host
  hh : Hd
  switches : Int
abbrev Site.cells (x : Site) : List Value := [.slice x.fh.1 x.fh.2.1 x.fh.2.2, .slice x.bh.1 x.bh.2.1 x.bh.2.2, .slice x.lh.1 x.lh.2.1 x.lh.2.2, .slice x.rh.1 x.rh.2.1 x.rh.2.2, .int .i64 x.switches, .slice x.kh.1 x.kh.2.1 x.kh.2.2, .slice x.hh.1 x.hh.2.1 x.hh.2.2]
abbrev Site.val (x : Site) : Value := .agg x.cells.toArray
structure Site.At (x : Site) (w : World) : Prop where
  feeds : Reads w x.fh 1 x.feeds.length (Fds x.feeds)
  brks : Reads w x.bh 4 x.brks.length (Bks x.brks)
  loops : Reads w x.lh 2 x.loops.length (Lps x.loops)
  racks : Reads w x.rh 4 x.racks.length (Rks x.racks)
  links : Reads w x.kh 3 x.links.length (Lks x.links)
  hosts : Reads w x.hh 4 x.hosts.length (Hos x.hosts)
theorem Site.At.later {x : Site} {w w' : World} (h : x.At w) (hb : Below w.heap.size w w') : x.At w' := ⟨h.feeds.later hb, h.brks.later hb, h.loops.later hb, h.racks.later hb, h.links.later hb, h.hosts.later hb⟩

/- What a valid site is. -/
def idx (n len : Int) : Bool := decide (0 ≤ n ∧ n < len)
def num (n : Int) : Bool := inR n 0 1000000
def okFd (f : Feed) : Bool := num f.limit
def okBk (nf : Nat) (b : Bkr) : Bool := idx b.feed nf && (num b.limit && num b.slow && num b.fast)
def okLp (l : Loop) : Bool := num l.carry && inR l.delay 0 100
def okRk (nb nl : Nat) (sw : Int) (r : Rack) : Bool := idx r.row 4 && (idx r.brk nb && (idx r.loop nl && idx r.switch sw))
def okLk (sw : Int) (l : Link) : Bool := idx l.a sw && (idx l.b sw && (!decide (l.a = l.b) && inR l.lat 1 1000000))
def okHo (nr : Nat) (h : Host) : Bool := idx h.rack nr && (inR h.cores 1 1000 && (inR h.idle 0 10000 && inR h.per 0 1000))
def sizesOk (x : Site) : Bool := inR x.feeds.length 1 4 && (inR x.brks.length 1 8 && (inR x.loops.length 1 4 && (inR x.switches 1 8 && (inR x.racks.length 1 8 && (decide (x.links.length ≤ 16) && inR x.hosts.length 1 16)))))
def siteOk (x : Site) : Bool := sizesOk x && (x.feeds.all okFd && (x.brks.all (okBk x.feeds.length) && (x.loops.all okLp && (x.racks.all (okRk x.brks.length x.loops.length x.switches) && (x.links.all (okLk x.switches) && x.hosts.all (okHo x.racks.length))))))
end Go.Proofs.YthlefdbhkbpejaaGreat

namespace Go.Proofs.YthlefdbhkbpejaaGreat
open Go Go.RowKit

structure Svc where
  cores : Int
  reps : Int
  least : Int
  dom : Int
  spread : Int
  apart : List Int
  ah : Hd
  near : List Near
  nh : Hd
  firm : Int
  deriving Inhabited
abbrev Svc.cells (x : Svc) : List Value := [.int .i64 x.cores, .int .i64 x.reps, .int .i64 x.least, .int .u8 x.dom, .int .i64 x.spread, .slice x.ah.1 x.ah.2.1 x.ah.2.2, .slice x.nh.1 x.nh.2.1 x.nh.2.2, .int .i64 x.firm]
abbrev Svc.val (x : Svc) : Value := .agg x.cells.toArray
abbrev Svs (xs : List Svc) : List (List Value) := xs.map Svc.cells
structure Svc.At (x : Svc) (w : World) : Prop where
  apart : Reads w x.ah 1 x.apart.length (Ints x.apart)
  near : Reads w x.nh 2 x.near.length (Nrs x.near)
theorem Svc.At.later {x : Svc} {w w' : World} (h : x.At w) (hb : Below w.heap.size w w') : x.At w' := ⟨h.apart.later hb, h.near.later hb⟩
structure Wish where
  svcs : List Svc
  sh : Hd
abbrev Wish.cells (x : Wish) : List Value := [.slice x.sh.1 x.sh.2.1 x.sh.2.2]
abbrev Wish.val (x : Wish) : Value := .agg x.cells.toArray
structure Wish.At (x : Wish) (w : World) : Prop where
  svcs : Reads w x.sh 8 x.svcs.length (Svs x.svcs)
  each : ∀ i, i < x.svcs.length → (x.svcs.getD i default).At w
theorem Wish.At.later {x : Wish} {w w' : World} (h : x.At w) (hb : Below w.heap.size w w') : x.At w' := ⟨h.svcs.later hb, fun i hi => (h.each i hi).later hb⟩
structure Wld where
  hosts : List HSt
  hh : Hd
  reps : List Rep
  rh : Hd
abbrev Wld.cells (x : Wld) : List Value := [.slice x.hh.1 x.hh.2.1 x.hh.2.2, .slice x.rh.1 x.rh.2.1 x.rh.2.2]
abbrev Wld.val (x : Wld) : Value := .agg x.cells.toArray
structure Wld.At (x : Wld) (w : World) : Prop where
  hosts : Reads w x.hh 2 x.hosts.length (Hss x.hosts)
  reps : Reads w x.rh 2 x.reps.length (Rps x.reps)
theorem Wld.At.later {x : Wld} {w w' : World} (h : x.At w) (hb : Below w.heap.size w w') : x.At w' := ⟨h.hosts.later hb, h.reps.later hb⟩

/- What a valid wish, a valid world is. -/
/-- Strictly ascending above last, below bound, without but. -/
def ascFrom (bound but : Int) : Int → List Int → Bool
  | _, [] => true
  | last, n :: l => decide (last < n) && decide (n < bound) && !decide (n = but) && ascFrom bound but n l
def spreadOk (x : Svc) : Bool := if x.dom = 0 then decide (x.spread = 0) else decide (x.dom ≤ 5) && inR x.spread 1 24
def svcOk (n : Nat) (i : Nat) (x : Svc) : Bool :=
  inR x.cores 1 1000 && inR x.reps 0 24 && inR x.least 0 x.reps && inR x.firm 0 1000000 && spreadOk x && ascFrom n i (-1) x.apart && ascFrom n i (-1) (x.near.map Near.svc) && x.near.all fun k => inR k.lat 0 1000000
def sumReps (l : List Svc) : Int := l.foldl (fun s x => s + x.reps) 0
def wishOk (x : Wish) : Bool := decide (x.svcs.length ≤ 8) && (List.range x.svcs.length).all (fun i => svcOk x.svcs.length i (x.svcs.getD i default)) && decide (sumReps x.svcs ≤ 24)
def repLt (a b : Rep) : Bool := decide (a.svc < b.svc) || (decide (a.svc = b.svc) && decide (a.host < b.host))
def sortedReps (l : List Rep) : Bool := (List.range (l.length - 1)).all fun i => repLt (l.getD i default) (l.getD (i + 1) default)
def okHs (h : HSt) : Bool := decide (h.phase ≤ 4) && inR h.firm 0 1000000
def okRp (ns nh : Nat) (r : Rep) : Bool := inR r.svc 0 ((ns : Int) - 1) && inR r.host 0 ((nh : Int) - 1)
def worldOk (s : Site) (x : Wish) (v : Wld) : Bool :=
  siteOk s && wishOk x && decide (v.hosts.length = s.hosts.length) && decide (v.reps.length ≤ 24) && sortedReps v.reps && v.hosts.all okHs && v.reps.all (okRp x.svcs.length s.hosts.length)
/-- The cores in use of a host. -/
def used (x : Wish) (v : Wld) (h : Int) : Int := v.reps.foldl (fun s r => if r.host = h ∧ 0 ≤ r.svc ∧ r.svc < (x.svcs.length : Int) then s + (x.svcs.getD r.svc.toNat default).cores else s) 0
/-- The watts of the host i of a valid world. -/
def wattsH (s : Site) (x : Wish) (v : Wld) (i : Nat) : Int := if (v.hosts.getD i default).phase = 4 then 0 else (s.hosts.getD i default).idle + (s.hosts.getD i default).per * used x v i
/-- The watts of the hosts that belong to it. -/
def sumH (s : Site) (x : Wish) (v : Wld) (p : Nat → Bool) : Int := if worldOk s x v = true then (List.range s.hosts.length).foldl (fun a i => if p i = true then a + wattsH s x v i else a) 0 else 0
end Go.Proofs.YthlefdbhkbpejaaGreat
