/- Chapter 15: wishes and worlds as data. -/
import Derived.Test.YtmghcinbdfeeoaaGreatSite
namespace Go.Proofs.YtmghcinbdfeeoaaGreat
open Go Go.RowKit

structure Svc where
  cores : Int
  reps : Int
  least : Int
  dom : Int
  spread : Int
  apart : List Int
  ah : Hd
  near : List Near
  nh : Hd
  firm : Int
  deriving Inhabited
abbrev Svc.cells (x : Svc) : List Value := [.int .i64 x.cores, .int .i64 x.reps, .int .i64 x.least, .int .u8 x.dom, .int .i64 x.spread, .slice x.ah.1 x.ah.2.1 x.ah.2.2, .slice x.nh.1 x.nh.2.1 x.nh.2.2, .int .i64 x.firm]
abbrev Svc.val (x : Svc) : Value := .agg x.cells.toArray
abbrev Svs (xs : List Svc) : List (List Value) := xs.map Svc.cells
structure Svc.At (x : Svc) (w : World) : Prop where
  apart : Reads w x.ah 1 x.apart.length (Ints x.apart)
  near : Reads w x.nh 2 x.near.length (Nrs x.near)
theorem Svc.At.later {x : Svc} {w w' : World} (h : x.At w) (hb : Below w.heap.size w w') : x.At w' := ⟨h.apart.later hb, h.near.later hb⟩
structure Wish where
  svcs : List Svc
  sh : Hd
abbrev Wish.cells (x : Wish) : List Value := [.slice x.sh.1 x.sh.2.1 x.sh.2.2]
abbrev Wish.val (x : Wish) : Value := .agg x.cells.toArray
structure Wish.At (x : Wish) (w : World) : Prop where
  svcs : Reads w x.sh 8 x.svcs.length (Svs x.svcs)
  each : ∀ i, i < x.svcs.length → (x.svcs.getD i default).At w
theorem Wish.At.later {x : Wish} {w w' : World} (h : x.At w) (hb : Below w.heap.size w w') : x.At w' := ⟨h.svcs.later hb, fun i hi => (h.each i hi).later hb⟩
structure Wld where
  hosts : List HSt
  hh : Hd
  reps : List Rep
  rh : Hd
abbrev Wld.cells (x : Wld) : List Value := [.slice x.hh.1 x.hh.2.1 x.hh.2.2, .slice x.rh.1 x.rh.2.1 x.rh.2.2]
abbrev Wld.val (x : Wld) : Value := .agg x.cells.toArray
structure Wld.At (x : Wld) (w : World) : Prop where
  hosts : Reads w x.hh 2 x.hosts.length (Hss x.hosts)
  reps : Reads w x.rh 2 x.reps.length (Rps x.reps)
theorem Wld.At.later {x : Wld} {w w' : World} (h : x.At w) (hb : Below w.heap.size w w') : x.At w' := ⟨h.hosts.later hb, h.reps.later hb⟩

/- What a valid wish, a valid world is. -/
/-- Strictly ascending above last, below bound, without but. -/
def ascFrom (bound but : Int) : Int → List Int → Bool
  | _, [] => true
  | last, n :: l => decide (last < n) && decide (n < bound) && !decide (n = but) && ascFrom bound but n l
def spreadOk (x : Svc) : Bool := if x.dom = 0 then decide (x.spread = 0) else decide (x.dom ≤ 5) && inR x.spread 1 24
def svcOk (n : Nat) (i : Nat) (x : Svc) : Bool :=
  inR x.cores 1 1000 && inR x.reps 0 24 && inR x.least 0 x.reps && inR x.firm 0 1000000 && spreadOk x && ascFrom n i (-1) x.apart && ascFrom n i (-1) (x.near.map Near.svc) && x.near.all fun k => inR k.lat 0 1000000
def sumReps (l : List Svc) : Int := l.foldl (fun s x => s + x.reps) 0
def wishOk (x : Wish) : Bool := decide (x.svcs.length ≤ 8) && (List.range x.svcs.length).all (fun i => svcOk x.svcs.length i (x.svcs.getD i default)) && decide (sumReps x.svcs ≤ 24)
def repLt (a b : Rep) : Bool := decide (a.svc < b.svc) || (decide (a.svc = b.svc) && decide (a.host < b.host))
def sortedReps (l : List Rep) : Bool := (List.range (l.length - 1)).all fun i => repLt (l.getD i default) (l.getD (i + 1) default)
def okHs (h : HSt) : Bool := decide (h.phase ≤ 4) && inR h.firm 0 1000000
def okRp (ns nh : Nat) (r : Rep) : Bool := inR r.svc 0 ((ns : Int) - 1) && inR r.host 0 ((nh : Int) - 1)
def worldOk (s : Site) (x : Wish) (v : Wld) : Bool :=
  siteOk s && wishOk x && decide (v.hosts.length = s.hosts.length) && decide (v.reps.length ≤ 24) && sortedReps v.reps && v.hosts.all okHs && v.reps.all (okRp x.svcs.length s.hosts.length)
/-- The cores in use of a host. -/
def used (x : Wish) (v : Wld) (h : Int) : Int := v.reps.foldl (fun s r => if r.host = h ∧ 0 ≤ r.svc ∧ r.svc < (x.svcs.length : Int) then s + (x.svcs.getD r.svc.toNat default).cores else s) 0
/-- The watts of the host i of a valid world. -/
def wattsH (s : Site) (x : Wish) (v : Wld) (i : Nat) : Int := if (v.hosts.getD i default).phase = 4 then 0 else (s.hosts.getD i default).idle + (s.hosts.getD i default).per * used x v i
/-- The watts of the hosts that belong to it. -/
def sumH (s : Site) (x : Wish) (v : Wld) (p : Nat → Bool) : Int := if worldOk s x v = true then (List.range s.hosts.length).foldl (fun a i => if p i = true then a + wattsH s x v i else a) 0 else 0
end Go.Proofs.YtmghcinbdfeeoaaGreat
