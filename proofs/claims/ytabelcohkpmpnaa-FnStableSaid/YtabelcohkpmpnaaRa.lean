/- Routes: what they are, what a router could have, what it chooses, and the states in which none would choose anew. No program. -/
import Derived.Test.YtabelcohkpmpnaaWn
set_option linter.unusedSimpArgs false
set_option linter.unusedVariables false
namespace Go.Proofs.Ytabelcohkpmpnaa.Lg
open Go
structure Rt where
  via : Int
  pref : Int
  len : Int
  mark : Bool
  deriving DecidableEq, Inhabited
def noRt : Rt := ⟨-3, 0, 0, false⟩
def rtC (r : Rt) : List V := [.int .i64 r.via, .int .i64 r.pref, .int .i64 r.len, .bool r.mark]
def rtsV (rs : List Rt) : List V := rs.map fun r => .agg (rtC r)
def rtAt (rs : List Rt) (k : Int) : Rt := rs.getD k.toNat default
/-- Whether the way from a router comes to another one, in so many steps, or does not end. -/
def thr (rs : List Rt) (router : Int) : Nat → Int → Bool
  | 0, _ => true
  | m + 1, k => if k = router then true else if k < 0 then false else if (rtAt rs k).via < 0 then false else thr rs router m (rtAt rs k).via
def throughP (rs : List Rt) (from_ router : Int) : Bool := thr rs router (rs.length + 1) from_
def impSkip (router from_ : Int) (x : Imp) (r : Rt) : Bool := !decide (x.at_ = router) || !decide (x.from_ = from_) || (decide (x.when_ = 1) && !r.mark) || (decide (x.when_ = 2) && r.mark)
def impGo (router from_ : Int) : List Imp → Rt → Option Rt
  | [], r => some r
  | x :: xs, r => if impSkip router from_ x r then impGo router from_ xs r else
      if x.do_ = 1 then none else if x.do_ = 2 then impGo router from_ xs { r with pref := x.n } else impGo router from_ xs { r with mark := decide (x.do_ = 3) }
def linkAtP (n : Net) (a b : Int) : Link := n.links.getD (linkP n.links a b).toNat default
def importO (n : Net) (router from_ : Int) (r : Rt) : Option Rt := impGo router from_ n.imports ⟨from_, 100, r.len + (linkAtP n router from_).cost, r.mark⟩
def hasI (xs : List Int) (x : Int) : Int := firstP (fun y => decide (y = x)) xs
def nearB (n : Net) (router : Int) (down : List Bool) (k : Nat) : Bool := decide (0 ≤ linkP n.links router k) && !down.getD (linkP n.links router k).toNat false
def nearP (n : Net) (router : Int) (down : List Bool) : List Int := ((List.range n.routers.length).filter (nearB n router down)).map fun (k : Nat) => (k : Int)
def ownL (n : Net) (router : Int) : List Rt := if 0 ≤ hasI n.origins router then [⟨-2, 200, 0, false⟩] else []
def outB (n : Net) (router : Int) (env : List Int) : Bool := decide (0 ≤ hasI n.externals router) && decide (0 < env.getD (hasI n.externals router).toNat 0)
def outL (n : Net) (router : Int) (env : List Int) : List Rt := if outB n router env then [⟨-1, 100, 2, decide (env.getD (hasI n.externals router).toNat 0 = 2)⟩] else []
def viaO (n : Net) (router : Int) (rs : List Rt) (v : Int) : Option Rt := if (rtAt rs v).via = -3 ∨ throughP rs v router then none else importO n router v (rtAt rs v)
def candP (n : Net) (router : Int) (env : List Int) (down : List Bool) (rs : List Rt) : List Rt :=
  ownL n router ++ outL n router env ++ (nearP n router down).filterMap (viaO n router rs)
def betterP (a b : Rt) : Bool := if a.pref ≠ b.pref then decide (b.pref < a.pref) else if a.len ≠ b.len then decide (a.len < b.len) else decide (a.via < b.via)
def bestStep (o r : Rt) : Rt := if o.via = -3 ∨ betterP r o then r else o
def bestP (l : List Rt) : Rt := l.foldl bestStep noRt
def ofStep (n : Net) (env : List Int) (down : List Bool) (vias : List Int) (s : List Rt × List Bool) (i : Nat) : Option (List Rt × List Bool) :=
  if s.2.getD i false ∨ (0 ≤ vias.getD i 0 ∧ s.2.getD (vias.getD i 0).toNat false = false) then some s
  else if vias.getD i 0 = -3 then some (s.1, s.2.set i true)
  else match ((candP n i env down s.1).filter fun r => decide (r.via = vias.getD i 0)).getLast? with
    | none => none
    | some r => some (s.1.set i r, s.2.set i true)
def ofRound (n : Net) (env : List Int) (down : List Bool) (vias : List Int) (s : List Rt × List Bool) : Option (List Rt × List Bool) := (List.range vias.length).foldlM (ofStep n env down vias) s
def ofP (n : Net) (env : List Int) (down : List Bool) (vias : List Int) : Option (List Rt) :=
  ((List.range (vias.length + 1)).foldlM (fun s _ => ofRound n env down vias s) (List.replicate vias.length noRt, List.replicate vias.length false)).bind fun s => if s.2.all id then some s.1 else none
def stableB (n : Net) (env : List Int) (down : List Bool) (rs : List Rt) : Bool := (List.range rs.length).all fun i => decide (bestP (candP n i env down rs) = rs.getD i default)
def optL (n : Net) (router : Int) (env : List Int) : List Int :=
  (if 0 ≤ hasI n.origins router then [-2] else []) ++ (if outB n router env then [-1] else [])
def optP (n : Net) (router : Int) (env : List Int) (down : List Bool) : List Int :=
  (if optL n router env = [] then [-3] else optL n router env) ++ nearP n router down
def growP (n : Net) (env : List Int) (down : List Bool) (out : List (List Int)) (i : Nat) : List (List Int) := out.flatMap fun c => (optP n i env down).map fun v => c ++ [v]
def choiceP (n : Net) (env : List Int) (down : List Bool) : List (List Int) := (List.range n.routers.length).foldl (growP n env down) [[]]
def stateO (n : Net) (env : List Int) (down : List Bool) (vs : List Int) : Option (List Rt) := (ofP n env down vs).bind fun rs => if stableB n env down rs then some rs else none
def statesP (n : Net) (env : List Int) (down : List Bool) : List (List Rt) := (choiceP n env down).filterMap (stateO n env down)
/-- What is around a network is right. -/
def envB (n : Net) (env : List Int) (down : List Bool) : Bool := decide (env.length = n.externals.length) && decide (down.length = n.links.length) && env.all fun x => inB x 0 2
def envCode (n : Net) (env : List Int) (down : List Bool) : Int :=
  if 4096 < env.length ∨ 4096 < down.length then 2 else if netB n = false then 1 else if envB n env down then 0 else 5
/-- Where a packet ends, and its way. -/
def walkGo (n : Net) (rs : List Rt) (port : Int) : Nat → Int → List Int → Int × List Int
  | 0, _, path => (3, path)
  | m + 1, at_, path =>
    if (rtAt rs at_).via = -2 then (1, path) else if (rtAt rs at_).via = -1 then (2, path) else if (rtAt rs at_).via = -3 then (3, path)
    else if n.filters.any (filtB at_ (rtAt rs at_).via port) then (4, path) else walkGo n rs port m (rtAt rs at_).via (path ++ [(rtAt rs at_).via])
def walkP (n : Net) (rs : List Rt) (from_ port : Int) : Int × List Int := walkGo n rs port rs.length from_ [from_]
/-- A route is right for a router. -/
def rtB (n : Net) (i : Nat) (r : Rt) : Bool := inB r.via (-3) (n.routers.length - 1) && inB r.pref 0 1000 && inB r.len 0 10000 && (decide (r.via < 0) || decide (0 ≤ linkP n.links i r.via)) && (!decide (r.via = -3) || decide (r = noRt))
def rtsB (n : Net) (rs : List Rt) : Bool := decide (rs.length = n.routers.length) && (List.range rs.length).all fun i => rtB n i (rs.getD i default)
end Go.Proofs.Ytabelcohkpmpnaa.Lg
