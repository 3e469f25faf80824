/- The plain specification of protocols: items, rules, divisions of children, what is missing, its order; no program in sight. -/
namespace PSpec

/-- An item: operation, least, most. -/
abbrev It := Int × Int × Int
/-- A rule: operation, items. -/
abbrev Rl := Int × List It
abbrev Pr := List Rl

def opB (n : Int) : Bool := decide (0 ≤ n) && decide (n < 12)
def itB (x : It) : Bool := opB x.1 && decide (1 ≤ x.2.2) && decide (x.2.2 ≤ 9) && decide (0 ≤ x.2.1) && decide (x.2.1 ≤ x.2.2)
def ruleB (r : Rl) : Bool := opB r.1 && decide (r.2.length ≤ 6) && r.2.all itB
def validB (p : Pr) : Bool := decide (p.length ≤ 24) && p.all ruleB
def childrenB (l : List Int) : Bool := l.all opB && decide (l.length ≤ 30)

/-- k times x put into an ascending list behind its equals. -/
def insN (x : Int) (k : Nat) (m : List Int) : List Int :=
  m.takeWhile (fun y => decide (y ≤ x)) ++ List.replicate k x ++ m.dropWhile (fun y => decide (y ≤ x))

/-- lists of one length compared as sequences -/
def lexB : List Int → List Int → Bool
  | a :: as, b :: bs => if a = b then lexB as bs else decide (a < b)
  | _, _ => false
/-- a stands before b -/
def befB (a b : List Int) : Bool := if a.length = b.length then lexB a b else decide (a.length < b.length)

/-- how many of the first children the item may get -/
def maxT (x : It) (ch : List Int) : Nat := ((ch.take x.2.2.toNat).takeWhile (fun y => decide (y = x.1))).length

/-- what is missing in the divisions of ch among the items, a list for each division -/
def divs : List It → List Int → List (List Int)
  | [], ch => if ch.isEmpty then [[]] else []
  | x :: its, ch => (List.range (maxT x ch + 1)).flatMap fun t => (divs its (ch.drop t)).map (insN x.1 (x.2.1 - t).toNat)

def better (a : Option (List Int)) (b : List Int) : Option (List Int) :=
  match a with
  | none => some b
  | some m => if befB b m then some b else some m
/-- the first of some lists -/
def best (l : List (List Int)) : Option (List Int) := l.foldl better none

def rulesOf (p : Pr) (op : Int) : List Rl := p.filter (fun r => decide (r.1 = op))
def divsAll (rs : List Rl) (ch : List Int) : List (List Int) := rs.flatMap fun r => divs r.2 ch

/-- Match: the missing operations and the error. -/
def matchF (p : Pr) (op : Int) (ch : List Int) : List Int × Int :=
  if validB p && opB op && childrenB ch then
    if (rulesOf p op).isEmpty then ([], 0) else
    match best (divsAll (rulesOf p op) ch) with
    | some m => (m, 0)
    | none => ([], 130)
  else ([], 2)

def accB (p : Pr) (op : Int) (ch : List Int) : Bool := decide ((matchF p op ch).2 = 0) && (matchF p op ch).1.isEmpty

def pickZ (c n : Int) : Int := (if c < 0 then -(c + 1) else c) % n

end PSpec
