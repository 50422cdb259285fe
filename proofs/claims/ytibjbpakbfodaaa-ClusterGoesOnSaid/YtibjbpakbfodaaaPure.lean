/- The plain model of the node (chapter 15) and of the cluster (chapter 16): what the Go functions compute, as functions on records and lists. No program is in sight here. -/
namespace Go.Proofs.Ytibjbpakbfodaaa

structure Itm where
  term : Int
  cmd : Int

structure Nod where
  id : Int
  n : Int
  term : Int
  vote : Int
  log : List Itm
  commit : Int
  role : Int
  boss : Int
  votes : List Int
  next : List Int
  mtch : List Int

structure Mes where
  kind : Int
  src : Int
  dst : Int
  term : Int
  index : Int
  logTerm : Int
  commit : Int
  items : List Itm
  yes : Bool

/-- The last term of a list whose terms rise from 'last' on; none: they do not. -/
def riseTo : Int → List Itm → Option Int
  | last, [] => some last
  | last, x :: t => if x.term < last then none else riseTo x.term t

def rising (l : List Itm) (most : Int) : Bool :=
  match riseTo 1 l with
  | none => false
  | some last => decide (last ≤ max 1 most)

def peerB (n k least : Int) : Bool := decide (least ≤ k) && decide (k ≤ n)

def votesOk (n : Int) : Int → List Int → Bool
  | _, [] => true
  | prev, v :: t => peerB n v 1 && decide (prev < v) && votesOk n v t

def placesOk (len : Int) : List Int → List Int → Bool
  | a :: s, b :: t => decide (1 ≤ a) && decide (a ≤ len + 1) && decide (0 ≤ b) && decide (b ≤ len) && placesOk len s t
  | _, _ => true

/-- What is wrong with a node: the number of the Errno. -/
def wrong (x : Nod) : Int :=
  if x.n < 1 ∨ 5 < x.n ∨ peerB x.n x.id 1 = false ∨ peerB x.n x.vote 0 = false ∨ peerB x.n x.boss 0 = false then 3
  else if x.term < 0 ∨ 1000000 < x.term ∨ x.commit < 0 ∨ (x.log.length : Int) < x.commit then 3
  else if x.role < 1 ∨ 3 < x.role ∨ (x.role ≠ 1 ∧ x.term = 0) then 1
  else if 60 < x.log.length then 4
  else if rising x.log x.term = false ∨ (0 < x.log.length ∧ x.term = 0) then 2
  else if 0 < x.votes.length ∧ x.role ≠ 2 then 8
  else if votesOk x.n 0 x.votes = false then 2
  else if (x.next.length : Int) ≠ (if x.role = 3 then x.n else 0) ∨ (x.mtch.length : Int) ≠ (if x.role = 3 then x.n else 0) then 8
  else if placesOk x.log.length x.next x.mtch = false then 3
  else 0

/-- The term of item i, numbered from 1 on. -/
def termAt (l : List Itm) (i : Int) : Int := if i < 1 then 0 else ((l[(i - 1).toNat]?).map Itm.term).getD 0

def lost (x : Nod) (m : Mes) : Bool :=
  if m.dst ≠ x.id ∨ m.src < 1 ∨ x.n < m.src ∨ m.src = x.id ∨ m.kind < 1 ∨ 4 < m.kind then true
  else if m.term < 1 ∨ 1000000 < m.term ∨ m.index < 0 ∨ m.commit < 0 ∨ m.logTerm < 0 ∨ m.term < m.logTerm then true
  else decide (60 < m.index) || decide (60 - m.index < m.items.length) || !rising m.items m.term || (decide (0 < m.items.length) && decide (termAt m.items 1 < m.logTerm))

/-- Start. -/
def start (id n : Int) : Nod := ⟨id, n, 0, 0, [], 0, 1, 0, [], [], []⟩

def follow (x : Nod) (term boss : Int) : Nod :=
  { x with term := if x.term < term then term else x.term, vote := if x.term < term then 0 else x.vote, role := 1, boss := boss, votes := [], next := [], mtch := [] }

/-- All others, in order. -/
def others (x : Nod) : List Int := ((List.range x.n.toNat).map fun (j : Nat) => (j : Int) + 1).filter fun k => decide (k ≠ x.id)

def at_ (l : List Int) (k : Int) : Int := (l[(k - 1).toNat]?).getD 0

/-- What is sent to node k. -/
def sends (x : Nod) (k : Int) : Mes :=
  { kind := 3, src := x.id, dst := k, term := x.term, index := at_ x.next k - 1, logTerm := termAt x.log (at_ x.next k - 1), commit := x.commit,
    items := (x.log.drop (at_ x.next k - 1).toNat).take 3, yes := false }

/-- How many have at least so many items. -/
def have_ (l : List Int) (i : Int) : Nat := (l.filter fun m => decide (i ≤ m)).length

def sureAt (x : Nod) : Nat → Int
  | 0 => x.commit
  | i + 1 => if x.commit < (i : Int) + 1 ∧ termAt x.log ((i : Int) + 1) = x.term then
      if x.n < 2 * (have_ x.mtch ((i : Int) + 1) : Int) then (i : Int) + 1 else sureAt x i
    else x.commit

def sure (x : Nod) : Nod := { x with commit := sureAt x x.log.length }

/-- With an item more, if there is room, and its own places. -/
def grown (x : Nod) (cmd : Int) : Nod :=
  if x.log.length < 60 then { x with log := x.log ++ [⟨x.term, cmd⟩] } else x

def noted (x : Nod) : Nod :=
  { x with mtch := x.mtch.set (x.id - 1).toNat x.log.length, next := x.next.set (x.id - 1).toNat ((x.log.length : Int) + 1) }

def put (x : Nod) (cmd : Int) : Nod := sure (noted (grown x cmd))

def putSays (x : Nod) (cmd : Int) : List Mes := (others (put x cmd)).map (sends (put x cmd))

/-- What a node is that has just come to lead. -/
def crowned (x : Nod) : Nod :=
  { x with role := 3, boss := x.id, votes := [], next := List.replicate x.n.toNat ((x.log.length : Int) + 1), mtch := List.replicate x.n.toNat 0 }

def lead (x : Nod) : Nod := if x.n < 2 * (x.votes.length : Int) then put (crowned x) 0 else x
def leadSays (x : Nod) : List Mes := if x.n < 2 * (x.votes.length : Int) then putSays (crowned x) 0 else []

/-- A candidate of the next term. -/
def stood (x : Nod) : Nod := { x with term := x.term + 1, role := 2, boss := 0, vote := x.id, votes := [x.id] }

def asks (x : Nod) (k : Int) : Mes :=
  { kind := 1, src := x.id, dst := k, term := x.term, index := x.log.length, logTerm := termAt x.log x.log.length, commit := 0, items := [], yes := false }

def timeout (x : Nod) : Nod × List Mes :=
  if wrong x ≠ 0 ∨ x.role = 3 ∨ x.term = 1000000 then (x, [])
  else (lead (stood x), (others (stood x)).map (asks (stood x)) ++ leadSays (stood x))

def beat (x : Nod) : Nod × List Mes :=
  if wrong x ≠ 0 ∨ x.role ≠ 3 then (x, []) else (x, (others x).map (sends x))

def propose (x : Nod) (cmd : Int) : Nod × List Mes × Bool :=
  if wrong x ≠ 0 ∨ x.role ≠ 3 ∨ 60 ≤ x.log.length then (x, [], false) else (put x cmd, putSays x cmd, true)

def restart (x : Nod) : Nod :=
  if wrong x ≠ 0 then x else { follow x x.term 0 with commit := 0 }

/-- Does it vote for the one that asks? -/
def votesFor (x : Nod) (m : Mes) : Bool :=
  decide (m.term = x.term) && (decide (x.vote = 0) || decide (x.vote = m.src)) &&
    (decide (termAt x.log x.log.length < m.logTerm) || (decide (m.logTerm = termAt x.log x.log.length) && decide ((x.log.length : Int) ≤ m.index)))

def asked (x : Nod) (m : Mes) : Nod × List Mes :=
  ({ x with vote := if votesFor x m then m.src else x.vote },
   [{ kind := 2, src := x.id, dst := m.src, term := x.term, index := 0, logTerm := 0, commit := 0, items := [], yes := votesFor x m }])

/-- Put in, in order, if it isn't there. -/
def insertB (k : Int) : List Int → List Int
  | [] => [k]
  | v :: t => if v < k then v :: insertB k t else if v = k then v :: t else k :: v :: t

def voted (x : Nod) (m : Mes) : Nod × List Mes :=
  if x.role ≠ 2 ∨ m.term ≠ x.term ∨ m.yes = false then (x, [])
  else (lead { x with votes := insertB m.src x.votes }, leadSays { x with votes := insertB m.src x.votes })

/-- Items held against those of a log from place 'at' on: the log, and what of it is sure. -/
def taken : Nat → List Itm → List Itm → Int → List Itm × Int
  | _, [], l, c => (l, c)
  | k, x :: t, l, c =>
    match l[k]? with
    | some y => if y.term ≠ x.term then taken (k + 1) t (l.take k ++ [x]) (min c k) else taken (k + 1) t l c
    | none => taken (k + 1) t (l ++ [x]) c

def says (x : Nod) (m : Mes) (yes : Bool) (index : Int) : Mes :=
  { kind := 4, src := x.id, dst := m.src, term := x.term, index := index, logTerm := 0, commit := 0, items := [], yes := yes }

def appended (x : Nod) (m : Mes) : Nod × List Mes :=
  if m.term < x.term ∨ x.role = 3 then (x, [says x m false x.log.length])
  else
    let y := follow x m.term m.src
    if (y.log.length : Int) < m.index ∨ (termAt y.log m.index ≠ m.logTerm ∧ 0 < m.index) then
      (y, [says y m false (max 0 (min (y.log.length : Int) (m.index - 1)))])
    else
      let r := taken m.index.toNat m.items y.log y.commit
      ({ y with log := r.1, commit := max r.2 (min m.commit (m.index + m.items.length)) }, [says y m true (m.index + m.items.length)])

/-- A leader that hears that node k has so many items. -/
def hears (x : Nod) (m : Mes) : Nod :=
  let have1 := max (at_ x.mtch m.src) (min m.index x.log.length)
  sure { x with mtch := x.mtch.set (m.src - 1).toNat have1, next := x.next.set (m.src - 1).toNat (have1 + 1) }

def backs (x : Nod) (m : Mes) : Nod :=
  { x with next := x.next.set (m.src - 1).toNat (max 1 (min (at_ x.next m.src - 1) (m.index + 1))) }

def told (x : Nod) (m : Mes) : Nod × List Mes :=
  if x.role ≠ 3 ∨ m.term ≠ x.term then (x, [])
  else if m.yes then (hears x m, if at_ (hears x m).next m.src ≤ x.log.length then [sends (hears x m) m.src] else [])
  else (backs x m, [sends (backs x m) m.src])

def receive (x : Nod) (m : Mes) : Nod × List Mes :=
  if wrong x ≠ 0 ∨ lost x m = true then (x, [])
  else
    let y := if x.term < m.term then follow x m.term 0 else x
    if m.kind = 1 then asked y m else if m.kind = 2 then voted y m else if m.kind = 3 then appended y m else told y m

end Go.Proofs.Ytibjbpakbfodaaa
