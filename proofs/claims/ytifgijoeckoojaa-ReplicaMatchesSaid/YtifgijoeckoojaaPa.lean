/-
  A replica in plain Lean: what each of its functions does.
-/
import Derived.Test.YtifgijoeckoojaaVcQ
set_option linter.unusedVariables false
set_option linter.unusedSimpArgs false
namespace Go.Proofs.Ytifgijoeckoojaa
open Go.Vc

structure RecD where
  term : Int
  data : ByteArray
instance : Gv RecD := Gv.via (β := Int × ByteArray) (fun x => (x.term, x.data)) (fun y => ⟨y.1, y.2⟩) (fun _ => rfl)

theorem rec_ext {x y : RecD} : x = y ↔ (x.term = y.term ∧ x.data = y.data) := by cases x; cases y; simp
instance : DecidableEq RecD := fun _ _ => decidable_of_iff _ rec_ext.symm

structure MsgR where
  kind : Int
  src : Int
  to : Int
  term : Int
  index : Int
  prev : Int
  commit : Int
  yes : Bool
  recs : List RecD
instance : Gv MsgR := Gv.via (β := Int × Int × Int × Int × Int × Int × Int × Bool × List RecD) (fun x => (x.kind, x.src, x.to, x.term, x.index, x.prev, x.commit, x.yes, x.recs))
  (fun y => ⟨y.1, y.2.1, y.2.2.1, y.2.2.2.1, y.2.2.2.2.1, y.2.2.2.2.2.1, y.2.2.2.2.2.2.1, y.2.2.2.2.2.2.2.1, y.2.2.2.2.2.2.2.2⟩) (fun _ => rfl)

structure OutR where
  save : Bool
  term : Int
  vote : Int
  src : Int
  recs : List RecD
  send : List MsgR

abbrev out0 : OutR := ⟨false, 0, 0, 0, [], []⟩
abbrev outS (l : List MsgR) : OutR := ⟨false, 0, 0, 0, [], l⟩

structure Rep where
  id : Nat
  term : Int
  vote : Int
  log : List RecD
  role : Int
  commit : Nat
  votes : Nat → Bool
  next : Nat → Nat
  mat : Nat → Nat

def soundR : List RecD → Int → Int → Bool
  | [], _, _ => true
  | x :: l, least, most => if (decide (x.term < least) || decide (most < x.term) || decide (2000 < (x.data.size : Int))) = true then false else soundR l x.term most

/-- the term of an entry; 0 for the number 0, and behind the last one -/
def termAt (l : List RecD) : Nat → Int
  | 0 => 0
  | k + 1 => match l[k]? with
    | some x => x.term
    | none => 0

def othersOf (id : Nat) : List Nat := if id = 0 then [1, 2] else if id = 1 then [0, 2] else [0, 1]

def put {α : Type} (f : Nat → α) (i : Nat) (x : α) : Nat → α := fun j => if j = i then x else f j

def msgOf (r : Rep) (kind to : Int) : MsgR := ⟨kind, r.id, to, r.term, 0, 0, 0, false, []⟩

def entriesOf (r : Rep) (to : Nat) : MsgR :=
  ⟨2, r.id, to, r.term, ((r.next to - 1 : Nat) : Int), termAt r.log (r.next to - 1), r.commit, false, (r.log.drop (r.next to - 1)).take 8⟩

def allOf (r : Rep) : List MsgR := (othersOf r.id).map fun i => entriesOf r i

def newRep (id : Nat) (term vote : Int) (log : List RecD) : Rep := ⟨id, term, vote, log, 0, 0, fun _ => false, fun _ => 0, fun _ => 0⟩

def askOf (r : Rep) (to : Nat) : MsgR := ⟨0, r.id, to, r.term, r.log.length, termAt r.log r.log.length, 0, false, []⟩

def tickP (r : Rep) : Rep × OutR :=
  if r.role = 2 then (r, outS (allOf r))
  else if r.term = 1099511627776 then (r, out0)
  else
    let r1 : Rep := { r with term := r.term + 1, vote := r.id, role := 1, votes := fun i => decide (i = r.id) }
    (r1, ⟨true, r1.term, r1.vote, 0, [], (othersOf r.id).map fun i => askOf r1 i⟩)

def rightP (id : Nat) (m : MsgR) : Bool :=
  decide (0 ≤ m.kind) && decide (m.kind ≤ 3) && decide (m.to = id) && decide (m.src ≠ id) && decide (0 ≤ m.src) && decide (m.src ≤ 2) && decide (1 ≤ m.term) && decide (m.term ≤ 1099511627776) && decide (0 ≤ m.index) && decide (m.index ≤ 4000) &&
    decide (0 ≤ m.prev) && decide (m.prev ≤ m.term) && !(decide (m.index = 0) && decide (m.prev ≠ 0)) && decide (0 ≤ m.commit) && decide (m.commit ≤ 4000) && decide ((m.recs.length : Int) ≤ 8) && decide (m.index + (m.recs.length : Int) ≤ 4000) && soundR m.recs (max 1 m.prev) m.term

def freshP (r : Rep) (m : MsgR) : Bool := decide (termAt r.log r.log.length < m.prev) || decide (m.prev = termAt r.log r.log.length) && decide ((r.log.length : Int) ≤ m.index)

def voteP (r : Rep) (m : MsgR) : Rep × OutR :=
  if (decide (m.term = r.term) && (decide (r.vote = -1) || decide (r.vote = m.src)) && freshP r m) = true then ({ r with vote := m.src }, outS [⟨1, r.id, m.src, r.term, 0, 0, 0, true, []⟩])
  else (r, outS [msgOf r 1 m.src])

def b2n (b : Bool) : Nat := if b then 1 else 0
def countV (v : Nat → Bool) : Nat := b2n (v 0) + b2n (v 1) + b2n (v 2)

def votedP (r : Rep) (m : MsgR) : Rep × OutR :=
  if (decide (r.role ≠ 1) || decide (m.term ≠ r.term) || !m.yes) = true then (r, out0)
  else
    let r1 : Rep := { r with votes := put r.votes m.src.toNat true }
    if countV r1.votes < 2 then (r1, out0)
    else
      let r2 : Rep := { r1 with role := 2, next := fun _ => r.log.length + 1, mat := fun _ => 0 }
      (r2, outS (allOf r2))

/-- how many of the entries are there, by their terms -/
def agree : List RecD → List RecD → Nat
  | a :: l, b :: r => if a.term = b.term then agree l r + 1 else 0
  | _, _ => 0

def ackOf (r : Rep) (m : MsgR) : MsgR := ⟨3, r.id, m.src, r.term, m.index + m.recs.length, 0, 0, true, []⟩

def appendP (r : Rep) (m : MsgR) : Rep × OutR :=
  if m.term < r.term then (r, outS [msgOf r 3 m.src])
  else if r.role = 2 then (r, out0)
  else
    let r1 : Rep := { r with role := 0 }
    if (decide ((r.log.length : Int) < m.index) || decide (termAt r.log m.index.toNat ≠ m.prev)) = true then (r1, outS [⟨3, r.id, m.src, r.term, min (r.log.length : Int) (m.index - 1), 0, 0, false, []⟩])
    else
      let ix := m.index.toNat
      let k := agree (r.log.drop ix) m.recs
      let c := max r.commit (min m.commit.toNat (ix + m.recs.length))
      if k < m.recs.length then
        if ix + k + 1 ≤ r.commit then (r1, out0)
        else ({ r1 with log := r.log.take (ix + k) ++ m.recs.drop k, commit := c }, ⟨false, 0, 0, ((ix + k + 1 : Nat) : Int), m.recs.drop k, [ackOf r m]⟩)
      else ({ r1 with commit := c }, outS [ackOf r m])

def mostOf (r : Rep) : Nat := (othersOf r.id).foldl (fun a i => max a (r.mat i)) 0

def advanceP (r : Rep) : Rep := if (decide (r.commit < mostOf r) && decide (termAt r.log (mostOf r) = r.term)) = true then { r with commit := mostOf r } else r

def appendedP (r : Rep) (m : MsgR) : Rep × OutR :=
  if (decide (r.role ≠ 2) || decide (m.term ≠ r.term) || m.yes && decide ((r.log.length : Int) < m.index)) = true then (r, out0)
  else
    let f := m.src.toNat
    if m.yes = false then
      let r1 : Rep := { r with next := put r.next f (max (r.mat f + 1) (min (r.next f - 1) (m.index.toNat + 1))) }
      (r1, outS [entriesOf r1 f])
    else
      let mt := max (r.mat f) m.index.toNat
      let r1 : Rep := advanceP { r with mat := put r.mat f mt, next := put r.next f (mt + 1) }
      if mt + 1 ≤ r.log.length then (r1, outS [entriesOf r1 f]) else (r1, out0)

def hearP (r : Rep) (m : MsgR) : Rep × OutR :=
  if rightP r.id m = false then (r, out0)
  else
    let r1 : Rep := if r.term < m.term then { r with term := m.term, vote := -1, role := 0 } else r
    let x : Rep × OutR := if m.kind = 0 then voteP r1 m else if m.kind = 1 then votedP r1 m else if m.kind = 2 then appendP r1 m else appendedP r1 m
    if (decide (x.1.term = r.term) && decide (x.1.vote = r.vote)) = true then x
    else (x.1, { x.2 with save := true, term := x.1.term, vote := x.1.vote })

def proposeP (r : Rep) (data : ByteArray) : Rep × Int × Int × OutR :=
  if r.role ≠ 2 then (r, 0, 24, out0)
  else if 2000 < (data.size : Int) then (r, 0, 1, out0)
  else if r.log.length = 4000 then (r, 0, 6, out0)
  else
    let x : RecD := ⟨r.term, data⟩
    let r1 : Rep := { r with log := r.log ++ [x] }
    (r1, ((r.log.length + 1 : Nat) : Int), 0, ⟨false, 0, 0, ((r.log.length + 1 : Nat) : Int), [x], allOf r1⟩)

/-- entries have terms from a least one on that never decrease, up to a greatest one, and short data -/
structure Sorted (l : List RecD) (most : Int) : Prop where
  lo : ∀ x ∈ l, 1 ≤ x.term
  hi : ∀ x ∈ l, x.term ≤ most
  data : ∀ x ∈ l, x.data.size ≤ 2000
  asc : ∀ i j, i ≤ j → (hj : j < l.length) → (hi : i < l.length) → l[i].term ≤ l[j].term

structure Rep.Ok (r : Rep) : Prop where
  id : r.id ≤ 2
  term0 : 0 ≤ r.term
  termM : r.term ≤ 1099511627776
  vote0 : -1 ≤ r.vote
  voteM : r.vote ≤ 2
  log : Sorted r.log r.term
  len : r.log.length ≤ 4000
  role : r.role = 0 ∨ r.role = 1 ∨ r.role = 2
  commit : r.commit ≤ r.log.length
  next : r.role = 2 → ∀ i, 1 ≤ r.next i ∧ r.next i ≤ r.log.length + 1 ∧ r.mat i ≤ r.log.length
  bound : ∀ i, r.next i ≤ 4001 ∧ r.mat i ≤ 4000

end Go.Proofs.Ytifgijoeckoojaa
