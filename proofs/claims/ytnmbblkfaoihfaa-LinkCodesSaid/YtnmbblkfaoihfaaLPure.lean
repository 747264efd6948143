/- Package link: what an end does, by definition. -/
namespace Go.Proofs.Ytnmbblkfaoihfaa

/-- A body that is not known to have come. -/
structure LIt where
  seq : Int
  body : List Nat
  tries : Int
  due : Int
/-- An end. -/
structure LSt where
  l : List LIt
  sent : Int
  mark : Int
/-- A packet. -/
structure LPk where
  seq : Int
  ack : Int
  body : List Nat

def waitL (t : Int) : Int := if t < 0 then 0 else if t = 0 then 2 else if t = 1 then 4 else if t = 2 then 8 else 16
def nextL (now t : Int) : Int := if 9223372036854775807 - waitL t < now then 9223372036854775807 else now + waitL t
def mayL (p : LPk) : Bool := decide (0 ≤ p.seq) && decide (p.seq ≤ 1099511627776) && decide (0 ≤ p.ack) && decide (p.ack ≤ 1099511627776) && decide (p.body.length ≤ 2048) && (decide (0 < p.seq) || decide (p.body.length = 0))
/-- Which number Send answers. -/
def sendE (s : LSt) (b : List Nat) : Int := if 2048 < b.length then 3 else if 64 ≤ s.l.length then 2 else 0
def sendS (s : LSt) (b : List Nat) (now : Int) : LSt := if sendE s b = 0 then ⟨s.l ++ [⟨s.sent + 1, b, 1, nextL now 0⟩], s.sent + 1, s.mark⟩ else s
def sendP (s : LSt) (b : List Nat) : LPk := if sendE s b = 0 then ⟨s.sent + 1, s.mark, b⟩ else ⟨0, 0, []⟩
def tickI (now : Int) (x : LIt) : LIt := if x.due ≤ now then ⟨x.seq, x.body, x.tries + 1, nextL now x.tries⟩ else x
def tickS (s : LSt) (now : Int) : LSt := ⟨s.l.map (tickI now), s.sent, s.mark⟩
def tickP (s : LSt) (now : Int) : List LPk := (s.l.filter fun x => decide (x.due ≤ now)).map fun x => ⟨x.seq, s.mark, x.body⟩
def onL (s : LSt) (p : LPk) : List LIt := s.l.filter fun x => !decide (x.seq ≤ p.ack)
def onS (s : LSt) (p : LPk) : LSt := if mayL p then ⟨onL s p, s.sent, if p.seq ≠ 0 ∧ p.seq = s.mark + 1 then s.mark + 1 else s.mark⟩ else s
def onB (s : LSt) (p : LPk) : List Nat := if mayL p ∧ p.seq ≠ 0 ∧ p.seq = s.mark + 1 then p.body else []
def onI (s : LSt) (p : LPk) : Bool := decide (mayL p = true ∧ p.seq ≠ 0 ∧ p.seq = s.mark + 1)
def onP (s : LSt) (p : LPk) : LPk := if mayL p = true ∧ p.seq ≠ 0 then ⟨0, (onS s p).mark, []⟩ else ⟨0, 0, []⟩
end Go.Proofs.Ytnmbblkfaoihfaa
