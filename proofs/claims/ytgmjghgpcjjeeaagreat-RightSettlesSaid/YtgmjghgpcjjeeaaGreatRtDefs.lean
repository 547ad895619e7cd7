/-
  RIGHT MODULES, as plain functions on terms: statements, declarations, a module's settled form.
  No condition.
-/
import Derived.Test.YtgmjghgpcjjeeaaGreatTzList
set_option linter.unusedSimpArgs false
namespace Go.Nt.Ty
open Go Go.Nt

/-- A grown list's flag. -/
def pfl : List Tm → Fl
  | [] => .nil
  | _ :: _ => .part

/-- A term without names and places. -/
def cleanT : Tm → Tm
  | .mk k n _ _ l _ _ => .mk k n [] (pfl l) (l.map cleanT) 0 0
theorem cleanT_eq (t : Tm) : cleanT t = .mk t.k t.n [] (pfl t.l) (t.l.map cleanT) 0 0 := by cases t; simp [cleanT]

/-- Has a statement the parts that its kind asks for? -/
def partsN (k : Int) : Nat × Nat := if k = 22 then (2, 0) else if k = 23 then (3, 2) else if k = 24 then (2, 1) else if k = 25 then (3, 1) else (1, 0)
def isStmt (k : Int) : Bool := decide (k = 20) || decide (k = 21) || decide (k = 22) || decide (k = 23) || decide (k = 24) || decide (k = 25) || decide (k = 26) || decide (k = 27) || decide (k = 28)
def shapeT (t : Tm) : Bool :=
  if t.k = 29 then true else isStmt t.k && (decide (t.l.length = (partsN t.k).1) && (t.l.drop ((partsN t.k).1 - (partsN t.k).2)).all fun x => decide (x.k = 29))

/-- The root of a place. -/
def rootT : Tm → Tm
  | .mk k n s fl l a b => if k = 12 ∨ k = 13 then (match l with | [] => .mk k n s fl l a b | x :: _ => rootT x) else .mk k n s fl l a b

abbrev Er (α : Type) : Type := Except (Int × Int) α

/-- An expression of one of two kinds of types. -/
def onlyT (m : Tm) (locs : List Tm) (t : Tm) (k1 k2 : Int) : Er Tm :=
  match ofT m locs t with
  | .error e => .error e
  | .ok (a, s) => if (isT a k1 || isT a k2) = true then .ok s else .error (t.a, 10)

/-- A type that may stand. -/
def kindT (m t : Tm) : Er Tm := if cellsV m t = 0 then .error (t.a, 11) else .ok (cleanT t)

/-- What a statement without blocks settles to, and the local that it brings. -/
def leafS (m ret : Tm) (locs : List Tm) (k : Int) (a0 : Int) (l : List Tm) : Er (List Tm × List Tm) :=
  match l with
  | [t] =>
    if k = 20 then (match ofT m locs t with | .error e => .error e | .ok (a, s) => .ok ([s], locs ++ [a])) else
    if k = 21 then (match kindT m t with | .error e => .error e | .ok s => .ok ([s], locs ++ [t])) else
    if k = 26 then (match onlyT m locs t 1 2 with | .error e => .error e | .ok s => .ok ([s], locs)) else
    if k = 27 then (match ofT m locs t with | .error e => .error e | .ok (a, s) => if sameT a (bareT ret) = true then .ok ([s], locs) else .error (t.a, 10)) else
    if t.k ≠ 16 then .error (t.a, 12) else (match ofT m locs t with | .error e => .error e | .ok (_, s) => .ok ([s], locs))
  | [t, u] => (match ofT m locs t with
    | .error e => .error e
    | .ok (a, s) => match ofT m locs u with
      | .error e => .error e
      | .ok (b, v) => if (rootT t).k ≠ 7 ∧ (rootT t).k ≠ 9 then .error (t.a, 12) else if sameT a b = true then .ok ([s, v], locs) else .error (a0, 10))
  | _ => .error (a0, 12)

mutual
  /-- A statement's settled form, and the locals behind it. -/
  def stmtT (m ret : Tm) : List Tm → Tm → Er (Tm × List Tm)
    | locs, .mk k n s fl l a b =>
      if shapeT (.mk k n s fl l a b) = false then .error (a, 12) else
      if k = 29 then (match blkT m ret locs l with | .error e => .error e | .ok ss => .ok (.mk 29 n [] (pfl ss) ss 0 0, locs)) else
      if k = 23 ∨ k = 24 ∨ k = 25 then (match nesT m ret k (if k = 25 then 1 else 2) locs l with | .error e => .error e | .ok ss => .ok (.mk k n [] (pfl ss) ss 0 0, locs)) else
      match leafS m ret locs k a l with
      | .error e => .error e
      | .ok (ss, locs') => .ok (.mk k n [] .full ss 0 0, locs')
  /-- A block's statements. -/
  def blkT (m ret : Tm) : List Tm → List Tm → Er (List Tm)
    | _, [] => .ok []
    | locs, t :: l => match stmtT m ret locs t with
      | .error e => .error e
      | .ok (s, locs') => match blkT m ret locs' l with
        | .error e => .error e
        | .ok ss => .ok (s :: ss)
  /-- The parts of a statement with blocks. -/
  def nesT (m ret : Tm) (k want : Int) : List Tm → List Tm → Er (List Tm)
    | _, [] => .ok []
    | locs, .mk xk xn xs xfl xl xa xb :: l =>
      match (if xk ≠ 29 then onlyT m locs (.mk xk xn xs xfl xl xa xb) want want else
        match blkT m ret (if k = 25 then locs ++ [tK 1] else locs) xl with
        | .error e => .error e
        | .ok ss => .ok (.mk 29 xn [] (pfl ss) ss 0 0)) with
      | .error e => .error e
      | .ok s => match nesT m ret k want (if xk = 29 ∧ k = 25 then locs ++ [tK 1] else locs) l with
        | .error e => .error e
        | .ok ss => .ok (s :: ss)
end

def partedT (l : List Tm) : Bool := l.all fun p => decide (p.k = 34) && decide (p.l.length = 1)

/-- Is a type whose cells are known without records? -/
def plainT : Tm → Bool
  | .mk k _ _ _ l _ _ => if k = 3 then (match l with | x :: _ => plainT x | [] => true) else decide (k ≠ 4)

def kindsT (m : Tm) : List Tm → Er Unit
  | [] => .ok ()
  | t :: l => if cellsV m t = 0 then .error (t.a, 11) else kindsT m l
def plainsT (m : Tm) : List Tm → Er Unit
  | [] => .ok ()
  | t :: l => if plainT t = false then .error (t.a, 12) else plainsT m l

/-- A function's parameters' types, if its head is right. -/
def headT (m t : Tm) : Er (List Tm) :=
  match t.l with
  | [p, r, b] =>
    if (t.n ≠ 0 ∧ t.n ≠ 1) ∨ p.k ≠ 35 ∨ partedT p.l = false ∨ b.k ≠ 29 then .error (t.a, 12) else
    (match kindsT m (p.l.map (fun x => x.l.headD T0) ++ [r]) with
      | .error e => .error e
      | .ok () => match (if t.n = 1 then plainsT m (p.l.map (fun x => x.l.headD T0) ++ [r]) else .ok ()) with
        | .error e => .error e
        | .ok () => .ok (p.l.map (fun x => x.l.headD T0)))
  | _ => .error (t.a, 12)

def litOK (d : Tm) : Bool :=
  match d.l with
  | [x] => x.l.isEmpty && (decide (x.k = 5) || (decide (x.k = 6) && (decide (x.n = 0) || decide (x.n = 1))))
  | _ => false

/-- A declaration's settled form. -/
def declR (m : Tm) (i : Nat) (t : Tm) : Er Tm :=
  if t.k = 30 then (if t.l = [] ∨ partedT t.l = false then .error (t.a, 12) else if cellsV m (.mk 4 i [] .nil [] 0 0) = 0 then .error (t.a, 11) else .ok (cleanT t)) else
  if t.k = 31 then (if litOK t = false then .error (t.a, 12) else .ok (cleanT t)) else
  if t.k = 32 ∧ t.l.length = 1 then (if cellsV m (t.l.headD T0) = 0 then .error ((t.l.headD T0).a, 11) else .ok (cleanT t)) else
  if t.k = 33 then (match headT m t with
    | .error e => .error e
    | .ok tys => match blkT m (t.l.tail.headD T0) tys (t.l.tail.tail.headD T0).l with
      | .error e => .error e
      | .ok ss => .ok (.mk 33 t.n [] .part [cleanT (t.l.headD T0), cleanT (t.l.tail.headD T0), .mk 29 (t.l.tail.tail.headD T0).n [] (pfl ss) ss 0 0] 0 0)) else
  .error (t.a, 12)

def declsR (m : Tm) : Nat → List Tm → Er (List Tm)
  | _, [] => .ok []
  | i, d :: l => match declR m i d with
    | .error e => .error e
    | .ok s => match declsR m (i + 1) l with
      | .error e => .error e
      | .ok ss => .ok (s :: ss)

/-- A module's settled form. -/
def moduleT (m : Tm) : Er Tm := if m.k ≠ 36 then .error (m.a, 12) else
  match declsR m 0 m.l with
  | .error e => .error e
  | .ok ss => .ok (.mk 36 m.n [] (pfl ss) ss 0 0)

/-- Alike, and the second one without names and places. -/
def sameR : Tm → Tm → Bool
  | .mk k n _ _ l _ _, u => k == u.k && (n == u.n && (u.s == [] && (u.a == 0 && (u.b == 0 && sameRs l u.l))))
where sameRs : List Tm → List Tm → Bool
  | [], [] => true
  | a :: l, b :: k => sameR a b && sameRs l k
  | _, _ => false

def rightT (m : Tm) : Bool := match moduleT m with
  | .error _ => false
  | .ok s => sameR s m
end Go.Nt.Ty
