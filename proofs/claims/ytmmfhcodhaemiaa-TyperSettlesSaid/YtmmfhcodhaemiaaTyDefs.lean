/-
  TYPES OF EXPRESSIONS, as plain functions on terms.
  No condition.
-/
import Derived.Test.YtmmfhcodhaemiaaTyCells
set_option linter.unusedSimpArgs false
namespace Go.Nt.Ty
open Go Go.Nt

@[simp] theorem cast1 (m : Nat) : ((m : Int) = 1) = (m = 1) := propext (by omega)
@[simp] theorem cast2 (m : Nat) : ((m : Int) = 2) = (m = 2) := propext (by omega)
@[simp] theorem cast3 (m : Nat) : ((m : Int) = 3) = (m = 3) := propext (by omega)
@[simp] theorem cast_ss1 (m : Nat) : ((m : Int) + 1 + 1 = 1) = False := eq_false (by omega)
@[simp] theorem cast_sss1 (m : Nat) : ((m : Int) + 1 + 1 + 1 = 1) = False := eq_false (by omega)
@[simp] theorem cast_sss2 (m : Nat) : ((m : Int) + 1 + 1 + 1 = 2) = False := eq_false (by omega)
@[simp] theorem cast_pos (m : Nat) : ((0 : Int) < m) = (0 < m) := propext (by omega)

abbrev tK (k : Int) : Tm := .mk k 0 [] .nil [] 0 0
abbrev T0 : Tm := tK 0
theorem encT_K (k : Int) : encT (tK k) = .agg [.int .i64 k, .int .i64 0, .str [], .nils, .int .i64 0, .int .i64 0] := by simp [encT, slE]
theorem encT_0 : encT T0 = .agg [.int .i64 0, .int .i64 0, .str [], .nils, .int .i64 0, .int .i64 0] := encT_K 0

@[simp] theorem k_mk (k n : Int) (s : List UInt8) (fl : Fl) (l : List Tm) (a b : Int) : (Tm.mk k n s fl l a b).k = k := rfl
@[simp] theorem n_mk (k n : Int) (s : List UInt8) (fl : Fl) (l : List Tm) (a b : Int) : (Tm.mk k n s fl l a b).n = n := rfl
@[simp] theorem s_mk (k n : Int) (s : List UInt8) (fl : Fl) (l : List Tm) (a b : Int) : (Tm.mk k n s fl l a b).s = s := rfl
@[simp] theorem fl_mk (k n : Int) (s : List UInt8) (fl : Fl) (l : List Tm) (a b : Int) : (Tm.mk k n s fl l a b).fl = fl := rfl
@[simp] theorem l_mk (k n : Int) (s : List UInt8) (fl : Fl) (l : List Tm) (a b : Int) : (Tm.mk k n s fl l a b).l = l := rfl
@[simp] theorem a_mk (k n : Int) (s : List UInt8) (fl : Fl) (l : List Tm) (a b : Int) : (Tm.mk k n s fl l a b).a = a := rfl
@[simp] theorem b_mk (k n : Int) (s : List UInt8) (fl : Fl) (l : List Tm) (a b : Int) : (Tm.mk k n s fl l a b).b = b := rfl

mutual
  /-- A right term, none of whose lists is long. -/
  def good : Tm → Prop
    | .mk k n s _ l a b => in64 k ∧ in64 n ∧ s.length ≤ 9223372036854775807 ∧ in64 a ∧ in64 b ∧ l.length ≤ 1000000 ∧ goods l
  def goods : List Tm → Prop
    | [] => True
    | v :: l => good v ∧ goods l
end
theorem goods_iff (l : List Tm) : goods l ↔ ∀ v, v ∈ l → good v := by
  induction l with
  | nil => simp [goods]
  | cons v l ih => simp [goods, ih]
theorem good_iff (v : Tm) : good v ↔ in64 v.k ∧ in64 v.n ∧ v.s.length ≤ 9223372036854775807 ∧ in64 v.a ∧ in64 v.b ∧ v.l.length ≤ 1000000 ∧ ∀ u, u ∈ v.l → good u := by
  cases v; simp [good, goods_iff]
theorem good_of (t : Tm) : t.ok → cntT t ≤ 1000000 → good t := by
  induction t using Tm.ind with
  | h t ih =>
    intro h hc
    obtain ⟨k1, k2, k4, k5, k6, k7, k3⟩ := (Tm.ok_iff t).1 h
    rw [cntT_eq] at hc
    have := cntTs_len t.l
    exact (good_iff t).2 ⟨k1, k2, k4, k5, k6, by omega, fun u hu => ih u hu (k3 u hu) (by have := cntTs_mem hu; omega)⟩
theorem good_ok (t : Tm) : good t → t.ok := by
  induction t using Tm.ind with
  | h t ih =>
    intro h
    obtain ⟨k1, k2, k4, k5, k6, k7, k3⟩ := (good_iff t).1 h
    exact (Tm.ok_iff t).2 ⟨k1, k2, k4, k5, k6, by omega, fun u hu => ih u hu (k3 u hu)⟩
theorem good_K (k : Int) (h : in64 k) : good (tK k) := (good_iff _).2 ⟨h, by simp [in64], by simp, by simp [in64], by simp [in64], by simp, fun u hu => by cases hu⟩

def litT (t : Tm) : Tm := if t.k = 5 then tK 1 else if t.k = 6 then tK 2 else T0
def isT (t : Tm) (k : Int) : Bool := decide (t.k = k) && t.l.isEmpty
def shapedT (t : Tm) : Bool :=
  if t.k = 5 ∨ t.k = 7 ∨ t.k = 8 ∨ t.k = 9 ∨ t.k = 18 then decide (t.l.length = 0) else
  if t.k = 6 then decide (t.l.length = 0) && (decide (t.n = 0) || decide (t.n = 1)) else
  if t.k = 11 then decide (t.l.length = 1) && (decide (t.n = 1) || decide (t.n = 2)) else
  if t.k = 10 then decide (t.l.length = 2) && (decide (1 ≤ t.n) && decide (t.n ≤ 13)) else
  if t.k = 13 then decide (t.l.length = 1) else
  if t.k = 12 then decide (t.l.length = 2) else
  if t.k = 14 ∨ t.k = 15 then decide (0 < t.l.length) else
  decide (t.k = 16) || decide (t.k = 17)

def bfl : List Tm → Fl
  | [] => .nil
  | _ :: _ => .full
/-- A term without places. -/
def bareT : Tm → Tm
  | .mk k n s _ l _ _ => .mk k n s (bfl l) (l.map bareT) 0 0
theorem bareT_eq (t : Tm) : bareT t = .mk t.k t.n t.s (bfl t.l) (t.l.map bareT) 0 0 := by cases t; simp [bareT]

/-- Alike, but for places. -/
def sameT : Tm → Tm → Bool
  | .mk k n s _ l _ _, u => k == u.k && (n == u.n && (s == u.s && sameTs l u.l))
where sameTs : List Tm → List Tm → Bool
  | [], [] => true
  | a :: l, b :: k => sameT a b && sameTs l k
  | _, _ => false
theorem sameT_eq (a b : Tm) : sameT a b = (a.k == b.k && (a.n == b.n && (a.s == b.s && sameT.sameTs a.l b.l))) := by cases a; simp [sameT]

def badPart (p : Tm) : Bool := decide (p.k ≠ 34) || decide (p.l.length ≠ 1)
def declT (m : Tm) (n : Int) (kind : Int) : Tm × Bool :=
  if h : 0 ≤ n ∧ n < m.l.length then
    (if (m.l[n.toNat]'(by omega)).k = kind then
      (if kind = 31 then (m.l[n.toNat]'(by omega), decide ((m.l[n.toNat]'(by omega)).l.length = 1) && decide ((litT ((m.l[n.toNat]'(by omega)).l.headD T0)).k ≠ 0)) else
       if kind = 32 then (m.l[n.toNat]'(by omega), decide ((m.l[n.toNat]'(by omega)).l.length = 1)) else
       if kind = 33 then (m.l[n.toNat]'(by omega), decide ((m.l[n.toNat]'(by omega)).l.length = 3)) else
       if (m.l[n.toNat]'(by omega)).l.any badPart then (T0, false) else (m.l[n.toNat]'(by omega), decide (0 < (m.l[n.toNat]'(by omega)).l.length)))
     else (T0, false))
  else (T0, false)

/-- The last locals come first. -/
def localT (locs : List Tm) (n : Int) : Option Tm := if 0 ≤ n ∧ n < locs.length then locs[locs.length - 1 - n.toNat]? else none

def namedT (m : Tm) (locs : List Tm) (t : Tm) : Tm × Bool :=
  if t.k = 7 then (match localT locs t.n with | some d => (d, true) | none => (T0, false)) else
  if t.k = 8 then (if (declT m t.n 31).2 then (litT ((declT m t.n 31).1.l.headD T0), true) else (T0, false)) else
  if t.k = 9 then (if (declT m t.n 32).2 then ((declT m t.n 32).1.l.headD T0, true) else (T0, false)) else
  if t.k = 15 then declT m t.n 30 else
  if t.k = 16 then declT m t.n 33 else
  if t.k = 17 then (T0, false) else (T0, true)

def binT (op : Int) (a b : Tm) : Tm :=
  if (op ≤ 2 ∧ (isT a 2 && isT b 2) = true) ∨ ((3 ≤ op ∧ op ≤ 4) ∧ ((isT a 1 && isT b 1) || (isT a 2 && isT b 2)) = true) ∨ ((5 ≤ op ∧ op ≤ 8) ∧ (isT a 1 && isT b 1) = true) then tK 2
  else if 9 ≤ op ∧ (isT a 1 && isT b 1) = true then tK 1 else T0

def leafT (k : Int) (d : Tm) : Tm := if k = 5 ∨ k = 18 then tK 1 else if k = 6 then tK 2 else bareT d

def typField (m : Tm) (n : Int) : Tm × Bool :=
  if h : 0 ≤ n ∧ n.tdiv 64 < m.l.length then
    (match (m.l[(n.tdiv 64).toNat]'(by have := Int.tdiv_nonneg h.1 (by omega : (0:Int) ≤ 64); omega)).l[(n.tmod 64).toNat]? with
     | some p => if (m.l[(n.tdiv 64).toNat]'(by have := Int.tdiv_nonneg h.1 (by omega : (0:Int) ≤ 64); omega)).k = 30 ∧ p.k = 34 ∧ p.l.length = 1 then (p.l.headD T0, true) else (T0, false)
     | none => (T0, false))
  else (T0, false)

/-- A field by its name: its place among so many. -/
def byName (s : List UInt8) : Nat → List Tm → Option (Nat × Tm)
  | _, [] => none
  | i, p :: l => if p.s = s ∧ i < 64 then some (i, p.l.headD T0) else byName s (i + 1) l

def fieldT (m : Tm) (n : Int) (s : List UInt8) (of : Tm) : Int × Tm × Bool :=
  if (declT m of.n 30).2 then
    (if s = [] then (n, bareT (typField m n).1, (typField m n).2 && decide (n.tdiv 64 = of.n)) else
     match byName s 0 (declT m of.n 30).1.l with
     | some (i, f) => (of.n * 64 + i, bareT f, true)
     | none => (0, T0, false))
  else (0, T0, false)

def allT : List Tm → List Tm → Bool
  | [], [] => true
  | t :: ts, p :: ps => (decide (p.l.length = 1) && sameT t (bareT (p.l.headD T0))) && allT ts ps
  | _, _ => false

def listT (m : Tm) (p0 : Tm) (ts : List Tm) : Tm × Int :=
  if ts.all (fun t => sameT t p0) then
    (if cellsV m (.mk 3 ts.length [] .full [p0] 0 0) = 0 then (T0, 11) else (.mk 3 ts.length [] .full [p0] 0 0, 0))
  else (T0, 10)

/-- A rule's answer: the type, the error (0: none), the number. -/
def ruleT (m : Tm) (k n : Int) (s : List UInt8) (d : Tm) (p : List Tm) : Tm × Int × Int :=
  if k = 5 ∨ k = 18 ∨ k = 6 ∨ k = 7 ∨ k = 8 ∨ k = 9 then (leafT k d, 0, n) else
  if k = 10 then (match p with | [a, b] => (binT n a b, if (binT n a b).k = 0 then 10 else 0, n) | _ => (T0, 10, n)) else
  if k = 11 then (match p with | [a] => if (n = 1 ∧ isT a 1 = true) ∨ (n = 2 ∧ isT a 2 = true) then (a, 0, n) else (T0, 10, n) | _ => (T0, 10, n)) else
  if k = 12 then (match p with | [a, b] => if (a.k = 3 ∧ a.l.length = 1) ∧ isT b 1 = true then (a.l.headD T0, 0, n) else (T0, 10, n) | _ => (T0, 10, n)) else
  if k = 13 then (match p with | [a] => if a.k = 4 ∧ a.l = [] then (if (fieldT m n s a).2.2 then ((fieldT m n s a).2.1, 0, (fieldT m n s a).1) else (T0, 8, n)) else (T0, 10, n) | _ => (T0, 10, n)) else
  if k = 14 then ((listT m (p.headD T0) p).1, (listT m (p.headD T0) p).2, n) else
  if k = 15 then (if allT p d.l then (.mk 4 n [] .nil [] 0 0, 0, n) else (T0, 10, n)) else
  if k = 16 then (if allT p (d.l.headD T0).l then (bareT ((d.l.tail).headD T0), 0, n) else (T0, 10, n)) else (T0, 10, n)

mutual
  /-- An expression's type and settled form; or the place and what is wrong. -/
  def ofT (m : Tm) (locs : List Tm) : Tm → Except (Int × Int) (Tm × Tm)
    | .mk k n s fl l a b =>
      if shapedT (.mk k n s fl l a b) = false then .error (a, 12) else
      if (namedT m locs (.mk k n s fl l a b)).2 = false then .error (a, 8) else
      match ofTs m locs l with
      | .error e => .error e
      | .ok (ts, ss) =>
        if (ruleT m k n s (namedT m locs (.mk k n s fl l a b)).1 ts).2.1 = 0 then .ok ((ruleT m k n s (namedT m locs (.mk k n s fl l a b)).1 ts).1, .mk k (ruleT m k n s (namedT m locs (.mk k n s fl l a b)).1 ts).2.2 [] .nil ss 0 0)
        else .error (a, (ruleT m k n s (namedT m locs (.mk k n s fl l a b)).1 ts).2.1)
  def ofTs (m : Tm) (locs : List Tm) : List Tm → Except (Int × Int) (List Tm × List Tm)
    | [] => .ok ([], [])
    | t :: l => match ofT m locs t with
      | .error e => .error e
      | .ok (a, s) => match ofTs m locs l with
        | .error e => .error e
        | .ok (ts, ss) => .ok (a :: ts, s :: ss)
end
theorem ofT_eq (m : Tm) (locs : List Tm) (t : Tm) : ofT m locs t = if shapedT t = false then .error (t.a, 12) else
      if (namedT m locs t).2 = false then .error (t.a, 8) else
      match ofTs m locs t.l with
      | .error e => .error e
      | .ok (ts, ss) =>
        if (ruleT m t.k t.n t.s (namedT m locs t).1 ts).2.1 = 0 then .ok ((ruleT m t.k t.n t.s (namedT m locs t).1 ts).1, .mk t.k (ruleT m t.k t.n t.s (namedT m locs t).1 ts).2.2 [] .nil ss 0 0)
        else .error (t.a, (ruleT m t.k t.n t.s (namedT m locs t).1 ts).2.1) := by
  cases t; simp only [ofT, k_mk, n_mk, s_mk, a_mk, l_mk]; rfl

/-- An element of a slice written. -/
theorem kHs_encT {st : St} {i v sz m x' : Nat} {es : List D} {y z : Tm} (hat : St.at st i = .cells false sz v m false es) (hz : es[x']? = some (encT z)) :
    kHs st i v sz x' 0 (encT y) (.cells false sz v m false es) = some (.undef, none, some (List.set st i (.cells false sz v (m + 1) false (es.set x' (encT y))))) := by
  simp [kHs, hat, hz, splice, ← encT_eq]

end Go.Nt.Ty
