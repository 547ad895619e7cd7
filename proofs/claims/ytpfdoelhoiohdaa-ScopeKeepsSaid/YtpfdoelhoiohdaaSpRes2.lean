/-
  NAMES RESOLVED: the rows' flags do not matter; what is resolved is formed as what was named.
  No condition.
-/
import Derived.Test.YtpfdoelhoiohdaaSpRes
set_option linter.unusedSimpArgs false
namespace Go.Nt.Lk
open Go Go.Nt

/-- A term without its rows' flags. -/
def unf : Tm → Tm
  | .mk k n s _ l a b => .mk k n s .nil (l.map unf) a b
theorem unf_eq (t : Tm) : unf t = .mk t.k t.n t.s .nil (t.l.map unf) t.a t.b := by cases t; simp [unf]

/-- Outcomes that are alike but for flags. -/
def Alk (r r' : Er Tm) : Prop := match r, r' with
  | .ok x, .ok y => unf x = unf y
  | .error e, .error e' => e = e'
  | _, _ => False
def Alks (r r' : Er (List Tm)) : Prop := match r, r' with
  | .ok x, .ok y => x.map unf = y.map unf
  | .error e, .error e' => e = e'
  | _, _ => False
theorem Alk.refl (r : Er Tm) : Alk r r := by cases r <;> simp [Alk]

mutual
  theorem any_alk (q q' : List Tm → Fl) (m : Tm) : ∀ (t : Tm) (locs : List Nm), Alk (anyR q m locs t) (anyR q' m locs t)
    | .mk k n s fl l a b, locs => by
      rw [anyR, anyR]
      by_cases h1 : k = 19
      · rw [if_pos h1, if_pos h1]; exact Alk.refl _
      rw [if_neg h1, if_neg h1]
      by_cases h2 : badN m k s = true
      · rw [if_pos h2, if_pos h2]; exact Alk.refl _
      rw [if_neg h2, if_neg h2]
      have i := anys_alk q q' m k s l locs 0 locs
      cases hx : anyRs q m k s locs 0 locs l with
      | error e => cases hy : anyRs q' m k s locs 0 locs l with
        | error e' => rw [hx, hy] at i; exact i
        | ok y => rw [hx, hy] at i; exact i.elim
      | ok x => cases hy : anyRs q' m k s locs 0 locs l with
        | error e' => rw [hx, hy] at i; exact i.elim
        | ok y =>
          rw [hx, hy] at i
          simp only [Alks] at i
          simp only [Alk, unf, i]
  theorem anys_alk (q q' : List Tm → Fl) (m : Tm) (k : Int) (s : Nm) : ∀ (l : List Tm) (base : List Nm) (i : Nat) (known : List Nm), Alks (anyRs q m k s base i known l) (anyRs q' m k s base i known l)
    | [], base, i, known => by rw [anyRs, anyRs]; rfl
    | t :: r, base, i, known => by
      rw [anyRs, anyRs]
      have i1 := any_alk q q' m t (if k = 25 ∧ i = 2 then base ++ [s] else known)
      have i2 := anys_alk q q' m k s r base (i + 1) (if k = 29 then moreN known t else if k = 25 ∧ i = 2 then base ++ [s] else known)
      cases hx : anyR q m (if k = 25 ∧ i = 2 then base ++ [s] else known) t with
      | error e => cases hy : anyR q' m (if k = 25 ∧ i = 2 then base ++ [s] else known) t with
        | error e' => rw [hx, hy] at i1; exact i1
        | ok y => rw [hx, hy] at i1; exact i1.elim
      | ok x => cases hy : anyR q' m (if k = 25 ∧ i = 2 then base ++ [s] else known) t with
        | error e' => rw [hx, hy] at i1; exact i1.elim
        | ok y =>
          rw [hx, hy] at i1
          simp only [Alk] at i1
          simp only
          cases hu : anyRs q m k s base (i + 1) (if k = 29 then moreN known t else if k = 25 ∧ i = 2 then base ++ [s] else known) r with
          | error e => cases hv : anyRs q' m k s base (i + 1) (if k = 29 then moreN known t else if k = 25 ∧ i = 2 then base ++ [s] else known) r with
            | error e' => rw [hu, hv] at i2; exact i2
            | ok v => rw [hu, hv] at i2; exact i2.elim
          | ok u => cases hv : anyRs q' m k s base (i + 1) (if k = 29 then moreN known t else if k = 25 ∧ i = 2 then base ++ [s] else known) r with
            | error e' => rw [hu, hv] at i2; exact i2.elim
            | ok v =>
              rw [hu, hv] at i2
              simp only [Alks] at i2
              simp only [Alks, List.map_cons, i1, i2]
end

theorem parts_alk (q q' : List Tm → Fl) (m : Tm) (keep : Bool) : ∀ (l : List Tm) (seen : List Nm), Alks (partsR q m keep seen l) (partsR q' m keep seen l)
  | [], seen => by rw [partsR, partsR]; rfl
  | t :: r, seen => by
    rw [partsR, partsR]
    by_cases h1 : t.s ∈ seen
    · rw [if_pos h1, if_pos h1]; rfl
    rw [if_neg h1, if_neg h1]
    have i1 := any_alk q q' m t []
    have i2 := parts_alk q q' m keep r (t.s :: seen)
    cases hx : anyR q m [] t with
    | error e => cases hy : anyR q' m [] t with
      | error e' => rw [hx, hy] at i1; exact i1
      | ok y => rw [hx, hy] at i1; exact i1.elim
    | ok x => cases hy : anyR q' m [] t with
      | error e' => rw [hx, hy] at i1; exact i1.elim
      | ok y =>
        rw [hx, hy] at i1
        simp only [Alk] at i1
        simp only
        cases hu : partsR q m keep (t.s :: seen) r with
        | error e => cases hv : partsR q' m keep (t.s :: seen) r with
          | error e' => rw [hu, hv] at i2; exact i2
          | ok v => rw [hu, hv] at i2; exact i2.elim
        | ok u => cases hv : partsR q' m keep (t.s :: seen) r with
          | error e' => rw [hu, hv] at i2; exact i2.elim
          | ok v =>
            rw [hu, hv] at i2
            simp only [Alks] at i2
            simp only [Alks, List.map_cons, i2]
            congr 1
            cases keep with
            | false => exact i1
            | true =>
              rw [unf_eq, unf_eq y] at i1
              simp only [Tm.mk.injEq, true_and] at i1
              simp only [if_true, unf, i1]

theorem decl_alk (q q' : List Tm → Fl) (m t : Tm) : Alk (declR q m t) (declR q' m t) := by
  unfold declR
  by_cases h1 : t.k = 30
  · rw [if_pos h1, if_pos h1]
    have i := parts_alk q q' m true t.l []
    cases hx : partsR q m true [] t.l with
    | error e => cases hy : partsR q' m true [] t.l with
      | error e' => rw [hx, hy] at i; exact i
      | ok y => rw [hx, hy] at i; exact i.elim
    | ok x => cases hy : partsR q' m true [] t.l with
      | error e' => rw [hx, hy] at i; exact i.elim
      | ok y =>
        rw [hx, hy] at i
        simp only [Alks] at i
        simp only [Alk, unf, i]
  rw [if_neg h1, if_neg h1]
  by_cases h2 : t.k ≠ 33
  · rw [if_pos h2, if_pos h2]; exact any_alk q q' m t []
  rw [if_neg h2, if_neg h2]
  split
  · next p r b hl =>
    have i := parts_alk q q' m false p.l []
    have j := any_alk q q' m r []
    have k := any_alk q q' m b (p.l.map (·.s))
    cases hx : partsR q m false [] p.l with
    | error e => cases hy : partsR q' m false [] p.l with
      | error e' => rw [hx, hy] at i; exact i
      | ok y => rw [hx, hy] at i; exact i.elim
    | ok x => cases hy : partsR q' m false [] p.l with
      | error e' => rw [hx, hy] at i; exact i.elim
      | ok y =>
      rw [hx, hy] at i
      simp only [Alks] at i
      simp only
      cases hu : anyR q m [] r with
      | error e => cases hv : anyR q' m [] r with
        | error e' => rw [hu, hv] at j; exact j
        | ok v => rw [hu, hv] at j; exact j.elim
      | ok u => cases hv : anyR q' m [] r with
        | error e' => rw [hu, hv] at j; exact j.elim
        | ok v =>
        rw [hu, hv] at j
        simp only [Alk] at j
        simp only
        cases hw : anyR q m (p.l.map (·.s)) b with
        | error e => cases hz : anyR q' m (p.l.map (·.s)) b with
          | error e' => rw [hw, hz] at k; exact k
          | ok z => rw [hw, hz] at k; exact k.elim
        | ok w => cases hz : anyR q' m (p.l.map (·.s)) b with
          | error e' => rw [hw, hz] at k; exact k.elim
          | ok z =>
          rw [hw, hz] at k
          simp only [Alk] at k
          simp only [Alk, unf, List.map_cons, List.map_nil, i, j, k]
  · exact Alk.refl _

theorem decls_alk (q q' : List Tm → Fl) (m : Tm) : ∀ (l : List Tm), Alks (declsR q m l) (declsR q' m l)
  | [] => by rw [declsR, declsR]; rfl
  | t :: r => by
    rw [declsR, declsR]
    have i1 := decl_alk q q' m t
    have i2 := decls_alk q q' m r
    cases hx : declR q m t with
    | error e => cases hy : declR q' m t with
      | error e' => rw [hx, hy] at i1; exact i1
      | ok y => rw [hx, hy] at i1; exact i1.elim
    | ok x => cases hy : declR q' m t with
      | error e' => rw [hx, hy] at i1; exact i1.elim
      | ok y =>
        rw [hx, hy] at i1
        simp only [Alk] at i1
        simp only
        cases hu : declsR q m r with
        | error e => cases hv : declsR q' m r with
          | error e' => rw [hu, hv] at i2; exact i2
          | ok v => rw [hu, hv] at i2; exact i2.elim
        | ok u => cases hv : declsR q' m r with
          | error e' => rw [hu, hv] at i2; exact i2.elim
          | ok v =>
            rw [hu, hv] at i2
            simp only [Alks] at i2
            simp only [Alks, List.map_cons, i1, i2]

theorem resolve_alk (q q' : List Tm → Fl) (m : Tm) : Alk (resolveR q m) (resolveR q' m) := by
  unfold resolveR
  cases twiceR [] m.l with
  | some a => exact rfl
  | none =>
    simp only
    have i := decls_alk q q' m m.l
    cases hx : declsR q m m.l with
    | error e => cases hy : declsR q' m m.l with
      | error e' => rw [hx, hy] at i; exact i
      | ok y => rw [hx, hy] at i; exact i.elim
    | ok x => cases hy : declsR q' m m.l with
      | error e' => rw [hx, hy] at i; exact i.elim
      | ok y =>
        rw [hx, hy] at i
        simp only [Alks] at i
        simp only [Alk, unf, i]
end Go.Nt.Lk
