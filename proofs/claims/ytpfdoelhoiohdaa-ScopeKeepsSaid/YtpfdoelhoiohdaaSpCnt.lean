/-
  THE REFERENCE'S PARSER: what it reads has at most twice as many parts as it took tokens.
  No condition.
-/
import Derived.Test.YtpfdoelhoiohdaaSpKept
set_option linter.unusedSimpArgs false
namespace Go.Nt.Lk
open Go Go.Nt

theorem cnt_app (l r : List Tm) : cntTs (l ++ r) = cntTs l + cntTs r := by
  induction l with
  | nil => simp [cntTs]
  | cons x l ih => simp only [List.cons_append, cntTs, ih]; omega
theorem cnt_snoc (l : List Tm) (x : Tm) : cntTs (l ++ [x]) = cntTs l + cntT x := by rw [cnt_app]; simp [cntTs]

def Cg (a : Nat) (g : Gt) : Prop := g.e = 0 → cntT g.t + 2 * a ≤ 2 * g.a
def Cl (a c : Nat) (g : Gl) : Prop := g.e = 0 → cntTs g.ts + 2 * a ≤ 2 * g.a + c
theorem cg_bad (a b : Nat) : Cg a (badG b) := fun h => by cases h
theorem cg_no {a : Nat} {g : Gt} (h : ¬ g.e = 0) : Cg a g := fun q => absurd q h
theorem cg_up {a b : Nat} {g : Gt} (h : Cg b g) (hab : a ≤ b) : Cg a g := fun q => by have := h q; omega
theorem cg_mk {l : List Tok} {a fr to : Nat} {k n : Int} {s : List UInt8} {fl : Fl} {ps : List Tm} (h : cntTs ps + 1 + 2 * a ≤ 2 * to) : Cg a (mkG l fr to k n s fl ps) := fun _ => by
  show cntT (mkT l fr to k n s fl ps) + 2 * a ≤ 2 * to
  unfold mkT
  rw [cntT_eq]
  exact h

theorem typ_cg (l : List Tok) : ∀ n a, Cg a (typP l n a)
  | 0, a => fun h => by cases h
  | n + 1, a => by
    rw [typP]
    split
    · exact cg_mk (by simp only [cntTs]; omega)
    split
    · exact cg_mk (by simp only [cntTs]; omega)
    split
    · exact cg_mk (by simp only [cntTs]; omega)
    split
    · exact cg_bad _ _
    split
    · exact cg_bad _ _
    split
    · exact cg_bad _ _
    split
    · next q => exact cg_no q
    next q =>
    have i := typ_cg l n (a + 3) (Classical.not_not.1 q)
    exact cg_mk (by simp only [cntTs]; omega)

theorem callH_le {l : List Tok} {a : Nat} {k : Int} {s : List UInt8} {op : Nat} {few : Bool} {s1 s2 : List UInt8} (q : callH l a = .ok (k, s, op, few, s1, s2)) : a ≤ op := by
  unfold callH at q
  split at q
  · cases q; omega
  split at q
  · cases q; omega
  split at q
  · split at q
    · cases q
    · split at q <;> (cases q; omega)
  · cases q

theorem expr_cg (l : List Tok) : ∀ n, (∀ a lv, Cg a (levelP l n a lv)) ∧ (∀ a lv x t, Cg a x → Cg a (levelL l n a lv x t)) ∧ (∀ a, Cg a (unP l n a)) ∧
    (∀ a, Cg a (postP l n a)) ∧ (∀ a x, Cg a x → Cg a (postL l n a x)) ∧ (∀ a, Cg a (atomP l n a)) ∧ (∀ a, Cg a (calledP l n a)) ∧
    (∀ a few s1 s2, (closedP l n a few s1 s2).e = 0 → cntTs (closedP l n a few s1 s2).ts + 2 * (a + 1) ≤ 2 * (closedP l n a few s1 s2).a) ∧ (∀ a out, Cl a (cntTs out) (listP l n a out)) := by
  intro n
  induction n with
  | zero => exact ⟨fun a lv => by rw [levelP]; exact cg_bad _ _, fun a lv x t _ => by rw [levelL]; exact cg_bad _ _, fun a => by rw [unP]; exact cg_bad _ _, fun a => by rw [postP]; exact cg_bad _ _, fun a x _ => by rw [postL]; exact cg_bad _ _, fun a => by rw [atomP]; exact cg_bad _ _, fun a => by rw [calledP]; exact cg_bad _ _,
      (fun a few s1 s2 h => by rw [closedP] at h; cases h), (fun a out h => by rw [listP] at h; cases h)⟩
  | succ n ih =>
    obtain ⟨iLev, iLevL, iUn, iPost, iPostL, iAtom, iCalled, iClosed, iList⟩ := ih
    refine ⟨fun a lv => ?_, fun a lv x t hx => ?_, fun a => ?_, fun a => ?_, fun a x hx => ?_, fun a => ?_, fun a => ?_, fun a few s1 s2 => ?_, fun a out => ?_⟩
    · rw [levelP]
      split
      · exact iUn a
      · exact iLevL a lv _ 0 (iLev a (lv + 1))
    · rw [levelL]
      split
      · exact hx
      next h0 =>
      split
      · exact hx
      split
      · next q => exact cg_no q
      next q =>
      have i := iLev (x.a + 1) (lv + 1) (Classical.not_not.1 q)
      have j := hx (Classical.not_not.1 h0)
      exact iLevL a lv _ _ (cg_mk (by simp only [cntTs]; omega))
    · rw [unP]
      split
      · exact iPost a
      split
      · next q => exact cg_no q
      next q =>
      have i := iUn (a + 1) (Classical.not_not.1 q)
      exact cg_mk (by simp only [cntTs]; omega)
    · rw [postP]; exact iPostL a _ (iAtom a)
    · rw [postL]
      split
      · exact hx
      next h0 =>
      have j := hx (Classical.not_not.1 h0)
      split
      · split
        · next q => exact cg_no q
        next q =>
        have i := iLev (x.a + 1) 1 (Classical.not_not.1 q)
        split
        · exact cg_bad _ _
        · exact iPostL a _ (cg_mk (by simp only [cntTs]; omega))
      split
      · split
        · exact cg_bad _ _
        · exact iPostL a _ (cg_mk (by simp only [cntTs]; omega))
      · exact hx
    · rw [atomP]
      split
      · exact cg_mk (by simp only [cntTs]; omega)
      split
      · exact cg_mk (by simp only [cntTs]; omega)
      split
      · exact cg_mk (by simp only [cntTs]; omega)
      split
      · exact cg_mk (by simp only [cntTs]; omega)
      split
      · exact cg_mk (by simp only [cntTs]; omega)
      split
      · split
        · next q => exact cg_no q
        next q =>
        have i := iLev (a + 1) 1 (Classical.not_not.1 q)
        split
        · exact cg_bad _ _
        · intro _
          simp only
          omega
      · exact iCalled a
    · rw [calledP]
      split
      · exact cg_bad _ _
      next q0 =>
      have h1 := callH_le q0
      split
      · next q => exact cg_no q
      next q =>
      have i := iClosed _ _ _ _ (Classical.not_not.1 q)
      exact cg_mk (by omega)
    · rw [closedP]
      split
      · intro h; cases h
      split
      · intro _; simp only [cntTs]; omega
      split
      · next q => exact fun h => absurd h q
      next q =>
      have i := iList (a + 1) [] (Classical.not_not.1 q)
      simp only [cntTs] at i
      split
      · intro h; cases h
      · intro _; simp only; omega
    · rw [listP]
      split
      · next q => exact fun h => absurd h q
      next q =>
      have i := iLev a 1 (Classical.not_not.1 q)
      split
      · intro _; simp only [cnt_snoc]; omega
      · intro h
        have j := iList _ _ h
        rw [cnt_snoc] at j
        omega

theorem exprP_cg (l : List Tok) (a : Nat) : Cg a (exprP l a) := (expr_cg l _).1 a 1
theorem typeP_cg (l : List Tok) (a : Nat) : Cg a (typeP l a) := typ_cg l _ a

/-- How many items take a token by themselves; how many may be left out. -/
def tkI : List It → Nat
  | [] => 0
  | .w _ :: r | .g _ :: r | .n :: r => tkI r + 1
  | _ :: r => tkI r
def elI : List It → Nat
  | [] => 0
  | .el :: r => elI r + 1
  | _ :: r => elI r
theorem form_tk (l : List Tok) (a : Nat) : 1 + elI (formT l a).2 ≤ 2 * tkI (formT l a).2 := by
  have h := form_mem l a
  generalize formT l a = x at *
  simp only [formS, List.mem_cons, List.not_mem_nil, or_false] at h
  rcases h with rfl | rfl | rfl | rfl | rfl | rfl | rfl | rfl | rfl <;> decide

theorem stmt_cg (l : List Tok) : ∀ n, (∀ a, Cg a (stmtP l n a)) ∧
    (∀ a k its to name ps, (formP l n a k its to name ps).e = 0 → cntT (formP l n a k its to name ps).t + 2 * to + 2 * tkI its ≤ 2 * (formP l n a k its to name ps).a + cntTs ps + 1 + elI its) ∧
    (∀ a, Cg a (blockP l n a)) ∧ (∀ a to ps, (blockL l n a to ps).e = 0 → cntT (blockL l n a to ps).t + 2 * to ≤ 2 * (blockL l n a to ps).a + cntTs ps) := by
  intro n
  induction n with
  | zero => exact ⟨fun a => by rw [stmtP]; exact cg_bad _ _, (fun a k its to name ps h => by rw [formP] at h; cases h), fun a => by rw [blockP]; exact cg_bad _ _, (fun a to ps h => by rw [blockL] at h; cases h)⟩
  | succ n ih =>
    obtain ⟨iS, iF, iB, iL⟩ := ih
    refine ⟨fun a => ?_, fun a k its to name ps => ?_, fun a => ?_, fun a to ps => ?_⟩
    · rw [stmtP]
      split
      · exact iB a
      · intro h
        have i := iF _ _ _ _ _ _ h
        have t := form_tk l a
        simp only [cntTs] at i
        omega
    · have via : ∀ (g : Gt) (r : List It), Cg to g → (if ¬ g.e = 0 then g else formP l n a k r g.a name (ps ++ [g.t])).e = 0 → cntT (if ¬ g.e = 0 then g else formP l n a k r g.a name (ps ++ [g.t])).t + 2 * to + 2 * tkI r ≤ 2 * (if ¬ g.e = 0 then g else formP l n a k r g.a name (ps ++ [g.t])).a + cntTs ps + 1 + elI r := by
        intro g r hg
        split
        · next q => exact fun h => absurd h q
        next q =>
        intro h
        have i := iF _ _ _ _ _ _ h
        have j := hg (Classical.not_not.1 q)
        rw [cnt_snoc] at i
        omega
      cases its with
      | nil =>
        rw [formP]
        intro _
        show cntT (mkT l a to k 0 name .emp ps) + 2 * to + 2 * 0 ≤ 2 * to + cntTs ps + 1 + 0
        unfold mkT
        rw [cntT_eq]
        simp only [l_mk]
        omega
      | cons it r =>
        cases it with
        | w s =>
          rw [formP]
          split
          · intro h; cases h
          · intro h; have i := iF _ _ _ _ _ _ h; simp only [tkI, elI]; omega
        | g s =>
          rw [formP]
          split
          · intro h; cases h
          · intro h; have i := iF _ _ _ _ _ _ h; simp only [tkI, elI]; omega
        | n =>
          rw [formP]
          split
          · intro h; cases h
          · intro h; have i := iF _ _ _ _ _ _ h; simp only [tkI, elI]; omega
        | e => rw [formP]; exact via _ r (exprP_cg l to)
        | t => rw [formP]; exact via _ r (typeP_cg l to)
        | b => rw [formP]; exact via _ r (iB to)
        | el =>
          rw [formP]
          split
          · intro h
            have i := iF _ _ _ _ _ _ h
            rw [cnt_snoc] at i
            simp only [cntT, cntTs] at i
            simp only [tkI, elI]
            omega
          · intro h
            have i := via _ r (cg_up (iB (to + 1)) (by omega)) h
            simp only [tkI, elI]
            omega
    · rw [blockP]
      split
      · exact cg_bad _ _
      · intro h
        have i := iL _ _ _ h
        simp only [cntTs] at i
        omega
    · rw [blockL]
      split
      · intro _
        show cntT (mkT l a (to + 1) 29 0 [] .emp ps) + 2 * to ≤ 2 * (to + 1) + cntTs ps
        unfold mkT
        rw [cntT_eq]
        simp only [l_mk]
        omega
      split
      · next q => exact fun h => absurd h q
      next q =>
      intro h
      have i := iL _ _ _ h
      have j := iS to (Classical.not_not.1 q)
      rw [cnt_snoc] at i
      omega
theorem blkP_cg (l : List Tok) (a : Nat) : Cg a (blkP l a) := (stmt_cg l _).2.2.1 a

theorem nameP_cg (l : List Tok) (a : Nat) : Cg a (nameP l a) := by
  unfold nameP
  split
  · exact cg_bad _ _
  split
  · exact cg_bad _ _
  split
  · next q => exact cg_no q
  next q =>
  have i := typeP_cg l (a + 2) (Classical.not_not.1 q)
  exact cg_mk (by simp only [cntTs]; omega)
theorem fieldsP_cg (l : List Tok) : ∀ n a out, Cl a (cntTs out) (fieldsP l n a out)
  | 0, a, out => fun h => by rw [fieldsP] at h; cases h
  | n + 1, a, out => by
    rw [fieldsP]
    split
    · intro _; simp only; omega
    split
    · next q => exact fun h => absurd h q
    next q =>
    have i := nameP_cg l a (Classical.not_not.1 q)
    split
    · intro h; cases h
    · intro h
      have j := fieldsP_cg l n _ _ h
      rw [cnt_snoc] at j
      omega
theorem paramsL_cg (l : List Tok) (a : Nat) : ∀ n to out, (paramsL l n a to out).e = 0 → cntT (paramsL l n a to out).t + 2 * to ≤ 2 * (paramsL l n a to out).a + cntTs out
  | 0, to, out => fun h => by rw [paramsL] at h; cases h
  | n + 1, to, out => by
    rw [paramsL]
    split
    · next q => exact fun h => absurd h q
    next q =>
    have i := nameP_cg l to (Classical.not_not.1 q)
    split
    · intro h
      have j := paramsL_cg l a n _ _ h
      rw [cnt_snoc] at j
      omega
    split
    · intro h; cases h
    · intro _
      show cntT (mkT l a ((nameP l to).a + 1) 35 0 [] .emp (out ++ [(nameP l to).t])) + 2 * to ≤ 2 * ((nameP l to).a + 1) + cntTs out
      unfold mkT
      rw [cntT_eq]
      simp only [l_mk, cnt_snoc]
      omega
theorem paramsP_cg (l : List Tok) (a : Nat) : Cg a (paramsP l a) := by
  unfold paramsP
  split
  · exact cg_bad _ _
  split
  · exact cg_mk (by simp only [cntTs]; omega)
  · intro h
    have i := paramsL_cg l a _ _ _ h
    simp only [cntTs] at i
    omega
theorem fnP_cg (l : List Tok) {first a : Nat} (pub : Int) (hf : first ≤ a) : Cg first (fnP l first a pub) := by
  unfold fnP
  split
  · exact cg_bad _ _
  split
  · exact cg_bad _ _
  split
  · next q => exact cg_no q
  next q1 =>
  split
  · exact cg_bad _ _
  split
  · next q => exact cg_no q
  next q2 =>
  split
  · next q => exact cg_no q
  next q3 =>
  have i1 := paramsP_cg l (a + 2) (Classical.not_not.1 q1)
  have i2 := typeP_cg l ((paramsP l (a + 2)).a + 1) (Classical.not_not.1 q2)
  have i3 := blkP_cg l (typeP l ((paramsP l (a + 2)).a + 1)).a (Classical.not_not.1 q3)
  exact cg_mk (by simp only [cntTs]; omega)
theorem shortX_cg (l : List Tok) (a : Nat) : Cg (a + 3) (shortX l a) := by
  unfold shortX
  split
  · split
    · exact (expr_cg l _).2.2.2.2.2.1 _
    · exact cg_bad _ _
  · exact typeP_cg l _
theorem shortP_cg (l : List Tok) (a : Nat) : Cg a (shortP l a) := by
  unfold shortP
  generalize (if isW l a [99, 111, 110, 115, 116] = true then (31 : Int) else 32) = kk
  generalize (if isW l a [99, 111, 110, 115, 116] = true then ([61] : List UInt8) else [58]) = sg
  split
  · exact cg_bad _ _
  split
  · exact cg_bad _ _
  split
  · next q => exact cg_no q
  next q =>
  have i := shortX_cg l a (Classical.not_not.1 q)
  split
  · exact cg_bad _ _
  · exact cg_mk (by simp only [cntTs]; omega)
theorem declP_cg (l : List Tok) (a : Nat) : Cg a (declP l a) := by
  unfold declP
  split
  · exact shortP_cg l a
  split
  · exact fnP_cg l 1 (by omega)
  split
  · exact fnP_cg l 0 (by omega)
  split
  · exact cg_bad _ _
  split
  · exact cg_bad _ _
  split
  · exact cg_bad _ _
  split
  · next q => exact cg_no q
  next q =>
  have i := fieldsP_cg l (l.length + 1) (a + 3) [] (Classical.not_not.1 q)
  simp only [cntTs] at i
  exact cg_mk (by omega)
theorem declsP_cg (l : List Tok) : ∀ n a out, Cl a (cntTs out) (declsP l n a out)
  | 0, a, out => fun h => by rw [declsP] at h; cases h
  | n + 1, a, out => by
    rw [declsP]
    split
    · intro _; simp only; omega
    split
    · next q => exact fun h => absurd h q
    next q =>
    have i := declP_cg l a (Classical.not_not.1 q)
    intro h
    have j := declsP_cg l n _ _ h
    rw [cnt_snoc] at j
    omega
/-- Where it ends. -/
theorem declsP_at {l : List Tok} (E : Ended l) : ∀ n a out, a < l.length → (declsP l n a out).e = 0 → (declsP l n a out).a < l.length
  | 0, a, out, _ => fun h => by rw [declsP] at h; cases h
  | n + 1, a, out, ha => by
    rw [declsP]
    split
    · intro _; exact ha
    split
    · next q => exact fun h => absurd h q
    next q => exact declsP_at E n _ _ ((declP_ok E ha).1 (Classical.not_not.1 q)).2
end Go.Nt.Lk
