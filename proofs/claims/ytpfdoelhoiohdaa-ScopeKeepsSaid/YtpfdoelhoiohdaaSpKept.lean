/-
  THE REFERENCE'S PARSER: the places stay within the tokens.
  No condition.
-/
import Derived.Test.YtpfdoelhoiohdaaSpRes
set_option linter.unusedSimpArgs false
namespace Go.Nt.Lk
open Go Go.Nt

variable {l : List Tok} {a b : Nat}

/-- The last token is an end, and no other one. -/
def Ended (l : List Tok) : Prop := ∀ a, (nowT l a).k ≠ 5 → a + 1 < l.length
theorem isW_k {w : List UInt8} (h : isW l a w = true) : (nowT l a).k = 3 := by
  unfold isW at h
  rw [Bool.and_eq_true, decide_eq_true_eq] at h
  exact h.1
theorem isS_k {w : List UInt8} (h : isS l a w = true) : (nowT l a).k = 4 := by
  unfold isS at h
  rw [Bool.and_eq_true, decide_eq_true_eq] at h
  exact h.1
theorem Ended.s (E : Ended l) {w : List UInt8} (h : isS l a w = true) : a + 1 < l.length := E a (by rw [isS_k h]; decide)
theorem Ended.w (E : Ended l) {w : List UInt8} (h : isW l a w = true) : a + 1 < l.length := E a (by rw [isW_k h]; decide)
theorem Ended.s' (E : Ended l) {w : List UInt8} (h : ¬ isS l a w = false) : a + 1 < l.length := E.s (by simpa using h)
theorem Ended.w' (E : Ended l) {w : List UInt8} (h : ¬ isW l a w = false) : a + 1 < l.length := E.w (by simpa using h)
theorem Ended.n (E : Ended l) (h : (nowT l a).k = 1) : a + 1 < l.length := E a (by rw [h]; decide)
theorem Ended.n' (E : Ended l) (h : ¬ ¬ (nowT l a).k = 1) : a + 1 < l.length := E.n (Classical.not_not.1 h)
theorem Ended.d (E : Ended l) (h : (nowT l a).k = 2) : a + 1 < l.length := E a (by rw [h]; decide)

/-- Where reading ends. -/
def Okg (l : List Tok) (a : Nat) (g : Gt) : Prop := (g.e = 0 → a < g.a ∧ g.a < l.length) ∧ (¬ g.e = 0 → g.e = 6 ∧ g.a < l.length)
def Okl (l : List Tok) (a : Nat) (g : Gl) : Prop := (g.e = 0 → a < g.a ∧ g.a < l.length) ∧ (¬ g.e = 0 → g.e = 6 ∧ g.a < l.length)
theorem okg_bad (h : b < l.length) : Okg l a (badG b) := ⟨(fun q => by cases q), fun _ => ⟨rfl, h⟩⟩
theorem okg_mk {fr to : Nat} {k n : Int} {s : List UInt8} {fl : Fl} {ps : List Tm} (h : a < to) (h2 : to < l.length) : Okg l a (mkG l fr to k n s fl ps) := ⟨fun _ => ⟨h, h2⟩, fun q => absurd rfl q⟩
theorem okg_up {g : Gt} (h : Okg l b g) (hab : a ≤ b) : Okg l a g := ⟨fun q => by have := h.1 q; omega, h.2⟩
theorem okg_of {g : Gt} (h : Okg l b g) (hne : ¬ g.e = 0) : Okg l a g := ⟨fun q => absurd q hne, h.2⟩

theorem typ_ok (E : Ended l) : ∀ n a, a < l.length → Okg l a (typP l n a)
  | 0, a, h => okg_bad h
  | n + 1, a, h => by
    rw [typP]
    split
    · next q => exact okg_mk (by omega) (E.w q)
    split
    · next q => exact okg_mk (by omega) (E.w q)
    split
    · next q => exact okg_mk (by omega) (E.n q)
    split
    · exact okg_bad h
    next h1 =>
    have e1 := E.s' h1
    split
    · exact okg_bad e1
    next h2 =>
    have e2 := E.d (Classical.not_not.1 h2)
    split
    · exact okg_bad e2
    next h3 =>
    have e3 := E.s' h3
    have ih := typ_ok E n (a + 3) e3
    split
    · next h4 => exact okg_of ih h4
    · next h4 =>
      have := ih.1 (Classical.not_not.1 h4)
      exact okg_mk (by omega) (by omega)

theorem callH_ok (E : Ended l) (h : a < l.length) : (∀ b, callH l a = .error b → b < l.length) ∧ ∀ k s op few s1 s2, callH l a = .ok (k, s, op, few, s1, s2) → a ≤ op ∧ op < l.length := by
  unfold callH
  constructor
  · intro b q
    split at q
    · cases q
    split at q
    · cases q
    split at q
    · next h1 =>
      split at q
      · cases q
        rcases h1 with h1 | h1
        · exact E.s h1
        · exact E.w h1
      · split at q <;> cases q
    · cases q; exact h
  · intro k s op few s1 s2 q
    split at q
    · next h1 => cases q; exact ⟨by omega, E.n h1⟩
    split at q
    · cases q; exact ⟨by omega, h⟩
    split at q
    · split at q
      · cases q
      · next h2 =>
        have := E.n' h2
        split at q <;> (cases q; exact ⟨by omega, by omega⟩)
    · cases q

theorem expr_ok (E : Ended l) : ∀ n, (∀ a lv, a < l.length → Okg l a (levelP l n a lv)) ∧ (∀ a lv x t, a < l.length → Okg l a x → Okg l a (levelL l n a lv x t)) ∧ (∀ a, a < l.length → Okg l a (unP l n a)) ∧
    (∀ a, a < l.length → Okg l a (postP l n a)) ∧ (∀ a x, a < l.length → Okg l a x → Okg l a (postL l n a x)) ∧ (∀ a, a < l.length → Okg l a (atomP l n a)) ∧ (∀ a, a < l.length → Okg l a (calledP l n a)) ∧
    (∀ a few s1 s2, a < l.length → Okl l a (closedP l n a few s1 s2)) ∧ (∀ a out, a < l.length → Okl l a (listP l n a out)) := by
  intro n
  induction n with
  | zero => exact ⟨fun a lv h => by rw [levelP]; exact okg_bad h, fun a lv x t h _ => by rw [levelL]; exact okg_bad h, fun a h => by rw [unP]; exact okg_bad h, fun a h => by rw [postP]; exact okg_bad h, fun a x h _ => by rw [postL]; exact okg_bad h, fun a h => by rw [atomP]; exact okg_bad h, fun a h => by rw [calledP]; exact okg_bad h,
      fun a few s1 s2 h => by rw [closedP]; exact ⟨(fun q => by cases q), fun _ => ⟨rfl, h⟩⟩, fun a out h => by rw [listP]; exact ⟨(fun q => by cases q), fun _ => ⟨rfl, h⟩⟩⟩
  | succ n ih =>
    obtain ⟨iLev, iLevL, iUn, iPost, iPostL, iAtom, iCalled, iClosed, iList⟩ := ih
    refine ⟨fun a lv h => ?_, fun a lv x t h hx => ?_, fun a h => ?_, fun a h => ?_, fun a x h hx => ?_, fun a h => ?_, fun a h => ?_, fun a few s1 s2 h => ?_, fun a out h => ?_⟩
    · rw [levelP]
      split
      · exact iUn a h
      · exact iLevL a lv _ 0 h (iLev a (lv + 1) h)
    · rw [levelL]
      split
      · exact hx
      next h0 =>
      obtain ⟨x1, x2⟩ := hx.1 (Classical.not_not.1 h0)
      split
      · exact hx
      next h1 =>
      have e1 : x.a + 1 < l.length := by
        have : ∀ ops : List (List UInt8 × Int), opT l x.a ops ≠ 0 → x.a + 1 < l.length := by
          intro ops
          induction ops with
          | nil => intro q; exact absurd rfl q
          | cons p r ih =>
            intro q
            rw [opT] at q
            split at q
            · next hs => exact E.s hs
            · exact ih q
        exact this _ fun q => h1 (.inl q)
      have i := iLev (x.a + 1) (lv + 1) e1
      split
      · next h2 => exact okg_of i h2
      · next h2 =>
        have := i.1 (Classical.not_not.1 h2)
        exact iLevL a lv _ _ h (okg_mk (by omega) (by omega))
    · rw [unP]
      split
      · exact iPost a h
      next h0 =>
      have e0 : a + 1 < l.length := by
        by_cases q : isS l a [33] = false
        · by_cases q2 : isS l a [45] = false
          · exact absurd ⟨q, q2⟩ h0
          · exact E.s' q2
        · exact E.s' q
      have i := iUn (a + 1) e0
      split
      · next h2 => exact okg_of i h2
      · next h2 =>
        have := i.1 (Classical.not_not.1 h2)
        exact okg_mk (by omega) (by omega)
    · rw [postP]; exact iPostL a _ h (iAtom a h)
    · rw [postL]
      split
      · exact hx
      next h0 =>
      obtain ⟨x1, x2⟩ := hx.1 (Classical.not_not.1 h0)
      split
      · next h1 =>
        have e1 := E.s h1
        have i := iLev (x.a + 1) 1 e1
        split
        · next h2 => exact okg_of i h2
        · next h2 =>
          have i1 := i.1 (Classical.not_not.1 h2)
          split
          · exact okg_bad i1.2
          · next h3 => exact iPostL a _ h (okg_mk (by omega) (E.s' h3))
      split
      · next h1 =>
        have e1 := E.s h1
        split
        · exact okg_bad e1
        · next h3 => exact iPostL a _ h (okg_mk (by omega) (E.n' h3))
      · exact hx
    · rw [atomP]
      split
      · next q => exact okg_mk (by omega) (E.d q)
      split
      · next q => exact okg_mk (by omega) (E.w q)
      split
      · next q => exact okg_mk (by omega) (E.w q)
      split
      · next q => exact okg_mk (by omega) (E.w q)
      split
      · next q => exact okg_mk (by omega) (E.n q.1)
      split
      · next q =>
        have i := iLev (a + 1) 1 (E.s q)
        split
        · next h2 => exact okg_of i h2
        · next h2 =>
          have i1 := i.1 (Classical.not_not.1 h2)
          split
          · exact okg_bad i1.2
          · next h3 => exact ⟨fun _ => ⟨by simp only; omega, E.s' h3⟩, fun q => absurd rfl q⟩
      · exact iCalled a h
    · rw [calledP]
      obtain ⟨q1, q2⟩ := callH_ok E h
      cases hq : callH l a with
      | error b => exact okg_bad (q1 b hq)
      | ok v =>
        obtain ⟨k, s, op, few, s1, s2⟩ := v
        obtain ⟨q3, q4⟩ := q2 _ _ _ _ _ _ hq
        simp only
        have i := iClosed op few s1 s2 q4
        split
        · next h2 => exact ⟨fun q => absurd q h2, fun _ => i.2 h2⟩
        · next h2 =>
          have := i.1 (Classical.not_not.1 h2)
          exact okg_mk (by omega) (by omega)
    · rw [closedP]
      split
      · exact ⟨(fun q => by cases q), fun _ => ⟨rfl, h⟩⟩
      next h0 =>
      have e0 := E.s' h0
      split
      · next h1 => exact ⟨fun _ => ⟨by simp only; omega, E.s h1.2⟩, fun q => absurd rfl q⟩
      have i := iList (a + 1) [] e0
      split
      · next h2 => exact ⟨fun q => absurd q h2, i.2⟩
      · next h2 =>
        have i1 := i.1 (Classical.not_not.1 h2)
        split
        · exact ⟨(fun q => by cases q), fun _ => ⟨rfl, i1.2⟩⟩
        · next h3 => exact ⟨fun _ => ⟨by simp only; omega, E.s' h3⟩, fun q => absurd rfl q⟩
    · rw [listP]
      have i := iLev a 1 h
      split
      · next h2 => exact ⟨fun q => absurd q h2, fun _ => i.2 h2⟩
      · next h2 =>
        have i1 := i.1 (Classical.not_not.1 h2)
        split
        · exact ⟨fun _ => i1, fun q => absurd rfl q⟩
        · next h3 =>
          have i2 := iList ((levelP l n a 1).a + 1) (out ++ [(levelP l n a 1).t]) (E.s' h3)
          exact ⟨fun q => by have := i2.1 q; omega, i2.2⟩

theorem exprP_ok (E : Ended l) (h : a < l.length) : Okg l a (exprP l a) := (expr_ok E _).1 a 1 h
theorem typeP_ok (E : Ended l) (h : a < l.length) : Okg l a (typeP l a) := typ_ok E _ a h

theorem stmt_ok (E : Ended l) : ∀ n, (∀ a, a < l.length → Okg l a (stmtP l n a)) ∧ (∀ a k its to name ps, a ≤ to → (a < to ∨ ∃ i r, its = i :: r ∧ i ≠ .el) → a < l.length → to < l.length → Okg l a (formP l n a k its to name ps)) ∧
    (∀ a, a < l.length → Okg l a (blockP l n a)) ∧ (∀ a to ps, a < to → to < l.length → Okg l a (blockL l n a to ps)) := by
  intro n
  induction n with
  | zero => exact ⟨fun a h => by rw [stmtP]; exact okg_bad h, fun a k its to name ps _ _ h _ => by rw [formP]; exact okg_bad h, fun a h => by rw [blockP]; exact okg_bad h, fun a to ps h1 h2 => by rw [blockL]; exact okg_bad (by omega)⟩
  | succ n ih =>
    obtain ⟨iS, iF, iB, iL⟩ := ih
    refine ⟨fun a h => ?_, fun a k its to name ps hat hn h ht => ?_, fun a h => ?_, fun a to ps hat h => ?_⟩
    · rw [stmtP]
      split
      · exact iB a h
      · refine iF a _ _ a [] [] (by omega) (.inr ?_) h h
        unfold formT
        split
        · split <;> exact ⟨_, _, rfl, fun q => by cases q⟩
        split
        · exact ⟨_, _, rfl, fun q => by cases q⟩
        split
        · exact ⟨_, _, rfl, fun q => by cases q⟩
        split
        · exact ⟨_, _, rfl, fun q => by cases q⟩
        split
        · exact ⟨_, _, rfl, fun q => by cases q⟩
        split
        · exact ⟨_, _, rfl, fun q => by cases q⟩
        split <;> exact ⟨_, _, rfl, fun q => by cases q⟩
    · have go : ∀ r to' name' ps', a < to' → to' < l.length → Okg l a (formP l n a k r to' name' ps') := fun r to' name' ps' q1 q2 => iF a k r to' name' ps' (by omega) (.inl q1) h q2
      have via : ∀ (g : Gt) (b : Nat) (r : List It) (u : Tm), a ≤ b → Okg l b g → ∀ (name' : List UInt8), Okg l a (if ¬ g.e = 0 then g else formP l n a k r g.a name' (ps ++ [u])) := by
        intro g b r u hab hg name'
        split
        · next q => exact okg_of hg q
        · next q =>
          have := hg.1 (Classical.not_not.1 q)
          exact go r _ _ _ (by omega) (by omega)
      cases its with
      | nil =>
        rw [formP]
        rcases hn with q | ⟨_, _, q, _⟩
        · exact okg_mk q ht
        · cases q
      | cons it r =>
        cases it with
        | w s =>
          rw [formP]
          split
          · exact okg_bad ht
          · next q => exact go _ _ _ _ (by omega) (E.w' q)
        | g s =>
          rw [formP]
          split
          · exact okg_bad ht
          · next q => exact go _ _ _ _ (by omega) (E.s' q)
        | n =>
          rw [formP]
          split
          · exact okg_bad ht
          · next q => exact go _ _ _ _ (by omega) (E.n' q)
        | e => rw [formP]; exact via _ to r _ hat (exprP_ok E ht) name
        | t => rw [formP]; exact via _ to r _ hat (typeP_ok E ht) name
        | b => rw [formP]; exact via _ to r _ hat (iB to ht) name
        | el =>
          rw [formP]
          split
          · rcases hn with q | ⟨_, _, q, q2⟩
            · exact go _ _ _ _ q ht
            · cases q; exact absurd rfl q2
          · next q => exact via _ (to + 1) r _ (by omega) (iB (to + 1) (E.w' q)) name
    · rw [blockP]
      split
      · exact okg_bad h
      · next q => exact iL a (a + 1) [] (by omega) (E.s' q)
    · rw [blockL]
      split
      · next q => exact okg_mk (by omega) (E.s q)
      have i := iS to h
      split
      · next q => exact okg_of i q
      · next q =>
        have := i.1 (Classical.not_not.1 q)
        exact iL a _ _ (by omega) (by omega)
end Go.Nt.Lk

/-
  THE REFERENCE'S PARSER: how declarations are formed, and where they end.
  No condition.
-/
set_option linter.unusedSimpArgs false
namespace Go.Nt.Lk
open Go Go.Nt

variable {l : List Tok} {a : Nat}

def prX (p : Tm) : Bool := decide (p.k = 34) && plX p
/-- A declaration as it is read. -/
def declX (t : Tm) : Bool :=
  if t.k = 30 then t.l.all prX else
  if t.k = 33 then (match t.l with
    | [p, r, b] => decide (p.k = 35) && (decide (p.n = 0) && (decide (p.s = []) && (p.l.all prX && (plX r && (decide (b.k = 29) && stX b)))))
    | _ => false)
  else plX t

theorem name_pr (l : List Tok) (a : Nat) (h : (nameP l a).e = 0) : prX (nameP l a).t = true := by
  unfold nameP at h ⊢
  split
  · next q => rw [if_pos q] at h; cases h
  next q1 =>
  rw [if_neg q1] at h
  split
  · next q => rw [if_pos q] at h; cases h
  next q2 =>
  rw [if_neg q2] at h
  split
  · next q => rw [if_pos q] at h; exact absurd h q
  next q3 =>
  have i := typeP_pl l (a + 2) (Classical.not_not.1 q3)
  unfold prX
  rw [Bool.and_eq_true]
  refine ⟨by simp [mkG, mkT], (plX_iff _).2 ⟨by simp [mkG, mkT], by simp [mkG, mkT], by simp [mkG, mkT], fun x hx => ?_⟩⟩
  simp [mkG, mkT] at hx
  subst hx
  exact i

theorem snoc_pr {out : List Tm} {x : Tm} (ho : ∀ x, x ∈ out → prX x = true) (hx : prX x = true) : ∀ y, y ∈ out ++ [x] → prX y = true := fun y hy => by
  rcases List.mem_append.1 hy with q | q
  · exact ho y q
  · rw [List.mem_singleton] at q; subst q; exact hx

theorem fields_pr (l : List Tok) : ∀ n a out, (∀ x, x ∈ out → prX x = true) → (fieldsP l n a out).e = 0 → ∀ x, x ∈ (fieldsP l n a out).ts → prX x = true
  | 0, a, out, _, h => by rw [fieldsP] at h; cases h
  | n + 1, a, out, ho, h => by
    rw [fieldsP] at h ⊢
    split
    · exact ho
    next q1 =>
    rw [if_neg q1] at h
    split
    · next q => rw [if_pos q] at h; exact absurd h q
    next q2 =>
    rw [if_neg q2] at h
    split
    · next q => rw [if_pos q] at h; cases h
    next q3 =>
    rw [if_neg q3] at h
    exact fields_pr l n _ _ (snoc_pr ho (name_pr l a (Classical.not_not.1 q2))) h

def parX (p : Tm) : Prop := p.k = 35 ∧ p.n = 0 ∧ p.s = [] ∧ ∀ x, x ∈ p.l → prX x = true
theorem paramsL_par (l : List Tok) (a : Nat) : ∀ n to out, (∀ x, x ∈ out → prX x = true) → (paramsL l n a to out).e = 0 → parX (paramsL l n a to out).t
  | 0, to, out, _, h => by rw [paramsL] at h; cases h
  | n + 1, to, out, ho, h => by
    rw [paramsL] at h ⊢
    split
    · next q => rw [if_pos q] at h; exact absurd h q
    next q1 =>
    rw [if_neg q1] at h
    have hs := snoc_pr ho (name_pr l to (Classical.not_not.1 q1))
    split
    · next q => rw [if_pos q] at h; exact paramsL_par l a n _ _ hs h
    next q2 =>
    rw [if_neg q2] at h
    split
    · next q => rw [if_pos q] at h; cases h
    · exact ⟨rfl, rfl, rfl, hs⟩
theorem params_par (l : List Tok) (a : Nat) (h : (paramsP l a).e = 0) : parX (paramsP l a).t := by
  unfold paramsP at h ⊢
  split
  · next q => rw [if_pos q] at h; cases h
  next q1 =>
  rw [if_neg q1] at h
  split
  · exact ⟨rfl, rfl, rfl, fun x hx => by cases hx⟩
  · next q => rw [if_neg q] at h; exact paramsL_par l a _ _ _ (fun x hx => by cases hx) h

theorem blk_st (l : List Tok) (a : Nat) (h : (blkP l a).e = 0) : (blkP l a).t.k = 29 ∧ stX (blkP l a).t = true := (stmt_st l _).2.2.1 a h

theorem fn_decl (l : List Tok) (first a : Nat) (pub : Int) (h : (fnP l first a pub).e = 0) : declX (fnP l first a pub).t = true := by
  unfold fnP at h ⊢
  split
  · next q => rw [if_pos q] at h; cases h
  next q1 =>
  rw [if_neg q1] at h
  split
  · next q => rw [if_pos q] at h; cases h
  next q2 =>
  rw [if_neg q2] at h
  split
  · next q => rw [if_pos q] at h; exact absurd h q
  next q3 =>
  rw [if_neg q3] at h
  split
  · next q => rw [if_pos q] at h; cases h
  next q4 =>
  rw [if_neg q4] at h
  split
  · next q => rw [if_pos q] at h; exact absurd h q
  next q5 =>
  rw [if_neg q5] at h
  split
  · next q => rw [if_pos q] at h; exact absurd h q
  next q6 =>
  obtain ⟨p1, p2, p3, p4⟩ := params_par l (a + 2) (Classical.not_not.1 q3)
  have r1 := typeP_pl l _ (Classical.not_not.1 q5)
  obtain ⟨b1, b2⟩ := blk_st l _ (Classical.not_not.1 q6)
  unfold declX
  simp only [mkG, mkT, k_mk, l_mk]
  simp only [show ¬ (33 : Int) = 30 by decide, if_false, if_true, p1, p2, p3, List.all_eq_true.2 p4, r1, b1, b2, decide_true, Bool.and_self]

theorem short_kind (l : List Tok) (a : Nat) : (if isW l a [99, 111, 110, 115, 116] = true then (31 : Int) else 32) = 31 ∨ (if isW l a [99, 111, 110, 115, 116] = true then (31 : Int) else 32) = 32 := by
  split
  · exact .inl rfl
  · exact .inr rfl
theorem short_decl (l : List Tok) (a : Nat) (h : (shortP l a).e = 0) : declX (shortP l a).t = true := by
  have hk0 := short_kind l a
  unfold shortP at h ⊢
  generalize (if isW l a [99, 111, 110, 115, 116] = true then (31 : Int) else 32) = kk at *
  generalize (if isW l a [99, 111, 110, 115, 116] = true then ([61] : List UInt8) else [58]) = sg at *
  split
  · next q => rw [if_pos q] at h; cases h
  next q1 =>
  rw [if_neg q1] at h
  split
  · next q => rw [if_pos q] at h; cases h
  next q2 =>
  rw [if_neg q2] at h
  split
  · next q => rw [if_pos q] at h; exact absurd h q
  next q3 =>
  rw [if_neg q3] at h
  split
  · next q => rw [if_pos q] at h; cases h
  have i : plX (shortX l a).t = true := by
    have q3 := Classical.not_not.1 q3
    unfold shortX at q3 ⊢
    split
    · next c =>
      rw [if_pos c] at q3
      split
      · next d => rw [if_pos d] at q3; exact (expr_pl l _).2.2.2.2.2.1 _ q3
      · next d => rw [if_neg d] at q3; cases q3
    · next c => rw [if_neg c] at q3; exact typeP_pl l _ q3
  unfold declX
  simp only [mkG, mkT, k_mk, l_mk]
  have hk : ∀ k : Int, k = 31 ∨ k = 32 → (if k = 30 then ([(shortX l a).t].all prX) else if k = 33 then (false : Bool) else plX (.mk k 0 (nowT l (a + 1)).s .full [(shortX l a).t] (nowT l a).f (nowT l ((shortX l a).a + 1 - 1)).t)) = true := by
    intro k hk
    rw [if_neg (by omega), if_neg (by omega), plX_iff]
    refine ⟨by simp only [k_mk]; omega, by simp only [k_mk]; omega, fun c => by simp only [k_mk] at c; omega, fun x hx => ?_⟩
    simp at hx
    subst hx
    exact i
  have := hk kk hk0
  rcases hk0 with rfl | rfl
  · exact this
  · exact this

theorem decl_decl (l : List Tok) (a : Nat) (h : (declP l a).e = 0) : declX (declP l a).t = true := by
  unfold declP at h ⊢
  split
  · next q => rw [if_pos q] at h; exact short_decl l a h
  next q1 =>
  rw [if_neg q1] at h
  split
  · next q => rw [if_pos q] at h; exact fn_decl l a _ 1 h
  next q2 =>
  rw [if_neg q2] at h
  split
  · next q => rw [if_pos q] at h; exact fn_decl l a _ 0 h
  next q3 =>
  rw [if_neg q3] at h
  split
  · next q => rw [if_pos q] at h; cases h
  next q4 =>
  rw [if_neg q4] at h
  split
  · next q => rw [if_pos q] at h; cases h
  next q5 =>
  rw [if_neg q5] at h
  split
  · next q => rw [if_pos q] at h; cases h
  next q6 =>
  rw [if_neg q6] at h
  split
  · next q => rw [if_pos q] at h; exact absurd h q
  next q7 =>
  have i := fields_pr l _ (a + 3) [] (fun x hx => by cases hx) (Classical.not_not.1 q7)
  unfold declX
  simp only [mkG, mkT, k_mk, l_mk]
  simp only [if_true]
  exact List.all_eq_true.2 i

theorem decls_ok (l : List Tok) : ∀ n a out, (∀ x, x ∈ out → declX x = true) → (declsP l n a out).e = 0 → ∀ x, x ∈ (declsP l n a out).ts → declX x = true
  | 0, a, out, _, h => by rw [declsP] at h; cases h
  | n + 1, a, out, ho, h => by
    rw [declsP] at h ⊢
    split
    · exact ho
    next q1 =>
    rw [if_neg q1] at h
    split
    · next q => rw [if_pos q] at h; exact absurd h q
    next q2 =>
    rw [if_neg q2] at h
    refine decls_ok l n _ _ (fun y hy => ?_) h
    rcases List.mem_append.1 hy with q | q
    · exact ho y q
    · rw [List.mem_singleton] at q; subst q; exact decl_decl l a (Classical.not_not.1 q2)

/-! ### Places -/
theorem blkP_ok (E : Ended l) (h : a < l.length) : Okg l a (blkP l a) := (stmt_ok E _).2.2.1 a h
theorem nameP_ok (E : Ended l) (h : a < l.length) : Okg l a (nameP l a) := by
  unfold nameP
  split
  · exact okg_bad h
  next q1 =>
  have e1 := E.n' q1
  split
  · exact okg_bad e1
  next q2 =>
  have e2 : a + 2 < l.length := E.s' q2
  have i := typeP_ok E e2
  split
  · next q => exact okg_of i q
  · next q => have := i.1 (Classical.not_not.1 q); exact okg_mk (by omega) (by omega)
theorem fieldsP_ok (E : Ended l) : ∀ n a out, a < l.length → Okl l a (fieldsP l n a out)
  | 0, a, out, h => by rw [fieldsP]; exact ⟨(fun q => by cases q), fun _ => ⟨rfl, h⟩⟩
  | n + 1, a, out, h => by
    rw [fieldsP]
    split
    · next q => exact ⟨fun _ => ⟨Nat.lt_succ_self a, E.s q.2⟩, fun q => absurd rfl q⟩
    have i := nameP_ok E h
    split
    · next q => exact ⟨fun c => absurd c q, fun _ => i.2 q⟩
    next q2 =>
    have i1 := i.1 (Classical.not_not.1 q2)
    split
    · exact ⟨(fun q => by cases q), fun _ => ⟨rfl, i1.2⟩⟩
    next q3 =>
    have := fieldsP_ok E n ((nameP l a).a + 1) (out ++ [(nameP l a).t]) (E.s' q3)
    exact ⟨fun c => by have := this.1 c; omega, this.2⟩
theorem paramsL_ok (E : Ended l) (a : Nat) : ∀ n to out, a < to → to < l.length → Okg l a (paramsL l n a to out)
  | 0, to, out, h1, h2 => by rw [paramsL]; exact okg_bad (by omega)
  | n + 1, to, out, h1, h2 => by
    rw [paramsL]
    have i := nameP_ok E h2
    split
    · next q => exact okg_of i q
    next q2 =>
    have i1 := i.1 (Classical.not_not.1 q2)
    split
    · next q => exact paramsL_ok E a n _ _ (by omega) (E.s q)
    split
    · exact okg_bad i1.2
    · next q => exact okg_mk (by omega) (E.s' q)
theorem paramsP_ok (E : Ended l) (h : a < l.length) : Okg l a (paramsP l a) := by
  unfold paramsP
  split
  · exact okg_bad h
  next q1 =>
  split
  · next q => exact okg_mk (by omega) (E.s q)
  · exact paramsL_ok E a _ _ _ (by omega) (E.s' q1)
theorem fnP_ok (E : Ended l) {first : Nat} {pub : Int} (hf : first ≤ a) (h : a < l.length) : Okg l first (fnP l first a pub) := by
  unfold fnP
  split
  · exact okg_bad h
  next q1 =>
  have e1 := E.w' q1
  split
  · exact okg_bad e1
  next q2 =>
  have e2 : a + 2 < l.length := E.n' q2
  have i := paramsP_ok E e2
  split
  · next q => exact okg_of i q
  next q3 =>
  have i1 := i.1 (Classical.not_not.1 q3)
  split
  · exact okg_bad i1.2
  next q4 =>
  have j := typeP_ok E (E.s' q4)
  split
  · next q => exact okg_of j q
  next q5 =>
  have j1 := j.1 (Classical.not_not.1 q5)
  have k := blkP_ok E j1.2
  split
  · next q => exact okg_of k q
  next q6 =>
  have k1 := k.1 (Classical.not_not.1 q6)
  exact okg_mk (by omega) (by omega)
theorem shortX_ok (E : Ended l) (h : a + 3 < l.length) : Okg l (a + 3) (shortX l a) := by
  unfold shortX
  split
  · split
    · exact (expr_ok E _).2.2.2.2.2.1 _ h
    · exact okg_bad h
  · exact typeP_ok E h
theorem shortP_ok (E : Ended l) (h : a + 1 < l.length) : Okg l a (shortP l a) := by
  unfold shortP
  generalize (if isW l a [99, 111, 110, 115, 116] = true then (31 : Int) else 32) = kk
  generalize (if isW l a [99, 111, 110, 115, 116] = true then ([61] : List UInt8) else [58]) = sg
  split
  · exact okg_bad h
  next q1 =>
  have e1 := E.n' q1
  split
  · exact okg_bad e1
  next q2 =>
  have e3 : a + 3 < l.length := E.s' q2
  have i := shortX_ok E e3
  split
  · next q => exact okg_of i q
  next q3 =>
  have i1 := i.1 (Classical.not_not.1 q3)
  split
  · exact okg_bad i1.2
  · next q => exact okg_mk (by omega) (E.s' q)
theorem declP_ok (E : Ended l) (h : a < l.length) : Okg l a (declP l a) := by
  unfold declP
  split
  · next q =>
    rcases q with q | q
    · exact shortP_ok E (E.w q)
    · exact shortP_ok E (E.w q)
  split
  · next q => exact fnP_ok E (by omega) (E.w q)
  split
  · exact fnP_ok E (by omega) h
  split
  · exact okg_bad h
  next q1 =>
  have e1 := E.w' q1
  split
  · exact okg_bad e1
  next q2 =>
  have e2 : a + 2 < l.length := E.n' q2
  split
  · exact okg_bad e2
  next q3 =>
  have e3 : a + 3 < l.length := E.s' q3
  have i := fieldsP_ok E (l.length + 1) (a + 3) [] e3
  split
  · next q => exact ⟨fun c => absurd c q, fun _ => i.2 q⟩
  · next q => have := i.1 (Classical.not_not.1 q); exact okg_mk (by omega) (by omega)
end Go.Nt.Lk

/-
  NAMES RESOLVED: a resolved term has the shape and the places of the named one.
  No condition.
-/
set_option linter.unusedSimpArgs false
namespace Go.Nt.Lk
open Go Go.Nt

def keptT : Tm → Tm → Bool
  | .mk k _ _ _ l a b, x => decide (a = x.a) && (decide (b = x.b) && (!decide (x.k = 19) && ((decide (k = 19) || decide (k = x.k)) && ((decide (x.s = []) || (decide (x.k = 13) || (decide (x.k = 17) || decide (x.k = 34)))) && keptTs l x.l))))
where keptTs : List Tm → List Tm → Bool
  | [], [] => true
  | a :: l, b :: k => keptT a b && keptTs l k
  | _, _ => false
theorem keptT_iff (t x : Tm) : keptT t x = true ↔ t.a = x.a ∧ t.b = x.b ∧ x.k ≠ 19 ∧ (t.k = 19 ∨ t.k = x.k) ∧ (x.s = [] ∨ x.k = 13 ∨ x.k = 17 ∨ x.k = 34) ∧ keptT.keptTs t.l x.l = true := by
  cases t
  simp only [keptT, Bool.and_eq_true, Bool.or_eq_true, decide_eq_true_eq, Bool.not_eq_true', decide_eq_false_iff_not, k_mk, l_mk, a_mk, b_mk, ne_eq]
theorem keptTs_nil : keptT.keptTs [] [] = true := rfl

/-- A name has no parts. -/
def nmX : Tm → Bool
  | .mk k _ _ _ l _ _ => (!decide (k = 19) || l.isEmpty) && (l.map nmX).all id
theorem nmX_iff (t : Tm) : nmX t = true ↔ (t.k = 19 → t.l = []) ∧ ∀ x, x ∈ t.l → nmX x = true := by
  have e : nmX t = ((!decide (t.k = 19) || t.l.isEmpty) && t.l.all nmX) := by cases t; simp [nmX, List.all_map] <;> rfl
  rw [e]
  simp only [Bool.and_eq_true, Bool.not_eq_true', decide_eq_false_iff_not, Bool.or_eq_true, List.isEmpty_iff, List.all_eq_true]
  constructor
  · rintro ⟨h3, h4⟩
    exact ⟨fun h => h3.resolve_left (fun c => c h), h4⟩
  · rintro ⟨h3, h4⟩
    refine ⟨?_, h4⟩
    by_cases h : t.k = 19
    · exact .inr (h3 h)
    · exact .inl h
theorem pl_nm (t : Tm) : plX t = true → nmX t = true := by
  induction t using Tm.ind with
  | h t ih =>
    intro h
    obtain ⟨_, _, h3, h4⟩ := (plX_iff t).1 h
    exact (nmX_iff t).2 ⟨h3, fun x hx => ih x hx (h4 x hx)⟩
theorem st_nm (t : Tm) : stX t = true → nmX t = true := by
  induction t using Tm.ind with
  | h t ih =>
    intro h
    rw [stX_eq] at h
    split at h
    · next h29 =>
      rw [List.all_eq_true] at h
      exact (nmX_iff t).2 ⟨fun c => by omega, fun x hx => ih x hx (h x hx)⟩
    · split at h
      · next h29 hk =>
        rw [Bool.and_eq_true, List.all_eq_true] at h
        refine (nmX_iff t).2 ⟨fun c => by omega, fun x hx => ?_⟩
        have := h.2 x hx
        unfold okX at this
        split at this
        · exact ih x hx this
        · exact pl_nm x this
      · exact pl_nm t h

theorem name_kept {m : Tm} {locs : List Nm} {t x : Tm} (h19 : t.k = 19) (hl : t.l = []) (h : nameR m locs t = .ok x) : keptT t x = true := by
  have key : ∀ k n, k ≠ 19 → keptT t (.mk k n [] .nil [] t.a t.b) = true := fun k n hk => (keptT_iff _ _).2 ⟨rfl, rfl, hk, .inl h19, .inl rfl, by rw [hl]; rfl⟩
  unfold nameR at h
  split at h
  · cases h; exact key _ _ (by decide)
  · split at h
    · split at h
      · cases h; exact key _ _ (by decide)
      · split at h
        · cases h; exact key _ _ (by decide)
        · cases h
    · cases h

mutual
  theorem any_kept {q : List Tm → Fl} {m : Tm} : ∀ (t : Tm) (locs : List Nm) (x : Tm), nmX t = true → anyR q m locs t = .ok x → keptT t x = true ∧ (t.k ≠ 19 → x.k = t.k)
    | .mk k n s fl l a b, locs, x, hn, h => by
      obtain ⟨n1, n2⟩ := (nmX_iff _).1 hn
      rw [anyR] at h
      split at h
      · next h19 => exact ⟨name_kept h19 (n1 h19) h, fun c => absurd h19 c⟩
      next h19 =>
      split at h
      · cases h
      cases hx : anyRs q m k s locs 0 locs l with
      | error e => rw [hx] at h; cases h
      | ok ls =>
        rw [hx] at h
        cases h
        refine ⟨(keptT_iff _ _).2 ⟨rfl, rfl, h19, .inr rfl, ?_, anys_kept l locs 0 locs ls n2 hx⟩, fun _ => rfl⟩
        simp only [s_mk, k_mk]
        split
        · next c => omega
        · exact .inl rfl
  theorem anys_kept {q : List Tm → Fl} {m : Tm} {k : Int} {s : Nm} : ∀ (l : List Tm) (base : List Nm) (i : Nat) (known : List Nm) (xs : List Tm), (∀ x, x ∈ l → nmX x = true) → anyRs q m k s base i known l = .ok xs → keptT.keptTs l xs = true
    | [], base, i, known, xs, _, h => by rw [anyRs] at h; cases h; rfl
    | t :: r, base, i, known, xs, hn, h => by
      rw [anyRs] at h
      cases hx : anyR q m (if k = 25 ∧ i = 2 then base ++ [s] else known) t with
      | error e => rw [hx] at h; cases h
      | ok x =>
        rw [hx] at h
        simp only at h
        cases hu : anyRs q m k s base (i + 1) (if k = 29 then moreN known t else if k = 25 ∧ i = 2 then base ++ [s] else known) r with
        | error e => rw [hu] at h; cases h
        | ok u =>
          rw [hu] at h
          cases h
          simp only [keptT.keptTs, (any_kept t _ x (hn t (by simp)) hx).1, anys_kept r base (i + 1) _ u (fun y hy => hn y (by simp [hy])) hu, Bool.and_self]
end

theorem pr_nm {p : Tm} (h : prX p = true) : p.k = 34 ∧ nmX p = true := by
  unfold prX at h
  rw [Bool.and_eq_true, decide_eq_true_eq] at h
  exact ⟨h.1, pl_nm p h.2⟩
theorem parts_kept {q : List Tm → Fl} {m : Tm} {keep : Bool} : ∀ (l : List Tm) (seen : List Nm) (xs : List Tm), (∀ x, x ∈ l → prX x = true) → partsR q m keep seen l = .ok xs → keptT.keptTs l xs = true
  | [], seen, xs, _, h => by rw [partsR] at h; cases h; rfl
  | t :: r, seen, xs, hp, h => by
    rw [partsR] at h
    split at h
    · cases h
    obtain ⟨k34, nm⟩ := pr_nm (hp t (by simp))
    cases hx : anyR q m [] t with
    | error e => rw [hx] at h; cases h
    | ok x =>
      rw [hx] at h
      simp only at h
      cases hu : partsR q m keep (t.s :: seen) r with
      | error e => rw [hu] at h; cases h
      | ok u =>
        rw [hu] at h
        cases h
        obtain ⟨a1, a2⟩ := any_kept t [] x nm hx
        have hk := a2 (by omega)
        simp only [keptT.keptTs, parts_kept r _ u (fun y hy => hp y (by simp [hy])) hu, Bool.and_true]
        cases keep with
        | false => exact a1
        | true =>
          obtain ⟨b1, b2, b3, b4, b5, b6⟩ := (keptT_iff _ _).1 a1
          exact (keptT_iff _ _).2 ⟨b1, b2, b3, b4, .inr (.inr (.inr (by simp only [if_true, k_mk]; omega))), b6⟩

theorem decl_kept {q : List Tm → Fl} {m t x : Tm} (hd : declX t = true) (h : declR q m t = .ok x) : keptT t x = true := by
  unfold declR at h
  unfold declX at hd
  by_cases h30 : t.k = 30
  · rw [if_pos h30] at h hd
    rw [List.all_eq_true] at hd
    cases hx : partsR q m true [] t.l with
    | error e => rw [hx] at h; cases h
    | ok ls =>
      rw [hx] at h
      cases h
      exact (keptT_iff _ _).2 ⟨rfl, rfl, by simp only [k_mk]; omega, .inr rfl, .inl rfl, parts_kept t.l [] ls hd hx⟩
  rw [if_neg h30] at h hd
  by_cases h33 : t.k = 33
  · rw [if_pos h33] at hd
    rw [if_neg (fun c => c h33)] at h
    match hl : t.l, hd with
    | [p, r, b], hd =>
      rw [hl] at h
      simp only [Bool.and_eq_true, decide_eq_true_eq, List.all_eq_true] at hd
      obtain ⟨p1, p2, p3, p4, r1, b1, b2⟩ := hd
      simp only at h
      cases hx : partsR q m false [] p.l with
      | error e => rw [hx] at h; cases h
      | ok ls =>
        rw [hx] at h
        simp only at h
        cases hu : anyR q m [] r with
        | error e => rw [hu] at h; cases h
        | ok u =>
          rw [hu] at h
          simp only at h
          cases hv : anyR q m (p.l.map (·.s)) b with
          | error e => rw [hv] at h; cases h
          | ok v =>
            rw [hv] at h
            cases h
            refine (keptT_iff _ _).2 ⟨rfl, rfl, by simp only [k_mk]; omega, .inr rfl, .inl rfl, ?_⟩
            rw [hl]
            simp only [keptT.keptTs, l_mk, (any_kept r [] u (pl_nm r r1) hu).1, (any_kept b _ v (st_nm b b2) hv).1, Bool.and_true]
            exact (keptT_iff _ _).2 ⟨rfl, rfl, by simp only [k_mk]; omega, .inr rfl, .inl rfl, parts_kept p.l [] ls p4 hx⟩
    | [], hd => cases hd
    | [_], hd => cases hd
    | [_, _], hd => cases hd
    | _ :: _ :: _ :: _ :: _, hd => cases hd
  rw [if_neg h33] at hd
  rw [if_pos h33] at h
  exact (any_kept t [] x (pl_nm t hd) h).1

theorem decls_kept {q : List Tm → Fl} {m : Tm} : ∀ (l xs : List Tm), (∀ x, x ∈ l → declX x = true) → declsR q m l = .ok xs → keptT.keptTs l xs = true
  | [], xs, _, h => by rw [declsR] at h; cases h; rfl
  | t :: r, xs, hd, h => by
    rw [declsR] at h
    cases hx : declR q m t with
    | error e => rw [hx] at h; cases h
    | ok x =>
      rw [hx] at h
      simp only at h
      cases hu : declsR q m r with
      | error e => rw [hu] at h; cases h
      | ok u =>
        rw [hu] at h
        cases h
        simp only [keptT.keptTs, decl_kept (hd t (by simp)) hx, decls_kept r u (fun y hy => hd y (by simp [hy])) hu, Bool.and_self]

theorem resolve_kept {q : List Tm → Fl} {m x : Tm} (hk : m.k ≠ 19) (hd : ∀ x, x ∈ m.l → declX x = true) (h : resolveR q m = .ok x) : keptT m x = true := by
  unfold resolveR at h
  cases ht : twiceR [] m.l with
  | some a => rw [ht] at h; cases h
  | none =>
    rw [ht] at h
    simp only at h
    cases hx : declsR q m m.l with
    | error e => rw [hx] at h; cases h
    | ok ls =>
      rw [hx] at h
      cases h
      exact (keptT_iff _ _).2 ⟨rfl, rfl, hk, .inr rfl, .inl rfl, decls_kept m.l ls hd hx⟩
end Go.Nt.Lk
