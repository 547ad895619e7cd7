/-
  THE REFERENCE'S PARSER: names one letter longer.
  No condition.
-/
import Derived.Test.YtpfdoelhoiohdaaSpRes
set_option linter.unusedSimpArgs false
namespace Go.Nt.Lk
open Go Go.Nt

/-- A name one letter longer. -/
def ren (s : List UInt8) : List UInt8 := if s = [] then [] else s ++ [122]
theorem ren_nil : ren [] = [] := rfl
theorem ren_inj {s t : List UInt8} (h : ren s = ren t) : s = t := by
  unfold ren at h
  split at h
  · next h1 =>
    split at h
    · next h2 => rw [h1, h2]
    · simp at h
  · split at h
    · simp at h
    · exact List.append_cancel_right h
theorem ren_eq (s t : List UInt8) : (ren s = ren t) = (s = t) := propext ⟨ren_inj, fun h => by rw [h]⟩

/-- A term without places and flags, its names one letter longer. -/
def eraL : Tm → Tm
  | .mk k n s _ l _ _ => .mk k n (ren s) .nil (l.map eraL) 0 0
/-- A term without places and flags. -/
def eraR : Tm → Tm
  | .mk k n s _ l _ _ => .mk k n s .nil (l.map eraR) 0 0
theorem eraL_eq (t : Tm) : eraL t = .mk t.k t.n (ren t.s) .nil (t.l.map eraL) 0 0 := by cases t; simp [eraL]
theorem eraR_eq (t : Tm) : eraR t = .mk t.k t.n t.s .nil (t.l.map eraR) 0 0 := by cases t; simp [eraR]

/-- Tokens whose names are one letter longer. -/
structure Longer (l l' : List Tok) : Prop where
  len : l'.length = l.length
  tok : ∀ i, (nowT l' i).k = (nowT l i).k ∧ (nowT l' i).n = (nowT l i).n ∧ ((nowT l i).k = 1 → (nowT l i).s ≠ [] ∧ (nowT l' i).s = ren (nowT l i).s) ∧ ((nowT l i).k ≠ 1 → (nowT l' i).s = (nowT l i).s)

variable {l l' : List Tok}

theorem Longer.s (H : Longer l l') (a : Nat) (w : List UInt8) : isS l' a w = isS l a w := by
  obtain ⟨h1, h2, h3, h4⟩ := H.tok a
  unfold isS
  rw [h1]
  by_cases hk : (nowT l a).k = 4
  · rw [h4 (by omega)]
  · simp [hk]
theorem Longer.w (H : Longer l l') (a : Nat) (w : List UInt8) : isW l' a w = isW l a w := by
  obtain ⟨h1, h2, h3, h4⟩ := H.tok a
  unfold isW
  rw [h1]
  by_cases hk : (nowT l a).k = 3
  · rw [h4 (by omega)]
  · simp [hk]
theorem Longer.k (H : Longer l l') (a : Nat) : (nowT l' a).k = (nowT l a).k := (H.tok a).1
theorem Longer.n (H : Longer l l') (a : Nat) : (nowT l' a).n = (nowT l a).n := (H.tok a).2.1
theorem Longer.nm (H : Longer l l') {a : Nat} (h : (nowT l a).k = 1) : (nowT l' a).s = ren (nowT l a).s := ((H.tok a).2.2.1 h).2
theorem Longer.op (H : Longer l l') (a : Nat) : ∀ ops, opT l' a ops = opT l a ops
  | [] => rfl
  | p :: r => by rw [opT, opT, H.s, H.op a r]

/-- Outcomes that are alike but for names' last letters, places, flags. -/
def Sg (g g' : Gt) : Prop := g'.e = g.e ∧ g'.a = g.a ∧ eraR g'.t = eraL g.t
def Sl (g g' : Gl) : Prop := g'.e = g.e ∧ g'.a = g.a ∧ g'.ts.map eraR = g.ts.map eraL
theorem sg_bad (b : Nat) : Sg (badG b) (badG b) := ⟨rfl, rfl, by simp [badG, tm0, eraL, eraR, ren]⟩
theorem sg_mk {fr to fr' : Nat} {k n : Int} {s s' : List UInt8} {fl fl' : Fl} {ps ps' : List Tm} (hs : s' = ren s) (hp : ps'.map eraR = ps.map eraL) : Sg (mkG l fr to k n s fl ps) (mkG l' fr' to k n s' fl' ps') :=
  ⟨rfl, rfl, by simp only [mkG, mkT, eraL, eraR, hs, hp]⟩
theorem sg_0 {fr to fr' : Nat} {k n : Int} {fl fl' : Fl} {ps ps' : List Tm} (hp : ps'.map eraR = ps.map eraL) : Sg (mkG l fr to k n [] fl ps) (mkG l' fr' to k n [] fl' ps') := sg_mk rfl hp

theorem typ_sim (H : Longer l l') : ∀ n a, Sg (typP l n a) (typP l' n a)
  | 0, a => sg_bad a
  | n + 1, a => by
    rw [typP, typP, H.w, H.w, H.s, H.s, H.k, H.k, H.n]
    split
    · exact sg_0 rfl
    split
    · exact sg_0 rfl
    split
    · next q => exact sg_mk (H.nm q) rfl
    split
    · exact sg_bad _
    split
    · exact sg_bad _
    split
    · exact sg_bad _
    obtain ⟨i1, i2, i3⟩ := typ_sim H n (a + 3)
    rw [i1]
    split
    · exact ⟨i1, i2, i3⟩
    · rw [i2]; exact sg_0 (by simp [i3])

theorem callH_sim (H : Longer l l') (a : Nat) : (∃ b, callH l a = .error b ∧ callH l' a = .error b) ∨ ∃ k s op few s1 s2, callH l a = .ok (k, s, op, few, s1, s2) ∧ callH l' a = .ok (k, ren s, op, few, s1, s2) := by
  unfold callH
  rw [H.s, H.s, H.w, H.k, H.k]
  split
  · next q => rw [H.nm q]; exact .inr ⟨_, _, _, _, _, _, rfl, rfl⟩
  split
  · exact .inr ⟨_, _, _, _, _, _, rfl, rfl⟩
  split
  · split
    · exact .inl ⟨_, rfl, rfl⟩
    next q =>
    rw [H.nm (Classical.not_not.1 q)]
    split
    · exact .inr ⟨_, _, _, _, _, _, rfl, rfl⟩
    · exact .inr ⟨_, _, _, _, _, _, rfl, rfl⟩
  · exact .inl ⟨_, rfl, rfl⟩

theorem expr_sim (H : Longer l l') : ∀ n, (∀ a lv, Sg (levelP l n a lv) (levelP l' n a lv)) ∧ (∀ a lv x x' t, Sg x x' → Sg (levelL l n a lv x t) (levelL l' n a lv x' t)) ∧ (∀ a, Sg (unP l n a) (unP l' n a)) ∧
    (∀ a, Sg (postP l n a) (postP l' n a)) ∧ (∀ a x x', Sg x x' → Sg (postL l n a x) (postL l' n a x')) ∧ (∀ a, Sg (atomP l n a) (atomP l' n a)) ∧ (∀ a, Sg (calledP l n a) (calledP l' n a)) ∧
    (∀ a few s1 s2, Sl (closedP l n a few s1 s2) (closedP l' n a few s1 s2)) ∧ (∀ a out out', out'.map eraR = out.map eraL → Sl (listP l n a out) (listP l' n a out')) := by
  intro n
  induction n with
  | zero =>
    refine ⟨fun a lv => ?_, fun a lv x x' t _ => ?_, fun a => ?_, fun a => ?_, fun a x x' _ => ?_, fun a => ?_, fun a => ?_, fun a few s1 s2 => ?_, fun a out out' ho => ?_⟩
    · rw [levelP, levelP]; exact sg_bad a
    · rw [levelL, levelL]; exact sg_bad a
    · rw [unP, unP]; exact sg_bad a
    · rw [postP, postP]; exact sg_bad a
    · rw [postL, postL]; exact sg_bad a
    · rw [atomP, atomP]; exact sg_bad a
    · rw [calledP, calledP]; exact sg_bad a
    · rw [closedP, closedP]; exact ⟨rfl, rfl, rfl⟩
    · rw [listP, listP]; exact ⟨rfl, rfl, ho⟩
  | succ n ih =>
    obtain ⟨iLev, iLevL, iUn, iPost, iPostL, iAtom, iCalled, iClosed, iList⟩ := ih
    refine ⟨fun a lv => ?_, fun a lv x x' t hx => ?_, fun a => ?_, fun a => ?_, fun a x x' hx => ?_, fun a => ?_, fun a => ?_, fun a few s1 s2 => ?_, fun a out out' ho => ?_⟩
    · rw [levelP, levelP]
      split
      · exact iUn a
      · exact iLevL a lv _ _ 0 (iLev a (lv + 1))
    · rw [levelL, levelL]
      obtain ⟨x1, x2, x3⟩ := hx
      rw [x1, x2, H.op]
      split
      · exact ⟨x1, x2, x3⟩
      split
      · exact ⟨x1, x2, x3⟩
      obtain ⟨i1, i2, i3⟩ := iLev (x.a + 1) (lv + 1)
      rw [i1, i2]
      split
      · exact ⟨i1, i2, i3⟩
      · exact iLevL a lv _ _ _ (sg_0 (by simp [x3, i3]))
    · rw [unP, unP, H.s, H.s]
      split
      · exact iPost a
      obtain ⟨i1, i2, i3⟩ := iUn (a + 1)
      rw [i1, i2]
      split
      · exact ⟨i1, i2, i3⟩
      · exact sg_0 (by simp [i3])
    · rw [postP, postP]; exact iPostL a _ _ (iAtom a)
    · rw [postL, postL]
      obtain ⟨x1, x2, x3⟩ := hx
      simp only [x1, x2, H.s, H.k]
      split
      · exact ⟨x1, x2, x3⟩
      split
      · obtain ⟨i1, i2, i3⟩ := iLev (x.a + 1) 1
        simp only [i1, i2]
        split
        · exact ⟨i1, i2, i3⟩
        split
        · exact sg_bad _
        · exact iPostL a _ _ (sg_0 (by simp [x3, i3]))
      split
      · split
        · exact sg_bad _
        · next q => exact iPostL a _ _ (sg_mk (H.nm (Classical.not_not.1 q)) (by simp [x3]))
      · exact ⟨x1, x2, x3⟩
    · rw [atomP, atomP, H.k, H.n, H.w, H.w, H.w, H.s, H.s]
      split
      · exact sg_0 rfl
      split
      · exact sg_0 rfl
      split
      · exact sg_0 rfl
      split
      · exact sg_0 rfl
      split
      · next q => exact sg_mk (H.nm q.1) rfl
      split
      · obtain ⟨i1, i2, i3⟩ := iLev (a + 1) 1
        rw [i1, i2, H.s]
        split
        · exact ⟨i1, i2, i3⟩
        split
        · exact sg_bad _
        · exact ⟨rfl, rfl, i3⟩
      · exact iCalled a
    · rw [calledP, calledP]
      rcases callH_sim H a with ⟨b, q1, q2⟩ | ⟨k, s, op, few, s1, s2, q1, q2⟩
      · rw [q1, q2]; exact sg_bad b
      · rw [q1, q2]
        simp only
        obtain ⟨i1, i2, i3⟩ := iClosed op few s1 s2
        rw [i1, i2]
        split
        · exact ⟨rfl, rfl, by simp [tm0, eraL, eraR, ren]⟩
        · exact sg_mk rfl i3
    · rw [closedP, closedP, H.s, H.s]
      split
      · exact ⟨rfl, rfl, rfl⟩
      split
      · exact ⟨rfl, rfl, rfl⟩
      obtain ⟨i1, i2, i3⟩ := iList (a + 1) [] [] rfl
      rw [i1, i2, H.s]
      split
      · exact ⟨i1, i2, i3⟩
      split
      · exact ⟨rfl, rfl, i3⟩
      · exact ⟨rfl, rfl, i3⟩
    · rw [listP, listP]
      obtain ⟨i1, i2, i3⟩ := iLev a 1
      rw [i1, i2, H.s]
      have hall : (out' ++ [(levelP l' n a 1).t]).map eraR = (out ++ [(levelP l n a 1).t]).map eraL := by simp [ho, i3]
      split
      · exact ⟨rfl, rfl, ho⟩
      split
      · exact ⟨rfl, rfl, hall⟩
      · exact iList _ _ _ hall

theorem exprP_sim (H : Longer l l') (a : Nat) : Sg (exprP l a) (exprP l' a) := by
  unfold exprP fuelE
  rw [H.len]
  exact (expr_sim H _).1 a 1
theorem typeP_sim (H : Longer l l') (a : Nat) : Sg (typeP l a) (typeP l' a) := by
  unfold typeP
  rw [H.len]
  exact typ_sim H _ a
theorem form_sim (H : Longer l l') (a : Nat) : formT l' a = formT l a := by
  unfold formT
  rw [H.w, H.w, H.w, H.w, H.w, H.w, H.w, H.s, H.k]

theorem stmt_sim (H : Longer l l') : ∀ n, (∀ a, Sg (stmtP l n a) (stmtP l' n a)) ∧
    (∀ a k its to name ps ps', ps'.map eraR = ps.map eraL → Sg (formP l n a k its to name ps) (formP l' n a k its to (ren name) ps')) ∧
    (∀ a, Sg (blockP l n a) (blockP l' n a)) ∧ (∀ a to ps ps', ps'.map eraR = ps.map eraL → Sg (blockL l n a to ps) (blockL l' n a to ps')) := by
  intro n
  induction n with
  | zero =>
    refine ⟨fun a => ?_, fun a k its to name ps ps' hp => ?_, fun a => ?_, fun a to ps ps' hp => ?_⟩
    · rw [stmtP, stmtP]; exact sg_bad a
    · rw [formP, formP]; exact sg_bad a
    · rw [blockP, blockP]; exact sg_bad a
    · rw [blockL, blockL]; exact sg_bad a
  | succ n ih =>
    obtain ⟨iS, iF, iB, iL⟩ := ih
    refine ⟨fun a => ?_, fun a k its to name ps ps' hp => ?_, fun a => ?_, fun a to ps ps' hp => ?_⟩
    · rw [stmtP, stmtP, H.s, form_sim H]
      split
      · exact iB a
      · exact iF a _ _ a [] [] [] rfl
    · have via : ∀ (g g' : Gt) (r : List It), Sg g g' → Sg (if ¬ g.e = 0 then g else formP l n a k r g.a name (ps ++ [g.t])) (if ¬ g'.e = 0 then g' else formP l' n a k r g'.a (ren name) (ps' ++ [g'.t])) := by
        rintro g g' r ⟨i1, i2, i3⟩
        rw [i1, i2]
        split
        · exact ⟨i1, i2, i3⟩
        · exact iF a k r _ name _ _ (by simp [hp, i3])
      cases its with
      | nil => rw [formP, formP]; exact sg_mk rfl hp
      | cons it r =>
        cases it with
        | w s =>
          rw [formP, formP, H.w]
          split
          · exact sg_bad _
          · exact iF a k r _ name _ _ hp
        | g s =>
          rw [formP, formP, H.s]
          split
          · exact sg_bad _
          · exact iF a k r _ name _ _ hp
        | n =>
          rw [formP, formP, H.k]
          split
          · exact sg_bad _
          · next q => rw [H.nm (Classical.not_not.1 q)]; exact iF a k r _ _ _ _ hp
        | e => rw [formP, formP]; exact via _ _ r (exprP_sim H to)
        | t => rw [formP, formP]; exact via _ _ r (typeP_sim H to)
        | b => rw [formP, formP]; exact via _ _ r (iB to)
        | el =>
          rw [formP, formP, H.w]
          split
          · exact iF a k r to name _ _ (by simp [hp, eraL, eraR, ren])
          · exact via _ _ r (iB (to + 1))
    · rw [blockP, blockP, H.s]
      split
      · exact sg_bad _
      · exact iL a (a + 1) [] [] rfl
    · rw [blockL, blockL, H.s]
      split
      · exact sg_0 hp
      obtain ⟨i1, i2, i3⟩ := iS to
      rw [i1, i2]
      split
      · exact ⟨i1, i2, i3⟩
      · exact iL a _ _ _ (by simp [hp, i3])
theorem blkP_sim (H : Longer l l') (a : Nat) : Sg (blkP l a) (blkP l' a) := by
  unfold blkP fuelS
  rw [H.len]
  exact (stmt_sim H _).2.2.1 a

theorem nameP_sim (H : Longer l l') (a : Nat) : Sg (nameP l a) (nameP l' a) := by
  unfold nameP
  rw [H.k, H.s]
  split
  · exact sg_bad _
  next q =>
  split
  · exact sg_bad _
  obtain ⟨i1, i2, i3⟩ := typeP_sim H (a + 2)
  rw [i1, i2]
  split
  · exact ⟨i1, i2, i3⟩
  · exact sg_mk (H.nm (Classical.not_not.1 q)) (by simp [i3])
theorem fieldsP_sim (H : Longer l l') : ∀ n a out out', out'.map eraR = out.map eraL → Sl (fieldsP l n a out) (fieldsP l' n a out')
  | 0, a, out, out', ho => by rw [fieldsP, fieldsP]; exact ⟨rfl, rfl, ho⟩
  | n + 1, a, out, out', ho => by
    rw [fieldsP, fieldsP, H.s]
    have hn : (out' ≠ []) = (out ≠ []) := by
      have := congrArg List.length ho
      simp only [List.length_map] at this
      cases out <;> cases out' <;> simp_all
    simp only [hn]
    split
    · exact ⟨rfl, rfl, ho⟩
    obtain ⟨i1, i2, i3⟩ := nameP_sim H a
    rw [i1, i2, H.s]
    split
    · exact ⟨rfl, rfl, ho⟩
    split
    · exact ⟨rfl, rfl, ho⟩
    · exact fieldsP_sim H n _ _ _ (by simp [ho, i3])
theorem paramsL_sim (H : Longer l l') (a : Nat) : ∀ n to out out', out'.map eraR = out.map eraL → Sg (paramsL l n a to out) (paramsL l' n a to out')
  | 0, to, out, out', ho => by rw [paramsL, paramsL]; exact sg_bad _
  | n + 1, to, out, out', ho => by
    rw [paramsL, paramsL]
    obtain ⟨i1, i2, i3⟩ := nameP_sim H to
    rw [i1, i2, H.s, H.s]
    split
    · exact ⟨i1, i2, i3⟩
    split
    · exact paramsL_sim H a n _ _ _ (by simp [ho, i3])
    split
    · exact sg_bad _
    · exact sg_0 (by simp [ho, i3])
theorem paramsP_sim (H : Longer l l') (a : Nat) : Sg (paramsP l a) (paramsP l' a) := by
  unfold paramsP
  rw [H.s, H.s, H.len]
  split
  · exact sg_bad _
  split
  · exact sg_0 rfl
  · exact paramsL_sim H a _ _ _ _ rfl
theorem fnP_sim (H : Longer l l') (first a : Nat) (pub : Int) : Sg (fnP l first a pub) (fnP l' first a pub) := by
  unfold fnP
  rw [H.w, H.k]
  split
  · exact sg_bad _
  split
  · exact sg_bad _
  next q =>
  obtain ⟨i1, i2, i3⟩ := paramsP_sim H (a + 2)
  rw [i1, i2, H.s]
  split
  · exact ⟨i1, i2, i3⟩
  split
  · exact sg_bad _
  obtain ⟨j1, j2, j3⟩ := typeP_sim H ((paramsP l (a + 2)).a + 1)
  rw [j1, j2]
  split
  · exact ⟨j1, j2, j3⟩
  obtain ⟨k1, k2, k3⟩ := blkP_sim H (typeP l ((paramsP l (a + 2)).a + 1)).a
  rw [k1, k2]
  split
  · exact ⟨k1, k2, k3⟩
  · exact sg_mk (H.nm (Classical.not_not.1 q)) (by simp [i3, j3, k3])
theorem shortX_sim (H : Longer l l') (a : Nat) : Sg (shortX l a) (shortX l' a) := by
  unfold shortX fuelE
  rw [H.w, H.w, H.w, H.k, H.len]
  split
  · split
    · exact (expr_sim H _).2.2.2.2.2.1 _
    · exact sg_bad _
  · exact typeP_sim H _
theorem shortP_sim (H : Longer l l') (a : Nat) : Sg (shortP l a) (shortP l' a) := by
  unfold shortP
  simp only [H.k, H.s, H.w]
  generalize (if isW l a [99, 111, 110, 115, 116] = true then (31 : Int) else 32) = kk
  generalize (if isW l a [99, 111, 110, 115, 116] = true then ([61] : List UInt8) else [58]) = sg
  obtain ⟨i1, i2, i3⟩ := shortX_sim H a
  simp only [i1, i2]
  split
  · exact sg_bad _
  next q =>
  split
  · exact sg_bad _
  split
  · exact ⟨i1, i2, i3⟩
  split
  · exact sg_bad _
  · exact sg_mk (H.nm (Classical.not_not.1 q)) (by simp [i3])
theorem declP_sim (H : Longer l l') (a : Nat) : Sg (declP l a) (declP l' a) := by
  unfold declP
  rw [H.w, H.w, H.w, H.w, H.w, H.k, H.s, H.len]
  split
  · exact shortP_sim H a
  split
  · exact fnP_sim H a _ 1
  split
  · exact fnP_sim H a _ 0
  split
  · exact sg_bad _
  split
  · exact sg_bad _
  next q =>
  split
  · exact sg_bad _
  obtain ⟨i1, i2, i3⟩ := fieldsP_sim H (l.length + 1) (a + 3) [] [] rfl
  rw [i1, i2]
  split
  · exact ⟨rfl, rfl, by simp [tm0, eraL, eraR, ren]⟩
  · exact sg_mk (H.nm (Classical.not_not.1 q)) i3
theorem declsP_sim (H : Longer l l') : ∀ n a out out', out'.map eraR = out.map eraL → Sl (declsP l n a out) (declsP l' n a out')
  | 0, a, out, out', ho => by rw [declsP, declsP]; exact ⟨rfl, rfl, ho⟩
  | n + 1, a, out, out', ho => by
    rw [declsP, declsP, H.len]
    split
    · exact ⟨rfl, rfl, ho⟩
    obtain ⟨i1, i2, i3⟩ := declP_sim H a
    rw [i1, i2]
    split
    · exact ⟨rfl, rfl, ho⟩
    · exact declsP_sim H n _ _ _ (by simp [ho, i3])
end Go.Nt.Lk

/-
  NAMES RESOLVED, one letter longer: what is found stays where it was.
  No condition.
-/
set_option linter.unusedSimpArgs false
namespace Go.Nt.Lk
open Go Go.Nt

theorem find_ren (s : Nm) : ∀ (l l' : List Tm) (i : Nat), l'.map eraR = l.map eraL → findN (ren s) l' i = findN s l i
  | [], [], i, _ => rfl
  | [], _ :: _, i, h => by cases h
  | _ :: _, [], i, h => by cases h
  | d :: l, d' :: l', i, h => by
    simp only [List.map_cons, List.cons.injEq] at h
    have hs : d'.s = ren d.s := by
      have := congrArg Tm.s h.1
      rw [eraR_eq, eraL_eq] at this
      exact this
    rw [findN, findN, hs, find_ren s l l' (i + 1) h.2]
    simp only [ren_eq]
theorem decl_ren {m m' : Tm} (h : eraR m' = eraL m) (s : Nm) : declN m' (ren s) = declN m s := by
  rw [eraR_eq, eraL_eq] at h
  simp only [Tm.mk.injEq] at h
  exact find_ren s m.l m'.l 0 h.2.2.2.2.1
theorem local_ren (s : Nm) : ∀ (l : List Nm) (n : Nat), localN (ren s) (l.map ren) n = localN s l n
  | [], n => rfl
  | x :: l, n => by simp only [List.map_cons, localN, ren_eq, local_ren s l (n + 1)]
end Go.Nt.Lk
