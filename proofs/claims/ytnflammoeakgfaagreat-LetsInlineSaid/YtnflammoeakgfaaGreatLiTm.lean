/-
  TERMS: locals raised, put in, looked for; what is assigned. Plainly.
  No condition.
-/
import Derived.Test.YtnflammoeakgfaaGreatLiRE
set_option linter.unusedSimpArgs false
namespace Go.Nt.Li
open Go Go.Nt
def er:Tm→Tm
 | .mk k n s _ l _ _=>.mk k n s .nil (l.map er) 0 0
theorem er_eq (t:Tm):er t=.mk t.k t.n t.s .nil (t.l.map er) 0 0:=by cases t; simp [er]
theorem er_iff (t u:Tm):er t=er u↔t.k=u.k∧t.n=u.n∧t.s=u.s∧t.l.map er=u.l.map er:=by
 rw [er_eq,er_eq u]; simp only [Tm.mk.injEq,true_and,and_true]
theorem er_len {l l':List Tm} (h:l.map er=l'.map er):l.length=l'.length:=by have:=congrArg List.length h; simpa using this
theorem er_at {l l':List Tm} (h:l.map er=l'.map er) (i:Nat) (h1:i < l.length) (h2:i < l'.length):er l[i]=er l'[i]:=by
 have:=congrArg (fun l=>l[i]?) h
 simpa [List.getElem?_map,List.getElem?_eq_getElem h1,List.getElem?_eq_getElem h2] using this
def bindB (t:Tm):Bool:=decide (t.k=20) || decide (t.k=21)
def inT (t:Tm) (i:Nat):Nat:=
 if t.k=29 then ((t.l.take i).filter bindB).length else
 if t.k=25 then (if i=2 then 1 else 0) else
 if t.k=33 then (if i=2 then (t.l[0]?.map (·.l.length)).getD 0 else 0) else 0
theorem bind_er {t u:Tm} (h:er t=er u):bindB t=bindB u:=by unfold bindB; rw [((er_iff t u).1 h).1]
theorem in_er {t u:Tm} (h:er t=er u) (i:Nat):inT t i=inT u i:=by
 obtain ⟨h1,_,_,h4⟩:=(er_iff t u).1 h
 have hf:∀ (l l':List Tm) (i:Nat),l.map er=l'.map er→((l.take i).filter bindB).length=((l'.take i).filter bindB).length:=by
  intro l
  induction l with
  | nil=>intro l' i h; have:=er_len h; cases l' with | nil=>rfl | cons=>simp at this
  | cons x l il=>
   intro l' i h
   cases l' with
   | nil=>cases h
   | cons x' l'=>
    simp only [List.map_cons,List.cons.injEq] at h
    cases i with
    | zero=>rfl
    | succ i=>
     simp only [List.take_succ_cons,List.filter_cons,bind_er h.1]
     split
     ·simp only [List.length_cons,il l' i h.2]
     ·exact il l' i h.2
 have h0:(t.l[0]?.map (·.l.length)).getD 0=(u.l[0]?.map (·.l.length)).getD 0:=by
  have hl:=er_len h4
  cases ht:t.l with
  | nil=>cases hu:u.l with
   | nil=>rfl
   | cons=>rw [ht,hu] at hl; simp at hl
  | cons x l=>cases hu:u.l with
   | nil=>rw [ht,hu] at hl; simp at hl
   | cons y k=>
    rw [ht,hu] at h4
    simp only [List.map_cons,List.cons.injEq] at h4
    have:=((er_iff x y).1 h4.1).2.2.2
    simpa using er_len this
 unfold inT
 rw [h1,hf t.l u.l i h4,h0]
mutual
 def mapT (q:Fl→List Tm→Fl) (f:Nat→Tm→Tm) (d:Nat):Tm→Tm
  | .mk k n s fl l a b=>if k=7 then f d (.mk k n s fl l a b) else .mk k n s (q fl l) (mapTs q f d (.mk k n s fl l a b) 0 l) a b
 def mapTs (q:Fl→List Tm→Fl) (f:Nat→Tm→Tm) (d:Nat) (t:Tm):Nat→List Tm→List Tm
  | _,[]=>[]
  | i,x::r=>mapT q f (d+inT t i) x::mapTs q f d t (i+1) r
end
theorem mapT_eq (q:Fl→List Tm→Fl) (f:Nat→Tm→Tm) (d:Nat) (t:Tm):mapT q f d t=if t.k=7 then f d t else .mk t.k t.n t.s (q t.fl t.l) (mapTs q f d t 0 t.l) t.a t.b:=by
 cases t; rw [mapT]; rfl
theorem mapTs_len (q:Fl→List Tm→Fl) (f:Nat→Tm→Tm) (d:Nat) (t:Tm):∀ (l:List Tm) (i:Nat),(mapTs q f d t i l).length=l.length
 | [],i=>by rw [mapTs]
 | x::r,i=>by rw [mapTs]; simp [mapTs_len q f d t r (i+1)]
theorem mapT_er {q q':Fl→List Tm→Fl} {f f':Nat→Tm→Tm} (hf:∀ d t u,er t=er u→er (f d t)=er (f' d u)) (t:Tm):∀ (u:Tm) (d:Nat),er t=er u→er (mapT q f d t)=er (mapT q' f' d u):=by
 induction t using Tm.ind with
 | h t ih=>
  intro u d h
  obtain ⟨h1,h2,h3,h4⟩:=(er_iff t u).1 h
  rw [mapT_eq,mapT_eq q' f' d u,h1]
  by_cases h7:u.k=7
  ·rw [if_pos h7,if_pos h7]; exact hf d t u h
  rw [if_neg h7,if_neg h7]
  have parts:∀ (l l':List Tm) (i:Nat),(∀ x,x∈l→x∈t.l)→l.map er=l'.map er→(mapTs q f d t i l).map er=(mapTs q' f' d u i l').map er:=by
   intro l
   induction l with
   | nil=>intro l' i _ h; have:=er_len h; cases l' with | nil=>rw [mapTs,mapTs] | cons=>simp at this
   | cons x l il=>
    intro l' i hx h
    cases l' with
    | nil=>cases h
    | cons x' l'=>
     have e:=h
     simp only [List.map_cons,List.cons.injEq] at e
     rw [mapTs,mapTs,List.map_cons,List.map_cons,in_er (show er t=er u from (er_iff t u).2 ⟨h1,h2,h3,h4⟩) i,ih x (hx x (by simp)) x' _ e.1,il l' (i+1) (fun y hy=>hx y (by simp [hy])) e.2]
  rw [er_iff]
  exact ⟨rfl,h2,h3,parts t.l u.l 0 (fun _ h=>h) h4⟩
mutual
 def anyL (p:Nat→Int→Bool) (d:Nat):Tm→Bool
  | .mk k n s fl l a b=>if k=7 then p d n else anyLs p d (.mk k n s fl l a b) 0 l
 def anyLs (p:Nat→Int→Bool) (d:Nat) (t:Tm):Nat→List Tm→Bool
  | _,[]=>false
  | i,x::r=>anyL p (d+inT t i) x || anyLs p d t (i+1) r
end
theorem anyL_eq (p:Nat→Int→Bool) (d:Nat) (t:Tm):anyL p d t=if t.k=7 then p d t.n else anyLs p d t 0 t.l:=by cases t; rw [anyL]; rfl
theorem anyL_er {p p':Nat→Int→Bool} (hp:∀ d n,p d n=p' d n) (t:Tm):∀ (u:Tm) (d:Nat),er t=er u→anyL p d t=anyL p' d u:=by
 induction t using Tm.ind with
 | h t ih=>
  intro u d h
  obtain ⟨h1,h2,h3,h4⟩:=(er_iff t u).1 h
  rw [anyL_eq,anyL_eq p' d u,h1,h2]
  by_cases h7:u.k=7
  ·rw [if_pos h7,if_pos h7]; exact hp d u.n
  rw [if_neg h7,if_neg h7]
  have parts:∀ (l l':List Tm) (i:Nat),(∀ x,x∈l→x∈t.l)→l.map er=l'.map er→anyLs p d t i l=anyLs p' d u i l':=by
   intro l
   induction l with
   | nil=>intro l' i _ h; have:=er_len h; cases l' with | nil=>rw [anyLs,anyLs] | cons=>simp at this
   | cons x l il=>
    intro l' i hx e
    cases l' with
    | nil=>cases e
    | cons x' l'=>
     simp only [List.map_cons,List.cons.injEq] at e
     rw [anyLs,anyLs,in_er h i,ih x (hx x (by simp)) x' _ e.1,il l' (i+1) (fun y hy=>hx y (by simp [hy])) e.2]
  exact parts t.l u.l 0 (fun _ h=>h) h4
theorem root_er (t:Tm):∀ u,er t=er u→er (rootT t)=er (rootT u):=by
 induction t using Tm.ind with
 | h t ih=>
  intro u h
  obtain ⟨h1,h2,h3,h4⟩:=(er_iff t u).1 h
  rw [rootT_eq,rootT_eq u,h1]
  split
  ·have hl:=er_len h4
   cases ht:t.l with
   | nil=>cases hu:u.l with
    | nil=>exact h
    | cons=>rw [ht,hu] at hl; simp at hl
   | cons x l=>cases hu:u.l with
    | nil=>rw [ht,hu] at hl; simp at hl
    | cons y k=>
     rw [ht,hu] at h4
     simp only [List.map_cons,List.cons.injEq] at h4
     exact ih x (by rw [ht]; simp) y h4.1
  ·exact h
mutual
 def asg (at':Int):Tm→Bool
  | .mk k n s fl l a b=>if k=7 then false else
   if (k=22∧l≠[])∧(rootT (l.headD default)).k=7∧(rootT (l.headD default)).n=at' then true else asgs at' (.mk k n s fl l a b) 0 l
 def asgs (at':Int) (t:Tm):Nat→List Tm→Bool
  | _,[]=>false
  | i,x::r=>asg (at'+inT t i) x || asgs at' t (i+1) r
end
theorem asg_eq (at':Int) (t:Tm):asg at' t=if t.k=7 then false else if (t.k=22∧t.l≠[])∧(rootT (t.l.headD default)).k=7∧(rootT (t.l.headD default)).n=at' then true else asgs at' t 0 t.l:=by
 cases t; rw [asg]; rfl
theorem asg_er (t:Tm):∀ (u:Tm) (at':Int),er t=er u→asg at' t=asg at' u:=by
 induction t using Tm.ind with
 | h t ih=>
  intro u at' h
  obtain ⟨h1,h2,h3,h4⟩:=(er_iff t u).1 h
  have hl:=er_len h4
  have hc:((t.k=22∧t.l≠[])∧(rootT (t.l.headD default)).k=7∧(rootT (t.l.headD default)).n=at')↔((u.k=22∧u.l≠[])∧(rootT (u.l.headD default)).k=7∧(rootT (u.l.headD default)).n=at'):=by
   cases ht:t.l with
   | nil=>cases hu:u.l with
    | nil=>simp
    | cons=>rw [ht,hu] at hl; simp at hl
   | cons x l=>cases hu:u.l with
    | nil=>rw [ht,hu] at hl; simp at hl
    | cons y k=>
     rw [ht,hu] at h4
     simp only [List.map_cons,List.cons.injEq] at h4
     have r:=(er_iff _ _).1 (root_er x y h4.1)
     simp only [List.headD_cons,ne_eq,reduceCtorEq,not_false_eq_true,and_true,h1,r.1,r.2.1]
  rw [asg_eq,asg_eq at' u,h1]
  by_cases h7:u.k=7
  ·rw [if_pos h7,if_pos h7]
  rw [if_neg h7,if_neg h7]
  rw [h1] at hc
  have parts:∀ (l l':List Tm) (i:Nat),(∀ x,x∈l→x∈t.l)→l.map er=l'.map er→asgs at' t i l=asgs at' u i l':=by
   intro l
   induction l with
   | nil=>intro l' i _ h; have:=er_len h; cases l' with | nil=>rw [asgs,asgs] | cons=>simp at this
   | cons x l il=>
    intro l' i hx e
    cases l' with
    | nil=>cases e
    | cons x' l'=>
     simp only [List.map_cons,List.cons.injEq] at e
     rw [asgs,asgs,in_er h i,ih x (hx x (by simp)) x' _ e.1,il l' (i+1) (fun y hy=>hx y (by simp [hy])) e.2]
  by_cases hcc:(u.k=22∧t.l≠[])∧(rootT (t.l.headD default)).k=7∧(rootT (t.l.headD default)).n=at'
  ·rw [if_pos hcc,if_pos (hc.1 hcc)]
  ·rw [if_neg hcc,if_neg (fun c=>hcc (hc.2 c))]
   exact parts t.l u.l 0 (fun _ h=>h) h4
end Go.Nt.Li
