/-
  NAMES RESOLVED, one letter longer: what is resolved is the same but for names and places; errors are alike but for places.
  No condition.
-/
import Derived.Test.YtpfdoelhoiohdaaSpRen
import Derived.Test.YtpfdoelhoiohdaaSpTop
import Derived.Test.YtpfdoelhoiohdaaSpNone
set_option linter.unusedSimpArgs false
namespace Go.Nt.Lk
open Go Go.Nt

/-- A term one letter longer. -/
def Ln (t t' : Tm) : Prop := eraR t' = eraL t
theorem Ln.k {t t' : Tm} (h : Ln t t') : t'.k = t.k := by unfold Ln at h; rw [eraR_eq, eraL_eq] at h; simp only [Tm.mk.injEq] at h; exact h.1
theorem Ln.n {t t' : Tm} (h : Ln t t') : t'.n = t.n := by unfold Ln at h; rw [eraR_eq, eraL_eq] at h; simp only [Tm.mk.injEq] at h; exact h.2.1
theorem Ln.s {t t' : Tm} (h : Ln t t') : t'.s = ren t.s := by unfold Ln at h; rw [eraR_eq, eraL_eq] at h; simp only [Tm.mk.injEq] at h; exact h.2.2.1
theorem Ln.l {t t' : Tm} (h : Ln t t') : t'.l.map eraR = t.l.map eraL := by unfold Ln at h; rw [eraR_eq, eraL_eq] at h; simp only [Tm.mk.injEq] at h; exact h.2.2.2.2.1
def Lns (l l' : List Tm) : Prop := l'.map eraR = l.map eraL
theorem Lns.len {l l' : List Tm} (h : Lns l l') : l'.length = l.length := by have := congrArg List.length h; simpa using this

/-- Outcomes that are alike but for names and places. -/
def Rs (r r' : Er Tm) : Prop := match r, r' with
  | .ok x, .ok y => nlT x = nlT y
  | .error e, .error e' => e.2 = e'.2
  | _, _ => False
def Rss (r r' : Er (List Tm)) : Prop := match r, r' with
  | .ok x, .ok y => x.map nlT = y.map nlT
  | .error e, .error e' => e.2 = e'.2
  | _, _ => False

theorem consR_sim {a a' : Er Tm} {b b' : Er (List Tm)} (h : Rs a a') (k : Rss b b') : Rss (consR a b) (consR a' b') := by
  rcases a with e | x <;> rcases a' with e' | x'
  · exact h
  · exact h.elim
  · exact h.elim
  · rcases b with e | x <;> rcases b' with e' | x'
    · exact k
    · exact k.elim
    · exact k.elim
    · simp only [Rs, Rss] at h k
      simp only [consR, Rss, List.map_cons, h, k]

theorem kind_ren {m m' : Tm} (h : Ln m m') (s : Nm) : kindN m' (ren s) = kindN m s := by
  unfold kindN
  rw [decl_ren h]
  cases hd : declN m s with
  | none => rfl
  | some i =>
    have hi := declN_lt hd
    have hl := Lns.len h.l
    have hi' : i < m'.l.length := by omega
    simp only [List.getElem?_eq_getElem hi, List.getElem?_eq_getElem hi', Option.getD_some]
    have := congrArg (fun l => l[i]?) h.l
    simp only [List.getElem?_map, List.getElem?_eq_getElem hi, List.getElem?_eq_getElem hi', Option.map_some, Option.some.injEq] at this
    exact Ln.k this
theorem bad_ren {m m' : Tm} (h : Ln m m') (k : Int) (s : Nm) : badN m' k (ren s) = badN m k s := by unfold badN; rw [kind_ren h]
theorem num_ren {m m' : Tm} (h : Ln m m') (k n : Int) (s : Nm) : numN m' k n (ren s) = numN m k n s := by unfold numN; rw [decl_ren h]
theorem more_ren {t t' : Tm} (h : Ln t t') (known : List Nm) : moreN (known.map ren) t' = (moreN known t).map ren := by
  unfold moreN
  rw [h.k, h.s]
  split <;> simp

theorem name_sim {m m' t t' : Tm} (hm : Ln m m') (h : Ln t t') (locs : List Nm) : Rs (nameR m locs t) (nameR m' (locs.map ren) t') := by
  unfold nameR
  rw [h.s, ← List.map_reverse, local_ren, decl_ren hm, kind_ren hm]
  cases localN t.s locs.reverse 0 with
  | some n => simp [Rs, nlT]
  | none =>
    cases declN m t.s with
    | none => simp [Rs]
    | some i =>
      simp only
      split
      · simp [Rs, nlT]
      · split
        · simp [Rs, nlT]
        · simp [Rs]

theorem any_sim {q q' : List Tm → Fl} {m m' : Tm} (hm : Ln m m') (t : Tm) : ∀ (t' : Tm) (locs : List Nm), Ln t t' → Rs (anyR q m locs t) (anyR q' m' (locs.map ren) t') := by
  induction t using Tm.ind with
  | h t ih =>
    intro t' locs h
    rw [anyR_eq2, anyR_eq2, h.k, h.n, h.s, bad_ren hm, num_ren hm]
    by_cases h19 : t.k = 19
    · rw [if_pos h19, if_pos h19]; exact name_sim hm h locs
    rw [if_neg h19, if_neg h19]
    by_cases hb : badN m t.k t.s = true
    · rw [if_pos hb, if_pos hb]; simp [Rs]
    rw [if_neg hb, if_neg hb]
    have parts : ∀ (l l' : List Tm) (i : Nat) (known : List Nm), (∀ x, x ∈ l → x ∈ t.l) → Lns l l' → Rss (anyRs q m t.k t.s locs i known l) (anyRs q' m' t.k (ren t.s) (locs.map ren) i (known.map ren) l') := by
      intro l
      induction l with
      | nil =>
        intro l' i known _ hl
        have : l' = [] := by have := Lns.len hl; simpa using this
        subst this
        rw [anyRs, anyRs]
        rfl
      | cons x l il =>
        intro l' i known hx hl
        match l', hl with
        | [], hl => cases hl
        | x' :: l', hl =>
          have h1 : Ln x x' := by simp only [Lns, List.map_cons, List.cons.injEq] at hl; exact hl.1
          have h2 : Lns l l' := by simp only [Lns, List.map_cons, List.cons.injEq] at hl; exact hl.2
          rw [anyRs_cons, anyRs_cons]
          have e1 : (if t.k = 25 ∧ i = 2 then locs.map ren ++ [ren t.s] else known.map ren) = (if t.k = 25 ∧ i = 2 then locs ++ [t.s] else known).map ren := by split <;> simp
          have e2 : (if t.k = 29 then moreN (known.map ren) x' else if t.k = 25 ∧ i = 2 then locs.map ren ++ [ren t.s] else known.map ren) = (if t.k = 29 then moreN known x else if t.k = 25 ∧ i = 2 then locs ++ [t.s] else known).map ren := by
            rw [e1, more_ren h1]
            split <;> rfl
          rw [e2, e1]
          exact consR_sim (ih x (hx x (by simp)) x' _ h1) (il l' (i + 1) _ (fun y hy => hx y (by simp [hy])) h2)
    have p := parts t.l t'.l 0 locs (fun _ h => h) h.l
    rcases hr : anyRs q m t.k t.s locs 0 locs t.l with e | x <;> rcases hr' : anyRs q' m' t.k (ren t.s) (locs.map ren) 0 (locs.map ren) t'.l with e' | x'
    · rw [hr, hr'] at p; exact p
    · rw [hr, hr'] at p; exact p.elim
    · rw [hr, hr'] at p; exact p.elim
    · rw [hr, hr'] at p
      simp only [Rss] at p
      simp only [okR, Rs, nlT, p]

theorem seen_ren (s : Nm) (seen : List Nm) : (ren s ∈ seen.map ren) = (s ∈ seen) := by
  rw [List.mem_map]
  exact propext ⟨fun ⟨x, hx, e⟩ => ren_inj e ▸ hx, fun h => ⟨s, h, rfl⟩⟩

theorem parts_sim {q q' : List Tm → Fl} {m m' : Tm} (hm : Ln m m') (keep : Bool) : ∀ (l l' : List Tm) (seen : List Nm), Lns l l' → Rss (partsR q m keep seen l) (partsR q' m' keep (seen.map ren) l')
  | [], l', seen, hl => by
    have : l' = [] := by have := Lns.len hl; simpa using this
    subst this
    rw [partsR, partsR]; rfl
  | x :: l, [], seen, hl => by cases hl
  | x :: l, x' :: l', seen, hl => by
    have h1 : Ln x x' := by simp only [Lns, List.map_cons, List.cons.injEq] at hl; exact hl.1
    have h2 : Lns l l' := by simp only [Lns, List.map_cons, List.cons.injEq] at hl; exact hl.2
    rw [partsR_cons, partsR_cons, h1.s]
    simp only [seen_ren]
    split
    · simp [Rss]
    have a := any_sim (q := q) (q' := q') hm x x' [] h1
    have b := parts_sim (q := q) (q' := q') hm keep l l' (x.s :: seen) h2
    simp only [List.map_nil] at a
    simp only [List.map_cons] at b
    rcases hr : anyR q m [] x with e | y <;> rcases hr' : anyR q' m' [] x' with e' | y'
    · rw [hr, hr'] at a; exact a
    · rw [hr, hr'] at a; exact a.elim
    · rw [hr, hr'] at a; exact a.elim
    · rw [hr, hr'] at a
      refine consR_sim ?_ b
      simp only [Rs] at a ⊢
      unfold keepS
      cases keep with
      | false => exact a
      | true =>
        rw [nlT_eq, nlT_eq y'] at a
        simp only [Tm.mk.injEq, true_and, and_true] at a
        simp only [if_true, nlT, a]

theorem bind_sim {α β : Type} {P : α → α → Prop} {a a' : Er α} {f f' : α → Er β} (RA : Er α → Er α → Prop) (RB : Er β → Er β → Prop)
    (hA : ∀ r r', RA r r' → (∃ e e', r = .error e ∧ r' = .error e' ∧ e.2 = e'.2) ∨ ∃ x x', r = .ok x ∧ r' = .ok x' ∧ P x x') (hE : ∀ e e' : Int × Int, e.2 = e'.2 → RB (.error e) (.error e')) (h : RA a a') (k : ∀ x x', P x x' → RB (f x) (f' x')) : RB (bindE a f) (bindE a' f') := by
  rcases hA _ _ h with ⟨e, e', rfl, rfl, he⟩ | ⟨x, x', rfl, rfl, hx⟩
  · exact hE _ _ he
  · exact k _ _ hx
theorem Rs.cs (r r' : Er Tm) (h : Rs r r') : (∃ e e', r = .error e ∧ r' = .error e' ∧ e.2 = e'.2) ∨ ∃ x x', r = .ok x ∧ r' = .ok x' ∧ nlT x = nlT x' := by
  rcases r with e | x <;> rcases r' with e' | x'
  · exact .inl ⟨e, e', rfl, rfl, h⟩
  · exact h.elim
  · exact h.elim
  · exact .inr ⟨x, x', rfl, rfl, h⟩
theorem Rss.cs (r r' : Er (List Tm)) (h : Rss r r') : (∃ e e', r = .error e ∧ r' = .error e' ∧ e.2 = e'.2) ∨ ∃ x x', r = .ok x ∧ r' = .ok x' ∧ x.map nlT = x'.map nlT := by
  rcases r with e | x <;> rcases r' with e' | x'
  · exact .inl ⟨e, e', rfl, rfl, h⟩
  · exact h.elim
  · exact h.elim
  · exact .inr ⟨x, x', rfl, rfl, h⟩

theorem declR_rec (q : List Tm → Fl) (m t : Tm) (h : t.k = 30) : declR q m t = okR (partsR q m true [] t.l) fun ls => .mk t.k t.n [] (q ls) ls t.a t.b := by
  unfold declR okR
  rw [if_pos h]
  cases partsR q m true [] t.l <;> rfl
theorem declR_other (q : List Tm → Fl) (m t : Tm) (h : t.k ≠ 30) (h' : t.k ≠ 33) : declR q m t = anyR q m [] t := by
  unfold declR
  rw [if_neg h, if_pos h']

theorem declR_sim {q q' : List Tm → Fl} {m m' t t' : Tm} (hm : Ln m m') (h : Ln t t') (hd : declX t = true) : Rs (declR q m t) (declR q' m' t') := by
  by_cases h30 : t.k = 30
  · rw [declR_rec q m t h30, declR_rec q' m' t' (by rw [h.k]; exact h30), h.k, h.n]
    have p := parts_sim (q := q) (q' := q') hm true t.l t'.l [] h.l
    rcases Rss.cs _ _ p with ⟨e, e', h1, h2, he⟩ | ⟨x, x', h1, h2, hx⟩
    · simp only [List.map_nil] at h2
      rw [h1, h2]; exact he
    · simp only [List.map_nil] at h2
      rw [h1, h2]
      simp only [okR, Rs, nlT, hx]
  by_cases h33 : t.k = 33
  case neg =>
    rw [declR_other q m t h30 h33, declR_other q' m' t' (by rw [h.k]; exact h30) (by rw [h.k]; exact h33)]
    exact any_sim hm t t' [] h
  unfold declX at hd
  rw [if_neg h30, if_pos h33] at hd
  match hl : t.l, hd with
  | [p, r, b], hd =>
    have hl3 := h.l
    rw [hl] at hl3
    obtain ⟨p', r', b', hl'⟩ : ∃ p' r' b', t'.l = [p', r', b'] := by
      have hlen : t'.l.length = 3 := by have := congrArg List.length hl3; simpa using this
      match t'.l, hlen with
      | [a, b, c], _ => exact ⟨a, b, c, rfl⟩
    rw [hl'] at hl3
    simp only [List.map_cons, List.map_nil, List.cons.injEq, and_true] at hl3
    obtain ⟨hp, hr, hbb⟩ := hl3
    have hp : Ln p p' := hp
    rw [declR_fn q m t p r b h33 hl, declR_fn q' m' t' p' r' b' (by rw [h.k]; exact h33) hl', h.k, h.n]
    refine bind_sim Rss Rs Rss.cs (fun _ _ he => he) (parts_sim hm false p.l p'.l [] hp.l) fun ls ls' hls => ?_
    refine bind_sim Rs Rs Rs.cs (fun _ _ he => he) (any_sim hm r r' [] hr) fun x x' hx => ?_
    have en : p'.l.map (·.s) = (p.l.map (·.s)).map ren := by
      have : ∀ (l l' : List Tm), Lns l l' → l'.map (·.s) = (l.map (·.s)).map ren := by
        intro l
        induction l with
        | nil => intro l' hl; have : l' = [] := by have := Lns.len hl; simpa using this
                 subst this; rfl
        | cons y l il =>
          intro l' hl
          match l', hl with
          | [], hl => cases hl
          | y' :: l', hl =>
            simp only [Lns, List.map_cons, List.cons.injEq] at hl
            simp only [List.map_cons]
            rw [Ln.s (show Ln y y' from hl.1), il l' hl.2]
      exact this p.l p'.l hp.l
    rw [en]
    refine bind_sim Rs Rs Rs.cs (fun _ _ he => he) (any_sim hm b b' _ hbb) fun y y' hy => ?_
    simp only [Rs, nlT, List.map_cons, List.map_nil, hls, hx, hy, hp.k]
  | [], hd => cases hd
  | [_], hd => cases hd
  | [_, _], hd => cases hd
  | _ :: _ :: _ :: _ :: _, hd => cases hd

theorem declsR_sim {q q' : List Tm → Fl} {m m' : Tm} (hm : Ln m m') : ∀ (l l' : List Tm), (∀ x, x ∈ l → declX x = true) → Lns l l' → Rss (declsR q m l) (declsR q' m' l')
  | [], l', _, hl => by
    have : l' = [] := by have := Lns.len hl; simpa using this
    subst this
    rw [declsR, declsR]; rfl
  | x :: l, [], _, hl => by cases hl
  | x :: l, x' :: l', hX, hl => by
    simp only [Lns, List.map_cons, List.cons.injEq] at hl
    rw [declsR_cons, declsR_cons]
    exact consR_sim (declR_sim hm hl.1 (hX x (by simp))) (declsR_sim hm l l' (fun y hy => hX y (by simp [hy])) hl.2)

theorem twice_sim : ∀ (l l' : List Tm) (seen : List Nm), Lns l l' → (twiceR seen l).isSome = (twiceR (seen.map ren) l').isSome
  | [], l', seen, hl => by
    have : l' = [] := by have := Lns.len hl; simpa using this
    subst this
    rfl
  | x :: l, [], seen, hl => by cases hl
  | x :: l, x' :: l', seen, hl => by
    simp only [Lns, List.map_cons, List.cons.injEq] at hl
    rw [twiceR, twiceR, Ln.s (show Ln x x' from hl.1)]
    simp only [seen_ren]
    split
    · rfl
    · have := twice_sim l l' (x.s :: seen) hl.2
      rw [List.map_cons] at this
      exact this

theorem resolve_sim {q q' : List Tm → Fl} {m m' : Tm} (hm : Ln m m') (hX : ∀ x, x ∈ m.l → declX x = true) : Rs (resolveR q m) (resolveR q' m') := by
  unfold resolveR
  have t := twice_sim m.l m'.l [] hm.l
  simp only [List.map_nil] at t
  cases h1 : twiceR [] m.l with
  | some a =>
    rw [h1] at t
    obtain ⟨a', h2⟩ := Option.isSome_iff_exists.1 (by rw [← t]; rfl : (twiceR [] m'.l).isSome = true)
    rw [h2]
    simp [Rs]
  | none =>
    rw [h1] at t
    have h2 : twiceR [] m'.l = none := by
      cases h : twiceR [] m'.l with
      | none => rfl
      | some a => rw [h] at t; cases t
    rw [h2]
    simp only
    have d := declsR_sim (q := q) (q' := q') hm m.l m'.l hX hm.l
    rcases Rss.cs _ _ d with ⟨e, e', g1, g2, he⟩ | ⟨x, x', g1, g2, hx⟩
    · rw [g1, g2]; exact he
    · rw [g1, g2]
      simp only [Rs, nlT, hm.k, hm.n, hx]
end Go.Nt.Lk
