/-
  AN EXPRESSION's TYPE: the walk.
-/
import Derived.Test.YtmmfhcodhaemiaaTyRule
set_option linter.unusedSimpArgs false
namespace Go.Nt.Ty
open Go Go.Nt

variable {m : Tm} {fl : Fl} {locs : List Tm} {at0 e0 : Int} {md : Nat}

/-- The heap of 'of', when so many parts were gone through. -/
def ofH (st : St) (k n : Int) (s : List UInt8) (ts ss : List D) : St :=
  match ts with
  | [] => st ++ [.cells true 1 0 0 false [.hp 0 0 9 0 0], .cells true 6 0 1 false [outD k n s .nils], .cells true 1 0 0 false [.nils]]
  | _ :: r => st ++ [.cells true 1 0 0 false [.hp 0 0 9 0 0], .cells true 6 0 (r.length + 2) false [outD k n s (.rs (st.length + 4) r.length 6 0 (r.length + 1) false)], .cells true 1 0 (r.length + 1) false [.rs (st.length + 3) r.length 6 0 (r.length + 1) false],
      .cells false 6 r.length (2 * r.length + 1) false ts, .cells false 6 r.length (2 * r.length + 1) false ss]

theorem ofH_0 (st : St) (k n : Int) (s : List UInt8) (ts ss : List D) (h : 0 < st.length) : St.at (ofH st k n s ts ss) 0 = St.at st 0 := by
  cases ts <;> exact at_lt _ _ h

theorem c16 {st st1 : St} (hl : 0 < st.length) (hl1 : st1.length = st.length) (h1 : St.at st1 0 = tyO m fl locs at0 e0 md) (k n : Int) (s : List UInt8) (tys ss : List Tm) (hlen : ss.length = tys.length) (hb : tys.length ≤ 1000000) (p a sp : Tm)
    (hof : callD T (ev T) 12 [.hp 0 0 9 0 0, encT p] (ofH st k n s (encTs tys) (encTs ss)) = some (.tup [encT a, encT sp], ofH st1 k n s (encTs tys) (encTs ss))) :
    callD T (ev T) 16 [encT p, .hp st.length 0 1 0 0, .hp (st.length + 2) 0 1 0 0, .hp (st.length + 1) 0 6 0 0] (ofH st k n s (encTs tys) (encTs ss)) =
      some (.bool (decide (e0 = 0)), ofH st1 k n s (encTs (tys ++ [a])) (encTs (ss ++ [sp]))) := by
  have hl' : 0 < st1.length := by omega
  have a0 : ∀ l, St.at (st1 ++ l) 0 = tyO m fl locs at0 e0 md := fun l => by rw [at_lt _ _ hl', h1]
  have a1 : ∀ l k, St.at (st1 ++ l) (st.length + k) = St.at l k := fun l k => by rw [← hl1]; exact at_app st1 l k
  have a2 : ∀ l, St.at (st1 ++ l) st.length = St.at l 0 := fun l => by rw [← hl1]; exact at_app0 st1 l
  have s1 : ∀ l k o, List.set (st1 ++ l) (st.length + k) o = st1 ++ List.set l k o := fun l k o => by rw [← hl1]; exact set_app st1 l k o
  simp only [callD, show T 16 = some F16 from rfl, show F16.mode = .raw from rfl]
  rw [if_pos (by simp)]
  rw [ev_eq 16 F16 rfl, F16]
  cases tys with
  | nil =>
    obtain rfl : ss = [] := by simpa using hlen
    simp only [encTs_nil, List.nil_append, encTs_cons] at hof ⊢
    have e1 : ofH st k n s [] [] = st ++ [.cells true 1 0 0 false [.hp 0 0 9 0 0], .cells true 6 0 1 false [outD k n s .nils], .cells true 1 0 0 false [.nils]] := rfl
    have e2 : ofH st1 k n s [] [] = st1 ++ [.cells true 1 0 0 false [.hp 0 0 9 0 0], .cells true 6 0 1 false [outD k n s .nils], .cells true 1 0 0 false [.nils]] := rfl
    rw [e1, e2] at hof
    rw [e1]
    simp only [outD] at hof
    simp [at_app, at_app0, ← encT_eq, hof, a0, a1, a2, s1, hl1, outD, appendD, most, srcD, listD, splice, tyO, ofH]
  | cons t tys =>
    obtain ⟨u, us, rfl⟩ : ∃ u us, ss = u :: us := by cases ss with | nil => simp at hlen | cons u us => exact ⟨u, us, rfl⟩
    have hlen' : us.length = tys.length := by simpa using hlen
    have hb' : tys.length + 1 ≤ 1000000 := hb
    simp only [List.cons_append, encTs_cons] at hof ⊢
    simp only [ofH, outD, encTs_len, hl1] at hof ⊢
    have hm : ¬ 4194304 < tys.length + 1 := by omega
    have hm2 : tys.length + 1 ≤ 4194304 := by omega
    have e2 : (encT t :: (encTs tys ++ [encT T0])).set (tys.length + 1) (encT a) = encT t :: encTs (tys ++ [a]) := by
      rw [List.set_cons_succ, List.set_append_right _ _ (by simp)]; simp [encTs_append]
    have e3 : (encT u :: (encTs us ++ [encT T0])).set (tys.length + 1) (encT sp) = encT u :: encTs (us ++ [sp]) := by
      rw [List.set_cons_succ, List.set_append_right _ _ (by simp [hlen'])]; simp [encTs_append, hlen']
    have e4 : (encT t :: (encTs tys ++ [encT T0]))[tys.length + 1]? = some (encT T0) := by
      rw [List.getElem?_cons_succ, List.getElem?_append_right (by simp)]; simp
    have e5 : (encT u :: (encTs us ++ [encT T0]))[tys.length + 1]? = some (encT T0) := by
      rw [List.getElem?_cons_succ, List.getElem?_append_right (by simp [hlen'])]; simp [hlen']
    have hng : ¬ ((tys.length : Int) + 1 < 0) := by omega
    have hmul : 2 * (tys.length + 1) = 2 * tys.length + 2 := by omega
    simp [at_app, at_app0, ← encT_eq, ← encT_0, hof, a0, a1, a2, s1, hl1, outD, appendD, most, srcD, listD, splice, tyO, hm, hm2, hlen', List.take_of_length_le, e2, e3, e4, e5, hng, hmul]
    simp [encTs_append]

theorem ofT_err {m : Tm} {locs : List Tm} (t : Tm) : ∀ a e, ofT m locs t = .error (a, e) → e ≠ 0 := by
  induction t using Tm.ind with
  | h t ih =>
    intro a e h
    have key : ∀ l : List Tm, (∀ u, u ∈ l → ∀ a e, ofT m locs u = .error (a, e) → e ≠ 0) → ∀ a e, ofTs m locs l = .error (a, e) → e ≠ 0 := by
      intro l
      induction l with
      | nil => intro _ a e h; simp [ofTs] at h
      | cons u l ihl =>
        intro hu a e h
        rw [ofTs] at h
        cases hq : ofT m locs u with
        | error x =>
          obtain ⟨x1, x2⟩ := x
          rw [hq] at h
          simp only [Except.error.injEq, Prod.mk.injEq] at h
          rw [← h.2]
          exact hu u (by simp) _ _ hq
        | ok x =>
          obtain ⟨x1, x2⟩ := x
          rw [hq] at h
          cases hr : ofTs m locs l with
          | error y =>
            obtain ⟨y1, y2⟩ := y
            rw [hr] at h
            simp only [Except.error.injEq, Prod.mk.injEq] at h
            rw [← h.2]
            exact ihl (fun v hv => hu v (by simp [hv])) _ _ hr
          | ok y => rw [hr] at h; cases h
    rw [ofT_eq] at h
    split at h
    · simp only [Except.error.injEq, Prod.mk.injEq] at h; omega
    · split at h
      · simp only [Except.error.injEq, Prod.mk.injEq] at h; omega
      · cases hq : ofTs m locs t.l with
        | error x =>
          obtain ⟨x1, x2⟩ := x
          rw [hq] at h
          simp only [Except.error.injEq, Prod.mk.injEq] at h
          rw [← h.2]
          exact key t.l ih _ _ hq
        | ok x =>
          obtain ⟨x1, x2⟩ := x
          rw [hq] at h
          simp only at h
          split at h
          · cases h
          · next hne =>
            simp only [Except.error.injEq, Prod.mk.injEq] at h
            rw [← h.2]; exact hne

theorem ofTs_len {m : Tm} {locs : List Tm} : ∀ (l ts ss : List Tm), ofTs m locs l = .ok (ts, ss) → ts.length = l.length ∧ ss.length = l.length
  | [], ts, ss, h => by
    simp only [ofTs, Except.ok.injEq, Prod.mk.injEq] at h
    rw [← h.1, ← h.2]; exact ⟨rfl, rfl⟩
  | t :: l, ts, ss, h => by
    rw [ofTs] at h
    cases hq : ofT m locs t with
    | error x => rw [hq] at h; cases h
    | ok x =>
      obtain ⟨a, s⟩ := x
      rw [hq] at h
      cases hr : ofTs m locs l with
      | error y => rw [hr] at h; cases h
      | ok y =>
        obtain ⟨b, c⟩ := y
        rw [hr] at h
        simp only [Except.ok.injEq, Prod.mk.injEq] at h
        obtain ⟨k1, k2⟩ := ofTs_len l b c hr
        rw [← h.1, ← h.2]
        simp [k1, k2]

/-- What an expression's walk comes to. -/
def ofR (m : Tm) (fl : Fl) (locs : List Tm) (md : Nat) (st : St) : Except (Int × Int) (Tm × Tm) → D × St
  | .ok (a, s) => (.tup [encT a, encT s], st)
  | .error (a, e) => (.tup [encT T0, encT T0], List.set st 0 (tyO m fl locs a e (md + 2)))

theorem ofH_set {st : St} (h : 0 < st.length) (o : Ob) (k n : Int) (s : List UInt8) (ts ss : List D) : List.set (ofH st k n s ts ss) 0 o = ofH (List.set st 0 o) k n s ts ss := by
  cases ts with
  | nil => simp only [ofH]; exact set_lt _ _ h o
  | cons a r => simp only [ofH, List.length_set]; exact set_lt _ _ h o

theorem ofH_len (st : St) (k n : Int) (s : List UInt8) (ts ss : List D) : st.length ≤ (ofH st k n s ts ss).length := by cases ts <;> simp [ofH]

theorem l12 (t d : Tm) (st : St) (hl : 0 < st.length) (h0 : St.at st 0 = tyO m fl locs 0 0 md) (ht : t.l.length ≤ 1000000)
    (hc : ∀ u, u ∈ t.l → ∀ st, 0 < st.length → St.at st 0 = tyO m fl locs 0 0 md → callD T (ev T) 12 [.hp 0 0 9 0 0, encT u] st = some (ofR m fl locs md st (ofT m locs u))) :
    ∀ (r i : Nat) (tys ss : List Tm) (s : List D) (bx : List (Nat × List D)), r = t.l.length - i → i ≤ t.l.length → tys.length = i → ss.length = i →
    get s 2 = .hp st.length 0 1 0 0 → get s 3 = .lp 3 1 0 → getB bx 3 = (1, clT t) → get s 4 = .lp 4 1 0 → getB bx 4 = (1, z6) → get s 5 = .lp 5 1 0 → getB bx 5 = (1, z6) → get s 6 = .lp 6 1 0 → getB bx 6 = (1, clT d) →
    get s 8 = .hp (st.length + 1) 0 6 0 0 → get s 9 = .hp (st.length + 2) 0 1 0 0 → get s 10 = .fn 16 [] [.hp st.length 0 1 0 0, .hp (st.length + 2) 0 1 0 0, .hp (st.length + 1) 0 6 0 0] →
    get s 45 = slE 6 t.fl (encTs t.l) → get s 46 = .i t.l.length → get s 47 = .int .i64 i →
    Stops (lp T L12_0 ⟨⟨s, bx⟩, ofH st t.k t.n t.s (encTs tys) (encTs ss)⟩) fun e s' b' st' => get s' 4 = .lp 4 1 0 ∧ getB b' 4 = (1, z6) ∧ get s' 5 = .lp 5 1 0 ∧ getB b' 5 = (1, z6) ∧
      (match ofTs m locs (t.l.drop i) with
       | .ok (ts', ss') => e = .exit 0 ∧ st' = ofH st t.k t.n t.s (encTs (tys ++ ts')) (encTs (ss ++ ss')) ∧ get s' 2 = .hp st.length 0 1 0 0 ∧ get s' 3 = .lp 3 1 0 ∧ getB b' 3 = (1, clT t) ∧ get s' 6 = .lp 6 1 0 ∧ getB b' 6 = (1, clT d) ∧ get s' 8 = .hp (st.length + 1) 0 6 0 0 ∧ get s' 9 = .hp (st.length + 2) 0 1 0 0
       | .error (a, e') => e = .ret ∧ ∃ tys' ss', st' = ofH (List.set st 0 (tyO m fl locs a e' (md + 2))) t.k t.n t.s (encTs tys') (encTs ss')) := by
  intro r
  induction r with
  | zero =>
    intro i tys ss s bx hr hi hty hss h2 h3 b3 h4 b4 h5 b5 h6 b6 h8 h9 h10 h45 h46 h47
    have e : i = t.l.length := by omega
    subst e
    rw [lp_kL, L12_0, List.drop_length, ofTs]
    simp [h2, h3, b3, h4, b4, h5, b5, h6, b6, h8, h9, h45, h46, h47]
  | succ r ihr =>
    intro i tys ss s bx hr hi hty hss h2 h3 b3 h4 b4 h5 b5 h6 b6 h8 h9 h10 h45 h46 h47
    have hlt : i < t.l.length := by omega
    have hw : IntKind.wrap .i64 ((i : Int) + 1) = i + 1 := by rw [wrap64] <;> omega
    have q : ofTs m locs (t.l.drop i) = (match ofT m locs t.l[i] with
      | .error e => .error e
      | .ok (a, s) => match ofTs m locs (t.l.drop (i + 1)) with
        | .error e => .error e
        | .ok (ts, ss) => .ok (a :: ts, s :: ss)) := by rw [List.drop_eq_getElem_cons hlt, ofTs]; rfl
    have c0 := hc _ (List.getElem_mem hlt) (ofH st t.k t.n t.s (encTs tys) (encTs ss)) (by have := ofH_len st t.k t.n t.s (encTs tys) (encTs ss); omega) (by rw [ofH_0 _ _ _ _ _ _ hl]; exact h0)
    rw [q]
    rw [lp_kL, L12_0]
    cases ho : ofT m locs t.l[i] with
    | ok x =>
      obtain ⟨a, sp⟩ := x
      rw [ho] at c0
      have h16 := c16 (m := m) (fl := fl) (locs := locs) hl rfl h0 t.k t.n t.s tys ss (by omega) (by omega) t.l[i] a sp c0
      have nx := ihr (i + 1) (tys ++ [a]) (ss ++ [sp])
      simp [h2, h3, b3, h4, b4, h5, b5, h6, b6, h8, h9, h10, h45, h46, h47, hlt, hw, ← encT_eq, h16]
      rw [← L12_0]
      refine Stops.mono (nx _ _ (by omega) (by omega) (by simp; omega) (by simp; omega) ?_ ?_ ?_ ?_ ?_ ?_ ?_ ?_ ?_ ?_ ?_ ?_ ?_ ?_ ?_) ?_
      iterate 15 simp [h2, h3, b3, h4, b4, h5, b5, h6, b6, h8, h9, h10, h45, h46]
      rintro e s' b' st' ⟨q4, p4, q5, p5, h⟩
      refine ⟨q4, p4, q5, p5, ?_⟩
      cases hr : ofTs m locs (t.l.drop (i + 1)) with
      | error y => rw [hr] at h; exact h
      | ok y => rw [hr] at h; simpa using h
    | error x =>
      obtain ⟨a, e'⟩ := x
      rw [ho] at c0
      have he := ofT_err _ _ _ ho
      simp only [ofR, ofH_set hl] at c0
      have h16 := c16 (m := m) (fl := fl) (locs := locs) (at0 := a) (e0 := e') (md := md + 2) hl (by simp) (by rw [at_set _ _ _ _ hl, if_pos rfl]) t.k t.n t.s tys ss (by omega) (by omega) t.l[i] T0 T0 c0
      simp [h2, h3, b3, h4, b4, h5, b5, h6, b6, h8, h9, h10, h45, h46, h47, hlt, hw, ← encT_eq, h16, he]
      exact ⟨_, _, rfl⟩

end Go.Nt.Ty
