/-
  AN EXPRESSION's TYPE: the walk, joined.
-/
import Derived.Test.YtmmfhcodhaemiaaTyOf
import Derived.Test.YtmmfhcodhaemiaaTyGood
set_option linter.unusedSimpArgs false
namespace Go.Nt.Ty
open Go Go.Nt

variable {m : Tm} {fl : Fl} {locs : List Tm} {at0 e0 : Int} {md : Nat}

theorem cutP {st st3 stF : St} (hl : st.length ≤ st3.length) (hF : stF.length = st.length) (h : ∀ i, i < st.length → St.at st3 i = St.at stF i) (hp : ∀ i, i < st.length → St.at stF i = St.at st i ∨ (St.at stF i).pureO = true) :
    settled st st3 = true ∧ st3.take st.length = stF := by
  refine ⟨settled_of hl fun i hi => by rw [h i hi]; exact hp i hi, ?_⟩
  rw [← hF]
  exact take_of (by omega) fun i hi => h i (by omega)

theorem c17 {args : List D} {st : St} (h : args.all D.okv = true) : callD T (ev T) 17 args st = ev T 17 args st := by
  simp only [callD, show T 17 = some F17 from rfl, show F17.mode = .raw from rfl]
  rw [if_pos h]

abbrev xO : Ob := .cells true 1 0 0 false [.hp 0 0 9 0 0]

theorem tyO_pure (m : Tm) (fl : Fl) (locs : List Tm) (a e : Int) (md : Nat) : (tyO m fl locs a e md).pureO = true := by simp [tyO, Ob.pureO]

/-- Behind an error. -/
theorem errP {st st3 : St} (hl : 0 < st.length) (a e : Int) (h1 : st.length ≤ st3.length) (h : ∀ i, i < st.length → i ≠ 0 → St.at st3 i = St.at st i) (h0 : St.at st3 0 = tyO m fl locs a e (md + 2)) :
    settled st st3 = true ∧ st3.take st.length = List.set st 0 (tyO m fl locs a e (md + 2)) := by
  refine cutP h1 (by simp) (fun i hi => ?_) (fun i hi => ?_)
  · rw [at_set _ _ _ _ hl]
    by_cases e : i = 0
    · rw [if_pos e, e]; exact h0
    · rw [if_neg e]; exact h i hi e
  · rw [at_set _ _ _ _ hl]
    by_cases e : i = 0
    · rw [if_pos e]; exact .inr (tyO_pure _ _ _ _ _ _)
    · rw [if_neg e]; exact .inl rfl

theorem shaped0 {t : Tm} (hs : shapedT t = true) (h : t.l = []) : t.k = 5 ∨ t.k = 18 ∨ t.k = 6 ∨ t.k = 7 ∨ t.k = 8 ∨ t.k = 9 ∨ t.k = 16 ∨ t.k = 17 := by
  refine Classical.byContradiction fun g => ?_
  simp only [not_or] at g
  obtain ⟨g5, g18, g6, g7, g8, g9, g16, g17⟩ := g
  unfold shapedT at hs
  rw [h] at hs
  simp [g5, g18, g6, g7, g8, g9, g16, g17] at hs

theorem ofH_lt (st : St) (k n : Int) (s : List UInt8) (ts ss : List D) {i : Nat} (h : i < st.length) : St.at (ofH st k n s ts ss) i = St.at st i := by
  cases ts <;> exact at_lt _ _ h

theorem named_kind {m : Tm} {locs : List Tm} {t : Tm} (h : (namedT m locs t).2 = true) : t.k ≠ 17 ∧ (t.k = 16 → (namedT m locs t).1.l.length = 3) := by
  refine ⟨fun e => ?_, fun e => ?_⟩
  · rw [namedT, if_neg (by omega), if_neg (by omega), if_neg (by omega), if_neg (by omega), if_neg (by omega), if_pos e] at h
    cases h
  · rw [namedT, if_neg (by omega), if_neg (by omega), if_neg (by omega), if_neg (by omega), if_pos e] at h ⊢
    unfold declT at h ⊢
    split at h
    · next g =>
      rw [dif_pos g]
      split at h
      · next hk =>
        rw [if_pos hk]
        simpa using h
      · cases h
    · cases h

/-- What the rule comes to, behind the parts. -/
theorem rulePart (gm : good m) (t d : Tm) (gt : good t) (gd : good d) (hs : shapedT t = true) (h17 : t.k ≠ 17) (hd : t.k = 16 → d.l.length = 3) {st : St} (hl : 0 < st.length) (h0 : St.at st 0 = tyO m fl locs 0 0 md) (ts ss : List Tm) (h1 : ts.length = t.l.length) (h2 : ss.length = t.l.length)
    (gts : ∀ x, x ∈ ts → good x) :
    ∃ (om m9 : Nat) (P L : D) (st' : St) (om' : Nat), St.at (ofH st t.k t.n t.s (encTs ts) (encTs ss)) (st.length + 1) = .cells true 6 0 om false [outD t.k t.n t.s L] ∧ St.at (ofH st t.k t.n t.s (encTs ts) (encTs ss)) (st.length + 2) = .cells true 1 0 m9 false [P] ∧ P.cells = [P] ∧
      callD T (ev T) 17 [.hp 0 0 9 0 0, .hp (st.length + 1) 0 6 0 0, encT d, P] (ofH st t.k t.n t.s (encTs ts) (encTs ss)) = some (.tup [encT (ruleT m t.k t.n t.s d ts).1, .int .i64 (ruleT m t.k t.n t.s d ts).2.1], st') ∧
      st.length + 1 < st'.length ∧ St.at st' (st.length + 1) = .cells true 6 0 om' false [outD t.k (ruleT m t.k t.n t.s d ts).2.2 t.s L] ∧ (∀ i, i < st.length + 1 → St.at st' i = St.at (ofH st t.k t.n t.s (encTs ts) (encTs ss)) i) ∧
      ∀ st'', st''.length = st'.length → (∀ i, i ≠ st.length + 1 → St.at st'' i = St.at st' i) → ∃ stZ, fz0 st'' L = some (slE 6 .nil (encTs ss), stZ) ∧ stZ.length = st''.length ∧ ∀ i, i < st.length → St.at stZ i = St.at st'' i := by
  cases ts with
  | nil =>
    have hx : t.l = [] := List.eq_nil_of_length_eq_zero h1.symm
    obtain rfl : ss = [] := List.eq_nil_of_length_eq_zero (by rw [h2, hx]; rfl)
    have ho : St.at (ofH st t.k t.n t.s (encTs []) (encTs [])) (st.length + 1) = .cells true 6 0 1 false [outD t.k t.n t.s .nils] := at_app _ _ 1
    have hr : ∃ R, R = ruleT m t.k t.n t.s d [] ∧ R.2.2 = t.n ∧ ev T 17 [.hp 0 0 9 0 0, .hp (st.length + 1) 0 6 0 0, encT d, .nils] (ofH st t.k t.n t.s (encTs []) (encTs [])) = some (.tup [encT R.1, .int .i64 R.2.1], ofH st t.k t.n t.s (encTs []) (encTs [])) := by
      rcases shaped0 hs hx with q | q | q | q | q | q | q | q
      case inr.inr.inr.inr.inr.inr.inr => exact absurd q h17
      case inr.inr.inr.inr.inr.inr.inl =>
        rw [q] at ho ⊢
        exact ⟨_, rfl, ruleT_n (by omega), ev17_call0 (m := m) ho d gd (hd q)⟩
      all_goals
        have e : ruleT m t.k t.n t.s d [] = (leafT t.k d, 0, t.n) := by unfold ruleT; rw [if_pos (by omega)]
        rw [e]
        exact ⟨_, rfl, rfl, ev17_leaf ho d gd (by omega)⟩
    obtain ⟨R, rfl, hn, hr⟩ := hr
    refine ⟨1, 0, .nils, .nils, _, 1, ho, at_app _ _ 2, rfl, (c17 (by simp)).trans hr, by simp [ofH], by rw [hn]; exact ho, fun _ _ => rfl, fun st'' _ _ => ⟨st'', rfl, rfl, fun _ _ => rfl⟩⟩
  | cons a r =>
    obtain ⟨u, us, rfl⟩ : ∃ u us, ss = u :: us := by cases ss with | nil => rw [← h1] at h2; simp at h2 | cons u us => exact ⟨u, us, rfl⟩
    have hus : us.length = r.length := by simp at h1 h2; omega
    have hH : ofH st t.k t.n t.s (encTs (a :: r)) (encTs (u :: us)) = st ++ [xO, .cells true 6 0 (r.length + 2) false [outD t.k t.n t.s (.rs (st.length + 4) r.length 6 0 (r.length + 1) false)], .cells true 1 0 (r.length + 1) false [.rs (st.length + 3) r.length 6 0 (r.length + 1) false],
      .cells false 6 r.length (2 * r.length + 1) false (encTs (a :: r)), .cells false 6 r.length (2 * r.length + 1) false (encTs (u :: us))] := by simp [ofH]
    have gl := good_len gt
    have H : RH m fl locs md (ofH st t.k t.n t.s (encTs (a :: r)) (encTs (u :: us))) (st.length + 1) (r.length + 2) t.k t.n t.s (.rs (st.length + 4) r.length 6 0 (a :: r).length false) (st.length + 3) r.length (2 * r.length + 1) false (a :: r) :=
      ⟨by rw [ofH_0 _ _ _ _ _ _ hl]; exact h0, by rw [hH]; exact at_app _ _ 1, by rw [hH]; exact at_app _ _ 3, by rw [hH]; simp, by rw [hH]; simp, by omega, by omega, by omega, gm, gts, by omega, ((good_iff t).1 gt).2.1⟩
    obtain ⟨st', hr, hlen, ⟨om', ho'⟩, hat⟩ := ev17 H (by simp) d gd hs h1.symm h17 hd
    refine ⟨r.length + 2, r.length + 1, .rs (st.length + 3) r.length 6 0 (a :: r).length false, _, st', om', H.ho, by rw [hH]; exact at_app _ _ 2, rfl, (c17 (by simp)).trans hr, by rw [hlen, hH]; simp, ho', fun i hi => hat i (by omega) (by omega), ?_⟩
    intro st'' hl'' hat''
    have h4 : St.at st'' (st.length + 4) = .cells false 6 r.length (2 * r.length + 1) false (encTs (u :: us)) := by
      rw [hat'' _ (by omega), hat _ (by omega) (by omega), hH]; exact at_app _ _ 4
    have h5 : st.length + 4 < st''.length := by rw [hl'', hlen, hH]; simp
    refine ⟨List.set st'' (st.length + 4) (.cells false 6 r.length (2 * r.length + 1 + 1) true (encTs (u :: us))), ?_, by simp, fun i hi => by rw [at_set _ _ _ _ h5, if_neg (by omega)]⟩
    rw [fz0_rs, h4]
    have hu2 : List.take r.length (encTs us) = encTs us := List.take_of_length_le (by simp [hus])
    simp [hus, slE, hu2]

theorem c12 (gm : good m) (gl : ∀ t, t ∈ locs → good t) (hll : locs.length ≤ 1000000) (t : Tm) : good t → ∀ (st : St), 0 < st.length → St.at st 0 = tyO m fl locs 0 0 md →
    callD T (ev T) 12 [.hp 0 0 9 0 0, encT t] st = some (ofR m fl locs md st (ofT m locs t)) := by
  induction t using Tm.ind with
  | h t ih =>
    intro gt st hl h0
    have hml : ∀ d, d ∈ m.l → d.l.length ≤ 1000000 := fun d hd => good_len (good_mem gm hd)
    have hx0 : St.at (st ++ [xO]) 0 = tyO m fl locs 0 0 md := by rw [at_lt _ _ hl]; exact h0
    have hxl : 0 < (st ++ [xO]).length := by simp
    have h13 := c13 t (st ++ [xO])
    have h14 := fun e => c14 hx0 hxl t e
    simp only [set_lt _ _ hl] at h14
    have h15 := c15 hx0 hml hll t
    rw [ofT_eq]
    cases hs : shapedT t with
    | false =>
      rw [hs] at h13
      obtain ⟨e1, e2⟩ := errP (m := m) (fl := fl) (locs := locs) (md := md) (st3 := List.set st 0 (tyO m fl locs t.a 12 (md + 2)) ++ [xO]) hl t.a 12 (by simp) (fun i hi hi0 => by rw [at_lt _ _ (by simpa using hi), at_set _ _ _ _ hl, if_neg hi0]) (by rw [at_lt _ _ (by simpa using hl), at_set _ _ _ _ hl, if_pos rfl])
      simp only [if_true, ofR]
      refine callD_cut (fn := F12) (r := .tup [encT T0, encT T0]) (st1 := List.set st 0 (tyO m fl locs t.a 12 (md + 2)) ++ [xO]) (st2 := List.set st 0 (tyO m fl locs t.a 12 (md + 2)) ++ [xO]) rfl rfl (by simp) ?_ (by simp) (by simp) e1 e2
      rw [ev_eq 12 F12 rfl, F12]
      simp [at_app0, ← encT_eq, h13, h14]
      rw [encT_0]; rfl
    | true =>
      rw [hs] at h13
      cases hn : (namedT m locs t).2 with
      | false =>
        rw [hn] at h15
        obtain ⟨e1, e2⟩ := errP (m := m) (fl := fl) (locs := locs) (md := md) (st3 := List.set st 0 (tyO m fl locs t.a 8 (md + 2)) ++ [xO]) hl t.a 8 (by simp) (fun i hi hi0 => by rw [at_lt _ _ (by simpa using hi), at_set _ _ _ _ hl, if_neg hi0]) (by rw [at_lt _ _ (by simpa using hl), at_set _ _ _ _ hl, if_pos rfl])
        simp only [Bool.true_eq_false, if_false, if_true, ofR]
        refine callD_cut (fn := F12) (r := .tup [encT T0, encT T0]) (st1 := List.set st 0 (tyO m fl locs t.a 8 (md + 2)) ++ [xO]) (st2 := List.set st 0 (tyO m fl locs t.a 8 (md + 2)) ++ [xO]) rfl rfl (by simp) ?_ (by simp) (by simp) e1 e2
        rw [ev_eq 12 F12 rfl, F12]
        simp [at_app0, ← encT_eq, h13, h14, h15]
        rw [encT_0]; rfl
      | true =>
        rw [hn] at h15
        simp only [Bool.true_eq_false, if_false]
        obtain ⟨h17, h16⟩ := named_kind hn
        have gd := namedT_good gm gl t
        have L := l12 (m := m) (fl := fl) (locs := locs) (md := md) t (namedT m locs t).1 st hl h0 (good_len gt) (fun u hu st h1 h2 => ih u hu (good_mem gt hu) st h1 h2) t.l.length 0 [] []
        have eH : ofH st t.k t.n t.s (encTs []) (encTs []) = st ++ [.cells true 1 0 0 false [.hp 0 0 9 0 0], .cells true 6 0 1 false [.agg [.int .i64 t.k, .int .i64 t.n, .str t.s, .nils, .int .i64 0, .int .i64 0]], .cells true 1 0 0 false [.nils]] := rfl
        simp only [eH, List.drop_zero, List.nil_append] at L
        generalize hR : ofR m fl locs md st _ = R
        have hRp : R.1.pureT = true := by
          rw [← hR]
          cases hq : ofTs m locs t.l with
          | error x => obtain ⟨x1, x2⟩ := x; simp [ofR]
          | ok x =>
            obtain ⟨ts, ss⟩ := x
            simp only
            split <;> simp [ofR]
        refine callD_cutE (fn := F12) rfl rfl (by simp) hRp ?_
        rw [ev_eq 12 F12 rfl, F12]
        simp [at_app, at_app0, ← encT_eq, h13, h15, kHs, splice, List.append_assoc]
        refine (L _ _ rfl (by omega) rfl rfl ?_ ?_ ?_ ?_ ?_ ?_ ?_ ?_ ?_ ?_ ?_ ?_ ?_ ?_ ?_).use (fun r => Ends st R.1 R.2 (kfin _ (kseq _ (kblock 0 r)))) ?_
        iterate 15 simp
        rintro e s' b' st' ⟨q4, p4, q5, p5, h⟩
        cases hq : ofTs m locs t.l with
        | error x =>
          obtain ⟨a, e'⟩ := x
          rw [hq] at h hR
          obtain ⟨rfl, tys', ss', rfl⟩ := h
          simp only [ofR] at hR
          subst hR
          obtain ⟨k1, k2⟩ := errP (m := m) (fl := fl) (locs := locs) (md := md) (st3 := ofH (List.set st 0 (tyO m fl locs a e' (md + 2))) t.k t.n t.s (encTs tys') (encTs ss')) hl a e'
            (by have := ofH_len (List.set st 0 (tyO m fl locs a e' (md + 2))) t.k t.n t.s (encTs tys') (encTs ss'); simpa using this)
            (fun i hi hi0 => by rw [ofH_lt _ _ _ _ _ _ (by simpa using hi), at_set _ _ _ _ hl, if_neg hi0]) (by rw [ofH_0 _ _ _ _ _ _ (by simpa using hl), at_set _ _ _ _ hl, if_pos rfl])
          simp [q4, p4, q5, p5, ← encT_0]
          exact Ends.mk (by simp) ⟨k1, k2⟩
        | ok x =>
          obtain ⟨ts, ss⟩ := x
          rw [hq] at h hR
          obtain ⟨rfl, rfl, q2, q3, p3, q6, p6, q8, q9⟩ := h
          obtain ⟨n1, n2⟩ := ofTs_len t.l ts ss hq
          have gts := ofTs_good gm gl t.l ts ss (fun u hu => good_mem gt hu) hq
          obtain ⟨om, m9, P, Lc, st', om', f1, f2, f3, f4, f5, f6, f7, f8⟩ := rulePart (fl := fl) (locs := locs) (md := md) gm t (namedT m locs t).1 gt gd hs h17 h16 hl h0 ts ss n1 n2 gts
          have x2 : St.at (ofH st t.k t.n t.s (encTs ts) (encTs ss)) st.length = xO := by cases ts <;> exact at_app0 _ _
          have y0 : St.at st' 0 = tyO m fl locs 0 0 md := by rw [f7 0 (by omega), ofH_0 _ _ _ _ _ _ hl]; exact h0
          have y2 : St.at st' st.length = xO := by rw [f7 _ (by omega)]; exact x2
          have ylt : ∀ i, i < st.length → St.at st' i = St.at st i := fun i hi => by rw [f7 i (by omega)]; exact ofH_lt _ _ _ _ _ _ hi
          have yl : 0 < st'.length := by omega
          by_cases hz : (ruleT m t.k t.n t.s (namedT m locs t).1 ts).2.1 = 0
          · rw [hz] at f4
            simp only [if_pos hz, ofR] at hR
            subst hR
            have g1 : ∀ o, St.at (List.set st' (st.length + 1) o) (st.length + 1) = o := fun o => by rw [at_set _ _ _ _ f5, if_pos rfl]
            obtain ⟨stZ, z1, z2, z3⟩ := f8 (List.set st' (st.length + 1) (.cells true 6 0 (om' + 1) false [outD t.k (ruleT m t.k t.n t.s (namedT m locs t).1 ts).2.2 [] Lc])) (by simp) (fun i hi => by rw [at_set _ _ _ _ f5, if_neg hi])
            have kk := cutP (st := st) (st3 := stZ) (stF := st) (by rw [z2, List.length_set]; omega) rfl (fun i hi => by rw [z3 i hi, at_set _ _ _ _ f5, if_neg (by omega)]; exact ylt i hi) (fun _ _ => .inl rfl)
            simp only [outD] at z1 f6
            simp [q4, p4, q5, p5, q2, q3, p3, q6, p6, q8, q9, x2, f2, f3, f4, y2, f6, g1, ← encT_eq, kHs, splice]
            exact Ends.mk (by simp [z1, encT]) kk
          · simp only [if_neg hz, ofR] at hR
            subst hR
            have w14 := c14 y0 yl t (ruleT m t.k t.n t.s (namedT m locs t).1 ts).2.1
            obtain ⟨k1, k2⟩ := errP (m := m) (fl := fl) (locs := locs) (md := md) (st3 := List.set st' 0 (tyO m fl locs t.a (ruleT m t.k t.n t.s (namedT m locs t).1 ts).2.1 (md + 2))) hl t.a (ruleT m t.k t.n t.s (namedT m locs t).1 ts).2.1
              (by rw [List.length_set]; omega) (fun i hi hi0 => by rw [at_set _ _ _ _ yl, if_neg hi0]; exact ylt i hi) (by rw [at_set _ _ _ _ yl, if_pos rfl])
            simp [q4, p4, q5, p5, q2, q3, p3, q6, p6, q8, q9, x2, f2, f3, f4, y2, ← encT_eq, hz, w14, kHs, splice]
            exact Ends.mk (by simp; rw [encT_0]; rfl) ⟨k1, k2⟩


/-- What 'Of' tells. -/
def tells (m : Tm) (locs : List Tm) (t : Tm) : D :=
  match ofT m locs t with
  | .ok (a, s) => .tup [encT a, encT s, .int .i64 0, .int .i64 0]
  | .error (a, e) => .tup [encT T0, encT T0, .int .i64 a, .int .i64 e]

theorem c8 (gm : good m) (gl : ∀ t, t ∈ locs → good t) (hll : locs.length ≤ 1000000) (t : Tm) (gt : good t) (fl : Fl) (st : St) : callD T (ev T) 8 [encT m, slE 6 fl (encTs locs), encT t] st = some (tells m locs t, st) := by
  have h12 := c12 (fl := fl) (md := 0) gm gl hll t gt [tyO m fl locs 0 0 0] (by simp) rfl
  simp only [tyO] at h12
  unfold tells
  cases ho : ofT m locs t with
  | ok x =>
    obtain ⟨a, s⟩ := x
    rw [ho] at h12
    simp only [ofR] at h12
    refine callD_pure (fn := F8) (r := .tup [encT a, encT s, .int .i64 0, .int .i64 0]) (st1 := [tyO m fl locs 0 0 0]) (st2 := [tyO m fl locs 0 0 0]) rfl rfl (by simp) ?_ (by simp) (by simp)
    rw [ev_eq 8 F8 rfl, F8]
    simp [tyO, ← encT_eq t, h12]
    simp [encT_eq]
  | error x =>
    obtain ⟨a, e⟩ := x
    rw [ho] at h12
    have he := ofT_err _ _ _ ho
    simp only [ofR] at h12
    refine callD_pure (fn := F8) (r := .tup [encT T0, encT T0, .int .i64 a, .int .i64 e]) (st1 := [tyO m fl locs a e 2]) (st2 := [tyO m fl locs a e 2]) rfl rfl (by simp) ?_ (by simp) (by simp)
    rw [ev_eq 8 F8 rfl, F8]
    simp [tyO, ← encT_eq t, h12, he]
    simp [encT_0]

end Go.Nt.Ty
