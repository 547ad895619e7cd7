/-
  WHAT IS SAID OF TYPES AND SETTLED FORMS IS RIGHT.
-/
import Derived.Test.YtgmjghgpcjjeeaaGreatTzOf
set_option linter.unusedSimpArgs false
namespace Go.Nt.Ty
open Go Go.Nt

theorem good_0 : good T0 := good_K 0 (by simp [in64])
theorem good_head {l : List Tm} (h : ∀ t, t ∈ l → good t) : good (l.headD T0) := by
  cases l with
  | nil => exact good_0
  | cons a l => exact h a (by simp)

theorem bareT_good (t : Tm) : good t → good (bareT t) := by
  induction t using Tm.ind with
  | h t ih =>
    intro h
    obtain ⟨k1, k2, k3, k4, k5, k6, k7⟩ := (good_iff t).1 h
    rw [bareT_eq]
    refine (good_iff _).2 ⟨k1, k2, k3, by simp [in64], by simp [in64], by simpa using k6, fun u hu => ?_⟩
    simp only [l_mk] at hu
    obtain ⟨v, hv, rfl⟩ := List.mem_map.1 hu
    exact ih v hv (k7 v hv)

theorem litT_good (t : Tm) : good (litT t) := by
  unfold litT; split
  · exact good_K 1 (by simp [in64])
  · split
    · exact good_K 2 (by simp [in64])
    · exact good_0

theorem declT_good {m : Tm} (hm : good m) (n k : Int) : good (declT m n k).1 := by
  unfold declT
  split
  · have gd := good_mem hm (List.getElem_mem (by omega : n.toNat < m.l.length))
    repeat' split
    all_goals first | exact gd | exact good_0
  · exact good_0

theorem namedT_good {m : Tm} (hm : good m) {locs : List Tm} (hl : ∀ t, t ∈ locs → good t) (t : Tm) : good (namedT m locs t).1 := by
  unfold namedT
  split
  · split
    · next d hd =>
      unfold localT at hd
      split at hd
      · exact hl d (List.mem_of_getElem? hd)
      · cases hd
    · exact good_0
  · split
    · split
      · exact litT_good _
      · exact good_0
    · split
      · split
        · exact good_head fun u hu => good_mem (declT_good hm _ _) hu
        · exact good_0
      · split
        · exact declT_good hm _ _
        · split
          · exact declT_good hm _ _
          · split <;> exact good_0

theorem byName_mem {s : List UInt8} : ∀ {l : List Tm} {i j : Nat} {f : Tm}, byName s i l = some (j, f) → j < 64 ∧ ∃ p, p ∈ l ∧ f = p.l.headD T0
  | [], _, _, _, h => by cases h
  | p :: l, i, j, f, h => by
    rw [byName] at h
    split at h
    · next hc =>
      simp only [Option.some.injEq, Prod.mk.injEq] at h
      exact ⟨by omega, p, by simp, h.2.symm⟩
    · obtain ⟨h1, q, hq, e⟩ := byName_mem h
      exact ⟨h1, q, by simp [hq], e⟩

theorem fieldT_good {m : Tm} (hm : good m) {n : Int} (hn : in64 n) (s : List UInt8) (of : Tm) : good (fieldT m n s of).2.1 ∧ in64 (fieldT m n s of).1 := by
  have i0 : in64 0 := by simp [in64]
  unfold fieldT
  split
  · next hd =>
    obtain ⟨g, hmem, _⟩ := declT_rec hd
    have := good_len hm
    split
    · exact ⟨bareT_good _ (typField_good hm n), hn⟩
    · split
      · next j f hb =>
        obtain ⟨h1, p, hp, e⟩ := byName_mem hb
        refine ⟨bareT_good _ ?_, by unfold in64; simp only; omega⟩
        rw [e]
        exact good_head fun u hu => good_mem (good_mem (good_mem hm hmem) hp) hu
      · exact ⟨good_0, i0⟩
  · exact ⟨good_0, i0⟩

theorem ruleT_good {m : Tm} (hm : good m) {k n : Int} (hn : in64 n) (s : List UInt8) {d : Tm} (hd : good d) {p : List Tm} (hp : ∀ t, t ∈ p → good t) (hl : p.length ≤ 1000000) : good (ruleT m k n s d p).1 ∧ in64 (ruleT m k n s d p).2.2 := by
  have g1 : good (tK 1) := good_K 1 (by simp [in64])
  have g2 : good (tK 2) := good_K 2 (by simp [in64])
  unfold ruleT
  split
  · refine ⟨?_, hn⟩
    simp only [leafT]
    repeat' split
    all_goals first | exact g1 | exact g2 | exact bareT_good _ hd
  · split
    · split
      · refine ⟨?_, hn⟩
        simp only [binT]
        repeat' split
        all_goals first | exact g1 | exact g2 | exact good_0
      · exact ⟨good_0, hn⟩
    · split
      · split
        · next a =>
          split
          · exact ⟨hp a (by simp), hn⟩
          · exact ⟨good_0, hn⟩
        · exact ⟨good_0, hn⟩
      · split
        · split
          · next a b =>
            split
            · exact ⟨good_head fun u hu => good_mem (hp a (by simp)) hu, hn⟩
            · exact ⟨good_0, hn⟩
          · exact ⟨good_0, hn⟩
        · split
          · split
            · next a =>
              split
              · split
                · exact fieldT_good hm hn s a
                · exact ⟨good_0, hn⟩
              · exact ⟨good_0, hn⟩
            · exact ⟨good_0, hn⟩
          · split
            · refine ⟨?_, hn⟩
              simp only [listT]
              split
              · split
                · exact good_0
                · refine (good_iff _).2 ⟨by simp [in64], by simp [in64]; omega, by simp, by simp [in64], by simp [in64], by simp, fun u hu => ?_⟩
                  simp only [l_mk, List.mem_singleton] at hu
                  subst hu
                  exact good_head hp
              · exact good_0
            · split
              · split
                · exact ⟨(good_iff _).2 ⟨by simp [in64], hn, by simp, by simp [in64], by simp [in64], by simp, fun u hu => by cases hu⟩, hn⟩
                · exact ⟨good_0, hn⟩
              · split
                · split
                  · refine ⟨bareT_good _ (good_head fun u hu => good_mem hd (List.mem_of_mem_tail hu)), hn⟩
                  · exact ⟨good_0, hn⟩
                · exact ⟨good_0, hn⟩

theorem ofT_good {m : Tm} (hm : good m) {locs : List Tm} (hl : ∀ t, t ∈ locs → good t) (t : Tm) : good t → ∀ a s, ofT m locs t = .ok (a, s) → good a ∧ good s := by
  induction t using Tm.ind with
  | h t ih =>
    intro h a s ho
    obtain ⟨k1, k2, k3, k4, k5, k6, k7⟩ := (good_iff t).1 h
    have key : ∀ l : List Tm, (∀ u, u ∈ l → ∀ a s, ofT m locs u = .ok (a, s) → good a ∧ good s) → ∀ ts ss, ofTs m locs l = .ok (ts, ss) → (∀ x, x ∈ ts → good x) ∧ (∀ x, x ∈ ss → good x) ∧ ts.length = l.length ∧ ss.length = l.length := by
      intro l
      induction l with
      | nil =>
        intro _ ts ss h
        simp only [ofTs, Except.ok.injEq, Prod.mk.injEq] at h
        rw [← h.1, ← h.2]; simp
      | cons u l ihl =>
        intro hu ts ss h
        rw [ofTs] at h
        cases hq : ofT m locs u with
        | error x => rw [hq] at h; cases h
        | ok x =>
          obtain ⟨a, s⟩ := x
          rw [hq] at h
          cases hr : ofTs m locs l with
          | error y => rw [hr] at h; cases h
          | ok y =>
            obtain ⟨b, c⟩ := y
            rw [hr] at h
            simp only [Except.ok.injEq, Prod.mk.injEq] at h
            obtain ⟨g1, g2⟩ := hu u (by simp) a s hq
            obtain ⟨q1, q2, q3, q4⟩ := ihl (fun v hv => hu v (by simp [hv])) b c hr
            rw [← h.1, ← h.2]
            refine ⟨fun x hx => ?_, fun x hx => ?_, by simp [q3], by simp [q4]⟩
            · rcases List.mem_cons.1 hx with rfl | hx
              · exact g1
              · exact q1 x hx
            · rcases List.mem_cons.1 hx with rfl | hx
              · exact g2
              · exact q2 x hx
    rw [ofT_eq] at ho
    split at ho
    · cases ho
    · split at ho
      · cases ho
      · cases hq : ofTs m locs t.l with
        | error x => rw [hq] at ho; cases ho
        | ok x =>
          obtain ⟨ts, ss⟩ := x
          rw [hq] at ho
          simp only at ho
          obtain ⟨q1, q2, q3, q4⟩ := key t.l (fun u hu => ih u hu (k7 u hu)) ts ss hq
          split at ho
          · simp only [Except.ok.injEq, Prod.mk.injEq] at ho
            obtain ⟨r1, r2⟩ := ruleT_good hm (k := t.k) k2 t.s (namedT_good hm hl t) q1 (by omega)
            rw [← ho.1, ← ho.2]
            refine ⟨r1, (good_iff _).2 ⟨k1, r2, by simp, by simp [in64], by simp [in64], by simp only [l_mk]; omega, fun u hu => q2 u hu⟩⟩
          · cases ho

theorem ofTs_good {m : Tm} (hm : good m) {locs : List Tm} (hl : ∀ t, t ∈ locs → good t) : ∀ (l ts ss : List Tm), (∀ u, u ∈ l → good u) → ofTs m locs l = .ok (ts, ss) → (∀ x, x ∈ ts → good x)
  | [], ts, ss, _, h => by
    simp only [ofTs, Except.ok.injEq, Prod.mk.injEq] at h
    rw [← h.1]; simp
  | u :: l, ts, ss, hu, h => by
    rw [ofTs] at h
    cases hq : ofT m locs u with
    | error x => rw [hq] at h; cases h
    | ok x =>
      obtain ⟨a, s⟩ := x
      rw [hq] at h
      cases hr : ofTs m locs l with
      | error y => rw [hr] at h; cases h
      | ok y =>
        obtain ⟨b, c⟩ := y
        rw [hr] at h
        simp only [Except.ok.injEq, Prod.mk.injEq] at h
        have g1 := (ofT_good hm hl u (hu u (by simp)) a s hq).1
        have g2 := ofTs_good hm hl l b c (fun v hv => hu v (by simp [hv])) hr
        rw [← h.1]
        intro x hx
        rcases List.mem_cons.1 hx with rfl | hx
        · exact g1
        · exact g2 x hx

end Go.Nt.Ty

/-
  AN EXPRESSION's TYPE: the walk, joined.
-/
set_option linter.unusedSimpArgs false
namespace Go.Nt.Ty
open Go Go.Nt

variable {m : Tm} {lv : D} {locs : List Tm} {at0 e0 : Int} {md oi : Nat}

theorem cutP {st st3 stF : St} (hl : st.length ≤ st3.length) (hF : stF.length = st.length) (h : ∀ i, i < st.length → St.at st3 i = St.at stF i) (hp : ∀ i, i < st.length → St.at stF i = St.at st i ∨ (St.at stF i).old st.length = true) :
    settled st st3 = true ∧ st3.take st.length = stF := by
  refine ⟨settled_old hl fun i hi => by rw [h i hi]; exact (hp i hi).elim .inl fun q => .inr (.inr q), ?_⟩
  rw [← hF]
  exact take_of (by omega) fun i hi => h i (by omega)

theorem c155 {args : List D} {st : St} (h : args.all D.okv = true) : callD T (ev T) 155 args st = ev T 155 args st := by
  simp only [callD, show T 155 = some F155 from rfl, show F155.mode = .raw from rfl]
  rw [if_pos h]

abbrev xO (oi : Nat) : Ob := .cells true 1 0 0 false [.hp oi 0 9 0 0]

/-- Behind an error. -/
theorem errP {st st3 : St} (hl : oi < st.length) (hv : lv.old1 oi = true) (a e : Int) (h1 : st.length ≤ st3.length) (h : ∀ i, i < st.length → i ≠ oi → St.at st3 i = St.at st i) (h0 : St.at st3 oi = tyO m lv a e (md + 2)) :
    settled st st3 = true ∧ st3.take st.length = List.set st oi (tyO m lv a e (md + 2)) := by
  refine cutP h1 (by simp) (fun i hi => ?_) (fun i hi => ?_)
  · rw [at_set _ _ _ _ hl]
    by_cases e : i = oi
    · rw [if_pos e, e]; exact h0
    · rw [if_neg e]; exact h i hi e
  · rw [at_set _ _ _ _ hl]
    by_cases e : i = oi
    · rw [if_pos e]; exact .inr (tyO_old m (old1_mono (by omega) hv) _ _ _)
    · rw [if_neg e]; exact .inl rfl

theorem shaped0 {t : Tm} (hs : shapedT t = true) (h : t.l = []) : t.k = 5 ∨ t.k = 18 ∨ t.k = 6 ∨ t.k = 7 ∨ t.k = 8 ∨ t.k = 9 ∨ t.k = 16 ∨ t.k = 17 := by
  refine Classical.byContradiction fun g => ?_
  simp only [not_or] at g
  obtain ⟨g5, g18, g6, g7, g8, g9, g16, g17⟩ := g
  unfold shapedT at hs
  rw [h] at hs
  simp [g5, g18, g6, g7, g8, g9, g16, g17] at hs

theorem ofH_lt (st : St) (k n : Int) (s : List UInt8) (ts ss : List D) {i : Nat} (h : i < st.length) : St.at (ofH oi st k n s ts ss) i = St.at st i := by
  cases ts <;> exact at_lt _ _ h

theorem named_kind {m : Tm} {locs : List Tm} {t : Tm} (h : (namedT m locs t).2 = true) : t.k ≠ 17 ∧ (t.k = 16 → (namedT m locs t).1.l.length = 3) := by
  refine ⟨fun e => ?_, fun e => ?_⟩
  · rw [namedT, if_neg (by omega), if_neg (by omega), if_neg (by omega), if_neg (by omega), if_neg (by omega), if_pos e] at h
    cases h
  · rw [namedT, if_neg (by omega), if_neg (by omega), if_neg (by omega), if_neg (by omega), if_pos e] at h ⊢
    unfold declT at h ⊢
    split at h
    · next g =>
      rw [dif_pos g]
      split at h
      · next hk =>
        rw [if_pos hk]
        simpa using h
      · cases h
    · cases h

/-- What the rule comes to, behind the parts. -/
theorem rulePart (gm : good m) (t d : Tm) (gt : good t) (gd : good d) (hs : shapedT t = true) (h17 : t.k ≠ 17) (hd : t.k = 16 → d.l.length = 3) {st : St} (hl : oi < st.length) (h0 : St.at st oi = tyO m lv 0 0 md) (ts ss : List Tm) (h1 : ts.length = t.l.length) (h2 : ss.length = t.l.length)
    (gts : ∀ x, x ∈ ts → good x) :
    ∃ (om m9 : Nat) (P L : D) (st' : St) (om' : Nat), St.at (ofH oi st t.k t.n t.s (encTs ts) (encTs ss)) (st.length + 1) = .cells true 6 0 om false [outD t.k t.n t.s L] ∧ St.at (ofH oi st t.k t.n t.s (encTs ts) (encTs ss)) (st.length + 2) = .cells true 1 0 m9 false [P] ∧ P.cells = [P] ∧
      callD T (ev T) 155 [.hp oi 0 9 0 0, .hp (st.length + 1) 0 6 0 0, encT d, P] (ofH oi st t.k t.n t.s (encTs ts) (encTs ss)) = some (.tup [encT (ruleT m t.k t.n t.s d ts).1, .int .i64 (ruleT m t.k t.n t.s d ts).2.1], st') ∧
      st.length + 1 < st'.length ∧ St.at st' (st.length + 1) = .cells true 6 0 om' false [outD t.k (ruleT m t.k t.n t.s d ts).2.2 t.s L] ∧ (∀ i, i < st.length + 1 → St.at st' i = St.at (ofH oi st t.k t.n t.s (encTs ts) (encTs ss)) i) ∧
      ∀ st'', st''.length = st'.length → (∀ i, i ≠ st.length + 1 → St.at st'' i = St.at st' i) → ∃ stZ, fz0 st'' L = some (slE 6 .nil (encTs ss), stZ) ∧ stZ.length = st''.length ∧ ∀ i, i < st.length → St.at stZ i = St.at st'' i := by
  cases ts with
  | nil =>
    have hx : t.l = [] := List.eq_nil_of_length_eq_zero h1.symm
    obtain rfl : ss = [] := List.eq_nil_of_length_eq_zero (by rw [h2, hx]; rfl)
    have ho : St.at (ofH oi st t.k t.n t.s (encTs []) (encTs [])) (st.length + 1) = .cells true 6 0 1 false [outD t.k t.n t.s .nils] := at_app _ _ 1
    have hr : ∃ R, R = ruleT m t.k t.n t.s d [] ∧ R.2.2 = t.n ∧ ev T 155 [.hp oi 0 9 0 0, .hp (st.length + 1) 0 6 0 0, encT d, .nils] (ofH oi st t.k t.n t.s (encTs []) (encTs [])) = some (.tup [encT R.1, .int .i64 R.2.1], ofH oi st t.k t.n t.s (encTs []) (encTs [])) := by
      rcases shaped0 hs hx with q | q | q | q | q | q | q | q
      case inr.inr.inr.inr.inr.inr.inr => exact absurd q h17
      case inr.inr.inr.inr.inr.inr.inl =>
        rw [q] at ho ⊢
        exact ⟨_, rfl, ruleT_n (by omega), ev17_call0 (m := m) ho d gd (hd q)⟩
      all_goals
        have e : ruleT m t.k t.n t.s d [] = (leafT t.k d, 0, t.n) := by unfold ruleT; rw [if_pos (by omega)]
        rw [e]
        exact ⟨_, rfl, rfl, ev17_leaf ho d gd (by omega)⟩
    obtain ⟨R, rfl, hn, hr⟩ := hr
    refine ⟨1, 0, .nils, .nils, _, 1, ho, at_app _ _ 2, rfl, (c155 (by simp)).trans hr, by simp [ofH], by rw [hn]; exact ho, fun _ _ => rfl, fun st'' _ _ => ⟨st'', rfl, rfl, fun _ _ => rfl⟩⟩
  | cons a r =>
    obtain ⟨u, us, rfl⟩ : ∃ u us, ss = u :: us := by cases ss with | nil => rw [← h1] at h2; simp at h2 | cons u us => exact ⟨u, us, rfl⟩
    have hus : us.length = r.length := by simp at h1 h2; omega
    have hH : ofH oi st t.k t.n t.s (encTs (a :: r)) (encTs (u :: us)) = st ++ [xO oi, .cells true 6 0 (r.length + 2) false [outD t.k t.n t.s (.rs (st.length + 4) r.length 6 0 (r.length + 1) false)], .cells true 1 0 (r.length + 1) false [.rs (st.length + 3) r.length 6 0 (r.length + 1) false],
      .cells false 6 r.length (2 * r.length + 1) false (encTs (a :: r)), .cells false 6 r.length (2 * r.length + 1) false (encTs (u :: us))] := by simp [ofH]
    have gl := good_len gt
    have H : RH m lv md oi (ofH oi st t.k t.n t.s (encTs (a :: r)) (encTs (u :: us))) (st.length + 1) (r.length + 2) t.k t.n t.s (.rs (st.length + 4) r.length 6 0 (a :: r).length false) (st.length + 3) r.length (2 * r.length + 1) false (a :: r) :=
      ⟨by rw [ofH_0 _ _ _ _ _ _ hl]; exact h0, by rw [hH]; exact at_app _ _ 1, by rw [hH]; exact at_app _ _ 3, by rw [hH]; simp, by rw [hH]; simp, by omega, by omega, by omega, gm, gts, by omega, ((good_iff t).1 gt).2.1⟩
    obtain ⟨st', hr, hlen, ⟨om', ho'⟩, hat⟩ := ev17 H (by simp) d gd hs h1.symm h17 hd
    refine ⟨r.length + 2, r.length + 1, .rs (st.length + 3) r.length 6 0 (a :: r).length false, _, st', om', H.ho, by rw [hH]; exact at_app _ _ 2, rfl, (c155 (by simp)).trans hr, by rw [hlen, hH]; simp, ho', fun i hi => hat i (by omega) (by omega), ?_⟩
    intro st'' hl'' hat''
    have h4 : St.at st'' (st.length + 4) = .cells false 6 r.length (2 * r.length + 1) false (encTs (u :: us)) := by
      rw [hat'' _ (by omega), hat _ (by omega) (by omega), hH]; exact at_app _ _ 4
    have h5 : st.length + 4 < st''.length := by rw [hl'', hlen, hH]; simp
    refine ⟨List.set st'' (st.length + 4) (.cells false 6 r.length (2 * r.length + 1 + 1) true (encTs (u :: us))), ?_, by simp, fun i hi => by rw [at_set _ _ _ _ h5, if_neg (by omega)]⟩
    rw [fz0_rs, h4]
    have hu2 : List.take r.length (encTs us) = encTs us := List.take_of_length_le (by simp [hus])
    simp [hus, slE, hu2]

theorem c93 (gm : good m) (gl : ∀ t, t ∈ locs → good t) (hll : locs.length ≤ 1000000) (hv : lv.old1 oi = true) (t : Tm) : good t → ∀ (st : St), oi < st.length → St.at st oi = tyO m lv 0 0 md → LocR st lv locs →
    callD T (ev T) 93 [.hp oi 0 9 0 0, encT t] st = some (ofR m lv md oi st (ofT m locs t)) := by
  induction t using Tm.ind with
  | h t ih =>
    intro gt st hl h0 hL
    have hml : ∀ d, d ∈ m.l → d.l.length ≤ 1000000 := fun d hd => good_len (good_mem gm hd)
    have hx0 : St.at (st ++ [xO oi]) oi = tyO m lv 0 0 md := by rw [at_lt _ _ hl]; exact h0
    have hxl : oi < (st ++ [xO oi]).length := by simp; omega
    have h13 := c151 t (st ++ [xO oi])
    have h14 := fun e => c152 hx0 hxl hv t e
    simp only [set_lt _ _ hl] at h14
    have h15 := c153 hx0 (hL.app [xO oi]) hml hll t
    rw [ofT_eq]
    cases hs : shapedT t with
    | false =>
      rw [hs] at h13
      obtain ⟨e1, e2⟩ := errP (m := m) (lv := lv) (md := md) (st3 := List.set st oi (tyO m lv t.a 12 (md + 2)) ++ [xO oi]) hl hv t.a 12 (by simp) (fun i hi hi0 => by rw [at_lt _ _ (by simpa using hi), at_set _ _ _ _ hl, if_neg hi0]) (by rw [at_lt _ _ (by simpa using hl), at_set _ _ _ _ hl, if_pos rfl])
      simp only [if_true, ofR]
      refine callD_cut (fn := F93) (r := .tup [encT T0, encT T0]) (st1 := List.set st oi (tyO m lv t.a 12 (md + 2)) ++ [xO oi]) (st2 := List.set st oi (tyO m lv t.a 12 (md + 2)) ++ [xO oi]) rfl rfl (by simp) ?_ (by simp) (by simp) e1 e2
      rw [ev_eq 93 F93 rfl, F93]
      simp [at_app0, ← encT_eq, h13, h14]
      rw [encT_0] <;> rfl
    | true =>
      rw [hs] at h13
      cases hn : (namedT m locs t).2 with
      | false =>
        rw [hn] at h15
        obtain ⟨e1, e2⟩ := errP (m := m) (lv := lv) (md := md) (st3 := List.set st oi (tyO m lv t.a 8 (md + 2)) ++ [xO oi]) hl hv t.a 8 (by simp) (fun i hi hi0 => by rw [at_lt _ _ (by simpa using hi), at_set _ _ _ _ hl, if_neg hi0]) (by rw [at_lt _ _ (by simpa using hl), at_set _ _ _ _ hl, if_pos rfl])
        simp only [Bool.true_eq_false, if_false, if_true, ofR]
        refine callD_cut (fn := F93) (r := .tup [encT T0, encT T0]) (st1 := List.set st oi (tyO m lv t.a 8 (md + 2)) ++ [xO oi]) (st2 := List.set st oi (tyO m lv t.a 8 (md + 2)) ++ [xO oi]) rfl rfl (by simp) ?_ (by simp) (by simp) e1 e2
        rw [ev_eq 93 F93 rfl, F93]
        simp [at_app0, ← encT_eq, h13, h14, h15]
        rw [encT_0] <;> rfl
      | true =>
        rw [hn] at h15
        simp only [Bool.true_eq_false, if_false]
        obtain ⟨h17, h16⟩ := named_kind hn
        have gd := namedT_good gm gl t
        have L := l93 (m := m) (lv := lv) (md := md) t (namedT m locs t).1 st hl h0 (good_len gt) hL (fun u hu st h1 h2 h3 => ih u hu (good_mem gt hu) st h1 h2 h3) t.l.length 0 [] []
        have eH : ofH oi st t.k t.n t.s (encTs []) (encTs []) = st ++ [.cells true 1 0 0 false [.hp oi 0 9 0 0], .cells true 6 0 1 false [.agg [.int .i64 t.k, .int .i64 t.n, .str t.s, .nils, .int .i64 0, .int .i64 0]], .cells true 1 0 0 false [.nils]] := rfl
        simp only [eH, List.drop_zero, List.nil_append] at L
        generalize hR : ofR m lv md oi st _ = R
        have hRp : R.1.pureT = true := by
          rw [← hR]
          cases hq : ofTs m locs t.l with
          | error x => obtain ⟨x1, x2⟩ := x; simp [ofR]
          | ok x =>
            obtain ⟨ts, ss⟩ := x
            simp only
            split <;> simp [ofR]
        refine callD_cutE (fn := F93) rfl rfl (by simp) hRp ?_
        rw [ev_eq 93 F93 rfl, F93]
        simp [at_app, at_app0, ← encT_eq, h13, h15, kHs, splice, List.append_assoc]
        refine (L _ _ rfl (by omega) rfl rfl ?_ ?_ ?_ ?_ ?_ ?_ ?_ ?_ ?_ ?_ ?_ ?_ ?_ ?_ ?_).use (fun r => Ends st R.1 R.2 (kfin _ (kseq _ (kblock 0 r)))) ?_
        iterate 15 simp
        rintro e s' b' st' ⟨q4, p4, q5, p5, h⟩
        cases hq : ofTs m locs t.l with
        | error x =>
          obtain ⟨a, e'⟩ := x
          rw [hq] at h hR
          obtain ⟨rfl, tys', ss', rfl⟩ := h
          simp only [ofR] at hR
          subst hR
          obtain ⟨k1, k2⟩ := errP (m := m) (lv := lv) (md := md) (st3 := ofH oi (List.set st oi (tyO m lv a e' (md + 2))) t.k t.n t.s (encTs tys') (encTs ss')) hl hv a e'
            (by have := ofH_len (oi := oi) (List.set st oi (tyO m lv a e' (md + 2))) t.k t.n t.s (encTs tys') (encTs ss'); simpa using this)
            (fun i hi hi0 => by rw [ofH_lt _ _ _ _ _ _ (by simpa using hi), at_set _ _ _ _ hl, if_neg hi0]) (by rw [ofH_0 _ _ _ _ _ _ (by simpa using hl), at_set _ _ _ _ hl, if_pos rfl])
          simp [q4, p4, q5, p5, ← encT_0]
          exact Ends.mk (by simp) ⟨k1, k2⟩
        | ok x =>
          obtain ⟨ts, ss⟩ := x
          rw [hq] at h hR
          obtain ⟨rfl, rfl, q2, q3, p3, q6, p6, q8, q9⟩ := h
          obtain ⟨n1, n2⟩ := ofTs_len t.l ts ss hq
          have gts := ofTs_good gm gl t.l ts ss (fun u hu => good_mem gt hu) hq
          obtain ⟨om, m9, P, Lc, st', om', f1, f2, f3, f4, f5, f6, f7, f8⟩ := rulePart (lv := lv) (md := md) gm t (namedT m locs t).1 gt gd hs h17 h16 hl h0 ts ss n1 n2 gts
          have x2 : St.at (ofH oi st t.k t.n t.s (encTs ts) (encTs ss)) st.length = xO oi := by cases ts <;> exact at_app0 _ _
          have y0 : St.at st' oi = tyO m lv 0 0 md := by rw [f7 oi (by omega), ofH_0 _ _ _ _ _ _ hl]; exact h0
          have y2 : St.at st' st.length = xO oi := by rw [f7 _ (by omega)]; exact x2
          have ylt : ∀ i, i < st.length → St.at st' i = St.at st i := fun i hi => by rw [f7 i (by omega)]; exact ofH_lt _ _ _ _ _ _ hi
          have yl : oi < st'.length := by omega
          by_cases hz : (ruleT m t.k t.n t.s (namedT m locs t).1 ts).2.1 = 0
          · rw [hz] at f4
            simp only [if_pos hz, ofR] at hR
            subst hR
            have g1 : ∀ o, St.at (List.set st' (st.length + 1) o) (st.length + 1) = o := fun o => by rw [at_set _ _ _ _ f5, if_pos rfl]
            obtain ⟨stZ, z1, z2, z3⟩ := f8 (List.set st' (st.length + 1) (.cells true 6 0 (om' + 1) false [outD t.k (ruleT m t.k t.n t.s (namedT m locs t).1 ts).2.2 [] Lc])) (by simp) (fun i hi => by rw [at_set _ _ _ _ f5, if_neg hi])
            have kk := cutP (st := st) (st3 := stZ) (stF := st) (by rw [z2, List.length_set]; omega) rfl (fun i hi => by rw [z3 i hi, at_set _ _ _ _ f5, if_neg (by omega)]; exact ylt i hi) (fun _ _ => .inl rfl)
            simp only [outD] at z1 f6
            simp [q4, p4, q5, p5, q2, q3, p3, q6, p6, q8, q9, x2, f2, f3, f4, y2, f6, g1, ← encT_eq, kHs, splice]
            exact Ends.mk (by simp [z1, encT]) kk
          · simp only [if_neg hz, ofR] at hR
            subst hR
            have w14 := c152 y0 yl hv t (ruleT m t.k t.n t.s (namedT m locs t).1 ts).2.1
            obtain ⟨k1, k2⟩ := errP (m := m) (lv := lv) (md := md) (st3 := List.set st' oi (tyO m lv t.a (ruleT m t.k t.n t.s (namedT m locs t).1 ts).2.1 (md + 2))) hl hv t.a (ruleT m t.k t.n t.s (namedT m locs t).1 ts).2.1
              (by rw [List.length_set]; omega) (fun i hi hi0 => by rw [at_set _ _ _ _ yl, if_neg hi0]; exact ylt i hi) (by rw [at_set _ _ _ _ yl, if_pos rfl])
            simp [q4, p4, q5, p5, q2, q3, p3, q6, p6, q8, q9, x2, f2, f3, f4, y2, ← encT_eq, hz, w14, kHs, splice]
            exact Ends.mk (by simp; rw [encT_0]; rfl) ⟨k1, k2⟩


/-- What 'Of' tells. -/
def tells (m : Tm) (locs : List Tm) (t : Tm) : D :=
  match ofT m locs t with
  | .ok (a, s) => .tup [encT a, encT s, .int .i64 0, .int .i64 0]
  | .error (a, e) => .tup [encT T0, encT T0, .int .i64 a, .int .i64 e]

theorem c62 (gm : good m) (gl : ∀ t, t ∈ locs → good t) (hll : locs.length ≤ 1000000) (t : Tm) (gt : good t) (st : St) (hL : LocR st lv locs) : callD T (ev T) 62 [encT m, lv, encT t] st = some (tells m locs t, st) := by
  have h12 := c93 (lv := lv) (md := 0) (oi := st.length) gm gl hll hL.old t gt (st ++ [tyO m lv 0 0 0]) (by simp) (at_app0 _ _) (hL.app _)
  have hok : lv.okv = true := by rcases hL with ⟨fl, rfl⟩ | ⟨id, ver, mo, fr, full, more, rfl, ho, hid⟩ <;> simp
  have hce : lv.cells = [lv] := by
    rcases hL with ⟨fl, rfl⟩ | ⟨id, ver, mo, fr, full, more, rfl, ho, hid⟩
    · simp
    · rfl
  have hag : ∀ l, agree st (st ++ l) = true := fun l => by
    clear h12 hL
    induction st with
    | nil => rfl
    | cons o st ih => simp [agree, ih]
  have hset : ∀ o, List.set (st ++ [tyO m lv 0 0 0]) st.length o = st ++ [o] := fun o => set_app0 _ _ _
  simp only [tyO] at h12
  unfold tells
  cases ho : ofT m locs t with
  | ok x =>
    obtain ⟨a, s⟩ := x
    rw [ho] at h12
    simp only [ofR] at h12
    refine callD_pop (fn := F62) (r := .tup [encT a, encT s, .int .i64 0, .int .i64 0]) (st1 := st ++ [tyO m lv 0 0 0]) (st2 := st ++ [tyO m lv 0 0 0]) rfl rfl (by simp [hok]) ?_ (by simp) (by simp) (hag _)
    rw [ev_eq 62 F62 rfl, F62]
    simp [tyO, ← encT_eq t, h12, at_app0, hok, hce]
    simp [encT_eq]
  | error x =>
    obtain ⟨a, e⟩ := x
    rw [ho] at h12
    have he := ofT_err _ _ _ ho
    simp only [ofR, ← tyO.eq_1, hset] at h12
    simp only [tyO] at h12
    refine callD_pop (fn := F62) (r := .tup [encT T0, encT T0, .int .i64 a, .int .i64 e]) (st1 := st ++ [tyO m lv a e 2]) (st2 := st ++ [tyO m lv a e 2]) rfl rfl (by simp [hok]) ?_ (by simp) (by simp) (hag _)
    rw [ev_eq 62 F62 rfl, F62]
    simp [tyO, ← encT_eq t, h12, he, at_app0, hok, hce]
    simp [encT_0]

end Go.Nt.Ty

/-
  THE LAWS OF LAYER 15, plain and walked.
-/
set_option linter.unusedSimpArgs false
namespace Go.Nt.Ty
open Go Go.Nt

variable {m : Tm} {locs : List Tm}

theorem field_again {n : Int} {s : List UInt8} {a : Tm} (h : (fieldT m n s a).2.2 = true) : fieldT m (fieldT m n s a).1 [] a = fieldT m n s a := by
  unfold fieldT at h ⊢
  split at h
  · next hd =>
    rw [if_pos hd]
    split at h
    · next hs =>
      rw [if_pos hs]
      simp [hd]
    · next hs =>
      rw [if_neg hs]
      obtain ⟨g, _, hp⟩ := declT_rec hd
      split at h
      · next i f hb =>
        simp only [hb]
        simp only [hd, if_true]
        rcases byName_up s (declT m a.n 30).1.l 0 with q | ⟨j, f', q1, _, q3, p, q4, q5, q6⟩
        · rw [q] at hb; cases hb
        · rw [q1] at hb
          simp only [Option.some.injEq, Prod.mk.injEq] at hb
          obtain ⟨rfl, rfl⟩ := hb
          have e1 : (a.n * 64 + (j : Int)).tdiv 64 = a.n := by
            rw [Int.tdiv_eq_ediv_of_nonneg (by omega)]; omega
          have e2 : (a.n * 64 + (j : Int)).tmod 64 = j := by
            rw [Int.tmod_eq_emod_of_nonneg (by omega)]; omega
          have hdec : (declT m a.n 30).1 = m.l[a.n.toNat]'(by omega) ∧ (m.l[a.n.toNat]'(by omega)).k = 30 := by
            unfold declT at hd ⊢
            rw [dif_pos g] at hd ⊢
            split at hd
            · next hk =>
              rw [if_pos hk, if_neg (by omega), if_neg (by omega), if_neg (by omega)] at *
              split at hd
              · cases hd
              · next ha => rw [if_neg ha]; exact ⟨rfl, hk⟩
            · cases hd
          rw [hdec.1] at q4 hp
          rw [Nat.sub_zero] at q4
          obtain ⟨pk, x, px⟩ := hp p (List.mem_of_getElem? q4)
          have et : typField m (a.n * 64 + (j : Int)) = (x, true) := by
            unfold typField
            rw [dif_pos (by rw [e1]; omega)]
            simp only [e1, e2, Int.toNat_natCast, q4]
            rw [if_pos ⟨hdec.2, pk, by rw [px]; rfl⟩, px] <;> rfl
          rw [et, q6, px]
          simp [e1]
      · cases h
  · cases h

theorem rule_again {k n : Int} {s : List UInt8} {d : Tm} {p : List Tm} (h : (ruleT m k n s d p).2.1 = 0) : ruleT m k (ruleT m k n s d p).2.2 [] d p = ruleT m k n s d p := by
  by_cases h13 : k = 13
  · subst h13
    unfold ruleT at h ⊢
    simp only [show ¬ ((13 : Int) = 5 ∨ (13 : Int) = 18 ∨ (13 : Int) = 6 ∨ (13 : Int) = 7 ∨ (13 : Int) = 8 ∨ (13 : Int) = 9) by decide, show ¬ (13 : Int) = 10 by decide, show ¬ (13 : Int) = 11 by decide, show ¬ (13 : Int) = 12 by decide, if_false, if_true] at h ⊢
    match p with
    | [] => rfl
    | a :: b :: l => rfl
    | [a] =>
      simp only at h ⊢
      split at h
      · next hc =>
        rw [if_pos hc]
        split at h
        · next hf =>
          rw [if_pos hf, if_pos hc]
          rw [field_again hf, if_pos hf]
        · cases h
      · cases h
  · rw [ruleT_n h13]
    unfold ruleT
    rw [if_neg (c := k = 13) h13, if_neg (c := k = 13) h13]

theorem shaped_again {t : Tm} (n : Int) (ss : List Tm) (hl : ss.length = t.l.length) (hn : t.k ≠ 13 → n = t.n) : shapedT (.mk t.k n [] .nil ss 0 0) = shapedT t := by
  by_cases h13 : t.k = 13
  · simp [shapedT, h13, hl]
  · rw [hn h13]; unfold shapedT; simp only [k_mk, n_mk, l_mk, hl] <;> rfl

theorem named_again {t : Tm} (n : Int) (ss : List Tm) (hn : t.k ≠ 13 → n = t.n) : namedT m locs (.mk t.k n [] .nil ss 0 0) = namedT m locs t := by
  by_cases h13 : t.k = 13
  · simp [namedT, h13]
  · rw [hn h13]; unfold namedT; simp only [k_mk, n_mk] <;> rfl

/-- What settles is settled. -/
theorem settle (t : Tm) : ∀ a s, ofT m locs t = .ok (a, s) → ofT m locs s = .ok (a, s) := by
  induction t using Tm.ind with
  | h t ih =>
    intro a s ho
    have key : ∀ l : List Tm, (∀ u, u ∈ l → ∀ a s, ofT m locs u = .ok (a, s) → ofT m locs s = .ok (a, s)) → ∀ ts ss, ofTs m locs l = .ok (ts, ss) → ofTs m locs ss = .ok (ts, ss) := by
      intro l
      induction l with
      | nil =>
        intro _ ts ss h
        simp only [ofTs, Except.ok.injEq, Prod.mk.injEq] at h
        rw [← h.1, ← h.2] <;> rfl
      | cons u l ihl =>
        intro hu ts ss h
        rw [ofTs] at h
        cases hq : ofT m locs u with
        | error x => rw [hq] at h; cases h
        | ok x =>
          obtain ⟨a, s⟩ := x
          rw [hq] at h
          cases hr : ofTs m locs l with
          | error y => rw [hr] at h; cases h
          | ok y =>
            obtain ⟨b, c⟩ := y
            rw [hr] at h
            simp only [Except.ok.injEq, Prod.mk.injEq] at h
            rw [← h.1, ← h.2, ofTs, hu u (by simp) a s hq]
            simp only
            rw [ihl (fun v hv => hu v (by simp [hv])) b c hr]
    rw [ofT_eq] at ho
    split at ho
    · cases ho
    · next hs =>
      split at ho
      · cases ho
      · next hn =>
        cases hq : ofTs m locs t.l with
        | error x => rw [hq] at ho; cases ho
        | ok x =>
          obtain ⟨ts, ss⟩ := x
          rw [hq] at ho
          simp only at ho
          split at ho
          · next he =>
            simp only [Except.ok.injEq, Prod.mk.injEq] at ho
            have hlen := (ofTs_len t.l ts ss hq).2
            have hss := key t.l ih ts ss hq
            rw [← ho.1, ← ho.2]
            have hnn : t.k ≠ 13 → (ruleT m t.k t.n t.s (namedT m locs t).1 ts).2.2 = t.n := fun h => ruleT_n h
            rw [ofT, shaped_again _ _ hlen hnn, named_again _ _ hnn, if_neg hs, if_neg hn, hss]
            simp only
            rw [rule_again he, if_pos he]
          · cases ho

theorem local_more {ahead : Tm} {n : Int} {d : Tm} (h : localT locs n = some d) : localT (ahead :: locs) n = some d := by
  unfold localT at h ⊢
  split at h
  · next g =>
    rw [if_pos ⟨g.1, by simp only [List.length_cons]; omega⟩]
    simp only [List.length_cons]
    rw [show locs.length + 1 - 1 - n.toNat = (locs.length - 1 - n.toNat) + 1 by omega, List.getElem?_cons_succ]
    exact h
  · cases h

theorem named_more {ahead t : Tm} (h : (namedT m locs t).2 = true) : namedT m (ahead :: locs) t = namedT m locs t := by
  unfold namedT at h ⊢
  split
  · next h7 =>
    rw [if_pos h7] at h
    split at h
    · next d hd => rw [local_more hd]
    · cases h
  · rfl

/-- Locals ahead of all do not matter. -/
theorem more (ahead t : Tm) : ∀ a s, ofT m locs t = .ok (a, s) → ofT m (ahead :: locs) t = .ok (a, s) := by
  induction t using Tm.ind with
  | h t ih =>
    intro a s ho
    have key : ∀ l : List Tm, (∀ u, u ∈ l → ∀ a s, ofT m locs u = .ok (a, s) → ofT m (ahead :: locs) u = .ok (a, s)) → ∀ ts ss, ofTs m locs l = .ok (ts, ss) → ofTs m (ahead :: locs) l = .ok (ts, ss) := by
      intro l
      induction l with
      | nil => intro _ ts ss h; simpa [ofTs] using h
      | cons u l ihl =>
        intro hu ts ss h
        rw [ofTs] at h ⊢
        cases hq : ofT m locs u with
        | error x => rw [hq] at h; cases h
        | ok x =>
          obtain ⟨a, s⟩ := x
          rw [hq] at h
          rw [hu u (by simp) a s hq]
          cases hr : ofTs m locs l with
          | error y => rw [hr] at h; cases h
          | ok y =>
            obtain ⟨b, c⟩ := y
            rw [hr] at h
            simp only
            rw [ihl (fun v hv => hu v (by simp [hv])) b c hr]
            exact h
    rw [ofT_eq] at ho ⊢
    split at ho
    · cases ho
    · next hs =>
      rw [if_neg hs]
      split at ho
      · cases ho
      · next hn =>
        have hn' : (namedT m locs t).2 = true := by simpa using hn
        rw [named_more hn', if_neg hn]
        cases hq : ofTs m locs t.l with
        | error x => rw [hq] at ho; cases ho
        | ok x =>
          obtain ⟨ts, ss⟩ := x
          rw [hq] at ho
          rw [key t.l ih ts ss hq]
          exact ho


end Go.Nt.Ty
