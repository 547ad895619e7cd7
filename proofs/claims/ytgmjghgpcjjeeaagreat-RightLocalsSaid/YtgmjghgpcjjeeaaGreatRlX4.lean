/-
  RIGHT MODULES, walked (6): locals come and are forgotten; what is assigned.
  No condition.
-/
import Derived.Test.YtgmjghgpcjjeeaaGreatRlWj
import Derived.Test.YtgmjghgpcjjeeaaGreatRlX1
import Derived.Test.YtgmjghgpcjjeeaaGreatTzLaw
import Derived.Test.YtgmjghgpcjjeeaaGreatRlWd
set_option linter.unusedSimpArgs false
namespace Go.Nt.Ty
open Go Go.Nt

variable {m ret : Tm} {st : St} {lv : D} {locs : List Tm} {at0 e : Int}

/-- The locals' row, one longer. -/
theorem Lk.push (K : Lk m ret st lv locs at0 e) (hb : locs.length ≤ 1000000) :
    ∃ (id ver md N : Nat) (base : Tm → St), 0 < id ∧ id < N ∧ st.length ≤ N ∧ (id = lidOf lv ∨ st.length ≤ id) ∧ ver ≤ locs.length + 1 ∧ (∀ i, i < N → i ≠ id → i < st.length) ∧
      ∀ z, appendD st lv [encT z] 6 = some (.rs id ver 6 0 (locs.length + 1) false, base z) ∧ (base z).length = N ∧ St.at (base z) id = .cells false 6 ver md false (encTs (locs ++ [z])) ∧ ∀ i, i < st.length → i ≠ id → St.at (base z) i = St.at st i := by
  have hl := K.hl
  rcases K.hw with ⟨rfl, rfl⟩ | ⟨id, ver, md, full, more, rfl, h1, h2, h3, h4, h5, h6⟩
  · refine ⟨st.length, 0, 0, st.length + 1, fun z => st ++ [.cells false 6 0 0 false [encT z]], hl, by omega, by omega, .inr (Nat.le_refl _), by omega, fun i _ _ => by omega, fun z => ⟨by simp [appendD, most], by simp, by simp [at_last], fun i hi _ => at_lt _ _ hi⟩⟩
  · have hm : (locs ++ more).length ≤ most := by unfold most; omega
    have hm2 : locs.length + more.length ≤ most := by simpa using hm
    have hm3 : locs.length + more.length ≤ 134217728 := hm2
    cases full with
    | true =>
      refine ⟨st.length, 0, 0, st.length + 1, fun z => st ++ [.cells false 6 0 0 false (encTs locs ++ [encT z])], hl, by omega, by omega, .inr (Nat.le_refl _), by omega, fun i _ _ => by omega, fun z => ⟨?_, by simp, by simp [at_last, encTs_append], fun i hi _ => at_lt _ _ hi⟩⟩
      have e2 : List.take locs.length (encTs (locs ++ more)) = encTs locs := by rw [encTs_append, List.take_append_of_le_length (by simp), List.take_of_length_le (by simp)]
      simp [appendD, h1, hm3, most, e2]
    | false =>
      have := h4 rfl
      subst this
      rw [List.append_nil] at h1 h5
      have ht : ver + 1 < tagB := by unfold tagB; omega
      have hm4 : locs.length ≤ 134217728 := by omega
      refine ⟨id, ver + 1, md + 1, st.length, fun z => List.set st id (.cells false 6 (ver + 1) (md + 1) false (encTs locs ++ [encT z])), h2, h3, Nat.le_refl _, .inl rfl, by omega, fun i hi _ => hi, fun z => ⟨?_, by simp, by rw [at_set _ _ _ _ h3, if_pos rfl, encTs_append]; simp, fun i hi hn => by rw [at_set _ _ _ _ h3, if_neg hn]⟩⟩
      have e2 : List.take locs.length (encTs locs) = encTs locs := List.take_of_length_le (by simp)
      simp [appendD, h1, hm4, most, e2, ht]

theorem Lk.pushed (K : Lk m ret st lv locs at0 e) (hb : locs.length ≤ 1000000) {id ver N : Nat} (h0 : 0 < id) (hN : id < N) (hle : st.length ≤ N) (hid : id = lidOf lv ∨ st.length ≤ id) (hv : ver ≤ locs.length + 1) {st3 : St} {x : Tm} {mo mi : Nat}
    (hl3 : st3.length = N) (a0 : St.at st3 0 = lkO m (.rs id ver 6 0 (locs.length + 1) false) ret at0 e mo) (a1 : St.at st3 id = .cells false 6 ver mi false (encTs (locs ++ [x]))) (a2 : ∀ i, i < st.length → i ≠ 0 → i ≠ id → St.at st3 i = St.at st i) :
    Lk m ret st3 (.rs id ver 6 0 (locs.length + 1) false) (locs ++ [x]) at0 e ∧ Went st lv st3 (.rs id ver 6 0 (locs.length + 1) false) := by
  have hl := K.hl
  refine ⟨⟨by omega, ⟨mo, a0⟩, .inr ⟨id, ver, mi, false, [], by simp, by rw [List.append_nil]; exact a1, h0, by omega, fun _ => rfl, by simp; omega, by simp; omega⟩⟩, by omega, ?_, fun i hi hi0 hil => ?_⟩
  · show id = lidOf lv ∨ st.length ≤ id ∨ id = 0
    omega
  · refine a2 i hi hi0 ?_
    rcases hid with h | h
    · rw [h]; exact hil
    · omega

/-- The locals that came are forgotten. -/
theorem Lk.back {st' : St} {lv' : D} {l1 : List Tm} {a1 e1 : Int} (K : Lk m ret st' lv' l1 a1 e1) (k : Nat) (hk : k ≤ l1.length) (hb : l1.length ≤ 2000000) :
    ∃ lv2, (∀ q, q = (k : Int) → sliceD lv' none (some (.int .i64 q)) (some (.int .i64 q)) = some lv2) ∧ lv2.okv = true ∧ lv2.cells = [lv2] ∧ lv2.fits none = true ∧ ∀ md, Lk m ret (List.set st' 0 (lkO m lv2 ret a1 e1 md)) lv2 (l1.take k) a1 e1 ∧ Went st' lv' (List.set st' 0 (lkO m lv2 ret a1 e1 md)) lv2 := by
  obtain ⟨hl, ⟨md0, h0⟩, hw⟩ := K
  have wn : ∀ lv2 md, lidOf lv2 = lidOf lv' → Went st' lv' (List.set st' 0 (lkO m lv2 ret a1 e1 md)) lv2 := fun lv2 md h => ⟨by simp, .inl h, fun i hi hi0 _ => by rw [at_set _ _ _ _ hl, if_neg hi0]⟩
  rcases hw with ⟨rfl, rfl⟩ | ⟨id, ver, md, full, more, rfl, h1, h2, h3, h4, h5, h6⟩
  · have : k = 0 := by simpa using hk
    subst this
    exact ⟨.nils, by rintro q rfl; simp [sliceD, boundD], rfl, rfl, rfl, fun md => ⟨⟨by simpa using hl, ⟨md, by rw [at_set _ _ _ _ hl, if_pos rfl]⟩, .inl ⟨rfl, rfl⟩⟩, wn _ _ rfl⟩⟩
  · have hk' : (k : Int) ≤ l1.length := by omega
    refine ⟨.rs id ver 6 0 k true, by rintro q rfl; simp [sliceD, boundD, hk'], rfl, rfl, rfl, fun md' => ⟨⟨by simpa using hl, ⟨md', by rw [at_set _ _ _ _ hl, if_pos rfl]⟩, .inr ⟨id, ver, md, true, l1.drop k ++ more, ?_, ?_, h2, by simpa using h3, (fun h => by cases h), ?_, ?_⟩⟩, wn _ _ rfl⟩⟩
    · rw [List.length_take, Nat.min_eq_left hk]
    · rw [at_set _ _ _ _ hl, if_neg (by omega), h1, ← List.append_assoc, List.take_append_drop]
    · rw [← List.append_assoc, List.take_append_drop]; exact h5
    · rw [← List.append_assoc, List.take_append_drop]; exact h6

/-- An expression, whatever was wrong ahead. -/
theorem c232u (gm : good m) (gl : e = 0 → Good locs) (hll : locs.length ≤ 1000000) (K : Lk m ret st lv locs at0 e) (t : Tm) (gt : good t) :
    ∃ a s st' at1 e1, callD T (ev T) 232 [.hp 0 0 15 0 0, encT t] st = some (.tup [encT a, encT s], st') ∧ Went st lv st' lv ∧ Lk m ret st' lv locs at1 e1 ∧ good a ∧
      (e ≠ 0 → at1 = at0 ∧ e1 = e) ∧ (e = 0 → match ofT m locs t with
        | .ok (a', s') => a' = a ∧ s' = s ∧ at1 = at0 ∧ e1 = 0
        | .error (x, y) => at1 = x ∧ e1 = y ∧ y ≠ 0) := by
  obtain ⟨a, s, st', q, W, c1, c2⟩ := c232 gm gl hll K t gt
  have g0 : good T0 := good_K 0 (by simp [in64])
  by_cases he : e = 0
  · have c2 := c2 he
    cases ho : ofT m locs t with
    | ok v =>
      obtain ⟨v1, v2⟩ := v
      rw [ho] at c2
      obtain ⟨rfl, rfl, rfl⟩ := c2
      exact ⟨v1, v2, st', at0, e, q, W, K, (ofT_good gm (gl he) t gt _ _ ho).1, fun _ => ⟨rfl, rfl⟩, fun _ => ⟨rfl, rfl, rfl, he⟩⟩
    | error v =>
      obtain ⟨v1, v2⟩ := v
      rw [ho] at c2
      obtain ⟨rfl, rfl, hy, K1⟩ := c2
      exact ⟨T0, T0, st', v1, v2, q, W, K1, g0, fun h => absurd he h, fun _ => ⟨rfl, rfl, hy⟩⟩
  · obtain ⟨rfl, rfl, rfl⟩ := c1 he
    exact ⟨T0, T0, st', at0, e, q, W, K, g0, fun _ => ⟨rfl, rfl⟩, fun h => absurd h he⟩

/-- The first error, if there is reason for one. -/
theorem fail_if (K : Lk m ret st lv locs at0 e) (b : Bool) (t : Tm) (x : Int) : ∃ st', (b = true → callD T (ev T) 118 [.hp 0 0 15 0 0, encT t, .int .i64 x] st = some (.tup [], st')) ∧ (b = false → st' = st) ∧ Went st lv st' lv ∧
    Lk m ret st' lv locs (if b = true ∧ e = 0 then t.a else at0) (if b = true ∧ e = 0 then x else e) := by
  cases b with
  | false => exact ⟨st, (fun h => by cases h), fun _ => rfl, .refl _ _, by simpa using K⟩
  | true =>
    obtain ⟨st', q, K', W⟩ := c118 K t x
    exact ⟨st', fun _ => q, (fun h => by cases h), W, by simpa using K'⟩

/-- What is assigned. -/
theorem c233 (gm : good m) (gl : Good locs) (hll : locs.length ≤ 1000000) (K : Lk m ret st lv locs at0 0) (t : Tm) (gt : good t) (x y : Tm) (hx : t.l = [x, y]) :
    ∃ rs st', callD T (ev T) 233 [.hp 0 0 15 0 0, encT t] st = some (slE 6 .full (encTs rs), st') ∧ Went st lv st' lv ∧ match leafS m ret locs 22 t.a t.l with
      | .ok (ss, _) => ss = rs ∧ Lk m ret st' lv locs at0 0
      | .error (a, b) => b ≠ 0 ∧ Lk m ret st' lv locs a b := by
  have gx : good x := good_mem gt (by rw [hx]; simp)
  have gy : good y := good_mem gt (by rw [hx]; simp)
  have qr := fun st => c274 x gx st
  obtain ⟨a, s, st1, at1, e1, q1, W1, K1, ga, _, d1⟩ := c232u gm (fun _ => gl) hll K x gx
  obtain ⟨b, u, st2, at2, e2, q2, W2, K2, gb, d2', d2⟩ := c232u gm (fun _ => gl) hll K1 y gy
  obtain ⟨st3, q3, q3', W3, K3⟩ := fail_if K2 (decide ((rootT x).k ≠ 7 ∧ (rootT x).k ≠ 9)) x 12
  obtain ⟨st4, q4, q4', W4, K4⟩ := fail_if K3 (!sameT a b) t 10
  have qs := fun st => c235 a (good_ok _ ga) b st
  refine ⟨[s, u], st4, ?_, ((W1.trans W2).trans W3).trans W4, ?_⟩
  · have go : Ret (ev T 233 [.hp 0 0 15 0 0, encT t] st) fun r st' => r = slE 6 .full (encTs [s, u]) ∧ st' = st4 := by
      refine Ret_wp (fn := F233) rfl ?_
      have ef : ∀ c d : D, slE 6 .full [c, d] = .sl 6 true [c, d] := fun _ _ => rfl
      rw [F233]
      cases hs : sameT a b with
      | true =>
        rw [hs] at q4' qs
        have e4 := q4' rfl
        subst e4
        by_cases h7 : (rootT x).k = 7
        · rw [h7] at q3'
          have e3 := q3' (by simp)
          subst e3
          simp [hx, ← encT_eq, q1, q2, qr, h7, qs, ef]
        · by_cases h9 : (rootT x).k = 9
          · rw [h9] at q3'
            have e3 := q3' (by simp)
            subst e3
            simp [hx, ← encT_eq, q1, q2, qr, h9, qs, ef]
          · have q3 := q3 (by simp [h7, h9])
            simp [hx, ← encT_eq, q1, q2, qr, h7, h9, q3, qs, ef]
      | false =>
        rw [hs] at q4 qs
        have q4 := q4 rfl
        rw [encT_eq t, hx] at q4
        simp only [encTs_cons, encTs_nil] at q4
        by_cases h7 : (rootT x).k = 7
        · rw [h7] at q3'
          have e3 := q3' (by simp)
          subst e3
          simp [hx, ← encT_eq, q1, q2, qr, h7, qs, q4, ef]
        · by_cases h9 : (rootT x).k = 9
          · rw [h9] at q3'
            have e3 := q3' (by simp)
            subst e3
            simp [hx, ← encT_eq, q1, q2, qr, h9, qs, q4, ef]
          · have q3 := q3 (by simp [h7, h9])
            simp [hx, ← encT_eq, q1, q2, qr, h7, h9, q3, qs, q4, ef]
    obtain ⟨r, st', h1, rfl, rfl⟩ := go
    exact callD_freE (fn := F233) rfl rfl (by simp) h1 (by simp) (by simp)
  · rw [hx, leafS]
    have d1 := d1 rfl
    cases ho : ofT m locs x with
    | error v =>
      obtain ⟨v1, v2⟩ := v
      rw [ho] at d1
      obtain ⟨rfl, rfl, hy⟩ := d1
      obtain ⟨rfl, rfl⟩ := d2' hy
      simp only [hy, and_false, if_false] at K4 K3
      exact ⟨hy, K4⟩
    | ok v =>
      obtain ⟨v1, v2⟩ := v
      rw [ho] at d1
      obtain ⟨rfl, rfl, rfl, rfl⟩ := d1
      have d2 := d2 rfl
      simp only
      cases hu : ofT m locs y with
      | error w =>
        obtain ⟨w1, w2⟩ := w
        rw [hu] at d2
        obtain ⟨rfl, rfl, hy⟩ := d2
        simp only [hy, and_false, if_false] at K4 K3
        exact ⟨hy, K4⟩
      | ok w =>
        obtain ⟨w1, w2⟩ := w
        rw [hu] at d2
        obtain ⟨rfl, rfl, rfl, rfl⟩ := d2
        simp only
        by_cases hr : (rootT x).k ≠ 7 ∧ (rootT x).k ≠ 9
        · rw [if_pos hr]
          simp [hr] at K4
          exact ⟨by decide, K4⟩
        · rw [if_neg hr]
          have hr' : decide ((rootT x).k ≠ 7 ∧ (rootT x).k ≠ 9) = false := decide_eq_false hr
          rw [hr'] at K4
          cases hs : sameT v1 w1 with
          | true =>
            rw [hs] at K4
            simp at K4
            simp only [if_true]
            exact ⟨trivial, K4⟩
          | false =>
            rw [hs] at K4
            simp at K4
            simp only [Bool.false_eq_true, if_false]
            exact ⟨by decide, K4⟩
end Go.Nt.Ty

/-
  RIGHT MODULES, walked: a local comes.
  No condition.
-/
set_option linter.unusedSimpArgs false
namespace Go.Nt.Ty
open Go Go.Nt

variable {m ret : Tm} {st : St} {lv : D} {locs : List Tm} {at0 e : Int}

/-- A local comes: what the two stores leave. -/
theorem Lk.let (K : Lk m ret st lv locs at0 e) (hb : locs.length ≤ 1000000) {md : Nat} (h0 : St.at st 0 = lkO m lv ret at0 e md) :
    ∃ (id ver pmd : Nat) (st1 : St), 0 < id ∧ appendD st lv [encT T0] 6 = some (.rs id ver 6 0 (locs.length + 1) false, st1) ∧ St.at st1 id = .cells false 6 ver pmd false (encTs (locs ++ [T0])) ∧
      (∀ o, St.at (List.set st1 id o) 0 = lkO m lv ret at0 e md) ∧ ∀ x : Tm, Lk m ret (List.set (List.set st1 id (.cells false 6 ver (pmd + 1) false (encTs (locs ++ [x])))) 0 (lkO m (.rs id ver 6 0 (locs.length + 1) false) ret at0 e (md + 1))) (.rs id ver 6 0 (locs.length + 1) false) (locs ++ [x]) at0 e ∧
        Went st lv (List.set (List.set st1 id (.cells false 6 ver (pmd + 1) false (encTs (locs ++ [x])))) 0 (lkO m (.rs id ver 6 0 (locs.length + 1) false) ret at0 e (md + 1))) (.rs id ver 6 0 (locs.length + 1) false) := by
  obtain ⟨id, ver, pmd, N, base, h1, h2, h3, h4, h5, h6, hz⟩ := K.push hb
  obtain ⟨z1, z2, z3, z4⟩ := hz T0
  have hl := K.hl
  have hi : id < (base T0).length := by omega
  have hs : ∀ o, 0 < (List.set (base T0) id o).length := fun o => by rw [List.length_set, z2]; omega
  refine ⟨id, ver, pmd, base T0, h1, z1, z3, fun o => by rw [at_set _ _ _ _ hi, if_neg (by omega), z4 0 hl (by omega)]; exact h0, fun x => ?_⟩
  refine K.pushed hb h1 h2 h3 h4 h5 (mo := md + 1) (mi := pmd + 1) (by simp [z2]) ?_ ?_ ?_
  · rw [at_set _ _ _ _ (hs _), if_pos rfl]
  · rw [at_set _ _ _ _ (hs _), if_neg (by omega), at_set _ _ _ _ hi, if_pos rfl]
  · intro i hi' h0' hid
    rw [at_set _ _ _ _ (hs _), if_neg h0', at_set _ _ _ _ hi, if_neg hid]
    exact z4 i hi' hid

theorem elem_set (l : List Tm) (x : Tm) : (encTs (l ++ [T0])).set l.length (encT x) = encTs (l ++ [x]) := by
  rw [encTs_append, encTs_append, List.set_append_right _ _ (by simp)]; simp
theorem elem_get (l : List Tm) (x : Tm) : (l ++ [x])[l.length]? = some x := by rw [List.getElem?_append_right (by omega)]; simp

end Go.Nt.Ty

/-
  RIGHT MODULES: the program's locals at a way, walked (1).
  No condition.
-/
set_option linter.unusedSimpArgs false
set_option maxRecDepth 20000
namespace Go.Nt.Ty
open Go Go.Nt

variable {m ret : Tm} {st : St} {lv : D} {locs : List Tm} {at0 e : Int}

theorem l71 (w : List Int) (hw : w.length ≤ 1000000) (fl : Fl) : ∀ (r i : Nat) (t : Tm) (s : List D) (bx : List (Nat × List D)) (st : St), r = w.length - i → i ≤ w.length → get s 8 = slE 1 fl (encW w) → get s 9 = .i w.length → get s 10 = .int .i64 i →
    get s 2 = .lp 2 1 0 → getB bx 2 = (1, clT t) → get s 4 = .lp 4 1 0 → getB bx 4 = (1, z6) →
    Stops (lp T L71_0 ⟨⟨s, bx⟩, st⟩) fun e s' b' _ =>
      if (atT t (w.drop i)).2 then e = .exit 0 ∧ getB b' 2 = (1, clT (atT t (w.drop i)).1) ∧ getB b' 4 = (1, z6) else e = .ret ∧ get s' 5 = .bool false ∧ getB b' 4 = (1, z6) := by
  intro r
  induction r with
  | zero =>
    intro i t s bx st hr hi h8 h9 h10 h2 b2 h4 b4
    have e : i = w.length := by omega
    subst e
    refine Stops_wp L71_0.eq_1 ?_
    rw [List.drop_length, atT]
    simp [h8, h9, h10, h2, b2, h4, b4]
  | succ r ihr =>
    intro i t s bx st hr hi h8 h9 h10 h2 b2 h4 b4
    have hlt : i < w.length := by omega
    have hw : IntKind.wrap .i64 ((i : Int) + 1) = ((i + 1 : Nat) : Int) := by rw [wrap64] <;> omega
    rw [List.drop_eq_getElem_cons hlt, atT]
    refine Stops_wp L71_0.eq_1 ?_
    by_cases g0 : w[i] < 0
    · have g : ¬ (0 ≤ w[i] ∧ w[i] < t.l.length) := by omega
      rw [dif_neg g]
      simp [h8, h9, h10, h2, b2, h4, b4, hlt, g0, splice, z6, fillD, -Int.natCast_add]
    · by_cases g1 : w[i] < t.l.length
      · have g : 0 ≤ w[i] ∧ w[i] < t.l.length := by omega
        have g2 : w[i].toNat < t.l.length := by omega
        have g3 : ¬ (t.l.length : Int) ≤ w[i] := by omega
        have nx := fun s' bx' => ihr (i + 1) (t.l[w[i].toNat]) s' bx' st (by omega) (by omega)
        rw [dif_pos g]
        generalize hR : atT (t.l[w[i].toNat]) (w.drop (i + 1)) = R at *
        simp [h8, h9, h10, h2, b2, h4, b4, hlt, g0, g2, g3, hw, splice, -Int.natCast_add]
        refine nx _ _ ?_ ?_ ?_ ?_ ?_ ?_ ?_
        iterate 7 simp [h8, h9, h2, h4, b4]
      · have g : ¬ (0 ≤ w[i] ∧ w[i] < t.l.length) := by omega
        have g3 : (t.l.length : Int) ≤ w[i] := by omega
        rw [dif_neg g]
        simp [h8, h9, h10, h2, b2, h4, b4, hlt, g0, g3, splice, z6, fillD, -Int.natCast_add]

theorem at_T0 : ∀ (w : List Int) (t : Tm), (atT t w).2 = false → (atT t w).1 = T0
  | [], t, h => by rw [atT] at h; cases h
  | i :: w, t, h => by
    rw [atT] at h ⊢
    split
    · next g => rw [dif_pos g] at h; exact at_T0 w _ h
    · rfl

theorem c71 (w : List Int) (hw : w.length ≤ 1000000) (fl : Fl) (t : Tm) (st : St) : callD T (ev T) 71 [encT t, slE 1 fl (encW w)] st = some (.tup [encT (atT t w).1, .bool (atT t w).2], st) := by
  refine callD_pureR (fn := F71) rfl rfl (by simp) (by simp) ?_
  refine Ret_wp (fn := F71) rfl ?_
  rw [F71]
  have lo := fun s bx st => l71 w hw fl w.length 0 t s bx st (by omega) (by omega)
  simp only [List.drop_zero] at lo
  have h0 := at_T0 w t
  generalize atT t w = R at *
  obtain ⟨a, b⟩ := R
  simp
  refine WL.useB L71_0_p L71_0_w (WB := L71_0.wrB) rfl (lo _ _ _ ?_ ?_ ?_ ?_ ?_ ?_ ?_) ?_
  iterate 7 simp [z6, fillD]
  rintro e s' b' st' h hf hbx
  have e2 := hf 2 rfl
  have e4 := hf 4 rfl
  simp at e2 e4
  cases b with
  | true =>
    simp at h
    obtain ⟨rfl, b2, b4⟩ := h
    simp [e2, e4, b2, b4, z6, splice, ← encT_eq]
  | false =>
    simp at h
    obtain ⟨rfl, h5, b4⟩ := h
    have h0 := h0 rfl
    simp only at h0
    subst h0
    simp [e2, e4, h5, b4, z6, encT_0]

/-- The type of an expression, by the program. -/
def tyT (m : Tm) (locs : List Tm) (t : Tm) : Tm := match ofT m locs t with | .ok (a, _) => a | .error _ => T0
/-- The locals behind a statement, by the program. -/
def bringT (m : Tm) (locs : List Tm) (t : Tm) : List Tm :=
  if t.l = [] then locs else if t.k = 20 then locs ++ [tyT m locs (t.l.headD T0)] else if t.k = 21 then locs ++ [t.l.headD T0] else locs

theorem bringT_good (gm : good m) (G : Good locs) (t : Tm) (gt : good t) : Good (bringT m locs t) ∧ (bringT m locs t).length ≤ locs.length + 1 := by
  unfold bringT
  have one : ∀ x, good x → Good (locs ++ [x]) := fun x gx u hu => by
    rcases List.mem_append.1 hu with q | q
    · exact G u q
    · rw [List.mem_singleton] at q; subst q; exact gx
  have gh : good (t.l.headD T0) := good_head fun u hu => good_mem gt hu
  split
  · exact ⟨G, by omega⟩
  split
  · refine ⟨one _ ?_, by simp⟩
    unfold tyT
    split
    · next e => exact (ofT_good gm G _ gh _ _ e).1
    · exact good_0
  split
  · exact ⟨one _ gh, by simp⟩
  · exact ⟨G, by omega⟩


theorem c73 (gm : good m) (t : Tm) (gt : good t) (K : Lk m ret st lv locs at0 e) (G : Good locs) (hll : locs.length ≤ 1000000) :
    ∃ st' lv', callD T (ev T) 73 [.hp 0 0 15 0 0, encT t] st = some (.tup [], st') ∧ Went st lv st' lv' ∧ Lk m ret st' lv' (bringT m locs t) at0 e := by
  obtain ⟨md, k0⟩ := K.h0
  obtain ⟨x1, x2, x3, x4⟩ := K.hw.facts
  have stay : (t.l = [] ∨ (t.k ≠ 20 ∧ t.k ≠ 21)) → ∃ st' lv', callD T (ev T) 73 [.hp 0 0 15 0 0, encT t] st = some (.tup [], st') ∧ Went st lv st' lv' ∧ Lk m ret st' lv' locs at0 e := by
    intro h
    refine ⟨st, lv, ?_, .refl _ _, K⟩
    rw [callD_rawE (fn := F73) rfl rfl (by simp)]
    have go : Ret (ev T 73 [.hp 0 0 15 0 0, encT t] st) fun r st' => r = .tup [] ∧ st' = st := by
      refine Ret_wp (fn := F73) rfl ?_
      rw [F73]
      rcases h with h | ⟨h1, h2⟩
      · simp [h]
      · cases hl : t.l with
        | nil => simp [hl]
        | cons x l =>
          have hn : ¬ ((l.length : Int) + 1 = 0) := by omega
          simp [hl, hn, h1, h2]
    obtain ⟨r, st', h1, rfl, rfl⟩ := go
    exact h1
  unfold bringT
  by_cases hl : t.l = []
  · rw [if_pos hl]; exact stay (.inl hl)
  rw [if_neg hl]
  match hx : t.l, hl with
  | x :: l, _ =>
  have gx : good x := good_mem gt (by rw [hx]; simp)
  have hn : ¬ ((l.length : Int) + 1 = 0) := by omega
  simp only [List.headD_cons]
  by_cases h20 : t.k = 20
  · rw [if_pos h20]
    obtain ⟨id, ver, pmd, st2, i0, a1, a2, a3, fin⟩ := K.let hll k0
    obtain ⟨K2, W2⟩ := fin (tyT m locs x)
    rw [encT_0] at a1
    have es := elem_set locs (tyT m locs x)
    have eg := elem_get locs T0
    have q := c62 gm G hll x gx st K.hw.locR
    refine ⟨_, _, ?_, W2, K2⟩
    rw [callD_rawE (fn := F73) rfl rfl (by simp)]
    have go : Ret (ev T 73 [.hp 0 0 15 0 0, encT t] st) fun r st' => r = .tup [] ∧ st' = List.set (List.set st2 id (.cells false 6 ver (pmd + 1) false (encTs (locs ++ [tyT m locs x])))) 0 (lkO m (.rs id ver 6 0 (locs.length + 1) false) ret at0 e (md + 1)) := by
      refine Ret_wp (fn := F73) rfl ?_
      rw [F73]
      unfold tells at q
      unfold tyT at es ⊢
      cases ho : ofT m locs x with
      | ok v =>
        obtain ⟨v1, v2⟩ := v
        rw [ho] at q es
        simp only at q es ⊢
        simp [hx, hn, h20, k0, lkO, kHs, splice, fillD, x1, x2, x3, x4, ← encT_eq m, ← encT_eq x, q, ← encT_eq v1, a1, a2, a3, es, eg]
      | error v =>
        obtain ⟨v1, v2⟩ := v
        rw [ho] at q es
        simp only [encT_0] at q es ⊢
        simp [hx, hn, h20, k0, lkO, kHs, splice, fillD, x1, x2, x3, x4, ← encT_eq m, ← encT_eq x, q, a1, a2, a3, es, eg, encT_0]
    obtain ⟨r, st', h1, rfl, rfl⟩ := go
    exact h1
  rw [if_neg h20]
  by_cases h21 : t.k = 21
  · rw [if_pos h21]
    obtain ⟨id, ver, pmd, st2, i0, a1, a2, a3, fin⟩ := K.let hll k0
    obtain ⟨K2, W2⟩ := fin x
    rw [encT_0] at a1
    have es := elem_set locs x
    have eg := elem_get locs T0
    refine ⟨_, _, ?_, W2, K2⟩
    rw [callD_rawE (fn := F73) rfl rfl (by simp)]
    have go : Ret (ev T 73 [.hp 0 0 15 0 0, encT t] st) fun r st' => r = .tup [] ∧ st' = List.set (List.set st2 id (.cells false 6 ver (pmd + 1) false (encTs (locs ++ [x])))) 0 (lkO m (.rs id ver 6 0 (locs.length + 1) false) ret at0 e (md + 1)) := by
      refine Ret_wp (fn := F73) rfl ?_
      rw [F73]
      simp [hx, hn, h21, k0, lkO, kHs, splice, fillD, x1, x2, x3, x4, ← encT_eq x, a1, a2, a3, es, eg]
    obtain ⟨r, st', h1, rfl, rfl⟩ := go
    exact h1
  rw [if_neg h21]
  exact stay (.inr ⟨h20, h21⟩)
end Go.Nt.Ty

/-
  RIGHT MODULES: the program's locals at a way, walked (2).
  No condition.
-/
set_option linter.unusedSimpArgs false
set_option maxRecDepth 20000
namespace Go.Nt.Ty
open Go Go.Nt

variable {m ret : Tm} {st : St} {lv : D} {locs : List Tm} {at0 e : Int}

def stepT (m : Tm) (locs : List Tm) (t : Tm) (i : Int) : List Tm :=
  if t.k = 29 then (t.l.take i.toNat).foldl (bringT m) locs else if t.k = 25 ∧ i = 2 then locs ++ [tK 1] else locs
def belowT (m : Tm) : List Tm → Tm → List Int → List Tm
  | locs, _, [] => locs
  | locs, t, i :: w => belowT m (stepT m locs t i) (t.l[i.toNat]?.getD T0) w

def flTo (fl : Fl) (ds : List D) (i : Nat) : Fl :=
  match fl, ds with
  | .nil, [] => .nil
  | .emp, [] => .full
  | .full, _ => if i = ds.length then .full else .part
  | _, _ => .part
theorem slE_up (sz : Nat) (fl : Fl) (ds : List D) (i : Nat) (h' : i ≤ ds.length) : sliceD (slE sz fl ds) none (some (.int .i64 i)) none = some (slE sz (flTo fl ds i) (ds.take i)) := by
  have h2 : (0 : Int) ≤ i := by omega
  have hh : (i : Int) ≤ ds.length := by omega
  by_cases e : i = ds.length
  · subst e
    cases fl <;> cases ds <;> simp [sliceD, slE, flTo, boundD] <;> omega
  · have e' : (i == ds.length) = false := by simp [e]
    cases fl <;> cases ds <;> simp_all [sliceD, slE, flTo, boundD]

theorem encTs_take : ∀ (n : Nat) (l : List Tm), encTs (l.take n) = (encTs l).take n
  | 0, l => by simp
  | n + 1, [] => by simp
  | n + 1, x :: l => by simp [encTs_take n l]

theorem bringTs_good (gm : good m) : ∀ (l : List Tm), Good l → ∀ locs : List Tm, Good locs → Good (l.foldl (bringT m) locs) ∧ (l.foldl (bringT m) locs).length ≤ locs.length + l.length
  | [], _, locs, gl => ⟨gl, by simp⟩
  | t :: l, g, locs, gl => by
    obtain ⟨a, b⟩ := bringT_good gm gl t (g t (by simp))
    obtain ⟨c, d⟩ := bringTs_good gm l (fun u hu => g u (by simp [hu])) _ a
    exact ⟨c, by simp only [List.foldl_cons, List.length_cons]; omega⟩

theorem l33b (gm : good m) (fl : Fl) (l : List Tm) (g : Good l) (hl : l.length ≤ 900000) (st0 : St) (lv0 : D) (base : List Tm) (gb : Good base) (hbl : base.length + l.length ≤ 950000) :
    ∀ (r i : Nat) (s : List D) (bx : List (Nat × List D)) (st : St) (lv : D), r = l.length - i → i ≤ l.length → Went st0 lv0 st lv → Lk m ret st lv ((l.take i).foldl (bringT m) base) at0 0 →
      get s 77 = slE 6 fl (encTs l) → get s 78 = .i l.length → get s 79 = .int .i64 i → get s 8 = .hp 0 0 15 0 0 →
    Stops (lp T L33_1 ⟨⟨s, bx⟩, st⟩) fun e _ _ st' => e = .exit 2 ∧ ∃ lv', Went st0 lv0 st' lv' ∧ Lk m ret st' lv' (l.foldl (bringT m) base) at0 0 := by
  intro r
  induction r with
  | zero =>
    intro i s bx st lv hr hi W K h77 h78 h79 h8
    have e : i = l.length := by omega
    subst e
    rw [List.take_length] at K
    refine Stops_wp L33_1.eq_1 ?_
    simp [h77, h78, h79, h8]
    exact ⟨lv, W, K⟩
  | succ r ihr =>
    intro i s bx st lv hr hi W K h77 h78 h79 h8
    have hlt : i < l.length := by omega
    have hw : IntKind.wrap .i64 ((i : Int) + 1) = ((i + 1 : Nat) : Int) := by rw [wrap64] <;> omega
    obtain ⟨g1, g2⟩ := bringTs_good gm (l.take i) (fun u hu => g u (List.mem_of_mem_take hu)) base gb
    rw [List.length_take] at g2
    obtain ⟨st1, lv1, q, W1, K1⟩ := c73 gm l[i] (g _ (List.getElem_mem hlt)) K g1 (by omega)
    have e1 : (l.take (i + 1)).foldl (bringT m) base = bringT m ((l.take i).foldl (bringT m) base) l[i] := by
      rw [← List.take_append_getElem hlt, List.foldl_append] <;> rfl
    rw [← e1] at K1
    have nx := fun s' bx' => ihr (i + 1) s' bx' st1 lv1 (by omega) (by omega) (W.trans W1) K1
    refine Stops_wp L33_1.eq_1 ?_
    simp [h77, h78, h79, h8, hlt, hw, ← encT_eq, q, splice, fillD, -Int.natCast_add]
    refine nx _ _ ?_ ?_ ?_ ?_ <;> simp [h77, h78, h8]

theorem l33a (gm : good m) (fw : Fl) (w : List Int) (hw : w.length ≤ 1000000) :
    ∀ (r i : Nat) (t : Tm) (locs : List Tm) (s : List D) (bx : List (Nat × List D)) (st : St) (lv : D), r = w.length - i → i ≤ w.length → good t → Good locs → locs.length + cntT t ≤ 900000 → (atT t (w.drop i)).2 = true →
      Lk m ret st lv locs at0 0 → get s 65 = slE 1 fw (encW w) → get s 66 = .i w.length → get s 67 = .int .i64 i → get s 8 = .hp 0 0 15 0 0 → get s 9 = .lp 9 1 0 → getB bx 9 = (1, clT t) →
    Stops (lp T L33_0 ⟨⟨s, bx⟩, st⟩) fun e _ _ st' => e = .exit 0 ∧ ∃ lv', Lk m ret st' lv' (belowT m locs t (w.drop i)) at0 0 := by
  intro r
  induction r with
  | zero =>
    intro i t locs s bx st lv hr hi gt G hc ha K h65 h66 h67 h8 h9 b9
    have e : i = w.length := by omega
    subst e
    refine Stops_wp L33_0.eq_1 ?_
    rw [List.drop_length, belowT]
    simp [h65, h66, h67, h8, h9, b9]
    exact ⟨lv, K⟩
  | succ r ihr =>
    intro i t locs s bx st lv hr hi gt G hc ha K h65 h66 h67 h8 h9 b9
    have hlt : i < w.length := by omega
    have hw' : IntKind.wrap .i64 ((i : Int) + 1) = ((i + 1 : Nat) : Int) := by rw [wrap64] <;> omega
    have hct := cntT_eq t
    have hcl := cntTs_len t.l
    rw [List.drop_eq_getElem_cons hlt] at ha ⊢
    by_cases g : 0 ≤ w[i] ∧ w[i] < t.l.length
    case neg => rw [atT, dif_neg g] at ha; cases ha
    rw [atT, dif_pos g] at ha
    generalize hj0 : w[i] = j0 at *
    obtain ⟨j, rfl⟩ : ∃ j : Nat, j0 = j := ⟨j0.toNat, by omega⟩
    have g2 : j < t.l.length := by omega
    simp only [Int.toNat_natCast] at ha
    have e2 : t.l[((j : Nat) : Int).toNat]?.getD T0 = t.l[j] := by simp [g2]
    rw [belowT, e2]
    have gti := good_mem gt (List.getElem_mem g2)
    have hsum : cntT t.l[j] + j ≤ cntTs t.l := by
      have a := List.take_append_drop j t.l
      have b : cntTs t.l = cntTs (t.l.take j) + cntTs (t.l.drop j) := by rw [← cntTs_app, a]
      rw [List.drop_eq_getElem_cons g2, cntTs] at b
      have c := cntTs_len (t.l.take j)
      rw [List.length_take] at c
      omega
    by_cases k29 : t.k = 29
    · have e3 : stepT m locs t (j : Int) = (t.l.take j).foldl (bringT m) locs := by unfold stepT; rw [if_pos k29] <;> simp
      have gtk : Good (t.l.take j) := fun u hu => good_mem gt (List.mem_of_mem_take hu)
      obtain ⟨g4, g5⟩ := bringTs_good gm (t.l.take j) gtk locs G
      have htl : (t.l.take j).length = j := by rw [List.length_take]; omega
      rw [htl] at g5
      rw [e3]
      have sl := slE_up 6 t.fl (encTs t.l) j (by rw [encTs_len]; omega)
      rw [← encTs_take] at sl
      generalize flTo t.fl (encTs t.l) j = fl' at sl
      have lo := fun s bx => l33b (ret := ret) (at0 := at0) gm fl' (t.l.take j) gtk (by omega) st lv locs G (by omega) (t.l.take j).length 0 s bx st lv (by omega) (by omega) (.refl _ _) (by simpa using K)
      have nx := fun s' bx' st' lv' => ihr (i + 1) t.l[j] ((t.l.take j).foldl (bringT m) locs) s' bx' st' lv' (by omega) (by omega) gti g4 (by omega) ha
      generalize hA : (t.l.take j).foldl (bringT m) locs = A at *
      generalize hB : t.l.take j = B at *
      refine Stops_wp L33_0.eq_1 ?_
      simp [h65, h66, h67, h8, h9, b9, hlt, hj0, hw', k29, sl, splice, -Int.natCast_add]
      refine WL.useB L33_1_p L33_1_w (WB := L33_1.wrB) rfl (lo _ _ ?_ ?_ ?_ ?_) ?_
      iterate 4 simp [h8]
      rintro e s' b' st' ⟨rfl, lv', W', K'⟩ hf hbx
      have e9 := hf 9 rfl
      have e8 := hf 8 rfl
      have e11 := hf 11 rfl
      have e65 := hf 65 rfl
      have e66 := hf 66 rfl
      have e67 := hf 67 rfl
      have b9' := hbx 9 rfl
      simp [h65, h66, h67, h8, h9, b9] at e9 e8 e11 e65 e66 e67 b9'
      simp [e9, e8, e11, e65, e66, e67, b9', k29, g2, hw', splice, -Int.natCast_add]
      refine nx _ _ _ lv' ?_ ?_ ?_ ?_ ?_ ?_ ?_
      · exact K'
      iterate 6 simp [e9, e8, e65, e66, b9']
    · by_cases k25 : t.k = 25 ∧ (j : Int) = 2
      · have e3 : stepT m locs t (j : Int) = locs ++ [tK 1] := by unfold stepT; rw [if_neg k29, if_pos k25]
        obtain ⟨k25, hj2⟩ := k25
        have hj2 : j = 2 := by omega
        subst hj2
        rw [e3]
        obtain ⟨md, k0⟩ := K.h0
        obtain ⟨x1, x2, x3, x4⟩ := K.hw.facts
        obtain ⟨id, ver, pmd, st2, i0, a1, a2, a3, fin⟩ := K.let (by omega) k0
        obtain ⟨K2, W2⟩ := fin (tK 1)
        rw [encT_0] at a1
        have es := elem_set locs (tK 1)
        rw [encT_K] at es
        have eg := elem_get locs T0
        have nx := fun s' bx' => ihr (i + 1) t.l[2] (locs ++ [tK 1]) s' bx' _ _ (by omega) (by omega) gti (fun v hv => by
          rcases List.mem_append.1 hv with h | h
          · exact G v h
          · rw [List.mem_singleton] at h; subst h; exact good_K 1 (by simp [in64])) (by simp; omega) ha K2
        refine Stops_wp L33_0.eq_1 ?_
        simp [h65, h66, h67, h8, h9, b9, hlt, hj0, hw', k25, g2, k0, lkO, kHs, splice, fillD, x1, x2, x3, x4, a1, a2, a3, es, eg, -Int.natCast_add]
        refine nx _ _ ?_ ?_ ?_ ?_ ?_ ?_
        iterate 6 simp [h65, h66, h8, h9, b9]
      · have e3 : stepT m locs t (j : Int) = locs := by unfold stepT; rw [if_neg k29, if_neg k25]
        rw [e3]
        have nx := fun s' bx' => ihr (i + 1) t.l[j] locs s' bx' st lv (by omega) (by omega) gti G (by omega) ha K
        refine Stops_wp L33_0.eq_1 ?_
        by_cases h25 : t.k = 25
        · have hj2 : ¬ j = 2 := fun h => k25 ⟨h25, by omega⟩
          have hj3 : ¬ (j : Int) = 2 := by omega
          simp [h65, h66, h67, h8, h9, b9, hlt, hj0, hw', h25, hj2, hj3, g2, splice, -Int.natCast_add]
          refine nx _ _ ?_ ?_ ?_ ?_ ?_ ?_
          iterate 6 simp [h65, h66, h8, h9, b9]
        · simp [h65, h66, h67, h8, h9, b9, hlt, hj0, hw', k29, h25, g2, splice, -Int.natCast_add]
          refine nx _ _ ?_ ?_ ?_ ?_ ?_ ?_
          iterate 6 simp [h65, h66, h8, h9, b9]
end Go.Nt.Ty

/-
  RIGHT MODULES: what the reference types, the program types alike; locals behind statements.
  No condition.
-/
set_option linter.unusedSimpArgs false
namespace Go.Nt.Ty
open Go Go.Nt

variable {m ret : Tm}

def Alk (l k : List Tm) : Prop := l.map ufT = k.map ufT
theorem Alk.len {l k : List Tm} (h : Alk l k) : l.length = k.length := by have := congrArg List.length h; simpa using this
theorem Alk.refl (l : List Tm) : Alk l l := rfl
theorem Alk.snoc {l k : List Tm} (h : Alk l k) {a b : Tm} (e : ufT a = ufT b) : Alk (l ++ [a]) (k ++ [b]) := by
  unfold Alk at *; simp [h, e]
theorem Alk.local {l k : List Tm} (h : Alk l k) (n : Int) : (localT l n).map ufT = (localT k n).map ufT := by
  unfold localT
  rw [h.len]
  split
  · rw [← List.getElem?_map, ← List.getElem?_map, h]
  · rfl

theorem named_7 {l k : List Tm} (h : Alk l k) (t : Tm) (h7 : t.k = 7) : (namedT m l t).2 = (namedT m k t).2 ∧ ufT (namedT m l t).1 = ufT (namedT m k t).1 := by
  have q := h.local t.n
  unfold namedT
  rw [if_pos h7, if_pos h7]
  cases h1 : localT l t.n with
  | none => rw [h1] at q; cases h2 : localT k t.n with
    | none => exact ⟨rfl, rfl⟩
    | some y => rw [h2] at q; cases q
  | some x => rw [h1] at q; cases h2 : localT k t.n with
    | none => rw [h2] at q; cases q
    | some y => rw [h2] at q; exact ⟨rfl, by simpa using q⟩
theorem named_n {l k : List Tm} (t : Tm) (h7 : t.k ≠ 7) : namedT m l t = namedT m k t := by
  unfold namedT
  rw [if_neg h7, if_neg h7]
theorem named_ok {l k : List Tm} (h : Alk l k) (t : Tm) : (namedT m l t).2 = (namedT m k t).2 := by
  by_cases h7 : t.k = 7
  · exact (named_7 h t h7).1
  · rw [named_n t h7]

theorem shaped_k {t : Tm} (h : shapedT t = true) (hl : t.l = []) : t.k = 5 ∨ t.k = 7 ∨ t.k = 8 ∨ t.k = 9 ∨ t.k = 18 ∨ t.k = 6 ∨ t.k = 16 ∨ t.k = 17 := by
  unfold shapedT at h
  rw [hl] at h
  split at h
  · omega
  split at h
  · omega
  split at h
  · simp at h
  split at h
  · simp at h
  split at h
  · simp at h
  split at h
  · simp at h
  split at h
  · simp at h
  · simp at h; omega
theorem shaped_ne {t : Tm} (h : shapedT t = true) : t.k ≠ 29 ∧ t.k ≠ 25 := by
  unfold shapedT at h
  constructor
  · intro e; rw [e] at h; simp at h
  · intro e; rw [e] at h; simp at h

/-- A rule that the reference applies, the program applies alike. -/
theorem rule_sim {k n : Int} {s : List UInt8} {d : Tm} {p p' : List Tm} (hk : ¬ (k = 5 ∨ k = 18 ∨ k = 6 ∨ k = 7 ∨ k = 8 ∨ k = 9)) (h : Alk p p') {ty : Tm} {n' : Int} (hr : ruleE m k n s d p = .ok (ty, n')) :
    (ruleT m k n s d p').2.1 = 0 ∧ ufT (ruleT m k n s d p').1 = ufT ty := by
  have key : (ruleT m k n s d p').2 = (ruleT m k n s d p).2 ∧ ufT (ruleT m k n s d p').1 = ufT (ruleT m k n s d p).1 := by
    obtain ⟨a1, a2⟩ := ruleT_uf m k n s d p
    obtain ⟨b1, b2⟩ := ruleT_uf m k n s d p'
    rw [h] at a1 a2
    exact ⟨by rw [← b1, a1], by rw [← b2, a2]⟩
  rw [key.1, key.2]
  clear key h
  unfold ruleE at hr
  by_cases h13 : k = 13
  · subst h13
    rw [if_pos rfl] at hr
    match p, hr with
    | [a], hr =>
      simp only at hr
      split at hr
      · next hc =>
        split at hr
        · next hf =>
          cases hr
          have e := field_again hf
          have e2 : (fieldT m n s a).2.1 = bareT (typField m (fieldT m n s a).1).1 := by
            have q := congrArg (fun x => x.2.1) e
            rw [← q]
            unfold fieldT at hf ⊢
            split at hf
            · next hd => simp [hd]
            · cases hf
          unfold ruleT
          simp only [show ¬ ((13 : Int) = 5 ∨ (13 : Int) = 18 ∨ (13 : Int) = 6 ∨ (13 : Int) = 7 ∨ (13 : Int) = 8 ∨ (13 : Int) = 9) by decide, show ¬ (13 : Int) = 10 by decide, show ¬ (13 : Int) = 11 by decide, show ¬ (13 : Int) = 12 by decide, if_false, if_true]
          rw [if_pos hc, if_pos hf]
          exact ⟨rfl, by rw [e2, uf_bare]⟩
        · cases hr
      · cases hr
    | [], hr => cases hr
    | _ :: _ :: _, hr => cases hr
  rw [if_neg h13] at hr
  by_cases h16 : k = 16
  · subst h16
    rw [if_pos rfl] at hr
    unfold ruleT
    simp only [show ¬ ((16 : Int) = 5 ∨ (16 : Int) = 18 ∨ (16 : Int) = 6 ∨ (16 : Int) = 7 ∨ (16 : Int) = 8 ∨ (16 : Int) = 9) by decide, show ¬ (16 : Int) = 10 by decide, show ¬ (16 : Int) = 11 by decide, show ¬ (16 : Int) = 12 by decide, show ¬ (16 : Int) = 13 by decide, show ¬ (16 : Int) = 14 by decide, show ¬ (16 : Int) = 15 by decide, if_false, if_true]
    split at hr
    · next ha => cases hr; rw [if_pos ha]; exact ⟨rfl, (uf_bare _).symm⟩
    · cases hr
  rw [if_neg h16] at hr
  split at hr
  · next h0 => cases hr; exact ⟨h0, rfl⟩
  · cases hr

theorem lit_bare (t : Tm) : bareT (litT t) = litT t := by
  have e : ∀ k, bareT (tK k) = tK k := fun k => by simp [bareT, bfl]
  unfold litT
  split
  · exact e 1
  · split
    · exact e 2
    · exact e 0

mutual
  theorem of_sim {l k : List Tm} (h : Alk l k) : ∀ (t : Tm) (a s : Tm), ofE m l t = .ok (a, s) → ∃ a' s', ofT m k t = .ok (a', s') ∧ ufT a' = ufT a
    | .mk tk n ts fl tl ta tb, a, s, he => by
      rw [ofE] at he
      rw [ofT]
      split at he
      · cases he
      next hs =>
      rw [if_neg hs]
      split at he
      · cases he
      next hn =>
      have hn' : ¬ (namedT m k (.mk tk n ts fl tl ta tb)).2 = false := by rw [← named_ok h]; exact hn
      rw [if_neg hn']
      simp only [Bool.not_eq_false] at hs hn
      by_cases h0 : tl = [] ∧ tk ≠ 16
      · rw [if_pos h0] at he
        obtain ⟨rfl, h16⟩ := h0
        cases he
        have hk := shaped_k hs rfl
        simp only [k_mk] at hk
        have h17 : tk ≠ 17 := by
          rintro rfl
          simp [namedT] at hn
        have hk : tk = 5 ∨ tk = 18 ∨ tk = 6 ∨ tk = 7 ∨ tk = 8 ∨ tk = 9 := by omega
        simp only [ofTs]
        unfold ruleT
        rw [if_pos hk]
        refine ⟨_, _, rfl, ?_⟩
        unfold leafT aloneE
        simp only [k_mk]
        by_cases h7 : tk = 7
        · subst h7
          have q := (named_7 (m := m) h (.mk 7 n ts fl [] ta tb) rfl).2
          simp only [show ¬ ((7 : Int) = 5 ∨ (7 : Int) = 18) by decide, show ¬ (7 : Int) = 6 by decide, if_false, true_or, if_true]
          rw [uf_bare]
          exact (bare_uf q).symm
        · rw [named_n (k := l) (.mk tk n ts fl [] ta tb) h7]
          rcases hk with rfl | rfl | rfl | rfl | rfl | rfl
          · simp [litT, tK, ufT]
          · simp [tK, ufT]
          · simp [litT, tK, ufT]
          · exact absurd rfl h7
          · simp only [show ¬ ((8 : Int) = 5 ∨ (8 : Int) = 18) by decide, show ¬ (8 : Int) = 6 by decide, show ¬ ((8 : Int) = 7 ∨ (8 : Int) = 9) by decide, if_false, if_true]
            unfold namedT at hn ⊢
            simp only [k_mk, show ¬ (8 : Int) = 7 by decide, if_false, if_true] at hn ⊢
            split
            · rw [lit_bare]
            · next hd => rw [if_neg hd] at hn; cases hn
          · simp only [show ¬ ((9 : Int) = 5 ∨ (9 : Int) = 18) by decide, show ¬ (9 : Int) = 6 by decide, if_false, or_true, if_true]
            exact (uf_bare _).symm
      · rw [if_neg h0] at he
        cases hq : ofsE m l tl with
        | error e => rw [hq] at he; cases he
        | ok v =>
          obtain ⟨ps, ss⟩ := v
          rw [hq] at he
          obtain ⟨ps', ss', hq', hp⟩ := ofs_sim h tl ps ss hq
          simp only [hq'] at he ⊢
          cases hr : ruleE m tk n ts (namedT m l (.mk tk n ts fl tl ta tb)).1 ps with
          | error e => rw [hr] at he; cases he
          | ok w =>
            obtain ⟨ty, n'⟩ := w
            rw [hr] at he
            cases he
            have hk : ¬ (tk = 5 ∨ tk = 18 ∨ tk = 6 ∨ tk = 7 ∨ tk = 8 ∨ tk = 9) := by
              intro hk
              have : tl = [] := by
                unfold shapedT at hs
                simp only [k_mk, l_mk] at hs
                rcases hk with rfl | rfl | rfl | rfl | rfl | rfl <;> simp at hs
                all_goals first
                  | exact hs
                  | exact hs.1
              exact h0 ⟨this, by omega⟩
            have h7 : tk ≠ 7 := fun e => hk (by omega)
            rw [named_n (k := k) (.mk tk n ts fl tl ta tb) h7] at hr
            obtain ⟨r1, r2⟩ := rule_sim hk hp hr
            rw [if_pos r1]
            exact ⟨_, _, rfl, r2⟩
  theorem ofs_sim {l k : List Tm} (h : Alk l k) : ∀ (tl : List Tm) (ps ss : List Tm), ofsE m l tl = .ok (ps, ss) → ∃ ps' ss', ofTs m k tl = .ok (ps', ss') ∧ Alk ps ps'
    | [], ps, ss, he => by rw [ofsE] at he; cases he; exact ⟨[], [], by rw [ofTs], rfl⟩
    | t :: tl, ps, ss, he => by
      rw [ofsE] at he
      cases h1 : ofE m l t with
      | error e => rw [h1] at he; cases he
      | ok v =>
        obtain ⟨a, s⟩ := v
        rw [h1] at he
        simp only at he
        cases h2 : ofsE m l tl with
        | error e => rw [h2] at he; cases he
        | ok w =>
          obtain ⟨qs, us⟩ := w
          rw [h2] at he
          cases he
          obtain ⟨a', s', e1, e2⟩ := of_sim h t a s h1
          obtain ⟨qs', us', e3, e4⟩ := ofs_sim h tl qs us h2
          refine ⟨a' :: qs', s' :: us', by rw [ofTs, e1]; simp only [e3], ?_⟩
          unfold Alk at *
          simp [e2, e4]
end
end Go.Nt.Ty

/-
  RIGHT MODULES: the locals at a way, by the reference and by the program, are alike.
  No condition.
-/
set_option linter.unusedSimpArgs false
namespace Go.Nt.Ty
open Go Go.Nt

variable {m ret : Tm}

theorem at_cons {t : Tm} {i : Int} {w : List Int} (h : (atT t (i :: w)).2 = true) : ∃ x, 0 ≤ i ∧ t.l[i.toNat]? = some x ∧ atT t (i :: w) = atT x w := by
  rw [atT] at h ⊢
  split at h
  · next g => exact ⟨_, g.1, List.getElem?_eq_getElem (by omega), dif_pos g⟩
  · cases h

/-- Below a type. -/
theorem ty_below (rec : Int → Int) : ∀ (w : List Int) (t : Tm), arrM rec t ≠ 0 → (atT t w).2 = true → (atT t w).1.k ≠ 7 ∧ ∀ locs, belowE m locs t w = locs ∧ belowT m locs t w = locs
  | [], t, h, _ => by
    refine ⟨fun e => ?_, fun locs => ⟨rfl, rfl⟩⟩
    rw [atT] at e
    simp only at e
    rw [arrM_eq, if_neg (by omega), if_neg (by omega), if_neg (by omega)] at h
    exact h rfl
  | i :: w, t, h, ha => by
    obtain ⟨x, hi, hx, e⟩ := at_cons ha
    rw [e] at ha ⊢
    have h3 : t.k = 3 ∧ t.l = [x] := by
      rw [arrM_eq] at h
      split at h
      · next q => rw [q.2] at hx; simp at hx
      split at h
      · next q =>
        split at h
        · next y hy =>
          rw [hy] at hx
          have hz : i.toNat = 0 := by
            rcases Nat.eq_zero_or_pos i.toNat with z | z
            · exact z
            · rw [List.getElem?_eq_none (by simp only [List.length_singleton]; omega)] at hx; cases hx
          rw [hz] at hx
          simp at hx
          subst hx
          exact ⟨q, hy⟩
        · exact absurd rfl h
      split at h
      · next q => rw [q.2] at hx; simp at hx
      · exact absurd rfl h
    have hr : arrM rec x ≠ 0 := by
      rw [arrM_eq, if_neg (by omega), if_pos h3.1, h3.2] at h
      intro q
      apply h
      simp only [q]
      unfold prod
      split <;> simp_all
    obtain ⟨a, b⟩ := ty_below rec w x hr ha
    refine ⟨a, fun locs => ?_⟩
    rw [belowE, belowT, hx]
    unfold stepE stepT
    have n1 : ¬ t.k = 29 := by omega
    have n2 : ¬ (t.k = 25 ∧ i = 2) := by omega
    simp only [if_neg n1, if_neg n2]
    exact b locs

theorem ofs_part {locs : List Tm} : ∀ (l : List Tm) (v : List Tm × List Tm), ofsE m locs l = .ok v → ∀ (j : Nat) (x : Tm), l[j]? = some x → ∃ u, ofE m locs x = .ok u
  | [], _, _, j, x, h => by simp at h
  | t :: l, v, he, j, x, h => by
    rw [ofsE] at he
    cases h1 : ofE m locs t with
    | error e => rw [h1] at he; cases he
    | ok u =>
      rw [h1] at he
      simp only at he
      cases h2 : ofsE m locs l with
      | error e => rw [h2] at he; cases he
      | ok w =>
        cases j with
        | zero => simp at h; subst h; exact ⟨u, h1⟩
        | succ j => exact ofs_part l w h2 j x (by simpa using h)

theorem of_part {locs : List Tm} {t : Tm} {v : Tm × Tm} (h : ofE m locs t = .ok v) : t.k ≠ 29 ∧ t.k ≠ 25 ∧ (t.k = 7 → t.n < locs.length) ∧ ∀ (j : Nat) (x : Tm), t.l[j]? = some x → ∃ u, ofE m locs x = .ok u := by
  rw [ofE_eq] at h
  split at h
  · cases h
  next hs =>
  split at h
  · cases h
  next hn =>
  simp only [Bool.not_eq_false] at hs hn
  obtain ⟨a, b⟩ := shaped_ne hs
  refine ⟨a, b, fun h7 => ?_, fun j x hx => ?_⟩
  · unfold namedT localT at hn
    rw [if_pos h7] at hn
    split at hn
    · next d hd =>
      split at hd
      · next g => exact g.2
      · cases hd
    · cases hn
  · split at h
    · next q => rw [q.1] at hx; simp at hx
    · cases hq : ofsE m locs t.l with
      | error e => rw [hq] at h; cases h
      | ok w => exact ofs_part t.l w hq j x hx

/-- Below an expression. -/
theorem ex_below {locs : List Tm} : ∀ (w : List Int) (t : Tm) (v : Tm × Tm), ofE m locs t = .ok v → (atT t w).2 = true → ((atT t w).1.k = 7 → (atT t w).1.n < locs.length) ∧ belowE m locs t w = locs ∧ ∀ locs', belowT m locs' t w = locs'
  | [], t, v, h, _ => ⟨(of_part h).2.2.1, rfl, fun _ => rfl⟩
  | i :: w, t, v, h, ha => by
    obtain ⟨x, hi, hx, e⟩ := at_cons ha
    obtain ⟨p1, p2, p3, p4⟩ := of_part h
    obtain ⟨u, hu⟩ := p4 _ x hx
    rw [e] at ha ⊢
    obtain ⟨a, b, c⟩ := ex_below w x u hu ha
    refine ⟨a, ?_, fun locs' => ?_⟩
    · rw [belowE, hx]
      unfold stepE
      rw [if_neg p1, if_neg (by omega)]
      exact b
    · rw [belowT, hx]
      unfold stepT
      rw [if_neg p1, if_neg (by omega)]
      exact c locs'

theorem expr_ok {locs : List Tm} {k : Int} {x s : Tm} (h : exprE m ret locs k x = .ok s) : (k = 21 ∧ cellsV m x ≠ 0) ∨ (k ≠ 21 ∧ ∃ v, ofE m locs x = .ok v) := by
  have only : ∀ a b, onlyE m locs x a b = .ok s → ∃ v, ofE m locs x = .ok v := by
    intro a b q
    unfold onlyE at q
    cases ho : ofE m locs x with
    | error e => rw [ho] at q; cases q
    | ok v => exact ⟨v, rfl⟩
  unfold exprE at h
  by_cases h21 : k = 21
  · rw [if_pos h21] at h
    split at h
    · cases h
    · next hc => exact .inl ⟨h21, hc⟩
  rw [if_neg h21] at h
  refine .inr ⟨h21, ?_⟩
  split at h
  · exact only _ _ h
  split at h
  · exact only _ _ h
  split at h
  · exact only _ _ h
  split at h
  · cases h
  cases ho : ofE m locs x with
  | error e => rw [ho] at h; cases h
  | ok v => exact ⟨v, rfl⟩

theorem prts_ok {locs : List Tm} {k f : Int} : ∀ (l : List Tm) (i0 : Int) (ss : List Tm), prtsE m ret locs k f i0 l = .ok ss → ∀ (j : Nat) (x : Tm), l[j]? = some x →
      (i0 + j ≥ f → ∃ us, blkE m ret (if k = 25 then locs ++ [tK 1] else locs) x.l = .ok us) ∧ (¬ i0 + j ≥ f → ∃ s, exprE m ret locs k x = .ok s)
  | [], _, _, _, j, x, h => by simp at h
  | .mk xk xn xs xfl xl xa xb :: l, i0, ss, he, j, x, h => by
    rw [prtsE] at he
    cases j with
    | zero =>
      simp only [List.getElem?_cons_zero, Option.some.injEq] at h
      subst h
      constructor
      · intro hf
        rw [if_pos (by omega)] at he
        cases hb : blkE m ret (if k = 25 then locs ++ [tK 1] else locs) xl with
        | error e => rw [hb] at he; cases he
        | ok us => exact ⟨us, hb⟩
      · intro hf
        rw [if_neg (by omega)] at he
        cases hb : exprE m ret locs k (.mk xk xn xs xfl xl xa xb) with
        | error e => rw [hb] at he; cases he
        | ok us => exact ⟨us, rfl⟩
    | succ j =>
      split at he
      · cases he
      · split at he
        · cases he
        · next q =>
          have := prts_ok l (i0 + 1) _ q j x (by simpa using h)
          have e : i0 + 1 + (j : Int) = i0 + ((j + 1 : Nat) : Int) := by omega
          rw [e] at this
          exact this

theorem stmt_ok {locs : List Tm} {t s : Tm} (h : stmtE m ret locs t = .ok s) : shapeE t = true ∧ ((t.k = 29 ∧ ∃ ss, blkE m ret locs t.l = .ok ss) ∨ (t.k ≠ 29 ∧ ∃ ss, prtsE m ret locs t.k ((partsE t.k).1 - (partsE t.k).2) 0 t.l = .ok ss)) := by
  obtain ⟨k, n, s', fl, l, a, b⟩ := t
  rw [stmtE] at h
  split at h
  · cases h
  next hs =>
  refine ⟨by simpa using hs, ?_⟩
  split at h
  · next h29 =>
    refine .inl ⟨h29, ?_⟩
    cases hb : blkE m ret locs l with
    | error e => rw [hb] at h; cases h
    | ok us => exact ⟨us, hb⟩
  · next h29 =>
    refine .inr ⟨h29, ?_⟩
    cases hb : prtsE m ret locs k ((partsE k).1 - (partsE k).2) 0 l with
    | error e => rw [hb] at h; cases h
    | ok us => exact ⟨us, hb⟩

theorem shapeE_n {t : Tm} (h : shapeE t = true) (h29 : t.k ≠ 29) : (t.l.length : Int) = (partsE t.k).1 ∧ ∀ (j : Nat) (x : Tm), t.l[j]? = some x → (j : Int) ≥ (partsE t.k).1 - (partsE t.k).2 → x.k = 29 := by
  unfold shapeE at h
  rw [if_neg h29] at h
  simp only [Bool.and_eq_true, decide_eq_true_eq] at h
  refine ⟨h.1, fun j x hx hj => ?_⟩
  have := List.all_eq_true.1 h.2 x ?_
  · simpa using this
  · have e : (t.l.drop ((partsE t.k).1 - (partsE t.k).2).toNat)[j - ((partsE t.k).1 - (partsE t.k).2).toNat]? = some x := by
      rw [List.getElem?_drop, ← hx]
      congr 1
      omega
    exact List.mem_of_getElem? e

theorem brings_alk {locs locs' : List Tm} {t s : Tm} (h : stmtE m ret locs t = .ok s) (A : Alk locs locs') : Alk (bringsE m locs t) (bringT m locs' t) := by
  obtain ⟨hs, h⟩ := stmt_ok h
  unfold bringsE bringT
  by_cases h20 : t.k = 20
  · obtain ⟨hl, _⟩ := shapeE_n hs (by omega)
    rw [h20] at hl
    have hl : t.l.length = 1 := by simp [partsE] at hl; omega
    obtain ⟨x, hx⟩ := List.length_eq_one_iff.1 hl
    rw [if_pos ⟨h20, hl⟩, hx, if_neg (by simp), if_pos h20]
    rcases h with ⟨h29, _⟩ | ⟨_, ss, hp⟩
    · omega
    · have q := (prts_ok t.l 0 ss hp 0 x (by rw [hx]; rfl)).2 (by rw [h20]; simp [partsE])
      obtain ⟨s, q⟩ := q
      rw [h20] at q
      rcases expr_ok q with ⟨c, _⟩ | ⟨_, v, hv⟩
      · omega
      · obtain ⟨a, u⟩ := v
        obtain ⟨a', u', e1, e2⟩ := of_sim A x a u hv
        refine A.snoc ?_
        unfold tyT
        simp only [List.headD_cons, hv, e1]
        exact e2.symm
  rw [if_neg (fun c => h20 c.1)]
  by_cases h21 : t.k = 21
  · obtain ⟨hl, _⟩ := shapeE_n hs (by omega)
    rw [h21] at hl
    have hl : t.l.length = 1 := by simp [partsE] at hl; omega
    obtain ⟨x, hx⟩ := List.length_eq_one_iff.1 hl
    rw [if_pos ⟨h21, hl⟩, hx, if_neg (by simp), if_neg h20, if_pos h21]
    exact A.snoc rfl
  rw [if_neg (fun c => h21 c.1)]
  split
  · exact A
  · exact A

theorem blk_ok : ∀ (l : List Tm) (locs locs' ss : List Tm), blkE m ret locs l = .ok ss → Alk locs locs' → ∀ (i : Nat) (x : Tm), l[i]? = some x →
      (∃ s, stmtE m ret ((l.take i).foldl (bringsE m) locs) x = .ok s) ∧ Alk ((l.take i).foldl (bringsE m) locs) ((l.take i).foldl (bringT m) locs')
  | [], _, _, _, _, _, i, x, h => by simp at h
  | t :: l, locs, locs', ss, he, A, i, x, h => by
    rw [blkE] at he
    cases h1 : stmtE m ret locs t with
    | error e => rw [h1] at he; cases he
    | ok s =>
      rw [h1] at he
      simp only at he
      cases h2 : blkE m ret (bringsE m locs t) l with
      | error e => rw [h2] at he; cases he
      | ok us =>
        cases i with
        | zero => simp at h; subst h; exact ⟨⟨s, h1⟩, A⟩
        | succ i => exact blk_ok l _ _ us h2 (brings_alk h1 A) i x (by simpa using h)


theorem st_below : ∀ (w : List Int), (∀ (t s : Tm) (locs locs' : List Tm), stmtE m ret locs t = .ok s → Alk locs locs' → (atT t w).2 = true → Alk (belowE m locs t w) (belowT m locs' t w) ∧ ((atT t w).1.k = 7 → (atT t w).1.n < (belowE m locs t w).length)) ∧
    (∀ (t : Tm) (ss locs locs' : List Tm), t.k = 29 → blkE m ret locs t.l = .ok ss → Alk locs locs' → (atT t w).2 = true → Alk (belowE m locs t w) (belowT m locs' t w) ∧ ((atT t w).1.k = 7 → (atT t w).1.n < (belowE m locs t w).length)) := by
  intro w
  induction w with
  | nil =>
    refine ⟨fun t s locs locs' h A _ => ⟨A, fun e => ?_⟩, fun t ss locs locs' h29 _ A _ => ⟨A, fun e => ?_⟩⟩
    · rw [atT] at e
      simp only at e
      obtain ⟨hs, _⟩ := stmt_ok h
      have := (shapeE_n hs (by omega)).1
      rw [e] at this
      simp [partsE] at this

    · rw [atT] at e; simp only at e; omega
  | cons i w ih =>
    have blk : ∀ (t : Tm) (ss locs locs' : List Tm), t.k = 29 → blkE m ret locs t.l = .ok ss → Alk locs locs' → (atT t (i :: w)).2 = true → Alk (belowE m locs t (i :: w)) (belowT m locs' t (i :: w)) ∧ ((atT t (i :: w)).1.k = 7 → (atT t (i :: w)).1.n < (belowE m locs t (i :: w)).length) := by
      intro t ss locs locs' h29 hb A ha
      obtain ⟨x, hi, hx, e⟩ := at_cons ha
      obtain ⟨⟨s, h1⟩, A1⟩ := blk_ok t.l locs locs' ss hb A _ x hx
      rw [e] at ha ⊢
      rw [belowE, belowT, hx]
      unfold stepE stepT
      rw [if_pos h29, if_pos h29]
      exact ih.1 x s _ _ h1 A1 ha
    refine ⟨fun t s locs locs' h A ha => ?_, blk⟩
    obtain ⟨hs, h⟩ := stmt_ok h
    rcases h with ⟨h29, ss, hb⟩ | ⟨h29, ss, hp⟩
    · exact blk t ss locs locs' h29 hb A ha
    obtain ⟨x, hi, hx, e⟩ := at_cons ha
    obtain ⟨hl, hk⟩ := shapeE_n hs h29
    obtain ⟨q1, q2⟩ := prts_ok t.l 0 ss hp _ x hx
    rw [Int.zero_add] at q1 q2
    have hlt : i.toNat < t.l.length := by
      rcases Nat.lt_or_ge i.toNat t.l.length with z | z
      · exact z
      · rw [List.getElem?_eq_none z] at hx; cases hx
    rw [e] at ha ⊢
    rw [belowE, belowT, hx]
    unfold stepE stepT
    rw [if_neg h29, if_neg h29]
    simp only [Option.getD_some]
    by_cases hf : (i.toNat : Int) ≥ (partsE t.k).1 - (partsE t.k).2
    · obtain ⟨us, hu⟩ := q1 hf
      have hxk := hk _ x hx hf
      by_cases h25 : t.k = 25
      · have e2 : i = 2 := by
          rw [h25] at hl hf
          simp [partsE] at hl hf
          omega
        rw [if_pos h25] at hu
        rw [if_pos ⟨h25, e2⟩, if_pos ⟨h25, e2⟩]
        exact ih.2 x us _ _ hxk hu (A.snoc rfl) ha
      · rw [if_neg h25] at hu
        rw [if_neg (fun c => h25 c.1), if_neg (fun c => h25 c.1)]
        exact ih.2 x us _ _ hxk hu A ha
    · obtain ⟨u, hu⟩ := q2 hf
      have hn : ¬ (t.k = 25 ∧ i = 2) := by
        rintro ⟨h25, h2⟩
        rw [h25] at hf
        simp [partsE] at hf
        omega
      rw [if_neg hn, if_neg hn]
      rcases expr_ok hu with ⟨_, hc⟩ | ⟨_, v, hv⟩
      · obtain ⟨a, b⟩ := ty_below (m := m) _ w x hc ha
        rw [(b locs).1, (b locs').2]
        exact ⟨A, fun c => absurd c a⟩
      · obtain ⟨a, b, c⟩ := ex_below w x v hv ha
        rw [b, c locs']
        exact ⟨A, a⟩
end Go.Nt.Ty

/-
  RIGHT MODULES: what stands at a way of a right module.
  No condition.
-/
set_option linter.unusedSimpArgs false
namespace Go.Nt.Ty
open Go Go.Nt

variable {m : Tm}

theorem decls_ok : ∀ (l : List Tm) (i : Nat) (ss : List Tm), declsE m i l = .ok ss → ∀ (j : Nat) (d : Tm), l[j]? = some d → ∃ s, declE m (i + j) d = .ok s
  | [], _, _, _, j, d, h => by simp at h
  | t :: l, i, ss, he, j, d, h => by
    rw [declsE] at he
    cases h1 : declE m i t with
    | error e => rw [h1] at he; cases he
    | ok s =>
      rw [h1] at he
      simp only at he
      cases h2 : declsE m (i + 1) l with
      | error e => rw [h2] at he; cases he
      | ok us =>
        cases j with
        | zero => simp at h; subst h; exact ⟨s, h1⟩
        | succ j =>
          have := decls_ok l (i + 1) us h2 j d (by simpa using h)
          have e : i + 1 + j = i + (j + 1) := by omega
          rw [e] at this
          exact this

theorem right_ok (h : rightE m = true) : m.k = 36 ∧ ∀ (j : Nat) (d : Tm), m.l[j]? = some d → ∃ s, declE m j d = .ok s := by
  unfold rightE moduleE at h
  split at h
  · cases h
  · next s hs =>
    split at hs
    · cases hs
    · next hk =>
      refine ⟨by simpa using hk, fun j d hd => ?_⟩
      cases hq : declsE m 0 m.l with
      | error e => rw [hq] at hs; cases hs
      | ok ss => simpa using decls_ok m.l 0 ss hq j d hd

theorem fn_ok {f s : Tm} (h : fnE m f = .ok s) : ∃ p r b, f.l = [p, r, b] ∧ p.k = 35 ∧ partedT p.l = true ∧ b.k = 29 ∧ headT m f = .ok (p.l.map tyOf) ∧ kindsT m (p.l.map tyOf ++ [r]) = .ok () ∧ ∃ ss, blkE m r (p.l.map tyOf) b.l = .ok ss := by
  have h3 : f.l.length = 3 := Classical.byContradiction fun c => by rw [fnE_len c] at h; cases h
  match hl : f.l, h3 with
  | [p, r, b], _ =>
  have hg : ¬ ((f.n ≠ 0 ∧ f.n ≠ 1) ∨ p.k ≠ 35 ∨ partedT p.l = false ∨ b.k ≠ 29) := fun c => by rw [fnE_bad hl c] at h; cases h
  rw [fnE_good hl hg] at h
  have e : headT m f = (match kindsT m (p.l.map tyOf ++ [r]) with
      | .error e => .error e
      | .ok () => match (if f.n = 1 then plainsT m (p.l.map tyOf ++ [r]) else .ok ()) with
        | .error e => .error e
        | .ok () => .ok (p.l.map tyOf)) := by
    unfold headT; rw [hl]; simp only; rw [if_neg hg] <;> rfl
  rw [e]
  have hp : p.k = 35 ∧ partedT p.l = true ∧ b.k = 29 := by
    refine ⟨?_, ?_, ?_⟩
    · exact Classical.byContradiction fun c => hg (.inr (.inl c))
    · cases c : partedT p.l with
      | true => rfl
      | false => exact absurd (.inr (.inr (.inl c))) hg
    · exact Classical.byContradiction fun c => hg (.inr (.inr (.inr c)))
  cases hK : kindsT m (p.l.map tyOf ++ [r]) with
  | error e => rw [hK] at h; cases h
  | ok u =>
    rw [hK] at h
    simp only at h
    cases hP : (if f.n = 1 then plainsT m (p.l.map tyOf ++ [r]) else .ok ()) with
    | error e => rw [hP] at h; cases h
    | ok u =>
      rw [hP] at h
      simp only at h
      refine ⟨p, r, b, rfl, hp.1, hp.2.1, hp.2.2, by simp only [hP], hK, ?_⟩
      unfold blockE at h
      cases hB : blkE m r (p.l.map tyOf) b.l with
      | error e => rw [hB] at h; cases h
      | ok ss => exact ⟨ss, rfl⟩

theorem at_in {t x : Tm} {i : Int} {w : List Int} (hi : 0 ≤ i) (hx : t.l[i.toNat]? = some x) : atT t (i :: w) = atT x w := by
  have hlt : i.toNat < t.l.length := by
    rcases Nat.lt_or_ge i.toNat t.l.length with z | z
    · exact z
    · rw [List.getElem?_eq_none z] at hx; cases hx
  rw [List.getElem?_eq_getElem hlt, Option.some.injEq] at hx
  rw [atT, dif_pos ⟨hi, by omega⟩, hx]

/-- Below a row of parts whose types have cells. -/
theorem part_below {rec : Int → Int} {p : Tm} (hk : p.k = 34) {x : Tm} (hl : p.l = [x]) (hc : arrM rec x ≠ 0) (w : List Int) (ha : (atT p w).2 = true) : (atT p w).1.k ≠ 7 := by
  cases w with
  | nil => rw [atT]; simp only; omega
  | cons i w =>
    obtain ⟨y, hi, hy, e⟩ := at_cons ha
    have : y = x := by
      rw [hl] at hy
      have := List.mem_of_getElem? hy
      simpa using this
    subst this
    rw [e] at ha ⊢
    exact (ty_below (m := T0) rec w y hc ha).1

theorem sumM_parts {f : Tm → Int} : ∀ (l : List Tm) (acc : Int), acc ≠ 0 ∨ l ≠ [] → sumM f l acc ≠ 0 → ∀ p, p ∈ l → p.k = 34 ∧ ∃ x, p.l = [x] ∧ f x ≠ 0
  | [], _, _, _, p, hp => by cases hp
  | q :: l, acc, _, h, p, hp => by
    rw [sumM] at h
    split at h
    · next x hx =>
      split at h
      · next hk =>
        split at h
        · exact absurd rfl h
        · next hc =>
          rcases List.mem_cons.1 hp with rfl | hp
          · exact ⟨hk, x, hx, fun e => hc (.inl e)⟩
          · by_cases hz : acc + f x ≠ 0 ∨ l ≠ []
            · exact sumM_parts l _ hz h p hp
            · simp only [not_or, Classical.not_not] at hz
              rw [hz.2] at hp; cases hp
      · exact absurd rfl h
    · exact absurd rfl h

/-- What is no part of a function's body is no local. -/
theorem decl_below {i : Nat} {d s : Tm} (hd : m.l[i]? = some d) (h : declE m i d = .ok s) : ∀ (w : List Int), (d.k = 33 → ∀ j w', w = j :: w' → j ≠ 2) → (atT d w).2 = true → (atT d w).1.k ≠ 7 := by
  intro w hw ha
  obtain ⟨hlt, hdi⟩ := List.getElem?_eq_some_iff.1 hd
  unfold declE at h
  by_cases h33 : d.k = 33
  · rw [if_pos h33] at h
    have hw := hw h33
    obtain ⟨p, r, b, hl, hp, hpp, hb, _, hK, _⟩ := fn_ok h
    have hne := kinds_ne m _ hK
    cases w with
    | nil => rw [atT]; simp only; omega
    | cons j w =>
      obtain ⟨x, hj, hx, e⟩ := at_cons ha
      rw [e] at ha ⊢
      have hj2 := hw j w rfl
      rw [hl] at hx
      have hc : j = 0 ∨ j = 1 := by
        have : j.toNat < 3 := by
          rcases Nat.lt_or_ge j.toNat 3 with z | z
          · exact z
          · rw [List.getElem?_eq_none (by simpa using z)] at hx; cases hx
        omega
      rcases hc with rfl | rfl
      · have hxp : p = x := by simpa using hx
        subst hxp
        cases w with
        | nil => rw [atT]; simp only; omega
        | cons a w =>
          obtain ⟨y, _, hy, e'⟩ := at_cons ha
          rw [e'] at ha ⊢
          have hm := List.mem_of_getElem? hy
          have q := List.all_eq_true.1 hpp _ hm
          simp only [Bool.and_eq_true, decide_eq_true_eq] at q
          obtain ⟨z, hz⟩ := List.length_eq_one_iff.1 q.2
          refine part_below (rec := recM m (m.l.length + 1)) q.1 hz ?_ w ha
          refine hne z (List.mem_append_left _ (List.mem_map.2 ⟨y, hm, ?_⟩))
          rw [tyOf, hz] <;> rfl
      · have hxp : r = x := by simpa using hx
        subst hxp
        exact (ty_below (m := m) _ w r (hne r (by simp)) ha).1
  rw [if_neg h33] at h
  have hk0 : d.k = 30 ∨ d.k = 31 ∨ d.k = 32 := by
    split at h
    · omega
    split at h
    · omega
    split at h
    · omega
    · cases h
  cases w with
  | nil => rw [atT]; simp only; omega
  | cons j w =>
  obtain ⟨x, hj, hx, e⟩ := at_cons ha
  rw [e] at ha ⊢
  have hm := List.mem_of_getElem? hx
  by_cases h30 : d.k = 30
  · rw [if_pos h30] at h
    split at h
    · cases h
    split at h
    · cases h
    next hp hc =>
    unfold cellsV at hc
    rw [arrM_eq] at hc
    simp only [k_mk, n_mk, l_mk] at hc
    rw [if_neg (by omega), if_neg (by omega), if_pos (by simp), recM] at hc
    rw [dif_pos ⟨by omega, by omega⟩] at hc
    simp only [Int.toNat_natCast, hdi] at hc
    rw [if_pos h30] at hc
    obtain ⟨q1, y, q2, q3⟩ := sumM_parts d.l 0 (.inr fun c => by rw [c] at hm; cases hm) hc x hm
    exact part_below q1 q2 q3 w ha
  rw [if_neg h30] at h
  by_cases h32 : d.k = 32 ∧ d.l.length = 1
  · rw [if_pos h32] at h
    obtain ⟨y, hy⟩ := List.length_eq_one_iff.1 h32.2
    rw [hy] at h hm
    have hxy : x = y := by simpa using hm
    subst hxy
    split at h
    · cases h
    · next hc => exact (ty_below (m := m) _ w x hc ha).1
  rw [if_neg h32] at h
  split at h
  · next h31 =>
    have hlit := h31.2
    unfold litOK at hlit
    split at hlit
    · next y hy =>
      rw [hy] at hm
      have hxy : x = y := by simpa using hm
      subst hxy
      simp only [Bool.and_eq_true, Bool.or_eq_true, decide_eq_true_eq, List.isEmpty_iff] at hlit
      cases w with
      | nil => rw [atT]; simp only; omega
      | cons a w =>
        obtain ⟨z, _, hz, _⟩ := at_cons ha
        rw [hlit.1] at hz
        simp at hz
    · cases hlit
  · cases h
end Go.Nt.Ty
