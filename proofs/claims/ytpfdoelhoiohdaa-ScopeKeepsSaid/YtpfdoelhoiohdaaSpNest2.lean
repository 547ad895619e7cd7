/-
  LOOPS, round by round; a nested read of an aggregate.
  No condition.
-/
import Derived.Test.YtpfdoelhoiohdaaSpGot
import Derived.Test.YtpfdoelhoiohdaaSpBlk
namespace Go.Nt

variable {T : Nat → Option IFunc}

def qW (T : Nat → Option IFunc) (L : Ic) (K : Kt) : Kt
  | .normal, c => WL T L c K
  | e, c => K e c
@[simp ↓] theorem qW_n (L : Ic) (K : Kt) (c : Cfg) : qW T L K .normal c = WL T L c K := (rfl)
@[simp ↓] theorem qW_r (L : Ic) (K : Kt) (c : Cfg) : qW T L K .ret c = K .ret c := (rfl)
@[simp ↓] theorem qW_e (L : Ic) (K : Kt) (id : Nat) (c : Cfg) : qW T L K (.exit id) c = K (.exit id) c := (rfl)

/-- One round of a loop is met. -/
theorem WL_un {L body : Ic} (h : L = body) (c : Cfg) (K : Kt) : WL T L c K = WP T body c (qW T L K) := by
  refine propext ⟨fun ⟨e, c', hr, hk⟩ => ?_, fun ⟨e, c', hr, hk⟩ => ?_⟩
  · rw [lp_at L body h] at hr
    cases hq : rn T (ev T) (lp T) body c with
    | none => rw [hq] at hr; cases hr
    | some r =>
      obtain ⟨e1, c1⟩ := r
      rw [hq] at hr
      refine ⟨e1, c1, hq, ?_⟩
      cases e1 with
      | normal => exact ⟨e, c', hr, hk⟩
      | ret => cases hr; exact hk
      | exit id => cases hr; exact hk
  · cases e with
    | normal =>
      obtain ⟨e2, c2, h2, k2⟩ := hk
      exact ⟨e2, c2, by rw [lp_at L body h, hr]; exact h2, k2⟩
    | ret => exact ⟨_, _, by rw [lp_at L body h, hr]; rfl, hk⟩
    | exit id => exact ⟨_, _, by rw [lp_at L body h, hr]; rfl, hk⟩

end Go.Nt

/-
  A POINTER TO A BOX IN WHICH A POINTER STANDS: how 'simp' reads it.
  No condition.
-/
namespace Go.Nt
@[simp] theorem cells_kp (i v s x o : Nat) : D.cells (.kp i v s x o) = [.kp i v s x o] := (rfl)
@[simp] theorem fits_kp (i v s x o : Nat) : D.fits (.kp i v s x o) none = true := (rfl)
@[simp] theorem okv_kp (i v s x o : Nat) : D.okv (.kp i v s x o) = true := (rfl)
@[simp] theorem pure_hpK (i v s x o : Nat) : D.pure (.hp i v s x o) = false := (rfl)
@[simp] theorem loadD_kp (rb : Nat → Nat × List D) (st : St) (i v s x o : Nat) (q : Bool) : loadD rb st (.kp i v s x o) none none q = some (.hp i v s x o) := (rfl)
end Go.Nt

/-
  NAMES RESOLVED by the program, walked (7): statements with blocks.
  No condition.
-/
set_option linter.unusedSimpArgs false
set_option maxRecDepth 20000
namespace Go.Nt.Lk
open Go Go.Nt

variable {m : Tm} {st : St} {lv : D} {locs : List Nm} {at0 e : Int}

/-- What stands in a statement. -/
def nlocs (k : Int) (s : Nm) (locs : List Nm) (x : Tm) : List Nm := if x.k = 29 ∧ k = 25 then locs ++ [s] else locs
def FN (m : Tm) (k : Int) (s : Nm) (v : List Nm × Nat) (x : Tm) : Er (Tm × (List Nm × Nat)) := withS (nlocs k s v.1 x, v.2 + cntT x) (anyR qn m (nlocs k s v.1 x) x)

theorem anys_nest (m : Tm) (k : Int) (s : Nm) (base : List Nm) (h25 : k ≠ 25) (h29 : k ≠ 29) : ∀ (l : List Tm) (i : Nat) (locs : List Nm) (n : Nat), anyRs qn m k s base i locs l = fstR (eachR (FN m k s) (locs, n) l)
  | [], i, locs, n => by rw [anyRs, eachR]; rfl
  | t :: l, i, locs, n => by
    have hc : ¬ (k = 25 ∧ i = 2) := fun c => h25 c.1
    have hn : nlocs k s locs t = locs := by unfold nlocs; rw [if_neg fun c => h25 c.2]
    rw [anyRs_cons, eachR, if_neg hc, if_neg h29, anys_nest m k s base h25 h29 l (i + 1) locs (n + cntT t)]
    have hF : FN m k s (locs, n) t = withS (locs, n + cntT t) (anyR qn m locs t) := by unfold FN; simp only [hn]
    rw [hF]
    cases anyR qn m locs t with
    | error e => rfl
    | ok x =>
      rw [show withS (locs, n + cntT t) (Except.ok x : Er Tm) = .ok (x, (locs, n + cntT t)) from rfl]
      simp only
      cases eachR (FN m k s) (locs, n + cntT t) l with
      | error e => rfl
      | ok y => rfl
theorem anys_loop (m : Tm) (s : Nm) (locs : List Nm) (n : Nat) (l : List Tm) (h : loopX l = true) : anyRs qn m 25 s locs 0 locs l = fstR (eachR (FN m 25 s) (locs, n) l) := by
  match l, h with
  | [a, b, c], h =>
    simp only [loopX, Bool.and_eq_true, Bool.not_eq_true', decide_eq_false_iff_not, decide_eq_true_eq] at h
    obtain ⟨ha, hb, hc⟩ := h
    have na : ∀ v, nlocs 25 s v a = v := fun v => by unfold nlocs; rw [if_neg fun c => ha c.1]
    have nb : ∀ v, nlocs 25 s v b = v := fun v => by unfold nlocs; rw [if_neg fun c => hb c.1]
    have nc : ∀ v, nlocs 25 s v c = v ++ [s] := fun v => by unfold nlocs; rw [if_pos ⟨hc, rfl⟩]
    have e0 : ¬ ((25 : Int) = 25 ∧ 0 = 2) := by omega
    have e1 : ¬ ((25 : Int) = 25 ∧ 0 + 1 = 2) := by omega
    have e2 : ((25 : Int) = 25 ∧ 0 + 1 + 1 = 2) := by omega
    have e3 : ¬ (25 : Int) = 29 := by decide
    rw [anyRs_cons, anyRs_cons, anyRs_cons, anyRs, if_neg e0, if_neg e1, if_neg e3, if_neg e3, if_pos e2, eachR]
    have hF : ∀ v x, FN m 25 s v x = withS (nlocs 25 s v.1 x, v.2 + cntT x) (anyR qn m (nlocs 25 s v.1 x) x) := fun _ _ => rfl
    rw [hF]
    simp only [na]
    cases anyR qn m locs a with
    | error e => rfl
    | ok a' =>
      rw [show withS (locs, n + cntT a) (Except.ok a' : Er Tm) = .ok (a', (locs, n + cntT a)) from rfl]
      simp only
      rw [eachR, hF]
      simp only [nb]
      cases anyR qn m locs b with
      | error e => rfl
      | ok b' =>
        rw [show withS (locs, n + cntT a + cntT b) (Except.ok b' : Er Tm) = .ok (b', (locs, n + cntT a + cntT b)) from rfl]
        simp only
        rw [eachR, hF]
        simp only [nc]
        cases anyR qn m (locs ++ [s]) c with
        | error e => rfl
        | ok c' => rfl
  | [], h => cases h
  | [_], h => cases h
  | [_, _], h => cases h
  | _ :: _ :: _ :: _ :: _, h => cases h

theorem c157 (t x : Tm) (hx : x.k = 29 → BlockW m x) (hp : x.k ≠ 29 → plX x = true) (K : Sc m st lv locs at0 0) (hb : verOf lv + cntT x ≤ 1000000) {id6 md6 id5 md5 : Nat} {L6 : D} (h6 : St.at st id6 = .cells true 6 0 md6 false [.agg [.int .i64 t.k, .int .i64 t.n, .str [], L6, .int .i64 t.a, .int .i64 t.b]])
    (h5 : St.at st id5 = .cells true 1 0 md5 false [.str t.s]) (i5 : id5 < st.length) (i6 : id6 < st.length) :
    ∃ r st', callD T (ev T) 157 [encT x, .kp 1 0 10 0 0, .hp id6 0 6 0 0, .hp id5 0 1 0 0] st = some (encT r, st') ∧ Fr none st st' ∧ match anyR qn m (nlocs t.k t.s locs x) x with
      | .ok y => y = r ∧ ∃ lv' at', Sc m st' lv' (nlocs t.k t.s locs x) at' 0 ∧ verOf lv' ≤ verOf lv + cntT x
      | .error (a, y) => y ≠ 0 ∧ Se m st' locs.length (verOf lv + cntT x) a y := by
  obtain ⟨md, h1⟩ := K.h1
  obtain ⟨x1, x2, x3, x4, x5⟩ := K.hw.facts
  have hcx := cntT_eq x
  by_cases hk : x.k = 29
  · have hk' := eq_true hk
    by_cases h25 : t.k = 25
    · have h25' := eq_true h25
      have hnl : nlocs t.k t.s locs x = locs ++ [t.s] := by unfold nlocs; rw [if_pos ⟨hk, h25⟩]
      obtain ⟨lv2, st1, md1, a1, o1, o2, hv, hl1, k1, fin⟩ := K.push (by omega) t.s
      obtain ⟨K2, W2⟩ := fin (md1 + 1)
      obtain ⟨r, st2, q, W3, E⟩ := hx hk _ lv2 (locs ++ [t.s]) at0 K2 (by omega)
      refine ⟨r, st2, ?_, W2.trans W3, ?_⟩
      · have go : Ret (ev T 157 [encT x, .kp 1 0 10 0 0, .hp id6 0 6 0 0, .hp id5 0 1 0 0] st) fun r' st' => r' = encT r ∧ st' = st2 := by
          refine Ret_wp (fn := F157) rfl ?_
          rw [F157]
          unfold scO at h1 k1 q
          simp [hk', h25', h1, h6, h5, kHs, splice, fillD, x1, x2, x3, x4, srcD, listD, a1, o1, o2, k1, hl1, ← encT_eq, q]
        obtain ⟨r', st', h1, rfl, rfl⟩ := go
        exact callD_freE (fn := F157) rfl rfl (by simp) h1 (by simp) (by simp)
      · rw [hnl]
        cases hR : anyR qn m (locs ++ [t.s]) x with
        | ok y =>
          rw [hR] at E
          obtain ⟨e1, lv3, at3, e2, e3⟩ := E
          exact ⟨e1, lv3, at3, e2, by omega⟩
        | error y =>
          obtain ⟨a, y⟩ := y
          rw [hR] at E
          obtain ⟨e1, lv3, locs3, e2, e3, e4⟩ := E
          exact ⟨e1, lv3, locs3, e2, by simp at e3; omega, by omega⟩
    · have hnl : nlocs t.k t.s locs x = locs := by unfold nlocs; rw [if_neg fun c => h25 c.2]
      obtain ⟨r, st2, q, W3, E⟩ := hx hk _ lv locs at0 K (by omega)
      refine ⟨r, st2, ?_, W3, ?_⟩
      · have go : Ret (ev T 157 [encT x, .kp 1 0 10 0 0, .hp id6 0 6 0 0, .hp id5 0 1 0 0] st) fun r' st' => r' = encT r ∧ st' = st2 := by
          refine Ret_wp (fn := F157) rfl ?_
          rw [F157]
          simp [hk', h25, h6, splice, fillD, ← encT_eq, q]
        obtain ⟨r', st', h1, rfl, rfl⟩ := go
        exact callD_freE (fn := F157) rfl rfl (by simp) h1 (by simp) (by simp)
      · rw [hnl]
        cases hR : anyR qn m locs x with
        | ok y =>
          rw [hR] at E
          obtain ⟨e1, lv3, at3, e2, e3⟩ := E
          exact ⟨e1, lv3, at3, e2, by omega⟩
        | error y =>
          obtain ⟨a, y⟩ := y
          rw [hR] at E
          obtain ⟨e1, lv3, locs3, e2, e3, e4⟩ := E
          exact ⟨e1, lv3, locs3, e2, e3, by omega⟩
  · have hnl : nlocs t.k t.s locs x = locs := by unfold nlocs; rw [if_neg fun c => hk c.1]
    obtain ⟨r, st2, q, W3, E⟩ := c73 x st lv locs at0 (hp hk) K (by omega) (by omega)
    refine ⟨r, st2, ?_, W3, ?_⟩
    · have go : Ret (ev T 157 [encT x, .kp 1 0 10 0 0, .hp id6 0 6 0 0, .hp id5 0 1 0 0] st) fun r' st' => r' = encT r ∧ st' = st2 := by
        refine Ret_wp (fn := F157) rfl ?_
        rw [F157]
        simp [hk, splice, fillD, ← encT_eq, q]
      obtain ⟨r', st', h1, rfl, rfl⟩ := go
      exact callD_freE (fn := F157) rfl rfl (by simp) h1 (by simp) (by simp)
    · rw [hnl]
      cases hR : anyR qn m locs x with
      | ok y =>
        rw [hR] at E
        exact ⟨E.1, lv, at0, E.2, by omega⟩
      | error y =>
        obtain ⟨a, y⟩ := y
        rw [hR] at E
        obtain ⟨e1, lv3, locs3, e2, e3, e4⟩ := E
        exact ⟨e1, lv3, locs3, e2, e3, by omega⟩
end Go.Nt.Lk

/-
  NAMES RESOLVED by the program, walked (8): statements with blocks; statements.
  No condition.
-/
set_option linter.unusedSimpArgs false
set_option maxRecDepth 20000
namespace Go.Nt.Lk
open Go Go.Nt

variable {m : Tm} {st : St} {lv : D} {locs : List Nm} {at0 e : Int}

theorem Sc.to {st' : St} (K : Sc m st lv locs at0 e) (hl : st.length ≤ st'.length) (h : ∀ i, i < st.length → (i = 0 ∨ i = 1 ∨ isN (St.at st i)) → St.at st' i = St.at st i) : Sc m st' lv locs at0 e := by
  obtain ⟨⟨md0, h0⟩, hl0, ⟨md1, h1⟩, hw⟩ := K
  refine ⟨⟨md0, by rw [h 0 (by omega) (.inl rfl), h0]⟩, by omega, ⟨md1, by rw [h 1 hl0 (.inr (.inl rfl)), h1]⟩, ?_⟩
  rcases hw with h' | ⟨id, ver, md, more, rfl, a1, a2, a3, a4⟩
  · exact .inl h'
  · exact .inr ⟨id, ver, md, more, rfl, by rw [h id a3 (.inr (.inr (by rw [a1]; trivial))), a1], a2, by omega, a4⟩

/-- The boxes of a statement with blocks. -/
def bx6 (t : Tm) (L : D) (md : Nat) : Ob := .cells true 6 0 md false [.agg [.int .i64 t.k, .int .i64 t.n, .str [], L, .int .i64 t.a, .int .i64 t.b]]
def bx1 (t : Tm) : Ob := .cells true 1 0 1 false [.str t.s]

theorem c142 (t : Tm) (hk : t.k = 23 ∨ t.k = 24 ∨ t.k = 25) (h25 : t.k = 25 → loopX t.l = true) (hx : ∀ x, x ∈ t.l → (x.k = 29 → BlockW m x) ∧ (x.k ≠ 29 → plX x = true)) (K : Sc m st lv locs at0 0) (hb : verOf lv + cntTs t.l ≤ 1000000) :
    ∃ r st', callD T (ev T) 142 [.hp 1 0 10 0 0, encT t] st = some (encT r, st') ∧ Fr none st st' ∧ match anyR qn m locs t with
      | .ok y => y = r ∧ ∃ lv' at', Sc m st' lv' locs at' 0 ∧ verOf lv' ≤ verOf lv + cntTs t.l
      | .error (a, y) => y ≠ 0 ∧ Se m st' locs.length (verOf lv + cntTs t.l) a y := by
  have hcl := cntTs_len t.l
  obtain ⟨md, h1⟩ := K.h1
  obtain ⟨x1, x2, x3, x4, x5⟩ := K.hw.facts
  have hl := K.hl
  obtain ⟨L0, hL0⟩ : ∃ L0, L0 = slE 6 t.fl (encTs t.l) := ⟨_, rfl⟩
  obtain ⟨st0, hst0⟩ : ∃ st0 : St, st0 = st ++ [bx6 t L0 1, bx1 t] := ⟨_, rfl⟩
  have ln0 : st0.length = st.length + 2 := by rw [hst0]; simp
  have a6 : St.at st0 st.length = bx6 t L0 1 := by rw [hst0, at_app0]; rfl
  have a5 : St.at st0 (st.length + 1) = bx1 t := by rw [hst0, at_app]; rfl
  have old : ∀ i, i < st.length → St.at st0 i = St.at st i := fun i hi => by rw [hst0]; exact at_lt _ _ hi
  have K0 : Sc m st0 lv locs at0 0 := K.to (by omega) fun i hi _ => old i hi
  have J0 : (∃ lv' at' more, Sc m st0 lv' locs at' 0 ∧ verOf lv' ≤ verOf lv ∧ locs = locs ++ more) ∧ St.at st0 st.length = bx6 t L0 1 ∧ St.at st0 (st.length + 1) = bx1 t ∧ st.length + 1 < st0.length := ⟨⟨lv, at0, [], K0, Nat.le_refl _, (List.append_nil _).symm⟩, a6, a5, by omega⟩
  obtain ⟨rs, st1, q, W, E⟩ := c37 (m := m) none (fun (v : List Nm × Nat) st' => (∃ lv' at' more, Sc m st' lv' v.1 at' 0 ∧ verOf lv' ≤ v.2 ∧ v.1 = locs ++ more) ∧ St.at st' st.length = bx6 t L0 1 ∧ St.at st' (st.length + 1) = bx1 t ∧ st.length + 1 < st'.length) (FN m t.k t.s) (fun v => v.2) locs.length (verOf lv + cntTs t.l) (verOf lv + cntTs t.l) 157 [] [.kp 1 0 10 0 0, .hp st.length 0 6 0 0, .hp (st.length + 1) 0 1 0 0] rfl t.fl t.l (by omega) st0 (fun i h => by cases h)
    (fun _ st h => by obtain ⟨⟨lv', at', more, h, _⟩, _⟩ := h; exact ⟨lv', _, at', h⟩)
    (fun _ st1 st2 h o => by
      obtain ⟨⟨lv', at', more, h, h2⟩, b6, b5, bl⟩ := h
      exact ⟨⟨lv', at', more, h.oth o, h2⟩, by rw [o.2 _ (by omega) (by rw [b6]; rfl), b6], by rw [o.2 _ (by omega) (by rw [b5]; rfl), b5], by have := o.1; omega⟩)
    (fun x hxm v st1 K1 hw => by
      obtain ⟨⟨lv1, at1, more, K1, hv1, hpre⟩, b6, b5, bl⟩ := K1
      obtain ⟨r, st', q, W, E⟩ := c157 t x (hx x hxm).1 (hx x hxm).2 K1 (by have := cntTs_mem hxm; omega) b6 b5 bl (by omega)
      refine ⟨r, st', by simpa using q, W, ?_⟩
      unfold FN
      cases hR : anyR qn m (nlocs t.k t.s v.1 x) x with
      | ok y =>
        rw [hR] at E
        obtain ⟨e1, lv2, at2, e2, e3⟩ := E
        obtain ⟨m2, hm2⟩ : ∃ m2, nlocs t.k t.s v.1 x = v.1 ++ m2 := by
          unfold nlocs
          split
          · exact ⟨_, rfl⟩
          · exact ⟨[], (List.append_nil _).symm⟩
        refine ⟨e1, ⟨⟨lv2, at2, more ++ m2, e2, by show verOf lv2 ≤ v.2 + cntT x; omega, ?_⟩, by rw [W.2 _ (by omega) (by simp) (by rw [b6]; rfl), b6], by rw [W.2 _ (by omega) (by simp) (by rw [b5]; rfl), b5], by have := W.1; omega⟩, Nat.le_refl _⟩
        show nlocs t.k t.s v.1 x = _
        rw [hm2, hpre, List.append_assoc]
      | error y =>
        obtain ⟨a, y⟩ := y
        rw [hR] at E
        obtain ⟨e1, lv2, locs2, e2, e3, e4⟩ := E
        have hlen : locs.length ≤ v.1.length := by rw [hpre]; simp
        exact ⟨e1, lv2, locs2, e2, by omega, by omega⟩) (locs, verOf lv) J0 (by show verOf lv + _ ≤ _; omega)
  have b6 : St.at st1 st.length = bx6 t L0 1 := by rw [W.2 _ (by omega) (by simp) (by rw [a6]; rfl), a6]
  have ln1 : st.length + 2 ≤ st1.length := by have := W.1; omega
  have hany : anyR qn m locs t = okR (fstR (eachR (FN m t.k t.s) (locs, verOf lv) t.l)) fun ls => .mk t.k t.n [] .nil ls t.a t.b := by
    have hn29 : t.k ≠ 29 := by omega
    have h19 : ¬ t.k = 19 := by omega
    have hbad : ¬ badN m t.k t.s = true := by
      have e1 : ¬ t.k = 16 := by omega
      have e2 : ¬ t.k = 15 := by omega
      have e3 : ¬ t.k = 4 := by omega
      unfold badN; simp [e1, e2, e3]
    have hnum : numN m t.k t.n t.s = t.n := by unfold numN; rw [if_neg (by omega)]
    rw [anyR_eq2, if_neg h19, if_neg hbad, hnum, if_neg (by omega)]
    have : anyRs qn m t.k t.s locs 0 locs t.l = fstR (eachR (FN m t.k t.s) (locs, verOf lv) t.l) := by
      by_cases c : t.k = 25
      · rw [c]; exact anys_loop m t.s locs (verOf lv) t.l (h25 c)
      · exact anys_nest m t.k t.s locs c hn29 t.l 0 locs (verOf lv)
    rw [this]
  rw [hany]
  obtain ⟨Z, hZ⟩ : ∃ Z : Tm → St → Prop, Z = fun x st' => Fr none st st' ∧ match okR (fstR (eachR (FN m t.k t.s) (locs, verOf lv) t.l)) (fun ls => Tm.mk t.k t.n [] .nil ls t.a t.b) with
      | .ok y => y = x ∧ ∃ lv' at', Sc m st' lv' locs at' 0 ∧ verOf lv' ≤ verOf lv + cntTs t.l
      | .error (a, y) => y ≠ 0 ∧ Se m st' locs.length (verOf lv + cntTs t.l) a y := ⟨_, rfl⟩
  suffices h : Ret (ev T 142 [.hp 1 0 10 0 0, encT t] st) fun r st' => ∃ x, r = encT x ∧ Z x st' by
    obtain ⟨r, st', h1, x, rfl, hz⟩ := h
    rw [hZ] at hz
    exact ⟨x, st', callD_freE (fn := F142) rfl rfl (by simp) h1 (by simp) (by simp), hz⟩
  have q' : callD T (ev T) 37 [.hp 1 0 10 0 0, L0, .fn 157 [] [.kp 1 0 10 0 0, .hp st.length 0 6 0 0, .hp (st.length + 1) 0 1 0 0]] (st ++ [.cells true 6 0 1 false [.agg [.int .i64 t.k, .int .i64 t.n, .str [], L0, .int .i64 t.a, .int .i64 t.b]], .cells true 1 0 1 false [.str t.s]]) = some (slE 6 .nil (encTs rs), st1) := by
    rw [hst0, ← hL0] at q
    exact q
  -- what stands there behind the parts
  have cut : ∀ (lv2 : D) (locs2 : List Nm) (a2 e2 : Int), Sc m st1 lv2 locs2 a2 e2 → locs.length ≤ locs2.length → ∃ (lv3 : D) (md2 : Nat), St.at (List.set st1 st.length (bx6 t (slE 6 .nil (encTs rs)) 2)) 1 = scO m lv2 a2 e2 md2 ∧ lv2.okv = true ∧ lv2.cells = [lv2] ∧ slcTy (some 1) lv2 = true ∧ sliceD lv2 none (some (.int .i64 locs.length)) none = some lv3 ∧ lv3.okv = true ∧ lv3.cells = [lv3] ∧ verOf lv3 = verOf lv2 ∧
      ∀ md, Sc m (List.set (List.set st1 st.length (bx6 t (slE 6 .nil (encTs rs)) 2)) 1 (scO m lv3 a2 e2 md)) lv3 (locs2.take locs.length) a2 e2 ∧ Fr none st (List.set (List.set st1 st.length (bx6 t (slE 6 .nil (encTs rs)) 2)) 1 (scO m lv3 a2 e2 md)) := by
    intro lv2 locs2 a2 e2 K2 hle
    have hat : ∀ i, i ≠ st.length → St.at (List.set st1 st.length (bx6 t (slE 6 .nil (encTs rs)) 2)) i = St.at st1 i := fun i hi => by rw [at_set _ _ _ _ (by omega), if_neg hi]
    have K3 : Sc m (List.set st1 st.length (bx6 t (slE 6 .nil (encTs rs)) 2)) lv2 locs2 a2 e2 := K2.to (by simp) fun i hi hc => hat i (by
      rcases hc with rfl | rfl | hc
      · omega
      · omega
      · rintro rfl; rw [b6] at hc; exact hc)
    obtain ⟨lv3, s1, s2, s3, s4, s5, s6⟩ := K3.back locs.length hle
    obtain ⟨md2, k2⟩ := K3.h1
    have Fr1 : Fr none st (List.set st1 st.length (bx6 t (slE 6 .nil (encTs rs)) 2)) := by
      refine ⟨by simp; omega, fun i hi _ hk => ?_⟩
      rw [hat i (by omega), W.2 i (by omega) (by simp) (by rw [old i hi]; exact hk), old i hi]
    exact ⟨lv3, md2, k2, K2.hw.facts.1, K2.hw.facts.2.1, s2, s1 _ rfl, s3, s4, s5, fun md => ⟨(s6 md).1, Fr1.trans (s6 md).2⟩⟩
  have hA1 : ∀ l, St.at (st ++ l) 1 = scO m lv at0 0 md := fun l => by rw [at_lt _ _ hl]; exact h1
  refine Ret_wp (fn := F142) rfl ?_
  rw [F142]
  have hl1 : 1 < st1.length := by omega
  have hl2 : st.length < st1.length := by omega
  have hz : ∀ X Y, St.at (List.set (List.set st1 st.length X) 1 Y) st.length = X := fun X Y => by
    rw [at_set _ _ _ _ (by simpa using hl1), if_neg (by omega), at_set _ _ _ _ hl2, if_pos rfl]
  cases hE : eachR (FN m t.k t.s) (locs, verOf lv) t.l with
  | ok y =>
    obtain ⟨ss, v⟩ := y
    rw [hE] at E
    obtain ⟨rfl, ⟨⟨lv2, at2, more, K2, hv2, hpre⟩, _⟩, hw⟩ := E
    obtain ⟨lv3, md2, k2, o1, o2, o3, o4, o5, o6, o7, o8⟩ := cut lv2 v.1 at2 0 K2 (by rw [hpre]; simp)
    have o8 := o8 (md2 + 1)
    rw [show v.1.take locs.length = locs from by rw [hpre]; simp] at o8
    have fin : Z (.mk t.k t.n [] .nil ss t.a t.b) (List.set (List.set st1 st.length (bx6 t (slE 6 .nil (encTs ss)) 2)) 1 (scO m lv3 at2 0 (md2 + 1))) := by
      rw [hZ, hE]
      exact ⟨o8.2, rfl, lv3, at2, o8.1, by simp only at hw; omega⟩
    clear hZ
    unfold scO bx6 at k2 fin
    unfold scO at hA1
    unfold bx6 at b6
    simp [← hL0, hA1, x1, x2, x3, x4, at_app, at_app0, set_app, set_app0, kHs, splice, fillD, q', b6, k2, hl1, hl2, hz, o1, o2, o3, o4, o5, o6]
    exact ⟨_, (encT_eq (.mk t.k t.n [] .nil ss t.a t.b)).symm, fin⟩
  | error y =>
    obtain ⟨a, y⟩ := y
    rw [hE] at E
    obtain ⟨hy, lv2, locs2, K2, hle, hv2⟩ := E
    obtain ⟨lv3, md2, k2, o1, o2, o3, o4, o5, o6, o7, o8⟩ := cut lv2 locs2 a y K2 hle
    have o8 := o8 (md2 + 1)
    have fin : Z (.mk t.k t.n [] .nil rs t.a t.b) (List.set (List.set st1 st.length (bx6 t (slE 6 .nil (encTs rs)) 2)) 1 (scO m lv3 a y (md2 + 1))) := by
      rw [hZ, hE]
      exact ⟨o8.2, hy, lv3, _, o8.1, by rw [List.length_take]; omega, by omega⟩
    clear hZ
    unfold scO bx6 at k2 fin
    unfold scO at hA1
    unfold bx6 at b6
    simp [← hL0, hA1, x1, x2, x3, x4, at_app, at_app0, set_app, set_app0, kHs, splice, fillD, q', b6, k2, hl1, hl2, hz, o1, o2, o3, o4, o5, o6]
    exact ⟨_, (encT_eq (.mk t.k t.n [] .nil rs t.a t.b)).symm, fin⟩

/-- Statements, and blocks. -/
theorem stmt_walk (t : Tm) : (stX t = true → StmtW m t) ∧ (t.k = 29 → stX t = true → BlockW m t) := by
  induction t using Tm.ind with
  | h t ih =>
    have blk : t.k = 29 → stX t = true → BlockW m t := fun h29 hs => by
      rw [stX_eq, if_pos h29, List.all_eq_true] at hs
      exact c74' t h29 fun x hx => (ih x hx).1 (hs x hx)
    refine ⟨fun hs => ?_, blk⟩
    intro st lv locs at0 K hb
    have hct := cntT_eq t
    obtain ⟨md, h1⟩ := K.h1
    obtain ⟨x1, x2, x3, x4, x5⟩ := K.hw.facts
    obtain ⟨Z, hZ⟩ : ∃ Z : Tm → St → Prop, Z = fun r st' => Fr none st st' ∧ match anyR qn m locs t with
      | .ok y => y = r ∧ ∃ lv' at', Sc m st' lv' (moreN locs t) at' 0 ∧ verOf lv' ≤ verOf lv + cntT t
      | .error (a, y) => y ≠ 0 ∧ Se m st' locs.length (verOf lv + cntT t) a y := ⟨_, rfl⟩
    suffices h : Ret (ev T 119 [.hp 1 0 10 0 0, encT t] st) fun r st' => ∃ x, r = encT x ∧ Z x st' by
      obtain ⟨r, st', h1, x, rfl, hz⟩ := h
      rw [hZ] at hz
      exact ⟨x, st', callD_freE (fn := F119) rfl rfl (by simp) h1 (by simp) (by simp), hz⟩
    refine Ret_wp (fn := F119) rfl ?_
    rw [F119]
    by_cases h29 : t.k = 29
    · have hm : moreN locs t = locs := by unfold moreN; rw [if_neg (by omega)]
      obtain ⟨r, st1, q, W, E⟩ := blk h29 hs st lv locs at0 K (by omega)
      have fin : Z r st1 := by
        rw [hZ, hm]
        refine ⟨W, ?_⟩
        cases hR : anyR qn m locs t with
        | ok y =>
          rw [hR] at E
          obtain ⟨e1, lv3, at3, e2, e3⟩ := E
          exact ⟨e1, lv3, at3, e2, by omega⟩
        | error y =>
          obtain ⟨a, y⟩ := y
          rw [hR] at E
          obtain ⟨e1, lv3, locs3, e2, e3, e4⟩ := E
          exact ⟨e1, lv3, locs3, e2, e3, by omega⟩
      have h29' := eq_true h29
      clear hZ
      simp [h29', ← encT_eq, q, splice, fillD]
      exact ⟨r, rfl, fin⟩
    have hs' := hs
    rw [stX_eq, if_neg h29] at hs
    by_cases hn : t.k = 23 ∨ t.k = 24 ∨ t.k = 25
    · rw [if_pos hn, Bool.and_eq_true, List.all_eq_true] at hs
      have hm : moreN locs t = locs := by unfold moreN; rw [if_neg (by omega)]
      obtain ⟨r, st1, q, W, E⟩ := c142 (m := m) (st := st) t hn (fun c => by simpa [c] using hs.1) (fun x hx => by
        have := hs.2 x hx
        unfold okX at this
        refine ⟨fun c => ?_, fun c => ?_⟩
        · rw [if_pos c] at this; exact (ih x hx).2 c this
        · rw [if_neg c] at this; exact this) K (by omega)
      have fin : Z r st1 := by
        rw [hZ, hm]
        refine ⟨W, ?_⟩
        cases hR : anyR qn m locs t with
        | ok y =>
          rw [hR] at E
          obtain ⟨e1, lv3, at3, e2, e3⟩ := E
          exact ⟨e1, lv3, at3, e2, by omega⟩
        | error y =>
          obtain ⟨a, y⟩ := y
          rw [hR] at E
          obtain ⟨e1, lv3, locs3, e2, e3, e4⟩ := E
          exact ⟨e1, lv3, locs3, e2, e3, by omega⟩
      clear hZ
      have n20 : (t.k = 20) = False := eq_false (by omega)
      have n21 : (t.k = 21) = False := eq_false (by omega)
      have n29 := eq_false h29
      rcases hn with hn | hn | hn
      · have hn' := eq_true hn
        simp [n29, n20, n21, hn', ← encT_eq, q, splice, fillD]
        exact ⟨r, rfl, fin⟩
      · have hn' := eq_true hn
        have n23 : (t.k = 23) = False := eq_false (by omega)
        simp [n29, n20, n21, n23, hn', ← encT_eq, q, splice, fillD]
        exact ⟨r, rfl, fin⟩
      · have hn' := eq_true hn
        have n23 : (t.k = 23) = False := eq_false (by omega)
        have n24 : (t.k = 24) = False := eq_false (by omega)
        simp [n29, n20, n21, n23, n24, hn', ← encT_eq, q, splice, fillD]
        exact ⟨r, rfl, fin⟩
    rw [if_neg hn] at hs
    have n29 := eq_false h29
    have n23 : (t.k = 23) = False := eq_false (by omega)
    have n24 : (t.k = 24) = False := eq_false (by omega)
    have n25 : (t.k = 25) = False := eq_false (by omega)
    obtain ⟨r, st1, q, W, E⟩ := c73 t st lv locs at0 hs K (by omega) (by omega)
    by_cases hL : t.k = 20 ∨ t.k = 21
    · have hm : moreN locs t = locs ++ [t.s] := by unfold moreN; rw [if_pos hL]
      -- the name comes, whatever the term came to
      have psh : ∃ (lv2 lv3 : D) (a2 e2 : Int) (st2 : St) (md2 : Nat), St.at st1 1 = scO m lv2 a2 e2 md2 ∧ lv2.okv = true ∧ lv2.cells = [lv2] ∧ appendD st1 lv2 [.str t.s] 1 = some (lv3, st2) ∧ lv3.okv = true ∧ lv3.cells = [lv3] ∧ ∃ md3, St.at st2 1 = scO m lv2 a2 e2 md3 ∧ 1 < st2.length ∧ Z r (List.set st2 1 (scO m lv3 a2 e2 (md3 + 1))) := by
        cases hR : anyR qn m locs t with
        | ok y =>
          rw [hR] at E
          obtain ⟨e1, K1⟩ := E
          obtain ⟨lv3, st2, md3, a1, o1, o2, hv, hl1, k1, fin⟩ := K1.push (by omega) t.s
          obtain ⟨md2, k2⟩ := K1.h1
          refine ⟨lv, lv3, at0, 0, st2, md2, k2, x1, x2, a1, o1, o2, md3, k1, hl1, ?_⟩
          rw [hZ, hR, hm]
          exact ⟨W.trans (fin _).2, e1, lv3, at0, (fin _).1, by omega⟩
        | error y =>
          obtain ⟨a, y⟩ := y
          rw [hR] at E
          obtain ⟨e1, lv2, locs2, K1, e3, e4⟩ := E
          obtain ⟨lv3, st2, md3, a1, o1, o2, hv, hl1, k1, fin⟩ := K1.push (by omega) t.s
          obtain ⟨md2, k2⟩ := K1.h1
          refine ⟨lv2, lv3, a, y, st2, md2, k2, K1.hw.facts.1, K1.hw.facts.2.1, a1, o1, o2, md3, k1, hl1, ?_⟩
          rw [hZ, hR]
          exact ⟨W.trans (fin _).2, e1, lv3, _, (fin _).1, by simp; omega, by omega⟩
      obtain ⟨lv2, lv3, a2, e2, st2, md2, k2, o1, o2, a1, o3, o4, md3, k3, hl3, fin⟩ := psh
      clear hZ
      unfold scO at k2 k3 fin
      rcases hL with hL | hL
      · have hL' := eq_true hL
        simp [n29, hL', ← encT_eq, q, k2, k3, a1, o1, o2, o3, o4, hl3, kHs, splice, fillD]
        exact ⟨r, encT_eq r ▸ rfl, fin⟩
      · have hL' := eq_true hL
        have n20 : (t.k = 20) = False := eq_false (by omega)
        simp [n29, n20, hL', ← encT_eq, q, k2, k3, a1, o1, o2, o3, o4, hl3, kHs, splice, fillD]
        exact ⟨r, encT_eq r ▸ rfl, fin⟩
    · have hm : moreN locs t = locs := by unfold moreN; rw [if_neg hL]
      have n20 : (t.k = 20) = False := eq_false (by omega)
      have n21 : (t.k = 21) = False := eq_false (by omega)
      have fin : Z r st1 := by
        rw [hZ, hm]
        refine ⟨W, ?_⟩
        cases hR : anyR qn m locs t with
        | ok y =>
          rw [hR] at E
          exact ⟨E.1, lv, at0, E.2, by omega⟩
        | error y =>
          obtain ⟨a, y⟩ := y
          rw [hR] at E
          obtain ⟨e1, lv3, locs3, e2, e3, e4⟩ := E
          exact ⟨e1, lv3, locs3, e2, e3, by omega⟩
      clear hZ
      simp [n29, n20, n21, n23, n24, n25, ← encT_eq, q, splice, fillD]
      exact ⟨r, rfl, fin⟩
end Go.Nt.Lk
