/-
  NAMES RESOLVED by the reference, walked (3): the parts of a term.
  No condition.
-/
import Derived.Test.YtpfdoelhoiohdaaSpRef2
import Derived.Test.YtpfdoelhoiohdaaSpTerm2
set_option linter.unusedSimpArgs false
set_option maxRecDepth 20000
namespace Go.Nt.Lk
open Go Go.Nt

abbrev qe : List Tm → Fl := fun _ => .emp
theorem gotR_ok (x : Tm) : gotR (.ok x) = .agg [.int .i64 x.k, .int .i64 x.n, .str x.s, slE 6 x.fl (encTs x.l), .int .i64 x.a, .int .i64 x.b, .int .i64 0, .int .i64 0] := rfl
theorem gotR_er (a e : Int) : gotR (.error (a, e)) = .agg [.int .i64 0, .int .i64 0, .str [], .nils, .int .i64 0, .int .i64 0, .int .i64 a, .int .i64 e] := rfl

/-- A row of terms is none of names. -/
theorem rawKeepN {st st' : St} {L : D} {l : List D} (h : RawX 6 st L l) (hl : st.length ≤ st'.length) (ha : ∀ i, i < st.length → ¬ isN (St.at st i) → St.at st' i = St.at st i) : RawX 6 st' L l := by
  rcases h with h | ⟨id, md, h0, rfl, h1, h2⟩
  · exact .inl h
  · exact .inr ⟨id, md, h0, rfl, by rw [ha id h2 (by rw [h1]; exact fun c => c), h1], by omega⟩
theorem Kn.app {st st' : St} {K L : D} {l : List Nm} {rs : List D} (h : Kn st K l) (R : RawX 6 st L rs) (hl : st.length ≤ st'.length) (ha : ∀ i, i < st.length → (rs = [] ∨ i ≠ idOf L) → St.at st' i = St.at st i) : Kn st' K l := by
  refine h.keep hl fun i hi hn => ha i hi ?_
  rcases R with ⟨h, _⟩ | ⟨j, md, h0, rfl, h1, h2⟩
  · exact .inl h
  · right
    intro e
    rw [e, show idOf (.rs j (rs.length - 1) 6 0 rs.length false) = j from rfl, h1] at hn
    exact hn

/-- One thing and more. -/
def consR (a : Er Tm) (b : Er (List Tm)) : Er (List Tm) := match a with
  | .error e => .error e
  | .ok x => match b with
    | .error e => .error e
    | .ok xs => .ok (x :: xs)
theorem anyRs_cons (q : List Tm → Fl) (m : Tm) (k : Int) (s : Nm) (base : List Nm) (i : Nat) (known : List Nm) (t : Tm) (r : List Tm) : anyRs q m k s base i known (t :: r) =
    consR (anyR q m (if k = 25 ∧ i = 2 then base ++ [s] else known) t) (anyRs q m k s base (i + 1) (if k = 29 then moreN known t else if k = 25 ∧ i = 2 then base ++ [s] else known) r) := by
  rw [anyRs]
  unfold consR
  cases anyR q m (if k = 25 ∧ i = 2 then base ++ [s] else known) t with
  | error e => rfl
  | ok x => cases anyRs q m k s base (i + 1) (if k = 29 then moreN known t else if k = 25 ∧ i = 2 then base ++ [s] else known) r <;> rfl

/-- How the loop ends. -/
def Q76 (t : Tm) (N : Int) (S : Nm) (rs : List Tm) (bx : List (Nat × List D)) (R : Er (List Tm)) (e : Ex) (b' : List (Nat × List D)) (st' : St) : Prop :=
  match R with
  | .error (a, y) => e = .ret ∧ getB b' 6 = (1, [.int .i64 0, .int .i64 0, .str [], .nils, .int .i64 0, .int .i64 0, .int .i64 a, .int .i64 y])
  | .ok xs => e = .exit 0 ∧ getB b' 6 = getB bx 6 ∧ ∃ L', getB b' 7 = (1, [.int .i64 t.k, .int .i64 N, .str S, L', .int .i64 t.a, .int .i64 t.b]) ∧ RawX 6 st' L' (encTs (rs ++ xs))

theorem cnt_at : ∀ (l : List Tm) (i : Nat) (h : i < l.length), i + cntT l[i] ≤ cntTs l
  | [], i, h => by cases h
  | t :: l, 0, h => by simp only [cntTs, List.getElem_cons_zero]; omega
  | t :: l, i + 1, h => by
    have := cnt_at l i (by simpa using h)
    have := cntT_eq t
    simp only [cntTs, List.getElem_cons_succ]
    omega

theorem rawApp6 {st : St} {L : D} {rs : List Tm} (R : RawX 6 st L (encTs rs)) (hb : rs.length ≤ 1000000) (x : Tm) :
    ∃ L' st', appendD st L [encT x] 6 = some (L', st') ∧ RawX 6 st' L' (encTs (rs ++ [x])) ∧ st.length ≤ st'.length ∧ (∀ i, i < st.length → (encTs rs = [] ∨ i ≠ idOf L) → St.at st' i = St.at st i) ∧ L'.okv = true ∧ L'.cells = [L'] := by
  obtain ⟨L', st', a1, a2, a3, a4, _⟩ := R.app (by omega) (by omega) (by simpa using hb) (encT x)
  have e : encTs (rs ++ [x]) = encTs rs ++ [encT x] := by rw [encTs_append]; simp
  rw [← e] at a2
  exact ⟨L', st', a1, a2, a3, a4, a2.facts.1, a2.facts.2.1⟩

theorem l76 (m : Tm) (t : Tm) (N : Int) (S : Nm) (base : List Nm) (bfl : Fl) (hb : base.length + cntT t ≤ 1000000)
    (hc : ∀ u, u ∈ t.l → ∀ fl l st, l.length + cntT u ≤ 1000000 → callD T (ev T) 76 [encT m, strL fl l, encT u] st = some (gotR (anyR qe m l u), st)) :
    ∀ (r i : Nat) (known : List Nm) (K L : D) (rs : List Tm) (s : List D) (bx : List (Nat × List D)) (st : St), r = t.l.length - i → i ≤ t.l.length → Kn st K known → known.length ≤ base.length + i → RawX 6 st L (encTs rs) → rs.length = i →
      get s 1 = strL bfl base → get s 3 = .lp 3 1 0 → getB bx 3 = (1, clT m) → get s 5 = .lp 5 1 0 → getB bx 5 = (1, clT t) → get s 6 = .lp 6 1 0 → (getB bx 6).1 = 1 → (getB bx 6).2.length = 8 →
      get s 7 = .lp 7 1 0 → getB bx 7 = (1, [.int .i64 t.k, .int .i64 N, .str S, L, .int .i64 t.a, .int .i64 t.b]) → get s 8 = K → get s 9 = .int .i64 i →
    Stops (lp T L76_0 ⟨⟨s, bx⟩, st⟩) fun e _ b' st' => Q76 t N S rs bx (anyRs qe m t.k t.s base i known (t.l.drop i)) e b' st' := by
  intro r
  induction r with
  | zero =>
    intro i known K L rs s bx st hr hi kn hk R hrs h1 h3 b3 h5 b5 h6 b6 b6' h7 b7 h8 h9
    have e : i = t.l.length := by omega
    rw [e, List.drop_length, anyRs]
    refine Stops_wp L76_0.eq_1 ?_
    simp [h1, h3, b3, h5, b5, h7, b7, h8, h9, e, Q76]
    exact R
  | succ r ih =>
    intro i known K L rs s bx st hr hi kn hk R hrs h1 h3 b3 h5 b5 h6 b6 b6' h7 b7 h8 h9
    have hlt : i < t.l.length := by omega
    have hct := cntT_eq t
    have hcl := cntTs_len t.l
    have hcm := cnt_at t.l i hlt
    have hw : IntKind.wrap .i64 ((i : Int) + 1) = ((i + 1 : Nat) : Int) := by rw [wrap64] <;> omega
    rw [List.drop_eq_getElem_cons hlt, anyRs_cons]
    obtain ⟨r1, r2, r3, r4⟩ := R.facts
    -- behind the row of names
    have go : ∀ (K1 : D) (known1 : List Nm) (st1 : St), Kn st1 K1 known1 → st.length ≤ st1.length → (∀ i, i < st.length → St.at st1 i = St.at st i) → known1.length ≤ base.length + i + 1 → (¬ t.k = 25 ∨ ¬ i = 2) ∧ K1 = K ∧ known1 = known ∧ st1 = st ∨ ((t.k = 25 ∧ i = 2) ∧ known1 = base ++ [t.s] ∧ ∃ L1 st0, appendD st (.sl 1 true []) (base.map .str) 1 = some (L1, st0) ∧ appendD st0 L1 [.str t.s] 1 = some (K1, st1) ∧ L1.okv = true) →
        Stops (lp T L76_0 ⟨⟨s, bx⟩, st⟩) fun e _ b' st' => Q76 t N S rs bx (consR (anyR qe m known1 t.l[i]) (anyRs qe m t.k t.s base (i + 1) (if t.k = 29 then moreN known t.l[i] else known1) (t.l.drop (i + 1)))) e b' st' := by
      intro K1 known1 st1 kn1 hl1 hat1 hk1 hcase
      have R1 : RawX 6 st1 L (encTs rs) := rawKeepN R hl1 fun i hi _ => hat1 i hi
      obtain ⟨fl2, st2, f2, hl2, kn2, hat2⟩ := kn1.frz
      have R2 : RawX 6 st2 L (encTs rs) := rawKeepN R1 (by omega) fun i _ hn => hat2 i hn
      have q0 := hc t.l[i] (List.getElem_mem hlt) fl2 known1 st2 (by omega)
      have q : callD T (ev T) 76 [encT m, K1, encT t.l[i]] st1 = some (gotR (anyR qe m known1 t.l[i]), st2) := by
        refine callD_free (fn := F76) rfl rfl ?_ ?_ q0
        · simp [pureArgs, f2]
        · simp [pureArgs]
      have kok := kn.okv
      have kok1 := kn1.okv
      have qq := any_err (q := qe) (m := m) t.l[i] known1
      cases hx : anyR qe m known1 t.l[i] with
      | error x =>
        obtain ⟨a, y⟩ := x
        have hy := qq _ hx
        simp only at hy
        subst hy
        rw [hx, gotR_er] at q
        have hcr : ∀ R', consR (.error (a, 8)) R' = .error (a, 8) := fun _ => rfl
        rw [hcr]
        refine Stops_wp L76_0.eq_1 ?_
        rcases hcase with ⟨c1, rfl, rfl, rfl⟩ | ⟨⟨c1, c2⟩, rfl, L1, st0, a1, a2, a3⟩
        · have c2 : t.k = 25 → ¬ (i : Int) = 2 := fun c => by
            rcases c1 with c1 | c1
            · exact absurd c c1
            · omega
          by_cases h25 : t.k = 25
          · have c2 := eq_false (c2 h25)
            have h25 := eq_true h25
            simp [h1, h3, b3, h5, b5, h6, b6, b6', h7, b7, h8, h9, hlt, hw, kok, ← encT_eq, q, h25, c2, splice, fillD, Q76, -Int.natCast_add]
          · simp [h1, h3, b3, h5, b5, h6, b6, b6', h7, b7, h8, h9, hlt, hw, kok, ← encT_eq, q, h25, splice, fillD, Q76, -Int.natCast_add]
        · have src := strL_src st bfl base
          have c2 : ((i : Int) = 2) = True := eq_true (by omega)
          have c1 := eq_true c1
          simp [h1, h3, b3, h5, b5, h6, b6, b6', h7, b7, h8, h9, hlt, hw, kok, kok1, ← encT_eq, q, c1, c2, src, a1, a2, a3, splice, fillD, Q76, -Int.natCast_add]
      | ok x =>
        rw [hx, gotR_ok] at q
        obtain ⟨L3, st3, a3, R3, hl3, hat3, o3, o3'⟩ := rawApp6 R2 (by omega) x
        have kn3 : Kn st3 K1 known1 := kn2.app R2 hl3 hat3
        have fin : ∀ (R' : Er (List Tm)) (e : Ex) (bx' b' : List (Nat × List D)) (st' : St), getB bx' 6 = getB bx 6 → Q76 t N S (rs ++ [x]) bx' R' e b' st' → Q76 t N S rs bx (consR (.ok x) R') e b' st' := by
          intro R' e bx' b' st' hb6 h
          rcases R' with ⟨a, y⟩ | xs
          · exact h
          · obtain ⟨h1, h2, L', h3, h4⟩ := h
            refine ⟨h1, h2.trans hb6, L', h3, ?_⟩
            rw [List.append_assoc] at h4
            exact h4
        by_cases h29 : t.k = 29
        · obtain ⟨fl4, st4, f4, hl4, kn4, hat4⟩ := kn3.frz
          have R4 : RawX 6 st4 L3 (encTs (rs ++ [x])) := rawKeepN R3 (by omega) fun i _ hn => hat4 i hn
          obtain ⟨fl5, q5⟩ := c123 fl4 known1 (by omega) t.l[i] st4
          have q5' : callD T (ev T) 123 [K1, encT t.l[i]] st3 = some (strL fl5 (moreN known1 t.l[i]), st4) := by
            refine callD_free (fn := F123) rfl rfl ?_ ?_ q5
            · simp [pureArgs, f4]
            · simp [pureArgs]
          have hml : (moreN known1 t.l[i]).length ≤ base.length + (i + 1) := by
            rcases hcase with ⟨_, _, rfl, _⟩ | ⟨⟨c1, _⟩, _⟩
            · unfold moreN
              split
              · simp; omega
              · omega
            · omega
          rcases hcase with ⟨c1, rfl, rfl, rfl⟩ | ⟨⟨c1, c2⟩, _⟩
          · rw [if_pos h29]
            have h25 : (t.k = 25) = False := eq_false (by omega)
            have nx := fun s' bx' => ih (i + 1) (moreN known1 t.l[i]) (strL fl5 (moreN known1 t.l[i])) L3 (rs ++ [x]) s' bx' st4 (by omega) (by omega) (.inl ⟨fl5, rfl⟩) hml R4 (by simp; omega)
            generalize anyRs qe m t.k t.s base (i + 1) (moreN known1 t.l[i]) (t.l.drop (i + 1)) = R' at *
            have fin := fin R'
            generalize Q76 t N S rs bx (consR (.ok x) R') = Q at *
            refine Stops_wp L76_0.eq_1 ?_
            simp [h1, h3, b3, h5, b5, h6, b6, b6', h7, b7, h8, h9, hlt, hw, kok, ← encT_eq, q, eq_true h29, h25, r1, r2, a3, o3, o3', q5', splice, fillD, -Int.natCast_add]
            refine Stops.mono (nx _ _ ?_ ?_ ?_ ?_ ?_ ?_ ?_ ?_ ?_ ?_ ?_ ?_) ?_
            iterate 12 simp [h1, h3, b3, h5, b5, h6, b6, b6', h7]
            intro e s' b' st' h
            exact fin _ _ _ _ (by simp) h
          · omega
        · rw [if_neg h29]
          have nx := fun s' bx' => ih (i + 1) known1 K1 L3 (rs ++ [x]) s' bx' st3 (by omega) (by omega) kn3 (by omega) R3 (by simp; omega)
          generalize anyRs qe m t.k t.s base (i + 1) known1 (t.l.drop (i + 1)) = R' at *
          have fin := fin R'
          generalize Q76 t N S rs bx (consR (.ok x) R') = Q at *
          refine Stops_wp L76_0.eq_1 ?_
          rcases hcase with ⟨c1, rfl, rfl, rfl⟩ | ⟨⟨c1, c2⟩, rfl, L1, st0, a1, a2, a4⟩
          · have c2 : t.k = 25 → ¬ (i : Int) = 2 := fun c => by
              rcases c1 with c1 | c1
              · exact absurd c c1
              · omega
            have h29 := eq_false h29
            by_cases h25 : t.k = 25
            · have c2 := eq_false (c2 h25)
              have h25 := eq_true h25
              simp [h1, h3, b3, h5, b5, h6, b6, b6', h7, b7, h8, h9, hlt, hw, kok, ← encT_eq, q, h25, h29, c2, r1, r2, a3, o3, o3', splice, fillD, -Int.natCast_add]
              refine Stops.mono (nx _ _ ?_ ?_ ?_ ?_ ?_ ?_ ?_ ?_ ?_ ?_ ?_ ?_) ?_
              iterate 12 simp [h1, h3, b3, h5, b5, h6, b6, b6', h7, h8]
              intro e s' b' st' h
              exact fin _ _ _ _ (by simp) h
            · simp [h1, h3, b3, h5, b5, h6, b6, b6', h7, b7, h8, h9, hlt, hw, kok, ← encT_eq, q, h25, h29, r1, r2, a3, o3, o3', splice, fillD, -Int.natCast_add]
              refine Stops.mono (nx _ _ ?_ ?_ ?_ ?_ ?_ ?_ ?_ ?_ ?_ ?_ ?_ ?_) ?_
              iterate 12 simp [h1, h3, b3, h5, b5, h6, b6, b6', h7, h8]
              intro e s' b' st' h
              exact fin _ _ _ _ (by simp) h
          · have src := strL_src st bfl base
            have c2 : ((i : Int) = 2) = True := eq_true (by omega)
            have c1 := eq_true c1
            have h29 := eq_false h29
            simp [h1, h3, b3, h5, b5, h6, b6, b6', h7, b7, h8, h9, hlt, hw, kok, kok1, ← encT_eq, q, c1, c2, h29, src, a1, a2, a4, r1, r2, a3, o3, o3', splice, fillD, -Int.natCast_add]
            refine Stops.mono (nx _ _ ?_ ?_ ?_ ?_ ?_ ?_ ?_ ?_ ?_ ?_ ?_ ?_) ?_
            iterate 12 simp [h1, h3, b3, h5, b5, h6, b6, b6', h7, h8]
            intro e s' b' st' h
            exact fin _ _ _ _ (by simp) h
    by_cases hc2 : t.k = 25 ∧ i = 2
    · obtain ⟨L1, st1, id, ver, md, st2, a1, a2, e1, e2, o1, g1, g2⟩ := two_app st base t.s (by omega)
      have := go (.rs id ver 1 0 (base ++ [t.s]).length false) (base ++ [t.s]) st2 (.inr ⟨id, ver, md, false, rfl, e1, e2⟩) g1 g2 (by simp) (.inr ⟨hc2, rfl, L1, st1, a1, a2, o1⟩)
      simpa only [if_pos hc2] using this
    · have := go K known st kn (Nat.le_refl _) (fun _ _ => rfl) (by omega) (.inl ⟨by omega, rfl, rfl, rfl⟩)
      simpa only [if_neg hc2] using this
end Go.Nt.Lk

/-
  NAMES RESOLVED by the reference, walked (4): any term.
  No condition.
-/
set_option linter.unusedSimpArgs false
set_option maxRecDepth 20000
namespace Go.Nt.Lk
open Go Go.Nt

/-- What is made of things that were resolved. -/
def okR (r : Er (List Tm)) (f : List Tm → Tm) : Er Tm := match r with
  | .error e => .error e
  | .ok ls => .ok (f ls)
theorem anyR_eq2 (q : List Tm → Fl) (m : Tm) (locs : List Nm) (t : Tm) : anyR q m locs t = if t.k = 19 then nameR m locs t else if badN m t.k t.s = true then .error (t.a, 8) else
    okR (anyRs q m t.k t.s locs 0 locs t.l) fun ls => .mk t.k (numN m t.k t.n t.s) (if t.k = 13 ∨ t.k = 17 then t.s else []) (q ls) ls t.a t.b := by
  rw [anyR_eq]
  split
  · rfl
  split
  · rfl
  · unfold okR; cases anyRs q m t.k t.s locs 0 locs t.l <;> rfl

theorem c76 (m : Tm) (hm : m.l.length ≤ 1000000) (t : Tm) : ∀ (fl : Fl) (base : List Nm) (st : St), base.length + cntT t ≤ 1000000 → callD T (ev T) 76 [encT m, strL fl base, encT t] st = some (gotR (anyR qe m base t), st) := by
  induction t using Tm.ind with
  | h t ih =>
    intro fl base st hb
    refine callD_pureR (fn := F76) rfl rfl (by simp [pureArgs]) (gotR_pure _) ?_
    refine Ret_wp (fn := F76) rfl ?_
    rw [F76]
    have q1 := fun st => c120 m hm fl base (by omega) t st
    have q2 := fun st => c121 m hm t.s st
    have q3 := fun st => c39 m hm t.s st
    have q4 := fun st => c122 t 8 st
    have lo := fun N S s bx st => l76 m t N S base fl hb (fun u hu fl l st h => ih u hu fl l st h) t.l.length 0 base (strL fl base) (.sl 6 true []) [] s bx st (by omega) (by omega) (.inl ⟨fl, rfl⟩) (by omega) (RawX.nil _ _) rfl
    rw [List.drop_zero] at lo
    rw [anyR_eq2]
    by_cases h19 : t.k = 19
    · rw [if_pos h19]
      have hz := fun st => gotR_fz st (nameR m base t)
      have h19 := eq_true h19
      cases hn : nameR m base t with
      | error x =>
        obtain ⟨a, y⟩ := x
        rw [hn, gotR_er] at q1 hz
        rw [gotR_er]
        simp [h19, ← encT_eq, q1, splice, fillD, hz]
      | ok x =>
        rw [hn, gotR_ok] at q1 hz
        rw [gotR_ok]
        simp [h19, ← encT_eq, q1, splice, fillD, hz]
    rw [if_neg h19]
    have h19 := eq_false h19
    by_cases hbad : badN m t.k t.s = true
    · rw [if_pos hbad, gotR_er]
      have q4' : ∀ st, callD T (ev T) 122 [encT t, .int .i64 8] st = some (.agg [.int .i64 0, .int .i64 0, .str [], .nils, .int .i64 0, .int .i64 0, .int .i64 t.a, .int .i64 8], st) := q4
      have key : (t.k = 16 ∧ ¬ kindN m t.s = 33) ∨ ((t.k = 15 ∨ t.k = 4) ∧ ¬ kindN m t.s = 30) := by
        unfold badN at hbad
        simpa using hbad
      generalize kindN m t.s = kn at *
      rcases key with ⟨k1, k2⟩ | ⟨k1 | k1, k2⟩
      · have e1 : (t.k = 13) = False := eq_false (by omega)
        have e2 : (t.k = 17) = False := eq_false (by omega)
        have k1 := eq_true k1
        simp [h19, e1, e2, k1, k2, ← encT_eq, q2, q4', splice, fillD]
      · have e1 : (t.k = 13) = False := eq_false (by omega)
        have e2 : (t.k = 17) = False := eq_false (by omega)
        have e3 : (t.k = 16) = False := eq_false (by omega)
        have k1 := eq_true k1
        simp [h19, e1, e2, e3, k1, k2, ← encT_eq, q2, q4', splice, fillD]
      · have e1 : (t.k = 13) = False := eq_false (by omega)
        have e2 : (t.k = 17) = False := eq_false (by omega)
        have e3 : (t.k = 16) = False := eq_false (by omega)
        have e4 : (t.k = 15) = False := eq_false (by omega)
        have k1 := eq_true k1
        simp [h19, e1, e2, e3, e4, k1, k2, ← encT_eq, q2, q4', splice, fillD]
    rw [if_neg hbad]
    have hbad' : badN m t.k t.s = false := by simpa using hbad
    -- behind the loop
    have fin : ∀ (N : Int) (S : Nm) (bx : List (Nat × List D)) (e : Ex) (b' : List (Nat × List D)) (st' : St), Q76 t N S [] bx (anyRs qe m t.k t.s base 0 base t.l) e b' st' → N = numN m t.k t.n t.s → S = (if t.k = 13 ∨ t.k = 17 then t.s else []) → ∀ X, X = okR (anyRs qe m t.k t.s base 0 base t.l) (fun ls => .mk t.k (numN m t.k t.n t.s) (if t.k = 13 ∨ t.k = 17 then t.s else []) (qe ls) ls t.a t.b) →
        (e = .ret ∧ ∃ a y, getB b' 6 = (1, [.int .i64 0, .int .i64 0, .str [], .nils, .int .i64 0, .int .i64 0, .int .i64 a, .int .i64 y]) ∧ gotR X = .agg [.int .i64 0, .int .i64 0, .str [], .nils, .int .i64 0, .int .i64 0, .int .i64 a, .int .i64 y]) ∨
        (e = .exit 0 ∧ getB b' 6 = getB bx 6 ∧ ∃ L', getB b' 7 = (1, [.int .i64 t.k, .int .i64 N, .str S, L', .int .i64 t.a, .int .i64 t.b]) ∧ L'.okv = true ∧ L'.cells = [L'] ∧ ∃ st2, fz st' (.agg [.int .i64 t.k, .int .i64 N, .str S, L', .int .i64 t.a, .int .i64 t.b, .int .i64 0, .int .i64 0]) = some (gotR X, st2)) := by
      intro N S bx e b' st' h hN hS X hX
      cases hr : anyRs qe m t.k t.s base 0 base t.l with
      | error x =>
        obtain ⟨a, y⟩ := x
        rw [hr] at h hX
        subst hX
        exact .inl ⟨h.1, a, y, h.2, rfl⟩
      | ok xs =>
        rw [hr] at h hX
        simp only [okR] at hX
        obtain ⟨h1, h2, L', h3, R⟩ := h
        obtain ⟨st2, z1, _⟩ := R.fz2
        subst hX
        refine .inr ⟨h1, h2, L', h3, R.facts.1, R.facts.2.1, st2, ?_⟩
        rw [gotR_ok, hN, hS]
        simp [fz, fz1, fzL, z1]
    generalize hX : okR (anyRs qe m t.k t.s base 0 base t.l) (fun ls => .mk t.k (numN m t.k t.n t.s) (if t.k = 13 ∨ t.k = 17 then t.s else []) (qe ls) ls t.a t.b) = X at *
    have nN : (t.k = 16 ∨ t.k = 15 ∨ t.k = 4) → declI m t.s = numN m t.k t.n t.s := fun h => bad_num hbad' h
    have nN' : ¬ (t.k = 16 ∨ t.k = 15 ∨ t.k = 4) → t.n = numN m t.k t.n t.s := fun h => by unfold numN; rw [if_neg h]
    have badK : (t.k = 16 → kindN m t.s = 33) ∧ (t.k = 15 ∨ t.k = 4 → kindN m t.s = 30) := by
      unfold badN at hbad'
      simp at hbad'
      refine ⟨hbad'.1, fun c => hbad'.2 (by simpa using c)⟩
    generalize numN m t.k t.n t.s = N at *
    generalize kindN m t.s = kn at *
    have hc : t.k = 13 ∨ t.k = 17 ∨ t.k = 16 ∨ t.k = 15 ∨ t.k = 4 ∨ (t.k ≠ 13 ∧ t.k ≠ 17 ∧ t.k ≠ 16 ∧ t.k ≠ 15 ∧ t.k ≠ 4) := by omega
    rcases hc with k1 | k1 | k1 | k1 | k1 | ⟨e1, e2, e3, e4, e5⟩
    · have fin := fin N t.s
      have e3 : (t.k = 16) = False := eq_false (by omega)
      have e4 : (t.k = 15) = False := eq_false (by omega)
      have e5 : (t.k = 4) = False := eq_false (by omega)
      have nN := nN' (by omega)
      have k1' := eq_true k1
      simp [h19, k1', e3, e4, e5, nN, ← encT_eq, q2, q3, splice, fillD]
      refine WL.use L76_0_p L76_0_w (lo N t.s _ _ _ ?_ ?_ ?_ ?_ ?_ ?_ ?_ ?_ ?_ ?_ ?_ ?_) ?_
      iterate 12 simp [nN]
      rintro e s' b' st' h hf
      have f6 := hf 6 rfl
      have f7 := hf 7 rfl
      simp at f6 f7
      rcases fin _ e b' st' h rfl (by rw [if_pos (.inl k1)]) X rfl with ⟨rfl, a, y, b6, hg⟩ | ⟨rfl, b6, L', b7, o1, o2, st2, hz⟩
      · rw [hg]
        simp [f6, b6]
      · simp at b6
        simp [f6, f7, b6, b7, o1, o2, splice, fillD, hz]
    · have fin := fin N t.s
      have e1 : (t.k = 13) = False := eq_false (by omega)
      have e3 : (t.k = 16) = False := eq_false (by omega)
      have e4 : (t.k = 15) = False := eq_false (by omega)
      have e5 : (t.k = 4) = False := eq_false (by omega)
      have nN := nN' (by omega)
      have k1' := eq_true k1
      simp [h19, k1', e1, e3, e4, e5, nN, ← encT_eq, q2, q3, splice, fillD]
      refine WL.use L76_0_p L76_0_w (lo N t.s _ _ _ ?_ ?_ ?_ ?_ ?_ ?_ ?_ ?_ ?_ ?_ ?_ ?_) ?_
      iterate 12 simp [nN]
      rintro e s' b' st' h hf
      have f6 := hf 6 rfl
      have f7 := hf 7 rfl
      simp at f6 f7
      rcases fin _ e b' st' h rfl (by rw [if_pos (.inr k1)]) X rfl with ⟨rfl, a, y, b6, hg⟩ | ⟨rfl, b6, L', b7, o1, o2, st2, hz⟩
      · rw [hg]
        simp [f6, b6]
      · simp at b6
        simp [f6, f7, b6, b7, o1, o2, splice, fillD, hz]
    · have fin := fin N []
      have e1 : (t.k = 13) = False := eq_false (by omega)
      have e2 : (t.k = 17) = False := eq_false (by omega)
      have nN := nN (.inl k1)
      have kK := badK.1 k1
      have k1' := eq_true k1
      have e4 : (t.k = 15) = False := eq_false (by omega)
      have e5 : (t.k = 4) = False := eq_false (by omega)
      simp [h19, k1', e1, e2, e4, e5, kK, nN, ← encT_eq, q2, q3, splice, fillD]
      refine WL.use L76_0_p L76_0_w (lo N [] _ _ _ ?_ ?_ ?_ ?_ ?_ ?_ ?_ ?_ ?_ ?_ ?_ ?_) ?_
      iterate 12 simp [nN]
      rintro e s' b' st' h hf
      have f6 := hf 6 rfl
      have f7 := hf 7 rfl
      simp at f6 f7
      rcases fin _ e b' st' h rfl (by rw [if_neg (by omega)]) X rfl with ⟨rfl, a, y, b6, hg⟩ | ⟨rfl, b6, L', b7, o1, o2, st2, hz⟩
      · rw [hg]
        simp [f6, b6]
      · simp at b6
        simp [f6, f7, b6, b7, o1, o2, splice, fillD, hz]
    · have fin := fin N []
      have e1 : (t.k = 13) = False := eq_false (by omega)
      have e2 : (t.k = 17) = False := eq_false (by omega)
      have e3 : (t.k = 16) = False := eq_false (by omega)
      have nN := nN (.inr (.inl k1))
      have kK := badK.2 (.inl k1)
      have k1' := eq_true k1
      have e5 : (t.k = 4) = False := eq_false (by omega)
      simp [h19, k1', e1, e2, e3, e5, kK, nN, ← encT_eq, q2, q3, splice, fillD]
      refine WL.use L76_0_p L76_0_w (lo N [] _ _ _ ?_ ?_ ?_ ?_ ?_ ?_ ?_ ?_ ?_ ?_ ?_ ?_) ?_
      iterate 12 simp [nN]
      rintro e s' b' st' h hf
      have f6 := hf 6 rfl
      have f7 := hf 7 rfl
      simp at f6 f7
      rcases fin _ e b' st' h rfl (by rw [if_neg (by omega)]) X rfl with ⟨rfl, a, y, b6, hg⟩ | ⟨rfl, b6, L', b7, o1, o2, st2, hz⟩
      · rw [hg]
        simp [f6, b6]
      · simp at b6
        simp [f6, f7, b6, b7, o1, o2, splice, fillD, hz]
    · have fin := fin N []
      have e1 : (t.k = 13) = False := eq_false (by omega)
      have e2 : (t.k = 17) = False := eq_false (by omega)
      have e3 : (t.k = 16) = False := eq_false (by omega)
      have e4 : (t.k = 15) = False := eq_false (by omega)
      have nN := nN (.inr (.inr k1))
      have kK := badK.2 (.inr k1)
      have k1' := eq_true k1
      simp [h19, k1', e1, e2, e3, e4, kK, nN, ← encT_eq, q2, q3, splice, fillD]
      refine WL.use L76_0_p L76_0_w (lo N [] _ _ _ ?_ ?_ ?_ ?_ ?_ ?_ ?_ ?_ ?_ ?_ ?_ ?_) ?_
      iterate 12 simp [nN]
      rintro e s' b' st' h hf
      have f6 := hf 6 rfl
      have f7 := hf 7 rfl
      simp at f6 f7
      rcases fin _ e b' st' h rfl (by rw [if_neg (by omega)]) X rfl with ⟨rfl, a, y, b6, hg⟩ | ⟨rfl, b6, L', b7, o1, o2, st2, hz⟩
      · rw [hg]
        simp [f6, b6]
      · simp at b6
        simp [f6, f7, b6, b7, o1, o2, splice, fillD, hz]
    · have fin := fin N []
      have nN := nN' (by omega)
      simp [h19, e1, e2, e3, e4, e5, nN, ← encT_eq, q2, q3, splice, fillD]
      refine WL.use L76_0_p L76_0_w (lo N [] _ _ _ ?_ ?_ ?_ ?_ ?_ ?_ ?_ ?_ ?_ ?_ ?_ ?_) ?_
      iterate 12 simp [nN]
      rintro e s' b' st' h hf
      have f6 := hf 6 rfl
      have f7 := hf 7 rfl
      simp at f6 f7
      rcases fin _ e b' st' h rfl (by rw [if_neg (by omega)]) X rfl with ⟨rfl, a, y, b6, hg⟩ | ⟨rfl, b6, L', b7, o1, o2, st2, hz⟩
      · rw [hg]
        simp [f6, b6]
      · simp at b6
        simp [f6, f7, b6, b7, o1, o2, splice, fillD, hz]
end Go.Nt.Lk

/-
  NAMES RESOLVED by the program, walked (5): expressions and types.
  No condition.
-/
set_option linter.unusedSimpArgs false
set_option maxRecDepth 20000
namespace Go.Nt.Lk
open Go Go.Nt

abbrev qn : List Tm → Fl := fun _ => .nil

/-- What a thing comes to, and what is known behind it. -/
def withS {α σ : Type} (s : σ) (r : Er α) : Er (α × σ) := match r with
  | .ok x => .ok (x, s)
  | .error e => .error e
def fstR {α σ : Type} (r : Er (α × σ)) : Er α := match r with
  | .ok x => .ok x.1
  | .error e => .error e

theorem anys_plain (q : List Tm → Fl) (m : Tm) (k : Int) (s : Nm) (base locs : List Nm) (h25 : k ≠ 25) (h29 : k ≠ 29) : ∀ (l : List Tm) (i : Nat), anyRs q m k s base i locs l = fstR (eachR (fun (_ : Unit) x => withS () (anyR q m locs x)) () l)
  | [], i => by rw [anyRs, eachR]; rfl
  | t :: l, i => by
    have hc : ¬ (k = 25 ∧ i = 2) := fun c => h25 c.1
    rw [anyRs_cons, eachR, if_neg hc, if_neg h29, anys_plain q m k s base locs h25 h29 l (i + 1)]
    cases anyR q m locs t with
    | error e => rfl
    | ok x =>
      rw [show withS () (Except.ok x : Er Tm) = .ok (x, ()) from rfl]
      simp only
      cases eachR (fun (_ : Unit) x => withS () (anyR q m locs x)) () l with
      | error e => rfl
      | ok y => rfl

variable {m : Tm} {st : St} {lv : D} {locs : List Nm} {at0 e : Int}

/-- How a term ends. -/
def TermE (m t : Tm) (st : St) (lv : D) (locs : List Nm) (at0 : Int) (R : Er Tm) (r : Tm) (st' : St) : Prop := Fr none st st' ∧ match R with
  | .ok x => x = r ∧ Sc m st' lv locs at0 0
  | .error (a, y) => y ≠ 0 ∧ Se m st' locs.length (verOf lv + cntTs t.l) a y

theorem c73 (t : Tm) : ∀ (st : St) (lv : D) (locs : List Nm) (at0 : Int), plX t = true → Sc m st lv locs at0 0 → locs.length ≤ 1000000 → cntT t ≤ 1000000 →
    ∃ r st', callD T (ev T) 73 [.hp 1 0 10 0 0, encT t] st = some (encT r, st') ∧ TermE m t st lv locs at0 (anyR qn m locs t) r st' := by
  induction t using Tm.ind with
  | h t ih =>
    intro st lv locs at0 hp K hl hb
    have hct := cntT_eq t
    have hcl := cntTs_len t.l
    obtain ⟨p25, p29, p19, pl⟩ := (plX_iff t).1 hp
    obtain ⟨md, h1⟩ := K.h1
    obtain ⟨x1, x2, x3, x4, _⟩ := K.hw.facts
    suffices h : Ret (ev T 73 [.hp 1 0 10 0 0, encT t] st) fun r st' => ∃ x, r = encT x ∧ TermE m t st lv locs at0 (anyR qn m locs t) x st' by
      obtain ⟨r, st', h1, x, rfl, hz⟩ := h
      exact ⟨x, st', callD_freE (fn := F73) rfl rfl (by simp) h1 (by simp) (by simp), hz⟩
    rw [anyR_eq2]
    by_cases h19 : t.k = 19
    · rw [if_pos h19]
      have h19' := eq_true h19
      obtain ⟨r, st1, q, W, E⟩ := c117 K hl t
      refine Ret_wp (fn := F73) rfl ?_
      rw [F73]
      simp [h1, scO, x1, x2, x3, h19', ← encT_eq, q, splice, fillD]
      refine ⟨r, rfl, W, ?_⟩
      cases hn : nameR m locs t with
      | ok x => rw [hn] at E; exact E
      | error x =>
        obtain ⟨a, y⟩ := x
        rw [hn] at E
        exact ⟨E.1, lv, locs, E.2, Nat.le_refl _, by omega⟩
    rw [if_neg h19]
    have h19' := eq_false h19
    -- the parts
    have parts : ∀ st0, Sc m st0 lv locs at0 0 → ∃ rs st', callD T (ev T) 37 [.hp 1 0 10 0 0, slE 6 t.fl (encTs t.l), .fn 73 [.hp 1 0 10 0 0] []] st0 = some (slE 6 .nil (encTs rs), st') ∧ Fr none st0 st' ∧
        match anyRs qn m t.k t.s locs 0 locs t.l with
        | .ok ss => ss = rs ∧ Sc m st' lv locs at0 0
        | .error (a, y) => y ≠ 0 ∧ Se m st' locs.length (verOf lv + cntTs t.l) a y := by
      intro st0 K0
      obtain ⟨rs, st', q, W, E⟩ := c37 (m := m) none (fun (_ : Unit) st => Sc m st lv locs at0 0) (fun (_ : Unit) x => withS () (anyR qn m locs x)) (fun _ => 0) locs.length (verOf lv + cntTs t.l) (verOf lv + cntTs t.l) 73 [.hp 1 0 10 0 0] [] rfl t.fl t.l (by omega) st0 (fun i h => by cases h)
        (fun _ st h => ⟨lv, locs, at0, h⟩) (fun _ st st' h o => h.oth o) (fun x hx _ st1 K1 _ => by
          obtain ⟨r, st', q, W, E⟩ := ih x hx st1 lv locs at0 (pl x hx) K1 hl (by have := cntTs_mem hx; omega)
          refine ⟨r, st', q, W, ?_⟩
          cases hR : anyR qn m locs x with
          | ok y => rw [hR] at E; exact ⟨E.1, E.2, Nat.zero_le _⟩
          | error y =>
            obtain ⟨a, y⟩ := y
            rw [hR] at E
            obtain ⟨e1, lv2, locs2, e2, e3, e4⟩ := E
            exact ⟨e1, lv2, locs2, e2, e3, by have := cntTs_mem hx; have := cntT_eq x; omega⟩) () K0 (by omega)
      refine ⟨rs, st', q, W, ?_⟩
      rw [anys_plain qn m t.k t.s locs locs p25 p29]
      cases hR : eachR (fun (_ : Unit) x => withS () (anyR qn m locs x)) () t.l with
      | ok y =>
        obtain ⟨ss, u⟩ := y
        rw [hR] at E
        exact ⟨E.1, E.2.1⟩
      | error y =>
        obtain ⟨a, y⟩ := y
        rw [hR] at E
        obtain ⟨e1, lv2, locs2, e2, e3, e4⟩ := E
        exact ⟨e1, lv2, locs2, e2, e3, by omega⟩
    -- what is made of them
    have made : ∀ (st0 : St) (N : Int) (S : Nm), Fr none st st0 → Sc m st0 lv locs at0 0 → N = numN m t.k t.n t.s → S = (if t.k = 13 ∨ t.k = 17 then t.s else []) → ∃ rs st', callD T (ev T) 37 [.hp 1 0 10 0 0, slE 6 t.fl (encTs t.l), .fn 73 [.hp 1 0 10 0 0] []] st0 = some (slE 6 .nil (encTs rs), st') ∧
        TermE m t st lv locs at0 (okR (anyRs qn m t.k t.s locs 0 locs t.l) fun ls => .mk t.k (numN m t.k t.n t.s) (if t.k = 13 ∨ t.k = 17 then t.s else []) (qn ls) ls t.a t.b) (.mk t.k N S .nil rs t.a t.b) st' := by
      intro st0 N S W0 K0 hN hS
      obtain ⟨rs, st', q, W, E⟩ := parts st0 K0
      refine ⟨rs, st', q, W0.trans W, ?_⟩
      cases hR : anyRs qn m t.k t.s locs 0 locs t.l with
      | ok ss =>
        rw [hR] at E
        obtain ⟨rfl, K1⟩ := E
        exact ⟨by rw [hN, hS], K1⟩
      | error x =>
        obtain ⟨a, y⟩ := x
        rw [hR] at E
        exact E
    -- a declaration is asked for
    have asks : ∀ (kk : Int), kk ≠ 0 → (t.k = 16 ∨ t.k = 15 ∨ t.k = 4) → (badN m t.k t.s = !decide (kindN m t.s = kk)) → ∃ (i k : Int) (st1 : St) (rs : List Tm) (st2 : St), callD T (ev T) 118 [.hp 1 0 10 0 0, encT t, .sl 1 true [.int .i64 kk]] st = some (.tup [.int .i64 i, .int .i64 k], st1) ∧
        callD T (ev T) 37 [.hp 1 0 10 0 0, slE 6 t.fl (encTs t.l), .fn 73 [.hp 1 0 10 0 0] []] st1 = some (slE 6 .nil (encTs rs), st2) ∧
        TermE m t st lv locs at0 (if badN m t.k t.s = true then .error (t.a, 8) else okR (anyRs qn m t.k t.s locs 0 locs t.l) fun ls => .mk t.k (numN m t.k t.n t.s) (if t.k = 13 ∨ t.k = 17 then t.s else []) (qn ls) ls t.a t.b) (.mk t.k i [] .nil rs t.a t.b) st2 := by
      intro kk hk0 hk hbad
      obtain ⟨i, k, st1, q, W, E⟩ := c118 K t [kk] (by simp) (by simpa using fun c => hk0 c.symm)
      by_cases hkk : kindN m t.s = kk
      · have hb0 : badN m t.k t.s = false := by rw [hbad, hkk]; simp
        rw [hkk, if_pos (by simp)] at E
        obtain ⟨e1, e2, e3, K1⟩ := E
        have hN : i = numN m t.k t.n t.s := by
          unfold numN
          rw [if_pos hk, e1]
          simp only
          omega
        obtain ⟨rs, st2, q2, E2⟩ := made st1 i [] W K1 hN (by rw [if_neg (by omega)])
        exact ⟨i, k, st1, rs, st2, q, q2, by rw [hb0]; exact E2⟩
      · have hb1 : badN m t.k t.s = true := by rw [hbad]; simpa using hkk
        rw [if_neg (by simpa using hkk)] at E
        have q2 := c37e E (by decide) 73 [.hp 1 0 10 0 0] [] rfl t.fl t.l
        refine ⟨i, k, st1, [], st1, q, q2, W, ?_⟩
        rw [hb1]
        exact ⟨by decide, lv, locs, E, Nat.le_refl _, by omega⟩
    refine Ret_wp (fn := F73) rfl ?_
    rw [F73]
    by_cases k16 : t.k = 16
    · obtain ⟨i, k, st1, rs, st2, q1, q2, Z⟩ := asks 33 (by decide) (.inl k16) (by unfold badN; simp [k16])
      have k16' := eq_true k16
      have e1 : (t.k = 15) = False := eq_false (by omega)
      have e2 : (t.k = 4) = False := eq_false (by omega)
      have e3 : (t.k = 13) = False := eq_false (by omega)
      have e4 : (t.k = 17) = False := eq_false (by omega)
      generalize (if badN m t.k t.s = true then Except.error (t.a, 8) else okR (anyRs qn m t.k t.s locs 0 locs t.l) fun ls => Tm.mk t.k (numN m t.k t.n t.s) (if t.k = 13 ∨ t.k = 17 then t.s else []) (qn ls) ls t.a t.b : Er Tm) = R at *
      simp [h1, scO, x1, x2, x3, h19', k16', e1, e2, e3, e4, ← encT_eq, q1, q2, splice, fillD]
      exact ⟨_, rfl, Z⟩
    by_cases k15 : t.k = 15
    · obtain ⟨i, k, st1, rs, st2, q1, q2, Z⟩ := asks 30 (by decide) (.inr (.inl k15)) (by unfold badN; simp [k15])
      have k15' := eq_true k15
      have e1 : (t.k = 16) = False := eq_false (by omega)
      have e2 : (t.k = 4) = False := eq_false (by omega)
      have e3 : (t.k = 13) = False := eq_false (by omega)
      have e4 : (t.k = 17) = False := eq_false (by omega)
      generalize (if badN m t.k t.s = true then Except.error (t.a, 8) else okR (anyRs qn m t.k t.s locs 0 locs t.l) fun ls => Tm.mk t.k (numN m t.k t.n t.s) (if t.k = 13 ∨ t.k = 17 then t.s else []) (qn ls) ls t.a t.b : Er Tm) = R at *
      simp [h1, scO, x1, x2, x3, h19', k15', e1, e2, e3, e4, ← encT_eq, q1, q2, splice, fillD]
      exact ⟨_, rfl, Z⟩
    by_cases k4 : t.k = 4
    · obtain ⟨i, k, st1, rs, st2, q1, q2, Z⟩ := asks 30 (by decide) (.inr (.inr k4)) (by unfold badN; simp [k4])
      have k4' := eq_true k4
      have e1 : (t.k = 16) = False := eq_false (by omega)
      have e2 : (t.k = 15) = False := eq_false (by omega)
      have e3 : (t.k = 13) = False := eq_false (by omega)
      have e4 : (t.k = 17) = False := eq_false (by omega)
      generalize (if badN m t.k t.s = true then Except.error (t.a, 8) else okR (anyRs qn m t.k t.s locs 0 locs t.l) fun ls => Tm.mk t.k (numN m t.k t.n t.s) (if t.k = 13 ∨ t.k = 17 then t.s else []) (qn ls) ls t.a t.b : Er Tm) = R at *
      simp [h1, scO, x1, x2, x3, h19', k4', e1, e2, e3, e4, ← encT_eq, q1, q2, splice, fillD]
      exact ⟨_, rfl, Z⟩
    have hb0 : ¬ badN m t.k t.s = true := by unfold badN; simp [k16, k15, k4]
    rw [if_neg hb0]
    have hN : t.n = numN m t.k t.n t.s := by unfold numN; rw [if_neg (by omega)]
    by_cases k13 : t.k = 13
    · obtain ⟨rs, st2, q2, Z⟩ := made st t.n t.s (.refl _ _) K hN (by rw [if_pos (.inl k13)])
      have k13' := eq_true k13
      generalize (okR (anyRs qn m t.k t.s locs 0 locs t.l) fun ls => Tm.mk t.k (numN m t.k t.n t.s) (if t.k = 13 ∨ t.k = 17 then t.s else []) (qn ls) ls t.a t.b) = R at *
      simp [h1, scO, x1, x2, x3, h19', k16, k15, k4, k13', ← encT_eq, q2, splice, fillD]
      exact ⟨_, rfl, Z⟩
    by_cases k17 : t.k = 17
    · obtain ⟨rs, st2, q2, Z⟩ := made st t.n t.s (.refl _ _) K hN (by rw [if_pos (.inr k17)])
      have k17' := eq_true k17
      generalize (okR (anyRs qn m t.k t.s locs 0 locs t.l) fun ls => Tm.mk t.k (numN m t.k t.n t.s) (if t.k = 13 ∨ t.k = 17 then t.s else []) (qn ls) ls t.a t.b) = R at *
      simp [h1, scO, x1, x2, x3, h19', k16, k15, k4, k13, k17', ← encT_eq, q2, splice, fillD]
      exact ⟨_, rfl, Z⟩
    · obtain ⟨rs, st2, q2, Z⟩ := made st t.n [] (.refl _ _) K hN (by rw [if_neg (by omega)])
      generalize (okR (anyRs qn m t.k t.s locs 0 locs t.l) fun ls => Tm.mk t.k (numN m t.k t.n t.s) (if t.k = 13 ∨ t.k = 17 then t.s else []) (qn ls) ls t.a t.b) = R at *
      simp [h1, scO, x1, x2, x3, h19', k16, k15, k4, k13, k17, ← encT_eq, q2, splice, fillD]
      exact ⟨_, rfl, Z⟩
end Go.Nt.Lk

/-
  NAMES RESOLVED by the program, walked (6): blocks.
  No condition.
-/
set_option linter.unusedSimpArgs false
set_option maxRecDepth 20000
namespace Go.Nt.Lk
open Go Go.Nt

variable {m : Tm} {st : St} {lv : D} {locs : List Nm} {at0 e : Int}

/-- How a statement is walked. -/
def StmtW (m x : Tm) : Prop := ∀ (st : St) (lv : D) (locs : List Nm) (at0 : Int), Sc m st lv locs at0 0 → verOf lv + cntT x ≤ 1000000 → ∃ r st', callD T (ev T) 119 [.hp 1 0 10 0 0, encT x] st = some (encT r, st') ∧ Fr none st st' ∧
  match anyR qn m locs x with
  | .ok y => y = r ∧ ∃ lv' at', Sc m st' lv' (moreN locs x) at' 0 ∧ verOf lv' ≤ verOf lv + cntT x
  | .error (a, y) => y ≠ 0 ∧ Se m st' locs.length (verOf lv + cntT x) a y
/-- How a block is walked. -/
def BlockW (m x : Tm) : Prop := ∀ (st : St) (lv : D) (locs : List Nm) (at0 : Int), Sc m st lv locs at0 0 → verOf lv + cntTs x.l ≤ 1000000 → ∃ r st', callD T (ev T) 74 [.hp 1 0 10 0 0, encT x] st = some (encT r, st') ∧ Fr none st st' ∧
  match anyR qn m locs x with
  | .ok y => y = r ∧ ∃ lv' at', Sc m st' lv' locs at' 0 ∧ verOf lv' ≤ verOf lv + cntTs x.l
  | .error (a, y) => y ≠ 0 ∧ Se m st' locs.length (verOf lv + cntTs x.l) a y

/-- A block's statements. -/
def FB (m : Tm) (v : List Nm × Nat) (x : Tm) : Er (Tm × (List Nm × Nat)) := withS (moreN v.1 x, v.2 + cntT x) (anyR qn m v.1 x)
theorem anys_block (m : Tm) (s : Nm) (base : List Nm) : ∀ (l : List Tm) (i : Nat) (locs : List Nm) (n : Nat), anyRs qn m 29 s base i locs l = fstR (eachR (FB m) (locs, n) l)
  | [], i, locs, n => by rw [anyRs, eachR]; rfl
  | t :: l, i, locs, n => by
    have hc : ¬ ((29 : Int) = 25 ∧ i = 2) := fun c => absurd c.1 (by decide)
    rw [anyRs_cons, eachR, if_neg hc, if_pos rfl, anys_block m s base l (i + 1) (moreN locs t) (n + cntT t)]
    unfold FB
    simp only
    cases anyR qn m locs t with
    | error e => rfl
    | ok x =>
      rw [show withS (moreN locs t, n + cntT t) (Except.ok x : Er Tm) = .ok (x, (moreN locs t, n + cntT t)) from rfl]
      simp only
      show consR (.ok x) (fstR (eachR (FB m) (moreN locs t, n + cntT t) l)) = _
      unfold FB
      cases eachR (fun (v : List Nm × Nat) x => withS (moreN v.1 x, v.2 + cntT x) (anyR qn m v.1 x)) (moreN locs t, n + cntT t) l with
      | error e => rfl
      | ok y => rfl

theorem more_app (locs : List Nm) (x : Tm) : ∃ more, moreN locs x = locs ++ more := by
  unfold moreN
  split
  · exact ⟨[x.s], rfl⟩
  · exact ⟨[], (List.append_nil _).symm⟩

theorem c74' (t : Tm) (h29 : t.k = 29) (ih : ∀ x, x ∈ t.l → StmtW m x) : BlockW m t := by
  intro st lv locs at0 K hb
  have hct := cntT_eq t
  have hcl := cntTs_len t.l
  obtain ⟨md, h1⟩ := K.h1
  obtain ⟨x1, x2, x3, x4, x5⟩ := K.hw.facts
  have lp_pos : 1 < st.length := K.hl
  have J0 : (∃ lv' at' more, Sc m st lv' locs at' 0 ∧ verOf lv' ≤ verOf lv ∧ locs = locs ++ more) := ⟨lv, at0, [], K, Nat.le_refl _, (List.append_nil _).symm⟩
  obtain ⟨rs, st1, q, W, E⟩ := c37 (m := m) none (fun (v : List Nm × Nat) st => ∃ lv' at' more, Sc m st lv' v.1 at' 0 ∧ verOf lv' ≤ v.2 ∧ v.1 = locs ++ more) (FB m) (fun v => v.2) locs.length (verOf lv + cntTs t.l) (verOf lv + cntTs t.l) 119 [.hp 1 0 10 0 0] [] rfl t.fl t.l (by omega) st (fun i h => by cases h)
    (fun _ st h => by obtain ⟨lv', at', more, h, _⟩ := h; exact ⟨lv', _, at', h⟩) (fun _ st st' h o => by obtain ⟨lv', at', more, h, h2⟩ := h; exact ⟨lv', at', more, h.oth o, h2⟩)
    (fun x hx v st1 K1 hw => by
      obtain ⟨lv1, at1, more, K1, hv1, hpre⟩ := K1
      obtain ⟨r, st', q, W, E⟩ := ih x hx st1 lv1 v.1 at1 K1 (by have := cntTs_mem hx; omega)
      refine ⟨r, st', q, W, ?_⟩
      unfold FB
      cases hR : anyR qn m v.1 x with
      | ok y =>
        rw [hR] at E
        obtain ⟨e1, lv2, at2, e2, e3⟩ := E
        obtain ⟨m2, hm2⟩ := more_app v.1 x
        refine ⟨e1, ⟨lv2, at2, more ++ m2, e2, by show verOf lv2 ≤ v.2 + cntT x; omega, ?_⟩, Nat.le_refl _⟩
        show moreN v.1 x = _
        rw [hm2, hpre, List.append_assoc]
      | error y =>
        obtain ⟨a, y⟩ := y
        rw [hR] at E
        obtain ⟨e1, lv2, locs2, e2, e3, e4⟩ := E
        have hlen : locs.length ≤ v.1.length := by rw [hpre]; simp
        exact ⟨e1, lv2, locs2, e2, by omega, by omega⟩) (locs, verOf lv) J0 (by show verOf lv + _ ≤ _; omega)
  have hany : anyR qn m locs t = okR (fstR (eachR (FB m) (locs, verOf lv) t.l)) fun ls => .mk t.k t.n [] .nil ls t.a t.b := by
    rw [anyR_eq2, if_neg (by omega), if_neg (by unfold badN; simp [h29]), h29, anys_block m t.s locs t.l 0 locs (verOf lv)]
    congr 1
  rw [hany]
  obtain ⟨Z, hZ⟩ : ∃ Z : Tm → St → Prop, Z = fun x st' => Fr none st st' ∧ match okR (fstR (eachR (FB m) (locs, verOf lv) t.l)) (fun ls => Tm.mk t.k t.n [] .nil ls t.a t.b) with
      | .ok y => y = x ∧ ∃ lv' at', Sc m st' lv' locs at' 0 ∧ verOf lv' ≤ verOf lv + cntTs t.l
      | .error (a, y) => y ≠ 0 ∧ Se m st' locs.length (verOf lv + cntTs t.l) a y := ⟨_, rfl⟩
  suffices h : Ret (ev T 74 [.hp 1 0 10 0 0, encT t] st) fun r st' => ∃ x, r = encT x ∧ Z x st' by
    obtain ⟨r, st', h1, x, rfl, hz⟩ := h
    rw [hZ] at hz
    exact ⟨x, st', callD_freE (fn := F74) rfl rfl (by simp) h1 (by simp) (by simp), hz⟩
  refine Ret_wp (fn := F74) rfl ?_
  rw [F74]
  have q' : callD T (ev T) 37 [.hp 1 0 10 0 0, slE 6 t.fl (encTs t.l), .fn 119 [.hp 1 0 10 0 0] []] st = some (slE 6 .nil (encTs rs), st1) := q
  -- what stands there behind the statements
  have cut : ∀ (lv2 : D) (locs2 : List Nm) (a2 e2 : Int), Sc m st1 lv2 locs2 a2 e2 → locs.length ≤ locs2.length → ∃ (lv3 : D) (md2 : Nat), St.at st1 1 = scO m lv2 a2 e2 md2 ∧ lv2.okv = true ∧ lv2.cells = [lv2] ∧ slcTy (some 1) lv2 = true ∧ sliceD lv2 none (some (.int .i64 locs.length)) none = some lv3 ∧ lv3.okv = true ∧ lv3.cells = [lv3] ∧ verOf lv3 = verOf lv2 ∧
      ∀ md, Sc m (List.set st1 1 (scO m lv3 a2 e2 md)) lv3 (locs2.take locs.length) a2 e2 ∧ Fr none st (List.set st1 1 (scO m lv3 a2 e2 md)) := by
    intro lv2 locs2 a2 e2 K2 hle
    obtain ⟨lv3, s1, s2, s3, s4, s5, s6⟩ := K2.back locs.length hle
    obtain ⟨md2, k2⟩ := K2.h1
    exact ⟨lv3, md2, k2, K2.hw.facts.1, K2.hw.facts.2.1, s2, s1 _ rfl, s3, s4, s5, fun md => ⟨(s6 md).1, W.trans (s6 md).2⟩⟩
  have hl1 : 1 < st1.length := by have := W.1; omega
  cases hE : eachR (FB m) (locs, verOf lv) t.l with
  | ok y =>
    obtain ⟨ss, v⟩ := y
    rw [hE] at E
    obtain ⟨rfl, ⟨lv2, at2, more, K2, hv2, hpre⟩, hw⟩ := E
    obtain ⟨lv3, md2, k2, o1, o2, o3, o4, o5, o6, o7, o8⟩ := cut lv2 v.1 at2 0 K2 (by rw [hpre]; simp)
    have o8 := o8 (md2 + 1)
    rw [show v.1.take locs.length = locs from by rw [hpre]; simp] at o8
    have fin : Z (.mk t.k t.n [] .nil ss t.a t.b) (List.set st1 1 (scO m lv3 at2 0 (md2 + 1))) := by
      rw [hZ, hE]
      exact ⟨o8.2, rfl, lv3, at2, o8.1, by simp only at hw; omega⟩
    clear hZ
    unfold scO at k2 h1 fin
    simp [h1, x1, x2, x3, x4, ← encT_eq, q', k2, kHs, hl1, o1, o2, o3, o4, o5, o6, splice, fillD]
    exact ⟨_, (encT_eq (.mk t.k t.n [] .nil ss t.a t.b)).symm, fin⟩
  | error y =>
    obtain ⟨a, y⟩ := y
    rw [hE] at E
    obtain ⟨hy, lv2, locs2, K2, hle, hv2⟩ := E
    obtain ⟨lv3, md2, k2, o1, o2, o3, o4, o5, o6, o7, o8⟩ := cut lv2 locs2 a y K2 hle
    have o8 := o8 (md2 + 1)
    have fin : Z (.mk t.k t.n [] .nil rs t.a t.b) (List.set st1 1 (scO m lv3 a y (md2 + 1))) := by
      rw [hZ, hE]
      exact ⟨o8.2, hy, lv3, _, o8.1, by rw [List.length_take]; omega, by omega⟩
    clear hZ
    unfold scO at k2 h1 fin
    simp [h1, x1, x2, x3, x4, ← encT_eq, q', k2, kHs, hl1, o1, o2, o3, o4, o5, o6, splice, fillD]
    exact ⟨_, (encT_eq (.mk t.k t.n [] .nil rs t.a t.b)).symm, fin⟩
end Go.Nt.Lk
