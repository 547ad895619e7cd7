/-
  NAMES RESOLVED by the reference, walked (2): expressions, types, statements.
  No condition.
-/
import Derived.Test.YtpfdoelhoiohdaaSpPart
set_option linter.unusedSimpArgs false
set_option maxRecDepth 20000
namespace Go.Nt.Lk
open Go Go.Nt

/-- A row of names that may be read. -/
def Kn (st : St) (K : D) (l : List Nm) : Prop :=
  (∃ fl, K = strL fl l) ∨ ∃ id ver md fr, K = .rs id ver 1 0 l.length false ∧ St.at st id = .cells false 1 ver md fr (l.map .str) ∧ id < st.length
theorem Kn.okv {st : St} {K : D} {l : List Nm} (h : Kn st K l) : K.okv = true := by
  rcases h with ⟨fl, rfl⟩ | ⟨id, ver, md, fr, rfl, _⟩
  · simp
  · rfl
/-- Is it a row of names? -/
def isN : Ob → Prop
  | .cells false 1 _ _ _ _ => True
  | _ => False
theorem fz1_rs' (st : St) (i v z o l : Nat) (f : Bool) : fz1 st (.rs i v z o l f) = fz0 st (.rs i v z o l f) := rfl
theorem Kn.frz {st : St} {K : D} {l : List Nm} (h : Kn st K l) : ∃ fl st', fz1 st K = some (strL fl l, st') ∧ st'.length = st.length ∧ Kn st' K l ∧ ∀ i, ¬ isN (St.at st i) → St.at st' i = St.at st i := by
  rcases h with ⟨fl, rfl⟩ | ⟨id, ver, md, fr, rfl, h1, h2⟩
  · exact ⟨fl, st, by simp, rfl, .inl ⟨fl, rfl⟩, fun _ _ => rfl⟩
  · have e2 : List.take l.length (l.map D.str) = l.map .str := List.take_of_length_le (by simp)
    have e3 : ∃ fl, strL fl l = .sl 1 false (l.map .str) := ⟨.part, by cases l <;> rfl⟩
    obtain ⟨fl, e3⟩ := e3
    cases fr with
    | true =>
      refine ⟨fl, st, ?_, rfl, .inr ⟨id, ver, md, true, rfl, h1, h2⟩, fun _ _ => rfl⟩
      rw [fz1_rs', fz0_rs, h1, e3]
      simp [e2]
    | false =>
      refine ⟨fl, List.set st id (.cells false 1 ver (md + 1) true (l.map .str)), ?_, by simp, .inr ⟨id, ver, md + 1, true, rfl, by rw [at_set _ _ _ _ h2, if_pos rfl], by simpa using h2⟩, fun i hi => ?_⟩
      · rw [fz1_rs', fz0_rs, h1, e3]
        simp [e2]
      · rw [at_set _ _ _ _ h2, if_neg]
        rintro rfl
        exact hi (by rw [h1]; trivial)
theorem Kn.keep {st st' : St} {K : D} {l : List Nm} (h : Kn st K l) (hl : st.length ≤ st'.length) (ha : ∀ i, i < st.length → isN (St.at st i) → St.at st' i = St.at st i) : Kn st' K l := by
  rcases h with h | ⟨id, ver, md, fr, rfl, h1, h2⟩
  · exact .inl h
  · exact .inr ⟨id, ver, md, fr, rfl, by rw [ha id h2 (by rw [h1]; trivial), h1], by omega⟩

/-- A copy of a row of names, one longer. -/
theorem two_app (st : St) (base : List Nm) (x : Nm) (hb : base.length ≤ 1000000) : ∃ L1 st1 id ver md st2, appendD st (.sl 1 true []) (base.map .str) 1 = some (L1, st1) ∧ appendD st1 L1 [.str x] 1 = some (.rs id ver 1 0 (base ++ [x]).length false, st2) ∧
    St.at st2 id = .cells false 1 ver md false ((base ++ [x]).map .str) ∧ id < st2.length ∧ L1.okv = true ∧ st.length ≤ st2.length ∧ ∀ i, i < st.length → St.at st2 i = St.at st i := by
  cases base with
  | nil =>
    refine ⟨.sl 1 true [], st, st.length, 0, 0, st ++ [.cells false 1 0 0 false [.str x]], by simp [appendD, most], by simp [appendD, most], by simp [at_last], by simp, rfl, by simp, fun i hi => at_lt _ _ hi⟩
  | cons y l =>
    have hm3 : l.length + 1 ≤ 134217728 := by simp at hb; omega
    have hm4 : ¬ 134217728 < l.length + 1 := by omega
    have ht : (0 : Nat) + 1 < tagB := by unfold tagB; omega
    have ht1 : 1 < tagB := by unfold tagB; omega
    refine ⟨.rs st.length 0 1 0 (l.length + 1) false, st ++ [.cells false 1 0 0 false ((y :: l).map .str)], st.length, 1, 1, List.set (st ++ [.cells false 1 0 0 false ((y :: l).map .str)]) st.length (.cells false 1 1 1 false (((y :: l).map .str) ++ [.str x])), ?_, ?_, ?_, by simp, rfl, by simp, fun i hi => ?_⟩
    · simp [appendD, most, hm4]
    · simp [appendD, most, at_last, hm3, ht, ht1]
      exact List.take_of_length_le (by simp)
    · rw [at_set _ _ _ _ (by simp), if_pos rfl]
      simp
    · rw [at_set _ _ _ _ (by simp), if_neg (by omega)]
      exact at_lt _ _ hi

theorem c123 (fl : Fl) (l : List Nm) (hl : l.length ≤ 1000000) (t : Tm) (st : St) : ∃ fl', callD T (ev T) 123 [strL fl l, encT t] st = some (strL fl' (moreN l t), st) := by
  unfold moreN
  by_cases h : t.k = 20 ∨ t.k = 21
  · rw [if_pos h]
    refine ⟨.part, callD_pureR (fn := F123) rfl rfl (by simp) (by simp) ?_⟩
    obtain ⟨L1, st1, id, ver, md, st2, a1, a2, h1, h2, o1, _⟩ := two_app [] l t.s hl
    have hz : ∃ st3, fz st2 (.rs id ver 1 0 (l ++ [t.s]).length false) = some (strL .part (l ++ [t.s]), st3) := by
      have e3 : strL .part (l ++ [t.s]) = .sl 1 false ((l ++ [t.s]).map .str) := by cases l <;> rfl
      rw [e3, show fz st2 (.rs id ver 1 0 (l ++ [t.s]).length false) = fz0 st2 (.rs id ver 1 0 (l ++ [t.s]).length false) from rfl, fz0_rs, h1]
      simp
      exact List.take_of_length_le (by simp)
    obtain ⟨st3, hz⟩ := hz
    refine Ret_wp (fn := F123) rfl ?_
    rw [F123]
    have src := strL_src [] fl l
    rcases h with h | h
    · simp [h, src, a1, a2, o1, splice, fillD]
      rw [show fz st2 (.rs id ver 1 0 (l ++ [t.s]).length false) = fz0 st2 (.rs id ver 1 0 (l ++ [t.s]).length false) from rfl, fz0_rs] at hz
      exact ⟨st3, by simpa using hz⟩
    · simp [h, src, a1, a2, o1, splice, fillD]
      rw [show fz st2 (.rs id ver 1 0 (l ++ [t.s]).length false) = fz0 st2 (.rs id ver 1 0 (l ++ [t.s]).length false) from rfl, fz0_rs] at hz
      exact ⟨st3, by simpa using hz⟩
  · rw [if_neg h]
    refine ⟨fl, callD_pureQ (fn := F123) rfl rfl (by simp) (by simp) (by intro st; simp) ?_⟩
    refine Ret_wp (fn := F123) rfl ?_
    rw [F123]
    have h1 : ¬ t.k = 20 := fun c => h (.inl c)
    have h2 : ¬ t.k = 21 := fun c => h (.inr c)
    simp [h1, h2, splice, fillD]

mutual
  theorem any_err {q : List Tm → Fl} {m : Tm} : ∀ (t : Tm) (locs : List Nm) (x : Int × Int), anyR q m locs t = .error x → x.2 = 8
    | .mk k n s fl l a b, locs, x, h => by
      rw [anyR] at h
      split at h
      · unfold nameR at h
        split at h
        · cases h
        · split at h
          · split at h
            · cases h
            · split at h <;> cases h; rfl
          · cases h; rfl
      split at h
      · cases h; rfl
      cases hx : anyRs q m k s locs 0 locs l with
      | error e => rw [hx] at h; cases h; exact anys_err l _ _ _ _ hx
      | ok ls => rw [hx] at h; cases h
  theorem anys_err {q : List Tm → Fl} {m : Tm} {k : Int} {s : Nm} : ∀ (l : List Tm) (base : List Nm) (i : Nat) (known : List Nm) (x : Int × Int), anyRs q m k s base i known l = .error x → x.2 = 8
    | [], base, i, known, x, h => by rw [anyRs] at h; cases h
    | t :: r, base, i, known, x, h => by
      rw [anyRs] at h
      cases hx : anyR q m (if k = 25 ∧ i = 2 then base ++ [s] else known) t with
      | error e => rw [hx] at h; cases h; exact any_err t _ _ hx
      | ok y =>
        rw [hx] at h
        simp only at h
        cases hu : anyRs q m k s base (i + 1) (if k = 29 then moreN known t else if k = 25 ∧ i = 2 then base ++ [s] else known) r with
        | error e => rw [hu] at h; cases h; exact anys_err r _ _ _ _ hu
        | ok u => rw [hu] at h; cases h
end

/-- Which declaration is meant. -/
theorem bad_num {m : Tm} {k n : Int} {s : Nm} (h : badN m k s = false) (hk : k = 16 ∨ k = 15 ∨ k = 4) : declI m s = numN m k n s := by
  unfold numN declI
  rw [if_pos hk]
  cases hd : declN m s with
  | some i => rfl
  | none =>
    exfalso
    have hz : kindN m s = 0 := by unfold kindN; rw [hd]
    unfold badN at h
    rw [hz] at h
    rcases hk with rfl | rfl | rfl <;> simp at h
end Go.Nt.Lk
