/-
  NAMES RESOLVED by the reference, walked (1): declarations and locals of a name.
  No condition.
-/
import Derived.Test.YtpfdoelhoiohdaaSpGot
import Derived.Test.YtpfdoelhoiohdaaSpRes
import Derived.Test.YtpfdoelhoiohdaaSpNone
set_option linter.unusedSimpArgs false
set_option maxRecDepth 20000
namespace Go.Nt.Lk
open Go Go.Nt

/-- A row of names. -/
def strL (fl : Fl) (l : List Nm) : D := slE 1 fl (l.map .str)
@[simp] theorem strL_okv (fl : Fl) (l : List Nm) : (strL fl l).okv = true := slE_okv _ _ _
@[simp] theorem strL_cells (fl : Fl) (l : List Nm) : (strL fl l).cells = [strL fl l] := slE_cells _ _ _
@[simp] theorem strL_pure (fl : Fl) (l : List Nm) : (strL fl l).pure = true := slE_pure _ _ _
@[simp] theorem strL_pure1 (fl : Fl) (l : List Nm) : (strL fl l).pure1 = true := slE_pure1 _ _ _
@[simp] theorem strL_pureT (fl : Fl) (l : List Nm) : (strL fl l).pureT = true := slE_pureT _ _ _
@[simp] theorem strL_fits (fl : Fl) (l : List Nm) : (strL fl l).fits none = true := slE_fits _ _ _
@[simp] theorem strL_fz0 (st : St) (fl : Fl) (l : List Nm) : fz0 st (strL fl l) = some (strL fl l, st) := by
  cases l <;> cases fl <;> simp [strL, slE, fz0]
@[simp] theorem strL_fz1 (st : St) (fl : Fl) (l : List Nm) : fz1 st (strL fl l) = some (strL fl l, st) := by
  cases l <;> cases fl <;> simp [strL, slE, fz1, fz0]
@[simp] theorem strL_fz (st : St) (fl : Fl) (l : List Nm) : fz st (strL fl l) = some (strL fl l, st) := by
  cases l <;> cases fl <;> simp [strL, slE, fz, fz1, fz0]
@[simp] theorem strL_len (st : St) (fl : Fl) (l : List Nm) (q : Bool) : lenD st .slice (strL fl l) q = some (.i l.length) := by
  cases l <;> cases fl <;> simp [strL, slE, lenD]
theorem strL_idx (fl : Fl) (l : List Nm) (i : Nat) (h : i < l.length) : idxAD (strL fl l) i 1 none none = some (.iptr (.str l[i])) := by
  unfold strL
  rw [slE_idx, List.getElem?_map, List.getElem?_eq_getElem h]
  rfl
theorem strL_src (st : St) (fl : Fl) (l : List Nm) : srcD st 1 (strL fl l) = some (l.map .str) := by
  cases l <;> cases fl <;> simp [strL, slE, srcD, listD]

/-- The place of the declaration of that name, or -1. -/
def declI (m : Tm) (s : Nm) : Int := match declN m s with | some i => i | none => -1
theorem findN_lt {s : Nm} : ∀ {l : List Tm} {i j : Nat}, findN s l i = some j → i ≤ j ∧ j < i + l.length
  | [], i, j, h => by cases h
  | d :: l, i, j, h => by
    rw [findN] at h
    split at h
    · cases h; simp
    · have := findN_lt h
      simp only [List.length_cons]
      omega
theorem declN_lt {m : Tm} {s : Nm} {j : Nat} (h : declN m s = some j) : j < m.l.length := by have := findN_lt h; omega

theorem l39 (m : Tm) (hm : m.l.length ≤ 1000000) (w : Nm) :
    ∀ (r i : Nat) (s : List D) (bx : List (Nat × List D)) (st : St), r = m.l.length - i → i ≤ m.l.length → get s 1 = .str w → get s 2 = .lp 2 1 0 → getB bx 2 = (1, clT m) → get s 5 = .int .i64 i →
    Stops (lp T L39_0 ⟨⟨s, bx⟩, st⟩) fun e s' _ _ => match findN w (m.l.drop i) i with | some j => e = .ret ∧ get s' 4 = .int .i64 j | none => e = .exit 0 := by
  intro r
  induction r with
  | zero =>
    intro i s bx st hr hi h1 h2 b2 h5
    have e : i = m.l.length := by omega
    refine Stops_wp L39_0.eq_1 ?_
    rw [e, List.drop_length]
    simp [h1, h2, b2, h5, e, findN]
  | succ r ih =>
    intro i s bx st hr hi h1 h2 b2 h5
    have hlt : i < m.l.length := by omega
    have hw : IntKind.wrap .i64 ((i : Int) + 1) = ((i + 1 : Nat) : Int) := by rw [wrap64] <;> omega
    have nx := fun s' bx' => ih (i + 1) s' bx' st (by omega) (by omega)
    rw [List.drop_eq_getElem_cons hlt, findN]
    refine Stops_wp L39_0.eq_1 ?_
    by_cases hg : m.l[i].s = w
    · rw [if_pos hg]
      simp [h1, h2, b2, h5, hlt, hg, splice, fillD, -Int.natCast_add]
    · rw [if_neg hg]
      simp [h1, h2, b2, h5, hlt, hg, hw, splice, fillD, -Int.natCast_add]
      refine nx _ _ ?_ ?_ ?_ ?_ <;> simp [h1, h2, b2]

theorem c39 (m : Tm) (hm : m.l.length ≤ 1000000) (w : Nm) (st : St) : callD T (ev T) 39 [encT m, .str w] st = some (.int .i64 (declI m w), st) := by
  refine callD_pureQ (fn := F39) rfl rfl (by simp) (by simp) (by intro; rfl) ?_
  refine Ret_wp (fn := F39) rfl ?_
  rw [F39]
  have lo := fun s bx st => l39 m hm w m.l.length 0 s bx st (by omega) (by omega)
  rw [List.drop_zero] at lo
  unfold declI declN
  simp [splice, fillD]
  refine WL.use L39_0_p L39_0_w (lo _ _ _ ?_ ?_ ?_ ?_) ?_
  iterate 4 simp
  intro e s' b' st' h hf
  cases hd : findN w m.l 0 with
  | none =>
    rw [hd] at h
    simp only at h
    subst h
    simp
  | some j =>
    rw [hd] at h
    obtain ⟨rfl, h4⟩ := h
    simp [h4]

theorem c121 (m : Tm) (hm : m.l.length ≤ 1000000) (w : Nm) (st : St) : callD T (ev T) 121 [encT m, .str w] st = some (.int .i64 (kindN m w), st) := by
  refine callD_pureQ (fn := F121) rfl rfl (by simp) (by simp) (by intro; rfl) ?_
  refine Ret_wp (fn := F121) rfl ?_
  rw [F121]
  have q := fun st => c39 m hm w st
  unfold declI at q
  cases hd : declN m w with
  | none =>
    have hk : kindN m w = 0 := by unfold kindN; rw [hd]
    rw [hk]
    rw [hd] at q
    simp only at q
    simp [q, ← encT_eq, splice, fillD]
  | some j =>
    rw [hd] at q
    simp only at q
    have hj := declN_lt hd
    have hn : ¬ (j : Int) < 0 := by omega
    have hk : kindN m w = m.l[j].k := by unfold kindN; rw [hd]; simp [hj]
    rw [hk]
    simp [q, ← encT_eq, splice, fillD, hn, hj]

/-- The number of the local of that name, or -1. -/
def localI (l : List Nm) (s : Nm) : Int := match localN s l.reverse 0 with | some i => i | none => -1

theorem l143 (fl : Fl) (l : List Nm) (hl : l.length ≤ 1000000) (w : Nm) :
    ∀ (r n : Nat) (s : List D) (bx : List (Nat × List D)) (st : St), r = l.length - n → n ≤ l.length → get s 0 = strL fl l → get s 1 = .str w → get s 5 = .int .i64 n →
    Stops (lp T L143_0 ⟨⟨s, bx⟩, st⟩) fun e s' _ _ => match localN w (l.reverse.drop n) n with | some j => e = .ret ∧ get s' 4 = .int .i64 j | none => e = .exit 0 := by
  intro r
  induction r with
  | zero =>
    intro n s bx st hr hn h0 h1 h5
    have e : n = l.length := by omega
    refine Stops_wp L143_0.eq_1 ?_
    rw [e, List.drop_of_length_le (by simp)]
    simp [h0, h1, h5, e, localN]
  | succ r ih =>
    intro n s bx st hr hn h0 h1 h5
    have hlt : n < l.length := by omega
    have hw : IntKind.wrap .i64 ((n : Int) + 1) = ((n + 1 : Nat) : Int) := by rw [wrap64] <;> omega
    have hw1 : IntKind.wrap .i64 ((l.length : Int) - 1) = ((l.length - 1 : Nat) : Int) := by rw [wrap64] <;> omega
    have hw2 : IntKind.wrap .i64 (((l.length - 1 : Nat) : Int) - n) = ((l.length - 1 - n : Nat) : Int) := by rw [wrap64] <;> omega
    have hx : l.length - 1 - n < l.length := by omega
    have i1 := strL_idx fl l (l.length - 1 - n) hx
    have nx := fun s' bx' => ih (n + 1) s' bx' st (by omega) (by omega)
    have hd : l.reverse.drop n = l[l.length - 1 - n] :: l.reverse.drop (n + 1) := by
      rw [List.drop_eq_getElem_cons (by simpa using hlt), List.getElem_reverse]
    rw [hd, localN]
    generalize l[l.length - 1 - n] = x at *
    refine Stops_wp L143_0.eq_1 ?_
    by_cases hg : x = w
    · rw [if_pos hg]
      simp [h0, h1, h5, hlt, hw1, hw2, i1, hg, splice, fillD, -Int.natCast_add]
    · rw [if_neg hg]
      simp [h0, h1, h5, hlt, hw1, hw2, i1, hg, hw, splice, fillD, -Int.natCast_add]
      refine nx _ _ ?_ ?_ ?_ <;> simp [h0, h1]

theorem c143 (fl : Fl) (l : List Nm) (hl : l.length ≤ 1000000) (w : Nm) (st : St) : callD T (ev T) 143 [strL fl l, .str w] st = some (.int .i64 (localI l w), st) := by
  refine callD_pureQ (fn := F143) rfl rfl (by simp) (by simp) (by intro; rfl) ?_
  refine Ret_wp (fn := F143) rfl ?_
  rw [F143]
  have lo := fun s bx st => l143 fl l hl w l.length 0 s bx st (by omega) (by omega)
  rw [List.drop_zero] at lo
  unfold localI
  simp [splice, fillD]
  refine WL.use L143_0_p L143_0_w (lo _ _ _ ?_ ?_ ?_) ?_
  iterate 3 simp
  intro e s' b' st' h hf
  cases hd : localN w l.reverse 0 with
  | none =>
    rw [hd] at h
    simp only at h
    subst h
    simp
  | some j =>
    rw [hd] at h
    obtain ⟨rfl, h4⟩ := h
    simp [h4]

theorem c122 (t : Tm) (e : Int) (st : St) : callD T (ev T) 122 [encT t, .int .i64 e] st = some (gotD tm0 t.a e, st) := by
  refine callD_pureQ (fn := F122) rfl rfl (by simp) (gotD_pure _ _ _) (fun st => gotD_fz st _ _ _) ?_
  refine Ret_wp (fn := F122) rfl ?_
  rw [F122]
  have : gotD tm0 t.a e = .agg [.int .i64 0, .int .i64 0, .str [], .nils, .int .i64 0, .int .i64 0, .int .i64 t.a, .int .i64 e] := rfl
  rw [this]
  simp [splice, fillD]

/-- A term, or what is wrong, as the reference tells it. -/
def gotR : Er Tm → D
  | .ok t => gotD t 0 0
  | .error (a, e) => gotD tm0 a e
theorem gotR_pure (x : Er Tm) : (gotR x).pureT = true := by
  rcases x with ⟨a, e⟩ | t <;> exact gotD_pure _ _ _
theorem gotR_fz (st : St) (x : Er Tm) : fz st (gotR x) = some (gotR x, st) := by
  rcases x with ⟨a, e⟩ | t <;> exact gotD_fz _ _ _ _

theorem c120 (m : Tm) (hm : m.l.length ≤ 1000000) (fl : Fl) (l : List Nm) (hl : l.length ≤ 1000000) (t : Tm) (st : St) :
    callD T (ev T) 120 [encT m, strL fl l, encT t] st = some (gotR (nameR m l t), st) := by
  refine callD_pureQ (fn := F120) rfl rfl (by simp) (gotR_pure _) (fun st => gotR_fz st _) ?_
  refine Ret_wp (fn := F120) rfl ?_
  rw [F120]
  have q1 := fun st => c143 fl l hl t.s st
  have q2 := fun st => c121 m hm t.s st
  have q3 := fun st => c39 m hm t.s st
  have q4 := fun st => c122 t 8 st
  unfold localI at q1
  unfold declI at q3
  unfold nameR
  have g7 : ∀ k n : Int, gotR (.ok (.mk k n [] .nil [] t.a t.b)) = .agg [.int .i64 k, .int .i64 n, .str [], .nils, .int .i64 t.a, .int .i64 t.b, .int .i64 0, .int .i64 0] := fun _ _ => rfl
  have g8 : ∀ a e : Int, gotR (.error (a, e)) = gotD tm0 a e := fun _ _ => rfl
  have g9 : ∀ a e : Int, gotD tm0 a e = .agg [.int .i64 0, .int .i64 0, .str [], .nils, .int .i64 0, .int .i64 0, .int .i64 a, .int .i64 e] := fun _ _ => rfl
  cases h1 : localN t.s l.reverse 0 with
  | some n =>
    rw [h1] at q1
    simp only at q1
    have hn : (0 : Int) ≤ n := by omega
    simp only [g7]
    simp [q1, hn, splice, fillD]
  | none =>
    rw [h1] at q1
    simp only at q1
    cases h2 : declN m t.s with
    | none =>
      have hk : kindN m t.s = 0 := by unfold kindN; rw [h2]
      rw [hk] at q2
      simp only [g8, g9] at q4 ⊢
      simp [q1, q2, q4, ← encT_eq, splice, fillD]
    | some i =>
      rw [h2] at q3
      simp only at q3
      generalize kindN m t.s = k at *
      by_cases h31 : k = 31
      · subst h31
        simp only [if_true, g7]
        simp [q1, q2, q3, ← encT_eq, splice, fillD]
      · by_cases h32 : k = 32
        · subst h32
          simp only [if_neg h31, if_true, g7]
          simp [q1, q2, q3, ← encT_eq, splice, fillD]
        · simp only [if_neg h31, if_neg h32, g8, g9] at q4 ⊢
          simp [q1, q2, q3, q4, h31, h32, ← encT_eq, splice, fillD]
end Go.Nt.Lk

/-
  NAMES RESOLVED by the program, walked (1): what is known at a place of a module; one thing behind the other.
  No condition.
-/
set_option linter.unusedSimpArgs false
set_option maxRecDepth 20000
namespace Go.Nt.Lk
open Go Go.Nt

/-- What is known, as it lies in the heap. -/
def scO (m : Tm) (lv : D) (at0 e : Int) (md : Nat) : Ob :=
  .cells true 10 0 md false [.agg [.mp 0, .int .i64 m.k, .int .i64 m.n, .str m.s, slE 6 m.fl (encTs m.l), .int .i64 m.a, .int .i64 m.b, lv, .int .i64 at0, .int .i64 e]]

/-- The places of declarations. -/
def entsOf : List Tm → Nat → List (D × D)
  | [], _ => []
  | t :: l, i => (.str t.s, .int .i64 i) :: entsOf l (i + 1)
theorem seek_ents (w : Nm) : ∀ (l : List Tm) (i j : Nat), seekD .str (.str w) (entsOf l i) j = some ((findN w l i).map fun k => (k - i + j, .int .i64 k))
  | [], i, j => rfl
  | t :: l, i, j => by
    rw [entsOf, findN, seekD]
    have e : keyD .str (.str w) (.str t.s) = some (w == t.s) := rfl
    simp only [e]
    by_cases h : t.s = w
    · have hb : (w == t.s) = true := by simp [h]
      rw [if_pos h, hb]
      simp
    · have hb : (w == t.s) = false := by simpa using fun c => h c.symm
      rw [if_neg h, hb]
      simp only
      rw [seek_ents w l (i + 1) (j + 1)]
      cases hf : findN w l (i + 1) with
      | none => rfl
      | some k =>
        have := (findN_lt hf).1
        simp only [Option.map_some, Option.some.injEq, Prod.mk.injEq, and_true]
        omega

/-- How often a row grew. -/
def verOf : D → Nat
  | .rs _ v _ _ _ _ => v + 1
  | _ => 0
/-- The locals' row, which grows and is cut. -/
def LocS (st : St) (lv : D) (locs : List Nm) : Prop :=
  (lv = .nils ∧ locs = []) ∨ ∃ id ver md more, lv = .rs id ver 1 0 locs.length false ∧ St.at st id = .cells false 1 ver md false ((locs ++ more).map .str) ∧ 1 < id ∧ id < st.length ∧ (locs ++ more).length ≤ ver + 1
theorem LocS.facts {st : St} {lv : D} {locs : List Nm} (h : LocS st lv locs) : lv.okv = true ∧ lv.cells = [lv] ∧ lv.fits none = true ∧ (∀ st' q, lenD st' .slice lv q = some (.i locs.length)) ∧ locs.length ≤ verOf lv := by
  rcases h with ⟨rfl, rfl⟩ | ⟨id, ver, md, more, rfl, _, _, _, h⟩
  · exact ⟨rfl, rfl, rfl, fun _ _ => rfl, by simp⟩
  · refine ⟨rfl, rfl, rfl, fun _ _ => rfl, ?_⟩
    simp only [List.length_append, verOf] at h ⊢
    omega

/-- What is known stands in the heap. -/
structure Sc (m : Tm) (st : St) (lv : D) (locs : List Nm) (at0 e : Int) : Prop where
  h0 : ∃ md, St.at st 0 = .map md (entsOf m.l 0)
  hl : 1 < st.length
  h1 : ∃ md, St.at st 1 = scO m lv at0 e md
  hw : LocS st lv locs

/-- An object of the heap that is a row of terms. -/
def isT : Ob → Bool
  | .cells false 6 _ _ _ _ => true
  | _ => false
/-- Objects that are left as they are. -/
def keepO : Ob → Bool
  | .cells false 6 _ _ _ _ | .cells true 6 _ _ _ _ | .cells true 1 _ _ _ _ | .map _ _ => true
  | _ => false
def Fr (p : Option Nat) (st st' : St) : Prop := st.length ≤ st'.length ∧ ∀ i, i < st.length → p ≠ some i → keepO (St.at st i) = true → St.at st' i = St.at st i
def Oth (st st' : St) : Prop := st.length ≤ st'.length ∧ ∀ i, i < st.length → isT (St.at st i) = false → St.at st' i = St.at st i
theorem Fr.refl (p : Option Nat) (st : St) : Fr p st st := ⟨Nat.le_refl _, fun _ _ _ _ => rfl⟩
theorem Fr.trans {p : Option Nat} {a b c : St} (h : Fr p a b) (k : Fr p b c) : Fr p a c := by
  refine ⟨Nat.le_trans h.1 k.1, fun i hi hp hk => ?_⟩
  have e := h.2 i hi hp hk
  rw [k.2 i (by have := h.1; omega) hp (by rw [e]; exact hk), e]
theorem Fr.any {p : Option Nat} {a b : St} (h : Fr none a b) : Fr p a b := ⟨h.1, fun i hi _ hk => h.2 i hi (by simp) hk⟩

variable {m : Tm} {st : St} {lv : D} {locs : List Nm} {at0 e : Int}

theorem Sc.oth {st' : St} (K : Sc m st lv locs at0 e) (o : Oth st st') : Sc m st' lv locs at0 e := by
  obtain ⟨⟨md0, h0⟩, hl, ⟨md1, h1⟩, hw⟩ := K
  refine ⟨⟨md0, by rw [o.2 0 (by omega) (by rw [h0]; rfl), h0]⟩, by have := o.1; omega, ⟨md1, by rw [o.2 1 hl (by rw [h1]; rfl), h1]⟩, ?_⟩
  rcases hw with h | ⟨id, ver, md, more, rfl, a1, a2, a3, a4⟩
  · exact .inl h
  · exact .inr ⟨id, ver, md, more, rfl, by rw [o.2 id a3 (by rw [a1]; rfl), a1], a2, by have := o.1; omega, a4⟩

/-- What is known is written anew but for the locals. -/
theorem Sc.put (K : Sc m st lv locs at0 e) (a1 e1 : Int) (md : Nat) : Sc m (List.set st 1 (scO m lv a1 e1 md)) lv locs a1 e1 ∧ Fr none st (List.set st 1 (scO m lv a1 e1 md)) := by
  obtain ⟨⟨md0, h0⟩, hl, ⟨md1, h1⟩, hw⟩ := K
  have ha : ∀ i o, i ≠ 1 → St.at (List.set st 1 o) i = St.at st i := fun i o hi => by rw [at_set _ _ _ _ hl, if_neg hi]
  refine ⟨⟨⟨md0, by rw [ha 0 _ (by decide), h0]⟩, by simpa using hl, ⟨md, by rw [at_set _ _ _ _ hl, if_pos rfl]⟩, ?_⟩, by simp, fun i hi _ hk => ha i _ ?_⟩
  · rcases hw with h | ⟨id, ver, mdl, more, rfl, a1, a2, a3, a4⟩
    · exact .inl h
    · exact .inr ⟨id, ver, mdl, more, rfl, by rw [ha id _ (by omega), a1], a2, by simpa using a3, a4⟩
  · rintro rfl
    rw [h1] at hk
    cases hk

/-- A local comes. -/
theorem Sc.push (K : Sc m st lv locs at0 e) (hb : verOf lv ≤ 1000000) (x : Nm) :
    ∃ lv' st1 md, appendD st lv [.str x] 1 = some (lv', st1) ∧ lv'.okv = true ∧ lv'.cells = [lv'] ∧ verOf lv' = verOf lv + 1 ∧ 1 < st1.length ∧ St.at st1 1 = scO m lv at0 e md ∧
      ∀ md', Sc m (List.set st1 1 (scO m lv' at0 e md')) lv' (locs ++ [x]) at0 e ∧ Fr none st (List.set st1 1 (scO m lv' at0 e md')) := by
  obtain ⟨⟨md0, h0⟩, hl, ⟨md1, h1⟩, hw⟩ := K
  rcases hw with ⟨rfl, rfl⟩ | ⟨id, ver, md, more, rfl, a1, a2, a3, a4⟩
  · have hl' : 1 < (st ++ [Ob.cells false 1 0 0 false [.str x]]).length := by simp; omega
    have ha : ∀ i o, i ≠ 1 → i < st.length → St.at (List.set (st ++ [Ob.cells false 1 0 0 false [.str x]]) 1 o) i = St.at st i := fun i o hi hlt => by rw [at_set _ _ _ _ hl', if_neg hi]; exact at_lt _ _ hlt
    refine ⟨.rs st.length 0 1 0 1 false, st ++ [.cells false 1 0 0 false [.str x]], md1, by simp [appendD, most], rfl, rfl, rfl, hl', by rw [at_lt _ _ hl]; exact h1, fun md' => ⟨⟨⟨md0, by rw [ha 0 _ (by decide) (by omega), h0]⟩, by rw [List.length_set]; exact hl', ⟨md', by rw [at_set _ _ _ _ hl', if_pos rfl]⟩, ?_⟩, by simp, fun i hi _ hk => ha i _ ?_ hi⟩⟩
    · refine .inr ⟨st.length, 0, 0, [], rfl, ?_, hl, by simp, by simp⟩
      rw [at_set _ _ _ _ hl', if_neg (by omega), at_last]
      simp
    · rintro rfl
      rw [h1] at hk
      cases hk
  · have hv : ver ≤ 1000000 := by simp only [verOf] at hb; omega
    have ht : ver + 1 < tagB := by unfold tagB; omega
    have hm : (locs ++ more).length ≤ most := by unfold most; omega
    have hm2 : locs.length + more.length ≤ 134217728 := by simpa [most] using hm
    have hl' : 1 < (List.set st id (Ob.cells false 1 (ver + 1) (md + 1) false ((locs ++ [x]).map .str))).length := by simpa using hl
    have ha : ∀ i o, i ≠ 1 → i ≠ id → St.at (List.set (List.set st id (Ob.cells false 1 (ver + 1) (md + 1) false ((locs ++ [x]).map .str))) 1 o) i = St.at st i := fun i o hi hn => by
      rw [at_set _ _ _ _ (by simpa using hl), if_neg hi, at_set _ _ _ _ a3, if_neg hn]
    refine ⟨.rs id (ver + 1) 1 0 (locs.length + 1) false, List.set st id (.cells false 1 (ver + 1) (md + 1) false ((locs ++ [x]).map .str)), md1, ?_, rfl, rfl, rfl, hl', ?_, fun md' => ⟨⟨⟨md0, ?_⟩, by simpa using hl, ⟨md', by rw [at_set _ _ _ _ hl', if_pos rfl]⟩, ?_⟩, by simp, fun i hi _ hk => ha i _ ?_ ?_⟩⟩
    · have e2 : List.take locs.length ((locs ++ more).map D.str) = locs.map .str := by rw [List.map_append, List.take_append_of_le_length (by simp), List.take_of_length_le (by simp)]
      simp only [List.map_append] at e2
      simp [appendD, a1, hm2, most, ht]
    · rw [at_set _ _ _ _ a3, if_neg (by omega)]; exact h1
    · rw [ha 0 _ (by decide) (by omega)]; exact h0
    · refine .inr ⟨id, ver + 1, md + 1, [], by simp, ?_, a2, by simpa using a3, ?_⟩
      · rw [at_set _ _ _ _ hl', if_neg (by omega), at_set _ _ _ _ a3, if_pos rfl, List.append_nil]
      · simp only [List.length_append] at a4
        simp
        omega
    · rintro rfl
      rw [h1] at hk
      cases hk
    · rintro rfl
      rw [a1] at hk
      cases hk

/-- The locals that came are forgotten. -/
theorem Sc.back (K : Sc m st lv locs at0 e) (k : Nat) (hk : k ≤ locs.length) :
    ∃ lv2, (∀ q, q = (k : Int) → sliceD lv none (some (.int .i64 q)) none = some lv2) ∧ slcTy (some 1) lv = true ∧ lv2.okv = true ∧ lv2.cells = [lv2] ∧ verOf lv2 = verOf lv ∧ ∀ md, Sc m (List.set st 1 (scO m lv2 at0 e md)) lv2 (locs.take k) at0 e ∧ Fr none st (List.set st 1 (scO m lv2 at0 e md)) := by
  obtain ⟨⟨md0, h0⟩, hl, ⟨md1, h1⟩, hw⟩ := K
  have ha : ∀ i o, i ≠ 1 → St.at (List.set st 1 o) i = St.at st i := fun i o hi => by rw [at_set _ _ _ _ hl, if_neg hi]
  have fr : ∀ o, Fr none st (List.set st 1 o) := fun o => ⟨by simp, fun i hi _ hk => ha i _ (by rintro rfl; rw [h1] at hk; cases hk)⟩
  rcases hw with ⟨rfl, rfl⟩ | ⟨id, ver, md, more, rfl, a1, a2, a3, a4⟩
  · have : k = 0 := by simpa using hk
    subst this
    exact ⟨.nils, by rintro q rfl; simp [sliceD, boundD], rfl, rfl, rfl, rfl, fun md => ⟨⟨⟨md0, by rw [ha 0 _ (by decide), h0]⟩, by simpa using hl, ⟨md, by rw [at_set _ _ _ _ hl, if_pos rfl]⟩, .inl ⟨rfl, rfl⟩⟩, fr _⟩⟩
  · have hk' : (k : Int) ≤ locs.length := by omega
    refine ⟨.rs id ver 1 0 k false, by rintro q rfl; simp [sliceD, boundD, hk'], rfl, rfl, rfl, rfl, fun md' => ⟨⟨⟨md0, by rw [ha 0 _ (by decide), h0]⟩, by simpa using hl, ⟨md', by rw [at_set _ _ _ _ hl, if_pos rfl]⟩, .inr ⟨id, ver, md, locs.drop k ++ more, ?_, ?_, a2, by simpa using a3, ?_⟩⟩, fr _⟩⟩
    · rw [List.length_take, Nat.min_eq_left hk]
    · rw [ha id _ (by omega), a1, ← List.append_assoc, List.take_append_drop]
    · rw [← List.append_assoc, List.take_append_drop]; exact a4

/-- Something was wrong; so many locals at least, which grew so often at most. -/
def Se (m : Tm) (st : St) (n0 B : Nat) (a y : Int) : Prop := ∃ lv locs, Sc m st lv locs a y ∧ n0 ≤ locs.length ∧ verOf lv ≤ B
theorem Se.oth {st' : St} {n0 B : Nat} {a y : Int} (h : Se m st n0 B a y) (o : Oth st st') : Se m st' n0 B a y := by
  obtain ⟨lv, locs, K, h2, h3⟩ := h
  exact ⟨lv, locs, K.oth o, h2, h3⟩
end Go.Nt.Lk

/-
  NAMES RESOLVED by the program, walked (2): one thing behind the other.
  No condition.
-/
set_option linter.unusedSimpArgs false
set_option maxRecDepth 20000
namespace Go.Nt.Lk
open Go Go.Nt

variable {σ : Type} {m : Tm}

/-- One thing behind the other. -/
def eachR (F : σ → Tm → Er (Tm × σ)) : σ → List Tm → Er (List Tm × σ)
  | s, [] => .ok ([], s)
  | s, t :: l => match F s t with
    | .error e => .error e
    | .ok (x, s1) => match eachR F s1 l with
      | .error e => .error e
      | .ok (xs, s2) => .ok (x :: xs, s2)

/-- How one thing ends. -/
def One (m : Tm) (p : Option Nat) (J : σ → St → Prop) (wt : σ → Nat) (n0 B : Nat) (s : σ) (x : Tm) (R : Er (Tm × σ)) (st : St) (r : Tm) (st' : St) : Prop :=
  Fr p st st' ∧ match R with
    | .ok (x', s') => x' = r ∧ J s' st' ∧ wt s' ≤ wt s + cntT x
    | .error (a, y) => y ≠ 0 ∧ Se m st' n0 B a y

/-- How the loop ends. -/
def Q37 (m : Tm) (p : Option Nat) (J : σ → St → Prop) (wt : σ → Nat) (n0 B : Nat) (st0 : St) (w : Nat) (R : Er (List Tm × σ)) (rs : List Tm) (e : Ex) (s' : List D) (st' : St) : Prop :=
  Fr p st0 st' ∧ match R with
    | .ok (ss, s1) => e = .exit 0 ∧ RawN 6 st' (get s' 7) (encTs (rs ++ ss)) ∧ (rs ++ ss = [] ∨ st0.length ≤ idOf (get s' 7)) ∧ J s1 st' ∧ wt s1 ≤ w
    | .error (a, y) => y ≠ 0 ∧ Se m st' n0 B a y ∧ ((e = .ret ∧ get s' 6 = .nils) ∨ e = .exit 0 ∧ ∃ rs', RawN 6 st' (get s' 7) (encTs rs') ∧ (rs' = [] ∨ st0.length ≤ idOf (get s' 7)))

theorem rowT {st : St} {L : D} {rs : List Tm} (R : RawN 6 st L (encTs rs)) : rs = [] ∨ (isT (St.at st (idOf L)) = true ∧ keepO (St.at st (idOf L)) = true ∧ idOf L < st.length) := by
  rcases R with ⟨h, _⟩ | ⟨id, md, h0, rfl, h1, h2⟩
  · left; cases rs with
    | nil => rfl
    | cons a b => simp at h
  · right
    have e : idOf (.rs id ((encTs rs).length - 1) 6 0 (encTs rs).length false) = id := rfl
    rw [e, h1]
    exact ⟨rfl, rfl, h2⟩

theorem l37 (p : Option Nat) (J : σ → St → Prop) (F : σ → Tm → Er (Tm × σ)) (wt : σ → Nat) (n0 E0 B : Nat) (g : Nat) (first cap : List D) (fl : Fl) (l : List Tm) (hl : l.length ≤ 1000000) (st0 : St) (hp : ∀ i, p = some i → i < st0.length)
    (hJ : ∀ s st, J s st → ∃ lv locs at0, Sc m st lv locs at0 0) (hO : ∀ s st st', J s st → Oth st st' → J s st')
    (hone : ∀ x, x ∈ l → ∀ s st, J s st → wt s + cntT x ≤ B → ∃ r st', callD T (ev T) g (first ++ [encT x] ++ cap) st = some (encT r, st') ∧ One m p J wt n0 E0 s x (F s x) st r st') :
    ∀ (r i : Nat) (s : List D) (bx : List (Nat × List D)) (st : St) (v : σ) (L : D) (rs : List Tm), r = l.length - i → i ≤ l.length → Fr p st0 st → J v st → wt v + cntTs (l.drop i) ≤ B → RawN 6 st L (encTs rs) → rs.length = i → (rs = [] ∨ st0.length ≤ idOf L) →
      get s 0 = .hp 1 0 10 0 0 → get s 2 = .fn g first cap → get s 7 = L → get s 10 = slE 6 fl (encTs l) → get s 11 = .i l.length → get s 12 = .int .i64 i →
    Stops (lp T L37_0 ⟨⟨s, bx⟩, st⟩) fun e s' _ st' => Q37 m p J wt n0 E0 st0 (wt v + cntTs (l.drop i)) (eachR F v (l.drop i)) rs e s' st' := by
  intro r
  induction r with
  | zero =>
    intro i s bx st v L rs hr hi W K hb R hrs hid h0 h2 h7 h10 h11 h12
    have e : i = l.length := by omega
    refine Stops_wp L37_0.eq_1 ?_
    rw [e, List.drop_length, eachR]
    have fin : Q37 m p J wt n0 E0 st0 (wt v + cntTs []) (.ok ([], v)) rs (.exit 0) s st := ⟨W, rfl, by rw [List.append_nil, h7]; exact R, by rw [List.append_nil, h7]; exact hid, K, by omega⟩
    have fin2 : ∀ s', get s' 7 = get s 7 → Q37 m p J wt n0 E0 st0 (wt v + cntTs []) (.ok ([], v)) rs (.exit 0) s' st := by
      intro s' hs
      unfold Q37 at fin ⊢
      rw [hs]; exact fin
    generalize Q37 m p J wt n0 E0 st0 (wt v + cntTs []) (.ok ([], v)) rs = Q at *
    simp [h0, h2, h7, h10, h11, h12, e]
    exact fin2 _ (by simp)
  | succ r ih =>
    intro i s bx st v L rs hr hi W K hb R hrs hid h0 h2 h7 h10 h11 h12
    have hlt : i < l.length := by omega
    have hw : IntKind.wrap .i64 ((i : Int) + 1) = ((i + 1 : Nat) : Int) := by rw [wrap64] <;> omega
    have hd := List.drop_eq_getElem_cons hlt
    have hc : cntTs (l.drop i) = cntT l[i] + cntTs (l.drop (i + 1)) := by rw [hd, cntTs]
    obtain ⟨lv, locs, at0, K0⟩ := hJ v st K
    obtain ⟨md, k0⟩ := K0.h1
    obtain ⟨x1, x2, x3, _⟩ := K0.hw.facts
    obtain ⟨y1, y2, y3, _⟩ := R.facts
    obtain ⟨q, st1, q1, W1, E⟩ := hone l[i] (List.getElem_mem hlt) v st K (by omega)
    have R1 : RawN 6 st1 L (encTs rs) := R.keep W1.1 fun hne => by
      rcases (rowT R) with h | ⟨h1, h2, h3⟩
      · rw [h] at hne; simp at hne
      · refine W1.2 _ h3 ?_ h2
        intro c
        have := hp _ c
        rcases hid with h | h
        · rw [h] at hne; simp at hne
        · omega
    obtain ⟨L2, st2, a1, R2, hl2, a3, o3, o3', a4⟩ := rawAppN R1 (by omega) q
    have hold : Oth st1 st2 := by
      refine ⟨hl2, fun j hj hn => a3 j hj ?_⟩
      rcases (rowT R1) with h | ⟨h1, h2, h3⟩
      · left; rw [h]; rfl
      · right; rintro rfl; rw [h1] at hn; cases hn
    have hid2 : rs ++ [q] = [] ∨ st0.length ≤ idOf L2 := by
      right
      rcases a4 with ⟨e1, e2⟩ | ⟨e1, e2⟩
      · rw [e1]; exact hid.resolve_left e2
      · rw [e2]; have := W.1; have := W1.1; omega
    have W2 : Fr p st0 st2 := by
      have W01 := W.trans W1
      refine ⟨Nat.le_trans W01.1 hl2, fun j hj hpj hk => ?_⟩
      have e := W01.2 j hj hpj hk
      rw [a3 j (by have := W01.1; omega) ?_, e]
      rcases hid with h | h
      · left; rw [h]; rfl
      · right; omega
    rw [encT_eq] at q1
    simp only [List.append_assoc, List.singleton_append] at q1
    rw [hd, eachR]
    cases hR : F v l[i] with
    | ok u =>
      obtain ⟨u1, u2⟩ := u
      rw [hR] at E
      obtain ⟨rfl, K1, hw1⟩ := E
      have nx := fun s' bx' => ih (i + 1) s' bx' st2 u2 L2 (rs ++ [u1]) (by omega) (by omega) W2 (hO _ _ _ K1 hold) (by omega) R2 (by simp; omega) hid2
      have fin : ∀ (e : Ex) (s' : List D) (st' : St), Q37 m p J wt n0 E0 st0 (wt u2 + cntTs (l.drop (i + 1))) (eachR F u2 (l.drop (i + 1))) (rs ++ [u1]) e s' st' →
          Q37 m p J wt n0 E0 st0 (wt v + cntTs (l[i] :: l.drop (i + 1))) (match eachR F u2 (l.drop (i + 1)) with | .error e => .error e | .ok (xs, s2) => .ok (u1 :: xs, s2)) rs e s' st' := by
        intro e s' st' h
        cases hE : eachR F u2 (l.drop (i + 1)) with
        | error z => rw [hE] at h; exact h
        | ok z =>
          obtain ⟨z1, z2⟩ := z
          rw [hE] at h
          obtain ⟨h1, h2, h3, h4, h5, h6⟩ := h
          rw [List.append_assoc] at h3 h4
          refine ⟨h1, h2, h3, h4, h5, ?_⟩
          simp only [cntTs]
          omega
      generalize Q37 m p J wt n0 E0 st0 (wt u2 + cntTs (l.drop (i + 1))) (eachR F u2 (l.drop (i + 1))) (rs ++ [u1]) = Q at *
      show Stops _ fun e s' _ st' => Q37 m p J wt n0 E0 st0 (wt v + cntTs (l[i] :: l.drop (i + 1))) (match eachR F u2 (l.drop (i + 1)) with | .error e => .error e | .ok (xs, s2) => .ok (u1 :: xs, s2)) rs e s' st'
      generalize Q37 m p J wt n0 E0 st0 (wt v + cntTs (l[i] :: l.drop (i + 1))) (match eachR F u2 (l.drop (i + 1)) with | .error e => .error e | .ok (xs, s2) => .ok (u1 :: xs, s2)) rs = Q' at *
      refine Stops_wp L37_0.eq_1 ?_
      simp [h0, h2, h7, h10, h11, h12, hlt, hw, k0, scO, kHs, splice, x1, x2, x3, y1, y2, y3, o3, o3', q1, a1, -Int.natCast_add]
      refine Stops.mono (nx _ _ ?_ ?_ ?_ ?_ ?_ ?_) ?_
      iterate 6 simp [h0, h2, h10, h11]
      intro e s' b' st' h
      exact fin e s' st' h
    | error u =>
      obtain ⟨u1, u2⟩ := u
      rw [hR] at E
      obtain ⟨hv, S1⟩ := E
      have S2 := S1.oth hold
      obtain ⟨lv2, locs2, K2, g1, g2⟩ := S2
      obtain ⟨md2, k2⟩ := K2.h1
      obtain ⟨z1, z2, z3, _⟩ := K2.hw.facts
      have fin : ∀ e s', ((e = .ret ∧ get s' 6 = .nils) ∨ e = .exit 0 ∧ get s' 7 = L2) → Q37 m p J wt n0 E0 st0 (wt v + cntTs (l[i] :: l.drop (i + 1))) (.error (u1, u2)) rs e s' st2 := by
        intro e s' h
        refine ⟨W2, hv, ⟨lv2, locs2, K2, g1, g2⟩, h.imp (fun h => h) fun h => ⟨h.1, rs ++ [q], ?_, ?_⟩⟩
        · rw [h.2]; exact R2
        · rw [h.2]; exact hid2
      show Stops _ fun e s' _ st' => Q37 m p J wt n0 E0 st0 (wt v + cntTs (l[i] :: l.drop (i + 1))) (.error (u1, u2)) rs e s' st'
      generalize Q37 m p J wt n0 E0 st0 (wt v + cntTs (l[i] :: l.drop (i + 1))) (.error (u1, u2)) rs = Q at *
      refine Stops_wp L37_0.eq_1 ?_
      simp [h0, h2, h7, h10, h11, h12, hlt, hw, k0, scO, kHs, splice, x1, x2, x3, y1, y2, y3, o3, o3', q1, a1, -Int.natCast_add]
      refine Stops_wp L37_0.eq_1 ?_
      by_cases hlast : i + 1 < l.length
      · have hlast' : ((i + 1 : Nat) : Int) < l.length := by omega
        simp [h0, h2, h7, h10, h11, h12, hlast, hlast', k2, scO, kHs, splice, z1, z2, z3, hv, -Int.natCast_add]
        exact fin _ _ (.inl ⟨rfl, by simp⟩)
      · have hlast' : ¬ ((i + 1 : Nat) : Int) < l.length := by omega
        simp [h0, h2, h7, h10, h11, h12, hlast, hlast', k2, scO, kHs, splice, z1, z2, z3, hv, -Int.natCast_add]
        exact fin _ _ (.inr ⟨rfl, by simp⟩)

/-- How 'parts' ends. -/
def Parts (m : Tm) (p : Option Nat) (J : σ → St → Prop) (wt : σ → Nat) (n0 B : Nat) (w : Nat) (R : Er (List Tm × σ)) (st : St) (rs : List Tm) (st' : St) : Prop :=
  Fr p st st' ∧ match R with
    | .ok (ss, s1) => ss = rs ∧ J s1 st' ∧ wt s1 ≤ w
    | .error (a, y) => y ≠ 0 ∧ Se m st' n0 B a y

theorem c37 (p : Option Nat) (J : σ → St → Prop) (F : σ → Tm → Er (Tm × σ)) (wt : σ → Nat) (n0 E0 B : Nat) (g : Nat) (first cap : List D) (hfc : (D.fn g first cap).okv = true) (fl : Fl) (l : List Tm) (hl : l.length ≤ 1000000) (st : St) (hp : ∀ i, p = some i → i < st.length)
    (hJ : ∀ s st, J s st → ∃ lv locs at0, Sc m st lv locs at0 0) (hO : ∀ s st st', J s st → Oth st st' → J s st')
    (hone : ∀ x, x ∈ l → ∀ s st, J s st → wt s + cntT x ≤ B → ∃ r st', callD T (ev T) g (first ++ [encT x] ++ cap) st = some (encT r, st') ∧ One m p J wt n0 E0 s x (F s x) st r st')
    (v : σ) (K : J v st) (hb : wt v + cntTs l ≤ B) :
    ∃ rs st', callD T (ev T) 37 [.hp 1 0 10 0 0, slE 6 fl (encTs l), .fn g first cap] st = some (slE 6 .nil (encTs rs), st') ∧ Parts m p J wt n0 E0 (wt v + cntTs l) (eachR F v l) st rs st' := by
  have lo := fun s bx => l37 p J F wt n0 E0 B g first cap fl l hl st hp hJ hO hone l.length 0 s bx st v .nils [] (by omega) (by omega) (.refl _ _) K (by simpa using hb) (RawN.nil _ _) rfl (.inl rfl)
  rw [List.drop_zero] at lo
  have go : Ret (ev T 37 [.hp 1 0 10 0 0, slE 6 fl (encTs l), .fn g first cap] st) fun r st1 => ∃ rs, RawN 6 st1 r (encTs rs) ∧ (rs = [] ∨ st.length ≤ idOf r) ∧ Parts m p J wt n0 E0 (wt v + cntTs l) (eachR F v l) st rs st1 := by
    refine Ret_wp (fn := F37) rfl ?_
    rw [F37]
    simp
    refine WL.use L37_0_p L37_0_w (lo _ _ ?_ ?_ ?_ ?_ ?_ ?_) ?_
    iterate 6 simp
    rintro e s' b' st' ⟨W, h⟩ hf
    cases hE : eachR F v l with
    | ok w =>
      obtain ⟨ss, s1⟩ := w
      rw [hE] at h
      simp only [List.nil_append] at h
      obtain ⟨rfl, R, hid, K1, hw1⟩ := h
      have := R.facts.1
      generalize hL : get s' 7 = L at *
      simp [hL, this]
      exact ⟨ss, R, hid, W, rfl, K1, hw1⟩
    | error w =>
      obtain ⟨a, y⟩ := w
      rw [hE] at h
      obtain ⟨hy, S1, h⟩ := h
      rcases h with ⟨rfl, h6⟩ | ⟨rfl, rs', R, hid⟩
      · simp [h6]
        exact ⟨[], RawN.nil _ _, .inl rfl, W, hy, S1⟩
      · have := R.facts.1
        generalize hL : get s' 7 = L at *
        simp [hL, this]
        exact ⟨rs', R, hid, W, hy, S1⟩
  obtain ⟨r, st1, h1, rs, R, hid, W, E⟩ := go
  obtain ⟨st2, f, _, hl2, hat⟩ := R.fz
  have hz : fz st1 r = some (slE 6 .nil (encTs rs), st2) := by
    rw [← f]
    rcases R with ⟨_, rfl⟩ | ⟨_, _, _, rfl, _⟩ <;> rfl
  have hold : Oth st1 st2 := by
    refine ⟨by omega, fun j hj hn => hat j ?_⟩
    rcases (rowT R) with h | ⟨h1, h2, h3⟩
    · left; rw [h]; rfl
    · right; rintro rfl; rw [h1] at hn; cases hn
  refine ⟨rs, st2, callD_freE (fn := F37) rfl rfl (by simp [hfc]) h1 hz (by simp), ?_, ?_⟩
  · refine ⟨by have := W.1; omega, fun j hj hpj hk => ?_⟩
    rw [hat j ?_, W.2 j hj hpj hk]
    rcases hid with h | h
    · left; rw [h]; rfl
    · right; omega
  · cases hE : eachR F v l with
    | ok w =>
      obtain ⟨ss, s1⟩ := w
      rw [hE] at E
      exact ⟨E.1, hO _ _ _ E.2.1 hold, E.2.2⟩
    | error w =>
      obtain ⟨a, y⟩ := w
      rw [hE] at E
      exact ⟨E.1, E.2.oth hold⟩

theorem slT_ix0 (fl : Fl) (l : List Tm) (i : Nat) (h : i < l.length) : idxAD (slE 6 fl (encTs l)) i 6 (some 6) none = some (.iptr (encT l[i])) := by
  rw [slE_idx, encTs_get, List.getElem?_eq_getElem h]
  simp

/-- Nothing is looked at if something was wrong. -/
theorem c37e {st : St} {lv : D} {locs : List Nm} {at0 e : Int} (K : Sc m st lv locs at0 e) (he : e ≠ 0) (g : Nat) (first cap : List D) (hfc : (D.fn g first cap).okv = true) (fl : Fl) (l : List Tm) :
    callD T (ev T) 37 [.hp 1 0 10 0 0, slE 6 fl (encTs l), .fn g first cap] st = some (.nils, st) := by
  obtain ⟨md, k0⟩ := K.h1
  obtain ⟨x1, x2, x3, _⟩ := K.hw.facts
  have go : Ret (ev T 37 [.hp 1 0 10 0 0, slE 6 fl (encTs l), .fn g first cap] st) fun r st1 => r = .nils ∧ st1 = st := by
    refine Ret_wp (fn := F37) rfl ?_
    rw [F37]
    simp
    have lo : ∀ s bx, get s 0 = .hp 1 0 10 0 0 → get s 7 = .nils → get s 10 = slE 6 fl (encTs l) → get s 11 = .i l.length → get s 12 = .int .i64 0 → Stops (lp T L37_0 ⟨⟨s, bx⟩, st⟩) fun e s' _ st' => st' = st ∧ ((e = .ret ∧ get s' 6 = .nils) ∨ (e = .exit 0 ∧ get s' 7 = .nils)) := by
      intro s bx h0 h7 h10 h11 h12
      refine Stops_wp L37_0.eq_1 ?_
      cases l with
      | nil => simp [h0, h7, h10, h11, h12]
      | cons x l =>
        have h : (0 : Int) < (x :: l).length := by simp
        have i1 := slT_ix0 fl (x :: l) 0 (by simp)
        simp only [List.getElem_cons_zero] at i1
        generalize slE 6 fl (encTs (x :: l)) = A at *
        generalize (x :: l).length = n at *
        simp [h0, h7, h10, h11, h12, h, i1, k0, scO, kHs, splice, x1, x2, x3, he, -Int.natCast_add]
    refine WL.use L37_0_p L37_0_w (lo _ _ ?_ ?_ ?_ ?_ ?_) ?_
    iterate 5 simp
    rintro e s' b' st' ⟨rfl, h⟩ hf
    rcases h with ⟨rfl, h6⟩ | ⟨rfl, h7⟩
    · simp [h6]
    · simp [h7]
  obtain ⟨r, st1, h1, rfl, rfl⟩ := go
  exact callD_freE (fn := F37) rfl rfl (by simp [hfc]) h1 rfl (by simp)
end Go.Nt.Lk
