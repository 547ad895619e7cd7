/-
  THE REFERENCE'S PARSER, walked (18): the module of a text.
  No condition.
-/
import Derived.Test.YtpfdoelhoiohdaaSpMod
import Derived.Test.YtpfdoelhoiohdaaSpDepth
import Derived.Test.YtpfdoelhoiohdaaSpCnt
import Derived.Test.YtpfdoelhoiohdaaSpRes
import Derived.Test.YtpfdoelhoiohdaaSpRef6
import Derived.Test.YtpfdoelhoiohdaaSpNamed
set_option linter.unusedSimpArgs false
set_option maxRecDepth 20000
namespace Go.Nt.Lk
open Go Go.Nt

/-- A term, or where and what is wrong. -/
def trD : Er Tm → D
  | .ok t => .tup [encT t, .i 0, .i 0]
  | .error (a, e) => .tup [encT tm0, .i a, .i e]
theorem trD_pure (x : Er Tm) : (trD x).pureT = true := by
  rcases x with ⟨a, e⟩ | t <;> simp [trD, D.pureT]
theorem encT_0 : encT tm0 = .agg [.int .i64 0, .int .i64 0, .str [], .nils, .int .i64 0, .int .i64 0] := rfl

/-- The module of what was read. -/
def modT (s : List UInt8) (ts : List Tm) : Tm := .mk 36 0 [] .emp ts 0 s.length
/-- What a text says. -/
def parseR (s : List UInt8) : Er Tm :=
  match toksR s with
  | .inr (a, e) => .error (a, e)
  | .inl l =>
    if ¬ (declsP l (l.length + 1) 0 []).e = 0 then .error ((nowT l (declsP l (l.length + 1) 0 []).a).f, (declsP l (l.length + 1) 0 []).e) else
    if 64 < (declsP l (l.length + 1) 0 []).ts.length then .error (0, 11) else
    if 64 < depT (modT s (declsP l (l.length + 1) 0 []).ts) then .error (0, 7) else .ok (modT s (declsP l (l.length + 1) 0 []).ts)

theorem toksD_part (l : List Tok) : toksD .part l = .sl 5 false (l.map Tok.enc) := by cases l <;> rfl

theorem c12 (s : List UInt8) (st : St) : callD T (ev T) 12 [.str s] st = some (trD (parseR s), st) := by
  refine callD_pureR (fn := F12) rfl rfl (by simp) (trD_pure _) ?_
  refine Ret_wp (fn := F12) rfl ?_
  rw [F12]
  have q := c16 s []
  unfold lexD at q
  cases ht : toksR s with
  | inr x =>
    obtain ⟨a, e⟩ := x
    have he := toksR_err ht
    rw [ht] at q
    simp only at q
    have hp : parseR s = .error (a, e) := by unfold parseR; rw [ht]
    rw [hp]
    simp [q, he, splice, fillD, trD, encT_0]
  | inl l =>
    obtain ⟨E, h0, hl⟩ := toks_ended ht
    rw [ht] at q
    simp only [← toksD_part] at q
    have lo := fun s bx => l12 (fl := .part) E (by omega) (l.length + 1) 0 [] (.sl 6 true []) s bx [] h0 (by omega) (RawX.nil _ _) (by simp)
    have hc := declsP_cg l (l.length + 1) 0 []
    have ha := declsP_at E (l.length + 1) 0 [] h0
    have hp : parseR s = (let g := declsP l (l.length + 1) 0 []
      if ¬ g.e = 0 then .error ((nowT l g.a).f, g.e) else if 64 < g.ts.length then .error (0, 11) else if 64 < depT (modT s g.ts) then .error (0, 7) else .ok (modT s g.ts)) := by unfold parseR; rw [ht]
    generalize declsP l (l.length + 1) 0 [] = g at *
    simp only at hp
    generalize parseR s = X at *
    simp [q, splice, fillD]
    refine WL.use L12_0_p L12_0_w (lo _ _ ?_ ?_ ?_ ?_ ?_) ?_
    iterate 5 simp
    rintro e s' b' st' h hf
    rcases h with ⟨rfl, b2, he, g3, g4⟩ | ⟨rfl, b2, he, R⟩
    · rw [if_pos he] at hp
      subst hp
      have f2 := hf 2 rfl
      simp at f2
      simp [f2, b2, g3, g4, trD, encT_0]
    · rw [if_neg (fun c => c he)] at hp
      have hc := hc he
      have ha := ha he
      simp only [cntTs] at hc
      obtain ⟨r1, r2, r3, r4⟩ := R.facts
      obtain ⟨st2, z1, z2, _⟩ := R.fz2
      have f2 := hf 2 rfl
      have f0 := hf 0 rfl
      simp at f2 f0
      have hcm : cntT (modT s g.ts) ≤ 1000000 := by
        have : cntT (modT s g.ts) = cntTs g.ts + 1 := cntT_eq _
        omega
      have q36 := c36 (modT s g.ts) hcm st2
      have q36' : callD T (ev T) 36 [.agg [.int .i64 36, .int .i64 0, .str [], get s' 8, .int .i64 0, .int .i64 s.length]] st' = some (.int .i64 (depT (modT s g.ts)), st2) := by
        refine callD_free (fn := F36) rfl rfl ?_ ?_ q36
        · have : encT (modT s g.ts) = .agg [.int .i64 36, .int .i64 0, .str [], slE 6 .emp (encTs g.ts), .int .i64 0, .int .i64 s.length] := rfl
          rw [this]
          simp [pureArgs, fz1, fzL, z1]
        · simp
      generalize hL : get s' 8 = L at *
      by_cases h1 : 64 < g.ts.length
      · rw [if_pos h1] at hp
        subst hp
        have h1' : (64 : Int) < g.ts.length := by omega
        simp [f2, f0, b2, hL, r1, r2, r3, r4, h1, h1', splice, fillD, trD, encT_0]
      · rw [if_neg h1] at hp
        have h1' : ¬ (64 : Int) < g.ts.length := by omega
        generalize hd : depT (modT s g.ts) = d at *
        by_cases h2 : 64 < d
        · rw [if_pos h2] at hp
          subst hp
          have h2' : (64 : Int) < d := by omega
          simp [f2, f0, b2, hL, r1, r2, r3, r4, h1, h1', h2, h2', q36', splice, fillD, trD, encT_0]
        · rw [if_neg h2] at hp
          subst hp
          have h2' : ¬ (64 : Int) < d := by omega
          simp [f2, f0, b2, hL, r1, r2, r3, r4, h1, h1', h2, h2', q36', splice, fillD, trD]
          refine ⟨st2, ?_⟩
          have : encT (modT s g.ts) = .agg [.int .i64 36, .int .i64 0, .str [], slE 6 .emp (encTs g.ts), .int .i64 0, .int .i64 s.length] := rfl
          rw [this]
          simp [fz, fz1, fzL, z2]
end Go.Nt.Lk

/-
  NAMES RESOLVED by the reference, walked (7): a module.
  No condition.
-/
set_option linter.unusedSimpArgs false
set_option maxRecDepth 20000
namespace Go.Nt.Lk
open Go Go.Nt

/-- Was the name there? -/
theorem find_seen (l : List Tm) (i : Nat) (hi : i < l.length) : ∃ j, findN l[i].s l 0 = some j ∧ (l[i].s ∈ ((l.take i).map (·.s)).reverse ↔ j < i) := by
  have key : ∀ (w : Nm) (l : List Tm) (n i : Nat) (h : i < l.length), l[i].s = w → ∃ j, findN w l n = some j ∧ (w ∈ (l.take i).map (·.s) ↔ j < n + i) := by
    intro w l
    induction l with
    | nil => intro n i h; cases h
    | cons t l ih =>
      intro n i h e
      rw [findN]
      by_cases ht : t.s = w
      · rw [if_pos ht]
        refine ⟨n, rfl, ?_⟩
        cases i with
        | zero => simp
        | succ i => simp [ht]
      · rw [if_neg ht]
        cases i with
        | zero => exact absurd e ht
        | succ i =>
          obtain ⟨j, h1, h2⟩ := ih (n + 1) i (by simpa using h) (by simpa using e)
          refine ⟨j, h1, ?_⟩
          rw [List.take_succ_cons, List.map_cons, List.mem_cons, h2]
          constructor
          · rintro (c | c)
            · exact absurd c.symm ht
            · omega
          · intro c; right; omega
  obtain ⟨j, h1, h2⟩ := key l[i].s l 0 i hi rfl
  exact ⟨j, h1, by rw [List.mem_reverse, h2, Nat.zero_add]⟩

def Q14 (R : Option Int) (e : Ex) (s' : List D) (b' : List (Nat × List D)) : Prop := match R with
  | some a => e = .ret ∧ getB b' 2 = (1, z6) ∧ get s' 3 = .int .i64 a ∧ get s' 4 = .int .i64 9
  | none => e = .exit 0 ∧ getB b' 2 = (1, z6)
theorem l14_0 (m : Tm) (hm : m.l.length ≤ 1000000) :
    ∀ (r i : Nat) (s : List D) (bx : List (Nat × List D)) (st : St), r = m.l.length - i → i ≤ m.l.length →
      get s 1 = .lp 1 1 0 → getB bx 1 = (1, clT m) → get s 2 = .lp 2 1 0 → getB bx 2 = (1, z6) → get s 5 = .int .i64 i →
    Stops (lp T L14_0 ⟨⟨s, bx⟩, st⟩) fun e s' b' st' => Q14 (twiceR ((m.l.take i).map (·.s)).reverse (m.l.drop i)) e s' b' := by
  intro r
  induction r with
  | zero =>
    intro i s bx st hr hi h1 b1 h2 b2 h5
    have e : i = m.l.length := by omega
    rw [e, List.drop_length, twiceR]
    refine Stops_wp L14_0.eq_1 ?_
    simp [h1, b1, h5, e, Q14, b2]
  | succ r ih =>
    intro i s bx st hr hi h1 b1 h2 b2 h5
    have hlt : i < m.l.length := by omega
    have hw : IntKind.wrap .i64 ((i : Int) + 1) = ((i + 1 : Nat) : Int) := by rw [wrap64] <;> omega
    have nx := fun s' bx' => ih (i + 1) s' bx' st (by omega) (by omega)
    have hsn : ((m.l.take (i + 1)).map (·.s)).reverse = m.l[i].s :: ((m.l.take i).map (·.s)).reverse := by
      rw [List.take_succ_eq_append_getElem hlt, List.map_append, List.reverse_append]
      rfl
    obtain ⟨j, f1, f2⟩ := find_seen m.l i hlt
    have q := fun st => c39 m hm m.l[i].s st
    have ed : declI m m.l[i].s = j := by unfold declI declN; rw [f1]
    rw [ed] at q
    rw [hsn] at nx
    rw [List.drop_eq_getElem_cons hlt, twiceR]
    generalize ((m.l.take i).map (·.s)).reverse = seen at *
    refine Stops_wp L14_0.eq_1 ?_
    by_cases hg : m.l[i].s ∈ seen
    · rw [if_pos hg]
      have hj : (j : Int) < i := by have := f2.1 hg; omega
      simp [h1, b1, h2, b2, h5, hlt, ← encT_eq, q, hj, f2.1 hg, splice, fillD, Q14, -Int.natCast_add]
    · rw [if_neg hg]
      have hj' : ¬ j < i := fun c => hg (f2.2 c)
      have hj : ¬ (j : Int) < i := by omega
      generalize twiceR (m.l[i].s :: seen) (m.l.drop (i + 1)) = W at *
      simp [h1, b1, h2, b2, h5, hlt, ← encT_eq, q, hj, hj', hw, splice, fillD, -Int.natCast_add]
      refine nx _ _ ?_ ?_ ?_ ?_ ?_ <;> simp [h1, b1, h2, b2]

theorem decl_err {q : List Tm → Fl} {m t : Tm} (hd : declX t = true) {x : Int × Int} (h : declR q m t = .error x) : x.2 = 8 ∨ x.2 = 9 := by
  unfold declX at hd
  by_cases h30 : t.k = 30
  · unfold declR at h
    rw [if_pos h30] at h
    cases hx : partsR q m true [] t.l with
    | error e => rw [hx] at h; cases h; exact parts_err _ _ _ hx
    | ok ls => rw [hx] at h; cases h
  rw [if_neg h30] at hd
  by_cases h33 : t.k = 33
  · rw [if_pos h33] at hd
    match hl : t.l, hd with
    | [p, r, b], hd =>
      rw [declR_fn q m t p r b h33 hl] at h
      cases hx : partsR q m false [] p.l with
      | error e => rw [hx] at h; cases h; exact parts_err _ _ _ hx
      | ok ls =>
        rw [hx, bindE_ok] at h
        cases hy : anyR q m [] r with
        | error e => rw [hy] at h; cases h; exact .inl (any_err _ _ _ hy)
        | ok r' =>
          rw [hy, bindE_ok] at h
          cases hz : anyR q m (p.l.map (·.s)) b with
          | error e => rw [hz] at h; cases h; exact .inl (any_err _ _ _ hz)
          | ok b' => rw [hz] at h; cases h
    | [], hd => cases hd
    | [_], hd => cases hd
    | [_, _], hd => cases hd
    | _ :: _ :: _ :: _ :: _, hd => cases hd
  · unfold declR at h
    rw [if_neg h30, if_pos h33] at h
    exact .inl (any_err _ _ _ h)

theorem declsR_cons (q : List Tm → Fl) (m t : Tm) (r : List Tm) : declsR q m (t :: r) = consR (declR q m t) (declsR q m r) := by
  rw [declsR]
  unfold consR
  cases declR q m t with
  | error e => rfl
  | ok x => cases declsR q m r <;> rfl

def Q14b (m : Tm) (rs : List Tm) (bx : List (Nat × List D)) (R : Er (List Tm)) (e : Ex) (s' : List D) (b' : List (Nat × List D)) (st' : St) : Prop :=
  match R with
  | .error (a, y) => e = .ret ∧ getB b' 2 = (1, z6) ∧ get s' 3 = .int .i64 a ∧ get s' 4 = .int .i64 y
  | .ok xs => e = .exit 2 ∧ getB b' 2 = (1, z6) ∧ ∃ L', getB b' 6 = (1, [.int .i64 m.k, .int .i64 m.n, .str [], L', .int .i64 m.a, .int .i64 m.b]) ∧ RawX 6 st' L' (encTs (rs ++ xs))

theorem l14_1 (m : Tm) (hm : cntT m ≤ 400000) (hX : ∀ x, x ∈ m.l → declX x = true) :
    ∀ (r i : Nat) (L : D) (rs : List Tm) (s : List D) (bx : List (Nat × List D)) (st : St), r = m.l.length - i → i ≤ m.l.length → RawX 6 st L (encTs rs) → rs.length = i →
      get s 1 = .lp 1 1 0 → getB bx 1 = (1, clT m) → get s 2 = .lp 2 1 0 → getB bx 2 = (1, z6) → get s 6 = .lp 6 1 0 → getB bx 6 = (1, [.int .i64 m.k, .int .i64 m.n, .str [], L, .int .i64 m.a, .int .i64 m.b]) → get s 7 = .int .i64 i →
    Stops (lp T L14_1 ⟨⟨s, bx⟩, st⟩) fun e s' b' st' => Q14b m rs bx (declsR qe m (m.l.drop i)) e s' b' st' := by
  have hct := cntT_eq m
  have hcl := cntTs_len m.l
  intro r
  induction r with
  | zero =>
    intro i L rs s bx st hr hi R hrs h1 b1 h2 b2 h6 b6 h7
    have e : i = m.l.length := by omega
    rw [e, List.drop_length, declsR]
    refine Stops_wp L14_1.eq_1 ?_
    simp [h1, b1, h2, b2, h6, b6, h7, e, Q14b]
    exact R
  | succ r ih =>
    intro i L rs s bx st hr hi R hrs h1 b1 h2 b2 h6 b6 h7
    have hlt : i < m.l.length := by omega
    have hmem := List.getElem_mem hlt
    have hcm := cntTs_mem hmem
    have hw : IntKind.wrap .i64 ((i : Int) + 1) = ((i + 1 : Nat) : Int) := by rw [wrap64] <;> omega
    obtain ⟨r1, r2, r3, r4⟩ := R.facts
    have q := fun st => c40 m (by omega) m.l[i] (hX _ hmem) (by omega) st
    have hde := fun x h => decl_err (q := qe) (m := m) (hX _ hmem) (x := x) h
    rw [List.drop_eq_getElem_cons hlt, declsR_cons]
    cases hx : declR qe m m.l[i] with
    | error x =>
      obtain ⟨a, y⟩ := x
      have hy := hde _ hx
      simp only at hy
      have hy0 : ¬ y = 0 := by omega
      rw [hx, gotR_er] at q
      refine Stops_wp L14_1.eq_1 ?_
      rw [show consR (.error (a, y)) (declsR qe m (m.l.drop (i + 1))) = .error (a, y) from rfl]
      simp [h1, b1, h2, b2, h6, b6, h7, hlt, ← encT_eq, q, hy0, splice, fillD, Q14b, -Int.natCast_add]
    | ok x =>
      rw [hx, gotR_ok] at q
      obtain ⟨L3, st3, a3, R3, hl3, hat3, o3, o3'⟩ := rawApp6 R (by omega) x
      have nx := fun s' bx' => ih (i + 1) L3 (rs ++ [x]) s' bx' st3 (by omega) (by omega) R3 (by simp; omega)
      have fin : ∀ (R' : Er (List Tm)) (e : Ex) (s' : List D) (bx' b' : List (Nat × List D)) (st' : St), Q14b m (rs ++ [x]) bx' R' e s' b' st' → Q14b m rs bx (consR (.ok x) R') e s' b' st' := by
        intro R' e s' bx' b' st' h
        rcases R' with ⟨a, y⟩ | xs
        · exact h
        · obtain ⟨h1, h2, L', h3, h4⟩ := h
          refine ⟨h1, h2, L', h3, ?_⟩
          rw [List.append_assoc] at h4
          exact h4
      generalize declsR qe m (m.l.drop (i + 1)) = R' at *
      have fin := fin R'
      generalize Q14b m rs bx (consR (.ok x) R') = Q at *
      refine Stops_wp L14_1.eq_1 ?_
      simp [h1, b1, h2, b2, h6, b6, h7, hlt, hw, ← encT_eq, q, r1, r2, a3, o3, o3', splice, fillD, -Int.natCast_add]
      refine Stops.mono (nx _ _ ?_ ?_ ?_ ?_ ?_ ?_ ?_) ?_
      iterate 7 simp [h1, b1, h2, b2, h6]
      intro e s' b' st' h
      exact fin _ _ _ _ _ h

theorem c14 (m : Tm) (hm : cntT m ≤ 400000) (hX : ∀ x, x ∈ m.l → declX x = true) (st : St) : callD T (ev T) 14 [encT m] st = some (trD (resolveR qe m), st) := by
  have hct := cntT_eq m
  have hcl := cntTs_len m.l
  refine callD_pureR (fn := F14) rfl rfl (by simp) (trD_pure _) ?_
  refine Ret_wp (fn := F14) rfl ?_
  rw [F14]
  have lo := fun s bx st => l14_0 m (by omega) m.l.length 0 s bx st (by omega) (by omega)
  have lo2 := fun s bx st => l14_1 m hm hX m.l.length 0 (.sl 6 true []) [] s bx st (by omega) (by omega) (RawX.nil _ _) rfl
  rw [List.drop_zero] at lo lo2
  rw [show ((m.l.take 0).map (·.s)).reverse = [] from rfl] at lo
  obtain ⟨X, hX⟩ : ∃ X, X = resolveR qe m := ⟨_, rfl⟩
  rw [← hX]
  unfold resolveR at hX
  simp [splice, fillD]
  refine WL.useB L14_0_p L14_0_w rfl (lo _ _ _ ?_ ?_ ?_ ?_ ?_) ?_
  iterate 5 simp
  intro e s' b' st' h hf hfb
  have f1 := hf 1 rfl
  have f2 := hf 2 rfl
  have g1 := hfb 1 rfl
  have g6 := hfb 6 rfl
  simp at f1 f2 g1 g6
  cases ht : twiceR [] m.l with
  | some a =>
    rw [ht] at h hX
    simp only at hX
    subst hX
    obtain ⟨rfl, b2, h3, h4⟩ := h
    simp [f1, f2, b2, h3, h4, trD, encT_0]
  | none =>
    rw [ht] at h hX
    simp only at hX
    obtain ⟨rfl, b2⟩ := h
    simp [f1, f2, g1, g6, b2, splice, fillD]
    refine WL.useB L14_1_p L14_1_w rfl (lo2 _ _ _ ?_ ?_ ?_ ?_ ?_ ?_ ?_) ?_
    iterate 7 simp [f1, f2, g1, b2]
    intro e2 s2 b3 st3 h hf2 hfb2
    have k2 := hf2 2 rfl
    have k6 := hf2 6 rfl
    simp [f2] at k2 k6
    cases hd : declsR qe m m.l with
    | error x =>
      obtain ⟨a, y⟩ := x
      rw [hd] at h hX
      simp only at hX
      subst hX
      obtain ⟨rfl, b2, h3, h4⟩ := h
      simp [k2, b2, h3, h4, trD, encT_0]
    | ok xs =>
      rw [hd] at h hX
      simp only at hX
      subst hX
      obtain ⟨rfl, b2, L', b6, R⟩ := h
      rw [List.nil_append] at R
      obtain ⟨st4, z1, _⟩ := R.fz2
      simp [k2, k6, b2, b6, R.facts.1, R.facts.2.1, trD, splice, fillD]
      refine ⟨st4, ?_⟩
      rw [encT_eq]
      simp [fz, fz1, fzL, z1]
end Go.Nt.Lk

/-
  NAMES RESOLVED by the program, walked (10): declarations.
  No condition.
-/
set_option linter.unusedSimpArgs false
set_option maxRecDepth 20000
namespace Go.Nt.Lk
open Go Go.Nt

variable {m : Tm} {st : St} {lv : D} {locs : List Nm} {at0 e : Int}

/-- No term is looked at if something was wrong. -/
theorem c73e (K : Sc m st lv locs at0 e) (he : e ≠ 0) (t : Tm) : callD T (ev T) 73 [.hp 1 0 10 0 0, encT t] st = some (encT tm0, st) := by
  obtain ⟨md, h1⟩ := K.h1
  obtain ⟨x1, x2, x3, _⟩ := K.hw.facts
  have go : Ret (ev T 73 [.hp 1 0 10 0 0, encT t] st) fun r st1 => r = encT tm0 ∧ st1 = st := by
    refine Ret_wp (fn := F73) rfl ?_
    rw [F73]
    simp [h1, scO, x1, x2, x3, he, splice, fillD]
    rfl
  obtain ⟨r, st1, h1, rfl, rfl⟩ := go
  exact callD_freE (fn := F73) rfl rfl (by simp) h1 (by simp) (by simp)

def Q38 (m : Tm) (st0 : St) (lv0 : D) (locs0 : List Nm) (names : List Nm) (a y : Int) (e : Ex) (b' bx : List (Nat × List D)) (st' : St) : Prop := e = .exit 1 ∧ (∀ i, i ≠ 8 → getB b' i = getB bx i) ∧ Fr none st0 st' ∧ ∃ lv', Sc m st' lv' (locs0 ++ names) a y ∧ verOf lv' = verOf lv0 + names.length
theorem l38 (fl : Fl) (l : List Tm) (hl : l.length ≤ 1000000) (a y : Int) :
    ∀ (r i : Nat) (s : List D) (bx : List (Nat × List D)) (st : St) (lv : D) (locs : List Nm), r = l.length - i → i ≤ l.length → Sc m st lv locs a y → verOf lv + r ≤ 1000000 →
      get s 0 = .hp 1 0 10 0 0 → get s 48 = slE 6 fl (encTs l) → get s 49 = .i l.length → get s 50 = .int .i64 i →
    Stops (lp T L38_0 ⟨⟨s, bx⟩, st⟩) fun e _ b' st' => Q38 m st lv locs ((l.drop i).map (·.s)) a y e b' bx st' := by
  intro r
  induction r with
  | zero =>
    intro i s bx st lv locs hr hi K hv g0 g48 g49 g50
    have e : i = l.length := by omega
    refine Stops_wp L38_0.eq_1 ?_
    rw [e, List.drop_length]
    simp [g0, g48, g49, g50, e, Q38]
    exact ⟨.refl _ _, lv, by simpa using K, rfl⟩
  | succ r ih =>
    intro i s bx st lv locs hr hi K hv g0 g48 g49 g50
    have hlt : i < l.length := by omega
    have hw : IntKind.wrap .i64 ((i : Int) + 1) = ((i + 1 : Nat) : Int) := by rw [wrap64] <;> omega
    obtain ⟨md, h1⟩ := K.h1
    obtain ⟨x1, x2, x3, x4, x5⟩ := K.hw.facts
    obtain ⟨lv2, st1, md1, a1, o1, o2, hv2, hl1, k1, fin⟩ := K.push (by omega) l[i].s
    obtain ⟨K2, W2⟩ := fin (md1 + 1)
    have nx := fun s' bx' => ih (i + 1) s' bx' _ lv2 (locs ++ [l[i].s]) (by omega) (by omega) K2 (by omega)
    have i1 := slT_ix0 fl l i hlt
    have conv : ∀ (e : Ex) (b' bx' : List (Nat × List D)) (st' : St), (∀ i, i ≠ 8 → getB bx' i = getB bx i) → Q38 m (List.set st1 1 (scO m lv2 a y (md1 + 1))) lv2 (locs ++ [l[i].s]) ((l.drop (i + 1)).map (·.s)) a y e b' bx' st' → Q38 m st lv locs ((l.drop i).map (·.s)) a y e b' bx st' := by
      rintro e b' bx' st' hb ⟨q1, q2, q3, lv', q4, q5⟩
      rw [List.drop_eq_getElem_cons hlt]
      refine ⟨q1, fun i hi => (q2 i hi).trans (hb i hi), W2.trans q3, lv', ?_, ?_⟩
      · rw [List.append_assoc] at q4
        exact q4
      · simp only [List.map_cons, List.length_cons, List.length_map] at q5 ⊢
        omega
    generalize Q38 m st lv locs ((l.drop i).map (·.s)) a y = Q at *
    unfold scO at h1 k1 nx
    refine Stops_wp L38_0.eq_1 ?_
    simp [g0, g48, g49, g50, hlt, hw, h1, i1, x1, x2, x3, x4, a1, o1, o2, k1, hl1, kHs, splice, fillD, -Int.natCast_add]
    refine Stops.mono (nx _ _ ?_ ?_ ?_ ?_) ?_
    iterate 4 simp [g0, g48, g49]
    intro e s' b' st' h
    exact conv _ _ _ _ (fun i hi => by simp [getB_putB, fun c : i = 8 => hi c, Ne.symm hi]) h

theorem c38 (t : Tm) (hd : declX t = true) (K : Sc m st lv [] at0 0) (hb : verOf lv + 2 * cntT t ≤ 1000000) :
    ∃ r st', callD T (ev T) 38 [.hp 1 0 10 0 0, encT t] st = some (encT r, st') ∧ Fr none st st' ∧ match declR qn m t with
      | .ok y => y = r ∧ ∃ lv' at', Sc m st' lv' [] at' 0 ∧ verOf lv' ≤ verOf lv + cntT t
      | .error (a, y) => y ≠ 0 ∧ Se m st' 0 1000000 a y := by
  have hct := cntT_eq t
  obtain ⟨md, h1⟩ := K.h1
  obtain ⟨x1, x2, x3, x4, x5⟩ := K.hw.facts
  obtain ⟨Z, hZ⟩ : ∃ Z : Tm → St → Prop, Z = fun r st' => Fr none st st' ∧ match declR qn m t with
      | .ok y => y = r ∧ ∃ lv' at', Sc m st' lv' [] at' 0 ∧ verOf lv' ≤ verOf lv + cntT t
      | .error (a, y) => y ≠ 0 ∧ Se m st' 0 1000000 a y := ⟨_, rfl⟩
  suffices h : Ret (ev T 38 [.hp 1 0 10 0 0, encT t] st) fun r st' => ∃ x, r = encT x ∧ Z x st' by
    obtain ⟨r, st', h1, x, rfl, hz⟩ := h
    rw [hZ] at hz
    exact ⟨x, st', callD_freE (fn := F38) rfl rfl (by simp) h1 (by simp) (by simp), hz⟩
  refine Ret_wp (fn := F38) rfl ?_
  rw [F38]
  unfold declX at hd
  by_cases h30 : t.k = 30
  · rw [if_pos h30, List.all_eq_true] at hd
    obtain ⟨rs, st1, q, W, E⟩ := c72 true t.fl t.l (fun x hx => by
      have := hd x hx
      unfold prX at this
      rw [Bool.and_eq_true] at this
      exact this.2) (by omega) K
    have fin : Z (.mk t.k t.n [] .nil rs t.a t.b) st1 := by
      rw [hZ]
      refine ⟨W, ?_⟩
      unfold declR
      rw [if_pos h30]
      cases hR : partsR qn m true [] t.l with
      | ok ss =>
        rw [hR] at E
        exact ⟨by rw [E.1], lv, at0, E.2, by omega⟩
      | error x =>
        obtain ⟨a, y⟩ := x
        rw [hR] at E
        obtain ⟨e1, lv3, locs3, e2, e3, e4⟩ := E
        exact ⟨e1, lv3, locs3, e2, e3, by omega⟩
    clear hZ
    have h30' := eq_true h30
    simp [h30', q, splice, fillD]
    exact ⟨_, (encT_eq (.mk t.k t.n [] .nil rs t.a t.b)).symm, fin⟩
  rw [if_neg h30] at hd
  by_cases h33 : t.k = 33
  case neg =>
    rw [if_neg h33] at hd
    obtain ⟨r, st1, q, W, E⟩ := c73 t st lv [] at0 hd K (by simp) (by omega)
    have fin : Z r st1 := by
      rw [hZ]
      refine ⟨W, ?_⟩
      unfold declR
      rw [if_neg h30, if_pos h33]
      cases hR : anyR qn m [] t with
      | ok ss =>
        rw [hR] at E
        exact ⟨E.1, lv, at0, E.2, by omega⟩
      | error x =>
        obtain ⟨a, y⟩ := x
        rw [hR] at E
        obtain ⟨e1, lv3, locs3, e2, e3, e4⟩ := E
        exact ⟨e1, lv3, locs3, e2, by omega, by omega⟩
    clear hZ
    simp [h30, h33, ← encT_eq, q, splice, fillD]
    exact ⟨r, rfl, fin⟩
  rw [if_pos h33] at hd
  match hl : t.l, hd with
  | [p, r, b], hd =>
    simp only [Bool.and_eq_true, decide_eq_true_eq, List.all_eq_true] at hd
    obtain ⟨p1, p2, p3, p4, r1, b1, b2⟩ := hd
    rw [declR_fn qn m t p r b h33 hl] at hZ
    have hcnt : cntTs t.l = cntT p + (cntT r + cntT b) := by rw [hl]; simp [cntTs]
    have hcp := cntT_eq p
    have hcb := cntT_eq b
    have hpl := cntTs_len p.l
    have hx0 := slT_ix0 t.fl [p, r, b] 0 (by simp)
    have hx1 := slT_ix0 t.fl [p, r, b] 1 (by simp)
    have hx2 := slT_ix0 t.fl [p, r, b] 2 (by simp)
    simp only [List.getElem_cons_zero, List.getElem_cons_succ] at hx0 hx1 hx2
    have eB : slE 6 t.fl (encTs t.l) = slE 6 t.fl (encTs [p, r, b]) := by rw [hl]
    have ln3 : ∀ st q, lenD st .slice (slE 6 t.fl (encTs [p, r, b])) q = some (.i 3) := fun st q => by simp
    have hB := slE_okv 6 t.fl (encTs [p, r, b])
    have h33' := eq_true h33
    have h30' := eq_false h30
    -- from the result's type on
    have run : ∀ (rs : List Tm) (r' : Tm) (st1 st2 : St) (lv2 : D) (locs2 : List Nm) (a2 e2 : Int), callD T (ev T) 72 [.hp 1 0 10 0 0, slE 6 p.fl (encTs p.l), .bool false] st = some (slE 6 .nil (encTs rs), st1) → callD T (ev T) 73 [.hp 1 0 10 0 0, encT r] st1 = some (encT r', st2) →
        Sc m st2 lv2 locs2 a2 e2 → verOf lv2 + p.l.length + cntTs b.l ≤ 1000000 → Fr none st st2 → (e2 = 0 → locs2 = []) →
        (∀ (b' : Tm) (st' : St), Fr none st st' → (e2 ≠ 0 → ∃ lv5, Sc m st' lv5 [] a2 e2 ∧ verOf lv5 ≤ 1000000) → (e2 = 0 → match anyR qn m (p.l.map (·.s)) b with
          | .ok y => y = b' ∧ ∃ lv5 at5, Sc m st' lv5 [] at5 0 ∧ verOf lv5 ≤ verOf lv2 + p.l.length + cntTs b.l
          | .error (a, y) => y ≠ 0 ∧ ∃ lv5, Sc m st' lv5 [] a y ∧ verOf lv5 ≤ 1000000) → Z (.mk t.k t.n [] .full [.mk p.k 0 [] .nil rs p.a p.b, r', b'] t.a t.b) st') →
        WP T F38.code ⟨⟨[.hp 1 0 10 0 0, encT t], []⟩, st⟩ (qFn F38.res fun r st' => ∃ x, r = encT x ∧ Z x st') := by
      intro rs r' st1 st2 lv2 locs2 a2 e2 q1 q2 K2 hv2 W2 he0 hfin
      have lo := fun s bx => l38 p.fl p.l (by omega) a2 e2 p.l.length 0 s bx st2 lv2 locs2 (by omega) (by omega) K2 (by omega)
      rw [List.drop_zero] at lo
      have enc3 : ∀ b', encT (.mk t.k t.n [] .full [.mk p.k 0 [] .nil rs p.a p.b, r', b'] t.a t.b) = .agg [.int .i64 t.k, .int .i64 t.n, .str [], .sl 6 true [.agg [.int .i64 p.k, .int .i64 0, .str [], slE 6 .nil (encTs rs), .int .i64 p.a, .int .i64 p.b], encT r', encT b'], .int .i64 t.a, .int .i64 t.b] := fun b' => by
        rw [encT_eq]
        simp only [k_mk, n_mk, s_mk, fl_mk, l_mk, a_mk, b_mk, encTs_cons, encTs_nil]
        rw [encT_eq (.mk p.k 0 [] .nil rs p.a p.b)]
        rfl
      rw [F38]
      simp [h30', h33', eB, ln3, hB, hx0, hx1, p2, p3, q1, q2, splice, fillD]
      refine WL.useB L38_0_p L38_0_w rfl (lo _ _ ?_ ?_ ?_ ?_) ?_
      iterate 4 simp
      rintro e s' b' st3 ⟨rfl, hbb, W3, lv3, K3, hv3⟩ hf hfb
      have f0 := hf 0 rfl
      have f3 := hf 3 rfl
      have f4 := hf 4 rfl
      have f5 := hf 5 rfl
      have f6 := hf 6 rfl
      have g3 := hbb 3 (by decide)
      have g4 := hbb 4 (by decide)
      have g5 := hbb 5 (by decide)
      have g6 := hbb 6 (by decide)
      have g9 := hbb 9 (by decide)
      simp at f0 f3 f4 f5 f6 g3 g4 g5 g6 g9
      obtain ⟨md3, k3⟩ := K3.h1
      obtain ⟨z1, z2, z3, z4, z5⟩ := K3.hw.facts
      have hl3 := K3.hl
      by_cases he : e2 = 0
      case neg =>
        obtain ⟨lv5, s1, s2, s3, s4, s5, s6⟩ := K3.back 0 (Nat.zero_le _)
        have s1 := s1 _ rfl
        have fin := hfin b _ (W2.trans (W3.trans (s6 (md3 + 1)).2)) (fun _ => ⟨lv5, by simpa using (s6 (md3 + 1)).1, by simp only [List.length_map] at hv3; omega⟩) (fun c => absurd c he)
        unfold scO at k3 fin
        have s1' : sliceD lv3 none (some (.int .i64 0)) none = some lv5 := s1
        simp [f0, f3, f4, f5, f6, g3, g4, g5, g6, g9, hx2, k3, z1, z2, z3, he, hl3, s1', s2, s3, s4, kHs, splice, fillD]
        exact ⟨_, by rw [enc3 b, encT_eq r', encT_eq b], fin⟩
      · have hl2 := he0 he
        subst hl2
        rw [List.nil_append] at K3
        subst he
        obtain ⟨b2', st4, q4, W4, E4⟩ := (stmt_walk b).2 b1 b2 st3 lv3 _ a2 K3 (by simp only [List.length_map] at hv3; omega)
        have q4' : callD T (ev T) 74 [.hp 1 0 10 0 0, .agg [.int .i64 b.k, .int .i64 b.n, .str b.s, slE 6 b.fl (encTs b.l), .int .i64 b.a, .int .i64 b.b]] st3 = some (encT b2', st4) := by rw [← encT_eq]; exact q4
        obtain ⟨lv4, locs4, a4, e4, K4, hv4, hfin4⟩ : ∃ (lv4 : D) (locs4 : List Nm) (a4 e4 : Int), Sc m st4 lv4 locs4 a4 e4 ∧ verOf lv4 ≤ 1000000 ∧ ∀ lv5 st', verOf lv5 = verOf lv4 → Sc m st' lv5 [] a4 e4 → Fr none st st' → Z (.mk t.k t.n [] .full [.mk p.k 0 [] .nil rs p.a p.b, r', b2'] t.a t.b) st' := by
          cases hR : anyR qn m (p.l.map (·.s)) b with
          | ok y =>
            rw [hR] at E4
            obtain ⟨e1, lv4, at4, e2, e3⟩ := E4
            refine ⟨lv4, _, at4, 0, e2, by simp only [List.length_map] at hv3; omega, fun lv5 st' hv K5 F5 => hfin b2' st' F5 (fun c => absurd rfl c) fun _ => ?_⟩
            rw [hR]
            exact ⟨e1, lv5, at4, K5, by simp only [List.length_map] at hv3; omega⟩
          | error x =>
            obtain ⟨a, y⟩ := x
            rw [hR] at E4
            obtain ⟨e1, lv4, locs4, e2, e3, e4⟩ := E4
            refine ⟨lv4, locs4, a, y, e2, by simp only [List.length_map] at hv3; omega, fun lv5 st' hv K5 F5 => hfin b2' st' F5 (fun c => absurd rfl c) fun _ => ?_⟩
            rw [hR]
            exact ⟨e1, lv5, K5, by simp only [List.length_map] at hv3; omega⟩
        obtain ⟨md4, k4⟩ := K4.h1
        obtain ⟨y1, y2, y3, y4, y5⟩ := K4.hw.facts
        have hl4 := K4.hl
        obtain ⟨lv5, s1, s2, s3, s4, s5, s6⟩ := K4.back 0 (Nat.zero_le _)
        have s1' : sliceD lv4 none (some (.int .i64 0)) none = some lv5 := s1 _ rfl
        have fin := hfin4 lv5 _ s5 (by simpa using (s6 (md4 + 1)).1) (W2.trans (W3.trans (W4.trans (s6 (md4 + 1)).2)))
        unfold scO at k3 k4 fin
        simp [f0, f3, f4, f5, f6, g3, g4, g5, g6, g9, hx2, k3, k4, q4', z1, z2, z3, y1, y2, y3, hl4, s1', s2, s3, s4, kHs, splice, fillD]
        exact ⟨_, by rw [enc3 b2', encT_eq r', encT_eq b2'], fin⟩
    have hc38 : F38.code = F38.code := rfl
    obtain ⟨rs, st1, q1, W1, E1⟩ := c72 false p.fl p.l (fun x hx => by
      have := p4 x hx
      unfold prX at this
      rw [Bool.and_eq_true] at this
      exact this.2) (by omega) K
    rw [F38] at run
    cases hP : partsR qn m false [] p.l with
    | error x =>
      obtain ⟨a, y⟩ := x
      rw [hP] at E1
      obtain ⟨hy, lv2, locs2, K2, hn, hv2⟩ := E1
      refine run rs tm0 st1 st1 lv2 locs2 a y q1 (c73e K2 hy r) K2 (by omega) W1 (fun c => absurd c hy) fun b' st' F5 h1 _ => ?_
      obtain ⟨lv5, K5, hv5⟩ := h1 hy
      rw [hZ, hP, bindE_er]
      exact ⟨F5, hy, lv5, [], K5, Nat.zero_le _, hv5⟩
    | ok ps =>
      rw [hP] at E1
      obtain ⟨rfl, K1⟩ := E1
      obtain ⟨r', st2, q2, W2, E2⟩ := c73 r st1 lv [] at0 r1 K1 (by simp) (by omega)
      cases hRr : anyR qn m [] r with
      | error x =>
        obtain ⟨a, y⟩ := x
        rw [hRr] at E2
        obtain ⟨hy, lv2, locs2, K2, hn, hv2⟩ := E2
        refine run ps r' st1 st2 lv2 locs2 a y q1 q2 K2 (by have := cntT_eq r; omega) (W1.trans W2) (fun c => absurd c hy) fun b' st' F5 h1 _ => ?_
        obtain ⟨lv5, K5, hv5⟩ := h1 hy
        rw [hZ, hP, bindE_ok, hRr, bindE_er]
        exact ⟨F5, hy, lv5, [], K5, Nat.zero_le _, hv5⟩
      | ok r2 =>
        rw [hRr] at E2
        obtain ⟨rfl, K2⟩ := E2
        refine run ps r2 st1 st2 lv [] at0 0 q1 q2 K2 (by omega) (W1.trans W2) (fun _ => rfl) fun b' st' F5 _ h2 => ?_
        have h2 := h2 rfl
        rw [hZ, hP, bindE_ok, hRr, bindE_ok]
        cases hRb : anyR qn m (p.l.map (·.s)) b with
        | error x =>
          obtain ⟨a, y⟩ := x
          rw [hRb] at h2
          obtain ⟨hy, lv5, K5, hv5⟩ := h2
          exact ⟨F5, hy, lv5, [], K5, Nat.zero_le _, hv5⟩
        | ok y =>
          rw [hRb] at h2
          obtain ⟨rfl, lv5, at5, K5, hv5⟩ := h2
          exact ⟨F5, rfl, lv5, at5, K5, by omega⟩
  | [], hd => cases hd
  | [_], hd => cases hd
  | [_, _], hd => cases hd
  | _ :: _ :: _ :: _ :: _, hd => cases hd
end Go.Nt.Lk

/-
  NAMES RESOLVED by the program, walked (11): a module.
  No condition.
-/
set_option linter.unusedSimpArgs false
set_option maxRecDepth 20000
namespace Go.Nt.Lk
open Go Go.Nt

theorem find_none (w : Nm) : ∀ (l : List Tm) (i : Nat), findN w l i = none ↔ w ∉ l.map (·.s)
  | [], i => by simp [findN]
  | t :: l, i => by
    rw [findN]
    by_cases h : t.s = w
    · rw [if_pos h]; simp [h]
    · rw [if_neg h, find_none w l (i + 1)]
      simp only [List.map_cons, List.mem_cons, not_or]
      exact ⟨fun c => ⟨fun d => h d.symm, c⟩, fun c => c.2⟩
theorem ents_snoc (t : Tm) : ∀ (l : List Tm) (i : Nat), entsOf (l ++ [t]) i = entsOf l i ++ [(.str t.s, .int .i64 ((i + l.length : Nat) : Int))]
  | [], i => rfl
  | x :: l, i => by
    rw [List.cons_append, entsOf, entsOf, ents_snoc t l (i + 1)]
    have : i + 1 + l.length = i + (x :: l).length := by simp only [List.length_cons]; omega
    rw [this]
    rfl

def Q13 (m : Tm) (R : Option Int) (e : Ex) (s' : List D) (b' bx : List (Nat × List D)) (st' : St) : Prop := match R with
  | some a => e = .ret ∧ getB b' 2 = (1, z6) ∧ get s' 3 = .int .i64 a ∧ get s' 4 = .int .i64 9
  | none => e = .exit 0 ∧ getB b' 2 = (1, z6) ∧ getB b' 1 = getB bx 1 ∧ getB b' 10 = getB bx 10 ∧ st'.length = 2 ∧ St.at st' 1 = scO m .nils 0 0 0 ∧ ∃ md, St.at st' 0 = .map md (entsOf m.l 0)

theorem l13 (m : Tm) (hm : m.l.length ≤ 1000000) :
    ∀ (r i : Nat) (s : List D) (bx : List (Nat × List D)) (st : St), r = m.l.length - i → i ≤ m.l.length → st.length = 2 → St.at st 1 = scO m .nils 0 0 0 → (∃ md, St.at st 0 = .map md (entsOf (m.l.take i) 0)) →
      get s 2 = .lp 2 1 0 → getB bx 2 = (1, z6) → get s 5 = .hp 1 0 10 0 0 → get s 16 = slE 6 m.fl (encTs m.l) → get s 17 = .i m.l.length → get s 18 = .int .i64 i →
    Stops (lp T L13_0 ⟨⟨s, bx⟩, st⟩) fun e s' b' st' => Q13 m (twiceR ((m.l.take i).map (·.s)).reverse (m.l.drop i)) e s' b' bx st' := by
  intro r
  induction r with
  | zero =>
    intro i s bx st hr hi hl h1 h0 g2 b2 g5 g16 g17 g18
    have e : i = m.l.length := by omega
    rw [e, List.take_length] at h0
    rw [e, List.drop_length, twiceR]
    refine Stops_wp L13_0.eq_1 ?_
    simp [g2, b2, g5, g16, g17, g18, e, Q13, hl, h1]
    exact h0
  | succ r ih =>
    intro i s bx st hr hi hl h1 h0 g2 b2 g5 g16 g17 g18
    obtain ⟨md, h0⟩ := h0
    have hlt : i < m.l.length := by omega
    have hw : IntKind.wrap .i64 ((i : Int) + 1) = ((i + 1 : Nat) : Int) := by rw [wrap64] <;> omega
    have nx := fun s' bx' st' => ih (i + 1) s' bx' st' (by omega) (by omega)
    have hsn : ((m.l.take (i + 1)).map (·.s)).reverse = m.l[i].s :: ((m.l.take i).map (·.s)).reverse := by
      rw [List.take_succ_eq_append_getElem hlt, List.map_append, List.reverse_append]
      rfl
    have hen : entsOf (m.l.take (i + 1)) 0 = entsOf (m.l.take i) 0 ++ [(.str m.l[i].s, .int .i64 i)] := by
      rw [List.take_succ_eq_append_getElem hlt, ents_snoc, List.length_take, Nat.zero_add, Nat.min_eq_left (by omega)]
    have hf := find_none m.l[i].s (m.l.take i) 0
    have sk := seek_ents m.l[i].s (m.l.take i) 0 0
    have i1 := slT_ix0 m.fl m.l i hlt
    have hmem : (m.l[i].s ∈ ((m.l.take i).map (·.s)).reverse) = ¬ (findN m.l[i].s (m.l.take i) 0 = none) := by
      rw [hf, List.mem_reverse, Classical.not_not]
    rw [hsn, hen] at nx
    rw [List.drop_eq_getElem_cons hlt, twiceR]
    generalize ((m.l.take i).map (·.s)).reverse = seen at *
    generalize entsOf (m.l.take i) 0 = ents at *
    unfold scO at h1 nx
    generalize slE 6 m.fl (encTs m.l) = B at *
    refine Stops_wp L13_0.eq_1 ?_
    cases hfn : findN m.l[i].s (m.l.take i) 0 with
    | some j =>
      rw [hfn] at sk hmem
      have hin : m.l[i].s ∈ seen := by rw [hmem]; simp
      simp only [Option.map_some] at sk
      rw [if_pos hin]
      simp [g2, b2, g5, g16, g17, g18, hlt, i1, h1, h0, sk, splice, fillD, Q13, -Int.natCast_add]
    | none =>
      rw [hfn] at sk hmem
      have hin : ¬ m.l[i].s ∈ seen := by rw [hmem]; simp
      simp only [Option.map_none] at sk
      rw [if_neg hin]
      have fin : ∀ (R : Option Int) (e : Ex) (s' : List D) (b' bx' : List (Nat × List D)) (st' : St), getB bx' 1 = getB bx 1 → getB bx' 10 = getB bx 10 → Q13 m R e s' b' bx' st' → Q13 m R e s' b' bx st' := by
        intro R e s' b' bx' st' c1 c2 h
        cases R with
        | some a => exact h
        | none =>
          obtain ⟨q1, q2, q3, q4, q5⟩ := h
          exact ⟨q1, q2, q3.trans c1, q4.trans c2, q5⟩
      generalize twiceR (m.l[i].s :: seen) (m.l.drop (i + 1)) = W at *
      have fin := fin W
      generalize Q13 m W = Q at *
      simp [g2, b2, g5, g16, g17, g18, hlt, i1, h1, h0, sk, hw, splice, fillD, -Int.natCast_add]
      refine Stops.mono (nx _ _ _ ?_ ?_ ?_ ?_ ?_ ?_ ?_ ?_ ?_) ?_
      · simp [hl]
      · rw [at_set _ _ _ _ (by omega), if_neg (by decide)]; exact h1
      · exact ⟨md + 1, by rw [at_set _ _ _ _ (by omega), if_pos rfl]⟩
      iterate 6 simp [g2, b2, g5, g16, g17]
      intro e s' b' st' h
      exact fin _ _ _ _ _ (by simp) (by simp) h

theorem declsR_each (m : Tm) : ∀ (l : List Tm) (n : Nat), declsR qn m l = fstR (eachR (fun (n : Nat) x => withS (n + cntT x) (declR qn m x)) n l)
  | [], n => by rw [declsR, eachR]; rfl
  | t :: l, n => by
    rw [declsR_cons, eachR]
    cases declR qn m t with
    | error e => rfl
    | ok x =>
      rw [show withS (n + cntT t) (Except.ok x : Er Tm) = .ok (x, n + cntT t) from rfl]
      simp only
      rw [declsR_each m l (n + cntT t)]
      cases eachR (fun (n : Nat) x => withS (n + cntT x) (declR qn m x)) (n + cntT t) l with
      | error e => rfl
      | ok y => rfl

theorem c13 (m : Tm) (hm : cntT m ≤ 400000) (hX : ∀ x, x ∈ m.l → declX x = true) (st : St) : callD T (ev T) 13 [encT m] st = some (trD (resolveR qn m), st) := by
  have hct := cntT_eq m
  have hcl := cntTs_len m.l
  refine callD_pureR (fn := F13) rfl rfl (by simp) (trD_pure _) ?_
  refine Ret_wp (fn := F13) rfl ?_
  rw [F13]
  have lo := fun s bx st => l13 m (by omega) m.l.length 0 s bx st (by omega) (by omega)
  rw [List.drop_zero] at lo
  rw [show ((m.l.take 0).map (·.s)).reverse = [] from rfl] at lo
  obtain ⟨X, hXe⟩ : ∃ X, X = resolveR qn m := ⟨_, rfl⟩
  rw [← hXe]
  unfold resolveR at hXe
  have hrw : rewrap .nilm = fun l => match l with | [d] => some d | _ => none := rfl
  simp [splice, fillD]
  refine WL.useB L13_0_p L13_0_w rfl (lo _ _ _ ?_ ?_ ?_ ?_ ?_ ?_ ?_ ?_ ?_) ?_
  · simp
  · simp [scO]
  · exact ⟨0, by simp [entsOf]⟩
  iterate 6 simp
  intro e s' b' st' h hf hfb
  have f1 := hf 1 rfl
  have f2 := hf 2 rfl
  have f5 := hf 5 rfl
  simp at f1 f2 f5
  cases ht : twiceR [] m.l with
  | some a =>
    rw [ht] at h hXe
    simp only at hXe
    subst hXe
    obtain ⟨rfl, b2, h3, h4⟩ := h
    simp [f1, f2, b2, h3, h4, trD, encT_0]
  | none =>
    rw [ht] at h hXe
    simp only at hXe
    obtain ⟨rfl, b2, b1, b10, hln, h1, h0⟩ := h
    simp at b1 b10
    have K : Sc m st' .nils [] 0 0 := ⟨h0, by omega, ⟨0, h1⟩, .inl ⟨rfl, rfl⟩⟩
    obtain ⟨rs, st1, q, W, E⟩ := c37 (m := m) none (fun (n : Nat) st => ∃ lv at0, Sc m st lv [] at0 0 ∧ verOf lv ≤ n) (fun (n : Nat) x => withS (n + cntT x) (declR qn m x)) (fun n => n) 0 1000000 (cntTs m.l) 38 [.hp 1 0 10 0 0] [] rfl m.fl m.l (by omega) st' (fun i h => by cases h)
      (fun _ st h => by obtain ⟨lv, at0, h, _⟩ := h; exact ⟨lv, [], at0, h⟩) (fun _ st st' h o => by obtain ⟨lv, at0, h, h2⟩ := h; exact ⟨lv, at0, h.oth o, h2⟩)
      (fun x hx n st1 J hn => by
        obtain ⟨lv, at0, K1, hv⟩ := J
        obtain ⟨r, st2, q, W, E⟩ := c38 x (hX x hx) K1 (by have := cntTs_mem hx; omega)
        refine ⟨r, st2, q, W, ?_⟩
        cases hR : declR qn m x with
        | ok y =>
          rw [hR] at E
          obtain ⟨e1, lv2, at2, e2, e3⟩ := E
          exact ⟨e1, ⟨lv2, at2, e2, by show verOf lv2 ≤ n + cntT x; omega⟩, Nat.le_refl _⟩
        | error y =>
          obtain ⟨a, y⟩ := y
          rw [hR] at E
          exact E) 0 ⟨.nils, 0, K, Nat.le_refl _⟩ (by omega)
    have q' : callD T (ev T) 37 [.hp 1 0 10 0 0, slE 6 m.fl (encTs m.l), .fn 38 [.hp 1 0 10 0 0] []] st' = some (slE 6 .nil (encTs rs), st1) := q
    rw [declsR_each m m.l 0] at hXe
    cases hE : eachR (fun (n : Nat) x => withS (n + cntT x) (declR qn m x)) 0 m.l with
    | ok y =>
      obtain ⟨ss, n⟩ := y
      rw [hE] at E hXe
      obtain ⟨rfl, ⟨lv, at0, K1, _⟩, _⟩ := E
      obtain ⟨md1, k1⟩ := K1.h1
      obtain ⟨x1, x2, x3, _⟩ := K1.hw.facts
      simp only [fstR] at hXe
      subst hXe
      unfold scO at k1
      simp [f1, f2, f5, b1, b2, b10, q', k1, x1, x2, x3, trD, splice, fillD]
      rw [encT_eq] <;> rfl
    | error y =>
      obtain ⟨a, y⟩ := y
      rw [hE] at E hXe
      obtain ⟨hy, lv, locs, K1, _⟩ := E
      obtain ⟨md1, k1⟩ := K1.h1
      obtain ⟨x1, x2, x3, _⟩ := K1.hw.facts
      simp only [fstR] at hXe
      subst hXe
      unfold scO at k1
      simp [f1, f2, f5, b1, b2, b10, q', k1, x1, x2, x3, hy, trD, encT_0, splice, fillD]
end Go.Nt.Lk
