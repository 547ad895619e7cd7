/-
  THE REFERENCE'S PARSER, walked (3): operators.
  No condition.
-/
import Derived.Test.YtpfdoelhoiohdaaSpGot
import Derived.Test.YtpfdoelhoiohdaaSpKept
import Derived.Test.YtpfdoelhoiohdaaSpNone
set_option linter.unusedSimpArgs false
namespace Go.Nt.Lk
open Go Go.Nt

def opsS (x : List (List UInt8 × Int)) : D := .sl 1 true (x.map fun p => .str p.1)
def opsI (x : List (List UInt8 × Int)) : D := .sl 1 true (x.map fun p => .int .i64 p.2)

theorem c165 (lv : Int) (st : St) : callD T (ev T) 165 [.int .i64 lv] st = some (.tup [opsS (opsL lv), opsI (opsL lv)], st) := by
  refine callD_pureQ (fn := F165) rfl rfl (by simp) (by unfold opsS opsI; simp) (fun st => rfl) ?_
  refine Ret_wp (fn := F165) rfl ?_
  rw [F165]
  unfold opsL opsS opsI
  simp +contextual

theorem opsS_len (x : List (List UInt8 × Int)) (st : St) (q : Bool) : lenD st .slice (opsS x) q = some (.i x.length) := by simp [opsS, lenD]
theorem opsS_idx (x : List (List UInt8 × Int)) (i : Nat) (h : i < x.length) : idxAD (opsS x) i 1 none none = some (.iptr (.str x[i].1)) := by
  simp [opsS, idxAD, h]
theorem opsI_idx (x : List (List UInt8 × Int)) (i : Nat) (h : i < x.length) : idxAD (opsI x) i 1 none none = some (.iptr (.int .i64 x[i].2)) := by
  simp [opsI, idxAD, h]

theorem l162 (l : List Tok) (fl : Fl) (a : Nat) (x : List (List UInt8 × Int)) (hx : x.length ≤ 100) (st : St) : ∀ (r i : Nat) (sl : List D) (bx : List (Nat × List D)), r = x.length - i → i ≤ x.length → get sl 0 = toksD fl l → get sl 1 = .int .i64 a → get sl 7 = opsS x → get sl 8 = opsI x → get sl 9 = .int .i64 i →
    Stops (lp T L162_0 ⟨⟨sl, bx⟩, st⟩) fun e s' _ st' => st' = st ∧ ((e = .exit 0 ∧ opT l a (x.drop i) = 0) ∨ (e = .ret ∧ get s' 6 = .int .i64 (opT l a (x.drop i)))) := by
  intro r
  induction r with
  | zero =>
    intro i sl bx hr hi h0 h1 h7 h8 h9
    have e : i = x.length := by omega
    subst e
    have hl := opsS_len x st false
    refine Stops_wp L162_0.eq_1 ?_
    rw [List.drop_length]
    simp [h7, h9, hl, opT]
  | succ r ih =>
    intro i sl bx hr hi h0 h1 h7 h8 h9
    have hlt : i < x.length := by omega
    have w1 : IntKind.wrap .i64 ((i : Int) + 1) = ((i + 1 : Nat) : Int) := by rw [wrap64] <;> omega
    have hl := opsS_len x st false
    have i1 := opsS_idx x i hlt
    have i2 := opsI_idx x i hlt
    have q := c69 l fl a x[i].1 st
    have nx := fun sl' bx' => ih (i + 1) sl' bx' (by omega) (by omega)
    rw [List.drop_eq_getElem_cons hlt]
    unfold opT
    refine Stops_wp L162_0.eq_1 ?_
    cases hq : isS l a x[i].1 with
    | true =>
      rw [hq] at q
      simp [h0, h1, h7, h8, h9, hl, hlt, i1, i2, q, -Int.natCast_add]
    | false =>
      rw [hq] at q
      simp [h0, h1, h7, h8, h9, hl, hlt, i1, i2, q, w1, -Int.natCast_add]
      exact nx _ _ (by simp [h0]) (by simp [h1]) (by simp [h7]) (by simp [h8]) (by simp)

theorem c162 (l : List Tok) (fl : Fl) (a : Nat) (lv : Int) (st : St) : callD T (ev T) 162 [toksD fl l, .int .i64 a, .int .i64 lv] st = some (.int .i64 (opT l a (opsL lv)), st) := by
  refine callD_pureQ (fn := F162) rfl rfl (by simp) (by simp) (by intro; rfl) ?_
  refine Ret_wp (fn := F162) rfl ?_
  rw [F162]
  have q := c165 lv []
  have hx : (opsL lv).length ≤ 100 := by
    unfold opsL
    split
    · simp
    · split
      · simp
      · split
        · simp
        · split <;> simp
  simp [q]
  refine WL.use L162_0_p L162_0_w (l162 l fl a (opsL lv) hx [] _ 0 _ _ rfl (by omega) (by simp) (by simp) (by simp) (by simp) (by simp)) ?_
  rintro e s' b st' ⟨rfl, h⟩ hf
  rw [List.drop_zero] at h
  rcases h with ⟨rfl, h⟩ | ⟨rfl, h⟩
  · simp [h]
  · simp [h]
end Go.Nt.Lk

/-
  THE REFERENCE'S PARSER, walked (4): types.
  No condition.
-/
set_option linter.unusedSimpArgs false
namespace Go.Nt.Lk
open Go Go.Nt

def Gt.d (g : Gt) : D := gotD g.t g.a g.e
theorem nowT_lt {l : List Tok} {a : Nat} (h : (nowT l a).k ≠ 5) : a < l.length := by
  rcases Nat.lt_or_ge a l.length with h1 | h1
  · exact h1
  · unfold nowT at h
    rw [List.getD_eq_getElem?_getD, List.getElem?_eq_none h1] at h
    exact absurd rfl h
theorem isW_lt {l : List Tok} {a : Nat} {w : List UInt8} (h : isW l a w = true) : a < l.length := by
  apply nowT_lt
  unfold isW at h
  rw [Bool.and_eq_true, decide_eq_true_eq] at h
  omega
theorem isS_lt {l : List Tok} {a : Nat} {w : List UInt8} (h : isS l a w = true) : a < l.length := by
  apply nowT_lt
  unfold isS at h
  rw [Bool.and_eq_true, decide_eq_true_eq] at h
  omega
theorem typP_a (l : List Tok) : ∀ (n a : Nat), (typP l n a).e = 0 → a < (typP l n a).a ∧ (typP l n a).a ≤ l.length
  | 0, a, h => by simp [typP, badG] at h
  | n + 1, a, h => by
    unfold typP at h ⊢
    by_cases h1 : isW l a [105, 110, 116] = true
    · rw [if_pos h1]; have := isW_lt h1; simp only [mkG]; omega
    rw [if_neg h1] at h ⊢
    by_cases h2 : isW l a [98, 111, 111, 108] = true
    · rw [if_pos h2]; have := isW_lt h2; simp only [mkG]; omega
    rw [if_neg h2] at h ⊢
    by_cases h3 : (nowT l a).k = 1
    · rw [if_pos h3]; have := nowT_lt (l := l) (a := a) (by omega); simp only [mkG]; omega
    rw [if_neg h3] at h ⊢
    by_cases h4 : isS l a [91] = false
    · rw [if_pos h4] at h; exact absurd h (by simp [badG])
    rw [if_neg h4] at h ⊢
    by_cases h5 : ¬ (nowT l (a + 1)).k = 2
    · rw [if_pos h5] at h; exact absurd h (by simp [badG])
    rw [if_neg h5] at h ⊢
    by_cases h6 : isS l (a + 2) [93] = false
    · rw [if_pos h6] at h; exact absurd h (by simp [badG])
    rw [if_neg h6] at h ⊢
    by_cases h7 : ¬ (typP l n (a + 3)).e = 0
    · rw [if_pos h7] at h; exact absurd h h7
    · rw [if_neg h7]
      have := typP_a l n (a + 3) (by omega)
      simp only [mkG]; omega

theorem c71' (l : List Tok) (fl : Fl) (fr to : Nat) (k n : Int) (s : List UInt8) (hf : fr < l.length) (ht : 1 ≤ to) (ht2 : to ≤ l.length) (hl : l.length ≤ 1000000) (st : St) :
    callD T (ev T) 71 [toksD fl l, .int .i64 fr, .int .i64 to, .int .i64 k, .int .i64 n, .str s, .sl 6 true []] st = some ((mkG l fr to k n s .emp []).d, st) :=
  c71 l fl fr to k n s .emp [] hf ht ht2 hl st

theorem c110 (l : List Tok) (fl : Fl) (hl : l.length ≤ 100000) : ∀ (n a : Nat), l.length - a < n → a ≤ 200000 → ∀ st, callD T (ev T) 110 [toksD fl l, .int .i64 a] st = some ((typP l n a).d, st)
  | 0, a, hn, ha, st => by omega
  | n + 1, a, hn, ha, st => by
    refine callD_pureQ (fn := F110) rfl rfl (by simp) (gotD_pure _ _ _) (fun st => gotD_fz st _ _ _) ?_
    refine Ret_wp (fn := F110) rfl ?_
    rw [F110]
    unfold typP
    have w1 : IntKind.wrap .i64 ((a : Int) + 1) = ((a + 1 : Nat) : Int) := by rw [wrap64] <;> omega
    have w2 : IntKind.wrap .i64 ((a : Int) + 2) = ((a + 2 : Nat) : Int) := by rw [wrap64] <;> omega
    have w3 : IntKind.wrap .i64 ((a : Int) + 3) = ((a + 3 : Nat) : Int) := by rw [wrap64] <;> omega
    have q1 := c64 l fl a [105, 110, 116] []
    by_cases h1 : isW l a [105, 110, 116] = true
    · have hlt := isW_lt h1
      have m := c71' l fl a (a + 1) 1 0 [] hlt (by omega) (by omega) (by omega) []
      rw [if_pos h1]
      rw [h1] at q1
      unfold Gt.d gotD at m ⊢
      simp [q1, m, w1, -Int.natCast_add]
    rw [if_neg h1]
    rw [Bool.eq_false_iff.2 h1] at q1
    have q2 := c64 l fl a [98, 111, 111, 108] []
    by_cases h2 : isW l a [98, 111, 111, 108] = true
    · have hlt := isW_lt h2
      have m := c71' l fl a (a + 1) 2 0 [] hlt (by omega) (by omega) (by omega) []
      rw [if_pos h2]
      rw [h2] at q2
      unfold Gt.d gotD at m ⊢
      simp [q1, q2, m, w1, -Int.natCast_add]
    rw [if_neg h2]
    rw [Bool.eq_false_iff.2 h2] at q2
    have q3 := c68 l fl a []
    have f3 : ∀ x, ∃ y0 y1 y2 y3 y4, (nowT l x).enc = .agg [.int .i64 y0, .int .i64 y1, .str y2, .int .i64 y3, .int .i64 y4] := fun x => ⟨_, _, _, _, _, rfl⟩
    unfold Tok.enc at q3
    by_cases h3 : (nowT l a).k = 1
    · have hlt := nowT_lt (l := l) (a := a) (by omega)
      have m := c71' l fl a (a + 1) 4 0 (nowT l a).s hlt (by omega) (by omega) (by omega) []
      rw [if_pos h3]
      unfold Gt.d gotD at m ⊢
      simp [q1, q2, q3, h3, m, w1, -Int.natCast_add]
    rw [if_neg h3]
    have q4 := c69 l fl a [91] []
    by_cases h4 : isS l a [91] = false
    · have m := c67 a []
      rw [if_pos h4]
      rw [h4] at q4
      unfold gotD at m
      unfold Gt.d gotD badG
      simp [q1, q2, q3, h3, q4, m]
    rw [if_neg h4]
    rw [Bool.not_eq_false] at h4
    rw [h4] at q4
    have q5 := c68 l fl (a + 1) []
    unfold Tok.enc at q5
    by_cases h5 : ¬ (nowT l (a + 1)).k = 2
    · have m := c67 ((a + 1 : Nat) : Int) []
      rw [if_pos h5]
      unfold gotD at m
      unfold Gt.d gotD badG
      simp [q1, q2, q3, h3, q4, q5, h5, m, w1, -Int.natCast_add]
    rw [if_neg h5]
    rw [Decidable.not_not] at h5
    have q6 := c69 l fl (a + 2) [93] []
    by_cases h6 : isS l (a + 2) [93] = false
    · have m := c67 ((a + 2 : Nat) : Int) []
      rw [if_pos h6]
      rw [h6] at q6
      unfold gotD at m
      unfold Gt.d gotD badG
      simp [q1, q2, q3, h3, q4, q5, h5, q6, m, w1, w2, -Int.natCast_add]
    rw [if_neg h6]
    rw [Bool.not_eq_false] at h6
    rw [h6] at q6
    have hlt := isS_lt h6
    have q7 := c110 l fl hl n (a + 3) (by omega) (by omega) []
    have hA := typP_a l n (a + 3)
    generalize typP l n (a + 3) = g at *
    by_cases h7 : g.e = 0
    · have hA := hA h7
      have m := c71 l fl a g.a 3 (nowT l (a + 1)).n [] .full [g.t] (by omega) (by omega) hA.2 (by omega) []
      have em : slE 6 .full (encTs [g.t]) = .sl 6 true [encT g.t] := by simp [slE]
      rw [em, encT_eq] at m
      rw [if_neg (fun h => h h7)]
      have hp := encT_pure g.t
      rw [encT_eq] at hp
      have ot1 := slE_okv 6 g.t.fl (encTs g.t.l)
      have ot2 := slE_fits 6 g.t.fl (encTs g.t.l)
      have ot3 := slE_cells 6 g.t.fl (encTs g.t.l)
      unfold Gt.d gotD at q7 ⊢
      unfold gotD at m
      simp [q1, q2, q3, h3, q4, q5, h5, q6, q7, h7, m, w1, w2, w3, hp, ot1, ot2, ot3, -Int.natCast_add]
      exact ⟨rfl, rfl, rfl, rfl, rfl, rfl, rfl, rfl⟩
    · rw [if_pos h7]
      have ot1 := slE_okv 6 g.t.fl (encTs g.t.l)
      have ot2 := slE_fits 6 g.t.fl (encTs g.t.l)
      have ot3 := slE_cells 6 g.t.fl (encTs g.t.l)
      unfold Gt.d gotD at q7 ⊢
      simp [q1, q2, q3, h3, q4, q5, h5, q6, q7, h7, w1, w2, w3, ot1, ot2, ot3, -Int.natCast_add]
end Go.Nt.Lk

/-
  THE REFERENCE'S PARSER, walked (5): expressions, what is to be shown; signs ahead.
  No condition.
-/
set_option linter.unusedSimpArgs false
namespace Go.Nt.Lk
open Go Go.Nt

variable {l : List Tok} {fl : Fl}

/-- The cells of what was read. -/
abbrev clG (g : Gt) : List D := [.int .i64 g.t.k, .int .i64 g.t.n, .str g.t.s, slE 6 g.t.fl (encTs g.t.l), .int .i64 g.t.a, .int .i64 g.t.b, .int .i64 g.a, .int .i64 g.e]
abbrev z8 : List D := [.int .i64 0, .int .i64 0, .str [], .nils, .int .i64 0, .int .i64 0, .int .i64 0, .int .i64 0]
theorem Gt.d_eq (g : Gt) : g.d = .agg (clG g) := rfl
def dL (g : Gl) : D := .tup [slE 6 .emp (encTs g.ts), .int .i64 g.a, .int .i64 g.e]

/-- What is shown of expressions, with so much fuel. -/
structure Hx (l : List Tok) (fl : Fl) (n : Nat) : Prop where
  lev : ∀ (a lv : Nat) (st : St), 1 ≤ lv → lv ≤ 6 → a < l.length → 16 * (l.length - a) + (12 - lv) < n → callD T (ev T) 153 [toksD fl l, .int .i64 a, .int .i64 lv] st = some ((levelP l n a lv).d, st)
  un : ∀ (a : Nat) (st : St), a < l.length → 16 * (l.length - a) + 5 < n → callD T (ev T) 161 [toksD fl l, .int .i64 a] st = some ((unP l n a).d, st)
  post : ∀ (a : Nat) (st : St), a < l.length → 16 * (l.length - a) + 4 < n → callD T (ev T) 164 [toksD fl l, .int .i64 a] st = some ((postP l n a).d, st)
  atom : ∀ (a : Nat) (st : St), a < l.length → 16 * (l.length - a) + 3 < n → callD T (ev T) 111 [toksD fl l, .int .i64 a] st = some ((atomP l n a).d, st)
  called : ∀ (a : Nat) (st : St), a < l.length → 16 * (l.length - a) + 2 < n → callD T (ev T) 140 [toksD fl l, .int .i64 a] st = some ((calledP l n a).d, st)
  closed : ∀ (a : Nat) (few : Bool) (s1 s2 : List UInt8) (st : St), a < l.length → 16 * (l.length - a) + 1 < n → callD T (ev T) 154 [toksD fl l, .int .i64 a, .bool few, .str s1, .str s2] st = some (dL (closedP l n a few s1 s2), st)
  list : ∀ (a : Nat) (st : St), a < l.length → 16 * (l.length - a) + 14 < n → callD T (ev T) 163 [toksD fl l, .int .i64 a] st = some (dL (listP l n a []), st)

theorem Hx.expr {n : Nat} (H : Hx l fl n) (a : Nat) (st : St) (ha : a < l.length) (hn : 16 * (l.length - a) + 11 < n) : callD T (ev T) 139 [toksD fl l, .int .i64 a] st = some ((levelP l n a 1).d, st) := by
  have q := H.lev a 1 [] (by omega) (by omega) ha (by omega)
  refine callD_pureQ (fn := F139) rfl rfl (by simp) (gotD_pure _ _ _) (fun st => gotD_fz st _ _ _) ?_
  refine Ret_wp (fn := F139) rfl ?_
  rw [F139]
  rw [Gt.d_eq] at q ⊢
  generalize levelP l n a 1 = g at *
  have q : callD T (ev T) 153 [toksD fl l, .int .i64 a, .int .i64 1] [] = some (.agg (clG g), []) := q
  simp [q, splice, fillD]

/-- A term of parts that were read. -/
theorem mk1 (E : Ended l) (fl : Fl) (hl : l.length ≤ 100000) {fr to : Nat} (hf : fr < l.length) (ht : 1 ≤ to) (ht2 : to ≤ l.length) (k n : Int) (s : List UInt8) (x : Tm) (st : St) :
    callD T (ev T) 71 [toksD fl l, .int .i64 fr, .int .i64 to, .int .i64 k, .int .i64 n, .str s, .sl 6 true [encT x]] st = some (.agg (clG (mkG l fr to k n s .full [x])), st) :=
  c71 l fl fr to k n s .full [x] hf ht ht2 (by omega) st
theorem mk2 (E : Ended l) (fl : Fl) (hl : l.length ≤ 100000) {fr to : Nat} (hf : fr < l.length) (ht : 1 ≤ to) (ht2 : to ≤ l.length) (k n : Int) (s : List UInt8) (x y : Tm) (st : St) :
    callD T (ev T) 71 [toksD fl l, .int .i64 fr, .int .i64 to, .int .i64 k, .int .i64 n, .str s, .sl 6 true [encT x, encT y]] st = some (.agg (clG (mkG l fr to k n s .full [x, y])), st) :=
  c71 l fl fr to k n s .full [x, y] hf ht ht2 (by omega) st
theorem mk0 (E : Ended l) (fl : Fl) (hl : l.length ≤ 100000) {fr to : Nat} (hf : fr < l.length) (ht : 1 ≤ to) (ht2 : to ≤ l.length) (k n : Int) (s : List UInt8) (st : St) :
    callD T (ev T) 71 [toksD fl l, .int .i64 fr, .int .i64 to, .int .i64 k, .int .i64 n, .str s, .sl 6 true []] st = some (.agg (clG (mkG l fr to k n s .emp [])), st) :=
  c71 l fl fr to k n s .emp [] hf ht ht2 (by omega) st

theorem s161 (E : Ended l) (hl : l.length ≤ 100000) {n : Nat} (H : Hx l fl n) (a : Nat) (st : St) (ha : a < l.length) (hn : 16 * (l.length - a) + 5 < n + 1) : callD T (ev T) 161 [toksD fl l, .int .i64 a] st = some ((unP l (n + 1) a).d, st) := by
  refine callD_pureQ (fn := F161) rfl rfl (by simp) (gotD_pure _ _ _) (fun st => gotD_fz st _ _ _) ?_
  refine Ret_wp (fn := F161) rfl ?_
  rw [F161, unP]
  have q1 := c69 l fl a [45] []
  have q2 := c69 l fl a [33] []
  have w1 : IntKind.wrap .i64 ((a : Int) + 1) = ((a + 1 : Nat) : Int) := by rw [wrap64] <;> omega
  by_cases hs : isS l a [33] = false ∧ isS l a [45] = false
  · rw [if_pos hs]
    rw [hs.1] at q2
    rw [hs.2] at q1
    have q := H.post a [] ha (by omega)
    rw [Gt.d_eq] at q ⊢
    generalize postP l n a = g at *
    simp [q1, q2, q, splice, fillD]
  rw [if_neg hs]
  have e1 : a + 1 < l.length := by
    by_cases q : isS l a [33] = false
    · exact E.s' fun c => hs ⟨q, c⟩
    · exact E.s' q
  have q := H.un (a + 1) [] e1 (by omega)
  have ok := (expr_ok E n).2.2.1 (a + 1) e1
  generalize unP l n (a + 1) = g at *
  rw [Gt.d_eq] at q
  by_cases he : g.e = 0
  · rw [if_neg (fun c => c he)]
    obtain ⟨o1, o2⟩ := ok.1 he
    have m1 := mk1 E fl hl ha (to := g.a) (by omega) (by omega) 11 1 [] g.t []
    have m2 := mk1 E fl hl ha (to := g.a) (by omega) (by omega) 11 2 [] g.t []
    cases h33 : isS l a [33] with
    | true =>
      rw [h33] at q2
      simp only [if_true]
      rw [Gt.d_eq]
      generalize mkG l a g.a 11 2 [] .full [g.t] = r at *
      clear m1
      cases h45 : isS l a [45] with
      | true => rw [h45] at q1; simp [q1, q2, w1, q, he, ← encT_eq, m2, splice, fillD, -Int.natCast_add]
      | false => rw [h45] at q1; simp [q1, q2, w1, q, he, ← encT_eq, m2, splice, fillD, -Int.natCast_add]
    | false =>
      rw [h33] at q2
      have h45 : isS l a [45] = true := by
        cases c : isS l a [45] with
        | true => rfl
        | false => exact absurd ⟨h33, c⟩ hs
      rw [h45] at q1
      simp only [Bool.false_eq_true, if_false]
      rw [Gt.d_eq]
      generalize mkG l a g.a 11 1 [] .full [g.t] = r at *
      clear m2
      simp [q1, q2, w1, q, he, ← encT_eq, m1, splice, fillD, -Int.natCast_add]
  · rw [if_pos he, Gt.d_eq]
    cases h33 : isS l a [33] with
    | true =>
      rw [h33] at q2
      cases h45 : isS l a [45] with
      | true => rw [h45] at q1; simp [q1, q2, w1, q, he, splice, fillD, -Int.natCast_add]
      | false => rw [h45] at q1; simp [q1, q2, w1, q, he, splice, fillD, -Int.natCast_add]
    | false =>
      rw [h33] at q2
      have h45 : isS l a [45] = true := by
        cases c : isS l a [45] with
        | true => rfl
        | false => exact absurd ⟨h33, c⟩ hs
      rw [h45] at q1
      simp [q1, q2, w1, q, he, splice, fillD, -Int.natCast_add]
end Go.Nt.Lk

/-
  THE REFERENCE'S PARSER, walked (6): levels of operators.
  No condition.
-/
set_option linter.unusedSimpArgs false
set_option maxRecDepth 20000
namespace Go.Nt.Lk
open Go Go.Nt

variable {l : List Tok} {fl : Fl}

theorem op_lt (E : Ended l) {a : Nat} : ∀ ops : List (List UInt8 × Int), opT l a ops ≠ 0 → a + 1 < l.length
  | [], q => absurd rfl q
  | p :: r, q => by
    rw [opT] at q
    split at q
    · next hs => exact E.s hs
    · exact op_lt E r q

def Q153 (g : Gt) (r k : Nat) (x0 : Nat) (e : Ex) (b' : List (Nat × List D)) : Prop := (e = .exit x0 ∧ getB b' k = (1, clG g) ∧ getB b' r = (1, z8)) ∨ (e = .ret ∧ getB b' r = (1, clG g))

theorem l153 (E : Ended l) (hl : l.length ≤ 100000) (N : Nat) (H : ∀ k, k ≤ N → Hx l fl k) (a lv : Nat) (ha : a < l.length) (h1 : 1 ≤ lv) (h5 : lv ≤ 5) :
    ∀ (k : Nat) (x : Gt) (times : Nat) (s : List D) (bx : List (Nat × List D)) (st : St), k ≤ N → Okg l a x → times ≤ x.a → 16 * (l.length - x.a) + 15 < k →
      get s 0 = toksD fl l → get s 1 = .int .i64 a → get s 2 = .int .i64 lv → get s 6 = .lp 6 1 0 → getB bx 6 = (1, z8) → get s 7 = .lp 7 1 0 → getB bx 7 = (1, clG x) → get s 8 = .int .i64 times →
    Stops (lp T L153_0 ⟨⟨s, bx⟩, st⟩) fun e _ b' _ => Q153 (levelL l k a lv x times) 6 7 0 e b' := by
  intro k
  induction k with
  | zero => intro x times s bx st _ _ _ hm; omega
  | succ k ih =>
    intro x times s bx st hk hx ht hm g0 g1 g2 g6 b6 g7 b7 g8
    rw [levelL]
    refine Stops_wp L153_0.eq_1 ?_
    by_cases he : x.e = 0
    case neg =>
      rw [if_pos he]
      simp [g0, g1, g2, g6, b6, g7, b7, g8, he, Q153]
    rw [if_neg (fun c => c he)]
    obtain ⟨x1, x2⟩ := hx.1 he
    have q := c162 l fl x.a lv st
    have w1 : IntKind.wrap .i64 ((x.a : Int) + 1) = ((x.a + 1 : Nat) : Int) := by rw [wrap64] <;> omega
    have w2 : IntKind.wrap .i64 ((lv : Int) + 1) = ((lv + 1 : Nat) : Int) := by rw [wrap64] <;> omega
    have w3 : IntKind.wrap .i64 ((times : Int) + 1) = ((times + 1 : Nat) : Int) := by rw [wrap64] <;> omega
    have hop := op_lt E (l := l) (a := x.a) (opsL lv)
    generalize opT l x.a (opsL lv) = op at *
    by_cases ho : op = 0
    · rw [if_pos (.inl ho)]
      subst ho
      simp [g0, g1, g2, g6, b6, g7, b7, g8, he, q, splice, fillD, Q153]
    by_cases h3 : lv = 3 ∧ times = 1
    · rw [if_pos (.inr h3)]
      have c1 : ((lv : Int) = 3) = True := eq_true (by omega)
      have c2 : ((times : Int) = 1) = True := eq_true (by omega)
      have c3 : (lv = 3) = True := eq_true h3.1
      have c4 : (times = 1) = True := eq_true h3.2
      simp [g0, g1, g2, g6, b6, g7, b7, g8, he, q, ho, c1, c2, c3, c4, splice, fillD, Q153]
    rw [if_neg (fun c => c.elim ho h3)]
    have e1 := hop ho
    have qr := (H k (by omega)).lev (x.a + 1) (lv + 1) st (by omega) (by omega) e1 (by omega)
    have ok := (expr_ok E k).1 (x.a + 1) (lv + 1) e1
    generalize levelP l k (x.a + 1) (lv + 1) = y at *
    rw [Gt.d_eq] at qr
    have pk : ((lv : Int) = 3) = True ∧ (lv = 3) = True ∧ ((times : Int) = 1) = False ∧ (times = 1) = False ∨ ((lv : Int) = 3) = False ∧ (lv = 3) = False := by
      by_cases c : lv = 3
      · have d : ¬ times = 1 := fun d => h3 ⟨c, d⟩
        exact .inl ⟨eq_true (by omega), eq_true c, eq_false (by omega), eq_false d⟩
      · exact .inr ⟨eq_false (by omega), eq_false c⟩
    by_cases hy : y.e = 0
    case neg =>
      rw [if_pos hy]
      rcases pk with ⟨c1, c2, c3, c4⟩ | ⟨c1, c2⟩
      · simp [g0, g1, g2, g6, b6, g7, b7, g8, he, q, ho, c1, c2, c3, c4, w1, w2, qr, hy, splice, fillD, Q153, -Int.natCast_add]
      · simp [g0, g1, g2, g6, b6, g7, b7, g8, he, q, ho, c1, c2, w1, w2, qr, hy, splice, fillD, Q153, -Int.natCast_add]
    rw [if_neg (fun c => c hy)]
    obtain ⟨y1, y2⟩ := ok.1 hy
    have m := mk2 E fl hl ha (to := y.a) (by omega) (by omega) 10 op [] x.t y.t st
    have nx := fun s' bx' => ih (mkG l a y.a 10 op [] .full [x.t, y.t]) (times + 1) s' bx' st (by omega) (okg_mk (by omega) y2) (by show times + 1 ≤ y.a; omega) (by show 16 * (l.length - y.a) + 15 < k; omega)
    generalize mkG l a y.a 10 op [] .full [x.t, y.t] = z at *
    generalize levelL l k a lv z (times + 1) = R at *
    rcases pk with ⟨c1, c2, c3, c4⟩ | ⟨c1, c2⟩
    · simp [g0, g1, g2, g6, b6, g7, b7, g8, he, q, ho, c1, c2, c3, c4, w1, w2, w3, qr, hy, ← encT_eq, m, splice, fillD, -Int.natCast_add]
      refine nx _ _ ?_ ?_ ?_ ?_ ?_ ?_ ?_ ?_
      iterate 8 simp [g0, g1, g2, g6, b6, g7]
    · simp [g0, g1, g2, g6, b6, g7, b7, g8, he, q, ho, c1, c2, w1, w2, w3, qr, hy, ← encT_eq, m, splice, fillD, -Int.natCast_add]
      refine nx _ _ ?_ ?_ ?_ ?_ ?_ ?_ ?_ ?_
      iterate 8 simp [g0, g1, g2, g6, b6, g7]

theorem s153 (E : Ended l) (hl : l.length ≤ 100000) (N : Nat) (H : ∀ k, k ≤ N → Hx l fl k) (a lv : Nat) (st : St) (h1 : 1 ≤ lv) (h6 : lv ≤ 6) (ha : a < l.length) (hn : 16 * (l.length - a) + (12 - lv) < N + 1) :
    callD T (ev T) 153 [toksD fl l, .int .i64 a, .int .i64 lv] st = some ((levelP l (N + 1) a lv).d, st) := by
  refine callD_pureQ (fn := F153) rfl rfl (by simp) (gotD_pure _ _ _) (fun st => gotD_fz st _ _ _) ?_
  refine Ret_wp (fn := F153) rfl ?_
  rw [F153, levelP]
  by_cases c6 : lv = 6
  · rw [if_pos c6]
    have c1 : ((lv : Int) = 6) = True := eq_true (by omega)
    have q := (H N (by omega)).un a [] ha (by omega)
    rw [Gt.d_eq] at q ⊢
    generalize unP l N a = g at *
    simp [c1, eq_true c6, q, splice, fillD]
  rw [if_neg c6]
  have c1 : ((lv : Int) = 6) = False := eq_false (by omega)
  have w2 : IntKind.wrap .i64 ((lv : Int) + 1) = ((lv + 1 : Nat) : Int) := by rw [wrap64] <;> omega
  have q := (H N (by omega)).lev a (lv + 1) [] (by omega) (by omega) ha (by omega)
  have ok := (expr_ok E N).1 a (lv + 1) ha
  generalize levelP l N a (lv + 1) = x at *
  have hN : 1 ≤ N := by omega
  rw [Gt.d_eq] at q ⊢
  by_cases he : x.e = 0
  · obtain ⟨o1, o2⟩ := ok.1 he
    have lo := fun s bx st => l153 E hl N H a lv ha h1 (by omega) N x 0 s bx st (by omega) ok (by omega) (by omega)
    generalize levelL l N a lv x 0 = R at *
    simp [c1, eq_false c6, w2, q, splice, fillD, -Int.natCast_add]
    refine WL.useB L153_0_p L153_0_w (WB := L153_0.wrB) rfl (lo _ _ _ ?_ ?_ ?_ ?_ ?_ ?_ ?_ ?_) ?_
    iterate 8 simp
    rintro e s' b' st' h hf hbx
    have e6 := hf 6 rfl
    have e7 := hf 7 rfl
    simp at e6 e7
    rcases h with ⟨rfl, h7, h6'⟩ | ⟨rfl, h6'⟩
    · simp [e6, e7, h7, h6', splice]
    · simp [e6, h6']
  · have lo : ∀ s bx st, get s 0 = toksD fl l → get s 7 = .lp 7 1 0 → getB bx 7 = (1, clG x) → Stops (lp T L153_0 ⟨⟨s, bx⟩, st⟩) fun e s' b' _ => e = .exit 0 ∧ getB b' 7 = (1, clG x) ∧ s' = put (put (put s 21 (.lp 7 1 7)) 22 (.int .i64 x.e)) 23 (.bool false) ∧ b' = bx := by
      intro s bx st g0 g7 b7
      refine Stops_wp L153_0.eq_1 ?_
      simp [g0, g7, b7, he]
    have eR : levelL l N a lv x 0 = x := by
      obtain ⟨M, rfl⟩ : ∃ M, N = M + 1 := ⟨N - 1, by omega⟩
      rw [levelL, if_pos he]
    rw [eR]
    simp [c1, eq_false c6, w2, q, splice, fillD, -Int.natCast_add]
    refine WL.useB L153_0_p L153_0_w (WB := L153_0.wrB) rfl (lo _ _ _ ?_ ?_ ?_) ?_
    iterate 3 simp
    rintro e s' b' st' ⟨rfl, h7, rfl, rfl⟩ hf hbx
    simp [splice]
end Go.Nt.Lk

/-
  THE REFERENCE'S PARSER, walked (7): what stands behind an atom.
  No condition.
-/
set_option linter.unusedSimpArgs false
set_option maxRecDepth 20000
namespace Go.Nt.Lk
open Go Go.Nt

variable {l : List Tok} {fl : Fl}

theorem bad67 (a : Nat) (st : St) : callD T (ev T) 67 [.int .i64 a] st = some (.agg (clG (badG a)), st) := c67 a st
theorem now68 (l : List Tok) (fl : Fl) (a : Nat) (st : St) : callD T (ev T) 68 [toksD fl l, .int .i64 a] st = some (.agg [.int .i64 (nowT l a).k, .int .i64 (nowT l a).n, .str (nowT l a).s, .int .i64 (nowT l a).f, .int .i64 (nowT l a).t], st) := c68 l fl a st

theorem l164 (E : Ended l) (hl : l.length ≤ 100000) (N : Nat) (H : ∀ k, k ≤ N → Hx l fl k) (a : Nat) (ha : a < l.length) :
    ∀ (k : Nat) (x : Gt) (s : List D) (bx : List (Nat × List D)) (st : St), k ≤ N → Okg l a x → 16 * (l.length - x.a) + 15 < k →
      get s 0 = toksD fl l → get s 1 = .int .i64 a → get s 4 = .lp 4 1 0 → getB bx 4 = (1, z8) → get s 5 = .lp 5 1 0 → getB bx 5 = (1, clG x) →
    Stops (lp T L164_0 ⟨⟨s, bx⟩, st⟩) fun e _ b' _ => Q153 (postL l k a x) 4 5 0 e b' := by
  intro k
  induction k with
  | zero => intro x s bx st _ _ hm; omega
  | succ k ih =>
    intro x s bx st hk hx hm g0 g1 g4 b4 g5 b5
    rw [postL]
    refine Stops_wp L164_0.eq_1 ?_
    by_cases he : x.e = 0
    case neg =>
      rw [if_pos he]
      simp [g0, g1, g4, b4, g5, b5, he, Q153]
    rw [if_neg (fun c => c he)]
    obtain ⟨x1, x2⟩ := hx.1 he
    have q1 := c69 l fl x.a [91] st
    have q2 := c69 l fl x.a [46] st
    have w1 : IntKind.wrap .i64 ((x.a : Int) + 1) = ((x.a + 1 : Nat) : Int) := by rw [wrap64] <;> omega
    cases h91 : isS l x.a [91] with
    | true =>
      rw [h91] at q1
      rw [if_pos rfl]
      have e1 := E.s h91
      have qi := (H k (by omega)).expr (x.a + 1) st e1 (by omega)
      have ok := (expr_ok E k).1 (x.a + 1) 1 e1
      generalize levelP l k (x.a + 1) 1 = y at *
      rw [Gt.d_eq] at qi
      by_cases hy : y.e = 0
      case neg =>
        rw [if_pos hy]
        simp [g0, g1, g4, b4, g5, b5, he, q1, w1, qi, hy, splice, fillD, Q153, -Int.natCast_add]
      rw [if_neg (fun c => c hy)]
      obtain ⟨y1, y2⟩ := ok.1 hy
      have q3 := c69 l fl y.a [93] st
      have w3 : IntKind.wrap .i64 ((y.a : Int) + 1) = ((y.a + 1 : Nat) : Int) := by rw [wrap64] <;> omega
      cases h93 : isS l y.a [93] with
      | false =>
        rw [h93] at q3
        rw [if_pos rfl]
        have qb := bad67 y.a st
        generalize badG y.a = z at *
        simp [g0, g1, g4, b4, g5, b5, he, q1, w1, qi, hy, q3, qb, splice, fillD, Q153, -Int.natCast_add]
      | true =>
        rw [h93] at q3
        rw [if_neg (by simp)]
        have e3 := E.s h93
        have m := mk2 E fl hl ha (to := y.a + 1) (by omega) (by omega) 12 0 [] x.t y.t st
        have nx := fun s' bx' => ih (mkG l a (y.a + 1) 12 0 [] .full [x.t, y.t]) s' bx' st (by omega) (okg_mk (by omega) e3) (by show 16 * (l.length - (y.a + 1)) + 15 < k; omega)
        generalize mkG l a (y.a + 1) 12 0 [] .full [x.t, y.t] = z at *
        generalize postL l k a z = R at *
        simp [g0, g1, g4, b4, g5, b5, he, q1, w1, qi, hy, q3, w3, ← encT_eq, m, splice, fillD, -Int.natCast_add]
        refine nx _ _ ?_ ?_ ?_ ?_ ?_ ?_
        iterate 6 simp [g0, g1, g4, b4, g5]
    | false =>
      rw [h91] at q1
      rw [if_neg (by simp)]
      cases h46 : isS l x.a [46] with
      | false =>
        rw [h46] at q2
        rw [if_neg (by simp)]
        simp [g0, g1, g4, b4, g5, b5, he, q1, q2, splice, fillD, Q153, -Int.natCast_add]
      | true =>
        rw [h46] at q2
        rw [if_pos rfl]
        have e1 := E.s h46
        have q3 := now68 l fl (x.a + 1) st
        have w2 : IntKind.wrap .i64 ((x.a : Int) + 2) = ((x.a + 2 : Nat) : Int) := by rw [wrap64] <;> omega
        have e2 : (nowT l (x.a + 1)).k = 1 → x.a + 2 < l.length := fun c => E.n c
        generalize nowT l (x.a + 1) = t at *
        by_cases hk : t.k = 1
        case neg =>
          rw [if_pos hk]
          have qb := bad67 (x.a + 1) st
          generalize badG (x.a + 1) = z at *
          simp [g0, g1, g4, b4, g5, b5, he, q1, q2, w1, q3, hk, qb, splice, fillD, Q153, -Int.natCast_add]
        rw [if_neg (fun c => c hk)]
        have e2 := e2 hk
        have m := mk1 E fl hl ha (to := x.a + 2) (by omega) (by omega) 13 0 t.s x.t st
        have nx := fun s' bx' => ih (mkG l a (x.a + 2) 13 0 t.s .full [x.t]) s' bx' st (by omega) (okg_mk (by omega) e2) (by show 16 * (l.length - (x.a + 2)) + 15 < k; omega)
        generalize mkG l a (x.a + 2) 13 0 t.s .full [x.t] = z at *
        generalize postL l k a z = R at *
        simp [g0, g1, g4, b4, g5, b5, he, q1, q2, w1, w2, q3, hk, ← encT_eq, m, splice, fillD, -Int.natCast_add]
        refine nx _ _ ?_ ?_ ?_ ?_ ?_ ?_
        iterate 6 simp [g0, g1, g4, b4, g5]

theorem s164 (E : Ended l) (hl : l.length ≤ 100000) (N : Nat) (H : ∀ k, k ≤ N → Hx l fl k) (a : Nat) (st : St) (ha : a < l.length) (hn : 16 * (l.length - a) + 4 < N + 1) :
    callD T (ev T) 164 [toksD fl l, .int .i64 a] st = some ((postP l (N + 1) a).d, st) := by
  refine callD_pureQ (fn := F164) rfl rfl (by simp) (gotD_pure _ _ _) (fun st => gotD_fz st _ _ _) ?_
  refine Ret_wp (fn := F164) rfl ?_
  rw [F164, postP]
  have q := (H N (by omega)).atom a [] ha (by omega)
  have ok := (expr_ok E N).2.2.2.2.2.1 a ha
  generalize atomP l N a = x at *
  rw [Gt.d_eq] at q ⊢
  by_cases he : x.e = 0
  · obtain ⟨o1, o2⟩ := ok.1 he
    have lo := fun s bx st => l164 E hl N H a ha N x s bx st (by omega) ok (by omega)
    generalize postL l N a x = R at *
    simp [q, splice, fillD, -Int.natCast_add]
    refine WL.useB L164_0_p L164_0_w (WB := L164_0.wrB) rfl (lo _ _ _ ?_ ?_ ?_ ?_ ?_ ?_) ?_
    iterate 6 simp
    rintro e s' b' st' h hf hbx
    have e4 := hf 4 rfl
    have e5 := hf 5 rfl
    simp at e4 e5
    rcases h with ⟨rfl, h7, h6'⟩ | ⟨rfl, h6'⟩
    · simp [e4, e5, h7, h6', splice]
    · simp [e4, h6']
  · have lo : ∀ s bx st, get s 5 = .lp 5 1 0 → getB bx 5 = (1, clG x) → Stops (lp T L164_0 ⟨⟨s, bx⟩, st⟩) fun e s' b' _ => e = .exit 0 ∧ getB b' 5 = (1, clG x) ∧ s' = put (put (put s 11 (.lp 5 1 7)) 12 (.int .i64 x.e)) 13 (.bool false) ∧ b' = bx := by
      intro s bx st g5 b5
      refine Stops_wp L164_0.eq_1 ?_
      simp [g5, b5, he]
    have eR : postL l N a x = x := by
      obtain ⟨M, rfl⟩ : ∃ M, N = M + 1 := ⟨N - 1, by omega⟩
      rw [postL, if_pos he]
    rw [eR]
    simp [q, splice, fillD, -Int.natCast_add]
    refine WL.useB L164_0_p L164_0_w (WB := L164_0.wrB) rfl (lo _ _ _ ?_ ?_) ?_
    iterate 2 simp
    rintro e s' b' st' ⟨rfl, h7, rfl, rfl⟩ hf hbx
    simp [splice]
end Go.Nt.Lk

/-
  THE REFERENCE'S PARSER, walked (8): atoms.
  No condition.
-/
set_option linter.unusedSimpArgs false
set_option maxRecDepth 20000
namespace Go.Nt.Lk
open Go Go.Nt

variable {l : List Tok} {fl : Fl}

theorem s111 (E : Ended l) (hl : l.length ≤ 100000) (N : Nat) (H : Hx l fl N) (a : Nat) (st : St) (ha : a < l.length) (hn : 16 * (l.length - a) + 3 < N + 1) :
    callD T (ev T) 111 [toksD fl l, .int .i64 a] st = some ((atomP l (N + 1) a).d, st) := by
  refine callD_pureQ (fn := F111) rfl rfl (by simp) (gotD_pure _ _ _) (fun st => gotD_fz st _ _ _) ?_
  refine Ret_wp (fn := F111) rfl ?_
  rw [F111, atomP, Gt.d_eq]
  have q0 := now68 l fl a []
  have q1 := c64 l fl a [116, 114, 117, 101] []
  have q2 := c64 l fl a [102, 97, 108, 115, 101] []
  have q3 := c64 l fl a [114, 101, 97, 100] []
  have q4 := c69 l fl (a + 1) [40] []
  have q5 := c69 l fl a [40] []
  have w1 : IntKind.wrap .i64 ((a : Int) + 1) = ((a + 1 : Nat) : Int) := by rw [wrap64] <;> omega
  have e2 : (nowT l a).k = 2 → a + 1 < l.length := fun c => E.d c
  have e1 : (nowT l a).k = 1 → a + 1 < l.length := fun c => E.n c
  generalize nowT l a = t at *
  by_cases h2 : t.k = 2
  · rw [if_pos h2]
    have m := mk0 E fl hl ha (to := a + 1) (by omega) (by omega) 5 t.n [] []
    generalize mkG l a (a + 1) 5 t.n [] .emp [] = z at *
    simp [q0, h2, w1, m, splice, fillD, -Int.natCast_add]
  rw [if_neg h2]
  cases b1 : isW l a [116, 114, 117, 101] with
  | true =>
    rw [b1] at q1
    rw [if_pos rfl]
    have m := mk0 E fl hl ha (to := a + 1) (by omega) (by omega) 6 1 [] []
    generalize mkG l a (a + 1) 6 1 [] .emp [] = z at *
    simp [q0, h2, q1, w1, m, splice, fillD, -Int.natCast_add]
  | false =>
  rw [b1] at q1
  rw [if_neg (by simp)]
  cases b2 : isW l a [102, 97, 108, 115, 101] with
  | true =>
    rw [b2] at q2
    rw [if_pos rfl]
    have m := mk0 E fl hl ha (to := a + 1) (by omega) (by omega) 6 0 [] []
    generalize mkG l a (a + 1) 6 0 [] .emp [] = z at *
    simp [q0, h2, q1, q2, w1, m, splice, fillD, -Int.natCast_add]
  | false =>
  rw [b2] at q2
  rw [if_neg (by simp)]
  cases b3 : isW l a [114, 101, 97, 100] with
  | true =>
    rw [b3] at q3
    rw [if_pos rfl]
    have m := mk0 E fl hl ha (to := a + 1) (by omega) (by omega) 18 0 [] []
    generalize mkG l a (a + 1) 18 0 [] .emp [] = z at *
    simp [q0, h2, q1, q2, q3, w1, m, splice, fillD, -Int.natCast_add]
  | false =>
  rw [b3] at q3
  rw [if_neg (by simp)]
  have rest : ∀ (hc : ∀ Q : Prop, (t.k = 1 → isS l (a + 1) [40] = true)), True := fun _ => trivial
  clear rest
  by_cases hc : t.k = 1 ∧ isS l (a + 1) [40] = false
  · rw [if_pos hc]
    obtain ⟨h1, b4⟩ := hc
    rw [b4] at q4
    have m := mk0 E fl hl ha (to := a + 1) (by omega) (by omega) 19 0 t.s []
    generalize mkG l a (a + 1) 19 0 t.s .emp [] = z at *
    simp [q0, h2, h1, q1, q2, q3, q4, w1, m, splice, fillD, -Int.natCast_add]
  rw [if_neg hc]
  have pk : t.k = 1 ∧ isS l (a + 1) [40] = true ∨ ¬ t.k = 1 := by
    by_cases h1 : t.k = 1
    · refine .inl ⟨h1, ?_⟩
      cases c : isS l (a + 1) [40] with
      | true => rfl
      | false => exact absurd ⟨h1, c⟩ hc
    · exact .inr h1
  clear hc
  cases b5 : isS l a [40] with
  | true =>
    rw [b5] at q5
    rw [if_pos rfl]
    have e3 := E.s b5
    have qi := H.expr (a + 1) [] e3 (by omega)
    have ok := (expr_ok E N).1 (a + 1) 1 e3
    generalize levelP l N (a + 1) 1 = y at *
    rw [Gt.d_eq] at qi
    by_cases hy : y.e = 0
    case neg =>
      rw [if_pos hy]
      rcases pk with ⟨h1, b4⟩ | h1
      · rw [b4] at q4
        simp [q0, h2, h1, q1, q2, q3, q4, q5, w1, qi, hy, splice, fillD, -Int.natCast_add]
      · simp [q0, h2, h1, q1, q2, q3, q5, w1, qi, hy, splice, fillD, -Int.natCast_add]
    rw [if_neg (fun c => c hy)]
    obtain ⟨y1, y2⟩ := ok.1 hy
    have q6 := c69 l fl y.a [41] []
    have w3 : IntKind.wrap .i64 ((y.a : Int) + 1) = ((y.a + 1 : Nat) : Int) := by rw [wrap64] <;> omega
    cases b6 : isS l y.a [41] with
    | false =>
      rw [b6] at q6
      rw [if_pos rfl]
      have qb := bad67 y.a []
      generalize badG y.a = z at *
      rcases pk with ⟨h1, b4⟩ | h1
      · rw [b4] at q4
        simp [q0, h2, h1, q1, q2, q3, q4, q5, q6, qb, w1, qi, hy, splice, fillD, -Int.natCast_add]
      · simp [q0, h2, h1, q1, q2, q3, q5, q6, qb, w1, qi, hy, splice, fillD, -Int.natCast_add]
    | true =>
      rw [b6] at q6
      rw [if_neg (by simp)]
      rcases pk with ⟨h1, b4⟩ | h1
      · rw [b4] at q4
        simp [q0, h2, h1, q1, q2, q3, q4, q5, q6, w1, w3, qi, hy, splice, fillD, -Int.natCast_add]
      · simp [q0, h2, h1, q1, q2, q3, q5, q6, w1, w3, qi, hy, splice, fillD, -Int.natCast_add]
  | false =>
    rw [b5] at q5
    rw [if_neg (by simp)]
    have qc := H.called a [] ha (by omega)
    generalize calledP l N a = z at *
    rw [Gt.d_eq] at qc
    rcases pk with ⟨h1, b4⟩ | h1
    · rw [b4] at q4
      simp [q0, h2, h1, q1, q2, q3, q4, q5, qc, w1, splice, fillD, -Int.natCast_add]
    · simp [q0, h2, h1, q1, q2, q3, q5, qc, w1, splice, fillD, -Int.natCast_add]

theorem clG_err (a : Nat) (e : Int) : clG ⟨tm0, a, e⟩ = [.int .i64 0, .int .i64 0, .str [], .nils, .int .i64 0, .int .i64 0, .int .i64 a, .int .i64 e] := rfl

theorem s140 (E : Ended l) (hl : l.length ≤ 100000) (N : Nat) (H : Hx l fl N) (a : Nat) (st : St) (ha : a < l.length) (hn : 16 * (l.length - a) + 2 < N + 1) :
    callD T (ev T) 140 [toksD fl l, .int .i64 a] st = some ((calledP l (N + 1) a).d, st) := by
  refine callD_pureQ (fn := F140) rfl rfl (by simp) (gotD_pure _ _ _) (fun st => gotD_fz st _ _ _) ?_
  refine Ret_wp (fn := F140) rfl ?_
  rw [F140, calledP, Gt.d_eq]
  have q0 := now68 l fl a []
  have q1 := c69 l fl a [91] []
  have q2 := c69 l fl a [64] []
  have q3 := c64 l fl a [110, 101, 119] []
  have q4 := now68 l fl (a + 1) []
  have w1 : IntKind.wrap .i64 ((a : Int) + 1) = ((a + 1 : Nat) : Int) := by rw [wrap64] <;> omega
  have w2 : IntKind.wrap .i64 ((a : Int) + 2) = ((a + 2 : Nat) : Int) := by rw [wrap64] <;> omega
  have hop := (callH_ok E ha).2
  have fin : ∀ (k : Int) (s : List UInt8) (op : Nat) (few : Bool) (s1 s2 : List UInt8), callH l a = .ok (k, s, op, few, s1, s2) → ∃ g : Gl, closedP l N op few s1 s2 = g ∧ callD T (ev T) 154 [toksD fl l, .int .i64 op, .bool few, .str s1, .str s2] [] = some (dL g, []) ∧
      (¬ g.e = 0 ∨ g.e = 0 ∧ ∃ z, mkG l a g.a k 0 s .emp g.ts = z ∧ callD T (ev T) 71 [toksD fl l, .int .i64 a, .int .i64 g.a, .int .i64 k, .int .i64 0, .str s, slE 6 .emp (encTs g.ts)] [] = some (.agg (clG z), [])) := by
    intro k s op few s1 s2 h
    obtain ⟨o1, o2⟩ := hop _ _ _ _ _ _ h
    refine ⟨_, rfl, H.closed op few s1 s2 [] o2 (by omega), ?_⟩
    have ok := (expr_ok E N).2.2.2.2.2.2.2.1 op few s1 s2 o2
    by_cases he : (closedP l N op few s1 s2).e = 0
    · have := ok.1 he
      exact .inr ⟨he, _, rfl, c71 l fl a _ k 0 s .emp _ ha (by omega) (by omega) (by omega) []⟩
    · exact .inl he
  unfold callH at fin ⊢
  generalize nowT l a = t at *
  generalize nowT l (a + 1) = u at *
  by_cases h1 : t.k = 1
  · rw [if_pos h1] at fin ⊢
    obtain ⟨g, hg, qc, hz⟩ := fin _ _ _ _ _ _ rfl
    simp only [hg]
    unfold dL at qc
    rcases hz with he | ⟨he, z, hz, m⟩
    · rw [if_pos he, clG_err]
      simp [q0, h1, w1, qc, he, splice, fillD, -Int.natCast_add]
    · rw [if_neg (fun c => c he), hz]
      simp [q0, h1, w1, qc, he, m, splice, fillD, -Int.natCast_add]
  rw [if_neg h1] at fin ⊢
  cases b1 : isS l a [91] with
  | true =>
    rw [b1] at q1
    rw [b1, if_pos rfl] at fin
    rw [if_pos rfl]
    obtain ⟨g, hg, qc, hz⟩ := fin _ _ _ _ _ _ rfl
    simp only [hg]
    unfold dL at qc
    rcases hz with he | ⟨he, z, hz, m⟩
    · rw [if_pos he, clG_err]
      simp [q0, h1, w1, q1, qc, he, splice, fillD, -Int.natCast_add]
    · rw [if_neg (fun c => c he), hz]
      simp [q0, h1, w1, q1, qc, he, m, splice, fillD, -Int.natCast_add]
  | false =>
  rw [b1] at q1
  rw [b1, if_neg (by simp)] at fin
  rw [if_neg (by simp)]
  by_cases b2 : isS l a [64] = true ∨ isW l a [110, 101, 119] = true
  · rw [if_pos b2] at fin ⊢
    by_cases hk : u.k = 1
    case neg =>
      rw [if_pos hk]
      have qb := bad67 (a + 1) []
      simp only
      generalize badG (a + 1) = z at *
      cases b3 : isS l a [64] with
      | true =>
        rw [b3] at q2
        simp [q0, h1, w1, q1, q2, q4, hk, qb, splice, fillD, -Int.natCast_add]
      | false =>
        rw [b3] at q2 b2
        rw [b2.resolve_left (by simp)] at q3
        simp [q0, h1, w1, q1, q2, q3, q4, hk, qb, splice, fillD, -Int.natCast_add]
    rw [if_neg (fun c => c hk)] at fin ⊢
    cases b4 : isW l a [110, 101, 119] with
    | true =>
      rw [b4] at q3
      rw [b4, if_pos rfl] at fin
      rw [if_pos rfl]
      cases b3 : isS l a [64] with
      | true =>
        rw [b3] at q2
        obtain ⟨g, hg, qc, hz⟩ := fin _ _ _ _ _ _ rfl
        simp only [hg]
        unfold dL at qc
        rcases hz with he | ⟨he, z, hz, m⟩
        · rw [if_pos he, clG_err]
          simp [q0, h1, w1, w2, q1, q2, q3, q4, hk, qc, he, splice, fillD, -Int.natCast_add]
        · rw [if_neg (fun c => c he), hz]
          simp [q0, h1, w1, w2, q1, q2, q3, q4, hk, qc, he, m, splice, fillD, -Int.natCast_add]
      | false =>
        rw [b3] at q2
        obtain ⟨g, hg, qc, hz⟩ := fin _ _ _ _ _ _ rfl
        simp only [hg]
        unfold dL at qc
        rcases hz with he | ⟨he, z, hz, m⟩
        · rw [if_pos he, clG_err]
          simp [q0, h1, w1, w2, q1, q2, q3, q4, hk, qc, he, splice, fillD, -Int.natCast_add]
        · rw [if_neg (fun c => c he), hz]
          simp [q0, h1, w1, w2, q1, q2, q3, q4, hk, qc, he, m, splice, fillD, -Int.natCast_add]
    | false =>
      rw [b4] at q3 b2
      rw [b4, if_neg (by simp)] at fin
      rw [if_neg (by simp)]
      have b3 := b2.resolve_right (by simp)
      rw [b3] at q2
      obtain ⟨g, hg, qc, hz⟩ := fin _ _ _ _ _ _ rfl
      simp only [hg]
      unfold dL at qc
      rcases hz with he | ⟨he, z, hz, m⟩
      · rw [if_pos he, clG_err]
        simp [q0, h1, w1, w2, q1, q2, q3, q4, hk, qc, he, splice, fillD, -Int.natCast_add]
      · rw [if_neg (fun c => c he), hz]
        simp [q0, h1, w1, w2, q1, q2, q3, q4, hk, qc, he, m, splice, fillD, -Int.natCast_add]
  · rw [if_neg b2]
    have b3 : isS l a [64] = false := by
      cases c : isS l a [64] with
      | true => exact absurd (.inl c) b2
      | false => rfl
    have b4 : isW l a [110, 101, 119] = false := by
      cases c : isW l a [110, 101, 119] with
      | true => exact absurd (.inr c) b2
      | false => rfl
    rw [b3] at q2
    rw [b4] at q3
    have qb := bad67 a []
    simp only
    generalize badG a = z at *
    simp [q0, h1, w1, q1, q2, q3, qb, splice, fillD, -Int.natCast_add]
end Go.Nt.Lk

/-
  THE REFERENCE'S PARSER, walked (9): lists; all expressions.
  No condition.
-/
set_option linter.unusedSimpArgs false
set_option maxRecDepth 20000
namespace Go.Nt.Lk
open Go Go.Nt

variable {l : List Tok} {fl : Fl}

theorem rawApp {st : St} {L : D} {out : List Tm} (h : RawX 6 st L (encTs out)) (hb : out.length ≤ 1000000) (x : Tm) : ∃ L' st', appendD st L [encT x] 6 = some (L', st') ∧ RawX 6 st' L' (encTs (out ++ [x])) ∧ st.length ≤ st'.length := by
  obtain ⟨L', st', a, R, g, _⟩ := h.app (by omega) (by omega) (by simpa using hb) (encT x)
  refine ⟨L', st', a, ?_, g⟩
  rw [encTs_append]; simpa using R

theorem l163 (E : Ended l) (hl : l.length ≤ 100000) (N : Nat) (H : ∀ k, k ≤ N → Hx l fl k) :
    ∀ (k a : Nat) (out : List Tm) (L : D) (s : List D) (bx : List (Nat × List D)) (st : St), k ≤ N + 1 → a < l.length → 16 * (l.length - a) + 14 < k → RawX 6 st L (encTs out) → out.length ≤ a →
      get s 0 = toksD fl l → get s 1 = .int .i64 a → get s 7 = L →
    Stops (lp T L163_0 ⟨⟨s, bx⟩, st⟩) fun e s' _ st' => e = .ret ∧ RawX 6 st' (get s' 4) (encTs (listP l k a out).ts) ∧ get s' 5 = .int .i64 (listP l k a out).a ∧ get s' 6 = .int .i64 (listP l k a out).e := by
  intro k
  induction k with
  | zero => intro a out L s bx st _ _ hm; omega
  | succ k ih =>
    intro a out L s bx st hk ha hm R ho g0 g1 g7
    rw [listP]
    refine Stops_wp L163_0.eq_1 ?_
    have q := (H k (by omega)).expr a st ha (by omega)
    have ok := (expr_ok E k).1 a 1 ha
    generalize levelP l k a 1 = x at *
    rw [Gt.d_eq] at q
    obtain ⟨r1, r2, r3, r4⟩ := R.facts
    by_cases he : x.e = 0
    case neg =>
      rw [if_pos he]
      simp [g0, g1, g7, q, he, r1, r2, r3, splice, fillD]
      exact R
    rw [if_neg (fun c => c he)]
    obtain ⟨x1, x2⟩ := ok.1 he
    obtain ⟨L2, st2, a2, R2, _⟩ := rawApp R (by omega) x.t
    obtain ⟨t1, t2, t3, t4⟩ := R2.facts
    have q2 := c69 l fl x.a [44] st2
    have w1 : IntKind.wrap .i64 ((x.a : Int) + 1) = ((x.a + 1 : Nat) : Int) := by rw [wrap64] <;> omega
    cases b1 : isS l x.a [44] with
    | false =>
      rw [b1] at q2
      rw [if_pos rfl]
      simp [g0, g1, g7, q, he, r1, r2, r3, ← encT_eq, a2, t1, t2, t3, q2, splice, fillD]
      exact R2
    | true =>
      rw [b1] at q2
      rw [if_neg (by simp)]
      have e1 := E.s b1
      have nx := fun s' bx' => ih (x.a + 1) (out ++ [x.t]) L2 s' bx' st2 (by omega) e1 (by omega) R2 (by simp; omega)
      generalize listP l k (x.a + 1) (out ++ [x.t]) = G at *
      simp [g0, g1, g7, q, he, r1, r2, r3, ← encT_eq, a2, t1, t2, t3, q2, w1, splice, fillD, -Int.natCast_add]
      refine nx _ _ ?_ ?_ ?_ <;> simp [g0]

theorem s163 (E : Ended l) (hl : l.length ≤ 100000) (N : Nat) (H : ∀ k, k ≤ N → Hx l fl k) (a : Nat) (st : St) (ha : a < l.length) (hn : 16 * (l.length - a) + 14 < N + 1) :
    callD T (ev T) 163 [toksD fl l, .int .i64 a] st = some (dL (listP l (N + 1) a []), st) := by
  refine callD_pureR (fn := F163) rfl rfl (by simp) (by simp [dL]) ?_
  refine Ret_wp (fn := F163) rfl ?_
  rw [F163]
  have lo := fun s bx => l163 E hl N H (N + 1) a [] (.sl 6 true []) s bx [] (by omega) ha (by omega) (RawX.nil 6 []) (by simp)
  unfold dL
  generalize listP l (N + 1) a [] = G at *
  simp
  refine WL.use L163_0_p L163_0_w (lo _ _ ?_ ?_ ?_) ?_
  iterate 3 simp
  rintro e s' b' st' ⟨rfl, R, h5, h6⟩ hf
  obtain ⟨r1, r2, r3, r4⟩ := R.facts
  obtain ⟨st2, f1, _⟩ := R.fz
  have f2 := R.fz1
  rw [f1] at f2
  simp [h5, h6, r1, r2, r3, fz, fzL, f2]

theorem s154 (E : Ended l) (N : Nat) (H : Hx l fl N) (a : Nat) (few : Bool) (s1 s2 : List UInt8) (st : St) (ha : a < l.length) (hl : l.length ≤ 100000) (hn : 16 * (l.length - a) + 1 < N + 1) :
    callD T (ev T) 154 [toksD fl l, .int .i64 a, .bool few, .str s1, .str s2] st = some (dL (closedP l (N + 1) a few s1 s2), st) := by
  refine callD_pureR (fn := F154) rfl rfl (by simp) (by simp [dL]) ?_
  refine Ret_wp (fn := F154) rfl ?_
  rw [F154, closedP]
  have q1 := c69 l fl a s1 []
  have q2 := c69 l fl (a + 1) s2 []
  have w1 : IntKind.wrap .i64 ((a : Int) + 1) = ((a + 1 : Nat) : Int) := by rw [wrap64] <;> omega
  have w2 : IntKind.wrap .i64 ((a : Int) + 2) = ((a + 2 : Nat) : Int) := by rw [wrap64] <;> omega
  have emp : ∀ (p : Nat) (e : Int), dL ⟨[], p, e⟩ = .tup [.sl 6 true [], .int .i64 p, .int .i64 e] := fun _ _ => rfl
  cases b1 : isS l a s1 with
  | false =>
    rw [b1] at q1
    rw [if_pos rfl, emp]
    simp [q1]
  | true =>
  rw [b1] at q1
  rw [if_neg (by simp)]
  have e1 := E.s b1
  by_cases h2 : few = true ∧ isS l (a + 1) s2 = true
  · rw [if_pos h2, emp]
    obtain ⟨rfl, b2⟩ := h2
    rw [b2] at q2
    simp [q1, q2, w1, w2, -Int.natCast_add]
  rw [if_neg h2]
  have q := H.list (a + 1) [] e1 (by omega)
  have ok := (expr_ok E N).2.2.2.2.2.2.2.2 (a + 1) [] e1
  generalize listP l N (a + 1) [] = g at *
  unfold dL at q ⊢
  have pk : few = false ∨ few = true ∧ isS l (a + 1) s2 = false := by
    cases few with
    | false => exact .inl rfl
    | true =>
      cases c : isS l (a + 1) s2 with
      | true => exact absurd ⟨rfl, c⟩ h2
      | false => exact .inr ⟨rfl, rfl⟩
  by_cases he : g.e = 0
  case neg =>
    rw [if_pos he]
    rcases pk with rfl | ⟨rfl, b2⟩
    · simp [q1, w1, q, he, -Int.natCast_add]
    · rw [b2] at q2
      simp [q1, q2, w1, q, he, -Int.natCast_add]
  rw [if_neg (fun c => c he)]
  obtain ⟨g1, g2⟩ := ok.1 he
  have q3 := c69 l fl g.a s2 []
  have w3 : IntKind.wrap .i64 ((g.a : Int) + 1) = ((g.a + 1 : Nat) : Int) := by rw [wrap64] <;> omega
  cases b3 : isS l g.a s2 with
  | false =>
    rw [b3] at q3
    rw [if_pos rfl]
    rcases pk with rfl | ⟨rfl, b2⟩
    · simp [q1, w1, q, he, q3, -Int.natCast_add]
    · rw [b2] at q2
      simp [q1, q2, w1, q, he, q3, -Int.natCast_add]
  | true =>
    rw [b3] at q3
    rw [if_neg (by simp)]
    rcases pk with rfl | ⟨rfl, b2⟩
    · simp [q1, w1, w3, q, he, q3, -Int.natCast_add]
    · rw [b2] at q2
      simp [q1, q2, w1, w3, q, he, q3, -Int.natCast_add]

/-- All expressions. -/
theorem allX (E : Ended l) (hl : l.length ≤ 100000) (n : Nat) : ∀ k, k ≤ n → Hx l fl k := by
  induction n with
  | zero =>
    intro k hk
    have : k = 0 := by omega
    subst this
    exact ⟨fun _ _ _ _ _ _ h => by omega, fun _ _ _ h => by omega, fun _ _ _ h => by omega, fun _ _ _ h => by omega, fun _ _ _ h => by omega, fun _ _ _ _ _ _ h => by omega, fun _ _ _ h => by omega⟩
  | succ n ih =>
    intro k hk
    rcases Nat.lt_or_ge k (n + 1) with h | h
    · exact ih k (by omega)
    · have : k = n + 1 := by omega
      subst this
      have h0 := ih n (by omega)
      exact ⟨fun a lv st h1 h6 ha hn => s153 E hl n ih a lv st h1 h6 ha hn, fun a st ha hn => s161 E hl h0 a st ha hn, fun a st ha hn => s164 E hl n ih a st ha hn, fun a st ha hn => s111 E hl n h0 a st ha hn,
        fun a st ha hn => s140 E hl n h0 a st ha hn, fun a few s1 s2 st ha hn => s154 E n h0 a few s1 s2 st ha hl hn, fun a st ha hn => s163 E hl n ih a st ha hn⟩

/-- An expression. -/
theorem c139 (E : Ended l) (hl : l.length ≤ 100000) (a : Nat) (st : St) (ha : a < l.length) : callD T (ev T) 139 [toksD fl l, .int .i64 a] st = some (.agg (clG (exprP l a)), st) :=
  (allX E hl (fuelE l) (fuelE l) (Nat.le_refl _)).expr a st ha (by unfold fuelE; omega)
theorem c111 (E : Ended l) (hl : l.length ≤ 100000) (a : Nat) (st : St) (ha : a < l.length) : callD T (ev T) 111 [toksD fl l, .int .i64 a] st = some (.agg (clG (atomP l (fuelE l) a)), st) :=
  (allX E hl (fuelE l) (fuelE l) (Nat.le_refl _)).atom a st ha (by unfold fuelE; omega)
theorem c110' (hl : l.length ≤ 100000) (a : Nat) (st : St) (ha : a < l.length) : callD T (ev T) 110 [toksD fl l, .int .i64 a] st = some (.agg (clG (typeP l a)), st) :=
  c110 l fl hl (l.length + 1) a (by omega) (by omega) st
end Go.Nt.Lk

/-
  THE REFERENCE'S PARSER, walked (10): statements' forms; their parts.
  No condition.
-/
set_option linter.unusedSimpArgs false
set_option maxRecDepth 20000
namespace Go.Nt.Lk
open Go Go.Nt

variable {l : List Tok} {fl : Fl}

def itD : It → D
  | .w s => .agg [.str [119, 111, 114, 100], .str s]
  | .g s => .agg [.str [115, 105, 103, 110], .str s]
  | .n => .agg [.str [110, 97, 109, 101], .str []]
  | .e => .agg [.str [101, 120, 112, 114], .str []]
  | .b => .agg [.str [98, 108, 111, 99, 107], .str []]
  | .t => .agg [.str [116, 121, 112, 101], .str []]
  | .el => .agg [.str [101, 108, 115, 101], .str []]
def formD (f : Int × List It) : D := .tup [.int .i64 f.1, .sl 2 true (f.2.map itD)]
theorem formD_pure (f : Int × List It) : (formD f).pureT = true := by
  unfold formD
  have : ∀ its : List It, (its.map itD).all D.pure = true := by
    intro its
    induction its with
    | nil => rfl
    | cons i r ih => cases i <;> simp_all [itD]
  simp [this]
theorem formD_fz (st : St) (f : Int × List It) : fz st (formD f) = some (formD f, st) := by simp [formD, fz, fzL, fz1, fz0]

theorem c155 (E : Ended l) (hl : l.length ≤ 100000) (a : Nat) (ha : a < l.length) (st : St) : callD T (ev T) 155 [toksD fl l, .int .i64 a] st = some (formD (formT l a), st) := by
  refine callD_pureQ (fn := F155) rfl rfl (by simp) (formD_pure _) (fun st => formD_fz st _) ?_
  refine Ret_wp (fn := F155) rfl ?_
  rw [F155]
  have w1 : IntKind.wrap .i64 ((a : Int) + 1) = ((a + 1 : Nat) : Int) := by rw [wrap64] <;> omega
  have w2 : IntKind.wrap .i64 ((a : Int) + 2) = ((a + 2 : Nat) : Int) := by rw [wrap64] <;> omega
  have q0 := now68 l fl (a + 1) []
  have q1 := c64 l fl a [108, 101, 116] []
  have q2 := c69 l fl (a + 2) [58] []
  have q3 := c64 l fl a [105, 102] []
  have q4 := c64 l fl a [119, 104, 105, 108, 101] []
  have q5 := c64 l fl a [102, 111, 114] []
  have q6 := c64 l fl a [112, 114, 105, 110, 116] []
  have q7 := c64 l fl a [114, 101, 116, 117, 114, 110] []
  have q8 := c64 l fl a [100, 111] []
  unfold formT
  cases b1 : isW l a [108, 101, 116] with
  | true =>
    rw [b1] at q1
    rw [if_pos rfl]
    generalize nowT l (a + 1) = t at *
    by_cases hk : t.k = 1
    · cases b2 : isS l (a + 2) [58] with
      | true => rw [b2] at q2; rw [if_pos ⟨hk, rfl⟩]; simp [q1, q0, w1, w2, hk, q2, formD, itD, splice, fillD, -Int.natCast_add]
      | false => rw [b2] at q2; rw [if_neg (by simp)]; simp [q1, q0, w1, w2, hk, q2, formD, itD, splice, fillD, -Int.natCast_add]
    · rw [if_neg (fun c => hk c.1)]; simp [q1, q0, w1, w2, hk, formD, itD, splice, fillD, -Int.natCast_add]
  | false =>
  rw [b1] at q1
  rw [if_neg (by simp)]
  cases b3 : isW l a [105, 102] with
  | true => rw [b3] at q3; rw [if_pos rfl]; simp [q1, q3, formD, itD, splice, fillD]
  | false =>
  rw [b3] at q3
  rw [if_neg (by simp)]
  cases b4 : isW l a [119, 104, 105, 108, 101] with
  | true => rw [b4] at q4; rw [if_pos rfl]; simp [q1, q3, q4, formD, itD, splice, fillD]
  | false =>
  rw [b4] at q4
  rw [if_neg (by simp)]
  cases b5 : isW l a [102, 111, 114] with
  | true => rw [b5] at q5; rw [if_pos rfl]; simp [q1, q3, q4, q5, formD, itD, splice, fillD]
  | false =>
  rw [b5] at q5
  rw [if_neg (by simp)]
  cases b6 : isW l a [112, 114, 105, 110, 116] with
  | true => rw [b6] at q6; rw [if_pos rfl]; simp [q1, q3, q4, q5, q6, formD, itD, splice, fillD]
  | false =>
  rw [b6] at q6
  rw [if_neg (by simp)]
  cases b7 : isW l a [114, 101, 116, 117, 114, 110] with
  | true => rw [b7] at q7; rw [if_pos rfl]; simp [q1, q3, q4, q5, q6, q7, formD, itD, splice, fillD]
  | false =>
  rw [b7] at q7
  rw [if_neg (by simp)]
  cases b8 : isW l a [100, 111] with
  | true => rw [b8] at q8; rw [if_pos rfl]; simp [q1, q3, q4, q5, q6, q7, q8, formD, itD, splice, fillD]
  | false =>
  rw [b8] at q8
  rw [if_neg (by simp)]
  simp [q1, q3, q4, q5, q6, q7, q8, formD, itD, splice, fillD]

/-- What is shown of statements, with so much fuel. -/
structure Hs (l : List Tok) (fl : Fl) (n : Nat) : Prop where
  stmt : ∀ (a : Nat) (st : St), a < l.length → 32 * (l.length - a) + 20 < n → callD T (ev T) 141 [toksD fl l, .int .i64 a] st = some (.agg (clG (stmtP l n a)), st)
  block : ∀ (a : Nat) (st : St), a < l.length → 32 * (l.length - a) + 9 < n → callD T (ev T) 113 [toksD fl l, .int .i64 a] st = some (.agg (clG (blockP l n a)), st)

theorem part (w : List UInt8) (a : Nat) (g : Gt) (st : St) (f : Nat)
    (hw : w = [101, 120, 112, 114] ∧ f = 139 ∨ w = [116, 121, 112, 101] ∧ f = 110 ∨ (¬ w = [101, 120, 112, 114] ∧ ¬ w = [116, 121, 112, 101]) ∧ f = 113)
    (q : callD T (ev T) f [toksD fl l, .int .i64 a] [] = some (.agg (clG g), [])) : callD T (ev T) 156 [toksD fl l, .int .i64 a, .str w] st = some (.agg (clG g), st) := by
  refine callD_pureQ (fn := F156) rfl rfl (by simp) (gotD_pure g.t g.a g.e) (fun st => gotD_fz st g.t g.a g.e) ?_
  refine Ret_wp (fn := F156) rfl ?_
  rw [F156]
  rcases hw with ⟨rfl, rfl⟩ | ⟨rfl, rfl⟩ | ⟨⟨h1, h2⟩, rfl⟩
  · simp [q, splice, fillD]
  · simp [q, splice, fillD]
  · simp [h1, h2, q, splice, fillD]
end Go.Nt.Lk

/-
  THE REFERENCE'S PARSER, walked (11): a statement's items.
  No condition.
-/
set_option linter.unusedSimpArgs false
set_option maxRecDepth 20000
namespace Go.Nt.Lk
open Go Go.Nt

variable {l : List Tok} {fl : Fl}

theorem form_len (its : List It) (st : St) (q : Bool) : lenD st .slice (.sl 2 true (its.map itD)) q = some (.i its.length) := by simp [lenD]
theorem form_idx (its : List It) (i : Nat) (h : i < its.length) : idxAD (.sl 2 true (its.map itD)) i 2 (some 2) none = some (.iptr (itD its[i])) := by
  have : ∃ c d, itD its[i] = .agg [c, d] := by cases its[i] <;> exact ⟨_, _, rfl⟩
  obtain ⟨c, d, e⟩ := this
  simp [idxAD, h, e]

def Q141 (l : List Tok) (a : Nat) (k : Int) (R : Gt) (e : Ex) (s' : List D) (b' : List (Nat × List D)) (st' : St) : Prop :=
  (e = .ret ∧ getB b' 4 = (1, clG R)) ∨ (e = .exit 0 ∧ getB b' 4 = (1, z8) ∧ ∃ to name ps, R = mkG l a to k 0 name .emp ps ∧ get s' 8 = .str name ∧ get s' 9 = .int .i64 to ∧ RawX 6 st' (get s' 7) (encTs ps) ∧ a < to ∧ to < l.length)

theorem l141 (E : Ended l) (hl : l.length ≤ 100000) (N : Nat) (H : ∀ k, k ≤ N → Hs l fl k) (a : Nat) (ha : a < l.length) (kind : Int) (all : List It) (hall : all.length ≤ 10) :
    ∀ (k i to : Nat) (name : List UInt8) (ps : List Tm) (L : D) (s : List D) (bx : List (Nat × List D)) (st : St), k ≤ N + 1 → i ≤ all.length → a ≤ to → (a < to ∨ ∃ x r, all.drop i = x :: r ∧ x ≠ .el) → to < l.length → 32 * (l.length - to) + 9 + (all.length - i) < k →
      RawX 6 st L (encTs ps) → ps.length ≤ i → get s 0 = toksD fl l → get s 1 = .int .i64 a → get s 4 = .lp 4 1 0 → getB bx 4 = (1, z8) → get s 5 = .int .i64 kind → get s 6 = .sl 2 true (all.map itD) → get s 7 = L → get s 8 = .str name → get s 9 = .int .i64 to → get s 10 = .int .i64 i →
    Stops (lp T L141_0 ⟨⟨s, bx⟩, st⟩) fun e s' b' st' => Q141 l a kind (formP l k a kind (all.drop i) to name ps) e s' b' st' := by
  intro k
  induction k with
  | zero => intro i to name ps L s bx st _ _ _ _ _ hm; omega
  | succ k ih =>
    intro i to name ps L s bx st hk hi hat hfirst ht hm R hp g0 g1 g4 b4 g5 g6 g7 g8 g9 g10
    refine Stops_wp L141_0.eq_1 ?_
    have hlen := fun st q => form_len all st q
    obtain ⟨r1, r2, r3, r4⟩ := R.facts
    rcases Nat.lt_or_ge i all.length with hlt | hge
    case inr =>
      have e : i = all.length := by omega
      have ed : all.drop i = [] := List.drop_of_length_le hge
      rw [ed] at hfirst ⊢
      rw [formP]
      have hto : a < to := by
        rcases hfirst with q | ⟨_, _, q, _⟩
        · exact q
        · cases q
      simp [g10, g6, hlen, e, Q141]
      exact ⟨b4, to, name, ps, rfl, by simp [g8], by simp [g9], by simpa [g7] using R, hto, ht⟩
    have hidx := form_idx all i hlt
    have hd := List.drop_eq_getElem_cons hlt
    rw [hd] at hfirst ⊢
    have w1 : IntKind.wrap .i64 ((to : Int) + 1) = ((to + 1 : Nat) : Int) := by rw [wrap64] <;> omega
    have wi : IntKind.wrap .i64 ((i : Int) + 1) = ((i + 1 : Nat) : Int) := by rw [wrap64] <;> omega
    have go : ∀ (to' : Nat) (name' : List UInt8) (ps' : List Tm) (L' : D) (st' : St), a < to' → to' < l.length → (to' = to ∨ to < to') → RawX 6 st' L' (encTs ps') → ps'.length ≤ i + 1 → ∀ (s' : List D) (bx' : List (Nat × List D)),
        get s' 0 = toksD fl l → get s' 1 = .int .i64 a → get s' 4 = .lp 4 1 0 → getB bx' 4 = (1, z8) → get s' 5 = .int .i64 kind → get s' 6 = .sl 2 true (all.map itD) → get s' 7 = L' → get s' 8 = .str name' → get s' 9 = .int .i64 to' → get s' 10 = .int .i64 ((i + 1 : Nat) : Int) →
        Stops (lp T L141_0 ⟨⟨s', bx'⟩, st'⟩) fun e s' b' st' => Q141 l a kind (formP l k a kind (all.drop (i + 1)) to' name' ps') e s' b' st' :=
      fun to' name' ps' L' st' q1 q2 q3 R' hp' s' bx' => ih (i + 1) to' name' ps' L' s' bx' st' (by omega) (by omega) (by omega) (.inl q1) q2 (by omega) R' hp'
    -- a part, at a place
    have via : ∀ (w : List UInt8) (g : Gt) (p : Nat), (p = to ∨ p = to + 1) → callD T (ev T) 156 [toksD fl l, .int .i64 p, .str w] st = some (.agg (clG g), st) → Okg l p g →
        ∃ L' st', appendD st L [encT g.t] 6 = some (L', st') ∧ RawX 6 st' L' (encTs (ps ++ [g.t])) ∧ (g.e = 0 → a < g.a ∧ g.a < l.length ∧ to < g.a) := by
      intro w g p hpt _ ok
      obtain ⟨L', st', a2, R2, _⟩ := rawApp R (by omega) g.t
      exact ⟨L', st', a2, R2, fun he => by have := ok.1 he; omega⟩
    cases hit : all[i] with
    | w x =>
      rw [hit] at hidx
      rw [formP]
      have q := c64 l fl to x st
      cases b1 : isW l to x with
      | false =>
        rw [b1] at q
        rw [if_pos rfl]
        have qb := bad67 to st
        generalize badG to = z at *
        simp [g0, g1, g4, b4, g5, g6, g7, g8, g9, g10, hlen, hlt, hidx, itD, q, qb, splice, fillD, Q141]
      | true =>
        rw [b1] at q
        rw [if_neg (by simp)]
        have nx := go (to + 1) name ps L st (by omega) (E.w b1) (by omega) R (by omega)
        generalize formP l k a kind (all.drop (i + 1)) (to + 1) name ps = G at *
        simp [g0, g1, g4, b4, g5, g6, g7, g8, g9, g10, hlen, hlt, hidx, itD, q, w1, wi, splice, fillD, -Int.natCast_add]
        refine nx _ _ ?_ ?_ ?_ ?_ ?_ ?_ ?_ ?_ ?_ ?_
        iterate 10 simp [g0, g1, g4, b4, g5, g6, g7, g8]
    | g x =>
      rw [hit] at hidx
      rw [formP]
      have q := c69 l fl to x st
      cases b1 : isS l to x with
      | false =>
        rw [b1] at q
        rw [if_pos rfl]
        have qb := bad67 to st
        generalize badG to = z at *
        simp [g0, g1, g4, b4, g5, g6, g7, g8, g9, g10, hlen, hlt, hidx, itD, q, qb, splice, fillD, Q141]
      | true =>
        rw [b1] at q
        rw [if_neg (by simp)]
        have nx := go (to + 1) name ps L st (by omega) (E.s b1) (by omega) R (by omega)
        generalize formP l k a kind (all.drop (i + 1)) (to + 1) name ps = G at *
        simp [g0, g1, g4, b4, g5, g6, g7, g8, g9, g10, hlen, hlt, hidx, itD, q, w1, wi, splice, fillD, -Int.natCast_add]
        refine nx _ _ ?_ ?_ ?_ ?_ ?_ ?_ ?_ ?_ ?_ ?_
        iterate 10 simp [g0, g1, g4, b4, g5, g6, g7, g8]
    | n =>
      rw [hit] at hidx
      rw [formP]
      have q := now68 l fl to st
      have hx := toksD_idx fl l to ht
      have en : nowT l to = l[to] := by simp [nowT, List.getD_eq_getElem?_getD, List.getElem?_eq_getElem ht]
      have e1 : (nowT l to).k = 1 → to + 1 < l.length := fun c => E.n c
      unfold Tok.enc at hx
      rw [← en] at hx
      clear en
      generalize nowT l to = u at *
      by_cases hk : u.k = 1
      case neg =>
        rw [if_pos hk]
        have qb := bad67 to st
        generalize badG to = z at *
        simp [g0, g1, g4, b4, g5, g6, g7, g8, g9, g10, hlen, hlt, hidx, itD, q, hk, qb, splice, fillD, Q141]
      rw [if_neg (fun c => c hk)]
      have nx := go (to + 1) u.s ps L st (by omega) (e1 hk) (by omega) R (by omega)
      generalize formP l k a kind (all.drop (i + 1)) (to + 1) u.s ps = G at *
      simp [g0, g1, g4, b4, g5, g6, g7, g8, g9, g10, hlen, hlt, hidx, itD, q, hk, hx, w1, wi, splice, fillD, -Int.natCast_add]
      refine nx _ _ ?_ ?_ ?_ ?_ ?_ ?_ ?_ ?_ ?_ ?_
      iterate 10 simp [g0, g1, g4, b4, g5, g6, g7, g8]
    | e =>
      rw [hit] at hidx
      rw [formP]
      have q := part (fl := fl) [101, 120, 112, 114] to (exprP l to) st 139 (.inl ⟨rfl, rfl⟩) (c139 E hl to [] ht)
      have ok := exprP_ok E ht
      generalize exprP l to = y at *
      obtain ⟨L2, st2, a2, R2, hy2⟩ := via [101, 120, 112, 114] y to (.inl rfl) q ok
      by_cases hy : y.e = 0
      case neg =>
        rw [if_pos hy]
        simp [g0, g1, g4, b4, g5, g6, g7, g8, g9, g10, hlen, hlt, hidx, itD, q, hy, splice, fillD, Q141]
      rw [if_neg (fun c => c hy)]
      obtain ⟨y1, y2, y3⟩ := hy2 hy
      have nx := go y.a name (ps ++ [y.t]) L2 st2 y1 y2 (.inr y3) R2 (by simp; omega)
      generalize formP l k a kind (all.drop (i + 1)) y.a name (ps ++ [y.t]) = G at *
      simp [g0, g1, g4, b4, g5, g6, g7, g8, g9, g10, hlen, hlt, hidx, itD, q, hy, wi, r1, r2, r3, ← encT_eq, a2, splice, fillD, -Int.natCast_add]
      refine nx _ _ ?_ ?_ ?_ ?_ ?_ ?_ ?_ ?_ ?_ ?_
      iterate 10 simp [g0, g1, g4, b4, g5, g6, g7, g8]
    | t =>
      rw [hit] at hidx
      rw [formP]
      have q := part (fl := fl) [116, 121, 112, 101] to (typeP l to) st 110 (.inr (.inl ⟨rfl, rfl⟩)) (c110' hl to [] ht)
      have ok := typeP_ok E ht
      generalize typeP l to = y at *
      obtain ⟨L2, st2, a2, R2, hy2⟩ := via [116, 121, 112, 101] y to (.inl rfl) q ok
      by_cases hy : y.e = 0
      case neg =>
        rw [if_pos hy]
        simp [g0, g1, g4, b4, g5, g6, g7, g8, g9, g10, hlen, hlt, hidx, itD, q, hy, splice, fillD, Q141]
      rw [if_neg (fun c => c hy)]
      obtain ⟨y1, y2, y3⟩ := hy2 hy
      have nx := go y.a name (ps ++ [y.t]) L2 st2 y1 y2 (.inr y3) R2 (by simp; omega)
      generalize formP l k a kind (all.drop (i + 1)) y.a name (ps ++ [y.t]) = G at *
      simp [g0, g1, g4, b4, g5, g6, g7, g8, g9, g10, hlen, hlt, hidx, itD, q, hy, wi, r1, r2, r3, ← encT_eq, a2, splice, fillD, -Int.natCast_add]
      refine nx _ _ ?_ ?_ ?_ ?_ ?_ ?_ ?_ ?_ ?_ ?_
      iterate 10 simp [g0, g1, g4, b4, g5, g6, g7, g8]
    | b =>
      rw [hit] at hidx
      rw [formP]
      have q := part (fl := fl) [98, 108, 111, 99, 107] to (blockP l k to) st 113 (.inr (.inr ⟨⟨by decide, by decide⟩, rfl⟩)) ((H k (by omega)).block to [] ht (by omega))
      have ok := (stmt_ok E k).2.2.1 to ht
      generalize blockP l k to = y at *
      obtain ⟨L2, st2, a2, R2, hy2⟩ := via [98, 108, 111, 99, 107] y to (.inl rfl) q ok
      by_cases hy : y.e = 0
      case neg =>
        rw [if_pos hy]
        simp [g0, g1, g4, b4, g5, g6, g7, g8, g9, g10, hlen, hlt, hidx, itD, q, hy, splice, fillD, Q141]
      rw [if_neg (fun c => c hy)]
      obtain ⟨y1, y2, y3⟩ := hy2 hy
      have nx := go y.a name (ps ++ [y.t]) L2 st2 y1 y2 (.inr y3) R2 (by simp; omega)
      generalize formP l k a kind (all.drop (i + 1)) y.a name (ps ++ [y.t]) = G at *
      simp [g0, g1, g4, b4, g5, g6, g7, g8, g9, g10, hlen, hlt, hidx, itD, q, hy, wi, r1, r2, r3, ← encT_eq, a2, splice, fillD, -Int.natCast_add]
      refine nx _ _ ?_ ?_ ?_ ?_ ?_ ?_ ?_ ?_ ?_ ?_
      iterate 10 simp [g0, g1, g4, b4, g5, g6, g7, g8]
    | el =>
      rw [hit] at hidx hfirst
      rw [formP]
      have hto : a < to := by
        rcases hfirst with q | ⟨_, _, q, q2⟩
        · exact q
        · cases q; exact absurd rfl q2
      have q := c64 l fl to [101, 108, 115, 101] st
      cases b1 : isW l to [101, 108, 115, 101] with
      | false =>
        rw [b1] at q
        rw [if_pos rfl]
        have hx := toksD_idx fl l (to - 1) (by omega)
        have en : nowT l (to - 1) = l[to - 1] := by simp [nowT, List.getD_eq_getElem?_getD, List.getElem?_eq_getElem (show to - 1 < l.length by omega)]
        unfold Tok.enc at hx
        rw [← en] at hx
        clear en
        have wt : IntKind.wrap .i64 ((to : Int) - 1) = ((to - 1 : Nat) : Int) := by rw [wrap64] <;> omega
        generalize nowT l (to - 1) = u at *
        obtain ⟨L2, st2, a2, R2, _⟩ := rawApp R (by omega) (.mk 29 0 [] .nil [] u.t u.t)
        have ee : encT (.mk 29 0 [] .nil [] u.t u.t) = .agg [.int .i64 29, .int .i64 0, .str [], .nils, .int .i64 u.t, .int .i64 u.t] := by simp [encT, slE]
        rw [ee] at a2
        have nx := go to name (ps ++ [.mk 29 0 [] .nil [] u.t u.t]) L2 st2 hto ht (.inl rfl) R2 (by simp; omega)
        generalize formP l k a kind (all.drop (i + 1)) to name (ps ++ [.mk 29 0 [] .nil [] u.t u.t]) = G at *
        simp [g0, g1, g4, b4, g5, g6, g7, g8, g9, g10, hlen, hlt, hidx, itD, q, hx, wt, wi, r1, r2, r3, a2, splice, fillD, -Int.natCast_add]
        refine nx _ _ ?_ ?_ ?_ ?_ ?_ ?_ ?_ ?_ ?_ ?_
        iterate 10 simp [g0, g1, g4, b4, g5, g6, g7, g8, g9]
      | true =>
        rw [b1] at q
        rw [if_neg (by simp)]
        have ht1 := E.w b1
        have qp := part (fl := fl) [101, 108, 115, 101] (to + 1) (blockP l k (to + 1)) st 113 (.inr (.inr ⟨⟨by decide, by decide⟩, rfl⟩)) ((H k (by omega)).block (to + 1) [] ht1 (by omega))
        have ok := (stmt_ok E k).2.2.1 (to + 1) ht1
        generalize blockP l k (to + 1) = y at *
        obtain ⟨L2, st2, a2, R2, hy2⟩ := via [101, 108, 115, 101] y (to + 1) (.inr rfl) qp ok
        by_cases hy : y.e = 0
        case neg =>
          rw [if_pos hy]
          simp [g0, g1, g4, b4, g5, g6, g7, g8, g9, g10, hlen, hlt, hidx, itD, q, w1, qp, hy, splice, fillD, Q141, -Int.natCast_add]
        rw [if_neg (fun c => c hy)]
        obtain ⟨y1, y2, y3⟩ := hy2 hy
        have nx := go y.a name (ps ++ [y.t]) L2 st2 y1 y2 (.inr y3) R2 (by simp; omega)
        generalize formP l k a kind (all.drop (i + 1)) y.a name (ps ++ [y.t]) = G at *
        simp [g0, g1, g4, b4, g5, g6, g7, g8, g9, g10, hlen, hlt, hidx, itD, q, w1, qp, hy, wi, r1, r2, r3, ← encT_eq, a2, splice, fillD, -Int.natCast_add]
        refine nx _ _ ?_ ?_ ?_ ?_ ?_ ?_ ?_ ?_ ?_ ?_
        iterate 10 simp [g0, g1, g4, b4, g5, g6, g7, g8]
end Go.Nt.Lk

/-
  THE REFERENCE'S PARSER, walked (12): statements, blocks.
  No condition.
-/
set_option linter.unusedSimpArgs false
set_option maxRecDepth 20000
namespace Go.Nt.Lk
open Go Go.Nt

variable {l : List Tok} {fl : Fl}

/-- A term of a row that grew. -/
theorem rawMake {st : St} {L : D} {ps : List Tm} (R : RawX 6 st L (encTs ps)) (fl : Fl) {a to : Nat} (k n : Int) (s : List UInt8) (ha : a < l.length) (ht : 1 ≤ to) (ht2 : to ≤ l.length) (hl : l.length ≤ 100000) :
    ∃ st2, callD T (ev T) 71 [toksD fl l, .int .i64 a, .int .i64 to, .int .i64 k, .int .i64 n, .str s, L] st = some (.agg (clG (mkG l a to k n s .emp ps)), st2) := by
  obtain ⟨st2, f1, _⟩ := R.fz
  have f2 := R.fz1
  rw [f1] at f2
  refine ⟨st2, callD_free (fn := F71) rfl rfl (args' := [toksD fl l, .int .i64 a, .int .i64 to, .int .i64 k, .int .i64 n, .str s, slE 6 .emp (encTs ps)]) ?_ (by simp) (c71 l fl a to k n s .emp ps ha ht ht2 (by omega) st2)⟩
  simp [f2]

theorem s141 (E : Ended l) (hl : l.length ≤ 100000) (N : Nat) (H : ∀ k, k ≤ N → Hs l fl k) (a : Nat) (st : St) (ha : a < l.length) (hn : 32 * (l.length - a) + 20 < N + 1) :
    callD T (ev T) 141 [toksD fl l, .int .i64 a] st = some (.agg (clG (stmtP l (N + 1) a)), st) := by
  refine callD_pureQ (fn := F141) rfl rfl (by simp) (gotD_pure _ _ _) (fun st => gotD_fz st _ _ _) ?_
  refine Ret_wp (fn := F141) rfl ?_
  rw [F141, stmtP]
  have q1 := c69 l fl a [123] []
  cases b1 : isS l a [123] with
  | true =>
    rw [b1] at q1
    rw [if_pos rfl]
    have q := (H N (by omega)).block a [] ha (by omega)
    generalize blockP l N a = z at *
    simp [q1, q, splice, fillD]
  | false =>
  rw [b1] at q1
  rw [if_neg (by simp)]
  have q2 := c155 (fl := fl) E hl a ha []
  have hf := form_mem l a
  have hall : (formT l a).2.length ≤ 7 ∧ ∃ x r, (formT l a).2.drop 0 = x :: r ∧ x ≠ .el := by
    generalize formT l a = f at hf
    simp only [formS, List.mem_cons, List.not_mem_nil, or_false] at hf
    rcases hf with rfl | rfl | rfl | rfl | rfl | rfl | rfl | rfl | rfl
    all_goals exact ⟨by simp, _, _, rfl, fun q => by cases q⟩
  have lo := fun s bx => l141 (fl := fl) E hl N H a ha (formT l a).1 (formT l a).2 (by omega) N 0 a [] [] (.sl 6 true []) s bx [] (by omega) (by omega) (Nat.le_refl _) (.inr hall.2) ha (by omega) (RawX.nil 6 []) (by simp)
  rw [List.drop_zero] at lo
  generalize formT l a = f at *
  obtain ⟨kind, its⟩ := f
  unfold formD at q2
  simp only at q2 lo ⊢
  generalize formP l N a kind its a [] [] = G at *
  simp [q1, q2, splice, fillD]
  refine WL.useB L141_0_p L141_0_w (WB := L141_0.wrB) rfl (lo _ _ ?_ ?_ ?_ ?_ ?_ ?_ ?_ ?_ ?_ ?_) ?_
  iterate 10 simp
  rintro e s' b' st' h hf' hbx
  have e0 := hf' 0 rfl
  have e1 := hf' 1 rfl
  have e4 := hf' 4 rfl
  have e5 := hf' 5 rfl
  simp at e0 e1 e4 e5
  rcases h with ⟨rfl, h4⟩ | ⟨rfl, b4, to, name, ps, rfl, h8, h9, R, o1, o2⟩
  · simp [e4, h4]
  · obtain ⟨st2, m⟩ := rawMake (l := l) R fl (a := a) (to := to) kind 0 name ha (by omega) (by omega) hl
    obtain ⟨r1, r2, r3, r4⟩ := R.facts
    generalize mkG l a to kind 0 name .emp ps = z at *
    simp [e0, e1, e4, e5, b4, h8, h9, r1, m, splice]

def Q113 (l : List Tok) (a : Nat) (R : Gt) (e : Ex) (s' : List D) (b' : List (Nat × List D)) (st' : St) : Prop :=
  (e = .ret ∧ getB b' 4 = (1, clG R)) ∨ (e = .exit 0 ∧ getB b' 4 = (1, z8) ∧ ∃ to ps, R = mkG l a (to + 1) 29 0 [] .emp ps ∧ get s' 6 = .int .i64 to ∧ RawX 6 st' (get s' 5) (encTs ps) ∧ to + 1 < l.length)

theorem l113 (E : Ended l) (hl : l.length ≤ 100000) (N : Nat) (H : ∀ k, k ≤ N → Hs l fl k) (a : Nat) (ha : a < l.length) :
    ∀ (k to : Nat) (ps : List Tm) (L : D) (s : List D) (bx : List (Nat × List D)) (st : St), k ≤ N + 1 → a < to → to < l.length → 32 * (l.length - to) + 21 < k → RawX 6 st L (encTs ps) → ps.length ≤ to →
      get s 0 = toksD fl l → get s 1 = .int .i64 a → get s 4 = .lp 4 1 0 → getB bx 4 = (1, z8) → get s 5 = L → get s 6 = .int .i64 to →
    Stops (lp T L113_0 ⟨⟨s, bx⟩, st⟩) fun e s' b' st' => Q113 l a (blockL l k a to ps) e s' b' st' := by
  intro k
  induction k with
  | zero => intro to ps L s bx st _ _ _ hm; omega
  | succ k ih =>
    intro to ps L s bx st hk hat ht hm R hp g0 g1 g4 b4 g5 g6
    rw [blockL]
    refine Stops_wp L113_0.eq_1 ?_
    have q1 := c69 l fl to [125] st
    cases b1 : isS l to [125] with
    | true =>
      rw [b1] at q1
      rw [if_pos rfl]
      have e1 := E.s b1
      simp [g0, g1, g4, b4, g5, g6, q1, Q113]
      exact ⟨to, ps, rfl, by simp, by first | exact R | simpa [g5] using R, e1⟩
    | false =>
      rw [b1] at q1
      rw [if_neg (by simp)]
      have q := (H k (by omega)).stmt to st ht (by omega)
      have ok := (stmt_ok E k).1 to ht
      generalize stmtP l k to = y at *
      obtain ⟨r1, r2, r3, r4⟩ := R.facts
      by_cases hy : y.e = 0
      case neg =>
        rw [if_pos hy]
        simp [g0, g1, g4, b4, g5, g6, q1, q, hy, splice, fillD, Q113]
      rw [if_neg (fun c => c hy)]
      obtain ⟨y1, y2⟩ := ok.1 hy
      obtain ⟨L2, st2, a2, R2, _⟩ := rawApp R (by omega) y.t
      have nx := fun s' bx' => ih y.a (ps ++ [y.t]) L2 s' bx' st2 (by omega) (by omega) y2 (by omega) R2 (by simp; omega)
      generalize blockL l k a y.a (ps ++ [y.t]) = G at *
      simp [g0, g1, g4, b4, g5, g6, q1, q, hy, r1, r2, r3, ← encT_eq, a2, splice, fillD, -Int.natCast_add]
      refine nx _ _ ?_ ?_ ?_ ?_ ?_ ?_
      iterate 6 simp [g0, g1, g4, b4]

theorem s113 (E : Ended l) (hl : l.length ≤ 100000) (N : Nat) (H : ∀ k, k ≤ N → Hs l fl k) (a : Nat) (st : St) (ha : a < l.length) (hn : 32 * (l.length - a) + 9 < N + 1) :
    callD T (ev T) 113 [toksD fl l, .int .i64 a] st = some (.agg (clG (blockP l (N + 1) a)), st) := by
  refine callD_pureQ (fn := F113) rfl rfl (by simp) (gotD_pure _ _ _) (fun st => gotD_fz st _ _ _) ?_
  refine Ret_wp (fn := F113) rfl ?_
  rw [F113, blockP]
  have q1 := c69 l fl a [123] []
  have w1 : IntKind.wrap .i64 ((a : Int) + 1) = ((a + 1 : Nat) : Int) := by rw [wrap64] <;> omega
  cases b1 : isS l a [123] with
  | false =>
    rw [b1] at q1
    rw [if_pos rfl]
    have qb := bad67 a []
    generalize badG a = z at *
    simp [q1, qb, splice, fillD]
  | true =>
  rw [b1] at q1
  rw [if_neg (by simp)]
  have e1 := E.s b1
  have lo := fun s bx => l113 (fl := fl) E hl N H a ha N (a + 1) [] (.sl 6 true []) s bx [] (by omega) (by omega) e1 (by omega) (RawX.nil 6 []) (by simp)
  generalize blockL l N a (a + 1) [] = G at *
  simp [q1, w1, splice, fillD, -Int.natCast_add]
  refine WL.useB L113_0_p L113_0_w (WB := L113_0.wrB) rfl (lo _ _ ?_ ?_ ?_ ?_ ?_ ?_) ?_
  iterate 6 simp
  rintro e s' b' st' h hf' hbx
  have e0 := hf' 0 rfl
  have e1' := hf' 1 rfl
  have e4 := hf' 4 rfl
  simp at e0 e1' e4
  rcases h with ⟨rfl, h4⟩ | ⟨rfl, b4, to, ps, rfl, h6, R, o2⟩
  · simp [e4, h4]
  · obtain ⟨st2, m⟩ := rawMake (l := l) R fl (a := a) (to := to + 1) 29 0 [] ha (by omega) (by omega) hl
    obtain ⟨r1, r2, r3, r4⟩ := R.facts
    have w3 : IntKind.wrap .i64 ((to : Int) + 1) = ((to + 1 : Nat) : Int) := by rw [wrap64] <;> omega
    generalize mkG l a (to + 1) 29 0 [] .emp ps = z at *
    simp [e0, e1', e4, b4, h6, r1, w3, m, splice, -Int.natCast_add]

/-- All statements. -/
theorem allS (E : Ended l) (hl : l.length ≤ 100000) (n : Nat) : ∀ k, k ≤ n → Hs l fl k := by
  induction n with
  | zero =>
    intro k hk
    have : k = 0 := by omega
    subst this
    exact ⟨fun _ _ _ h => by omega, fun _ _ _ h => by omega⟩
  | succ n ih =>
    intro k hk
    rcases Nat.lt_or_ge k (n + 1) with h | h
    · exact ih k (by omega)
    · have : k = n + 1 := by omega
      subst this
      exact ⟨fun a st ha hn => s141 E hl n ih a st ha hn, fun a st ha hn => s113 E hl n ih a st ha hn⟩

/-- A block. -/
theorem c113 (E : Ended l) (hl : l.length ≤ 100000) (a : Nat) (st : St) (ha : a < l.length) : callD T (ev T) 113 [toksD fl l, .int .i64 a] st = some (.agg (clG (blkP l a)), st) :=
  (allS E hl (fuelS l) (fuelS l) (Nat.le_refl _)).block a st ha (by unfold fuelS; omega)
end Go.Nt.Lk

/-
  THE REFERENCE'S PARSER, walked (13): names with types, fields, parameters.
  No condition.
-/
set_option linter.unusedSimpArgs false
set_option maxRecDepth 20000
namespace Go.Nt.Lk
open Go Go.Nt

variable {l : List Tok} {fl : Fl}

theorem tokAt (l : List Tok) (fl : Fl) (a : Nat) (h : a < l.length) : idxAD (toksD fl l) a 5 (some 5) none = some (.iptr (.agg [.int .i64 (nowT l a).k, .int .i64 (nowT l a).n, .str (nowT l a).s, .int .i64 (nowT l a).f, .int .i64 (nowT l a).t])) := by
  have en : nowT l a = l[a] := by simp [nowT, List.getD_eq_getElem?_getD, List.getElem?_eq_getElem h]
  rw [en]; exact toksD_idx fl l a h

theorem c114 (E : Ended l) (hl : l.length ≤ 100000) (a : Nat) (st : St) (ha : a < l.length) : callD T (ev T) 114 [toksD fl l, .int .i64 a] st = some (.agg (clG (nameP l a)), st) := by
  refine callD_pureQ (fn := F114) rfl rfl (by simp) (gotD_pure _ _ _) (fun st => gotD_fz st _ _ _) ?_
  refine Ret_wp (fn := F114) rfl ?_
  rw [F114]
  have q0 := now68 l fl a []
  have hx := tokAt l fl a ha
  have q1 := c69 l fl (a + 1) [58] []
  have w1 : IntKind.wrap .i64 ((a : Int) + 1) = ((a + 1 : Nat) : Int) := by rw [wrap64] <;> omega
  have w2 : IntKind.wrap .i64 ((a : Int) + 2) = ((a + 2 : Nat) : Int) := by rw [wrap64] <;> omega
  unfold nameP
  have e1 : (nowT l a).k = 1 → a + 1 < l.length := fun c => E.n c
  generalize nowT l a = t at *
  by_cases hk : t.k = 1
  case neg =>
    rw [if_pos hk]
    have qb := bad67 a []
    generalize badG a = z at *
    simp [q0, hk, qb, splice, fillD]
  rw [if_neg (fun c => c hk)]
  cases b1 : isS l (a + 1) [58] with
  | false =>
    rw [b1] at q1
    rw [if_pos rfl]
    have qb := bad67 (a + 1) []
    generalize badG (a + 1) = z at *
    simp [q0, hk, w1, q1, qb, splice, fillD, -Int.natCast_add]
  | true =>
  rw [b1] at q1
  rw [if_neg (by simp)]
  have e2 : a + 2 < l.length := E.s b1
  have q := c110' (fl := fl) hl (a + 2) [] e2
  have ok := typeP_ok E e2
  generalize typeP l (a + 2) = y at *
  by_cases hy : y.e = 0
  case neg =>
    rw [if_pos hy]
    simp [q0, hk, w1, w2, q1, q, hy, splice, fillD, -Int.natCast_add]
  rw [if_neg (fun c => c hy)]
  obtain ⟨y1, y2⟩ := ok.1 hy
  have m := mk1 E fl hl ha (to := y.a) (by omega) (by omega) 34 0 t.s y.t []
  generalize mkG l a y.a 34 0 t.s .full [y.t] = z at *
  simp [q0, hk, w1, w2, q1, q, hy, hx, ← encT_eq, m, splice, fillD, -Int.natCast_add]

def Q70 (l : List Tok) (g : Gl) (e : Ex) (s' : List D) (st' : St) : Prop :=
  (e = .ret ∧ RawX 6 st' (get s' 4) (encTs g.ts) ∧ get s' 5 = .int .i64 g.a ∧ get s' 6 = .int .i64 g.e) ∨ (e = .exit 0 ∧ ∃ p out, g = ⟨out, p + 1, 0⟩ ∧ RawX 6 st' (get s' 7) (encTs out) ∧ get s' 1 = .int .i64 p ∧ p + 1 < l.length)

theorem l70 (E : Ended l) (hl : l.length ≤ 100000) :
    ∀ (k a : Nat) (out : List Tm) (L : D) (s : List D) (bx : List (Nat × List D)) (st : St), a < l.length → l.length - a < k → RawX 6 st L (encTs out) → out.length ≤ a →
      get s 0 = toksD fl l → get s 1 = .int .i64 a → get s 7 = L →
    Stops (lp T L70_0 ⟨⟨s, bx⟩, st⟩) fun e s' _ st' => Q70 l (fieldsP l k a out) e s' st' := by
  intro k
  induction k with
  | zero => intro a out L s bx st _ hm; omega
  | succ k ih =>
    intro a out L s bx st ha hm R ho g0 g1 g7
    rw [fieldsP]
    refine Stops_wp L70_0.eq_1 ?_
    have q1 := c69 l fl a [125] st
    obtain ⟨r1, r2, r3, r4⟩ := R.facts
    rw [encTs_len] at r4
    by_cases hx : out ≠ [] ∧ isS l a [125] = true
    · rw [if_pos hx]
      obtain ⟨h1, b1⟩ := hx
      rw [b1] at q1
      have e1 := E.s b1
      have hn : ¬ ((out.length : Int) = 0) := by have := List.length_pos_iff.2 h1; omega
      simp [g0, g1, g7, r1, r4, h1, q1, Q70]
      exact ⟨a, out, by simp, R, by simp, e1⟩
    rw [if_neg hx]
    have pk : out = [] ∨ out ≠ [] ∧ isS l a [125] = false := by
      by_cases h1 : out = []
      · exact .inl h1
      · refine .inr ⟨h1, ?_⟩
        cases c : isS l a [125] with
        | true => exact absurd ⟨h1, c⟩ hx
        | false => rfl
    have q := c114 (fl := fl) E hl a st ha
    have ok := nameP_ok E ha
    generalize nameP l a = y at *
    by_cases hy : y.e = 0
    case neg =>
      rw [if_pos hy]
      rcases pk with h1 | ⟨h1, b1⟩
      · simp [g0, g1, g7, r1, r2, r3, r4, h1, q, hy, splice, fillD, Q70]
        rw [h1] at R; simpa using R
      · rw [b1] at q1
        simp [g0, g1, g7, r1, r2, r3, r4, h1, q1, q, hy, splice, fillD, Q70]
        exact R
    rw [if_neg (fun c => c hy)]
    obtain ⟨y1, y2⟩ := ok.1 hy
    have q2 := c69 l fl y.a [59] st
    cases b2 : isS l y.a [59] with
    | false =>
      rw [b2] at q2
      rw [if_pos rfl]
      rcases pk with h1 | ⟨h1, b1⟩
      · simp [g0, g1, g7, r1, r2, r3, r4, h1, q, hy, q2, splice, fillD, Q70]
        rw [h1] at R; simpa using R
      · rw [b1] at q1
        simp [g0, g1, g7, r1, r2, r3, r4, h1, q1, q, hy, q2, splice, fillD, Q70]
        exact R
    | true =>
      rw [b2] at q2
      rw [if_neg (by simp)]
      have e2 := E.s b2
      obtain ⟨L2, st2, a2, R2, _⟩ := rawApp R (by omega) y.t
      obtain ⟨t1, t2, t3, t4⟩ := R2.facts
      have w1 : IntKind.wrap .i64 ((y.a : Int) + 1) = ((y.a + 1 : Nat) : Int) := by rw [wrap64] <;> omega
      have nx := fun s' bx' => ih (y.a + 1) (out ++ [y.t]) L2 s' bx' st2 e2 (by omega) R2 (by simp; omega)
      generalize fieldsP l k (y.a + 1) (out ++ [y.t]) = G at *
      rcases pk with h1 | ⟨h1, b1⟩
      · have hz : (out.length : Int) = 0 := by rw [h1]; rfl
        simp [g0, g1, g7, r1, r2, r3, r4, h1, q, hy, q2, ← encT_eq, a2, w1, splice, fillD, -Int.natCast_add]
        refine nx _ _ ?_ ?_ ?_ <;> simp [g0]
      · rw [b1] at q1
        simp [g0, g1, g7, r1, r2, r3, r4, h1, q1, q, hy, q2, ← encT_eq, a2, w1, splice, fillD, -Int.natCast_add]
        refine nx _ _ ?_ ?_ ?_ <;> simp [g0]

theorem c70 (E : Ended l) (hl : l.length ≤ 100000) (a : Nat) (st : St) (ha : a < l.length) : callD T (ev T) 70 [toksD fl l, .int .i64 a] st = some (dL (fieldsP l (l.length + 1) a []), st) := by
  refine callD_pureR (fn := F70) rfl rfl (by simp) (by simp [dL]) ?_
  refine Ret_wp (fn := F70) rfl ?_
  rw [F70]
  have lo := fun s bx => l70 (fl := fl) E hl (l.length + 1) a [] (.sl 6 true []) s bx [] ha (by omega) (RawX.nil 6 []) (by simp)
  unfold dL
  generalize fieldsP l (l.length + 1) a [] = G at *
  simp
  refine WL.use L70_0_p L70_0_w (lo _ _ ?_ ?_ ?_) ?_
  iterate 3 simp
  rintro e s' b' st' h hf
  rcases h with ⟨rfl, R, h5, h6⟩ | ⟨rfl, p, out, rfl, R, h1, e1⟩
  · obtain ⟨r1, r2, r3, r4⟩ := R.facts
    obtain ⟨st2, f1, _⟩ := R.fz
    have f2 := R.fz1
    rw [f1] at f2
    simp [h5, h6, r1, r2, r3, fz, fzL, f2]
  · obtain ⟨r1, r2, r3, r4⟩ := R.facts
    obtain ⟨st2, f1, _⟩ := R.fz
    have f2 := R.fz1
    rw [f1] at f2
    have w1 : IntKind.wrap .i64 ((p : Int) + 1) = ((p + 1 : Nat) : Int) := by rw [wrap64] <;> omega
    simp [h1, w1, r1, r2, r3, fz, fzL, f2, -Int.natCast_add]
end Go.Nt.Lk

/-
  THE REFERENCE'S PARSER, walked (14): parameters.
  No condition.
-/
set_option linter.unusedSimpArgs false
set_option maxRecDepth 20000
namespace Go.Nt.Lk
open Go Go.Nt

variable {l : List Tok} {fl : Fl}

def endP (l : List Tok) (a to : Nat) (out : List Tm) : Gt := if isS l to [41] = false then badG to else mkG l a (to + 1) 35 0 [] .emp out
theorem paramsL_eq (l : List Tok) (n a to : Nat) (out : List Tm) : paramsL l (n + 1) a to out =
    if ¬ (nameP l to).e = 0 then nameP l to else
    if isS l (nameP l to).a [44] = true then paramsL l n a ((nameP l to).a + 1) (out ++ [(nameP l to).t]) else
    endP l a (nameP l to).a (out ++ [(nameP l to).t]) := by rw [paramsL, endP]

def Q112 (l : List Tok) (a : Nat) (g : Gt) (e : Ex) (s' : List D) (b' : List (Nat × List D)) (st' : St) : Prop :=
  (e = .ret ∧ getB b' 4 = (1, clG g)) ∨ (e = .exit 0 ∧ getB b' 4 = (1, z8) ∧ ∃ to out, g = endP l a to out ∧ RawX 6 st' (get s' 5) (encTs out) ∧ get s' 6 = .int .i64 to ∧ a < to ∧ to < l.length)

theorem l112x (s : List D) (bx : List (Nat × List D)) (st : St) (h : get s 7 = .bool false) : Stops (lp T L112_0 ⟨⟨s, bx⟩, st⟩) fun e s' b' st' => e = .exit 0 ∧ s' = put s 22 (.bool false) ∧ b' = bx ∧ st' = st := by
  refine Stops_wp L112_0.eq_1 ?_
  simp [h]

theorem l112 (E : Ended l) (hl : l.length ≤ 100000) (a : Nat) (ha : a < l.length) :
    ∀ (k to : Nat) (out : List Tm) (L : D) (s : List D) (bx : List (Nat × List D)) (st : St), a < to → to < l.length → l.length - to < k → RawX 6 st L (encTs out) → out.length ≤ to →
      get s 0 = toksD fl l → get s 4 = .lp 4 1 0 → getB bx 4 = (1, z8) → get s 5 = L → get s 6 = .int .i64 to → get s 7 = .bool true →
    Stops (lp T L112_0 ⟨⟨s, bx⟩, st⟩) fun e s' b' st' => Q112 l a (paramsL l k a to out) e s' b' st' := by
  intro k
  induction k with
  | zero => intro to out L s bx st _ _ hm; omega
  | succ k ih =>
    intro to out L s bx st hat ht hm R ho g0 g4 b4 g5 g6 g7
    rw [paramsL_eq]
    refine Stops_wp L112_0.eq_1 ?_
    obtain ⟨r1, r2, r3, r4⟩ := R.facts
    have q := c114 (fl := fl) E hl to st ht
    have ok := nameP_ok E ht
    generalize nameP l to = y at *
    by_cases hy : y.e = 0
    case neg =>
      rw [if_pos hy]
      simp [g0, g4, b4, g5, g6, g7, q, hy, splice, fillD, Q112]
    rw [if_neg (fun c => c hy)]
    obtain ⟨y1, y2⟩ := ok.1 hy
    obtain ⟨L2, st2, a2, R2, _⟩ := rawApp R (by omega) y.t
    obtain ⟨t1, t2, t3, t4⟩ := R2.facts
    have q2 := c69 l fl y.a [44] st2
    have w1 : IntKind.wrap .i64 ((y.a : Int) + 1) = ((y.a + 1 : Nat) : Int) := by rw [wrap64] <;> omega
    cases b2 : isS l y.a [44] with
    | true =>
      rw [b2] at q2
      rw [if_pos rfl]
      have e2 := E.s b2
      have nx := fun s' bx' => ih (y.a + 1) (out ++ [y.t]) L2 s' bx' st2 (by omega) e2 (by omega) R2 (by simp; omega)
      generalize paramsL l k a (y.a + 1) (out ++ [y.t]) = G at *
      simp [g0, g4, b4, g5, g6, g7, r1, r2, r3, q, hy, q2, ← encT_eq, a2, w1, splice, fillD, -Int.natCast_add]
      refine nx _ _ ?_ ?_ ?_ ?_ ?_ ?_
      iterate 6 simp [g0, g4, b4]
    | false =>
      rw [b2] at q2
      rw [if_neg (by simp)]
      have nx := fun s' bx' => l112x s' bx' st2
      have nx2 : ∀ s' bx', get s' 7 = .bool false → getB bx' 4 = (1, z8) → get s' 5 = L2 → get s' 6 = .int .i64 y.a → Stops (lp T L112_0 ⟨⟨s', bx'⟩, st2⟩) fun e s' b' st' => Q112 l a (endP l a y.a (out ++ [y.t])) e s' b' st' := by
        intro s' bx' h7 hb h5 h6
        refine Stops.mono (nx s' bx' h7) ?_
        rintro e s2 b' st' ⟨rfl, rfl, rfl, rfl⟩
        unfold Q112
        refine Or.inr ⟨rfl, hb, y.a, out ++ [y.t], rfl, ?_, ?_, by omega, y2⟩
        · simpa [h5] using R2
        · simp [h6]
      generalize hG : Q112 l a (endP l a y.a (out ++ [y.t])) = G at *
      simp [g0, g4, b4, g5, g6, g7, r1, r2, r3, q, hy, q2, ← encT_eq, a2, w1, splice, fillD, -Int.natCast_add]
      refine nx2 _ _ ?_ ?_ ?_ ?_
      iterate 4 simp [b4]

theorem c112 (E : Ended l) (hl : l.length ≤ 100000) (a : Nat) (st : St) (ha : a < l.length) : callD T (ev T) 112 [toksD fl l, .int .i64 a] st = some (.agg (clG (paramsP l a)), st) := by
  refine callD_pureQ (fn := F112) rfl rfl (by simp) (gotD_pure _ _ _) (fun st => gotD_fz st _ _ _) ?_
  refine Ret_wp (fn := F112) rfl ?_
  rw [F112]
  unfold paramsP
  have q1 := c69 l fl a [40] []
  have q2 := c69 l fl (a + 1) [41] []
  have w1 : IntKind.wrap .i64 ((a : Int) + 1) = ((a + 1 : Nat) : Int) := by rw [wrap64] <;> omega
  cases b1 : isS l a [40] with
  | false =>
    rw [b1] at q1
    rw [if_pos rfl]
    have qb := bad67 a []
    generalize badG a = z at *
    simp [q1, qb, splice, fillD]
  | true =>
  rw [b1] at q1
  rw [if_neg (by simp)]
  have e1 := E.s b1
  cases b2 : isS l (a + 1) [41] with
  | true =>
    rw [b2] at q2
    rw [if_pos rfl]
    have e2 : a + 2 < l.length := E.s b2
    have w2 : IntKind.wrap .i64 (((a + 1 : Nat) : Int) + 1) = ((a + 2 : Nat) : Int) := by rw [wrap64] <;> omega
    have m := mk0 E fl hl ha (to := a + 2) (by omega) (by omega) 35 0 [] []
    generalize mkG l a (a + 2) 35 0 [] .emp [] = z at *
    simp [q1, w1, q2, w2, m, splice, fillD, -Int.natCast_add]
  | false =>
  rw [b2] at q2
  rw [if_neg (by simp)]
  have lo := fun s bx => l112 (fl := fl) E hl a ha (l.length + 1) (a + 1) [] (.sl 6 true []) s bx [] (by omega) e1 (by omega) (RawX.nil 6 []) (by simp)
  generalize paramsL l (l.length + 1) a (a + 1) [] = G at *
  simp [q1, w1, q2, splice, fillD, -Int.natCast_add]
  refine WL.useB L112_0_p L112_0_w (WB := L112_0.wrB) rfl (lo _ _ ?_ ?_ ?_ ?_ ?_ ?_) ?_
  iterate 6 simp
  rintro e s' b' st' h hf hbx
  have e0 := hf 0 rfl
  have e1' := hf 1 rfl
  have e4 := hf 4 rfl
  simp at e0 e1' e4
  rcases h with ⟨rfl, h4⟩ | ⟨rfl, b4, to, out, rfl, R, h6, o1, o2⟩
  · simp [e4, h4]
  · obtain ⟨r1, r2, r3, r4⟩ := R.facts
    unfold endP
    have q3 := c69 l fl to [41] st'
    cases b3 : isS l to [41] with
    | false =>
      rw [b3] at q3
      rw [if_pos rfl]
      have qb := bad67 to st'
      generalize badG to = z at *
      simp [e0, e1', e4, b4, h6, q3, qb, splice, fillD]
    | true =>
      rw [b3] at q3
      rw [if_neg (by simp)]
      have e3 := E.s b3
      have w3 : IntKind.wrap .i64 ((to : Int) + 1) = ((to + 1 : Nat) : Int) := by rw [wrap64] <;> omega
      obtain ⟨st2, m⟩ := rawMake (l := l) R fl (a := a) (to := to + 1) 35 0 [] ha (by omega) (by omega) hl
      generalize mkG l a (to + 1) 35 0 [] .emp out = z at *
      simp [e0, e1', e4, b4, h6, q3, r1, w3, m, splice, fillD, -Int.natCast_add]
end Go.Nt.Lk

/-
  THE REFERENCE'S PARSER, walked (15): functions, constants and globals.
  No condition.
-/
set_option linter.unusedSimpArgs false
set_option maxRecDepth 20000
namespace Go.Nt.Lk
open Go Go.Nt

variable {l : List Tok} {fl : Fl}

theorem mk3 (fl : Fl) (hl : l.length ≤ 100000) {fr to : Nat} (hf : fr < l.length) (ht : 1 ≤ to) (ht2 : to ≤ l.length) (k n : Int) (s : List UInt8) (x y z : Tm) (st : St) :
    callD T (ev T) 71 [toksD fl l, .int .i64 fr, .int .i64 to, .int .i64 k, .int .i64 n, .str s, .sl 6 true [encT x, encT y, encT z]] st = some (.agg (clG (mkG l fr to k n s .full [x, y, z])), st) :=
  c71 l fl fr to k n s .full [x, y, z] hf ht ht2 (by omega) st

theorem c66 (E : Ended l) (hl : l.length ≤ 100000) (first a : Nat) (pub : Int) (st : St) (hfa : first ≤ a) (ha : a < l.length) : callD T (ev T) 66 [toksD fl l, .int .i64 first, .int .i64 a, .int .i64 pub] st = some (.agg (clG (fnP l first a pub)), st) := by
  refine callD_pureQ (fn := F66) rfl rfl (by simp) (gotD_pure _ _ _) (fun st => gotD_fz st _ _ _) ?_
  refine Ret_wp (fn := F66) rfl ?_
  rw [F66]
  unfold fnP
  have q1 := c64 l fl a [102, 110] []
  have q0 := now68 l fl (a + 1) []
  have w1 : IntKind.wrap .i64 ((a : Int) + 1) = ((a + 1 : Nat) : Int) := by rw [wrap64] <;> omega
  have w2 : IntKind.wrap .i64 ((a : Int) + 2) = ((a + 2 : Nat) : Int) := by rw [wrap64] <;> omega
  cases b1 : isW l a [102, 110] with
  | false =>
    rw [b1] at q1
    rw [if_pos rfl]
    have qb := bad67 a []
    generalize badG a = z at *
    simp [q1, qb, splice, fillD]
  | true =>
  rw [b1] at q1
  rw [if_neg (by simp)]
  have e1 := E.w b1
  have hx := tokAt l fl (a + 1) e1
  have e2 : (nowT l (a + 1)).k = 1 → a + 2 < l.length := fun c => E.n c
  generalize nowT l (a + 1) = t at *
  by_cases hk : t.k = 1
  case neg =>
    rw [if_pos hk]
    have qb := bad67 (a + 1) []
    generalize badG (a + 1) = z at *
    simp [q1, q0, hk, w1, qb, splice, fillD, -Int.natCast_add]
  rw [if_neg (fun c => c hk)]
  have e2 := e2 hk
  have qp := c112 (fl := fl) E hl (a + 2) [] e2
  have okp := paramsP_ok E e2
  generalize paramsP l (a + 2) = p at *
  by_cases hp : p.e = 0
  case neg =>
    rw [if_pos hp]
    simp [q1, q0, hk, w1, w2, qp, hp, splice, fillD, -Int.natCast_add]
  rw [if_neg (fun c => c hp)]
  obtain ⟨p1, p2⟩ := okp.1 hp
  have q3 := c69 l fl p.a [58] []
  have w3 : IntKind.wrap .i64 ((p.a : Int) + 1) = ((p.a + 1 : Nat) : Int) := by rw [wrap64] <;> omega
  cases b3 : isS l p.a [58] with
  | false =>
    rw [b3] at q3
    rw [if_pos rfl]
    have qb := bad67 p.a []
    generalize badG p.a = z at *
    simp [q1, q0, hk, w1, w2, qp, hp, q3, qb, splice, fillD, -Int.natCast_add]
  | true =>
  rw [b3] at q3
  rw [if_neg (by simp)]
  have e3 := E.s b3
  have qt := c110' (fl := fl) hl (p.a + 1) [] e3
  have okt := typeP_ok E e3
  generalize typeP l (p.a + 1) = x at *
  by_cases hx' : x.e = 0
  case neg =>
    rw [if_pos hx']
    simp [q1, q0, hk, w1, w2, w3, qp, hp, q3, qt, hx', splice, fillD, -Int.natCast_add]
  rw [if_neg (fun c => c hx')]
  obtain ⟨x1, x2⟩ := okt.1 hx'
  have qb := c113 (fl := fl) E hl x.a [] x2
  have okb : Okg l x.a (blkP l x.a) := (stmt_ok E _).2.2.1 x.a x2
  generalize blkP l x.a = b at *
  by_cases hb : b.e = 0
  case neg =>
    rw [if_pos hb]
    simp [q1, q0, hk, w1, w2, w3, qp, hp, q3, qt, hx', qb, hb, splice, fillD, -Int.natCast_add]
  rw [if_neg (fun c => c hb)]
  obtain ⟨b1', b2'⟩ := okb.1 hb
  have m := mk3 fl hl (fr := first) (to := b.a) (by omega) (by omega) (by omega) 33 pub t.s p.t x.t b.t []
  generalize mkG l first b.a 33 pub t.s .full [p.t, x.t, b.t] = z at *
  simp [q1, q0, hk, w1, w2, w3, qp, hp, q3, qt, hx', qb, hb, hx, ← encT_eq, m, splice, fillD, -Int.natCast_add]

theorem c65 (E : Ended l) (hl : l.length ≤ 100000) (a : Nat) (st : St) (ha : a + 1 < l.length) : callD T (ev T) 65 [toksD fl l, .int .i64 a] st = some (.agg (clG (shortP l a)), st) := by
  refine callD_pureQ (fn := F65) rfl rfl (by simp) (gotD_pure _ _ _) (fun st => gotD_fz st _ _ _) ?_
  refine Ret_wp (fn := F65) rfl ?_
  rw [F65]
  unfold shortP
  have q0 := now68 l fl (a + 1) []
  have hx := tokAt l fl (a + 1) ha
  have w1 : IntKind.wrap .i64 ((a : Int) + 1) = ((a + 1 : Nat) : Int) := by rw [wrap64] <;> omega
  have w2 : IntKind.wrap .i64 ((a : Int) + 2) = ((a + 2 : Nat) : Int) := by rw [wrap64] <;> omega
  have w3 : IntKind.wrap .i64 ((a : Int) + 3) = ((a + 3 : Nat) : Int) := by rw [wrap64] <;> omega
  have q1 := c64 l fl a [99, 111, 110, 115, 116] []
  have e2 : (nowT l (a + 1)).k = 1 → a + 2 < l.length := fun c => E.n c
  generalize nowT l (a + 1) = t at *
  by_cases hk : t.k = 1
  case neg =>
    rw [if_pos hk]
    have qb := bad67 (a + 1) []
    generalize badG (a + 1) = z at *
    simp [q0, hk, w1, qb, splice, fillD, -Int.natCast_add]
  rw [if_neg (fun c => c hk)]
  have e2 := e2 hk
  have hX := fun e3 => shortX_ok (l := l) (a := a) E e3
  unfold shortX at hX ⊢
  cases b1 : isW l a [99, 111, 110, 115, 116] with
  | true =>
    rw [b1] at q1
    rw [b1] at hX
    simp only [if_true] at hX ⊢
    have q2 := c69 l fl (a + 2) [61] []
    cases b2 : isS l (a + 2) [61] with
    | false =>
      rw [b2] at q2
      rw [if_pos rfl]
      have qb := bad67 (a + 2) []
      generalize badG (a + 2) = z at *
      simp [q0, hk, w1, w2, q1, q2, qb, splice, fillD, -Int.natCast_add]
    | true =>
    rw [b2] at q2
    rw [if_neg (by simp)]
    have e3 : a + 3 < l.length := E.s b2
    have ok := hX e3
    clear hX
    have q3 := now68 l fl (a + 3) []
    have q4 := c64 l fl (a + 3) [116, 114, 117, 101] []
    have q5 := c64 l fl (a + 3) [102, 97, 108, 115, 101] []
    have q6 := c111 (fl := fl) E hl (a + 3) [] e3
    have q7 := bad67 (a + 3) []
    generalize nowT l (a + 3) = u at *
    by_cases hu : u.k = 2
    · have eX : (if (u.k = 2 ∨ isW l (a + 3) [116, 114, 117, 101] = true ∨ isW l (a + 3) [102, 97, 108, 115, 101] = true) then atomP l (fuelE l) (a + 3) else badG (a + 3)) = atomP l (fuelE l) (a + 3) := if_pos (.inl hu)
      rw [eX] at ok ⊢
      generalize atomP l (fuelE l) (a + 3) = y at *
      by_cases hy : y.e = 0
      case neg =>
        rw [if_pos hy]
        simp [q0, hk, w1, w2, w3, q1, q2, q3, hu, q6, hy, splice, fillD, -Int.natCast_add]
      rw [if_neg (fun c => c hy)]
      obtain ⟨y1, y2⟩ := ok.1 hy
      have q8 := c69 l fl y.a [59] []
      have w8 : IntKind.wrap .i64 ((y.a : Int) + 1) = ((y.a + 1 : Nat) : Int) := by rw [wrap64] <;> omega
      cases b8 : isS l y.a [59] with
      | false =>
        rw [b8] at q8
        rw [if_pos rfl]
        have qb := bad67 y.a []
        generalize badG y.a = z at *
        simp [q0, hk, w1, w2, w3, q1, q2, q3, hu, q6, hy, q8, qb, splice, fillD, -Int.natCast_add]
      | true =>
        rw [b8] at q8
        rw [if_neg (by simp)]
        have e8 := E.s b8
        have m := mk1 E fl hl (show a < l.length by omega) (to := y.a + 1) (by omega) (by omega) 31 0 t.s y.t []
        generalize mkG l a (y.a + 1) 31 0 t.s .full [y.t] = z at *
        simp [q0, hk, w1, w2, w3, q1, q2, q3, hu, q6, hy, q8, w8, hx, ← encT_eq, m, splice, fillD, -Int.natCast_add]
    · rcases Bool.eq_false_or_eq_true (isW l (a + 3) [116, 114, 117, 101]) with b4 | b4
      ·
        have eX : (if (u.k = 2 ∨ isW l (a + 3) [116, 114, 117, 101] = true ∨ isW l (a + 3) [102, 97, 108, 115, 101] = true) then atomP l (fuelE l) (a + 3) else badG (a + 3)) = atomP l (fuelE l) (a + 3) := if_pos (.inr (.inl b4))
        rw [eX] at ok ⊢
        rw [b4] at q4
        generalize atomP l (fuelE l) (a + 3) = y at *
        by_cases hy : y.e = 0
        case neg =>
          rw [if_pos hy]
          simp [q0, hk, w1, w2, w3, q1, q2, q3, hu, q4, q6, hy, splice, fillD, -Int.natCast_add]
        rw [if_neg (fun c => c hy)]
        obtain ⟨y1, y2⟩ := ok.1 hy
        have q8 := c69 l fl y.a [59] []
        have w8 : IntKind.wrap .i64 ((y.a : Int) + 1) = ((y.a + 1 : Nat) : Int) := by rw [wrap64] <;> omega
        cases b8 : isS l y.a [59] with
        | false =>
          rw [b8] at q8
          rw [if_pos rfl]
          have qb := bad67 y.a []
          generalize badG y.a = z at *
          simp [q0, hk, w1, w2, w3, q1, q2, q3, hu, q4, q6, hy, q8, qb, splice, fillD, -Int.natCast_add]
        | true =>
          rw [b8] at q8
          rw [if_neg (by simp)]
          have e8 := E.s b8
          have m := mk1 E fl hl (show a < l.length by omega) (to := y.a + 1) (by omega) (by omega) 31 0 t.s y.t []
          generalize mkG l a (y.a + 1) 31 0 t.s .full [y.t] = z at *
          simp [q0, hk, w1, w2, w3, q1, q2, q3, hu, q4, q6, hy, q8, w8, hx, ← encT_eq, m, splice, fillD, -Int.natCast_add]
      ·
        rw [b4] at q4
        rcases Bool.eq_false_or_eq_true (isW l (a + 3) [102, 97, 108, 115, 101]) with b5 | b5
        ·
          have eX : (if (u.k = 2 ∨ isW l (a + 3) [116, 114, 117, 101] = true ∨ isW l (a + 3) [102, 97, 108, 115, 101] = true) then atomP l (fuelE l) (a + 3) else badG (a + 3)) = atomP l (fuelE l) (a + 3) := if_pos (.inr (.inr b5))
          rw [eX] at ok ⊢
          rw [b5] at q5
          generalize atomP l (fuelE l) (a + 3) = y at *
          by_cases hy : y.e = 0
          case neg =>
            rw [if_pos hy]
            simp [q0, hk, w1, w2, w3, q1, q2, q3, hu, q4, q5, q6, hy, splice, fillD, -Int.natCast_add]
          rw [if_neg (fun c => c hy)]
          obtain ⟨y1, y2⟩ := ok.1 hy
          have q8 := c69 l fl y.a [59] []
          have w8 : IntKind.wrap .i64 ((y.a : Int) + 1) = ((y.a + 1 : Nat) : Int) := by rw [wrap64] <;> omega
          cases b8 : isS l y.a [59] with
          | false =>
            rw [b8] at q8
            rw [if_pos rfl]
            have qb := bad67 y.a []
            generalize badG y.a = z at *
            simp [q0, hk, w1, w2, w3, q1, q2, q3, hu, q4, q5, q6, hy, q8, qb, splice, fillD, -Int.natCast_add]
          | true =>
            rw [b8] at q8
            rw [if_neg (by simp)]
            have e8 := E.s b8
            have m := mk1 E fl hl (show a < l.length by omega) (to := y.a + 1) (by omega) (by omega) 31 0 t.s y.t []
            generalize mkG l a (y.a + 1) 31 0 t.s .full [y.t] = z at *
            simp [q0, hk, w1, w2, w3, q1, q2, q3, hu, q4, q5, q6, hy, q8, w8, hx, ← encT_eq, m, splice, fillD, -Int.natCast_add]
        ·
          rw [b5] at q5
          have eX : (if (u.k = 2 ∨ isW l (a + 3) [116, 114, 117, 101] = true ∨ isW l (a + 3) [102, 97, 108, 115, 101] = true) then atomP l (fuelE l) (a + 3) else badG (a + 3)) = badG (a + 3) := if_neg (by
            rintro (c | c | c)
            · exact hu c
            · rw [b4] at c; cases c
            · rw [b5] at c; cases c)
          rw [eX]
          have hb6 : ¬ (badG (a + 3)).e = 0 := fun c => by cases c
          clear ok
          generalize badG (a + 3) = z at *
          rw [if_pos hb6]
          simp [q0, hk, w1, w2, w3, q1, q2, q3, hu, q4, q5, q7, hb6, splice, fillD, -Int.natCast_add]
  | false =>
    rw [b1] at q1
    rw [b1] at hX
    simp only [Bool.false_eq_true, if_false] at hX ⊢
    have q2 := c69 l fl (a + 2) [58] []
    cases b2 : isS l (a + 2) [58] with
    | false =>
      rw [b2] at q2
      rw [if_pos rfl]
      have qb := bad67 (a + 2) []
      generalize badG (a + 2) = z at *
      simp [q0, hk, w1, w2, q1, q2, qb, splice, fillD, -Int.natCast_add]
    | true =>
    rw [b2] at q2
    rw [if_neg (by simp)]
    have e3 : a + 3 < l.length := E.s b2
    have ok := hX e3
    clear hX
    have q := c110' (fl := fl) hl (a + 3) [] e3
    generalize typeP l (a + 3) = y at *
    by_cases hy : y.e = 0
    case neg =>
      rw [if_pos hy]
      simp [q0, hk, w1, w2, w3, q1, q2, q, hy, splice, fillD, -Int.natCast_add]
    rw [if_neg (fun c => c hy)]
    obtain ⟨y1, y2⟩ := ok.1 hy
    have q8 := c69 l fl y.a [59] []
    have w8 : IntKind.wrap .i64 ((y.a : Int) + 1) = ((y.a + 1 : Nat) : Int) := by rw [wrap64] <;> omega
    cases b8 : isS l y.a [59] with
    | false =>
      rw [b8] at q8
      rw [if_pos rfl]
      have qb := bad67 y.a []
      generalize badG y.a = z at *
      simp [q0, hk, w1, w2, w3, q1, q2, q, hy, q8, qb, splice, fillD, -Int.natCast_add]
    | true =>
      rw [b8] at q8
      rw [if_neg (by simp)]
      have e8 := E.s b8
      have m := mk1 E fl hl (show a < l.length by omega) (to := y.a + 1) (by omega) (by omega) 32 0 t.s y.t []
      generalize mkG l a (y.a + 1) 32 0 t.s .full [y.t] = z at *
      simp [q0, hk, w1, w2, w3, q1, q2, q, hy, q8, w8, hx, ← encT_eq, m, splice, fillD, -Int.natCast_add]
end Go.Nt.Lk

/-
  THE REFERENCE'S PARSER, walked (16): declarations.
  No condition.
-/
set_option linter.unusedSimpArgs false
set_option maxRecDepth 20000
namespace Go.Nt.Lk
open Go Go.Nt

variable {l : List Tok} {fl : Fl}

theorem c35 (E : Ended l) (hl : l.length ≤ 100000) (a : Nat) (st : St) (ha : a < l.length) : callD T (ev T) 35 [toksD fl l, .int .i64 a] st = some (.agg (clG (declP l a)), st) := by
  refine callD_pureQ (fn := F35) rfl rfl (by simp) (gotD_pure _ _ _) (fun st => gotD_fz st _ _ _) ?_
  refine Ret_wp (fn := F35) rfl ?_
  rw [F35]
  unfold declP
  have q1 := c64 l fl a [99, 111, 110, 115, 116] []
  have q2 := c64 l fl a [118, 97, 114] []
  have q3 := c64 l fl a [112, 117, 98] []
  have q4 := c64 l fl a [102, 110] []
  have q5 := c64 l fl a [114, 101, 99] []
  have w1 : IntKind.wrap .i64 ((a : Int) + 1) = ((a + 1 : Nat) : Int) := by rw [wrap64] <;> omega
  have w2 : IntKind.wrap .i64 ((a : Int) + 2) = ((a + 2 : Nat) : Int) := by rw [wrap64] <;> omega
  have w3 : IntKind.wrap .i64 ((a : Int) + 3) = ((a + 3 : Nat) : Int) := by rw [wrap64] <;> omega
  by_cases h1 : isW l a [99, 111, 110, 115, 116] = true ∨ isW l a [118, 97, 114] = true
  · rw [if_pos h1]
    have e1 : a + 1 < l.length := h1.elim (fun c => E.w c) (fun c => E.w c)
    have q := c65 (fl := fl) E hl a [] e1
    generalize shortP l a = z at *
    rcases Bool.eq_false_or_eq_true (isW l a [99, 111, 110, 115, 116]) with b1 | b1
    · rw [b1] at q1
      simp [q1, q, splice, fillD]
    · rw [b1] at q1 h1
      have b2 := h1.resolve_left (by simp)
      rw [b2] at q2
      simp [q1, q2, q, splice, fillD]
  rw [if_neg h1]
  have b1 : isW l a [99, 111, 110, 115, 116] = false := by
    cases c : isW l a [99, 111, 110, 115, 116] with
    | true => exact absurd (.inl c) h1
    | false => rfl
  have b2 : isW l a [118, 97, 114] = false := by
    cases c : isW l a [118, 97, 114] with
    | true => exact absurd (.inr c) h1
    | false => rfl
  rw [b1] at q1
  rw [b2] at q2
  rcases Bool.eq_false_or_eq_true (isW l a [112, 117, 98]) with b3 | b3
  · rw [if_pos b3]
    rw [b3] at q3
    have e1 := E.w b3
    have q := c66 (fl := fl) E hl a (a + 1) 1 [] (by omega) e1
    generalize fnP l a (a + 1) 1 = z at *
    simp [q1, q2, q3, w1, q, splice, fillD, -Int.natCast_add]
  rw [if_neg (by rw [b3]; simp)]
  rw [b3] at q3
  rcases Bool.eq_false_or_eq_true (isW l a [102, 110]) with b4 | b4
  · rw [if_pos b4]
    rw [b4] at q4
    have q := c66 (fl := fl) E hl a a 0 [] (by omega) ha
    generalize fnP l a a 0 = z at *
    simp [q1, q2, q3, q4, q, splice, fillD]
  rw [if_neg (by rw [b4]; simp)]
  rw [b4] at q4
  rcases Bool.eq_false_or_eq_true (isW l a [114, 101, 99]) with b5 | b5
  case inr =>
    rw [if_pos b5]
    rw [b5] at q5
    have qb := bad67 a []
    generalize badG a = z at *
    simp [q1, q2, q3, q4, q5, qb, splice, fillD]
  rw [if_neg (by rw [b5]; simp)]
  rw [b5] at q5
  have e1 := E.w b5
  have q0 := now68 l fl (a + 1) []
  have hx := tokAt l fl (a + 1) e1
  have e2 : (nowT l (a + 1)).k = 1 → a + 2 < l.length := fun c => E.n c
  generalize nowT l (a + 1) = t at *
  by_cases hk : t.k = 1
  case neg =>
    rw [if_pos hk]
    have qb := bad67 (a + 1) []
    generalize badG (a + 1) = z at *
    simp [q1, q2, q3, q4, q5, q0, hk, w1, qb, splice, fillD, -Int.natCast_add]
  rw [if_neg (fun c => c hk)]
  have e2 := e2 hk
  have q6 := c69 l fl (a + 2) [123] []
  rcases Bool.eq_false_or_eq_true (isS l (a + 2) [123]) with b6 | b6
  case inr =>
    rw [if_pos b6]
    rw [b6] at q6
    have qb := bad67 (a + 2) []
    generalize badG (a + 2) = z at *
    simp [q1, q2, q3, q4, q5, q0, hk, w1, w2, q6, qb, splice, fillD, -Int.natCast_add]
  rw [if_neg (by rw [b6]; simp)]
  rw [b6] at q6
  have e3 : a + 3 < l.length := E.s b6
  have q7 := c70 (fl := fl) E hl (a + 3) [] e3
  have ok := fieldsP_ok E (l.length + 1) (a + 3) [] e3
  generalize fieldsP l (l.length + 1) (a + 3) [] = g at *
  unfold dL at q7
  by_cases hg : g.e = 0
  case neg =>
    rw [if_pos hg, clG_err]
    simp [q1, q2, q3, q4, q5, q0, hk, w1, w2, w3, q6, q7, hg, splice, fillD, -Int.natCast_add]
  rw [if_neg (fun c => c hg)]
  obtain ⟨g1, g2⟩ := ok.1 hg
  have m := c71 l fl a g.a 30 0 t.s .emp g.ts ha (by omega) (by omega) (by omega) []
  change _ = some (Gt.d (mkG l a g.a 30 0 t.s .emp g.ts), []) at m
  rw [Gt.d_eq] at m
  generalize mkG l a g.a 30 0 t.s .emp g.ts = z at *
  simp [q1, q2, q3, q4, q5, q0, hk, w1, w2, w3, q6, q7, hg, hx, m, splice, fillD, -Int.natCast_add]
end Go.Nt.Lk
