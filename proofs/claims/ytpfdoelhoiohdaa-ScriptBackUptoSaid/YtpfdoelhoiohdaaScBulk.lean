/-
  LINES, plainly: the reference reads what the program reads; scripts likewise.
  No condition.
-/
import Derived.Test.YtpfdoelhoiohdaaScLaw2
set_option linter.unusedSimpArgs false
namespace Go.Nt.Lk
open Go Go.Nt

theorem textQ_inv {x : List UInt8} (h : (textQ x).2 = true) : x = 32 :: quo (textQ x).1 := by
  unfold textQ at h ⊢
  split at h
  · rename_i h32
    rw [if_pos h32]
    cases hq : quoted x 1 with
    | none => rw [hq] at h; cases h
    | some p =>
      rw [hq] at h
      simp only [decide_eq_true_eq] at h ⊢
      obtain ⟨R, h1, h2⟩ := quoted_inv (t := p.1) (b := p.2) hq
      cases x with
      | nil => cases h32
      | cons c t =>
        cases h32
        have h3 : t = quo p.1 ++ R := h1
        rw [h, List.length_cons, h3, List.length_append] at h2
        have : R = [] := List.length_eq_zero_iff.1 (by omega)
        rw [this, List.append_nil] at h3
        rw [h3]
  · cases h
theorem textQ_of (t : List UInt8) : textQ (32 :: quo t) = (t, true) := by
  have h : (32 :: quo t).drop 1 = quo t ++ [] := by simp
  have hq := quoted_quo h
  unfold textQ
  rw [if_pos (by rfl), hq]
  simp; omega

theorem take0 (s : List UInt8) (b : Nat) : s = s.take b ++ s.drop b := by simp

theorem drop_tw (p : UInt8 → Bool) : ∀ l : List UInt8, l.drop (l.takeWhile p).length = l.dropWhile p
  | [] => rfl
  | c :: l => by
    by_cases h : p c = true
    · rw [List.takeWhile_cons_of_pos h, List.dropWhile_cons_of_pos h, List.length_cons, List.drop_succ_cons, drop_tw p l]
    · rw [List.takeWhile_cons_of_neg h, List.dropWhile_cons_of_neg h]; rfl
theorem dw_head (p : UInt8 → Bool) : ∀ (l : List UInt8) (c : UInt8) (r : List UInt8), l.dropWhile p = c :: r → p c = false
  | [], c, r, h => by cases h
  | x :: l, c, r, h => by
    by_cases hp : p x = true
    · rw [List.dropWhile_cons_of_pos hp] at h; exact dw_head p l c r h
    · rw [List.dropWhile_cons_of_neg hp] at h; cases h; simpa using hp
theorem runEnd_not {p : UInt8 → Bool} {s : List UInt8} {a : Nat} (h : runEnd p s a < s.length) : p (s[runEnd p s a]'h) = false := by
  have h2 : s.drop (runEnd p s a) = (s.drop a).dropWhile p := by rw [runEnd_tw, ← List.drop_drop, drop_tw]
  rw [List.drop_eq_getElem_cons h] at h2
  exact dw_head p _ _ _ h2.symm

/-- C: what the reference reads. -/
theorem opQ_inv {s : List UInt8} {o : Opr} (h : opQ s = some o) : Good o ∧ s = lineT o := by
  have hs := take0 s (runEnd nbB s 0)
  have hb : runEnd nbB s 0 < s.length → s[runEnd nbB s 0]? = some 32 := fun hlt => by
    have h4 := runEnd_not hlt
    rw [List.getElem?_eq_getElem hlt]
    generalize s[runEnd nbB s 0] = x at *
    unfold nbB at h4
    rw [Bool.not_eq_false', decide_eq_true_eq] at h4
    congr 1
    exact UInt8.toNat_inj.1 (by simp only [ch] at h4; have : (32 : UInt8).toNat = 32 := rfl; omega)
  unfold opQ at h
  generalize hbb : runEnd nbB s 0 = b at *
  generalize hw : s.take b = w at *
  have hT := fun h => textQ_inv (x := s.drop b) h
  generalize textQ (s.drop b) = x at *
  by_cases hk : ¬ kind4 s [4, 6, 8, 9] = 0
  · rw [if_pos hk] at h
    cases h
    obtain ⟨k1, k2⟩ := kind4_inv hk
    refine ⟨.word _ k1, ?_⟩
    have e2 : ∀ k : Int, (k = 4 ∨ k = 6 ∨ k = 8 ∨ k = 9) → lineT ⟨k, [], rq0, 0⟩ = wWord k := by
      rintro k (rfl | rfl | rfl | rfl) <;> rfl
    rw [e2 _ k1, ← k2]
  rw [if_neg hk] at h
  split at h
  · rename_i e
    cases h
    exact ⟨.check [], by rw [e]; rfl⟩
  split at h
  · rename_i e
    obtain ⟨q, h1, rfl, h2⟩ := refQ_inv h
    refine ⟨.refactor q h1, ?_⟩
    rw [hs, e, h2]; rfl
  split at h
  · rename_i e
    rw [Option.map_eq_some_iff] at h
    obtain ⟨n, hn, rfl⟩ := h
    obtain ⟨n1, n2, n3⟩ := (numQ_iff _ n).1 hn
    refine ⟨.crash n ⟨n1, n2⟩, ?_⟩
    rw [hs, e.1, drop_at (hb e.2), n3]; rfl
  split at h
  · rename_i e
    split at h
    · rename_i hx
      cases h
      refine ⟨.load _, ?_⟩
      conv => lhs; rw [hs, e, hT hx]
      rfl
    · cases h
  split at h
  · rename_i e
    split at h
    · rename_i hx
      cases h
      refine ⟨.note _, ?_⟩
      conv => lhs; rw [hs, e, hT hx]
      rfl
    · cases h
  split at h
  · rename_i e
    split at h
    · rename_i hx
      cases h
      refine ⟨.check _, ?_⟩
      have e2 : lineT ⟨3, x.1, rq0, 0⟩ = [99, 104, 101, 99, 107] ++ 32 :: quo x.1 := by unfold lineT; simp [hx.2]
      rw [e2]
      conv => lhs; rw [hs, e, hT hx.1]
    · cases h
  · cases h

theorem kind4_mem {s : List UInt8} (h : (32 : UInt8) ∈ s) : kind4 s [4, 6, 8, 9] = 0 := by
  have : ∀ k : Int, (k = 4 ∨ k = 6 ∨ k = 8 ∨ k = 9) → s ≠ wWord k := by
    rintro k (rfl | rfl | rfl | rfl) rfl <;> revert h <;> decide
  simp only [kind4]
  rw [if_neg (this 4 (by simp)), if_neg (this 6 (by simp)), if_neg (this 8 (by simp)), if_neg (this 9 (by simp))]

/-- D. -/
theorem opQ_of {o : Opr} (h : Good o) : opQ (lineT o) = some o := by
  have wp : ∀ (w R : List UInt8), w.all nbB = true → runEnd nbB (w ++ 32 :: R) 0 = w.length ∧ (w ++ 32 :: R).take w.length = w ∧ (w ++ 32 :: R).drop w.length = 32 :: R ∧ kind4 (w ++ 32 :: R) [4, 6, 8, 9] = 0 ∧ w ++ 32 :: R ≠ [99, 104, 101, 99, 107] := fun w R h1 => by
    refine ⟨by rw [runEnd_tw, List.drop_zero, tw_app h1 (nb_32 R), Nat.zero_add], by simp, by simp, kind4_mem (by simp), ?_⟩
    intro e
    have : (32 : UInt8) ∈ w ++ 32 :: R := by simp
    rw [e] at this
    revert this; decide
  cases h with
  | load t =>
    show opQ ([108, 111, 97, 100] ++ 32 :: quo t) = _
    obtain ⟨g1, g2, g3, g4, g5⟩ := wp [108, 111, 97, 100] (quo t) (by decide)
    unfold opQ
    rw [if_neg (fun h => h g4), if_neg g5, g1, g2, g3, textQ_of, if_neg (by decide), if_neg (fun h => absurd h.1 (by decide)), if_pos rfl, if_pos rfl]
  | note t =>
    show opQ ([110, 111, 116, 101] ++ 32 :: quo t) = _
    obtain ⟨g1, g2, g3, g4, g5⟩ := wp [110, 111, 116, 101] (quo t) (by decide)
    unfold opQ
    rw [if_neg (fun h => h g4), if_neg g5, g1, g2, g3, textQ_of, if_neg (by decide), if_neg (fun h => absurd h.1 (by decide)), if_neg (by decide), if_pos rfl, if_pos rfl]
  | check t =>
    by_cases ht : t = []
    · subst ht; rfl
    · have e : lineT ⟨3, t, rq0, 0⟩ = [99, 104, 101, 99, 107] ++ 32 :: quo t := by unfold lineT; simp [ht]
      rw [e]
      obtain ⟨g1, g2, g3, g4, g5⟩ := wp [99, 104, 101, 99, 107] (quo t) (by decide)
      unfold opQ
      rw [if_neg (fun h => h g4), if_neg g5, g1, g2, g3, textQ_of, if_neg (by decide), if_neg (fun h => absurd h.1 (by decide)), if_neg (by decide), if_neg (by decide), if_pos rfl, if_pos ⟨rfl, ht⟩]
  | refactor q hq =>
    obtain ⟨R, hR⟩ : ∃ R, reqT q = 32 :: R := ⟨_, rfl⟩
    show opQ ([114, 101, 102, 97, 99, 116, 111, 114] ++ reqT q) = _
    rw [hR]
    obtain ⟨g1, g2, g3, g4, g5⟩ := wp [114, 101, 102, 97, 99, 116, 111, 114] R (by decide)
    unfold opQ
    rw [if_neg (fun h => h g4), if_neg g5, g1, g2, g3, if_pos rfl, refQ_of hq hR.symm]
  | crash n hn =>
    show opQ ([99, 114, 97, 115, 104] ++ 32 :: sdig n) = _
    obtain ⟨g1, g2, g3, g4, g5⟩ := wp [99, 114, 97, 115, 104] (sdig n) (by decide)
    have g6 : ([99, 114, 97, 115, 104] ++ 32 :: sdig n).drop (([99, 114, 97, 115, 104] : List UInt8).length + 1) = sdig n := by simp
    have hq := (numQ_iff (sdig n) n).2 ⟨hn.1, hn.2, rfl⟩
    unfold opQ
    rw [if_neg (fun h => h g4), if_neg g5, g1, g2, if_neg (by decide), if_pos ⟨rfl, by simp⟩, g6, hq]
    rfl
  | word k hk =>
    rcases hk with rfl | rfl | rfl | rfl <;> rfl

/-- One line, both ways. -/
theorem lines (s : List UInt8) (ok : Bool) (o : Opr) : opR s 0 ok = (o, s.length, true) ↔ ok = true ∧ opQ s = some o := by
  constructor
  · intro h
    obtain ⟨h1, h2, h3⟩ := opR_inv h
    exact ⟨h1, by rw [h3]; exact opQ_of h2⟩
  · rintro ⟨rfl, h⟩
    obtain ⟨h2, h3⟩ := opQ_inv h
    have := opR_of h2
    rw [← h3] at this
    exact this
end Go.Nt.Lk

/-
  SCRIPTS, plainly: the reference reads what the program reads; what is read is what is printed.
  No condition.
-/
set_option linter.unusedSimpArgs false
namespace Go.Nt.Lk
open Go Go.Nt

def consX (o : Opr) : Except Nat (List Opr) → Except Nat (List Opr)
  | .ok os => .ok (o :: os)
  | .error m => .error m
def appX (os : List Opr) : Except Nat (List Opr) → Except Nat (List Opr)
  | .ok r => .ok (os ++ r)
  | .error m => .error m

theorem parR_line (f : Nat) (s : List UInt8) (n : Nat) : parR (f + 1) s n = if s = [] then .ok [] else
    match (if (cutN s).2.2 = true then opQ (cutN s).1 else none) with
    | some o => consX o (parR f (cutN s).2.1 (n + 1))
    | none => .error n := by
  conv => lhs; unfold parR
  by_cases hs : s = []
  · rw [if_pos hs, if_pos hs]
  · rw [if_neg hs, if_neg hs]
    generalize (cutN s).1 = l
    generalize (cutN s).2.1 = r
    generalize (cutN s).2.2 = k
    have h := lines l k
    rcases ho : opR l 0 k with ⟨o, a, ok⟩
    rw [ho] at h
    simp only
    by_cases hc : ok = true ∧ a = l.length
    · rw [if_pos hc]
      obtain ⟨rfl, rfl⟩ := hc
      obtain ⟨h1, h2⟩ := (h o).1 rfl
      rw [if_pos h1, h2]
      cases parR f r (n + 1) <;> rfl
    · rw [if_neg hc]
      have : (if k = true then opQ l else none) = none := by
        cases hk : (if k = true then opQ l else none) with
        | none => rfl
        | some o' =>
          exfalso
          split at hk
          · rename_i hk1
            have := (h o').2 ⟨hk1, hk⟩
            simp only [Prod.mk.injEq] at this
            exact hc ⟨this.2.2, this.2.1⟩
          · cases hk
      rw [this]

theorem cutN_none {s : List UInt8} (h : (10 : UInt8) ∉ s) : cutN s = (s, [], false) := by
  have : ∀ (c : UInt8) (l : List UInt8), c ∉ l → cutB c l = none := by
    intro c l
    induction l with
    | nil => intro _; rfl
    | cons x l ih =>
      intro h
      simp only [List.mem_cons, not_or] at h
      rw [cutB, if_neg (Ne.symm h.1), ih h.2]; rfl
  unfold cutN; rw [this 10 s h]

theorem pq_eq (s : List UInt8) : ∀ (n i fr line : Nat) (os : List Opr) (f : Nat), s.length - i < n → i ≤ s.length → fr ≤ i → (10 : UInt8) ∉ seg s fr i → (s.drop fr).length < f → pq s n i fr line os = appX os (parR f (s.drop fr) line) := by
  intro n
  induction n with
  | zero => intro i fr line os f h; omega
  | succ n ih =>
    intro i fr line os f hn hi hf hno hfu
    obtain ⟨f, rfl⟩ : ∃ g, f = g + 1 := ⟨f - 1, by omega⟩
    obtain ⟨g1, g2⟩ := seg_split (s := s) hf hi
    unfold pq
    by_cases hlt : i < s.length
    · rw [List.getElem?_eq_getElem hlt]
      simp only
      by_cases h10 : ch s[i] = 10
      · rw [if_pos h10]
        have e10 : s[i] = 10 := UInt8.toNat_inj.1 (by simp only [ch] at h10; have : (10 : UInt8).toNat = 10 := rfl; omega)
        have hd : s.drop fr = seg s fr i ++ 10 :: s.drop (i + 1) := by rw [g1, List.drop_eq_getElem_cons hlt, e10]
        rw [hd, parR_line, if_neg (by simp), cutN_app _ _ hno]
        simp only [if_true]
        cases ho : opQ (seg s fr i) with
        | none => rfl
        | some o =>
          simp only
          rw [ih (i + 1) (i + 1) (line + 1) (os ++ [o]) f (by omega) (by omega) (by omega) (by unfold seg; simp) (by rw [hd, List.length_append, List.length_cons] at hfu; omega)]
          cases parR f (s.drop (i + 1)) (line + 1) with
          | ok r => simp [appX, consX]
          | error m => rfl
      · rw [if_neg h10]
        have hno' : (10 : UInt8) ∉ seg s fr (i + 1) := by
          obtain ⟨k1, k2⟩ := seg_split (s := s) (a := fr) (b := i + 1) (by omega) hlt
          have : seg s fr (i + 1) = seg s fr i ++ [s[i]] := by
            apply List.append_cancel_right (bs := s.drop (i + 1))
            rw [← k1, g1, List.drop_eq_getElem_cons hlt]; simp
          rw [this]
          simp only [List.mem_append, List.mem_singleton, not_or]
          exact ⟨hno, fun e => h10 (by rw [← e]; rfl)⟩
        rw [ih (i + 1) fr line os (f + 1) (by omega) (by omega) (by omega) hno' hfu]
    · have e : i = s.length := by omega
      subst e
      rw [List.getElem?_eq_none (Nat.le_refl _), List.drop_length, List.append_nil] at *
      simp only
      rw [parR_line]
      by_cases hl : fr < s.length
      · have hne : ¬ s.drop fr = [] := by intro e; have := List.drop_eq_nil_iff.1 e; omega
        rw [if_pos hl, if_neg hne, cutN_none (by rw [g1]; exact hno)]
        rfl
      · rw [if_neg hl, if_pos (List.drop_eq_nil_of_le (by omega))]
        simp [appX]

/-- The reference reads what the program reads. -/
theorem parQ_eq (s : List UInt8) : parQ s = parR (s.length + 1) s 1 := by
  unfold parQ
  rw [pq_eq s _ 0 0 1 [] (s.length + 1) (by omega) (by omega) (by omega) (by unfold seg; simp) (by simp)]
  rw [List.drop_zero]
  cases parR (s.length + 1) s 1 <;> rfl

/-- A script. -/
def textT (os : List Opr) : List UInt8 := os.flatMap fun o => lineT o ++ [10]

theorem lineT_nl {o : Opr} (h : Good o) : (10 : UInt8) ∉ lineT o := by
  have hd : ∀ v : Int, (10 : UInt8) ∉ sdig v := by
    intro v hm
    have h1 : ∀ u, (10 : UInt8) ∉ dig u := fun u hm => by
      have := (dig_digit (u + 1) u (by omega)).1
      rw [List.all_eq_true] at this
      have := this 10 hm
      revert this; decide
    unfold sdig at hm
    split at hm
    · rcases List.mem_cons.1 hm with h2 | h2
      · revert h2; decide
      · exact h1 _ h2
    · exact h1 _ hm
  have hn : ∀ ns : List Int, (10 : UInt8) ∉ numsT ns := by
    intro ns hm
    unfold numsT at hm
    rw [List.mem_flatMap] at hm
    obtain ⟨v, _, h2⟩ := hm
    rcases List.mem_cons.1 h2 with h3 | h3
    · revert h3; decide
    · exact hd _ h3
  have hq := quo_nl
  cases h with
  | load t => show (10 : UInt8) ∉ [108, 111, 97, 100] ++ 32 :: quo t; simp [hq]
  | note t => show (10 : UInt8) ∉ [110, 111, 116, 101] ++ 32 :: quo t; simp [hq]
  | check t =>
    by_cases ht : t = []
    · subst ht; decide
    · have e : lineT ⟨3, t, rq0, 0⟩ = [99, 104, 101, 99, 107] ++ 32 :: quo t := by unfold lineT; simp [ht]
      rw [e]; simp [hq]
  | refactor q hq' => show (10 : UInt8) ∉ [114, 101, 102, 97, 99, 116, 111, 114] ++ reqT q; simp [reqT, hq, hd, hn]
  | crash n hn => show (10 : UInt8) ∉ [99, 114, 97, 115, 104] ++ 32 :: sdig n; simp [hd]
  | word k hk => rcases hk with rfl | rfl | rfl | rfl <;> decide

/-- What is read is what is printed. -/
theorem parR_inv : ∀ (f : Nat) (s : List UInt8) (n : Nat) (os : List Opr), s.length < f → parR f s n = .ok os → (∀ o ∈ os, Good o) ∧ s = textT os
  | 0, s, n, os, hf, h => by omega
  | f + 1, s, n, os, hf, h => by
    rw [parR_line] at h
    by_cases hs : s = []
    · rw [if_pos hs] at h; cases h; exact ⟨by simp, by rw [hs]; rfl⟩
    · rw [if_neg hs] at h
      have hl := cutN_le hs
      cases hc : cutB 10 s with
      | none =>
        have e : cutN s = (s, [], false) := by unfold cutN; rw [hc]
        rw [e] at h
        simp only [Bool.false_eq_true, if_false] at h
        cases h
      | some r =>
        have e : cutN s = (r.1, r.2, true) := by unfold cutN; rw [hc]
        rw [e] at h hl
        simp only [if_true] at h hl
        cases ho : opQ r.1 with
        | none => rw [ho] at h; cases h
        | some o =>
          rw [ho] at h
          simp only at h
          cases hp : parR f r.2 (n + 1) with
          | error m => rw [hp] at h; cases h
          | ok os' =>
            rw [hp] at h
            cases h
            obtain ⟨i1, i2⟩ := parR_inv f r.2 (n + 1) os' (by omega) hp
            obtain ⟨g1, g2⟩ := opQ_inv ho
            refine ⟨?_, ?_⟩
            · intro x hx
              rcases List.mem_cons.1 hx with rfl | hx
              · exact g1
              · exact i1 x hx
            · have := cutB_eq 10 s r hc
              rw [this, g2, i2]; simp [textT]

/-- What is printed is read. -/
theorem parR_of : ∀ (f : Nat) (os : List Opr) (n : Nat), (textT os).length < f → (∀ o ∈ os, Good o) → parR f (textT os) n = .ok os
  | 0, os, n, hf, _ => by omega
  | f + 1, [], n, hf, _ => by rw [parR_line]; rfl
  | f + 1, o :: os, n, hf, h => by
    have e : textT (o :: os) = lineT o ++ 10 :: textT os := by simp [textT]
    have hg := h o (by simp)
    rw [e] at hf
    simp only [List.length_append, List.length_cons] at hf
    rw [parR_line, e, if_neg (by simp), cutN_app _ _ (lineT_nl hg)]
    simp only [if_true]
    rw [opQ_of hg]
    simp only
    rw [parR_of f os (n + 1) (by omega) (fun x hx => h x (by simp [hx]))]
    rfl
end Go.Nt.Lk

/-
  OPERATIONS COMPARED, walked.
  No condition.
-/
set_option linter.unusedSimpArgs false
namespace Go.Nt.Lk
open Go Go.Nt

def Rq.cells (q : Rq) (d : D) : List D := [.int .i64 q.kind, .int .i64 q.frm, .int .i64 q.to, .str q.name, d]
def numsD (fl : Fl) (ns : List Int) : D := slE 1 fl (ns.map i64)
@[simp] theorem numsD_okv (fl : Fl) (ns : List Int) : (numsD fl ns).okv = true := slE_okv _ _ _
@[simp] theorem numsD_fits (fl : Fl) (ns : List Int) : (numsD fl ns).fits none = true := slE_fits _ _ _
@[simp] theorem numsD_cells (fl : Fl) (ns : List Int) : (numsD fl ns).cells = [numsD fl ns] := slE_cells _ _ _
@[simp] theorem numsD_pure (fl : Fl) (ns : List Int) : (numsD fl ns).pure = true := by cases ns <;> cases fl <;> simp [numsD, slE, i64]
@[simp] theorem numsD_pure1 (fl : Fl) (ns : List Int) : (numsD fl ns).pure1 = true := by cases ns <;> cases fl <;> simp [numsD, slE, i64]
@[simp] theorem numsD_len (st : St) (fl : Fl) (ns : List Int) (q : Bool) : lenD st .slice (numsD fl ns) q = some (.i ns.length) := by
  cases ns <;> cases fl <;> simp [numsD, slE, i64, lenD]
@[simp] theorem numsD_idx (fl : Fl) (ns : List Int) (i : Nat) : idxAD (numsD fl ns) i 1 none none = (ns[i]?).bind fun n => some (.iptr (.int .i64 n)) := by
  unfold numsD
  rw [slE_idx, List.getElem?_map]
  cases ns[i]? <;> rfl
@[simp] theorem numsD_fz0 (st : St) (fl : Fl) (ns : List Int) : fz0 st (numsD fl ns) = some (numsD fl ns, st) := by
  cases ns <;> cases fl <;> simp [numsD, slE, i64, fz0]

@[simp] theorem numsD_fz1 (st : St) (fl : Fl) (ns : List Int) : fz1 st (numsD fl ns) = some (numsD fl ns, st) := by
  cases ns <;> cases fl <;> simp [numsD, slE, i64, fz1, fz0]

theorem l105 (a b : List Int) (fa fb : Fl) (hab : a.length = b.length) (ha : a.length ≤ 100000000) (st : St) : ∀ (r i : Nat) (sl : List D) (bx : List (Nat × List D)), r = a.length - i → i ≤ a.length → a.take i = b.take i → get sl 0 = numsD fa a → get sl 1 = numsD fb b → get sl 5 = .int .i64 i →
    Stops (lp T L105_0 ⟨⟨sl, bx⟩, st⟩) fun e s' _ st' => st' = st ∧ ((a = b ∧ e = .exit 0) ∨ (¬ a = b ∧ e = .ret ∧ get s' 4 = .bool false)) := by
  intro r
  induction r with
  | zero =>
    intro i sl bx hr hi ht h0 h1 h5
    have e : i = a.length := by omega
    subst e
    rw [List.take_length, hab, List.take_length] at ht
    refine Stops_wp L105_0.eq_1 ?_
    simp [h0, h1, h5, ht]
  | succ r ih =>
    intro i sl bx hr hi ht h0 h1 h5
    have hlt : i < a.length := by omega
    have hlt2 : i < b.length := by omega
    have w1 := wrap1 (a := i) (by omega)
    refine Stops_wp L105_0.eq_1 ?_
    by_cases hq : a[i] = b[i]
    · simp [h0, h1, h5, hlt, hlt2, hq, w1, -Int.natCast_add]
      refine ih (i + 1) _ _ (by omega) (by omega) ?_ (by simp [h0]) (by simp [h1]) (by simp)
      rw [List.take_succ_eq_append_getElem hlt, List.take_succ_eq_append_getElem hlt2, ht, hq]
    · have hne : ¬ a = b := fun e => hq (by subst e; rfl)
      simp [h0, h1, h5, hlt, hlt2, hq, hne]

theorem c105 (a b : List Int) (fa fb : Fl) (ha : a.length ≤ 100000000) (st : St) : callD T (ev T) 105 [numsD fa a, numsD fb b] st = some (.bool (decide (a = b)), st) := by
  refine callD_pureQ (fn := F105) rfl rfl (by simp) (by simp) (by intro; rfl) ?_
  refine Ret_wp (fn := F105) rfl ?_
  rw [F105]
  by_cases hl : a.length = b.length
  · have hl' : (a.length : Int) = b.length := by omega
    simp [hl]
    refine WL.use L105_0_p L105_0_w (l105 a b fa fb hl ha [] _ 0 _ _ rfl (by omega) rfl (by simp) (by simp) (by simp)) ?_
    rintro e s' b' st' ⟨rfl, ⟨h, rfl⟩ | ⟨h, rfl, h4⟩⟩ hf
    · simp [h]
    · simp [h, h4]
  · have hne : ¬ a = b := fun e => hl (by rw [e])
    simp [hl, hne]

def rqEq (a b : Rq) : Bool := decide (a.kind = b.kind ∧ a.frm = b.frm ∧ a.to = b.to ∧ a.name = b.name ∧ a.nums = b.nums)
theorem rqEq_iff (a b : Rq) : rqEq a b = true ↔ a = b := by
  cases a; cases b; simp [rqEq]

theorem l99 (a b : Rq) (fa fb : Fl) (hab : a.nums.length = b.nums.length) (ha : a.nums.length ≤ 100000000) (st : St) (g : Nat) : ∀ (r i : Nat) (sl : List D) (bx : List (Nat × List D)), r = a.nums.length - i → i ≤ a.nums.length → a.nums.take i = b.nums.take i →
    get sl 43 = numsD fa a.nums → get sl 44 = .int .i64 a.nums.length → get sl 45 = .int .i64 i → get sl 3 = .lp 3 g 0 → getB bx 3 = (g, b.cells (numsD fb b.nums)) →
    Stops (lp T L99_0 ⟨⟨sl, bx⟩, st⟩) fun e s' _ st' => st' = st ∧ ((a.nums = b.nums ∧ e = .exit 0) ∨ (¬ a.nums = b.nums ∧ e = .ret ∧ get s' 4 = .bool false)) := by
  intro r
  induction r with
  | zero =>
    intro i sl bx hr hi ht h43 h44 h45 h3 hb
    have e : i = a.nums.length := by omega
    subst e
    rw [List.take_length, hab, List.take_length] at ht
    refine Stops_wp L99_0.eq_1 ?_
    simp [h44, h45, ht]
  | succ r ih =>
    intro i sl bx hr hi ht h43 h44 h45 h3 hb
    have hlt : i < a.nums.length := by omega
    have hlt2 : i < b.nums.length := by omega
    have w1 := wrap1 (a := i) (by omega)
    unfold Rq.cells at hb
    refine Stops_wp L99_0.eq_1 ?_
    by_cases hq : a.nums[i] = b.nums[i]
    · simp [h43, h44, h45, h3, hb, hlt, hlt2, hq, w1, -Int.natCast_add]
      refine ih (i + 1) _ _ (by omega) (by omega) ?_ (by simp [h43]) (by simp [h44]) (by simp) (by simp [h3]) hb
      rw [List.take_succ_eq_append_getElem hlt, List.take_succ_eq_append_getElem hlt2, ht, hq]
    · have hne : ¬ a.nums = b.nums := fun e => hq (by simp [e])
      simp [h43, h44, h45, h3, hb, hlt, hlt2, hq, hne]

theorem c99 (a b : Rq) (fa fb : Fl) (ha : a.nums.length ≤ 100000000) (st : St) : callD T (ev T) 99 [.agg (a.cells (numsD fa a.nums)), .agg (b.cells (numsD fb b.nums))] st = some (.bool (rqEq a b), st) := by
  refine callD_pureQ (fn := F99) rfl rfl (by simp [Rq.cells]) (by simp) (by intro; rfl) ?_
  refine Ret_wp (fn := F99) rfl ?_
  rw [F99]
  unfold rqEq Rq.cells
  by_cases h1 : a.kind = b.kind ∧ a.frm = b.frm ∧ a.to = b.to ∧ a.name = b.name ∧ a.nums.length = b.nums.length
  · obtain ⟨e1, e2, e3, e4, e5⟩ := h1
    simp [e1, e2, e3, e4, e5]
    refine WL.use L99_0_p L99_0_w (l99 a b fa fb e5 ha [] 1 _ 0 _ _ rfl (by omega) rfl (by simp) (by simp [e5]) (by simp) (by simp) (by simp [Rq.cells])) ?_
    rintro e s' b' st' ⟨rfl, ⟨h, rfl⟩ | ⟨h, rfl, h4⟩⟩ hf
    · simp [h]
    · simp [h, h4]
  · have hne : ¬ (a.kind = b.kind ∧ a.frm = b.frm ∧ a.to = b.to ∧ a.name = b.name ∧ a.nums = b.nums) := fun h => h1 ⟨h.1, h.2.1, h.2.2.1, h.2.2.2.1, by rw [h.2.2.2.2]⟩
    rw [decide_eq_false hne]
    by_cases e1 : a.kind = b.kind
    · by_cases e2 : a.frm = b.frm
      · by_cases e3 : a.to = b.to
        · by_cases e4 : a.name = b.name
          · have e5 : ¬ a.nums.length = b.nums.length := fun e5 => h1 ⟨e1, e2, e3, e4, e5⟩
            have e5' : ¬ (a.nums.length : Int) = b.nums.length := by omega
            simp [e1, e2, e3, e4, e5]
          · simp [e1, e2, e3, e4]
        · simp [e1, e2, e3]
      · simp [e1, e2]
    · simp [e1]
end Go.Nt.Lk

/-
  OPERATIONS COMPARED, walked (2).
  No condition.
-/
set_option linter.unusedSimpArgs false
namespace Go.Nt.Lk
open Go Go.Nt

theorem encF_eq (o : Opr) (fl : Fl) : o.encF fl = .agg [.int .i64 o.kind, .str o.text, .int .i64 o.rq.kind, .int .i64 o.rq.frm, .int .i64 o.rq.to, .str o.rq.name, numsD fl o.rq.nums, .int .i64 o.n] := rfl
def opEq (a b : Opr) : Bool := decide (a.kind = b.kind ∧ a.text = b.text ∧ a.n = b.n) && rqEq a.rq b.rq
theorem opEq_iff (a b : Opr) : opEq a b = true ↔ a = b := by
  cases a; cases b; simp [opEq, rqEq_iff]; constructor
  · rintro ⟨⟨h1, h2, h3⟩, h4⟩; exact ⟨h1, h2, h4, h3⟩
  · rintro ⟨h1, h2, h3, h4⟩; exact ⟨⟨h1, h2, h4⟩, h3⟩

theorem c59 (a b : Opr) (fa fb : Fl) (ha : a.rq.nums.length ≤ 100000000) (st : St) : callD T (ev T) 59 [a.encF fa, b.encF fb] st = some (.bool (opEq a b), st) := by
  rw [encF_eq, encF_eq]
  have q := c99 a.rq b.rq fa fb ha []
  unfold Rq.cells at q
  refine callD_pureQ (fn := F59) rfl rfl (by simp) (by simp) (by intro; rfl) ?_
  refine Ret_wp (fn := F59) rfl ?_
  rw [F59]
  unfold opEq
  by_cases e1 : a.kind = b.kind
  · by_cases e2 : a.text = b.text
    · by_cases e3 : a.n = b.n
      · simp [e1, e2, e3, q]
      · simp [e1, e2, e3]
    · simp [e1, e2]
  · simp [e1]

theorem c62 (a b : Opr) (fa fb : Fl) (ha : a.rq.nums.length ≤ 100000000) (st : St) : callD T (ev T) 62 [a.encF fa, b.encF fb] st = some (.bool (opEq a b), st) := by
  rw [encF_eq, encF_eq]
  have q := c105 a.rq.nums b.rq.nums fa fb ha []
  refine callD_pureQ (fn := F62) rfl rfl (by simp) (by simp) (by intro; rfl) ?_
  refine Ret_wp (fn := F62) rfl ?_
  rw [F62]
  unfold opEq rqEq
  by_cases e1 : a.kind = b.kind
  · by_cases e2 : a.text = b.text
    · by_cases e3 : a.n = b.n
      · by_cases e4 : a.rq.kind = b.rq.kind
        · by_cases e5 : a.rq.frm = b.rq.frm
          · by_cases e6 : a.rq.to = b.rq.to
            · by_cases e7 : a.rq.name = b.rq.name
              · simp [e1, e2, e3, e4, e5, e6, e7, q]
              · simp [e1, e2, e3, e4, e5, e6, e7]
            · simp [e1, e2, e3, e4, e5, e6]
          · simp [e1, e2, e3, e4, e5]
        · simp [e1, e2, e3, e4]
      · simp [e1, e2, e3]
    · simp [e1, e2]
  · simp [e1]

/-- Operations with how their numbers stand. -/
abbrev Opf := Opr × Fl
def Opf.d (x : Opf) : D := x.1.encF x.2
theorem Opf.pure (x : Opf) : x.d.pure = true := encF_pure _ _
def opsD (fl : Fl) (l : List Opf) : D := slE 8 fl (l.map Opf.d)
@[simp] theorem opsD_okv (fl : Fl) (l : List Opf) : (opsD fl l).okv = true := slE_okv _ _ _
@[simp] theorem opsD_fits (fl : Fl) (l : List Opf) : (opsD fl l).fits none = true := slE_fits _ _ _
@[simp] theorem opsD_cells (fl : Fl) (l : List Opf) : (opsD fl l).cells = [opsD fl l] := slE_cells _ _ _
@[simp] theorem opsD_pure (fl : Fl) (l : List Opf) : (opsD fl l).pure = true := by
  unfold opsD
  cases l with
  | nil => cases fl <;> rfl
  | cons y l => cases fl <;> simp [slE] <;> exact ⟨y.pure, fun a b _ => Opf.pure (a, b)⟩
@[simp] theorem opsD_len (st : St) (fl : Fl) (l : List Opf) (q : Bool) : lenD st .slice (opsD fl l) q = some (.i l.length) := by
  cases l <;> cases fl <;> simp [opsD, slE, lenD]
theorem opsD_idx (fl : Fl) (l : List Opf) (i : Nat) (h : i < l.length) : idxAD (opsD fl l) i 8 (some 8) none = some (.iptr (l[i].d)) := by
  unfold opsD
  rw [slE_idx, List.getElem?_map, List.getElem?_eq_getElem h]
  rfl
@[simp] theorem opsD_fz0 (st : St) (fl : Fl) (l : List Opf) : fz0 st (opsD fl l) = some (opsD fl l, st) := by
  cases l <;> cases fl <;> simp [opsD, slE, fz0]
@[simp] theorem opsD_fz1 (st : St) (fl : Fl) (l : List Opf) : fz1 st (opsD fl l) = some (opsD fl l, st) := by
  cases l <;> cases fl <;> simp [opsD, slE, fz1, fz0]

/-- Are lists of operations alike? -/
def alike (a b : List Opf) : Prop := a.map Prod.fst = b.map Prod.fst

theorem l33 (a b : List Opf) (fa fb : Fl) (hab : a.length = b.length) (hl : a.length ≤ 100000000) (ha : ∀ x ∈ a, x.1.rq.nums.length ≤ 100000000) (st : St) : ∀ (r i : Nat) (sl : List D) (bx : List (Nat × List D)), r = a.length - i → i ≤ a.length → (a.map Prod.fst).take i = (b.map Prod.fst).take i →
    get sl 0 = opsD fa a → get sl 1 = opsD fb b → get sl 5 = .int .i64 i →
    Stops (lp T L33_0 ⟨⟨sl, bx⟩, st⟩) fun e s' _ st' => st' = st ∧ ((alike a b ∧ e = .exit 0) ∨ (¬ alike a b ∧ e = .ret ∧ get s' 4 = .bool false)) := by
  intro r
  induction r with
  | zero =>
    intro i sl bx hr hi ht h0 h1 h5
    have e : i = a.length := by omega
    subst e
    rw [List.take_of_length_le (by simp), List.take_of_length_le (by simp [hab])] at ht
    refine Stops_wp L33_0.eq_1 ?_
    simp [h0, h1, h5]
    exact ht
  | succ r ih =>
    intro i sl bx hr hi ht h0 h1 h5
    have hlt : i < a.length := by omega
    have hlt2 : i < b.length := by omega
    have w1 := wrap1 (a := i) (by omega)
    have i1 := opsD_idx fa a i hlt
    have i2 := opsD_idx fb b i hlt2
    have f1 : (a[i].d).fits (some 8) = true := rfl
    have f2 : (b[i].d).fits (some 8) = true := rfl
    have q := c62 a[i].1 b[i].1 a[i].2 b[i].2 (ha _ (List.getElem_mem hlt)) st
    have q' : callD T (ev T) 62 [a[i].d, b[i].d] st = some (.bool (opEq a[i].1 b[i].1), st) := q
    refine Stops_wp L33_0.eq_1 ?_
    cases hq : opEq a[i].1 b[i].1 with
    | true =>
      have hq' := (opEq_iff _ _).1 hq
      rw [hq] at q'
      simp [h0, h1, h5, hlt, hlt2, i1, i2, f1, f2, q', w1, -Int.natCast_add]
      refine ih (i + 1) _ _ (by omega) (by omega) ?_ (by simp [h0]) (by simp [h1]) (by simp)
      rw [List.take_succ_eq_append_getElem (by simpa using hlt), List.take_succ_eq_append_getElem (by simpa using hlt2), ht]
      simp [hq']
    | false =>
      rw [hq] at q'
      have hne : ¬ alike a b := by
        intro h
        have h2 : (a.map Prod.fst)[i]? = (b.map Prod.fst)[i]? := by rw [show a.map Prod.fst = b.map Prod.fst from h]
        rw [List.getElem?_map, List.getElem?_map, List.getElem?_eq_getElem hlt, List.getElem?_eq_getElem hlt2] at h2
        simp only [Option.map_some, Option.some.injEq] at h2
        rw [(opEq_iff _ _).2 h2] at hq
        cases hq
      simp [h0, h1, h5, hlt, hlt2, i1, i2, f1, f2, q', hne]

theorem c33 (a b : List Opf) (fa fb : Fl) (hl : a.length ≤ 100000000) (ha : ∀ x ∈ a, x.1.rq.nums.length ≤ 100000000) (st : St) : ∃ r, (r = true ↔ alike a b) ∧ callD T (ev T) 33 [opsD fa a, opsD fb b] st = some (.bool r, st) := by
  suffices h : Ret (ev T 33 [opsD fa a, opsD fb b] []) fun d _ => ∃ r : Bool, (r = true ↔ alike a b) ∧ d = .bool r by
    obtain ⟨d, st', h1, r, h2, rfl⟩ := h
    exact ⟨r, h2, callD_pure (fn := F33) rfl rfl (by simp) h1 (by rfl) rfl⟩
  refine Ret_wp (fn := F33) rfl ?_
  rw [F33]
  by_cases hab : a.length = b.length
  · simp [hab]
    refine WL.use L33_0_p L33_0_w (l33 a b fa fb hab hl ha [] _ 0 _ _ rfl (by omega) rfl (by simp) (by simp) (by simp)) ?_
    rintro e s' b' st' ⟨rfl, ⟨h, rfl⟩ | ⟨h, rfl, h4⟩⟩ hf
    · simp
      exact h
    · simp [h4]
      exact h
  · have hab' : ¬ (a.length : Int) = b.length := by omega
    simp [hab]
    intro h
    have := congrArg List.length h
    simp at this
    exact hab this
end Go.Nt.Lk

/-
  AN OPERATION'S LINE, walked: the program's.
  No condition.
-/
set_option linter.unusedSimpArgs false
namespace Go.Nt.Lk
open Go Go.Nt

/-- A row that was made whole, and grows. -/
def gS (ws : List D) : List D → D × St
  | [] => (.sl 1 true ws, [])
  | x :: xs => (.rs 0 xs.length 1 0 (ws.length + xs.length + 1) false, [.cells false 1 xs.length xs.length false (ws ++ x :: xs)])
theorem gS_app (ws xs : List D) (h : ws.length + xs.length ≤ 100000000) (x : D) : appendD (gS ws xs).2 (gS ws xs).1 [x] 1 = some ((gS ws (xs ++ [x])).1, (gS ws (xs ++ [x])).2) := by
  have m1 : ¬ most < 1 := by unfold most; omega
  cases xs with
  | nil =>
    have hm : ws.length ≤ most := by unfold most; simp at h; omega
    simp [gS, appendD, m1, hm]
  | cons y ys =>
    simp only [List.length_cons] at h
    have hm : ws.length + (ys.length + 1) ≤ most := by unfold most; omega
    have ht : ys.length + 1 < tagB := by unfold tagB; omega
    have at0 : ∀ o, St.at [o] 0 = o := fun o => rfl
    have hl : ws.length + ys.length + 1 ≤ ws.length + (ys.length + 1) := by omega
    have htk : List.take (ws.length + ys.length + 1) (ws ++ y :: ys) = ws ++ y :: ys := List.take_of_length_le (by simp; omega)
    simp [gS, appendD, m1, hm, ht, at0, hl, htk]
    omega
@[simp] theorem gS_okv (ws xs : List D) : (gS ws xs).1.okv = true := by cases xs <;> rfl
@[simp] theorem gS_cells (ws xs : List D) : (gS ws xs).1.cells = [(gS ws xs).1] := by cases xs <;> rfl
theorem gS_fz (ws xs : List D) : ∃ fl st', fz1 (gS ws xs).2 (gS ws xs).1 = some (.sl 1 fl (ws ++ xs), st') := by
  cases xs with
  | nil => exact ⟨true, [], by simp [gS, fz1, fz0]⟩
  | cons y ys =>
    have at0 : ∀ o, St.at [o] 0 = o := fun o => rfl
    have htk : List.take (ws.length + ys.length + 1) (ws ++ y :: ys) = ws ++ y :: ys := List.take_of_length_le (by simp; omega)
    have hl : ws.length + ys.length + 1 ≤ ws.length + (ys.length + 1) := by omega
    exact ⟨false, _, by simp [gS, fz1, fz0, at0, htk, hl]; rfl⟩

def strsD (l : List (List UInt8)) : List D := l.map .str
def nw (ns : List Int) (i : Nat) : List D := strsD ((ns.take i).map sdig)
theorem nw_len (ns : List Int) (i : Nat) : (nw ns i).length ≤ ns.length := by simp [nw, strsD]; omega
theorem nw_all (ns : List Int) : nw ns ns.length = strsD (ns.map sdig) := by simp [nw]
theorem nw_succ {ns : List Int} {i : Nat} (h : i < ns.length) : nw ns i ++ [.str (sdig ns[i])] = nw ns (i + 1) := by
  unfold nw; rw [List.take_succ_eq_append_getElem h]; simp only [strsD, List.map_append, List.map_cons, List.map_nil]

theorem l58 (ns : List Int) (fl : Fl) (hns : ∀ v ∈ ns, in64 v) (hl : ns.length ≤ 50000000) (ws : List D) (hw : ws.length ≤ 100) : ∀ (r i : Nat) (sl : List D) (bx : List (Nat × List D)), r = ns.length - i → i ≤ ns.length →
    get sl 59 = numsD fl ns → get sl 60 = .int .i64 ns.length → get sl 61 = .int .i64 i → get sl 6 = (gS ws (nw ns i)).1 →
    Stops (lp T L58_0 ⟨⟨sl, bx⟩, (gS ws (nw ns i)).2⟩) fun e s' _ st' => e = .exit 1 ∧ get s' 6 = (gS ws (strsD (ns.map sdig))).1 ∧ st' = (gS ws (strsD (ns.map sdig))).2 := by
  intro r
  induction r with
  | zero =>
    intro i sl bx hr hi h59 h60 h61 h6
    have e : i = ns.length := by omega
    subst e
    rw [nw_all] at h6 ⊢
    refine Stops_wp L58_0.eq_1 ?_
    simp [h60, h61]
    exact h6
  | succ r ih =>
    intro i sl bx hr hi h59 h60 h61 h6
    have hlt : i < ns.length := by omega
    have w1 := wrap1 (a := i) (by omega)
    have hv := hns ns[i] (List.getElem_mem hlt)
    have hnl := nw_len ns i
    have q := c98 ns[i] hv.1 hv.2 (gS ws (nw ns i)).2
    have ga := gS_app ws (nw ns i) (by omega) (.str (sdig ns[i]))
    rw [nw_succ hlt] at ga
    refine Stops_wp L58_0.eq_1 ?_
    simp [h59, h60, h61, h6, hlt, q, ga, w1, -Int.natCast_add]
    exact ih (i + 1) _ _ (by omega) (by omega) (by simp [h59]) (by simp [h60]) (by simp) (by simp)

/-- The words of an operation's line. -/
def lineW (o : Opr) : List (List UInt8) :=
  if o.kind = 1 then [[108, 111, 97, 100], quo o.text]
  else if o.kind = 5 then [[110, 111, 116, 101], quo o.text]
  else if o.kind = 2 then [[114, 101, 102, 97, 99, 116, 111, 114], sdig o.rq.kind, sdig o.rq.frm, sdig o.rq.to, quo o.rq.name] ++ o.rq.nums.map sdig
  else if o.kind = 3 then (if o.text = [] then [[99, 104, 101, 99, 107]] else [[99, 104, 101, 99, 107], quo o.text])
  else if o.kind = 7 then [[99, 114, 97, 115, 104], sdig o.n]
  else [wWord o.kind]
def bare (o : Opr) : Opr :=
  if o.kind = 1 ∨ o.kind = 5 ∨ o.kind = 3 then ⟨o.kind, o.text, rq0, 0⟩
  else if o.kind = 2 then ⟨2, [], o.rq, 0⟩
  else if o.kind = 7 then ⟨7, [], rq0, o.n⟩
  else ⟨o.kind, [], rq0, 0⟩
def told (o : Opr) : Bool := decide (o.kind = 1 ∨ o.kind = 5 ∨ o.kind = 3 ∨ o.kind = 2 ∨ o.kind = 7) || !decide (wWord o.kind = [])

/-- What may come in: numbers of 64 bits, texts of some length. -/
def OpIn (o : Opr) : Prop := RqIn o.rq ∧ in64 o.n ∧ o.text.length ≤ 33554000 ∧ o.rq.name.length ≤ 33554000 ∧ o.rq.nums.length ≤ 50000000

theorem c58 (o : Opr) (fl : Fl) (h : OpIn o) (st : St) : ∃ f1 f2, callD T (ev T) 58 [o.encF fl] st = some (.tup [.sl 1 f1 (strsD (lineW o)), (bare o).encF f2, .bool (told o)], st) := by
  suffices hs : Ret (ev T 58 [o.encF fl] []) fun r st1 => ∃ f1 f2 st2, fz st1 r = some (.tup [.sl 1 f1 (strsD (lineW o)), (bare o).encF f2, .bool (told o)], st2) by
    obtain ⟨r, st1, h1, f1, f2, st2, h2⟩ := hs
    refine ⟨f1, f2, callD_pure (fn := F58) rfl rfl (by rw [encF_eq]; simp) h1 h2 ?_⟩
    have := encF_pure (bare o) f2
    simp [this, strsD]
  obtain ⟨hq, hn, ht, hm, hl⟩ := h
  refine Ret_wp (fn := F58) rfl ?_
  rw [F58, encF_eq]
  have qt := c27 o.text ht []
  unfold lineW bare told
  by_cases e1 : o.kind = 1
  · simp [e1, qt]
    exact ⟨rfl, .nil, rfl⟩
  by_cases e2 : o.kind = 5
  · simp [e2, qt]
    exact ⟨rfl, .nil, rfl⟩
  by_cases e3 : o.kind = 2
  · have qm := c27 o.rq.name hm []
    have k1 := c98 o.rq.kind hq.1.1 hq.1.2 []
    have k2 := c98 o.rq.frm hq.2.1.1 hq.2.1.2 []
    have k3 := c98 o.rq.to hq.2.2.1.1 hq.2.2.1.2 []
    simp [e3, qm, k1, k2, k3]
    refine WL.useB L58_0_p L58_0_w (by kernel_rfl : L58_0.wrB = []) (l58 o.rq.nums fl hq.2.2.2 hl [.str [114, 101, 102, 97, 99, 116, 111, 114], .str (sdig o.rq.kind), .str (sdig o.rq.frm), .str (sdig o.rq.to), .str (quo o.rq.name)] (by simp) _ 0 _ _ rfl (by omega) (by simp) (by simp) (by simp) (by simp [nw, strsD, gS])) ?_
    rintro e s' b st' ⟨rfl, h6, rfl⟩ hf hg
    have h3 : get s' 3 = .lp 3 1 0 := by rw [hf 3 rfl]; simp
    have h5 : get s' 5 = .lp 5 1 0 := by rw [hf 5 rfl]; simp
    have b3 : getB b 3 = (1, z8op) := by rw [hg 3 rfl]; simp [z8op]
    have b5 : getB b 5 = (1, [.int .i64 2, .str [], .int .i64 o.rq.kind, .int .i64 o.rq.frm, .int .i64 o.rq.to, .str o.rq.name, numsD fl o.rq.nums, .int .i64 0]) := by rw [hg 5 rfl]; simp
    obtain ⟨f1, st2, hz⟩ := gS_fz [.str [114, 101, 102, 97, 99, 116, 111, 114], .str (sdig o.rq.kind), .str (sdig o.rq.frm), .str (sdig o.rq.to), .str (quo o.rq.name)] (strsD (o.rq.nums.map sdig))
    have hk := gS_okv [.str [114, 101, 102, 97, 99, 116, 111, 114], .str (sdig o.rq.kind), .str (sdig o.rq.frm), .str (sdig o.rq.to), .str (quo o.rq.name)] (strsD (o.rq.nums.map sdig))
    generalize gS [.str [114, 101, 102, 97, 99, 116, 111, 114], .str (sdig o.rq.kind), .str (sdig o.rq.frm), .str (sdig o.rq.to), .str (quo o.rq.name)] (strsD (o.rq.nums.map sdig)) = gg at *
    simp [h6, h3, h5, b3, b5, z8op, hk, hz]
    cases f1
    · exact .inl ⟨⟨rfl, rfl⟩, fl, rfl⟩
    · exact .inr ⟨⟨rfl, rfl⟩, fl, rfl⟩
  by_cases e4 : o.kind = 3
  · by_cases e5 : o.text = []
    · simp [e4, e5]
      exact ⟨rfl, .nil, rfl⟩
    · simp [e4, e5, qt]
      exact ⟨rfl, .nil, rfl⟩
  by_cases e5 : o.kind = 7
  · have k1 := c98 o.n hn.1 hn.2 []
    simp [e5, k1]
    exact ⟨rfl, .nil, rfl⟩
  have q7 := c97 o.kind []
  simp [e1, e2, e3, e4, e5, q7]
  exact ⟨rfl, .nil, rfl⟩
end Go.Nt.Lk

/-
  A SCRIPT PRINTED, walked: the program's.
  No condition.
-/
set_option linter.unusedSimpArgs false
namespace Go.Nt.Lk
open Go Go.Nt

/-- What is wrong with an operation. -/
def errO (o : Opr) : Option Int := if told o = false then some 23 else if opEq o (bare o) = false then some 2 else none
def prtR : List Opr → Option Int
  | [] => none
  | o :: os => match errO o with
    | some e => some e
    | none => prtR os

theorem wWord_ne (k : Int) : ¬ wWord k = [] ↔ (k = 4 ∨ k = 6 ∨ k = 8 ∨ k = 9) := by
  unfold wWord
  split
  · simp_all
  · split
    · simp_all
    · split
      · simp_all
      · split <;> simp_all

theorem errO_iff {o : Opr} (h : OpIn o) : errO o = none ↔ Good o := by
  obtain ⟨k, t, q, n⟩ := o
  obtain ⟨hq, hn, _⟩ := h
  simp only at hq hn
  unfold errO
  constructor
  · intro he
    split at he
    · cases he
    · rename_i ht
      split at he
      · cases he
      · rename_i hs
        rw [Bool.not_eq_false] at ht hs
        rw [opEq_iff] at hs
        unfold told at ht
        simp only [Bool.or_eq_true, decide_eq_true_eq, Bool.not_eq_true', decide_eq_false_iff_not] at ht
        unfold bare at hs
        simp only at hs
        split at hs
        · rename_i hk
          cases hs
          rcases hk with rfl | rfl | rfl
          · exact .load t
          · exact .note t
          · exact .check t
        · split at hs
          · cases hs; exact .refactor _ hq
          · split at hs
            · cases hs; exact .crash _ hn
            · rename_i h1 h2 h3
              cases hs
              rcases ht with h4 | h4
              · omega
              · exact .word _ ((wWord_ne _).1 h4)
  · intro hg
    have : ∀ o : Opr, Good o → told o = true ∧ opEq o (bare o) = true := by
      intro o hg
      rw [opEq_iff]
      cases hg with
      | load t => exact ⟨rfl, rfl⟩
      | note t => exact ⟨rfl, rfl⟩
      | check t => exact ⟨rfl, rfl⟩
      | refactor q h => exact ⟨rfl, rfl⟩
      | crash n h => exact ⟨rfl, rfl⟩
      | word k h => rcases h with rfl | rfl | rfl | rfl <;> exact ⟨by decide, rfl⟩
    obtain ⟨g1, g2⟩ := this _ hg
    rw [if_neg (by simp [g1]), if_neg (by simp [g2])]

theorem inter_nums : ∀ (w : List UInt8) (ns : List Int), [32].intercalate (w :: ns.map sdig) = w ++ numsT ns
  | w, [] => by simp [List.intercalate, numsT]
  | w, n :: ns => by
    have ih := inter_nums (sdig n) ns
    rw [numsT_cons]
    simp only [List.intercalate, List.map_cons, List.intersperse_cons_cons, List.flatten_cons] at ih ⊢
    rw [ih]; simp

theorem inter_cons (w x : List UInt8) (l : List (List UInt8)) : [32].intercalate (w :: x :: l) = w ++ 32 :: [32].intercalate (x :: l) := by
  simp [List.intercalate]

theorem lineW_eq {o : Opr} (h : Good o) : [32].intercalate (lineW o) = lineT o := by
  cases h with
  | load t => simp [lineW, lineT, List.intercalate]
  | note t => simp [lineW, lineT, List.intercalate]
  | check t =>
    by_cases ht : t = []
    · simp [lineW, lineT, List.intercalate, ht]
    · simp [lineW, lineT, List.intercalate, ht]
  | refactor q hq =>
    have e : lineW ⟨2, [], q, 0⟩ = [114, 101, 102, 97, 99, 116, 111, 114] :: sdig q.kind :: sdig q.frm :: sdig q.to :: quo q.name :: q.nums.map sdig := rfl
    have e2 : lineT ⟨2, [], q, 0⟩ = [114, 101, 102, 97, 99, 116, 111, 114] ++ reqT q := rfl
    rw [e, e2, inter_cons, inter_cons, inter_cons, inter_cons, inter_nums]
    rfl
  | crash n h => simp [lineW, lineT, List.intercalate]
  | word k hk => rcases hk with rfl | rfl | rfl | rfl <;> rfl

theorem unstr_map (l : List (List UInt8)) : (strsD l).mapM unstr = some l := by
  induction l with
  | nil => rfl
  | cons c l ih =>
    have ih' : (l.map D.str).mapM unstr = some l := ih
    simp [strsD, List.mapM_cons, unstr, ih']

theorem c60 (f : Bool) (l : List (List UInt8)) (hl : ([32].intercalate l).length ≤ 134217728) (hn : l.length ≤ 134217728) (st : St) : callD T (ev T) 60 [.sl 1 f (strsD l), .str [32]] st = some (.str ([32].intercalate l), st) := by
  rw [callD_rawE (fn := F60) rfl rfl (by simp), ev_eq 60 F60 rfl, F60]
  have h := unstr_map l
  have hm : ([32].intercalate l).length ≤ most := hl
  have hm2 : (strsD l).length ≤ most := by simp [strsD, most, hn]
  simp [primD, listD, h, hm, hm2]

theorem textT_app (a b : List Opr) : textT (a ++ b) = textT a ++ textT b := by simp [textT]
theorem textT_cons (o : Opr) (b : List Opr) : textT (o :: b) = lineT o ++ 10 :: textT b := by simp [textT]
theorem textT_len (os : List Opr) (i : Nat) (h : i < os.length) : (textT (os.take i)).length + (lineT os[i]).length + 1 ≤ (textT os).length := by
  have e : os = os.take i ++ os[i] :: os.drop (i + 1) := by rw [← List.drop_eq_getElem_cons h, List.take_append_drop]
  have e2 : textT os = textT (os.take i) ++ (lineT os[i] ++ 10 :: textT (os.drop (i + 1))) := by
    rw [← textT_cons, ← textT_app, ← e]
  rw [e2]
  simp only [List.length_append, List.length_cons]; omega
theorem textT_succ (os : List Opr) (i : Nat) (h : i < os.length) : textT (os.take (i + 1)) = textT (os.take i) ++ lineT os[i] ++ [10] := by
  rw [List.take_succ_eq_append_getElem h, textT_app, textT_cons, List.append_assoc]; rfl

theorem lineW_len {o : Opr} (h : OpIn o) : (lineW o).length ≤ 50000010 := by
  have hl := h.2.2.2.2
  unfold lineW
  split
  · simp
  · split
    · simp
    · split
      · simp; omega
      · split
        · split <;> simp
        · split <;> simp

theorem l31 (l : List Opf) (fl : Fl) (hin : ∀ x ∈ l, OpIn x.1) (hl : l.length ≤ 50000000) (hT : (textT (l.map Prod.fst)).length ≤ 134217728) : ∀ (r i k : Nat) (st : St) (sl : List D) (bx : List (Nat × List D)), r = l.length - i → i ≤ l.length → k ≤ 2 * i → (∀ o ∈ (l.map Prod.fst).take i, Good o) →
    Bd st 0 (textT ((l.map Prod.fst).take i)) k → get sl 4 = .hp 0 (86 * tagB) 2 0 0 → get sl 10 = opsD fl l → get sl 11 = .int .i64 l.length → get sl 12 = .int .i64 i →
    Stops (lp T L31_0 ⟨⟨sl, bx⟩, st⟩) fun e s' _ st' => match prtR ((l.map Prod.fst).drop i) with
      | none => e = .exit 0 ∧ ∃ k', k' ≤ 2 * l.length ∧ Bd st' 0 (textT (l.map Prod.fst)) k'
      | some x => e = .ret ∧ get s' 2 = .str [] ∧ get s' 3 = .int .i64 x := by
  intro r
  induction r with
  | zero =>
    intro i k st sl bx hr hi hk hg hB h4 h10 h11 h12
    have e : i = l.length := by omega
    subst e
    rw [List.take_of_length_le (by simp)] at hB
    rw [List.drop_of_length_le (by simp)]
    refine Stops_wp L31_0.eq_1 ?_
    simp [h11, h12, prtR]
    exact ⟨k, hk, hB⟩
  | succ r ih =>
    intro i k st sl bx hr hi hk hg hB h4 h10 h11 h12
    have hlt : i < l.length := by omega
    have hlt' : i < (l.map Prod.fst).length := by simpa using hlt
    have w1 := wrap1 (a := i) (by omega)
    have i1 := opsD_idx fl l i hlt
    have hO : (l.map Prod.fst)[i] = l[i].1 := by simp
    have hi1 := hin l[i] (List.getElem_mem hlt)
    have hT1 := textT_len (l.map Prod.fst) i hlt'
    have hTs := textT_succ (l.map Prod.fst) i hlt'
    have hd : (l.map Prod.fst).drop i = l[i].1 :: (l.map Prod.fst).drop (i + 1) := by rw [List.drop_eq_getElem_cons hlt', hO]
    rw [hd]
    rw [hO] at hT1 hTs
    have hT10 : 100000000000 < tagB := by unfold tagB; omega
    have htk : (l.map Prod.fst).take (i + 1) = (l.map Prod.fst).take i ++ [l[i].1] := by rw [List.take_succ_eq_append_getElem hlt', hO]
    have nx := fun (hG : Good l[i].1) k' st' sl' bx' hk' (hB' : Bd st' 0 (textT ((l.map Prod.fst).take (i + 1))) k') => ih (i + 1) k' st' sl' bx' (by omega) (by omega) hk' (by
      intro o ho
      rw [htk] at ho
      rcases List.mem_append.1 ho with h | h
      · exact hg o h
      · simp only [List.mem_singleton] at h; rw [h]; exact hG) hB'
    have hd8 : l[i].d = l[i].1.encF l[i].2 := rfl
    generalize hx : l[i] = x at *
    obtain ⟨o, f⟩ := x
    simp only at hd8 hi1 hT1 hTs hO nx htk ⊢
    obtain ⟨f1, f2, q1⟩ := c58 o f hi1 st
    have q2 := c59 o (bare o) f f2 (by have := hi1.2.2.2.2; omega) st
    have he := errO_iff hi1
    unfold prtR
    refine Stops_wp L31_0.eq_1 ?_
    rw [hd8, encF_eq] at i1
    rw [encF_eq] at q1 q2
    rw [encF_eq (bare o)] at q1 q2
    have p1 := numsD_okv f o.rq.nums
    have p2 := numsD_okv f2 (bare o).rq.nums
    cases ht : told o with
    | false =>
      have e1 : errO o = some 23 := by unfold errO; rw [if_pos ht]
      rw [ht] at q1
      rw [e1]
      simp [h4, h10, h11, h12, hlt, i1, q1, -Int.natCast_add]
    | true =>
      rw [ht] at q1
      cases hs : opEq o (bare o) with
      | false =>
        have e1 : errO o = some 2 := by unfold errO; rw [if_neg (by simp [ht]), if_pos hs]
        rw [hs] at q2
        rw [e1]
        simp [h4, h10, h11, h12, hlt, i1, q1, q2, -Int.natCast_add]
      | true =>
        have e1 : errO o = none := by unfold errO; rw [if_neg (by simp [ht]), if_neg (by simp [hs])]
        have hG := he.1 e1
        rw [hs] at q2
        rw [e1]
        have q3 := c60 f1 (lineW o) (by rw [lineW_eq hG]; omega) (by have := lineW_len hi1; omega) st
        rw [lineW_eq hG] at q3
        obtain ⟨st1, q4, hB1, _⟩ := e47 st 0 _ (lineT o) k hB (by omega) (by omega) (by omega)
        obtain ⟨st2, q5, hB2, _⟩ := e54 st1 0 _ 10 (k + 1) hB1 (by omega) (by simp only [List.length_append]; omega)
        have q5 := q5 10 (by decide)
        rw [← hTs] at hB2
        have nx := fun sl' bx' => nx hG (k + 1 + 1) st2 sl' bx' (by omega) hB2
        simp [h4, h10, h11, h12, hlt, i1, q1, q2, q3, q4, q5, w1, -Int.natCast_add]
        exact nx _ _ (by simp [h4]) (by simp [h10]) (by simp [h11]) (by simp)

def prtD (os : List Opr) : D := match prtR os with
  | none => .tup [.str (textT os), .int .i64 0]
  | some x => .tup [.str [], .int .i64 x]

theorem c31 (l : List Opf) (fl : Fl) (hin : ∀ x ∈ l, OpIn x.1) (hl : l.length ≤ 50000000) (hT : (textT (l.map Prod.fst)).length ≤ 134217728) (st : St) : callD T (ev T) 31 [opsD fl l] st = some (prtD (l.map Prod.fst), st) := by
  have hT10 : 100000000000 < tagB := by unfold tagB; omega
  refine callD_pureQ (fn := F31) rfl rfl (by simp) (by unfold prtD; cases prtR (l.map Prod.fst) <;> rfl) (by intro st; unfold prtD; cases prtR (l.map Prod.fst) <;> rfl) ?_
  refine Ret_wp (fn := F31) rfl ?_
  rw [F31]
  simp
  refine WL.use L31_0_p L31_0_w (l31 l fl hin hl hT _ 0 0 [.cells true 2 (86 * tagB) 0 false [.agg [.nilp, .nils]]] _ _ rfl (by omega) (by omega) (by simp) (bd_new [] 0) (by simp) (by simp) (by simp) (by simp)) ?_
  rintro e s' b st' h hf
  have h4 : get s' 4 = .hp 0 (86 * tagB) 2 0 0 := by rw [hf 4 rfl]; simp
  rw [List.drop_zero] at h
  unfold prtD
  cases hp : prtR (l.map Prod.fst) with
  | none =>
    rw [hp] at h
    obtain ⟨rfl, k', hk', hB⟩ := h
    obtain ⟨st3, p3⟩ := e49 st' 0 _ _ hB (by omega) hT
    simp [h4, p3]
  | some x =>
    rw [hp] at h
    obtain ⟨rfl, h2, h3⟩ := h
    simp [h2, h3]
end Go.Nt.Lk

/-
  THE LAW ScriptReads, walked and shown.
  No condition.
-/
set_option linter.unusedSimpArgs false
namespace Go.Nt.Lk
open Go Go.Nt

theorem qbs_ge (t : List UInt8) : t.length ≤ (qbs t).length := by
  induction t with
  | nil => simp
  | cons c t ih =>
    have : 1 ≤ (qb c).length := by
      unfold qb; split
      · simp
      · split
        · simp
        · split <;> simp
    have e : qbs (c :: t) = qb c ++ qbs t := by simp [qbs]
    rw [e, List.length_append, List.length_cons]; omega
theorem quo_ge (t : List UInt8) : t.length ≤ (quo t).length := by
  have := qbs_ge t
  simp [quo]; omega
theorem numsT_ge (ns : List Int) : ns.length ≤ (numsT ns).length := by
  induction ns with
  | nil => simp
  | cons n ns ih => rw [numsT_cons]; simp only [List.length_cons, List.length_append]; omega

theorem in0 : in64 0 := by unfold in64; omega
theorem rq0_in : RqIn rq0 := ⟨in0, in0, in0, by simp [rq0]⟩
theorem good_in {o : Opr} (h : Good o) (hl : (lineT o).length ≤ 33554000) : OpIn o := by
  cases h with
  | load t =>
    have := quo_ge t
    have e : lineT ⟨1, t, rq0, 0⟩ = [108, 111, 97, 100] ++ 32 :: quo t := rfl
    rw [e] at hl; simp only [List.length_append, List.length_cons] at hl
    exact ⟨rq0_in, in0, by simp only; omega, by simp [rq0], by simp [rq0]⟩
  | note t =>
    have := quo_ge t
    have e : lineT ⟨5, t, rq0, 0⟩ = [110, 111, 116, 101] ++ 32 :: quo t := rfl
    rw [e] at hl; simp only [List.length_append, List.length_cons] at hl
    exact ⟨rq0_in, in0, by simp only; omega, by simp [rq0], by simp [rq0]⟩
  | check t =>
    have := quo_ge t
    by_cases ht : t = []
    · subst ht
      exact ⟨rq0_in, in0, by simp, by simp [rq0], by simp [rq0]⟩
    · have e : lineT ⟨3, t, rq0, 0⟩ = [99, 104, 101, 99, 107] ++ 32 :: quo t := by unfold lineT; simp [ht]
      rw [e] at hl; simp only [List.length_append, List.length_cons] at hl
      exact ⟨rq0_in, in0, by simp only; omega, by simp [rq0], by simp [rq0]⟩
  | refactor q hq =>
    have h1 := quo_ge q.name
    have h2 := numsT_ge q.nums
    have e : lineT ⟨2, [], q, 0⟩ = [114, 101, 102, 97, 99, 116, 111, 114] ++ reqT q := rfl
    rw [e] at hl
    unfold reqT at hl
    simp only [List.length_append, List.length_cons] at hl
    exact ⟨hq, in0, by simp, by simp only; omega, by simp only; omega⟩
  | crash n hn => exact ⟨rq0_in, hn, by simp, by simp [rq0], by simp [rq0]⟩
  | word k hk => exact ⟨rq0_in, in0, by simp, by simp [rq0], by simp [rq0]⟩

theorem prtR_good : ∀ {os : List Opr}, (∀ o ∈ os, OpIn o ∧ Good o) → prtR os = none
  | [], _ => rfl
  | o :: os, h => by
    have h1 := h o (by simp)
    unfold prtR
    rw [(errO_iff h1.1).2 h1.2]
    exact prtR_good fun x hx => h x (by simp [hx])

theorem textT_mem {os : List Opr} {o : Opr} (h : o ∈ os) : (lineT o).length ≤ (textT os).length ∧ os.length ≤ (textT os).length := by
  induction os with
  | nil => cases h
  | cons x os ih =>
    rw [textT_cons]
    simp only [List.length_append, List.length_cons]
    have hn : ∀ l : List Opr, l.length ≤ (textT l).length := by
      intro l
      induction l with
      | nil => simp
      | cons y l ih => rw [textT_cons]; simp only [List.length_append, List.length_cons]; omega
    have := hn os
    rcases List.mem_cons.1 h with rfl | h
    · omega
    · have := ih h; omega
theorem textT_ge : ∀ l : List Opr, l.length ≤ (textT l).length := by
  intro l
  induction l with
  | nil => simp
  | cons y l ih => rw [textT_cons]; simp only [List.length_append, List.length_cons]; omega

def opsN (os : List Opr) : List Opf := os.map fun o => (o, .nil)
def opsR (os : List Opr) : List Opf := os.map fun o => (o, flR o)
theorem opsN_fst (os : List Opr) : (opsN os).map Prod.fst = os := by unfold opsN; rw [List.map_map]; exact List.map_id _
theorem opsR_fst (os : List Opr) : (opsR os).map Prod.fst = os := by unfold opsR; rw [List.map_map]; exact List.map_id _
theorem parD_N (os : List Opr) : slE 8 .nil (os.map Opr.enc) = opsD .nil (opsN os) := by
  unfold opsD opsN; rw [List.map_map]; rfl
theorem parD_R (os : List Opr) : slE 8 .emp (os.map Opr.encR) = opsD .emp (opsR os) := by
  unfold opsD opsR; rw [List.map_map]; rfl

theorem ev10 (s : List UInt8) : ∃ st', ev T 10 [.str s] [] = some (.bool true, st') := by
  suffices h : Ret (ev T 10 [.str s] []) fun r _ => r = .bool true by
    obtain ⟨r, st', h1, rfl⟩ := h
    exact ⟨st', h1⟩
  refine Ret_wp (fn := F10) rfl ?_
  have qa := c26
  rw [F10]
  by_cases hs : s.length ≤ 3000
  · have hs' : ¬ 3000 < (s.length : Int) := by omega
    have q1 := c29 s (by omega)
    have q2 := c34 s (by omega)
    rw [parQ_eq] at q2
    cases hp : parR (s.length + 1) s 1 with
    | error m =>
      rw [hp] at q1 q2
      obtain ⟨r, h1, q3⟩ := c33 [] [] .nil .emp (by simp) (by simp) []
      have hr : r = true := h1.2 rfl
      subst hr
      have q3' : callD T (ev T) 33 [.nils, .sl 8 true []] [] = some (.bool true, []) := q3
      simp only [parD, parD2] at q1 q2
      simp [hs', q1, q2, q3', qa]
    | ok os =>
      rw [hp] at q1 q2
      obtain ⟨g1, g2⟩ := parR_inv _ _ _ _ (by omega) hp
      have hin : ∀ o ∈ os, OpIn o ∧ Good o := fun o ho => by
        have := (textT_mem ho).1
        rw [← g2] at this
        exact ⟨good_in (g1 o ho) (by omega), g1 o ho⟩
      have hlen := textT_ge os
      rw [← g2] at hlen
      have hin2 : ∀ x ∈ opsN os, OpIn x.1 := fun x hx => by
        unfold opsN at hx
        obtain ⟨o, ho, rfl⟩ := List.mem_map.1 hx
        exact (hin o ho).1
      obtain ⟨r, h1, q3⟩ := c33 (opsN os) (opsR os) .nil .emp (by simp [opsN]; omega) (fun x hx => by have := (hin2 x hx).2.2.2.2; omega) []
      have hr : r = true := h1.2 (by unfold alike; rw [opsN_fst, opsR_fst])
      subst hr
      have q4 := c31 (opsN os) .nil hin2 (by simp [opsN]; omega) (by rw [opsN_fst, ← g2]; omega) []
      rw [opsN_fst] at q4
      unfold prtD at q4
      rw [prtR_good hin, ← g2] at q4
      simp only [parD, parD2, parD_N, parD_R] at q1 q2
      simp [hs', q1, q2, q3, q4, qa]
  · have hs' : 3000 < (s.length : Int) := by omega
    simp [hs', qa]
end Go.Nt.Lk

/-
  THE REFERENCE'S WRITER, walked (1): numbers.
  No condition.
-/
set_option linter.unusedSimpArgs false
namespace Go.Nt.Lk
open Go Go.Nt

theorem sdig_pos {n : Int} (h : 0 ≤ n) : sdig n = dig n.toNat := by unfold sdig; rw [if_neg (by omega)]
theorem sdig_neg {n : Int} (h : n < 0) : sdig n = 45 :: dig (-n).toNat := by unfold sdig; rw [if_pos h]
theorem dig_lt {u : Nat} (h : u < 10) : dig u = [d10 u] := by rw [dig, if_pos h]
theorem dig_ge {u : Nat} (h : ¬ u < 10) : dig u = dig (u / 10) ++ [d10 u] := by
  conv => lhs; rw [dig]
  rw [if_neg h]
theorem dig_le20 {u : Nat} (h : u < 100000000000000000000) : (dig u).length ≤ 20 := dig_len 19 u (by simpa using h)

theorem c43 : ∀ (m : Nat) (n : Int), n.natAbs < m → in64 n → ∀ st : St, callD T (ev T) 43 [.int .i64 n] st = some (.str (sdig n), st) := by
  intro m
  induction m with
  | zero => intro n h; omega
  | succ m ih =>
    intro n hm hn st
    obtain ⟨hn1, hn2⟩ := hn
    refine callD_pureQ (fn := F43) rfl rfl (by simp) (by simp) (by intro; rfl) ?_
    refine Ret_wp (fn := F43) rfl ?_
    rw [F43]
    by_cases h0 : n < 0
    · obtain ⟨u, hu⟩ : ∃ u : Nat, n = -(u : Int) := ⟨n.natAbs, by omega⟩
      subst hu
      have e0 : (- -(u : Int)).toNat = u := by omega
      rw [sdig_neg h0, e0]
      have hc := ch_d10 u
      have hub := unbyte_ch (d10 u)
      by_cases h10 : u < 10
      · have w1 : IntKind.wrap .i64 (48 + (u : Int)) = 48 + (u : Int) := by rw [wrap64] <;> omega
        have hu0 : 0 < u := by omega
        have hx : (u : Int) < 10 := by omega
        have w2 : IntKind.wrap .u8 (48 + (u : Int)) = ch (d10 u) := by rw [wrap8 (by omega) (by omega), hc]; omega
        have e1 : (-10 : Int) < -(u : Int) := by omega
        rw [dig_lt h10]
        generalize d10 u = x at *
        simp [hu0, hx, w1, w2, hub, List.mapM_cons]
      · have e1 : ¬ (-10 : Int) < -(u : Int) := by omega
        have t1 : (-(u : Int)).tdiv 10 = -((u / 10 : Nat) : Int) := by rw [Int.neg_tdiv, Int.tdiv_eq_ediv_of_nonneg (by omega)]; omega
        have t2 : (-(u : Int)).tmod 10 = -((u % 10 : Nat) : Int) := by rw [Int.neg_tmod, Int.tmod_eq_emod_of_nonneg (by omega)]; omega
        have w0 : IntKind.wrap .i64 (-((u / 10 : Nat) : Int)) = -((u / 10 : Nat) : Int) := by rw [wrap64] <;> omega
        have w1 : IntKind.wrap .i64 (48 + ((u % 10 : Nat) : Int)) = 48 + ((u % 10 : Nat) : Int) := by rw [wrap64] <;> omega
        have hu0 : 0 < u := by omega
        have w2 : IntKind.wrap .u8 (48 + ((u % 10 : Nat) : Int)) = ch (d10 u) := by rw [wrap8 (by omega) (by omega), hc]
        have q := callQ_pure (fn := F43) rfl rfl (by simp) (by simp) (ih (-((u / 10 : Nat) : Int)) (by omega) ⟨by omega, by omega⟩ [])
        rw [sdig_neg (by omega), show (- -((u / 10 : Nat) : Int)).toNat = u / 10 by omega] at q
        have hl := dig_le20 (u := u / 10) (by omega)
        have hl2 : dig (u / 10) ++ [d10 u] = dig u := (dig_ge h10).symm
        have hl3 : (dig (u / 10)).length + 1 + 1 ≤ 134217728 := by omega
        generalize u / 10 = u1 at *
        generalize u % 10 = u2 at *
        generalize dig u1 = x1 at *
        generalize dig u = x2 at *
        generalize d10 u = x at *
        simp [hu0, e1, t1, t2, w0, w1, w2, q, hub, List.mapM_cons, hl3, -Int.natCast_ediv, -Int.natCast_emod]
        exact hl2
    · obtain ⟨u, rfl⟩ : ∃ u : Nat, n = (u : Int) := ⟨n.natAbs, by omega⟩
      rw [sdig_pos (by omega), show (u : Int).toNat = u by omega]
      have hc := ch_d10 u
      have hub := unbyte_ch (d10 u)
      by_cases h10 : u < 10
      · have w1 : IntKind.wrap .i64 (48 + (u : Int)) = 48 + (u : Int) := by rw [wrap64] <;> omega
        have w2 : IntKind.wrap .u8 (48 + (u : Int)) = ch (d10 u) := by rw [wrap8 (by omega) (by omega), hc]; omega
        have e1 : (u : Int) < 10 := by omega
        rw [dig_lt h10]
        generalize d10 u = x at *
        simp [h0, e1, w1, w2, hub, List.mapM_cons]
      · have e1 : ¬ (u : Int) < 10 := by omega
        have t1 : (u : Int).tdiv 10 = ((u / 10 : Nat) : Int) := by rw [Int.tdiv_eq_ediv_of_nonneg (by omega)]; omega
        have t2 : (u : Int).tmod 10 = ((u % 10 : Nat) : Int) := by rw [Int.tmod_eq_emod_of_nonneg (by omega)]; omega
        have w0 : IntKind.wrap .i64 ((u / 10 : Nat) : Int) = ((u / 10 : Nat) : Int) := by rw [wrap64] <;> omega
        have w1 : IntKind.wrap .i64 (48 + ((u % 10 : Nat) : Int)) = 48 + ((u % 10 : Nat) : Int) := by rw [wrap64] <;> omega
        have w2 : IntKind.wrap .u8 (48 + ((u % 10 : Nat) : Int)) = ch (d10 u) := by rw [wrap8 (by omega) (by omega), hc]
        have q := callQ_pure (fn := F43) rfl rfl (by simp) (by simp) (ih ((u / 10 : Nat) : Int) (by omega) ⟨by omega, by omega⟩ [])
        rw [sdig_pos (by omega), show ((u / 10 : Nat) : Int).toNat = u / 10 by omega] at q
        have hl := dig_le20 (u := u / 10) (by omega)
        have hl2 : dig (u / 10) ++ [d10 u] = dig u := by rw [dig_ge h10]
        have hl3 : (dig (u / 10)).length + 1 ≤ 134217728 := by omega
        generalize u / 10 = u1 at *
        generalize u % 10 = u2 at *
        generalize dig u1 = x1 at *
        generalize dig u = x2 at *
        generalize d10 u = x at *
        simp [h0, e1, t1, t2, w0, w1, w2, q, hub, List.mapM_cons, hl3, -Int.natCast_ediv, -Int.natCast_emod]
        exact hl2
end Go.Nt.Lk

/-
  THE REFERENCE'S WRITER, walked (2): lines.
  No condition.
-/
set_option linter.unusedSimpArgs false
namespace Go.Nt.Lk
open Go Go.Nt

theorem c102 (n : Int) (h : in64 n) (st : St) : callD T (ev T) 102 [.int .i64 n] st = some (.str (sdig n), st) := by
  refine callD_pureQ (fn := F102) rfl rfl (by simp) (by simp) (by intro; rfl) ?_
  refine Ret_wp (fn := F102) rfl ?_
  have q := c43 (n.natAbs + 1) n (by omega) h []
  rw [F102]
  simp [q]

theorem numsT_take (ns : List Int) (i : Nat) (h : i < ns.length) : numsT (ns.take (i + 1)) = numsT (ns.take i) ++ 32 :: sdig ns[i] := by
  rw [List.take_succ_eq_append_getElem h]
  unfold numsT
  rw [List.flatMap_append]; simp [-List.take_append_getElem]
theorem numsT_len (ns : List Int) (i : Nat) (h : i < ns.length) : (numsT (ns.take i)).length + (sdig ns[i]).length + 1 ≤ (numsT ns).length := by
  have e : ns = ns.take (i + 1) ++ ns.drop (i + 1) := (List.take_append_drop _ _).symm
  have e2 : numsT ns = numsT (ns.take (i + 1)) ++ numsT (ns.drop (i + 1)) := by
    conv => lhs; rw [e]
    unfold numsT; rw [List.flatMap_append]
  rw [e2, numsT_take ns i h]
  simp only [List.length_append, List.length_cons]; omega

theorem l103 (ns : List Int) (fl : Fl) (hi : ∀ v ∈ ns, in64 v) (hn : ns.length ≤ 100000000) (hl : (numsT ns).length ≤ 134217728) (st : St) : ∀ (r i : Nat) (sl : List D) (bx : List (Nat × List D)), r = ns.length - i → i ≤ ns.length → get sl 0 = numsD fl ns → get sl 3 = .str (numsT (ns.take i)) → get sl 4 = .int .i64 i →
    Stops (lp T L103_0 ⟨⟨sl, bx⟩, st⟩) fun e s' _ _ => e = .exit 0 ∧ get s' 3 = .str (numsT ns) := by
  intro r
  induction r with
  | zero =>
    intro i sl bx hr hle h0 h3 h4
    have e : i = ns.length := by omega
    subst e
    rw [List.take_length] at h3
    refine Stops_wp L103_0.eq_1 ?_
    simp [h0, h3, h4]
  | succ r ih =>
    intro i sl bx hr hle h0 h3 h4
    have hlt : i < ns.length := by omega
    have w1 := wrap1 (a := i) (by omega)
    have q := c102 ns[i] (hi _ (List.getElem_mem hlt)) st
    have hb := numsT_len ns i hlt
    have ht := numsT_take ns i hlt
    have b1 : (numsT (ns.take i)).length + 1 ≤ 134217728 := by omega
    have b2 : (numsT (ns.take i)).length + 1 + (sdig ns[i]).length ≤ 134217728 := by omega
    have b3 : (numsT (ns.take i)).length + (1 + (sdig ns[i]).length) ≤ 134217728 := by omega
    have b4 : (numsT (ns.take i)).length + ((sdig ns[i]).length + 1) ≤ 134217728 := by omega
    have nx := fun sl' bx' => ih (i + 1) sl' bx' (by omega) (by omega)
    rw [ht] at nx
    generalize numsT (ns.take i) = x at *
    generalize hy : sdig ns[i] = y at *
    refine Stops_wp L103_0.eq_1 ?_
    simp [h0, h3, h4, hlt, q, hy, w1, b1, b2, b3, b4, -Int.natCast_add]
    exact nx _ _ (by simp [h0]) (by simp) (by simp)

theorem c103 (ns : List Int) (fl : Fl) (hi : ∀ v ∈ ns, in64 v) (hn : ns.length ≤ 100000000) (hl : (numsT ns).length ≤ 134217728) (st : St) : callD T (ev T) 103 [numsD fl ns] st = some (.str (numsT ns), st) := by
  refine callD_pureQ (fn := F103) rfl rfl (by simp) (by simp) (by intro; rfl) ?_
  refine Ret_wp (fn := F103) rfl ?_
  rw [F103]
  simp
  refine WL.use L103_0_p L103_0_w (l103 ns fl hi hn hl [] _ 0 _ _ rfl (by omega) (by simp) (by simp [numsT]) (by simp)) ?_
  rintro e s' b st' ⟨rfl, h3⟩ hf
  simp [h3]

theorem c101 (q : Rq) (fl : Fl) (st : St) : callD T (ev T) 101 [.agg (q.cells (numsD fl q.nums))] st = some (.bool (rqEq q rq0), st) := by
  refine callD_pureQ (fn := F101) rfl rfl (by simp [Rq.cells]) (by simp) (by intro; rfl) ?_
  refine Ret_wp (fn := F101) rfl ?_
  rw [F101]
  unfold rqEq Rq.cells rq0
  by_cases e1 : q.kind = 0
  · by_cases e2 : q.frm = 0
    · by_cases e3 : q.to = 0
      · by_cases e4 : q.name = []
        · have e5 : ((q.nums.length : Int) = 0) = (q.nums = []) := propext ⟨fun h => List.length_eq_zero_iff.1 (by omega), fun h => by rw [h]; rfl⟩
          simp [e1, e2, e3, e4, e5]
        · simp [e1, e2, e3, e4]
      · simp [e1, e2, e3]
    · simp [e1, e2]
  · simp [e1]

/-- What the reference finds wrong. -/
def lineL (o : Opr) : List UInt8 × Int := match errO o with
  | none => (lineT o, 0)
  | some e => ([], e)

theorem told_iff (o : Opr) : told o = true ↔ 1 ≤ o.kind ∧ o.kind ≤ 9 := by
  unfold told
  simp only [Bool.or_eq_true, decide_eq_true_eq, Bool.not_eq_true', decide_eq_false_iff_not, wWord_ne]
  omega

theorem sdig_len {n : Int} (h : in64 n) : (sdig n).length ≤ 21 := by
  obtain ⟨h1, h2⟩ := h
  unfold sdig
  split
  · have := dig_le20 (u := (-n).toNat) (by omega)
    simp; omega
  · have := dig_le20 (u := n.toNat) (by omega)
    omega

theorem errO_23 {o : Opr} (h : ¬ (1 ≤ o.kind ∧ o.kind ≤ 9)) : lineL o = ([], 23) := by
  have : told o = false := by
    cases ht : told o with
    | false => rfl
    | true => exact absurd ((told_iff o).1 ht) h
  unfold lineL errO
  rw [if_pos this]
theorem errO_2 {o : Opr} (h : 1 ≤ o.kind ∧ o.kind ≤ 9) (hb : ¬ o = bare o) : lineL o = ([], 2) := by
  have ht := (told_iff o).2 h
  have : opEq o (bare o) = false := by
    cases ho : opEq o (bare o) with
    | false => rfl
    | true => exact absurd ((opEq_iff _ _).1 ho) hb
  unfold lineL errO
  rw [if_neg (by simp [ht]), if_pos this]
theorem errO_0 {o : Opr} (h : 1 ≤ o.kind ∧ o.kind ≤ 9) (hb : o = bare o) : lineL o = (lineT o, 0) := by
  have ht := (told_iff o).2 h
  have := (opEq_iff _ _).2 hb
  unfold lineL errO
  rw [if_neg (by simp [ht]), if_neg (by simp [this])]

set_option maxRecDepth 20000 in
theorem c61 (o : Opr) (fl : Fl) (h : OpIn o) (hT : (lineT o).length ≤ 134217728) (st : St) : callD T (ev T) 61 [o.encF fl] st = some (.tup [.str (lineL o).1, .int .i64 (lineL o).2], st) := by
  refine callD_pureQ (fn := F61) rfl rfl (by rw [encF_eq]; simp) (by simp) (by intro; rfl) ?_
  refine Ret_wp (fn := F61) rfl ?_
  rw [F61, encF_eq]
  obtain ⟨hq, hn, ht, hm, hl⟩ := h
  have qb := c101 o.rq fl []
  unfold Rq.cells at qb
  obtain ⟨k, t, q, n⟩ := o
  simp only at hq hn ht hm hl qb hT ⊢
  by_cases hk : 1 ≤ k ∧ k ≤ 9
  · have b28 : ∀ x : List UInt8, (quo x).length ≤ 4 * x.length + 2 := fun x => by have := qbs_len x; simp [quo]; omega
    have qt := c28 t ht []
    have bt := b28 t
    have bt1 : 5 + (quo t).length ≤ 134217728 := by omega
    have bt2 : 6 + (quo t).length ≤ 134217728 := by omega
    have k1 : ¬ k < 1 := by omega
    have k9 : ¬ 9 < k := by omega
    by_cases hb : (⟨k, t, q, n⟩ : Opr) = bare ⟨k, t, q, n⟩
    · rw [errO_0 hk hb]
      unfold bare at hb
      simp only at hb
      have e00 : rqEq rq0 rq0 = true := (rqEq_iff _ _).2 rfl
      have hk' : k = 1 ∨ k = 2 ∨ k = 3 ∨ k = 4 ∨ k = 5 ∨ k = 6 ∨ k = 7 ∨ k = 8 ∨ k = 9 := by omega
      rcases hk' with rfl | rfl | rfl | rfl | rfl | rfl | rfl | rfl | rfl
      · simp at hb
        obtain ⟨rfl, rfl⟩ := hb
        rw [e00] at qb
        simp [qt, qb, bt1, bt2, lineT]
      · simp at hb
        obtain ⟨rfl, rfl⟩ := hb
        have n1 := c102 q.kind hq.1 []
        have n2 := c102 q.frm hq.2.1 []
        have n3 := c102 q.to hq.2.2.1 []
        have l1 := sdig_len hq.1
        have l2 := sdig_len hq.2.1
        have l3 := sdig_len hq.2.2.1
        have qm := c28 q.name hm []
        have lm := b28 q.name
        have eT : lineT ⟨2, [], q, 0⟩ = [114, 101, 102, 97, 99, 116, 111, 114] ++ reqT q := rfl
        rw [eT] at hT ⊢
        unfold reqT at hT ⊢
        simp only [List.length_append, List.length_cons] at hT
        have qn := c103 q.nums fl hq.2.2.2 (by omega) (by omega) []
        generalize sdig q.kind = x1 at *
        generalize sdig q.frm = x2 at *
        generalize sdig q.to = x3 at *
        generalize quo q.name = x4 at *
        generalize numsT q.nums = x5 at *
        simp [qb, n1, n2, n3, qm, qn]
        omega
      · simp at hb
        obtain ⟨rfl, rfl⟩ := hb
        rw [e00] at qb
        by_cases h0 : t = []
        · simp [qb, h0, lineT]
        · simp [qt, qb, bt1, bt2, h0, lineT]
      · simp at hb
        obtain ⟨rfl, rfl, rfl⟩ := hb
        rw [e00] at qb
        have qk := c104 4 []
        have wk : wWord 4 ≠ [] := by decide
        simp [qk, qb, lineT]
      · simp at hb
        obtain ⟨rfl, rfl⟩ := hb
        rw [e00] at qb
        simp [qt, qb, bt1, bt2, lineT]
      · simp at hb
        obtain ⟨rfl, rfl, rfl⟩ := hb
        rw [e00] at qb
        have qk := c104 6 []
        have wk : wWord 6 ≠ [] := by decide
        simp [qk, qb, lineT]
      · simp at hb
        obtain ⟨rfl, rfl⟩ := hb
        rw [e00] at qb
        have qn := c102 n hn []
        have ln := sdig_len hn
        have ln1 : 6 + (sdig n).length ≤ 134217728 := by omega
        simp [qn, qb, ln1, lineT]
      · simp at hb
        obtain ⟨rfl, rfl, rfl⟩ := hb
        rw [e00] at qb
        have qk := c104 8 []
        have wk : wWord 8 ≠ [] := by decide
        simp [qk, qb, lineT]
      · simp at hb
        obtain ⟨rfl, rfl, rfl⟩ := hb
        rw [e00] at qb
        have qk := c104 9 []
        have wk : wWord 9 ≠ [] := by decide
        simp [qk, qb, lineT]
    · rw [errO_2 hk hb]
      unfold bare at hb
      simp only at hb
      have hk' : k = 1 ∨ k = 2 ∨ k = 3 ∨ k = 4 ∨ k = 5 ∨ k = 6 ∨ k = 7 ∨ k = 8 ∨ k = 9 := by omega
      have ep : q = rq0 → rqEq q rq0 = true := fun h => (rqEq_iff _ _).2 h
      have en : ¬ q = rq0 → rqEq q rq0 = false := fun h => by
        cases hx : rqEq q rq0 with
        | false => rfl
        | true => exact absurd ((rqEq_iff _ _).1 hx) h
      rcases hk' with rfl | rfl | rfl | rfl | rfl | rfl | rfl | rfl | rfl
      · simp at hb
        by_cases h1 : q = rq0
        · have h2 := hb h1
          rw [ep h1, h1] at qb
          simp [qb, h1, h2]
        · rw [en h1] at qb
          simp [qb, h1]
      · simp at hb
        by_cases h1 : t = []
        · have h2 := hb h1
          simp [h1, h2]
        · simp [h1]
      · simp at hb
        by_cases h1 : q = rq0
        · have h2 := hb h1
          rw [ep h1, h1] at qb
          simp [qb, h1, h2]
        · rw [en h1] at qb
          simp [qb, h1]
      · simp at hb
        by_cases h1 : t = []
        · by_cases h2 : q = rq0
          · have h3 := hb h1 h2
            rw [ep h2, h2] at qb
            simp [qb, h1, h2, h3]
          · rw [en h2] at qb
            simp [qb, h1]
        · simp [h1]
      · simp at hb
        by_cases h1 : q = rq0
        · have h2 := hb h1
          rw [ep h1, h1] at qb
          simp [qb, h1, h2]
        · rw [en h1] at qb
          simp [qb, h1]
      · simp at hb
        by_cases h1 : t = []
        · by_cases h2 : q = rq0
          · have h3 := hb h1 h2
            rw [ep h2, h2] at qb
            simp [qb, h1, h2, h3]
          · rw [en h2] at qb
            simp [qb, h1]
        · simp [h1]
      · simp at hb
        by_cases h1 : t = []
        · by_cases h2 : q = rq0
          · exact absurd h2 (hb h1)
          · rw [en h2] at qb
            simp [qb, h1]
        · simp [h1]
      · simp at hb
        by_cases h1 : t = []
        · by_cases h2 : q = rq0
          · have h3 := hb h1 h2
            rw [ep h2, h2] at qb
            simp [qb, h1, h2, h3]
          · rw [en h2] at qb
            simp [qb, h1]
        · simp [h1]
      · simp at hb
        by_cases h1 : t = []
        · by_cases h2 : q = rq0
          · have h3 := hb h1 h2
            rw [ep h2, h2] at qb
            simp [qb, h1, h2, h3]
          · rw [en h2] at qb
            simp [qb, h1]
        · simp [h1]
  · rw [errO_23 hk]
    by_cases k1 : k < 1
    · simp [k1]
    · have k9 : 9 < k := by omega
      simp [k1, k9]
end Go.Nt.Lk

/-
  THE REFERENCE'S WRITER, walked (3): scripts; how large operations are.
  No condition.
-/
set_option linter.unusedSimpArgs false
namespace Go.Nt.Lk
open Go Go.Nt

theorem l32 (l : List Opf) (fl : Fl) (hin : ∀ x ∈ l, OpIn x.1) (hl : l.length ≤ 50000000) (hT : (textT (l.map Prod.fst)).length ≤ 134217728) (st : St) : ∀ (r i : Nat) (sl : List D) (bx : List (Nat × List D)), r = l.length - i → i ≤ l.length →
    get sl 0 = opsD fl l → get sl 4 = .str (textT ((l.map Prod.fst).take i)) → get sl 5 = .int .i64 i →
    Stops (lp T L32_0 ⟨⟨sl, bx⟩, st⟩) fun e s' _ _ => match prtR ((l.map Prod.fst).drop i) with
      | none => e = .exit 0 ∧ get s' 4 = .str (textT (l.map Prod.fst))
      | some x => e = .ret ∧ get s' 2 = .str [] ∧ get s' 3 = .int .i64 x := by
  intro r
  induction r with
  | zero =>
    intro i sl bx hr hi h0 h4 h5
    have e : i = l.length := by omega
    subst e
    rw [List.take_of_length_le (by simp)] at h4
    rw [List.drop_of_length_le (by simp)]
    refine Stops_wp L32_0.eq_1 ?_
    simp [h0, h5, prtR]
    exact h4
  | succ r ih =>
    intro i sl bx hr hi h0 h4 h5
    have hlt : i < l.length := by omega
    have hlt' : i < (l.map Prod.fst).length := by simpa using hlt
    have w1 := wrap1 (a := i) (by omega)
    have i1 := opsD_idx fl l i hlt
    have f1 : (l[i].d).fits (some 8) = true := rfl
    have hO : (l.map Prod.fst)[i] = l[i].1 := by simp
    have hi1 := hin l[i] (List.getElem_mem hlt)
    have hT1 := textT_len (l.map Prod.fst) i hlt'
    have hTs := textT_succ (l.map Prod.fst) i hlt'
    have hd : (l.map Prod.fst).drop i = l[i].1 :: (l.map Prod.fst).drop (i + 1) := by rw [List.drop_eq_getElem_cons hlt', hO]
    rw [hd]
    rw [hO] at hT1 hTs
    have nx := fun sl' bx' => ih (i + 1) sl' bx' (by omega) (by omega)
    rw [hTs] at nx
    have q1 := c61 l[i].1 l[i].2 hi1 (by omega) st
    have q1' : callD T (ev T) 61 [l[i].d] st = some (.tup [.str (lineL l[i].1).1, .int .i64 (lineL l[i].1).2], st) := q1
    unfold prtR
    have hne : ∀ x, errO l[i].1 = some x → x ≠ 0 := by
      intro x hx
      unfold errO at hx
      split at hx
      · cases hx; decide
      · split at hx
        · cases hx; decide
        · cases hx
    unfold lineL at q1'
    refine Stops_wp L32_0.eq_1 ?_
    cases he : errO l[i].1 with
    | some x =>
      have hx := hne x he
      rw [he] at q1'
      simp only at q1' ⊢
      simp [h0, h4, h5, hlt, i1, f1, q1', hx, -Int.natCast_add]
    | none =>
      rw [he] at q1'
      simp only at q1' ⊢
      generalize textT ((l.map Prod.fst).take i) = x1 at *
      generalize hy : lineT l[i].1 = x2 at *
      have b1 : x1.length + x2.length ≤ 134217728 := by omega
      have b2 : x1.length + x2.length + 1 ≤ 134217728 := by omega
      have b3 : x1.length + (x2.length + 1) ≤ 134217728 := by omega
      simp [h0, h4, h5, hlt, i1, f1, q1', w1, b1, b2, b3, -Int.natCast_add]
      exact nx _ _ (by simp [h0]) (by simp) (by simp)

theorem c32 (l : List Opf) (fl : Fl) (hin : ∀ x ∈ l, OpIn x.1) (hl : l.length ≤ 50000000) (hT : (textT (l.map Prod.fst)).length ≤ 134217728) (st : St) : callD T (ev T) 32 [opsD fl l] st = some (prtD (l.map Prod.fst), st) := by
  refine callD_pureQ (fn := F32) rfl rfl (by simp) (by unfold prtD; cases prtR (l.map Prod.fst) <;> rfl) (by intro st; unfold prtD; cases prtR (l.map Prod.fst) <;> rfl) ?_
  refine Ret_wp (fn := F32) rfl ?_
  rw [F32]
  simp
  refine WL.use L32_0_p L32_0_w (l32 l fl hin hl hT [] _ 0 _ _ rfl (by omega) (by simp) (by simp [textT]) (by simp)) ?_
  rintro e s' b st' h hf
  rw [List.drop_zero] at h
  unfold prtD
  cases hp : prtR (l.map Prod.fst) with
  | none =>
    rw [hp] at h
    obtain ⟨rfl, h4⟩ := h
    simp [h4]
  | some x =>
    rw [hp] at h
    obtain ⟨rfl, h2, h3⟩ := h
    simp [h2, h3]

/-- Is an operation too large? -/
def bigO (o : Opr) : Bool := decide (500 < o.text.length) || decide (100 < o.rq.name.length) || decide (100 < o.rq.nums.length)

theorem l30 (l : List Opf) (fl : Fl) (hl : l.length ≤ 16) (st : St) : ∀ (r i : Nat) (sl : List D) (bx : List (Nat × List D)), r = l.length - i → i ≤ l.length → get sl 1 = opsD fl l → get sl 5 = .int .i64 i →
    Stops (lp T L30_0 ⟨⟨sl, bx⟩, st⟩) fun e s' _ st' => st' = st ∧ ((e = .exit 0) ∨ (e = .ret ∧ get s' 4 = .bool true)) := by
  intro r
  induction r with
  | zero =>
    intro i sl bx hr hi h1 h5
    have e : i = l.length := by omega
    subst e
    refine Stops_wp L30_0.eq_1 ?_
    simp [h1, h5]
  | succ r ih =>
    intro i sl bx hr hi h1 h5
    have hlt : i < l.length := by omega
    have h16 : (i : Int) < 16 := by omega
    have w1 := wrap1 (a := i) (by omega)
    have i1 := opsD_idx fl l i hlt
    have nx := fun sl' bx' => ih (i + 1) sl' bx' (by omega) (by omega)
    have hd8 : l[i].d = l[i].1.encF l[i].2 := rfl
    rw [hd8, encF_eq] at i1
    generalize l[i].1 = o at *
    generalize l[i].2 = f at *
    refine Stops_wp L30_0.eq_1 ?_
    by_cases e1 : 500 < o.text.length
    · have e1' : (500 : Int) < o.text.length := by omega
      simp [h1, h5, hlt, h16, i1, e1', -Int.natCast_add]
    · have e1' : ¬ (500 : Int) < o.text.length := by omega
      by_cases e2 : 100 < o.rq.name.length
      · have e2' : (100 : Int) < o.rq.name.length := by omega
        simp [h1, h5, hlt, h16, i1, e1', e2', -Int.natCast_add]
      · have e2' : ¬ (100 : Int) < o.rq.name.length := by omega
        by_cases e3 : 100 < o.rq.nums.length
        · have e3' : (100 : Int) < o.rq.nums.length := by omega
          simp [h1, h5, hlt, h16, i1, e1', e2', e3', -Int.natCast_add]
        · have e3' : ¬ (100 : Int) < o.rq.nums.length := by omega
          simp [h1, h5, hlt, h16, i1, e1', e2', e3', w1, -Int.natCast_add]
          exact nx _ _ (by simp [h1]) (by simp)

theorem c30 (l : List Opf) (fl : Fl) (hl : l.length ≤ 16) (st : St) : ∃ r, callD T (ev T) 30 [.nils, opsD fl l] st = some (.bool r, st) := by
  suffices h : Ret (ev T 30 [.nils, opsD fl l] []) fun d _ => ∃ r : Bool, d = .bool r by
    obtain ⟨d, st', h1, r, rfl⟩ := h
    exact ⟨r, callD_pure (fn := F30) rfl rfl (by simp) h1 (by rfl) rfl⟩
  refine Ret_wp (fn := F30) rfl ?_
  rw [F30]
  simp
  refine WL.use L30_0_p L30_0_w (l30 l fl hl [] _ 0 _ _ rfl (by omega) (by simp) (by simp)) ?_
  rintro e s' b' st' ⟨rfl, rfl | ⟨rfl, h4⟩⟩ hf
  · have h0 : get s' 0 = .nils := by rw [hf 0 rfl]; simp
    have h1 : get s' 1 = opsD fl l := by rw [hf 1 rfl]; simp
    have hl' : ¬ (16 : Int) < l.length := by omega
    simp [h0, h1, hl']
  · simp [h4]
end Go.Nt.Lk

/-
  THE LAW ScriptBack, walked and shown.
  No condition.
-/
set_option linter.unusedSimpArgs false
namespace Go.Nt.Lk
open Go Go.Nt

theorem opsD_to (fl : Fl) (l : List Opf) (k : IntKind) (m : Nat) (h : m ≤ l.length) : ∃ fl', sliceD (opsD fl l) none (some (.int k m)) none = some (opsD fl' (l.take m)) := by
  have h1 : (m : Int) ≤ l.length := by omega
  have h0 : (0 : Int) ≤ m := by omega
  unfold opsD
  cases l with
  | nil =>
    have : m = 0 := by simpa using h
    subst this
    cases fl with
    | nil => exact ⟨.nil, by simp [slE, sliceD, boundD]⟩
    | emp => exact ⟨.emp, by simp [slE, sliceD, boundD]⟩
    | part => exact ⟨.part, by simp [slE, sliceD, boundD]⟩
    | full => exact ⟨.full, by simp [slE, sliceD, boundD]⟩
  | cons x r =>
    have key : ∀ b : Bool, ∃ fl', sliceD (.sl 8 b ((x :: r).map Opf.d)) none (some (.int k m)) none = some (slE 8 fl' (((x :: r).take m).map Opf.d)) := by
      intro b
      have e : (List.take m ((x :: r).map Opf.d)) = ((x :: r).take m).map Opf.d := by rw [List.map_take]
      have hl : (m : Int) ≤ ((x :: r).map Opf.d).length := by simpa using h1
      refine ⟨if (b && (m == ((x :: r).map Opf.d).length)) then .full else .part, ?_⟩
      have e2 : sliceD (.sl 8 b ((x :: r).map Opf.d)) none (some (.int k m)) none = some (.sl 8 (b && (m == ((x :: r).map Opf.d).length)) (((x :: r).take m).map Opf.d)) := by
        simp only [sliceD, boundD, hl, h0, and_self, if_true, Option.bind_some, Int.toNat_natCast, e, List.drop_zero]
      rw [e2]
      cases (b && (m == ((x :: r).map Opf.d).length)) <;> rfl
    cases fl with
    | nil => exact key false
    | emp => exact key false
    | part => exact key false
    | full => exact key true

@[simp] theorem opsD_slcTy (fl : Fl) (l : List Opf) : slcTy (some 8) (opsD fl l) = true := by cases l <;> cases fl <;> simp [opsD, slE, slcTy]

theorem prtR_none : ∀ {os : List Opr}, (∀ o ∈ os, OpIn o) → prtR os = none → ∀ o ∈ os, Good o
  | [], _, _ => by simp
  | o :: os, hi, h => by
    unfold prtR at h
    cases he : errO o with
    | some x => rw [he] at h; cases h
    | none =>
      rw [he] at h
      have h1 := (errO_iff (hi o (by simp))).1 he
      have h2 := prtR_none (fun x hx => hi x (by simp [hx])) h
      intro x hx
      rcases List.mem_cons.1 hx with rfl | hx
      · exact h1
      · exact h2 x hx

theorem prtR_ne : ∀ {os : List Opr} {x : Int}, prtR os = some x → x ≠ 0
  | [], x, h => by cases h
  | o :: os, x, h => by
    unfold prtR at h
    cases he : errO o with
    | some y =>
      rw [he] at h
      cases h
      unfold errO at he
      split at he
      · cases he; decide
      · split at he
        · cases he; decide
        · cases he
    | none => rw [he] at h; exact prtR_ne h

theorem ev9 (l : List Opf) (fl : Fl) (hin : l.length ≤ 40 → ∀ x ∈ l, OpIn x.1) (hT : l.length ≤ 40 → (textT (l.map Prod.fst)).length ≤ 30000000) : ∃ st', ev T 9 [opsD fl l] [] = some (.bool true, st') := by
  suffices h : Ret (ev T 9 [opsD fl l] []) fun r _ => r = .bool true by
    obtain ⟨r, st', h1, rfl⟩ := h
    exact ⟨st', h1⟩
  refine Ret_wp (fn := F9) rfl ?_
  have qa := c26
  rw [F9]
  by_cases h40 : l.length ≤ 40
  · have h40' : ¬ (40 : Int) < l.length := by omega
    have hin := hin h40
    have hT := hT h40
    obtain ⟨fl', hs⟩ := opsD_to fl l .i64 (min l.length 16) (by omega)
    obtain ⟨r, q0⟩ := c30 (l.take (min l.length 16)) fl' (by simp; omega) []
    have hm : kMM false (.int .i64 (l.length : Int)) (.int .i64 16) = some (.int .i64 ((min l.length 16 : Nat) : Int), none, none) := by
      by_cases h : l.length ≤ 16
      · have e1 : min l.length 16 = l.length := by omega
        have e2 : ¬ (16 : Int) < l.length := by omega
        rw [e1]; simp [e2]
      · have e1 : min l.length 16 = 16 := by omega
        have e2 : (16 : Int) < l.length := by omega
        rw [e1]; simp [e2]
    generalize min l.length 16 = mm at *
    generalize opsD fl' (l.take mm) = ol at *
    cases r with
    | true =>
      simp [h40', hm, hs, q0, qa]
    | false =>
      have q1 := c31 l fl hin (by omega) (by omega)
      have q2 := c32 l fl hin (by omega) (by omega)
      unfold prtD at q1 q2
      cases hp : prtR (l.map Prod.fst) with
      | some x =>
        have hx := prtR_ne hp
        rw [hp] at q1 q2
        simp only at q1 q2
        simp [h40', hm, hs, q0, q1, q2, qa, hx]
      | none =>
        rw [hp] at q1 q2
        simp only at q1 q2
        have hG := prtR_none (fun o ho => by obtain ⟨x, hx, rfl⟩ := List.mem_map.1 ho; exact hin x hx) hp
        have q3 := c29 (textT (l.map Prod.fst)) hT
        rw [parR_of _ _ 1 (by omega) hG] at q3
        simp only [parD, parD_N] at q3
        obtain ⟨r, h1, q4⟩ := c33 (opsN (l.map Prod.fst)) l .nil fl (by simp [opsN]; omega) (fun x hx => by
          unfold opsN at hx
          obtain ⟨o, ho, rfl⟩ := List.mem_map.1 hx
          obtain ⟨y, hy, rfl⟩ := List.mem_map.1 ho
          have := (hin y hy).2.2.2.2
          simp only; omega) []
        have hr : r = true := h1.2 (by unfold alike; rw [opsN_fst])
        subst hr
        generalize textT (l.map Prod.fst) = tt at *
        generalize opsN (l.map Prod.fst) = nn at *
        simp [h40', hm, hs, q0, q1, q2, q3, q4, qa]
  · have h40' : (40 : Int) < l.length := by omega
    simp [h40', qa]
end Go.Nt.Lk

/-
  HOW LONG A SCRIPT IS, of operations of some bulk.
  No condition.
-/
set_option linter.unusedSimpArgs false
namespace Go.Nt.Lk
open Go Go.Nt

def wt (o : Opr) : Nat := o.text.length + o.rq.name.length + o.rq.nums.length
def wts : List Opf → Nat
  | [] => 0
  | x :: l => wt x.1 + wts l

theorem numsT_22 : ∀ ns : List Int, (∀ v ∈ ns, in64 v) → (numsT ns).length ≤ 22 * ns.length
  | [], _ => by simp [numsT]
  | n :: ns, h => by
    have h1 := sdig_len (h n (by simp))
    have h2 := numsT_22 ns fun v hv => h v (by simp [hv])
    rw [numsT_cons]
    simp only [List.length_cons, List.length_append]; omega
theorem quo_4 (t : List UInt8) : (quo t).length ≤ 4 * t.length + 2 := by
  have := qbs_len t
  simp [quo]; omega
theorem lineT_wt {o : Opr} (h : RqIn o.rq ∧ in64 o.n) : (lineT o).length ≤ 90 + 22 * wt o := by
  obtain ⟨⟨h1, h2, h3, h4⟩, h5⟩ := h
  have a1 := quo_4 o.text
  have a2 := quo_4 o.rq.name
  have a3 := numsT_22 o.rq.nums h4
  have a4 := sdig_len h1
  have a5 := sdig_len h2
  have a6 := sdig_len h3
  have a7 := sdig_len h5
  unfold wt lineT
  split
  · simp only [List.length_append, List.length_cons, List.length_nil]; omega
  split
  · simp only [List.length_append, List.length_cons, List.length_nil]; omega
  split
  · split
    · simp; omega
    · simp only [List.length_append, List.length_cons, List.length_nil]; omega
  split
  · unfold reqT
    simp only [List.length_append, List.length_cons, List.length_nil]; omega
  split
  · simp only [List.length_append, List.length_cons, List.length_nil]; omega
  · unfold wWord
    repeat' split
    all_goals simp
    all_goals omega
theorem textT_wt : ∀ l : List Opf, (∀ y ∈ l, RqIn y.1.rq ∧ in64 y.1.n) → (textT (l.map Prod.fst)).length ≤ 91 * l.length + 22 * wts l
  | [], _ => by simp [textT]
  | y :: l, h => by
    have h1 := lineT_wt (h y (by simp))
    have h2 := textT_wt l fun x hx => h x (by simp [hx])
    rw [List.map_cons, textT_cons]
    simp only [List.length_append, List.length_cons, wts]
    omega
theorem wts_mem : ∀ {l : List Opf} {y : Opf}, y ∈ l → wt y.1 ≤ wts l
  | x :: l, y, h => by
    unfold wts
    rcases List.mem_cons.1 h with rfl | h
    · omega
    · have := wts_mem h; omega

/-- The law, for operations of some bulk. -/
theorem ev9w (l : List Opf) (fl : Fl) (hin : ∀ y ∈ l, RqIn y.1.rq ∧ in64 y.1.n) (hw : wts l ≤ 1048576) : ∃ st', ev T 9 [opsD fl l] [] = some (.bool true, st') := by
  refine ev9 l fl (fun _ y hy => ?_) fun h40 => ?_
  · have h1 := wts_mem hy
    unfold wt at h1
    exact ⟨(hin y hy).1, (hin y hy).2, by omega, by omega, by omega⟩
  · have := textT_wt l hin
    omega
end Go.Nt.Lk
