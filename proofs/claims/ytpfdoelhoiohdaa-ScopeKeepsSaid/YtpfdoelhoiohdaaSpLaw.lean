/-
  NUMBERS' TEXTS, plainly; how the reference spells a number, walked.
  No condition.
-/
import Derived.Test.YtpfdoelhoiohdaaSpGot
import Derived.Test.YtpfdoelhoiohdaaSpEnd
import Derived.Test.YtpfdoelhoiohdaaSpRen
import Derived.Test.YtpfdoelhoiohdaaSpTop
import Derived.Test.YtpfdoelhoiohdaaSpSim
set_option linter.unusedSimpArgs false
set_option maxRecDepth 20000
namespace Go.Nt.Lk
open Go Go.Nt

def d10 (u : Nat) : UInt8 := UInt8.ofNat (48 + u % 10)
/-- A number's digits. -/
def dig (u : Nat) : List UInt8 := if u < 10 then [d10 u] else dig (u / 10) ++ [d10 u]
theorem dig_len : ∀ (k u : Nat), u < 10 ^ (k + 1) → (dig u).length ≤ k + 1
  | 0, u, h => by rw [dig, if_pos (by omega)]; simp
  | k + 1, u, h => by
    rw [dig]
    split
    · simp
    · have := dig_len k (u / 10) (by rw [Nat.pow_succ] at h; omega)
      rw [List.length_append]; simp; omega
theorem ch_d10 (u : Nat) : ch (d10 u) = 48 + ((u % 10 : Nat) : Int) := by
  simp only [ch, d10, UInt8.toNat_ofNat']; omega
theorem dig_digit : ∀ (n u : Nat), u < n → (dig u).all digitB = true ∧ dig u ≠ []
  | 0, u, h => by omega
  | n + 1, u, h => by
    have hd : digitB (d10 u) = true := by
      have := ch_d10 u
      unfold digitB
      rw [Bool.and_eq_true, decide_eq_true_eq, decide_eq_true_eq]; omega
    rw [dig]
    split
    · simp [hd]
    · have := dig_digit n (u / 10) (by omega)
      simp [hd, this.1]
theorem numV_app (d : List UInt8) (c : UInt8) (v : Int) : numV (d ++ [c]) v = numV d v * 10 + (ch c - 48) := by
  unfold numV; rw [List.foldl_append]; rfl
theorem d10_eq {c : UInt8} {u : Nat} (hu : (u : Int) % 10 = ch c - 48) : d10 u = c := by
  apply UInt8.toNat_inj.1
  have := ch_d10 u
  simp only [ch] at this hu ⊢
  omega
theorem numV_pos {d : List UInt8} (hd : digits d) {c : UInt8} (hh : d.head? = some c) (hc : ch c ≠ 48) : 1 ≤ numV d 0 := by
  cases d with
  | nil => cases hh
  | cons x d =>
    cases hh
    rw [numV_cons]
    have h1 := hd c (by simp)
    have := le_numV d (0 * 10 + (ch c - 48)) (fun y hy => hd y (by simp [hy])) (by omega)
    omega
theorem dig_numV : ∀ (n : Nat) (d : List UInt8), d.length = n + 1 → digits d → (1 < d.length → ∀ c, d.head? = some c → ch c ≠ 48) → 0 ≤ numV d 0 ∧ dig (numV d 0).toNat = d
  | 0, d, hl, hd, _ => by
    match d, hl with
    | [c], _ =>
      have h := hd c (by simp)
      have e : numV [c] 0 = ch c - 48 := by rw [numV_cons]; simp [numV]
      rw [e]
      refine ⟨by omega, ?_⟩
      rw [dig, if_pos (by omega), d10_eq (c := c) (by omega)]
  | n + 1, d, hl, hd, hh => by
    rcases List.eq_nil_or_concat d with rfl | ⟨d', c, rfl⟩
    · simp at hl
    · simp only [List.concat_eq_append] at *
      have hl' : d'.length = n + 1 := by simpa using hl
      obtain ⟨x, hx⟩ : ∃ x, d'.head? = some x := by cases d' with | nil => simp at hl' | cons x t => exact ⟨x, rfl⟩
      have hx2 : (d' ++ [c]).head? = some x := by cases d' with | nil => simp at hl' | cons y t => simpa using hx
      have hnz := hh (by rw [hl]; omega) x hx2
      have hd' : digits d' := fun y hy => hd y (by simp [hy])
      have hc := hd c (by simp)
      have hp := numV_pos hd' hx hnz
      obtain ⟨g1, g2⟩ := dig_numV n d' hl' hd' (fun _ y hy => by rw [hx] at hy; cases hy; exact hnz)
      rw [numV_app]
      refine ⟨by omega, ?_⟩
      rw [dig, if_neg (by omega)]
      have e1 : (numV d' 0 * 10 + (ch c - 48)).toNat / 10 = (numV d' 0).toNat := by omega
      rw [e1, g2, d10_eq (c := c) (by omega)]
theorem numV_dig : ∀ (n u : Nat), u < n → numV (dig u) 0 = u
  | 0, u, h => by omega
  | n + 1, u, h => by
    have e := ch_d10 u
    rw [dig]
    split
    · rw [numV_cons]; simp only [numV, List.foldl_nil, e]; omega
    · rw [numV_app, numV_dig n (u / 10) (by omega), e]; omega
theorem dig_head : ∀ (n u : Nat), u < n → 1 ≤ u → ∃ c t, dig u = c :: t ∧ ch c ≠ 48
  | 0, u, h, _ => by omega
  | n + 1, u, h, h1 => by
    have e := ch_d10 u
    rw [dig]
    split
    · exact ⟨_, _, rfl, by omega⟩
    · obtain ⟨c, t, h2, h3⟩ := dig_head n (u / 10) (by omega) (by omega)
      exact ⟨c, t ++ [d10 u], by rw [h2]; rfl, h3⟩
theorem dig_lt {u : Nat} (h : u < 10) : dig u = [d10 u] := by rw [dig, if_pos h]
theorem dig_ge {u : Nat} (h : ¬ u < 10) : dig u = dig (u / 10) ++ [d10 u] := by
  conv => lhs; rw [dig]
  rw [if_neg h]
theorem dig_le20 {u : Nat} (h : u < 100000000000000000000) : (dig u).length ≤ 20 := dig_len 19 u (by simpa using h)
theorem wrap8 {n : Int} (h : 0 ≤ n) (h' : n < 256) : IntKind.wrap .u8 n = n := by
  simp [IntKind.wrap, IntKind.signed, IntKind.bits]; omega
theorem unbyte_ch (c : UInt8) : unbyte (.int .u8 (ch c)) = some c := by
  have := c.toNat_lt
  unfold unbyte
  simp only
  rw [if_pos (by simp only [ch]; omega)]
  simp
theorem callQ_pure {f : Nat} {fn : IFunc} (hT : T f = some fn) (hm : fn.mode = .pure) {args : List D} {q : D} (hargs : args.all D.pure = true) (hp : pureArgs [] args = some (args, [])) (h : callD T (ev T) f args [] = some (q, [])) : callQD T (ev T) f args = some q := by
  simp only [callD, callQD, hT, hm, hp, hargs, if_true, Option.bind_some] at h ⊢
  cases h1 : ev T f args [] with
  | none => rw [h1] at h; cases h
  | some r =>
    rw [h1] at h
    simp only [Option.bind_some] at h ⊢
    cases h2 : fz r.2 r.1 with
    | none => rw [h2] at h; cases h
    | some p =>
      rw [h2] at h
      simp only [Option.bind_some] at h ⊢
      split at h
      · simp only [Option.some.injEq, Prod.mk.injEq] at h
        rename_i hq
        rw [if_pos hq, h.1]
      · cases h

theorem c43 : ∀ (m u : Nat), u < m → u < 9223372036854775808 → ∀ st : St, callD T (ev T) 43 [.int .i64 u] st = some (.str (dig u), st) := by
  intro m
  induction m with
  | zero => intro u h; omega
  | succ m ih =>
    intro u hm hn st
    refine callD_pureQ (fn := F43) rfl rfl (by simp) (by simp) (by intro; rfl) ?_
    refine Ret_wp (fn := F43) rfl ?_
    rw [F43]
    have h0 : ¬ (u : Int) < 0 := by omega
    have hc := ch_d10 u
    have hub := unbyte_ch (d10 u)
    by_cases h10 : u < 10
    · have w1 : IntKind.wrap .i64 (48 + (u : Int)) = 48 + (u : Int) := by rw [wrap64] <;> omega
      have w2 : IntKind.wrap .u8 (48 + (u : Int)) = ch (d10 u) := by rw [wrap8 (by omega) (by omega), hc]; omega
      have e1 : (u : Int) < 10 := by omega
      rw [dig_lt h10]
      generalize d10 u = x at *
      simp [h0, e1, w1, w2, hub, List.mapM_cons]
    · have e1 : ¬ (u : Int) < 10 := by omega
      have t1 : (u : Int).tdiv 10 = ((u / 10 : Nat) : Int) := by rw [Int.tdiv_eq_ediv_of_nonneg (by omega)]; omega
      have t2 : (u : Int).tmod 10 = ((u % 10 : Nat) : Int) := by rw [Int.tmod_eq_emod_of_nonneg (by omega)]; omega
      have w0 : IntKind.wrap .i64 ((u / 10 : Nat) : Int) = ((u / 10 : Nat) : Int) := by rw [wrap64] <;> omega
      have w1 : IntKind.wrap .i64 (48 + ((u % 10 : Nat) : Int)) = 48 + ((u % 10 : Nat) : Int) := by rw [wrap64] <;> omega
      have w2 : IntKind.wrap .u8 (48 + ((u % 10 : Nat) : Int)) = ch (d10 u) := by rw [wrap8 (by omega) (by omega), hc]
      have q := callQ_pure (fn := F43) rfl rfl (by simp) (by simp) (ih (u / 10) (by omega) (by omega) [])
      have hl := dig_le20 (u := u / 10) (by omega)
      have hl2 : dig (u / 10) ++ [d10 u] = dig u := by rw [dig_ge h10]
      have hl3 : (dig (u / 10)).length + 1 ≤ 134217728 := by omega
      generalize u / 10 = u1 at *
      generalize u % 10 = u2 at *
      generalize dig u1 = x1 at *
      generalize dig u = x2 at *
      generalize d10 u = x at *
      simp [h0, e1, t1, t2, w0, w1, w2, q, hub, List.mapM_cons, hl3, -Int.natCast_ediv, -Int.natCast_emod]
      exact hl2

/-- How a token is spelt. -/
def spellT (t : Tok) : List UInt8 := if t.k = 2 then dig t.n.toNat else if t.k = 1 ∨ t.k = 3 ∨ t.k = 4 then t.s else []
theorem c17 (t : Tok) (h : t.k = 2 → 0 ≤ t.n ∧ t.n < 9223372036854775808) (st : St) : callD T (ev T) 17 [t.enc] st = some (.str (spellT t), st) := by
  refine callD_pureQ (fn := F17) rfl rfl (by simp) (by simp) (by intro; rfl) ?_
  refine Ret_wp (fn := F17) rfl ?_
  rw [F17]
  unfold spellT Tok.enc
  by_cases h2 : t.k = 2
  · obtain ⟨h3, h4⟩ := h h2
    have q := fun st => c43 (t.n.toNat + 1) t.n.toNat (by omega) (by omega) st
    rw [Int.toNat_of_nonneg h3] at q
    have h2' := eq_true h2
    simp [h2', q, splice, fillD]
  · by_cases h1 : t.k = 1
    · have h1' := eq_true h1
      simp [h2, h1', splice, fillD]
    · by_cases h3 : t.k = 3
      · have h3' := eq_true h3
        simp [h2, h1, h3', splice, fillD]
      · by_cases h4 : t.k = 4
        · have h4' := eq_true h4
          simp [h2, h1, h3, h4', splice, fillD]
        · simp [h2, h1, h3, h4, splice, fillD]
end Go.Nt.Lk

/-
  A TEXT SPELT ANEW, its names one letter longer: its tokens.
  No condition.
-/
set_option linter.unusedSimpArgs false
set_option maxRecDepth 20000
namespace Go.Nt.Lk
open Go Go.Nt

/-- What a token of a text is. -/
def TokOk (t : Tok) : Prop :=
  (∃ c r, t.s = c :: r ∧ letterB c = true ∧ (∀ x, x ∈ t.s → moreB x = true) ∧ t.s.length ≤ 16 ∧ t.n = 0 ∧ ((t.k = 1 ∧ isWordB t.s = false) ∨ (t.k = 3 ∧ isWordB t.s = true))) ∨
  (t.k = 2 ∧ t.s = [] ∧ 0 ≤ t.n ∧ t.n ≤ 9223372036854775807) ∨
  (t.k = 4 ∧ t.n = 0 ∧ ∃ c, letterB c = false ∧ digitB c = false ∧ ((t.s = [c] ∧ signN (ch c) 32 = 1) ∨ ∃ d, t.s = [c, d] ∧ signN (ch c) (ch d) = 2))

theorem mem_take_while {p : UInt8 → Bool} : ∀ {l : List UInt8} {x : UInt8}, x ∈ l.takeWhile p → p x = true
  | y :: l, x, h => by
    rw [List.takeWhile_cons] at h
    split at h
    · next hy =>
      rcases List.mem_cons.1 h with rfl | h
      · exact hy
      · exact mem_take_while h
    · cases h
theorem signN_2 {c d : Int} (h : signN c d ≠ 0) : signN c d = 1 ∧ signN c 32 = 1 ∨ signN c d = 2 ∧ d ≠ 0 := by
  unfold signN at h ⊢
  split at h
  · next hc =>
    rw [if_pos hc, if_pos hc]
    split at h
    · next hd => right; rw [if_pos hd]; omega
    · next hd => left; rw [if_neg hd]; simp
  · next hc =>
    rw [if_neg hc, if_neg hc]
    split at h
    · next hc2 =>
      rw [if_pos hc2, if_pos hc2]
      split at h
      · next hd => right; rw [if_pos hd]; omega
      · exact absurd rfl h
    · next hc2 =>
      rw [if_neg hc2, if_neg hc2]
      split at h
      · next hc3 => left; rw [if_pos hc3]; simp
      · exact absurd rfl h

theorem one_ok {s : List UInt8} {a : Nat} {t : Tok} (ha : a < s.length) (h : oneT s a = .inl t) : TokOk t := by
  have hd := List.drop_eq_getElem_cons ha
  unfold oneT at h
  rw [List.getElem?_eq_getElem ha] at h
  simp only at h
  split at h
  · next hl =>
    split at h
    · cases h
    · next hlen =>
      cases h
      have hm : moreB s[a] = true := by simp [moreB, hl]
      have hs := seg_run moreB s a
      refine .inl ⟨s[a], (s.drop (a + 1)).takeWhile moreB, ?_, hl, ?_, ?_, rfl, ?_⟩
      · simp only; rw [hs, hd, List.takeWhile_cons_of_pos hm]
      · simp only; rw [hs]; exact fun x hx => mem_take_while hx
      · simp only
        rw [hs]
        unfold runEnd at hlen
        omega
      · simp only
        cases hw : isWordB (seg s a (runEnd moreB s a)) with
        | true => right; simp
        | false => left; simp
  · next hl =>
    split at h
    · next hdg =>
      split at h
      · cases h
      · next hn =>
        cases h
        have hs := seg_run digitB s a
        refine .inr (.inl ⟨rfl, rfl, ?_, by simp only; omega⟩)
        simp only
        refine le_numV _ 0 (fun c hc => ?_) (by omega)
        rw [hs] at hc
        have := mem_take_while hc
        unfold digitB at this
        rw [Bool.and_eq_true, decide_eq_true_eq, decide_eq_true_eq] at this
        exact this
    · next hdg =>
      split at h
      · cases h
      · next hn =>
        cases h
        refine .inr (.inr ⟨rfl, rfl, s[a], by simpa using hl, by simpa using hdg, ?_⟩)
        simp only
        rcases signN_2 hn with ⟨h1, h2⟩ | ⟨h1, h2⟩
        · left
          refine ⟨?_, h2⟩
          rw [h1]
          unfold seg
          rw [List.drop_take, Nat.add_sub_cancel_left, hd]
          rfl
        · right
          unfold chAt at h1 h2 ⊢
          cases hx : s[a + 1]? with
          | none => rw [hx] at h2; exact absurd rfl h2
          | some d =>
            rw [hx] at h1
            simp only at h1 ⊢
            refine ⟨d, ?_, h1⟩
            rw [h1]
            obtain ⟨hb, rfl⟩ := List.getElem?_eq_some_iff.1 hx
            unfold seg
            rw [List.drop_take, Nat.add_sub_cancel_left, hd, List.drop_eq_getElem_cons hb]
            rfl

theorem toksF_ok (s : List UInt8) : ∀ (r a : Nat) (ts : List Tok), r = s.length - a → (∀ t, t ∈ ts → TokOk t) → ∀ l, toksF s a ts = .inl l → ∃ us, l = us ++ [⟨5, 0, [], s.length, s.length⟩] ∧ ∀ t, t ∈ us → TokOk t := by
  intro r
  induction r using Nat.strongRecOn with
  | ind r ih =>
    intro a ts hr hts l h
    rw [toksF] at h
    split at h
    · next ha =>
      split at h
      · next t ht =>
        have h1 := oneT_to ha ht
        have h2 := le_nextP s t.t
        refine ih (s.length - nextP s t.t) (by omega) _ _ rfl (fun u hu => ?_) l h
        rcases List.mem_append.1 hu with q | q
        · exact hts u q
        · rw [List.mem_singleton] at q; subst q; exact one_ok ha ht
      · cases h
    · cases h; exact ⟨ts, rfl, hts⟩

/-- How a token stands in the longer text. -/
def longT (t : Tok) : List UInt8 := spellT t ++ (if t.k = 1 then [122] else []) ++ [32]
def longs (l : List Tok) : List UInt8 := l.flatMap longT

/-- How the longer token is. -/
def Rt (t t' : Tok) : Prop := t'.k = t.k ∧ t'.n = t.n ∧ (t.k = 1 → t.s ≠ [] ∧ t'.s = ren t.s) ∧ (t.k ≠ 1 → t'.s = t.s)

theorem word_z : ∀ (w : List UInt8), isWordB (w ++ [122]) = false := by
  intro w
  have key : ∀ v : List UInt8, v.getLast? ≠ some 122 → decide (w ++ [122] = v) = false := fun v hv => by
    rw [decide_eq_false_iff_not]
    rintro rfl
    simp at hv
  unfold isWordB
  rw [key _ (by decide), key _ (by decide), key _ (by decide), key _ (by decide), key _ (by decide), key _ (by decide), key _ (by decide), key _ (by decide), key _ (by decide), key _ (by decide), key _ (by decide), key _ (by decide), key _ (by decide), key _ (by decide), key _ (by decide), key _ (by decide), key _ (by decide), key _ (by decide), key _ (by decide), key _ (by decide)]
  rfl

theorem tw_stop {p : UInt8 → Bool} : ∀ (w : List UInt8) (r : List UInt8), (∀ x, x ∈ w → p x = true) → p 32 = false → (w ++ 32 :: r).takeWhile p = w
  | [], r, _, h => by rw [List.nil_append, List.takeWhile_cons_of_neg (by simp [h])]
  | x :: w, r, hw, h => by
    rw [List.cons_append, List.takeWhile_cons_of_pos (hw x (by simp)), tw_stop w r (fun y hy => hw y (by simp [hy])) h]

/-- The token that stands there. -/
theorem one_long {X : List UInt8} {a : Nat} {t : Tok} (rest : List UInt8) (h : TokOk t) (hn : t.k = 1 → t.s.length < 16) (hX : X.drop a = longT t ++ rest) :
    ∃ t', oneT X a = .inl t' ∧ Rt t t' ∧ t'.t + 1 = a + (longT t).length ∧ X.drop t'.t = 32 :: rest ∧ ∃ c r, X.drop a = c :: r ∧ blankB c = false ∧ slashB X a = false := by
  have get0 : ∀ c r, X.drop a = c :: r → X[a]? = some c := fun c r h => by
    have : (X.drop a)[0]? = some c := by rw [h]; rfl
    rw [List.getElem?_drop] at this
    simpa using this
  have get1 : ∀ c d r, X.drop a = c :: d :: r → X[a + 1]? = some d := fun c d r h => by
    have : (X.drop a)[1]? = some d := by rw [h]; rfl
    rw [List.getElem?_drop] at this
    simpa using this
  have slash : ∀ c r, X.drop a = c :: r → c ≠ 47 → slashB X a = false := fun c r h hc => by
    unfold slashB
    rw [get0 c r h]
    simp [hc]
  have dropW : ∀ w, X.drop a = w ++ 32 :: rest → X.drop (a + w.length) = 32 :: rest := fun w h => by
    rw [← List.drop_drop, h, List.drop_append_of_le_length (Nat.le_refl _), List.drop_length]
    rfl
  have segW : ∀ w, X.drop a = w ++ 32 :: rest → seg X a (a + w.length) = w := fun w h => by
    unfold seg
    rw [List.drop_take, Nat.add_sub_cancel_left, h, List.take_append_of_le_length (Nat.le_refl _), List.take_length]
  have runW : ∀ (p : UInt8 → Bool) w, X.drop a = w ++ 32 :: rest → (∀ x, x ∈ w → p x = true) → p 32 = false → runEnd p X a = a + w.length := fun p w h hw h32 => by
    unfold runEnd
    rw [h, tw_stop w rest hw h32]
  have m32 : moreB 32 = false := by decide
  have d32 : digitB 32 = false := by decide
  rcases h with ⟨c, r, hs, hl, hall, hlen, hn0, hk⟩ | ⟨hk, hs, hn0, hn1⟩ | ⟨hk, hn0, c, hl, hd, hsg⟩
  · -- a name, or a word
    have nb : blankB c = false ∧ c ≠ 47 := by
      unfold letterB at hl
      unfold blankB
      constructor
      · simp only [Bool.or_eq_true, Bool.and_eq_true, decide_eq_true_eq, Bool.or_eq_false_iff, decide_eq_false_iff_not] at hl ⊢
        omega
      · rintro rfl; revert hl; decide
    have key : ∀ (w : List UInt8) (kk : Int), X.drop a = w ++ 32 :: rest → w = c :: (w.drop 1) → (∀ x, x ∈ w → moreB x = true) → w.length ≤ 16 → (if isWordB w then (3 : Int) else 1) = kk → oneT X a = .inl ⟨kk, 0, w, a, a + w.length⟩ := by
      intro w kk hw hc hm hle hkk
      have hd : X.drop a = c :: (w.drop 1 ++ 32 :: rest) := by rw [hw]; conv => lhs; rw [hc]
                                                               rfl
      unfold oneT
      rw [get0 _ _ hd]
      simp only
      rw [if_pos hl, runW moreB w hw hm m32, if_neg (by omega), segW w hw, hkk]
    rcases hk with ⟨hk, hw⟩ | ⟨hk, hw⟩
    · have hsp : longT t = (t.s ++ [122]) ++ [32] := by unfold longT spellT; simp [hk]
      have hX' : X.drop a = (t.s ++ [122]) ++ 32 :: rest := by rw [hX, hsp, List.append_assoc (t.s ++ [122])]; rfl
      have hn' := hn hk
      refine ⟨_, key (t.s ++ [122]) 1 hX' (by rw [hs]; rfl) (fun x hx => ?_) (by simp; omega) (by rw [word_z]; rfl), ⟨hk.symm, hn0.symm, fun _ => ⟨by rw [hs]; simp, ?_⟩, fun c => absurd hk c⟩, ?_, dropW _ hX', c, _, by rw [hX', hs]; rfl, nb.1, slash c _ (by rw [hX', hs]; rfl) nb.2⟩
      · rcases List.mem_append.1 hx with h | h
        · exact hall x h
        · rw [List.mem_singleton] at h; subst h; decide
      · show t.s ++ [122] = ren t.s
        unfold ren
        rw [if_neg (by rw [hs]; simp)]
      · rw [hsp]; simp only [List.length_append, List.length_singleton]; omega
    · have hsp : longT t = t.s ++ [32] := by unfold longT spellT; simp [hk]
      have hX' : X.drop a = t.s ++ 32 :: rest := by rw [hX, hsp, List.append_assoc]; rfl
      refine ⟨_, key t.s 3 hX' (by rw [hs]; rfl) hall hlen (by rw [hw]; rfl), ⟨hk.symm, hn0.symm, fun c => by omega, fun _ => rfl⟩, ?_, dropW _ hX', c, _, by rw [hX', hs]; rfl, nb.1, slash c _ (by rw [hX', hs]; rfl) nb.2⟩
      rw [hsp]; simp only [List.length_append, List.length_singleton]; omega
  · -- a number
    have hsp : longT t = dig t.n.toNat ++ [32] := by unfold longT spellT; simp [hk]
    have hX' : X.drop a = dig t.n.toNat ++ 32 :: rest := by rw [hX, hsp, List.append_assoc]; rfl
    obtain ⟨g1, g2⟩ := dig_digit (t.n.toNat + 1) t.n.toNat (by omega)
    rw [List.all_eq_true] at g1
    have hv := numV_dig (t.n.toNat + 1) t.n.toNat (by omega)
    obtain ⟨c, r, hcr⟩ : ∃ c r, dig t.n.toNat = c :: r := by
      cases h : dig t.n.toNat with
      | nil => exact absurd h g2
      | cons c r => exact ⟨c, r, rfl⟩
    have hc := g1 c (by rw [hcr]; simp)
    have hc' : 48 ≤ ch c ∧ ch c ≤ 57 := by
      unfold digitB at hc
      rw [Bool.and_eq_true, decide_eq_true_eq, decide_eq_true_eq] at hc
      exact hc
    have nb : blankB c = false ∧ c ≠ 47 ∧ letterB c = false := by
      refine ⟨?_, ?_, ?_⟩
      · unfold blankB
        simp only [Bool.or_eq_false_iff, decide_eq_false_iff_not]
        omega
      · rintro rfl; revert hc; decide
      · unfold letterB
        simp only [Bool.or_eq_false_iff, Bool.and_eq_false_iff, decide_eq_false_iff_not]
        omega
    have hd : X.drop a = c :: (r ++ 32 :: rest) := by rw [hX', hcr]; rfl
    have hnz : ¬ (1 < (dig t.n.toNat).length ∧ ch c = 48) := by
      rintro ⟨h1, h2⟩
      by_cases h0 : t.n.toNat < 10
      · rw [dig_lt h0] at h1; simp at h1
      · obtain ⟨c', r', e, hne⟩ := dig_head (t.n.toNat + 1) t.n.toNat (by omega) (by omega)
        rw [hcr] at e
        cases e
        exact hne h2
    refine ⟨⟨2, t.n, [], a, a + (dig t.n.toNat).length⟩, ?_, ⟨hk.symm, rfl, fun c => by omega, fun _ => hs.symm⟩, ?_, dropW _ hX', c, _, hd, nb.1, slash c _ hd nb.2.1⟩
    · unfold oneT
      rw [get0 _ _ hd]
      simp only
      rw [if_neg (by rw [nb.2.2]; simp), if_pos hc, runW digitB _ hX' g1 d32, segW _ hX', hv, Int.toNat_of_nonneg hn0]
      rw [if_neg (by
        rintro (h | h)
        · exact hnz ⟨by omega, h.2⟩
        · omega)]
    · rw [hsp]; simp only [List.length_append, List.length_singleton]; omega
  · -- a sign
    have hsp : longT t = t.s ++ [32] := by unfold longT spellT; simp [hk]
    have hX' : X.drop a = t.s ++ 32 :: rest := by rw [hX, hsp, List.append_assoc]; rfl
    have len : (longT t).length = t.s.length + 1 := by rw [hsp]; simp
    rcases hsg with ⟨hs, h1⟩ | ⟨d, hs, h2⟩
    · have hd' : X.drop a = c :: 32 :: rest := by rw [hX', hs]; rfl
      have hb : blankB c = false := by
        unfold signN at h1
        unfold blankB
        simp only [Bool.or_eq_false_iff, decide_eq_false_iff_not]
        split at h1
        · omega
        · split at h1
          · omega
          · split at h1 <;> omega
      refine ⟨⟨4, 0, t.s, a, a + 1⟩, ?_, ⟨hk.symm, hn0.symm, fun c => by omega, fun _ => rfl⟩, by rw [len, hs]; rfl, ?_, c, _, hd', hb, ?_⟩
      · unfold oneT
        rw [get0 _ _ hd']
        simp only
        have hca : chAt X (a + 1) = 32 := by unfold chAt; rw [get1 _ _ _ hd']; rfl
        rw [if_neg (by rw [hl]; simp), if_neg (by rw [hd]; simp), hca, h1, if_neg (by decide)]
        have := segW t.s hX'
        rw [hs] at this ⊢
        rw [show a + [c].length = a + 1 from rfl] at this
        rw [this]
      · have := dropW t.s hX'
        rw [hs] at this
        exact this
      · unfold slashB
        rw [get1 _ _ _ hd']
        simp
    · have hd' : X.drop a = c :: d :: 32 :: rest := by rw [hX', hs]; rfl
      have hb : blankB c = false ∧ c ≠ 47 := by
        unfold signN at h2
        have h3 : ch c = 61 ∨ ch c = 33 ∨ ch c = 60 ∨ ch c = 62 ∨ ch c = 38 ∨ ch c = 124 := by
          split at h2
          · omega
          · split at h2
            · omega
            · split at h2 <;> omega
        refine ⟨?_, ?_⟩
        · unfold blankB
          simp only [Bool.or_eq_false_iff, decide_eq_false_iff_not]
          omega
        · rintro rfl; revert h3; decide
      refine ⟨⟨4, 0, t.s, a, a + 2⟩, ?_, ⟨hk.symm, hn0.symm, fun c => by omega, fun _ => rfl⟩, by rw [len, hs]; rfl, ?_, c, _, hd', hb.1, slash c _ hd' hb.2⟩
      · unfold oneT
        rw [get0 _ _ hd']
        simp only
        have hca : chAt X (a + 1) = ch d := by unfold chAt; rw [get1 _ _ _ hd']
        rw [if_neg (by rw [hl]; simp), if_neg (by rw [hd]; simp), hca, h2, if_neg (by decide)]
        have := segW t.s hX'
        rw [hs] at this ⊢
        rw [show a + [c, d].length = a + 2 from rfl] at this
        rw [this]
      · have := dropW t.s hX'
        rw [hs] at this
        exact this
end Go.Nt.Lk

/-
  A TEXT SPELT ANEW, its names one letter longer: all its tokens.
  No condition.
-/
set_option linter.unusedSimpArgs false
set_option maxRecDepth 20000
namespace Go.Nt.Lk
open Go Go.Nt

def Rts : List Tok → List Tok → Prop
  | [], [] => True
  | a :: l, b :: k => Rt a b ∧ Rts l k
  | _, _ => False
theorem Rts.len : ∀ {l k : List Tok}, Rts l k → k.length = l.length
  | [], [], _ => rfl
  | _ :: l, _ :: k, h => by simp [Rts.len h.2]
  | [], _ :: _, h => h.elim
  | _ :: _, [], h => h.elim
theorem Rts.now : ∀ {l k : List Tok}, Rts l k → ∀ i, Rt ((l).getD i ⟨5, 0, [], 0, 0⟩) (k.getD i ⟨5, 0, [], 0, 0⟩)
  | [], [], _, i => ⟨rfl, rfl, (fun h => by cases h), fun _ => rfl⟩
  | _ :: l, _ :: k, h, 0 => h.1
  | _ :: l, _ :: k, h, i + 1 => Rts.now h.2 i
  | [], _ :: _, h, _ => h.elim
  | _ :: _, [], h, _ => h.elim
theorem Rts.snoc {a b : Tok} (hab : Rt a b) : ∀ {l k : List Tok}, Rts l k → Rts (l ++ [a]) (k ++ [b])
  | [], [], _ => ⟨hab, trivial⟩
  | _ :: l, _ :: k, h => ⟨h.1, Rts.snoc hab h.2⟩
  | [], _ :: _, h => h.elim
  | _ :: _, [], h => h.elim

theorem toksF_long : ∀ (us : List Tok) (X pre : List UInt8) (ts : List Tok), X = pre ++ (longs us ++ [32]) → (∀ t, t ∈ us → TokOk t ∧ (t.k = 1 → t.s.length < 16)) →
    ∃ us', toksF X (nextP X pre.length) ts = .inl (ts ++ us' ++ [⟨5, 0, [], X.length, X.length⟩]) ∧ Rts us us'
  | [], X, pre, ts, hX, _ => by
    have hlen : X.length = pre.length + 1 := by rw [hX]; simp [longs]
    have hg : X[pre.length]? = some 32 := by rw [hX]; simp [longs]
    have hlt : pre.length < X.length := by omega
    have e32 : X[pre.length] = 32 := by
      rw [List.getElem?_eq_getElem hlt] at hg
      exact Option.some.inj hg
    have hb : blankB X[pre.length] = true := by rw [e32]; decide
    have h1 : nextP X pre.length = X.length := by
      rw [nextP, dif_pos hlt, if_pos hb, nextP, dif_neg (by omega), hlen]
    rw [h1, toksF, dif_neg (by omega)]
    exact ⟨[], by simp, trivial⟩
  | t :: us, X, pre, ts, hX, h => by
    obtain ⟨h1, h2⟩ := h t (by simp)
    have hl : longs (t :: us) = longT t ++ longs us := rfl
    have hdrop : X.drop pre.length = longT t ++ (longs us ++ [32]) := by
      rw [hX, List.drop_append_of_le_length (Nat.le_refl _), List.drop_length, hl]
      simp
    obtain ⟨t', g1, g2, g3, g4, c, r, g5, g6, g7⟩ := one_long (longs us ++ [32]) h1 h2 hdrop
    have hlt : pre.length < X.length := by
      have := congrArg List.length g5
      rw [List.length_drop, List.length_cons] at this
      omega
    have hc : X[pre.length] = c := by
      have := List.drop_eq_getElem_cons hlt
      rw [g5] at this
      exact (List.cons.inj this).1.symm
    have n1 : nextP X pre.length = pre.length := by
      rw [nextP, dif_pos hlt, if_neg (by rw [hc, g6]; simp), dif_neg (by rw [g7]; simp)]
    have hlt2 : t'.t < X.length := by
      have := congrArg List.length g4
      rw [List.length_drop, List.length_cons] at this
      omega
    have hc2 : X[t'.t] = 32 := by
      have := List.drop_eq_getElem_cons hlt2
      rw [g4] at this
      exact (List.cons.inj this).1.symm
    have n2 : nextP X t'.t = nextP X (pre ++ longT t).length := by
      rw [nextP, dif_pos hlt2, if_pos (by rw [hc2]; decide), g3]
      simp
    obtain ⟨us', k1, k2⟩ := toksF_long us X (pre ++ longT t) (ts ++ [t']) (by rw [hX, hl]; simp) (fun u hu => h u (by simp [hu]))
    refine ⟨t' :: us', ?_, g2, k2⟩
    rw [n1, toksF, dif_pos hlt]
    split
    · next u hu =>
      rw [g1] at hu
      cases hu
      rw [n2, k1]
      simp
    · next e he => rw [g1] at he; cases he

theorem Rt5 (a b : Nat) : Rt ⟨5, 0, [], a, a⟩ ⟨5, 0, [], b, b⟩ := ⟨rfl, rfl, (fun h => absurd (show (5 : Int) = 1 from h) (by decide)), fun _ => rfl⟩
theorem toks_long {s : List UInt8} {l : List Tok} (h : toksR s = .inl l) (hn : ∀ t, t ∈ l → t.k = 1 → t.s.length < 16) (hlen : (longs l).length ≤ 8192) : ∃ l', toksR (longs l) = .inl l' ∧ Longer l l' := by
  unfold toksR at h
  split at h
  · cases h
  next hs =>
  obtain ⟨us, rfl, hus⟩ := toksF_ok s _ _ _ rfl (fun t ht => by cases ht) l h
  have hX : longs (us ++ [⟨5, 0, [], s.length, s.length⟩]) = longs us ++ [32] := by
    unfold longs
    rw [List.flatMap_append]
    rfl
  rw [hX] at hlen ⊢
  obtain ⟨us', k1, k2⟩ := toksF_long us (longs us ++ [32]) [] [] rfl (fun t ht => ⟨hus t ht, hn t (by simp [ht])⟩)
  refine ⟨us' ++ [⟨5, 0, [], (longs us ++ [32]).length, (longs us ++ [32]).length⟩], ?_, ?_⟩
  · unfold toksR
    rw [if_neg (by omega)]
    rw [List.length_nil] at k1
    rw [k1]
    rfl
  · have R : Rts (us ++ [⟨5, 0, [], s.length, s.length⟩]) (us' ++ [⟨5, 0, [], (longs us ++ [32]).length, (longs us ++ [32]).length⟩]) := Rts.snoc (Rt5 _ _) k2
    exact ⟨R.len, fun i => R.now i⟩

theorem long_len {t : Tok} (h : TokOk t ∨ t.k = 5) : (longT t).length ≤ 30 := by
  unfold longT spellT
  rcases h with (⟨c, r, hs, hl, hall, hlen, hn0, hk⟩ | ⟨hk, hs, hn0, hn1⟩ | ⟨hk, hn0, c, hl, hd, hsg⟩) | hk
  · have h2 : ¬ t.k = 2 := by omega
    rw [if_neg h2]
    split <;> split <;> simp <;> omega
  · rw [if_pos hk]
    have := dig_le20 (u := t.n.toNat) (by omega)
    split <;> simp <;> omega
  · have h2 : ¬ t.k = 2 := by omega
    have hl2 : t.s.length ≤ 2 := by rcases hsg with ⟨h, _⟩ | ⟨d, h, _⟩ <;> rw [h] <;> simp
    rw [if_neg h2]
    split <;> split <;> simp <;> omega
  · have h2 : ¬ t.k = 2 := by omega
    rw [if_neg h2, if_neg (by omega), if_neg (by omega)]
    simp
end Go.Nt.Lk

/-
  THE LAWS OF SCOPE, walked: each answers true for every text.
  No condition.
-/
set_option linter.unusedSimpArgs false
set_option maxRecDepth 20000
namespace Go.Nt.Lk
open Go Go.Nt

theorem parse_ok {s : List UInt8} {m : Tm} (h : parseR s = .ok m) : (∀ x, x ∈ m.l → declX x = true) ∧ cntT m ≤ 20000 ∧ m.k = 36 := by
  unfold parseR at h
  cases ht : toksR s with
  | inr x => obtain ⟨a, e⟩ := x; rw [ht] at h; cases h
  | inl l =>
    rw [ht] at h
    obtain ⟨E, h0, hl⟩ := toks_ended ht
    simp only at h
    split at h
    · cases h
    next h1 =>
    have h1 := Classical.not_not.1 h1
    split at h
    · cases h
    split at h
    · cases h
    cases h
    have hc := declsP_cg l (l.length + 1) 0 [] h1
    have ha := declsP_at E (l.length + 1) 0 [] h0 h1
    simp only [cntTs] at hc
    refine ⟨decls_ok l _ _ _ (fun x hx => by cases hx) h1, ?_, rfl⟩
    show cntT (modT s _) ≤ 20000
    rw [cntT_eq]
    show cntTs (declsP l (l.length + 1) 0 []).ts + 1 ≤ 20000
    omega

theorem declsP_e (l : List Tok) (E : Ended l) : ∀ n a out, a < l.length → ¬ (declsP l n a out).e = 0 → (declsP l n a out).e = 6
  | 0, a, out, _, h => by rw [declsP]
  | n + 1, a, out, ha, h => by
    rw [declsP] at h ⊢
    split at h
    · exact absurd rfl h
    next c =>
    rw [if_neg c]
    split at h
    · next q => rw [if_pos q]; exact ((declP_ok E ha).2 q).1
    next q =>
    rw [if_neg q]
    exact declsP_e l E n _ _ ((declP_ok E ha).1 (Classical.not_not.1 q)).2 h

theorem parse_err {s : List UInt8} {a e : Int} (h : parseR s = .error (a, e)) : e ≠ 0 := by
  unfold parseR at h
  cases ht : toksR s with
  | inr x => obtain ⟨a', e'⟩ := x; rw [ht] at h; cases h; exact toksR_err ht
  | inl l =>
    rw [ht] at h
    obtain ⟨E, h0, hl⟩ := toks_ended ht
    simp only at h
    split at h
    · next q => cases h; rw [declsP_e l E _ _ _ h0 q]; decide
    split at h
    · cases h; decide
    split at h
    · cases h; decide
    · cases h

theorem parse_long {s s' : List UInt8} {l l' : List Tok} (h : toksR s = .inl l) (h' : toksR s' = .inl l') (H : Longer l l') {m m' : Tm} (hm : parseR s = .ok m) (hm' : parseR s' = .ok m') : Ln m m' := by
  unfold parseR at hm hm'
  rw [h] at hm
  rw [h'] at hm'
  simp only at hm hm'
  split at hm
  · cases hm
  split at hm
  · cases hm
  split at hm
  · cases hm
  split at hm'
  · cases hm'
  split at hm'
  · cases hm'
  split at hm'
  · cases hm'
  cases hm
  cases hm'
  have := (declsP_sim H (l.length + 1) 0 [] [] rfl).2.2
  rw [H.len]
  unfold Ln modT
  simp only [eraR, eraL, this]
  rfl

theorem kept_cnt (a : Tm) : ∀ b, keptT a b = true → cntT b = cntT a := by
  induction a using Tm.ind with
  | h a ih =>
    intro b h
    have h6 := ((keptT_iff a b).1 h).2.2.2.2.2
    rw [cntT_eq, cntT_eq a]
    have : ∀ (l k : List Tm), (∀ x, x ∈ l → x ∈ a.l) → keptT.keptTs l k = true → cntTs k = cntTs l := by
      intro l
      induction l with
      | nil =>
        intro k _ hk
        cases k with
        | nil => rfl
        | cons y k => cases hk
      | cons x l il =>
        intro k hx hk
        cases k with
        | nil => cases hk
        | cons y k =>
          simp only [keptT.keptTs, Bool.and_eq_true] at hk
          simp only [cntTs, ih x (hx x (by simp)) y hk.1, il k (fun z hz => hx z (by simp [hz])) hk.2]
    rw [this a.l b.l (fun _ h => h) h6]

/-- Does the program answer at all? -/
def m0 : Tm := .mk 36 0 [] .full [.mk 32 0 [97] .full [.mk 1 0 [] .nil [] 0 0] 0 0] 0 0
theorem m0_enc : encT m0 = .agg [.int .i64 36, .int .i64 0, .str [], .sl 6 true [.agg [.int .i64 32, .int .i64 0, .str [97], .sl 6 true [.agg [.int .i64 1, .int .i64 0, .str [], .nils, .int .i64 0, .int .i64 0]], .int .i64 0, .int .i64 0]], .int .i64 0, .int .i64 0] := rfl
theorem m0_res : resolveR qn m0 = .ok (.mk 36 0 [] .nil [.mk 32 0 [] .nil [.mk 1 0 [] .nil [] 0 0] 0 0] 0 0) := by
  simp [resolveR, m0, twiceR, declsR, declR, anyR, anyRs, badN, numN]
theorem c11 (st : St) : callD T (ev T) 11 [] st = some (.bool true, st) := by
  refine callD_pureQ (fn := F11) rfl rfl (by simp) (by simp) (by intro; rfl) ?_
  refine Ret_wp (fn := F11) rfl ?_
  rw [F11]
  have q := fun st => c13 m0 (by simp [m0, cntT, cntTs]) (fun x hx => by simp [m0] at hx; subst hx; simp [declX, plX_eq]) st
  have z : trD (.ok (.mk 36 0 [] .nil [.mk 32 0 [] .nil [.mk 1 0 [] .nil [] 0 0] 0 0] 0 0)) = .tup [.agg [.int .i64 36, .int .i64 0, .str [], .sl 6 false [.agg [.int .i64 32, .int .i64 0, .str [], .sl 6 false [.agg [.int .i64 1, .int .i64 0, .str [], .nils, .int .i64 0, .int .i64 0]], .int .i64 0, .int .i64 0]], .int .i64 0, .int .i64 0], .i 0, .i 0] := rfl
  rw [m0_res, z, m0_enc] at q
  simp [q, splice, fillD, idxAD, lenD]

theorem trD_ok (t : Tm) : trD (.ok t) = .tup [.agg [.int .i64 t.k, .int .i64 t.n, .str t.s, slE 6 t.fl (encTs t.l), .int .i64 t.a, .int .i64 t.b], .i 0, .i 0] := by rw [← encT_eq]; rfl
theorem trD_er (a e : Int) : trD (.error (a, e)) = .tup [.agg [.int .i64 0, .int .i64 0, .str [], .nils, .int .i64 0, .int .i64 0], .i a, .i e] := rfl

/-- ScopeResolves. -/
theorem ev3 (s : List UInt8) : ev T 3 [.str s] [] = some (.bool true, []) := by
  have go : Ret (ev T 3 [.str s] []) fun r st => r = .bool true ∧ st = [] := by
    refine Ret_wp (fn := F3) rfl ?_
    rw [F3]
    have q12 := fun st => c12 s st
    by_cases hl : 2000 < s.length
    · have hl' : (2000 : Int) < s.length := by omega
      simp [hl, hl', c11, splice, fillD]
    have hl' : ¬ (2000 : Int) < s.length := by omega
    cases hp : parseR s with
    | error x =>
      obtain ⟨a, e⟩ := x
      have he := parse_err hp
      rw [hp, trD_er] at q12
      simp [hl, hl', q12, he, c11, splice, fillD]
    | ok m =>
      obtain ⟨hX, hc, hk⟩ := parse_ok hp
      rw [hp, trD_ok] at q12
      have q13 := fun st => c13 m (by omega) hX st
      have q14 := fun st => c14 m (by omega) hX st
      have hA := resolve_alk qn qe m
      cases h1 : resolveR qn m with
      | error x =>
        obtain ⟨a, e⟩ := x
        cases h2 : resolveR qe m with
        | ok y => rw [h1, h2] at hA; exact hA.elim
        | error y =>
          rw [h1, h2] at hA
          simp only [Alk] at hA
          subst hA
          rw [h1, trD_er] at q13
          rw [h2, trD_er] at q14
          have q15 := fun st => c15 tm0 tm0 (by simp [tm0, cntT, cntTs]) rfl st
          have e0 : encT tm0 = .agg [.int .i64 0, .int .i64 0, .str [], .nils, .int .i64 0, .int .i64 0] := rfl
          rw [e0] at q15
          simp [hl, hl', q12, ← encT_eq, q13, q14, q15, c11, splice, fillD]
      | ok x =>
        cases h2 : resolveR qe m with
        | error y => rw [h1, h2] at hA; exact hA.elim
        | ok y =>
          rw [h1, h2] at hA
          rw [h1, trD_ok] at q13
          rw [h2, trD_ok] at q14
          have hkp := resolve_kept (q := qn) (by omega) hX h1
          have hcx := kept_cnt m x hkp
          have q15 := fun st => c15 x y (by omega) hA st
          simp [hl, hl', q12, ← encT_eq, q13, q14, q15, c11, splice, fillD]
  obtain ⟨r, st, h, rfl, rfl⟩ := go
  exact h

/-- ScopeKeeps. -/
theorem ev5 (s : List UInt8) : ev T 5 [.str s] [] = some (.bool true, []) := by
  have go : Ret (ev T 5 [.str s] []) fun r st => r = .bool true ∧ st = [] := by
    refine Ret_wp (fn := F5) rfl ?_
    rw [F5]
    have q12 := fun st => c12 s st
    by_cases hl : 1000 < s.length
    · have hl' : (1000 : Int) < s.length := by omega
      simp [hl, hl', c11, splice, fillD]
    have hl' : ¬ (1000 : Int) < s.length := by omega
    cases hp : parseR s with
    | error x =>
      obtain ⟨a, e⟩ := x
      have he := parse_err hp
      rw [hp, trD_er] at q12
      simp [hl, hl', q12, he, c11, splice, fillD]
    | ok m =>
      obtain ⟨hX, hc, hk⟩ := parse_ok hp
      rw [hp, trD_ok] at q12
      have q13 := fun st => c13 m (by omega) hX st
      cases h1 : resolveR qn m with
      | error x =>
        obtain ⟨a, e⟩ := x
        have he : e ≠ 0 := by
          have := resolve_alk qn qe m
          unfold resolveR at h1
          cases ht : twiceR [] m.l with
          | some b => rw [ht] at h1; cases h1; decide
          | none =>
            rw [ht] at h1
            simp only at h1
            cases hd : declsR qn m m.l with
            | ok ls => rw [hd] at h1; cases h1
            | error z =>
              rw [hd] at h1
              cases h1
              have : ∀ (l : List Tm), (∀ x, x ∈ l → declX x = true) → ∀ z, declsR qn m l = .error z → z.2 ≠ 0 := by
                intro l
                induction l with
                | nil => intro _ z h; rw [declsR] at h; cases h
                | cons x l il =>
                  intro hx z h
                  rw [declsR_cons] at h
                  cases hq : declR qn m x with
                  | error w =>
                    rw [hq] at h
                    cases h
                    rcases decl_err (hx x (by simp)) hq with c | c <;> rw [c] <;> decide
                  | ok w =>
                    rw [hq] at h
                    cases hr : declsR qn m l with
                    | error v => rw [hr] at h; cases h; exact il (fun y hy => hx y (by simp [hy])) _ hr
                    | ok v => rw [hr] at h; cases h
              exact this m.l hX _ hd
        rw [h1, trD_er] at q13
        simp [hl, hl', q12, ← encT_eq, q13, he, c11, splice, fillD]
      | ok x =>
        rw [h1, trD_ok] at q13
        have hkp := resolve_kept (q := qn) (by omega) hX h1
        have q20 := fun st => c20 m x (by omega) hkp st
        simp [hl, hl', q12, ← encT_eq, q13, q20, c11, splice, fillD]
  obtain ⟨r, st, h, rfl, rfl⟩ := go
  exact h
end Go.Nt.Lk
