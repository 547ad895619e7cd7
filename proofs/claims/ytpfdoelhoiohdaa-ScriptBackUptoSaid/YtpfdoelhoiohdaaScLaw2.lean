/-
  NAMING ANEW, plainly: what the program and the reference come to is the same.
  No condition.
-/
import Derived.Test.YtpfdoelhoiohdaaLkBuf
import Derived.Test.YtpfdoelhoiohdaaScQuote
import Derived.Test.YtpfdoelhoiohdaaNtAuto
namespace Go.Nt.Lk
open Go Go.Nt

/-- An old name and a new one. -/
abbrev Nm : Type := List UInt8 × List UInt8

def newOf (ns : List Nm) (s : List UInt8) : Option (List UInt8) := (ns.find? fun n => decide (n.1 = s)).map (·.2)

def called (p : Option Tok) (t : Tok) : Bool := match p with
  | none => false
  | some q => decide (t.k = 1) && (decide (q.k = 4) && decide (q.s = [64]))

def refGo (s : List UInt8) (ns : List Nm) : Option Tok → List Tok → List UInt8 → Nat → Option (List UInt8 × Nat)
  | _, [], out, done => some (out, done)
  | p, t :: r, out, done =>
    if called p t then
      if 8192 < (out ++ seg s done t.f ++ (newOf ns t.s).getD t.s).length then none
      else refGo s ns (some t) r (out ++ seg s done t.f ++ (newOf ns t.s).getD t.s) t.t
    else refGo s ns (some t) r out done

def linkGo (s : List UInt8) (ns : List Nm) : Option Tok → List Tok → List UInt8 → Nat → Option (List UInt8 × Nat)
  | _, [], out, done => some (out, done)
  | p, t :: r, out, done =>
    if called p t then
      match newOf ns t.s with
      | none => linkGo s ns (some t) r out done
      | some w => if 8192 < (out ++ seg s done t.f ++ w).length then none else linkGo s ns (some t) r (out ++ seg s done t.f ++ w) t.t
    else linkGo s ns (some t) r out done

/-- What the whole comes to; none: it is too long. -/
def fin (s : List UInt8) : Option (List UInt8 × Nat) → Option (List UInt8)
  | none => none
  | some (out, done) => if 8192 < (out ++ s.drop done).length then none else some (out ++ s.drop done)

/-- Tokens one behind the other, from a place on. -/
def Chain (s : List UInt8) : Nat → List Tok → Prop
  | _, [] => True
  | a, t :: r => a ≤ t.f ∧ t.f ≤ t.t ∧ t.t ≤ s.length ∧ (t.k = 1 → t.s = seg s t.f t.t) ∧ Chain s t.t r

theorem seg_app (s : List UInt8) (a b c : Nat) (h : a ≤ b) (h' : b ≤ c) : seg s a b ++ seg s b c = seg s a c := by
  unfold seg
  rw [List.drop_take, List.drop_take, List.drop_take]
  obtain ⟨x, rfl⟩ : ∃ x, b = a + x := ⟨b - a, by omega⟩
  obtain ⟨y, rfl⟩ : ∃ y, c = a + x + y := ⟨c - (a + x), by omega⟩
  rw [show a + x - a = x by omega, show a + x + y - (a + x) = y by omega, show a + x + y - a = x + y by omega, List.take_add, List.drop_drop]

theorem seg_drop (s : List UInt8) (a b : Nat) (h : a ≤ b) : seg s a b ++ s.drop b = s.drop a := by
  unfold seg
  rw [List.drop_take]
  obtain ⟨x, rfl⟩ : ∃ x, b = a + x := ⟨b - a, by omega⟩
  rw [show a + x - a = x by omega, ← List.drop_drop, List.take_append_drop]

theorem seg_self (s : List UInt8) (a : Nat) : seg s a a = [] := by
  unfold seg; rw [List.drop_take]; simp

/-- Too long already: too long at the end. -/
theorem link_long (s : List UInt8) (ns : List Nm) : ∀ (l : List Tok) (p : Option Tok) (a d : Nat) (out : List UInt8), Chain s a l → d ≤ a → 8192 < (out ++ seg s d a).length → fin s (linkGo s ns p l out d) = none
  | [], p, a, d, out, _, hd, h => by
    unfold linkGo fin
    simp only
    rw [if_pos]
    rw [← seg_drop s d a hd, ← List.append_assoc, List.length_append]
    omega
  | t :: r, p, a, d, out, hc, hd, h => by
    obtain ⟨h1, h2, h3, h4, h5⟩ := hc
    have hl : 8192 < (out ++ seg s d t.t).length := by
      rw [← seg_app s d a t.t hd (by omega), ← List.append_assoc, List.length_append]; omega
    have hl2 : 8192 < (out ++ seg s d t.f).length := by
      rw [← seg_app s d a t.f hd h1, ← List.append_assoc, List.length_append]; omega
    unfold linkGo
    split
    · split
      · exact link_long s ns r _ t.t d out h5 (by omega) hl
      · next w _ =>
        rw [if_pos (by rw [List.length_append]; omega)]
        rfl
    · exact link_long s ns r _ t.t d out h5 (by omega) hl

theorem link_ref (s : List UInt8) (ns : List Nm) : ∀ (l : List Tok) (p : Option Tok) (a d e : Nat) (out : List UInt8), Chain s a l → d ≤ e → e ≤ a → fin s (refGo s ns p l (out ++ seg s d e) e) = fin s (linkGo s ns p l out d)
  | [], p, a, d, e, out, _, hd, h => by
    unfold refGo linkGo fin
    simp only [List.append_assoc, seg_drop s d e hd]
  | t :: r, p, a, d, e, out, hc, hd, h => by
    obtain ⟨h1, h2, h3, h4, h5⟩ := hc
    unfold refGo linkGo
    have e1 : out ++ seg s d e ++ seg s e t.f = out ++ seg s d t.f := by rw [List.append_assoc, seg_app s d e t.f hd (by omega)]
    rw [e1]
    split
    · next hcall =>
      have hk : t.k = 1 := by
        unfold called at hcall
        split at hcall
        · cases hcall
        · simp only [Bool.and_eq_true, decide_eq_true_eq] at hcall; exact hcall.1
      cases hn : newOf ns t.s with
      | none =>
        simp only [Option.getD_none]
        rw [h4 hk, List.append_assoc, seg_app s d t.f t.t (by omega) h2]
        split
        · next hl => exact (link_long s ns r _ t.t d out h5 (by omega) hl).symm
        · exact link_ref s ns r _ t.t d t.t out h5 (by omega) (Nat.le_refl _)
      | some w =>
        simp only [Option.getD_some]
        split
        · rfl
        · have := link_ref s ns r (some t) t.t t.t t.t (out ++ seg s d t.f ++ w) h5 (Nat.le_refl _) (Nat.le_refl _)
          rw [seg_self, List.append_nil] at this
          exact this
    · exact link_ref s ns r _ t.t d e out h5 hd (by omega)

theorem oneT_s {s : List UInt8} {a : Nat} {t : Tok} (h : oneT s a = .inl t) (hk : t.k = 1) : t.s = seg s t.f t.t := by
  unfold oneT at h
  split at h
  · cases h
  · split at h
    · simp only at h
      split at h
      · cases h
      · cases h; rfl
    · split at h
      · simp only at h
        split at h
        · cases h
        · cases h; simp at hk
      · simp only at h
        split at h
        · cases h
        · cases h; simp at hk

theorem toksF_chain (s : List UInt8) : ∀ (r a : Nat) (ts l : List Tok), r = s.length - a → a ≤ s.length → toksF s a ts = .inl l → ∃ k, l = ts ++ k ∧ Chain s a k := by
  intro r
  induction r using Nat.strongRecOn with
  | ind r ih =>
    intro a ts l hr ha h
    rw [toksF] at h
    split at h
    · next hlt =>
      split at h
      · next t ht =>
        have h1 := oneT_to hlt ht
        have h2 := le_nextP s t.t
        have h3 := nextP_le s t.t h1.2.1
        obtain ⟨k, rfl, hk⟩ := ih (s.length - nextP s t.t) (by omega) _ _ l rfl h3 h
        refine ⟨t :: k, by simp, by omega, by omega, h1.2.1, oneT_s ht, ?_⟩
        cases k with
        | nil => trivial
        | cons u k => exact ⟨by have := hk.1; omega, hk.2⟩
      · cases h
    · cases h
      exact ⟨_, rfl, by simpa using ha, Nat.le_refl _, Nat.le_refl _, by simp, trivial⟩

end Go.Nt.Lk

/-
  QUOTED TEXTS READ, plainly: the program's way and the reference's.
  No condition.
-/
set_option linter.unusedSimpArgs false
namespace Go.Nt.Lk
open Go Go.Nt

def hexL : List UInt8 := [48, 49, 50, 51, 52, 53, 54, 55, 56, 57, 97, 98, 99, 100, 101, 102]
/-- A digit's value, or 0. -/
def hv (c : UInt8) : Nat := (max 0 (findB c hexL 0)).toNat

def hex1 (s : List UInt8) (x : Nat × Nat) : Nat × Nat := if h : x.2 < s.length then (x.1 * 16 + hv s[x.2], x.2 + 1) else x
/-- What stands behind a backslash, as the program reads it; the place behind it. -/
def esc (s : List UInt8) (a : Nat) : UInt8 × Nat :=
  if h : a < s.length then
    if ch s[a] = 110 then (10, a + 1) else
    if ch s[a] = 120 then (UInt8.ofNat (hex1 s (hex1 s (0, a + 1))).1, (hex1 s (hex1 s (0, a + 1))).2) else (s[a], a + 1)
  else (0, a)
theorem hex1_le (s : List UInt8) (x : Nat × Nat) (h : x.2 ≤ s.length) : x.2 ≤ (hex1 s x).2 ∧ (hex1 s x).2 ≤ s.length := by
  unfold hex1; split <;> simp <;> omega
theorem esc_le (s : List UInt8) (a : Nat) (h : a ≤ s.length) : a ≤ (esc s a).2 ∧ (esc s a).2 ≤ s.length := by
  unfold esc
  split
  · split
    · simp; omega
    · split
      · have h1 := hex1_le s (0, a + 1) (by simp; omega)
        have h2 := hex1_le s (hex1 s (0, a + 1)) h1.2
        simp at h1 ⊢; omega
      · simp; omega
  · simp; omega

/-- The text up to the next quote, as the program reads it; the quote's place. -/
def unqP (s : List UInt8) (a : Nat) : List UInt8 × Nat :=
  if h : a < s.length then
    if ch s[a] = 34 then ([], a) else
    if ch s[a] = 92 then ((esc s (a + 1)).1 :: (unqP s (esc s (a + 1)).2).1, (unqP s (esc s (a + 1)).2).2)
    else (s[a] :: (unqP s (a + 1)).1, (unqP s (a + 1)).2)
  else ([], a)
termination_by s.length - a
decreasing_by
  all_goals first | omega | (have := esc_le s (a + 1) (by omega); omega)

/-- A quoted text at a place: what it is, the place behind it. -/
def quoted (s : List UInt8) (a : Nat) : Option (List UInt8 × Nat) :=
  if (unqP s (a + 1)).2 + 1 ≤ s.length ∧ quo (unqP s (a + 1)).1 = seg s a ((unqP s (a + 1)).2 + 1) then some ((unqP s (a + 1)).1, (unqP s (a + 1)).2 + 1) else none

theorem unqP_le (s : List UInt8) : ∀ (n a : Nat), s.length - a ≤ n → a ≤ s.length → a ≤ (unqP s a).2 ∧ (unqP s a).2 ≤ s.length ∧ (unqP s a).1.length ≤ (unqP s a).2 - a := by
  intro n
  induction n with
  | zero =>
    intro a h1 h2
    have h3 : ¬ a < s.length := by omega
    rw [unqP]; simp [h3]; omega
  | succ n ih =>
    intro a h1 h2
    rw [unqP]
    split
    · split
      · simp; omega
      · split
        · have h3 := esc_le s (a + 1) (by omega)
          have h4 := ih (esc s (a + 1)).2 (by omega) h3.2
          simp; omega
        · have h4 := ih (a + 1) (by omega) (by omega)
          simp; omega
    · simp; omega

end Go.Nt.Lk

/-
  QUOTED TEXTS READ, walked: the program's reader.
  No condition.
-/
set_option linter.unusedSimpArgs false
namespace Go.Nt.Lk
open Go Go.Nt

/-- A heap with the reader's object. -/
def rdO (st : St) (R : Nat) (s : List UInt8) (a : Nat) (ok : Bool) (md : Nat) : St := List.set st R (.cells true 3 0 md false [.agg [.str s, .int .i64 a, .bool ok]])
theorem rdO_len (st : St) (R : Nat) (s : List UInt8) (a : Nat) (ok : Bool) (md : Nat) : (rdO st R s a ok md).length = st.length := by simp [rdO]
theorem rdO_at {st : St} {R : Nat} (h : R < st.length) (s : List UInt8) (a : Nat) (ok : Bool) (md : Nat) : St.at (rdO st R s a ok md) R = .cells true 3 0 md false [.agg [.str s, .int .i64 a, .bool ok]] := by
  unfold rdO; rw [at_set _ _ _ _ h, if_pos rfl]
theorem rdO_set (st : St) (R : Nat) (s : List UInt8) (a : Nat) (ok : Bool) (md : Nat) (o : Ob) : List.set (rdO st R s a ok md) R o = List.set st R o := by simp [rdO]
theorem rdO_app {st : St} {R : Nat} (h : R < st.length) (g : St) (s : List UInt8) (a : Nat) (ok : Bool) (md : Nat) : rdO (st ++ g) R s a ok md = rdO st R s a ok md ++ g := set_lt _ _ h _

theorem rdO_fold (st : St) (R : Nat) (s : List UInt8) (a : Nat) (ok : Bool) (md : Nat) : List.set st R (.cells true 3 0 md false [.agg [.str s, .int .i64 a, .bool ok]]) = rdO st R s a ok md := (rfl)

def wordB (c : UInt8) : Bool := decide (97 ≤ ch c) && decide (ch c ≤ 122)

theorem l91 {st : St} {R : Nat} (hR : R < st.length) (s : List UInt8) (hs : s.length ≤ 100000000) (ok : Bool) : ∀ (r a md : Nat) (sl : List D) (bx : List (Nat × List D)), r = s.length - a → a ≤ s.length → get sl 0 = .hp R 0 3 0 0 →
    Stops (lp T L91_0 ⟨⟨sl, bx⟩, rdO st R s a ok md⟩) fun e _ _ st' => e = .exit 0 ∧ ∃ md', st' = rdO st R s (runEnd wordB s a) ok md' := by
  intro r
  induction r with
  | zero =>
    intro a md sl bx hr ha h0
    have e : a = s.length := by omega
    subst e
    refine Stops_wp L91_0.eq_1 ?_
    simp [h0, rdO_at hR, runEnd_end]
    exact ⟨_, rfl⟩
  | succ r ih =>
    intro a md sl bx hr ha h0
    have hlt : a < s.length := by omega
    have w1 := wrap1 (a := a) (by omega)
    refine Stops_wp L91_0.eq_1 ?_
    simp +contextual [h0, rdO_at hR, rdO_set, hlt, w1, byteD, kHs, -Int.natCast_add]
    refine ⟨fun h1 => ⟨fun h2 => ?_, fun h2 => ?_⟩, fun h1 => ?_⟩
    · rw [runEnd_go hlt (by simp [wordB, ch, h1, h2])]
      exact ih (a + 1) (md + 1) _ bx (by omega) (by omega) (by simp [h0])
    · rw [runEnd_stop hlt (by simp [wordB, ch]; omega)]; exact ⟨_, rfl⟩
    · rw [runEnd_stop hlt (by simp [wordB, ch]; omega)]; exact ⟨_, rfl⟩

theorem c91 {st : St} {R : Nat} (hR : R < st.length) (s : List UInt8) (hs : s.length ≤ 100000000) (ok : Bool) (a md : Nat) (ha : a ≤ s.length) :
    ∃ md', callD T (ev T) 91 [.hp R 0 3 0 0] (rdO st R s a ok md) = some (.str (seg s a (runEnd wordB s a)), rdO st R s (runEnd wordB s a) ok md') := by
  suffices h : Ret (ev T 91 [.hp R 0 3 0 0] (rdO st R s a ok md)) fun r st' => ∃ md', r = .str (seg s a (runEnd wordB s a)) ∧ st' = rdO st R s (runEnd wordB s a) ok md' by
    obtain ⟨r, st', h1, md', rfl, rfl⟩ := h
    exact ⟨md', by rw [callD_rawE (fn := F91) rfl rfl (by simp)]; exact h1⟩
  refine Ret_wp (fn := F91) rfl ?_
  rw [F91]
  simp [rdO_at hR]
  refine WL.use L91_0_p L91_0_w (l91 hR s hs ok _ a md _ _ rfl ha (by simp)) ?_
  rintro e s' b st' ⟨rfl, md', rfl⟩ hf
  have h0 : get s' 0 = .hp R 0 3 0 0 := by rw [hf 0 rfl]; simp
  have h3 : get s' 3 = .int .i64 a := by rw [hf 3 rfl]; simp
  have q := str_slice s .i64 .i64 a (runEnd wordB s a) (le_runEnd _ _ _) (runEnd_le _ _ ha)
  simp [h0, h3, rdO_at hR, q]
  exact ⟨_, rfl⟩

/-! ### A digit of sixteen -/

theorem c160 (s : List UInt8) (n : Int) (c : UInt8) (h : n = ch c) (st : St) : callD T (ev T) 160 [.str s, .int .u8 n] st = some (.int .i64 (findB c s 0), st) := by
  subst h
  have hc := c.toNat_lt
  rw [callD_rawE (fn := F160) rfl rfl (by simp), ev_eq 160 F160 rfl, F160]
  have h1 : (0 : Int) ≤ ch c ∧ ch c < 256 := ⟨by simp only [ch]; omega, by simp only [ch]; omega⟩
  simp [primD, h1]

theorem findB_lt (c : UInt8) : ∀ (l : List UInt8) (i : Nat), findB c l i = -1 ∨ ((i : Int) ≤ findB c l i ∧ findB c l i < i + l.length)
  | [], i => .inl rfl
  | x :: l, i => by
    unfold findB
    split
    · right; simp; omega
    · rcases findB_lt c l (i + 1) with h | h
      · exact .inl h
      · right; simp at h ⊢; omega

theorem hv_lt (c : UInt8) : hv c < 16 ∧ (hv c : Int) = max 0 (findB c hexL 0) := by
  have h : hexL.length = 16 := rfl
  unfold hv
  rcases findB_lt c hexL 0 with h1 | h1
  · rw [h1]; decide
  · rw [h] at h1; omega

theorem hex1_val (s : List UInt8) (x : Nat × Nat) (h : x.1 < 16) : (hex1 s x).1 < 256 := by
  unfold hex1
  split
  · have := (hv_lt s[x.2]).1
    simp only; omega
  · omega
theorem hex1_val0 (s : List UInt8) (a : Nat) : (hex1 s (0, a)).1 < 16 := by
  unfold hex1
  split
  · have := (hv_lt s[a]).1
    simp only; omega
  · simp

/-- One digit of two. -/
theorem l150 {st : St} {R : Nat} (hR : R < st.length) (s : List UInt8) (hs : s.length ≤ 100000000) (ok : Bool) (i : Nat) (hi : i < 2) (v a md : Nat) (hv' : v < 256) (ha : a ≤ s.length) (sl : List D) (bx : List (Nat × List D)) (h0 : get sl 0 = .hp R 0 3 0 0) (h4 : get sl 4 = .int .i64 v) (h36 : get sl 36 = .int .i64 i)
    {Q : Ex → List D → List (Nat × List D) → St → Prop} (k : ∀ sl' bx' md', get sl' 0 = .hp R 0 3 0 0 → get sl' 4 = .int .i64 (hex1 s (v, a)).1 → get sl' 36 = .int .i64 ((i + 1 : Nat) : Int) → Stops (lp T L150_0 ⟨⟨sl', bx'⟩, rdO st R s (hex1 s (v, a)).2 ok md'⟩) Q) :
    Stops (lp T L150_0 ⟨⟨sl, bx⟩, rdO st R s a ok md⟩) Q := by
  refine Stops_wp L150_0.eq_1 ?_
  have w1 := wrap1 (a := a) (by omega)
  have w2 := wrap1 (a := i) (by omega)
  have hi' : (i : Int) < 2 := by omega
  by_cases hlt : a < s.length
  · obtain ⟨g1, g2⟩ := hv_lt s[a]
    have q : ∀ (st : St) (n : Int), n = ch s[a] → callD T (ev T) 160 [.str hexL, .int .u8 n] st = some (.int .i64 (findB s[a] hexL 0), st) := fun st n hn => c160 hexL n s[a] hn st
    have e1 : hex1 s (v, a) = (v * 16 + hv s[a], a + 1) := by unfold hex1; rw [dif_pos hlt]
    rw [e1] at k
    have w3 : IntKind.wrap .i64 ((v : Int) * 16) = (v : Int) * 16 := by rw [wrap64] <;> omega
    have w4 : IntKind.wrap .i64 ((v : Int) * 16 + (hv s[a] : Int)) = ((v * 16 + hv s[a] : Nat) : Int) := by rw [wrap64] <;> omega
    have hl : hexL = [48, 49, 50, 51, 52, 53, 54, 55, 56, 57, 97, 98, 99, 100, 101, 102] := rfl
    have mx : kMM true (.int .i64 0) (.int .i64 (findB s[a] hexL 0)) = some (.int .i64 (hv s[a]), none, none) := by
      rw [g2]; simp only [kMM_i, if_true, gt_iff_lt]
      simp only [val]
      congr 3
      split <;> omega
    rw [hl] at q mx
    simp [h0, h4, h36, rdO_at hR, rdO_set, hlt, w1, w2, w3, w4, hi', byteD, kHs, q, mx, -Int.natCast_add, -Int.natCast_mul, -kMM_i]
    exact k _ _ (md + 1) (by simp [h0]) (by simp) (by simp)
  · have e1 : hex1 s (v, a) = (v, a) := by unfold hex1; rw [dif_neg hlt]
    rw [e1] at k
    have e2 : a = s.length := by omega
    subst e2
    simp [h0, h4, h36, rdO_at hR, rdO_set, w1, w2, hi', byteD, kHs, -Int.natCast_add]
    exact k _ _ md (by simp [h0]) (by simp [h4]) (by simp)

theorem l150e {st : St} {R : Nat} (_ : R < st.length) (s : List UInt8) (ok : Bool) (a md v : Nat) (sl : List D) (bx : List (Nat × List D)) (h4 : get sl 4 = .int .i64 v) (h36 : get sl 36 = .int .i64 2) :
    Stops (lp T L150_0 ⟨⟨sl, bx⟩, rdO st R s a ok md⟩) fun e s' _ st' => e = .exit 1 ∧ get s' 4 = .int .i64 v ∧ ∃ md', st' = rdO st R s a ok md' := by
  refine Stops_wp L150_0.eq_1 ?_
  simp [h4, h36]
  exact ⟨_, rfl⟩

theorem c150 {st : St} {R : Nat} (hR : R < st.length) (s : List UInt8) (hs : s.length ≤ 100000000) (ok : Bool) (a md : Nat) (ha : a ≤ s.length) :
    ∃ md', callD T (ev T) 150 [.hp R 0 3 0 0] (rdO st R s a ok md) = some (.int .u8 (ch (esc s a).1), rdO st R s (esc s a).2 ok md') := by
  suffices h : Ret (ev T 150 [.hp R 0 3 0 0] (rdO st R s a ok md)) fun r st' => ∃ md', r = .int .u8 (ch (esc s a).1) ∧ st' = rdO st R s (esc s a).2 ok md' by
    obtain ⟨r, st', h1, md', rfl, rfl⟩ := h
    exact ⟨md', by rw [callD_rawE (fn := F150) rfl rfl (by simp)]; exact h1⟩
  refine Ret_wp (fn := F150) rfl ?_
  have w1 := wrap1 (a := a) (by omega)
  rw [F150]
  by_cases hlt : a < s.length
  · have hng : ¬ (s.length ≤ a) := by omega
    unfold esc
    rw [dif_pos hlt]
    have h10 : ch 10 = 10 := by decide
    generalize hn : ch s[a] = n
    have hn' : (s[a].toNat : Int) = n := hn
    simp +contextual [rdO_at hR, rdO_set, hlt, hng, w1, byteD, kHs, hn', -Int.natCast_add]
    refine ⟨fun _ => ⟨h10.symm, _, rfl⟩, fun _ => ⟨fun _ => ?_, fun _ => ⟨_, rfl⟩⟩⟩
    have b1 := hex1_le s (0, a + 1) (by simp; omega)
    have b2 := hex1_le s (hex1 s (0, a + 1)) b1.2
    have v1 := hex1_val0 s (a + 1)
    have v2 := hex1_val s (hex1 s (0, a + 1)) v1
    refine WL.use L150_0_p L150_0_w (Q := fun e s' _ st' => e = .exit 1 ∧ get s' 4 = .int .i64 (hex1 s (hex1 s (0, a + 1))).1 ∧ ∃ md', st' = rdO st R s (hex1 s (hex1 s (0, a + 1))).2 ok md') ?_ ?_
    · refine l150 hR s hs ok 0 (by omega) 0 (a + 1) (md + 1) (by omega) (by omega) _ _ (by simp) (by simp) (by simp) fun sl1 bx1 md1 k0 k4 k36 => ?_
      refine l150 hR s hs ok 1 (by omega) _ _ md1 (by omega) b1.2 _ _ k0 k4 k36 fun sl2 bx2 md2 j0 j4 j36 => ?_
      exact l150e hR s ok _ md2 _ _ _ j4 j36
    · rintro e s' b st' ⟨rfl, h4, md', rfl⟩ hf
      have w8 : IntKind.wrap .u8 ((hex1 s (hex1 s (0, a + 1))).1 : Int) = (hex1 s (hex1 s (0, a + 1))).1 := wrap8 (by omega) (by omega)
      have hc : ch (UInt8.ofNat (hex1 s (hex1 s (0, a + 1))).1) = (hex1 s (hex1 s (0, a + 1))).1 := by
        simp only [ch, UInt8.toNat_ofNat']; omega
      simp [h4, w8, hc]
      exact ⟨_, rfl⟩
  · have e2 : a = s.length := by omega
    subst e2
    have e1 : esc s s.length = (0, s.length) := by unfold esc; rw [dif_neg (by omega)]
    have h00 : ch 0 = 0 := by decide
    simp [rdO_at hR, e1, h00]
    exact ⟨_, rfl⟩

end Go.Nt.Lk

/-
  QUOTED TEXTS READ, walked (2): the program's quoted and text.
  No condition.
-/
set_option linter.unusedSimpArgs false
namespace Go.Nt.Lk
open Go Go.Nt

/-- Bytes that grow behind a heap. -/
def grB (st : St) : List UInt8 → D × St
  | [] => (.nils, st)
  | c :: r => (.rs st.length (6 * tagB + r.length) 1 0 (r.length + 1) false, st ++ [.cells false 1 (6 * tagB + r.length) r.length false ((c :: r).map byteD)])
theorem grB_lt {st : St} {R : Nat} (h : R < st.length) (out : List UInt8) : R < (grB st out).2.length := by cases out <;> simp [grB]; exact h; omega
@[simp] theorem grB_cells (st : St) (out : List UInt8) : (grB st out).1.cells = [(grB st out).1] := by cases out <;> rfl
@[simp] theorem grB_okv (st : St) (out : List UInt8) : (grB st out).1.okv = true := by cases out <;> rfl
theorem grB_ext (st : St) (out : List UInt8) : ∃ g, (grB st out).2 = st ++ g := by
  cases out with
  | nil => exact ⟨[], by simp [grB]⟩
  | cons c r => exact ⟨_, rfl⟩

theorem grow_B {st : St} {R : Nat} (h : R < st.length) (out : List UInt8) (ho : out.length ≤ 60000000) (c : UInt8) (n : Int) (hn : n = ch c) (s : List UInt8) (a : Nat) (ok : Bool) (md : Nat) :
    appendTD 5 (rdO (grB st out).2 R s a ok md) (grB st out).1 [.int .u8 n] 1 = some ((grB st (out ++ [c])).1, rdO (grB st (out ++ [c])).2 R s a ok md) := by
  subst hn
  have hT : 100000000000 < tagB := by unfold tagB; omega
  cases out with
  | nil =>
    simp only [grB, List.nil_append, rdO_app h]
    simp [appendTD, most, rdO_len, byteD]
  | cons x r =>
    simp only [List.length_cons] at ho
    simp only [grB, List.cons_append, rdO_app h]
    have t1 := tag6 r.length (by omega)
    have t2 := tag6 (r.length + 1) (by omega)
    have e : St.at (rdO st R s a ok md ++ [.cells false 1 (6 * tagB + r.length) r.length false ((x :: r).map byteD)]) st.length = .cells false 1 (6 * tagB + r.length) r.length false ((x :: r).map byteD) := by
      rw [← rdO_len st R s a ok md]; exact at_last _ _
    have e2 : ∀ o, List.set (rdO st R s a ok md ++ [.cells false 1 (6 * tagB + r.length) r.length false ((x :: r).map byteD)]) st.length o = rdO st R s a ok md ++ [o] := fun o => by
      rw [← rdO_len st R s a ok md, set_app0]; rfl
    have m1 : ¬ most < 1 := by unfold most; omega
    have m2 : r.length + 1 ≤ most := by unfold most; omega
    have t3 : tagOf (6 * tagB + r.length + 1) = 6 := t2
    have hl : ((x :: r).map byteD).length = r.length + 1 := by simp
    have hf : (x :: (r ++ [c])).map byteD = (x :: r).map byteD ++ [.int .u8 (ch c)] := by simp [byteD]
    rw [hf]
    generalize (x :: r).map byteD = bs at *
    have hl2 : bs.take (r.length + 1) = bs := List.take_of_length_le (by omega)
    unfold appendTD
    simp [e, e2, m1, m2, t1, t2, t3, hl, hl2, Nat.add_assoc]

theorem list_B {st : St} {R : Nat} (h : R < st.length) (out : List UInt8) (s : List UInt8) (a : Nat) (ok : Bool) (md : Nat) : listD (rdO (grB st out).2 R s a ok md) 1 (grB st out).1 = some (out.map byteD) := by
  cases out with
  | nil => rfl
  | cons x r =>
    simp only [grB, rdO_app h]
    have e : St.at (rdO st R s a ok md ++ [.cells false 1 (6 * tagB + r.length) r.length false ((x :: r).map byteD)]) st.length = .cells false 1 (6 * tagB + r.length) r.length false ((x :: r).map byteD) := by
      rw [← rdO_len st R s a ok md]; exact at_last _ _
    have hl : ((x :: r).map byteD).length = r.length + 1 := by simp
    generalize (x :: r).map byteD = bs at *
    have hl2 : bs.take (r.length + 1) = bs := List.take_of_length_le (by omega)
    simp [listD, e, hl, hl2]

theorem l134 {st : St} {R : Nat} (hR : R < st.length) (s : List UInt8) (hs : s.length ≤ 50000000) (ok : Bool) : ∀ (n a md : Nat) (out : List UInt8) (sl : List D) (bx : List (Nat × List D)), s.length - a ≤ n → a ≤ s.length → out.length ≤ a → get sl 0 = .hp R 0 3 0 0 → get sl 4 = (grB st out).1 →
    Stops (lp T L134_0 ⟨⟨sl, bx⟩, rdO (grB st out).2 R s a ok md⟩) fun e s' _ st' => e = .exit 0 ∧ get s' 4 = (grB st (out ++ (unqP s a).1)).1 ∧ ∃ md', st' = rdO (grB st (out ++ (unqP s a).1)).2 R s (unqP s a).2 ok md' := by
  intro n
  induction n with
  | zero =>
    intro a md out sl bx hr ha ho h0 h4
    have e : a = s.length := by omega
    subst e
    have hB := grB_lt hR out
    have e1 : unqP s s.length = ([], s.length) := by rw [unqP, dif_neg (by omega)]
    refine Stops_wp L134_0.eq_1 ?_
    simp [h0, h4, rdO_at hB, e1]
    exact ⟨_, rfl⟩
  | succ n ih =>
    intro a md out sl bx hr ha ho h0 h4
    by_cases hlt : a < s.length
    · have hB := grB_lt hR out
      have w1 := wrap1 (a := a) (by omega)
      refine Stops_wp L134_0.eq_1 ?_
      rw [unqP, dif_pos hlt]
      obtain ⟨md1, q⟩ := c150 (R := R) (st := (grB st out).2) hB s (by omega) ok (a + 1) (md + 1) (by omega)
      have hesc := esc_le s (a + 1) (by omega)
      have g1 := grow_B hR out (by omega) (esc s (a + 1)).1 _ rfl s (esc s (a + 1)).2 ok md1
      have g2 := grow_B hR out (by omega) s[a] _ rfl s (a + 1) ok (md + 1)
      have nx1 := fun sl' => ih (esc s (a + 1)).2 md1 (out ++ [(esc s (a + 1)).1]) sl' bx (by omega) hesc.2 (by simp; omega)
      have nx2 := fun sl' => ih (a + 1) (md + 1) (out ++ [s[a]]) sl' bx (by omega) (by omega) (by simp; omega)
      simp only [List.append_assoc, List.cons_append, List.nil_append] at nx1 nx2
      generalize hn : ch s[a] = n at *
      have hn' : (s[a].toNat : Int) = n := hn
      have g2' : ∀ m, m = n → appendTD 5 (rdO (grB st out).2 R s (a + 1) ok (md + 1)) (grB st out).1 [.int .u8 m] 1 = some ((grB st (out ++ [s[a]])).1, rdO (grB st (out ++ [s[a]])).2 R s (a + 1) ok (md + 1)) := fun m h => by rw [h]; exact g2
      have fold : List.set (grB st out).2 R (.cells true 3 0 (md + 1) false [.agg [.str s, .int .i64 ((a + 1 : Nat) : Int), .bool ok]]) = rdO (grB st out).2 R s (a + 1) ok (md + 1) := rfl
      generalize (esc s (a + 1)).1 = ec at *
      generalize (esc s (a + 1)).2 = ea at *
      simp +contextual [h0, h4, rdO_at hB, rdO_set, hlt, w1, byteD, kHs, hn', fold, q, g1, g2', -Int.natCast_add]
      refine ⟨fun _ => ⟨fun _ => ?_, fun _ => ?_⟩, fun _ => ⟨_, rfl⟩⟩
      · exact nx1 _ (by simp [h0]) (by simp)
      · exact nx2 _ (by simp [h0]) (by simp)
    · exact ih a md out sl bx (by omega) ha ho h0 h4

theorem callQ_pure {f : Nat} {fn : IFunc} (hT : T f = some fn) (hm : fn.mode = .pure) {args : List D} {q : D} (hargs : args.all D.pure = true) (hp : pureArgs [] args = some (args, [])) (h : callD T (ev T) f args [] = some (q, [])) : callQD T (ev T) f args = some q := by
  simp only [callD, callQD, hT, hm, hp, hargs, if_true, Option.bind_some] at h ⊢
  cases h1 : ev T f args [] with
  | none => rw [h1] at h; cases h
  | some r =>
    rw [h1] at h
    simp only [Option.bind_some] at h ⊢
    cases h2 : fz r.2 r.1 with
    | none => rw [h2] at h; cases h
    | some p =>
      rw [h2] at h
      simp only [Option.bind_some] at h ⊢
      split at h
      · simp only [Option.some.injEq, Prod.mk.injEq] at h
        rename_i hq
        rw [if_pos hq, h.1]
      · cases h

/-- What the program's quoted leaves: the text, the place, whether it goes on. -/
def quoR (s : List UInt8) (a : Nat) (ok : Bool) : List UInt8 × Nat × Bool :=
  match quoted s a with
  | some (t, b) => (t, b, ok)
  | none => ((unqP s (a + 1)).1, s.length, false)

theorem unbytes_map (l : List UInt8) : (l.map byteD).mapM unbyte = some l := unbyte_map l

theorem c134 {st : St} {R : Nat} (hR : R < st.length) (s : List UInt8) (hs : s.length ≤ 30000000) (ok : Bool) (a md : Nat) (ha : a < s.length) :
    ∃ g md', callD T (ev T) 134 [.hp R 0 3 0 0] (rdO st R s a ok md) = some (.str (quoR s a ok).1, rdO (st ++ g) R s (quoR s a ok).2.1 (quoR s a ok).2.2 md') := by
  suffices h : Ret (ev T 134 [.hp R 0 3 0 0] (rdO st R s a ok md)) fun r st' => ∃ g md', r = .str (quoR s a ok).1 ∧ st' = rdO (st ++ g) R s (quoR s a ok).2.1 (quoR s a ok).2.2 md' by
    obtain ⟨r, st', h1, g, md', rfl, rfl⟩ := h
    exact ⟨g, md', by rw [callD_rawE (fn := F134) rfl rfl (by simp)]; exact h1⟩
  refine Ret_wp (fn := F134) rfl ?_
  have w1 := wrap1 (a := a) (by omega)
  have hU := unqP_le s s.length (a + 1) (by omega) (by omega)
  have fold : List.set st R (.cells true 3 0 (md + 1) false [.agg [.str s, .int .i64 ((a + 1 : Nat) : Int), .bool ok]]) = rdO (grB st []).2 R s (a + 1) ok (md + 1) := rfl
  rw [F134]
  simp [rdO_at hR, rdO_set, w1, kHs, fold, -Int.natCast_add]
  refine WL.use L134_0_p L134_0_w (l134 hR s (by omega) ok s.length (a + 1) (md + 1) [] _ _ (by omega) (by omega) (by simp) (by simp) (by simp [grB])) ?_
  rintro e s' b st' ⟨rfl, h4, md', rfl⟩ hf
  have h0 : get s' 0 = .hp R 0 3 0 0 := by rw [hf 0 rfl]; simp
  have h3 : get s' 3 = .int .i64 a := by rw [hf 3 rfl]; simp
  obtain ⟨g, hg⟩ := grB_ext st ([] ++ (unqP s (a + 1)).1)
  have hB := grB_lt hR ([] ++ (unqP s (a + 1)).1)
  have hL := list_B hR ([] ++ (unqP s (a + 1)).1)
  unfold quoR quoted
  simp only [List.nil_append] at h4 hg hB hL ⊢
  generalize (unqP s (a + 1)).2 = z at *
  generalize (unqP s (a + 1)).1 = out at *
  rw [hg] at hB hL ⊢
  have w2 := wrap1 (a := z) (by omega)
  have hm := unbytes_map out
  have q := callQ_pure (fn := F27) rfl rfl (by simp) (by simp) (c27 out (by omega) [])
  by_cases hz : z + 1 ≤ s.length
  · have q2 := str_slice s .i64 .i64 a (z + 1) (by omega) hz
    by_cases hq : quo out = seg s a (z + 1)
    · rw [if_pos ⟨hz, hq⟩]
      simp [h0, h3, h4, rdO_at hB, rdO_set, rdO_fold, w2, kHs, hz, q, q2, hq, hL, hm, -Int.natCast_add]
      exact ⟨g, _, rfl⟩
    · rw [if_neg (fun h => hq h.2)]
      simp [h0, h3, h4, rdO_at hB, rdO_set, rdO_fold, w2, kHs, hz, q, q2, hq, hL, hm, -Int.natCast_add]
      exact ⟨g, _, rfl⟩
  · rw [if_neg (fun h => hz h.1)]
    have hz' : s.length < z + 1 := by omega
    simp [h0, h3, h4, rdO_at hB, rdO_set, rdO_fold, w2, kHs, hz', q, hL, hm, -Int.natCast_add]
    exact ⟨g, _, rfl⟩

/-- What text leaves. -/
def txtR (s : List UInt8) (a : Nat) (ok : Bool) : List UInt8 × Nat × Bool :=
  if h : a < s.length then (if ch s[a] = 34 then quoR s a ok else ([], a, false)) else ([], a, false)

theorem c93 {st : St} {R : Nat} (hR : R < st.length) (s : List UInt8) (hs : s.length ≤ 30000000) (ok : Bool) (a md : Nat) (ha : a ≤ s.length) :
    ∃ g md', callD T (ev T) 93 [.hp R 0 3 0 0] (rdO st R s a ok md) = some (.str (txtR s a ok).1, rdO (st ++ g) R s (txtR s a ok).2.1 (txtR s a ok).2.2 md') := by
  suffices h : Ret (ev T 93 [.hp R 0 3 0 0] (rdO st R s a ok md)) fun r st' => ∃ g md', r = .str (txtR s a ok).1 ∧ st' = rdO (st ++ g) R s (txtR s a ok).2.1 (txtR s a ok).2.2 md' by
    obtain ⟨r, st', h1, g, md', rfl, rfl⟩ := h
    exact ⟨g, md', by rw [callD_rawE (fn := F93) rfl rfl (by simp)]; exact h1⟩
  refine Ret_wp (fn := F93) rfl ?_
  unfold txtR
  rw [F93]
  by_cases hlt : a < s.length
  · obtain ⟨g, md', q⟩ := c134 hR s hs ok a md hlt
    have hng : ¬ s.length ≤ a := by omega
    rw [dif_pos hlt]
    generalize hn : ch s[a] = n at *
    have hn' : (s[a].toNat : Int) = n := hn
    by_cases hq : n = 34
    · simp [rdO_at hR, rdO_set, rdO_fold, hlt, hng, byteD, hn', hq, kHs, q]
      exact ⟨g, _, rfl⟩
    · simp [rdO_at hR, rdO_set, rdO_fold, hlt, hng, byteD, hn', hq, kHs, q]
      exact ⟨[], _, by simp; rfl⟩
  · have e2 : a = s.length := by omega
    subst e2
    rw [dif_neg hlt]
    simp [rdO_at hR, rdO_set, rdO_fold, kHs]
    exact ⟨[], _, by simp; rfl⟩

end Go.Nt.Lk

/-
  NUMBERS' TEXTS: plainly; the program's Digits and the reference's, walked.
  No condition.
-/
set_option linter.unusedSimpArgs false
namespace Go.Nt.Lk
open Go Go.Nt

def d10 (u : Nat) : UInt8 := UInt8.ofNat (48 + u % 10)
/-- A number's digits. -/
def dig (u : Nat) : List UInt8 := if u < 10 then [d10 u] else dig (u / 10) ++ [d10 u]
theorem dig_eq (u : Nat) : dig u = if u / 10 = 0 then [d10 u] else dig (u / 10) ++ [d10 u] := by
  rw [dig]
  by_cases h : u < 10
  · rw [if_pos h, if_pos (by omega)]
  · rw [if_neg h, if_neg (by omega)]
/-- A number's text. -/
def sdig (n : Int) : List UInt8 := if n < 0 then 45 :: dig (-n).toNat else dig n.toNat

theorem dig_len : ∀ (k u : Nat), u < 10 ^ (k + 1) → (dig u).length ≤ k + 1
  | 0, u, h => by rw [dig, if_pos (by omega)]; simp
  | k + 1, u, h => by
    rw [dig]
    split
    · simp
    · have := dig_len k (u / 10) (by rw [Nat.pow_succ] at h; omega)
      rw [List.length_append]; simp; omega

theorem ch_d10 (u : Nat) : ch (d10 u) = 48 + ((u % 10 : Nat) : Int) := by
  simp only [ch, d10, UInt8.toNat_ofNat']; omega

def z8 : D := .int .u8 0
/-- The heap of Digits: an array, of which the last cells are written. -/
def dgH (i md : Nat) (suf : List UInt8) : St := [.cells true 20 0 md false [.agg (List.replicate i z8 ++ suf.map byteD)]]

theorem splice_rep (j : Nat) (R : List D) (v : D) : splice (List.replicate (j + 1) z8 ++ R) j [v] = some (List.replicate j z8 ++ v :: R) := by
  have e : List.replicate (j + 1) z8 ++ R = List.replicate j z8 ++ ([z8] ++ R) := by rw [List.replicate_succ', List.append_assoc]
  have e1 : (List.replicate j z8 ++ ([z8] ++ R)).take j = List.replicate j z8 := by rw [List.take_append_of_le_length (by simp), List.take_of_length_le (by simp)]
  have e2 : (List.replicate j z8 ++ ([z8] ++ R)).drop (j + 1) = R := by
    rw [← List.append_assoc, List.drop_append_of_le_length (by simp), List.drop_of_length_le (by simp)]; rfl
  rw [e]
  unfold splice
  rw [if_pos (by simp only [List.length_append, List.length_replicate, List.length_cons, List.length_nil]; omega)]
  rw [e1, show j + [v].length = j + 1 from rfl, e2]
  simp

theorem wrapu64 {n : Int} (h : 0 ≤ n) (h' : n < 18446744073709551616) : IntKind.wrap .u64 n = n := by
  simp [IntKind.wrap, IntKind.signed, IntKind.bits]; omega

theorem l135s (u j md : Nat) (suf : List UInt8) (sl : List D) (bx : List (Nat × List D)) (hu2 : u < 18446744073709551616) (hj : j < 20) (h3 : get sl 3 = .hp 0 0 20 0 0) (h4 : get sl 4 = .int .i64 ((j + 1 : Nat) : Int)) (h5 : get sl 5 = .int .u64 u)
    {Q : Ex → List D → List (Nat × List D) → St → Prop} (h : u / 10 = 0 → ∀ s', get s' 4 = .int .i64 j → Q (.exit 0) s' bx (dgH j (md + 1) (d10 u :: suf)))
    (k : ¬ u / 10 = 0 → ∀ s', get s' 3 = .hp 0 0 20 0 0 → get s' 4 = .int .i64 j → get s' 5 = .int .u64 ((u / 10 : Nat) : Int) → Stops (lp T L135_0 ⟨⟨s', bx⟩, dgH j (md + 1) (d10 u :: suf)⟩) Q) :
    Stops (lp T L135_0 ⟨⟨sl, bx⟩, dgH (j + 1) md suf⟩) Q := by
  have w1 : IntKind.wrap .i64 (((j + 1 : Nat) : Int) - 1) = (j : Int) := by rw [wrap64] <;> omega
  have r1 : Int.tmod (u : Int) 10 = ((u % 10 : Nat) : Int) := by rw [Int.tmod_eq_emod_of_nonneg (by omega)]; omega
  have r2 : IntKind.wrap .u64 (48 + ((u % 10 : Nat) : Int)) = 48 + ((u % 10 : Nat) : Int) := wrapu64 (by omega) (by omega)
  have r3 : IntKind.wrap .u8 (48 + ((u % 10 : Nat) : Int)) = ch (d10 u) := by rw [wrap8 (by omega) (by omega), ch_d10]
  have r4 : IntKind.wrap .u64 (Int.tdiv (u : Int) 10) = ((u / 10 : Nat) : Int) := by
    have : Int.tdiv (u : Int) 10 = ((u / 10 : Nat) : Int) := by rw [Int.tdiv_eq_ediv_of_nonneg (by omega)]; omega
    rw [this, wrapu64 (by omega) (by omega)]
  have sp := splice_rep j (suf.map byteD) (.int .u8 (ch (d10 u)))
  have b1 : binD .rem (.int .u64 (u : Int)) (.int .u64 10) = some (.int .u64 ((u % 10 : Nat) : Int)) := by simp only [binD_int, intD_rem, r1]; rfl
  have b2 : binD .quo (.int .u64 (u : Int)) (.int .u64 10) = some (.int .u64 ((u / 10 : Nat) : Int)) := by simp only [binD_int, intD_quo, r4]; rfl
  refine Stops_wp L135_0.eq_1 ?_
  generalize u % 10 = m at *
  generalize u / 10 = q at *
  generalize d10 u = x at *
  unfold dgH at h k ⊢
  simp +contextual [h3, h4, h5, w1, b1, b2, r2, r3, hj, idxAD, kHs, sp, -Int.natCast_add, -splice_]
  refine ⟨fun hq => h hq _ (by simp), fun hq => k hq _ (by simp [h3]) (by simp) (by simp)⟩

theorem dig_pos (u : Nat) : 0 < (dig u).length := by rw [dig]; split <;> simp

theorem l135 : ∀ (n u i md : Nat) (suf : List UInt8) (sl : List D) (bx : List (Nat × List D)), u ≤ n → u < 18446744073709551616 → (dig u).length ≤ i → i + suf.length = 20 → get sl 3 = .hp 0 0 20 0 0 → get sl 4 = .int .i64 i → get sl 5 = .int .u64 u →
    Stops (lp T L135_0 ⟨⟨sl, bx⟩, dgH i md suf⟩) fun e s' _ st' => e = .exit 0 ∧ get s' 4 = .int .i64 ((i - (dig u).length : Nat) : Int) ∧ ∃ md', st' = dgH (i - (dig u).length) md' (dig u ++ suf) := by
  intro n
  induction n using Nat.strongRecOn with
  | ind n ih =>
    intro u i md suf sl bx hu hu2 hd hi h3 h4 h5
    have hpos := dig_pos u
    obtain ⟨j, rfl⟩ : ∃ j, i = j + 1 := ⟨i - 1, by omega⟩
    refine l135s u j md suf sl bx hu2 (by omega) h3 h4 h5 (fun hq s' k4 => ?_) (fun hq s' k3 k4 k5 => ?_)
    · have e : dig u = [d10 u] := by rw [dig_eq, if_pos hq]
      rw [e]
      exact ⟨rfl, by simpa using k4, _, rfl⟩
    · have e : dig u = dig (u / 10) ++ [d10 u] := by rw [dig_eq, if_neg hq]
      rw [e] at hd ⊢
      simp only [List.length_append, List.length_cons, List.length_nil] at hd ⊢
      have := ih (u / 10) (by omega) (u / 10) j (md + 1) (d10 u :: suf) s' bx (Nat.le_refl _) (by omega) (by omega) (by simp; omega) k3 k4 k5
      rw [show j + 1 - ((dig (u / 10)).length + (0 + 1)) = j - (dig (u / 10)).length by omega]
      simpa using this

theorem sl_arr (i : Nat) (w : List UInt8) (hi : i + w.length = 20) : ((List.replicate i z8 ++ w.map byteD).drop i).take (20 - i) = w.map byteD := by
  rw [List.drop_append_of_le_length (by simp), List.drop_of_length_le (by simp), List.nil_append, List.take_of_length_le (by simp; omega)]

theorem wrapu_neg (n : Int) (h1 : -9223372036854775808 ≤ n) (hn : n < 0) : IntKind.wrap .u64 (0 - (n + 18446744073709551616)) = (((-n).toNat : Nat) : Int) := by
  have e : ((-n).toNat : Int) = -n := by omega
  rw [e]
  simp only [IntKind.wrap, IntKind.signed, IntKind.bits]
  simp
  omega

theorem byteD_p1 (l : List UInt8) : (l.map byteD).all D.pure1 = true := by
  simp only [List.all_map, List.all_eq_true]; intro x _; rfl
theorem dg_slice (i md : Nat) (w : List UInt8) (hi : i + w.length = 20) : ∃ st', kSlcA (dgH i md w) 20 (.hp 0 0 20 0 0) (some (.int .i64 i)) none = some (.sl 1 true (w.map byteD), none, some st') := by
  have h1 : (List.replicate i z8 ++ w.map byteD).length = 20 := by simp; omega
  have h2 : (List.replicate i z8 ++ w.map byteD).all D.pure1 = true := by
    rw [List.all_append, byteD_p1, Bool.and_true, List.all_eq_true]
    intro x hx
    rw [List.eq_of_mem_replicate hx]; rfl
  have h3 : (0 : Int) ≤ i ∧ (i : Int) ≤ 20 := by omega
  have h4 := sl_arr i w hi
  unfold kSlcA dgH
  generalize List.replicate i z8 ++ w.map byteD = cs at *
  have h5 : i ≤ 20 := by omega
  simp [h1, h2, h5, h4]

/-- The program's Digits. -/
theorem c135 (n : Int) (h1 : -9223372036854775808 ≤ n) (h2 : n ≤ 9223372036854775807) (st : St) : callD T (ev T) 135 [.int .i64 n] st = some (.str (sdig n), st) := by
  refine callD_pureQ (fn := F135) rfl rfl (by simp) (by simp) (by simp) (Ret_wp (fn := F135) rfl ?_)
  have hz : ([.cells true 20 0 0 false [.agg [.int .u8 0, .int .u8 0, .int .u8 0, .int .u8 0, .int .u8 0, .int .u8 0, .int .u8 0, .int .u8 0, .int .u8 0, .int .u8 0, .int .u8 0, .int .u8 0, .int .u8 0, .int .u8 0, .int .u8 0, .int .u8 0, .int .u8 0, .int .u8 0, .int .u8 0, .int .u8 0]]] : St) = dgH 20 0 [] := rfl
  rw [F135]
  by_cases hn : n < 0
  · have w1 : IntKind.wrap .u64 n = n + 18446744073709551616 := by simp [IntKind.wrap, IntKind.signed, IntKind.bits]; omega
    have w2 : IntKind.wrap .u64 (-(n + 18446744073709551616)) = (((-n).toNat : Nat) : Int) := by rw [← wrapu_neg n h1 hn, Int.zero_sub]
    have hu : (-n).toNat < 18446744073709551616 := by omega
    have hl : (dig (-n).toNat).length ≤ 19 := dig_len 18 _ (by omega)
    have es : sdig n = 45 :: dig (-n).toNat := by unfold sdig; rw [if_pos hn]
    rw [es]
    generalize (-n).toNat = u at *
    simp [hn, w1, w2, hz]
    refine WL.use L135_0_p L135_0_w (l135 _ u 20 0 [] _ _ (Nat.le_refl _) hu (by omega) (by simp) (by simp) (by simp) (by simp)) ?_
    rintro e s' b st' ⟨rfl, h4, md', rfl⟩ hf
    have h0 : get s' 0 = .int .i64 n := by rw [hf 0 rfl]; simp
    have k3 : get s' 3 = .hp 0 0 20 0 0 := by rw [hf 3 rfl]; simp
    obtain ⟨j, hj⟩ : ∃ j, 20 - (dig u).length = j + 1 := ⟨20 - (dig u).length - 1, by omega⟩
    rw [hj] at h4 ⊢
    rw [List.append_nil]
    have w3 : IntKind.wrap .i64 (((j + 1 : Nat) : Int) - 1) = (j : Int) := by rw [wrap64] <;> omega
    have sp := splice_rep j ((dig u).map byteD) (.int .u8 45)
    have hj2 : j < 20 := by omega
    have hb : (D.int .u8 45) :: (dig u).map byteD = (45 :: dig u).map byteD := rfl
    rw [hb] at sp
    have hlen : j + (45 :: dig u).length = 20 := by simp; omega
    generalize 45 :: dig u = W at *
    obtain ⟨st2, sa⟩ := dg_slice j (md' + 1) W hlen
    have ub := unbyte_map W
    unfold dgH at sa ⊢
    simp [h0, k3, h4, hn, w3, idxAD, kHs, sp, hj2, sa, ub, -splice_, -Int.natCast_add]
  · have w1 : IntKind.wrap .u64 n = n := wrapu64 (by omega) (by omega)
    have hl : (dig n.toNat).length ≤ 19 := dig_len 18 _ (by omega)
    have es : sdig n = dig n.toNat := by unfold sdig; rw [if_neg hn]
    rw [es]
    have hu : n.toNat < 18446744073709551616 := by omega
    have hun : n = (n.toNat : Int) := by omega
    generalize n.toNat = u at *
    simp [hn, w1, hz]
    refine WL.use L135_0_p L135_0_w (l135 _ u 20 0 [] _ _ (Nat.le_refl _) hu (by omega) (by simp) (by simp) (by simp) (by simp [hun])) ?_
    rintro e s' b st' ⟨rfl, h4, md', rfl⟩ hf
    have h0 : get s' 0 = .int .i64 n := by rw [hf 0 rfl]; simp
    have k3 : get s' 3 = .hp 0 0 20 0 0 := by rw [hf 3 rfl]; simp
    rw [List.append_nil]
    obtain ⟨st2, sa⟩ := dg_slice (20 - (dig u).length) md' (dig u) (by omega)
    have ub := unbyte_map (dig u)
    generalize 20 - (dig u).length = j at *
    simp [h0, k3, h4, hn, sa, ub, -Int.natCast_add]

theorem c98 (n : Int) (h1 : -9223372036854775808 ≤ n) (h2 : n ≤ 9223372036854775807) (st : St) : callD T (ev T) 98 [.int .i64 n] st = some (.str (sdig n), st) := by
  refine callD_pureQ (fn := F98) rfl rfl (by simp) (by simp) (by simp) (Ret_wp (fn := F98) rfl ?_)
  have q := c135 n h1 h2
  rw [F98]
  simp [q]

end Go.Nt.Lk

/-
  NUMBERS READ, walked; what stands behind a blank.
  No condition.
-/
set_option linter.unusedSimpArgs false
namespace Go.Nt.Lk
open Go Go.Nt

def nuS (u : Int) (c : UInt8) : Int := IntKind.wrap .u64 (IntKind.wrap .u64 (u * 10) + (ch c - 48))
def numU (s : List UInt8) (a : Nat) (u : Int) : Int := ((s.drop a).takeWhile digitB).foldl nuS u
theorem numU_go {s : List UInt8} {a : Nat} {u : Int} (h : a < s.length) (hd : digitB s[a] = true) : numU s a u = numU s (a + 1) (nuS u s[a]) := by
  unfold numU
  rw [List.drop_eq_getElem_cons h, List.takeWhile_cons_of_pos hd]; rfl
theorem numU_stop {s : List UInt8} {a : Nat} {u : Int} (h : a < s.length) (hd : digitB s[a] = false) : numU s a u = u := by
  unfold numU
  rw [List.drop_eq_getElem_cons h, List.takeWhile_cons_of_neg (by simp [hd])]; rfl
theorem numU_end {s : List UInt8} {a : Nat} {u : Int} (h : s.length ≤ a) : numU s a u = u := by
  unfold numU
  rw [List.drop_eq_nil_of_le h]; rfl

theorem l96 {st : St} {R : Nat} (hR : R < st.length) (s : List UInt8) (hs : s.length ≤ 100000000) (ok : Bool) : ∀ (r a md : Nat) (u : Int) (sl : List D) (bx : List (Nat × List D)), r = s.length - a → a ≤ s.length → get sl 0 = .hp R 0 3 0 0 → get sl 4 = .int .u64 u →
    Stops (lp T L96_0 ⟨⟨sl, bx⟩, rdO st R s a ok md⟩) fun e s' _ st' => e = .exit 0 ∧ get s' 4 = .int .u64 (numU s a u) ∧ ∃ md', st' = rdO st R s (runEnd digitB s a) ok md' := by
  intro r
  induction r with
  | zero =>
    intro a md u sl bx hr ha h0 h4
    have e : a = s.length := by omega
    subst e
    refine Stops_wp L96_0.eq_1 ?_
    simp [h0, h4, rdO_at hR, runEnd_end, numU_end]
    exact ⟨_, rfl⟩
  | succ r ih =>
    intro a md u sl bx hr ha h0 h4
    have hlt : a < s.length := by omega
    have w1 := wrap1 (a := a) (by omega)
    have hc := s[a].toNat_lt
    have nx := fun sl' => ih (a + 1) (md + 1) (nuS u s[a]) sl' bx (by omega) (by omega)
    have dg : (48 ≤ ch s[a] ∧ ch s[a] ≤ 57) → digitB s[a] = true := fun h => by simp only [digitB, Bool.and_eq_true, decide_eq_true_eq]; exact h
    have dn : ¬ (48 ≤ ch s[a] ∧ ch s[a] ≤ 57) → digitB s[a] = false := fun h => by simp only [digitB, Bool.and_eq_false_iff, decide_eq_false_iff_not]; omega
    unfold nuS at nx
    refine Stops_wp L96_0.eq_1 ?_
    generalize hn : ch s[a] = n at *
    have hn' : (s[a].toNat : Int) = n := hn
    have w2 : 48 ≤ n → n ≤ 57 → IntKind.wrap .u8 (n - 48) = n - 48 := fun h h' => wrap8 (by omega) (by omega)
    have w3 : 48 ≤ n → n ≤ 57 → IntKind.wrap .u64 (n - 48) = n - 48 := fun h h' => wrapu64 (by omega) (by omega)
    simp +contextual [h0, h4, rdO_at hR, rdO_set, rdO_fold, hlt, w1, byteD, kHs, hn', w2, w3, -Int.natCast_add]
    refine ⟨fun h1 => ⟨fun h2 => ?_, fun h2 => ?_⟩, fun h1 => ?_⟩
    · rw [runEnd_go hlt (dg ⟨h1, h2⟩), numU_go hlt (dg ⟨h1, h2⟩)]
      unfold nuS
      rw [hn]
      exact nx _ (by simp [h0]) (by simp)
    · rw [runEnd_stop hlt (dn (by omega)), numU_stop hlt (dn (by omega))]; exact ⟨rfl, _, rfl⟩
    · rw [runEnd_stop hlt (dn (by omega)), numU_stop hlt (dn (by omega))]; exact ⟨rfl, _, rfl⟩

def minus (s : List UInt8) (a : Nat) : Bool := decide (s[a]? = some 45)
/-- Where a number's digits begin; where they end; its value; what number leaves. -/
def num1 (s : List UInt8) (a : Nat) : Nat := if minus s a then a + 1 else a
def numE (s : List UInt8) (a : Nat) : Nat := runEnd digitB s (num1 s a)
def numA (s : List UInt8) (a : Nat) : Int := if minus s a then IntKind.wrap .i64 (0 - IntKind.wrap .i64 (numU s (num1 s a) 0)) else IntKind.wrap .i64 (numU s (num1 s a) 0)
def numR (s : List UInt8) (a : Nat) (ok : Bool) : Int × Nat × Bool := (numA s a, numE s a, ok && decide (sdig (numA s a) = seg s a (numE s a)))

theorem in64_wrap (n : Int) : -9223372036854775808 ≤ IntKind.wrap .i64 n ∧ IntKind.wrap .i64 n ≤ 9223372036854775807 := by
  rw [IntKind.wrap_i64]; omega
theorem numA_in (s : List UInt8) (a : Nat) : -9223372036854775808 ≤ numA s a ∧ numA s a ≤ 9223372036854775807 := by
  unfold numA; split <;> exact in64_wrap _

theorem c96 {st : St} {R : Nat} (hR : R < st.length) (s : List UInt8) (hs : s.length ≤ 30000000) (ok : Bool) (a md : Nat) (ha : a ≤ s.length) :
    ∃ md', callD T (ev T) 96 [.hp R 0 3 0 0] (rdO st R s a ok md) = some (.int .i64 (numR s a ok).1, rdO st R s (numR s a ok).2.1 (numR s a ok).2.2 md') := by
  suffices h : Ret (ev T 96 [.hp R 0 3 0 0] (rdO st R s a ok md)) fun r st' => ∃ md', r = .int .i64 (numR s a ok).1 ∧ st' = rdO st R s (numR s a ok).2.1 (numR s a ok).2.2 md' by
    obtain ⟨r, st', h1, md', rfl, rfl⟩ := h
    exact ⟨md', by rw [callD_rawE (fn := F96) rfl rfl (by simp)]; exact h1⟩
  refine Ret_wp (fn := F96) rfl ?_
  have hA := numA_in s a
  have q := callQ_pure (fn := F98) rfl rfl (by simp) (by simp) (c98 (numA s a) hA.1 hA.2 [])
  have w1 := wrap1 (a := a) (by omega)
  rw [F96]
  cases hm : minus s a with
  | true =>
    have hm' : s[a]? = some 45 := by simpa [minus] using hm
    obtain ⟨hlt, he⟩ := List.getElem?_eq_some_iff.1 hm'
    have e1 : num1 s a = a + 1 := by unfold num1; rw [if_pos hm]
    have e2 : numA s a = IntKind.wrap .i64 (-IntKind.wrap .i64 (numU s (a + 1) 0)) := by unfold numA; rw [if_pos hm, e1, Int.zero_sub]
    have h45 : (s[a].toNat : Int) = 45 := by rw [he]; rfl
    have q2 := str_slice s .i64 .i64 a (runEnd digitB s (a + 1)) (by have := le_runEnd digitB s (a + 1); omega) (runEnd_le _ _ (by omega))
    unfold numR numE
    rw [e1]
    rw [e2] at q ⊢
    generalize hv : IntKind.wrap .i64 (-IntKind.wrap .i64 (numU s (a + 1) 0)) = v at *
    simp [rdO_at hR, rdO_set, rdO_fold, hlt, w1, byteD, h45, kHs, -Int.natCast_add]
    refine WL.use L96_0_p L96_0_w (l96 hR s (by omega) ok _ (a + 1) _ 0 _ _ rfl (by omega) (by simp) (by simp)) ?_
    rintro e s' b st' ⟨rfl, h4, md', rfl⟩ hf
    have h0 : get s' 0 = .hp R 0 3 0 0 := by rw [hf 0 rfl]; simp
    have h3 : get s' 3 = .int .i64 a := by rw [hf 3 rfl]; simp
    by_cases hq : sdig v = seg s a (runEnd digitB s (a + 1))
    · simp [h0, h3, h4, rdO_at hR, rdO_set, rdO_fold, hlt, byteD, h45, hv, q, q2, hq, kHs, -Int.natCast_add]
      exact ⟨_, rfl⟩
    · simp [h0, h3, h4, rdO_at hR, rdO_set, rdO_fold, hlt, byteD, h45, hv, q, q2, hq, kHs, -Int.natCast_add]
      exact ⟨_, rfl⟩
  | false =>
    have hm' : ∀ h : a < s.length, ¬ (s[a].toNat : Int) = 45 := fun h g => by
      simp only [minus, decide_eq_false_iff_not] at hm
      refine hm ?_
      rw [List.getElem?_eq_getElem h]
      congr 1
      exact UInt8.toNat_inj.1 (by have : (45 : UInt8).toNat = 45 := rfl; omega)
    have e1 : num1 s a = a := by unfold num1; rw [if_neg (by simp [hm])]
    have e2 : numA s a = IntKind.wrap .i64 (numU s a 0) := by unfold numA; rw [if_neg (by simp [hm]), e1]
    have q2 := str_slice s .i64 .i64 a (runEnd digitB s a) (by have := le_runEnd digitB s a; omega) (runEnd_le _ _ ha)
    unfold numR numE
    rw [e1]
    rw [e2] at q ⊢
    generalize hv : IntKind.wrap .i64 (numU s a 0) = v at *
    by_cases hlt : a < s.length
    · have hm2 := hm' hlt
      simp [rdO_at hR, rdO_set, rdO_fold, hlt, w1, byteD, hm2, kHs, -Int.natCast_add]
      refine WL.use L96_0_p L96_0_w (l96 hR s (by omega) ok _ a _ 0 _ _ rfl (by omega) (by simp) (by simp)) ?_
      rintro e s' b st' ⟨rfl, h4, md', rfl⟩ hf
      have h0 : get s' 0 = .hp R 0 3 0 0 := by rw [hf 0 rfl]; simp
      have h3 : get s' 3 = .int .i64 a := by rw [hf 3 rfl]; simp
      by_cases hq : sdig v = seg s a (runEnd digitB s a)
      · simp [h0, h3, h4, rdO_at hR, rdO_set, rdO_fold, hlt, byteD, hm2, hv, q, q2, hq, kHs, -Int.natCast_add]
        exact ⟨_, rfl⟩
      · simp [h0, h3, h4, rdO_at hR, rdO_set, rdO_fold, hlt, byteD, hm2, hv, q, q2, hq, kHs, -Int.natCast_add]
        exact ⟨_, rfl⟩
    · have e3 : a = s.length := by omega
      subst e3
      simp [rdO_at hR, rdO_set, rdO_fold, w1, byteD, kHs, -Int.natCast_add]
      refine WL.use L96_0_p L96_0_w (l96 hR s (by omega) ok _ s.length _ 0 _ _ rfl (by omega) (by simp) (by simp)) ?_
      rintro e s' b st' ⟨rfl, h4, md', rfl⟩ hf
      have h0 : get s' 0 = .hp R 0 3 0 0 := by rw [hf 0 rfl]; simp
      have h3 : get s' 3 = .int .i64 s.length := by rw [hf 3 rfl]; simp
      by_cases hq : sdig v = seg s s.length (runEnd digitB s s.length)
      · simp [h0, h3, h4, rdO_at hR, rdO_set, rdO_fold, byteD, hv, q, q2, hq, kHs, -Int.natCast_add]
        exact ⟨_, rfl⟩
      · simp [h0, h3, h4, rdO_at hR, rdO_set, rdO_fold, byteD, hv, q, q2, hq, kHs, -Int.natCast_add]
        exact ⟨_, rfl⟩

/-- Behind a blank: a text; a number. -/
def bTxt (s : List UInt8) (a : Nat) (ok : Bool) : List UInt8 × Nat × Bool := if ok = true ∧ s[a]? = some 32 then txtR s (a + 1) true else ([], a, false)
def bNum (s : List UInt8) (a : Nat) (ok : Bool) : Int × Nat × Bool := if ok = true ∧ s[a]? = some 32 then numR s (a + 1) true else (0, a, false)

theorem c92 {st : St} {R : Nat} (hR : R < st.length) (s : List UInt8) (hs : s.length ≤ 30000000) (ok : Bool) (a md : Nat) (ha : a ≤ s.length) :
    ∃ g md', callD T (ev T) 92 [.hp R 0 3 0 0, .fn 93 [.hp R 0 3 0 0] []] (rdO st R s a ok md) = some (.str (bTxt s a ok).1, rdO (st ++ g) R s (bTxt s a ok).2.1 (bTxt s a ok).2.2 md') := by
  suffices h : Ret (ev T 92 [.hp R 0 3 0 0, .fn 93 [.hp R 0 3 0 0] []] (rdO st R s a ok md)) fun r st' => ∃ g md', r = .str (bTxt s a ok).1 ∧ st' = rdO (st ++ g) R s (bTxt s a ok).2.1 (bTxt s a ok).2.2 md' by
    obtain ⟨r, st', h1, g, md', rfl, rfl⟩ := h
    exact ⟨g, md', by rw [callD_rawE (fn := F92) rfl rfl (by simp)]; exact h1⟩
  refine Ret_wp (fn := F92) rfl ?_
  unfold bTxt
  have w1 := wrap1 (a := a) (by omega)
  rw [F92]
  cases ok with
  | false =>
    simp [rdO_at hR, rdO_set, rdO_fold, kHs]
    exact ⟨[], _, by simp; rfl⟩
  | true =>
    by_cases hlt : a < s.length
    · have hng : ¬ s.length ≤ a := by omega
      by_cases h32 : s[a] = 32
      · obtain ⟨g, md', q⟩ := c93 hR s hs true (a + 1) (md + 1) (by omega)
        have e : (s[a].toNat : Int) = 32 := by rw [h32]; rfl
        simp [rdO_at hR, rdO_set, rdO_fold, hlt, hng, byteD, e, h32, w1, kHs, q, -Int.natCast_add]
        exact ⟨g, _, rfl⟩
      · have e : ¬ (s[a].toNat : Int) = 32 := fun g => h32 (UInt8.toNat_inj.1 (by have : (32 : UInt8).toNat = 32 := rfl; omega))
        simp [rdO_at hR, rdO_set, rdO_fold, hlt, hng, byteD, e, h32, w1, kHs, -Int.natCast_add]
        exact ⟨[], _, by simp; rfl⟩
    · have e2 : a = s.length := by omega
      subst e2
      simp [rdO_at hR, rdO_set, rdO_fold, kHs]
      exact ⟨[], _, by simp; rfl⟩

theorem c95 {st : St} {R : Nat} (hR : R < st.length) (s : List UInt8) (hs : s.length ≤ 30000000) (ok : Bool) (a md : Nat) (ha : a ≤ s.length) :
    ∃ md', callD T (ev T) 95 [.hp R 0 3 0 0, .fn 96 [.hp R 0 3 0 0] []] (rdO st R s a ok md) = some (.int .i64 (bNum s a ok).1, rdO st R s (bNum s a ok).2.1 (bNum s a ok).2.2 md') := by
  suffices h : Ret (ev T 95 [.hp R 0 3 0 0, .fn 96 [.hp R 0 3 0 0] []] (rdO st R s a ok md)) fun r st' => ∃ md', r = .int .i64 (bNum s a ok).1 ∧ st' = rdO st R s (bNum s a ok).2.1 (bNum s a ok).2.2 md' by
    obtain ⟨r, st', h1, md', rfl, rfl⟩ := h
    exact ⟨md', by rw [callD_rawE (fn := F95) rfl rfl (by simp)]; exact h1⟩
  refine Ret_wp (fn := F95) rfl ?_
  unfold bNum
  have w1 := wrap1 (a := a) (by omega)
  rw [F95]
  cases ok with
  | false =>
    simp [rdO_at hR, rdO_set, rdO_fold, kHs]
    exact ⟨_, rfl⟩
  | true =>
    by_cases hlt : a < s.length
    · have hng : ¬ s.length ≤ a := by omega
      by_cases h32 : s[a] = 32
      · obtain ⟨md', q⟩ := c96 hR s hs true (a + 1) (md + 1) (by omega)
        have e : (s[a].toNat : Int) = 32 := by rw [h32]; rfl
        simp [rdO_at hR, rdO_set, rdO_fold, hlt, hng, byteD, e, h32, w1, kHs, q, -Int.natCast_add]
        exact ⟨_, rfl⟩
      · have e : ¬ (s[a].toNat : Int) = 32 := fun g => h32 (UInt8.toNat_inj.1 (by have : (32 : UInt8).toNat = 32 := rfl; omega))
        simp [rdO_at hR, rdO_set, rdO_fold, hlt, hng, byteD, e, h32, w1, kHs, -Int.natCast_add]
        exact ⟨_, rfl⟩
    · have e2 : a = s.length := by omega
      subst e2
      simp [rdO_at hR, rdO_set, rdO_fold, kHs]
      exact ⟨_, rfl⟩

end Go.Nt.Lk

/-
  A REQUEST READ, walked.
  No condition.
-/
set_option linter.unusedSimpArgs false
namespace Go.Nt.Lk
open Go Go.Nt

def i64 (n : Int) : D := .int .i64 n

theorem bNum_le {s : List UInt8} {a : Nat} (ok : Bool) (h : a ≤ s.length) : (bNum s a ok).2.1 ≤ s.length := by
  unfold bNum
  split
  · rename_i hc
    have h1 : a < s.length := (List.getElem?_eq_some_iff.1 hc.2).1
    simp only [numR, numE]
    refine runEnd_le _ _ ?_
    unfold num1
    split
    · rename_i hm
      simp only [minus, decide_eq_true_eq] at hm
      exact (List.getElem?_eq_some_iff.1 hm).1
    · omega
  · exact h
theorem bNum_lt {s : List UInt8} {a : Nat} {ok : Bool} (h : (bNum s a ok).2.2 = true) : a < (bNum s a ok).2.1 := by
  unfold bNum at h ⊢
  split
  · simp only [numR, numE]
    have := le_runEnd digitB s (num1 s (a + 1))
    have h2 : a + 1 ≤ num1 s (a + 1) := by unfold num1; split <;> omega
    omega
  · rename_i hc; rw [if_neg hc] at h; cases h

/-- Numbers read to the end. -/
def numsR (s : List UInt8) : Nat → Nat → Bool → List Int × Nat × Bool
  | 0, a, ok => ([], a, ok)
  | n + 1, a, ok => if ok = true ∧ a < s.length then
      ((bNum s a ok).1 :: (numsR s n (bNum s a ok).2.1 (bNum s a ok).2.2).1, (numsR s n (bNum s a ok).2.1 (bNum s a ok).2.2).2)
    else ([], a, ok)

def grN (st : St) (ns : List Int) : D × St := grownA st (seed 1 .nil) 1 (ns.map i64)
theorem grN_rdO {st : St} {R : Nat} (h : R < st.length) (ns : List Int) (s : List UInt8) (a : Nat) (ok : Bool) (md : Nat) : grN (rdO st R s a ok md) ns = ((grN st ns).1, rdO (grN st ns).2 R s a ok md) := by
  cases ns with
  | nil => rfl
  | cons n ns => simp only [grN, List.map_cons, grownA, rdO_len, rdO_app h]
theorem grN_lt {st : St} {R : Nat} (h : R < st.length) (ns : List Int) : R < (grN st ns).2.length := by cases ns <;> simp [grN, grownA] <;> omega
theorem grN_app {st : St} {R : Nat} (h : R < st.length) (ns : List Int) (hn : ns.length ≤ 60000000) (n : Int) (s : List UInt8) (a : Nat) (ok : Bool) (md : Nat) :
    appendD (rdO (grN st ns).2 R s a ok md) (grN st ns).1 [.int .i64 n] 1 = some ((grN st (ns ++ [n])).1, rdO (grN st (ns ++ [n])).2 R s a ok md) := by
  have h1 := growA (rdO st R s a ok md) .nil 1 (ns.map i64) (i64 n) (by simp; omega)
  have e : ns.map i64 ++ [i64 n] = (ns ++ [n]).map i64 := by simp
  rw [e] at h1
  have h2 := grN_rdO h ns s a ok md
  have h3 := grN_rdO h (ns ++ [n]) s a ok md
  unfold grN at h2 h3 ⊢
  rw [h2, h3] at h1
  exact h1
@[simp] theorem grN_cells (st : St) (ns : List Int) : (grN st ns).1.cells = [(grN st ns).1] := grownA_cells _ _ _ _
@[simp] theorem grN_okv (st : St) (ns : List Int) : (grN st ns).1.okv = true := grownA_okv _ _ _ _
@[simp] theorem grN_fits (st : St) (ns : List Int) : (grN st ns).1.fits none = true := grownA_fits _ _ _ _

theorem numsR_f (s : List UInt8) (n a : Nat) : numsR s n a false = ([], a, false) := by cases n <;> simp [numsR]

def Q94 (st : St) (R : Nat) (s : List UInt8) (x1 x2 x3 x4 : D) (gg : Nat) (ns : List Int) (a : Nat) (ok : Bool) (e : Ex) (b' : List (Nat × List D)) (st' : St) : Prop :=
  e = .exit 0 ∧ getB b' 3 = (gg, [x1, x2, x3, x4, (grN st ns).1]) ∧ ∃ md', st' = rdO (grN st ns).2 R s a ok md'

theorem l94f {st : St} {R : Nat} (hR : R < st.length) (s : List UInt8) (x1 x2 x3 x4 : D) (gg : Nat) (a md : Nat) (ns : List Int) (sl : List D) (bx : List (Nat × List D)) (h0 : get sl 0 = .hp R 0 3 0 0) (hb : getB bx 3 = (gg, [x1, x2, x3, x4, (grN st ns).1])) :
    Stops (lp T L94_0 ⟨⟨sl, bx⟩, rdO (grN st ns).2 R s a false md⟩) fun e _ b' st' => Q94 st R s x1 x2 x3 x4 gg ns a false e b' st' := by
  have hB := grN_lt hR ns
  refine Stops_wp L94_0.eq_1 ?_
  simp [h0, rdO_at hB]
  exact ⟨rfl, hb, _, rfl⟩

theorem l94 {st : St} {R : Nat} (hR : R < st.length) (s : List UInt8) (hs : s.length ≤ 30000000) (x1 x2 x3 x4 : D) (gg : Nat) : ∀ (n a md : Nat) (ok : Bool) (ns : List Int) (sl : List D) (bx : List (Nat × List D)), s.length - a < n → a ≤ s.length → ns.length ≤ a → get sl 0 = .hp R 0 3 0 0 → get sl 3 = .lp 3 gg 0 → getB bx 3 = (gg, [x1, x2, x3, x4, (grN st ns).1]) →
    Stops (lp T L94_0 ⟨⟨sl, bx⟩, rdO (grN st ns).2 R s a ok md⟩) fun e _ b' st' => Q94 st R s x1 x2 x3 x4 gg (ns ++ (numsR s n a ok).1) (numsR s n a ok).2.1 (numsR s n a ok).2.2 e b' st' := by
  intro n
  induction n with
  | zero => intro a md ok ns sl bx hr; omega
  | succ n ih =>
    intro a md ok ns sl bx hr ha ho h0 h3 hb
    cases ok with
    | false =>
      rw [numsR_f]
      simp only [List.append_nil]
      exact l94f hR s x1 x2 x3 x4 gg a md ns sl bx h0 hb
    | true =>
      have hB := grN_lt hR ns
      refine Stops_wp L94_0.eq_1 ?_
      by_cases hlt : a < s.length
      · obtain ⟨md1, q⟩ := c95 (R := R) (st := (grN st ns).2) hB s hs true a md ha
        have hle := bNum_le true ha
        have hgt := bNum_lt (s := s) (a := a) (ok := true)
        have g1 := grN_app hR ns (by omega) (bNum s a true).1 s (bNum s a true).2.1 (bNum s a true).2.2 md1
        have g2 : ∀ sl' bx', get sl' 0 = .hp R 0 3 0 0 → get sl' 3 = .lp 3 gg 0 → getB bx' 3 = (gg, [x1, x2, x3, x4, (grN st (ns ++ [(bNum s a true).1])).1]) → 
          Stops (lp T L94_0 ⟨⟨sl', bx'⟩, rdO (grN st (ns ++ [(bNum s a true).1])).2 R s (bNum s a true).2.1 (bNum s a true).2.2 md1⟩) fun e _ b' st' => Q94 st R s x1 x2 x3 x4 gg (ns ++ (numsR s (n + 1) a true).1) (numsR s (n + 1) a true).2.1 (numsR s (n + 1) a true).2.2 e b' st' := by
          intro sl' bx' e0 e3 eb
          unfold numsR
          rw [if_pos ⟨rfl, hlt⟩]
          cases hk : (bNum s a true).2.2 with
          | true =>
            have := ih (bNum s a true).2.1 md1 true (ns ++ [(bNum s a true).1]) sl' bx' (by have := hgt hk; omega) hle (by have := hgt hk; simp; omega) e0 e3 eb
            simpa using this
          | false =>
            rw [numsR_f]
            exact l94f hR s x1 x2 x3 x4 gg _ md1 (ns ++ [(bNum s a true).1]) sl' bx' e0 eb
        have c1 := grN_cells st (ns ++ [(bNum s a true).1])
        have c2 := grN_okv st (ns ++ [(bNum s a true).1])
        generalize (bNum s a true).1 = v at *
        generalize (bNum s a true).2.1 = a1 at *
        generalize (bNum s a true).2.2 = k1 at *
        generalize (grN st (ns ++ [v])).1 = gv at *
        simp [h0, h3, hb, rdO_at hB, hlt, q, g1, c1, c2, -Int.natCast_add]
        exact g2 _ _ (by simp [h0]) (by simp [h3]) (by simp)
      · simp [h0, rdO_at hB, hlt]
        unfold numsR
        rw [if_neg (by simp [hlt])]
        simp only [List.append_nil]
        exact ⟨rfl, hb, _, rfl⟩

structure Rq where
  kind : Int
  frm : Int
  to : Int
  name : List UInt8
  nums : List Int

def reqR (s : List UInt8) (a : Nat) (ok : Bool) : Rq × Nat × Bool :=
  match bNum s a ok with
  | (k, a1, o1) => match bNum s a1 o1 with
    | (f, a2, o2) => match bNum s a2 o2 with
      | (t, a3, o3) => match bTxt s a3 o3 with
        | (nm, a4, o4) => match numsR s (s.length + 1) a4 o4 with
          | (ns, a5, o5) => (⟨k, f, t, nm, ns⟩, a5, o5)

theorem txtR_le {s : List UInt8} {a : Nat} (ok : Bool) (h : a ≤ s.length) : (txtR s a ok).2.1 ≤ s.length := by
  unfold txtR
  split
  · split
    · unfold quoR
      cases hq : quoted s a with
      | none => simp
      | some p =>
        unfold quoted at hq
        split at hq
        · rename_i hc
          simp only [Option.some.injEq] at hq
          subst hq
          exact hc.1
        · cases hq
    · exact h
  · exact h
theorem bTxt_le {s : List UInt8} {a : Nat} (ok : Bool) (h : a ≤ s.length) : (bTxt s a ok).2.1 ≤ s.length := by
  unfold bTxt
  split
  · rename_i hc
    exact txtR_le _ (List.getElem?_eq_some_iff.1 hc.2).1
  · exact h

def reqD (q : Rq) (d : D) : List D := [i64 q.kind, i64 q.frm, i64 q.to, .str q.name, d]

theorem c94 {st : St} {R : Nat} (hR : R < st.length) (s : List UInt8) (hs : s.length ≤ 30000000) (ok : Bool) (a md : Nat) (ha : a ≤ s.length) :
    ∃ g md', callD T (ev T) 94 [.hp R 0 3 0 0] (rdO st R s a ok md) = some (.agg (reqD (reqR s a ok).1 (grN (st ++ g) (reqR s a ok).1.nums).1), rdO (grN (st ++ g) (reqR s a ok).1.nums).2 R s (reqR s a ok).2.1 (reqR s a ok).2.2 md') := by
  suffices h : Ret (ev T 94 [.hp R 0 3 0 0] (rdO st R s a ok md)) fun r st' => ∃ g md', r = .agg (reqD (reqR s a ok).1 (grN (st ++ g) (reqR s a ok).1.nums).1) ∧ st' = rdO (grN (st ++ g) (reqR s a ok).1.nums).2 R s (reqR s a ok).2.1 (reqR s a ok).2.2 md' by
    obtain ⟨r, st', h1, g, md', rfl, rfl⟩ := h
    exact ⟨g, md', by rw [callD_rawE (fn := F94) rfl rfl (by simp)]; exact h1⟩
  refine Ret_wp (fn := F94) rfl ?_
  unfold reqR
  obtain ⟨md1, q1⟩ := c95 hR s hs ok a md ha
  have l1 := bNum_le ok ha
  rcases h1 : bNum s a ok with ⟨k, a1, o1⟩
  rw [h1] at q1 l1
  simp only at q1 l1 ⊢
  obtain ⟨md2, q2⟩ := c95 hR s hs o1 a1 md1 l1
  have l2 := bNum_le o1 l1
  rcases h2 : bNum s a1 o1 with ⟨f, a2, o2⟩
  rw [h2] at q2 l2
  simp only at q2 l2 ⊢
  obtain ⟨md3, q3⟩ := c95 hR s hs o2 a2 md2 l2
  have l3 := bNum_le o2 l2
  rcases h3 : bNum s a2 o2 with ⟨t, a3, o3⟩
  rw [h3] at q3 l3
  simp only at q3 l3 ⊢
  obtain ⟨g, md4, q4⟩ := c92 hR s hs o3 a3 md3 l3
  have l4 := bTxt_le o3 l3
  rcases h4 : bTxt s a3 o3 with ⟨nm, a4, o4⟩
  rw [h4] at q4 l4
  simp only at q4 l4 ⊢
  rw [F94]
  simp [q1, q2, q3, q4, reqD, i64]
  have hR' : R < (st ++ g).length := by simp; omega
  refine WL.useB L94_0_p L94_0_w (by kernel_rfl : L94_0.wrB = [3]) (l94 hR' s hs (.int .i64 k) (.int .i64 f) (.int .i64 t) (.str nm) 1 (s.length + 1) a4 md4 o4 [] _ _ (by omega) l4 (by simp) (by simp) (by simp) (by simp [grN, seed])) ?_
  rcases h5 : numsR s (s.length + 1) a4 o4 with ⟨ns, a5, o5⟩
  rintro e s' b st' ⟨rfl, hb, md', rfl⟩ hf hg
  have e0 : get s' 3 = .lp 3 1 0 := by rw [hf 3 rfl]; simp
  have e2 : get s' 2 = .lp 2 1 0 := by rw [hf 2 rfl]; simp
  have b2 : getB b 2 = (1, [.int .i64 0, .int .i64 0, .int .i64 0, .str [], .nils]) := by rw [hg 2 rfl]; simp
  simp only [List.nil_append] at hb ⊢
  simp [hb, e0, e2, b2, reqD, i64]
  exact ⟨g, rfl, _, rfl⟩

end Go.Nt.Lk

/-
  AN OPERATION READ, walked.
  No condition.
-/
set_option linter.unusedSimpArgs false
namespace Go.Nt.Lk
open Go Go.Nt

structure Opr where
  kind : Int
  text : List UInt8
  rq : Rq
  n : Int

def rq0 : Rq := ⟨0, 0, 0, [], []⟩
/-- An operation's datum. -/
def Opr.cells (o : Opr) (d : D) : List D := [i64 o.kind, .str o.text, i64 o.rq.kind, i64 o.rq.frm, i64 o.rq.to, .str o.rq.name, d, i64 o.n]
def Opr.enc (o : Opr) : D := .agg (o.cells (slE 1 .nil (o.rq.nums.map i64)))

def wWord (k : Int) : List UInt8 := if k = 4 then [117, 110, 100, 111] else if k = 6 then [115, 121, 110, 99] else if k = 8 then [114, 101, 99, 111, 118, 101, 114] else if k = 9 then [118, 101, 114, 105, 102, 121] else []

theorem c97 (k : Int) (st : St) : callD T (ev T) 97 [.int .i64 k] st = some (.str (wWord k), st) := by
  refine callD_pureQ (fn := F97) rfl rfl (by simp) (by simp) (by intro; rfl) ?_
  refine Ret_wp (fn := F97) rfl ?_
  rw [F97]
  unfold wWord
  simp +contextual

def kind4 (w : List UInt8) : List Int → Int
  | [] => 0
  | k :: r => if w = wWord k then k else kind4 w r

/-- What op leaves. -/
def opR (s : List UInt8) (a : Nat) (ok : Bool) : Opr × Nat × Bool :=
  if seg s a (runEnd wordB s a) = [108, 111, 97, 100] then
    match bTxt s (runEnd wordB s a) ok with | (t, b, o) => (⟨1, t, rq0, 0⟩, b, o)
  else if seg s a (runEnd wordB s a) = [110, 111, 116, 101] then
    match bTxt s (runEnd wordB s a) ok with | (t, b, o) => (⟨5, t, rq0, 0⟩, b, o)
  else if seg s a (runEnd wordB s a) = [114, 101, 102, 97, 99, 116, 111, 114] then
    match reqR s (runEnd wordB s a) ok with | (q, b, o) => (⟨2, [], q, 0⟩, b, o)
  else if seg s a (runEnd wordB s a) = [99, 104, 101, 99, 107] then
    if runEnd wordB s a < s.length then
      match bTxt s (runEnd wordB s a) ok with | (t, b, o) => (⟨3, t, rq0, 0⟩, b, o && !decide (t = []))
    else (⟨3, [], rq0, 0⟩, runEnd wordB s a, ok)
  else if seg s a (runEnd wordB s a) = [99, 114, 97, 115, 104] then
    match bNum s (runEnd wordB s a) ok with | (n, b, o) => (⟨7, [], rq0, n⟩, b, o)
  else if kind4 (seg s a (runEnd wordB s a)) [4, 6, 8, 9] = 0 then (⟨0, [], rq0, 0⟩, runEnd wordB s a, false)
  else (⟨kind4 (seg s a (runEnd wordB s a)) [4, 6, 8, 9], [], rq0, 0⟩, runEnd wordB s a, ok)

def z8op : List D := [.int .i64 0, .str [], .int .i64 0, .int .i64 0, .int .i64 0, .str [], .nils, .int .i64 0]

@[simp] theorem lenD_sl (st : St) (sz : Nat) (f : Bool) (ds : List D) (q : Bool) : lenD st .slice (.sl sz f ds) q = some (.i ds.length) := (rfl)
def K4 : D := .sl 1 true [.int .i64 4, .int .i64 6, .int .i64 8, .int .i64 9]
def I57 (w : List UInt8) (gg : Nat) (i : Nat) (sl : List D) (bx : List (Nat × List D)) : Prop :=
  get sl 2 = .lp 2 gg 0 ∧ get sl 3 = .str w ∧ getB bx 2 = (gg, z8op) ∧ get sl 67 = K4 ∧ get sl 68 = .int .i64 4 ∧ get sl 69 = .int .i64 i

theorem l57s (st : St) (w : List UInt8) (sl : List D) (bx : List (Nat × List D)) (gg i : Nat) (k : Int) (hi : i < 4) (hk : idxAD K4 i 1 none none = some (.iptr (.int .i64 k))) (h : I57 w gg i sl bx)
    {Q : Ex → List D → List (Nat × List D) → St → Prop} (yes : w = wWord k → ∀ s' b', getB b' 2 = (gg, .int .i64 k :: z8op.tail) → Q .ret s' b' st) (no : ¬ w = wWord k → ∀ s' b', I57 w gg (i + 1) s' b' → Stops (lp T L57_0 ⟨⟨s', b'⟩, st⟩) Q) :
    Stops (lp T L57_0 ⟨⟨sl, bx⟩, st⟩) Q := by
  obtain ⟨h2, h3, hb, h67, h68, h69⟩ := h
  have q := c97 k st
  have hi' : (i : Int) < 4 := by omega
  have w1 := wrap1 (a := i) (by omega)
  refine Stops_wp L57_0.eq_1 ?_
  by_cases e : w = wWord k
  · have yes := yes e
    simp [h2, h3, hb, h67, h68, h69, hi', hk, q, e, z8op, -Int.natCast_add]
    exact yes _ _ (by simp [z8op])
  · have no := no e
    simp [h2, h3, hb, h67, h68, h69, hi', hk, q, e, z8op, w1, -Int.natCast_add]
    exact no _ _ ⟨by simp [h2], by simp [h3], by simp [hb], by simp [h67], by simp [h68], by simp⟩

theorem l57e (st : St) (w : List UInt8) (sl : List D) (bx : List (Nat × List D)) (gg : Nat) (h : I57 w gg 4 sl bx)
    {Q : Ex → List D → List (Nat × List D) → St → Prop} (k : ∀ s' b', getB b' 2 = (gg, z8op) → Q (.exit 1) s' b' st) :
    Stops (lp T L57_0 ⟨⟨sl, bx⟩, st⟩) Q := by
  obtain ⟨h2, h3, hb, h67, h68, h69⟩ := h
  refine Stops_wp L57_0.eq_1 ?_
  simp [h68, h69]
  exact k _ _ hb

theorem l57 (st : St) (w : List UInt8) (sl : List D) (bx : List (Nat × List D)) (gg : Nat) (h : I57 w gg 0 sl bx) :
    Stops (lp T L57_0 ⟨⟨sl, bx⟩, st⟩) fun e _ b' st' => st' = st ∧ ((kind4 w [4, 6, 8, 9] = 0 ∧ e = .exit 1 ∧ getB b' 2 = (gg, z8op)) ∨ (¬ kind4 w [4, 6, 8, 9] = 0 ∧ e = .ret ∧ getB b' 2 = (gg, .int .i64 (kind4 w [4, 6, 8, 9]) :: z8op.tail))) := by
  refine l57s st w sl bx gg 0 4 (by omega) rfl h (fun e s' b' hb => ?_) fun n4 s' b' h => ?_
  · have : kind4 w [4, 6, 8, 9] = 4 := by simp only [kind4]; rw [if_pos e]
    rw [this]; exact ⟨rfl, .inr ⟨by omega, rfl, hb⟩⟩
  refine l57s st w s' b' gg 1 6 (by omega) rfl h (fun e s' b' hb => ?_) fun n6 s' b' h => ?_
  · have : kind4 w [4, 6, 8, 9] = 6 := by simp only [kind4]; rw [if_neg n4, if_pos e]
    rw [this]; exact ⟨rfl, .inr ⟨by omega, rfl, hb⟩⟩
  refine l57s st w s' b' gg 2 8 (by omega) rfl h (fun e s' b' hb => ?_) fun n8 s' b' h => ?_
  · have : kind4 w [4, 6, 8, 9] = 8 := by simp only [kind4]; rw [if_neg n4, if_neg n6, if_pos e]
    rw [this]; exact ⟨rfl, .inr ⟨by omega, rfl, hb⟩⟩
  refine l57s st w s' b' gg 3 9 (by omega) rfl h (fun e s' b' hb => ?_) fun n9 s' b' h => ?_
  · have : kind4 w [4, 6, 8, 9] = 9 := by simp only [kind4]; rw [if_neg n4, if_neg n6, if_neg n8, if_pos e]
    rw [this]; exact ⟨rfl, .inr ⟨by omega, rfl, hb⟩⟩
  refine l57e st w s' b' gg h fun s' b' hb => ?_
  have : kind4 w [4, 6, 8, 9] = 0 := by simp only [kind4]; rw [if_neg n4, if_neg n6, if_neg n8, if_neg n9]
  rw [this]; exact ⟨rfl, .inl ⟨rfl, rfl, hb⟩⟩

theorem fz_grN {st : St} {R : Nat} (h : R < st.length) (ns : List Int) (s : List UInt8) (a : Nat) (ok : Bool) (md : Nat) :
    ∃ g, fz0 (rdO (grN st ns).2 R s a ok md) (grN st ns).1 = some (slE 1 .nil (ns.map i64), rdO (st ++ g) R s a ok md) := by
  have h1 := fz0_grownA (rdO st R s a ok md) .nil 1 (ns.map i64)
  have h2 := grN_rdO h ns s a ok md
  unfold grN at h2 ⊢
  rw [h2] at h1
  simp only at h1
  cases ns with
  | nil => exact ⟨[], by rw [List.append_nil]; exact h1⟩
  | cons n ns => exact ⟨_, by rw [rdO_app h]; exact h1⟩

theorem enc_pure (o : Opr) : o.enc.pureT = true := by
  cases ho : o.rq.nums <;> simp [Opr.enc, Opr.cells, i64, ho, slE] 

theorem rdO_nil (st : St) (R : Nat) (s : List UInt8) (a : Nat) (ok : Bool) (md : Nat) : rdO (st ++ []) R s a ok md = rdO st R s a ok md := by rw [List.append_nil]

theorem c57 {st : St} {R : Nat} (hR : R < st.length) (s : List UInt8) (hs : s.length ≤ 30000000) (ok : Bool) (a md : Nat) (ha : a ≤ s.length) :
    ∃ g md', callD T (ev T) 57 [.hp R 0 3 0 0] (rdO st R s a ok md) = some ((opR s a ok).1.enc, rdO (st ++ g) R s (opR s a ok).2.1 (opR s a ok).2.2 md') := by
  suffices h : Ret (ev T 57 [.hp R 0 3 0 0] (rdO st R s a ok md)) fun r st1 => ∃ g md', fz st1 r = some ((opR s a ok).1.enc, rdO (st ++ g) R s (opR s a ok).2.1 (opR s a ok).2.2 md') by
    obtain ⟨r, st', h1, g, md', hf⟩ := h
    exact ⟨g, md', callD_freE (fn := F57) rfl rfl (by simp) h1 hf (enc_pure _)⟩
  refine Ret_wp (fn := F57) rfl ?_
  unfold opR
  obtain ⟨md1, q0⟩ := c91 hR s (by omega) ok a md ha
  have hb : runEnd wordB s a ≤ s.length := runEnd_le _ _ ha
  generalize runEnd wordB s a = b at *
  generalize seg s a b = w at *
  obtain ⟨g2, md2, q2⟩ := c92 hR s hs ok b md1 hb
  obtain ⟨md3, q3⟩ := c95 hR s hs ok b md1 hb
  obtain ⟨g4, md4, q4⟩ := c94 hR s hs ok b md1 hb
  rw [F57]
  by_cases e1 : w = [108, 111, 97, 100]
  · rw [if_pos e1]
    rcases hx : bTxt s b ok with ⟨t, b1, o1⟩
    rw [hx] at q2
    simp only at q2 ⊢
    simp [q0, q2, e1]
    exact ⟨rfl, g2, md2, rfl⟩
  rw [if_neg e1]
  by_cases e2 : w = [110, 111, 116, 101]
  · rw [if_pos e2]
    rcases hx : bTxt s b ok with ⟨t, b1, o1⟩
    rw [hx] at q2
    simp only at q2 ⊢
    simp [q0, q2, e2]
    exact ⟨rfl, g2, md2, rfl⟩
  rw [if_neg e2]
  by_cases e3 : w = [114, 101, 102, 97, 99, 116, 111, 114]
  · rw [if_pos e3]
    rcases hx : reqR s b ok with ⟨t, b1, o1⟩
    rw [hx] at q4
    simp only at q4 ⊢
    have hR' : R < (st ++ g4).length := by simp; omega
    obtain ⟨g5, f5⟩ := fz_grN hR' t.nums s b1 o1 md4
    rw [List.append_assoc] at f5
    simp [q0, q4, e3, reqD, i64]
    exact ⟨g4 ++ g5, md4, by simp [fz, fz1, fzL, f5, Opr.enc, Opr.cells, i64]⟩
  rw [if_neg e3]
  by_cases e4 : w = [99, 104, 101, 99, 107]
  · rw [if_pos e4]
    by_cases hlt : b < s.length
    · rw [if_pos hlt]
      rcases hx : bTxt s b ok with ⟨t, b1, o1⟩
      rw [hx] at q2
      simp only at q2 ⊢
      have hR' : R < (st ++ g2).length := by simp; omega
      cases o1 with
      | true =>
        simp [q0, q2, e4, hlt, rdO_at hR, rdO_at hR', kHs, rdO_set]
        exact ⟨rfl, g2, _, rfl⟩
      | false =>
        simp [q0, q2, e4, hlt, rdO_at hR, rdO_at hR', kHs, rdO_set]
        exact ⟨rfl, g2, _, rfl⟩
    · rw [if_neg hlt]
      simp [q0, e4, hlt, rdO_at hR]
      exact ⟨rfl, [], md1, (rdO_nil _ _ _ _ _ _).symm⟩
  rw [if_neg e4]
  by_cases e5 : w = [99, 114, 97, 115, 104]
  · rw [if_pos e5]
    rcases hx : bNum s b ok with ⟨t, b1, o1⟩
    rw [hx] at q3
    simp only at q3 ⊢
    simp [q0, q3, e5]
    exact ⟨rfl, [], md3, (rdO_nil _ _ _ _ _ _).symm⟩
  rw [if_neg e5]
  simp [q0, e1, e2, e3, e4, e5]
  have q6 := fun sl bx h => l57 (rdO st R s b ok md1) w sl bx 1 h
  refine WL.useB L57_0_p L57_0_w (by kernel_rfl : L57_0.wrB = [2]) (q6 _ _ (by unfold I57; simp [z8op, K4])) ?_
  rintro e s' b' st' ⟨rfl, h⟩ hf hg
  have h0 : get s' 0 = .hp R 0 3 0 0 := by rw [hf 0 rfl]; simp
  have h2 : get s' 2 = .lp 2 1 0 := by rw [hf 2 rfl]; simp
  rcases h with ⟨hk, rfl, hb⟩ | ⟨hk, rfl, hb⟩
  · rw [if_pos hk]
    simp [h0, h2, hb, z8op, rdO_at hR, rdO_set, kHs]
    exact ⟨rfl, [], _, (rdO_nil st R s b false _).symm⟩
  · rw [if_neg hk]
    simp [h0, h2, hb, z8op]
    exact ⟨rfl, [], _, (rdO_nil _ _ _ _ _ _).symm⟩

end Go.Nt.Lk

/-
  TEXTS CUT AT LINES' ENDS, walked.
  No condition.
-/
set_option linter.unusedSimpArgs false
namespace Go.Nt.Lk
open Go Go.Nt

theorem findB_at (c : UInt8) : ∀ (s : List UInt8) (i : Nat), findB c s i = match cutB c s with | some r => ((i + r.1.length : Nat) : Int) | none => -1
  | [], i => rfl
  | x :: l, i => by
    unfold findB cutB
    split
    · simp
    · rw [findB_at c l (i + 1)]
      cases cutB c l with
      | none => rfl
      | some r =>
        show (((i + 1 + r.1.length : Nat) : Int)) = ((i + (x :: r.1).length : Nat) : Int)
        rw [List.length_cons]; omega
theorem cutB_eq (c : UInt8) : ∀ (s : List UInt8) (r : List UInt8 × List UInt8), cutB c s = some r → s = r.1 ++ c :: r.2
  | [], r, h => by cases h
  | x :: l, r, h => by
    unfold cutB at h
    split at h
    · rename_i e; cases h; rw [e]; rfl
    · cases h2 : cutB c l with
      | none => rw [h2] at h; cases h
      | some q => rw [h2] at h; cases h; rw [cutB_eq c l q h2]; rfl

theorem e133 (s : List UInt8) (c : UInt8) (st : St) : callD T (ev T) 133 [.str s, .str [c]] st = some (.int .i64 (findB c s 0), st) := by
  rw [callD_rawE (fn := F133) rfl rfl (by simp), ev_eq 133 F133 rfl, F133]
  simp [primD]

theorem str_to (s : List UInt8) (k : IntKind) (b : Nat) (hb : b ≤ s.length) : sliceD (.str s) none (some (.int k b)) none = some (.str (s.take b)) := by
  have h1 : (0 : Int) ≤ b := by omega
  have h2 : (b : Int) ≤ s.length := by omega
  simp [sliceD, h1, h2]
theorem str_from (s : List UInt8) (k : IntKind) (a : Nat) (ha : a ≤ s.length) : sliceD (.str s) (some (.int k a)) none none = some (.str (s.drop a)) := by
  have h3 : (0 : Int) ≤ a := by omega
  have h4 : (a : Int) ≤ s.length := by omega
  simp [sliceD, h3, h4]; omega

def cutN (s : List UInt8) : List UInt8 × List UInt8 × Bool := match cutB 10 s with
  | some r => (r.1, r.2, true)
  | none => (s, [], false)

theorem c90 (s : List UInt8) (hs : s.length ≤ 100000000) (st : St) : callD T (ev T) 90 [.str s, .str [10]] st = some (.tup [.str (cutN s).1, .str (cutN s).2.1, .bool (cutN s).2.2], st) := by
  refine callD_pureQ (fn := F90) rfl rfl (by simp) (by simp) (by intro; rfl) ?_
  refine Ret_wp (fn := F90) rfl ?_
  have q := e133 s 10
  rw [findB_at] at q
  unfold cutN
  rw [F90]
  cases h : cutB 10 s with
  | none =>
    rw [h] at q
    simp only at q ⊢
    simp [q]
  | some r =>
    rw [h] at q
    have e := cutB_eq 10 s r h
    have w1 := wrap1 (a := r.1.length) (by have := congrArg List.length e; simp at this; omega)
    have hl : r.1.length + 1 ≤ s.length := by have := congrArg List.length e; simp at this; omega
    have s1 := str_to s .i64 r.1.length (by omega)
    have s2 := str_from s .i64 (r.1.length + 1) hl
    have e1 : s.take r.1.length = r.1 := by conv => lhs; rw [e]
                                            simp
    have e2 : s.drop (r.1.length + 1) = r.2 := by
      conv => lhs; rw [e]
      rw [List.drop_append]; simp
    rw [e1] at s1; rw [e2] at s2
    simp only [Nat.zero_add] at q ⊢
    simp [q, w1, s1, s2, -Int.natCast_add]

theorem c56 (s : List UInt8) (hs : s.length ≤ 100000000) (st : St) : callD T (ev T) 56 [.str s, .str [10]] st = some (.tup [.str (cutN s).1, .str (cutN s).2.1, .bool (cutN s).2.2], st) := by
  refine callD_pureQ (fn := F56) rfl rfl (by simp) (by simp) (by intro; rfl) ?_
  refine Ret_wp (fn := F56) rfl ?_
  have q := c90 s hs
  rw [F56]
  simp [q]
end Go.Nt.Lk

/-
  SCRIPTS READ, walked: Parse.
  No condition.
-/
set_option linter.unusedSimpArgs false
namespace Go.Nt.Lk
open Go Go.Nt

/-- What Parse leaves: the operations, or the line that is none. -/
def parR : Nat → List UInt8 → Nat → Except Nat (List Opr)
  | 0, _, _ => .ok []
  | f + 1, s, n => if s = [] then .ok [] else
      if (opR (cutN s).1 0 (cutN s).2.2).2.2 = true ∧ (opR (cutN s).1 0 (cutN s).2.2).2.1 = (cutN s).1.length then
        match parR f (cutN s).2.1 (n + 1) with
        | .ok os => .ok ((opR (cutN s).1 0 (cutN s).2.2).1 :: os)
        | .error m => .error m
      else .error n

theorem cutN_le {s : List UInt8} (h : s ≠ []) : (cutN s).1.length ≤ s.length ∧ (cutN s).2.1.length < s.length := by
  unfold cutN
  cases hc : cutB 10 s with
  | none => exact ⟨Nat.le_refl _, by cases s with | nil => exact absurd rfl h | cons => simp⟩
  | some r =>
    have e := congrArg List.length (cutB_eq 10 s r hc)
    simp only [List.length_append, List.length_cons] at e
    simp only
    omega

/-- Rows that grow somewhere in a heap. -/
def Gw (st : St) (sz : Nat) (d : D) (ds : List D) : Prop :=
  (ds = [] ∧ d = .nils) ∨ ∃ X k md, ds ≠ [] ∧ d = .rs X k sz 0 ds.length false ∧ X < st.length ∧ k < ds.length ∧ St.at st X = .cells false sz k md false ds

theorem Gw.nil (st : St) (sz : Nat) : Gw st sz .nils [] := .inl ⟨rfl, rfl⟩
theorem Gw.okv {st : St} {sz : Nat} {d : D} {ds : List D} (h : Gw st sz d ds) : d.okv = true ∧ d.cells = [d] ∧ d.fits none = true := by
  rcases h with ⟨_, rfl⟩ | ⟨X, k, md, _, rfl, _⟩ <;> exact ⟨rfl, rfl, rfl⟩
theorem Gw.keep {st st' : St} {sz : Nat} {d : D} {ds : List D} (h : Gw st sz d ds) (hl : st.length ≤ st'.length) (he : ∀ X, X < st.length → St.at st' X = St.at st X) : Gw st' sz d ds := by
  rcases h with ⟨h1, h2⟩ | ⟨X, k, md, h1, h2, h3, h4, h5⟩
  · exact .inl ⟨h1, h2⟩
  · exact .inr ⟨X, k, md, h1, h2, Nat.lt_of_lt_of_le h3 hl, h4, by rw [he X h3]; exact h5⟩
theorem Gw.app {st : St} {sz : Nat} {d : D} {ds : List D} (h : Gw st sz d ds) (hl : ds.length ≤ 100000000) (x : D) :
    ∃ d' st', appendD st d [x] sz = some (d', st') ∧ Gw st' sz d' (ds ++ [x]) := by
  rcases h with ⟨rfl, rfl⟩ | ⟨X, k, md, h1, rfl, h3, h4, h5⟩
  · refine ⟨_, _, by simp [appendD, most], .inr ⟨st.length, 0, 0, by simp, rfl, by simp, by simp, at_last _ _⟩⟩
  · have ht : k + 1 < tagB := by unfold tagB; omega
    have hm : ds.length ≤ most := by unfold most; omega
    have m1 : ¬ most < 1 := by unfold most; omega
    refine ⟨.rs X (k + 1) sz 0 (ds.length + 1) false, List.set st X (.cells false sz (k + 1) (md + 1) false (ds ++ [x])), by simp [appendD, h5, m1, hm, ht], .inr ⟨X, k + 1, md + 1, by simp, by simp, by simpa using h3, by simp; omega, ?_⟩⟩
    rw [at_set _ _ _ _ h3, if_pos rfl]
theorem Gw.fz {st : St} {sz : Nat} {d : D} {ds : List D} (h : Gw st sz d ds) : ∃ st', fz1 st d = some (slE sz .nil ds, st') := by
  rcases h with ⟨rfl, rfl⟩ | ⟨X, k, md, h1, rfl, h3, h4, h5⟩
  · exact ⟨st, rfl⟩
  · cases ds with
    | nil => exact absurd rfl h1
    | cons x ds => exact ⟨_, by simp [fz1, fz0, h5, slE]; rfl⟩

theorem i64_map (ns : List Int) : (slE 1 .nil (ns.map i64)).pure = true := by
  cases ns <;> simp [slE, i64]

theorem i64_map1 (ns : List Int) : (slE 1 .nil (ns.map i64)).pure1 = true := by
  cases ns <;> simp [slE, i64]

def Q29 (os : List Opr) (x : Except Nat (List Opr)) (e : Ex) (s' : List D) (st' : St) : Prop :=
  match x with
  | .ok r => e = .exit 0 ∧ ∃ d, get s' 5 = d ∧ Gw st' 8 d ((os ++ r).map Opr.enc)
  | .error m => e = .ret ∧ get s' 2 = .nils ∧ get s' 3 = .int .i64 m ∧ get s' 4 = .int .i64 2

theorem l29 : ∀ (f : Nat) (s : List UInt8) (n : Nat) (os : List Opr) (st : St) (d : D) (sl : List D) (bx : List (Nat × List D)), s.length < f → s.length ≤ 30000000 → os.length + s.length ≤ 40000000 → n + s.length ≤ 40000000 →
    get sl 0 = .str s → get sl 5 = d → get sl 6 = .int .i64 n → Gw st 8 d (os.map Opr.enc) →
    Stops (lp T L29_0 ⟨⟨sl, bx⟩, st⟩) fun e s' _ st' => Q29 os (parR f s n) e s' st' := by
  intro f
  induction f with
  | zero => intro s n os st d sl bx hf; omega
  | succ f ih =>
    intro s n os st d sl bx hf hs ho hn h0 h5 h6 hG
    refine Stops_wp L29_0.eq_1 ?_
    by_cases e : s = []
    · subst e
      simp [h0, parR]
      exact ⟨rfl, d, by simp [h5], by simpa using hG⟩
    · have q1 := c56 s (by omega) st
      have hl := cutN_le e
      unfold parR
      rw [if_neg e]
      rcases hc : cutN s with ⟨l, rest, k⟩
      rw [hc] at q1 hl
      simp only at q1 hl ⊢
      have hR : st.length < (st ++ [Ob.cells true 3 0 0 false [.agg [.str l, .int .i64 0, .bool k]]]).length := by simp
      obtain ⟨g, md', q2⟩ := c57 hR l (by omega) k 0 0 (by omega)
      have e0 : rdO (st ++ [Ob.cells true 3 0 0 false [.agg [.str l, .int .i64 0, .bool k]]]) st.length l 0 k 0 = st ++ [Ob.cells true 3 0 0 false [.agg [.str l, .int .i64 0, .bool k]]] := by
        unfold rdO
        rw [set_app0]; rfl
      rw [e0] at q2
      rcases ho2 : opR l 0 k with ⟨o, a, ok⟩
      rw [ho2] at q2
      simp only at q2 ⊢
      have hR2 : st.length < (st ++ [Ob.cells true 3 0 0 false [.agg [.str l, .int .i64 0, .bool k]]] ++ g).length := by simp
      have hG2 : Gw (rdO (st ++ [Ob.cells true 3 0 0 false [.agg [.str l, .int .i64 0, .bool k]]] ++ g) st.length l a ok md') 8 d (os.map Opr.enc) := by
        refine hG.keep (by rw [rdO_len]; simp) fun X hX => ?_
        unfold rdO
        rw [at_set _ _ _ _ hR2, if_neg (by omega), List.append_assoc]
        simp only [St.at, List.getD_eq_getElem?_getD, List.getElem?_append_left hX]
      have at2 := rdO_at hR2 l a ok md'
      obtain ⟨d', st', q3, hG3⟩ := hG2.app (by simp; omega) o.enc
      have okd := hG3.okv
      generalize rdO (st ++ [Ob.cells true 3 0 0 false [.agg [.str l, .int .i64 0, .bool k]]] ++ g) st.length l a ok md' = st2 at *
      have hp := i64_map o.rq.nums
      have hp1 := i64_map1 o.rq.nums
      unfold Opr.enc Opr.cells at q2 q3
      have hG3' : Gw st' 8 d' ((os ++ [o]).map Opr.enc) := by simpa using hG3
      have w1 := wrap1 (a := n) (by omega)
      have ot1 := slE_okv 1 .nil (o.rq.nums.map i64)
      have ot2 := slE_fits 1 .nil (o.rq.nums.map i64)
      have ot3 := slE_cells 1 .nil (o.rq.nums.map i64)
      generalize slE 1 .nil (o.rq.nums.map i64) = dn at *
      have nx := fun sl' bx' => ih rest (n + 1) (os ++ [o]) st' d' sl' bx' (by omega) (by omega) (by simp; omega) (by omega)
      unfold i64 at q2 q3
      cases ok with
      | false =>
        rw [if_neg (by simp)]
        simp [h0, h5, h6, e, q1, q2, at2, ot1, ot2, ot3, hp]
        exact ⟨rfl, by simp, by simp [h6], by simp⟩
      | true =>
        by_cases ha : a = l.length
        · rw [if_pos ⟨rfl, ha⟩]
          simp [h0, h5, h6, e, q1, q2, q3, at2, ot1, ot2, ot3, hp, hp1, ha, w1, okd, -Int.natCast_add]
          refine (nx _ _ (by simp) (by simp) (by simp) hG3').mono fun e s' b st' hq => ?_
          unfold Q29 at hq ⊢
          cases hp : parR f rest (n + 1) with
          | ok r =>
            rw [hp] at hq
            simpa using hq
          | error m =>
            rw [hp] at hq
            simpa using hq
        · rw [if_neg (fun h => ha h.2)]
          have ha' : ¬ (a : Int) = l.length := by omega
          simp [h0, h5, h6, e, q1, q2, at2, ot1, ot2, ot3, hp, ha']
          exact ⟨rfl, by simp, by simp [h6], by simp⟩
def parD : Except Nat (List Opr) → D
  | .ok os => .tup [slE 8 .nil (os.map Opr.enc), .int .i64 0, .int .i64 0]
  | .error m => .tup [.nils, .int .i64 m, .int .i64 2]

theorem enc_pure1 (o : Opr) : o.enc.pure = true := by
  cases ho : o.rq.nums <;> simp [Opr.enc, Opr.cells, i64, ho, slE]
theorem encs_pure (os : List Opr) : (slE 8 .nil (os.map Opr.enc)).pure = true := by
  cases os with
  | nil => rfl
  | cons o os => simp [slE, enc_pure1]

theorem c29 (s : List UInt8) (hs : s.length ≤ 30000000) (st : St) : callD T (ev T) 29 [.str s] st = some (parD (parR (s.length + 1) s 1), st) := by
  refine callD_pureR (fn := F29) rfl rfl (by simp) ?_ ?_
  · cases parR (s.length + 1) s 1 with
    | ok os => have := encs_pure os; simp [parD]
    | error m => rfl
  · refine Ret_wp (fn := F29) rfl ?_
    rw [F29]
    simp
    refine WL.use L29_0_p L29_0_w (l29 (s.length + 1) s 1 [] [] .nils _ _ (by omega) hs (by simp; omega) (by omega) (by simp) (by simp) (by simp) (Gw.nil _ _)) ?_
    rintro e s' b st' h hf
    unfold Q29 at h
    cases hp : parR (s.length + 1) s 1 with
    | ok os =>
      rw [hp] at h
      obtain ⟨rfl, d, hd, hG⟩ := h
      obtain ⟨st2, hz⟩ := hG.fz
      have hk := hG.okv.1
      simp only [List.nil_append] at hz
      simp [hd, hk, hz, parD]
    | error m =>
      rw [hp] at h
      obtain ⟨rfl, h2, h3, h4⟩ := h
      simp [h2, h3, h4, parD]

end Go.Nt.Lk

/-
  QUOTED TEXTS AND NUMBERS, PLAINLY: what is printed is read.
  No condition.
-/
set_option linter.unusedSimpArgs false
namespace Go.Nt.Lk
open Go Go.Nt

theorem drop_hd {s : List UInt8} {a : Nat} {x : UInt8} {l : List UInt8} (h : s.drop a = x :: l) : a < s.length ∧ s[a]? = some x ∧ s.drop (a + 1) = l := by
  have h1 : a < s.length := by
    rcases Nat.lt_or_ge a s.length with h2 | h2
    · exact h2
    · rw [List.drop_eq_nil_of_le h2] at h; cases h
  rw [List.drop_eq_getElem_cons h1] at h
  cases h
  exact ⟨h1, List.getElem?_eq_getElem h1, rfl⟩
theorem drop_app {s : List UInt8} {a : Nat} {x l : List UInt8} (h : s.drop a = x ++ l) : s.drop (a + x.length) = l := by
  rw [← List.drop_drop, h]; simp

theorem hv_hexD (n : Nat) (h : n < 16) : hv (hexD n) = n := by
  have : ∀ m : Fin 16, hv (hexD m.1) = m.1 := by decide
  exact this ⟨n, h⟩

theorem esc_qb {s : List UInt8} {a : Nat} {c : UInt8} {R : List UInt8} (h : s.drop a = qb c ++ R) :
    (∃ ha : a < s.length, qb c = [c] ∧ s[a] = c ∧ ch c ≠ 34 ∧ ch c ≠ 92) ∨ (∃ ha : a < s.length, ch s[a] = 92 ∧ esc s (a + 1) = (c, a + (qb c).length)) := by
  have hc := c.toNat_lt
  unfold qb at h ⊢
  by_cases h1 : ch c = 34 ∨ ch c = 92
  · rw [if_pos h1] at h ⊢
    obtain ⟨b1, b2, b3⟩ := drop_hd h
    obtain ⟨c1, c2, _⟩ := drop_hd b3
    rw [List.getElem?_eq_getElem b1] at b2
    rw [List.getElem?_eq_getElem c1] at c2
    simp only [Option.some.injEq] at b2 c2
    refine .inr ⟨b1, by rw [b2]; rfl, ?_⟩
    unfold esc
    rw [dif_pos c1, c2, if_neg (by omega), if_neg (by omega)]
    rfl
  · rw [if_neg h1] at h ⊢
    by_cases h2 : ch c = 10
    · rw [if_pos h2] at h ⊢
      obtain ⟨b1, b2, b3⟩ := drop_hd h
      obtain ⟨c1, c2, _⟩ := drop_hd b3
      rw [List.getElem?_eq_getElem b1] at b2
      rw [List.getElem?_eq_getElem c1] at c2
      simp only [Option.some.injEq] at b2 c2
      refine .inr ⟨b1, by rw [b2]; rfl, ?_⟩
      unfold esc
      rw [dif_pos c1, c2, if_pos (by rfl)]
      have : c = 10 := UInt8.toNat_inj.1 (by simp only [ch] at h2; have : (10 : UInt8).toNat = 10 := rfl; omega)
      rw [this]
      rfl
    · rw [if_neg h2] at h ⊢
      by_cases h3 : 32 ≤ ch c ∧ ch c ≤ 126
      · rw [if_pos h3] at h ⊢
        obtain ⟨b1, b2, b3⟩ := drop_hd h
        rw [List.getElem?_eq_getElem b1] at b2
        simp only [Option.some.injEq] at b2
        exact .inl ⟨b1, rfl, b2, by omega, by omega⟩
      · rw [if_neg h3] at h ⊢
        obtain ⟨b1, b2, b3⟩ := drop_hd h
        obtain ⟨c1, c2, c3⟩ := drop_hd b3
        obtain ⟨d1, d2, d3⟩ := drop_hd c3
        obtain ⟨e1, e2, e3⟩ := drop_hd d3
        rw [List.getElem?_eq_getElem b1] at b2
        rw [List.getElem?_eq_getElem c1] at c2
        rw [List.getElem?_eq_getElem d1] at d2
        rw [List.getElem?_eq_getElem e1] at e2
        simp only [Option.some.injEq] at b2 c2 d2 e2
        refine .inr ⟨b1, by rw [b2]; rfl, ?_⟩
        unfold esc
        rw [dif_pos c1, c2, if_neg (by decide), if_pos (by rfl)]
        have f1 : hex1 s (0, a + 1 + 1) = (c.toNat / 16, a + 1 + 1 + 1) := by
          unfold hex1
          rw [dif_pos d1]
          simp only [d2]
          rw [hv_hexD _ (by omega)]; simp
        have f2 : hex1 s (c.toNat / 16, a + 1 + 1 + 1) = (c.toNat / 16 * 16 + c.toNat % 16, a + 1 + 1 + 1 + 1) := by
          unfold hex1
          rw [dif_pos e1]
          simp only [e2]
          rw [hv_hexD _ (by omega)]
        rw [f1, f2]
        have f3 : c.toNat / 16 * 16 + c.toNat % 16 = c.toNat := by omega
        simp only [f3, UInt8.ofNat_toNat]
        rfl

theorem unqP_quo : ∀ (t : List UInt8) {s : List UInt8} {a : Nat} {R : List UInt8}, s.drop a = qbs t ++ 34 :: R → unqP s a = (t, a + (qbs t).length)
  | [], s, a, R, h => by
    obtain ⟨b1, b2, _⟩ := drop_hd (by simpa [qbs] using h)
    rw [List.getElem?_eq_getElem b1] at b2
    simp only [Option.some.injEq] at b2
    rw [unqP, dif_pos b1, b2]
    rfl
  | c :: t, s, a, R, h => by
    have e : qbs (c :: t) = qb c ++ qbs t := by simp [qbs]
    rw [e, List.append_assoc] at h
    have h2 := unqP_quo t (drop_app h)
    rw [e, List.length_append]
    rcases esc_qb h with ⟨b1, b2, b3, b4, b5⟩ | ⟨b1, b2, b3⟩
    · rw [unqP, dif_pos b1, b3, if_neg b4, if_neg b5]
      rw [b2] at h2 ⊢
      simp only [List.length_cons, List.length_nil, Nat.zero_add] at h2 ⊢
      rw [h2, Nat.add_assoc]
    · rw [unqP, dif_pos b1, if_neg (by omega), if_pos b2, b3]
      simp only
      rw [h2, Nat.add_assoc]

theorem seg_pre {s : List UInt8} {a : Nat} {x R : List UInt8} (h : s.drop a = x ++ R) : seg s a (a + x.length) = x := by
  unfold seg
  rw [List.drop_take, h]; simp

theorem quoted_quo {s t R : List UInt8} {a : Nat} (h : s.drop a = quo t ++ R) : quoted s a = some (t, a + (quo t).length) := by
  have h1 : s.drop a = 34 :: (qbs t ++ 34 :: R) := by rw [h]; simp [quo]
  obtain ⟨_, _, b3⟩ := drop_hd h1
  have h2 := unqP_quo t b3
  have hl : (quo t).length = (qbs t).length + 2 := by simp [quo]
  have e : a + 1 + (qbs t).length + 1 = a + (quo t).length := by omega
  unfold quoted
  rw [h2]
  simp only
  rw [e, seg_pre h, if_pos ⟨by have := congrArg List.length h; rw [List.length_drop, List.length_append] at this; omega, rfl⟩]

theorem runEnd_tw (p : UInt8 → Bool) (s : List UInt8) (a : Nat) : runEnd p s a = a + ((s.drop a).takeWhile p).length := by
  rfl
theorem dig_digit : ∀ (n u : Nat), u < n → (dig u).all digitB = true ∧ dig u ≠ []
  | 0, u, h => by omega
  | n + 1, u, h => by
    have hd : digitB (d10 u) = true := by
      have := ch_d10 u
      unfold digitB
      rw [Bool.and_eq_true, decide_eq_true_eq, decide_eq_true_eq]; omega
    rw [dig]
    split
    · simp [hd]
    · have := dig_digit n (u / 10) (by omega)
      simp [hd, this.1]
theorem dig_fold : ∀ (n u : Nat), u < n → u < 18446744073709551616 → (dig u).foldl nuS 0 = u
  | 0, u, h, _ => by omega
  | n + 1, u, h, h2 => by
    have e := ch_d10 u
    rw [dig]
    split
    · simp only [List.foldl_cons, List.foldl_nil, nuS, e]
      rw [wrapu64 (n := 0 * 10) (by omega) (by omega), wrapu64 (by omega) (by omega)]; omega
    · rw [List.foldl_append, dig_fold n (u / 10) (by omega) (by omega)]
      simp only [List.foldl_cons, List.foldl_nil, nuS, e]
      rw [wrapu64 (n := ((u / 10 : Nat) : Int) * 10) (by omega) (by omega), wrapu64 (by omega) (by omega)]; omega
theorem tw_app {p : UInt8 → Bool} : ∀ {x R : List UInt8}, x.all p = true → (∀ c, R.head? = some c → p c = false) → (x ++ R).takeWhile p = x
  | [], [], _, _ => rfl
  | [], c :: R, _, h2 => by simp [h2 c rfl]
  | c :: x, R, h, h2 => by
    simp only [List.all_cons, Bool.and_eq_true] at h
    simp [h.1, tw_app h.2 h2]

theorem numU_dig {s R : List UInt8} {a u : Nat} (h : s.drop a = dig u ++ R) (hR : ∀ c, R.head? = some c → digitB c = false) (hu : u < 18446744073709551616) : numU s a 0 = u ∧ runEnd digitB s a = a + (dig u).length := by
  have h1 := tw_app (dig_digit (u + 1) u (by omega)).1 hR
  unfold numU
  rw [runEnd_tw, h, h1]
  exact ⟨dig_fold (u + 1) u (by omega) hu, rfl⟩

theorem numR_sdig {s R : List UInt8} {a : Nat} {v : Int} (h : s.drop a = sdig v ++ R) (hR : ∀ c, R.head? = some c → digitB c = false) (h1 : -9223372036854775808 ≤ v) (h2 : v ≤ 9223372036854775807) (ok : Bool) :
    numR s a ok = (v, a + (sdig v).length, ok) := by
  unfold numR
  suffices hs : numA s a = v ∧ numE s a = a + (sdig v).length by
    rw [hs.1, hs.2, seg_pre h]; simp
  unfold numA numE num1
  unfold sdig at h ⊢
  by_cases hn : v < 0
  · rw [if_pos hn] at h ⊢
    obtain ⟨b1, b2, b3⟩ := drop_hd (by simpa using h)
    have hm : minus s a = true := by simp [minus, b2]
    rw [if_pos hm, if_pos hm]
    obtain ⟨c1, c2⟩ := numU_dig b3 hR (by omega)
    rw [c1, c2]
    refine ⟨?_, by simp; omega⟩
    rw [IntKind.wrap_i64, IntKind.wrap_i64]; omega
  · rw [if_neg hn] at h ⊢
    have hm : ¬ minus s a = true := by
      intro hm
      simp only [minus, decide_eq_true_eq] at hm
      obtain ⟨d1, d2⟩ := dig_digit (v.toNat + 1) v.toNat (by omega)
      cases hd : dig v.toNat with
      | nil => exact d2 hd
      | cons x l =>
        rw [hd] at h d1
        obtain ⟨b1, b2, b3⟩ := drop_hd (by simpa using h)
        rw [b2] at hm
        cases hm
        simp [digitB, ch] at d1
    rw [if_neg hm, if_neg hm]
    obtain ⟨c1, c2⟩ := numU_dig h hR (by omega)
    rw [c1, c2]
    refine ⟨?_, rfl⟩
    rw [IntKind.wrap_i64]; omega

theorem bTxt_quo {s t R : List UInt8} {a : Nat} (h : s.drop a = 32 :: (quo t ++ R)) : bTxt s a true = (t, a + 1 + (quo t).length, true) := by
  obtain ⟨b1, b2, b3⟩ := drop_hd h
  have h2 := quoted_quo b3
  obtain ⟨c1, c2, _⟩ := drop_hd (show s.drop (a + 1) = 34 :: (qbs t ++ [34] ++ R) by rw [b3]; simp [quo])
  rw [List.getElem?_eq_getElem c1] at c2
  simp only [Option.some.injEq] at c2
  unfold bTxt
  rw [if_pos ⟨rfl, b2⟩]
  unfold txtR
  rw [dif_pos c1, c2, if_pos (by rfl)]
  unfold quoR
  rw [h2]
theorem bNum_dig {s R : List UInt8} {a : Nat} {v : Int} (h : s.drop a = 32 :: (sdig v ++ R)) (hR : ∀ c, R.head? = some c → digitB c = false) (h1 : -9223372036854775808 ≤ v) (h2 : v ≤ 9223372036854775807) :
    bNum s a true = (v, a + 1 + (sdig v).length, true) := by
  obtain ⟨b1, b2, b3⟩ := drop_hd h
  unfold bNum
  rw [if_pos ⟨rfl, b2⟩, numR_sdig b3 hR h1 h2]
end Go.Nt.Lk

/-
  THE LAW ScriptQuotes, walked and shown.
  No condition.
-/
set_option linter.unusedSimpArgs false
namespace Go.Nt.Lk
open Go Go.Nt

theorem par_undo : parR 6 [117, 110, 100, 111, 10] 1 = .ok [⟨4, [], rq0, 0⟩] := by kernel_rfl
theorem quo_a : quo [97] = [34, 97, 34] := by kernel_rfl

theorem c26 (st : St) : callD T (ev T) 26 [] st = some (.bool true, st) := by
  refine callD_pureQ (fn := F26) rfl rfl (by simp) (by simp) (by intro; rfl) ?_
  refine Ret_wp (fn := F26) rfl ?_
  have q1 := c29 [117, 110, 100, 111, 10] (by simp) []
  have q2 := c27 [97] (by simp) []
  simp only [List.length_cons, List.length_nil, Nat.zero_add, Nat.reduceAdd, par_undo] at q1
  rw [quo_a] at q2
  have e : parD (.ok [⟨4, [], rq0, 0⟩]) = .tup [.sl 8 false [.agg [.int .i64 4, .str [], .int .i64 0, .int .i64 0, .int .i64 0, .str [], .nils, .int .i64 0]], .int .i64 0, .int .i64 0] := rfl
  have x : ∀ fl u, idxAD (.sl 8 fl [.agg u]) 0 8 (some 8) none = if D.fits (.agg u) (some 8) then some (.iptr (.agg u)) else none := fun fl u => rfl
  rw [e] at q1
  rw [F26]
  simp [q1, q2, x]

theorem qb_nl (c : UInt8) : (10 : UInt8) ∉ qb c := by
  have hx : ∀ m, m < 16 → hexD m ≠ 10 := by
    have : ∀ m : Fin 16, hexD m.1 ≠ 10 := by decide
    exact fun m h => this ⟨m, h⟩
  have hc := c.toNat_lt
  have h1 := hx (c.toNat / 16) (by omega)
  have h2 := hx (c.toNat % 16) (by omega)
  unfold qb
  by_cases g1 : ch c = 34 ∨ ch c = 92
  · rw [if_pos g1]
    have : (10 : UInt8) ≠ c := by rintro rfl; simp [ch] at g1
    simp [this]
  · rw [if_neg g1]
    by_cases g2 : ch c = 10
    · rw [if_pos g2]; decide
    · rw [if_neg g2]
      have : (10 : UInt8) ≠ c := by rintro rfl; exact g2 rfl
      split
      · simp [this]
      · simp [Ne.symm h1, Ne.symm h2]
theorem quo_nl (t : List UInt8) : (10 : UInt8) ∉ quo t := by
  unfold quo qbs
  simp only [List.mem_cons, List.mem_append, List.mem_flatMap, not_or, not_exists, not_and]
  refine ⟨by decide, ⟨fun x _ => qb_nl x, by decide⟩⟩

theorem cutB_app (c : UInt8) : ∀ (x r : List UInt8), c ∉ x → cutB c (x ++ c :: r) = some (x, r)
  | [], r, _ => by simp [cutB]
  | y :: x, r, h => by
    simp only [List.mem_cons, not_or] at h
    rw [List.cons_append, cutB, if_neg (Ne.symm h.1), cutB_app c x r h.2]; rfl
theorem cutN_app (x r : List UInt8) (h : (10 : UInt8) ∉ x) : cutN (x ++ 10 :: r) = (x, r, true) := by
  unfold cutN; rw [cutB_app 10 x r h]

theorem word_pre {w R : List UInt8} (hw : w.all wordB = true) (hR : ∀ c, R.head? = some c → wordB c = false) : runEnd wordB (w ++ R) 0 = w.length ∧ seg (w ++ R) 0 w.length = w := by
  refine ⟨by rw [runEnd_tw, List.drop_zero, tw_app hw hR, Nat.zero_add], by unfold seg; simp⟩

/-- An operation that bears a text, read. -/
theorem opR_note (t : List UInt8) : opR ([110, 111, 116, 101] ++ 32 :: quo t) 0 true = (⟨5, t, rq0, 0⟩, ([110, 111, 116, 101] ++ 32 :: quo t).length, true) := by
  obtain ⟨h1, h2⟩ := word_pre (w := [110, 111, 116, 101]) (R := 32 :: quo t) (by decide) (by intro c h; cases h; decide)
  have h3 := bTxt_quo (s := [110, 111, 116, 101] ++ 32 :: quo t) (a := ([110, 111, 116, 101] : List UInt8).length) (t := t) (R := []) (by simp)
  unfold opR
  rw [h1, h2, if_neg (by decide), if_pos rfl, h3]
  simp; omega

theorem par_note (t : List UInt8) (f : Nat) : parR (f + 2) ([110, 111, 116, 101, 32] ++ quo t ++ [10]) 1 = .ok [⟨5, t, rq0, 0⟩] := by
  have e : [110, 111, 116, 101, 32] ++ quo t ++ [10] = ([110, 111, 116, 101] ++ 32 :: quo t) ++ 10 :: [] := by simp
  have hn : (10 : UInt8) ∉ [110, 111, 116, 101] ++ 32 :: quo t := by simp [quo_nl]
  rw [e]
  unfold parR
  rw [if_neg (by simp), cutN_app _ _ hn]
  simp only
  rw [opR_note]
  simp only
  rw [if_pos (by simp)]
  unfold parR
  simp

theorem ev8 (s : List UInt8) : ∃ st', ev T 8 [.str s] [] = some (.bool true, st') := by
  suffices h : Ret (ev T 8 [.str s] []) fun r _ => r = .bool true by
    obtain ⟨r, st', h1, rfl⟩ := h
    exact ⟨st', h1⟩
  refine Ret_wp (fn := F8) rfl ?_
  have qa := c26
  rw [F8]
  by_cases hs : s.length ≤ 2000
  · have hq := qbs_len s
    have hl : (quo s).length = (qbs s).length + 2 := by simp [quo]
    have q1 := c27 s (by omega)
    have q2 := c28 s (by omega)
    have q3 := c29 ([110, 111, 116, 101, 32] ++ quo s ++ [10]) (by simp only [List.length_append, List.length_cons, List.length_nil]; omega)
    obtain ⟨f, hf⟩ : ∃ f, ([110, 111, 116, 101, 32] ++ quo s ++ [10]).length + 1 = f + 2 := ⟨([110, 111, 116, 101, 32] ++ quo s ++ [10]).length - 1, by simp⟩
    rw [hf, par_note] at q3
    have e : parD (.ok [⟨5, s, rq0, 0⟩]) = .tup [.sl 8 false [.agg [.int .i64 5, .str s, .int .i64 0, .int .i64 0, .int .i64 0, .str [], .nils, .int .i64 0]], .int .i64 0, .int .i64 0] := rfl
    have x : ∀ fl u, idxAD (.sl 8 fl [.agg u]) 0 8 (some 8) none = if D.fits (.agg u) (some 8) then some (.iptr (.agg u)) else none := fun fl u => rfl
    rw [e] at q3
    have h1 : 5 + (quo s).length ≤ 134217728 := by omega
    have h2 : (quo s).length + 5 + 1 ≤ 134217728 := by omega
    have hs' : ¬ 2000 < (s.length : Int) := by omega
    generalize quo s = qq at *
    simp only [List.cons_append, List.nil_append] at q3
    simp [hs', q1, q2, q3, h1, h2, x, qa]
  · have hs' : 2000 < (s.length : Int) := by omega
    simp [hs', qa]
end Go.Nt.Lk

/-
  THE REFERENCE'S Unquote, walked.
  No condition.
-/
set_option linter.unusedSimpArgs false
namespace Go.Nt.Lk
open Go Go.Nt

/-- A digit of sixteen; 16: it is none. -/
def valB (c : UInt8) : Nat := if 48 ≤ ch c ∧ ch c ≤ 57 then c.toNat - 48 else if 97 ≤ ch c ∧ ch c ≤ 102 then c.toNat - 87 else 16

theorem c152 (c : UInt8) (n : Int) (h : n = ch c) (st : St) : callD T (ev T) 152 [.int .u8 n] st = some (.int .u8 (valB c), st) := by
  have hc := c.toNat_lt
  have hn : n = (c.toNat : Int) := h
  have e : (valB c : Int) = if 48 ≤ n ∧ n ≤ 57 then n - 48 else if 97 ≤ n ∧ n ≤ 102 then n - 87 else 16 := by
    unfold valB
    rw [← h]
    split
    · omega
    · split <;> omega
  rw [e]
  refine callD_pureQ (fn := F152) rfl rfl (by simp) (by simp) (by intro; rfl) ?_
  refine Ret_wp (fn := F152) rfl ?_
  rw [F152]
  have w1 : 48 ≤ n → n ≤ 57 → IntKind.wrap .u8 (n - 48) = n - 48 := fun h h' => wrap8 (by omega) (by omega)
  have w2 : 97 ≤ n → n ≤ 102 → IntKind.wrap .u8 (n - 97) = n - 97 := fun h h' => wrap8 (by omega) (by omega)
  have w3 : 97 ≤ n → n ≤ 102 → IntKind.wrap .u8 (n - 97 + 10) = n - 87 := fun h h' => by rw [wrap8 (by omega) (by omega)]; omega
  simp +contextual [w1, w2, w3]

/-- A byte as the reference reads it, and how many bytes it takes. -/
def rdec (s : List UInt8) (a : Nat) : Option (UInt8 × Nat) :=
  match s[a]? with
  | none => none
  | some c => if ch c = 92 then
      match s[a + 1]? with
      | none => none
      | some d => if ch d = 110 then some (10, 2) else if ch d = 120 then
          match s[a + 2]?, s[a + 3]? with
          | some x, some y => if valB x ≤ 15 ∧ valB y ≤ 15 then some (UInt8.ofNat (valB x * 16 + valB y), 4) else none
          | _, _ => none
        else some (d, 2)
    else some (c, 1)

/-- What the reference's loop finds. -/
def uqR (s : List UInt8) : Nat → Nat → List UInt8 → Option (List UInt8 × Nat)
  | 0, _, _ => none
  | n + 1, a, out => match s[a]? with
    | none => none
    | some c => if ch c = 34 then some (out, a) else
      match rdec s a with
      | none => none
      | some (x, k) => if a + k ≤ s.length ∧ qb x = seg s a (a + k) then uqR s n (a + k) (out ++ [x]) else none

def gB (out : List UInt8) : D × St := grown (seed 1 .emp) 1 (out.map byteD)
theorem gB_app (out : List UInt8) (h : out.length ≤ 100000000) (x : UInt8) (n : Int) (hn : n = ch x) : appendD (gB out).2 (gB out).1 [.int .u8 n] 1 = some ((gB (out ++ [x])).1, (gB (out ++ [x])).2) := by
  have h1 := grow .emp 1 (out.map byteD) (byteD x) (by simp; omega)
  have e : out.map byteD ++ [byteD x] = (out ++ [x]).map byteD := by simp
  rw [e] at h1
  rw [hn]
  exact h1

def Q137 (s : List UInt8) (x : Option (List UInt8 × Nat)) (e : Ex) (s' : List D) (st' : St) : Prop :=
  match x with
  | some (o, b) => e = .exit 0 ∧ b < s.length ∧ get s' 1 = .int .i64 b ∧ get s' 6 = (gB o).1 ∧ st' = (gB o).2
  | none => (e = .ret ∧ get s' 4 = .str [] ∧ get s' 5 = .int .i64 (-1)) ∨ (e = .exit 0 ∧ get s' 1 = .int .i64 s.length)

set_option maxRecDepth 20000 in
theorem l137 (s : List UInt8) (hs : s.length ≤ 30000000) : ∀ (n a : Nat) (out : List UInt8) (sl : List D) (bx : List (Nat × List D)), s.length - a < n → a ≤ s.length → out.length ≤ a → get sl 0 = .str s → get sl 1 = .int .i64 a → get sl 6 = (gB out).1 →
    Stops (lp T L137_0 ⟨⟨sl, bx⟩, (gB out).2⟩) fun e s' _ st' => Q137 s (uqR s n a out) e s' st' := by
  intro n
  induction n with
  | zero => intro a out sl bx h; omega
  | succ n ih =>
    intro a out sl bx hn ha ho h0 h1 h6
    refine Stops_wp L137_0.eq_1 ?_
    unfold uqR
    by_cases hlt : a < s.length
    · have nx := fun k x (hk : 1 ≤ k) (hk2 : a + k ≤ s.length) sl' bx' => ih (a + k) (out ++ [x]) sl' bx' (by omega) hk2 (by simp; omega)
      have g1 := fun x m hm => gB_app out (by omega) x m hm
      have w1 : IntKind.wrap .i64 ((a : Int) + 1) = ((a + 1 : Nat) : Int) := wrap1 (by omega)
      have w2 : IntKind.wrap .i64 ((a : Int) + 2) = ((a + 2 : Nat) : Int) := by rw [wrap64] <;> omega
      have w3 : IntKind.wrap .i64 ((a : Int) + 3) = ((a + 3 : Nat) : Int) := by rw [wrap64] <;> omega
      have w4 : IntKind.wrap .i64 ((a : Int) + 4) = ((a + 4 : Nat) : Int) := by rw [wrap64] <;> omega
      have qb' : ∀ (st : St) (c : UInt8) (m : Int), m = ch c → callD T (ev T) 55 [.int .u8 m] st = some (.str (qb c), st) := fun st c m h => by rw [h]; exact c55 c st
      have e0 : s[a]? = some s[a] := List.getElem?_eq_getElem hlt
      rw [e0]
      simp only
      by_cases h34 : ch s[a] = 34
      · rw [if_pos h34]
        have h34' : (s[a].toNat : Int) = 34 := h34
        simp [h0, h1, h6, hlt, byteD, h34']
        exact ⟨rfl, hlt, by simp [h1], by simp [h6], rfl⟩
      · rw [if_neg h34]
        have h34' : ¬ (s[a].toNat : Int) = 34 := h34
        unfold rdec
        rw [e0]
        simp only
        by_cases h92 : ch s[a] = 92
        · rw [if_pos h92]
          have h92' : (s[a].toNat : Int) = 92 := h92
          by_cases hl1 : a + 1 < s.length
          · rw [List.getElem?_eq_getElem hl1]
            simp only
            have hl1' : ¬ s.length ≤ a + 1 := by omega
            by_cases h110 : ch s[a + 1] = 110
            · rw [if_pos h110]
              have h110' : (s[a + 1].toNat : Int) = 110 := h110
              have hl2 : a + 2 ≤ s.length := by omega
              have q2 := str_slice s .i64 .i64 a (a + 2) (by omega) (by omega)
              have q1 := qb' (gB out).2 10 _ rfl
              have g2 := g1 10 _ rfl
              have nx := nx 2 10 (by omega) (by omega)
              simp only
              have q1 : callD T (ev T) 55 [.int .u8 10] (gB out).2 = some (.str (qb 10), (gB out).2) := q1
              have g2 : appendD (gB out).2 (gB out).1 [.int .u8 10] 1 = some ((gB (out ++ [10])).1, (gB (out ++ [10])).2) := g2
              skip
              by_cases hq : qb 10 = seg s a (a + 2)
              · rw [if_pos ⟨hl2, hq⟩]
                simp [h0, h1, h6, hlt, byteD, h92', w1, w2, hl1, hl1', h110', q1, q2, g2, hl2, hq, -Int.natCast_add]
                exact nx _ _ (by simp [h0]) (by simp) (by simp)
              · rw [if_neg (fun h => hq h.2)]
                simp [h0, h1, h6, hlt, byteD, h92', w1, w2, hl1, hl1', h110', q1, q2, hl2, hq, -Int.natCast_add]
                exact .inl ⟨rfl, by simp, by simp⟩
            · rw [if_neg h110]
              have h110' : ¬ (s[a + 1].toNat : Int) = 110 := h110
              by_cases h120 : ch s[a + 1] = 120
              · rw [if_pos h120]
                have h120' : (s[a + 1].toNat : Int) = 120 := h120
                by_cases hl3 : a + 3 < s.length
                · have hl4 : a + 2 < s.length := by omega
                  have hl3' : ¬ s.length ≤ a + 3 := by omega
                  rw [List.getElem?_eq_getElem hl3, List.getElem?_eq_getElem hl4]
                  simp only
                  have p1 : ∀ (st : St) (n : Int), n = ch s[a + 2] → callD T (ev T) 152 [.int .u8 n] st = some (.int .u8 (valB s[a + 2]), st) := fun st n hn => c152 _ n hn st
                  have p2 : ∀ (st : St) (n : Int), n = ch s[a + 3] → callD T (ev T) 152 [.int .u8 n] st = some (.int .u8 (valB s[a + 3]), st) := fun st n hn => c152 _ n hn st
                  by_cases vx : valB s[a + 2] ≤ 15
                  · have vx' : ¬ 15 < (valB s[a + 2] : Int) := by omega
                    by_cases vy : valB s[a + 3] ≤ 15
                    · have vy' : ¬ 15 < (valB s[a + 3] : Int) := by omega
                      rw [if_pos ⟨vx, vy⟩]
                      have y1 : IntKind.wrap .u8 ((valB s[a + 2] : Int) * 16) = (valB s[a + 2] : Int) * 16 := wrap8 (by omega) (by omega)
                      have y3 : ch (UInt8.ofNat (valB s[a + 2] * 16 + valB s[a + 3])) = (valB s[a + 2] : Int) * 16 + (valB s[a + 3] : Int) := by
                        simp only [ch, UInt8.toNat_ofNat']; omega
                      have y2 : IntKind.wrap .u8 ((valB s[a + 2] : Int) * 16 + (valB s[a + 3] : Int)) = (valB s[a + 2] : Int) * 16 + (valB s[a + 3] : Int) := wrap8 (by omega) (by omega)
                      have hl2 : a + 4 ≤ s.length := by omega
                      have q2 := str_slice s .i64 .i64 a (a + 4) (by omega) (by omega)
                      have q1 := qb' (gB out).2 (UInt8.ofNat (valB s[a + 2] * 16 + valB s[a + 3])) _ rfl
                      have g2 := g1 (UInt8.ofNat (valB s[a + 2] * 16 + valB s[a + 3])) _ rfl
                      have nx := nx 4 (UInt8.ofNat (valB s[a + 2] * 16 + valB s[a + 3])) (by omega) (by omega)
                      simp only
                      rw [y3] at q1 g2
                      generalize UInt8.ofNat (valB s[a + 2] * 16 + valB s[a + 3]) = x at *
                      generalize valB s[a + 2] = u2 at *
                      generalize valB s[a + 3] = u3 at *
                      generalize hm2 : ch s[a + 2] = m2 at *
                      have hm2' : (s[a + 2].toNat : Int) = m2 := hm2
                      generalize hm3 : ch s[a + 3] = m3 at *
                      have hm3' : (s[a + 3].toNat : Int) = m3 := hm3
                      have p1' := fun st => p1 st m2 rfl
                      have p2' := fun st => p2 st m3 rfl
                      by_cases hq : qb x = seg s a (a + 4)
                      · rw [if_pos ⟨hl2, hq⟩]
                        simp [h0, h1, h6, hlt, byteD, h92', w1, w2, w3, w4, hl1, hl1', hl3, hl3', hl4, hm2', hm3', h120', p1', p2', vx', vy', y1, y2, q1, q2, g2, hl2, hq, -Int.natCast_add]
                        exact nx _ _ (by simp [h0]) (by simp) (by simp)
                      · rw [if_neg (fun h => hq h.2)]
                        simp [h0, h1, h6, hlt, byteD, h92', w1, w2, w3, w4, hl1, hl1', hl3, hl3', hl4, hm2', hm3', h120', p1', p2', vx', vy', y1, y2, q1, q2, hl2, hq, -Int.natCast_add]
                        exact .inl ⟨rfl, by simp, by simp⟩
                    · have vy' : 15 < (valB s[a + 3] : Int) := by omega
                      rw [if_neg (fun h => vy h.2)]
                      generalize valB s[a + 2] = u2 at *
                      generalize valB s[a + 3] = u3 at *
                      generalize hm2 : ch s[a + 2] = m2 at *
                      have hm2' : (s[a + 2].toNat : Int) = m2 := hm2
                      generalize hm3 : ch s[a + 3] = m3 at *
                      have hm3' : (s[a + 3].toNat : Int) = m3 := hm3
                      have p1' := fun st => p1 st m2 rfl
                      have p2' := fun st => p2 st m3 rfl
                      simp [h0, h1, h6, hlt, byteD, h92', w1, w2, w3, w4, hl1, hl1', hl3, hl3', hl4, hm2', hm3', h120', p1', p2', vx', vy', -Int.natCast_add]
                      exact .inl ⟨rfl, by simp, by simp⟩
                  · have vx' : 15 < (valB s[a + 2] : Int) := by omega
                    rw [if_neg (fun h => vx h.1)]
                    generalize valB s[a + 2] = u2 at *
                    generalize valB s[a + 3] = u3 at *
                    generalize hm2 : ch s[a + 2] = m2 at *
                    have hm2' : (s[a + 2].toNat : Int) = m2 := hm2
                    generalize hm3 : ch s[a + 3] = m3 at *
                    have hm3' : (s[a + 3].toNat : Int) = m3 := hm3
                    have p1' := fun st => p1 st m2 rfl
                    have p2' := fun st => p2 st m3 rfl
                    simp [h0, h1, h6, hlt, byteD, h92', w1, w2, w3, w4, hl1, hl1', hl3, hl3', hl4, hm2', hm3', h120', p1', p2', vx', -Int.natCast_add]
                    exact .inl ⟨rfl, by simp, by simp⟩
                · have hl3' : s.length ≤ a + 3 := by omega
                  rw [List.getElem?_eq_none hl3']
                  simp [h0, h1, h6, hlt, byteD, h92', w1, w2, w3, w4, hl1, hl1', hl3', h120', -Int.natCast_add]
                  exact .inl ⟨rfl, by simp, by simp⟩
              · rw [if_neg h120]
                have h120' : ¬ (s[a + 1].toNat : Int) = 120 := h120
                have hl2 : a + 2 ≤ s.length := by omega
                have q2 := str_slice s .i64 .i64 a (a + 2) (by omega) (by omega)
                have q1 := qb' (gB out).2 s[a + 1] _ rfl
                have g2 := g1 s[a + 1] _ rfl
                have nx := nx 2 s[a + 1] (by omega) (by omega)
                simp only
                generalize hm : ch s[a + 1] = m at *
                have hm' : (s[a + 1].toNat : Int) = m := hm
                by_cases hq : qb s[a + 1] = seg s a (a + 2)
                · rw [if_pos ⟨hl2, hq⟩]
                  simp [h0, h1, h6, hlt, byteD, h92', w1, w2, hl1, hl1', hm', h110, h120, q1, q2, g2, hl2, hq, -Int.natCast_add]
                  exact nx _ _ (by simp [h0]) (by simp) (by simp)
                · rw [if_neg (fun h => hq h.2)]
                  simp [h0, h1, h6, hlt, byteD, h92', w1, w2, hl1, hl1', hm', h110, h120, q1, q2, hl2, hq, -Int.natCast_add]
                  exact .inl ⟨rfl, by simp, by simp⟩
          · rw [List.getElem?_eq_none (by omega)]
            have hl1' : s.length ≤ a + 1 := by omega
            simp [h0, h1, h6, hlt, byteD, h92', w1, hl1', -Int.natCast_add]
            exact .inl ⟨rfl, by simp, by simp⟩
        · rw [if_neg h92]
          have h92' : ¬ (s[a].toNat : Int) = 92 := h92
          have q2 := str_slice s .i64 .i64 a (a + 1) (by omega) (by omega)
          have q1 := qb' (gB out).2 s[a] _ rfl
          have g2 := g1 s[a] _ rfl
          have nx := nx 1 s[a] (by omega) (by omega)
          have hl1 : a + 1 ≤ s.length := by omega
          simp only
          generalize hm : ch s[a] = m at *
          have hm' : (s[a].toNat : Int) = m := hm
          by_cases hq : qb s[a] = seg s a (a + 1)
          · rw [if_pos ⟨by omega, hq⟩]
            simp [h0, h1, h6, hlt, byteD, hm', h34, h92, w1, q1, q2, hl1, g2, hq, -Int.natCast_add]
            exact nx _ _ (by simp [h0]) (by simp) (by simp)
          · rw [if_neg (fun h => hq h.2)]
            simp [h0, h1, h6, hlt, byteD, hm', h34, h92, w1, q1, q2, hl1, hq, -Int.natCast_add]
            exact .inl ⟨rfl, by simp, by simp⟩
    · have e : a = s.length := by omega
      subst e
      rw [List.getElem?_eq_none (Nat.le_refl _)]
      simp [h0, h1]
      exact .inr ⟨rfl, by simp [h1]⟩

def unqQ (s : List UInt8) (a : Nat) : Option (List UInt8 × Nat) := if s[a]? = some 34 then (uqR s (s.length + 1) (a + 1) []).map (fun r => (r.1, r.2 + 1)) else none
def unqD : Option (List UInt8 × Nat) → List D
  | some (t, b) => [.str t, .int .i64 b]
  | none => [.str [], .int .i64 (-1)]

theorem unbytes_gB (out : List UInt8) : listD (gB out).2 1 (gB out).1 = some (out.map byteD) := by
  cases out with
  | nil => rfl
  | cons c r => simp [gB, grown, listD, St.at, List.take_of_length_le]

theorem uqR_lt (s : List UInt8) : ∀ (n a : Nat) (out : List UInt8) (r : List UInt8 × Nat), uqR s n a out = some r → r.2 < s.length
  | 0, a, out, r, h => by cases h
  | n + 1, a, out, r, h => by
    unfold uqR at h
    split at h
    · cases h
    · rename_i c hc
      split at h
      · cases h; exact (List.getElem?_eq_some_iff.1 hc).1
      · split at h
        · cases h
        · split at h
          · exact uqR_lt s n _ _ r h
          · cases h

theorem c137 (s : List UInt8) (hs : s.length ≤ 30000000) (a : Nat) (ha : a ≤ s.length) (st : St) : callD T (ev T) 137 [.str s, .int .i64 a] st = some (.tup (unqD (unqQ s a)), st) := by
  refine callD_pureQ (fn := F137) rfl rfl (by simp) ?_ ?_ ?_
  · cases unqQ s a <;> rfl
  · intro st; cases unqQ s a <;> rfl
  refine Ret_wp (fn := F137) rfl ?_
  rw [F137]
  have w1 := wrap1 (a := a) (by omega)
  unfold unqQ
  by_cases hlt : a < s.length
  · have hng : ¬ s.length ≤ a := by omega
    rw [List.getElem?_eq_getElem hlt]
    by_cases hq : s[a] = 34
    · have hq' : (s[a].toNat : Int) = 34 := by rw [hq]; rfl
      rw [if_pos (by rw [hq])]
      simp [hlt, hng, hq', byteD, w1, -Int.natCast_add]
      refine WL.use L137_0_p L137_0_w (l137 s hs (s.length + 1) (a + 1) [] _ _ (by omega) (by omega) (by simp) (by simp) (by simp) (by simp [gB, seed])) ?_
      rintro e s' b st' h hf
      have h0 : get s' 0 = .str s := by rw [hf 0 rfl]; simp
      unfold Q137 at h
      cases hx : uqR s (s.length + 1) (a + 1) [] with
      | some r =>
        obtain ⟨o, z⟩ := r
        rw [hx] at h
        obtain ⟨rfl, hz, h1, h6, rfl⟩ := h
        have w2 := wrap1 (a := z) (by omega)
        have hz' : ¬ s.length ≤ z := by omega
        have hm := unbytes_map o
        have hl := unbytes_gB o
        simp [h0, h1, h6, hz, hz', hl, hm, w2, unqD, -Int.natCast_add]
      | none =>
        rw [hx] at h
        rcases h with ⟨rfl, h4, h5⟩ | ⟨rfl, h1⟩
        · simp [h4, h5, unqD]
        · simp [h0, h1, unqD]
    · have hq' : ¬ (s[a].toNat : Int) = 34 := fun h => hq (UInt8.toNat_inj.1 (by have : (34 : UInt8).toNat = 34 := rfl; omega))
      rw [if_neg (by simpa using hq)]
      simp [hlt, hng, hq', byteD, unqD]
  · have e : a = s.length := by omega
    subst e
    rw [List.getElem?_eq_none (Nat.le_refl _)]
    simp [unqD]

/-! ### Plainly -/

theorem valB_hexD (n : Nat) (h : n < 16) : valB (hexD n) = n := by
  have : ∀ m : Fin 16, valB (hexD m.1) = m.1 := by decide
  exact this ⟨n, h⟩

theorem rdec_qb {s : List UInt8} {a : Nat} {c : UInt8} {R : List UInt8} (h : s.drop a = qb c ++ R) : rdec s a = some (c, (qb c).length) ∧ ∃ x, s[a]? = some x ∧ ch x ≠ 34 := by
  have hc := c.toNat_lt
  unfold qb at h ⊢
  by_cases h1 : ch c = 34 ∨ ch c = 92
  · rw [if_pos h1] at h ⊢
    obtain ⟨b1, b2, b3⟩ := drop_hd h
    obtain ⟨c1, c2, _⟩ := drop_hd b3
    refine ⟨?_, _, b2, by decide⟩
    unfold rdec
    rw [b2]; simp only
    rw [if_pos (by rfl), c2]; simp only
    rw [if_neg (by omega), if_neg (by omega)]
    rfl
  · rw [if_neg h1] at h ⊢
    by_cases h2 : ch c = 10
    · rw [if_pos h2] at h ⊢
      obtain ⟨b1, b2, b3⟩ := drop_hd h
      obtain ⟨c1, c2, _⟩ := drop_hd b3
      refine ⟨?_, _, b2, by decide⟩
      unfold rdec
      rw [b2]; simp only
      rw [if_pos (by rfl), c2]; simp only
      rw [if_pos (by rfl)]
      have : c = 10 := UInt8.toNat_inj.1 (by simp only [ch] at h2; have : (10 : UInt8).toNat = 10 := rfl; omega)
      rw [this]
      rfl
    · rw [if_neg h2] at h ⊢
      by_cases h3 : 32 ≤ ch c ∧ ch c ≤ 126
      · rw [if_pos h3] at h ⊢
        obtain ⟨b1, b2, b3⟩ := drop_hd h
        refine ⟨?_, _, b2, by omega⟩
        unfold rdec
        rw [b2]; simp only
        rw [if_neg (by omega)]
        rfl
      · rw [if_neg h3] at h ⊢
        obtain ⟨b1, b2, b3⟩ := drop_hd h
        obtain ⟨c1, c2, c3⟩ := drop_hd b3
        obtain ⟨d1, d2, d3⟩ := drop_hd c3
        obtain ⟨e1, e2, e3⟩ := drop_hd d3
        refine ⟨?_, _, b2, by decide⟩
        unfold rdec
        rw [b2]; simp only
        rw [if_pos (by rfl), c2]; simp only
        rw [if_neg (by decide), if_pos (by rfl), show a + 2 = a + 1 + 1 from rfl, show a + 3 = a + 1 + 1 + 1 from rfl, d2, e2]
        simp only
        rw [valB_hexD _ (by omega), valB_hexD _ (by omega), if_pos (by omega)]
        have f3 : c.toNat / 16 * 16 + c.toNat % 16 = c.toNat := by omega
        simp only [f3, UInt8.ofNat_toNat]
        rfl

theorem uqR_of : ∀ (t : List UInt8) {s : List UInt8} {a n : Nat} {out R : List UInt8}, s.length - a < n → s.drop a = qbs t ++ 34 :: R → uqR s n a out = some (out ++ t, a + (qbs t).length)
  | [], s, a, 0, out, R, hn, h => by omega
  | [], s, a, n + 1, out, R, hn, h => by
    obtain ⟨b1, b2, _⟩ := drop_hd (by simpa [qbs] using h)
    unfold uqR
    rw [b2]; simp only
    rw [if_pos (by rfl)]
    simp [qbs]
  | c :: t, s, a, 0, out, R, hn, h => by omega
  | c :: t, s, a, n + 1, out, R, hn, h => by
    have e : qbs (c :: t) = qb c ++ qbs t := by simp [qbs]
    rw [e, List.append_assoc] at h
    obtain ⟨r1, x, r2, r3⟩ := rdec_qb h
    have hd := drop_app h
    have hp : 1 ≤ (qb c).length := by
      unfold qb; split
      · simp
      · split
        · simp
        · split <;> simp
    have hlen := congrArg List.length h
    rw [List.length_drop, List.length_append, List.length_append, List.length_cons] at hlen
    unfold uqR
    rw [r2]; simp only
    rw [if_neg r3, r1]; simp only
    rw [if_pos ⟨by omega, (seg_pre h).symm⟩, uqR_of t (by omega) hd, e]
    simp [Nat.add_assoc]

theorem seg_split {s : List UInt8} {a b : Nat} (hab : a ≤ b) (hb : b ≤ s.length) : s.drop a = seg s a b ++ s.drop b ∧ (seg s a b).length = b - a := by
  unfold seg
  rw [List.drop_take]
  refine ⟨?_, by simp; omega⟩
  have : s.drop b = (s.drop a).drop (b - a) := by rw [List.drop_drop]; congr 1; omega
  rw [this, List.take_append_drop]

theorem uqR_inv {s : List UInt8} : ∀ (n a : Nat) (out o : List UInt8) (b : Nat), uqR s n a out = some (o, b) → ∃ t R, o = out ++ t ∧ s.drop a = qbs t ++ 34 :: R ∧ b = a + (qbs t).length
  | 0, a, out, o, b, h => by cases h
  | n + 1, a, out, o, b, h => by
    unfold uqR at h
    split at h
    · cases h
    · rename_i c hc
      obtain ⟨hlt, hce⟩ := List.getElem?_eq_some_iff.1 hc
      split at h
      · rename_i h34
        cases h
        have : c = 34 := UInt8.toNat_inj.1 (by simp only [ch] at h34; have : (34 : UInt8).toNat = 34 := rfl; omega)
        exact ⟨[], s.drop (a + 1), by simp, by rw [List.drop_eq_getElem_cons hlt, hce, this]; rfl, by simp [qbs]⟩
      · split at h
        · cases h
        · rename_i x k hx
          split at h
          · rename_i hcond
            obtain ⟨t, R, h1, h2, h3⟩ := uqR_inv n _ _ o b h
            obtain ⟨g1, g2⟩ := seg_split (s := s) (a := a) (b := a + k) (by omega) hcond.1
            have hk : (qb x).length = k := by rw [hcond.2, g2]; omega
            refine ⟨x :: t, R, by rw [h1]; simp, ?_, ?_⟩
            · rw [g1, ← hcond.2, h2]; simp [qbs]
            · rw [h3]; simp [qbs]; omega
          · cases h

theorem quoted_inv {s t : List UInt8} {a b : Nat} (h : quoted s a = some (t, b)) : ∃ R, s.drop a = quo t ++ R ∧ b = a + (quo t).length := by
  unfold quoted at h
  split at h
  · rename_i hc
    simp only [Option.some.injEq, Prod.mk.injEq] at h
    obtain ⟨rfl, rfl⟩ := h
    have hle : a ≤ (unqP s (a + 1)).2 + 1 := by
      rcases Nat.lt_or_ge a s.length with h1 | h1
      · have := (unqP_le s s.length (a + 1) (by omega) (by omega)).1; omega
      · have h2 := hc.1
        rw [unqP, dif_neg (by omega)] at h2
        simp only at h2; omega
    obtain ⟨g1, g2⟩ := seg_split hle hc.1
    refine ⟨_, by rw [g1, ← hc.2], ?_⟩
    rw [hc.2, g2]; omega
  · cases h

/-- The program's way and the reference's. -/
theorem unqQ_eq (s : List UInt8) (a : Nat) : unqQ s a = quoted s a := by
  cases hq : quoted s a with
  | some p =>
    obtain ⟨t, b⟩ := p
    obtain ⟨R, h1, rfl⟩ := quoted_inv hq
    have h2 : s.drop a = 34 :: (qbs t ++ 34 :: R) := by rw [h1]; simp [quo]
    obtain ⟨b1, b2, b3⟩ := drop_hd h2
    unfold unqQ
    rw [if_pos b2, uqR_of t (by omega) b3]
    simp [quo]; omega
  | none =>
    cases hu : unqQ s a with
    | none => rfl
    | some p =>
      obtain ⟨t, b⟩ := p
      unfold unqQ at hu
      split at hu
      · rename_i h34
        obtain ⟨hlt, hce⟩ := List.getElem?_eq_some_iff.1 h34
        cases hr : uqR s (s.length + 1) (a + 1) [] with
        | none => rw [hr] at hu; cases hu
        | some q =>
          obtain ⟨o, z⟩ := q
          rw [hr] at hu
          obtain ⟨t', R, h1, h2, h3⟩ := uqR_inv _ _ _ _ _ hr
          have h4 : s.drop a = quo t' ++ R := by rw [List.drop_eq_getElem_cons hlt, hce, h2]; simp [quo]
          rw [quoted_quo h4] at hq
          cases hq
      · cases hu
end Go.Nt.Lk

/-
  THE REFERENCE'S WORDS AND NUMBERS, walked.
  No condition.
-/
set_option linter.unusedSimpArgs false
namespace Go.Nt.Lk
open Go Go.Nt

def nbB (c : UInt8) : Bool := !decide (ch c = 32)

theorem l106 (s : List UInt8) (hs : s.length ≤ 30000000) (st : St) : ∀ (r a : Nat) (sl : List D) (bx : List (Nat × List D)), r = s.length - a → a ≤ s.length → get sl 0 = .str s → get sl 1 = .int .i64 a →
    Stops (lp T L106_0 ⟨⟨sl, bx⟩, st⟩) fun e s' _ st' => e = .exit 0 ∧ st' = st ∧ get s' 1 = .int .i64 (runEnd nbB s a) := by
  intro r
  induction r with
  | zero =>
    intro a sl bx hr ha h0 h1
    have e : a = s.length := by omega
    subst e
    refine Stops_wp L106_0.eq_1 ?_
    simp [h0, h1, runEnd_end]
  | succ r ih =>
    intro a sl bx hr ha h0 h1
    have hlt : a < s.length := by omega
    have w1 := wrap1 (a := a) (by omega)
    refine Stops_wp L106_0.eq_1 ?_
    by_cases h : ch s[a] = 32
    · have h' : (s[a].toNat : Int) = 32 := h
      rw [runEnd_stop hlt (by simp [nbB, h])]
      simp [h0, h1, hlt, byteD, h']
    · have h' : ¬ (s[a].toNat : Int) = 32 := h
      rw [runEnd_go hlt (by simp [nbB, h])]
      simp [h0, h1, hlt, byteD, h', w1, -Int.natCast_add]
      exact ih (a + 1) _ _ (by omega) (by omega) (by simp [h0]) (by simp)

theorem c106 (s : List UInt8) (hs : s.length ≤ 30000000) (a : Nat) (ha : a ≤ s.length) (st : St) : callD T (ev T) 106 [.str s, .int .i64 a] st = some (.int .i64 (runEnd nbB s a), st) := by
  refine callD_pureQ (fn := F106) rfl rfl (by simp) (by simp) (by intro; rfl) ?_
  refine Ret_wp (fn := F106) rfl ?_
  rw [F106]
  simp
  refine WL.use L106_0_p L106_0_w (l106 s hs [] _ a _ _ rfl ha (by simp) (by simp)) ?_
  rintro e s' b st' ⟨rfl, rfl, h1⟩ hf
  simp [h1]

/-- A number without a sign. -/
def plainQ (s : List UInt8) : Option Int := if s.all digitB = true ∧ s ≠ [] ∧ numOK s = true then some (numV s 0) else none
def minL : List UInt8 := [45, 57, 50, 50, 51, 51, 55, 50, 48, 51, 54, 56, 53, 52, 55, 55, 53, 56, 48, 56]
def numQ (s : List UInt8) : Option Int :=
  if 1 < s.length ∧ s.head? = some 45 then
    if s = minL then some (-9223372036854775808) else (plainQ s.tail).bind fun n => if 0 < n then some (-n) else none
  else plainQ s
def numD (x : Option Int) : D := .tup [.int .i64 (x.getD 0), .bool x.isSome]

theorem digitB_iff (c : UInt8) : digitB c = true ↔ 48 ≤ ch c ∧ ch c ≤ 57 := by
  unfold digitB; rw [Bool.and_eq_true, decide_eq_true_eq, decide_eq_true_eq]

theorem l138 (s : List UInt8) (hs : s.length ≤ 30000000) (st : St) : ∀ (r a : Nat) (sl : List D) (bx : List (Nat × List D)), r = s.length - a → a ≤ s.length → get sl 0 = .str s → get sl 4 = .int .i64 a →
    Stops (lp T L138_0 ⟨⟨sl, bx⟩, st⟩) fun e s' _ st' => st' = st ∧ ((s.drop a).all digitB = true ∧ e = .exit 0 ∨ ¬ (s.drop a).all digitB = true ∧ e = .ret ∧ get s' 2 = .int .i64 0 ∧ get s' 3 = .bool false) := by
  intro r
  induction r with
  | zero =>
    intro a sl bx hr ha h0 h1
    have e : a = s.length := by omega
    subst e
    refine Stops_wp L138_0.eq_1 ?_
    simp [h0, h1]
  | succ r ih =>
    intro a sl bx hr ha h0 h1
    have hlt : a < s.length := by omega
    have w1 := wrap1 (a := a) (by omega)
    have nx := fun sl' bx' => ih (a + 1) sl' bx' (by omega) (by omega)
    rw [List.drop_eq_getElem_cons hlt, List.all_cons, Bool.and_eq_true, digitB_iff]
    refine Stops_wp L138_0.eq_1 ?_
    generalize hn : ch s[a] = n at *
    have hn' : (s[a].toNat : Int) = n := hn
    by_cases h1' : 48 ≤ n
    · by_cases h2 : n ≤ 57
      · simp [h0, h1, hlt, byteD, hn', h1', h2, w1, -Int.natCast_add]
        simpa using nx _ _ (by simp [h0]) (by simp)
      · have h2' : 57 < n := by omega
        simp [h0, h1, hlt, byteD, hn', h1', h2, h2']
    · have h2' : n < 48 := by omega
      simp [h0, h1, hlt, byteD, hn', h1', h2']

theorem c83e (st : St) : callD T (ev T) 83 [.str []] st = some (.tup [.int .i64 0, .bool false], st) := by
  refine callD_pureQ (fn := F83) rfl rfl (by simp) (by simp) (by intro; rfl) ?_
  refine Ret_wp (fn := F83) rfl ?_
  rw [F83]
  simp

theorem c138 (s : List UInt8) (hs : s.length ≤ 8192) (st : St) : callD T (ev T) 138 [.str s] st = some (numD (plainQ s), st) := by
  refine callD_pureQ (fn := F138) rfl rfl (by simp) (by simp [numD]) (by intro; rfl) ?_
  refine Ret_wp (fn := F138) rfl ?_
  rw [F138]
  simp
  refine WL.use L138_0_p L138_0_w (l138 s (by omega) [] _ 0 _ _ rfl (by omega) (by simp) (by simp)) ?_
  rintro e s' b st' ⟨rfl, h⟩ hf
  have h0 : get s' 0 = .str s := by rw [hf 0 rfl]; simp
  rw [List.drop_zero] at h
  unfold plainQ
  rcases h with ⟨h, rfl⟩ | ⟨h, rfl, h2, h3⟩
  · cases s with
    | nil =>
      have q := c83e []
      simp [h0, q, numD]
    | cons c t =>
      have hd : digits (c :: t) := fun x hx => (digitB_iff x).1 (List.all_eq_true.1 h x hx)
      have q := c83 (c :: t) hd (by simp) hs []
      have hne : c :: t ≠ [] := by simp
      generalize c :: t = l at *
      by_cases hk : numOK l = true
      · rw [if_pos hk, hk] at q
        rw [if_pos ⟨h, hne, hk⟩]
        simp [h0, q, numD]
      · rw [if_neg hk, Bool.eq_false_iff.2 hk] at q
        rw [if_neg (fun g => hk g.2.2)]
        simp [h0, q, numD]
  · rw [if_neg (fun g => h g.1)]
    simp [h2, h3, numD]

theorem plainQ_pos {s : List UInt8} {n : Int} (h : plainQ s = some n) : 0 ≤ n ∧ n ≤ 9223372036854775807 := by
  unfold plainQ at h
  split at h
  · rename_i hc
    simp only [Option.some.injEq] at h
    have hd : digits s := fun x hx => (digitB_iff x).1 (List.all_eq_true.1 hc.1 x hx)
    have := le_numV s 0 hd (by omega)
    have h3 := hc.2.2
    unfold numOK at h3
    rw [Bool.and_eq_true, decide_eq_true_eq] at h3
    omega
  · cases h

theorem c108 (s : List UInt8) (hs : s.length ≤ 8192) (st : St) : callD T (ev T) 108 [.str s] st = some (numD (numQ s), st) := by
  refine callD_pureQ (fn := F108) rfl rfl (by simp) (by simp [numD]) (by intro; rfl) ?_
  refine Ret_wp (fn := F108) rfl ?_
  rw [F108]
  have q1 := c138 s hs []
  have w0 : IntKind.wrap .i64 0 = 0 := by decide
  unfold numQ
  by_cases h1 : 1 < s.length
  · obtain ⟨c, t, rfl⟩ : ∃ c t, s = c :: t := by cases s with | nil => simp at h1 | cons c t => exact ⟨c, t, rfl⟩
    have q2 := c138 t (by simp at hs; omega) []
    have sf : sliceD (.str (c :: t)) (some (.int .i64 1)) none none = some (.str t) := str_from (c :: t) .i64 1 (by simp)
    have e1 : (1 : Int) < (t.length : Int) + 1 := by simp at h1; omega
    by_cases hc : c = 45
    · have hc' : (c.toNat : Int) = 45 := by rw [hc]; rfl
      rw [if_pos ⟨h1, by rw [hc]; rfl⟩]
      by_cases hm : c :: t = minL
      · rw [if_pos hm]
        have e2 : (1 : Int) < (19 : Int) + 1 := by omega
        rw [hm]
        simp [minL, byteD, numD]
      · rw [if_neg hm]
        have hm' : ¬ (c :: t = minL) := hm
        unfold minL at hm'
        simp only [List.tail_cons]
        cases hp : plainQ t with
        | none =>
          rw [hp] at q2
          simp only [numD, Option.getD_none, Option.isSome_none] at q2
          simp [e1, hc', byteD, hm', sf, q2, numD, w0]
        | some n =>
          have hn := plainQ_pos hp
          rw [hp] at q2
          simp only [numD, Option.getD_some, Option.isSome_some] at q2
          have w1 : IntKind.wrap .i64 (-n) = -n := wrap64 _ (by omega) (by omega)
          by_cases h0 : 0 < n
          · simp [e1, hc', byteD, hm', sf, q2, numD, w1, h0]
          · have : n = 0 := by omega
            subst this
            simp [e1, hc', byteD, hm', sf, q2, numD, w1, w0]
    · have hc' : ¬ (c.toNat : Int) = 45 := fun h => hc (UInt8.toNat_inj.1 (by have : (45 : UInt8).toNat = 45 := rfl; omega))
      rw [if_neg (by simp [hc])]
      unfold numD at q1
      simp [e1, hc', byteD, q1, numD]
  · rw [if_neg (fun h => h1 h.1)]
    have h1' : ¬ (1 : Int) < s.length := by omega
    unfold numD at q1
    simp [h1', q1, numD]

/-- The text of a line behind its word. -/
def textQ (s : List UInt8) : List UInt8 × Bool := if s.head? = some 32 then match quoted s 1 with
    | some (t, b) => (t, decide (b = s.length))
    | none => ([], false)
  else ([], false)

theorem c109 (s : List UInt8) (hs : s.length ≤ 30000000) (st : St) : callD T (ev T) 109 [.str s] st = some (.tup [.str (textQ s).1, .bool (textQ s).2], st) := by
  refine callD_pureQ (fn := F109) rfl rfl (by simp) (by simp) (by intro; rfl) ?_
  refine Ret_wp (fn := F109) rfl ?_
  rw [F109]
  unfold textQ
  cases s with
  | nil => simp
  | cons c t =>
    by_cases hc : c = 32
    · have hc' : (c.toNat : Int) = 32 := by rw [hc]; rfl
      have q := c137 (c :: t) hs 1 (by simp) []
      rw [unqQ_eq] at q
      have q' : callD T (ev T) 137 [.str (c :: t), .int .i64 1] [] = some (.tup (unqD (quoted (c :: t) 1)), []) := q
      rw [if_pos (by rw [hc]; rfl)]
      have e1 : ¬ (t.length : Int) + 1 = 0 := by omega
      cases hq : quoted (c :: t) 1 with
      | some p =>
        obtain ⟨x, b⟩ := p
        rw [hq] at q'
        simp only [unqD] at q'
        have e : ((b : Int) = (t.length : Int) + 1) = (b = t.length + 1) := propext (by omega)
        simp [hc', byteD, q', e1, e]
      | none =>
        rw [hq] at q'
        simp only [unqD] at q'
        have e : ¬ ((-1 : Int) = (t.length : Int) + 1) := by omega
        simp [hc', byteD, q', e1, e]
    · have hc' : ¬ (c.toNat : Int) = 32 := fun h => hc (UInt8.toNat_inj.1 (by have : (32 : UInt8).toNat = 32 := rfl; omega))
      rw [if_neg (by simp [hc])]
      have e1 : ¬ (t.length : Int) + 1 = 0 := by omega
      simp [hc', byteD, e1]

theorem c104 (k : Int) (st : St) : callD T (ev T) 104 [.int .i64 k] st = some (.str (wWord k), st) := by
  refine callD_pureQ (fn := F104) rfl rfl (by simp) (by simp) (by intro; rfl) ?_
  refine Ret_wp (fn := F104) rfl ?_
  rw [F104]
  unfold wWord
  simp +contextual
end Go.Nt.Lk

/-
  NUMBERS' TEXTS, plainly: what the reference reads is what is printed.
  No condition.
-/
set_option linter.unusedSimpArgs false
namespace Go.Nt.Lk
open Go Go.Nt

theorem numV_app (d : List UInt8) (c : UInt8) (v : Int) : numV (d ++ [c]) v = numV d v * 10 + (ch c - 48) := by
  unfold numV; rw [List.foldl_append]; rfl

theorem d10_eq {c : UInt8} {u : Nat} (hu : (u : Int) % 10 = ch c - 48) : d10 u = c := by
  apply UInt8.toNat_inj.1
  have := ch_d10 u
  simp only [ch] at this hu ⊢
  omega

theorem numV_pos {d : List UInt8} (hd : digits d) {c : UInt8} (hh : d.head? = some c) (hc : ch c ≠ 48) : 1 ≤ numV d 0 := by
  cases d with
  | nil => cases hh
  | cons x d =>
    cases hh
    rw [numV_cons]
    have h1 := hd c (by simp)
    have := le_numV d (0 * 10 + (ch c - 48)) (fun y hy => hd y (by simp [hy])) (by omega)
    omega

theorem dig_numV : ∀ (n : Nat) (d : List UInt8), d.length = n + 1 → digits d → (1 < d.length → ∀ c, d.head? = some c → ch c ≠ 48) → 0 ≤ numV d 0 ∧ dig (numV d 0).toNat = d
  | 0, d, hl, hd, _ => by
    match d, hl with
    | [c], _ =>
      have h := hd c (by simp)
      have e : numV [c] 0 = ch c - 48 := by rw [numV_cons]; simp [numV]
      rw [e]
      refine ⟨by omega, ?_⟩
      rw [dig, if_pos (by omega), d10_eq (c := c) (by omega)]
  | n + 1, d, hl, hd, hh => by
    rcases List.eq_nil_or_concat d with rfl | ⟨d', c, rfl⟩
    · simp at hl
    · simp only [List.concat_eq_append] at *
      have hl' : d'.length = n + 1 := by simpa using hl
      obtain ⟨x, hx⟩ : ∃ x, d'.head? = some x := by cases d' with | nil => simp at hl' | cons x t => exact ⟨x, rfl⟩
      have hx2 : (d' ++ [c]).head? = some x := by cases d' with | nil => simp at hl' | cons y t => simpa using hx
      have hnz := hh (by rw [hl]; omega) x hx2
      have hd' : digits d' := fun y hy => hd y (by simp [hy])
      have hc := hd c (by simp)
      have hp := numV_pos hd' hx hnz
      obtain ⟨g1, g2⟩ := dig_numV n d' hl' hd' (fun _ y hy => by rw [hx] at hy; cases hy; exact hnz)
      rw [numV_app]
      refine ⟨by omega, ?_⟩
      rw [dig, if_neg (by omega)]
      have e1 : (numV d' 0 * 10 + (ch c - 48)).toNat / 10 = (numV d' 0).toNat := by omega
      rw [e1, g2, d10_eq (c := c) (by omega)]

theorem numV_dig : ∀ (n u : Nat), u < n → numV (dig u) 0 = u
  | 0, u, h => by omega
  | n + 1, u, h => by
    have e := ch_d10 u
    rw [dig]
    split
    · rw [numV_cons]; simp only [numV, List.foldl_nil, e]; omega
    · rw [numV_app, numV_dig n (u / 10) (by omega), e]; omega
theorem dig_head : ∀ (n u : Nat), u < n → 1 ≤ u → ∃ c t, dig u = c :: t ∧ ch c ≠ 48
  | 0, u, h, _ => by omega
  | n + 1, u, h, h1 => by
    have e := ch_d10 u
    rw [dig]
    split
    · exact ⟨_, _, rfl, by omega⟩
    · obtain ⟨c, t, h2, h3⟩ := dig_head n (u / 10) (by omega) (by omega)
      exact ⟨c, t ++ [d10 u], by rw [h2]; rfl, h3⟩

theorem plainQ_iff (s : List UInt8) (n : Int) : plainQ s = some n ↔ 0 ≤ n ∧ n ≤ 9223372036854775807 ∧ s = dig n.toNat := by
  constructor
  · intro h
    have hr := plainQ_pos h
    unfold plainQ at h
    split at h
    · rename_i hc
      simp only [Option.some.injEq] at h
      have hd : digits s := fun x hx => (digitB_iff x).1 (List.all_eq_true.1 hc.1 x hx)
      refine ⟨hr.1, hr.2, ?_⟩
      have h3 := hc.2.2
      unfold numOK at h3
      rw [Bool.and_eq_true, Bool.not_eq_true', Bool.and_eq_false_iff] at h3
      cases s with
      | nil => exact absurd rfl hc.2.1
      | cons c t =>
        have := dig_numV t.length (c :: t) rfl hd (fun h1 x hx => by
          cases hx
          rcases h3.1 with h4 | h4
          · rw [decide_eq_false_iff_not] at h4; exact absurd h1 h4
          · rw [decide_eq_false_iff_not] at h4; exact h4)
        rw [← h]; exact this.2.symm
    · cases h
  · rintro ⟨h1, h2, rfl⟩
    obtain ⟨d1, d2⟩ := dig_digit (n.toNat + 1) n.toNat (by omega)
    have hv := numV_dig (n.toNat + 1) n.toNat (by omega)
    have hk : numOK (dig n.toNat) = true := by
      unfold numOK
      rw [hv, Bool.and_eq_true, decide_eq_true_eq, Bool.not_eq_true', Bool.and_eq_false_iff]
      refine ⟨?_, by omega⟩
      by_cases h0 : n.toNat = 0
      · left; rw [h0, dig, if_pos (by omega)]; rfl
      · right
        obtain ⟨c, t, e, hc⟩ := dig_head (n.toNat + 1) n.toNat (by omega) (by omega)
        rw [e, decide_eq_false_iff_not]; exact hc
    unfold plainQ
    rw [if_pos ⟨d1, d2, hk⟩, hv, Int.toNat_of_nonneg h1]

theorem dig_len_pos (u : Nat) : 1 ≤ (dig u).length := by
  have := (dig_digit (u + 1) u (by omega)).2
  cases h : dig u with
  | nil => exact absurd h this
  | cons => simp

theorem sdig_45 {t : List UInt8} {v : Int} (h : 45 :: t = sdig v) : v < 0 ∧ t = dig (-v).toNat := by
  unfold sdig at h
  split at h
  · rename_i hv
    cases h; exact ⟨hv, rfl⟩
  · have d1 := (dig_digit (v.toNat + 1) v.toNat (by omega)).1
    rw [← h] at d1
    simp [digitB, ch] at d1
theorem sdig_inj {v w : Int} (h : sdig v = sdig w) : v = w := by
  have hd : ∀ u u' : Nat, dig u = dig u' → u = u' := fun u u' h => by
    have h1 := numV_dig (u + 1) u (by omega)
    have h2 := numV_dig (u' + 1) u' (by omega)
    rw [h, h2] at h1; omega
  by_cases hv : v < 0
  · have e : sdig v = 45 :: dig (-v).toNat := by unfold sdig; rw [if_pos hv]
    rw [e] at h
    obtain ⟨g1, g2⟩ := sdig_45 h
    have := hd _ _ g2; omega
  · by_cases hw : w < 0
    · have e : sdig w = 45 :: dig (-w).toNat := by unfold sdig; rw [if_pos hw]
      rw [e] at h
      have := (sdig_45 h.symm).1; omega
    · unfold sdig at h
      rw [if_neg hv, if_neg hw] at h
      have := hd _ _ h; omega
theorem sdig_min : sdig (-9223372036854775808) = minL := by kernel_rfl

theorem numQ_iff (s : List UInt8) (v : Int) : numQ s = some v ↔ -9223372036854775808 ≤ v ∧ v ≤ 9223372036854775807 ∧ s = sdig v := by
  unfold numQ
  by_cases hc : 1 < s.length ∧ s.head? = some 45
  · rw [if_pos hc]
    obtain ⟨c, t, rfl⟩ : ∃ c t, s = c :: t := by cases s with | nil => simp at hc | cons c t => exact ⟨c, t, rfl⟩
    have e45 : c = 45 := by simpa using hc.2
    subst e45
    by_cases hm : 45 :: t = minL
    · rw [if_pos hm, hm, ← sdig_min]
      constructor
      · intro h; cases h; exact ⟨by omega, by omega, rfl⟩
      · rintro ⟨h1, h2, h3⟩
        rw [sdig_inj h3]
    · rw [if_neg hm, List.tail_cons]
      constructor
      · intro h
        cases hp : plainQ t with
        | none => rw [hp] at h; cases h
        | some n =>
          rw [hp] at h
          simp only [Option.bind_some] at h
          split at h
          · rename_i hn
            simp only [Option.some.injEq] at h
            obtain ⟨p1, p2, p3⟩ := (plainQ_iff t n).1 hp
            refine ⟨by omega, by omega, ?_⟩
            unfold sdig
            rw [if_pos (by omega), p3]
            congr 3; omega
          · cases h
      · rintro ⟨h1, h2, h3⟩
        obtain ⟨g1, g2⟩ := sdig_45 h3
        have hne : v ≠ -9223372036854775808 := by rintro rfl; rw [sdig_min] at h3; exact hm h3
        have hp : plainQ t = some (-v) := (plainQ_iff t (-v)).2 ⟨by omega, by omega, g2⟩
        rw [hp]
        simp only [Option.bind_some]
        rw [if_pos (by omega)]
        simp
  · rw [if_neg hc, plainQ_iff]
    constructor
    · rintro ⟨h1, h2, h3⟩
      refine ⟨by omega, h2, ?_⟩
      unfold sdig
      rw [if_neg (by omega)]; exact h3
    · rintro ⟨h1, h2, h3⟩
      unfold sdig at h3
      split at h3
      · exfalso
        apply hc
        have := dig_len_pos (-v).toNat
        rw [h3]; exact ⟨by simp; omega, rfl⟩
      · exact ⟨by omega, h2, h3⟩
end Go.Nt.Lk

/-
  THE REFERENCE'S Refactor, walked.
  No condition.
-/
set_option linter.unusedSimpArgs false
namespace Go.Nt.Lk
open Go Go.Nt

/-- The fields of a line behind its word. -/
def refL (s : List UInt8) : Nat → Nat → List Int → List UInt8 → Bool → Option (List Int × List UInt8 × Bool)
  | 0, _, _, _, _ => none
  | n + 1, a, ns, nm, named =>
    match s[a]? with
    | none => some (ns, nm, named)
    | some c => if ch c = 32 then
        if ns.length = 3 ∧ named = false then
          match quoted s (a + 1) with
          | some (t, b) => refL s n b ns t true
          | none => none
        else match numQ (seg s (a + 1) (runEnd nbB s (a + 1))) with
          | some v => refL s n (runEnd nbB s (a + 1)) (ns ++ [v]) nm named
          | none => none
      else none

def gI (ns : List Int) : D × St := grown (seed 1 .emp) 1 (ns.map i64)
theorem gI_app (ns : List Int) (h : ns.length ≤ 100000000) (n : Int) : appendD (gI ns).2 (gI ns).1 [.int .i64 n] 1 = some ((gI (ns ++ [n])).1, (gI (ns ++ [n])).2) := by
  have h1 := grow .emp 1 (ns.map i64) (i64 n) (by simp; omega)
  have e : ns.map i64 ++ [i64 n] = (ns ++ [n]).map i64 := by simp
  rw [e] at h1
  exact h1
theorem gI_len (ns : List Int) (st : St) (q : Bool) : lenD st .slice (gI ns).1 q = some (.i ns.length) := by
  unfold gI; rw [grown_len]; simp

def I107 (s : List UInt8) (g2 g6 a : Nat) (ns : List Int) (nm : List UInt8) (named : Bool) (sl : List D) (bx : List (Nat × List D)) : Prop :=
  get sl 0 = .str s ∧ get sl 2 = .lp 2 g2 0 ∧ get sl 4 = (gI ns).1 ∧ get sl 5 = .int .i64 a ∧ get sl 6 = .lp 6 g6 0 ∧ get sl 7 = .bool named ∧ getB bx 2 = (g2, z8op) ∧
    getB bx 6 = (g6, [.int .i64 0, .int .i64 0, .int .i64 0, .str nm, .nils])

def Q107 (s : List UInt8) (g2 g6 : Nat) (x : Option (List Int × List UInt8 × Bool)) (e : Ex) (s' : List D) (b' : List (Nat × List D)) (st' : St) : Prop :=
  match x with
  | some (ns, nm, named) => e = .exit 0 ∧ st' = (gI ns).2 ∧ ∃ a, I107 s g2 g6 a ns nm named s' b'
  | none => e = .ret ∧ get s' 3 = .bool false ∧ get s' 2 = .lp 2 g2 0 ∧ getB b' 2 = (g2, z8op)

theorem l107 (s : List UInt8) (hs : s.length ≤ 8192) (g2 g6 : Nat) : ∀ (n a : Nat) (ns : List Int) (nm : List UInt8) (named : Bool) (sl : List D) (bx : List (Nat × List D)), s.length - a < n → a ≤ s.length → ns.length ≤ a → I107 s g2 g6 a ns nm named sl bx →
    Stops (lp T L107_0 ⟨⟨sl, bx⟩, (gI ns).2⟩) fun e s' b' st' => Q107 s g2 g6 (refL s n a ns nm named) e s' b' st' := by
  intro n
  induction n with
  | zero => intro a ns nm named sl bx h; omega
  | succ n ih =>
    intro a ns nm named sl bx hn ha hl hI
    obtain ⟨h0, h2, h4, h5, h6, h7, b2, b6⟩ := hI
    refine Stops_wp L107_0.eq_1 ?_
    unfold refL
    by_cases hlt : a < s.length
    · rw [List.getElem?_eq_getElem hlt]
      simp only
      have w1 := wrap1 (a := a) (by omega)
      by_cases h32 : ch s[a] = 32
      · rw [if_pos h32]
        have h32' : (s[a].toNat : Int) = 32 := h32
        have hln := gI_len ns (gI ns).2 false
        by_cases h3 : ns.length = 3 ∧ named = false
        · rw [if_pos h3]
          obtain ⟨h3a, rfl⟩ := h3
          have q := c137 s (by omega) (a + 1) (by omega) (gI ns).2
          rw [unqQ_eq] at q
          have e3 : (ns.length : Int) = 3 := by omega
          cases hq : quoted s (a + 1) with
          | some p =>
            obtain ⟨t, b⟩ := p
            rw [hq] at q
            simp only [unqD] at q ⊢
            obtain ⟨R, g1, g2'⟩ := quoted_inv hq
            have hb : b ≤ s.length := by
              have := congrArg List.length g1
              rw [List.length_drop, List.length_append] at this; omega
            have hb2 : a + 1 ≤ b := by omega
            have nx := fun sl' bx' => ih b ns t true sl' bx' (by omega) hb (by omega)
            have e4 : ¬ (b : Int) < 0 := by omega
            simp [h0, h2, h4, h5, h6, h7, b2, b6, hlt, byteD, h32', w1, hln, h3a, e3, q, e4, -Int.natCast_add]
            refine nx _ _ ⟨by simp [h0], by simp [h2], by simp [h4], by simp, by simp [h6], by simp, by simp [b2], by simp [b6]⟩
          | none =>
            rw [hq] at q
            simp only [unqD] at q ⊢
            simp [h0, h2, h4, h5, h6, h7, b2, b6, hlt, byteD, h32', w1, hln, h3a, e3, q, z8op, -Int.natCast_add]
            exact ⟨rfl, by simp, by simp [h2], by simp [z8op]⟩
        · rw [if_neg h3]
          have q1 := c106 s (by omega) (a + 1) (by omega) (gI ns).2
          have hr1 := le_runEnd nbB s (a + 1)
          have hr2 := runEnd_le nbB s (a := a + 1) (by omega)
          generalize runEnd nbB s (a + 1) = b at *
          have q2 := str_slice s .i64 .i64 (a + 1) b hr1 hr2
          have q3 := c108 (seg s (a + 1) b) (by unfold seg; simp; omega) (gI ns).2
          have e3 : ((ns.length : Int) = 3) = (ns.length = 3) := propext (by omega)
          cases hq : numQ (seg s (a + 1) b) with
          | some v =>
            rw [hq] at q3
            simp only [numD, Option.getD_some, Option.isSome_some] at q3 ⊢
            have ga := gI_app ns (by omega) v
            have nx := fun sl' bx' => ih b (ns ++ [v]) nm named sl' bx' (by omega) hr2 (by simp; omega)
            by_cases h3a : ns.length = 3
            · have hnm : named = true := by cases named with | true => rfl | false => exact absurd ⟨h3a, rfl⟩ h3
              subst hnm
              simp [h0, h2, h4, h5, h6, h7, b2, b6, hlt, byteD, h32', w1, hln, h3a, q1, q2, q3, ga, -Int.natCast_add]
              exact nx _ _ ⟨by simp [h0], by simp [h2], by simp, by simp, by simp [h6], by simp [h7], by simp [b2], by simp [b6]⟩
            · simp [h0, h2, h4, h5, h6, h7, b2, b6, hlt, byteD, h32', w1, hln, e3, h3a, q1, q2, q3, ga, -Int.natCast_add]
              exact nx _ _ ⟨by simp [h0], by simp [h2], by simp, by simp, by simp [h6], by simp [h7], by simp [b2], by simp [b6]⟩
          | none =>
            rw [hq] at q3
            simp only [numD, Option.getD_none, Option.isSome_none] at q3 ⊢
            by_cases h3a : ns.length = 3
            · have hnm : named = true := by cases named with | true => rfl | false => exact absurd ⟨h3a, rfl⟩ h3
              subst hnm
              simp [h0, h2, h4, h5, h6, h7, b2, b6, hlt, byteD, h32', w1, hln, h3a, q1, q2, q3, z8op, -Int.natCast_add]
              exact ⟨rfl, by simp, by simp [h2], by simp [z8op]⟩
            · simp [h0, h2, h4, h5, h6, h7, b2, b6, hlt, byteD, h32', w1, hln, e3, h3a, q1, q2, q3, z8op, -Int.natCast_add]
              exact ⟨rfl, by simp, by simp [h2], by simp [z8op]⟩
      · rw [if_neg h32]
        have h32' : ¬ (s[a].toNat : Int) = 32 := h32
        simp [h0, h2, h4, h5, h6, h7, b2, b6, hlt, byteD, h32', z8op]
        exact ⟨rfl, by simp, by simp [h2], by simp [z8op]⟩
    · have e : a = s.length := by omega
      subst e
      rw [List.getElem?_eq_none (Nat.le_refl _)]
      simp [h0, h5]
      exact ⟨rfl, rfl, s.length, by simp [h0], by simp [h2], by simp [h4], by simp [h5], by simp [h6], by simp [h7], b2, b6⟩

def Opr.encF (fl : Fl) (o : Opr) : D := .agg (o.cells (slE 1 fl (o.rq.nums.map i64)))
def opz : Opr := ⟨0, [], rq0, 0⟩
/-- A refactoring's line, as the reference reads it. -/
def refQ (s : List UInt8) : Option Opr :=
  match refL s (s.length + 1) 0 [] [] false with
  | some (a :: b :: c :: ns, nm, true) => some ⟨2, [], ⟨a, b, c, nm, ns⟩, 0⟩
  | _ => none
def refD (x : Option Opr) : D := match x with
  | some o => .tup [o.encF .emp, .bool true]
  | none => .tup [opz.enc, .bool false]

theorem refL_len (s : List UInt8) : ∀ (n a : Nat) (ns : List Int) (nm : List UInt8) (named : Bool) (r : List Int × List UInt8 × Bool), refL s n a ns nm named = some r → r.1.length ≤ ns.length + (s.length - a)
  | 0, a, ns, nm, named, r, h => by cases h
  | n + 1, a, ns, nm, named, r, h => by
    unfold refL at h
    split at h
    · cases h; simp only; omega
    · rename_i c hc
      have hlt := (List.getElem?_eq_some_iff.1 hc).1
      split at h
      · split at h
        · split at h
          · rename_i t b hq
            obtain ⟨R, g1, g2⟩ := quoted_inv hq
            have := refL_len s n _ _ _ _ r h
            omega
          · cases h
        · have h1 := le_runEnd nbB s (a + 1)
          split at h
          · have := refL_len s n _ _ _ _ r h
            simp at this; omega
          · cases h
      · cases h

/-- Names come behind three numbers. -/
theorem refL_three (s : List UInt8) : ∀ (n a : Nat) (ns : List Int) (nm : List UInt8) (named : Bool) (r : List Int × List UInt8 × Bool), (named = true → 3 ≤ ns.length) → refL s n a ns nm named = some r → r.2.2 = true → 3 ≤ r.1.length
  | 0, a, ns, nm, named, r, _, h, _ => by cases h
  | n + 1, a, ns, nm, named, r, h3, h, hr => by
    unfold refL at h
    split at h
    · cases h; exact h3 hr
    · split at h
      · split at h
        · rename_i hc
          split at h
          · exact refL_three s n _ _ _ _ r (fun _ => by omega) h hr
          · cases h
        · split at h
          · exact refL_three s n _ _ _ _ r (fun g => by have := h3 g; simp; omega) h hr
          · cases h
      · cases h

theorem c107 (s : List UInt8) (hs : s.length ≤ 8192) (st : St) : callD T (ev T) 107 [.str s] st = some (refD (refQ s), st) := by
  refine callD_pureR (fn := F107) rfl rfl (by simp) ?_ ?_
  · unfold refD
    cases refQ s with
    | none => rfl
    | some o => exact (by cases ho : o.rq.nums <;> simp [Opr.encF, Opr.cells, i64, ho, slE])
  refine Ret_wp (fn := F107) rfl ?_
  rw [F107]
  simp
  refine WL.useB L107_0_p L107_0_w (by kernel_rfl : L107_0.wrB = [2, 2, 6, 2]) (l107 s hs 1 1 (s.length + 1) 0 [] [] false _ _ (by omega) (by omega) (by simp) ⟨by simp, by simp, by simp [gI, seed], by simp, by simp, by simp, by simp [z8op], by simp⟩) ?_
  rintro e s' b st' h hf hg
  unfold refQ
  cases hr : refL s (s.length + 1) 0 [] [] false with
  | none =>
    rw [hr] at h
    obtain ⟨rfl, h3, h2, hb⟩ := h
    simp [h3, h2, hb, z8op, refD]
    rfl
  | some r =>
    obtain ⟨ns, nm, named⟩ := r
    rw [hr] at h
    obtain ⟨rfl, rfl, a, h0, h2, h4, h5, h6, h7, b2, b6⟩ := h
    cases named with
    | false =>
      simp [h7, h2, b2, z8op]
      rfl
    | true =>
      have h3 := refL_three s _ _ _ _ _ _ (by simp) hr rfl
      obtain ⟨x, y, z, ns, rfl⟩ : ∃ x y z l, ns = x :: y :: z :: l := by
        match ns, h3 with
        | x :: y :: z :: l, _ => exact ⟨x, y, z, l, rfl⟩
      simp only
      have e4 : (gI (x :: y :: z :: ns)).1 = .rs 0 (ns.length + 2) 1 0 (ns.length + 3) false := by simp [gI, grown]
      have e5 : (gI (x :: y :: z :: ns)).2 = [.cells false 1 (ns.length + 2) (ns.length + 2) false (.int .i64 x :: .int .i64 y :: .int .i64 z :: ns.map i64)] := by simp [gI, grown, i64]
      rw [e4] at h4
      rw [e5]
      have at0 : ∀ o, St.at [o] 0 = o := fun o => rfl
      have sl3 : sliceD (.rs 0 (ns.length + 2) 1 0 (ns.length + 3) false) (some (.int .i64 3)) none none = some (.rs 0 (ns.length + 2) 1 3 ns.length false) := by
        have : (3 : Int) ≤ (ns.length : Int) + 3 := by omega
        simp [sliceD, boundD, this]
      have sr3 : srcD [.cells false 1 (ns.length + 2) (ns.length + 2) false (.int .i64 x :: .int .i64 y :: .int .i64 z :: ns.map i64)] 1 (.rs 0 (ns.length + 2) 1 3 ns.length false) = some (ns.map i64) := by
        have : (ns.map i64).take ns.length = ns.map i64 := List.take_of_length_le (by simp)
        have h2 : 3 + ns.length ≤ ns.length + 1 + 1 + 1 := by omega
        simp [srcD, listD, at0, this, h2]
      cases ns with
      | nil =>
        simp only [List.length_nil, List.map_nil] at sl3 sr3 h4 ⊢
        have ap : ∀ st, appendD st (.sl 1 true []) [] 1 = some (.sl 1 true [], st) := fun st => by simp [appendD]
        simp [h2, h4, h6, h7, b2, b6, z8op, at0, sl3, sr3, ap]
        rfl
      | cons u us =>
        simp only [List.map_cons] at sl3 sr3 h4 ⊢
        have hl : (u :: us).length ≤ s.length := by
          have := refL_len s _ _ _ _ _ _ hr
          simp only [List.length_cons, List.length_nil] at this ⊢; omega
        have hm : us.length + 1 ≤ most := by unfold most; simp only [List.length_cons] at hl; omega
        have hm2 : ¬ most < us.length + 1 := by omega
        have ap : ∀ st, appendD st (.sl 1 true []) (i64 u :: us.map i64) 1 = some (.rs st.length 0 1 0 (us.length + 1) false, st ++ [.cells false 1 0 0 false (i64 u :: us.map i64)]) := fun st => by
          simp [appendD, hm2]
        have hd : ∀ o1 o2, St.at [o1, o2] 1 = o2 := fun _ _ => rfl
        have hfz : fz0 [.cells false 1 ((u :: us).length + 2) ((u :: us).length + 2) false (.int .i64 x :: .int .i64 y :: .int .i64 z :: i64 u :: us.map i64), .cells false 1 0 0 false (i64 u :: us.map i64)] (.rs 1 0 1 0 (us.length + 1) false) = some (.sl 1 false (i64 u :: us.map i64), [.cells false 1 ((u :: us).length + 2) ((u :: us).length + 2) false (.int .i64 x :: .int .i64 y :: .int .i64 z :: i64 u :: us.map i64), .cells false 1 0 1 true (i64 u :: us.map i64)]) := by
          have : (us.map i64).take us.length = us.map i64 := List.take_of_length_le (by simp)
          simp [fz0, hd, this]
        simp only [List.length_cons] at sl3 sr3 h4 ap hfz ⊢
        simp [h2, h4, h6, h7, b2, b6, z8op, at0, sl3, sr3, ap, hfz]
        rfl
end Go.Nt.Lk

/-
  THE REFERENCE'S Operation, walked.
  No condition.
-/
set_option linter.unusedSimpArgs false
namespace Go.Nt.Lk
open Go Go.Nt

def I63 (s : List UInt8) (g : Nat) (k : Int) (sl : List D) (bx : List (Nat × List D)) : Prop :=
  get sl 0 = .str s ∧ get sl 2 = .lp 2 g 0 ∧ get sl 4 = .int .i64 k ∧ getB bx 2 = (g, z8op)

theorem l63s (s : List UInt8) (g : Nat) (k : Int) (hk : 1 ≤ k ∧ k ≤ 9) (st : St) (sl : List D) (bx : List (Nat × List D)) (h : I63 s g k sl bx)
    {Q : Ex → List D → List (Nat × List D) → St → Prop} (yes : wWord k ≠ [] → s = wWord k → ∀ s' b', get s' 2 = .lp 2 g 0 → get s' 3 = .bool true → getB b' 2 = (g, .int .i64 k :: z8op.tail) → Q .ret s' b' st)
    (no : ¬ (wWord k ≠ [] ∧ s = wWord k) → ∀ s' b', I63 s g (k + 1) s' b' → Stops (lp T L63_0 ⟨⟨s', b'⟩, st⟩) Q) :
    Stops (lp T L63_0 ⟨⟨sl, bx⟩, st⟩) Q := by
  obtain ⟨h0, h2, h4, hb⟩ := h
  have q := c104 k st
  have w1 : IntKind.wrap .i64 (k + 1) = k + 1 := wrap64 _ (by omega) (by omega)
  have hk9 : k ≤ 9 := hk.2
  refine Stops_wp L63_0.eq_1 ?_
  by_cases e1 : wWord k = []
  · have no := no (fun h => h.1 e1)
    rw [e1] at q
    simp [h0, h2, h4, hb, hk9, q, w1]
    exact no _ _ ⟨by simp [h0], by simp [h2], by simp, hb⟩
  · by_cases e2 : s = wWord k
    · have yes := yes e1 e2
      simp [h0, h2, h4, hb, hk9, q, e1, e2, z8op]
      exact yes _ _ (by simp [h2]) (by simp) (by simp [z8op])
    · have no := no (fun h => e2 h.2)
      simp [h0, h2, h4, hb, hk9, q, e1, e2, w1]
      exact no _ _ ⟨by simp [h0], by simp [h2], by simp, hb⟩

theorem l63e (s : List UInt8) (g : Nat) (st : St) (sl : List D) (bx : List (Nat × List D)) (h : I63 s g 10 sl bx)
    {Q : Ex → List D → List (Nat × List D) → St → Prop} (k : ∀ s' b', get s' 2 = .lp 2 g 0 → getB b' 2 = (g, z8op) → Q (.exit 0) s' b' st) :
    Stops (lp T L63_0 ⟨⟨sl, bx⟩, st⟩) Q := by
  obtain ⟨h0, h2, h4, hb⟩ := h
  refine Stops_wp L63_0.eq_1 ?_
  simp [h4]
  exact k _ _ (by simp [h2]) hb

theorem l63 (s : List UInt8) (g : Nat) (st : St) (sl : List D) (bx : List (Nat × List D)) (h : I63 s g 1 sl bx) :
    Stops (lp T L63_0 ⟨⟨sl, bx⟩, st⟩) fun e s' b' st' => st' = st ∧ get s' 2 = .lp 2 g 0 ∧ ((kind4 s [4, 6, 8, 9] = 0 ∧ e = .exit 0 ∧ getB b' 2 = (g, z8op)) ∨
      (¬ kind4 s [4, 6, 8, 9] = 0 ∧ e = .ret ∧ get s' 3 = .bool true ∧ getB b' 2 = (g, .int .i64 (kind4 s [4, 6, 8, 9]) :: z8op.tail))) := by
  refine l63s s g 1 (by omega) st sl bx h (fun e => absurd rfl e) fun _ s1 b1 h => ?_
  refine l63s s g 2 (by omega) st s1 b1 h (fun e => absurd rfl e) fun _ s1 b1 h => ?_
  refine l63s s g 3 (by omega) st s1 b1 h (fun e => absurd rfl e) fun _ s1 b1 h => ?_
  refine l63s s g 4 (by omega) st s1 b1 h (fun _ e s' b' h2 h3 hb => ?_) fun n4 s1 b1 h => ?_
  · have : kind4 s [4, 6, 8, 9] = 4 := by simp only [kind4]; rw [if_pos e]
    rw [this]; exact ⟨rfl, h2, .inr ⟨by omega, rfl, h3, hb⟩⟩
  refine l63s s g 5 (by omega) st s1 b1 h (fun e => absurd rfl e) fun _ s1 b1 h => ?_
  have n4' : ¬ s = wWord 4 := fun e => n4 ⟨by decide, e⟩
  refine l63s s g 6 (by omega) st s1 b1 h (fun _ e s' b' h2 h3 hb => ?_) fun n6 s1 b1 h => ?_
  · have : kind4 s [4, 6, 8, 9] = 6 := by simp only [kind4]; rw [if_neg n4', if_pos e]
    rw [this]; exact ⟨rfl, h2, .inr ⟨by omega, rfl, h3, hb⟩⟩
  have n6' : ¬ s = wWord 6 := fun e => n6 ⟨by decide, e⟩
  refine l63s s g 7 (by omega) st s1 b1 h (fun e => absurd rfl e) fun _ s1 b1 h => ?_
  refine l63s s g 8 (by omega) st s1 b1 h (fun _ e s' b' h2 h3 hb => ?_) fun n8 s1 b1 h => ?_
  · have : kind4 s [4, 6, 8, 9] = 8 := by simp only [kind4]; rw [if_neg n4', if_neg n6', if_pos e]
    rw [this]; exact ⟨rfl, h2, .inr ⟨by omega, rfl, h3, hb⟩⟩
  have n8' : ¬ s = wWord 8 := fun e => n8 ⟨by decide, e⟩
  refine l63s s g 9 (by omega) st s1 b1 h (fun _ e s' b' h2 h3 hb => ?_) fun n9 s1 b1 h => ?_
  · have : kind4 s [4, 6, 8, 9] = 9 := by simp only [kind4]; rw [if_neg n4', if_neg n6', if_neg n8', if_pos e]
    rw [this]; exact ⟨rfl, h2, .inr ⟨by omega, rfl, h3, hb⟩⟩
  have n9' : ¬ s = wWord 9 := fun e => n9 ⟨by decide, e⟩
  refine l63e s g st s1 b1 h fun s' b' h2 hb => ?_
  have : kind4 s [4, 6, 8, 9] = 0 := by simp only [kind4]; rw [if_neg n4', if_neg n6', if_neg n8', if_neg n9']
  rw [this]; exact ⟨rfl, h2, .inl ⟨rfl, rfl, hb⟩⟩

theorem kind4_two (s : List UInt8) : ¬ kind4 s [4, 6, 8, 9] = 2 := by
  simp only [kind4]
  split
  · decide
  · split
    · decide
    · split
      · decide
      · split <;> decide

def flR (o : Opr) : Fl := if o.kind = 2 then .emp else .nil

/-- An operation's line, as the reference reads it. -/
def opQ (s : List UInt8) : Option Opr :=
  if ¬ kind4 s [4, 6, 8, 9] = 0 then some ⟨kind4 s [4, 6, 8, 9], [], rq0, 0⟩
  else if s = [99, 104, 101, 99, 107] then some ⟨3, [], rq0, 0⟩
  else if s.take (runEnd nbB s 0) = [114, 101, 102, 97, 99, 116, 111, 114] then refQ (s.drop (runEnd nbB s 0))
  else if s.take (runEnd nbB s 0) = [99, 114, 97, 115, 104] ∧ runEnd nbB s 0 < s.length then (numQ (s.drop (runEnd nbB s 0 + 1))).map fun n => ⟨7, [], rq0, n⟩
  else if s.take (runEnd nbB s 0) = [108, 111, 97, 100] then (if (textQ (s.drop (runEnd nbB s 0))).2 = true then some ⟨1, (textQ (s.drop (runEnd nbB s 0))).1, rq0, 0⟩ else none)
  else if s.take (runEnd nbB s 0) = [110, 111, 116, 101] then (if (textQ (s.drop (runEnd nbB s 0))).2 = true then some ⟨5, (textQ (s.drop (runEnd nbB s 0))).1, rq0, 0⟩ else none)
  else if s.take (runEnd nbB s 0) = [99, 104, 101, 99, 107] then (if (textQ (s.drop (runEnd nbB s 0))).2 = true ∧ (textQ (s.drop (runEnd nbB s 0))).1 ≠ [] then some ⟨3, (textQ (s.drop (runEnd nbB s 0))).1, rq0, 0⟩ else none)
  else none

/-- A datum that says what was read, or that it was nothing. -/
def OpD (x : Option Opr) (d : D) : Prop := ∃ o fl, d = .tup [o.encF fl, .bool x.isSome] ∧ ∀ o', x = some o' → o = o' ∧ fl = flR o'

theorem OpD.mk {x : Option Opr} {o : Opr} {fl : Fl} (h : ∀ o', x = some o' → o = o' ∧ fl = flR o') : OpD x (.tup [o.encF fl, .bool x.isSome]) := ⟨o, fl, rfl, h⟩

theorem refQ_kind {s : List UInt8} {o : Opr} (h : refQ s = some o) : o.kind = 2 := by
  unfold refQ at h
  split at h
  · cases h; rfl
  · cases h

theorem encF_pure (o : Opr) (fl : Fl) : (o.encF fl).pure = true := by
  cases ho : o.rq.nums <;> cases fl <;> simp [Opr.encF, Opr.cells, i64, ho, slE]

theorem fz_encF (o : Opr) (fl : Fl) (b : Bool) (st : St) : fz st (.tup [o.encF fl, .bool b]) = some (.tup [o.encF fl, .bool b], st) := by
  cases ho : o.rq.nums <;> cases fl <;> simp [Opr.encF, Opr.cells, i64, ho, slE, fz, fz1, fz0, fzL]

theorem c63 (s : List UInt8) (hs : s.length ≤ 8192) (st : St) : ∃ d, OpD (opQ s) d ∧ callD T (ev T) 63 [.str s] st = some (d, st) := by
  suffices h : Ret (ev T 63 [.str s] []) fun r _ => OpD (opQ s) r by
    obtain ⟨r, st', h1, h2⟩ := h
    refine ⟨r, h2, ?_⟩
    obtain ⟨o, fl, rfl, _⟩ := h2
    exact callD_pure (fn := F63) rfl rfl (by simp) h1 (fz_encF _ _ _ _) (by have := encF_pure o fl; simp [this])
  refine Ret_wp (fn := F63) rfl ?_
  rw [F63]
  simp
  refine WL.useB L63_0_p L63_0_w (by kernel_rfl : L63_0.wrB = [2]) (l63 s 1 [] _ _ ⟨by simp, by simp, by simp, by simp [z8op]⟩) ?_
  rintro e s' b st' ⟨rfl, h2, h⟩ hf hg
  have h0 : get s' 0 = .str s := by rw [hf 0 rfl]; simp
  unfold opQ
  rcases h with ⟨hk, rfl, hb⟩ | ⟨hk, rfl, h3, hb⟩
  · rw [if_neg (fun h => h hk)]
    by_cases e0 : s = [99, 104, 101, 99, 107]
    · rw [if_pos e0]
      simp [h0, h2, hb, z8op, e0]
      exact OpD.mk (o := ⟨3, [], rq0, 0⟩) (fl := .nil) (fun o' h => by cases h; exact ⟨rfl, rfl⟩)
    rw [if_neg e0]
    have q1 : callD T (ev T) 106 [.str s, .int .i64 0] [] = some (.int .i64 (runEnd nbB s 0), []) := c106 s (by omega) 0 (by omega) []
    have hb1 := runEnd_le nbB s (a := 0) (by omega)
    generalize runEnd nbB s 0 = b1 at *
    have t1 := str_to s .i64 b1 hb1
    have t2 := str_from s .i64 b1 hb1
    generalize hw : s.take b1 = w at *
    have hd : (s.drop b1).length ≤ 8192 := by simp; omega
    have q3 := c109 (s.drop b1) (by omega) []
    by_cases e1 : w = [114, 101, 102, 97, 99, 116, 111, 114]
    · rw [if_pos e1]
      have q2 := c107 (s.drop b1) hd []
      cases hx : refQ (s.drop b1) with
      | none =>
        rw [hx] at q2
        have e : refD none = .tup [.agg [.int .i64 0, .str [], .int .i64 0, .int .i64 0, .int .i64 0, .str [], .nils, .int .i64 0], .bool false] := rfl
        rw [e] at q2
        simp [h0, h2, hb, z8op, e0, e1, q1, t1, t2, q2]
        exact OpD.mk (o := opz) (fl := .nil) (fun o' h => by cases h)
      | some o =>
        rw [hx] at q2
        have hk2 := refQ_kind hx
        have e : refD (some o) = .tup [.agg [.int .i64 o.kind, .str o.text, .int .i64 o.rq.kind, .int .i64 o.rq.frm, .int .i64 o.rq.to, .str o.rq.name, slE 1 .emp (o.rq.nums.map i64), .int .i64 o.n], .bool true] := rfl
        have fin : OpD (some o) (.tup [.agg [.int .i64 o.kind, .str o.text, .int .i64 o.rq.kind, .int .i64 o.rq.frm, .int .i64 o.rq.to, .str o.rq.name, slE 1 .emp (o.rq.nums.map i64), .int .i64 o.n], .bool true]) :=
          OpD.mk (x := some o) (o := o) (fl := .emp) (fun o' h => by cases h; exact ⟨rfl, by unfold flR; rw [if_pos hk2]⟩)
        rw [e] at q2
        have ot1 := slE_okv 1 .emp (o.rq.nums.map i64)
        have ot2 := slE_fits 1 .emp (o.rq.nums.map i64)
        have ot3 := slE_cells 1 .emp (o.rq.nums.map i64)
        generalize slE 1 .emp (o.rq.nums.map i64) = dn at *
        simp [h0, h2, hb, z8op, e0, e1, q1, t1, t2, q2, ot1, ot2, ot3]
        exact fin
    rw [if_neg e1]
    by_cases e2 : w = [99, 114, 97, 115, 104] ∧ b1 < s.length
    · rw [if_pos e2]
      obtain ⟨e2, hlt⟩ := e2
      have w1 := wrap1 (a := b1) (by omega)
      have t3 := str_from s .i64 (b1 + 1) hlt
      have q2 := c108 (s.drop (b1 + 1)) (by simp; omega) []
      unfold numD at q2
      generalize hx : numQ (s.drop (b1 + 1)) = x at *
      simp [h0, h2, hb, z8op, e0, e2, hlt, q1, w1, t1, t3, q2, -Int.natCast_add]
      cases x with
      | none => exact OpD.mk (o := ⟨7, [], rq0, 0⟩) (fl := .nil) (fun o' h => by cases h)
      | some n => exact OpD.mk (o := ⟨7, [], rq0, n⟩) (fl := .nil) (fun o' h => by cases h; exact ⟨rfl, rfl⟩)
    rw [if_neg e2]
    have e2' : ∀ h : w = [99, 114, 97, 115, 104], ¬ b1 < s.length := fun h h' => e2 ⟨h, h'⟩
    generalize textQ (s.drop b1) = x at *
    obtain ⟨t, k⟩ := x
    simp only at q3 ⊢
    by_cases e3 : w = [108, 111, 97, 100]
    · rw [if_pos e3]
      simp [h0, h2, hb, z8op, e0, e3, q1, t1, t2, q3]
      cases k with
      | false => exact OpD.mk (o := ⟨1, t, rq0, 0⟩) (fl := .nil) (fun o' h => by cases h)
      | true => exact OpD.mk (o := ⟨1, t, rq0, 0⟩) (fl := .nil) (fun o' h => by cases h; exact ⟨rfl, rfl⟩)
    rw [if_neg e3]
    by_cases e4 : w = [110, 111, 116, 101]
    · rw [if_pos e4]
      simp [h0, h2, hb, z8op, e0, e4, q1, t1, t2, q3]
      cases k with
      | false => exact OpD.mk (o := ⟨5, t, rq0, 0⟩) (fl := .nil) (fun o' h => by cases h)
      | true => exact OpD.mk (o := ⟨5, t, rq0, 0⟩) (fl := .nil) (fun o' h => by cases h; exact ⟨rfl, rfl⟩)
    rw [if_neg e4]
    by_cases e5 : w = [99, 104, 101, 99, 107]
    · rw [if_pos e5]
      cases k with
      | false =>
        simp [h0, h2, hb, z8op, e0, e5, q1, t1, t2, q3]
        exact OpD.mk (o := ⟨3, t, rq0, 0⟩) (fl := .nil) (fun o' h => by cases h)
      | true =>
        by_cases ht : t = []
        · simp [h0, h2, hb, z8op, e0, e5, q1, t1, t2, q3, ht]
          exact OpD.mk (o := ⟨3, [], rq0, 0⟩) (fl := .nil) (fun o' h => by cases h)
        · simp [h0, h2, hb, z8op, e0, e5, q1, t1, t2, q3, ht]
          exact OpD.mk (o := ⟨3, t, rq0, 0⟩) (fl := .nil) (fun o' h => by cases h; exact ⟨rfl, rfl⟩)
    rw [if_neg e5]
    by_cases e6 : w = [99, 114, 97, 115, 104]
    · have hlt := e2' e6
      simp [h0, h2, hb, z8op, e0, e6, hlt, q1, t1, t2, q3]
      exact OpD.mk (o := opz) (fl := .nil) (fun o' h => by cases h)
    · simp [h0, h2, hb, z8op, e0, e1, e3, e4, e5, e6, q1, t1, t2, q3]
      exact OpD.mk (o := opz) (fl := .nil) (fun o' h => by cases h)
  · rw [if_pos hk]
    simp [h2, h3, hb, z8op]
    exact OpD.mk (o := ⟨kind4 s [4, 6, 8, 9], [], rq0, 0⟩) (fl := .nil) (fun o' h => by cases h; exact ⟨rfl, by unfold flR; rw [if_neg (kind4_two s)]⟩)
end Go.Nt.Lk

/-
  THE REFERENCE'S Parse, walked.
  No condition.
-/
set_option linter.unusedSimpArgs false
namespace Go.Nt.Lk
open Go Go.Nt

def Opr.encR (o : Opr) : D := o.encF (flR o)
/-- The lines from a place on, as the reference reads them. -/
def pq (s : List UInt8) : Nat → Nat → Nat → Nat → List Opr → Except Nat (List Opr)
  | 0, _, _, _, _ => .ok []
  | n + 1, i, fr, line, os =>
    match s[i]? with
    | none => if fr < s.length then .error line else .ok os
    | some c => if ch c = 10 then
        match opQ (seg s fr i) with
        | some o => pq s n (i + 1) (i + 1) (line + 1) (os ++ [o])
        | none => .error line
      else pq s n (i + 1) fr line os

def gO (os : List Opr) : D × St := grown (seed 8 .emp) 8 (os.map Opr.encR)
theorem gO_app (os : List Opr) (h : os.length ≤ 100000000) (o : Opr) : appendD (gO os).2 (gO os).1 [o.encR] 8 = some ((gO (os ++ [o])).1, (gO (os ++ [o])).2) := by
  have h1 := grow .emp 8 (os.map Opr.encR) o.encR (by simp; omega)
  have e : os.map Opr.encR ++ [o.encR] = (os ++ [o]).map Opr.encR := by simp
  rw [e] at h1
  exact h1

def Q34 (s : List UInt8) (x : Except Nat (List Opr)) (e : Ex) (s' : List D) (st' : St) : Prop :=
  (∃ m, x = .error m ∧ e = .ret ∧ get s' 2 = .sl 8 true [] ∧ get s' 3 = .int .i64 m ∧ get s' 4 = .int .i64 2) ∨
  (∃ fr line os, x = (if fr < s.length then .error line else .ok os) ∧ e = .exit 0 ∧ get s' 5 = (gO os).1 ∧ get s' 6 = .int .i64 fr ∧ get s' 7 = .int .i64 line ∧ st' = (gO os).2)

theorem l34 (s : List UInt8) (hs : s.length ≤ 8192) : ∀ (n i fr line : Nat) (os : List Opr) (sl : List D) (bx : List (Nat × List D)), s.length - i < n → i ≤ s.length → fr ≤ i → line + (s.length - i) ≤ 100000 → os.length ≤ i →
    get sl 0 = .str s → get sl 5 = (gO os).1 → get sl 6 = .int .i64 fr → get sl 7 = .int .i64 line → get sl 8 = .int .i64 i →
    Stops (lp T L34_0 ⟨⟨sl, bx⟩, (gO os).2⟩) fun e s' _ st' => Q34 s (pq s n i fr line os) e s' st' := by
  intro n
  induction n with
  | zero => intro i fr line os sl bx h; omega
  | succ n ih =>
    intro i fr line os sl bx hn hi hf hl ho h0 h5 h6 h7 h8
    refine Stops_wp L34_0.eq_1 ?_
    unfold pq
    by_cases hlt : i < s.length
    · rw [List.getElem?_eq_getElem hlt]
      simp only
      have w1 := wrap1 (a := i) (by omega)
      have w2 := wrap1 (a := line) (by omega)
      by_cases h10 : ch s[i] = 10
      · rw [if_pos h10]
        have h10' : (s[i].toNat : Int) = 10 := h10
        have q1 := str_slice s .i64 .i64 fr i hf hi
        obtain ⟨d, ⟨o, fl, rfl, hd⟩, q2⟩ := c63 (seg s fr i) (by unfold seg; simp; omega) (gO os).2
        have ot1 := slE_okv 1 fl (o.rq.nums.map i64)
        have ot2 := slE_fits 1 fl (o.rq.nums.map i64)
        have ot3 := slE_cells 1 fl (o.rq.nums.map i64)
        have hp : (slE 1 fl (o.rq.nums.map i64)).pure = true ∧ (slE 1 fl (o.rq.nums.map i64)).pure1 = true := by
          cases o.rq.nums <;> cases fl <;> simp [slE, i64]
        obtain ⟨hp1, hp2⟩ := hp
        cases hq : opQ (seg s fr i) with
        | none =>
          rw [hq] at q2
          unfold Opr.encF Opr.cells i64 at q2
          generalize slE 1 fl (o.rq.nums.map i64) = dn at *
          simp [h0, h5, h6, h7, h8, hlt, byteD, h10', q1, q2, ot1, ot2, ot3, hp1, hp2, -Int.natCast_add]
          exact .inl ⟨line, rfl, rfl, by simp, by simp [h7], by simp⟩
        | some o' =>
          rw [hq] at q2
          obtain ⟨rfl, rfl⟩ := hd o' hq
          have ga := gO_app os (by omega) o
          have nx := fun sl' bx' => ih (i + 1) (i + 1) (line + 1) (os ++ [o]) sl' bx' (by omega) (by omega) (by omega) (by omega) (by simp; omega)
          unfold Opr.encR at ga
          unfold Opr.encF Opr.cells i64 at q2 ga
          unfold i64 at ot1 ot2 ot3 hp1 hp2
          generalize slE 1 (flR o) (o.rq.nums.map fun n => D.int .i64 n) = dn at *
          simp [h0, h5, h6, h7, h8, hlt, byteD, h10', q1, q2, ga, w1, w2, ot1, ot2, ot3, hp1, hp2, -Int.natCast_add]
          exact nx _ _ (by simp [h0]) (by simp) (by simp) (by simp) (by simp)
      · rw [if_neg h10]
        have h10' : ¬ (s[i].toNat : Int) = 10 := h10
        simp [h0, h5, h6, h7, h8, hlt, byteD, h10', w1, -Int.natCast_add]
        exact ih (i + 1) fr line os _ _ (by omega) (by omega) (by omega) (by omega) (by omega) (by simp [h0]) (by simp [h5]) (by simp [h6]) (by simp [h7]) (by simp)
    · have e : i = s.length := by omega
      subst e
      rw [List.getElem?_eq_none (Nat.le_refl _)]
      simp [h0, h8]
      exact .inr ⟨fr, line, os, rfl, rfl, by simp [h5], by simp [h6], by simp [h7], rfl⟩

def parQ (s : List UInt8) : Except Nat (List Opr) := pq s (s.length + 1) 0 0 1 []
def parD2 : Except Nat (List Opr) → D
  | .ok os => .tup [slE 8 .emp (os.map Opr.encR), .int .i64 0, .int .i64 0]
  | .error m => .tup [.sl 8 true [], .int .i64 m, .int .i64 2]

theorem encR_pure (o : Opr) : o.encR.pure = true := encF_pure o _
theorem encRs_pure (os : List Opr) : (slE 8 .emp (os.map Opr.encR)).pure = true := by
  cases os with
  | nil => rfl
  | cons o os => simp [slE, encR_pure]

theorem c34 (s : List UInt8) (hs : s.length ≤ 8192) (st : St) : callD T (ev T) 34 [.str s] st = some (parD2 (parQ s), st) := by
  refine callD_pureR (fn := F34) rfl rfl (by simp) ?_ ?_
  · cases parQ s with
    | ok os => have := encRs_pure os; simp [parD2, this]
    | error m => rfl
  · refine Ret_wp (fn := F34) rfl ?_
    rw [F34]
    simp
    refine WL.use L34_0_p L34_0_w (l34 s hs (s.length + 1) 0 0 1 [] _ _ (by omega) (by omega) (by omega) (by omega) (by simp) (by simp) (by simp [gO, seed]) (by simp) (by simp) (by simp)) ?_
    rintro e s' b st' h hf
    have h0 : get s' 0 = .str s := by rw [hf 0 rfl]; simp
    unfold parQ
    rcases h with ⟨m, hx, rfl, h2, h3, h4⟩ | ⟨fr, line, os, hx, rfl, h5, h6, h7, rfl⟩
    · rw [hx]
      simp [h2, h3, h4, parD2]
    · rw [hx]
      by_cases hl : fr < s.length
      · rw [if_pos hl]
        simp [h0, h5, h6, h7, hl, parD2]
      · rw [if_neg hl]
        have hl' : ¬ fr < s.length := hl
        have hz : fz1 (gO os).2 (gO os).1 = some (slE 8 .emp (os.map Opr.encR), grownZ 8 (os.map Opr.encR)) := fz1_grown .emp 8 _
        have hk : (gO os).1.okv = true := grown_okv .emp 8 _
        simp [h0, h5, h6, h7, hl', hk, hz, parD2]
end Go.Nt.Lk

/-
  LINES, plainly: what the program reads is what is printed.
  No condition.
-/
set_option linter.unusedSimpArgs false
namespace Go.Nt.Lk
open Go Go.Nt

def in64 (n : Int) : Prop := -9223372036854775808 ≤ n ∧ n ≤ 9223372036854775807
def numsT (ns : List Int) : List UInt8 := ns.flatMap fun n => 32 :: sdig n
theorem numsT_cons (n : Int) (ns : List Int) : numsT (n :: ns) = 32 :: (sdig n ++ numsT ns) := by simp [numsT]
def reqT (q : Rq) : List UInt8 := 32 :: (sdig q.kind ++ 32 :: (sdig q.frm ++ 32 :: (sdig q.to ++ 32 :: (quo q.name ++ numsT q.nums))))
def RqIn (q : Rq) : Prop := in64 q.kind ∧ in64 q.frm ∧ in64 q.to ∧ ∀ n ∈ q.nums, in64 n

/-- What can be told in a script. -/
inductive Good : Opr → Prop
  | load (t : List UInt8) : Good ⟨1, t, rq0, 0⟩
  | note (t : List UInt8) : Good ⟨5, t, rq0, 0⟩
  | check (t : List UInt8) : Good ⟨3, t, rq0, 0⟩
  | refactor (q : Rq) (h : RqIn q) : Good ⟨2, [], q, 0⟩
  | crash (n : Int) (h : in64 n) : Good ⟨7, [], rq0, n⟩
  | word (k : Int) (h : k = 4 ∨ k = 6 ∨ k = 8 ∨ k = 9) : Good ⟨k, [], rq0, 0⟩

def lineT (o : Opr) : List UInt8 :=
  if o.kind = 1 then [108, 111, 97, 100] ++ 32 :: quo o.text
  else if o.kind = 5 then [110, 111, 116, 101] ++ 32 :: quo o.text
  else if o.kind = 3 then (if o.text = [] then [99, 104, 101, 99, 107] else [99, 104, 101, 99, 107] ++ 32 :: quo o.text)
  else if o.kind = 2 then [114, 101, 102, 97, 99, 116, 111, 114] ++ reqT o.rq
  else if o.kind = 7 then [99, 114, 97, 115, 104] ++ 32 :: sdig o.n
  else wWord o.kind

theorem drop_at {s : List UInt8} {a : Nat} {x : UInt8} (h : s[a]? = some x) : s.drop a = x :: s.drop (a + 1) := by
  obtain ⟨h1, h2⟩ := List.getElem?_eq_some_iff.1 h
  rw [List.drop_eq_getElem_cons h1, h2]

theorem bTxt_inv {s t : List UInt8} {a b : Nat} {ok : Bool} (h : bTxt s a ok = (t, b, true)) : ok = true ∧ s.drop a = 32 :: (quo t ++ s.drop b) := by
  unfold bTxt at h
  split at h
  · rename_i hc
    refine ⟨hc.1, ?_⟩
    unfold txtR at h
    split at h
    · split at h
      · unfold quoR at h
        cases hq : quoted s (a + 1) with
        | none => rw [hq] at h; simp only [Prod.mk.injEq] at h; cases h.2.2
        | some p =>
          rw [hq] at h
          simp only [Prod.mk.injEq] at h
          obtain ⟨rfl, rfl, _⟩ := h
          obtain ⟨R, h1, h2⟩ := quoted_inv (t := p.1) (b := p.2) hq
          rw [drop_at hc.2, h1, h2, drop_app h1]
      · simp only [Prod.mk.injEq] at h; cases h.2.2
    · simp only [Prod.mk.injEq] at h; cases h.2.2
  · simp only [Prod.mk.injEq] at h; cases h.2.2

theorem numE_bound (s : List UInt8) (a : Nat) (ha : a ≤ s.length) : a ≤ numE s a ∧ numE s a ≤ s.length := by
  unfold numE
  have h1 : a ≤ num1 s a ∧ num1 s a ≤ s.length := by
    unfold num1
    split
    · rename_i hm
      simp only [minus, decide_eq_true_eq] at hm
      have := (List.getElem?_eq_some_iff.1 hm).1
      omega
    · omega
  exact ⟨Nat.le_trans h1.1 (le_runEnd _ _ _), runEnd_le _ _ h1.2⟩

theorem bNum_inv {s : List UInt8} {a b : Nat} {v : Int} {ok : Bool} (h : bNum s a ok = (v, b, true)) : ok = true ∧ in64 v ∧ s.drop a = 32 :: (sdig v ++ s.drop b) := by
  unfold bNum at h
  split at h
  · rename_i hc
    have hlt := (List.getElem?_eq_some_iff.1 hc.2).1
    unfold numR at h
    simp only [Prod.mk.injEq, Bool.true_and, decide_eq_true_eq] at h
    obtain ⟨rfl, rfl, h3⟩ := h
    obtain ⟨b1, b2⟩ := numE_bound s (a + 1) hlt
    obtain ⟨g1, g2⟩ := seg_split b1 b2
    exact ⟨hc.1, numA_in s (a + 1), by rw [drop_at hc.2, h3, ← g1]⟩
  · simp only [Prod.mk.injEq] at h; cases h.2.2

theorem numsR_inv {s : List UInt8} : ∀ (n a : Nat) (ok : Bool) (ns : List Int) (b : Nat), numsR s n a ok = (ns, b, true) → ok = true ∧ s.drop a = numsT ns ++ s.drop b ∧ ∀ v ∈ ns, in64 v
  | 0, a, ok, ns, b, h => by
    unfold numsR at h; cases h; exact ⟨rfl, rfl, by simp⟩
  | n + 1, a, ok, ns, b, h => by
    unfold numsR at h
    split at h
    · rename_i hc
      rcases hb : bNum s a ok with ⟨v, a1, o1⟩
      rw [hb] at h
      simp only at h
      rcases hr : numsR s n a1 o1 with ⟨ns1, b1, o2⟩
      rw [hr] at h
      simp only [Prod.mk.injEq] at h
      obtain ⟨rfl, rfl, rfl⟩ := h
      obtain ⟨rfl, h2, h3⟩ := numsR_inv n a1 o1 ns1 b1 hr
      obtain ⟨_, h4, h5⟩ := bNum_inv hb
      refine ⟨hc.1, by rw [h5, h2, numsT_cons]; simp, ?_⟩
      intro w hw
      rcases List.mem_cons.1 hw with rfl | hw
      · exact h4
      · exact h3 w hw
    · cases h; exact ⟨rfl, rfl, by simp⟩

theorem reqR_inv {s : List UInt8} {a b : Nat} {ok : Bool} {q : Rq} (h : reqR s a ok = (q, b, true)) : ok = true ∧ RqIn q ∧ s.drop a = reqT q ++ s.drop b := by
  unfold reqR at h
  rcases h1 : bNum s a ok with ⟨k, a1, o1⟩
  rw [h1] at h; simp only at h
  rcases h2 : bNum s a1 o1 with ⟨f, a2, o2⟩
  rw [h2] at h; simp only at h
  rcases h3 : bNum s a2 o2 with ⟨t, a3, o3⟩
  rw [h3] at h; simp only at h
  rcases h4 : bTxt s a3 o3 with ⟨nm, a4, o4⟩
  rw [h4] at h; simp only at h
  rcases h5 : numsR s (s.length + 1) a4 o4 with ⟨ns, a5, o5⟩
  rw [h5] at h
  simp only [Prod.mk.injEq] at h
  obtain ⟨rfl, rfl, rfl⟩ := h
  obtain ⟨rfl, g5, i5⟩ := numsR_inv _ _ _ _ _ h5
  obtain ⟨rfl, g4⟩ := bTxt_inv h4
  obtain ⟨rfl, i3, g3⟩ := bNum_inv h3
  obtain ⟨rfl, i2, g2⟩ := bNum_inv h2
  obtain ⟨rfl, i1, g1⟩ := bNum_inv h1
  refine ⟨rfl, ⟨i1, i2, i3, i5⟩, ?_⟩
  rw [g1, g2, g3, g4, g5]
  simp [reqT]

theorem seg0 (s : List UInt8) (b : Nat) : s = seg s 0 b ++ s.drop b := by unfold seg; simp

theorem kind4_inv {s : List UInt8} (h : ¬ kind4 s [4, 6, 8, 9] = 0) : (kind4 s [4, 6, 8, 9] = 4 ∨ kind4 s [4, 6, 8, 9] = 6 ∨ kind4 s [4, 6, 8, 9] = 8 ∨ kind4 s [4, 6, 8, 9] = 9) ∧ s = wWord (kind4 s [4, 6, 8, 9]) := by
  simp only [kind4] at h ⊢
  split
  · rename_i e; exact ⟨.inl rfl, e⟩
  · split
    · rename_i e; exact ⟨.inr (.inl rfl), e⟩
    · split
      · rename_i e; exact ⟨.inr (.inr (.inl rfl)), e⟩
      · split
        · rename_i e; exact ⟨.inr (.inr (.inr rfl)), e⟩
        · rename_i h1 h2 h3 h4
          simp [h1, h2, h3, h4] at h

/-- A: what the program reads. -/
theorem opR_inv {s : List UInt8} {ok : Bool} {o : Opr} (h : opR s 0 ok = (o, s.length, true)) : ok = true ∧ Good o ∧ s = lineT o := by
  have hs := seg0 s (runEnd wordB s 0)
  unfold opR at h
  generalize hb : runEnd wordB s 0 = b at *
  generalize hw : seg s 0 b = w at *
  split at h
  · rename_i e
    rcases hx : bTxt s b ok with ⟨t, b1, o1⟩
    rw [hx] at h
    simp only [Prod.mk.injEq] at h
    obtain ⟨rfl, rfl, rfl⟩ := h
    obtain ⟨h1, h2⟩ := bTxt_inv hx
    refine ⟨h1, .load t, ?_⟩
    rw [h2, e, List.drop_length, List.append_nil] at hs
    exact hs
  split at h
  · rename_i e
    rcases hx : bTxt s b ok with ⟨t, b1, o1⟩
    rw [hx] at h
    simp only [Prod.mk.injEq] at h
    obtain ⟨rfl, rfl, rfl⟩ := h
    obtain ⟨h1, h2⟩ := bTxt_inv hx
    refine ⟨h1, .note t, ?_⟩
    rw [h2, e, List.drop_length, List.append_nil] at hs
    exact hs
  split at h
  · rename_i e
    rcases hx : reqR s b ok with ⟨q, b1, o1⟩
    rw [hx] at h
    simp only [Prod.mk.injEq] at h
    obtain ⟨rfl, rfl, rfl⟩ := h
    obtain ⟨h1, h2, h3⟩ := reqR_inv hx
    refine ⟨h1, .refactor q h2, ?_⟩
    rw [h3, e, List.drop_length, List.append_nil] at hs
    exact hs
  split at h
  · rename_i e
    split at h
    · rcases hx : bTxt s b ok with ⟨t, b1, o1⟩
      rw [hx] at h
      simp only [Prod.mk.injEq, Bool.and_eq_true, Bool.not_eq_true', decide_eq_false_iff_not] at h
      obtain ⟨rfl, rfl, rfl, ht⟩ := h
      obtain ⟨h1, h2⟩ := bTxt_inv hx
      refine ⟨h1, .check t, ?_⟩
      rw [h2, e, List.drop_length, List.append_nil] at hs
      have e2 : lineT ⟨3, t, rq0, 0⟩ = [99, 104, 101, 99, 107] ++ 32 :: quo t := by unfold lineT; simp [ht]
      rw [e2]; exact hs
    · simp only [Prod.mk.injEq] at h
      obtain ⟨rfl, rfl, rfl⟩ := h
      refine ⟨rfl, .check [], ?_⟩
      rw [List.drop_length, e, List.append_nil] at hs
      exact hs
  split at h
  · rename_i e
    rcases hx : bNum s b ok with ⟨n, b1, o1⟩
    rw [hx] at h
    simp only [Prod.mk.injEq] at h
    obtain ⟨rfl, rfl, rfl⟩ := h
    obtain ⟨h1, h2, h3⟩ := bNum_inv hx
    refine ⟨h1, .crash n h2, ?_⟩
    rw [h3, e, List.drop_length, List.append_nil] at hs
    exact hs
  split at h
  · simp only [Prod.mk.injEq] at h; cases h.2.2
  · rename_i hk
    simp only [Prod.mk.injEq] at h
    obtain ⟨rfl, rfl, rfl⟩ := h
    obtain ⟨k1, k2⟩ := kind4_inv hk
    refine ⟨rfl, .word _ k1, ?_⟩
    rw [List.drop_length, List.append_nil] at hs
    have e2 : ∀ k : Int, (k = 4 ∨ k = 6 ∨ k = 8 ∨ k = 9) → lineT ⟨k, [], rq0, 0⟩ = wWord k := by
      rintro k (rfl | rfl | rfl | rfl) <;> rfl
    rw [e2 _ k1, ← k2]; exact hs
end Go.Nt.Lk

/-
  LINES, plainly: what is printed is read by the program; and by the reference.
  No condition.
-/
set_option linter.unusedSimpArgs false
namespace Go.Nt.Lk
open Go Go.Nt

theorem nd_nil (c : UInt8) (h : ([] : List UInt8).head? = some c) : digitB c = false := by cases h
theorem nd_32 (R : List UInt8) (c : UInt8) (h : (32 :: R).head? = some c) : digitB c = false := by cases h; decide
theorem nd_nums (ns : List Int) (c : UInt8) (h : (numsT ns).head? = some c) : digitB c = false := by
  cases ns with
  | nil => cases h
  | cons n ns => rw [numsT_cons] at h; cases h; decide
theorem drop_len {s : List UInt8} {a : Nat} {x : List UInt8} (h : s.drop a = x) (hx : x ≠ []) : s.length = a + x.length := by
  have := congrArg List.length h
  rw [List.length_drop] at this
  have : 0 < x.length := List.length_pos_iff.2 hx
  omega
theorem drop_len' {s : List UInt8} {a : Nat} {x : List UInt8} (h : s.drop a = x) (ha : a ≤ s.length) : s.length = a + x.length := by
  have := congrArg List.length h
  rw [List.length_drop] at this
  omega

theorem numsR_of {s : List UInt8} : ∀ (ns : List Int) (n a : Nat), a ≤ s.length → s.length - a < n → (∀ v ∈ ns, in64 v) → s.drop a = numsT ns → numsR s n a true = (ns, s.length, true)
  | ns, 0, a, ha, hn, _, _ => by omega
  | [], n + 1, a, ha, hn, hi, h => by
    have := drop_len' h ha
    simp [numsT] at this
    unfold numsR
    rw [if_neg (by omega)]; simp; omega
  | v :: ns, n + 1, a, ha, hn, hi, h => by
    rw [numsT_cons] at h
    have hlt := (drop_hd h).1
    have hv := hi v (by simp)
    have hb := bNum_dig h (nd_nums ns) hv.1 hv.2
    have h' : s.drop (a + 1 + (sdig v).length) = numsT ns := drop_app (drop_hd h).2.2
    have hl := drop_len h (by simp)
    simp only [List.length_cons, List.length_append] at hl
    have ih := numsR_of ns n (a + 1 + (sdig v).length) (by omega) (by omega) (fun w hw => hi w (by simp [hw])) h'
    unfold numsR
    rw [if_pos ⟨rfl, hlt⟩, hb]
    simp only
    rw [ih]

theorem reqR_of {s : List UInt8} {q : Rq} {a : Nat} (hq : RqIn q) (h : s.drop a = reqT q) : reqR s a true = (q, s.length, true) := by
  obtain ⟨i1, i2, i3, i4⟩ := hq
  unfold reqT at h
  have b1 := bNum_dig h (nd_32 _) i1.1 i1.2
  have d1 := drop_app (drop_hd h).2.2
  have b2 := bNum_dig d1 (nd_32 _) i2.1 i2.2
  have d2 := drop_app (drop_hd d1).2.2
  have b3 := bNum_dig d2 (nd_32 _) i3.1 i3.2
  have d3 := drop_app (drop_hd d2).2.2
  have b4 := bTxt_quo d3
  have d4 := drop_app (drop_hd d3).2.2
  have hl := drop_len d3 (by simp)
  simp only [List.length_cons, List.length_append] at hl
  have b5 := numsR_of q.nums (s.length + 1) _ (by omega) (by omega) i4 d4
  unfold reqR
  rw [b1]; simp only
  rw [b2]; simp only
  rw [b3]; simp only
  rw [b4]; simp only
  rw [b5]

theorem len_app (w R : List UInt8) : (w ++ R).length = w.length + R.length := List.length_append

/-- B. -/
theorem opR_of {o : Opr} (h : Good o) : opR (lineT o) 0 true = (o, (lineT o).length, true) := by
  have wp : ∀ (w R : List UInt8), w.all wordB = true → (∀ c, R.head? = some c → wordB c = false) → runEnd wordB (w ++ R) 0 = w.length ∧ seg (w ++ R) 0 w.length = w ∧ (w ++ R).drop w.length = R := fun w R h1 h2 => by
    obtain ⟨g1, g2⟩ := word_pre h1 h2; exact ⟨g1, g2, by simp⟩
  have w32 : ∀ (R : List UInt8) c, (32 :: R).head? = some c → wordB c = false := fun R c h => by cases h; decide
  cases h with
  | load t =>
    show opR ([108, 111, 97, 100] ++ 32 :: quo t) 0 true = (_, ([108, 111, 97, 100] ++ 32 :: quo t).length, true)
    obtain ⟨g1, g2, g3⟩ := wp [108, 111, 97, 100] (32 :: quo t) (by decide) (w32 _)
    have b := bTxt_quo (t := t) (R := []) (by rw [g3, List.append_nil])
    unfold opR
    rw [g1, g2, if_pos rfl, b]
    simp; omega
  | note t =>
    show opR ([110, 111, 116, 101] ++ 32 :: quo t) 0 true = (_, ([110, 111, 116, 101] ++ 32 :: quo t).length, true)
    exact opR_note t
  | check t =>
    by_cases ht : t = []
    · subst ht
      have e : lineT ⟨3, [], rq0, 0⟩ = [99, 104, 101, 99, 107] := rfl
      rw [e]
      obtain ⟨g1, g2, g3⟩ := wp [99, 104, 101, 99, 107] [] (by decide) (by intro c h; cases h)
      rw [List.append_nil] at g1 g2
      unfold opR
      rw [g1, g2, if_neg (by decide), if_neg (by decide), if_neg (by decide), if_pos rfl, if_neg (by decide)]
    · have e : lineT ⟨3, t, rq0, 0⟩ = [99, 104, 101, 99, 107] ++ 32 :: quo t := by unfold lineT; simp [ht]
      rw [e]
      obtain ⟨g1, g2, g3⟩ := wp [99, 104, 101, 99, 107] (32 :: quo t) (by decide) (w32 _)
      have b := bTxt_quo (t := t) (R := []) (by rw [g3, List.append_nil])
      unfold opR
      rw [g1, g2, if_neg (by decide), if_neg (by decide), if_neg (by decide), if_pos rfl, if_pos (by simp), b]
      simp [ht]; omega
  | refactor q hq =>
    show opR ([114, 101, 102, 97, 99, 116, 111, 114] ++ reqT q) 0 true = (_, ([114, 101, 102, 97, 99, 116, 111, 114] ++ reqT q).length, true)
    obtain ⟨g1, g2, g3⟩ := wp [114, 101, 102, 97, 99, 116, 111, 114] (reqT q) (by decide) (w32 _)
    have b := reqR_of hq g3
    unfold opR
    rw [g1, g2, if_neg (by decide), if_neg (by decide), if_pos rfl, b]
  | crash n hn =>
    show opR ([99, 114, 97, 115, 104] ++ 32 :: sdig n) 0 true = (_, ([99, 114, 97, 115, 104] ++ 32 :: sdig n).length, true)
    obtain ⟨g1, g2, g3⟩ := wp [99, 114, 97, 115, 104] (32 :: sdig n) (by decide) (w32 _)
    have b := bNum_dig (v := n) (R := []) (by rw [g3, List.append_nil]) nd_nil hn.1 hn.2
    unfold opR
    rw [g1, g2, if_neg (by decide), if_neg (by decide), if_neg (by decide), if_neg (by decide), if_pos rfl, b]
    simp; omega
  | word k hk =>
    rcases hk with rfl | rfl | rfl | rfl
    · show opR (lineT ⟨4, [], rq0, 0⟩) 0 true = (⟨4, [], rq0, 0⟩, (lineT ⟨4, [], rq0, 0⟩).length, true)
      kernel_rfl
    · show opR (lineT ⟨6, [], rq0, 0⟩) 0 true = (⟨6, [], rq0, 0⟩, (lineT ⟨6, [], rq0, 0⟩).length, true)
      kernel_rfl
    · show opR (lineT ⟨8, [], rq0, 0⟩) 0 true = (⟨8, [], rq0, 0⟩, (lineT ⟨8, [], rq0, 0⟩).length, true)
      kernel_rfl
    · show opR (lineT ⟨9, [], rq0, 0⟩) 0 true = (⟨9, [], rq0, 0⟩, (lineT ⟨9, [], rq0, 0⟩).length, true)
      kernel_rfl


/-! ### The reference -/

theorem runEnd_pre {p : UInt8 → Bool} {s x R : List UInt8} {a : Nat} (h : s.drop a = x ++ R) (hx : x.all p = true) (hR : ∀ c, R.head? = some c → p c = false) : runEnd p s a = a + x.length := by
  rw [runEnd_tw, h, tw_app hx hR]

theorem nb_32 (R : List UInt8) (c : UInt8) (h : (32 :: R).head? = some c) : nbB c = false := by cases h; decide
theorem nb_nil (c : UInt8) (h : ([] : List UInt8).head? = some c) : nbB c = false := by cases h
theorem nb_nums (ns : List Int) (c : UInt8) (h : (numsT ns).head? = some c) : nbB c = false := by
  cases ns with
  | nil => cases h
  | cons n ns => rw [numsT_cons] at h; cases h; decide
theorem nb_dig (u : Nat) : (dig u).all nbB = true := by
  have := (dig_digit (u + 1) u (by omega)).1
  rw [List.all_eq_true] at this ⊢
  intro x hx
  have := (digitB_iff x).1 (this x hx)
  unfold nbB
  rw [Bool.not_eq_true', decide_eq_false_iff_not]; omega
theorem nb_sdig (v : Int) : (sdig v).all nbB = true := by
  unfold sdig
  split
  · rw [List.all_cons, nb_dig, Bool.and_true]; decide
  · exact nb_dig _

/-- A number's field. -/
theorem refL_num {s R : List UInt8} {a n : Nat} {ns : List Int} {nm : List UInt8} {named : Bool} {v : Int} (h : s.drop a = 32 :: (sdig v ++ R)) (hR : ∀ c, R.head? = some c → nbB c = false) (hv : in64 v) (hc : ¬ (ns.length = 3 ∧ named = false)) :
    refL s (n + 1) a ns nm named = refL s n (a + 1 + (sdig v).length) (ns ++ [v]) nm named ∧ s.drop (a + 1 + (sdig v).length) = R := by
  obtain ⟨b1, b2, b3⟩ := drop_hd h
  have hr := runEnd_pre b3 (nb_sdig v) hR
  have hs := seg_pre b3
  have hq := (numQ_iff (sdig v) v).2 ⟨hv.1, hv.2, rfl⟩
  refine ⟨?_, drop_app b3⟩
  conv => lhs; unfold refL
  rw [b2]; simp only
  rw [if_pos (by rfl), if_neg hc, hr, hs, hq]

theorem refL_num_inv {s : List UInt8} {a n : Nat} {ns : List Int} {nm : List UInt8} {named : Bool} {r : List Int × List UInt8 × Bool} (h : refL s (n + 1) a ns nm named = some r) (hc : ¬ (ns.length = 3 ∧ named = false)) :
    (s.drop a = [] ∧ r = (ns, nm, named)) ∨ ∃ v b, in64 v ∧ s.drop a = 32 :: (sdig v ++ s.drop b) ∧ refL s n b (ns ++ [v]) nm named = some r := by
  unfold refL at h
  split at h
  · rename_i hn
    cases h
    exact .inl ⟨List.drop_eq_nil_of_le (List.getElem?_eq_none_iff.1 hn), rfl⟩
  · rename_i c hx
    split at h
    · rename_i h32
      split at h
      · rename_i v hv
        obtain ⟨v1, v2, v3⟩ := (numQ_iff _ v).1 hv
        have hlt := (List.getElem?_eq_some_iff.1 hx).1
        obtain ⟨g1, g2⟩ := seg_split (s := s) (le_runEnd nbB s (a + 1)) (runEnd_le nbB s (by omega))
        have hc32 : c = 32 := UInt8.toNat_inj.1 (by simp only [ch] at h32; have : (32 : UInt8).toNat = 32 := rfl; omega)
        exact .inr ⟨v, _, ⟨v1, v2⟩, by rw [drop_at hx, hc32, ← v3, ← g1], h⟩
      · cases h
    · cases h

theorem refL_name {s R : List UInt8} {a n : Nat} {ns : List Int} {nm t : List UInt8} (h : s.drop a = 32 :: (quo t ++ R)) (hc : ns.length = 3) :
    refL s (n + 1) a ns nm false = refL s n (a + 1 + (quo t).length) ns t true ∧ s.drop (a + 1 + (quo t).length) = R := by
  obtain ⟨b1, b2, b3⟩ := drop_hd h
  have hq := quoted_quo b3
  refine ⟨?_, drop_app b3⟩
  conv => lhs; unfold refL
  rw [b2]; simp only
  rw [if_pos (by rfl), if_pos ⟨hc, trivial⟩, hq]

theorem refL_name_inv {s : List UInt8} {a n : Nat} {ns : List Int} {nm : List UInt8} {r : List Int × List UInt8 × Bool} (h : refL s (n + 1) a ns nm false = some r) (hc : ns.length = 3) :
    r = (ns, nm, false) ∨ ∃ t b, s.drop a = 32 :: (quo t ++ s.drop b) ∧ refL s n b ns t true = some r := by
  unfold refL at h
  split at h
  · cases h; exact .inl rfl
  · rename_i c hx
    split at h
    · rename_i h32
      rw [if_pos ⟨hc, rfl⟩] at h
      split at h
      · rename_i t b hq
        obtain ⟨R, h1, h2⟩ := quoted_inv hq
        have hc32 : c = 32 := UInt8.toNat_inj.1 (by simp only [ch] at h32; have : (32 : UInt8).toNat = 32 := rfl; omega)
        exact .inr ⟨t, b, by rw [drop_at hx, hc32, h1, h2, drop_app h1], h⟩
      · cases h
    · cases h

theorem refL_rest {s : List UInt8} : ∀ (rest : List Int) (n a : Nat) (ns : List Int) (nm : List UInt8), s.length - a < n → (∀ v ∈ rest, in64 v) → s.drop a = numsT rest → refL s n a ns nm true = some (ns ++ rest, nm, true)
  | rest, 0, a, ns, nm, hn, _, _ => by omega
  | [], n + 1, a, ns, nm, hn, hi, h => by
    have : s.length ≤ a := List.drop_eq_nil_iff.1 h
    unfold refL
    rw [List.getElem?_eq_none this]; simp
  | v :: rest, n + 1, a, ns, nm, hn, hi, h => by
    rw [numsT_cons] at h
    have hlt := (drop_hd h).1
    obtain ⟨g1, g2⟩ := refL_num (n := n) (ns := ns) (nm := nm) (named := true) h (nb_nums rest) (hi v (by simp)) (by simp)
    rw [g1, refL_rest rest n _ _ nm (by omega) (fun w hw => hi w (by simp [hw])) g2]
    simp

theorem refL_rest_inv {s : List UInt8} : ∀ (n a : Nat) (ns : List Int) (nm : List UInt8) (r : List Int × List UInt8 × Bool), refL s n a ns nm true = some r → ∃ rest, r = (ns ++ rest, nm, true) ∧ (∀ v ∈ rest, in64 v) ∧ s.drop a = numsT rest
  | 0, a, ns, nm, r, h => by cases h
  | n + 1, a, ns, nm, r, h => by
    rcases refL_num_inv h (by simp) with ⟨h1, rfl⟩ | ⟨v, b, hv, h1, h2⟩
    · exact ⟨[], by simp, by simp, by rw [h1]; rfl⟩
    · obtain ⟨rest, rfl, h4, h5⟩ := refL_rest_inv n b _ nm r h2
      refine ⟨v :: rest, by simp, ?_, by rw [h1, h5, numsT_cons]⟩
      intro w hw
      rcases List.mem_cons.1 hw with rfl | hw
      · exact hv
      · exact h4 w hw

theorem refQ_of {s : List UInt8} {q : Rq} (hq : RqIn q) (h : s = reqT q) : refQ s = some ⟨2, [], q, 0⟩ := by
  obtain ⟨i1, i2, i3, i4⟩ := hq
  have h0 : s.drop 0 = reqT q := h
  unfold reqT at h0
  obtain ⟨k, hk⟩ : ∃ k, s.length = k + 3 := ⟨s.length - 3, by have := congrArg List.length h; unfold reqT at this; simp only [List.length_cons, List.length_append] at this; omega⟩
  obtain ⟨a1, d1⟩ := refL_num (n := k + 3) (ns := []) (nm := []) (named := false) h0 (nb_32 _) i1 (by simp)
  obtain ⟨a2, d2⟩ := refL_num (n := k + 2) (ns := [] ++ [q.kind]) (nm := []) (named := false) d1 (nb_32 _) i2 (by simp)
  obtain ⟨a3, d3⟩ := refL_num (n := k + 1) (ns := [] ++ [q.kind] ++ [q.frm]) (nm := []) (named := false) d2 (nb_32 _) i3 (by simp)
  obtain ⟨a4, d4⟩ := refL_name (n := k) (ns := [] ++ [q.kind] ++ [q.frm] ++ [q.to]) (nm := []) d3 (by simp)
  have hl := drop_len d3 (by simp)
  have ht : 2 ≤ (quo q.name).length := by simp [quo]
  simp only [List.length_cons, List.length_append] at hl
  have a5 := refL_rest (s := s) q.nums k _ ([] ++ [q.kind] ++ [q.frm] ++ [q.to]) q.name (by omega) i4 d4
  unfold refQ
  rw [hk, a1, a2, a3, a4, a5]
  rfl

theorem refL_pos {s : List UInt8} {a n : Nat} {ns : List Int} {nm : List UInt8} {named : Bool} {r : List Int × List UInt8 × Bool} (h : refL s n a ns nm named = some r) : ∃ k, n = k + 1 := by
  cases n with
  | zero => cases h
  | succ k => exact ⟨k, rfl⟩

theorem refQ_inv {s : List UInt8} {o : Opr} (h : refQ s = some o) : ∃ q, RqIn q ∧ o = ⟨2, [], q, 0⟩ ∧ s = reqT q := by
  unfold refQ at h
  split at h
  · rename_i x y z ns nm hr
    cases h
    rcases refL_num_inv hr (by simp) with ⟨_, h1⟩ | ⟨v1, b1, i1, d1, h1⟩
    · cases h1
    obtain ⟨k, hk⟩ := refL_pos h1
    rw [hk] at h1
    rcases refL_num_inv h1 (by simp) with ⟨_, h2⟩ | ⟨v2, b2, i2, d2, h2⟩
    · cases h2
    obtain ⟨k, rfl⟩ := refL_pos h2
    rcases refL_num_inv h2 (by simp) with ⟨_, h3⟩ | ⟨v3, b3, i3, d3, h3⟩
    · cases h3
    obtain ⟨k, rfl⟩ := refL_pos h3
    rcases refL_name_inv h3 (by simp) with h4 | ⟨t, b4, d4, h4⟩
    · cases h4
    obtain ⟨rest, h5, i5, d5⟩ := refL_rest_inv _ _ _ _ _ h4
    cases h5
    refine ⟨⟨x, y, z, _, rest⟩, ⟨i1, i2, i3, i5⟩, rfl, ?_⟩
    have d0 : s = s.drop 0 := rfl
    rw [d0, d1, d2, d3, d4, d5]
    simp [reqT]
  · cases h
end Go.Nt.Lk
