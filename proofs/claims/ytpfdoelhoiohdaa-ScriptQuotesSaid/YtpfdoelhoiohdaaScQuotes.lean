/-
  NAMING ANEW, plainly: what the program and the reference come to is the same.
  No condition.
-/
import Derived.Test.YtpfdoelhoiohdaaLkBuf
import Derived.Test.YtpfdoelhoiohdaaScQuote
import Derived.Test.YtpfdoelhoiohdaaNtAuto
namespace Go.Nt.Lk
open Go Go.Nt

/-- An old name and a new one. -/
abbrev Nm : Type := List UInt8 × List UInt8

def newOf (ns : List Nm) (s : List UInt8) : Option (List UInt8) := (ns.find? fun n => decide (n.1 = s)).map (·.2)

def called (p : Option Tok) (t : Tok) : Bool := match p with
  | none => false
  | some q => decide (t.k = 1) && (decide (q.k = 4) && decide (q.s = [64]))

def refGo (s : List UInt8) (ns : List Nm) : Option Tok → List Tok → List UInt8 → Nat → Option (List UInt8 × Nat)
  | _, [], out, done => some (out, done)
  | p, t :: r, out, done =>
    if called p t then
      if 8192 < (out ++ seg s done t.f ++ (newOf ns t.s).getD t.s).length then none
      else refGo s ns (some t) r (out ++ seg s done t.f ++ (newOf ns t.s).getD t.s) t.t
    else refGo s ns (some t) r out done

def linkGo (s : List UInt8) (ns : List Nm) : Option Tok → List Tok → List UInt8 → Nat → Option (List UInt8 × Nat)
  | _, [], out, done => some (out, done)
  | p, t :: r, out, done =>
    if called p t then
      match newOf ns t.s with
      | none => linkGo s ns (some t) r out done
      | some w => if 8192 < (out ++ seg s done t.f ++ w).length then none else linkGo s ns (some t) r (out ++ seg s done t.f ++ w) t.t
    else linkGo s ns (some t) r out done

/-- What the whole comes to; none: it is too long. -/
def fin (s : List UInt8) : Option (List UInt8 × Nat) → Option (List UInt8)
  | none => none
  | some (out, done) => if 8192 < (out ++ s.drop done).length then none else some (out ++ s.drop done)

/-- Tokens one behind the other, from a place on. -/
def Chain (s : List UInt8) : Nat → List Tok → Prop
  | _, [] => True
  | a, t :: r => a ≤ t.f ∧ t.f ≤ t.t ∧ t.t ≤ s.length ∧ (t.k = 1 → t.s = seg s t.f t.t) ∧ Chain s t.t r

theorem seg_app (s : List UInt8) (a b c : Nat) (h : a ≤ b) (h' : b ≤ c) : seg s a b ++ seg s b c = seg s a c := by
  unfold seg
  rw [List.drop_take, List.drop_take, List.drop_take]
  obtain ⟨x, rfl⟩ : ∃ x, b = a + x := ⟨b - a, by omega⟩
  obtain ⟨y, rfl⟩ : ∃ y, c = a + x + y := ⟨c - (a + x), by omega⟩
  rw [show a + x - a = x by omega, show a + x + y - (a + x) = y by omega, show a + x + y - a = x + y by omega, List.take_add, List.drop_drop]

theorem seg_drop (s : List UInt8) (a b : Nat) (h : a ≤ b) : seg s a b ++ s.drop b = s.drop a := by
  unfold seg
  rw [List.drop_take]
  obtain ⟨x, rfl⟩ : ∃ x, b = a + x := ⟨b - a, by omega⟩
  rw [show a + x - a = x by omega, ← List.drop_drop, List.take_append_drop]

theorem seg_self (s : List UInt8) (a : Nat) : seg s a a = [] := by
  unfold seg; rw [List.drop_take]; simp

/-- Too long already: too long at the end. -/
theorem link_long (s : List UInt8) (ns : List Nm) : ∀ (l : List Tok) (p : Option Tok) (a d : Nat) (out : List UInt8), Chain s a l → d ≤ a → 8192 < (out ++ seg s d a).length → fin s (linkGo s ns p l out d) = none
  | [], p, a, d, out, _, hd, h => by
    unfold linkGo fin
    simp only
    rw [if_pos]
    rw [← seg_drop s d a hd, ← List.append_assoc, List.length_append]
    omega
  | t :: r, p, a, d, out, hc, hd, h => by
    obtain ⟨h1, h2, h3, h4, h5⟩ := hc
    have hl : 8192 < (out ++ seg s d t.t).length := by
      rw [← seg_app s d a t.t hd (by omega), ← List.append_assoc, List.length_append]; omega
    have hl2 : 8192 < (out ++ seg s d t.f).length := by
      rw [← seg_app s d a t.f hd h1, ← List.append_assoc, List.length_append]; omega
    unfold linkGo
    split
    · split
      · exact link_long s ns r _ t.t d out h5 (by omega) hl
      · next w _ =>
        rw [if_pos (by rw [List.length_append]; omega)]
        rfl
    · exact link_long s ns r _ t.t d out h5 (by omega) hl

theorem link_ref (s : List UInt8) (ns : List Nm) : ∀ (l : List Tok) (p : Option Tok) (a d e : Nat) (out : List UInt8), Chain s a l → d ≤ e → e ≤ a → fin s (refGo s ns p l (out ++ seg s d e) e) = fin s (linkGo s ns p l out d)
  | [], p, a, d, e, out, _, hd, h => by
    unfold refGo linkGo fin
    simp only [List.append_assoc, seg_drop s d e hd]
  | t :: r, p, a, d, e, out, hc, hd, h => by
    obtain ⟨h1, h2, h3, h4, h5⟩ := hc
    unfold refGo linkGo
    have e1 : out ++ seg s d e ++ seg s e t.f = out ++ seg s d t.f := by rw [List.append_assoc, seg_app s d e t.f hd (by omega)]
    rw [e1]
    split
    · next hcall =>
      have hk : t.k = 1 := by
        unfold called at hcall
        split at hcall
        · cases hcall
        · simp only [Bool.and_eq_true, decide_eq_true_eq] at hcall; exact hcall.1
      cases hn : newOf ns t.s with
      | none =>
        simp only [Option.getD_none]
        rw [h4 hk, List.append_assoc, seg_app s d t.f t.t (by omega) h2]
        split
        · next hl => exact (link_long s ns r _ t.t d out h5 (by omega) hl).symm
        · exact link_ref s ns r _ t.t d t.t out h5 (by omega) (Nat.le_refl _)
      | some w =>
        simp only [Option.getD_some]
        split
        · rfl
        · have := link_ref s ns r (some t) t.t t.t t.t (out ++ seg s d t.f ++ w) h5 (Nat.le_refl _) (Nat.le_refl _)
          rw [seg_self, List.append_nil] at this
          exact this
    · exact link_ref s ns r _ t.t d e out h5 hd (by omega)

theorem oneT_s {s : List UInt8} {a : Nat} {t : Tok} (h : oneT s a = .inl t) (hk : t.k = 1) : t.s = seg s t.f t.t := by
  unfold oneT at h
  split at h
  · cases h
  · split at h
    · simp only at h
      split at h
      · cases h
      · cases h; rfl
    · split at h
      · simp only at h
        split at h
        · cases h
        · cases h; simp at hk
      · simp only at h
        split at h
        · cases h
        · cases h; simp at hk

theorem toksF_chain (s : List UInt8) : ∀ (r a : Nat) (ts l : List Tok), r = s.length - a → a ≤ s.length → toksF s a ts = .inl l → ∃ k, l = ts ++ k ∧ Chain s a k := by
  intro r
  induction r using Nat.strongRecOn with
  | ind r ih =>
    intro a ts l hr ha h
    rw [toksF] at h
    split at h
    · next hlt =>
      split at h
      · next t ht =>
        have h1 := oneT_to hlt ht
        have h2 := le_nextP s t.t
        have h3 := nextP_le s t.t h1.2.1
        obtain ⟨k, rfl, hk⟩ := ih (s.length - nextP s t.t) (by omega) _ _ l rfl h3 h
        refine ⟨t :: k, by simp, by omega, by omega, h1.2.1, oneT_s ht, ?_⟩
        cases k with
        | nil => trivial
        | cons u k => exact ⟨by have := hk.1; omega, hk.2⟩
      · cases h
    · cases h
      exact ⟨_, rfl, by simpa using ha, Nat.le_refl _, Nat.le_refl _, by simp, trivial⟩

end Go.Nt.Lk

/-
  QUOTED TEXTS READ, plainly: the program's way and the reference's.
  No condition.
-/
set_option linter.unusedSimpArgs false
namespace Go.Nt.Lk
open Go Go.Nt

def hexL : List UInt8 := [48, 49, 50, 51, 52, 53, 54, 55, 56, 57, 97, 98, 99, 100, 101, 102]
/-- A digit's value, or 0. -/
def hv (c : UInt8) : Nat := (max 0 (findB c hexL 0)).toNat

def hex1 (s : List UInt8) (x : Nat × Nat) : Nat × Nat := if h : x.2 < s.length then (x.1 * 16 + hv s[x.2], x.2 + 1) else x
/-- What stands behind a backslash, as the program reads it; the place behind it. -/
def esc (s : List UInt8) (a : Nat) : UInt8 × Nat :=
  if h : a < s.length then
    if ch s[a] = 110 then (10, a + 1) else
    if ch s[a] = 120 then (UInt8.ofNat (hex1 s (hex1 s (0, a + 1))).1, (hex1 s (hex1 s (0, a + 1))).2) else (s[a], a + 1)
  else (0, a)
theorem hex1_le (s : List UInt8) (x : Nat × Nat) (h : x.2 ≤ s.length) : x.2 ≤ (hex1 s x).2 ∧ (hex1 s x).2 ≤ s.length := by
  unfold hex1; split <;> simp <;> omega
theorem esc_le (s : List UInt8) (a : Nat) (h : a ≤ s.length) : a ≤ (esc s a).2 ∧ (esc s a).2 ≤ s.length := by
  unfold esc
  split
  · split
    · simp; omega
    · split
      · have h1 := hex1_le s (0, a + 1) (by simp; omega)
        have h2 := hex1_le s (hex1 s (0, a + 1)) h1.2
        simp at h1 ⊢; omega
      · simp; omega
  · simp; omega

/-- The text up to the next quote, as the program reads it; the quote's place. -/
def unqP (s : List UInt8) (a : Nat) : List UInt8 × Nat :=
  if h : a < s.length then
    if ch s[a] = 34 then ([], a) else
    if ch s[a] = 92 then ((esc s (a + 1)).1 :: (unqP s (esc s (a + 1)).2).1, (unqP s (esc s (a + 1)).2).2)
    else (s[a] :: (unqP s (a + 1)).1, (unqP s (a + 1)).2)
  else ([], a)
termination_by s.length - a
decreasing_by
  all_goals first | omega | (have := esc_le s (a + 1) (by omega); omega)

/-- A quoted text at a place: what it is, the place behind it. -/
def quoted (s : List UInt8) (a : Nat) : Option (List UInt8 × Nat) :=
  if (unqP s (a + 1)).2 + 1 ≤ s.length ∧ quo (unqP s (a + 1)).1 = seg s a ((unqP s (a + 1)).2 + 1) then some ((unqP s (a + 1)).1, (unqP s (a + 1)).2 + 1) else none

theorem unqP_le (s : List UInt8) : ∀ (n a : Nat), s.length - a ≤ n → a ≤ s.length → a ≤ (unqP s a).2 ∧ (unqP s a).2 ≤ s.length ∧ (unqP s a).1.length ≤ (unqP s a).2 - a := by
  intro n
  induction n with
  | zero =>
    intro a h1 h2
    have h3 : ¬ a < s.length := by omega
    rw [unqP]; simp [h3]; omega
  | succ n ih =>
    intro a h1 h2
    rw [unqP]
    split
    · split
      · simp; omega
      · split
        · have h3 := esc_le s (a + 1) (by omega)
          have h4 := ih (esc s (a + 1)).2 (by omega) h3.2
          simp; omega
        · have h4 := ih (a + 1) (by omega) (by omega)
          simp; omega
    · simp; omega

end Go.Nt.Lk

/-
  QUOTED TEXTS READ, walked: the program's reader.
  No condition.
-/
set_option linter.unusedSimpArgs false
namespace Go.Nt.Lk
open Go Go.Nt

/-- A heap with the reader's object. -/
def rdO (st : St) (R : Nat) (s : List UInt8) (a : Nat) (ok : Bool) (md : Nat) : St := List.set st R (.cells true 3 0 md false [.agg [.str s, .int .i64 a, .bool ok]])
theorem rdO_len (st : St) (R : Nat) (s : List UInt8) (a : Nat) (ok : Bool) (md : Nat) : (rdO st R s a ok md).length = st.length := by simp [rdO]
theorem rdO_at {st : St} {R : Nat} (h : R < st.length) (s : List UInt8) (a : Nat) (ok : Bool) (md : Nat) : St.at (rdO st R s a ok md) R = .cells true 3 0 md false [.agg [.str s, .int .i64 a, .bool ok]] := by
  unfold rdO; rw [at_set _ _ _ _ h, if_pos rfl]
theorem rdO_set (st : St) (R : Nat) (s : List UInt8) (a : Nat) (ok : Bool) (md : Nat) (o : Ob) : List.set (rdO st R s a ok md) R o = List.set st R o := by simp [rdO]
theorem rdO_app {st : St} {R : Nat} (h : R < st.length) (g : St) (s : List UInt8) (a : Nat) (ok : Bool) (md : Nat) : rdO (st ++ g) R s a ok md = rdO st R s a ok md ++ g := set_lt _ _ h _

theorem rdO_fold (st : St) (R : Nat) (s : List UInt8) (a : Nat) (ok : Bool) (md : Nat) : List.set st R (.cells true 3 0 md false [.agg [.str s, .int .i64 a, .bool ok]]) = rdO st R s a ok md := (rfl)

def wordB (c : UInt8) : Bool := decide (97 ≤ ch c) && decide (ch c ≤ 122)

theorem l91 {st : St} {R : Nat} (hR : R < st.length) (s : List UInt8) (hs : s.length ≤ 100000000) (ok : Bool) : ∀ (r a md : Nat) (sl : List D) (bx : List (Nat × List D)), r = s.length - a → a ≤ s.length → get sl 0 = .hp R 0 3 0 0 →
    Stops (lp T L91_0 ⟨⟨sl, bx⟩, rdO st R s a ok md⟩) fun e _ _ st' => e = .exit 0 ∧ ∃ md', st' = rdO st R s (runEnd wordB s a) ok md' := by
  intro r
  induction r with
  | zero =>
    intro a md sl bx hr ha h0
    have e : a = s.length := by omega
    subst e
    refine Stops_wp L91_0.eq_1 ?_
    simp [h0, rdO_at hR, runEnd_end]
    exact ⟨_, rfl⟩
  | succ r ih =>
    intro a md sl bx hr ha h0
    have hlt : a < s.length := by omega
    have w1 := wrap1 (a := a) (by omega)
    refine Stops_wp L91_0.eq_1 ?_
    simp +contextual [h0, rdO_at hR, rdO_set, hlt, w1, byteD, kHs, -Int.natCast_add]
    refine ⟨fun h1 => ⟨fun h2 => ?_, fun h2 => ?_⟩, fun h1 => ?_⟩
    · rw [runEnd_go hlt (by simp [wordB, ch, h1, h2])]
      exact ih (a + 1) (md + 1) _ bx (by omega) (by omega) (by simp [h0])
    · rw [runEnd_stop hlt (by simp [wordB, ch]; omega)]; exact ⟨_, rfl⟩
    · rw [runEnd_stop hlt (by simp [wordB, ch]; omega)]; exact ⟨_, rfl⟩

theorem c91 {st : St} {R : Nat} (hR : R < st.length) (s : List UInt8) (hs : s.length ≤ 100000000) (ok : Bool) (a md : Nat) (ha : a ≤ s.length) :
    ∃ md', callD T (ev T) 91 [.hp R 0 3 0 0] (rdO st R s a ok md) = some (.str (seg s a (runEnd wordB s a)), rdO st R s (runEnd wordB s a) ok md') := by
  suffices h : Ret (ev T 91 [.hp R 0 3 0 0] (rdO st R s a ok md)) fun r st' => ∃ md', r = .str (seg s a (runEnd wordB s a)) ∧ st' = rdO st R s (runEnd wordB s a) ok md' by
    obtain ⟨r, st', h1, md', rfl, rfl⟩ := h
    exact ⟨md', by rw [callD_rawE (fn := F91) rfl rfl (by simp)]; exact h1⟩
  refine Ret_wp (fn := F91) rfl ?_
  rw [F91]
  simp [rdO_at hR]
  refine WL.use L91_0_p L91_0_w (l91 hR s hs ok _ a md _ _ rfl ha (by simp)) ?_
  rintro e s' b st' ⟨rfl, md', rfl⟩ hf
  have h0 : get s' 0 = .hp R 0 3 0 0 := by rw [hf 0 rfl]; simp
  have h3 : get s' 3 = .int .i64 a := by rw [hf 3 rfl]; simp
  have q := str_slice s .i64 .i64 a (runEnd wordB s a) (le_runEnd _ _ _) (runEnd_le _ _ ha)
  simp [h0, h3, rdO_at hR, q]
  exact ⟨_, rfl⟩

/-! ### A digit of sixteen -/

theorem c160 (s : List UInt8) (n : Int) (c : UInt8) (h : n = ch c) (st : St) : callD T (ev T) 160 [.str s, .int .u8 n] st = some (.int .i64 (findB c s 0), st) := by
  subst h
  have hc := c.toNat_lt
  rw [callD_rawE (fn := F160) rfl rfl (by simp), ev_eq 160 F160 rfl, F160]
  have h1 : (0 : Int) ≤ ch c ∧ ch c < 256 := ⟨by simp only [ch]; omega, by simp only [ch]; omega⟩
  simp [primD, h1]

theorem findB_lt (c : UInt8) : ∀ (l : List UInt8) (i : Nat), findB c l i = -1 ∨ ((i : Int) ≤ findB c l i ∧ findB c l i < i + l.length)
  | [], i => .inl rfl
  | x :: l, i => by
    unfold findB
    split
    · right; simp; omega
    · rcases findB_lt c l (i + 1) with h | h
      · exact .inl h
      · right; simp at h ⊢; omega

theorem hv_lt (c : UInt8) : hv c < 16 ∧ (hv c : Int) = max 0 (findB c hexL 0) := by
  have h : hexL.length = 16 := rfl
  unfold hv
  rcases findB_lt c hexL 0 with h1 | h1
  · rw [h1]; decide
  · rw [h] at h1; omega

theorem hex1_val (s : List UInt8) (x : Nat × Nat) (h : x.1 < 16) : (hex1 s x).1 < 256 := by
  unfold hex1
  split
  · have := (hv_lt s[x.2]).1
    simp only; omega
  · omega
theorem hex1_val0 (s : List UInt8) (a : Nat) : (hex1 s (0, a)).1 < 16 := by
  unfold hex1
  split
  · have := (hv_lt s[a]).1
    simp only; omega
  · simp

/-- One digit of two. -/
theorem l150 {st : St} {R : Nat} (hR : R < st.length) (s : List UInt8) (hs : s.length ≤ 100000000) (ok : Bool) (i : Nat) (hi : i < 2) (v a md : Nat) (hv' : v < 256) (ha : a ≤ s.length) (sl : List D) (bx : List (Nat × List D)) (h0 : get sl 0 = .hp R 0 3 0 0) (h4 : get sl 4 = .int .i64 v) (h36 : get sl 36 = .int .i64 i)
    {Q : Ex → List D → List (Nat × List D) → St → Prop} (k : ∀ sl' bx' md', get sl' 0 = .hp R 0 3 0 0 → get sl' 4 = .int .i64 (hex1 s (v, a)).1 → get sl' 36 = .int .i64 ((i + 1 : Nat) : Int) → Stops (lp T L150_0 ⟨⟨sl', bx'⟩, rdO st R s (hex1 s (v, a)).2 ok md'⟩) Q) :
    Stops (lp T L150_0 ⟨⟨sl, bx⟩, rdO st R s a ok md⟩) Q := by
  refine Stops_wp L150_0.eq_1 ?_
  have w1 := wrap1 (a := a) (by omega)
  have w2 := wrap1 (a := i) (by omega)
  have hi' : (i : Int) < 2 := by omega
  by_cases hlt : a < s.length
  · obtain ⟨g1, g2⟩ := hv_lt s[a]
    have q : ∀ (st : St) (n : Int), n = ch s[a] → callD T (ev T) 160 [.str hexL, .int .u8 n] st = some (.int .i64 (findB s[a] hexL 0), st) := fun st n hn => c160 hexL n s[a] hn st
    have e1 : hex1 s (v, a) = (v * 16 + hv s[a], a + 1) := by unfold hex1; rw [dif_pos hlt]
    rw [e1] at k
    have w3 : IntKind.wrap .i64 ((v : Int) * 16) = (v : Int) * 16 := by rw [wrap64] <;> omega
    have w4 : IntKind.wrap .i64 ((v : Int) * 16 + (hv s[a] : Int)) = ((v * 16 + hv s[a] : Nat) : Int) := by rw [wrap64] <;> omega
    have hl : hexL = [48, 49, 50, 51, 52, 53, 54, 55, 56, 57, 97, 98, 99, 100, 101, 102] := rfl
    have mx : kMM true (.int .i64 0) (.int .i64 (findB s[a] hexL 0)) = some (.int .i64 (hv s[a]), none, none) := by
      rw [g2]; simp only [kMM_i, if_true, gt_iff_lt]
      simp only [val]
      congr 3
      split <;> omega
    rw [hl] at q mx
    simp [h0, h4, h36, rdO_at hR, rdO_set, hlt, w1, w2, w3, w4, hi', byteD, kHs, q, mx, -Int.natCast_add, -Int.natCast_mul, -kMM_i]
    exact k _ _ (md + 1) (by simp [h0]) (by simp) (by simp)
  · have e1 : hex1 s (v, a) = (v, a) := by unfold hex1; rw [dif_neg hlt]
    rw [e1] at k
    have e2 : a = s.length := by omega
    subst e2
    simp [h0, h4, h36, rdO_at hR, rdO_set, w1, w2, hi', byteD, kHs, -Int.natCast_add]
    exact k _ _ md (by simp [h0]) (by simp [h4]) (by simp)

theorem l150e {st : St} {R : Nat} (hR : R < st.length) (s : List UInt8) (ok : Bool) (a md v : Nat) (sl : List D) (bx : List (Nat × List D)) (h4 : get sl 4 = .int .i64 v) (h36 : get sl 36 = .int .i64 2) :
    Stops (lp T L150_0 ⟨⟨sl, bx⟩, rdO st R s a ok md⟩) fun e s' _ st' => e = .exit 1 ∧ get s' 4 = .int .i64 v ∧ ∃ md', st' = rdO st R s a ok md' := by
  refine Stops_wp L150_0.eq_1 ?_
  simp [h4, h36]
  exact ⟨_, rfl⟩

theorem c150 {st : St} {R : Nat} (hR : R < st.length) (s : List UInt8) (hs : s.length ≤ 100000000) (ok : Bool) (a md : Nat) (ha : a ≤ s.length) :
    ∃ md', callD T (ev T) 150 [.hp R 0 3 0 0] (rdO st R s a ok md) = some (.int .u8 (ch (esc s a).1), rdO st R s (esc s a).2 ok md') := by
  suffices h : Ret (ev T 150 [.hp R 0 3 0 0] (rdO st R s a ok md)) fun r st' => ∃ md', r = .int .u8 (ch (esc s a).1) ∧ st' = rdO st R s (esc s a).2 ok md' by
    obtain ⟨r, st', h1, md', rfl, rfl⟩ := h
    exact ⟨md', by rw [callD_rawE (fn := F150) rfl rfl (by simp)]; exact h1⟩
  refine Ret_wp (fn := F150) rfl ?_
  have w1 := wrap1 (a := a) (by omega)
  rw [F150]
  by_cases hlt : a < s.length
  · have hng : ¬ (s.length ≤ a) := by omega
    unfold esc
    rw [dif_pos hlt]
    have h10 : ch 10 = 10 := by decide
    generalize hn : ch s[a] = n
    have hn' : (s[a].toNat : Int) = n := hn
    simp +contextual [rdO_at hR, rdO_set, hlt, hng, w1, byteD, kHs, hn', -Int.natCast_add]
    refine ⟨fun _ => ⟨h10.symm, _, rfl⟩, fun _ => ⟨fun _ => ?_, fun _ => ⟨_, rfl⟩⟩⟩
    have b1 := hex1_le s (0, a + 1) (by simp; omega)
    have b2 := hex1_le s (hex1 s (0, a + 1)) b1.2
    have v1 := hex1_val0 s (a + 1)
    have v2 := hex1_val s (hex1 s (0, a + 1)) v1
    refine WL.use L150_0_p L150_0_w (Q := fun e s' _ st' => e = .exit 1 ∧ get s' 4 = .int .i64 (hex1 s (hex1 s (0, a + 1))).1 ∧ ∃ md', st' = rdO st R s (hex1 s (hex1 s (0, a + 1))).2 ok md') ?_ ?_
    · refine l150 hR s hs ok 0 (by omega) 0 (a + 1) (md + 1) (by omega) (by omega) _ _ (by simp) (by simp) (by simp) fun sl1 bx1 md1 k0 k4 k36 => ?_
      refine l150 hR s hs ok 1 (by omega) _ _ md1 (by omega) b1.2 _ _ k0 k4 k36 fun sl2 bx2 md2 j0 j4 j36 => ?_
      exact l150e hR s ok _ md2 _ _ _ j4 j36
    · rintro e s' b st' ⟨rfl, h4, md', rfl⟩ hf
      have w8 : IntKind.wrap .u8 ((hex1 s (hex1 s (0, a + 1))).1 : Int) = (hex1 s (hex1 s (0, a + 1))).1 := wrap8 (by omega) (by omega)
      have hc : ch (UInt8.ofNat (hex1 s (hex1 s (0, a + 1))).1) = (hex1 s (hex1 s (0, a + 1))).1 := by
        simp only [ch, UInt8.toNat_ofNat']; omega
      simp [h4, w8, hc]
      exact ⟨_, rfl⟩
  · have e2 : a = s.length := by omega
    subst e2
    have e1 : esc s s.length = (0, s.length) := by unfold esc; rw [dif_neg (by omega)]
    have h00 : ch 0 = 0 := by decide
    simp [rdO_at hR, e1, h00]
    exact ⟨_, rfl⟩

end Go.Nt.Lk

/-
  QUOTED TEXTS READ, walked (2): the program's quoted and text.
  No condition.
-/
set_option linter.unusedSimpArgs false
namespace Go.Nt.Lk
open Go Go.Nt

/-- Bytes that grow behind a heap. -/
def grB (st : St) : List UInt8 → D × St
  | [] => (.nils, st)
  | c :: r => (.rs st.length (6 * tagB + r.length) 1 0 (r.length + 1) false, st ++ [.cells false 1 (6 * tagB + r.length) r.length false ((c :: r).map byteD)])
theorem grB_lt {st : St} {R : Nat} (h : R < st.length) (out : List UInt8) : R < (grB st out).2.length := by cases out <;> simp [grB]; exact h; omega
@[simp] theorem grB_cells (st : St) (out : List UInt8) : (grB st out).1.cells = [(grB st out).1] := by cases out <;> rfl
@[simp] theorem grB_okv (st : St) (out : List UInt8) : (grB st out).1.okv = true := by cases out <;> rfl
theorem grB_ext (st : St) (out : List UInt8) : ∃ g, (grB st out).2 = st ++ g := by
  cases out with
  | nil => exact ⟨[], by simp [grB]⟩
  | cons c r => exact ⟨_, rfl⟩

theorem grow_B {st : St} {R : Nat} (h : R < st.length) (out : List UInt8) (ho : out.length ≤ 60000000) (c : UInt8) (n : Int) (hn : n = ch c) (s : List UInt8) (a : Nat) (ok : Bool) (md : Nat) :
    appendTD 5 (rdO (grB st out).2 R s a ok md) (grB st out).1 [.int .u8 n] 1 = some ((grB st (out ++ [c])).1, rdO (grB st (out ++ [c])).2 R s a ok md) := by
  subst hn
  have hT : 100000000000 < tagB := by unfold tagB; omega
  cases out with
  | nil =>
    simp only [grB, List.nil_append, rdO_app h]
    simp [appendTD, most, rdO_len, byteD]
  | cons x r =>
    simp only [List.length_cons] at ho
    simp only [grB, List.cons_append, rdO_app h]
    have t1 := tag6 r.length (by omega)
    have t2 := tag6 (r.length + 1) (by omega)
    have e : St.at (rdO st R s a ok md ++ [.cells false 1 (6 * tagB + r.length) r.length false ((x :: r).map byteD)]) st.length = .cells false 1 (6 * tagB + r.length) r.length false ((x :: r).map byteD) := by
      rw [← rdO_len st R s a ok md]; exact at_last _ _
    have e2 : ∀ o, List.set (rdO st R s a ok md ++ [.cells false 1 (6 * tagB + r.length) r.length false ((x :: r).map byteD)]) st.length o = rdO st R s a ok md ++ [o] := fun o => by
      rw [← rdO_len st R s a ok md, set_app0]; rfl
    have m1 : ¬ most < 1 := by unfold most; omega
    have m2 : r.length + 1 ≤ most := by unfold most; omega
    have t3 : tagOf (6 * tagB + r.length + 1) = 6 := t2
    have hl : ((x :: r).map byteD).length = r.length + 1 := by simp
    have hf : (x :: (r ++ [c])).map byteD = (x :: r).map byteD ++ [.int .u8 (ch c)] := by simp [byteD]
    rw [hf]
    generalize (x :: r).map byteD = bs at *
    have hl2 : bs.take (r.length + 1) = bs := List.take_of_length_le (by omega)
    unfold appendTD
    simp [e, e2, m1, m2, t1, t2, t3, hl, hl2, Nat.add_assoc]

theorem list_B {st : St} {R : Nat} (h : R < st.length) (out : List UInt8) (s : List UInt8) (a : Nat) (ok : Bool) (md : Nat) : listD (rdO (grB st out).2 R s a ok md) 1 (grB st out).1 = some (out.map byteD) := by
  cases out with
  | nil => rfl
  | cons x r =>
    simp only [grB, rdO_app h]
    have e : St.at (rdO st R s a ok md ++ [.cells false 1 (6 * tagB + r.length) r.length false ((x :: r).map byteD)]) st.length = .cells false 1 (6 * tagB + r.length) r.length false ((x :: r).map byteD) := by
      rw [← rdO_len st R s a ok md]; exact at_last _ _
    have hl : ((x :: r).map byteD).length = r.length + 1 := by simp
    generalize (x :: r).map byteD = bs at *
    have hl2 : bs.take (r.length + 1) = bs := List.take_of_length_le (by omega)
    simp [listD, e, hl, hl2]

theorem l134 {st : St} {R : Nat} (hR : R < st.length) (s : List UInt8) (hs : s.length ≤ 50000000) (ok : Bool) : ∀ (n a md : Nat) (out : List UInt8) (sl : List D) (bx : List (Nat × List D)), s.length - a ≤ n → a ≤ s.length → out.length ≤ a → get sl 0 = .hp R 0 3 0 0 → get sl 4 = (grB st out).1 →
    Stops (lp T L134_0 ⟨⟨sl, bx⟩, rdO (grB st out).2 R s a ok md⟩) fun e s' _ st' => e = .exit 0 ∧ get s' 4 = (grB st (out ++ (unqP s a).1)).1 ∧ ∃ md', st' = rdO (grB st (out ++ (unqP s a).1)).2 R s (unqP s a).2 ok md' := by
  intro n
  induction n with
  | zero =>
    intro a md out sl bx hr ha ho h0 h4
    have e : a = s.length := by omega
    subst e
    have hB := grB_lt hR out
    have e1 : unqP s s.length = ([], s.length) := by rw [unqP, dif_neg (by omega)]
    refine Stops_wp L134_0.eq_1 ?_
    simp [h0, h4, rdO_at hB, e1]
    exact ⟨_, rfl⟩
  | succ n ih =>
    intro a md out sl bx hr ha ho h0 h4
    by_cases hlt : a < s.length
    · have hB := grB_lt hR out
      have w1 := wrap1 (a := a) (by omega)
      refine Stops_wp L134_0.eq_1 ?_
      rw [unqP, dif_pos hlt]
      obtain ⟨md1, q⟩ := c150 (R := R) (st := (grB st out).2) hB s (by omega) ok (a + 1) (md + 1) (by omega)
      have hesc := esc_le s (a + 1) (by omega)
      have g1 := grow_B hR out (by omega) (esc s (a + 1)).1 _ rfl s (esc s (a + 1)).2 ok md1
      have g2 := grow_B hR out (by omega) s[a] _ rfl s (a + 1) ok (md + 1)
      have nx1 := fun sl' => ih (esc s (a + 1)).2 md1 (out ++ [(esc s (a + 1)).1]) sl' bx (by omega) hesc.2 (by simp; omega)
      have nx2 := fun sl' => ih (a + 1) (md + 1) (out ++ [s[a]]) sl' bx (by omega) (by omega) (by simp; omega)
      simp only [List.append_assoc, List.cons_append, List.nil_append] at nx1 nx2
      generalize hn : ch s[a] = n at *
      have hn' : (s[a].toNat : Int) = n := hn
      have g2' : ∀ m, m = n → appendTD 5 (rdO (grB st out).2 R s (a + 1) ok (md + 1)) (grB st out).1 [.int .u8 m] 1 = some ((grB st (out ++ [s[a]])).1, rdO (grB st (out ++ [s[a]])).2 R s (a + 1) ok (md + 1)) := fun m h => by rw [h]; exact g2
      have fold : List.set (grB st out).2 R (.cells true 3 0 (md + 1) false [.agg [.str s, .int .i64 ((a + 1 : Nat) : Int), .bool ok]]) = rdO (grB st out).2 R s (a + 1) ok (md + 1) := rfl
      generalize (esc s (a + 1)).1 = ec at *
      generalize (esc s (a + 1)).2 = ea at *
      simp +contextual [h0, h4, rdO_at hB, rdO_set, hlt, w1, byteD, kHs, hn', fold, q, g1, g2', -Int.natCast_add]
      refine ⟨fun _ => ⟨fun _ => ?_, fun _ => ?_⟩, fun _ => ⟨_, rfl⟩⟩
      · exact nx1 _ (by simp [h0]) (by simp)
      · exact nx2 _ (by simp [h0]) (by simp)
    · exact ih a md out sl bx (by omega) ha ho h0 h4

theorem callQ_pure {f : Nat} {fn : IFunc} (hT : T f = some fn) (hm : fn.mode = .pure) {args : List D} {q : D} (hargs : args.all D.pure = true) (hp : pureArgs [] args = some (args, [])) (h : callD T (ev T) f args [] = some (q, [])) : callQD T (ev T) f args = some q := by
  simp only [callD, callQD, hT, hm, hp, hargs, if_true, Option.bind_some] at h ⊢
  cases h1 : ev T f args [] with
  | none => rw [h1] at h; cases h
  | some r =>
    rw [h1] at h
    simp only [Option.bind_some] at h ⊢
    cases h2 : fz r.2 r.1 with
    | none => rw [h2] at h; cases h
    | some p =>
      rw [h2] at h
      simp only [Option.bind_some] at h ⊢
      split at h
      · simp only [Option.some.injEq, Prod.mk.injEq] at h
        rename_i hq
        rw [if_pos hq, h.1]
      · cases h

/-- What the program's quoted leaves: the text, the place, whether it goes on. -/
def quoR (s : List UInt8) (a : Nat) (ok : Bool) : List UInt8 × Nat × Bool :=
  match quoted s a with
  | some (t, b) => (t, b, ok)
  | none => ((unqP s (a + 1)).1, s.length, false)

theorem unbytes_map (l : List UInt8) : (l.map byteD).mapM unbyte = some l := unbyte_map l

theorem c134 {st : St} {R : Nat} (hR : R < st.length) (s : List UInt8) (hs : s.length ≤ 30000000) (ok : Bool) (a md : Nat) (ha : a < s.length) :
    ∃ g md', callD T (ev T) 134 [.hp R 0 3 0 0] (rdO st R s a ok md) = some (.str (quoR s a ok).1, rdO (st ++ g) R s (quoR s a ok).2.1 (quoR s a ok).2.2 md') := by
  suffices h : Ret (ev T 134 [.hp R 0 3 0 0] (rdO st R s a ok md)) fun r st' => ∃ g md', r = .str (quoR s a ok).1 ∧ st' = rdO (st ++ g) R s (quoR s a ok).2.1 (quoR s a ok).2.2 md' by
    obtain ⟨r, st', h1, g, md', rfl, rfl⟩ := h
    exact ⟨g, md', by rw [callD_rawE (fn := F134) rfl rfl (by simp)]; exact h1⟩
  refine Ret_wp (fn := F134) rfl ?_
  have w1 := wrap1 (a := a) (by omega)
  have hU := unqP_le s s.length (a + 1) (by omega) (by omega)
  have fold : List.set st R (.cells true 3 0 (md + 1) false [.agg [.str s, .int .i64 ((a + 1 : Nat) : Int), .bool ok]]) = rdO (grB st []).2 R s (a + 1) ok (md + 1) := rfl
  rw [F134]
  simp [rdO_at hR, rdO_set, w1, kHs, fold, -Int.natCast_add]
  refine WL.use L134_0_p L134_0_w (l134 hR s (by omega) ok s.length (a + 1) (md + 1) [] _ _ (by omega) (by omega) (by simp) (by simp) (by simp [grB])) ?_
  rintro e s' b st' ⟨rfl, h4, md', rfl⟩ hf
  have h0 : get s' 0 = .hp R 0 3 0 0 := by rw [hf 0 rfl]; simp
  have h3 : get s' 3 = .int .i64 a := by rw [hf 3 rfl]; simp
  obtain ⟨g, hg⟩ := grB_ext st ([] ++ (unqP s (a + 1)).1)
  have hB := grB_lt hR ([] ++ (unqP s (a + 1)).1)
  have hL := list_B hR ([] ++ (unqP s (a + 1)).1)
  unfold quoR quoted
  simp only [List.nil_append] at h4 hg hB hL ⊢
  generalize (unqP s (a + 1)).2 = z at *
  generalize (unqP s (a + 1)).1 = out at *
  rw [hg] at hB hL ⊢
  have w2 := wrap1 (a := z) (by omega)
  have hm := unbytes_map out
  have q := callQ_pure (fn := F27) rfl rfl (by simp) (by simp) (c27 out (by omega) [])
  by_cases hz : z + 1 ≤ s.length
  · have q2 := str_slice s .i64 .i64 a (z + 1) (by omega) hz
    by_cases hq : quo out = seg s a (z + 1)
    · rw [if_pos ⟨hz, hq⟩]
      simp [h0, h3, h4, rdO_at hB, rdO_set, rdO_fold, w2, kHs, hz, q, q2, hq, hL, hm, -Int.natCast_add]
      exact ⟨g, _, rfl⟩
    · rw [if_neg (fun h => hq h.2)]
      simp [h0, h3, h4, rdO_at hB, rdO_set, rdO_fold, w2, kHs, hz, q, q2, hq, hL, hm, -Int.natCast_add]
      exact ⟨g, _, rfl⟩
  · rw [if_neg (fun h => hz h.1)]
    have hz' : s.length < z + 1 := by omega
    simp [h0, h3, h4, rdO_at hB, rdO_set, rdO_fold, w2, kHs, hz', q, hL, hm, -Int.natCast_add]
    exact ⟨g, _, rfl⟩

/-- What text leaves. -/
def txtR (s : List UInt8) (a : Nat) (ok : Bool) : List UInt8 × Nat × Bool :=
  if h : a < s.length then (if ch s[a] = 34 then quoR s a ok else ([], a, false)) else ([], a, false)

theorem c93 {st : St} {R : Nat} (hR : R < st.length) (s : List UInt8) (hs : s.length ≤ 30000000) (ok : Bool) (a md : Nat) (ha : a ≤ s.length) :
    ∃ g md', callD T (ev T) 93 [.hp R 0 3 0 0] (rdO st R s a ok md) = some (.str (txtR s a ok).1, rdO (st ++ g) R s (txtR s a ok).2.1 (txtR s a ok).2.2 md') := by
  suffices h : Ret (ev T 93 [.hp R 0 3 0 0] (rdO st R s a ok md)) fun r st' => ∃ g md', r = .str (txtR s a ok).1 ∧ st' = rdO (st ++ g) R s (txtR s a ok).2.1 (txtR s a ok).2.2 md' by
    obtain ⟨r, st', h1, g, md', rfl, rfl⟩ := h
    exact ⟨g, md', by rw [callD_rawE (fn := F93) rfl rfl (by simp)]; exact h1⟩
  refine Ret_wp (fn := F93) rfl ?_
  unfold txtR
  rw [F93]
  by_cases hlt : a < s.length
  · obtain ⟨g, md', q⟩ := c134 hR s hs ok a md hlt
    have hng : ¬ s.length ≤ a := by omega
    rw [dif_pos hlt]
    generalize hn : ch s[a] = n at *
    have hn' : (s[a].toNat : Int) = n := hn
    by_cases hq : n = 34
    · simp [rdO_at hR, rdO_set, rdO_fold, hlt, hng, byteD, hn', hq, kHs, q]
      exact ⟨g, _, rfl⟩
    · simp [rdO_at hR, rdO_set, rdO_fold, hlt, hng, byteD, hn', hq, kHs, q]
      exact ⟨[], _, by simp; rfl⟩
  · have e2 : a = s.length := by omega
    subst e2
    rw [dif_neg hlt]
    simp [rdO_at hR, rdO_set, rdO_fold, kHs]
    exact ⟨[], _, by simp; rfl⟩

end Go.Nt.Lk

/-
  NUMBERS' TEXTS: plainly; the program's Digits and the reference's, walked.
  No condition.
-/
set_option linter.unusedSimpArgs false
namespace Go.Nt.Lk
open Go Go.Nt

def d10 (u : Nat) : UInt8 := UInt8.ofNat (48 + u % 10)
/-- A number's digits. -/
def dig (u : Nat) : List UInt8 := if u < 10 then [d10 u] else dig (u / 10) ++ [d10 u]
theorem dig_eq (u : Nat) : dig u = if u / 10 = 0 then [d10 u] else dig (u / 10) ++ [d10 u] := by
  rw [dig]
  by_cases h : u < 10
  · rw [if_pos h, if_pos (by omega)]
  · rw [if_neg h, if_neg (by omega)]
/-- A number's text. -/
def sdig (n : Int) : List UInt8 := if n < 0 then 45 :: dig (-n).toNat else dig n.toNat

theorem dig_len : ∀ (k u : Nat), u < 10 ^ (k + 1) → (dig u).length ≤ k + 1
  | 0, u, h => by rw [dig, if_pos (by omega)]; simp
  | k + 1, u, h => by
    rw [dig]
    split
    · simp
    · have := dig_len k (u / 10) (by rw [Nat.pow_succ] at h; omega)
      rw [List.length_append]; simp; omega

theorem ch_d10 (u : Nat) : ch (d10 u) = 48 + ((u % 10 : Nat) : Int) := by
  simp only [ch, d10, UInt8.toNat_ofNat']; omega

def z8 : D := .int .u8 0
/-- The heap of Digits: an array, of which the last cells are written. -/
def dgH (i md : Nat) (suf : List UInt8) : St := [.cells true 20 0 md false [.agg (List.replicate i z8 ++ suf.map byteD)]]

theorem splice_rep (j : Nat) (R : List D) (v : D) : splice (List.replicate (j + 1) z8 ++ R) j [v] = some (List.replicate j z8 ++ v :: R) := by
  have e : List.replicate (j + 1) z8 ++ R = List.replicate j z8 ++ ([z8] ++ R) := by rw [List.replicate_succ', List.append_assoc]
  have e1 : (List.replicate j z8 ++ ([z8] ++ R)).take j = List.replicate j z8 := by rw [List.take_append_of_le_length (by simp), List.take_of_length_le (by simp)]
  have e2 : (List.replicate j z8 ++ ([z8] ++ R)).drop (j + 1) = R := by
    rw [← List.append_assoc, List.drop_append_of_le_length (by simp), List.drop_of_length_le (by simp)]; rfl
  rw [e]
  unfold splice
  rw [if_pos (by simp only [List.length_append, List.length_replicate, List.length_cons, List.length_nil]; omega)]
  rw [e1, show j + [v].length = j + 1 from rfl, e2]
  simp

theorem wrapu64 {n : Int} (h : 0 ≤ n) (h' : n < 18446744073709551616) : IntKind.wrap .u64 n = n := by
  simp [IntKind.wrap, IntKind.signed, IntKind.bits]; omega

theorem l135s (u j md : Nat) (suf : List UInt8) (sl : List D) (bx : List (Nat × List D)) (hu2 : u < 18446744073709551616) (hj : j < 20) (h3 : get sl 3 = .hp 0 0 20 0 0) (h4 : get sl 4 = .int .i64 ((j + 1 : Nat) : Int)) (h5 : get sl 5 = .int .u64 u)
    {Q : Ex → List D → List (Nat × List D) → St → Prop} (h : u / 10 = 0 → ∀ s', get s' 4 = .int .i64 j → Q (.exit 0) s' bx (dgH j (md + 1) (d10 u :: suf)))
    (k : ¬ u / 10 = 0 → ∀ s', get s' 3 = .hp 0 0 20 0 0 → get s' 4 = .int .i64 j → get s' 5 = .int .u64 ((u / 10 : Nat) : Int) → Stops (lp T L135_0 ⟨⟨s', bx⟩, dgH j (md + 1) (d10 u :: suf)⟩) Q) :
    Stops (lp T L135_0 ⟨⟨sl, bx⟩, dgH (j + 1) md suf⟩) Q := by
  have w1 : IntKind.wrap .i64 (((j + 1 : Nat) : Int) - 1) = (j : Int) := by rw [wrap64] <;> omega
  have r1 : Int.tmod (u : Int) 10 = ((u % 10 : Nat) : Int) := by rw [Int.tmod_eq_emod_of_nonneg (by omega)]; omega
  have r2 : IntKind.wrap .u64 (48 + ((u % 10 : Nat) : Int)) = 48 + ((u % 10 : Nat) : Int) := wrapu64 (by omega) (by omega)
  have r3 : IntKind.wrap .u8 (48 + ((u % 10 : Nat) : Int)) = ch (d10 u) := by rw [wrap8 (by omega) (by omega), ch_d10]
  have r4 : IntKind.wrap .u64 (Int.tdiv (u : Int) 10) = ((u / 10 : Nat) : Int) := by
    have : Int.tdiv (u : Int) 10 = ((u / 10 : Nat) : Int) := by rw [Int.tdiv_eq_ediv_of_nonneg (by omega)]; omega
    rw [this, wrapu64 (by omega) (by omega)]
  have sp := splice_rep j (suf.map byteD) (.int .u8 (ch (d10 u)))
  have b1 : binD .rem (.int .u64 (u : Int)) (.int .u64 10) = some (.int .u64 ((u % 10 : Nat) : Int)) := by simp only [binD_int, intD_rem, r1]; rfl
  have b2 : binD .quo (.int .u64 (u : Int)) (.int .u64 10) = some (.int .u64 ((u / 10 : Nat) : Int)) := by simp only [binD_int, intD_quo, r4]; rfl
  refine Stops_wp L135_0.eq_1 ?_
  generalize u % 10 = m at *
  generalize u / 10 = q at *
  generalize d10 u = x at *
  unfold dgH at h k ⊢
  simp +contextual [h3, h4, h5, w1, b1, b2, r2, r3, hj, idxAD, kHs, sp, -Int.natCast_add, -splice_]
  refine ⟨fun hq => h hq _ (by simp), fun hq => k hq _ (by simp [h3]) (by simp) (by simp)⟩

theorem dig_pos (u : Nat) : 0 < (dig u).length := by rw [dig]; split <;> simp

theorem l135 : ∀ (n u i md : Nat) (suf : List UInt8) (sl : List D) (bx : List (Nat × List D)), u ≤ n → u < 18446744073709551616 → (dig u).length ≤ i → i + suf.length = 20 → get sl 3 = .hp 0 0 20 0 0 → get sl 4 = .int .i64 i → get sl 5 = .int .u64 u →
    Stops (lp T L135_0 ⟨⟨sl, bx⟩, dgH i md suf⟩) fun e s' _ st' => e = .exit 0 ∧ get s' 4 = .int .i64 ((i - (dig u).length : Nat) : Int) ∧ ∃ md', st' = dgH (i - (dig u).length) md' (dig u ++ suf) := by
  intro n
  induction n using Nat.strongRecOn with
  | ind n ih =>
    intro u i md suf sl bx hu hu2 hd hi h3 h4 h5
    have hpos := dig_pos u
    obtain ⟨j, rfl⟩ : ∃ j, i = j + 1 := ⟨i - 1, by omega⟩
    refine l135s u j md suf sl bx hu2 (by omega) h3 h4 h5 (fun hq s' k4 => ?_) (fun hq s' k3 k4 k5 => ?_)
    · have e : dig u = [d10 u] := by rw [dig_eq, if_pos hq]
      rw [e]
      exact ⟨rfl, by simpa using k4, _, rfl⟩
    · have e : dig u = dig (u / 10) ++ [d10 u] := by rw [dig_eq, if_neg hq]
      rw [e] at hd ⊢
      simp only [List.length_append, List.length_cons, List.length_nil] at hd ⊢
      have := ih (u / 10) (by omega) (u / 10) j (md + 1) (d10 u :: suf) s' bx (Nat.le_refl _) (by omega) (by omega) (by simp; omega) k3 k4 k5
      rw [show j + 1 - ((dig (u / 10)).length + (0 + 1)) = j - (dig (u / 10)).length by omega]
      simpa using this

theorem sl_arr (i : Nat) (w : List UInt8) (hi : i + w.length = 20) : ((List.replicate i z8 ++ w.map byteD).drop i).take (20 - i) = w.map byteD := by
  rw [List.drop_append_of_le_length (by simp), List.drop_of_length_le (by simp), List.nil_append, List.take_of_length_le (by simp; omega)]

theorem wrapu_neg (n : Int) (h1 : -9223372036854775808 ≤ n) (hn : n < 0) : IntKind.wrap .u64 (0 - (n + 18446744073709551616)) = (((-n).toNat : Nat) : Int) := by
  have e : ((-n).toNat : Int) = -n := by omega
  rw [e]
  simp only [IntKind.wrap, IntKind.signed, IntKind.bits]
  simp
  omega

theorem byteD_p1 (l : List UInt8) : (l.map byteD).all D.pure1 = true := by
  simp only [List.all_map, List.all_eq_true]; intro x _; rfl
theorem dg_slice (i md : Nat) (w : List UInt8) (hi : i + w.length = 20) : ∃ st', kSlcA (dgH i md w) 20 (.hp 0 0 20 0 0) (some (.int .i64 i)) none = some (.sl 1 true (w.map byteD), none, some st') := by
  have h1 : (List.replicate i z8 ++ w.map byteD).length = 20 := by simp; omega
  have h2 : (List.replicate i z8 ++ w.map byteD).all D.pure1 = true := by
    rw [List.all_append, byteD_p1, Bool.and_true, List.all_eq_true]
    intro x hx
    rw [List.eq_of_mem_replicate hx]; rfl
  have h3 : (0 : Int) ≤ i ∧ (i : Int) ≤ 20 := by omega
  have h4 := sl_arr i w hi
  unfold kSlcA dgH
  generalize List.replicate i z8 ++ w.map byteD = cs at *
  have h5 : i ≤ 20 := by omega
  simp [h1, h2, h5, h4]

/-- The program's Digits. -/
theorem c135 (n : Int) (h1 : -9223372036854775808 ≤ n) (h2 : n ≤ 9223372036854775807) (st : St) : callD T (ev T) 135 [.int .i64 n] st = some (.str (sdig n), st) := by
  refine callD_pureQ (fn := F135) rfl rfl (by simp) (by simp) (by simp) (Ret_wp (fn := F135) rfl ?_)
  have hz : ([.cells true 20 0 0 false [.agg [.int .u8 0, .int .u8 0, .int .u8 0, .int .u8 0, .int .u8 0, .int .u8 0, .int .u8 0, .int .u8 0, .int .u8 0, .int .u8 0, .int .u8 0, .int .u8 0, .int .u8 0, .int .u8 0, .int .u8 0, .int .u8 0, .int .u8 0, .int .u8 0, .int .u8 0, .int .u8 0]]] : St) = dgH 20 0 [] := rfl
  rw [F135]
  by_cases hn : n < 0
  · have w1 : IntKind.wrap .u64 n = n + 18446744073709551616 := by simp [IntKind.wrap, IntKind.signed, IntKind.bits]; omega
    have w2 : IntKind.wrap .u64 (-(n + 18446744073709551616)) = (((-n).toNat : Nat) : Int) := by rw [← wrapu_neg n h1 hn, Int.zero_sub]
    have hu : (-n).toNat < 18446744073709551616 := by omega
    have hl : (dig (-n).toNat).length ≤ 19 := dig_len 18 _ (by omega)
    have es : sdig n = 45 :: dig (-n).toNat := by unfold sdig; rw [if_pos hn]
    rw [es]
    generalize (-n).toNat = u at *
    simp [hn, w1, w2, hz]
    refine WL.use L135_0_p L135_0_w (l135 _ u 20 0 [] _ _ (Nat.le_refl _) hu (by omega) (by simp) (by simp) (by simp) (by simp)) ?_
    rintro e s' b st' ⟨rfl, h4, md', rfl⟩ hf
    have h0 : get s' 0 = .int .i64 n := by rw [hf 0 rfl]; simp
    have k3 : get s' 3 = .hp 0 0 20 0 0 := by rw [hf 3 rfl]; simp
    obtain ⟨j, hj⟩ : ∃ j, 20 - (dig u).length = j + 1 := ⟨20 - (dig u).length - 1, by omega⟩
    rw [hj] at h4 ⊢
    rw [List.append_nil]
    have w3 : IntKind.wrap .i64 (((j + 1 : Nat) : Int) - 1) = (j : Int) := by rw [wrap64] <;> omega
    have sp := splice_rep j ((dig u).map byteD) (.int .u8 45)
    have hj2 : j < 20 := by omega
    have hb : (D.int .u8 45) :: (dig u).map byteD = (45 :: dig u).map byteD := rfl
    rw [hb] at sp
    have hlen : j + (45 :: dig u).length = 20 := by simp; omega
    generalize 45 :: dig u = W at *
    obtain ⟨st2, sa⟩ := dg_slice j (md' + 1) W hlen
    have ub := unbyte_map W
    unfold dgH at sa ⊢
    simp [h0, k3, h4, hn, w3, idxAD, kHs, sp, hj2, sa, ub, -splice_, -Int.natCast_add]
  · have w1 : IntKind.wrap .u64 n = n := wrapu64 (by omega) (by omega)
    have hl : (dig n.toNat).length ≤ 19 := dig_len 18 _ (by omega)
    have es : sdig n = dig n.toNat := by unfold sdig; rw [if_neg hn]
    rw [es]
    have hu : n.toNat < 18446744073709551616 := by omega
    have hun : n = (n.toNat : Int) := by omega
    generalize n.toNat = u at *
    simp [hn, w1, hz]
    refine WL.use L135_0_p L135_0_w (l135 _ u 20 0 [] _ _ (Nat.le_refl _) hu (by omega) (by simp) (by simp) (by simp) (by simp [hun])) ?_
    rintro e s' b st' ⟨rfl, h4, md', rfl⟩ hf
    have h0 : get s' 0 = .int .i64 n := by rw [hf 0 rfl]; simp
    have k3 : get s' 3 = .hp 0 0 20 0 0 := by rw [hf 3 rfl]; simp
    rw [List.append_nil]
    obtain ⟨st2, sa⟩ := dg_slice (20 - (dig u).length) md' (dig u) (by omega)
    have ub := unbyte_map (dig u)
    generalize 20 - (dig u).length = j at *
    simp [h0, k3, h4, hn, sa, ub, -Int.natCast_add]

theorem c98 (n : Int) (h1 : -9223372036854775808 ≤ n) (h2 : n ≤ 9223372036854775807) (st : St) : callD T (ev T) 98 [.int .i64 n] st = some (.str (sdig n), st) := by
  refine callD_pureQ (fn := F98) rfl rfl (by simp) (by simp) (by simp) (Ret_wp (fn := F98) rfl ?_)
  have q := c135 n h1 h2
  rw [F98]
  simp [q]

end Go.Nt.Lk

/-
  NUMBERS READ, walked; what stands behind a blank.
  No condition.
-/
set_option linter.unusedSimpArgs false
namespace Go.Nt.Lk
open Go Go.Nt

def nuS (u : Int) (c : UInt8) : Int := IntKind.wrap .u64 (IntKind.wrap .u64 (u * 10) + (ch c - 48))
def numU (s : List UInt8) (a : Nat) (u : Int) : Int := ((s.drop a).takeWhile digitB).foldl nuS u
theorem numU_go {s : List UInt8} {a : Nat} {u : Int} (h : a < s.length) (hd : digitB s[a] = true) : numU s a u = numU s (a + 1) (nuS u s[a]) := by
  unfold numU
  rw [List.drop_eq_getElem_cons h, List.takeWhile_cons_of_pos hd]; rfl
theorem numU_stop {s : List UInt8} {a : Nat} {u : Int} (h : a < s.length) (hd : digitB s[a] = false) : numU s a u = u := by
  unfold numU
  rw [List.drop_eq_getElem_cons h, List.takeWhile_cons_of_neg (by simp [hd])]; rfl
theorem numU_end {s : List UInt8} {a : Nat} {u : Int} (h : s.length ≤ a) : numU s a u = u := by
  unfold numU
  rw [List.drop_eq_nil_of_le h]; rfl

theorem l96 {st : St} {R : Nat} (hR : R < st.length) (s : List UInt8) (hs : s.length ≤ 100000000) (ok : Bool) : ∀ (r a md : Nat) (u : Int) (sl : List D) (bx : List (Nat × List D)), r = s.length - a → a ≤ s.length → get sl 0 = .hp R 0 3 0 0 → get sl 4 = .int .u64 u →
    Stops (lp T L96_0 ⟨⟨sl, bx⟩, rdO st R s a ok md⟩) fun e s' _ st' => e = .exit 0 ∧ get s' 4 = .int .u64 (numU s a u) ∧ ∃ md', st' = rdO st R s (runEnd digitB s a) ok md' := by
  intro r
  induction r with
  | zero =>
    intro a md u sl bx hr ha h0 h4
    have e : a = s.length := by omega
    subst e
    refine Stops_wp L96_0.eq_1 ?_
    simp [h0, h4, rdO_at hR, runEnd_end, numU_end]
    exact ⟨_, rfl⟩
  | succ r ih =>
    intro a md u sl bx hr ha h0 h4
    have hlt : a < s.length := by omega
    have w1 := wrap1 (a := a) (by omega)
    have hc := s[a].toNat_lt
    have nx := fun sl' => ih (a + 1) (md + 1) (nuS u s[a]) sl' bx (by omega) (by omega)
    have dg : (48 ≤ ch s[a] ∧ ch s[a] ≤ 57) → digitB s[a] = true := fun h => by simp only [digitB, Bool.and_eq_true, decide_eq_true_eq]; exact h
    have dn : ¬ (48 ≤ ch s[a] ∧ ch s[a] ≤ 57) → digitB s[a] = false := fun h => by simp only [digitB, Bool.and_eq_false_iff, decide_eq_false_iff_not]; omega
    unfold nuS at nx
    refine Stops_wp L96_0.eq_1 ?_
    generalize hn : ch s[a] = n at *
    have hn' : (s[a].toNat : Int) = n := hn
    have w2 : 48 ≤ n → n ≤ 57 → IntKind.wrap .u8 (n - 48) = n - 48 := fun h h' => wrap8 (by omega) (by omega)
    have w3 : 48 ≤ n → n ≤ 57 → IntKind.wrap .u64 (n - 48) = n - 48 := fun h h' => wrapu64 (by omega) (by omega)
    simp +contextual [h0, h4, rdO_at hR, rdO_set, rdO_fold, hlt, w1, byteD, kHs, hn', w2, w3, -Int.natCast_add]
    refine ⟨fun h1 => ⟨fun h2 => ?_, fun h2 => ?_⟩, fun h1 => ?_⟩
    · rw [runEnd_go hlt (dg ⟨h1, h2⟩), numU_go hlt (dg ⟨h1, h2⟩)]
      unfold nuS
      rw [hn]
      exact nx _ (by simp [h0]) (by simp)
    · rw [runEnd_stop hlt (dn (by omega)), numU_stop hlt (dn (by omega))]; exact ⟨rfl, _, rfl⟩
    · rw [runEnd_stop hlt (dn (by omega)), numU_stop hlt (dn (by omega))]; exact ⟨rfl, _, rfl⟩

def minus (s : List UInt8) (a : Nat) : Bool := decide (s[a]? = some 45)
/-- Where a number's digits begin; where they end; its value; what number leaves. -/
def num1 (s : List UInt8) (a : Nat) : Nat := if minus s a then a + 1 else a
def numE (s : List UInt8) (a : Nat) : Nat := runEnd digitB s (num1 s a)
def numA (s : List UInt8) (a : Nat) : Int := if minus s a then IntKind.wrap .i64 (0 - IntKind.wrap .i64 (numU s (num1 s a) 0)) else IntKind.wrap .i64 (numU s (num1 s a) 0)
def numR (s : List UInt8) (a : Nat) (ok : Bool) : Int × Nat × Bool := (numA s a, numE s a, ok && decide (sdig (numA s a) = seg s a (numE s a)))

theorem in64_wrap (n : Int) : -9223372036854775808 ≤ IntKind.wrap .i64 n ∧ IntKind.wrap .i64 n ≤ 9223372036854775807 := by
  rw [IntKind.wrap_i64]; omega
theorem numA_in (s : List UInt8) (a : Nat) : -9223372036854775808 ≤ numA s a ∧ numA s a ≤ 9223372036854775807 := by
  unfold numA; split <;> exact in64_wrap _

theorem c96 {st : St} {R : Nat} (hR : R < st.length) (s : List UInt8) (hs : s.length ≤ 30000000) (ok : Bool) (a md : Nat) (ha : a ≤ s.length) :
    ∃ md', callD T (ev T) 96 [.hp R 0 3 0 0] (rdO st R s a ok md) = some (.int .i64 (numR s a ok).1, rdO st R s (numR s a ok).2.1 (numR s a ok).2.2 md') := by
  suffices h : Ret (ev T 96 [.hp R 0 3 0 0] (rdO st R s a ok md)) fun r st' => ∃ md', r = .int .i64 (numR s a ok).1 ∧ st' = rdO st R s (numR s a ok).2.1 (numR s a ok).2.2 md' by
    obtain ⟨r, st', h1, md', rfl, rfl⟩ := h
    exact ⟨md', by rw [callD_rawE (fn := F96) rfl rfl (by simp)]; exact h1⟩
  refine Ret_wp (fn := F96) rfl ?_
  have hA := numA_in s a
  have q := callQ_pure (fn := F98) rfl rfl (by simp) (by simp) (c98 (numA s a) hA.1 hA.2 [])
  have w1 := wrap1 (a := a) (by omega)
  rw [F96]
  cases hm : minus s a with
  | true =>
    have hm' : s[a]? = some 45 := by simpa [minus] using hm
    obtain ⟨hlt, he⟩ := List.getElem?_eq_some_iff.1 hm'
    have e1 : num1 s a = a + 1 := by unfold num1; rw [if_pos hm]
    have e2 : numA s a = IntKind.wrap .i64 (-IntKind.wrap .i64 (numU s (a + 1) 0)) := by unfold numA; rw [if_pos hm, e1, Int.zero_sub]
    have h45 : (s[a].toNat : Int) = 45 := by rw [he]; rfl
    have q2 := str_slice s .i64 .i64 a (runEnd digitB s (a + 1)) (by have := le_runEnd digitB s (a + 1); omega) (runEnd_le _ _ (by omega))
    unfold numR numE
    rw [e1]
    rw [e2] at q ⊢
    generalize hv : IntKind.wrap .i64 (-IntKind.wrap .i64 (numU s (a + 1) 0)) = v at *
    simp [rdO_at hR, rdO_set, rdO_fold, hlt, w1, byteD, h45, kHs, -Int.natCast_add]
    refine WL.use L96_0_p L96_0_w (l96 hR s (by omega) ok _ (a + 1) _ 0 _ _ rfl (by omega) (by simp) (by simp)) ?_
    rintro e s' b st' ⟨rfl, h4, md', rfl⟩ hf
    have h0 : get s' 0 = .hp R 0 3 0 0 := by rw [hf 0 rfl]; simp
    have h3 : get s' 3 = .int .i64 a := by rw [hf 3 rfl]; simp
    by_cases hq : sdig v = seg s a (runEnd digitB s (a + 1))
    · simp [h0, h3, h4, rdO_at hR, rdO_set, rdO_fold, hlt, byteD, h45, hv, q, q2, hq, kHs, -Int.natCast_add]
      exact ⟨_, rfl⟩
    · simp [h0, h3, h4, rdO_at hR, rdO_set, rdO_fold, hlt, byteD, h45, hv, q, q2, hq, kHs, -Int.natCast_add]
      exact ⟨_, rfl⟩
  | false =>
    have hm' : ∀ h : a < s.length, ¬ (s[a].toNat : Int) = 45 := fun h g => by
      simp only [minus, decide_eq_false_iff_not] at hm
      refine hm ?_
      rw [List.getElem?_eq_getElem h]
      congr 1
      exact UInt8.toNat_inj.1 (by have : (45 : UInt8).toNat = 45 := rfl; omega)
    have e1 : num1 s a = a := by unfold num1; rw [if_neg (by simp [hm])]
    have e2 : numA s a = IntKind.wrap .i64 (numU s a 0) := by unfold numA; rw [if_neg (by simp [hm]), e1]
    have q2 := str_slice s .i64 .i64 a (runEnd digitB s a) (by have := le_runEnd digitB s a; omega) (runEnd_le _ _ ha)
    unfold numR numE
    rw [e1]
    rw [e2] at q ⊢
    generalize hv : IntKind.wrap .i64 (numU s a 0) = v at *
    by_cases hlt : a < s.length
    · have hm2 := hm' hlt
      simp [rdO_at hR, rdO_set, rdO_fold, hlt, w1, byteD, hm2, kHs, -Int.natCast_add]
      refine WL.use L96_0_p L96_0_w (l96 hR s (by omega) ok _ a _ 0 _ _ rfl (by omega) (by simp) (by simp)) ?_
      rintro e s' b st' ⟨rfl, h4, md', rfl⟩ hf
      have h0 : get s' 0 = .hp R 0 3 0 0 := by rw [hf 0 rfl]; simp
      have h3 : get s' 3 = .int .i64 a := by rw [hf 3 rfl]; simp
      by_cases hq : sdig v = seg s a (runEnd digitB s a)
      · simp [h0, h3, h4, rdO_at hR, rdO_set, rdO_fold, hlt, byteD, hm2, hv, q, q2, hq, kHs, -Int.natCast_add]
        exact ⟨_, rfl⟩
      · simp [h0, h3, h4, rdO_at hR, rdO_set, rdO_fold, hlt, byteD, hm2, hv, q, q2, hq, kHs, -Int.natCast_add]
        exact ⟨_, rfl⟩
    · have e3 : a = s.length := by omega
      subst e3
      simp [rdO_at hR, rdO_set, rdO_fold, w1, byteD, kHs, -Int.natCast_add]
      refine WL.use L96_0_p L96_0_w (l96 hR s (by omega) ok _ s.length _ 0 _ _ rfl (by omega) (by simp) (by simp)) ?_
      rintro e s' b st' ⟨rfl, h4, md', rfl⟩ hf
      have h0 : get s' 0 = .hp R 0 3 0 0 := by rw [hf 0 rfl]; simp
      have h3 : get s' 3 = .int .i64 s.length := by rw [hf 3 rfl]; simp
      by_cases hq : sdig v = seg s s.length (runEnd digitB s s.length)
      · simp [h0, h3, h4, rdO_at hR, rdO_set, rdO_fold, byteD, hv, q, q2, hq, kHs, -Int.natCast_add]
        exact ⟨_, rfl⟩
      · simp [h0, h3, h4, rdO_at hR, rdO_set, rdO_fold, byteD, hv, q, q2, hq, kHs, -Int.natCast_add]
        exact ⟨_, rfl⟩

/-- Behind a blank: a text; a number. -/
def bTxt (s : List UInt8) (a : Nat) (ok : Bool) : List UInt8 × Nat × Bool := if ok = true ∧ s[a]? = some 32 then txtR s (a + 1) true else ([], a, false)
def bNum (s : List UInt8) (a : Nat) (ok : Bool) : Int × Nat × Bool := if ok = true ∧ s[a]? = some 32 then numR s (a + 1) true else (0, a, false)

theorem c92 {st : St} {R : Nat} (hR : R < st.length) (s : List UInt8) (hs : s.length ≤ 30000000) (ok : Bool) (a md : Nat) (ha : a ≤ s.length) :
    ∃ g md', callD T (ev T) 92 [.hp R 0 3 0 0, .fn 93 [.hp R 0 3 0 0] []] (rdO st R s a ok md) = some (.str (bTxt s a ok).1, rdO (st ++ g) R s (bTxt s a ok).2.1 (bTxt s a ok).2.2 md') := by
  suffices h : Ret (ev T 92 [.hp R 0 3 0 0, .fn 93 [.hp R 0 3 0 0] []] (rdO st R s a ok md)) fun r st' => ∃ g md', r = .str (bTxt s a ok).1 ∧ st' = rdO (st ++ g) R s (bTxt s a ok).2.1 (bTxt s a ok).2.2 md' by
    obtain ⟨r, st', h1, g, md', rfl, rfl⟩ := h
    exact ⟨g, md', by rw [callD_rawE (fn := F92) rfl rfl (by simp)]; exact h1⟩
  refine Ret_wp (fn := F92) rfl ?_
  unfold bTxt
  have w1 := wrap1 (a := a) (by omega)
  rw [F92]
  cases ok with
  | false =>
    simp [rdO_at hR, rdO_set, rdO_fold, kHs]
    exact ⟨[], _, by simp; rfl⟩
  | true =>
    by_cases hlt : a < s.length
    · have hng : ¬ s.length ≤ a := by omega
      by_cases h32 : s[a] = 32
      · obtain ⟨g, md', q⟩ := c93 hR s hs true (a + 1) (md + 1) (by omega)
        have e : (s[a].toNat : Int) = 32 := by rw [h32]; rfl
        simp [rdO_at hR, rdO_set, rdO_fold, hlt, hng, byteD, e, h32, w1, kHs, q, -Int.natCast_add]
        exact ⟨g, _, rfl⟩
      · have e : ¬ (s[a].toNat : Int) = 32 := fun g => h32 (UInt8.toNat_inj.1 (by have : (32 : UInt8).toNat = 32 := rfl; omega))
        simp [rdO_at hR, rdO_set, rdO_fold, hlt, hng, byteD, e, h32, w1, kHs, -Int.natCast_add]
        exact ⟨[], _, by simp; rfl⟩
    · have e2 : a = s.length := by omega
      subst e2
      simp [rdO_at hR, rdO_set, rdO_fold, kHs]
      exact ⟨[], _, by simp; rfl⟩

theorem c95 {st : St} {R : Nat} (hR : R < st.length) (s : List UInt8) (hs : s.length ≤ 30000000) (ok : Bool) (a md : Nat) (ha : a ≤ s.length) :
    ∃ md', callD T (ev T) 95 [.hp R 0 3 0 0, .fn 96 [.hp R 0 3 0 0] []] (rdO st R s a ok md) = some (.int .i64 (bNum s a ok).1, rdO st R s (bNum s a ok).2.1 (bNum s a ok).2.2 md') := by
  suffices h : Ret (ev T 95 [.hp R 0 3 0 0, .fn 96 [.hp R 0 3 0 0] []] (rdO st R s a ok md)) fun r st' => ∃ md', r = .int .i64 (bNum s a ok).1 ∧ st' = rdO st R s (bNum s a ok).2.1 (bNum s a ok).2.2 md' by
    obtain ⟨r, st', h1, md', rfl, rfl⟩ := h
    exact ⟨md', by rw [callD_rawE (fn := F95) rfl rfl (by simp)]; exact h1⟩
  refine Ret_wp (fn := F95) rfl ?_
  unfold bNum
  have w1 := wrap1 (a := a) (by omega)
  rw [F95]
  cases ok with
  | false =>
    simp [rdO_at hR, rdO_set, rdO_fold, kHs]
    exact ⟨_, rfl⟩
  | true =>
    by_cases hlt : a < s.length
    · have hng : ¬ s.length ≤ a := by omega
      by_cases h32 : s[a] = 32
      · obtain ⟨md', q⟩ := c96 hR s hs true (a + 1) (md + 1) (by omega)
        have e : (s[a].toNat : Int) = 32 := by rw [h32]; rfl
        simp [rdO_at hR, rdO_set, rdO_fold, hlt, hng, byteD, e, h32, w1, kHs, q, -Int.natCast_add]
        exact ⟨_, rfl⟩
      · have e : ¬ (s[a].toNat : Int) = 32 := fun g => h32 (UInt8.toNat_inj.1 (by have : (32 : UInt8).toNat = 32 := rfl; omega))
        simp [rdO_at hR, rdO_set, rdO_fold, hlt, hng, byteD, e, h32, w1, kHs, -Int.natCast_add]
        exact ⟨_, rfl⟩
    · have e2 : a = s.length := by omega
      subst e2
      simp [rdO_at hR, rdO_set, rdO_fold, kHs]
      exact ⟨_, rfl⟩

end Go.Nt.Lk

/-
  A REQUEST READ, walked.
  No condition.
-/
set_option linter.unusedSimpArgs false
namespace Go.Nt.Lk
open Go Go.Nt

def i64 (n : Int) : D := .int .i64 n

theorem bNum_le {s : List UInt8} {a : Nat} (ok : Bool) (h : a ≤ s.length) : (bNum s a ok).2.1 ≤ s.length := by
  unfold bNum
  split
  · rename_i hc
    have h1 : a < s.length := (List.getElem?_eq_some_iff.1 hc.2).1
    simp only [numR, numE]
    refine runEnd_le _ _ ?_
    unfold num1
    split
    · rename_i hm
      simp only [minus, decide_eq_true_eq] at hm
      exact (List.getElem?_eq_some_iff.1 hm).1
    · omega
  · exact h
theorem bNum_lt {s : List UInt8} {a : Nat} {ok : Bool} (h : (bNum s a ok).2.2 = true) : a < (bNum s a ok).2.1 := by
  unfold bNum at h ⊢
  split
  · simp only [numR, numE]
    have := le_runEnd digitB s (num1 s (a + 1))
    have h2 : a + 1 ≤ num1 s (a + 1) := by unfold num1; split <;> omega
    omega
  · rename_i hc; rw [if_neg hc] at h; cases h

/-- Numbers read to the end. -/
def numsR (s : List UInt8) : Nat → Nat → Bool → List Int × Nat × Bool
  | 0, a, ok => ([], a, ok)
  | n + 1, a, ok => if ok = true ∧ a < s.length then
      ((bNum s a ok).1 :: (numsR s n (bNum s a ok).2.1 (bNum s a ok).2.2).1, (numsR s n (bNum s a ok).2.1 (bNum s a ok).2.2).2)
    else ([], a, ok)

def grN (st : St) (ns : List Int) : D × St := grownA st (seed 1 .nil) 1 (ns.map i64)
theorem grN_rdO {st : St} {R : Nat} (h : R < st.length) (ns : List Int) (s : List UInt8) (a : Nat) (ok : Bool) (md : Nat) : grN (rdO st R s a ok md) ns = ((grN st ns).1, rdO (grN st ns).2 R s a ok md) := by
  cases ns with
  | nil => rfl
  | cons n ns => simp only [grN, List.map_cons, grownA, rdO_len, rdO_app h]
theorem grN_lt {st : St} {R : Nat} (h : R < st.length) (ns : List Int) : R < (grN st ns).2.length := by cases ns <;> simp [grN, grownA] <;> omega
theorem grN_app {st : St} {R : Nat} (h : R < st.length) (ns : List Int) (hn : ns.length ≤ 60000000) (n : Int) (s : List UInt8) (a : Nat) (ok : Bool) (md : Nat) :
    appendD (rdO (grN st ns).2 R s a ok md) (grN st ns).1 [.int .i64 n] 1 = some ((grN st (ns ++ [n])).1, rdO (grN st (ns ++ [n])).2 R s a ok md) := by
  have h1 := growA (rdO st R s a ok md) .nil 1 (ns.map i64) (i64 n) (by simp; omega)
  have e : ns.map i64 ++ [i64 n] = (ns ++ [n]).map i64 := by simp
  rw [e] at h1
  have h2 := grN_rdO h ns s a ok md
  have h3 := grN_rdO h (ns ++ [n]) s a ok md
  unfold grN at h2 h3 ⊢
  rw [h2, h3] at h1
  exact h1
@[simp] theorem grN_cells (st : St) (ns : List Int) : (grN st ns).1.cells = [(grN st ns).1] := grownA_cells _ _ _ _
@[simp] theorem grN_okv (st : St) (ns : List Int) : (grN st ns).1.okv = true := grownA_okv _ _ _ _
@[simp] theorem grN_fits (st : St) (ns : List Int) : (grN st ns).1.fits none = true := grownA_fits _ _ _ _

theorem numsR_f (s : List UInt8) (n a : Nat) : numsR s n a false = ([], a, false) := by cases n <;> simp [numsR]

def Q94 (st : St) (R : Nat) (s : List UInt8) (x1 x2 x3 x4 : D) (gg : Nat) (ns : List Int) (a : Nat) (ok : Bool) (e : Ex) (b' : List (Nat × List D)) (st' : St) : Prop :=
  e = .exit 0 ∧ getB b' 3 = (gg, [x1, x2, x3, x4, (grN st ns).1]) ∧ ∃ md', st' = rdO (grN st ns).2 R s a ok md'

theorem l94f {st : St} {R : Nat} (hR : R < st.length) (s : List UInt8) (x1 x2 x3 x4 : D) (gg : Nat) (a md : Nat) (ns : List Int) (sl : List D) (bx : List (Nat × List D)) (h0 : get sl 0 = .hp R 0 3 0 0) (hb : getB bx 3 = (gg, [x1, x2, x3, x4, (grN st ns).1])) :
    Stops (lp T L94_0 ⟨⟨sl, bx⟩, rdO (grN st ns).2 R s a false md⟩) fun e _ b' st' => Q94 st R s x1 x2 x3 x4 gg ns a false e b' st' := by
  have hB := grN_lt hR ns
  refine Stops_wp L94_0.eq_1 ?_
  simp [h0, rdO_at hB]
  exact ⟨rfl, hb, _, rfl⟩

theorem l94 {st : St} {R : Nat} (hR : R < st.length) (s : List UInt8) (hs : s.length ≤ 30000000) (x1 x2 x3 x4 : D) (gg : Nat) : ∀ (n a md : Nat) (ok : Bool) (ns : List Int) (sl : List D) (bx : List (Nat × List D)), s.length - a < n → a ≤ s.length → ns.length ≤ a → get sl 0 = .hp R 0 3 0 0 → get sl 3 = .lp 3 gg 0 → getB bx 3 = (gg, [x1, x2, x3, x4, (grN st ns).1]) →
    Stops (lp T L94_0 ⟨⟨sl, bx⟩, rdO (grN st ns).2 R s a ok md⟩) fun e _ b' st' => Q94 st R s x1 x2 x3 x4 gg (ns ++ (numsR s n a ok).1) (numsR s n a ok).2.1 (numsR s n a ok).2.2 e b' st' := by
  intro n
  induction n with
  | zero => intro a md ok ns sl bx hr; omega
  | succ n ih =>
    intro a md ok ns sl bx hr ha ho h0 h3 hb
    cases ok with
    | false =>
      rw [numsR_f]
      simp only [List.append_nil]
      exact l94f hR s x1 x2 x3 x4 gg a md ns sl bx h0 hb
    | true =>
      have hB := grN_lt hR ns
      refine Stops_wp L94_0.eq_1 ?_
      by_cases hlt : a < s.length
      · obtain ⟨md1, q⟩ := c95 (R := R) (st := (grN st ns).2) hB s hs true a md ha
        have hle := bNum_le true ha
        have hgt := bNum_lt (s := s) (a := a) (ok := true)
        have g1 := grN_app hR ns (by omega) (bNum s a true).1 s (bNum s a true).2.1 (bNum s a true).2.2 md1
        have g2 : ∀ sl' bx', get sl' 0 = .hp R 0 3 0 0 → get sl' 3 = .lp 3 gg 0 → getB bx' 3 = (gg, [x1, x2, x3, x4, (grN st (ns ++ [(bNum s a true).1])).1]) → 
          Stops (lp T L94_0 ⟨⟨sl', bx'⟩, rdO (grN st (ns ++ [(bNum s a true).1])).2 R s (bNum s a true).2.1 (bNum s a true).2.2 md1⟩) fun e _ b' st' => Q94 st R s x1 x2 x3 x4 gg (ns ++ (numsR s (n + 1) a true).1) (numsR s (n + 1) a true).2.1 (numsR s (n + 1) a true).2.2 e b' st' := by
          intro sl' bx' e0 e3 eb
          unfold numsR
          rw [if_pos ⟨rfl, hlt⟩]
          cases hk : (bNum s a true).2.2 with
          | true =>
            have := ih (bNum s a true).2.1 md1 true (ns ++ [(bNum s a true).1]) sl' bx' (by have := hgt hk; omega) hle (by have := hgt hk; simp; omega) e0 e3 eb
            simpa using this
          | false =>
            rw [numsR_f]
            exact l94f hR s x1 x2 x3 x4 gg _ md1 (ns ++ [(bNum s a true).1]) sl' bx' e0 eb
        have c1 := grN_cells st (ns ++ [(bNum s a true).1])
        have c2 := grN_okv st (ns ++ [(bNum s a true).1])
        generalize (bNum s a true).1 = v at *
        generalize (bNum s a true).2.1 = a1 at *
        generalize (bNum s a true).2.2 = k1 at *
        generalize (grN st (ns ++ [v])).1 = gv at *
        simp [h0, h3, hb, rdO_at hB, hlt, q, g1, c1, c2, -Int.natCast_add]
        exact g2 _ _ (by simp [h0]) (by simp [h3]) (by simp)
      · simp [h0, rdO_at hB, hlt]
        unfold numsR
        rw [if_neg (by simp [hlt])]
        simp only [List.append_nil]
        exact ⟨rfl, hb, _, rfl⟩

structure Rq where
  kind : Int
  frm : Int
  to : Int
  name : List UInt8
  nums : List Int

def reqR (s : List UInt8) (a : Nat) (ok : Bool) : Rq × Nat × Bool :=
  match bNum s a ok with
  | (k, a1, o1) => match bNum s a1 o1 with
    | (f, a2, o2) => match bNum s a2 o2 with
      | (t, a3, o3) => match bTxt s a3 o3 with
        | (nm, a4, o4) => match numsR s (s.length + 1) a4 o4 with
          | (ns, a5, o5) => (⟨k, f, t, nm, ns⟩, a5, o5)

theorem txtR_le {s : List UInt8} {a : Nat} (ok : Bool) (h : a ≤ s.length) : (txtR s a ok).2.1 ≤ s.length := by
  unfold txtR
  split
  · split
    · unfold quoR
      cases hq : quoted s a with
      | none => simp
      | some p =>
        unfold quoted at hq
        split at hq
        · rename_i hc
          simp only [Option.some.injEq] at hq
          subst hq
          exact hc.1
        · cases hq
    · exact h
  · exact h
theorem bTxt_le {s : List UInt8} {a : Nat} (ok : Bool) (h : a ≤ s.length) : (bTxt s a ok).2.1 ≤ s.length := by
  unfold bTxt
  split
  · rename_i hc
    exact txtR_le _ (List.getElem?_eq_some_iff.1 hc.2).1
  · exact h

def reqD (q : Rq) (d : D) : List D := [i64 q.kind, i64 q.frm, i64 q.to, .str q.name, d]

theorem c94 {st : St} {R : Nat} (hR : R < st.length) (s : List UInt8) (hs : s.length ≤ 30000000) (ok : Bool) (a md : Nat) (ha : a ≤ s.length) :
    ∃ g md', callD T (ev T) 94 [.hp R 0 3 0 0] (rdO st R s a ok md) = some (.agg (reqD (reqR s a ok).1 (grN (st ++ g) (reqR s a ok).1.nums).1), rdO (grN (st ++ g) (reqR s a ok).1.nums).2 R s (reqR s a ok).2.1 (reqR s a ok).2.2 md') := by
  suffices h : Ret (ev T 94 [.hp R 0 3 0 0] (rdO st R s a ok md)) fun r st' => ∃ g md', r = .agg (reqD (reqR s a ok).1 (grN (st ++ g) (reqR s a ok).1.nums).1) ∧ st' = rdO (grN (st ++ g) (reqR s a ok).1.nums).2 R s (reqR s a ok).2.1 (reqR s a ok).2.2 md' by
    obtain ⟨r, st', h1, g, md', rfl, rfl⟩ := h
    exact ⟨g, md', by rw [callD_rawE (fn := F94) rfl rfl (by simp)]; exact h1⟩
  refine Ret_wp (fn := F94) rfl ?_
  unfold reqR
  obtain ⟨md1, q1⟩ := c95 hR s hs ok a md ha
  have l1 := bNum_le ok ha
  rcases h1 : bNum s a ok with ⟨k, a1, o1⟩
  rw [h1] at q1 l1
  simp only at q1 l1 ⊢
  obtain ⟨md2, q2⟩ := c95 hR s hs o1 a1 md1 l1
  have l2 := bNum_le o1 l1
  rcases h2 : bNum s a1 o1 with ⟨f, a2, o2⟩
  rw [h2] at q2 l2
  simp only at q2 l2 ⊢
  obtain ⟨md3, q3⟩ := c95 hR s hs o2 a2 md2 l2
  have l3 := bNum_le o2 l2
  rcases h3 : bNum s a2 o2 with ⟨t, a3, o3⟩
  rw [h3] at q3 l3
  simp only at q3 l3 ⊢
  obtain ⟨g, md4, q4⟩ := c92 hR s hs o3 a3 md3 l3
  have l4 := bTxt_le o3 l3
  rcases h4 : bTxt s a3 o3 with ⟨nm, a4, o4⟩
  rw [h4] at q4 l4
  simp only at q4 l4 ⊢
  rw [F94]
  simp [q1, q2, q3, q4, reqD, i64]
  have hR' : R < (st ++ g).length := by simp; omega
  refine WL.useB L94_0_p L94_0_w (by kernel_rfl : L94_0.wrB = [3]) (l94 hR' s hs (.int .i64 k) (.int .i64 f) (.int .i64 t) (.str nm) 1 (s.length + 1) a4 md4 o4 [] _ _ (by omega) l4 (by simp) (by simp) (by simp) (by simp [grN, seed])) ?_
  rcases h5 : numsR s (s.length + 1) a4 o4 with ⟨ns, a5, o5⟩
  rintro e s' b st' ⟨rfl, hb, md', rfl⟩ hf hg
  have e0 : get s' 3 = .lp 3 1 0 := by rw [hf 3 rfl]; simp
  have e2 : get s' 2 = .lp 2 1 0 := by rw [hf 2 rfl]; simp
  have b2 : getB b 2 = (1, [.int .i64 0, .int .i64 0, .int .i64 0, .str [], .nils]) := by rw [hg 2 rfl]; simp
  simp only [List.nil_append] at hb ⊢
  simp [hb, e0, e2, b2, reqD, i64]
  exact ⟨g, rfl, _, rfl⟩

end Go.Nt.Lk

/-
  AN OPERATION READ, walked.
  No condition.
-/
set_option linter.unusedSimpArgs false
namespace Go.Nt.Lk
open Go Go.Nt

structure Opr where
  kind : Int
  text : List UInt8
  rq : Rq
  n : Int

def rq0 : Rq := ⟨0, 0, 0, [], []⟩
/-- An operation's datum. -/
def Opr.cells (o : Opr) (d : D) : List D := [i64 o.kind, .str o.text, i64 o.rq.kind, i64 o.rq.frm, i64 o.rq.to, .str o.rq.name, d, i64 o.n]
def Opr.enc (o : Opr) : D := .agg (o.cells (slE 1 .nil (o.rq.nums.map i64)))

def wWord (k : Int) : List UInt8 := if k = 4 then [117, 110, 100, 111] else if k = 6 then [115, 121, 110, 99] else if k = 8 then [114, 101, 99, 111, 118, 101, 114] else if k = 9 then [118, 101, 114, 105, 102, 121] else []

theorem c97 (k : Int) (st : St) : callD T (ev T) 97 [.int .i64 k] st = some (.str (wWord k), st) := by
  refine callD_pureQ (fn := F97) rfl rfl (by simp) (by simp) (by intro; rfl) ?_
  refine Ret_wp (fn := F97) rfl ?_
  rw [F97]
  unfold wWord
  simp +contextual

def kind4 (w : List UInt8) : List Int → Int
  | [] => 0
  | k :: r => if w = wWord k then k else kind4 w r

/-- What op leaves. -/
def opR (s : List UInt8) (a : Nat) (ok : Bool) : Opr × Nat × Bool :=
  if seg s a (runEnd wordB s a) = [108, 111, 97, 100] then
    match bTxt s (runEnd wordB s a) ok with | (t, b, o) => (⟨1, t, rq0, 0⟩, b, o)
  else if seg s a (runEnd wordB s a) = [110, 111, 116, 101] then
    match bTxt s (runEnd wordB s a) ok with | (t, b, o) => (⟨5, t, rq0, 0⟩, b, o)
  else if seg s a (runEnd wordB s a) = [114, 101, 102, 97, 99, 116, 111, 114] then
    match reqR s (runEnd wordB s a) ok with | (q, b, o) => (⟨2, [], q, 0⟩, b, o)
  else if seg s a (runEnd wordB s a) = [99, 104, 101, 99, 107] then
    if runEnd wordB s a < s.length then
      match bTxt s (runEnd wordB s a) ok with | (t, b, o) => (⟨3, t, rq0, 0⟩, b, o && !decide (t = []))
    else (⟨3, [], rq0, 0⟩, runEnd wordB s a, ok)
  else if seg s a (runEnd wordB s a) = [99, 114, 97, 115, 104] then
    match bNum s (runEnd wordB s a) ok with | (n, b, o) => (⟨7, [], rq0, n⟩, b, o)
  else if kind4 (seg s a (runEnd wordB s a)) [4, 6, 8, 9] = 0 then (⟨0, [], rq0, 0⟩, runEnd wordB s a, false)
  else (⟨kind4 (seg s a (runEnd wordB s a)) [4, 6, 8, 9], [], rq0, 0⟩, runEnd wordB s a, ok)

def z8op : List D := [.int .i64 0, .str [], .int .i64 0, .int .i64 0, .int .i64 0, .str [], .nils, .int .i64 0]

@[simp] theorem lenD_sl (st : St) (sz : Nat) (f : Bool) (ds : List D) (q : Bool) : lenD st .slice (.sl sz f ds) q = some (.i ds.length) := (rfl)
def K4 : D := .sl 1 true [.int .i64 4, .int .i64 6, .int .i64 8, .int .i64 9]
def I57 (w : List UInt8) (gg : Nat) (i : Nat) (sl : List D) (bx : List (Nat × List D)) : Prop :=
  get sl 2 = .lp 2 gg 0 ∧ get sl 3 = .str w ∧ getB bx 2 = (gg, z8op) ∧ get sl 67 = K4 ∧ get sl 68 = .int .i64 4 ∧ get sl 69 = .int .i64 i

theorem l57s (st : St) (w : List UInt8) (sl : List D) (bx : List (Nat × List D)) (gg i : Nat) (k : Int) (hi : i < 4) (hk : idxAD K4 i 1 none none = some (.iptr (.int .i64 k))) (h : I57 w gg i sl bx)
    {Q : Ex → List D → List (Nat × List D) → St → Prop} (yes : w = wWord k → ∀ s' b', getB b' 2 = (gg, .int .i64 k :: z8op.tail) → Q .ret s' b' st) (no : ¬ w = wWord k → ∀ s' b', I57 w gg (i + 1) s' b' → Stops (lp T L57_0 ⟨⟨s', b'⟩, st⟩) Q) :
    Stops (lp T L57_0 ⟨⟨sl, bx⟩, st⟩) Q := by
  obtain ⟨h2, h3, hb, h67, h68, h69⟩ := h
  have q := c97 k st
  have hi' : (i : Int) < 4 := by omega
  have w1 := wrap1 (a := i) (by omega)
  refine Stops_wp L57_0.eq_1 ?_
  by_cases e : w = wWord k
  · have yes := yes e
    simp [h2, h3, hb, h67, h68, h69, hi', hk, q, e, z8op, -Int.natCast_add]
    exact yes _ _ (by simp [z8op])
  · have no := no e
    simp [h2, h3, hb, h67, h68, h69, hi', hk, q, e, z8op, w1, -Int.natCast_add]
    exact no _ _ ⟨by simp [h2], by simp [h3], by simp [hb], by simp [h67], by simp [h68], by simp⟩

theorem l57e (st : St) (w : List UInt8) (sl : List D) (bx : List (Nat × List D)) (gg : Nat) (h : I57 w gg 4 sl bx)
    {Q : Ex → List D → List (Nat × List D) → St → Prop} (k : ∀ s' b', getB b' 2 = (gg, z8op) → Q (.exit 1) s' b' st) :
    Stops (lp T L57_0 ⟨⟨sl, bx⟩, st⟩) Q := by
  obtain ⟨h2, h3, hb, h67, h68, h69⟩ := h
  refine Stops_wp L57_0.eq_1 ?_
  simp [h68, h69]
  exact k _ _ hb

theorem l57 (st : St) (w : List UInt8) (sl : List D) (bx : List (Nat × List D)) (gg : Nat) (h : I57 w gg 0 sl bx) :
    Stops (lp T L57_0 ⟨⟨sl, bx⟩, st⟩) fun e _ b' st' => st' = st ∧ ((kind4 w [4, 6, 8, 9] = 0 ∧ e = .exit 1 ∧ getB b' 2 = (gg, z8op)) ∨ (¬ kind4 w [4, 6, 8, 9] = 0 ∧ e = .ret ∧ getB b' 2 = (gg, .int .i64 (kind4 w [4, 6, 8, 9]) :: z8op.tail))) := by
  refine l57s st w sl bx gg 0 4 (by omega) rfl h (fun e s' b' hb => ?_) fun n4 s' b' h => ?_
  · have : kind4 w [4, 6, 8, 9] = 4 := by simp only [kind4]; rw [if_pos e]
    rw [this]; exact ⟨rfl, .inr ⟨by omega, rfl, hb⟩⟩
  refine l57s st w s' b' gg 1 6 (by omega) rfl h (fun e s' b' hb => ?_) fun n6 s' b' h => ?_
  · have : kind4 w [4, 6, 8, 9] = 6 := by simp only [kind4]; rw [if_neg n4, if_pos e]
    rw [this]; exact ⟨rfl, .inr ⟨by omega, rfl, hb⟩⟩
  refine l57s st w s' b' gg 2 8 (by omega) rfl h (fun e s' b' hb => ?_) fun n8 s' b' h => ?_
  · have : kind4 w [4, 6, 8, 9] = 8 := by simp only [kind4]; rw [if_neg n4, if_neg n6, if_pos e]
    rw [this]; exact ⟨rfl, .inr ⟨by omega, rfl, hb⟩⟩
  refine l57s st w s' b' gg 3 9 (by omega) rfl h (fun e s' b' hb => ?_) fun n9 s' b' h => ?_
  · have : kind4 w [4, 6, 8, 9] = 9 := by simp only [kind4]; rw [if_neg n4, if_neg n6, if_neg n8, if_pos e]
    rw [this]; exact ⟨rfl, .inr ⟨by omega, rfl, hb⟩⟩
  refine l57e st w s' b' gg h fun s' b' hb => ?_
  have : kind4 w [4, 6, 8, 9] = 0 := by simp only [kind4]; rw [if_neg n4, if_neg n6, if_neg n8, if_neg n9]
  rw [this]; exact ⟨rfl, .inl ⟨rfl, rfl, hb⟩⟩

theorem fz_grN {st : St} {R : Nat} (h : R < st.length) (ns : List Int) (s : List UInt8) (a : Nat) (ok : Bool) (md : Nat) :
    ∃ g, fz0 (rdO (grN st ns).2 R s a ok md) (grN st ns).1 = some (slE 1 .nil (ns.map i64), rdO (st ++ g) R s a ok md) := by
  have h1 := fz0_grownA (rdO st R s a ok md) .nil 1 (ns.map i64)
  have h2 := grN_rdO h ns s a ok md
  unfold grN at h2 ⊢
  rw [h2] at h1
  simp only at h1
  cases ns with
  | nil => exact ⟨[], by rw [List.append_nil]; exact h1⟩
  | cons n ns => exact ⟨_, by rw [rdO_app h]; exact h1⟩

theorem enc_pure (o : Opr) : o.enc.pureT = true := by
  cases ho : o.rq.nums <;> simp [Opr.enc, Opr.cells, i64, ho, slE] 

theorem rdO_nil (st : St) (R : Nat) (s : List UInt8) (a : Nat) (ok : Bool) (md : Nat) : rdO (st ++ []) R s a ok md = rdO st R s a ok md := by rw [List.append_nil]

theorem c57 {st : St} {R : Nat} (hR : R < st.length) (s : List UInt8) (hs : s.length ≤ 30000000) (ok : Bool) (a md : Nat) (ha : a ≤ s.length) :
    ∃ g md', callD T (ev T) 57 [.hp R 0 3 0 0] (rdO st R s a ok md) = some ((opR s a ok).1.enc, rdO (st ++ g) R s (opR s a ok).2.1 (opR s a ok).2.2 md') := by
  suffices h : Ret (ev T 57 [.hp R 0 3 0 0] (rdO st R s a ok md)) fun r st1 => ∃ g md', fz st1 r = some ((opR s a ok).1.enc, rdO (st ++ g) R s (opR s a ok).2.1 (opR s a ok).2.2 md') by
    obtain ⟨r, st', h1, g, md', hf⟩ := h
    exact ⟨g, md', callD_freE (fn := F57) rfl rfl (by simp) h1 hf (enc_pure _)⟩
  refine Ret_wp (fn := F57) rfl ?_
  unfold opR
  obtain ⟨md1, q0⟩ := c91 hR s (by omega) ok a md ha
  have hb : runEnd wordB s a ≤ s.length := runEnd_le _ _ ha
  generalize runEnd wordB s a = b at *
  generalize seg s a b = w at *
  obtain ⟨g2, md2, q2⟩ := c92 hR s hs ok b md1 hb
  obtain ⟨md3, q3⟩ := c95 hR s hs ok b md1 hb
  obtain ⟨g4, md4, q4⟩ := c94 hR s hs ok b md1 hb
  rw [F57]
  by_cases e1 : w = [108, 111, 97, 100]
  · rw [if_pos e1]
    rcases hx : bTxt s b ok with ⟨t, b1, o1⟩
    rw [hx] at q2
    simp only at q2 ⊢
    simp [q0, q2, e1]
    exact ⟨rfl, g2, md2, rfl⟩
  rw [if_neg e1]
  by_cases e2 : w = [110, 111, 116, 101]
  · rw [if_pos e2]
    rcases hx : bTxt s b ok with ⟨t, b1, o1⟩
    rw [hx] at q2
    simp only at q2 ⊢
    simp [q0, q2, e2]
    exact ⟨rfl, g2, md2, rfl⟩
  rw [if_neg e2]
  by_cases e3 : w = [114, 101, 102, 97, 99, 116, 111, 114]
  · rw [if_pos e3]
    rcases hx : reqR s b ok with ⟨t, b1, o1⟩
    rw [hx] at q4
    simp only at q4 ⊢
    have hR' : R < (st ++ g4).length := by simp; omega
    obtain ⟨g5, f5⟩ := fz_grN hR' t.nums s b1 o1 md4
    rw [List.append_assoc] at f5
    simp [q0, q4, e3, reqD, i64]
    exact ⟨g4 ++ g5, md4, by simp [fz, fz1, fzL, f5, Opr.enc, Opr.cells, i64]⟩
  rw [if_neg e3]
  by_cases e4 : w = [99, 104, 101, 99, 107]
  · rw [if_pos e4]
    by_cases hlt : b < s.length
    · rw [if_pos hlt]
      rcases hx : bTxt s b ok with ⟨t, b1, o1⟩
      rw [hx] at q2
      simp only at q2 ⊢
      have hR' : R < (st ++ g2).length := by simp; omega
      cases o1 with
      | true =>
        simp [q0, q2, e4, hlt, rdO_at hR, rdO_at hR', kHs, rdO_set]
        exact ⟨rfl, g2, _, rfl⟩
      | false =>
        simp [q0, q2, e4, hlt, rdO_at hR, rdO_at hR', kHs, rdO_set]
        exact ⟨rfl, g2, _, rfl⟩
    · rw [if_neg hlt]
      simp [q0, e4, hlt, rdO_at hR]
      exact ⟨rfl, [], md1, (rdO_nil _ _ _ _ _ _).symm⟩
  rw [if_neg e4]
  by_cases e5 : w = [99, 114, 97, 115, 104]
  · rw [if_pos e5]
    rcases hx : bNum s b ok with ⟨t, b1, o1⟩
    rw [hx] at q3
    simp only at q3 ⊢
    simp [q0, q3, e5]
    exact ⟨rfl, [], md3, (rdO_nil _ _ _ _ _ _).symm⟩
  rw [if_neg e5]
  simp [q0, e1, e2, e3, e4, e5]
  have q6 := fun sl bx h => l57 (rdO st R s b ok md1) w sl bx 1 h
  refine WL.useB L57_0_p L57_0_w (by kernel_rfl : L57_0.wrB = [2]) (q6 _ _ (by unfold I57; simp [z8op, K4])) ?_
  rintro e s' b' st' ⟨rfl, h⟩ hf hg
  have h0 : get s' 0 = .hp R 0 3 0 0 := by rw [hf 0 rfl]; simp
  have h2 : get s' 2 = .lp 2 1 0 := by rw [hf 2 rfl]; simp
  rcases h with ⟨hk, rfl, hb⟩ | ⟨hk, rfl, hb⟩
  · rw [if_pos hk]
    simp [h0, h2, hb, z8op, rdO_at hR, rdO_set, kHs]
    exact ⟨rfl, [], _, (rdO_nil st R s b false _).symm⟩
  · rw [if_neg hk]
    simp [h0, h2, hb, z8op]
    exact ⟨rfl, [], _, (rdO_nil _ _ _ _ _ _).symm⟩

end Go.Nt.Lk

/-
  TEXTS CUT AT LINES' ENDS, walked.
  No condition.
-/
set_option linter.unusedSimpArgs false
namespace Go.Nt.Lk
open Go Go.Nt

theorem findB_at (c : UInt8) : ∀ (s : List UInt8) (i : Nat), findB c s i = match cutB c s with | some r => ((i + r.1.length : Nat) : Int) | none => -1
  | [], i => rfl
  | x :: l, i => by
    unfold findB cutB
    split
    · simp
    · rw [findB_at c l (i + 1)]
      cases cutB c l with
      | none => rfl
      | some r =>
        show (((i + 1 + r.1.length : Nat) : Int)) = ((i + (x :: r.1).length : Nat) : Int)
        rw [List.length_cons]; omega
theorem cutB_eq (c : UInt8) : ∀ (s : List UInt8) (r : List UInt8 × List UInt8), cutB c s = some r → s = r.1 ++ c :: r.2
  | [], r, h => by cases h
  | x :: l, r, h => by
    unfold cutB at h
    split at h
    · rename_i e; cases h; rw [e]; rfl
    · cases h2 : cutB c l with
      | none => rw [h2] at h; cases h
      | some q => rw [h2] at h; cases h; rw [cutB_eq c l q h2]; rfl

theorem e133 (s : List UInt8) (c : UInt8) (st : St) : callD T (ev T) 133 [.str s, .str [c]] st = some (.int .i64 (findB c s 0), st) := by
  rw [callD_rawE (fn := F133) rfl rfl (by simp), ev_eq 133 F133 rfl, F133]
  simp [primD]

theorem str_to (s : List UInt8) (k : IntKind) (b : Nat) (hb : b ≤ s.length) : sliceD (.str s) none (some (.int k b)) none = some (.str (s.take b)) := by
  have h1 : (0 : Int) ≤ b := by omega
  have h2 : (b : Int) ≤ s.length := by omega
  simp [sliceD, h1, h2]
theorem str_from (s : List UInt8) (k : IntKind) (a : Nat) (ha : a ≤ s.length) : sliceD (.str s) (some (.int k a)) none none = some (.str (s.drop a)) := by
  have h3 : (0 : Int) ≤ a := by omega
  have h4 : (a : Int) ≤ s.length := by omega
  simp [sliceD, h3, h4]; omega

def cutN (s : List UInt8) : List UInt8 × List UInt8 × Bool := match cutB 10 s with
  | some r => (r.1, r.2, true)
  | none => (s, [], false)

theorem c90 (s : List UInt8) (hs : s.length ≤ 100000000) (st : St) : callD T (ev T) 90 [.str s, .str [10]] st = some (.tup [.str (cutN s).1, .str (cutN s).2.1, .bool (cutN s).2.2], st) := by
  refine callD_pureQ (fn := F90) rfl rfl (by simp) (by simp) (by intro; rfl) ?_
  refine Ret_wp (fn := F90) rfl ?_
  have q := e133 s 10
  rw [findB_at] at q
  unfold cutN
  rw [F90]
  cases h : cutB 10 s with
  | none =>
    rw [h] at q
    simp only at q ⊢
    simp [q]
  | some r =>
    rw [h] at q
    have e := cutB_eq 10 s r h
    have w1 := wrap1 (a := r.1.length) (by have := congrArg List.length e; simp at this; omega)
    have hl : r.1.length + 1 ≤ s.length := by have := congrArg List.length e; simp at this; omega
    have s1 := str_to s .i64 r.1.length (by omega)
    have s2 := str_from s .i64 (r.1.length + 1) hl
    have e1 : s.take r.1.length = r.1 := by conv => lhs; rw [e]
                                            simp
    have e2 : s.drop (r.1.length + 1) = r.2 := by
      conv => lhs; rw [e]
      rw [List.drop_append]; simp
    rw [e1] at s1; rw [e2] at s2
    simp only [Nat.zero_add] at q ⊢
    simp [q, w1, s1, s2, -Int.natCast_add]

theorem c56 (s : List UInt8) (hs : s.length ≤ 100000000) (st : St) : callD T (ev T) 56 [.str s, .str [10]] st = some (.tup [.str (cutN s).1, .str (cutN s).2.1, .bool (cutN s).2.2], st) := by
  refine callD_pureQ (fn := F56) rfl rfl (by simp) (by simp) (by intro; rfl) ?_
  refine Ret_wp (fn := F56) rfl ?_
  have q := c90 s hs
  rw [F56]
  simp [q]
end Go.Nt.Lk

/-
  SCRIPTS READ, walked: Parse.
  No condition.
-/
set_option linter.unusedSimpArgs false
namespace Go.Nt.Lk
open Go Go.Nt

/-- What Parse leaves: the operations, or the line that is none. -/
def parR : Nat → List UInt8 → Nat → Except Nat (List Opr)
  | 0, _, _ => .ok []
  | f + 1, s, n => if s = [] then .ok [] else
      if (opR (cutN s).1 0 (cutN s).2.2).2.2 = true ∧ (opR (cutN s).1 0 (cutN s).2.2).2.1 = (cutN s).1.length then
        match parR f (cutN s).2.1 (n + 1) with
        | .ok os => .ok ((opR (cutN s).1 0 (cutN s).2.2).1 :: os)
        | .error m => .error m
      else .error n

theorem cutN_le {s : List UInt8} (h : s ≠ []) : (cutN s).1.length ≤ s.length ∧ (cutN s).2.1.length < s.length := by
  unfold cutN
  cases hc : cutB 10 s with
  | none => exact ⟨Nat.le_refl _, by cases s with | nil => exact absurd rfl h | cons => simp⟩
  | some r =>
    have e := congrArg List.length (cutB_eq 10 s r hc)
    simp only [List.length_append, List.length_cons] at e
    simp only
    omega

/-- Rows that grow somewhere in a heap. -/
def Gw (st : St) (sz : Nat) (d : D) (ds : List D) : Prop :=
  (ds = [] ∧ d = .nils) ∨ ∃ X k md, ds ≠ [] ∧ d = .rs X k sz 0 ds.length false ∧ X < st.length ∧ k < ds.length ∧ St.at st X = .cells false sz k md false ds

theorem Gw.nil (st : St) (sz : Nat) : Gw st sz .nils [] := .inl ⟨rfl, rfl⟩
theorem Gw.okv {st : St} {sz : Nat} {d : D} {ds : List D} (h : Gw st sz d ds) : d.okv = true ∧ d.cells = [d] ∧ d.fits none = true := by
  rcases h with ⟨_, rfl⟩ | ⟨X, k, md, _, rfl, _⟩ <;> exact ⟨rfl, rfl, rfl⟩
theorem Gw.keep {st st' : St} {sz : Nat} {d : D} {ds : List D} (h : Gw st sz d ds) (hl : st.length ≤ st'.length) (he : ∀ X, X < st.length → St.at st' X = St.at st X) : Gw st' sz d ds := by
  rcases h with ⟨h1, h2⟩ | ⟨X, k, md, h1, h2, h3, h4, h5⟩
  · exact .inl ⟨h1, h2⟩
  · exact .inr ⟨X, k, md, h1, h2, Nat.lt_of_lt_of_le h3 hl, h4, by rw [he X h3]; exact h5⟩
theorem Gw.app {st : St} {sz : Nat} {d : D} {ds : List D} (h : Gw st sz d ds) (hl : ds.length ≤ 100000000) (x : D) :
    ∃ d' st', appendD st d [x] sz = some (d', st') ∧ Gw st' sz d' (ds ++ [x]) := by
  rcases h with ⟨rfl, rfl⟩ | ⟨X, k, md, h1, rfl, h3, h4, h5⟩
  · refine ⟨_, _, by simp [appendD, most], .inr ⟨st.length, 0, 0, by simp, rfl, by simp, by simp, at_last _ _⟩⟩
  · have ht : k + 1 < tagB := by unfold tagB; omega
    have hm : ds.length ≤ most := by unfold most; omega
    have m1 : ¬ most < 1 := by unfold most; omega
    refine ⟨.rs X (k + 1) sz 0 (ds.length + 1) false, List.set st X (.cells false sz (k + 1) (md + 1) false (ds ++ [x])), by simp [appendD, h5, m1, hm, ht], .inr ⟨X, k + 1, md + 1, by simp, by simp, by simpa using h3, by simp; omega, ?_⟩⟩
    rw [at_set _ _ _ _ h3, if_pos rfl]
theorem Gw.fz {st : St} {sz : Nat} {d : D} {ds : List D} (h : Gw st sz d ds) : ∃ st', fz1 st d = some (slE sz .nil ds, st') := by
  rcases h with ⟨rfl, rfl⟩ | ⟨X, k, md, h1, rfl, h3, h4, h5⟩
  · exact ⟨st, rfl⟩
  · cases ds with
    | nil => exact absurd rfl h1
    | cons x ds => exact ⟨_, by simp [fz1, fz0, h5, slE]; rfl⟩

theorem i64_map (ns : List Int) : (slE 1 .nil (ns.map i64)).pure = true := by
  cases ns <;> simp [slE, i64]

theorem i64_map1 (ns : List Int) : (slE 1 .nil (ns.map i64)).pure1 = true := by
  cases ns <;> simp [slE, i64]

def Q29 (os : List Opr) (x : Except Nat (List Opr)) (e : Ex) (s' : List D) (st' : St) : Prop :=
  match x with
  | .ok r => e = .exit 0 ∧ ∃ d, get s' 5 = d ∧ Gw st' 8 d ((os ++ r).map Opr.enc)
  | .error m => e = .ret ∧ get s' 2 = .nils ∧ get s' 3 = .int .i64 m ∧ get s' 4 = .int .i64 2

theorem l29 : ∀ (f : Nat) (s : List UInt8) (n : Nat) (os : List Opr) (st : St) (d : D) (sl : List D) (bx : List (Nat × List D)), s.length < f → s.length ≤ 30000000 → os.length + s.length ≤ 40000000 → n + s.length ≤ 40000000 →
    get sl 0 = .str s → get sl 5 = d → get sl 6 = .int .i64 n → Gw st 8 d (os.map Opr.enc) →
    Stops (lp T L29_0 ⟨⟨sl, bx⟩, st⟩) fun e s' _ st' => Q29 os (parR f s n) e s' st' := by
  intro f
  induction f with
  | zero => intro s n os st d sl bx hf; omega
  | succ f ih =>
    intro s n os st d sl bx hf hs ho hn h0 h5 h6 hG
    refine Stops_wp L29_0.eq_1 ?_
    by_cases e : s = []
    · subst e
      simp [h0, parR]
      exact ⟨rfl, d, by simp [h5], by simpa using hG⟩
    · have q1 := c56 s (by omega) st
      have hl := cutN_le e
      unfold parR
      rw [if_neg e]
      rcases hc : cutN s with ⟨l, rest, k⟩
      rw [hc] at q1 hl
      simp only at q1 hl ⊢
      have hR : st.length < (st ++ [Ob.cells true 3 0 0 false [.agg [.str l, .int .i64 0, .bool k]]]).length := by simp
      obtain ⟨g, md', q2⟩ := c57 hR l (by omega) k 0 0 (by omega)
      have e0 : rdO (st ++ [Ob.cells true 3 0 0 false [.agg [.str l, .int .i64 0, .bool k]]]) st.length l 0 k 0 = st ++ [Ob.cells true 3 0 0 false [.agg [.str l, .int .i64 0, .bool k]]] := by
        unfold rdO
        rw [set_app0]; rfl
      rw [e0] at q2
      rcases ho2 : opR l 0 k with ⟨o, a, ok⟩
      rw [ho2] at q2
      simp only at q2 ⊢
      have hR2 : st.length < (st ++ [Ob.cells true 3 0 0 false [.agg [.str l, .int .i64 0, .bool k]]] ++ g).length := by simp
      have hG2 : Gw (rdO (st ++ [Ob.cells true 3 0 0 false [.agg [.str l, .int .i64 0, .bool k]]] ++ g) st.length l a ok md') 8 d (os.map Opr.enc) := by
        refine hG.keep (by rw [rdO_len]; simp) fun X hX => ?_
        unfold rdO
        rw [at_set _ _ _ _ hR2, if_neg (by omega), List.append_assoc]
        simp only [St.at, List.getD_eq_getElem?_getD, List.getElem?_append_left hX]
      have at2 := rdO_at hR2 l a ok md'
      obtain ⟨d', st', q3, hG3⟩ := hG2.app (by simp; omega) o.enc
      have okd := hG3.okv
      generalize rdO (st ++ [Ob.cells true 3 0 0 false [.agg [.str l, .int .i64 0, .bool k]]] ++ g) st.length l a ok md' = st2 at *
      have hp := i64_map o.rq.nums
      have hp1 := i64_map1 o.rq.nums
      unfold Opr.enc Opr.cells at q2 q3
      have hG3' : Gw st' 8 d' ((os ++ [o]).map Opr.enc) := by simpa using hG3
      have w1 := wrap1 (a := n) (by omega)
      have ot1 := slE_okv 1 .nil (o.rq.nums.map i64)
      have ot2 := slE_fits 1 .nil (o.rq.nums.map i64)
      have ot3 := slE_cells 1 .nil (o.rq.nums.map i64)
      generalize slE 1 .nil (o.rq.nums.map i64) = dn at *
      have nx := fun sl' bx' => ih rest (n + 1) (os ++ [o]) st' d' sl' bx' (by omega) (by omega) (by simp; omega) (by omega)
      unfold i64 at q2 q3
      cases ok with
      | false =>
        rw [if_neg (by simp)]
        simp [h0, h5, h6, e, q1, q2, at2, ot1, ot2, ot3, hp]
        exact ⟨rfl, by simp, by simp [h6], by simp⟩
      | true =>
        by_cases ha : a = l.length
        · rw [if_pos ⟨rfl, ha⟩]
          simp [h0, h5, h6, e, q1, q2, q3, at2, ot1, ot2, ot3, hp, hp1, ha, w1, okd, -Int.natCast_add]
          refine (nx _ _ (by simp) (by simp) (by simp) hG3').mono fun e s' b st' hq => ?_
          unfold Q29 at hq ⊢
          cases hp : parR f rest (n + 1) with
          | ok r =>
            rw [hp] at hq
            simpa using hq
          | error m =>
            rw [hp] at hq
            simpa using hq
        · rw [if_neg (fun h => ha h.2)]
          have ha' : ¬ (a : Int) = l.length := by omega
          simp [h0, h5, h6, e, q1, q2, at2, ot1, ot2, ot3, hp, ha']
          exact ⟨rfl, by simp, by simp [h6], by simp⟩
def parD : Except Nat (List Opr) → D
  | .ok os => .tup [slE 8 .nil (os.map Opr.enc), .int .i64 0, .int .i64 0]
  | .error m => .tup [.nils, .int .i64 m, .int .i64 2]

theorem enc_pure1 (o : Opr) : o.enc.pure = true := by
  cases ho : o.rq.nums <;> simp [Opr.enc, Opr.cells, i64, ho, slE]
theorem encs_pure (os : List Opr) : (slE 8 .nil (os.map Opr.enc)).pure = true := by
  cases os with
  | nil => rfl
  | cons o os => simp [slE, enc_pure1]

theorem c29 (s : List UInt8) (hs : s.length ≤ 30000000) (st : St) : callD T (ev T) 29 [.str s] st = some (parD (parR (s.length + 1) s 1), st) := by
  refine callD_pureR (fn := F29) rfl rfl (by simp) ?_ ?_
  · cases parR (s.length + 1) s 1 with
    | ok os => have := encs_pure os; simp [parD]
    | error m => rfl
  · refine Ret_wp (fn := F29) rfl ?_
    rw [F29]
    simp
    refine WL.use L29_0_p L29_0_w (l29 (s.length + 1) s 1 [] [] .nils _ _ (by omega) hs (by simp; omega) (by omega) (by simp) (by simp) (by simp) (Gw.nil _ _)) ?_
    rintro e s' b st' h hf
    unfold Q29 at h
    cases hp : parR (s.length + 1) s 1 with
    | ok os =>
      rw [hp] at h
      obtain ⟨rfl, d, hd, hG⟩ := h
      obtain ⟨st2, hz⟩ := hG.fz
      have hk := hG.okv.1
      simp only [List.nil_append] at hz
      simp [hd, hk, hz, parD]
    | error m =>
      rw [hp] at h
      obtain ⟨rfl, h2, h3, h4⟩ := h
      simp [h2, h3, h4, parD]

end Go.Nt.Lk

/-
  QUOTED TEXTS AND NUMBERS, PLAINLY: what is printed is read.
  No condition.
-/
set_option linter.unusedSimpArgs false
namespace Go.Nt.Lk
open Go Go.Nt

theorem drop_hd {s : List UInt8} {a : Nat} {x : UInt8} {l : List UInt8} (h : s.drop a = x :: l) : a < s.length ∧ s[a]? = some x ∧ s.drop (a + 1) = l := by
  have h1 : a < s.length := by
    rcases Nat.lt_or_ge a s.length with h2 | h2
    · exact h2
    · rw [List.drop_eq_nil_of_le h2] at h; cases h
  rw [List.drop_eq_getElem_cons h1] at h
  cases h
  exact ⟨h1, List.getElem?_eq_getElem h1, rfl⟩
theorem drop_app {s : List UInt8} {a : Nat} {x l : List UInt8} (h : s.drop a = x ++ l) : s.drop (a + x.length) = l := by
  rw [← List.drop_drop, h]; simp

theorem hv_hexD (n : Nat) (h : n < 16) : hv (hexD n) = n := by
  have : ∀ m : Fin 16, hv (hexD m.1) = m.1 := by decide
  exact this ⟨n, h⟩

theorem esc_qb {s : List UInt8} {a : Nat} {c : UInt8} {R : List UInt8} (h : s.drop a = qb c ++ R) :
    (∃ ha : a < s.length, qb c = [c] ∧ s[a] = c ∧ ch c ≠ 34 ∧ ch c ≠ 92) ∨ (∃ ha : a < s.length, ch s[a] = 92 ∧ esc s (a + 1) = (c, a + (qb c).length)) := by
  have hc := c.toNat_lt
  unfold qb at h ⊢
  by_cases h1 : ch c = 34 ∨ ch c = 92
  · rw [if_pos h1] at h ⊢
    obtain ⟨b1, b2, b3⟩ := drop_hd h
    obtain ⟨c1, c2, _⟩ := drop_hd b3
    rw [List.getElem?_eq_getElem b1] at b2
    rw [List.getElem?_eq_getElem c1] at c2
    simp only [Option.some.injEq] at b2 c2
    refine .inr ⟨b1, by rw [b2]; rfl, ?_⟩
    unfold esc
    rw [dif_pos c1, c2, if_neg (by omega), if_neg (by omega)]
    rfl
  · rw [if_neg h1] at h ⊢
    by_cases h2 : ch c = 10
    · rw [if_pos h2] at h ⊢
      obtain ⟨b1, b2, b3⟩ := drop_hd h
      obtain ⟨c1, c2, _⟩ := drop_hd b3
      rw [List.getElem?_eq_getElem b1] at b2
      rw [List.getElem?_eq_getElem c1] at c2
      simp only [Option.some.injEq] at b2 c2
      refine .inr ⟨b1, by rw [b2]; rfl, ?_⟩
      unfold esc
      rw [dif_pos c1, c2, if_pos (by rfl)]
      have : c = 10 := UInt8.toNat_inj.1 (by simp only [ch] at h2; have : (10 : UInt8).toNat = 10 := rfl; omega)
      rw [this]
      rfl
    · rw [if_neg h2] at h ⊢
      by_cases h3 : 32 ≤ ch c ∧ ch c ≤ 126
      · rw [if_pos h3] at h ⊢
        obtain ⟨b1, b2, b3⟩ := drop_hd h
        rw [List.getElem?_eq_getElem b1] at b2
        simp only [Option.some.injEq] at b2
        exact .inl ⟨b1, rfl, b2, by omega, by omega⟩
      · rw [if_neg h3] at h ⊢
        obtain ⟨b1, b2, b3⟩ := drop_hd h
        obtain ⟨c1, c2, c3⟩ := drop_hd b3
        obtain ⟨d1, d2, d3⟩ := drop_hd c3
        obtain ⟨e1, e2, e3⟩ := drop_hd d3
        rw [List.getElem?_eq_getElem b1] at b2
        rw [List.getElem?_eq_getElem c1] at c2
        rw [List.getElem?_eq_getElem d1] at d2
        rw [List.getElem?_eq_getElem e1] at e2
        simp only [Option.some.injEq] at b2 c2 d2 e2
        refine .inr ⟨b1, by rw [b2]; rfl, ?_⟩
        unfold esc
        rw [dif_pos c1, c2, if_neg (by decide), if_pos (by rfl)]
        have f1 : hex1 s (0, a + 1 + 1) = (c.toNat / 16, a + 1 + 1 + 1) := by
          unfold hex1
          rw [dif_pos d1]
          simp only [d2]
          rw [hv_hexD _ (by omega)]; simp
        have f2 : hex1 s (c.toNat / 16, a + 1 + 1 + 1) = (c.toNat / 16 * 16 + c.toNat % 16, a + 1 + 1 + 1 + 1) := by
          unfold hex1
          rw [dif_pos e1]
          simp only [e2]
          rw [hv_hexD _ (by omega)]
        rw [f1, f2]
        have f3 : c.toNat / 16 * 16 + c.toNat % 16 = c.toNat := by omega
        simp only [f3, UInt8.ofNat_toNat]
        rfl

theorem unqP_quo : ∀ (t : List UInt8) {s : List UInt8} {a : Nat} {R : List UInt8}, s.drop a = qbs t ++ 34 :: R → unqP s a = (t, a + (qbs t).length)
  | [], s, a, R, h => by
    obtain ⟨b1, b2, _⟩ := drop_hd (by simpa [qbs] using h)
    rw [List.getElem?_eq_getElem b1] at b2
    simp only [Option.some.injEq] at b2
    rw [unqP, dif_pos b1, b2]
    rfl
  | c :: t, s, a, R, h => by
    have e : qbs (c :: t) = qb c ++ qbs t := by simp [qbs]
    rw [e, List.append_assoc] at h
    have h2 := unqP_quo t (drop_app h)
    rw [e, List.length_append]
    rcases esc_qb h with ⟨b1, b2, b3, b4, b5⟩ | ⟨b1, b2, b3⟩
    · rw [unqP, dif_pos b1, b3, if_neg b4, if_neg b5]
      rw [b2] at h2 ⊢
      simp only [List.length_cons, List.length_nil, Nat.zero_add] at h2 ⊢
      rw [h2, Nat.add_assoc]
    · rw [unqP, dif_pos b1, if_neg (by omega), if_pos b2, b3]
      simp only
      rw [h2, Nat.add_assoc]

theorem seg_pre {s : List UInt8} {a : Nat} {x R : List UInt8} (h : s.drop a = x ++ R) : seg s a (a + x.length) = x := by
  unfold seg
  rw [List.drop_take, h]; simp

theorem quoted_quo {s t R : List UInt8} {a : Nat} (h : s.drop a = quo t ++ R) : quoted s a = some (t, a + (quo t).length) := by
  have h1 : s.drop a = 34 :: (qbs t ++ 34 :: R) := by rw [h]; simp [quo]
  obtain ⟨_, _, b3⟩ := drop_hd h1
  have h2 := unqP_quo t b3
  have hl : (quo t).length = (qbs t).length + 2 := by simp [quo]
  have e : a + 1 + (qbs t).length + 1 = a + (quo t).length := by omega
  unfold quoted
  rw [h2]
  simp only
  rw [e, seg_pre h, if_pos ⟨by have := congrArg List.length h; rw [List.length_drop, List.length_append] at this; omega, rfl⟩]

theorem runEnd_tw (p : UInt8 → Bool) (s : List UInt8) (a : Nat) : runEnd p s a = a + ((s.drop a).takeWhile p).length := by
  rfl
theorem dig_digit : ∀ (n u : Nat), u < n → (dig u).all digitB = true ∧ dig u ≠ []
  | 0, u, h => by omega
  | n + 1, u, h => by
    have hd : digitB (d10 u) = true := by
      have := ch_d10 u
      unfold digitB
      rw [Bool.and_eq_true, decide_eq_true_eq, decide_eq_true_eq]; omega
    rw [dig]
    split
    · simp [hd]
    · have := dig_digit n (u / 10) (by omega)
      simp [hd, this.1]
theorem dig_fold : ∀ (n u : Nat), u < n → u < 18446744073709551616 → (dig u).foldl nuS 0 = u
  | 0, u, h, _ => by omega
  | n + 1, u, h, h2 => by
    have e := ch_d10 u
    rw [dig]
    split
    · simp only [List.foldl_cons, List.foldl_nil, nuS, e]
      rw [wrapu64 (n := 0 * 10) (by omega) (by omega), wrapu64 (by omega) (by omega)]; omega
    · rw [List.foldl_append, dig_fold n (u / 10) (by omega) (by omega)]
      simp only [List.foldl_cons, List.foldl_nil, nuS, e]
      rw [wrapu64 (n := ((u / 10 : Nat) : Int) * 10) (by omega) (by omega), wrapu64 (by omega) (by omega)]; omega
theorem tw_app {p : UInt8 → Bool} : ∀ {x R : List UInt8}, x.all p = true → (∀ c, R.head? = some c → p c = false) → (x ++ R).takeWhile p = x
  | [], [], _, _ => rfl
  | [], c :: R, _, h2 => by simp [h2 c rfl]
  | c :: x, R, h, h2 => by
    simp only [List.all_cons, Bool.and_eq_true] at h
    simp [h.1, tw_app h.2 h2]

theorem numU_dig {s R : List UInt8} {a u : Nat} (h : s.drop a = dig u ++ R) (hR : ∀ c, R.head? = some c → digitB c = false) (hu : u < 18446744073709551616) : numU s a 0 = u ∧ runEnd digitB s a = a + (dig u).length := by
  have h1 := tw_app (dig_digit (u + 1) u (by omega)).1 hR
  unfold numU
  rw [runEnd_tw, h, h1]
  exact ⟨dig_fold (u + 1) u (by omega) hu, rfl⟩

theorem numR_sdig {s R : List UInt8} {a : Nat} {v : Int} (h : s.drop a = sdig v ++ R) (hR : ∀ c, R.head? = some c → digitB c = false) (h1 : -9223372036854775808 ≤ v) (h2 : v ≤ 9223372036854775807) (ok : Bool) :
    numR s a ok = (v, a + (sdig v).length, ok) := by
  unfold numR
  suffices hs : numA s a = v ∧ numE s a = a + (sdig v).length by
    rw [hs.1, hs.2, seg_pre h]; simp
  unfold numA numE num1
  unfold sdig at h ⊢
  by_cases hn : v < 0
  · rw [if_pos hn] at h ⊢
    obtain ⟨b1, b2, b3⟩ := drop_hd (by simpa using h)
    have hm : minus s a = true := by simp [minus, b2]
    rw [if_pos hm, if_pos hm]
    obtain ⟨c1, c2⟩ := numU_dig b3 hR (by omega)
    rw [c1, c2]
    refine ⟨?_, by simp; omega⟩
    rw [IntKind.wrap_i64, IntKind.wrap_i64]; omega
  · rw [if_neg hn] at h ⊢
    have hm : ¬ minus s a = true := by
      intro hm
      simp only [minus, decide_eq_true_eq] at hm
      obtain ⟨d1, d2⟩ := dig_digit (v.toNat + 1) v.toNat (by omega)
      cases hd : dig v.toNat with
      | nil => exact d2 hd
      | cons x l =>
        rw [hd] at h d1
        obtain ⟨b1, b2, b3⟩ := drop_hd (by simpa using h)
        rw [b2] at hm
        cases hm
        simp [digitB, ch] at d1
    rw [if_neg hm, if_neg hm]
    obtain ⟨c1, c2⟩ := numU_dig h hR (by omega)
    rw [c1, c2]
    refine ⟨?_, rfl⟩
    rw [IntKind.wrap_i64]; omega

theorem bTxt_quo {s t R : List UInt8} {a : Nat} (h : s.drop a = 32 :: (quo t ++ R)) : bTxt s a true = (t, a + 1 + (quo t).length, true) := by
  obtain ⟨b1, b2, b3⟩ := drop_hd h
  have h2 := quoted_quo b3
  obtain ⟨c1, c2, _⟩ := drop_hd (show s.drop (a + 1) = 34 :: (qbs t ++ [34] ++ R) by rw [b3]; simp [quo])
  rw [List.getElem?_eq_getElem c1] at c2
  simp only [Option.some.injEq] at c2
  unfold bTxt
  rw [if_pos ⟨rfl, b2⟩]
  unfold txtR
  rw [dif_pos c1, c2, if_pos (by rfl)]
  unfold quoR
  rw [h2]
theorem bNum_dig {s R : List UInt8} {a : Nat} {v : Int} (h : s.drop a = 32 :: (sdig v ++ R)) (hR : ∀ c, R.head? = some c → digitB c = false) (h1 : -9223372036854775808 ≤ v) (h2 : v ≤ 9223372036854775807) :
    bNum s a true = (v, a + 1 + (sdig v).length, true) := by
  obtain ⟨b1, b2, b3⟩ := drop_hd h
  unfold bNum
  rw [if_pos ⟨rfl, b2⟩, numR_sdig b3 hR h1 h2]
end Go.Nt.Lk

/-
  THE LAW ScriptQuotes, walked and shown.
  No condition.
-/
set_option linter.unusedSimpArgs false
namespace Go.Nt.Lk
open Go Go.Nt

theorem par_undo : parR 6 [117, 110, 100, 111, 10] 1 = .ok [⟨4, [], rq0, 0⟩] := by kernel_rfl
theorem quo_a : quo [97] = [34, 97, 34] := by kernel_rfl

theorem c26 (st : St) : callD T (ev T) 26 [] st = some (.bool true, st) := by
  refine callD_pureQ (fn := F26) rfl rfl (by simp) (by simp) (by intro; rfl) ?_
  refine Ret_wp (fn := F26) rfl ?_
  have q1 := c29 [117, 110, 100, 111, 10] (by simp) []
  have q2 := c27 [97] (by simp) []
  simp only [List.length_cons, List.length_nil, Nat.zero_add, Nat.reduceAdd, par_undo] at q1
  rw [quo_a] at q2
  have e : parD (.ok [⟨4, [], rq0, 0⟩]) = .tup [.sl 8 false [.agg [.int .i64 4, .str [], .int .i64 0, .int .i64 0, .int .i64 0, .str [], .nils, .int .i64 0]], .int .i64 0, .int .i64 0] := rfl
  have x : ∀ fl u, idxAD (.sl 8 fl [.agg u]) 0 8 (some 8) none = if D.fits (.agg u) (some 8) then some (.iptr (.agg u)) else none := fun fl u => rfl
  rw [e] at q1
  rw [F26]
  simp [q1, q2, x]

theorem qb_nl (c : UInt8) : (10 : UInt8) ∉ qb c := by
  have hx : ∀ m, m < 16 → hexD m ≠ 10 := by
    have : ∀ m : Fin 16, hexD m.1 ≠ 10 := by decide
    exact fun m h => this ⟨m, h⟩
  have hc := c.toNat_lt
  have h1 := hx (c.toNat / 16) (by omega)
  have h2 := hx (c.toNat % 16) (by omega)
  unfold qb
  by_cases g1 : ch c = 34 ∨ ch c = 92
  · rw [if_pos g1]
    have : (10 : UInt8) ≠ c := by rintro rfl; simp [ch] at g1
    simp [this]
  · rw [if_neg g1]
    by_cases g2 : ch c = 10
    · rw [if_pos g2]; decide
    · rw [if_neg g2]
      have : (10 : UInt8) ≠ c := by rintro rfl; exact g2 rfl
      split
      · simp [this]
      · simp [Ne.symm h1, Ne.symm h2]
theorem quo_nl (t : List UInt8) : (10 : UInt8) ∉ quo t := by
  unfold quo qbs
  simp only [List.mem_cons, List.mem_append, List.mem_flatMap, not_or, not_exists, not_and]
  refine ⟨by decide, ⟨fun x _ => qb_nl x, by decide⟩⟩

theorem cutB_app (c : UInt8) : ∀ (x r : List UInt8), c ∉ x → cutB c (x ++ c :: r) = some (x, r)
  | [], r, _ => by simp [cutB]
  | y :: x, r, h => by
    simp only [List.mem_cons, not_or] at h
    rw [List.cons_append, cutB, if_neg (Ne.symm h.1), cutB_app c x r h.2]; rfl
theorem cutN_app (x r : List UInt8) (h : (10 : UInt8) ∉ x) : cutN (x ++ 10 :: r) = (x, r, true) := by
  unfold cutN; rw [cutB_app 10 x r h]

theorem word_pre {w R : List UInt8} (hw : w.all wordB = true) (hR : ∀ c, R.head? = some c → wordB c = false) : runEnd wordB (w ++ R) 0 = w.length ∧ seg (w ++ R) 0 w.length = w := by
  refine ⟨by rw [runEnd_tw, List.drop_zero, tw_app hw hR, Nat.zero_add], by unfold seg; simp⟩

/-- An operation that bears a text, read. -/
theorem opR_note (t : List UInt8) : opR ([110, 111, 116, 101] ++ 32 :: quo t) 0 true = (⟨5, t, rq0, 0⟩, ([110, 111, 116, 101] ++ 32 :: quo t).length, true) := by
  obtain ⟨h1, h2⟩ := word_pre (w := [110, 111, 116, 101]) (R := 32 :: quo t) (by decide) (by intro c h; cases h; decide)
  have h3 := bTxt_quo (s := [110, 111, 116, 101] ++ 32 :: quo t) (a := ([110, 111, 116, 101] : List UInt8).length) (t := t) (R := []) (by simp)
  unfold opR
  rw [h1, h2, if_neg (by decide), if_pos rfl, h3]
  simp; omega

theorem par_note (t : List UInt8) (f : Nat) : parR (f + 2) ([110, 111, 116, 101, 32] ++ quo t ++ [10]) 1 = .ok [⟨5, t, rq0, 0⟩] := by
  have e : [110, 111, 116, 101, 32] ++ quo t ++ [10] = ([110, 111, 116, 101] ++ 32 :: quo t) ++ 10 :: [] := by simp
  have hn : (10 : UInt8) ∉ [110, 111, 116, 101] ++ 32 :: quo t := by simp [quo_nl]
  rw [e]
  unfold parR
  rw [if_neg (by simp), cutN_app _ _ hn]
  simp only
  rw [opR_note]
  simp only
  rw [if_pos (by simp)]
  unfold parR
  simp

theorem ev8 (s : List UInt8) : ∃ st', ev T 8 [.str s] [] = some (.bool true, st') := by
  suffices h : Ret (ev T 8 [.str s] []) fun r _ => r = .bool true by
    obtain ⟨r, st', h1, rfl⟩ := h
    exact ⟨st', h1⟩
  refine Ret_wp (fn := F8) rfl ?_
  have qa := c26
  rw [F8]
  by_cases hs : s.length ≤ 2000
  · have hq := qbs_len s
    have hl : (quo s).length = (qbs s).length + 2 := by simp [quo]
    have q1 := c27 s (by omega)
    have q2 := c28 s (by omega)
    have q3 := c29 ([110, 111, 116, 101, 32] ++ quo s ++ [10]) (by simp only [List.length_append, List.length_cons, List.length_nil]; omega)
    obtain ⟨f, hf⟩ : ∃ f, ([110, 111, 116, 101, 32] ++ quo s ++ [10]).length + 1 = f + 2 := ⟨([110, 111, 116, 101, 32] ++ quo s ++ [10]).length - 1, by simp⟩
    rw [hf, par_note] at q3
    have e : parD (.ok [⟨5, s, rq0, 0⟩]) = .tup [.sl 8 false [.agg [.int .i64 5, .str s, .int .i64 0, .int .i64 0, .int .i64 0, .str [], .nils, .int .i64 0]], .int .i64 0, .int .i64 0] := rfl
    have x : ∀ fl u, idxAD (.sl 8 fl [.agg u]) 0 8 (some 8) none = if D.fits (.agg u) (some 8) then some (.iptr (.agg u)) else none := fun fl u => rfl
    rw [e] at q3
    have h1 : 5 + (quo s).length ≤ 134217728 := by omega
    have h2 : (quo s).length + 5 + 1 ≤ 134217728 := by omega
    have hs' : ¬ 2000 < (s.length : Int) := by omega
    generalize quo s = qq at *
    simp only [List.cons_append, List.nil_append] at q3
    simp [hs', q1, q2, q3, h1, h2, x, qa]
  · have hs' : 2000 < (s.length : Int) := by omega
    simp [hs', qa]
end Go.Nt.Lk
