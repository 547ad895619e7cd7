/-
  THE LEXERS, WALKED (7): the reader's tokens; the program's lexer.
  No condition.
-/
import Derived.Test.YtpfdoelhoiohdaaLkLex6
set_option linter.unusedSimpArgs false
namespace Go.Nt.Lk
open Go Go.Nt

def outD : List Tok → D
  | [] => .nils
  | _ :: r => .rs 1 r.length 5 0 (r.length + 1) false
def outS : List Tok → St
  | [] => []
  | t :: r => [.cells false 5 r.length r.length false ((t :: r).map Tok.enc)]
def rs (m : Nat) (s : List UInt8) (a : Nat) (ts : List Tok) : St := rsO m s a (outD ts) :: outS ts

theorem grow1 (ob : Ob) (ts : List Tok) (t : Tok) (h : ts.length ≤ 10000) : appendD (ob :: outS ts) (outD ts) [t.enc] 5 = some (outD (ts ++ [t]), ob :: outS (ts ++ [t])) := by
  cases ts with
  | nil => simp [appendD, outD, outS, most]
  | cons u r =>
    simp only [List.length_cons] at h
    have h' : r.length + 1 ≤ most := by unfold most; omega
    have ht : r.length + 1 < tagB := by unfold tagB; omega
    simp [appendD, outD, outS, most] at h' ⊢
    simp [h', ht]
    exact List.take_of_length_le (by simp)

@[simp] theorem outD_okv (ts : List Tok) : (outD ts).okv = true := by cases ts <;> rfl
@[simp] theorem outD_cells (ts : List Tok) : (outD ts).cells = [outD ts] := by cases ts <;> rfl
@[simp] theorem outD_fits (ts : List Tok) : (outD ts).fits none = true := by cases ts <;> rfl

theorem e87 (m : Nat) (s : List UInt8) (a : Nat) (ts : List Tok) (k n : Int) (sg : List UInt8) (f : Nat) (h : ts.length ≤ 10000) :
    callD T (ev T) 87 [rp, .int .i64 k, .int .i64 n, .str sg, .int .i64 f] (rs m s a ts) = some (.tup [], rs (m + 1) s a (ts ++ [⟨k, n, sg, f, a⟩])) := by
  rw [callD_raw (fn := F87) rfl rfl (by simp), ev_eq 87 F87 rfl, F87]
  have q := fun ob => grow1 ob ts ⟨k, n, sg, f, a⟩ h
  simp only [Tok.enc] at q
  have e : (⟨k, n, sg, f, a⟩ : Tok).enc = .agg [.int .i64 k, .int .i64 n, .str sg, .int .i64 f, .int .i64 a] := rfl
  simp [rs, rsO, q, splice, srcD, listD, kHs]

theorem chAt_drop (s : List UInt8) (a b : Nat) (h : a < b) : chAt (seg s a b) 0 = chAt s a := by
  unfold chAt seg
  rw [List.getElem?_drop, Nat.add_zero, List.getElem?_take_of_lt h]

theorem seg_len (s : List UInt8) (a b : Nat) (hb : b ≤ s.length) : (seg s a b).length = b - a := by
  unfold seg; rw [List.length_drop, List.length_take, Nat.min_eq_left hb]

/-- What a reader comes to at one token. -/
def After (s : List UInt8) (a : Nat) (ts : List Tok) (e : Int) (st' : St) : Prop :=
  match oneT s a with
  | .inl t => e = 0 ∧ ∃ m', st' = rs m' s t.t (ts ++ [t])
  | .inr e' => e = e' ∧ e' ≠ 0 ∧ ∃ m' a' ts', st' = rs m' s a' ts'

theorem e128 (m : Nat) (s : List UInt8) (hs : s.length ≤ 8192) (a : Nat) (ha : a < s.length) (ts : List Tok) (h : ts.length ≤ 10000) (hl : letterB s[a] = true) :
    Ret (ev T 128 [rp] (rs m s a ts)) fun r st => ∃ e, r = .int .i64 e ∧ After s a ts e st := by
  have hO : oneT s a = if 16 < runEnd moreB s a - a then .inr 3 else .inl ⟨if isWordB (seg s a (runEnd moreB s a)) then 3 else 1, 0, seg s a (runEnd moreB s a), a, runEnd moreB s a⟩ := by
    unfold oneT; rw [List.getElem?_eq_getElem ha]; simp [hl]
  obtain ⟨m', q⟩ := e125 moreB 144 c144 s hs (outD ts) (outS ts) a m (by omega)
  have q' : callD T (ev T) 125 [rp, .fn 144 [rp] []] (rs m s a ts) = some (.str (seg s a (runEnd moreB s a)), rs m' s (runEnd moreB s a) ts) := by
    rw [callD_raw (fn := F125) rfl rfl (by simp)]; exact q
  have hlen := seg_len s a (runEnd moreB s a) (runEnd_le _ _ (by omega))
  have c16 : ∀ k : Nat, ((16 : Int) < k) = (16 < k) := fun k => propext (by omega)
  rw [ev_eq 128 F128 rfl, F128]
  unfold After
  rw [hO]
  have g0 : ∀ M A, rs M s A ts = Ob.cells true 3 0 M false [.agg [.str s, .int .i64 A, outD ts]] :: outS ts := fun _ _ => rfl
  by_cases h16 : 16 < runEnd moreB s a - a
  · rw [g0 m a] at q' ⊢
    simp [q', hlen, c16, h16]
    exact ⟨_, _, _, rfl⟩
  · have q2 := c145 (seg s a (runEnd moreB s a)) (rs m' s (runEnd moreB s a) ts)
    have q3 := fun k => e87 m' s (runEnd moreB s a) ts k 0 (seg s a (runEnd moreB s a)) a h
    rw [g0 m a] at q' ⊢
    cases hw : isWordB (seg s a (runEnd moreB s a)) with
    | true =>
      rw [hw] at q2
      simp [q', hlen, c16, h16, q2, q3]
      exact ⟨_, rfl⟩
    | false =>
      rw [hw] at q2
      simp [q', hlen, c16, h16, q2, q3]
      exact ⟨_, rfl⟩

theorem num_long (c : UInt8) (t : List UInt8) (hd : digits (c :: t)) (hc : ch c ≠ 48) (hl : 19 ≤ t.length) : 9223372036854775807 < numV (c :: t) 0 := by
  have hge : ∀ (l : List UInt8) (v : Int), digits l → 0 ≤ v → v * 10 ^ l.length ≤ numV l v := by
    intro l
    induction l with
    | nil => intro v _ _; simp [numV]
    | cons x l ih =>
      intro v h hv
      have hx := h x (by simp)
      have := ih (v * 10 + (ch x - 48)) (fun y hy => h y (by simp [hy])) (by omega)
      rw [numV_cons, List.length_cons, Int.pow_succ]
      have h10 : (0 : Int) < 10 ^ l.length := Int.pow_pos (by omega)
      have h2 : (v * 10) * 10 ^ l.length ≤ (v * 10 + (ch x - 48)) * 10 ^ l.length := Int.mul_le_mul_of_nonneg_right (by omega) (by omega)
      have h3 : v * (10 ^ l.length * 10) = (v * 10) * 10 ^ l.length := by rw [Int.mul_comm (10 ^ l.length), Int.mul_assoc]
      omega
  have hx := hd c (by simp)
  have h1 := hge t (ch c - 48) (fun y hy => hd y (by simp [hy])) (by omega)
  rw [numV_cons]
  have e : (0 * 10 + (ch c - 48) : Int) = ch c - 48 := by omega
  rw [e]
  obtain ⟨k, hk⟩ : ∃ k, t.length = 19 + k := ⟨t.length - 19, by omega⟩
  rw [hk, Int.pow_add] at h1
  have h10 : (0 : Int) < 10 ^ k := Int.pow_pos (by omega)
  have h2 : (10 : Int) ^ 19 * 1 ≤ 10 ^ 19 * 10 ^ k := Int.mul_le_mul_of_nonneg_left (by omega) (by decide)
  have h3 : 1 * (10 ^ 19 * 10 ^ k) ≤ (ch c - 48) * (10 ^ 19 * 10 ^ k) := Int.mul_le_mul_of_nonneg_right (by omega) (by omega)
  have h4 : (10 : Int) ^ 19 = 10000000000000000000 := by decide
  omega

theorem e130 (m : Nat) (s : List UInt8) (hs : s.length ≤ 8192) (a : Nat) (ha : a < s.length) (ts : List Tok) (h : ts.length ≤ 10000) (hl : letterB s[a] = false) (hd : digitB s[a] = true) :
    Ret (ev T 130 [rp] (rs m s a ts)) fun r st => ∃ e, r = .int .i64 e ∧ After s a ts e st := by
  have hO : oneT s a = if (1 < runEnd digitB s a - a ∧ ch s[a] = 48) ∨ 9223372036854775807 < numV (seg s a (runEnd digitB s a)) 0 then .inr 5 else .inl ⟨2, numV (seg s a (runEnd digitB s a)) 0, [], a, runEnd digitB s a⟩ := by
    unfold oneT; rw [List.getElem?_eq_getElem ha]; simp [hl, hd]
  obtain ⟨m', q⟩ := e125 digitB 129 c129 s hs (outD ts) (outS ts) a m (by omega)
  have q' : callD T (ev T) 125 [rp, .fn 129 [rp] []] (rs m s a ts) = some (.str (seg s a (runEnd digitB s a)), rs m' s (runEnd digitB s a) ts) := by
    rw [callD_raw (fn := F125) rfl rfl (by simp)]; exact q
  have hlen := seg_len s a (runEnd digitB s a) (runEnd_le _ _ (by omega))
  have hgo : a < runEnd digitB s a := by rw [runEnd_go ha hd]; exact le_runEnd _ _ _
  have hend := runEnd_le digitB s (Nat.le_of_lt ha)
  have hch := chAt_drop s a (runEnd digitB s a) hgo
  have hdg := digits_take s a
  have hca : chAt s a = ch s[a] := by unfold chAt; rw [List.getElem?_eq_getElem ha]
  rw [hca] at hch
  have q3 := fun n => e87 m' s (runEnd digitB s a) ts 2 n [] a h
  rw [ev_eq 130 F130 rfl, F130]
  unfold After
  rw [hO]
  clear hO q hca
  generalize hB : runEnd digitB s a = b at *
  generalize hD : seg s a b = d at *
  have c19 : ∀ k : Nat, ((19 : Int) < k) = (19 < k) := fun k => propext (by omega)
  have c1 : ∀ k : Nat, ((1 : Int) < k) = (1 < k) := fun k => propext (by omega)
  have hne : d ≠ [] := by intro e; rw [e] at hlen; simp at hlen; omega
  obtain ⟨c, t, rfl⟩ := List.exists_cons_of_ne_nil hne
  have hc : ch c = ch s[a] := hch
  have g0 : ∀ M A, rs M s A ts = Ob.cells true 3 0 M false [.agg [.str s, .int .i64 A, outD ts]] :: outS ts := fun _ _ => rfl
  rw [g0 m a] at q' ⊢
  simp only [List.length_cons] at hlen
  have c19' : ((19 : Int) < (t.length : Int) + 1) = (18 < t.length) := propext (by omega)
  have c1' : ((1 : Int) < (t.length : Int) + 1) = (0 < t.length) := propext (by omega)
  have l1 : (1 < b - a) = (0 < t.length) := propext (by omega)
  simp only [l1, ← hc]
  by_cases h19 : 18 < t.length
  · have h0 : 0 < t.length := by omega
    have bad : (0 < t.length ∧ ch c = 48) ∨ 9223372036854775807 < numV (c :: t) 0 := by
      by_cases hz : ch c = 48
      · exact .inl ⟨h0, hz⟩
      · exact .inr (num_long c t hdg hz (by omega))
    rw [if_pos bad]
    simp [q', c19', h19]
    exact ⟨_, _, _, rfl⟩
  · by_cases hz : 0 < t.length ∧ ch c = 48
    · rw [if_pos (.inl hz)]
      simp [q', c19', c1', h19, hz.1, hz.2, byteD]
      exact ⟨_, _, _, rfl⟩
    · have hlt := numV_lt (c :: t) 0 hdg (by omega)
      have h64 : numV (c :: t) 0 < 18446744073709551616 := by
        have h5 : (10 : Nat) ^ (c :: t).length ≤ 10 ^ 19 := Nat.pow_le_pow_right (by omega) (by rw [List.length_cons]; omega)
        have h6 : ((10 : Int) ^ (c :: t).length) = ((10 ^ (c :: t).length : Nat) : Int) := by rw [Int.natCast_pow]; rfl
        have h4 : (10 : Int) ^ 19 = 10000000000000000000 := by decide
        rw [Int.zero_add, Int.one_mul] at hlt
        omega
      have hnn := le_numV (c :: t) 0 hdg (by omega)
      have fin : ∀ (sl : List D) (bx : List (Nat × List D)), get sl 4 = .str (c :: t) → get sl 29 = .i (c :: t).length → get sl 30 = .int .i64 (0 : Nat) → get sl 5 = .int .u64 0 → _ :=
        fun sl bx h4 h29 h30 h5 => l130 (c :: t) hdg (by rw [List.length_cons]; omega) (rs m' s b ts) _ 0 0 sl bx rfl (by simp) (by omega) h64 h4 h29 h30 h5
      have hz' : ¬ (0 < t.length ∧ ch c = 48) := hz
      rw [List.drop_zero] at fin
      by_cases h0 : 0 < t.length
      · have hz2 : ¬ ch c = 48 := fun e => hz ⟨h0, e⟩
        simp [q', c19', c1', h19, h0, hz2, byteD]
        refine (fin _ _ ?_ ?_ ?_ ?_).use (fun r => Ret (kfin _ (kseq _ (kblock 0 r))) _) ?_
        · simp
        · simp
        · simp
        · simp
        · rintro e s' b' st' ⟨rfl, rfl, k5, k0, k3⟩
          simp at k0 k3
          by_cases hbig : 9223372036854775807 < numV (c :: t) 0
          · simp [k5, hbig]
            exact ⟨_, _, _, rfl⟩
          · have w : IntKind.wrap .i64 (numV (c :: t) 0) = numV (c :: t) 0 := wrap64 _ (by omega) (by omega)
            simp [k5, hbig, w, q3, k0, k3, hz2]
            exact ⟨_, rfl⟩
      · simp [q', c19', c1', h19, h0, byteD]
        refine (fin _ _ ?_ ?_ ?_ ?_).use (fun r => Ret (kfin _ (kseq _ (kblock 0 r))) _) ?_
        · simp
        · simp
        · simp
        · simp
        · rintro e s' b' st' ⟨rfl, rfl, k5, k0, k3⟩
          simp at k0 k3
          by_cases hbig : 9223372036854775807 < numV (c :: t) 0
          · simp [k5, hbig]
            exact ⟨_, _, _, rfl⟩
          · have w : IntKind.wrap .i64 (numV (c :: t) 0) = numV (c :: t) 0 := wrap64 _ (by omega) (by omega)
            simp [k5, hbig, w, q3, k0, k3, h0]
            exact ⟨_, rfl⟩

end Go.Nt.Lk
