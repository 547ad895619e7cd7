/-
  THE LEXERS, WALKED (5): the values of digits.
  No condition.
-/
import Derived.Test.YtpfdoelhoiohdaaLkLex4
set_option linter.unusedSimpArgs false
namespace Go.Nt.Lk
open Go Go.Nt

def digits (l : List UInt8) : Prop := ∀ c, c ∈ l → 48 ≤ ch c ∧ ch c ≤ 57

theorem take_tw (p : UInt8 → Bool) : ∀ l : List UInt8, l.take (l.takeWhile p).length = l.takeWhile p
  | [] => rfl
  | c :: l => by
    cases h : p c with
    | true => rw [List.takeWhile_cons_of_pos h, List.length_cons, List.take_succ_cons, take_tw p l]
    | false => rw [List.takeWhile_cons_of_neg (by simp [h])]; rfl
theorem mem_tw (p : UInt8 → Bool) {c : UInt8} : ∀ {l : List UInt8}, c ∈ l.takeWhile p → p c = true
  | [], h => by simp at h
  | x :: l, h => by
    cases hx : p x with
    | true =>
      rw [List.takeWhile_cons_of_pos hx, List.mem_cons] at h
      rcases h with rfl | h
      · exact hx
      · exact mem_tw p h
    | false => rw [List.takeWhile_cons_of_neg (by simp [hx])] at h; simp at h

theorem seg_run (p : UInt8 → Bool) (s : List UInt8) (a : Nat) : seg s a (runEnd p s a) = (s.drop a).takeWhile p := by
  unfold seg runEnd
  rw [List.drop_take, Nat.add_sub_cancel_left, take_tw]

theorem digits_take (s : List UInt8) (a : Nat) : digits (seg s a (runEnd digitB s a)) := by
  rw [seg_run]
  intro c hc
  have := mem_tw digitB hc
  simpa [digitB] using this

theorem numV_cons (c : UInt8) (l : List UInt8) (v : Int) : numV (c :: l) v = numV l (v * 10 + (ch c - 48)) := rfl
theorem le_numV : ∀ (l : List UInt8) (v : Int), digits l → 0 ≤ v → v ≤ numV l v
  | [], v, _, _ => Int.le_refl v
  | c :: l, v, h, hv => by
    have hc := h c (by simp)
    have := le_numV l (v * 10 + (ch c - 48)) (fun x hx => h x (by simp [hx])) (by omega)
    rw [numV_cons]
    omega
theorem numV_lt : ∀ (l : List UInt8) (v : Int), digits l → 0 ≤ v → numV l v < (v + 1) * 10 ^ l.length
  | [], v, _, _ => by simp [numV]; omega
  | c :: l, v, h, hv => by
    have hc := h c (by simp)
    have := numV_lt l (v * 10 + (ch c - 48)) (fun x hx => h x (by simp [hx])) (by omega)
    rw [numV_cons, List.length_cons, Int.pow_succ]
    have h10 : (0 : Int) < 10 ^ l.length := Int.pow_pos (by omega)
    have h2 : (v * 10 + (ch c - 48) + 1) * 10 ^ l.length ≤ ((v + 1) * 10) * 10 ^ l.length := Int.mul_le_mul_of_nonneg_right (by omega) (by omega)
    have h3 : (v + 1) * (10 ^ l.length * 10) = ((v + 1) * 10) * 10 ^ l.length := by rw [Int.mul_comm (10 ^ l.length), Int.mul_assoc]
    omega

theorem wrapU8 (n : Int) (h : 0 ≤ n) (h' : n < 256) : IntKind.wrap .u8 n = n := by
  simp [IntKind.wrap, IntKind.bits, IntKind.signed]; omega
theorem wrapU64 (n : Int) (h : 0 ≤ n) (h' : n < 18446744073709551616) : IntKind.wrap .u64 n = n := by
  simp [IntKind.wrap, IntKind.bits, IntKind.signed]; omega

theorem l130 (d : List UInt8) (hd : digits d) (hl : d.length ≤ 8192) (st : St) :
    ∀ (r i : Nat) (v : Int) (sl : List D) (bx : List (Nat × List D)), r = d.length - i → i ≤ d.length → 0 ≤ v → numV (d.drop i) v < 18446744073709551616 → get sl 4 = .str d → get sl 29 = .i d.length → get sl 30 = .int .i64 i → get sl 5 = .int .u64 v →
    Stops (lp T L130_0 ⟨⟨sl, bx⟩, st⟩) fun e s' _ st' => st' = st ∧ e = .exit 0 ∧ get s' 5 = .int .u64 (numV (d.drop i) v) ∧ get s' 0 = get sl 0 ∧ get s' 3 = get sl 3 := by
  intro r
  induction r with
  | zero =>
    intro i v sl bx hr hi hv hb h4 h29 h30 h5
    have e : i = d.length := by omega
    subst e
    rw [lp_kL, L130_0, List.drop_length]
    simp [h4, h29, h30, h5, numV]
  | succ r ih =>
    intro i v sl bx hr hi hv hb h4 h29 h30 h5
    have hlt : i < d.length := by omega
    rw [lp_kL, L130_0]
    have w : IntKind.wrap .i64 ((i : Int) + 1) = ((i + 1 : Nat) : Int) := wrap_add (n := 1) (by omega) (by omega)
    have hc := hd d[i] (List.getElem_mem hlt)
    rw [List.drop_eq_getElem_cons hlt, numV_cons] at hb ⊢
    have hle := le_numV (d.drop (i + 1)) (v * 10 + (ch d[i] - 48)) (fun x hx => hd x (List.mem_of_mem_drop hx)) (by omega)
    have w1 : IntKind.wrap .u64 (v * 10) = v * 10 := wrapU64 _ (by omega) (by omega)
    have w2 : IntKind.wrap .u8 (ch d[i] - 48) = ch d[i] - 48 := wrapU8 _ (by omega) (by omega)
    have w3 : IntKind.wrap .u64 (ch d[i] - 48) = ch d[i] - 48 := wrapU64 _ (by omega) (by omega)
    have w4 : IntKind.wrap .u64 (v * 10 + (ch d[i] - 48)) = v * 10 + (ch d[i] - 48) := wrapU64 _ (by omega) (by omega)
    simp [h4, h29, h30, h5, hlt, byteD, w, w1, w2, w3, w4, -Int.natCast_add]
    rw [← L130_0]
    refine (ih (i + 1) _ _ _ (by omega) (by omega) (by omega) hb ?_ ?_ ?_ ?_).mono ?_
    · simp [h4]
    · simp [h29]
    · simp
    · simp
    · rintro e s' b' st' ⟨rfl, rfl, k5, k0, k3⟩
      refine ⟨rfl, rfl, k5, ?_, ?_⟩
      · rw [k0]; simp
      · rw [k3]; simp

end Go.Nt.Lk
