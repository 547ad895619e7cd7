/-
  THE LEXERS, WALKED (6): numbers, the reader's tokens.
  No condition.
-/
import Derived.Test.YtpfdoelhoiohdaaLkLex5
set_option linter.unusedSimpArgs false
namespace Go.Nt.Lk
open Go Go.Nt

theorem l83 (d : List UInt8) (hd : digits d) (hl : d.length ≤ 8192) :
    ∀ (r i : Nat) (v : Int) (sl : List D) (bx : List (Nat × List D)), r = d.length - i → i ≤ d.length → 0 ≤ v → v ≤ 9223372036854775807 → get sl 0 = .str d → get sl 5 = .int .i64 i → get sl 4 = .int .i64 v →
    Stops (lp T L83_0 ⟨⟨sl, bx⟩, []⟩) fun e s' _ st' => st' = [] ∧ ((e = .exit 0 ∧ numV (d.drop i) v ≤ 9223372036854775807 ∧ get s' 4 = .int .i64 (numV (d.drop i) v)) ∨ (e = .ret ∧ 9223372036854775807 < numV (d.drop i) v ∧ get s' 2 = .i 0 ∧ get s' 3 = .bool false)) := by
  intro r
  induction r with
  | zero =>
    intro i v sl bx hr hi hv hv2 h0 h5 h4
    have e : i = d.length := by omega
    subst e
    rw [lp_kL, L83_0, List.drop_length]
    simp [h4, h0, h5, numV, hv2]
  | succ r ih =>
    intro i v sl bx hr hi hv hv2 h0 h5 h4
    have hlt : i < d.length := by omega
    rw [lp_kL, L83_0]
    have w : IntKind.wrap .i64 ((i : Int) + 1) = ((i + 1 : Nat) : Int) := wrap_add (n := 1) (by omega) (by omega)
    have hc := hd d[i] (List.getElem_mem hlt)
    rw [List.drop_eq_getElem_cons hlt, numV_cons]
    have w2 : IntKind.wrap .u8 (ch d[i] - 48) = ch d[i] - 48 := wrapU8 _ (by omega) (by omega)
    have w3 : IntKind.wrap .i64 (ch d[i] - 48) = ch d[i] - 48 := wrap64 _ (by omega) (by omega)
    have w4 : IntKind.wrap .i64 (9223372036854775807 - (ch d[i] - 48)) = 9223372036854775807 - (ch d[i] - 48) := wrap64 _ (by omega) (by omega)
    have w5 : (9223372036854775807 - (ch d[i] - 48)).tdiv 10 = (9223372036854775807 - (ch d[i] - 48)) / 10 := Int.tdiv_eq_ediv_of_nonneg (by omega)
    have w6 : IntKind.wrap .i64 ((9223372036854775807 - (ch d[i] - 48)) / 10) = (9223372036854775807 - (ch d[i] - 48)) / 10 := wrap64 _ (by omega) (by omega)
    by_cases hq : (9223372036854775807 - (ch d[i] - 48)) / 10 < v
    · have hle := le_numV (d.drop (i + 1)) (v * 10 + (ch d[i] - 48)) (fun x hx => hd x (List.mem_of_mem_drop hx)) (by omega)
      have hgt : 9223372036854775807 < numV (d.drop (i + 1)) (v * 10 + (ch d[i] - 48)) := by omega
      simp [h4, h0, h5, hlt, byteD, w, w2, w3, w4, w5, w6, hq, hgt, -Int.natCast_add]
    · have w7 : IntKind.wrap .i64 (v * 10) = v * 10 := wrap64 _ (by omega) (by omega)
      have w8 : IntKind.wrap .i64 (v * 10 + (ch d[i] - 48)) = v * 10 + (ch d[i] - 48) := wrap64 _ (by omega) (by omega)
      simp [h4, h0, h5, hlt, byteD, w, w2, w3, w4, w5, w6, w7, w8, hq, -Int.natCast_add]
      rw [← L83_0]
      refine (ih (i + 1) _ _ _ (by omega) (by omega) (by omega) (by omega) ?_ ?_ ?_).mono fun e s' b' st' h => h
      · simp [h0]
      · simp
      · simp

def numOK (d : List UInt8) : Bool := !(decide (1 < d.length) && decide (chAt d 0 = 48)) && decide (numV d 0 ≤ 9223372036854775807)

theorem c83 (d : List UInt8) (hd : digits d) (hn : d ≠ []) (hl : d.length ≤ 8192) (st : St) : callD T (ev T) 83 [.str d] st = some (.tup [.i (if numOK d then numV d 0 else 0), .bool (numOK d)], st) := by
  refine callD_pure (fn := F83) rfl rfl (by simp) (r := .tup [.i (if numOK d then numV d 0 else 0), .bool (numOK d)]) (st1 := []) (st2 := []) ?_ (by simp [fz, fzL]) (by simp [D.pureT])
  rw [ev_eq 83 F83 rfl, F83]
  obtain ⟨c, t, rfl⟩ := List.exists_cons_of_ne_nil hn
  have hch : chAt (c :: t) 0 = ch c := rfl
  have c1 : ((1 : Int) < (t.length : Int) + 1) = (0 < t.length) := propext (by omega)
  have step : ∀ (sl : List D) (bx : List (Nat × List D)), get sl 0 = .str (c :: t) → get sl 5 = .i 0 → get sl 4 = .i 0 → _ := fun sl bx h0 h5 h4 => l83 (c :: t) hd hl _ 0 0 sl bx rfl (by simp) (by omega) (by omega) h0 h5 h4
  by_cases h1 : 0 < t.length
  · by_cases h2 : ch c = 48
    · simp [c1, h1, h2, byteD, numOK, hch]
    · simp [c1, h1, h2, byteD]
      refine (step _ _ ?_ ?_ ?_).use (fun r => kfin _ (kseq _ (kblock 0 r)) = _) ?_
      · simp
      · simp
      · simp
      · rintro e s' b' st ⟨rfl, ⟨rfl, g1, g2⟩ | ⟨rfl, g1, g2, g3⟩⟩
        · rw [List.drop_zero] at g1 g2
          simp [g2, numOK, hch, h2, g1]
        · rw [List.drop_zero] at g1
          have : ¬ numV (c :: t) 0 ≤ 9223372036854775807 := by omega
          simp [g2, g3, numOK, hch, h2, this]
  · simp [c1, h1, byteD]
    refine (step _ _ ?_ ?_ ?_).use (fun r => kfin _ (kseq _ (kblock 0 r)) = _) ?_
    · simp
    · simp
    · simp
    · rintro e s' b' st ⟨rfl, ⟨rfl, g1, g2⟩ | ⟨rfl, g1, g2, g3⟩⟩
      · rw [List.drop_zero] at g1 g2
        simp [g2, numOK, hch, h1, g1]
      · rw [List.drop_zero] at g1
        have : ¬ numV (c :: t) 0 ≤ 9223372036854775807 := by omega
        simp [g2, g3, numOK, hch, this]

end Go.Nt.Lk
