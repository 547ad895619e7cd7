/-
  THE BUILDER OF STRINGS IN THE MACHINE: WriteString, Len, String.
  No condition.
-/
import Derived.Test.YtpfdoelhoiohdaaLkLex11
import Derived.Test.YtpfdoelhoiohdaaNtHeap
set_option linter.unusedSimpArgs false
namespace Go.Nt.Lk
open Go Go.Nt

/-- A builder that holds these bytes. -/
def Bd (st : St) (B : Nat) (out : List UInt8) (k : Nat) : Prop :=
  B < st.length ∧ ∃ m p buf, St.at st B = .cells true 2 (86 * tagB) m false [.agg [p, buf]] ∧ (p = .nilp ∨ p = .hp B (86 * tagB) 2 0 0) ∧
    ((out = [] ∧ buf = .nils) ∨ ∃ b md j, out ≠ [] ∧ buf = .rs b (6 * tagB + j) 1 0 out.length false ∧ j ≤ k ∧ b < st.length ∧ b ≠ B ∧ St.at st b = .cells false 1 (6 * tagB + j) md false (out.map byteD))

/-- All boxes of one cell are as they were. -/
def Keep (st st' : St) : Prop := st.length ≤ st'.length ∧ ∀ id v m fr e, id < st.length → St.at st id = .cells true 1 v m fr e → St.at st' id = .cells true 1 v m fr e

theorem Keep.refl (st : St) : Keep st st := ⟨Nat.le_refl _, fun _ _ _ _ _ _ h => h⟩
theorem Keep.trans {a b c : St} (h : Keep a b) (k : Keep b c) : Keep a c := ⟨Nat.le_trans h.1 k.1, fun id v m fr e hi ha => k.2 id v m fr e (Nat.lt_of_lt_of_le hi h.1) (h.2 id v m fr e hi ha)⟩
theorem Keep.app (st : St) (o : Ob) : Keep st (st ++ [o]) := ⟨by simp, fun id v m fr e hi ha => by rw [at_left st o id hi]; exact ha⟩
theorem Keep.set (st : St) (id : Nat) (o : Ob) (hi : id < st.length) (h : ∀ v m fr e, St.at st id ≠ .cells true 1 v m fr e) : Keep st (List.set st id o) := by
  refine ⟨by simp, fun i v m fr e hi' ha => ?_⟩
  rw [at_set _ _ _ _ hi]
  split
  · next e' => subst e'; exact absurd ha (h _ _ _ _)
  · exact ha

theorem tag86 : tagOf (86 * tagB) = 86 := by unfold tagOf; exact Nat.mul_div_cancel _ (by unfold tagB; omega)
theorem tag6 (j : Nat) (h : j < tagB) : tagOf (6 * tagB + j) = 6 := by
  unfold tagOf
  rw [Nat.add_comm, Nat.add_mul_div_right _ _ (by unfold tagB; omega), Nat.div_eq_of_lt h]

/-- copyCheck. -/
theorem e88 (st : St) (B : Nat) (out : List UInt8) (k : Nat) (h : Bd st B out k) : ∃ st', callD T (ev T) 88 [.hp B (86 * tagB) 2 0 0] st = some (.tup [], st') ∧ st'.length = st.length ∧ (∀ id, id ≠ B → St.at st' id = St.at st id) ∧
    ∃ m buf, St.at st' B = .cells true 2 (86 * tagB) m false [.agg [.hp B (86 * tagB) 2 0 0, buf]] ∧
    ((out = [] ∧ buf = .nils) ∨ ∃ b md j, out ≠ [] ∧ buf = .rs b (6 * tagB + j) 1 0 out.length false ∧ j ≤ k ∧ b < st.length ∧ b ≠ B ∧ St.at st b = .cells false 1 (6 * tagB + j) md false (out.map byteD)) := by
  obtain ⟨hB, m, p, buf, hat, hp, hbuf⟩ := h
  rcases hp with rfl | rfl
  · refine ⟨List.set st B (.cells true 2 (86 * tagB) (m + 1) false [.agg [.hp B (86 * tagB) 2 0 0, buf]]), ?_, by simp, fun id hid => ?_, m + 1, buf, ?_, hbuf⟩
    · rw [callD_raw (fn := F88) rfl rfl (by simp), ev_eq 88 F88 rfl, F88]
      simp [primD, hat, tag86]
    · rw [at_set _ _ _ _ hB, if_neg hid]
    · rw [at_set _ _ _ _ hB, if_pos rfl]
  · refine ⟨st, ?_, rfl, fun _ _ => rfl, m, buf, hat, hbuf⟩
    rw [callD_raw (fn := F88) rfl rfl (by simp), ev_eq 88 F88 rfl, F88]
    simp [primD, hat, tag86]

theorem at_none (st : St) (o : Ob) : St.at (st ++ [o]) st.length = o := at_last st o

/-- The store of a builder's row. -/
theorem store_row (st : St) (B m : Nat) (p buf buf' : D) (hat : St.at st B = .cells true 2 (86 * tagB) m false [.agg [p, buf]]) (hc : buf'.cells = [buf']) :
    kHs st B (86 * tagB) 2 0 1 buf' (St.at st B) = some (.undef, none, some (List.set st B (.cells true 2 (86 * tagB) (m + 1) false [.agg [p, buf']]))) := by
  rw [hat]
  simp [kHs, hc]

theorem e47 (st : St) (B : Nat) (out w : List UInt8) (k : Nat) (h : Bd st B out k) (hk : k + 2 < tagB) (ho : out.length ≤ 4194304) (hw : w.length ≤ 4194304) :
    ∃ st', callD T (ev T) 47 [.hp B (86 * tagB) 2 0 0, .str w] st = some (.tup [.i w.length, .nili], st') ∧ Bd st' B (out ++ w) (k + 1) ∧ Keep st st' := by
  have hB := h.1
  obtain ⟨st1, q1, hl1, hfr1, m, buf, hat, hbuf⟩ := e88 st B out k h
  have hB1 : B < st1.length := by omega
  have K1 : Keep st st1 := by
    refine ⟨by omega, fun id v m' fr e hi ha => ?_⟩
    by_cases e' : id = B
    · subst e'
      obtain ⟨_, m0, p0, b0, h0, _⟩ := h
      rw [h0] at ha; cases ha
    · rw [hfr1 id e']; exact ha
  -- what append comes to
  have happ : ∃ buf' st2, appendTD 5 st1 buf (w.map byteD) 1 = some (buf', st2) ∧ buf'.cells = [buf'] ∧ buf'.okv = true ∧ Keep st1 st2 ∧ St.at st2 B = St.at st1 B ∧
      ((out ++ w = [] ∧ buf' = .nils) ∨ ∃ b md j, out ++ w ≠ [] ∧ buf' = .rs b (6 * tagB + j) 1 0 (out ++ w).length false ∧ j ≤ k + 1 ∧ b < st2.length ∧ b ≠ B ∧ St.at st2 b = .cells false 1 (6 * tagB + j) md false ((out ++ w).map byteD)) := by
    have hmost : ¬ most < (w.map byteD).length := by rw [List.length_map]; unfold most; omega
    rcases hbuf with ⟨rfl, rfl⟩ | ⟨b, md, j, hne, rfl, hj, hb, hbB, hatb⟩
    · cases w with
      | nil => exact ⟨.nils, st1, by simp [appendTD], rfl, rfl, .refl _, rfl, .inl ⟨rfl, rfl⟩⟩
      | cons c w =>
        refine ⟨.rs st1.length (6 * tagB) 1 0 (c :: w).length false, st1 ++ [.cells false 1 (6 * tagB) 0 false ((c :: w).map byteD)], ?_, rfl, rfl, .app _ _, at_left _ _ _ hB1, .inr ⟨st1.length, 0, 0, by simp, by simp, by omega, by simp, by omega, ?_⟩⟩
        · unfold appendTD
          rw [if_neg hmost]
          simp
        · rw [at_last]; simp
    · cases w with
      | nil =>
        refine ⟨.rs b (6 * tagB + j) 1 0 out.length false, st1, ?_, rfl, rfl, .refl _, rfl, .inr ⟨b, md, j, by simpa using hne, by simp, by omega, by omega, hbB, by rw [hfr1 b hbB, hatb]; simp⟩⟩
        simp [appendTD, hfr1 b hbB, hatb, ho, most]
      | cons c w =>
        have hb1 : b < st1.length := by omega
        refine ⟨.rs b (6 * tagB + (j + 1)) 1 0 (out ++ c :: w).length false, List.set st1 b (.cells false 1 (6 * tagB + (j + 1)) (md + 1) false ((out ++ c :: w).map byteD)), ?_, rfl, rfl, .set _ _ _ hb1 ?_, ?_, .inr ⟨b, md + 1, j + 1, by simp, rfl, by omega, by simpa using hb1, hbB, ?_⟩⟩
        · unfold appendTD
          rw [if_neg hmost]
          have t1 := tag6 j (by omega)
          have t2 := tag6 (j + 1) (by omega)
          rw [← Nat.add_assoc] at t2
          simp [hfr1 b hbB, hatb, ho, most, t1, t2]
          rw [Nat.add_assoc]
          exact ⟨rfl, by rw [List.take_of_length_le (by simp)]⟩
        · intro v m' fr e
          rw [hfr1 b hbB, hatb]
          intro h; cases h
        · rw [at_set _ _ _ _ hb1, if_neg hbB.symm]
        · rw [at_set _ _ _ _ hb1, if_pos rfl]
  obtain ⟨buf', st2, q2, hc, hok, K2, hat2, hbuf'⟩ := happ
  have hB2 : B < st2.length := Nat.lt_of_lt_of_le hB1 K2.1
  rw [hat] at hat2
  refine ⟨List.set st2 B (.cells true 2 (86 * tagB) (m + 1) false [.agg [.hp B (86 * tagB) 2 0 0, buf']]), ?_, ?_, K1.trans (K2.trans (.set _ _ _ hB2 ?_))⟩
  · rw [callD_raw (fn := F47) rfl rfl (by simp), ev_eq 47 F47 rfl, F47]
    have hs : srcD st1 1 (.str w) = some (w.map byteD) := by simp [srcD]
    have q3 := store_row st2 B m (.hp B (86 * tagB) 2 0 0) buf buf' hat2 hc
    simp [q1, hat, hs, q2, q3, hc, hok]
  · refine ⟨by simpa using hB2, m + 1, _, buf', by rw [at_set _ _ _ _ hB2, if_pos rfl], .inr rfl, ?_⟩
    rcases hbuf' with h | ⟨b, md, j, g1, g2, g3, g4, g5, g6⟩
    · exact .inl h
    · exact .inr ⟨b, md, j, g1, g2, g3, by simpa using g4, g5, by rw [at_set _ _ _ _ hB2, if_neg g5]; exact g6⟩
  · intro v m' fr e
    rw [hat2]
    intro h; cases h

theorem e48 (st : St) (B : Nat) (out : List UInt8) (k : Nat) (h : Bd st B out k) : callD T (ev T) 48 [.hp B (86 * tagB) 2 0 0] st = some (.i out.length, st) := by
  obtain ⟨hB, m, p, buf, hat, hp, hbuf⟩ := h
  rw [callD_raw (fn := F48) rfl rfl (by simp), ev_eq 48 F48 rfl, F48]
  rcases hbuf with ⟨rfl, rfl⟩ | ⟨b, md, j, hne, rfl, hj, hb, hbB, hatb⟩
  · simp [hat]
  · simp [hat]

theorem unbyte_map (l : List UInt8) : (l.map byteD).mapM unbyte = some l := by
  induction l with
  | nil => rfl
  | cons c l ih =>
    have : unbyte (byteD c) = some c := by
      unfold byteD unbyte
      have h1 := c.toNat_lt
      simp only
      rw [if_pos (by omega)]
      simp
    rw [List.map_cons, List.mapM_cons, this, ih]
    rfl

theorem e49 (st : St) (B : Nat) (out : List UInt8) (k : Nat) (h : Bd st B out k) (hk : k < tagB) (ho : out.length ≤ 4194304) : ∃ st', callD T (ev T) 49 [.hp B (86 * tagB) 2 0 0] st = some (.str out, st') := by
  obtain ⟨hB, m, p, buf, hat, hp, hbuf⟩ := h
  rcases hbuf with ⟨rfl, rfl⟩ | ⟨b, md, j, hne, rfl, hj, hb, hbB, hatb⟩
  · refine ⟨st, ?_⟩
    rw [callD_raw (fn := F49) rfl rfl (by simp), ev_eq 49 F49 rfl, F49]
    simp [primD, hat, tag86]
  · refine ⟨List.set st b (.cells false 1 (6 * tagB + j) (md + 1) true (out.map byteD)), ?_⟩
    rw [callD_raw (fn := F49) rfl rfl (by simp), ev_eq 49 F49 rfl, F49]
    have t6 := tag6 j (by omega)
    have hpos : 0 < out.length := List.length_pos_iff.2 hne
    have hun := unbyte_map out
    have htk : List.take out.length (out.map byteD) = out.map byteD := List.take_of_length_le (by simp)
    have : primD 98649 [.hp B (86 * tagB) 2 0 0] st = some ([.str out], List.set st b (.cells false 1 (6 * tagB + j) (md + 1) true (out.map byteD))) := by
      simp only [primD, hat, hatb, Nat.reduceMod, tag86, t6, Nat.reduceDiv, htk, hun, List.length_map, Option.bind_some, Nat.le_refl, hpos, most, ho, and_self, if_true]
    simp [this]

end Go.Nt.Lk
