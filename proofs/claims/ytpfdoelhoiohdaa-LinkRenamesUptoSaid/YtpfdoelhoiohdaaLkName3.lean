/-
  NAMING ANEW, WALKED (3): the program.
  No condition.
-/
import Derived.Test.YtpfdoelhoiohdaaLkName2
import Derived.Test.YtpfdoelhoiohdaaNtCut
set_option linter.unusedSimpArgs false
namespace Go.Nt.Lk
open Go Go.Nt

abbrev bp : D := .hp 1 (86 * tagB) 2 0 0

/-- The heap of the loop: the tokens' box, the builder, the counter's box. -/
structure HL (st : St) (l : List Tok) (out : List UInt8) (k y i : Nat) : Prop where
  toks : ∃ m, St.at st 0 = .cells true 1 0 m false [slE 5 .part (l.map Tok.enc)]
  len : 0 < st.length
  bd : Bd st 1 out k
  cnt : ∃ m, St.at st y = .cells true 1 0 m false [.int .i64 i]
  y : y < st.length

theorem Bd.mono {st : St} {B : Nat} {out : List UInt8} {k k' : Nat} (h : Bd st B out k) (hk : k ≤ k') : Bd st B out k' := by
  obtain ⟨h1, m, p, buf, h2, h3, h4⟩ := h
  refine ⟨h1, m, p, buf, h2, h3, ?_⟩
  rcases h4 with h | ⟨b, md, j, g1, g2, g3, g⟩
  · exact .inl h
  · exact .inr ⟨b, md, j, g1, g2, by omega, g⟩

/-- A builder is as it was where all but boxes of one cell are. -/
theorem Bd.go {st st' : St} {B : Nat} {out : List UInt8} {k : Nat} (h : Bd st B out k) (hl : st.length ≤ st'.length) (hs : ∀ id, id < st.length → (∀ v m fr e, St.at st id ≠ .cells true 1 v m fr e) → St.at st' id = St.at st id) : Bd st' B out k := by
  obtain ⟨h1, m, p, buf, h2, h3, h4⟩ := h
  refine ⟨by omega, m, p, buf, by rw [hs B h1 (fun v m fr e h => by rw [h2] at h; cases h)]; exact h2, h3, ?_⟩
  rcases h4 with h | ⟨b, md, j, g1, g2, g3, g4, g5, g6⟩
  · exact .inl h
  · exact .inr ⟨b, md, j, g1, g2, g3, by omega, g5, by rw [hs b g4 (fun v m fr e h => by rw [g6] at h; cases h)]; exact g6⟩

/-- The next round's counter. -/
theorem HL.next {st : St} {l : List Tok} {out : List UInt8} {k y i : Nat} (h : HL st l out k y i) (m2 : Nat) (o : Ob) (ho : o = .cells true 1 0 m2 false [.int .i64 ((i + 1 : Nat) : Int)]) :
    HL (st ++ [o]) l out k st.length (i + 1) := by
  subst ho
  obtain ⟨⟨m, h1⟩, h2, h3, _, _⟩ := h
  refine ⟨⟨m, by rw [at_left _ _ _ h2]; exact h1⟩, by simp, h3.go (by simp) fun id hid _ => at_left _ _ _ hid, ⟨m2, at_last _ _⟩, by simp⟩

def Q22 (s : List UInt8) (x : Option (List UInt8 × Nat)) (e : Ex) (s' : List D) (st' : St) : Prop :=
  match x with
    | some (o, d) => e = .exit 0 ∧ get s' 10 = bp ∧ get s' 11 = .int .i64 d ∧ get s' 0 = .str s ∧ o.length ≤ 8192 ∧ d ≤ s.length ∧ ∃ k, k ≤ 30000 ∧ Bd st' 1 o k
    | none => e = .ret ∧ get s' 4 = .str [] ∧ get s' 5 = .i 0 ∧ get s' 6 = .i 3

set_option maxHeartbeats 2000000 in
theorem l22 (s : List UInt8) (hs : s.length ≤ 8192) (ns : List Nm) (fl : Fl) (hl : ns.length ≤ 40) (hN : ∀ n, n ∈ ns → n.2.length ≤ 1048576) (l : List Tok) (hln : l.length ≤ 10000) :
    ∀ (r i a d k y : Nat) (out : List UInt8) (st : St) (sl : List D) (bx : List (Nat × List D)), r = l.length - i → 0 < i → i ≤ l.length → Chain s a (l.drop i) → a ≤ s.length → d ≤ a → out.length ≤ 8192 → k ≤ 2 * i → HL st l out k y i →
    get sl 0 = .str s → get sl 1 = slE 2 fl (ns.map encN) → get sl 7 = .hp 0 0 1 0 0 → get sl 10 = bp → get sl 11 = .int .i64 d → get sl 12 = .hp y 0 1 0 0 →
    Stops (lp T L22_0 ⟨⟨sl, bx⟩, st⟩) fun e s' _ st' => Q22 s (linkGo s ns (prev l i) (l.drop i) out d) e s' st' := by
  intro r
  induction r with
  | zero =>
    intro i a d k y out st sl bx hr hi0 hi hc has hd ho hk H h0 h1 h7 h10 h11 h12
    have e : i = l.length := by omega
    subst e
    obtain ⟨m1, t1⟩ := H.toks
    obtain ⟨m2, t2⟩ := H.cnt
    rw [lp_kL, L22_0, List.drop_length]
    simp [h0, h1, h7, h10, h11, h12, t1, t2]
    refine ⟨rfl, ?_, ?_, ?_, ho, by omega, k, by omega, H.bd⟩ <;> simp [h0, h10, h11]
  | succ r ih =>
    intro i a d k y out st sl bx hr hi0 hi hc has hd ho hk H h0 h1 h7 h10 h11 h12
    have hlt : i < l.length := by omega
    obtain ⟨m1, t1⟩ := H.toks
    obtain ⟨m2, t2⟩ := H.cnt
    rw [lp_kL, L22_0]
    have w1 : IntKind.wrap .i64 ((i : Int) + 1) = ((i + 1 : Nat) : Int) := by rw [wrap64] <;> omega
    have w2 : IntKind.wrap .i64 ((i : Int) - 1) = ((i - 1 : Nat) : Int) := by rw [wrap64] <;> omega
    rw [List.drop_eq_getElem_cons hlt] at hc
    obtain ⟨g1, g2, g3, g4, g5⟩ := hc
    have hlt1 : i - 1 < l.length := by omega
    have hp : prev l i = some l[i - 1] := by unfold prev; rw [if_neg (by omega), List.getElem?_eq_getElem hlt1]
    have hC : called (prev l i) l[i] = (decide (l[i].k = 1) && (decide (l[i - 1].k = 4) && decide (l[i - 1].s = [64]))) := by rw [hp]; rfl
    have hgo : linkGo s ns (prev l i) (l.drop i) out d = if called (prev l i) l[i] then
      (match newOf ns l[i].s with
      | none => linkGo s ns (prev l (i + 1)) (l.drop (i + 1)) out d
      | some w => if 8192 < (out ++ seg s d l[i].f ++ w).length then none else linkGo s ns (prev l (i + 1)) (l.drop (i + 1)) (out ++ seg s d l[i].f ++ w) l[i].t)
      else linkGo s ns (prev l (i + 1)) (l.drop (i + 1)) out d := by
      rw [List.drop_eq_getElem_cons hlt, linkGo, prev_succ l i hlt]
      rfl
    have hT : ∀ j (hj : j < l.length), l[j].enc = .agg [.int .i64 l[j].k, .int .i64 l[j].n, .str l[j].s, .int .i64 l[j].f, .int .i64 l[j].t] := fun j hj => rfl
    have goto : ∀ (d' k' : Nat) (out' : List UInt8) (st' : St) (y' : Nat) (sl' : List D), d' ≤ l[i].t → out'.length ≤ 8192 → k' ≤ 2 * (i + 1) → HL st' l out' k' y' (i + 1) → get sl' 0 = .str s → get sl' 1 = slE 2 fl (ns.map encN) → get sl' 7 = .hp 0 0 1 0 0 → get sl' 10 = bp → get sl' 11 = .int .i64 d' → get sl' 12 = .hp y' 0 1 0 0 →
        Stops (lp T L22_0 ⟨⟨sl', bx⟩, st'⟩) fun e s' _ st'' => Q22 s (linkGo s ns (prev l (i + 1)) (l.drop (i + 1)) out' d') e s' st'' :=
      fun d' k' out' st' y' sl' k1 k2 k3 kH k4 k5 k6 k7 k8 k9 => ih (i + 1) l[i].t d' k' y' out' st' sl' bx (by omega) (by omega) (by omega) g5 g3 k1 k2 k3 kH k4 k5 k6 k7 k8 k9
    have tN := at_last st (.cells true 1 0 0 false [.int .i64 0])
    have no : called (prev l i) l[i] = false → ∀ (sl' : List D) (m : Nat), get sl' 0 = .str s → get sl' 1 = slE 2 fl (ns.map encN) → get sl' 7 = .hp 0 0 1 0 0 → get sl' 10 = bp → get sl' 11 = .int .i64 d → get sl' 12 = .hp st.length 0 1 0 0 →
        Stops (lp T L22_0 ⟨⟨sl', bx⟩, st ++ [.cells true 1 0 m false [.int .i64 ((i + 1 : Nat) : Int)]]⟩) fun e s' _ st'' => Q22 s (linkGo s ns (prev l i) (l.drop i) out d) e s' st'' := by
      intro hcall sl' m k3 k4 k5 k6 k7 k8
      rw [hgo, hcall]
      exact goto d k out _ _ sl' (by omega) ho (by omega) (H.next m _ rfl) k3 k4 k5 k6 k7 k8
    by_cases k1 : l[i].k = 1
    · by_cases k2 : l[i - 1].k = 4
      · by_cases k3 : l[i - 1].s = [64]
        · have hcall : called (prev l i) l[i] = true := by rw [hC]; simp [k1, k2, k3]
          obtain ⟨j, q1, hP⟩ := c45 st l 0 y 0 0 m1 m2 false false i hlt t1 t2 ns fl hl
          rw [hgo, hcall]
          simp only [if_true]
          cases hn : newOf ns l[i].s with
          | none =>
            rw [hn] at hP
            obtain rfl : j = -1 := hP
            simp [h0, h1, h7, h10, h11, h12, t1, t2, hlt, hlt1, w1, w2, hT, k1, k2, k3, -Int.natCast_add, kHs, at_last, q1]
            rw [← L22_0]
            exact goto d k out _ _ _ (by omega) ho (by omega) (H.next _ _ rfl) (by simp [h0]) (by simp [h1]) (by simp [h7]) (by simp [h10]) (by simp [h11]) (by simp)
          | some v =>
            rw [hn] at hP
            obtain ⟨jj, n, rfl, hj, rfl⟩ := hP
            simp only
            obtain ⟨hjl, hje⟩ := List.getElem?_eq_some_iff.1 hj
            have q2 := str_slice s .i64 .i64 d l[i].f (by omega) (by omega)
            have hs1 := seg_len s d l[i].f (by omega)
            have hw : n.2.length ≤ 1048576 := hN n (List.mem_of_getElem? hj)
            obtain ⟨st1, e1, b1, kp1⟩ := e47 st 1 out (seg s d l[i].f) k H.bd (by unfold tagB; omega) (by omega) (by omega)
            obtain ⟨st2, e2, b2, kp2⟩ := e47 st1 1 _ n.2 (k + 1) b1 (by unfold tagB; omega) (by rw [List.length_append]; omega) (by omega)
            have kp := kp1.trans kp2
            have e3 := e48 st2 1 _ _ b2
            have t3 := kp.2 0 _ _ _ _ H.len t1
            have t4 := kp.2 y _ _ _ _ H.y t2
            have u1 := kp1.2 0 _ _ _ _ H.len t1
            have u2 := kp1.2 y _ _ _ _ H.y t2
            have HH : HL st2 l (out ++ seg s d l[i].f ++ n.2) (k + 1 + 1) y i := ⟨⟨m1, t3⟩, Nat.lt_of_lt_of_le H.len kp.1, b2, ⟨m2, t4⟩, Nat.lt_of_lt_of_le H.y kp.1⟩
            have c8192 : ∀ x : Nat, ((8192 : Int) < (x : Int)) = (8192 < x) := fun x => propext (by omega)
            have hng : ¬ ((jj : Int) < 0) := by omega
            by_cases hbig : 8192 < (out ++ seg s d l[i].f ++ n.2).length
            · rw [if_pos hbig]
              simp only [List.length_append, Nat.add_assoc] at hbig
              simp [h0, h1, h7, h10, h11, h12, t1, t2, hlt, hlt1, w1, w2, hT, k1, k2, k3, -Int.natCast_add, kHs, at_last, q1, q2, e1, e2, e3, t3, t4, u1, u2, hjl, hje, encN, c8192, hbig, hng]
              refine ⟨rfl, ?_, ?_, ?_⟩ <;> simp
            · rw [if_neg hbig]
              have hbig' := hbig
              simp only [List.length_append, Nat.add_assoc] at hbig
              simp [h0, h1, h7, h10, h11, h12, t1, t2, hlt, hlt1, w1, w2, hT, k1, k2, k3, -Int.natCast_add, kHs, at_last, q1, q2, e1, e2, e3, t3, t4, u1, u2, hjl, hje, encN, c8192, hbig, hng]
              rw [← L22_0]
              rw [List.append_assoc] at HH hbig'
              exact goto l[i].t (k + 1 + 1) _ _ _ _ (Nat.le_refl _) (by omega) (by omega) (HH.next _ _ rfl) (by simp [h0]) (by simp [h1]) (by simp [h7]) (by simp [h10]) (by simp) (by simp)
        · simp [h0, h1, h7, h10, h11, h12, t1, t2, hlt, hlt1, w1, w2, hT, k1, k2, k3, -Int.natCast_add, kHs, at_last]
          rw [← L22_0]
          apply no (by rw [hC]; simp [k1, k2, k3]) <;> simp [h0, h1, h7, h10, h11]
      · simp [h0, h1, h7, h10, h11, h12, t1, t2, hlt, hlt1, w1, w2, hT, k1, k2, -Int.natCast_add, kHs, at_last]
        rw [← L22_0]
        apply no (by rw [hC]; simp [k1, k2]) <;> simp [h0, h1, h7, h10, h11]
    · simp [h0, h1, h7, h10, h11, h12, t1, t2, hlt, hlt1, w1, w2, hT, k1, -Int.natCast_add, kHs, at_last]
      rw [← L22_0]
      apply no (by rw [hC]; simp [k1]) <;> simp [h0, h1, h7, h10, h11]

end Go.Nt.Lk
