/-
  NAMING ANEW, WALKED (4): the program's function, and the law.
  No condition.
-/
import Derived.Test.YtpfdoelhoiohdaaLkName3
import Derived.Test.YtpfdoelhoiohdaaLkAgree
set_option linter.unusedSimpArgs false
namespace Go.Nt.Lk
open Go Go.Nt

theorem prev_one (l : List Tok) (h : 0 < l.length) : prev l 1 = some l[0] := by
  unfold prev
  rw [if_neg (by omega), List.getElem?_eq_getElem (by omega)]

theorem link_one (s : List UInt8) (ns : List Nm) (l : List Tok) : linkGo s ns none l [] 0 = linkGo s ns (prev l 1) (l.drop 1) [] 0 := by
  cases l with
  | nil => rfl
  | cons t r => rw [linkGo, prev_one _ (by simp)]; simp [called]

theorem toksF_ne (s : List UInt8) : ∀ (r a : Nat) (ts l : List Tok), r = s.length - a → toksF s a ts = .inl l → 0 < l.length := by
  intro r
  induction r using Nat.strongRecOn with
  | ind r ih =>
    intro a ts l hr h
    rw [toksF] at h
    split at h
    · next ha =>
      split at h
      · next t ht =>
        have h1 := oneT_to ha ht
        have h2 := le_nextP s t.t
        exact ih (s.length - nextP s t.t) (by omega) _ _ l rfl h
      · cases h
    · cases h; simp
theorem toksR_ne {s : List UInt8} {l : List Tok} (h : toksR s = .inl l) : 0 < l.length := by
  unfold toksR at h
  split at h
  · cases h
  · exact toksF_ne s _ _ _ l rfl h

theorem Bd.new (st : St) (m : Nat) : Bd (st ++ [.cells true 2 (86 * tagB) m false [.agg [.nilp, .nils]]]) st.length [] 0 :=
  ⟨by simp, m, .nilp, .nils, at_last _ _, .inl rfl, .inl ⟨rfl, rfl⟩⟩

theorem c22 (s : List UInt8) (ns : List Nm) (fl : Fl) (hl : ns.length ≤ 40) (hN : ∀ n, n ∈ ns → n.2.length ≤ 1048576) (st : St) : callD T (ev T) 22 [.str s, slE 2 fl (ns.map encN)] st = some (renD s ns, st) := by
  suffices h : Ret (ev T 22 [.str s, slE 2 fl (ns.map encN)] []) fun r _ => r = renD s ns by
    obtain ⟨r, st', h1, rfl⟩ := h
    exact callD_pure (fn := F22) rfl rfl (by simp) h1 (renD_fz _ _ _) (renD_pure _ _)
  rw [ev_eq 22 F22 rfl, F22]
  have q1 := c44 s []
  unfold renD
  cases ht : toksR s with
  | inr x =>
    obtain ⟨a, e⟩ := x
    have hne := toksR_err ht
    rw [ht] at q1
    simp [q1, lexD, hne, kHs]
  | inl l =>
    obtain ⟨hs, hc, hln⟩ := toksR_ok ht
    rw [ht] at q1
    have e5 : (.sl 5 false (l.map Tok.enc) : D) = slE 5 .part (l.map Tok.enc) := rfl
    simp only [lexD, e5] at q1
    have hlink : fin s (refGo s ns none l [] 0) = fin s (linkGo s ns (prev l 1) (l.drop 1) [] 0) := by
      rw [← link_one]
      have := link_ref s ns l none 0 0 0 [] hc (Nat.le_refl _) (Nat.le_refl _)
      rw [seg_self, List.append_nil] at this
      exact this
    simp only [hlink]
    have hne : 0 < l.length := toksR_ne ht
    simp [q1, kHs, -List.drop_one]
    have hbd : Bd (([.cells true 1 0 1 false [slE 5 .part (l.map Tok.enc)]] : St) ++ [.cells true 2 (86 * tagB) 0 false [.agg [.nilp, .nils]]]) 1 [] 0 := Bd.new _ 0
    have hc1 : Chain s (l[0]'hne).t (l.drop 1) := by
      have := hc
      rw [← List.drop_zero (l := l), List.drop_eq_getElem_cons hne] at this
      exact this.2.2.2.2
    have hct : (l[0]'hne).t ≤ s.length := by
      have := hc
      rw [← List.drop_zero (l := l), List.drop_eq_getElem_cons hne] at this
      exact this.2.2.1
    have hb2 := hbd.go (st' := ([.cells true 1 0 1 false [slE 5 .part (l.map Tok.enc)], .cells true 2 (86 * tagB) 0 false [.agg [.nilp, .nils]], .cells true 1 0 1 false [.int .i64 1]] : St)) (by simp) (fun id hid _ => by
      simp at hid
      match id, hid with
      | 0, _ => rfl
      | 1, _ => rfl)
    refine (l22 s hs ns fl hl hN l hln _ 1 (l[0]'hne).t 0 0 2 [] _ _ _ rfl (by omega) (by omega) hc1 hct (by omega) (by simp) (by omega) ⟨⟨1, rfl⟩, by simp, hb2, ⟨1, rfl⟩, by simp⟩ ?_ ?_ ?_ ?_ ?_ ?_).use (fun r => Ret (kfin _ (kseq _ (kblock 0 r))) _) ?_
    iterate 6 simp [bp]
    rintro e s' b' st' hq
    cases hg : linkGo s ns (prev l 1) (l.drop 1) [] 0 with
    | none =>
      rw [hg] at hq
      obtain ⟨rfl, h4, h5, h6⟩ := hq
      simp [h4, h5, h6, fin]
    | some x =>
      obtain ⟨o, d⟩ := x
      rw [hg] at hq
      obtain ⟨rfl, h10, h11, h0, ho, hd, k, hk, hB⟩ := hq
      have q2 := str_from s .i64 d hd
      have hdl : (s.drop d).length ≤ 8192 := by rw [List.length_drop]; omega
      obtain ⟨st1, e1, b1, _⟩ := e47 st' 1 o (s.drop d) k hB (by unfold tagB; omega) (by omega) (by omega)
      have e2 := e48 st1 1 _ _ b1
      obtain ⟨st2, e3⟩ := e49 st1 1 _ _ b1 (by unfold tagB; omega) (by rw [List.length_append]; omega)
      have c8192 : ((8192 : Int) < ((o.length + (s.drop d).length : Nat) : Int)) = (8192 < o.length + (s.drop d).length) := propext (by omega)
      generalize hx : s.drop d = x at *
      by_cases hbig : 8192 < o.length + x.length
      · simp [h10, h11, h0, q2, e1, e2, e3, fin, hx, c8192, hbig, -Int.natCast_add]
      · simp [h10, h11, h0, q2, e1, e2, e3, fin, hx, c8192, hbig, -Int.natCast_add]

/-- The law LinkRenames. -/
theorem ev6 (s : List UInt8) (ns : List Nm) (fl : Fl) (hN : ∀ n, n ∈ ns → n.2.length ≤ 1048576) : ev T 6 [.str s, slE 2 fl (ns.map encN)] [] = some (.bool true, []) := by
  rw [ev_eq 6 F6 rfl, F6]
  have c800 : ((800 : Int) < (s.length : Int)) = (800 < s.length) := propext (by omega)
  have c40 : ((40 : Int) < (ns.length : Int)) = (40 < ns.length) := propext (by omega)
  by_cases h1 : 800 < s.length
  · simp [c800, h1, c21]
  · by_cases h2 : 40 < ns.length
    · simp [c800, c40, h1, h2, c21]
    · have q1 := c22 s ns fl (by omega) hN []
      have q2 := c23 s ns fl (by omega) hN []
      unfold renD at q1 q2
      cases ht : toksR s with
      | inr x =>
        obtain ⟨a, e⟩ := x
        simp only [ht] at q1 q2
        simp [c800, c40, h1, h2, c21, q1, q2]
      | inl l =>
        simp only [ht] at q1 q2
        cases hf : fin s (refGo s ns none l [] 0) with
        | none =>
          simp only [hf] at q1 q2
          simp [c800, c40, h1, h2, c21, q1, q2]
        | some o =>
          simp only [hf] at q1 q2
          simp [c800, c40, h1, h2, c21, q1, q2]

end Go.Nt.Lk
