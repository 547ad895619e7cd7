/-
  NAMING ANEW, WALKED (2): the reference.
  No condition.
-/
import Derived.Test.YtpfdoelhoiohdaaLkName1
set_option linter.unusedSimpArgs false
namespace Go.Nt.Lk
open Go Go.Nt

def prev (l : List Tok) (i : Nat) : Option Tok := if i = 0 then none else l[i - 1]?

theorem prev_succ (l : List Tok) (i : Nat) (h : i < l.length) : prev l (i + 1) = some l[i] := by
  unfold prev
  rw [if_neg (by omega), Nat.add_sub_cancel, List.getElem?_eq_getElem h]

def Q23 (s : List UInt8) (x : Option (List UInt8 × Nat)) (e : Ex) (s' : List D) (st' : St) : Prop :=
  st' = [] ∧ match x with
    | some (o, d) => e = .exit 0 ∧ get s' 10 = .str o ∧ get s' 11 = .int .i64 d ∧ get s' 0 = .str s ∧ o.length ≤ 8192 ∧ d ≤ s.length
    | none => e = .ret ∧ get s' 4 = .str [] ∧ get s' 5 = .i 0 ∧ get s' 6 = .i 3

theorem newOf_len {ns : List Nm} (hN : ∀ n, n ∈ ns → n.2.length ≤ 1048576) {w v : List UInt8} (h : newOf ns w = some v) : v.length ≤ 1048576 := by
  unfold newOf at h
  obtain ⟨n, h1, rfl⟩ := Option.map_eq_some_iff.1 h
  exact hN n (List.mem_of_find?_eq_some h1)

theorem str_from (s : List UInt8) (k : IntKind) (a : Nat) (h : a ≤ s.length) : sliceD (.str s) (some (.int k a)) none none = some (.str (s.drop a)) := by
  have h3 : (0 : Int) ≤ a := by omega
  simp [sliceD, h3, h]

theorem l23 (s : List UInt8) (hs : s.length ≤ 8192) (ns : List Nm) (fl : Fl) (hl : ns.length ≤ 40) (hN : ∀ n, n ∈ ns → n.2.length ≤ 1048576) (l : List Tok) (hln : l.length ≤ 10000) :
    ∀ (r i a d : Nat) (out : List UInt8) (sl : List D) (bx : List (Nat × List D)), r = l.length - i → i ≤ l.length → Chain s a (l.drop i) → a ≤ s.length → d ≤ a → out.length ≤ 8192 →
    get sl 0 = .str s → get sl 1 = slE 2 fl (ns.map encN) → get sl 7 = slE 5 .part (l.map Tok.enc) → get sl 10 = .str out → get sl 11 = .int .i64 d → get sl 12 = .int .i64 i →
    Stops (lp T L23_0 ⟨⟨sl, bx⟩, []⟩) fun e s' _ st' => Q23 s (refGo s ns (prev l i) (l.drop i) out d) e s' st' := by
  intro r
  induction r with
  | zero =>
    intro i a d out sl bx hr hi hc has hd ho h0 h1 h7 h10 h11 h12
    have e : i = l.length := by omega
    subst e
    rw [lp_kL, L23_0, List.drop_length]
    simp [h0, h1, h7, h10, h11, h12]
    refine ⟨rfl, rfl, ?_, ?_, ?_, ho, by omega⟩ <;> simp [h0, h10, h11]
  | succ r ih =>
    intro i a d out sl bx hr hi hc has hd ho h0 h1 h7 h10 h11 h12
    have hlt : i < l.length := by omega
    rw [lp_kL, L23_0]
    have w1 : IntKind.wrap .i64 ((i : Int) + 1) = ((i + 1 : Nat) : Int) := by rw [wrap64] <;> omega
    rw [List.drop_eq_getElem_cons hlt] at hc
    obtain ⟨g1, g2, g3, g4, g5⟩ := hc
    have hgo : refGo s ns (prev l i) (l.drop i) out d = if called (prev l i) l[i] then
      (if 8192 < (out ++ seg s d l[i].f ++ (newOf ns l[i].s).getD l[i].s).length then none
      else refGo s ns (prev l (i + 1)) (l.drop (i + 1)) (out ++ seg s d l[i].f ++ (newOf ns l[i].s).getD l[i].s) l[i].t)
      else refGo s ns (prev l (i + 1)) (l.drop (i + 1)) out d := by
      rw [List.drop_eq_getElem_cons hlt, refGo, prev_succ l i hlt]
    have goto : ∀ (d' : Nat) (out' : List UInt8) (sl' : List D), d' ≤ l[i].t → out'.length ≤ 8192 → get sl' 0 = .str s → get sl' 1 = slE 2 fl (ns.map encN) → get sl' 7 = slE 5 .part (l.map Tok.enc) → get sl' 10 = .str out' → get sl' 11 = .int .i64 d' → get sl' 12 = .int .i64 ((i + 1 : Nat) : Int) →
        Stops (lp T L23_0 ⟨⟨sl', bx⟩, []⟩) fun e s' _ st' => Q23 s (refGo s ns (prev l (i + 1)) (l.drop (i + 1)) out' d') e s' st' :=
      fun d' out' sl' k1 k2 k3 k4 k5 k6 k7 k8 => ih (i + 1) l[i].t d' out' sl' bx (by omega) (by omega) g5 g3 k1 k2 k3 k4 k5 k6 k7 k8
    have no : called (prev l i) l[i] = false → ∀ (sl' : List D), get sl' 0 = .str s → get sl' 1 = slE 2 fl (ns.map encN) → get sl' 7 = slE 5 .part (l.map Tok.enc) → get sl' 10 = .str out → get sl' 11 = .int .i64 d → get sl' 12 = .int .i64 ((i + 1 : Nat) : Int) →
        Stops (lp T L23_0 ⟨⟨sl', bx⟩, []⟩) fun e s' _ st' => Q23 s (refGo s ns (prev l i) (l.drop i) out d) e s' st' := by
      intro hcall sl' k3 k4 k5 k6 k7 k8
      rw [hgo, hcall]
      exact goto d out sl' (by omega) ho k3 k4 k5 k6 k7 k8
    have hT : ∀ j (hj : j < l.length), l[j].enc = .agg [.int .i64 l[j].k, .int .i64 l[j].n, .str l[j].s, .int .i64 l[j].f, .int .i64 l[j].t] := fun j hj => rfl
    by_cases hi0 : i = 0
    · have hcall : called (prev l i) l[i] = false := by unfold prev; rw [if_pos hi0]; rfl
      subst hi0
      have w0 : IntKind.wrap .i64 1 = 1 := by decide
      simp [h0, h1, h7, h10, h11, h12, hlt, w0]
      rw [← L23_0]
      apply no hcall <;> simp [h0, h1, h7, h10, h11]
    · have hip : (0 : Int) < i := by omega
      have w2 : IntKind.wrap .i64 ((i : Int) - 1) = ((i - 1 : Nat) : Int) := by rw [wrap64] <;> omega
      have hlt1 : i - 1 < l.length := by omega
      have hp : prev l i = some l[i - 1] := by unfold prev; rw [if_neg hi0, List.getElem?_eq_getElem hlt1]
      have hC : called (prev l i) l[i] = (decide (l[i].k = 1) && (decide (l[i - 1].k = 4) && decide (l[i - 1].s = [64]))) := by rw [hp]; rfl
      have hip' : (0 < i) = True := eq_true (by omega)
      by_cases k1 : l[i].k = 1
      · by_cases k2 : l[i - 1].k = 4
        · by_cases k3 : l[i - 1].s = [64]
          · have hcall : called (prev l i) l[i] = true := by rw [hC]; simp [k1, k2, k3]
            have q1 := str_slice s .i64 .i64 d l[i].f (by omega) (by omega)
            have q2 := c50 ns fl hl l[i].s []
            have hs1 := seg_len s d l[i].f (by omega)
            have hw : ((newOf ns l[i].s).getD l[i].s).length ≤ 1048576 := by
              cases hn : newOf ns l[i].s with
              | none => rw [Option.getD_none, g4 k1, seg_len _ _ _ g3]; omega
              | some v => exact newOf_len hN hn
            rw [hgo, hcall]
            clear hgo no hC
            generalize (newOf ns l[i].s).getD l[i].s = w at *
            have b1 : out.length + (seg s d l[i].f).length ≤ 4194304 := by omega
            have b2 : out.length + ((seg s d l[i].f).length + w.length) ≤ 4194304 := by omega
            have c8192 : ((8192 : Int) < ((out ++ (seg s d l[i].f ++ w)).length : Int)) = (8192 < (out ++ (seg s d l[i].f ++ w)).length) := propext (by omega)
            rw [List.append_assoc]
            simp only [if_true]
            by_cases hbig : 8192 < (out ++ (seg s d l[i].f ++ w)).length
            · rw [if_pos hbig]
              simp only [List.length_append] at c8192 hbig
              simp [h0, h1, h7, h10, h11, h12, hlt, hlt1, hip', w1, w2, hT, k1, k2, k3, q1, q2, b1, b2, Nat.add_assoc, c8192, hbig, -Int.natCast_add]
              refine ⟨rfl, rfl, ?_, ?_, ?_⟩ <;> simp
            · rw [if_neg hbig]
              have go := goto l[i].t (out ++ (seg s d l[i].f ++ w))
              have hle : (out ++ (seg s d l[i].f ++ w)).length ≤ 8192 := by omega
              simp only [List.length_append] at c8192 hbig
              simp [h0, h1, h7, h10, h11, h12, hlt, hlt1, hip', w1, w2, hT, k1, k2, k3, q1, q2, b1, b2, Nat.add_assoc, c8192, hbig, -Int.natCast_add]
              rw [← L23_0]
              apply go _ (Nat.le_refl _) hle <;> simp [h0, h1, h7]
          · simp [h0, h1, h7, h10, h11, h12, hlt, hlt1, hip', w1, w2, hT, k1, k2, k3, -Int.natCast_add]
            rw [← L23_0]
            apply no (by rw [hC]; simp [k1, k2, k3]) <;> simp [h0, h1, h7, h10, h11]
        · simp [h0, h1, h7, h10, h11, h12, hlt, hlt1, hip', w1, w2, hT, k1, k2, -Int.natCast_add]
          rw [← L23_0]
          apply no (by rw [hC]; simp [k1, k2]) <;> simp [h0, h1, h7, h10, h11]
      · simp [h0, h1, h7, h10, h11, h12, hlt, hlt1, hip', w1, w2, hT, k1, -Int.natCast_add]
        rw [← L23_0]
        apply no (by rw [hC]; simp [k1]) <;> simp [h0, h1, h7, h10, h11]

theorem oneT_err {s : List UInt8} {a : Nat} {e : Int} (h : oneT s a = .inr e) : e ≠ 0 := by
  unfold oneT at h
  split at h
  · cases h; decide
  · split at h
    · simp only at h
      split at h <;> cases h; decide
    · split at h
      · simp only at h
        split at h <;> cases h; decide
      · simp only at h
        split at h <;> cases h; decide

theorem toksF_err (s : List UInt8) : ∀ (r a : Nat) (ts : List Tok), r = s.length - a → ∀ x, toksF s a ts = .inr x → x.2 ≠ 0 := by
  intro r
  induction r using Nat.strongRecOn with
  | ind r ih =>
    intro a ts hr x h
    rw [toksF] at h
    split at h
    · next ha =>
      split at h
      · next t ht =>
        have h1 := oneT_to ha ht
        have h2 := le_nextP s t.t
        exact ih (s.length - nextP s t.t) (by omega) _ _ rfl x h
      · next e he => cases h; exact oneT_err he
    · cases h

/-- What is known of a text's tokens. -/
theorem toksR_err {s : List UInt8} {a : Nat} {e : Int} (h : toksR s = .inr (a, e)) : e ≠ 0 := by
  unfold toksR at h
  split at h
  · cases h; decide
  · exact toksF_err s _ _ _ rfl _ h
theorem toksR_ok {s : List UInt8} {l : List Tok} (h : toksR s = .inl l) : s.length ≤ 8192 ∧ Chain s 0 l ∧ l.length ≤ 10000 := by
  unfold toksR at h
  split at h
  · cases h
  · next hs =>
    have h1 := toksF_len s _ _ [] rfl l h
    obtain ⟨k, hk0, hk⟩ := toksF_chain s _ (nextP s 0) [] l rfl (nextP_le s 0 (by omega)) h
    refine ⟨by omega, ?_, by simp at h1 ⊢; omega⟩
    rw [hk0]
    have e : [] ++ k = k := rfl
    rw [e]
    cases k with
    | nil => trivial
    | cons t k => exact ⟨by omega, hk.2⟩

def renD (s : List UInt8) (ns : List Nm) : D :=
  match toksR s with
  | .inr (a, e) => .tup [.str [], .i a, .i e]
  | .inl l => match fin s (refGo s ns none l [] 0) with
    | none => .tup [.str [], .i 0, .i 3]
    | some o => .tup [.str o, .i 0, .i 0]

theorem renD_fz (s : List UInt8) (ns : List Nm) (st : St) : fz st (renD s ns) = some (renD s ns, st) := by
  unfold renD
  split
  · simp [fz, fzL]
  · split <;> simp [fz, fzL]
theorem renD_pure (s : List UInt8) (ns : List Nm) : (renD s ns).pureT = true := by
  unfold renD
  split
  · simp [D.pureT]
  · split <;> simp [D.pureT]

theorem c23 (s : List UInt8) (ns : List Nm) (fl : Fl) (hl : ns.length ≤ 40) (hN : ∀ n, n ∈ ns → n.2.length ≤ 1048576) (st : St) : callD T (ev T) 23 [.str s, slE 2 fl (ns.map encN)] st = some (renD s ns, st) := by
  refine callD_pure (fn := F23) rfl rfl (by simp) (r := renD s ns) (st1 := []) (st2 := []) ?_ (renD_fz _ _ _) (renD_pure _ _)
  rw [ev_eq 23 F23 rfl, F23]
  have q1 := c16 s []
  unfold renD
  cases ht : toksR s with
  | inr x =>
    obtain ⟨a, e⟩ := x
    have hne := toksR_err ht
    rw [ht] at q1
    simp [q1, lexD, hne]
  | inl l =>
    obtain ⟨hs, hc, hln⟩ := toksR_ok ht
    rw [ht] at q1
    have e5 : (.sl 5 false (l.map Tok.enc) : D) = slE 5 .part (l.map Tok.enc) := rfl
    simp only [lexD, e5] at q1
    simp [q1]
    refine (l23 s hs ns fl hl hN l hln _ 0 0 0 [] _ _ rfl (by omega) hc (by omega) (by omega) (by simp) ?_ ?_ ?_ ?_ ?_ ?_).use (fun r => kfin _ (kseq _ (kblock 0 r)) = _) ?_
    iterate 6 simp
    rintro e s' b' st' ⟨rfl, hq⟩
    have hp : prev l 0 = none := rfl
    rw [hp, List.drop_zero] at hq
    cases hg : refGo s ns none l [] 0 with
    | none =>
      rw [hg] at hq
      obtain ⟨rfl, h4, h5, h6⟩ := hq
      simp [h4, h5, h6, fin]
    | some x =>
      obtain ⟨o, d⟩ := x
      rw [hg] at hq
      obtain ⟨rfl, h10, h11, h0, ho, hd⟩ := hq
      have q2 := str_from s .i64 d hd
      have hdl : (s.drop d).length ≤ 8192 := by rw [List.length_drop]; omega
      have b1 : o.length + (s.drop d).length ≤ 4194304 := by omega
      have c8192 : ((8192 : Int) < ((o.length + (s.drop d).length : Nat) : Int)) = (8192 < o.length + (s.drop d).length) := propext (by omega)
      generalize hx : s.drop d = x at *
      by_cases hbig : 8192 < o.length + x.length
      · simp [h10, h11, h0, q2, b1, fin, hx, c8192, hbig, -Int.natCast_add]
      · simp [h10, h11, h0, q2, b1, fin, hx, c8192, hbig, -Int.natCast_add]

end Go.Nt.Lk
