/-
  RIGHT MODULES, walked (5): one thing behind the other; a local comes.
  No condition.
-/
import Derived.Test.YtgmjghgpcjjeeaaGreatRlWa
import Derived.Test.YtgmjghgpcjjeeaaGreatRlWd
set_option linter.unusedSimpArgs false
namespace Go.Nt.Ty
open Go Go.Nt

variable {m ret : Tm} {st : St} {lv : D} {locs : List Tm} {at0 e : Int}

/-- The row, not written any more. -/
theorem RawT.fzX {st0 st : St} {L : D} {l : List Tm} (h : RawT st0 st L l) : ∃ st', fz0 st L = some (slE 6 (pfl l) (encTs l), st') ∧ st'.length = st.length ∧ ∀ i, (l = [] ∨ i ≠ lidOf L) → St.at st' i = St.at st i := by
  rcases h with ⟨rfl, rfl⟩ | ⟨id, md, h0, rfl, h1, h2, h3⟩
  · exact ⟨st, rfl, rfl, fun _ _ => rfl⟩
  · refine ⟨List.set st id (.cells false 6 (l.length - 1) (md + 1) true (encTs l)), ?_, by simp, fun i hi => by rw [at_set _ _ _ _ h3, if_neg (by rcases hi with q | q; exact absurd q h0; exact q)]⟩
    have e2 : List.take l.length (encTs l) = encTs l := List.take_of_length_le (by simp)
    have e3 : slE 6 (pfl l) (encTs l) = .sl 6 false (encTs l) := by cases l with | nil => exact absurd rfl h0 | cons a b => rfl
    rw [fz0_rs, h1, e3]
    simp [e2]
theorem RawT.lid {st0 st : St} {L : D} {l : List Tm} (h : RawT st0 st L l) : l = [] ∨ st0.length ≤ lidOf L ∧ lidOf L < st.length := by
  rcases h with ⟨rfl, rfl⟩ | ⟨id, md, h0, rfl, h1, h2, h3⟩
  · exact .inl rfl
  · exact .inr ⟨h2, h3⟩

theorem Lk.keep {st' : St} (K : Lk m ret st lv locs at0 e) (hl : st.length ≤ st'.length) (h : ∀ i, i < st.length → (i = 0 ∨ i = lidOf lv) → St.at st' i = St.at st i) : Lk m ret st' lv locs at0 e := by
  obtain ⟨hl0, ⟨md, h0⟩, hw⟩ := K
  exact ⟨by omega, ⟨md, by rw [h 0 hl0 (.inl rfl)]; exact h0⟩, hw.keep hl fun _ => h _ (hw.lt hl0) (.inr rfl)⟩

/-- One thing behind the other. -/
def eachT (F : List Tm → Tm → Er (Tm × List Tm)) : List Tm → List Tm → Er (List Tm × List Tm)
  | locs, [] => .ok ([], locs)
  | locs, t :: l => match F locs t with
    | .error e => .error e
    | .ok (s, l1) => match eachT F l1 l with
      | .error e => .error e
      | .ok (ss, l2) => .ok (s :: ss, l2)

/-- How a method that may bring a local ends. -/
def Sok (m ret : Tm) (st : St) (lv : D) (locs : List Tm) (at0 : Int) (R : Er (Tm × List Tm)) (r : Tm) (st' : St) : Prop :=
  ∃ lv' locs', Went st lv st' lv' ∧ match R with
    | .ok (s, l1) => s = r ∧ locs' = l1 ∧ Lk m ret st' lv' l1 at0 0
    | .error (x, y) => y ≠ 0 ∧ locs.length ≤ locs'.length ∧ Lk m ret st' lv' locs' x y

def Good (l : List Tm) : Prop := ∀ t, t ∈ l → good t

/-- How the loop ends. -/
def Q174 (m ret : Tm) (at0 : Int) (F : List Tm → Tm → Er (Tm × List Tm)) (st0 : St) (lv0 : D) (n0 : Nat) (locs : List Tm) (l : List Tm) (rs : List Tm) (e : Ex) (s' : List D) (st' : St) : Prop :=
  ∃ lv' locs', Went st0 lv0 st' lv' ∧
      match eachT F locs l with
      | .ok (ss, l1) => e = .exit 0 ∧ ∃ L', get s' 7 = L' ∧ RawT st0 st' L' (rs ++ ss) ∧ (rs ++ ss = [] ∨ lidOf L' ≠ lidOf lv') ∧ locs' = l1 ∧ Lk m ret st' lv' l1 at0 0
      | .error (x, y) => y ≠ 0 ∧ n0 ≤ locs'.length ∧ Lk m ret st' lv' locs' x y ∧ ((e = .ret ∧ get s' 6 = .nils) ∨ e = .exit 0 ∧ ∃ L' rs', get s' 7 = L' ∧ RawT st0 st' L' rs' ∧ (rs' = [] ∨ lidOf L' ≠ lidOf lv'))

theorem l174 (F : List Tm → Tm → Er (Tm × List Tm)) (hF : ∀ locs x s l1, F locs x = .ok (s, l1) → Good locs → good x → Good l1 ∧ locs.length ≤ l1.length ∧ l1.length ≤ locs.length + cntT x)
    (g : Nat) (first cap : List D) (fl : Fl) (l : List Tm) (hg : Good l) (hl : l.length ≤ 1000000) (st0 : St) (lv0 : D) (n0 : Nat)
    (hone : ∀ x, x ∈ l → ∀ st lv locs, Went st0 lv0 st lv → Lk m ret st lv locs at0 0 → Good locs → locs.length + cntT x ≤ 1000000 → ∃ r st', callD T (ev T) g (first ++ [encT x] ++ cap) st = some (encT r, st') ∧ Sok m ret st lv locs at0 (F locs x) r st') :
    ∀ (r i : Nat) (s : List D) (bx : List (Nat × List D)) (st : St) (lv : D) (locs : List Tm) (L : D) (rs : List Tm), r = l.length - i → i ≤ l.length → Went st0 lv0 st lv → Lk m ret st lv locs at0 0 → Good locs → locs.length + cntTs (l.drop i) ≤ 1000000 → n0 ≤ locs.length →
      0 < st0.length → RawT st0 st L rs → rs.length = i → (rs = [] ∨ lidOf L ≠ lidOf lv) →
      get s 0 = .hp 0 0 15 0 0 → get s 2 = .fn g first cap → get s 7 = L → get s 10 = slE 6 fl (encTs l) → get s 11 = .i l.length → get s 12 = .int .i64 i →
    Stops (lp T L174_0 ⟨⟨s, bx⟩, st⟩) fun e s' _ st' => Q174 m ret at0 F st0 lv0 n0 locs (l.drop i) rs e s' st' := by
  intro r
  induction r with
  | zero =>
    intro i s bx st lv locs L rs hr hi W K G hb hn h00 R hrs hid h0 h2 h7 h10 h11 h12
    have e : i = l.length := by omega
    refine Stops_wp L174_0.eq_1 ?_
    rw [e, List.drop_length]
    simp [h0, h2, h7, h10, h11, h12, e]
    refine ⟨lv, locs, W, ?_⟩
    rw [eachT]
    exact ⟨rfl, L, by simp [h7], by rw [List.append_nil]; exact R, by rw [List.append_nil]; exact hid, rfl, K⟩
  | succ r ihr =>
    intro i s bx st lv locs L rs hr hi W K G hb hn h00 R hrs hid h0 h2 h7 h10 h11 h12
    have hlt : i < l.length := by omega
    have hw : IntKind.wrap .i64 ((i : Int) + 1) = ((i + 1 : Nat) : Int) := by rw [wrap64] <;> omega
    have hd := List.drop_eq_getElem_cons hlt
    have hc : cntTs (l.drop i) = cntT l[i] + cntTs (l.drop (i + 1)) := by rw [hd, cntTs]
    obtain ⟨q, st1, q1, lv1, locs1, W1, E⟩ := hone l[i] (List.getElem_mem hlt) st lv locs W K G (by omega)
    have hgx := hg _ (List.getElem_mem hlt)
    obtain ⟨md, k0⟩ := K.h0
    obtain ⟨x1, x2, x3, _⟩ := K.hw.facts
    obtain ⟨y1, y2, y3, _⟩ := R.facts
    -- the row is as it was
    have R1 : RawT st0 st1 L rs := R.keep W1.1 fun hne => by
      rcases R.lid with h | ⟨h, h'⟩
      · exact absurd h hne
      · rcases hid with h'' | h''
        · exact absurd h'' hne
        · exact W1.2.2 _ h' (by omega) h''
    have hL1 : lidOf lv1 < st1.length ∧ 0 < st1.length := by
      cases hR : F locs l[i] with
      | ok v => obtain ⟨v1, v2⟩ := v; rw [hR] at E; exact ⟨E.2.2.hw.lt E.2.2.hl, E.2.2.hl⟩
      | error v => obtain ⟨v1, v2⟩ := v; rw [hR] at E; exact ⟨E.2.2.hw.lt E.2.2.hl, E.2.2.hl⟩
    obtain ⟨L2, st2, a1, R2, hl2, a3, a4⟩ := R1.app (by omega) (by have := W.1; have := W1.1; omega) q
    have hne1 : rs = [] ∨ lidOf L ≠ lidOf lv1 := by
      rcases R.lid with h | ⟨h, h'⟩
      · exact .inl h
      · rcases hid with h'' | h''
        · exact .inl h''
        · right
          rcases W1.2.1 with v | v | v <;> omega
    have hne2 : rs ++ [q] = [] ∨ lidOf L2 ≠ lidOf lv1 := by
      right
      rcases a4 with ⟨v1, v2⟩ | ⟨v1, v2⟩
      · rcases hne1 with v | v
        · exact absurd v v2
        · omega
      · omega
    have hold : ∀ i, i < st1.length → (i = 0 ∨ i = lidOf lv1) → St.at st2 i = St.at st1 i := by
      intro j hj hj'
      refine a3 j hj ?_
      rcases R.lid with h | ⟨h, h'⟩
      · exact .inl h
      · rcases hne1 with v | v
        · exact .inl v
        · right; rcases hj' with w | w <;> omega
    have W2 : Went st0 lv0 st2 lv1 := by
      obtain ⟨w1, w2, w3⟩ := W.trans W1
      refine ⟨by omega, w2, fun j hj hj0 hjl => ?_⟩
      rw [a3 j (by omega) ?_, w3 j hj hj0 hjl]
      rcases R.lid with h | ⟨h, h'⟩
      · exact .inl h
      · right; omega
    obtain ⟨z1, z2, z3, _⟩ := R2.facts
    have nx := fun s' bx' locs' => ihr (i + 1) s' bx' st2 lv1 locs' L2 (rs ++ [q]) (by omega) (by omega) W2
    rw [encT_eq] at q1
    simp only [List.append_assoc, List.singleton_append] at q1
    refine Stops_wp L174_0.eq_1 ?_
    cases hR : F locs l[i] with
    | ok v =>
      obtain ⟨v1, v2⟩ := v
      rw [hR] at E
      obtain ⟨rfl, rfl, K1⟩ := E
      obtain ⟨f1, f2, f3⟩ := hF _ _ _ _ hR G hgx
      have nx := fun s' bx' => nx s' bx' locs1 (K1.keep hl2 hold) f1 (by omega) (by omega) h00 R2 (by simp; omega) hne2
      simp [h0, h2, h7, h10, h11, h12, hlt, hw, k0, lkO, kHs, splice, x1, x2, x3, y1, y2, y3, z1, z2, z3, q1, a1, -Int.natCast_add]
      refine Stops.mono (nx _ _ ?_ ?_ ?_ ?_ ?_ ?_) ?_
      iterate 6 simp [h0, h2, h10, h11]
      rintro e s' b' st' ⟨lv', locs', V, E'⟩
      refine ⟨lv', locs', V, ?_⟩
      rw [hd, eachT, hR]
      simp only
      cases hE : eachT F locs1 (l.drop (i + 1)) with
      | ok w =>
        obtain ⟨w1, w2⟩ := w
        rw [hE] at E'
        simpa using E'
      | error w =>
        rw [hE] at E'
        exact E'
    | error v =>
      obtain ⟨v1, v2⟩ := v
      rw [hR] at E
      obtain ⟨hv, hlen, K1⟩ := E
      simp [h0, h2, h7, h10, h11, h12, hlt, hw, k0, lkO, kHs, splice, x1, x2, x3, y1, y2, y3, z1, z2, z3, q1, a1, -Int.natCast_add]
      have K2 : Lk m ret st2 lv1 locs1 v1 v2 := K1.keep hl2 hold
      obtain ⟨md2, k2⟩ := K2.h0
      obtain ⟨u1, u2, u3, _⟩ := K2.hw.facts
      have fin : ∀ e s', ((e = .ret ∧ get s' 6 = .nils) ∨ e = .exit 0 ∧ ∃ L' rs', get s' 7 = L' ∧ RawT st0 st2 L' rs' ∧ (rs' = [] ∨ lidOf L' ≠ lidOf lv1)) → Q174 m ret at0 F st0 lv0 n0 locs (l.drop i) rs e s' st2 := by
        intro e s' h
        refine ⟨lv1, locs1, W2, ?_⟩
        rw [hd, eachT, hR]
        exact ⟨hv, by omega, K2, h⟩
      generalize Q174 m ret at0 F st0 lv0 n0 locs (l.drop i) rs = Q at *
      refine Stops_wp L174_0.eq_1 ?_
      by_cases hlast : i + 1 < l.length
      · have hlast' : ((i + 1 : Nat) : Int) < l.length := by omega
        simp [h0, h2, h7, h10, h11, h12, hlast, hlast', k2, lkO, kHs, splice, u1, u2, u3, hv, -Int.natCast_add]
        exact fin _ _ (.inl ⟨rfl, by simp⟩)
      · have hlast' : ¬ ((i + 1 : Nat) : Int) < l.length := by omega
        simp [h0, h2, h7, h10, h11, h12, hlast, hlast', k2, lkO, kHs, splice, u1, u2, u3, hv, -Int.natCast_add]
        exact fin _ _ (.inr ⟨rfl, L2, rs ++ [q], by simp, R2, hne2⟩)

/-- How 'each' ends. -/
def Eok (m ret : Tm) (st : St) (lv : D) (n0 : Nat) (at0 : Int) (R : Er (List Tm × List Tm)) (rs : List Tm) (st' : St) : Prop :=
  ∃ lv' locs', Went st lv st' lv' ∧ match R with
    | .ok (ss, l1) => ss = rs ∧ locs' = l1 ∧ Lk m ret st' lv' l1 at0 0
    | .error (x, y) => y ≠ 0 ∧ n0 ≤ locs'.length ∧ Lk m ret st' lv' locs' x y

def P174 (m ret : Tm) (st : St) (lv : D) (n0 : Nat) (at0 : Int) (R : Er (List Tm × List Tm)) (r : D) (st1 : St) : Prop :=
  ∃ rs lv' locs', RawT st st1 r rs ∧ (rs = [] ∨ lidOf r ≠ lidOf lv') ∧ Went st lv st1 lv' ∧ match R with
    | .ok (ss, l1) => ss = rs ∧ locs' = l1 ∧ Lk m ret st1 lv' l1 at0 0
    | .error (x, y) => y ≠ 0 ∧ n0 ≤ locs'.length ∧ Lk m ret st1 lv' locs' x y

theorem c174 (F : List Tm → Tm → Er (Tm × List Tm)) (hF : ∀ locs x s l1, F locs x = .ok (s, l1) → Good locs → good x → Good l1 ∧ locs.length ≤ l1.length ∧ l1.length ≤ locs.length + cntT x)
    (g : Nat) (first cap : List D) (hfc : (D.fn g first cap).okv = true) (fl : Fl) (l : List Tm) (hg : Good l) (hl : l.length ≤ 1000000) (st : St) (lv : D)
    (hone : ∀ x, x ∈ l → ∀ st' lv' locs, Went st lv st' lv' → Lk m ret st' lv' locs at0 0 → Good locs → locs.length + cntT x ≤ 1000000 → ∃ r st'', callD T (ev T) g (first ++ [encT x] ++ cap) st' = some (encT r, st'') ∧ Sok m ret st' lv' locs at0 (F locs x) r st'')
    (locs : List Tm) (K : Lk m ret st lv locs at0 0) (G : Good locs) (hb : locs.length + cntTs l ≤ 1000000) :
    ∃ rs st', callD T (ev T) 174 [.hp 0 0 15 0 0, slE 6 fl (encTs l), .fn g first cap] st = some (slE 6 (pfl rs) (encTs rs), st') ∧ Eok m ret st lv locs.length at0 (eachT F locs l) rs st' := by
  have lo := fun s bx => l174 F hF g first cap fl l hg hl st lv locs.length hone l.length 0 s bx st lv locs .nils [] (by omega) (by omega) (.refl _ _) K G (by simpa using hb) (Nat.le_refl _) K.hl (RawT.nil _ _) rfl (.inl rfl)
  rw [List.drop_zero] at lo
  have go : Ret (ev T 174 [.hp 0 0 15 0 0, slE 6 fl (encTs l), .fn g first cap] st) (P174 m ret st lv locs.length at0 (eachT F locs l)) := by
    refine Ret_wp (fn := F174) rfl ?_
    rw [F174]
    simp
    refine WL.use L174_0_p L174_0_w (lo _ _ ?_ ?_ ?_ ?_ ?_ ?_) ?_
    iterate 6 simp
    rintro e s' b' st' ⟨lv', locs', W, h⟩ hf
    cases hE : eachT F locs l with
    | ok w =>
      obtain ⟨ss, l1⟩ := w
      rw [hE] at h
      simp only [List.nil_append] at h
      obtain ⟨rfl, L', h7, R, hne, hlo, K1⟩ := h
      simp [h7, R.facts.1]
      exact ⟨ss, lv', locs', R, hne, W, rfl, hlo, K1⟩
    | error w =>
      obtain ⟨x, y⟩ := w
      rw [hE] at h
      obtain ⟨hy, hn, K1, h⟩ := h
      rcases h with ⟨rfl, h6⟩ | ⟨rfl, L', rs', h7, R, hne⟩
      · simp [h6]
        exact ⟨[], lv', locs', RawT.nil _ _, .inl rfl, W, hy, hn, K1⟩
      · simp [h7, R.facts.1]
        exact ⟨rs', lv', locs', R, hne, W, hy, hn, K1⟩
  obtain ⟨r, st1, h1, rs, lv', locs', R, hne, W, E⟩ := go
  obtain ⟨st2, f, hl2, hat⟩ := R.fzX
  have hz : fz st1 r = some (slE 6 (pfl rs) (encTs rs), st2) := by
    rw [← f]
    rcases R with ⟨_, rfl⟩ | ⟨_, _, _, rfl, _⟩ <;> rfl
  refine ⟨rs, st2, callD_freE (fn := F174) rfl rfl (by simp [hfc]) h1 hz (by simp), lv', locs', ?_, ?_⟩
  · obtain ⟨w1, w2, w3⟩ := W
    refine ⟨by omega, w2, fun i hi h0 hn => ?_⟩
    rw [hat i ?_, w3 i hi h0 hn]
    rcases R.lid with h | ⟨h, _⟩
    · exact .inl h
    · right; omega
  · have hk : ∀ i, i < st1.length → (i = 0 ∨ i = lidOf lv') → St.at st2 i = St.at st1 i := by
      intro i _ hi
      refine hat i ?_
      rcases R.lid with h | ⟨h, _⟩
      · exact .inl h
      · rcases hne with h' | h'
        · exact .inl h'
        · have := K.hl
          right; rcases hi with q | q <;> omega
    cases hE : eachT F locs l with
    | ok w =>
      obtain ⟨ss, l1⟩ := w
      rw [hE] at E
      exact ⟨E.1, E.2.1, E.2.2.keep (by omega) hk⟩
    | error w =>
      obtain ⟨x, y⟩ := w
      rw [hE] at E
      exact ⟨E.1, E.2.1, E.2.2.keep (by omega) hk⟩
end Go.Nt.Ty

/-
  RIGHT MODULES, walked (11): a function's head.
  No condition.
-/
set_option linter.unusedSimpArgs false
namespace Go.Nt.Ty
open Go Go.Nt

variable {m ret : Tm} {st : St} {lv : D} {locs : List Tm} {at0 e : Int}

def tyOf (p : Tm) : Tm := p.l.headD T0

theorem l72a (fl : Fl) (l : List Tm) (hl : l.length ≤ 1000000) (hp : ∀ p, p ∈ l → ∃ x, p.l = [x]) (st0 : St) :
    ∀ (r i : Nat) (s : List D) (bx : List (Nat × List D)) (L : D) (st : St), r = l.length - i → i ≤ l.length → Grow st0 st → RawT st0 st L ((l.take i).map tyOf) →
      get s 58 = slE 6 fl (encTs l) → get s 59 = .i l.length → get s 60 = .int .i64 i → get s 4 = L →
    Stops (lp T L72_0 ⟨⟨s, bx⟩, st⟩) fun e s' _ st' => e = .exit 0 ∧ RawT st0 st' (get s' 4) (l.map tyOf) ∧ Grow st0 st' := by
  intro r
  induction r with
  | zero =>
    intro i s bx L st hr hi hg hR h58 h59 h60 h4
    have e : i = l.length := by omega
    subst e
    refine Stops_wp L72_0.eq_1 ?_
    rw [List.take_length] at hR
    simp [h58, h59, h60, h4]
    exact ⟨hR, hg⟩
  | succ r ihr =>
    intro i s bx L st hr hi hg hR h58 h59 h60 h4
    have hlt : i < l.length := by omega
    have hw : IntKind.wrap .i64 ((i : Int) + 1) = ((i + 1 : Nat) : Int) := by rw [wrap64] <;> omega
    obtain ⟨x, hx⟩ := hp _ (List.getElem_mem hlt)
    have ex : tyOf l[i] = x := by rw [tyOf, hx] <;> rfl
    obtain ⟨L3, st3, a1, R3, hl3, a3, _⟩ := hR.app (by simp; omega) hg.1 x
    have hg3 : Grow st0 st3 := ⟨by have := hg.1; omega, fun j hj => by
      rw [a3 j (by have := hg.1; omega) ?_, hg.2 j hj]
      rcases hR.lid with h | ⟨h, _⟩
      · exact .inl h
      · exact .inr (by omega)⟩
    have e1 : (l.take i).map tyOf ++ [x] = (l.take (i + 1)).map tyOf := by
      rw [← ex, ← List.map_singleton, ← List.map_append, List.take_append_getElem hlt]
    rw [e1] at R3
    have nx := fun s' bx' => ihr (i + 1) s' bx' L3 st3 (by omega) (by omega) hg3 R3
    obtain ⟨x1, x2, x3, x4⟩ := hR.facts
    obtain ⟨z1, z2, z3, z4⟩ := R3.facts
    refine Stops_wp L72_0.eq_1 ?_
    simp [h58, h59, h60, h4, hlt, hw, hx, a1, x1, x2, x3, x4, z1, z2, z3, splice, -Int.natCast_add]
    refine nx _ _ ?_ ?_ ?_ ?_ <;> simp [h58, h59]

/-- The kinds, one behind the other. -/
def kfold (m : Tm) : Int × Int → List Tm → Int × Int
  | p, [] => p
  | p, t :: l => kfold m (if p.2 = 0 ∧ cellsV m t = 0 then (t.a, 11) else p) l
theorem kfold_err (m : Tm) : ∀ (l : List Tm) (p : Int × Int), p.2 ≠ 0 → kfold m p l = p
  | [], p, _ => rfl
  | t :: l, p, h => by rw [kfold, if_neg (fun q => h q.1)]; exact kfold_err m l p h
theorem kfold_ok (m : Tm) : ∀ (l : List Tm) (a : Int), kfold m (a, 0) l = match kindsT m l with | .ok _ => (a, 0) | .error p => p
  | [], a => rfl
  | t :: l, a => by
    rw [kfold, kindsT]
    by_cases h : cellsV m t = 0
    · rw [if_pos ⟨rfl, h⟩, if_pos h, kfold_err m l _ (by simp)]
    · rw [if_neg (fun q => h q.2), if_neg h]; exact kfold_ok m l a
theorem kinds_ne (m : Tm) : ∀ (l : List Tm), kindsT m l = .ok () → ∀ x, x ∈ l → cellsV m x ≠ 0
  | [], _, x, hx => by cases hx
  | t :: l, h, x, hx => by
    rw [kindsT] at h
    split at h
    · cases h
    · next hz =>
      rcases List.mem_cons.1 hx with rfl | q
      · exact hz
      · exact kinds_ne m l h x q
theorem kinds_err (m : Tm) : ∀ (l : List Tm) (a b : Int), kindsT m l = .error (a, b) → b ≠ 0
  | [], a, b, h => by cases h
  | t :: l, a, b, h => by
    rw [kindsT] at h
    split at h
    · simp only [Except.error.injEq, Prod.mk.injEq] at h; omega
    · exact kinds_err m l a b h

theorem l72b (gm : good m) (l : List Tm) (hg : Good l) (hl : l.length ≤ 1000001) (aid mda : Nat) (ha0 : aid ≠ 0) (st0 : St) (h00 : aid < st0.length) (ha : St.at st0 aid = .cells false 6 0 mda false (encTs l)) :
    ∀ (r i : Nat) (s : List D) (bx : List (Nat × List D)) (st : St) (p : Int × Int), r = l.length - i → i ≤ l.length → Went st0 .nils st .nils → Lk m ret st .nils [] p.1 p.2 →
      get s 84 = .rs aid 0 6 0 l.length false → get s 85 = .i l.length → get s 86 = .int .i64 i → get s 0 = .hp 0 0 15 0 0 →
    Stops (lp T L72_1 ⟨⟨s, bx⟩, st⟩) fun e _ _ st' => e = .exit 2 ∧ Went st0 .nils st' .nils ∧ Lk m ret st' .nils [] (kfold m p (l.drop i)).1 (kfold m p (l.drop i)).2 := by
  intro r
  induction r with
  | zero =>
    intro i s bx st p hr hi W K h84 h85 h86 h0
    have e : i = l.length := by omega
    subst e
    refine Stops_wp L72_1.eq_1 ?_
    rw [List.drop_length, kfold]
    simp [h84, h85, h86, h0]
    exact ⟨W, K⟩
  | succ r ihr =>
    intro i s bx st p hr hi W K h84 h85 h86 h0
    have hlt : i < l.length := by omega
    have hw : IntKind.wrap .i64 ((i : Int) + 1) = ((i + 1 : Nat) : Int) := by rw [wrap64] <;> omega
    have hat : St.at st aid = .cells false 6 0 mda false (encTs l) := by rw [W.2.2 aid h00 ha0 (by simpa [lidOf] using ha0)]; exact ha
    obtain ⟨st1, q, W1, K1⟩ := c119 gm K l[i] (hg _ (List.getElem_mem hlt))
    have K2 : Lk m ret st1 .nils [] (if p.2 = 0 ∧ cellsV m l[i] = 0 then (l[i].a, (11 : Int)) else p).1 (if p.2 = 0 ∧ cellsV m l[i] = 0 then (l[i].a, (11 : Int)) else p).2 := by
      split
      · next h => rw [if_pos h, if_pos h] at K1; exact K1
      · next h => rw [if_neg h, if_neg h] at K1; exact K1
    have nx := fun s' bx' => ihr (i + 1) s' bx' st1 _ (by omega) (by omega) (W.trans W1) K2
    rw [List.drop_eq_getElem_cons hlt, kfold]
    generalize (if p.2 = 0 ∧ cellsV m l[i] = 0 then (l[i].a, (11 : Int)) else p) = p' at *
    refine Stops_wp L72_1.eq_1 ?_
    simp [h84, h85, h86, h0, hlt, hw, hat, ← encT_eq, q, splice, -Int.natCast_add]
    refine nx _ _ ?_ ?_ ?_ ?_ <;> simp [h84, h85, h0]

/-- Types without records, one behind the other. -/
def pfold : Int × Int → List Tm → Int × Int
  | p, [] => p
  | p, t :: l => pfold (if p.2 = 0 ∧ plainT t = false then (t.a, 12) else p) l
theorem pfold_err : ∀ (l : List Tm) (p : Int × Int), p.2 ≠ 0 → pfold p l = p
  | [], p, _ => rfl
  | t :: l, p, h => by rw [pfold, if_neg (fun q => h q.1)]; exact pfold_err l p h
theorem pfold_ok (m : Tm) : ∀ (l : List Tm) (a : Int), pfold (a, 0) l = match plainsT m l with | .ok _ => (a, 0) | .error p => p
  | [], a => rfl
  | t :: l, a => by
    rw [pfold, plainsT]
    cases h : plainT t with
    | false => simp only [and_self, if_true]; rw [pfold_err l _ (by simp)]
    | true => simp only [Bool.true_eq_false, and_false, if_false]; exact pfold_ok m l a
theorem plains_err (m : Tm) : ∀ (l : List Tm) (a b : Int), plainsT m l = .error (a, b) → b ≠ 0
  | [], a, b, h => by cases h
  | t :: l, a, b, h => by
    rw [plainsT] at h
    split at h
    · simp only [Except.error.injEq, Prod.mk.injEq] at h; omega
    · exact plains_err m l a b h

theorem l72c (gm : good m) (t : Tm) (l : List Tm) (hg : Good l) (hl : l.length ≤ 1000001) (aid mda : Nat) (ha0 : aid ≠ 0) (st0 : St) (h00 : aid < st0.length) (ha : St.at st0 aid = .cells false 6 0 mda false (encTs l)) :
    ∀ (r i : Nat) (s : List D) (bx : List (Nat × List D)) (st : St) (p : Int × Int), r = l.length - i → i ≤ l.length → Went st0 .nils st .nils → Lk m ret st .nils [] p.1 p.2 → (p.2 = 0 → ∀ x, x ∈ l → cellsV m x ≠ 0) →
      get s 94 = .rs aid 0 6 0 l.length false → get s 95 = .i l.length → get s 96 = .int .i64 i → get s 0 = .hp 0 0 15 0 0 → get s 3 = .lp 3 1 0 → getB bx 3 = (1, clT t) →
    Stops (lp T L72_2 ⟨⟨s, bx⟩, st⟩) fun e _ _ st' => e = .exit 4 ∧ Went st0 .nils st' .nils ∧ Lk m ret st' .nils [] (if t.n = 1 then pfold p (l.drop i) else p).1 (if t.n = 1 then pfold p (l.drop i) else p).2 := by
  intro r
  induction r with
  | zero =>
    intro i s bx st p hr hi W K hc h94 h95 h96 h0 h3 b3
    have e : i = l.length := by omega
    subst e
    refine Stops_wp L72_2.eq_1 ?_
    have e2 : (if t.n = 1 then pfold p (l.drop l.length) else p) = p := by rw [List.drop_length, pfold]; split <;> rfl
    rw [e2]
    simp [h94, h95, h96, h0]
    exact ⟨W, K⟩
  | succ r ihr =>
    intro i s bx st p hr hi W K hc h94 h95 h96 h0 h3 b3
    have hlt : i < l.length := by omega
    have hw : IntKind.wrap .i64 ((i : Int) + 1) = ((i + 1 : Nat) : Int) := by rw [wrap64] <;> omega
    have hat : St.at st aid = .cells false 6 0 mda false (encTs l) := by rw [W.2.2 aid h00 ha0 (by simpa [lidOf] using ha0)]; exact ha
    obtain ⟨md, k0⟩ := K.h0
    have hgx := hg _ (List.getElem_mem hlt)
    have hd : (if t.n = 1 then pfold p (l.drop i) else p) = (if t.n = 1 then pfold (if p.2 = 0 ∧ plainT l[i] = false then (l[i].a, 12) else p) (l.drop (i + 1)) else p) := by
      rw [List.drop_eq_getElem_cons hlt, pfold]
    rw [hd]
    refine Stops_wp L72_2.eq_1 ?_
    by_cases he : p.2 = 0
    · by_cases hn : t.n = 1
      · have qp := fun st => c121 gm l[i] hgx (hc he _ (List.getElem_mem hlt)) st
        rw [if_pos hn]
        cases hp : plainT l[i] with
        | true =>
          have nx := fun s' bx' => ihr (i + 1) s' bx' st p (by omega) (by omega) W K hc
          rw [if_pos hn] at nx
          rw [hp] at qp
          simp only [Bool.true_eq_false, and_false, if_false]
          rw [he] at k0
          simp [h94, h95, h96, h0, h3, b3, hlt, hw, hat, he, hn, k0, lkO, kHs, ← encT_eq, qp, splice, -Int.natCast_add]
          refine nx _ _ ?_ ?_ ?_ ?_ ?_ ?_ <;> simp [h94, h95, h0, h3, b3]
        | false =>
          obtain ⟨st1, q, K1, W1⟩ := c118 K l[i] 12
          rw [if_pos he, if_pos he] at K1
          have nx := fun s' bx' => ihr (i + 1) s' bx' st1 (l[i].a, 12) (by omega) (by omega) (W.trans W1) K1 (fun h => by cases h)
          rw [if_pos hn] at nx
          rw [hp] at qp
          rw [if_pos ⟨he, rfl⟩]
          rw [he] at k0
          simp [h94, h95, h96, h0, h3, b3, hlt, hw, hat, he, hn, k0, lkO, kHs, ← encT_eq, qp, q, splice, -Int.natCast_add]
          refine nx _ _ ?_ ?_ ?_ ?_ ?_ ?_ <;> simp [h94, h95, h0, h3, b3]
      · have nx := fun s' bx' => ihr (i + 1) s' bx' st p (by omega) (by omega) W K hc
        rw [if_neg hn] at nx
        rw [if_neg hn]
        rw [he] at k0
        simp [h94, h95, h96, h0, h3, b3, hlt, hw, hat, hn, k0, lkO, kHs, splice, -Int.natCast_add]
        refine nx _ _ ?_ ?_ ?_ ?_ ?_ ?_ <;> simp [h94, h95, h0, h3, b3]
    · have nx := fun s' bx' => ihr (i + 1) s' bx' st p (by omega) (by omega) W K hc
      have e3 : (if p.2 = 0 ∧ plainT l[i] = false then (l[i].a, (12 : Int)) else p) = p := if_neg (fun h => he h.1)
      rw [e3]
      generalize (if t.n = 1 then pfold p (l.drop (i + 1)) else p) = p' at *
      simp [h94, h95, h96, h0, h3, b3, hlt, hw, hat, he, k0, lkO, kHs, splice, -Int.natCast_add]
      refine nx _ _ ?_ ?_ ?_ ?_ ?_ ?_ <;> simp [h94, h95, h0, h3, b3]
end Go.Nt.Ty

/-
  RIGHT MODULES, walked (12): a function's head, joined.
  No condition.
-/
set_option linter.unusedSimpArgs false
namespace Go.Nt.Ty
open Go Go.Nt

variable {m ret : Tm} {st : St} {lv : D} {locs : List Tm} {at0 e : Int}

/-- How a function's head ends. -/
def Hok (m ret : Tm) (st : St) (at0 : Int) (R : Er (List Tm)) (ret' : Tm) (st' : St) : Prop := ∃ lv', Went st .nils st' lv' ∧ match R with
    | .ok tys => Lk m ret' st' lv' tys at0 0
    | .error (x, y) => y ≠ 0 ∧ ∃ ret1 locs', Lk m ret1 st' lv' locs' x y

theorem headT_bad {m t : Tm} (h : ¬ ((t.n = 0 ∨ t.n = 1) ∧ ∃ p r b, t.l = [p, r, b] ∧ p.k = 35 ∧ partedT p.l = true ∧ b.k = 29)) : headT m t = .error (t.a, 12) := by
  unfold headT
  match hl : t.l with
  | [p, r, b] =>
    simp only
    rw [if_pos]
    refine Classical.byContradiction fun q => h ?_
    simp only [not_or, not_and, Classical.not_not] at q
    obtain ⟨q1, q2, q3, q4⟩ := q
    exact ⟨by omega, p, r, b, hl, q2, by simpa using q3, q4⟩
  | [] => rfl
  | [_] => rfl
  | [_, _] => rfl
  | _ :: _ :: _ :: _ :: _ => rfl

theorem f_bad (rr t : Tm) (gt : good t) (K : Lk m ret st .nils [] at0 0) (h : ¬ ((t.n = 0 ∨ t.n = 1) ∧ ∃ p r b, t.l = [p, r, b] ∧ p.k = 35 ∧ partedT p.l = true ∧ b.k = 29)) :
    ∃ st', callD T (ev T) 72 [.hp 0 0 15 0 0, encT t] st = some (.tup [], st') ∧ Hok m ret st at0 (headT m t) rr st' := by
  obtain ⟨st1, q, K1, W1⟩ := c118 K t 12
  refine ⟨st1, ?_, .nils, W1, ?_⟩
  · rw [callD_rawE (fn := F72) rfl rfl (by simp)]
    have go : Ret (ev T 72 [.hp 0 0 15 0 0, encT t] st) fun r st' => r = .tup [] ∧ st' = st1 := by
      refine Ret_wp (fn := F72) rfl ?_
      rw [F72]
      have c3 : ((t.l.length : Int) = 3) = (t.l.length = 3) := propext (by omega)
      by_cases hn : t.n = 0 ∨ t.n = 1
      · by_cases hl : t.l.length = 3
        · obtain ⟨p, r, b, hl⟩ : ∃ p r b, t.l = [p, r, b] := by
            match h : t.l, hl with
            | [p, r, b], _ => exact ⟨p, r, b, rfl⟩
          have gp : good p := good_mem gt (by rw [hl]; simp)
          have qp := fun st => c117 p.fl p.l (good_len gp) st
          rw [encT_eq t, hl] at q
          simp only [encTs_cons, encTs_nil] at q
          by_cases hk : p.k = 35
          · cases hp : partedT p.l with
            | true =>
              rw [hp] at qp
              have hb : ¬ b.k = 29 := fun hb => h ⟨hn, p, r, b, hl, hk, hp, hb⟩
              rcases hn with hn | hn
              · rw [hn] at q; simp [hl, hn, hk, qp, hb, q, splice]
              · rw [hn] at q; simp [hl, hn, hk, qp, hb, q, splice]
            | false =>
              rw [hp] at qp
              rcases hn with hn | hn
              · rw [hn] at q; simp [hl, hn, hk, qp, q, splice]
              · rw [hn] at q; simp [hl, hn, hk, qp, q, splice]
          · rcases hn with hn | hn
            · rw [hn] at q; simp [hl, hn, hk, q, splice]
            · rw [hn] at q; simp [hl, hn, hk, q, splice]
        · rcases hn with hn | hn
          · rw [encT_eq, hn] at q; simp [hn, hl, c3, q, splice]
          · rw [encT_eq, hn] at q; simp [hn, hl, c3, q, splice]
      · have n0 : ¬ t.n = 0 := fun h => hn (.inl h)
        have n1 : ¬ t.n = 1 := fun h => hn (.inr h)
        simp [n0, n1, ← encT_eq, q, splice]
    obtain ⟨r, st', h1, rfl, rfl⟩ := go
    exact h1
  · rw [headT_bad h]
    exact ⟨by decide, ret, [], by simpa using K1⟩

theorem RawT.copy {st0 st1 : St} {L : D} {l : List Tm} (h : RawT st0 st1 L l) (hb : l.length ≤ 1000000) (r : Tm) : ∃ L', (∀ q, q = (l.length : Int) → sliceD L none (some (.int .i64 q)) (some (.int .i64 q)) = some L') ∧ slcTy (some 6) L = true ∧
    appendD st1 L' [encT r] 6 = some (.rs st1.length 0 6 0 (l.length + 1) false, st1 ++ [.cells false 6 0 0 false (encTs (l ++ [r]))]) := by
  rcases h with ⟨rfl, rfl⟩ | ⟨id, md, h0, rfl, h1, h2, h3⟩
  · exact ⟨.nils, by rintro q rfl; simp [sliceD, boundD], rfl, by simp [appendD, most]⟩
  · have e2 : List.take l.length (encTs l) = encTs l := List.take_of_length_le (by simp)
    have hm : l.length ≤ 134217728 := by omega
    refine ⟨.rs id (l.length - 1) 6 0 l.length true, by rintro q rfl; simp [sliceD, boundD], rfl, ?_⟩
    simp [appendD, h1, hm, most, e2, encTs_append]

theorem f_good (gm : good m) (t p r b : Tm) (gt : good t) (K : Lk m ret st .nils [] at0 0) (hn : t.n = 0 ∨ t.n = 1) (hl : t.l = [p, r, b]) (hk : p.k = 35) (hp : partedT p.l = true) (hb : b.k = 29) :
    ∃ st', callD T (ev T) 72 [.hp 0 0 15 0 0, encT t] st = some (.tup [], st') ∧ Hok m ret st at0 (headT m t) r st' := by
  have gp : good p := good_mem gt (by rw [hl]; simp)
  have gr : good r := good_mem gt (by rw [hl]; simp)
  have qp := fun st => c117 p.fl p.l (good_len gp) st
  rw [hp] at qp
  have hpl := good_len gp
  have hone : ∀ q, q ∈ p.l → ∃ x, q.l = [x] := by
    intro q hq
    unfold partedT at hp
    rw [List.all_eq_true] at hp
    have := hp q hq
    simp only [Bool.and_eq_true, decide_eq_true_eq] at this
    exact List.length_eq_one_iff.1 this.2
  have gall : Good (p.l.map tyOf ++ [r]) := by
    intro u hu
    rcases List.mem_append.1 hu with h | h
    · obtain ⟨q, hq, rfl⟩ := List.mem_map.1 h
      obtain ⟨x, hx⟩ := hone q hq
      rw [tyOf, hx]
      exact good_mem (good_mem gp hq) (by rw [hx]; simp)
    · simp only [List.mem_cons, List.not_mem_nil, or_false] at h
      rw [h]; exact gr
  have lo1 := fun s bx => l72a p.fl p.l hpl hone st p.l.length 0 s bx .nils st (by omega) (by omega) (Grow.refl st) (RawT.nil st st)
  rw [callD_rawE (fn := F72) rfl rfl (by simp)]
  have go : Ret (ev T 72 [.hp 0 0 15 0 0, encT t] st) fun r' st' => r' = .tup [] ∧ Hok m ret st at0 (headT m t) r st' := by
    refine Ret_wp (fn := F72) rfl ?_
    rw [F72]
    have fin : ∀ L st1 st4, RawT st st1 L (p.l.map tyOf) → Grow st (st1 ++ [.cells false 6 0 0 false (encTs (p.l.map tyOf ++ [r]))]) → Went (st1 ++ [.cells false 6 0 0 false (encTs (p.l.map tyOf ++ [r]))]) .nils st4 .nils →
        ∀ q : Int × Int, q = (if t.n = 1 then pfold (kfold m (at0, 0) (p.l.map tyOf ++ [r])) (p.l.map tyOf ++ [r]) else kfold m (at0, 0) (p.l.map tyOf ++ [r])) → Lk m ret st4 .nils [] q.1 q.2 → ∀ md, Hok m ret st at0 (headT m t) r (List.set st4 0 (lkO m L r q.1 q.2 md)) := by
      intro L st1 st4 R g W q hq K4 md
      have hl4 := K4.hl
      have R4 : RawT st st4 L (p.l.map tyOf) := R.keep (by have := W.1; simp at this; omega) fun hne => by
        rcases R.lid with h | ⟨h, h'⟩
        · exact absurd h hne
        · have := K.hl
          rw [W.2.2 _ (by simp; omega) (by omega) (by show lidOf L ≠ 0; omega), at_lt _ _ h']
      have hw : LocW (List.set st4 0 (lkO m L r q.1 q.2 md)) L (p.l.map tyOf) := by
        rcases R4 with ⟨h, rfl⟩ | ⟨id, mi, h0, rfl, h1, h2, h3⟩
        · exact .inl ⟨rfl, h⟩
        · have := K.hl
          have hlen : (p.l.map tyOf).length ≤ 1000000 := by simpa using hpl
          exact .inr ⟨id, _, mi, false, [], rfl, by rw [List.append_nil, at_set _ _ _ _ hl4, if_neg (by omega)]; exact h1, by omega, by simpa using h3, fun _ => rfl, by rw [List.append_nil]; omega, by rw [List.append_nil]; omega⟩
      have K5 : Lk m r (List.set st4 0 (lkO m L r q.1 q.2 md)) L (p.l.map tyOf) q.1 q.2 := ⟨by simpa using hl4, ⟨md, by rw [at_set _ _ _ _ hl4, if_pos rfl]⟩, hw⟩
      have W5 : Went st .nils (List.set st4 0 (lkO m L r q.1 q.2 md)) L := by
        have hW := (Went.grow (lv := .nils) g).trans W
        refine ⟨by have := hW.1; simpa using this, ?_, fun i hi h0 hn => by rw [at_set _ _ _ _ hl4, if_neg h0]; exact hW.2.2 i hi h0 hn⟩
        rcases R with ⟨_, rfl⟩ | ⟨id, mi, _, rfl, _, h2, _⟩
        · exact .inl rfl
        · exact .inr (.inl h2)
      refine ⟨L, W5, ?_⟩
      unfold headT
      rw [hl]
      simp only
      rw [if_neg (by simp only [not_or, not_and, Classical.not_not]; exact ⟨by omega, hk, by rw [hp]; simp, hb⟩)]
      have ht : (p.l.map fun x => x.l.headD T0) = p.l.map tyOf := rfl
      rw [ht]
      rw [kfold_ok] at hq
      cases hkd : kindsT m (p.l.map tyOf ++ [r]) with
      | error v =>
        obtain ⟨v1, v2⟩ := v
        have hy := kinds_err m _ _ _ hkd
        rw [hkd] at hq
        simp only [pfold_err _ (v1, v2) hy] at hq
        have hq : q = (v1, v2) := by rw [hq]; split <;> rfl
        subst hq
        exact ⟨hy, r, _, K5⟩
      | ok u =>
        rw [hkd] at hq
        simp only at hq ⊢
        by_cases h1 : t.n = 1
        · rw [if_pos h1, pfold_ok m] at hq
          rw [if_pos h1]
          cases hpl : plainsT m (p.l.map tyOf ++ [r]) with
          | error v =>
            obtain ⟨v1, v2⟩ := v
            rw [hpl] at hq
            subst hq
            exact ⟨plains_err m _ _ _ hpl, r, _, K5⟩
          | ok u =>
            rw [hpl] at hq
            subst hq
            exact K5
        · rw [if_neg h1] at hq
          rw [if_neg h1]
          subst hq
          exact K5
    have hc : (kfold m (at0, 0) (p.l.map tyOf ++ [r])).2 = 0 → ∀ x, x ∈ p.l.map tyOf ++ [r] → cellsV m x ≠ 0 := by
      intro h0
      rw [kfold_ok] at h0
      cases hkd : kindsT m (p.l.map tyOf ++ [r]) with
      | error v =>
        obtain ⟨v1, v2⟩ := v
        rw [hkd] at h0
        exact absurd h0 (kinds_err m _ _ _ hkd)
      | ok u => exact kinds_ne m _ hkd
    generalize Hok m ret st at0 (headT m t) r = Q at *
    have hlen : (p.l.map tyOf ++ [r]).length = p.l.length + 1 := by simp
    generalize hall : p.l.map tyOf ++ [r] = all at *
    have hcl : clT t = [.int .i64 t.k, .int .i64 t.n, .str t.s, slE 6 t.fl [encT p, encT r, encT b], .int .i64 t.a, .int .i64 t.b] := by simp [hl]
    have hwr : ∀ st1 : St, Grow st st1 → Grow st (st1 ++ [.cells false 6 0 0 false (encTs all)]) := fun st1 g => g.trans ⟨by simp, fun i hi => at_lt _ _ hi⟩
    rcases hn with hn | hn
    all_goals
      simp [hl, hn, hk, qp, hb, splice]
      refine WL.useB L72_0_p L72_0_w (WB := L72_0.wrB) rfl (lo1 _ _ ?_ ?_ ?_ ?_) ?_
      iterate 4 simp
      rintro e s1 b1 st1 ⟨rfl, R, g1⟩ hf1 hb1
      generalize hL : get s1 4 = L at R
      have e0 := hf1 0 rfl
      have e3 := hf1 3 rfl
      have b3 := hb1 3 rfl
      simp at e0 e3 b3
      clear hf1 hb1
      obtain ⟨x1, x2, x3, x4⟩ := R.facts
      obtain ⟨L', c1, c2, c3⟩ := R.copy (by simpa using hpl) r
      have c1 := c1 _ rfl
      rw [hall] at c3
      simp only [List.length_map] at c1 c3 x4
      have h1l := K.hl
      have g1l := g1.1
      have lo2 := fun s bx => l72b gm all gall (by omega) st1.length 0 (by omega) _ (by simp) (at_last st1 _) all.length 0 s bx _ (at0, 0) (by omega) (by omega) (.refl _ _) (K.grow (hwr st1 g1))
      rw [hlen, List.drop_zero] at lo2
      simp [hL, e0, e3, b3, x1, x2, x3, x4, c1, c2, c3, -Int.natCast_add]
      refine WL.useB L72_1_p L72_1_w (WB := L72_1.wrB) rfl (lo2 _ _ ?_ ?_ ?_ ?_) ?_
      iterate 4 simp [e0]
      rintro e s2 b2 st3 ⟨rfl, W3, K3⟩ hf2 hb2
      have f0 := hf2 0 rfl
      have f3 := hf2 3 rfl
      have f4 := hf2 4 rfl
      have f7 := hf2 7 rfl
      have b3' := hb2 3 rfl
      simp [e0, e3, hL] at f0 f3 f4 f7
      rw [b3] at b3'
      clear hf2 hb2 lo2
      have lo3 := fun s bx => l72c gm t all gall (by omega) st1.length 0 (by omega) _ (by simp) (at_last st1 _) all.length 0 s bx _ _ (by omega) (by omega) W3 K3 hc
      rw [hlen, List.drop_zero] at lo3
      simp [f0, f3, f4, f7, -Int.natCast_add]
      refine WL.useB L72_2_p L72_2_w (WB := L72_2.wrB) rfl (lo3 _ _ ?_ ?_ ?_ ?_ ?_ ?_) ?_
      iterate 5 simp [f0, f3]
      · rw [b3', hcl, hn]
      rintro e s3 b4 st4 ⟨rfl, W4, K4⟩ hf3 hb3
      have h0' := hf3 0 rfl
      have h3' := hf3 3 rfl
      have h4' := hf3 4 rfl
      have b3'' := hb3 3 rfl
      simp [f0, f3, f4] at h0' h3' h4'
      rw [b3'] at b3''
      clear hf3 hb3 lo3
      obtain ⟨md4, k4⟩ := K4.h0
      have hl4 := K4.hl
      have ha4 : ∀ o, St.at (List.set st4 0 o) 0 = o := fun o => by rw [at_set _ _ _ _ hl4, if_pos rfl]
      have F := fin L st1 st4 R (hwr st1 g1) W4 _ rfl K4 (md4 + 2)
      generalize (if t.n = 1 then pfold (kfold m (at0, 0) all) all else kfold m (at0, 0) all) = q at *
      simp [h0', h3', h4', b3'', k4, lkO, kHs, ha4, hl4, splice, x1, x2, x3]
      exact F
  obtain ⟨r', st', h1, rfl, h2⟩ := go
  exact ⟨st', h1, h2⟩

theorem c72 (gm : good m) (t : Tm) (gt : good t) (K : Lk m ret st .nils [] at0 0) : ∃ st', callD T (ev T) 72 [.hp 0 0 15 0 0, encT t] st = some (.tup [], st') ∧ Hok m ret st at0 (headT m t) (t.l.tail.headD T0) st' := by
  by_cases h : (t.n = 0 ∨ t.n = 1) ∧ ∃ p r b, t.l = [p, r, b] ∧ p.k = 35 ∧ partedT p.l = true ∧ b.k = 29
  · obtain ⟨hn, p, r, b, hl, hk, hp, hb⟩ := h
    have := f_good gm t p r b gt K hn hl hk hp hb
    rw [hl]
    exact this
  · exact f_bad _ t gt K h
end Go.Nt.Ty

/-
  RIGHT MODULES BY THE REFERENCE, walked (14): functions' heads.
  No condition.
-/
set_option linter.unusedSimpArgs false
set_option maxRecDepth 20000
namespace Go.Nt.Ty
open Go Go.Nt

variable {m ret : Tm} {locs : List Tm}

theorem l193 (fl : Fl) (l : List Tm) (hl : l.length ≤ 1000000) :
    ∀ (r i : Nat) (s : List D) (bx : List (Nat × List D)) (st : St), r = l.length - i → i ≤ l.length → get s 0 = slE 6 fl (encTs l) → get s 3 = .int .i64 i →
    Stops (lp T L193_0 ⟨⟨s, bx⟩, st⟩) fun e s' _ _ => if partedT (l.drop i) then e = .exit 0 else e = .ret ∧ get s' 2 = .bool false := by
  intro r
  induction r with
  | zero =>
    intro i s bx st hr hi h0 h3
    have e : i = l.length := by omega
    subst e
    refine Stops_wp L193_0.eq_1 ?_
    rw [List.drop_length]
    simp [h0, h3, partedT]
  | succ r ihr =>
    intro i s bx st hr hi h0 h3
    have hlt : i < l.length := by omega
    have hw : IntKind.wrap .i64 ((i : Int) + 1) = ((i + 1 : Nat) : Int) := by rw [wrap64] <;> omega
    have nx := fun s' bx' => ihr (i + 1) s' bx' st (by omega) (by omega)
    have hd : partedT (l.drop i) = (decide (l[i].k = 34) && decide (l[i].l.length = 1) && partedT (l.drop (i + 1))) := by rw [List.drop_eq_getElem_cons hlt, partedT, List.all_cons] <;> rfl
    rw [hd]
    generalize partedT (l.drop (i + 1)) = A at *
    refine Stops_wp L193_0.eq_1 ?_
    by_cases hk : l[i].k = 34
    · by_cases hn : l[i].l.length = 1
      · simp [h0, h3, hlt, hw, hk, hn, -Int.natCast_add]
        refine nx _ _ ?_ ?_ <;> simp [h0]
      · simp [h0, h3, hlt, hw, hk, hn, -Int.natCast_add]
    · simp [h0, h3, hlt, hw, hk, -Int.natCast_add]

theorem c193 (fl : Fl) (l : List Tm) (hl : l.length ≤ 1000000) (st : St) : callD T (ev T) 193 [slE 6 fl (encTs l)] st = some (.bool (partedT l), st) := by
  refine callD_pureR (fn := F193) rfl rfl (by simp) (by simp) ?_
  refine Ret_wp (fn := F193) rfl ?_
  rw [F193]
  have lo := fun s bx st => l193 fl l hl l.length 0 s bx st (by omega) (by omega)
  rw [List.drop_zero] at lo
  generalize partedT l = A at *
  simp
  refine WL.use L193_0_p L193_0_w (lo _ _ _ ?_ ?_) ?_
  iterate 2 simp
  rintro e s' b' st' h hf
  cases A with
  | true => simp at h; subst h; simp
  | false => simp at h; obtain ⟨rfl, q2⟩ := h; simp [q2]

/-- A row that grew behind a heap. -/
def RawG (st0 st : St) (L : D) (l : List Tm) : Prop := RawE st L l ∧ Grow st0 st ∧ (l = [] ∨ st0.length ≤ lidOf L)
theorem RawG.nil (st : St) : RawG st st (.sl 6 true []) [] := ⟨RawE.nil _, Grow.refl _, .inl rfl⟩
theorem RawG.app {st0 st : St} {L : D} {l : List Tm} (h : RawG st0 st L l) (hb : l.length ≤ 1000000) (x : Tm) : ∃ L' st', appendD st L [encT x] 6 = some (L', st') ∧ RawG st0 st' L' (l ++ [x]) := by
  obtain ⟨R, g, hl⟩ := h
  obtain ⟨L', st', a, R', g1, o1, d1⟩ := R.app hb x
  refine ⟨L', st', a, R', ⟨by have := g.1; omega, fun i hi => ?_⟩, .inr ?_⟩
  · rw [o1 i (by have := g.1; omega) (by rcases hl with h | h; exact .inl h; exact .inr (by omega)), g.2 i hi]
  · rcases d1 with ⟨e, hne⟩ | ⟨_, e⟩
    · rcases hl with h | h
      · exact absurd h hne
      · omega
    · have := g.1; omega
theorem RawG.fz {st0 st : St} {L : D} {l : List Tm} (h : RawG st0 st L l) : ∃ st', fz0 st L = some (slE 6 .emp (encTs l), st') ∧ Nt.fz1 st L = some (slE 6 .emp (encTs l), st') ∧ Grow st0 st' := by
  obtain ⟨R, g, hl⟩ := h
  obtain ⟨st', f1, f2, f3⟩ := R.fz
  exact ⟨st', f1, by rw [R.fz1]; exact f1, by have := g.1; omega, fun i hi => by rw [f3 i (by rcases hl with h | h; exact .inl h; exact .inr (by omega)), g.2 i hi]⟩

theorem l59 (f p : Tm) (rest : List Tm) (hf : f.l = p :: rest) (hl : p.l.length ≤ 1000000) (hp : partedT p.l = true) (st0 : St) :
    ∀ (r i : Nat) (s : List D) (bx : List (Nat × List D)) (st : St) (L : D), r = p.l.length - i → i ≤ p.l.length → RawG st0 st L ((p.l.take i).map tyOf) → get s 1 = .lp 1 1 0 → getB bx 1 = (1, clT f) → get s 3 = L → get s 4 = .int .i64 i →
    Stops (lp T L59_0 ⟨⟨s, bx⟩, st⟩) fun e s' _ st' => e = .exit 0 ∧ RawG st0 st' (get s' 3) (p.l.map tyOf) := by
  intro r
  induction r with
  | zero =>
    intro i s bx st L hr hi R h1 b1 h3 h4
    have e : i = p.l.length := by omega
    subst e
    rw [List.take_length] at R
    refine Stops_wp L59_0.eq_1 ?_
    simp [h1, b1, hf, h3, h4]
    exact R
  | succ r ihr =>
    intro i s bx st L hr hi R h1 b1 h3 h4
    have hlt : i < p.l.length := by omega
    have hw : IntKind.wrap .i64 ((i : Int) + 1) = ((i + 1 : Nat) : Int) := by rw [wrap64] <;> omega
    have hpi : p.l[i].l.length = 1 := by
      have := List.all_eq_true.1 hp _ (List.getElem_mem hlt)
      simp only [Bool.and_eq_true, decide_eq_true_eq] at this
      exact this.2
    match hx : p.l[i].l, hpi with
    | [x], _ =>
      have ex : tyOf p.l[i] = x := by rw [tyOf, hx] <;> rfl
      obtain ⟨L3, st3, a1, R3⟩ := R.app (by simp; omega) x
      have e1 : (p.l.take i).map tyOf ++ [x] = (p.l.take (i + 1)).map tyOf := by
        rw [← ex, ← List.map_singleton, ← List.map_append, List.take_append_getElem hlt]
      rw [e1] at R3
      have nx := fun s' bx' => ihr (i + 1) s' bx' st3 L3 (by omega) (by omega) R3
      refine Stops_wp L59_0.eq_1 ?_
      simp [h1, b1, hf, h3, h4, hlt, hx, hw, ← encT_eq x, a1, -Int.natCast_add]
      refine nx _ _ ?_ ?_ ?_ ?_ <;> simp [h1, b1, hf]

theorem c59 (f p : Tm) (rest : List Tm) (hf : f.l = p :: rest) (hl : p.l.length ≤ 1000000) (hp : partedT p.l = true) (st : St) : ∃ L st', callD T (ev T) 59 [encT f] st = some (L, st') ∧ RawG st st' L (p.l.map tyOf) := by
  rw [callD_rawE (fn := F59) rfl rfl (by simp)]
  have go : Ret (ev T 59 [encT f] st) fun r st' => RawG st st' r (p.l.map tyOf) := by
    refine Ret_wp (fn := F59) rfl ?_
    rw [F59]
    have lo := fun s bx => l59 f p rest hf hl hp st p.l.length 0 s bx st (.sl 6 true []) (by omega) (by omega) (by simpa using RawG.nil st)
    simp
    refine WL.useB L59_0_p L59_0_w (WB := L59_0.wrB) rfl (lo _ _ ?_ ?_ ?_ ?_) ?_
    iterate 4 simp [hf]
    rintro e s' b' st' ⟨rfl, R⟩ hf' hb
    obtain ⟨x1, _⟩ := R.1.facts
    simp [x1]
    exact R
  obtain ⟨r, st', h1, R⟩ := go
  exact ⟨r, st', h1, R⟩

theorem l135a (gm : good m) (hb : m.l.length ≤ 1000) (l : List Tm) (gl : ∀ x, x ∈ l → good x) (hl : l.length ≤ 1000000) (id v md : Nat) (st : St) (hat : St.at st id = .cells false 6 v md false (encTs l)) :
    ∀ (r i : Nat) (s : List D) (bx : List (Nat × List D)), r = l.length - i → i ≤ l.length → get s 2 = .lp 2 1 0 → getB bx 2 = (1, clT m) → get s 4 = .lp 4 1 0 → getB bx 4 = (1, z8) → get s 5 = .rs id v 6 0 l.length false → get s 6 = .int .i64 i →
    Stops (lp T L135_0 ⟨⟨s, bx⟩, st⟩) fun e _ b' st' => st' = st ∧ match kindsT m (l.drop i) with
      | .ok _ => e = .exit 0 ∧ getB b' 4 = (1, z8)
      | .error (x, y) => e = .ret ∧ getB b' 4 = (1, [.int .i64 0, .int .i64 0, .str [], .nils, .int .i64 0, .int .i64 0, .int .i64 x, .int .i64 y]) := by
  intro r
  induction r with
  | zero =>
    intro i s bx hr hi h2 b2 h4 b4 h5 h6
    have e : i = l.length := by omega
    subst e
    refine Stops_wp L135_0.eq_1 ?_
    rw [List.drop_length, kindsT]
    simp [h2, b2, h4, b4, h5, h6]
  | succ r ihr =>
    intro i s bx hr hi h2 b2 h4 b4 h5 h6
    have hlt : i < l.length := by omega
    have hw : IntKind.wrap .i64 ((i : Int) + 1) = ((i + 1 : Nat) : Int) := by rw [wrap64] <;> omega
    have gx := gl _ (List.getElem_mem hlt)
    have q1 := fun st => c60 m _ (good_ok _ gm) hb (good_ok _ gx) st
    rw [cells_eq] at q1
    have q3 := c137 l[i] 11
    simp [got8] at q3
    have nx := fun s' bx' => ihr (i + 1) s' bx' (by omega) (by omega)
    rw [List.drop_eq_getElem_cons hlt, kindsT]
    generalize kindsT m (l.drop (i + 1)) = R at *
    refine Stops_wp L135_0.eq_1 ?_
    by_cases h0 : cellsV m l[i] = 0
    · rw [if_pos h0]
      simp [h2, b2, h4, b4, h5, h6, hlt, hw, hat, ← encT_eq m, ← encT_eq l[i], q1, q3, h0, splice, z8, -Int.natCast_add]
    · rw [if_neg h0]
      simp [h2, b2, h4, b4, h5, h6, hlt, hw, hat, ← encT_eq m, ← encT_eq l[i], q1, h0, splice, -Int.natCast_add]
      refine nx _ _ ?_ ?_ ?_ ?_ ?_ ?_ <;> simp [h2, b2, h4, b4, h5]

/-- Of a type that has cells. -/
theorem plain_free (t : Tm) : cellsV m t ≠ 0 → freeT t = plainT t := by
  induction t using Tm.ind with
  | h t ih =>
    intro hc
    by_cases h3 : t.k = 3
    · obtain ⟨x, r, hl, hx⟩ := cells_part h3 hc
      have hl1 : t.l = [x] := by
        unfold cellsV at hc
        rw [arrM_eq, if_neg (by omega), if_pos h3] at hc
        split at hc
        · next y hy => rw [hl] at hy; cases hy; exact hl
        · exact absurd rfl hc
      rw [plain_3 h3 hl, freeT_eq, hl1]
      have := ih x (by rw [hl1]; simp) hx
      simp [h3, this]
    · have hl : t.l = [] := by
        unfold cellsV at hc
        rw [arrM_eq] at hc
        split at hc
        · next h => exact h.2
        split at hc
        · next h => exact h.2
        · exact absurd rfl hc
      rw [plain_n h3, freeT_eq, hl]
      simp

theorem l135b (gm : good m) (hb : m.l.length ≤ 1000) (t : Tm) (l : List Tm) (gl : ∀ x, x ∈ l → good x) (hl : l.length ≤ 1000000) (hc : ∀ x, x ∈ l → cellsV m x ≠ 0) (id v md : Nat) (st : St) (hat : St.at st id = .cells false 6 v md false (encTs l)) :
    ∀ (r i : Nat) (s : List D) (bx : List (Nat × List D)), r = l.length - i → i ≤ l.length → get s 2 = .lp 2 1 0 → getB bx 2 = (1, clT m) → get s 3 = .lp 3 1 0 → getB bx 3 = (1, clT t) → get s 4 = .lp 4 1 0 → getB bx 4 = (1, z8) → get s 5 = .rs id v 6 0 l.length false → get s 7 = .int .i64 i →
    Stops (lp T L135_1 ⟨⟨s, bx⟩, st⟩) fun e _ b' st' => st' = st ∧ match (if t.n = 1 then plainsT m (l.drop i) else .ok ()) with
      | .ok _ => e = .exit 2 ∧ getB b' 4 = (1, z8)
      | .error (x, y) => e = .ret ∧ getB b' 4 = (1, [.int .i64 0, .int .i64 0, .str [], .nils, .int .i64 0, .int .i64 0, .int .i64 x, .int .i64 y]) := by
  intro r
  induction r with
  | zero =>
    intro i s bx hr hi h2 b2 h3 b3 h4 b4 h5 h7
    have e : i = l.length := by omega
    subst e
    refine Stops_wp L135_1.eq_1 ?_
    rw [List.drop_length, plainsT]
    simp [h2, b2, h4, b4, h5, h7]
  | succ r ihr =>
    intro i s bx hr hi h2 b2 h3 b3 h4 b4 h5 h7
    have hlt : i < l.length := by omega
    have hw : IntKind.wrap .i64 ((i : Int) + 1) = ((i + 1 : Nat) : Int) := by rw [wrap64] <;> omega
    have gx := gl _ (List.getElem_mem hlt)
    have hcx := hc _ (List.getElem_mem hlt)
    have q1 := fun st => c194 m _ gm hb gx st
    rw [plain_free _ hcx] at q1
    simp only [ne_eq, hcx, not_false_eq_true, decide_true, Bool.true_and] at q1
    have q3 := c137 l[i] 12
    simp [got8] at q3
    have nx := fun s' bx' => ihr (i + 1) s' bx' (by omega) (by omega)
    refine Stops_wp L135_1.eq_1 ?_
    by_cases h1 : t.n = 1
    · rw [if_pos h1] at nx ⊢
      rw [List.drop_eq_getElem_cons hlt, plainsT]
      generalize plainsT m (l.drop (i + 1)) = R at *
      cases hp : plainT l[i] with
      | false =>
        rw [hp] at q1
        simp [h2, b2, h3, b3, h4, b4, h5, h7, hlt, hw, h1, hat, ← encT_eq m, ← encT_eq l[i], q1, q3, splice, z8, -Int.natCast_add]
      | true =>
        rw [hp] at q1
        simp [h2, b2, h3, b3, h4, b4, h5, h7, hlt, hw, h1, hat, ← encT_eq m, ← encT_eq l[i], q1, splice, -Int.natCast_add]
        refine nx _ _ ?_ ?_ ?_ ?_ ?_ ?_ ?_ ?_ <;> simp [h2, b2, h3, b3, h1, h4, b4, h5]
    · rw [if_neg h1] at nx ⊢
      simp [h2, b2, h3, b3, h4, b4, h5, h7, hlt, hw, h1, splice, -Int.natCast_add]
      refine nx _ _ ?_ ?_ ?_ ?_ ?_ ?_ ?_ ?_ <;> simp [h2, b2, h3, b3, h4, b4, h5]
end Go.Nt.Ty

/-
  RIGHT MODULES BY THE REFERENCE, walked (15): functions.
  No condition.
-/
set_option linter.unusedSimpArgs false
set_option maxRecDepth 20000
namespace Go.Nt.Ty
open Go Go.Nt

variable {m ret : Tm} {locs : List Tm}

theorem fnE_len {t : Tm} (h : t.l.length ≠ 3) : fnE m t = .error (t.a, 12) := by
  unfold fnE
  split
  · next e => rw [e] at h; exact absurd rfl h
  · rfl
theorem fnE_bad {t p r b : Tm} (hl : t.l = [p, r, b]) (h : (t.n ≠ 0 ∧ t.n ≠ 1) ∨ p.k ≠ 35 ∨ partedT p.l = false ∨ b.k ≠ 29) : fnE m t = .error (t.a, 12) := by
  unfold fnE; rw [hl]; simp only; rw [if_pos h]
theorem fnE_good {t p r b : Tm} (hl : t.l = [p, r, b]) (h : ¬ ((t.n ≠ 0 ∧ t.n ≠ 1) ∨ p.k ≠ 35 ∨ partedT p.l = false ∨ b.k ≠ 29)) : fnE m t = (match kindsT m (p.l.map tyOf ++ [r]) with
      | .error e => .error e
      | .ok () => match (if t.n = 1 then plainsT m (p.l.map tyOf ++ [r]) else .ok ()) with
        | .error e => .error e
        | .ok () => match blockE m r (p.l.map tyOf) b with
          | .error e => .error e
          | .ok s => .ok (.mk t.k t.n [] .nil [nlE p, nlE r, s] 0 0)) := by
  unfold fnE blockE; rw [hl]; simp only; rw [if_neg h]
  unfold tyOf
  generalize kindsT m (p.l.map (fun x => x.l.headD T0) ++ [r]) = K
  generalize (if t.n = 1 then plainsT m (p.l.map (fun x => x.l.headD T0) ++ [r]) else Except.ok ()) = P
  generalize blkE m r (p.l.map fun x => x.l.headD T0) b.l = B
  cases K <;> cases P <;> cases B <;> rfl

def endF (m t p r b : Tm) (types : List Tm) : Er Tm := match blockE m r types b with
          | .error e => .error e
          | .ok s => .ok (.mk t.k t.n [] .nil [nlE p, nlE r, s] 0 0)

theorem c135 (gm : good m) (hb : m.l.length ≤ 1000) (t : Tm) (gt : good t) (hct : cntT t < 800000) (st : St) : callD T (ev T) 135 [encT m, encT t] st = some (got8 (fnE m t), st) := by
  have q12 := c137 t 12
  simp [got8] at q12
  refine callD_pureR (fn := F135) rfl rfl (by simp) (got8_pure _) ?_
  refine Ret_wp (fn := F135) rfl ?_
  rw [F135]
  by_cases hn : t.n = 0 ∨ t.n = 1
  case neg =>
    have e : fnE m t = .error (t.a, 12) := by
      by_cases hl : t.l.length = 3
      · match hl' : t.l, hl with
        | [p, r, b], _ => exact fnE_bad hl' (.inl (not_or.1 hn))
      · exact fnE_len hl
    simp only [not_or] at hn
    rw [e]
    simp [hn.1, hn.2, ← encT_eq t, q12, splice, got8]
  by_cases hl : t.l.length = 3
  case neg =>
    have hl' : ¬ ((t.l.length : Int) = 3) := by omega
    rw [fnE_len hl]
    rcases hn with hn | hn
    · rw [encT_eq t, hn] at q12
      simp [hn, hl', q12, splice, got8]
    · rw [encT_eq t, hn] at q12
      simp [hn, hl', q12, splice, got8]
  match hll : t.l, hl with
  | [p, r, b], _ =>
  have gp := good_mem gt (by rw [hll]; simp : p ∈ t.l)
  have gr := good_mem gt (by rw [hll]; simp : r ∈ t.l)
  have gb := good_mem gt (by rw [hll]; simp : b ∈ t.l)
  have hcs : cntT p + cntT r + cntT b < cntT t := by rw [cntT_eq t, hll]; simp [cntTs]; omega
  have hpl : p.l.length ≤ cntT p := by have := cntT_eq p; have := cntTs_len p.l; omega
  have qp := fun st => c193 p.fl p.l (by omega) st
  by_cases hk : p.k = 35
  case neg =>
    rw [fnE_bad hll (.inr (.inl hk))]
    rcases hn with hn | hn
    · rw [encT_eq t, hn, hll] at q12
      simp only [encTs_cons, encTs_nil] at q12
      simp [hn, hll, hk, q12, splice, got8]
    · rw [encT_eq t, hn, hll] at q12
      simp only [encTs_cons, encTs_nil] at q12
      simp [hn, hll, hk, q12, splice, got8]
  cases hp : partedT p.l with
  | false =>
    rw [fnE_bad hll (.inr (.inr (.inl hp)))]
    rw [hp] at qp
    rcases hn with hn | hn
    · rw [encT_eq t, hn, hll] at q12
      simp only [encTs_cons, encTs_nil] at q12
      simp [hn, hll, hk, qp, q12, splice, got8]
    · rw [encT_eq t, hn, hll] at q12
      simp only [encTs_cons, encTs_nil] at q12
      simp [hn, hll, hk, qp, q12, splice, got8]
  | true =>
  rw [hp] at qp
  by_cases hbk : b.k = 29
  case neg =>
    rw [fnE_bad hll (.inr (.inr (.inr hbk)))]
    rcases hn with hn | hn
    · rw [encT_eq t, hn, hll] at q12
      simp only [encTs_cons, encTs_nil] at q12
      simp [hn, hll, hk, qp, hbk, q12, splice, got8]
    · rw [encT_eq t, hn, hll] at q12
      simp only [encTs_cons, encTs_nil] at q12
      simp [hn, hll, hk, qp, hbk, q12, splice, got8]
  have hg : ¬ ((t.n ≠ 0 ∧ t.n ≠ 1) ∨ p.k ≠ 35 ∨ partedT p.l = false ∨ b.k ≠ 29) := by
    rintro (h | h | h | h)
    · exact hn.elim h.1 h.2
    · exact h hk
    · rw [hp] at h; cases h
    · exact h hbk
  rw [fnE_good hll hg]
  clear hg q12
  have hpo : ∀ x, x ∈ p.l → ∃ y, x.l = [y] := fun x hx => by
    have := List.all_eq_true.1 hp _ hx
    simp only [Bool.and_eq_true, decide_eq_true_eq] at this
    exact List.length_eq_one_iff.1 this.2
  have gty : ∀ v, v ∈ p.l.map tyOf → good v := fun v hv => by
    obtain ⟨x, hx, rfl⟩ := List.mem_map.1 hv
    obtain ⟨y, hy⟩ := hpo x hx
    rw [tyOf, hy]
    exact good_mem (good_mem gp hx) (by rw [hy]; simp)
  have gall : ∀ v, v ∈ p.l.map tyOf ++ [r] → good v := fun v hv => by
    rcases List.mem_append.1 hv with h | h
    · exact gty v h
    · rw [List.mem_singleton] at h; subst h; exact gr
  obtain ⟨L, st1, c1, R1⟩ := c59 t p [r, b] hll (by omega) hp []
  obtain ⟨x1, x2, x3, x4⟩ := R1.1.facts
  obtain ⟨L', st2, a2, R2⟩ := R1.app (by simp; omega) r
  have hall : (p.l.map tyOf ++ [r]).length = p.l.length + 1 := by simp
  rcases R2.1 with ⟨h, _⟩ | ⟨id, md, hne, rfl, hat, hlt⟩
  · simp at h
  obtain ⟨L2, st3, c3, R3⟩ := c59 t p [r, b] hll (by omega) hp st2
  obtain ⟨y1, y2, y3, y4⟩ := R3.1.facts
  obtain ⟨st4, f4, f4', g4⟩ := R3.fz
  have q195 : callD T (ev T) 195 [encT m, L2, encT r, encT b] st3 = some (got8 (blockE m r (p.l.map tyOf) b), st4) := by
    refine callD_free (fn := F195) rfl rfl (args' := [encT m, slE 6 .emp (encTs (p.l.map tyOf)), encT r, encT b]) ?_ (by simp) (c195 gm hb b gb (by omega) (fun u hu locs fl st gl hl => (c242 gm hb gr b gb (by omega)).2 u hu locs fl st gl hl) .emp gty (by simp; omega) st4)
    simp [f4']
  have lo1 := fun s bx => l135a gm hb (p.l.map tyOf ++ [r]) gall (by omega) id _ md st2 hat (p.l.map tyOf ++ [r]).length 0 s bx (by omega) (by omega)
  rw [List.drop_zero] at lo1
  have lo2 : (∀ x, x ∈ p.l.map tyOf ++ [r] → cellsV m x ≠ 0) → _ := fun hc => fun s bx => l135b gm hb t (p.l.map tyOf ++ [r]) gall (by omega) hc id _ md st2 hat (p.l.map tyOf ++ [r]).length 0 s bx (by omega) (by omega)
  rw [List.drop_zero] at lo2
  have hkn := kinds_ne m (p.l.map tyOf ++ [r])
  generalize hAll : p.l.map tyOf ++ [r] = all at *
  generalize hv : all.length - 1 = v at *
  have qn := c139 t gt st4
  obtain ⟨L4, st5, q4, R4, g5⟩ := qn
  rcases R4 with ⟨h, _⟩ | ⟨id4, md4, hne4, rfl, hat4, hge4, hlt4⟩
  · rw [hll] at h; simp at h
  rw [hll] at hat4 q4
  simp at hat4
  rw [outR] at q4
  clear R1 R2 R3 f4 f4' g4
  rcases hn with hn | hn
  all_goals
    rw [encT_eq t, hn, hll] at c1 c3 q4
    simp only [encTs_cons, encTs_nil, List.map_cons, List.map_nil, List.length_cons, List.length_nil] at c1 c3 q4
    simp [hn, hll, hk, qp, hbk, c1, ← encT_eq r, a2, x1, x2, x3]
    refine WL.useB L135_0_p L135_0_w (WB := L135_0.wrB) rfl (lo1 _ _ ?_ ?_ ?_ ?_ ?_ ?_) ?_
    iterate 6 simp [z8]
    rintro e s1 b1 st1' ⟨rfl, h1⟩ hf1 hb1
    have e2 := hf1 2 rfl
    have e3 := hf1 3 rfl
    have e4 := hf1 4 rfl
    have e5 := hf1 5 rfl
    have b2 := hb1 2 rfl
    have b3 := hb1 3 rfl
    have b8 := hb1 8 rfl
    have b9 := hb1 9 rfl
    simp at e2 e3 e4 e5 b2 b3 b8 b9
    clear hf1 hb1
    cases hK : kindsT m all with
    | error w =>
      obtain ⟨w1, w2⟩ := w
      rw [hK] at h1
      obtain ⟨rfl, b4⟩ := h1
      simp [e4, b4, got8]
    | ok u =>
    rw [hK] at h1
    obtain ⟨rfl, b4⟩ := h1
    simp
    refine WL.useB L135_1_p L135_1_w (WB := L135_1.wrB) rfl (lo2 (hkn hK) _ _ ?_ ?_ ?_ ?_ ?_ ?_ ?_ ?_) ?_
    iterate 8 simp [e2, e3, e4, e5, b2, b3, b4, hn, hll]
    rintro e' s2 b2' st2' ⟨rfl, h2⟩ hf2 hb2
    have f2 := hf2 2 rfl
    have f3 := hf2 3 rfl
    have f4 := hf2 4 rfl
    have p2 := hb2 2 rfl
    have p3 := hb2 3 rfl
    have p8 := hb2 8 rfl
    have p9 := hb2 9 rfl
    simp [e2, e3, e4, b2, b3, b8, b9] at f2 f3 f4 p2 p3 p8 p9
    clear hf2 hb2
    cases hP : (if t.n = 1 then plainsT m all else .ok ()) with
    | error w =>
      obtain ⟨w1, w2⟩ := w
      rw [hP] at h2
      obtain ⟨rfl, b4'⟩ := h2
      rw [hn] at hP
      simp [f4, b4', got8] <;> simp at hP <;> simp [hP]
    | ok u =>
    rw [hP] at h2
    obtain ⟨rfl, b4'⟩ := h2
    rw [hn] at hP
    cases hB : blockE m r (p.l.map tyOf) b with
    | error w =>
      obtain ⟨w1, w2⟩ := w
      rw [hB] at q195
      simp [got8] at q195
      have hy : w2 ≠ 0 := by
        unfold blockE at hB
        split at hB
        · next e => cases hB; exact blkE_err _ _ _ _ e
        · cases hB
      simp [f2, f3, f4, p2, p3, p8, p9, b4', z8, hn, hll, c3, ← encT_eq m, ← encT_eq r, ← encT_eq b, q195, hy, y1, y2, y3, splice, got8] <;> simp at hP <;> simp [hP]
    | ok w =>
      rw [hB] at q195
      simp [got8] at q195
      have ha4 : ∀ o, St.at (List.set st5 id4 o) id4 = o := fun o => by rw [at_set _ _ _ _ hlt4, if_pos rfl]
      simp [f2, f3, f4, p2, p3, p8, p9, b4', z8, hn, hll, c3, ← encT_eq m, ← encT_eq r, ← encT_eq b, ← encT_eq w, q195, y1, y2, y3, q4, hat4, ha4, kHs, splice, fillD, got8]
      simp at hP
      simp [hP, slE]
end Go.Nt.Ty

/-
  RIGHT MODULES BY THE REFERENCE, walked (16): declarations, modules.
  No condition.
-/
set_option linter.unusedSimpArgs false
set_option maxRecDepth 20000
namespace Go.Nt.Ty
open Go Go.Nt

variable {m ret : Tm} {locs : List Tm}

theorem parted_shaped (d : Tm) (h : d.k = 30) : shaped d = !(decide (d.l = []) || !partedT d.l) := by
  unfold shaped partedT
  have e : shapedP = fun p => decide (p.k = 34) && decide (p.l.length = 1) := by
    funext p
    by_cases h1 : p.k = 34 <;> by_cases h2 : p.l.length = 1 <;> simp [shapedP, h1, h2]
  rw [e]
  cases hl : d.l <;> simp [h]

theorem c81 (gm : good m) (hb : m.l.length ≤ 1000) (hcm : cntT m < 800000) (i : Nat) (hi : i < m.l.length) (st : St) : callD T (ev T) 81 [encT m, .int .i64 i] st = some (got8 (declE m i m.l[i]), st) := by
  have gt := good_mem gm (List.getElem_mem hi)
  have hct : cntT m.l[i] < 800000 := by have := cntTs_mem (List.getElem_mem hi); have := cntT_eq m; omega
  have q135 := fun st => c135 gm hb m.l[i] gt hct st
  have q12 := c137 m.l[i] 12
  have q11 := c137 m.l[i] 11
  simp [got8] at q12 q11
  refine callD_pureR (fn := F81) rfl rfl (by simp) (got8_pure _) ?_
  refine Ret_wp (fn := F81) rfl ?_
  rw [F81]
  have clean : ∀ st, ∃ L st', callD T (ev T) 139 [encT m.l[i]] st = some (outR m.l[i].k m.l[i].n L, st') ∧ (L.okv = true ∧ L.cells = [L] ∧ L.fits none = true) ∧ ∃ st2, fz0 st' L = some (slE 6 .nil (encTs (m.l[i].l.map nlE)), st2) := by
    intro st
    obtain ⟨L, st2, q, R, g⟩ := c139 m.l[i] gt st
    obtain ⟨x1, x2, x3, _⟩ := R.facts
    obtain ⟨st3, f, _⟩ := R.fz
    rw [slE_pfl] at f
    exact ⟨L, st2, q, ⟨x1, x2, x3⟩, st3, f⟩
  unfold declE
  generalize hT : m.l[i] = t at *
  by_cases h33 : t.k = 33
  · rw [if_pos h33]
    rw [encT_eq t, h33] at q135
    cases hO : fnE m t with
    | error v => obtain ⟨a1, a2⟩ := v; rw [hO] at q135; simp [got8] at q135; simp [hi, hT, h33, ← encT_eq m, q135, splice, got8]
    | ok sf => rw [hO] at q135; simp [got8] at q135; simp [hi, hT, h33, ← encT_eq m, q135, splice, got8]
  rw [if_neg h33]
  by_cases h30 : t.k = 30
  · rw [if_pos h30]
    have hml := good_len gm
    have gr : good (.mk 4 i [] .nil [] 0 0) := (good_iff _).2 ⟨by simp [in64], by simp only [n_mk, in64]; omega, by simp, by simp [in64], by simp [in64], by simp, fun u hu => by cases hu⟩
    have qs := c136 t (by have := good_len gt; omega)
    have qc := fun st => c60 m _ (good_ok _ gm) hb (good_ok _ gr) st
    rw [cells_eq, encT_eq (.mk 4 _ _ _ _ _ _)] at qc
    rw [parted_shaped t h30] at qs
    simp [slE] at qc
    obtain ⟨L, st2, q, ⟨x1, x2, x3⟩, st3, f⟩ := clean []
    rw [outR, encT_eq t, h30] at q
    rw [encT_eq t, h30] at qs q12 q11
    by_cases hs : t.l = [] ∨ partedT t.l = false
    · rw [if_pos hs]
      have e : (!(decide (t.l = []) || !partedT t.l)) = false := by rcases hs with h | h <;> simp [h]
      rw [e] at qs
      simp [hi, hT, h30, qs, q12, splice, got8]
    · rw [if_neg hs]
      simp only [not_or] at hs
      have e : (!(decide (t.l = []) || !partedT t.l)) = true := by simp [hs.1, hs.2]
      rw [e] at qs
      by_cases h0 : cellsV m (.mk 4 i [] .nil [] 0 0) = 0
      · rw [if_pos h0]
        simp [hi, hT, h30, qs, ← encT_eq m, qc, h0, q11, splice, fillD, got8]
      · rw [if_neg h0]
        simp [hi, hT, h30, qs, ← encT_eq m, qc, h0, q, x1, x2, x3, f, splice, fillD, got8, nlE_k, nlE_n, nlE_s, nlE_fl, nlE_l, nlE_a, nlE_b]
  rw [if_neg h30]
  by_cases h32 : t.k = 32 ∧ t.l.length = 1
  · rw [if_pos h32]
    obtain ⟨k32, hl1⟩ := h32
    match hl : t.l, hl1 with
    | [x], _ =>
      have gx := good_mem gt (by rw [hl]; simp : x ∈ t.l)
      have qc := fun st => c60 m x (good_ok _ gm) hb (good_ok _ gx) st
      rw [cells_eq] at qc
      have qx := c137 x 11
      simp [got8] at qx
      obtain ⟨L, st2, q, ⟨x1, x2, x3⟩, st3, f⟩ := clean []
      rw [outR, encT_eq t, k32, hl] at q
      simp only [encTs_cons, encTs_nil] at q
      rw [hl] at f
      rw [List.headD_cons]
      by_cases h0 : cellsV m x = 0
      · rw [if_pos h0]
        simp [hi, hT, k32, hl, ← encT_eq m, ← encT_eq x, qc, h0, qx, splice, fillD, got8]
      · rw [if_neg h0]
        simp at f
        simp [hi, hT, k32, hl, ← encT_eq m, ← encT_eq x, qc, h0, q, x1, x2, x3, f, splice, fillD, got8, nlE_k, nlE_n, nlE_s, nlE_fl, nlE_l, nlE_a, nlE_b]
  rw [if_neg h32]
  by_cases h31 : t.k = 31
  case neg =>
    rw [if_neg (fun h => h31 h.1)]
    by_cases k32 : t.k = 32
    · have hl : ¬ t.l.length = 1 := fun h => h32 ⟨k32, h⟩
      have hl' : ¬ ((t.l.length : Int) = 1) := by omega
      rw [encT_eq t, k32] at q12
      simp [hi, hT, k32, hl, hl', q12, splice, got8]
    · simp [hi, hT, h33, h30, k32, h31, ← encT_eq t, q12, splice, got8]
  obtain ⟨L, st2, q, ⟨x1, x2, x3⟩, st3, f⟩ := clean []
  match hl : t.l with
  | [] =>
    rw [if_neg (fun h => by have := h.2; unfold litOK at this; rw [hl] at this; cases this)]
    rw [encT_eq t, h31, hl, encTs_nil] at q12
    simp [hi, hT, h31, hl, q12, splice, got8]
  | x :: y :: rr =>
    rw [if_neg (fun h => by have := h.2; unfold litOK at this; rw [hl] at this; cases this)]
    rw [encT_eq t, h31, hl] at q12
    simp only [encTs_cons] at q12
    have hc : ¬ ((rr.length : Int) + 1 + 1 = 1) := by omega
    simp [hi, hT, h31, hl, hc, q12, splice, got8]
  | [x] =>
    have ql := c138 x
    rw [outR, encT_eq t, h31, hl] at q
    rw [encT_eq t, h31, hl] at q12
    simp only [encTs_cons, encTs_nil] at q12 q
    rw [hl] at f
    simp at f
    have hlit : litOK t = (x.l.isEmpty && (decide (x.k = 5) || (decide (x.k = 6) && (decide (x.n = 0) || decide (x.n = 1))))) := by unfold litOK; rw [hl]
    rw [hlit]
    cases hxl : x.l with
    | cons u v =>
      rw [if_neg (by simp)]
      simp [hi, hT, h31, hl, hxl, q12, splice, got8]
    | nil =>
      by_cases k5 : x.k = 5
      · rw [if_pos ⟨h31, by simp [k5]⟩]
        rw [litT, if_pos k5, encT_K] at ql
        simp [hi, hT, h31, hl, hxl, k5, ql, q, x1, x2, x3, f, splice, fillD, got8, nlE_k, nlE_n, nlE_s, nlE_fl, nlE_l, nlE_a, nlE_b]
      · by_cases k6 : x.k = 6
        · rw [litT, if_neg k5, if_pos k6, encT_K] at ql
          by_cases n0 : x.n = 0
          · rw [if_pos ⟨h31, by simp [k6, n0]⟩]
            simp [hi, hT, h31, hl, hxl, k6, n0, ql, q, x1, x2, x3, f, splice, fillD, got8, nlE_k, nlE_n, nlE_s, nlE_fl, nlE_l, nlE_a, nlE_b]
          · by_cases n1 : x.n = 1
            · rw [if_pos ⟨h31, by simp [k6, n1]⟩]
              simp [hi, hT, h31, hl, hxl, k6, n1, ql, q, x1, x2, x3, f, splice, fillD, got8, nlE_k, nlE_n, nlE_s, nlE_fl, nlE_l, nlE_a, nlE_b]
            · rw [if_neg (by simp [k5, k6, n0, n1])]
              simp [hi, hT, h31, hl, hxl, k6, n0, n1, ql, q12, splice, fillD, got8]
        · rw [if_neg (by simp [k5, k6])]
          rw [litT, if_neg k5, if_neg k6, encT_0] at ql
          simp [hi, hT, h31, hl, hxl, k5, k6, ql, q12, splice, fillD, got8]
end Go.Nt.Ty

/-
  RIGHT MODULES BY THE REFERENCE, walked (17): modules.
  No condition.
-/
set_option linter.unusedSimpArgs false
set_option maxRecDepth 20000
namespace Go.Nt.Ty
open Go Go.Nt

variable {m ret : Tm} {locs : List Tm}

theorem kinds_err' {l : List Tm} {x y : Int} (h : kindsT m l = .error (x, y)) : y ≠ 0 := kinds_err m l x y h
theorem blockE_err {t : Tm} {x y : Int} (h : blockE m ret locs t = .error (x, y)) : y ≠ 0 := by
  unfold blockE at h
  split at h
  · next e => cases h; exact blkE_err _ _ _ _ e
  · cases h
theorem fnE_err {t : Tm} {x y : Int} (h : fnE m t = .error (x, y)) : y ≠ 0 := by
  unfold fnE at h
  split at h
  · split at h
    · cases h; simp
    split at h
    · next e => cases h; exact kinds_err m _ _ _ e
    split at h
    · next e =>
      cases h
      split at e
      · exact plains_err m _ _ _ e
      · cases e
    split at h
    · next e => cases h; exact blkE_err _ _ _ _ e
    · cases h
  · cases h; simp
theorem declE_err {i : Nat} {t : Tm} {x y : Int} (h : declE m i t = .error (x, y)) : y ≠ 0 := by
  unfold declE at h
  split at h
  · exact fnE_err h
  split at h
  · split at h
    · cases h; simp
    split at h
    · cases h; simp
    · cases h
  split at h
  · split at h
    · cases h; simp
    · cases h
  split at h
  · cases h
  · cases h; simp
theorem declsE_err : ∀ (l : List Tm) (i : Nat) (x y : Int), declsE m i l = .error (x, y) → y ≠ 0
  | [], i, x, y, h => by rw [declsE] at h; cases h
  | d :: l, i, x, y, h => by
    rw [declsE] at h
    split at h
    · next e => cases h; exact declE_err e
    split at h
    · next e => cases h; exact declsE_err l _ _ _ e
    · cases h

def Q40 (k n : Int) (R : Er (List Tm)) (ss : List Tm) (e : Ex) (s' : List D) (b' : List (Nat × List D)) (st' : St) : Prop :=
  match R with
  | .error (x, y) => e = .ret ∧ getB b' 2 = (1, z6) ∧ get s' 3 = .int .i64 x ∧ get s' 4 = .int .i64 y
  | .ok ss' => e = .exit 0 ∧ getB b' 2 = (1, z6) ∧ ∃ L, getB b' 5 = (1, [.int .i64 k, .int .i64 n, .str [], L, .int .i64 0, .int .i64 0]) ∧ RawE st' L (ss ++ ss')

theorem l40 (gm : good m) (hb : m.l.length ≤ 1000) (hcm : cntT m < 800000) :
    ∀ (r i : Nat) (s : List D) (bx : List (Nat × List D)) (st : St) (L : D) (ss : List Tm), r = m.l.length - i → i ≤ m.l.length → RawE st L ss → ss.length = i →
      get s 1 = .lp 1 1 0 → getB bx 1 = (1, clT m) → get s 2 = .lp 2 1 0 → getB bx 2 = (1, z6) → get s 5 = .lp 5 1 0 → getB bx 5 = (1, [.int .i64 m.k, .int .i64 m.n, .str [], L, .int .i64 0, .int .i64 0]) → get s 6 = .int .i64 i →
    Stops (lp T L40_0 ⟨⟨s, bx⟩, st⟩) fun e s' b' st' => Q40 m.k m.n (declsE m i (m.l.drop i)) ss e s' b' st' := by
  intro r
  induction r with
  | zero =>
    intro i s bx st L ss hr hi R n h1 b1 h2 b2 h5 b5 h6
    have e : i = m.l.length := by omega
    refine Stops_wp L40_0.eq_1 ?_
    rw [e, List.drop_length, declsE]
    simp [h1, b1, h6, e, Q40, b2]
    exact ⟨L, b5, R⟩
  | succ r ihr =>
    intro i s bx st L ss hr hi R n h1 b1 h2 b2 h5 b5 h6
    have hlt : i < m.l.length := by omega
    have hw : IntKind.wrap .i64 ((i : Int) + 1) = ((i + 1 : Nat) : Int) := by rw [wrap64] <;> omega
    have q := c81 gm hb hcm i hlt st
    rw [List.drop_eq_getElem_cons hlt, declsE]
    refine Stops_wp L40_0.eq_1 ?_
    cases hO : declE m i m.l[i] with
    | error v =>
      obtain ⟨x, y⟩ := v
      have hy := declE_err hO
      rw [hO] at q
      simp [got8] at q
      simp [h1, b1, h2, b2, h5, b5, h6, hlt, ← encT_eq m, q, hy, Q40, splice, fillD, -Int.natCast_add]
    | ok sf =>
      rw [hO] at q
      simp [got8] at q
      obtain ⟨M, st1, p1, S, g1, o1, d1⟩ := R.app (by omega) sf
      have nx := fun s' bx' => ihr (i + 1) s' bx' st1 M (ss ++ [sf]) (by omega) (by omega) S (by simp; omega)
      obtain ⟨x1, x2, x3, x4⟩ := R.facts
      obtain ⟨y1, y2, y3, y4⟩ := S.facts
      have cv : ∀ e s' b' st', Q40 m.k m.n (declsE m (i + 1) (m.l.drop (i + 1))) (ss ++ [sf]) e s' b' st' → Q40 m.k m.n (match declsE m (i + 1) (m.l.drop (i + 1)) with
          | .error e => .error e
          | .ok ss => .ok (sf :: ss)) ss e s' b' st' := by
        intro e s' b' st' h
        cases hR : declsE m (i + 1) (m.l.drop (i + 1)) with
        | error v => rw [hR] at h; exact h
        | ok v => rw [hR] at h; obtain ⟨h1, h1', L', h2, h3⟩ := h; exact ⟨h1, h1', L', h2, by simpa using h3⟩
      simp only
      generalize hG : Q40 m.k m.n (match declsE m (i + 1) (m.l.drop (i + 1)) with
          | .error e => .error e
          | .ok ss => .ok (sf :: ss)) ss = G at *
      simp [h1, b1, h2, b2, h5, b5, h6, hlt, hw, ← encT_eq m, ← encT_eq sf, q, p1, x1, x2, x3, y1, y2, y3, splice, -Int.natCast_add]
      refine Stops.mono (nx _ _ ?_ ?_ ?_ ?_ ?_ ?_ ?_) (fun e s' b' st' h => cv e s' b' st' h)
      all_goals simp [h1, b1, h2, b2, h5, b5]

/-- What 'Module' tells. -/
def tells3 (R : Er Tm) : D := match R with
  | .ok s => .tup [encT s, .int .i64 0, .int .i64 0]
  | .error (x, y) => .tup [encT T0, .int .i64 x, .int .i64 y]

theorem c40 (gm : good m) (hb : m.l.length ≤ 1000) (hcm : cntT m < 800000) (st : St) : callD T (ev T) 40 [encT m] st = some (tells3 (moduleE m), st) := by
  refine callD_pureR (fn := F40) rfl rfl (by simp) (by unfold tells3; split <;> simp) ?_
  refine Ret_wp (fn := F40) rfl ?_
  rw [F40]
  unfold moduleE
  by_cases hk : m.k = 36
  case neg =>
    rw [if_pos hk]
    simp [hk, splice, fillD, tells3, encT_K]
  rw [if_neg (fun h => h hk)]
  have lo := fun s bx st => l40 gm hb hcm m.l.length 0 s bx st (.sl 6 true []) [] (by omega) (by omega) (RawE.nil _) rfl
  rw [List.drop_zero] at lo
  simp [hk, splice, fillD]
  refine WL.useB L40_0_p L40_0_w (WB := L40_0.wrB) rfl (lo _ _ _ ?_ ?_ ?_ ?_ ?_ ?_ ?_) ?_
  iterate 7 simp [hk]
  rintro e s' b' st' h hf hbx
  have e2 := hf 2 rfl
  have e5 := hf 5 rfl
  simp at e2 e5
  cases hO : declsE m 0 m.l with
  | error v =>
    obtain ⟨x, y⟩ := v
    rw [hO] at h
    obtain ⟨rfl, b2, h3, h4⟩ := h
    simp [e2, b2, h3, h4, tells3, encT_K]
  | ok ss =>
    rw [hO] at h
    obtain ⟨rfl, b2, L, b5, R⟩ := h
    rw [List.nil_append] at R
    obtain ⟨x1, x2, x3, x4⟩ := R.facts
    obtain ⟨st3, f4, f5, f6⟩ := R.fz
    simp [e2, e5, b2, b5, x1, x2, x3, f4, hk, splice, tells3]
    rw [encT_eq]; simp [hk]

theorem c32 (gm : good m) (hb : m.l.length ≤ 1000) (hcm : cntT m < 800000) (st : St) : callD T (ev T) 32 [encT m] st = some (.bool (rightE m), st) := by
  have q := c40 gm hb hcm
  refine callD_pureR (fn := F32) rfl rfl (by simp) (by simp) ?_
  refine Ret_wp (fn := F32) rfl ?_
  rw [F32]
  unfold rightE
  cases hO : moduleE m with
  | error v =>
    obtain ⟨x, y⟩ := v
    have hy : y ≠ 0 := by
      unfold moduleE at hO
      split at hO
      · cases hO; simp
      split at hO
      · next e => cases hO; exact declsE_err _ _ _ _ e
      · cases hO
    rw [hO] at q
    simp [tells3, encT_K] at q
    simp [← encT_eq m, q, hy, splice]
  | ok s =>
    have q2 := c66 s m gm
    rw [hO] at q
    simp [tells3] at q
    rw [encT_eq s] at q
    simp [← encT_eq m, q, ← encT_eq s, q2, splice]
end Go.Nt.Ty

/-
  RIGHT MODULES BY THE REFERENCE, walked (18): ways; the locals at a way.
  No condition.
-/
set_option linter.unusedSimpArgs false
set_option maxRecDepth 20000
namespace Go.Nt.Ty
open Go Go.Nt

variable {m ret : Tm} {locs : List Tm}

theorem c34 (t : Tm) : ∀ (w : List Int) (fl : Fl) (st : St), callD T (ev T) 34 [encT t, slE 1 fl (encW w)] st = some (.bool (atT t w).2, st) := by
  intro w
  induction w generalizing t with
  | nil =>
    intro fl st
    refine callD_pureR (fn := F34) rfl rfl (by simp) (by simp) ?_
    refine Ret_wp (fn := F34) rfl ?_
    rw [F34]
    simp [atT]
  | cons i w ih =>
    intro fl st
    refine callD_pureR (fn := F34) rfl rfl (by simp) (by simp) ?_
    refine Ret_wp (fn := F34) rfl ?_
    rw [F34, atT]
    by_cases g0 : 0 ≤ i
    · by_cases g1 : i < t.l.length
      · have g2 : i.toNat < t.l.length := by omega
        have g3 : ¬ i < 0 := by omega
        rw [dif_pos ⟨g0, g1⟩]
        simp [g0, g1, g2, g3, ih, ← encT_eq]
      · rw [dif_neg (fun h => g1 h.2)]
        simp [g0, g1]
    · rw [dif_neg (fun h => g0 h.1)]
      simp [g0]

theorem c35 (t : Tm) : ∀ (w : List Int) (fl : Fl) (st : St), (atT t w).2 = true → callD T (ev T) 35 [encT t, slE 1 fl (encW w)] st = some (encT (atT t w).1, st) := by
  intro w
  induction w generalizing t with
  | nil =>
    intro fl st _
    refine callD_pureR (fn := F35) rfl rfl (by simp) (by simp) ?_
    refine Ret_wp (fn := F35) rfl ?_
    rw [F35]
    simp [atT, splice, ← encT_eq]
  | cons i w ih =>
    intro fl st hg
    refine callD_pureR (fn := F35) rfl rfl (by simp) (by simp) ?_
    refine Ret_wp (fn := F35) rfl ?_
    rw [F35]
    by_cases g : 0 ≤ i ∧ i < t.l.length
    · rw [atT, dif_pos g] at hg ⊢
      have g2 : i.toNat < t.l.length := by omega
      have g3 : ¬ i < 0 := by omega
      have q := ih _ fl [] hg
      have q' := fun fl st => ih _ fl st hg
      simp [g.1, g.2, g2, g3, q', ← encT_eq, splice]
    · rw [atT, dif_neg g] at hg; cases hg

theorem cntTs_app : ∀ (a b : List Tm), cntTs (a ++ b) = cntTs a + cntTs b
  | [], b => by simp [cntTs]
  | x :: a, b => by simp only [List.cons_append, cntTs]; rw [cntTs_app a b]; omega

/-- The locals at a part. -/
def stepE (m : Tm) (locs : List Tm) (t : Tm) (i : Int) : List Tm :=
  if t.k = 29 then (t.l.take i.toNat).foldl (bringsE m) locs else if t.k = 25 ∧ i = 2 then locs ++ [tK 1] else locs
def belowE (m : Tm) : List Tm → Tm → List Int → List Tm
  | locs, _, [] => locs
  | locs, t, i :: w => belowE m (stepE m locs t i) (t.l[i.toNat]?.getD T0) w

theorem bringsL_good (gm : good m) : ∀ (l : List Tm), (∀ t, t ∈ l → good t) → ∀ locs : List Tm, (∀ t, t ∈ locs → good t) → (∀ t, t ∈ l.foldl (bringsE m) locs → good t) ∧ (l.foldl (bringsE m) locs).length ≤ locs.length + l.length
  | [], _, locs, gl => ⟨gl, by simp⟩
  | t :: l, g, locs, gl => by
    obtain ⟨a, b⟩ := brings_good gm gl t (g t (by simp))
    obtain ⟨c, d⟩ := bringsL_good gm l (fun u hu => g u (by simp [hu])) _ a
    exact ⟨c, by simp only [List.foldl_cons, List.length_cons]; omega⟩

theorem l75 (gm : good m) (hb : m.l.length ≤ 1000) (t : Tm) (gt : good t) (hct : cntT t < 900000) (j : Nat) (hj : j < t.l.length) (locs : List Tm) (gl : ∀ v, v ∈ locs → good v) (hl : locs.length + t.l.length ≤ 900000) :
    ∀ (r i : Nat) (s : List D) (bx : List (Nat × List D)) (st : St) (fl : Fl), r = j - i → i ≤ j → get s 4 = .lp 4 1 0 → getB bx 4 = (1, clT m) → get s 6 = .lp 6 1 0 → getB bx 6 = (1, clT t) → get s 1 = slE 6 fl (encTs ((t.l.take i).foldl (bringsE m) locs)) → get s 9 = .int .i64 j → get s 10 = .int .i64 i →
    Stops (lp T L75_0 ⟨⟨s, bx⟩, st⟩) fun e s' _ st' => e = .exit 0 ∧ st' = st ∧ ∃ fl', get s' 1 = slE 6 fl' (encTs ((t.l.take j).foldl (bringsE m) locs)) := by
  intro r
  induction r with
  | zero =>
    intro i s bx st fl hr hi h4 b4 h6 b6 h1 h9 h10
    have e : i = j := by omega
    subst e
    refine Stops_wp L75_0.eq_1 ?_
    simp [h1, h9, h10]
    exact ⟨fl, rfl⟩
  | succ r ihr =>
    intro i s bx st fl hr hi h4 b4 h6 b6 h1 h9 h10
    have hlt : i < t.l.length := by omega
    have hij : i < j := by omega
    have hw : IntKind.wrap .i64 ((i : Int) + 1) = ((i + 1 : Nat) : Int) := by rw [wrap64] <;> omega
    have gti := good_mem gt (List.getElem_mem hlt)
    have hci : cntT t.l[i] < 1000000 := by have := cntTs_mem (List.getElem_mem hlt); have := cntT_eq t; omega
    obtain ⟨g1, g2⟩ := bringsL_good gm (t.l.take i) (fun u hu => good_mem gt (List.mem_of_mem_take hu)) locs gl
    rw [List.length_take] at g2
    obtain ⟨fl', q⟩ := c122 gm hb g1 (by omega) fl t.l[i] gti hci st
    have e1 : (t.l.take (i + 1)).foldl (bringsE m) locs = bringsE m ((t.l.take i).foldl (bringsE m) locs) t.l[i] := by
      rw [← List.take_append_getElem hlt, List.foldl_append] <;> rfl
    have nx := fun s' bx' => ihr (i + 1) s' bx' st fl' (by omega) (by omega)
    rw [e1] at nx
    generalize (t.l.take i).foldl (bringsE m) locs = A at *
    refine Stops_wp L75_0.eq_1 ?_
    simp [h4, b4, h6, b6, h1, h9, h10, hlt, hij, hw, ← encT_eq m, ← encT_eq t.l[i], q, -Int.natCast_add]
    refine nx _ _ ?_ ?_ ?_ ?_ ?_ ?_ ?_ <;> simp [h4, b4, h6, b6, h9]

theorem c75 (gm : good m) (hb : m.l.length ≤ 1000) : ∀ (w : List Int) (t : Tm) (locs : List Tm) (fl fw : Fl) (st : St), good t → (∀ v, v ∈ locs → good v) → locs.length + cntT t < 900000 → (atT t w).2 = true →
    ∃ fl', callD T (ev T) 75 [encT m, slE 6 fl (encTs locs), encT t, slE 1 fw (encW w)] st = some (slE 6 fl' (encTs (belowE m locs t w)), st) := by
  intro w
  induction w with
  | nil =>
    intro t locs fl fw st gt gl hl ha
    refine ⟨fl, ?_⟩
    refine callD_pureR (fn := F75) rfl rfl (by simp) (by simp) ?_
    refine Ret_wp (fn := F75) rfl ?_
    rw [F75, belowE]
    simp
  | cons i w ih =>
    intro t locs fl fw st gt gl hl ha
    have hct := cntT_eq t
    have hcl := cntTs_len t.l
    by_cases g : 0 ≤ i ∧ i < t.l.length
    case neg => rw [atT, dif_neg g] at ha; cases ha
    rw [atT, dif_pos g] at ha
    obtain ⟨j, rfl⟩ : ∃ j : Nat, i = j := ⟨i.toNat, by omega⟩
    have g2 : j < t.l.length := by omega
    simp only [Int.toNat_natCast] at ha
    have e2 : t.l[((j : Nat) : Int).toNat]?.getD T0 = t.l[j] := by simp [g2]
    rw [belowE, e2]
    have gti := good_mem gt (List.getElem_mem g2)
    have ih := fun t locs fl st => ih t locs fl (fw.sub (D.int .i64 ((j : Nat) : Int) :: List.map (D.int .i64) w)) st
    by_cases k29 : t.k = 29
    · have e3 : stepE m locs t (j : Int) = (t.l.take j).foldl (bringsE m) locs := by unfold stepE; rw [if_pos k29] <;> simp
      obtain ⟨g4, g5⟩ := bringsL_good gm (t.l.take j) (fun u hu => good_mem gt (List.mem_of_mem_take hu)) locs gl
      rw [List.length_take] at g5
      have hsum : cntT t.l[j] + j ≤ cntTs t.l := by
        have a := List.take_append_drop j t.l
        have b : cntTs t.l = cntTs (t.l.take j) + cntTs (t.l.drop j) := by rw [← cntTs_app, a]
        rw [List.drop_eq_getElem_cons g2, cntTs] at b
        have c := cntTs_len (t.l.take j)
        rw [List.length_take] at c
        omega
      rw [e3]
      have lo := fun s bx st => l75 gm hb t gt (by omega) j g2 locs gl (by omega) j 0 s bx st fl (by omega) (by omega)
      simp only [List.take_zero, List.foldl_nil] at lo
      have q' := fun fl'' st => ih t.l[j] _ fl'' st gti g4 (by omega) ha
      have go : Ret (ev T 75 [encT m, slE 6 fl (encTs locs), encT t, slE 1 fw (encW (((j : Nat) : Int) :: w))] []) fun r st' => ∃ fl', r = slE 6 fl' (encTs (belowE m ((t.l.take j).foldl (bringsE m) locs) t.l[j] w)) := by
        refine Ret_wp (fn := F75) rfl ?_
        rw [F75]
        simp [k29]
        refine WL.useB L75_0_p L75_0_w (WB := L75_0.wrB) rfl (lo _ _ _ ?_ ?_ ?_ ?_ ?_ ?_ ?_) ?_
        iterate 7 simp [k29]
        rintro e s' b' st1 ⟨rfl, rfl, fl1, h1⟩ hf hbx
        obtain ⟨fl2, q2⟩ := q' fl1 []
        have e3 := hf 3 rfl
        have e4 := hf 4 rfl
        have e6 := hf 6 rfl
        have e9 := hf 9 rfl
        have b4 := hbx 4 rfl
        have b6 := hbx 6 rfl
        simp at e3 e4 e6 e9 b4 b6
        simp [h1, e3, e4, e6, e9, b4, b6, k29, g2, ← encT_eq m, ← encT_eq t.l[j], q2]
        exact ⟨fl2, rfl⟩
      obtain ⟨r, st', h1, fl', rfl⟩ := go
      exact ⟨fl', callD_pure (fn := F75) (st2 := st') rfl rfl (by simp) h1 (by simp) (by simp)⟩
    · by_cases k25 : t.k = 25 ∧ (j : Int) = 2
      · have e3 : stepE m locs t (j : Int) = locs ++ [tK 1] := by unfold stepE; rw [if_neg k29, if_pos k25]
        obtain ⟨k25, hj2⟩ := k25
        have hj2 : j = 2 := by omega
        subst hj2
        rw [e3]
        have hsum : cntT t.l[2] + 2 ≤ cntT t := by
          have a := cntTs_mem (List.getElem_mem g2)
          match hl : t.l, g2 with
          | x :: y :: z :: rest, _ =>
            rw [hl] at hct
            simp only [cntTs] at hct
            have := cntT_eq x
            have := cntT_eq y
            simp
            omega
        obtain ⟨r1, s1, r2, s2, s3, p1, p2, ⟨p3, p4, p5⟩, p6, p7⟩ := app2T [] locs (encT (tK 1)) (by omega)
        obtain ⟨fl', q⟩ := ih t.l[2] (locs ++ [tK 1]) .emp s3 gti (fun v hv => by
          rcases List.mem_append.1 hv with h | h
          · exact gl v h
          · rw [List.mem_singleton] at h; subst h; exact good_K 1 (by simp [in64])) (by simp; omega) ha
        have q2 : callD T (ev T) 75 [encT m, r2, encT t.l[2], slE 1 (fw.sub (D.int .i64 2 :: List.map (D.int .i64) w)) (List.map (D.int .i64) w)] s2 = some (slE 6 fl' (encTs (belowE m (locs ++ [tK 1]) t.l[2] w)), s3) := by
          refine callD_free (fn := F75) rfl rfl (args' := [encT m, slE 6 .emp (encTs (locs ++ [tK 1])), encT t.l[2], slE 1 (fw.sub (D.int .i64 2 :: List.map (D.int .i64) w)) (List.map (D.int .i64) w)]) ?_ (by simp) q
          rw [encTs_append]; simp only [encTs_cons, encTs_nil]; simp [p6]
        rw [encT_K] at p2
        refine ⟨fl', ?_⟩
        refine callD_pureR (fn := F75) rfl rfl (by simp) (by simp) ?_
        refine Ret_wp (fn := F75) rfl ?_
        rw [F75]
        simp [k25, g2, p1, p2, p3, ← encT_eq m, ← encT_eq t.l[2], q2]
      · have e3 : stepE m locs t (j : Int) = locs := by unfold stepE; rw [if_neg k29, if_neg k25]
        rw [e3]
        have hm := cntTs_mem (List.getElem_mem g2)
        obtain ⟨fl', q⟩ := ih t.l[j] locs fl [] gti gl (by omega) ha
        refine ⟨fl', ?_⟩
        refine callD_pureR (fn := F75) rfl rfl (by simp) (by simp) ?_
        refine Ret_wp (fn := F75) rfl ?_
        rw [F75]
        by_cases h25 : t.k = 25
        · have hj2 : ¬ j = 2 := fun h => k25 ⟨h25, by omega⟩
          have hj3 : ¬ (j : Int) = 2 := by omega
          simp [h25, hj2, hj3, g2, ← encT_eq m, ← encT_eq t.l[j], q]
        · simp [k29, h25, g2, ← encT_eq m, ← encT_eq t.l[j], q]
end Go.Nt.Ty

/-
  RIGHT MODULES BY THE REFERENCE, walked (19): a module's locals at a way; rows alike.
  No condition.
-/
set_option linter.unusedSimpArgs false
set_option maxRecDepth 20000
namespace Go.Nt.Ty
open Go Go.Nt

variable {m : Tm}

theorem slE_tail2 (sz : Nat) (fl : Fl) (c d : D) (ds : List D) (k : IntKind) : sliceD (slE sz fl (c :: d :: ds)) (some (.int k 2)) none none = some (slE sz (fl.sub (c :: d :: ds)) ds) := by
  have := slE_from sz fl (c :: d :: ds) k 2 (by omega) (by simp)
  exact this

theorem c37s (w : List Int) (hw : w.length < 2) (fw : Fl) (st : St) : callD T (ev T) 37 [encT m, slE 1 fw (encW w)] st = some (.sl 6 true [], st) := by
  refine callD_pureR (fn := F37) rfl rfl (by simp) (by simp) ?_
  refine Ret_wp (fn := F37) rfl ?_
  rw [F37]
  match w, hw with
  | [], _ => simp
  | [i], _ => simp

theorem c37n (i j : Int) (w : List Int) (f : Tm) (hi : 0 ≤ i) (hf : m.l[i.toNat]? = some f) (h : f.k ≠ 33 ∨ j ≠ 2) (fw : Fl) (st : St) : callD T (ev T) 37 [encT m, slE 1 fw (encW (i :: j :: w))] st = some (.sl 6 true [], st) := by
  obtain ⟨a, rfl⟩ : ∃ a : Nat, i = a := ⟨i.toNat, by omega⟩
  simp only [Int.toNat_natCast] at hf
  obtain ⟨hlt, e⟩ := List.getElem?_eq_some_iff.1 hf
  have hn : ¬ ((w.length : Int) + 1 + 1 < 2) := by omega
  refine callD_pureR (fn := F37) rfl rfl (by simp) (by simp) ?_
  refine Ret_wp (fn := F37) rfl ?_
  rw [F37]
  by_cases hk : f.k = 33
  · have hj : ¬ j = 2 := h.resolve_left (fun q => q hk)
    simp [hn, hlt, e, hk, hj]
  · simp [hn, hlt, e, hk]

theorem c37f (gm : good m) (hb : m.l.length ≤ 1000) (i : Int) (w : List Int) (f p r b : Tm) (hi : 0 ≤ i) (hf : m.l[i.toNat]? = some f) (hk : f.k = 33) (hl : f.l = [p, r, b]) (hp : partedT p.l = true) (hct : cntT f < 800000) (ha : (atT b w).2 = true) (fw : Fl) :
    ∃ fl', ∀ st, callD T (ev T) 37 [encT m, slE 1 fw (encW (i :: 2 :: w))] st = some (slE 6 fl' (encTs (belowE m (p.l.map tyOf) b w)), st) := by
  obtain ⟨a, rfl⟩ : ∃ a : Nat, i = a := ⟨i.toNat, by omega⟩
  simp only [Int.toNat_natCast] at hf
  obtain ⟨hlt, e⟩ := List.getElem?_eq_some_iff.1 hf
  have hn : ¬ ((w.length : Int) + 1 + 1 < 2) := by omega
  have gf : good f := by rw [← e]; exact good_mem gm (List.getElem_mem hlt)
  have gp := good_mem gf (by rw [hl]; simp : p ∈ f.l)
  have gb := good_mem gf (by rw [hl]; simp : b ∈ f.l)
  have hcs : cntT p + cntT r + cntT b < cntT f := by rw [cntT_eq f, hl]; simp [cntTs]; omega
  have hpl : p.l.length ≤ cntT p := by have := cntT_eq p; have := cntTs_len p.l; omega
  have gty : ∀ v, v ∈ p.l.map tyOf → good v := fun v hv => by
    obtain ⟨x, hx, rfl⟩ := List.mem_map.1 hv
    have := List.all_eq_true.1 hp _ hx
    simp only [Bool.and_eq_true, decide_eq_true_eq] at this
    obtain ⟨y, hy⟩ := List.length_eq_one_iff.1 this.2
    rw [tyOf, hy]
    exact good_mem (good_mem gp hx) (by rw [hy]; simp)
  obtain ⟨L, st1, c1, R1⟩ := c59 f p [r, b] hl (by omega) hp []
  obtain ⟨x1, x2, x3, x4⟩ := R1.1.facts
  obtain ⟨st2, f1, f2, g⟩ := R1.fz
  have key : ∀ fw', ∃ fl', callD T (ev T) 75 [encT m, L, encT b, slE 1 fw' (encW w)] st1 = some (slE 6 fl' (encTs (belowE m (p.l.map tyOf) b w)), st2) := by
    intro fw'
    obtain ⟨fl', q⟩ := c75 gm hb w b (p.l.map tyOf) .emp fw' st2 gb gty (by simp; omega) ha
    refine ⟨fl', callD_free (fn := F75) rfl rfl (args' := [encT m, slE 6 .emp (encTs (p.l.map tyOf)), encT b, slE 1 fw' (encW w)]) ?_ (by simp) q⟩
    simp [f2]
  have d1 : ((D.int .i64 ((a : Nat) : Int)) :: (D.int .i64 2) :: List.map (D.int .i64) w : List D) = encW ((a : Int) :: 2 :: w) := rfl
  obtain ⟨fl', q⟩ := key (fw.sub (D.int .i64 (a : Int) :: D.int .i64 2 :: List.map (D.int .i64) w))
  refine ⟨fl', fun st => ?_⟩
  refine callD_pureR (fn := F37) rfl rfl (by simp) (by simp) ?_
  refine Ret_wp (fn := F37) rfl ?_
  rw [F37]
  simp [hn, hlt, e, hk, hl, ← encT_eq f, ← encT_eq m, ← encT_eq b, c1, x1, slE_tail2, q]

/-- Rows alike. -/
def alikeT : List Tm → List Tm → Bool
  | [], [] => true
  | a :: l, b :: k => sameT a b && alikeT l k
  | _, _ => false
theorem alike_len : ∀ (l k : List Tm), l.length ≠ k.length → alikeT l k = false
  | [], [], h => absurd rfl h
  | [], _ :: _, _ => rfl
  | _ :: _, [], _ => rfl
  | a :: l, b :: k, h => by simp only [alikeT, alike_len l k (by simpa using h), Bool.and_false]

theorem l36 (f1 f2 : Fl) (l k : List Tm) (gl : ∀ v, v ∈ l → good v) (hl : l.length ≤ 1000000) (he : l.length = k.length) :
    ∀ (r i : Nat) (s : List D) (bx : List (Nat × List D)) (st : St), r = l.length - i → i ≤ l.length → get s 0 = slE 6 f1 (encTs l) → get s 1 = slE 6 f2 (encTs k) → get s 5 = .int .i64 i →
    Stops (lp T L36_0 ⟨⟨s, bx⟩, st⟩) fun e s' _ _ => if alikeT (l.drop i) (k.drop i) then e = .exit 0 else e = .ret ∧ get s' 4 = .bool false := by
  intro r
  induction r with
  | zero =>
    intro i s bx st hr hi h0 h1 h5
    have e : i = l.length := by omega
    refine Stops_wp L36_0.eq_1 ?_
    rw [List.drop_of_length_le (by omega), List.drop_of_length_le (by omega)]
    simp [h0, h1, h5, e, alikeT]
  | succ r ihr =>
    intro i s bx st hr hi h0 h1 h5
    have hlt : i < l.length := by omega
    have hlt' : i < k.length := by omega
    have hw : IntKind.wrap .i64 ((i : Int) + 1) = ((i + 1 : Nat) : Int) := by rw [wrap64] <;> omega
    have nx := fun s' bx' => ihr (i + 1) s' bx' st (by omega) (by omega)
    have q := c74 l[i] (gl _ (List.getElem_mem hlt)) k[i] st
    rw [List.drop_eq_getElem_cons hlt, List.drop_eq_getElem_cons hlt', alikeT]
    generalize alikeT (l.drop (i + 1)) (k.drop (i + 1)) = A at *
    refine Stops_wp L36_0.eq_1 ?_
    cases hs : sameT l[i] k[i] with
    | false =>
      rw [hs] at q
      simp [h0, h1, h5, hlt, hlt', hw, ← encT_eq l[i], ← encT_eq k[i], q, -Int.natCast_add]
    | true =>
      rw [hs] at q
      simp [h0, h1, h5, hlt, hlt', hw, ← encT_eq l[i], ← encT_eq k[i], q, -Int.natCast_add]
      refine nx _ _ ?_ ?_ ?_ <;> simp [h0, h1]

theorem c36 (f1 f2 : Fl) (l k : List Tm) (gl : ∀ v, v ∈ l → good v) (hl : l.length ≤ 1000000) (st : St) : callD T (ev T) 36 [slE 6 f1 (encTs l), slE 6 f2 (encTs k)] st = some (.bool (alikeT l k), st) := by
  refine callD_pureR (fn := F36) rfl rfl (by simp) (by simp) ?_
  refine Ret_wp (fn := F36) rfl ?_
  rw [F36]
  by_cases he : l.length = k.length
  · have lo := fun s bx st => l36 f1 f2 l k gl hl he l.length 0 s bx st (by omega) (by omega)
    simp only [List.drop_zero] at lo
    generalize alikeT l k = A at *
    simp [he]
    refine WL.use L36_0_p L36_0_w (lo _ _ _ ?_ ?_ ?_) ?_
    iterate 3 simp
    rintro e s' b' st' h hf
    cases A with
    | true => simp at h; subst h; simp
    | false => simp at h; obtain ⟨rfl, q2⟩ := h; simp [q2]
  · rw [alike_len l k he]
    have he' : ¬ ((l.length : Int) = k.length) := by omega
    simp [he, he']
end Go.Nt.Ty
