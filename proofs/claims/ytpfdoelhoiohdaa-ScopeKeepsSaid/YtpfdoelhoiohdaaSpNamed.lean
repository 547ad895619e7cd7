/-
  NAMES RESOLVED by the reference, walked (5): fields and parameters.
  No condition.
-/
import Derived.Test.YtpfdoelhoiohdaaSpBlk
import Derived.Test.YtpfdoelhoiohdaaSpNest2
set_option linter.unusedSimpArgs false
set_option maxRecDepth 20000
namespace Go.Nt.Lk
open Go Go.Nt

theorem slT_idx (fl : Fl) (l : List Tm) (i : Nat) (h : i < l.length) : idxAD (slE 6 fl (encTs l)) i 6 (some 6) none = some (.iptr (encT l[i])) := by
  rw [slE_idx, encTs_get, List.getElem?_eq_getElem h]
  simp

/-- Is one of them of that name? -/
def hasS (w : Nm) (l : List Tm) : Bool := l.any fun t => decide (t.s = w)

theorem l75_1 (fl : Fl) (l : List Tm) (hl : l.length ≤ 1000000) (i : Nat) (hi : i < l.length) (out : D) (ho : out.okv = true) :
    ∀ (r k : Nat) (s : List D) (bx : List (Nat × List D)) (st : St), r = i - k → k ≤ i → get s 1 = slE 6 fl (encTs l) → get s 9 = out → get s 10 = .int .i64 i → get s 11 = .int .i64 k →
    Stops (lp T L75_1 ⟨⟨s, bx⟩, st⟩) fun e s' b' st' => st' = st ∧ b' = bx ∧ if hasS l[i].s ((l.take i).drop k) = true then e = .ret ∧ get s' 6 = out ∧ get s' 7 = .int .i64 l[i].a ∧ get s' 8 = .int .i64 9 else e = .exit 2 := by
  intro r
  induction r with
  | zero =>
    intro k s bx st hr hk h1 h9 h10 h11
    have e : k = i := by omega
    subst e
    refine Stops_wp L75_1.eq_1 ?_
    have : (l.take k).drop k = [] := List.drop_of_length_le (by simp; omega)
    rw [this]
    simp [h1, h9, h10, h11, hasS]
  | succ r ih =>
    intro k s bx st hr hk h1 h9 h10 h11
    have hlt : k < i := by omega
    have hkl : k < l.length := by omega
    have hw : IntKind.wrap .i64 ((k : Int) + 1) = ((k + 1 : Nat) : Int) := by rw [wrap64] <;> omega
    have nx := fun s' bx' => ih (k + 1) s' bx' st (by omega) (by omega)
    have hd : (l.take i).drop k = l[k] :: (l.take i).drop (k + 1) := by
      rw [List.drop_eq_getElem_cons (by simp; omega), List.getElem_take]
    have hh : hasS l[i].s ((l.take i).drop k) = (decide (l[k].s = l[i].s) || hasS l[i].s ((l.take i).drop (k + 1))) := by rw [hd]; rfl
    rw [hh]
    have i1 := slT_idx fl l i hi
    have i2 := slT_idx fl l k hkl
    generalize slE 6 fl (encTs l) = B at *
    generalize l[k] = x at *
    generalize l[i] = y at *
    refine Stops_wp L75_1.eq_1 ?_
    by_cases hg : x.s = y.s
    · have hg' := eq_true hg
      rw [decide_eq_true hg, Bool.true_or]
      simp [h1, h9, h10, h11, hlt, i1, i2, hg', ho, splice, fillD, -Int.natCast_add]
    · rw [decide_eq_false hg, Bool.false_or]
      simp [h1, h9, h10, h11, hlt, i1, i2, hg, hw, splice, fillD, -Int.natCast_add]
      refine nx _ _ ?_ ?_ ?_ ?_ <;> simp [h1, h9, h10]

def keepS (keep : Bool) (t x : Tm) : Tm := if keep then .mk x.k x.n t.s x.fl x.l x.a x.b else x
theorem partsR_cons (q : List Tm → Fl) (m : Tm) (keep : Bool) (seen : List Nm) (t : Tm) (r : List Tm) : partsR q m keep seen (t :: r) =
    if t.s ∈ seen then .error (t.a, 9) else match anyR q m [] t with
      | .error e => .error e
      | .ok x => consR (.ok (keepS keep t x)) (partsR q m keep (t.s :: seen) r) := by
  rw [partsR]
  split
  · rfl
  unfold consR keepS
  cases anyR q m [] t with
  | error e => rfl
  | ok x => cases partsR q m keep (t.s :: seen) r <;> rfl

def Q75 (rs : List Tm) (R : Er (List Tm)) (e : Ex) (s' : List D) (st' : St) : Prop :=
  match R with
  | .error (a, y) => e = .ret ∧ get s' 7 = .int .i64 a ∧ get s' 8 = .int .i64 y ∧ ∃ L' rs', get s' 6 = L' ∧ RawX 6 st' L' (encTs rs')
  | .ok xs => e = .exit 0 ∧ ∃ L', get s' 9 = L' ∧ RawX 6 st' L' (encTs (rs ++ xs))

theorem seen_has (l : List Tm) (i : Nat) (hi : i < l.length) : (l[i].s ∈ ((l.take i).map (·.s)).reverse) ↔ hasS l[i].s ((l.take i).drop 0) = true := by
  unfold hasS
  rw [List.drop_zero, List.mem_reverse, List.mem_map, List.any_eq_true]
  simp

theorem l75_0 (m : Tm) (hm : m.l.length ≤ 1000000) (fl : Fl) (l : List Tm) (hl : cntTs l ≤ 900000) (keep : Bool) :
    ∀ (r i : Nat) (L : D) (rs : List Tm) (s : List D) (bx : List (Nat × List D)) (st : St), r = l.length - i → i ≤ l.length → RawX 6 st L (encTs rs) → rs.length = i →
      get s 1 = slE 6 fl (encTs l) → get s 2 = .bool keep → get s 3 = .lp 3 1 0 → getB bx 3 = (1, clT m) → get s 9 = L → get s 10 = .int .i64 i →
    Stops (lp T L75_0 ⟨⟨s, bx⟩, st⟩) fun e s' _ st' => Q75 rs (partsR qe m keep ((l.take i).map (·.s)).reverse (l.drop i)) e s' st' := by
  intro r
  induction r with
  | zero =>
    intro i L rs s bx st hr hi R hrs h1 h2 h3 b3 h9 h10
    have e : i = l.length := by omega
    rw [e, List.drop_length, partsR]
    refine Stops_wp L75_0.eq_1 ?_
    simp [h1, h9, h10, e, Q75]
    exact R
  | succ r ih =>
    intro i L rs s bx st hr hi R hrs h1 h2 h3 b3 h9 h10
    have hlt : i < l.length := by omega
    have hcl := cntTs_len l
    have hcm := cnt_at l i hlt
    have hw : IntKind.wrap .i64 ((i : Int) + 1) = ((i + 1 : Nat) : Int) := by rw [wrap64] <;> omega
    obtain ⟨r1, r2, r3, r4⟩ := R.facts
    have lo := fun s bx st => l75_1 fl l (by omega) i hlt L r1 i 0 s bx st (by omega) (by omega)
    have hs := seen_has l i hlt
    have hsn : ((l.take (i + 1)).map (·.s)).reverse = l[i].s :: ((l.take i).map (·.s)).reverse := by
      rw [List.take_succ_eq_append_getElem hlt, List.map_append, List.reverse_append]
      rfl
    have ih := fun L' rs' s' bx' st' => ih (i + 1) L' rs' s' bx' st' (by omega) (by omega)
    rw [hsn] at ih
    rw [List.drop_eq_getElem_cons hlt, partsR_cons]
    generalize ((l.take i).map (·.s)).reverse = seen at *
    have i1 := slT_idx fl l i hlt
    have q := fun st => c76 m hm l[i] .emp [] st (by simp only [List.length_nil]; omega)
    have qq := any_err (q := qe) (m := m) l[i] []
    have hB := slE_okv 6 fl (encTs l)
    have hBl : ∀ st q, lenD st .slice (slE 6 fl (encTs l)) q = some (.i l.length) := fun st q => by simp
    generalize slE 6 fl (encTs l) = B at *
    refine Stops_wp L75_0.eq_1 ?_
    simp [h1, h9, h10, hBl, hlt]
    refine WL.use L75_1_p L75_1_w (lo _ _ _ ?_ ?_ ?_ ?_) ?_
    iterate 4 simp [h1, h9, h10]
    rintro e s' b' st' ⟨rfl, rfl, h⟩ hf
    by_cases hin : l[i].s ∈ seen
    · rw [if_pos (hs.1 hin)] at h
      obtain ⟨rfl, g6, g7, g8⟩ := h
      rw [if_pos hin]
      simp [Q75, g6, g7, g8]
      exact ⟨rs, R⟩
    · rw [if_neg (fun c => hin (hs.2 c))] at h
      subst h
      rw [if_neg hin]
      have f1 := hf 1 rfl
      have f2 := hf 2 rfl
      have f3 := hf 3 rfl
      have f9 := hf 9 rfl
      have f10 := hf 10 rfl
      simp [h1, h2, h3, h9, h10] at f1 f2 f3 f9 f10
      have q : ∀ st, callD T (ev T) 76 [encT m, .sl 1 true [], encT l[i]] st = some (gotR (anyR qe m [] l[i]), st) := q
      cases hx : anyR qe m [] l[i] with
      | error x =>
        obtain ⟨a, y⟩ := x
        have hy := qq _ hx
        simp only at hy
        subst hy
        rw [hx, gotR_er] at q
        simp [f1, f2, f3, f9, f10, b3, i1, ← encT_eq, q, r1, splice, fillD, Q75, -Int.natCast_add]
        exact ⟨rs, R⟩
      | ok x =>
        rw [hx, gotR_ok] at q
        simp only
        obtain ⟨L3, st3, a3, R3, hl3, hat3, o3, o3'⟩ := rawApp6 R (by omega) (keepS keep l[i] x)
        have nx := fun s' bx' => ih L3 (rs ++ [keepS keep l[i] x]) s' bx' st3 R3 (by simp; omega)
        have fin : ∀ (R' : Er (List Tm)) (e : Ex) (s' : List D) (st' : St), Q75 (rs ++ [keepS keep l[i] x]) R' e s' st' → Q75 rs (consR (.ok (keepS keep l[i] x)) R') e s' st' := by
          intro R' e s' st' h
          rcases R' with ⟨a, y⟩ | xs
          · exact h
          · obtain ⟨h1, L', h3, h4⟩ := h
            refine ⟨h1, L', h3, ?_⟩
            rw [List.append_assoc] at h4
            exact h4
        generalize partsR qe m keep (l[i].s :: seen) (l.drop (i + 1)) = R' at *
        have fin := fin R'
        generalize Q75 rs (consR (.ok (keepS keep l[i] x)) R') = Q at *
        cases keep with
        | false =>
          rw [show keepS false l[i] x = x from rfl] at *
          simp [f1, f2, f3, f9, f10, b3, i1, ← encT_eq, q, r1, r2, a3, o3, o3', hw, splice, fillD, -Int.natCast_add]
          refine Stops.mono (nx _ _ ?_ ?_ ?_ ?_ ?_ ?_) ?_
          iterate 6 simp [f1, f2, f3, b3, h1, h2, h3]
          intro e s' b' st' h
          exact fin _ _ _ h
        | true =>
          have hke : encT (keepS true l[i] x) = .agg [.int .i64 x.k, .int .i64 x.n, .str l[i].s, slE 6 x.fl (encTs x.l), .int .i64 x.a, .int .i64 x.b] := by
            rw [encT_eq]; rfl
          rw [hke] at a3
          simp [f1, f2, f3, f9, f10, b3, i1, ← encT_eq m, ← encT_eq l[i], q, r1, r2, a3, o3, o3', hw, splice, fillD, -Int.natCast_add]
          refine Stops.mono (nx _ _ ?_ ?_ ?_ ?_ ?_ ?_) ?_
          iterate 6 simp [f1, f2, f3, b3, h1, h2, h3]
          intro e s' b' st' h
          exact fin _ _ _ h
end Go.Nt.Lk

/-
  NAMES RESOLVED by the program, walked (9): fields and parameters.
  No condition.
-/
set_option linter.unusedSimpArgs false
set_option maxRecDepth 20000
namespace Go.Nt.Lk
open Go Go.Nt

variable {m : Tm} {st : St} {lv : D} {locs : List Nm} {at0 e : Int}

theorem key_str (a b : Nm) : keyD .str (.str a) (.str b) = some (decide (a = b)) := by
  show some (a == b) = _
  by_cases h : a = b <;> simp [h]
theorem seek_snoc (w : Nm) (v : D) : ∀ (ents : List (D × D)) (j : Nat), seekD .str (.str w) ents j = some none → seekD .str (.str w) (ents ++ [(.str w, v)]) j = some (some (j + ents.length, v))
  | [], j, _ => by simp [seekD, key_str]
  | x :: r, j, h => by
    rw [seekD] at h
    rw [List.cons_append, seekD]
    cases hk : keyD .str (.str w) x.1 with
    | none => rw [hk] at h; simp at h
    | some b =>
      rw [hk] at h
      cases b with
      | true => simp at h
      | false =>
        simp only at h ⊢
        rw [seek_snoc w v r (j + 1) h]
        simp only [List.length_cons, Option.some.injEq, Prod.mk.injEq, and_true]
        omega
theorem seek_other (w u : Nm) (v : D) (h : w ≠ u) : ∀ (ents : List (D × D)) (j : Nat), seekD .str (.str w) (ents ++ [(.str u, v)]) j = seekD .str (.str w) ents j
  | [], j => by simp [seekD, key_str, h]
  | x :: r, j => by
    rw [List.cons_append, seekD, seekD, seek_other w u v h r (j + 1)]
theorem seek_set (w : Nm) (u v : D) : ∀ (ents : List (D × D)) (i j : Nat), seekD .str (.str w) ents j = some (some (j + i, u)) → seekD .str (.str w) (ents.set i (.str w, v)) j = some (some (j + i, v))
  | [], i, j, h => by simp [seekD] at h
  | x :: r, i, j, h => by
    rw [seekD] at h
    cases hk : keyD .str (.str w) x.1 with
    | none => rw [hk] at h; simp at h
    | some b =>
      rw [hk] at h
      cases b with
      | true =>
        simp only [Option.some.injEq, Prod.mk.injEq] at h
        have : i = 0 := by omega
        subst this
        simp [seekD, key_str]
      | false =>
        simp only at h
        have hp := (seek_lt h).1
        obtain ⟨k, rfl⟩ : ∃ k, i = k + 1 := ⟨i - 1, by omega⟩
        rw [List.set_cons_succ, seekD, hk]
        simp only
        have e : j + (k + 1) = j + 1 + k := by omega
        rw [e] at h ⊢
        exact seek_set w u v r k (j + 1) h

/-- The names that were seen, in a map. -/
def SeenM (o : Ob) (seen : List Nm) : Prop := ∃ md ents, o = .map md ents ∧ (∀ w, w ∉ seen → seekD .str (.str w) ents 0 = some none) ∧ ∀ w, w ∈ seen → ∃ i, seekD .str (.str w) ents 0 = some (some (i, .int .i64 1))

def mapE {α β : Type} (f : α → β) (r : Er α) : Er β := match r with
  | .ok x => .ok (f x)
  | .error e => .error e
def FM (m : Tm) (keep : Bool) (seen : List Nm) (x : Tm) : Er (Tm × List Nm) := if x.s ∈ seen then .error (x.a, 9) else withS (x.s :: seen) (mapE (keepS keep x) (anyR qn m [] x))
theorem parts_each (m : Tm) (keep : Bool) : ∀ (l : List Tm) (seen : List Nm), partsR qn m keep seen l = fstR (eachR (FM m keep) seen l)
  | [], seen => by rw [partsR, eachR]; rfl
  | t :: l, seen => by
    rw [partsR_cons, eachR]
    unfold FM
    by_cases h : t.s ∈ seen
    · rw [if_pos h, if_pos h]; rfl
    rw [if_neg h, if_neg h]
    cases anyR qn m [] t with
    | error e => rfl
    | ok x =>
      rw [show withS (t.s :: seen) (mapE (keepS keep t) (Except.ok x : Er Tm)) = .ok (keepS keep t x, t.s :: seen) from rfl]
      simp only
      rw [parts_each m keep l (t.s :: seen)]
      unfold FM
      cases eachR (fun seen x => if x.s ∈ seen then .error (x.a, 9) else withS (x.s :: seen) (mapE (keepS keep x) (anyR qn m [] x))) (t.s :: seen) l with
      | error e => rfl
      | ok y => rfl

theorem c115 (keep : Bool) (x : Tm) (hp : plX x = true) (hc : cntT x ≤ 1000000) (K : Sc m st lv [] at0 0) (seen : List Nm) {idm idb mdb : Nat} (hm : SeenM (St.at st idm) seen) (hbx : St.at st idb = .cells true 1 0 mdb false [.mp idm]) (i1 : 1 < idm) (i2 : idm < st.length) (i3 : idb < st.length) :
    ∃ r st', callD T (ev T) 115 [encT x, .hp idb 0 1 0 0, .kp 1 0 10 0 0, .iptr (.bool keep)] st = some (encT r, st') ∧ Fr (some idm) st st' ∧ match FM m keep seen x with
      | .ok (y, s1) => y = r ∧ Sc m st' lv [] at0 0 ∧ SeenM (St.at st' idm) s1
      | .error (a, y) => y ≠ 0 ∧ Se m st' 0 (verOf lv + cntT x) a y := by
  obtain ⟨md, ents, hmo, n1, n2⟩ := hm
  obtain ⟨mdS, h1⟩ := K.h1
  obtain ⟨x1, x2, x3, x4, x5⟩ := K.hw.facts
  have w1 : IntKind.wrap .i64 1 = 1 := by rw [wrap64] <;> omega
  have w2 : IntKind.wrap .i64 2 = 2 := by rw [wrap64] <;> omega
  have hne : idb ≠ idm := by rintro rfl; rw [hmo] at hbx; cases hbx
  have hat : ∀ o i, i ≠ idm → St.at (List.set st idm o) i = St.at st i := fun o i hi => by rw [at_set _ _ _ _ i2, if_neg hi]
  have hself : ∀ o, St.at (List.set st idm o) idm = o := fun o => by rw [at_set _ _ _ _ i2, if_pos rfl]
  have hK : ∀ md' ents', Sc m (List.set st idm (.map md' ents')) lv [] at0 0 := fun md' ents' => K.to (by simp) fun i hi hc => hat _ i (by
    rcases hc with rfl | rfl | hc
    · omega
    · omega
    · rintro rfl; rw [hmo] at hc; exact hc)
  have hF : ∀ o, Fr (some idm) st (List.set st idm o) := fun o => ⟨by simp, fun i hi hn _ => hat o i (by rintro rfl; exact hn rfl)⟩
  have hb2 : ∀ o, St.at (List.set st idm o) idb = .cells true 1 0 mdb false [.mp idm] := fun o => by rw [hat o idb hne, hbx]
  by_cases hs : x.s ∈ seen
  · obtain ⟨i, hi⟩ := n2 _ hs
    have hs2 := seek_set x.s (.int .i64 1) (.int .i64 2) ents i 0 (by rw [Nat.zero_add]; exact hi)
    rw [Nat.zero_add] at hs2
    obtain ⟨st2, q, K2, W2⟩ := c116 (hK (md + 1) (ents.set i (.str x.s, .int .i64 2))) x 9
    simp only [if_true] at K2
    refine ⟨tm0, st2, ?_, (hF _).trans W2.any, ?_⟩
    · have go : Ret (ev T 115 [encT x, .hp idb 0 1 0 0, .kp 1 0 10 0 0, .iptr (.bool keep)] st) fun r st' => r = encT tm0 ∧ st' = st2 := by
        refine Ret_wp (fn := F115) rfl ?_
        rw [F115]
        simp [hbx, hmo, hi, w2, hb2, hself, hs2, ← encT_eq, q, splice, fillD]
        rfl
      obtain ⟨r', st', h1, rfl, rfl⟩ := go
      exact callD_freE (fn := F115) rfl rfl (by simp) h1 (by simp) (by simp)
    · unfold FM
      rw [if_pos hs]
      exact ⟨by decide, lv, [], K2, Nat.zero_le _, by omega⟩
  · have hi := n1 _ hs
    have hs2 := seek_snoc x.s (.int .i64 1) ents 0 hi
    have K1 := hK (md + 1) (ents ++ [(.str x.s, .int .i64 1)])
    obtain ⟨r, st2, q, W2, E⟩ := c73 x _ lv [] at0 hp K1 (by simp) hc
    have hx0 : (encT r) = .agg [.int .i64 r.k, .int .i64 r.n, .str r.s, slE 6 r.fl (encTs r.l), .int .i64 r.a, .int .i64 r.b] := encT_eq r
    refine ⟨keepS keep x r, st2, ?_, (hF _).trans W2.any, ?_⟩
    · have go : Ret (ev T 115 [encT x, .hp idb 0 1 0 0, .kp 1 0 10 0 0, .iptr (.bool keep)] st) fun r' st' => r' = encT (keepS keep x r) ∧ st' = st2 := by
        refine Ret_wp (fn := F115) rfl ?_
        rw [F115]
        cases keep with
        | false =>
          rw [show keepS false x r = r from rfl]
          simp [hbx, hmo, hi, w1, hb2, hself, hs2, ← encT_eq, q, splice, fillD]
        | true =>
          have hke : encT (keepS true x r) = .agg [.int .i64 r.k, .int .i64 r.n, .str x.s, slE 6 r.fl (encTs r.l), .int .i64 r.a, .int .i64 r.b] := by
            rw [encT_eq]; rfl
          rw [hke]
          simp [hbx, hmo, hi, w1, hb2, hself, hs2, ← encT_eq x, q, splice, fillD]
      obtain ⟨r', st', h1, rfl, rfl⟩ := go
      exact callD_freE (fn := F115) rfl rfl (by simp) h1 (by simp) (by simp)
    · unfold FM
      rw [if_neg hs]
      cases hR : anyR qn m [] x with
      | ok y =>
        rw [hR] at E
        obtain ⟨rfl, K2⟩ := E
        refine ⟨rfl, K2, md + 1, ents ++ [(.str x.s, .int .i64 1)], ?_, fun w hw => ?_, fun w hw => ?_⟩
        · rw [W2.2 idm (by simpa using i2) (by simp) (by rw [hself]; rfl), hself]
        · simp only [List.mem_cons, not_or] at hw
          rw [seek_other w x.s _ hw.1]
          exact n1 w hw.2
        · by_cases hwx : w = x.s
          · subst hwx; exact ⟨_, hs2⟩
          · rw [seek_other w x.s _ hwx]
            exact n2 w ((List.mem_cons.1 hw).resolve_left hwx)
      | error y =>
        obtain ⟨a, y⟩ := y
        rw [hR] at E
        obtain ⟨e1, lv3, locs3, e2, e3, e4⟩ := E
        have := cntT_eq x
        exact ⟨e1, lv3, locs3, e2, Nat.zero_le _, by omega⟩

theorem c72 (keep : Bool) (fl : Fl) (l : List Tm) (hp : ∀ x, x ∈ l → plX x = true) (hc : cntTs l ≤ 1000000) (K : Sc m st lv [] at0 0) :
    ∃ rs st', callD T (ev T) 72 [.hp 1 0 10 0 0, slE 6 fl (encTs l), .bool keep] st = some (slE 6 .nil (encTs rs), st') ∧ Fr none st st' ∧ match partsR qn m keep [] l with
      | .ok ss => ss = rs ∧ Sc m st' lv [] at0 0
      | .error (a, y) => y ≠ 0 ∧ Se m st' 0 (verOf lv + cntTs l) a y := by
  have hcl := cntTs_len l
  obtain ⟨md, h1⟩ := K.h1
  have hl := K.hl
  obtain ⟨st0, hst0⟩ : ∃ st0 : St, st0 = st ++ [.map 0 [], .cells true 1 0 1 false [.mp st.length]] := ⟨_, rfl⟩
  have ln0 : st0.length = st.length + 2 := by rw [hst0]; simp
  have am : St.at st0 st.length = .map 0 [] := by rw [hst0, at_app0]; rfl
  have ab : St.at st0 (st.length + 1) = .cells true 1 0 1 false [.mp st.length] := by rw [hst0, at_app]; rfl
  have old : ∀ i, i < st.length → St.at st0 i = St.at st i := fun i hi => by rw [hst0]; exact at_lt _ _ hi
  have K0 : Sc m st0 lv [] at0 0 := K.to (by omega) fun i hi _ => old i hi
  have J0 : Sc m st0 lv [] at0 0 ∧ SeenM (St.at st0 st.length) [] ∧ St.at st0 (st.length + 1) = .cells true 1 0 1 false [.mp st.length] ∧ st.length + 1 < st0.length :=
    ⟨K0, ⟨0, [], am, fun w _ => rfl, fun w hw => by cases hw⟩, ab, by omega⟩
  obtain ⟨rs, st1, q, W, E⟩ := c37 (m := m) (some st.length) (fun (seen : List Nm) st' => Sc m st' lv [] at0 0 ∧ SeenM (St.at st' st.length) seen ∧ St.at st' (st.length + 1) = .cells true 1 0 1 false [.mp st.length] ∧ st.length + 1 < st'.length) (FM m keep) (fun _ => 0) 0 (verOf lv + cntTs l) (cntTs l) 115 [] [.hp (st.length + 1) 0 1 0 0, .kp 1 0 10 0 0, .iptr (.bool keep)] rfl fl l (by omega) st0 (fun i h => by cases h; omega)
    (fun _ st h => ⟨lv, [], at0, h.1⟩)
    (fun _ st1 st2 h o => by
      obtain ⟨h1, ⟨md, ents, h2, h3⟩, h4, h5⟩ := h
      exact ⟨h1.oth o, ⟨md, ents, by rw [o.2 _ (by omega) (by rw [h2]; rfl), h2], h3⟩, by rw [o.2 _ h5 (by rw [h4]; rfl), h4], by have := o.1; omega⟩)
    (fun x hx seen st1 J _ => by
      obtain ⟨K1, M1, B1, L1⟩ := J
      obtain ⟨r, st', q, W, E⟩ := c115 keep x (hp x hx) (by have := cntTs_mem hx; omega) K1 seen M1 B1 (by omega) (by omega) L1
      refine ⟨r, st', by simpa using q, W, ?_⟩
      cases hR : FM m keep seen x with
      | ok y =>
        obtain ⟨y, s1⟩ := y
        rw [hR] at E
        exact ⟨E.1, ⟨E.2.1, E.2.2, by rw [W.2 _ L1 (by simp) (by rw [B1]; rfl), B1], by have := W.1; omega⟩, Nat.zero_le _⟩
      | error y =>
        obtain ⟨a, y⟩ := y
        rw [hR] at E
        obtain ⟨e1, lv3, locs3, e2, e3, e4⟩ := E
        exact ⟨e1, lv3, locs3, e2, e3, by have := cntTs_mem hx; omega⟩) [] J0 (by omega)
  have q' : callD T (ev T) 37 [.hp 1 0 10 0 0, slE 6 fl (encTs l), .fn 115 [] [.hp (st.length + 1) 0 1 0 0, .kp 1 0 10 0 0, .iptr (.bool keep)]] (st ++ [.map 0 [], .cells true 1 0 1 false [.mp st.length]]) = some (slE 6 .nil (encTs rs), st1) := by
    rw [hst0] at q
    exact q
  refine ⟨rs, st1, ?_, ?_, ?_⟩
  · have go : Ret (ev T 72 [.hp 1 0 10 0 0, slE 6 fl (encTs l), .bool keep] st) fun r st' => r = slE 6 .nil (encTs rs) ∧ st' = st1 := by
      refine Ret_wp (fn := F72) rfl ?_
      rw [F72]
      have hrw : ∀ d, rewrap .nilm [d] = some d := fun _ => rfl
      simp [at_app, at_app0, set_app, set_app0, kHs, splice, fillD, hrw, q']
    obtain ⟨r', st', h1, rfl, rfl⟩ := go
    exact callD_freE (fn := F72) rfl rfl (by simp) h1 (by simp) (by simp)
  · refine ⟨by have := W.1; omega, fun i hi _ hk => ?_⟩
    rw [W.2 i (by omega) (by simp only [ne_eq, Option.some.injEq]; omega) (by rw [old i hi]; exact hk), old i hi]
  · rw [parts_each]
    cases hE : eachR (FM m keep) [] l with
    | ok y =>
      obtain ⟨ss, s1⟩ := y
      rw [hE] at E
      exact ⟨E.1, E.2.1.1⟩
    | error y =>
      obtain ⟨a, y⟩ := y
      rw [hE] at E
      exact E
end Go.Nt.Lk
