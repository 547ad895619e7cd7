/-
  MAPS of strings, walked.
  No condition; of no program.
-/
import Derived.Test.YtpfdoelhoiohdaaSpGot
import Derived.Test.YtpfdoelhoiohdaaSpPart
import Derived.Test.YtpfdoelhoiohdaaSpRef2
namespace Go.Nt

variable {T : Nat → Option IFunc} {go : GoF} {rd : Opd → D} {rb : Nat → Nat × List D} {st : St}

def kLkR (zero : D) (ok : Bool) : Option (Option (Nat × D)) → Option Eff
  | some r => val (if ok then .tup [(r.map (·.2)).getD zero, .bool r.isSome] else (r.map (·.2)).getD zero)
  | none => none
def kLkO (zero : D) (ok : Bool) (s : List UInt8) : Ob → Option Eff
  | .map _ ents => kLkR zero ok (seekD .str (.str s) ents 0)
  | _ => none
def kLook (kk : Kd) (zero : D) (ok : Bool) (st : St) (m k : D) : Option Eff := if k.isKey kk then
    (match m with | .nilm => some none | .mp id => (match St.at st id with | .map _ ents => seekD kk k ents 0 | _ => none) | _ => none : Option (Option (Nat × D))).bind fun r =>
      val (if ok then .tup [(r.map (·.2)).getD zero, .bool r.isSome] else (r.map (·.2)).getD zero) else none
@[simp ↓] theorem a_look (d : Nat) (kk : Kd) (m k : Opd) (zero : D) (ok : Bool) : actO T go rd rb st (.look d kk m k zero ok) = kLook kk zero ok st (rd m) (rd k) := (rfl)
@[simp] theorem kLook_mp (zero : D) (ok : Bool) (id : Nat) (s : List UInt8) : kLook .str zero ok st (.mp id) (.str s) = kLkO zero ok s (St.at st id) := by
  unfold kLook kLkO kLkR
  rw [if_pos (show (D.str s).isKey .str = true from rfl)]
  cases h : St.at st id with
  | cells => simp only [h]; rfl
  | map a ents => simp only [h]; cases seekD .str (.str s) ents 0 <;> rfl
@[simp] theorem kLkO_map (zero : D) (ok : Bool) (s : List UInt8) (md : Nat) (ents : List (D × D)) : kLkO zero ok s (.map md ents) = kLkR zero ok (seekD .str (.str s) ents 0) := (rfl)
@[simp] theorem kLkR_0t (zero : D) : kLkR zero true (some none) = some (.tup [zero, .bool false], none, none) := (rfl)
@[simp] theorem kLkR_0f (zero : D) : kLkR zero false (some none) = some (zero, none, none) := (rfl)
@[simp] theorem kLkR_1t (zero : D) (i : Nat) (v : D) : kLkR zero true (some (some (i, v))) = some (.tup [v, .bool true], none, none) := (rfl)
@[simp] theorem kLkR_1f (zero : D) (i : Nat) (v : D) : kLkR zero false (some (some (i, v))) = some (v, none, none) := (rfl)

@[simp ↓] theorem a_mkmap (d : Nat) : actO T go rd rb st (.mkmap d) = some (.mp st.length, none, some (st ++ [.map 0 []])) := (rfl)

def kMuR (st : St) (id md : Nat) (ents : List (D × D)) (s : List UInt8) (x : D) : Option (Option (Nat × D)) → Option Eff
  | some r => some (.undef, none, some (List.set st id (.map (md + 1) (match r with | some (i, _) => ents.set i (.str s, x) | none => ents ++ [(.str s, x)]))))
  | none => none
def kMuO (st : St) (id : Nat) (s : List UInt8) (x : D) : Ob → Option Eff
  | .map md ents => if x.okv then kMuR st id md ents s x (seekD .str (.str s) ents 0) else none
  | _ => none
def kMup (kk : Kd) (st : St) (m k x : D) : Option Eff := match m with
    | .mp id => match St.at st id with
      | .map mod ents => if x.okv && k.isKey kk then (seekD kk k ents 0).bind fun r =>
          some (.undef, none, some (List.set st id (.map (mod + 1) (match r with | some (i, _) => ents.set i (k, x) | none => ents ++ [(k, x)])))) else none
      | _ => none
    | _ => none
@[simp ↓] theorem a_mupd (kk : Kd) (m k x : Opd) : actO T go rd rb st (.mupd kk m k x) = kMup kk st (rd m) (rd k) (rd x) := (rfl)
@[simp] theorem kMup_mp (id : Nat) (s : List UInt8) (x : D) : kMup .str st (.mp id) (.str s) x = kMuO st id s x (St.at st id) := by
  unfold kMup kMuO kMuR
  cases h : St.at st id with
  | cells => simp only [h]
  | map a ents =>
    have e : (D.str s).isKey .str = true := rfl
    simp only [h, e, Bool.and_true]
    split
    · cases seekD .str (.str s) ents 0 <;> rfl
    · rfl
@[simp] theorem kMuO_map (id : Nat) (s : List UInt8) (x : D) (md : Nat) (ents : List (D × D)) : kMuO st id s x (.map md ents) = if x.okv then kMuR st id md ents s x (seekD .str (.str s) ents 0) else none := (rfl)
@[simp] theorem kMuR_0 (id : Nat) (s : List UInt8) (x : D) (md : Nat) (ents : List (D × D)) : kMuR st id md ents s x (some none) = some (.undef, none, some (List.set st id (.map (md + 1) (ents ++ [(.str s, x)])))) := (rfl)
@[simp] theorem kMuR_1 (id : Nat) (s : List UInt8) (x : D) (md : Nat) (ents : List (D × D)) (i : Nat) (v : D) : kMuR st id md ents s x (some (some (i, v))) = some (.undef, none, some (List.set st id (.map (md + 1) (ents.set i (.str s, x))))) := (rfl)
end Go.Nt

/-
  NAMES RESOLVED by the program, walked (3): what is wrong first; what a name stands for.
  No condition.
-/
set_option linter.unusedSimpArgs false
set_option maxRecDepth 20000
namespace Go.Nt.Lk
open Go Go.Nt

variable {m : Tm} {st : St} {lv : D} {locs : List Nm} {at0 e : Int}

/-- The first error is noted. -/
theorem c116 (K : Sc m st lv locs at0 e) (t : Tm) (x : Int) : ∃ st', callD T (ev T) 116 [.hp 1 0 10 0 0, encT t, .int .i64 x] st = some (.tup [], st') ∧ Sc m st' lv locs (if e = 0 then t.a else at0) (if e = 0 then x else e) ∧ Fr none st st' := by
  obtain ⟨md, h1⟩ := K.h1
  obtain ⟨x1, x2, x3, _⟩ := K.hw.facts
  have hl := K.hl
  have ha : ∀ o, St.at (List.set st 1 o) 1 = o := fun o => by rw [at_set _ _ _ _ K.hl, if_pos rfl]
  rw [callD_rawE (fn := F116) rfl rfl (by simp)]
  by_cases he : e = 0
  · subst he
    obtain ⟨K1, W⟩ := K.put t.a x (md + 2)
    have go : Ret (ev T 116 [.hp 1 0 10 0 0, encT t, .int .i64 x] st) fun r st' => r = .tup [] ∧ st' = List.set st 1 (scO m lv t.a x (md + 2)) := by
      refine Ret_wp (fn := F116) rfl ?_
      rw [F116]
      simp [h1, scO, kHs, ha, hl, splice, x1, x2, x3]
    obtain ⟨r, st', h1, rfl, rfl⟩ := go
    exact ⟨_, h1, by simpa using K1, W⟩
  · have go : Ret (ev T 116 [.hp 1 0 10 0 0, encT t, .int .i64 x] st) fun r st' => r = .tup [] ∧ st' = st := by
      refine Ret_wp (fn := F116) rfl ?_
      rw [F116]
      simp [h1, scO, kHs, splice, x1, x2, x3, he]
    obtain ⟨r, st', h1, rfl, rfl⟩ := go
    exact ⟨st', h1, by rw [if_neg he, if_neg he]; exact K, .refl _ _⟩

/-- The kinds, gone through. -/
theorem l118 (i : Nat) (hi : i < m.l.length) (ks : List Int) (hl : ks.length ≤ 1000) (md : Nat) (h1 : St.at st 1 = scO m lv at0 e md) :
    ∀ (r j : Nat) (s : List D) (bx : List (Nat × List D)), r = ks.length - j → j ≤ ks.length → get s 0 = .hp 1 0 10 0 0 → get s 8 = .int .i64 i → get s 23 = .sl 1 true (ks.map fun k => .int .i64 k) → get s 24 = .i ks.length → get s 25 = .int .i64 j →
    Stops (lp T L118_0 ⟨⟨s, bx⟩, st⟩) fun e' s' b' st' => st' = st ∧ b' = bx ∧ if m.l[i].k ∈ ks.drop j then e' = .ret ∧ get s' 6 = .int .i64 i ∧ get s' 7 = .int .i64 m.l[i].k else e' = .exit 0 := by
  intro r
  induction r with
  | zero =>
    intro j s bx hr hj g0 g8 g23 g24 g25
    have e : j = ks.length := by omega
    subst e
    refine Stops_wp L118_0.eq_1 ?_
    rw [List.drop_length]
    simp [g0, g8, g23, g24, g25]
  | succ r ih =>
    intro j s bx hr hj g0 g8 g23 g24 g25
    have hlt : j < ks.length := by omega
    have hw : IntKind.wrap .i64 ((j : Int) + 1) = ((j + 1 : Nat) : Int) := by rw [wrap64] <;> omega
    have nx := fun s' bx' => ih (j + 1) s' bx' (by omega) (by omega)
    have i1 : idxAD (.sl 1 true (ks.map fun k => .int .i64 k)) j 1 none none = some (.iptr (.int .i64 ks[j])) := by
      have : (ks.map fun k => D.int .i64 k)[j]? = some (.int .i64 ks[j]) := by rw [List.getElem?_map, List.getElem?_eq_getElem hlt] <;> rfl
      simp only [idxAD, this, if_true, Option.bind_some]
      rfl
    have i2 := slT_ix0 m.fl m.l i hi
    have hB := slE_okv 6 m.fl (encTs m.l)
    rw [List.drop_eq_getElem_cons hlt]
    unfold scO at h1
    generalize slE 6 m.fl (encTs m.l) = B at *
    generalize ks[j] = k at *
    generalize m.l[i] = d at *
    refine Stops_wp L118_0.eq_1 ?_
    by_cases hk : d.k = k
    · have hk' := eq_true hk
      have hm : d.k ∈ k :: ks.drop (j + 1) := by rw [hk]; simp
      simp only [if_pos hm]
      simp [g0, g8, g23, g24, g25, hlt, i1, i2, h1, hk', -Int.natCast_add]
      exact hk.symm
    · have hm : (d.k ∈ k :: ks.drop (j + 1)) = (d.k ∈ ks.drop (j + 1)) := by simp [hk]
      simp only [hm]
      simp [g0, g8, g23, g24, g25, hlt, hw, i1, i2, h1, hk, -Int.natCast_add]
      refine nx _ _ ?_ ?_ ?_ ?_ ?_ <;> simp [g0, g8, g23, g24]

theorem c118 (K : Sc m st lv locs at0 0) (t : Tm) (ks : List Int) (hk : ks.length ≤ 1000) (h0 : 0 ∉ ks) : ∃ i k st', callD T (ev T) 118 [.hp 1 0 10 0 0, encT t, .sl 1 true (ks.map fun k => .int .i64 k)] st = some (.tup [.int .i64 i, .int .i64 k], st') ∧ Fr none st st' ∧
    (if kindN m t.s ∈ ks then declN m t.s = some i.toNat ∧ 0 ≤ i ∧ k = kindN m t.s ∧ Sc m st' lv locs at0 0 else Sc m st' lv locs t.a 8) := by
  obtain ⟨md0, m0⟩ := K.h0
  obtain ⟨md, h1⟩ := K.h1
  obtain ⟨x1, x2, x3, _⟩ := K.hw.facts
  have hsl : ∀ st q, lenD st .slice (D.sl 1 true (ks.map fun k => .int .i64 k)) q = some (.i ks.length) := fun st q => by simp [lenD]
  have sk := seek_ents t.s m.l 0 0
  obtain ⟨st1, q, K1, W⟩ := c116 K t 8
  simp only [if_true] at K1
  cases hd : declN m t.s with
  | none =>
    have hz : kindN m t.s = 0 := by unfold kindN; rw [hd]
    unfold declN at hd
    rw [hd] at sk
    simp only [Option.map_none] at sk
    refine ⟨0, 0, st1, ?_, W, by rw [hz, if_neg h0]; exact K1⟩
    rw [callD_rawE (fn := F118) rfl rfl (by simp)]
    have go : Ret (ev T 118 [.hp 1 0 10 0 0, encT t, .sl 1 true (ks.map fun k => .int .i64 k)] st) fun r st' => r = .tup [.int .i64 0, .int .i64 0] ∧ st' = st1 := by
      refine Ret_wp (fn := F118) rfl ?_
      rw [F118]
      simp [h1, m0, sk, scO, ← encT_eq, q, splice, x1, x2, x3]
    obtain ⟨r, st', h1, rfl, rfl⟩ := go
    exact h1
  | some i =>
    have hi := declN_lt hd
    have hz : kindN m t.s = m.l[i].k := by unfold kindN; rw [hd]; simp [hi]
    have hd' := hd
    unfold declN at hd
    rw [hd] at sk
    simp only [Option.map_some] at sk
    have lo := fun s bx => l118 (lv := lv) (at0 := at0) (e := 0) i hi ks hk md h1 ks.length 0 s bx (by omega) (by omega)
    rw [List.drop_zero] at lo
    rw [hz]
    by_cases hin : m.l[i].k ∈ ks
    · refine ⟨i, m.l[i].k, st, ?_, .refl _ _, by rw [if_pos hin]; exact ⟨by simp, by omega, rfl, K⟩⟩
      rw [callD_rawE (fn := F118) rfl rfl (by simp)]
      simp only [if_pos hin] at lo
      have go : Ret (ev T 118 [.hp 1 0 10 0 0, encT t, .sl 1 true (ks.map fun k => .int .i64 k)] st) fun r st' => r = .tup [.int .i64 i, .int .i64 m.l[i].k] ∧ st' = st := by
        refine Ret_wp (fn := F118) rfl ?_
        rw [F118]
        generalize m.l[i].k = kk at *
        simp [h1, m0, sk, scO, hsl, splice, x1, x2, x3]
        refine WL.use L118_0_p L118_0_w (lo _ _ ?_ ?_ ?_ ?_ ?_) ?_
        iterate 5 simp
        rintro e s' b' st' ⟨rfl, rfl, rfl, h6, h7⟩ hf
        simp [h6, h7]
      obtain ⟨r, st', h1, rfl, rfl⟩ := go
      exact h1
    · refine ⟨0, 0, st1, ?_, W, by rw [if_neg hin]; exact K1⟩
      rw [callD_rawE (fn := F118) rfl rfl (by simp)]
      simp only [if_neg hin] at lo
      have go : Ret (ev T 118 [.hp 1 0 10 0 0, encT t, .sl 1 true (ks.map fun k => .int .i64 k)] st) fun r st' => r = .tup [.int .i64 0, .int .i64 0] ∧ st' = st1 := by
        refine Ret_wp (fn := F118) rfl ?_
        rw [F118]
        simp [h1, m0, sk, scO, hsl, splice, x1, x2, x3]
        refine WL.use L118_0_p L118_0_w (lo _ _ ?_ ?_ ?_ ?_ ?_) ?_
        iterate 5 simp
        rintro e s' b' st' ⟨rfl, rfl, rfl⟩ hf
        have f0 := hf 0 rfl
        have f4 := hf 4 rfl
        simp at f0 f4
        simp [f0, f4, ← encT_eq, q]
      obtain ⟨r, st', h1, rfl, rfl⟩ := go
      exact h1
end Go.Nt.Lk

/-
  NAMES RESOLVED by the program, walked (4): names; expressions and types.
  No condition.
-/
set_option linter.unusedSimpArgs false
set_option maxRecDepth 20000
namespace Go.Nt.Lk
open Go Go.Nt

variable {m : Tm} {st : St} {lv : D} {locs : List Nm} {at0 e : Int}

def Q117 (t : Tm) (R : Option Nat) (st : St) (bx : List (Nat × List D)) (e' : Ex) (b' : List (Nat × List D)) (st' : St) : Prop := st' = st ∧ match R with
  | some n => e' = .ret ∧ getB b' 4 = (1, [.int .i64 7, .int .i64 n, .str [], .nils, .int .i64 t.a, .int .i64 t.b])
  | none => e' = .exit 0 ∧ b' = bx

theorem l117 (t : Tm) (id ver md mdl : Nat) (more : List Nm) (hl : locs.length ≤ 1000000) (h1 : St.at st 1 = scO m (.rs id ver 1 0 locs.length false) at0 e md) (hr : St.at st id = .cells false 1 ver mdl false ((locs ++ more).map .str)) :
    ∀ (r : Nat) (s : List D) (bx : List (Nat × List D)), r ≤ locs.length → get s 0 = .hp 1 0 10 0 0 → get s 3 = .lp 3 1 0 → getB bx 3 = (1, clT t) → get s 4 = .lp 4 1 0 → getB bx 4 = (1, zT) → get s 5 = .lp 5 1 0 → getB bx 5 = (1, [.int .i64 0, .int .i64 0, .str [], .nils, .int .i64 t.a, .int .i64 t.b]) → get s 6 = .int .i64 ((r : Int) - 1) →
    Stops (lp T L117_0 ⟨⟨s, bx⟩, st⟩) fun e' s' b' st' => Q117 t (localN t.s (locs.take r).reverse (locs.length - r)) st bx e' b' st' := by
  intro r
  induction r with
  | zero =>
    intro s bx hle g0 g3 b3 g4 b4 g5 b5 g6
    refine Stops_wp L117_0.eq_1 ?_
    simp [g0, g3, b3, g5, b5, g6, localN, Q117]
  | succ r ih =>
    intro s bx hle g0 g3 b3 g4 b4 g5 b5 g6
    have hlt : r < locs.length := by omega
    have nx := fun s' bx' => ih s' bx' (by omega)
    have e1 : ((r + 1 : Nat) : Int) - 1 = r := by omega
    have hw : IntKind.wrap .i64 ((r : Int) - 1) = (r : Int) - 1 := by rw [wrap64] <;> omega
    have hw1 : IntKind.wrap .i64 ((locs.length : Int) - 1) = ((locs.length - 1 : Nat) : Int) := by rw [wrap64] <;> omega
    have hw2 : IntKind.wrap .i64 (((locs.length - 1 : Nat) : Int) - r) = ((locs.length - (r + 1) : Nat) : Int) := by rw [wrap64] <;> omega
    have hx : ((locs ++ more).map D.str)[r]? = some (.str locs[r]) := by
      rw [List.getElem?_map, List.getElem?_append_left hlt, List.getElem?_eq_getElem hlt]
      rfl
    have hrev : (locs.take (r + 1)).reverse = locs[r] :: (locs.take r).reverse := by
      rw [List.take_succ_eq_append_getElem hlt, List.reverse_append]
      rfl
    have hn : locs.length - (r + 1) + 1 = locs.length - r := by omega
    rw [hrev, localN, hn]
    rw [e1] at g6
    generalize (locs ++ more).map D.str = els at *
    generalize locs[r] = x at *
    generalize locs.length = n at *
    refine Stops_wp L117_0.eq_1 ?_
    by_cases hg : x = t.s
    · have hg' := eq_true hg
      rw [if_pos hg]
      simp [g0, g3, b3, g4, b4, g5, b5, g6, h1, hr, scO, hx, hlt, hg', hw1, hw2, splice, fillD, Q117, -Int.natCast_add]
    · rw [if_neg hg]
      generalize localN t.s (List.take r locs).reverse (n - r) = R at *
      simp [g0, g3, b3, g4, b4, g5, b5, g6, h1, hr, scO, hx, hlt, hg, hw, splice, fillD, -Int.natCast_add]
      refine nx _ _ ?_ ?_ ?_ ?_ ?_ ?_ ?_ ?_ <;> simp [g0, g3, b3, g4, b4, g5, b5]

theorem c117 (K : Sc m st lv locs at0 0) (hl : locs.length ≤ 1000000) (t : Tm) : ∃ r st', callD T (ev T) 117 [.hp 1 0 10 0 0, encT t] st = some (encT r, st') ∧ Fr none st st' ∧
    match nameR m locs t with
    | .ok x => x = r ∧ Sc m st' lv locs at0 0
    | .error (a, y) => y ≠ 0 ∧ Sc m st' lv locs a y := by
  obtain ⟨md, h1⟩ := K.h1
  obtain ⟨x1, x2, x3, x4, _⟩ := K.hw.facts
  obtain ⟨i, k, st1, q, W, E⟩ := c118 K t [31, 32] (by simp) (by simp)
  have q : callD T (ev T) 118 [.hp 1 0 10 0 0, encT t, .sl 1 true [.int .i64 31, .int .i64 32]] st = some (.tup [.int .i64 i, .int .i64 k], st1) := q
  have hw1 : IntKind.wrap .i64 ((locs.length : Int) - 1) = (locs.length : Int) - 1 := by rw [wrap64] <;> omega
  -- behind the loop
  have fin : ∀ (R : Option Nat) (Z : Tm → St → Prop), R = localN t.s locs.reverse 0 →
      (∀ n, R = some n → Z (.mk 7 n [] .nil [] t.a t.b) st) → (R = none → Z (.mk (if k = 31 then 8 else 9) i [] .nil [] t.a t.b) st1) →
      ∃ r st', callD T (ev T) 117 [.hp 1 0 10 0 0, encT t] st = some (encT r, st') ∧ Z r st' := by
    intro R Z hR z1 z2
    have lo : ∀ s bx, get s 0 = .hp 1 0 10 0 0 → get s 3 = .lp 3 1 0 → getB bx 3 = (1, clT t) → get s 4 = .lp 4 1 0 → getB bx 4 = (1, zT) → get s 5 = .lp 5 1 0 → getB bx 5 = (1, [.int .i64 0, .int .i64 0, .str [], .nils, .int .i64 t.a, .int .i64 t.b]) → get s 6 = .int .i64 ((locs.length : Int) - 1) →
        Stops (lp T L117_0 ⟨⟨s, bx⟩, st⟩) fun e' s' b' st' => Q117 t R st bx e' b' st' := by
      rw [hR]
      rcases K.hw with ⟨rfl, rfl⟩ | ⟨id, ver, mdl, more, rfl, a1, a2, a3, a4⟩
      · intro s bx g0 g3 b3 g4 b4 g5 b5 g6
        refine Stops_wp L117_0.eq_1 ?_
        simp [g0, g3, b3, g5, b5, g6, localN, Q117]
      · intro s bx g0 g3 b3 g4 b4 g5 b5 g6
        have := l117 t id ver md mdl more hl h1 a1 locs.length s bx (Nat.le_refl _) g0 g3 b3 g4 b4 g5 b5 g6
        rw [List.take_length, Nat.sub_self] at this
        exact this
    have go : Ret (ev T 117 [.hp 1 0 10 0 0, encT t] st) fun r st' => ∃ x, r = encT x ∧ Z x st' := by
      refine Ret_wp (fn := F117) rfl ?_
      rw [F117]
      simp [h1, scO, x1, x2, x3, x4, hw1, splice, fillD]
      refine WL.use L117_0_p L117_0_w (lo _ _ ?_ ?_ ?_ ?_ ?_ ?_ ?_ ?_) ?_
      iterate 8 simp
      rintro e' s' b' st' ⟨rfl, h⟩ hf
      have f0 := hf 0 rfl
      have f3 := hf 3 rfl
      have f4 := hf 4 rfl
      have f5 := hf 5 rfl
      simp at f0 f3 f4 f5
      cases hn : R with
      | some n =>
        rw [hn] at h
        obtain ⟨rfl, b4⟩ := h
        have := z1 n hn
        simp [f4, b4]
        exact ⟨.mk 7 n [] .nil [] t.a t.b, rfl, this⟩
      | none =>
        rw [hn] at h
        obtain ⟨rfl, rfl⟩ := h
        have z2 := z2 hn
        by_cases h31 : k = 31
        · have h31' := eq_true h31
          rw [if_pos h31] at z2
          simp [f0, f3, f4, f5, ← encT_eq, q, h31', splice, fillD]
          exact ⟨.mk 8 i [] .nil [] t.a t.b, rfl, z2⟩
        · rw [if_neg h31] at z2
          simp [f0, f3, f4, f5, ← encT_eq, q, h31, splice, fillD]
          exact ⟨.mk 9 i [] .nil [] t.a t.b, rfl, z2⟩
    obtain ⟨r, st', h1, x, rfl, hz⟩ := go
    exact ⟨x, st', callD_freE (fn := F117) rfl rfl (by simp) h1 (by simp) (by simp), hz⟩
  refine fin _ (fun r st' => Fr none st st' ∧ match nameR m locs t with
    | .ok x => x = r ∧ Sc m st' lv locs at0 0
    | .error (a, y) => y ≠ 0 ∧ Sc m st' lv locs a y) rfl (fun n hn => ?_) fun hn => ?_
  · refine ⟨.refl _ _, ?_⟩
    unfold nameR
    rw [hn]
    exact ⟨rfl, K⟩
  · refine ⟨W, ?_⟩
    unfold nameR
    rw [hn]
    simp only
    by_cases hk : kindN m t.s ∈ [(31 : Int), 32]
    · rw [if_pos hk] at E
      obtain ⟨e1, e2, rfl, K1⟩ := E
      rw [e1]
      simp only [List.mem_cons, List.not_mem_nil, or_false] at hk
      have hi : ((i.toNat : Nat) : Int) = i := by omega
      rcases hk with hk | hk
      · simp only [hk, if_true, hi]
        exact ⟨by trivial, K1⟩
      · simp only [hk, if_true, hi]
        exact ⟨by trivial, K1⟩
    · rw [if_neg hk] at E
      simp only [List.mem_cons, List.not_mem_nil, or_false, not_or] at hk
      cases hd : declN m t.s with
      | none => exact ⟨by decide, E⟩
      | some j =>
        simp only [if_neg hk.1, if_neg hk.2]
        exact ⟨by decide, E⟩
end Go.Nt.Lk
