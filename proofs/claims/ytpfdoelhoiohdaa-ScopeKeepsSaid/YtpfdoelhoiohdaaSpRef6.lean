/-
  NAMES RESOLVED by the reference, walked (6): declarations.
  No condition.
-/
import Derived.Test.YtpfdoelhoiohdaaSpNamed
import Derived.Test.YtpfdoelhoiohdaaSpKept
set_option linter.unusedSimpArgs false
set_option maxRecDepth 20000
namespace Go.Nt.Lk
open Go Go.Nt

theorem c75 (m : Tm) (hm : m.l.length ≤ 1000000) (fl : Fl) (l : List Tm) (hl : cntTs l ≤ 900000) (keep : Bool) (st : St) :
    match partsR qe m keep [] l with
    | .ok ls => callD T (ev T) 75 [encT m, slE 6 fl (encTs l), .bool keep] st = some (.tup [slE 6 .emp (encTs ls), .i 0, .i 0], st)
    | .error (a, y) => ∃ ls : List Tm, callD T (ev T) 75 [encT m, slE 6 fl (encTs l), .bool keep] st = some (.tup [slE 6 .emp (encTs ls), .i a, .i y], st) := by
  have lo := fun s bx st => l75_0 m hm fl l hl keep l.length 0 (.sl 6 true []) [] s bx st (by omega) (by omega) (RawX.nil _ _) rfl
  rw [List.drop_zero] at lo
  have e0 : ((l.take 0).map (·.s)).reverse = [] := rfl
  rw [e0] at lo
  have hp : ∀ (ls : List Tm) (a y : Int), (D.tup [slE 6 .emp (encTs ls), .i a, .i y]).pureT = true := fun ls a y => by simp [D.pureT]
  have hargs : pureArgs st [encT m, slE 6 fl (encTs l), .bool keep] = some ([encT m, slE 6 fl (encTs l), .bool keep], st) := by
    have : fz1 st (slE 6 fl (encTs l)) = some (slE 6 fl (encTs l), st) := by cases l <;> cases fl <;> simp [slE, fz1, fz0]
    simp [pureArgs, this]
  cases hR : partsR qe m keep [] l with
  | ok ls =>
    refine callD_pureR (fn := F75) rfl rfl hargs (hp _ _ _) ?_
    refine Ret_wp (fn := F75) rfl ?_
    rw [F75]
    simp [splice, fillD]
    refine WL.use L75_0_p L75_0_w (lo _ _ _ ?_ ?_ ?_ ?_ ?_ ?_) ?_
    iterate 6 simp
    intro e s' b' st' h hf
    rw [hR] at h
    obtain ⟨rfl, L', h9, R⟩ := h
    rw [List.nil_append] at R
    obtain ⟨st2, z1, _⟩ := R.fz2
    simp [h9, R.facts.1, splice, fillD]
    have z1' : fz1 st' L' = some (slE 6 .emp (encTs ls), st2) := by rw [R.fz1]; exact z1
    exact ⟨st2, by simp [fz, fzL, z1']⟩
  | error x =>
    obtain ⟨a, y⟩ := x
    suffices h : ∃ ls : List Tm, Ret (ev T 75 [encT m, slE 6 fl (encTs l), .bool keep] []) fun r st1 => ∃ st2, fz st1 r = some (.tup [slE 6 .emp (encTs ls), .i a, .i y], st2) by
      obtain ⟨ls, h⟩ := h
      exact ⟨ls, callD_pureR (fn := F75) rfl rfl hargs (hp _ _ _) h⟩
    have go : Ret (ev T 75 [encT m, slE 6 fl (encTs l), .bool keep] []) fun r st1 => ∃ ls : List Tm, ∃ st2, fz st1 r = some (.tup [slE 6 .emp (encTs ls), .i a, .i y], st2) := by
      refine Ret_wp (fn := F75) rfl ?_
      rw [F75]
      simp [splice, fillD]
      refine WL.use L75_0_p L75_0_w (lo _ _ _ ?_ ?_ ?_ ?_ ?_ ?_) ?_
      iterate 6 simp
      intro e s' b' st' h hf
      rw [hR] at h
      obtain ⟨rfl, h7, h8, L', ls, h6, R⟩ := h
      obtain ⟨st2, z1, _⟩ := R.fz2
      simp [h6, h7, h8, R.facts.1, splice, fillD]
      have z1' : fz1 st' L' = some (slE 6 .emp (encTs ls), st2) := by rw [R.fz1]; exact z1
      exact ⟨ls, st2, by simp [fz, fzL, z1']⟩
    obtain ⟨r, st1, h1, ls, h2⟩ := go
    exact ⟨ls, r, st1, h1, h2⟩

theorem RawX.kn {st : St} {L : D} {l : List Nm} (h : RawX 1 st L (l.map .str)) : Kn st L l := by
  rcases h with ⟨h0, rfl⟩ | ⟨id, md, h0, rfl, h1, h2⟩
  · have : l = [] := by simpa using h0
    subst this
    exact .inl ⟨.emp, rfl⟩
  · refine .inr ⟨id, _, md, false, ?_, h1, h2⟩
    simp
theorem rawApp1 {st : St} {L : D} {l : List Nm} (R : RawX 1 st L (l.map .str)) (hb : l.length ≤ 1000000) (x : Nm) :
    ∃ L' st', appendD st L [.str x] 1 = some (L', st') ∧ RawX 1 st' L' ((l ++ [x]).map .str) ∧ L'.okv = true ∧ L'.cells = [L'] := by
  obtain ⟨L', st', a1, a2, a3, a4, _⟩ := R.app (by omega) (by omega) (by simpa using hb) (.str x)
  have e : (l ++ [x]).map D.str = l.map D.str ++ [.str x] := by simp
  rw [← e] at a2
  exact ⟨L', st', a1, a2, a2.facts.1, a2.facts.2.1⟩

def Q40 (p : Tm) (bx : List (Nat × List D)) (e : Ex) (s' : List D) (b' : List (Nat × List D)) (st' : St) : Prop := e = .exit 0 ∧ b' = bx ∧ RawX 1 st' (get s' 13) ((p.l.map (·.s)).map .str)
theorem l40 (t p : Tm) (rest : List Tm) (ht : t.l = p :: rest) (hp : p.l.length ≤ 900000) :
    ∀ (r i : Nat) (L : D) (s : List D) (bx : List (Nat × List D)) (st : St), r = p.l.length - i → i ≤ p.l.length → RawX 1 st L (((p.l.take i).map (·.s)).map .str) →
      get s 3 = .lp 3 1 0 → getB bx 3 = (1, clT t) → get s 13 = L → get s 14 = .int .i64 i →
    Stops (lp T L40_0 ⟨⟨s, bx⟩, st⟩) fun e s' b' st' => Q40 p bx e s' b' st' := by
  intro r
  induction r with
  | zero =>
    intro i L s bx st hr hi R h3 b3 h13 h14
    have e : i = p.l.length := by omega
    rw [e, List.take_length] at R
    have hx := slT_idx t.fl t.l 0 (by rw [ht]; simp)
    simp only [ht, List.getElem_cons_zero] at hx
    have b3' : getB bx 3 = (1, [.int .i64 t.k, .int .i64 t.n, .str t.s, slE 6 t.fl (encTs (p :: rest)), .int .i64 t.a, .int .i64 t.b]) := by rw [b3, ← ht]
    refine Stops_wp L40_0.eq_1 ?_
    simp [h3, b3', h13, h14, e, hx]
    exact ⟨rfl, rfl, by simpa [h13] using R⟩
  | succ r ih =>
    intro i L s bx st hr hi R h3 b3 h13 h14
    have hlt : i < p.l.length := by omega
    have hw : IntKind.wrap .i64 ((i : Int) + 1) = ((i + 1 : Nat) : Int) := by rw [wrap64] <;> omega
    have hx := slT_idx t.fl t.l 0 (by rw [ht]; simp)
    simp only [ht, List.getElem_cons_zero] at hx
    have b3' : getB bx 3 = (1, [.int .i64 t.k, .int .i64 t.n, .str t.s, slE 6 t.fl (encTs (p :: rest)), .int .i64 t.a, .int .i64 t.b]) := by rw [b3, ← ht]
    obtain ⟨r1, r2, r3, r4⟩ := R.facts
    obtain ⟨L3, st3, a3, R3, o3, o3'⟩ := rawApp1 R (by simp; omega) p.l[i].s
    have e3 : (p.l.take i).map (·.s) ++ [p.l[i].s] = (p.l.take (i + 1)).map (·.s) := by
      rw [List.take_succ_eq_append_getElem hlt, List.map_append]; rfl
    rw [e3] at R3
    have nx := fun s' => ih (i + 1) L3 s' bx st3 (by omega) (by omega) R3
    have i1 := slT_idx p.fl p.l i hlt
    have hB := slE_okv 6 t.fl (encTs (p :: rest))
    generalize slE 6 t.fl (encTs (p :: rest)) = B at *
    refine Stops_wp L40_0.eq_1 ?_
    simp [h3, b3', h13, h14, hx, i1, hlt, hw, r1, a3, o3, hB, splice, fillD, -Int.natCast_add, -List.map_map]
    refine nx _ ?_ ?_ ?_ ?_
    · simp [h3]
    · exact b3
    · simp
    · simp

theorem gotR_er2 (a e : Int) : gotR (.error (a, e)) = .agg [.int .i64 0, .int .i64 0, .str [], .nils, .int .i64 0, .int .i64 0, .int .i64 a, .int .i64 e] := rfl

theorem parts_err {q : List Tm → Fl} {m : Tm} {keep : Bool} : ∀ (l : List Tm) (seen : List Nm) (x : Int × Int), partsR q m keep seen l = .error x → x.2 = 8 ∨ x.2 = 9
  | [], seen, x, h => by rw [partsR] at h; cases h
  | t :: r, seen, x, h => by
    rw [partsR_cons] at h
    split at h
    · cases h; exact .inr rfl
    cases hx : anyR q m [] t with
    | error e => rw [hx] at h; cases h; exact .inl (any_err _ _ _ hx)
    | ok y =>
      rw [hx] at h
      simp only [consR] at h
      cases hu : partsR q m keep (t.s :: seen) r with
      | error e => rw [hu] at h; cases h; exact parts_err r _ _ hu
      | ok u => rw [hu] at h; cases h

def bindE {α β : Type} (r : Er α) (f : α → Er β) : Er β := match r with
  | .error e => .error e
  | .ok x => f x
theorem bindE_ok {α β : Type} (x : α) (f : α → Er β) : bindE (.ok x : Er α) f = f x := rfl
theorem bindE_er {α β : Type} (e : Int × Int) (f : α → Er β) : bindE (.error e : Er α) f = .error e := rfl
theorem declR_fn (q : List Tm → Fl) (m t p r b : Tm) (h33 : t.k = 33) (hl : t.l = [p, r, b]) : declR q m t =
    bindE (partsR q m false [] p.l) fun ls => bindE (anyR q m [] r) fun r' => bindE (anyR q m (p.l.map (·.s)) b) fun b' => .ok (.mk t.k t.n [] .full [.mk p.k 0 [] (q ls) ls p.a p.b, r', b'] t.a t.b) := by
  unfold declR
  rw [if_neg (by omega), if_neg (fun c => c h33), hl]
  simp only
  cases partsR q m false [] p.l with
  | error e => rfl
  | ok ls =>
    simp only [bindE_ok]
    cases anyR q m [] r with
    | error e => rfl
    | ok r' =>
      simp only [bindE_ok]
      cases anyR q m (p.l.map (·.s)) b <;> rfl

theorem c40 (m : Tm) (hm : m.l.length ≤ 1000000) (t : Tm) (hd : declX t = true) (hb : cntT t ≤ 400000) (st : St) : callD T (ev T) 40 [encT m, encT t] st = some (gotR (declR qe m t), st) := by
  refine callD_pureR (fn := F40) rfl rfl (by simp [pureArgs]) (gotR_pure _) ?_
  refine Ret_wp (fn := F40) rfl ?_
  rw [F40]
  have hct := cntT_eq t
  unfold declX at hd
  by_cases h30 : t.k = 30
  · unfold declR
    rw [if_pos h30]
    have h30' := eq_true h30
    have q := fun st => c75 m hm t.fl t.l (by omega) true st
    cases hx : partsR qe m true [] t.l with
    | error x =>
      obtain ⟨a, y⟩ := x
      rw [hx] at q
      obtain ⟨ls, q⟩ := q []
      have hy := parts_err _ _ _ hx
      simp only at hy
      have hy0 : ¬ y = 0 := by omega
      simp only [gotR_er]
      simp [h30', ← encT_eq, q, hy0, splice, fillD]
    | ok ls =>
      rw [hx] at q
      simp only at q
      simp only [gotR_ok]
      simp [h30', ← encT_eq, q, splice, fillD]
  rw [if_neg h30] at hd
  by_cases h33 : t.k = 33
  case neg =>
    unfold declR
    rw [if_neg h30, if_pos h33]
    have q := fun st => c76 m hm t .emp [] st (by simp only [List.length_nil]; omega)
    have q : ∀ st, callD T (ev T) 76 [encT m, .sl 1 true [], encT t] st = some (gotR (anyR qe m [] t), st) := q
    have hz := fun st => gotR_fz st (anyR qe m [] t)
    cases hn : anyR qe m [] t with
    | error x =>
      obtain ⟨a, y⟩ := x
      rw [hn, gotR_er] at q hz
      rw [gotR_er]
      simp [h30, h33, ← encT_eq, q, splice, fillD, hz]
    | ok x =>
      rw [hn, gotR_ok] at q hz
      rw [gotR_ok]
      simp [h30, h33, ← encT_eq, q, splice, fillD, hz]
  have h30' := eq_false h30
  have h33' := eq_true h33
  rw [if_pos h33] at hd
  match hl : t.l, hd with
  | [p, r, b], hd =>
    rw [declR_fn qe m t p r b h33 hl]
    have hcnt : cntTs t.l = cntT p + (cntT r + cntT b) := by rw [hl]; simp [cntTs]
    have hcp := cntT_eq p
    have hpl := cntTs_len p.l
    have q0 := fun st => c75 m hm p.fl p.l (by omega) false st
    have q1 : ∀ st, callD T (ev T) 76 [encT m, .sl 1 true [], encT r] st = some (gotR (anyR qe m [] r), st) := fun st => c76 m hm r .emp [] st (by simp only [List.length_nil]; omega)
    have q2 := fun fl st => c76 m hm b fl (p.l.map (·.s)) st (by simp only [List.length_map]; omega)
    have lo := fun s bx st => l40 t p [r, b] hl (by omega) p.l.length 0 (.sl 1 true []) s bx st (by omega) (by omega) (RawX.nil _ _)
    have hB := slE_okv 6 t.fl (encTs [p, r, b])
    have hx0 := slT_idx t.fl [p, r, b] 0 (by simp)
    have hx1 := slT_idx t.fl [p, r, b] 1 (by simp)
    have hx2 := slT_idx t.fl [p, r, b] 2 (by simp)
    simp only [List.getElem_cons_zero, List.getElem_cons_succ] at hx0 hx1 hx2
    have eT : encT t = .agg [.int .i64 t.k, .int .i64 t.n, .str t.s, slE 6 t.fl (encTs [p, r, b]), .int .i64 t.a, .int .i64 t.b] := by rw [encT_eq, hl]
    have eB : slE 6 t.fl (encTs t.l) = slE 6 t.fl (encTs [p, r, b]) := by rw [hl]
    cases hx : partsR qe m false [] p.l with
    | error x =>
      obtain ⟨a, y⟩ := x
      rw [hx] at q0
      obtain ⟨ls, q0⟩ := q0 []
      have hy := parts_err _ _ _ hx
      simp only at hy
      have hy0 : ¬ y = 0 := by omega
      simp only [bindE_er, gotR_er]
      simp [h30', h33', eB, hx0, ← encT_eq, q0, hy0, splice, fillD]
    | ok ls =>
      rw [hx] at q0
      simp only [bindE_ok] at q0 ⊢
      cases hr : anyR qe m [] r with
      | error x =>
        obtain ⟨a, y⟩ := x
        have hy := any_err _ _ _ hr
        simp only at hy
        subst hy
        rw [hr, gotR_er] at q1
        simp only [bindE_er, gotR_er]
        simp [h30', h33', eB, hx0, hx1, ← encT_eq, q0, q1, splice, fillD]
      | ok r' =>
        rw [hr, gotR_ok] at q1
        simp only [bindE_ok]
        have hbe := any_err (q := qe) (m := m) b (p.l.map (·.s))
        generalize anyR qe m (p.l.map (·.s)) b = Y at *
        generalize hX : bindE Y (fun b' => .ok (Tm.mk t.k t.n [] .full [Tm.mk p.k 0 [] (qe ls) ls p.a p.b, r', b'] t.a t.b)) = X
        simp [h30', h33', eB, hx0, hx1, ← encT_eq, q0, q1, splice, fillD]
        refine WL.useB L40_0_p L40_0_w rfl (lo _ _ _ ?_ ?_ ?_ ?_) ?_
        iterate 4 simp [eB]
        rintro e s' b' st' ⟨rfl, rfl, R⟩ hf hfb
        have f2 := hf 2 rfl
        have f3 := hf 3 rfl
        have f4 := hf 4 rfl
        have f11 := hf 11 rfl
        have f12 := hf 12 rfl
        simp at f2 f3 f4 f11 f12
        obtain ⟨fl2, st2, k1, k2, k3, k4⟩ := (RawX.kn R).frz
        have kok := R.facts.1
        have q2' : callD T (ev T) 76 [encT m, get s' 13, encT b] st' = some (gotR Y, st2) := by
          refine callD_free (fn := F76) rfl rfl ?_ ?_ (q2 fl2 st2)
          · simp [pureArgs, k1]
          · simp [pureArgs]
        generalize hL : get s' 13 = L at *
        cases Y with
        | error x =>
          obtain ⟨a, y⟩ := x
          have hy := hbe _ rfl
          simp only at hy
          subst hy
          rw [bindE_er] at hX
          subst hX
          simp only [gotR_er] at q2' ⊢
          simp [f2, f3, f4, f11, f12, hL, eB, hx2, kok, ← encT_eq, q2', splice, fillD]
        | ok x =>
          rw [bindE_ok] at hX
          subst hX
          simp only [gotR_ok] at q2' ⊢
          simp [f2, f3, f4, f11, f12, hL, eB, hx2, kok, ← encT_eq, q2', splice, fillD]
          rw [encT_eq (Tm.mk p.k 0 [] (qe ls) ls p.a p.b)] <;> rfl
  | [], hd => cases hd
  | [_], hd => cases hd
  | [_, _], hd => cases hd
  | _ :: _ :: _ :: _ :: _, hd => cases hd
end Go.Nt.Lk
