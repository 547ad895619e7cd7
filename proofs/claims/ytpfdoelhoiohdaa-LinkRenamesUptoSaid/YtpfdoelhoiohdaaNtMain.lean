/-
  THE ABSTRACT MACHINE IS SOUND, THE WHOLE: code, results, calls within calls.
  No condition: 'sound' asks that each function of the table is the program's ('FuncOK', a closed fact).
-/
import Derived.Test.YtpfdoelhoiohdaaNtSound
namespace Go.Nt

variable {P : Program} {X : Cx} {c : Cfg} {bl : Bl} {lb : Nat → Nat} {a : Act} {w : World}

def codeOK (P : Program) (n : Nat) : Code → Ic → Bool
  | .skip, .skip => true
  | .label _, .skip => true
  | .ret, .ret => true
  | .region _ ops draw, .ops gs => gisOK P n ops.toList ops.toList gs && (!draw || drawOK P ops.toList gs)
  | .seq x y, .seq a b => codeOK P n x a && codeOK P n y b
  | .cond x y z, .cond u a b => opdOK x u && (codeOK P n y a && codeOK P n z b)
  | .block id x, .block id' a => id == id' && codeOK P n x a
  | .loop x, .loop a => codeOK P n x a
  | .exit id, .exit id' => id == id'
  | _, _ => false

def exitOf : Ex → Exit
  | .normal => .normal
  | .ret => .ret
  | .exit id => .exit id

theorem wp_loop_nat {P : Program} {Q : Exit → Act → World → Prop} {c : Code} (I : Nat → Act → World → Prop) (round : ∀ n a w, I n a w → c.wp P (Exit.then (fun a' w' => ∃ m, m < n ∧ I m a' w') Q) a w) {n : Nat} {a : Act} {w : World} (h : I n a w) : (Code.loop c).wp P Q a w := by
  intro b k cs
  have key : ∀ n a w, I n a w → ∃ e a' w', Q e a' w' ∧ Arrives P (lone (b.at a (.code c :: .inLoop c :: k)) cs w) b k cs e a' w' := by
    intro n
    induction n using Nat.strongRecOn with
    | _ n ih =>
      intro a w hI
      obtain ⟨e, a1, w1, hq, harr⟩ := round n a w hI b (.inLoop c :: k) cs
      cases e with
      | normal =>
        obtain ⟨m, hm, hI1⟩ := hq
        obtain ⟨e2, a2, w2, hq2, harr2⟩ := ih m hm a1 w1 hI1
        exact ⟨e2, a2, w2, hq2, .of_steps (Steps.trans harr (.one step_inLoop)) harr2⟩
      | exit id => exact ⟨_, a1, w1, hq, .pass (x := .inLoop c) rfl (fun _ _ => .inl (by simp)) harr⟩
      | goto l => exact ⟨_, a1, w1, hq, .pass (x := .inLoop c) rfl (fun _ _ => .inl (by simp)) harr⟩
      | ret => exact ⟨_, a1, w1, hq, .pass (x := .inLoop c) rfl (fun _ _ => .inl (by simp)) harr⟩
      | panic ch => exact ⟨_, a1, w1, hq, .pass (x := .inLoop c) rfl (fun _ _ => .inl (by simp)) harr⟩
      | outgrown => exact ⟨_, a1, w1, hq, .pass (x := .inLoop c) rfl (fun _ _ => .inl (by simp)) harr⟩
  obtain ⟨e, a', w', hq, harr⟩ := key n a w h
  exact ⟨e, a', w', hq, .of_steps (.one step_loop) harr⟩

theorem zip_map {α : Type} (gs : List α) : ((List.range gs.length).zip gs).map (·.2) = gs ∧ ((List.range gs.length).zip gs).map (·.1) = List.range gs.length := by
  constructor
  · exact List.map_snd_zip (by simp)
  · exact List.map_fst_zip (by simp)

theorem sim_code {T : Nat → Option IFunc} {go : GoF} (H : Tab P T go) (fuel : Nat) : ∀ (code : Code) (ic : Ic) (Q : Exit → Act → World → Prop) (c c' : Cfg) (ex : Ex) (a : Act) (w : World), codeOK P X.n code ic = true → run T go fuel ic c = some (ex, c') → RelC X c a w →
    (∀ a' w', RelC X c' a' w' → Q (exitOf ex) a' w') → code.wp P Q a w := by
  intro code
  induction code with
  | skip =>
    intro ic Q c c' ex a w hok hr R hQ
    cases ic <;> simp only [codeOK] at hok <;> first | contradiction | skip
    simp only [run, Option.some.injEq, Prod.mk.injEq] at hr
    obtain ⟨rfl, rfl⟩ := hr
    exact wp_skip (hQ a w R)
  | label l =>
    intro ic Q c c' ex a w hok hr R hQ
    cases ic <;> simp only [codeOK] at hok <;> first | contradiction | skip
    simp only [run, Option.some.injEq, Prod.mk.injEq] at hr
    obtain ⟨rfl, rfl⟩ := hr
    exact wp_label (hQ a w R)
  | ret =>
    intro ic Q c c' ex a w hok hr R hQ
    cases ic <;> simp only [codeOK] at hok <;> first | contradiction | skip
    simp only [run, Option.some.injEq, Prod.mk.injEq] at hr
    obtain ⟨rfl, rfl⟩ := hr
    exact wp_ret (hQ a w R)
  | exit id =>
    intro ic Q c c' ex a w hok hr R hQ
    cases ic <;> simp only [codeOK] at hok <;> first | contradiction | skip
    simp at hok; subst hok
    simp only [run, Option.some.injEq, Prod.mk.injEq] at hr
    obtain ⟨rfl, rfl⟩ := hr
    exact wp_exit (hQ a w R)
  | region id ops draw =>
    intro ic Q c c' ex a w hok hr R hQ
    cases ic <;> simp only [codeOK] at hok <;> first | contradiction | skip
    rename_i gs
    simp only [Bool.and_eq_true, Bool.or_eq_true, Bool.not_eq_true'] at hok
    simp only [run] at hr
    obtain ⟨c1, h1, h2⟩ := bind_some hr
    simp only [Option.some.injEq, Prod.mk.injEq] at h2
    obtain ⟨rfl, rfl⟩ := h2
    obtain ⟨hlen, hgi⟩ := gisOK_get hok.1
    obtain ⟨z1, z2⟩ := zip_map gs
    cases draw with
    | false =>
      refine wp_region ?_
      have := sim_seq H (ops := ops) (Q := Q) (c' := c1) (fun a' w' R' => hQ a' w' R') ((List.range gs.length).zip gs) c a w (fun x hx => by
        obtain ⟨k, hk⟩ := List.getElem?_of_mem hx
        obtain ⟨e1, e2⟩ := zip_range gs k x hk
        have hlt : k < ops.size := by
          have := (List.getElem?_eq_some_iff.1 e2).1
          simp at hlen; omega
        obtain ⟨g, hg1, hg2⟩ := hgi k ops[k] (by simp [hlt])
        rw [hg1] at e2
        simp at e2
        rw [e1]
        exact ⟨ops[k], by simp [hlt], by rw [← e2]; exact hg2⟩) (by rw [z1]; exact h1) R
      rw [z2] at this
      rw [show ops.size = gs.length by simpa using hlen]
      exact this
    | true =>
      have hd := hok.2.resolve_left (by simp)
      obtain ⟨bl, lb, C⟩ := R
      have C' : CR X c bl lb a { w with drawn := w.drawn + 1 } := C.grown rfl rfl rfl (Nat.le_refl _) (fun _ _ => rfl)
      have hrem : rem (Array.replicate ops.size false) ((List.range gs.length).zip gs) = (List.range gs.length).zip gs := by
        unfold rem
        rw [List.filter_eq_self]
        intro x hx
        obtain ⟨k, hk⟩ := List.getElem?_of_mem hx
        obtain ⟨e1, e2⟩ := zip_range gs k x hk
        have hlt : k < ops.size := by
          have := (List.getElem?_eq_some_iff.1 e2).1
          simp at hlen; omega
        rw [e1]
        simp [hlt]
      refine wp_region_any (by simp only [drawOK, Bool.and_eq_true] at hd; exact hd.1) (sim_draw H hok.1 hd (fun a' w' R' => hQ a' w' R') ops.size _ c a _ (by simp) ?_ ?_ ?_ ⟨bl, lb, C'⟩)
      · rw [hrem]; simp at hlen ⊢; omega
      · intro i o ho hl
        rw [Array.getD_eq_getD_getElem?] at hl
        by_cases hi : i < ops.size
        · simp [hi] at hl
        · simp [hi] at hl
      · rw [hrem, z1]; exact h1
  | seq x y ihx ihy =>
    intro ic Q c c' ex a w hok hr R hQ
    cases ic <;> simp only [codeOK] at hok <;> first | contradiction | skip
    simp only [Bool.and_eq_true] at hok
    simp only [run] at hr
    obtain ⟨⟨e1, c1⟩, h1, h2⟩ := bind_some hr
    refine wp_seq (ihx _ _ c c1 e1 a w hok.1 h1 R fun a' w' R' => ?_)
    cases e1 with
    | normal => exact ihy _ _ c1 c' ex a' w' hok.2 h2 R' hQ
    | ret => simp only [Option.some.injEq, Prod.mk.injEq] at h2; obtain ⟨rfl, rfl⟩ := h2; exact hQ a' w' R'
    | exit id => simp only [Option.some.injEq, Prod.mk.injEq] at h2; obtain ⟨rfl, rfl⟩ := h2; exact hQ a' w' R'
  | cond x y z ihy ihz =>
    intro ic Q c c' ex a w hok hr R hQ
    cases ic <;> simp only [codeOK] at hok <;> first | contradiction | skip
    simp only [Bool.and_eq_true] at hok
    simp only [run] at hr
    split at hr
    · rename_i t ht
      obtain ⟨bl, lb, C⟩ := R
      refine wp_cond (sr_bool C hok.1 ht) ?_
      cases t with
      | true => simp only [if_true] at hr ⊢; exact ihy _ _ c c' ex a w hok.2.1 hr ⟨bl, lb, C⟩ hQ
      | false => simp only [Bool.false_eq_true, if_false] at hr ⊢; exact ihz _ _ c c' ex a w hok.2.2 hr ⟨bl, lb, C⟩ hQ
    · simp at hr
  | block id x ih =>
    intro ic Q c c' ex a w hok hr R hQ
    cases ic <;> simp only [codeOK] at hok <;> first | contradiction | skip
    simp only [Bool.and_eq_true, beq_iff_eq] at hok
    obtain ⟨rfl, hok⟩ := hok
    simp only [run] at hr
    obtain ⟨⟨e1, c1⟩, h1, h2⟩ := bind_some hr
    refine wp_block (ih _ _ c c1 e1 a w hok h1 R fun a' w' R' => ?_)
    cases e1 with
    | normal => simp only [Option.some.injEq, Prod.mk.injEq] at h2; obtain ⟨rfl, rfl⟩ := h2; exact hQ a' w' R'
    | ret => simp only [Option.some.injEq, Prod.mk.injEq] at h2; obtain ⟨rfl, rfl⟩ := h2; exact hQ a' w' R'
    | exit id' =>
      simp only [Option.some.injEq, Prod.mk.injEq] at h2
      obtain ⟨rfl, rfl⟩ := h2
      simp only [exitOf, Exit.inBlock]
      split
      · rename_i he; have := hQ a' w' R'; simpa [he, exitOf] using this
      · rename_i he; have := hQ a' w' R'; simpa [he, exitOf] using this
  | loop x ih =>
    intro ic Q c c' ex a w hok hr R hQ
    cases ic <;> simp only [codeOK] at hok <;> first | contradiction | skip
    rename_i ib
    simp only [run] at hr
    refine wp_loop_nat (fun n a w => ∃ c0, iter (run T go fuel ib) n c0 = some (ex, c') ∧ RelC X c0 a w) (fun n a w hI => ?_) (n := fuel) ⟨c, hr, R⟩
    obtain ⟨c0, hi, R0⟩ := hI
    cases n with
    | zero => simp [iter] at hi
    | succ n =>
      simp only [iter] at hi
      obtain ⟨⟨e1, c1⟩, h1, h2⟩ := bind_some hi
      refine ih _ _ c0 c1 e1 a w hok h1 R0 fun a' w' R' => ?_
      cases e1 with
      | normal => exact ⟨n, Nat.lt_succ_self _, c1, h2, R'⟩
      | ret => simp only [Option.some.injEq, Prod.mk.injEq] at h2; obtain ⟨rfl, rfl⟩ := h2; exact hQ a' w' R'
      | exit id => simp only [Option.some.injEq, Prod.mk.injEq] at h2; obtain ⟨rfl, rfl⟩ := h2; exact hQ a' w' R'
  | _ => intro ic Q c c' ex a w hok; cases ic <;> simp [codeOK] at hok

/-! ### Results -/

def resOK (P : Program) : List ResultVar → List Rv → Bool
  | [], [] => true
  | .tmp t :: rs, .t n :: ss => t == n && resOK P rs ss
  | .cell x t :: rs, .cell n sz _ :: ss => x == n && (shapeOK P t sz && resOK P rs ss)
  | _, _ => false

theorem res_run (C : CR X c bl lb a w) : ∀ {rs : List ResultVar} {ss : List Rv} {ds : List D}, resOK P rs ss = true → resL c ss = some ds → ∃ vs : List Value, (rs.mapM fun r => (match r with
      | .tmp t => pure (a.tmps.getD t undef)
      | .cell x t => do loadVar t (← asAddr (a.tmps.getD x undef)) : Sem Value)).run P w = .ok vs w ∧ vs.length = ds.length ∧ ∀ (i : Nat) (v : Value) (d : D), vs[i]? = some v → ds[i]? = some d → RR X c bl lb w v d
  | [], [], ds, _, h => by
    simp only [resL, Option.some.injEq] at h
    subst h
    exact ⟨[], rfl, rfl, fun i v d hv => by simp at hv⟩
  | [], _ :: _, _, h, _ => by simp [resOK] at h
  | .tmp _ :: _, [], _, h, _ => by simp [resOK] at h
  | .cell _ _ :: _, [], _, h, _ => by simp [resOK] at h
  | .tmp t :: rs, .cell _ _ _ :: ss, _, h, _ => by simp [resOK] at h
  | .cell _ _ :: rs, .t _ :: ss, _, h, _ => by simp [resOK] at h
  | .tmp t :: rs, .t n :: ss, ds, h, hr => by
    simp only [resOK, Bool.and_eq_true, beq_iff_eq] at h
    obtain ⟨rfl, h⟩ := h
    simp only [resL] at hr
    obtain ⟨d, h1, hr⟩ := bind_some hr
    obtain ⟨ds', h2, hr⟩ := bind_some hr
    simp only [Option.some.injEq] at hr
    subst hr
    obtain ⟨vs, k1, k2, k3⟩ := res_run C h h2
    simp only [resD] at h1
    obtain ⟨hok, h1⟩ := ite_some h1
    simp only [Option.some.injEq] at h1
    subst h1
    refine ⟨a.tmps.getD t undef :: vs, ?_, by simp [k2], fun i v d hv hd => ?_⟩
    · rw [List.mapM_cons]; simp only [Sem.run_bind, Sem.run_pure, Result.andThen_ok, k1]
    · cases i with
      | zero => simp only [List.getElem?_cons_zero, Option.some.injEq] at hv hd; subst hv; subst hd; exact (C.slots t).okv hok
      | succ i => exact k3 i v d (by simpa using hv) (by simpa using hd)
  | .cell x t :: rs, .cell n sz l :: ss, ds, h, hr => by
    simp only [resOK, Bool.and_eq_true, beq_iff_eq] at h
    obtain ⟨rfl, hs, h⟩ := h
    simp only [resL] at hr
    obtain ⟨d, h1, hr⟩ := bind_some hr
    obtain ⟨ds', h2, hr⟩ := bind_some hr
    simp only [Option.some.injEq] at hr
    subst hr
    obtain ⟨vs, k1, k2, k3⟩ := res_run C h h2
    simp only [resD] at h1
    obtain ⟨b, o, u, e1, e2, e3⟩ := load_rep (P := P) C (C.slots x) h1
    refine ⟨u :: vs, ?_, by simp [k2], fun i v d hv hd => ?_⟩
    · have ha : asAddr (a.tmps.getD x undef) = pure ⟨b, o, none⟩ := by rw [e1]; rfl
      rw [List.mapM_cons]; simp only [Sem.run_bind, ha, Sem.run_pure, Result.andThen_ok, e2 t hs, k1]
    · cases i with
      | zero => simp only [List.getElem?_cons_zero, Option.some.injEq] at hv hd; subst hv; subst hd; exact e3
      | succ i => exact k3 i v d (by simpa using hv) (by simpa using hd)

theorem finish_run (C : CR X c bl lb a w) {fn : Func} {res : List Rv} {r : D} {st : St} (h : resOK P fn.results.toList res = true) (hf : finish res c = some (r, st)) :
    st = c.2 ∧ ∃ v, (results fn a.tmps).run P w = .ok v w ∧ RR X c bl lb w v r := by
  unfold finish at hf
  obtain ⟨ds, h1, h2⟩ := bind_some hf
  obtain ⟨vs, k1, k2, k3⟩ := res_run C h h1
  have hrun : (fn.results.mapM fun r => (match r with
      | .tmp t => pure (a.tmps.getD t undef)
      | .cell x t => do loadVar t (← asAddr (a.tmps.getD x undef)) : Sem Value)).run P w = .ok vs.toArray w := by
    rw [Array.mapM_eq_mapM_toList]
    simp only [Sem.run_map, k1, Result.andThen_ok]
  have hres : (results fn a.tmps).run P w = .ok (if h : vs.toArray.size = 1 then vs.toArray[0] else .tuple vs.toArray) w := by
    unfold results
    rw [Sem.run_bind]
    refine Eq.trans (congrArg (fun r => Result.andThen r _) hrun) ?_
    rfl
  split at h2
  · rename_i d
    simp only [Option.some.injEq, Prod.mk.injEq] at h2
    obtain ⟨rfl, rfl⟩ := h2
    obtain ⟨v, rfl⟩ : ∃ v, vs = [v] := by
      cases vs with
      | nil => simp at k2
      | cons v vs => cases vs with
        | nil => exact ⟨v, rfl⟩
        | cons _ _ => simp at k2
    exact ⟨rfl, v, by rw [hres]; simp, k3 0 v d rfl rfl⟩
  · rename_i hne
    simp only [Option.some.injEq, Prod.mk.injEq] at h2
    obtain ⟨rfl, rfl⟩ := h2
    have hn : ¬ vs.toArray.size = 1 := by
      intro q
      simp only [List.size_toArray] at q
      cases ds with
      | nil => rw [q] at k2; simp at k2
      | cons d ds => cases ds with
        | nil => exact hne d rfl
        | cons _ _ => rw [q] at k2; simp at k2
    exact ⟨rfl, .tuple vs.toArray, by rw [hres, dif_neg hn], .tup _ _ (by simpa using k2) fun i v d hv hd => k3 i v d (by simpa using hv) hd⟩

/-! ### The whole -/

def CodeF (P : Program) (f : Nat) (ifn : IFunc) : Prop := ∃ fn code, P.funcs[f]? = some fn ∧ fn.body = some code ∧ (fn.name == "runtime.NumGoroutine") = false ∧ codeOK P fn.ntmps code ifn.code = true ∧ resOK P fn.results.toList ifn.res = true

/-- A function of the library whose text is not walked: what the table says of it is its contract. -/
def PrimF (P : Program) (f : Nat) (ifn : IFunc) : Prop := Known P f ∧ ∃ k, ifn.code = .prim k ∧ ∀ args st ds st1 r st', primD k args st = some (ds, st1) → finish ifn.res (⟨ds, []⟩, st1) = some (r, st') → CallOK P f args st r st'

def FuncOK (P : Program) (f : Nat) (ifn : IFunc) : Prop := CodeF P f ifn ∨ PrimF P f ifn

theorem FuncOK.known {f : Nat} {ifn : IFunc} (h : FuncOK P f ifn) : Known P f := by
  rcases h with ⟨fn, code, h1, h2, h3, _⟩ | ⟨h, _⟩
  · exact ⟨fn, code, h1, h2, h3⟩
  · exact h

theorem LL_nil (X : Cx) (lb : Nat → Nat) : X.LL [] lb = X.L := by
  funext b
  simp only [Cx.LL, OwnB, getB, List.getD_nil, ne_eq, not_true_eq_false, false_and, exists_false, or_false]

theorem sound {T : Nat → Option IFunc} (hT : ∀ f ifn, T f = some ifn → FuncOK P f ifn) : ∀ (k f : Nat) (args : List D) (st : St) (r : D) (st' : St), evT T k f args st = some (r, st') → CallOK P f args st r st' := by
  intro k
  induction k with
  | zero => intro f args st r st' h; simp [evT] at h
  | succ k ih =>
    intro f args st r st' h
    simp only [evT] at h
    obtain ⟨ifn, hf, h⟩ := bind_some h
    obtain ⟨⟨ex, c'⟩, hrun, h⟩ := bind_some h
    rcases hT f ifn hf with ⟨fn, code, h1, h2, h3, h4, h5⟩ | ⟨_, kp, hk, hp⟩
    case inr =>
      rw [hk] at hrun
      simp only [run] at hrun
      obtain ⟨⟨ds, st1⟩, hd, e⟩ := Option.map_eq_some_iff.1 hrun
      cases e
      exact hp args st ds st1 r st' hd h
    have H : Tab P T (evT T k) := ⟨fun g hg => by
      obtain ⟨ign, hg⟩ := Option.isSome_iff_exists.1 hg
      exact (hT g ign hg).known, fun g args st r st' hg _ => ih g args st r st' hg⟩
    intro w L bl vs HH hL hl hr
    refine calls_of_wp h1 h2 ?_
    let X : Cx := ⟨L, w, st, bl, fn.ntmps⟩
    have hsz0 : fn.ntmps ≤ (vs ++ Array.replicate (fn.ntmps - vs.size) undef).size := by
      rw [Array.size_append, Array.size_replicate]; omega
    have C0 : CR X ({ s := args, b := [] }, st) bl (fun _ => 0) { tmps := vs ++ Array.replicate (fn.ntmps - vs.size) undef, defers := [] } w := by
      refine ⟨hL, rfl, hsz0, fun t => ?_, fun x hx => by simp [getB] at hx, fun x y hx => by simp [getB] at hx, ?_, .refl _ _ _⟩
      · simp only [LL_nil]
        refine Rep.slot _ _ ?_
        simp only [get, List.getD_eq_getElem?_getD, Array.getD_eq_getD_getElem?]
        by_cases ht : t < vs.size
        · rw [Array.getElem?_append_left ht]
          have ht' : t < args.length := by omega
          rw [Array.getElem?_eq_getElem ht, List.getElem?_eq_getElem ht']
          exact hr t _ _ (Array.getElem?_eq_getElem ht) (List.getElem?_eq_getElem ht')
        · rw [Array.getElem?_append_right (by omega), List.getElem?_eq_none (by omega)]
          have : ((Array.replicate (fn.ntmps - vs.size) undef)[t - vs.size]?).getD undef = undef := by
            by_cases hq : t - vs.size < fn.ntmps - vs.size
            · simp [hq]
            · simp [hq]
          rw [this]
          exact .tup #[] [] rfl fun i v d hv => by simp at hv
      · simp only [LL_nil]; exact HH
    have fin : ∀ (st1 : St) (a' : Act) (w' : World), finish ifn.res c' = some (r, st1) → st1 = st' → RelC X c' a' w' → a'.defers = [] ∧ ∃ v, (results fn a'.tmps).run P w' = .ok v w' ∧
        ∃ v' bl', Ending.returned v = .returned v' ∧ HRel w' L st' bl' ∧ Rep w' (NN L st' bl') st' bl' v' r ∧ Evo w st bl w' st' bl' := by
      intro st1 a' w' hfin hst R
      obtain ⟨bl', lb', C⟩ := R
      obtain ⟨e1, v, e2, e3⟩ := finish_run C h5 hfin
      subst hst; subst e1
      have E : Ext w' (NX X c' bl' lb') c'.2 bl' w' (NN L c'.2 bl') c'.2 bl' := ⟨fun b hb _ => ⟨rfl, fun g => hb (g.elim (fun g => .inl (.inl g)) .inr)⟩, Nat.le_refl _, fun _ _ => ⟨Nat.le_refl _, fun _ => ⟨rfl, .refl _ _⟩⟩, fun _ _ h => ⟨h, rfl⟩⟩
      refine ⟨C.defers, v, e2, v, bl', rfl, ⟨C.heap.inj, fun i hi g => C.heap.out i hi (.inl g), fun i hi => (C.heap.obj i hi).ext E (Nat.le_refl _) rfl⟩, e3.ext E (Nat.le_refl _), C.evo⟩
    refine sim_code (X := X) H k code ifn.code _ _ c' ex _ w h4 hrun ⟨_, _, C0⟩ fun a' w' R => ?_
    cases ex with
    | normal => exact fin st' a' w' h rfl R
    | ret => exact fin st' a' w' h rfl R
    | exit id => simp at h

end Go.Nt
