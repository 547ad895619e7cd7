/-
  THE ABSTRACT MACHINE IS SOUND, THE WHOLE: code, results, calls within calls.
  No condition: 'sound' asks that each function of the table is the program's ('FuncOK', a closed fact).
-/
import Derived.Test.YtpfdoelhoiohdaaNtSound
import Derived.KernelRfl
import Derived.IntWalk
namespace Go.Nt

variable {P : Program} {X : Cx} {c : Cfg} {bl : Bl} {lb : Nat → Nat} {a : Act} {w : World}

def codeOK (P : Program) (n : Nat) : Code → Ic → Bool
  | .skip, .skip => true
  | .label _, .skip => true
  | .ret, .ret => true
  | .region _ ops draw, .ops gs => gisOK P n ops.toList ops.toList gs && (!draw || drawOK P ops.toList gs)
  | .seq x y, .seq a b => codeOK P n x a && codeOK P n y b
  | .cond x y z, .cond u a b => opdOK x u && (codeOK P n y a && codeOK P n z b)
  | .block id x, .block id' a => id == id' && codeOK P n x a
  | .loop x, .loop a => codeOK P n x a
  | .exit id, .exit id' => id == id'
  | _, _ => false

def exitOf : Ex → Exit
  | .normal => .normal
  | .ret => .ret
  | .exit id => .exit id

theorem wp_loop_nat {P : Program} {Q : Exit → Act → World → Prop} {c : Code} (I : Nat → Act → World → Prop) (round : ∀ n a w, I n a w → c.wp P (Exit.then (fun a' w' => ∃ m, m < n ∧ I m a' w') Q) a w) {n : Nat} {a : Act} {w : World} (h : I n a w) : (Code.loop c).wp P Q a w := by
  intro b k cs
  have key : ∀ n a w, I n a w → ∃ e a' w', Q e a' w' ∧ Arrives P (lone (b.at a (.code c :: .inLoop c :: k)) cs w) b k cs e a' w' := by
    intro n
    induction n using Nat.strongRecOn with
    | _ n ih =>
      intro a w hI
      obtain ⟨e, a1, w1, hq, harr⟩ := round n a w hI b (.inLoop c :: k) cs
      cases e with
      | normal =>
        obtain ⟨m, hm, hI1⟩ := hq
        obtain ⟨e2, a2, w2, hq2, harr2⟩ := ih m hm a1 w1 hI1
        exact ⟨e2, a2, w2, hq2, .of_steps (Steps.trans harr (.one step_inLoop)) harr2⟩
      | exit id => exact ⟨_, a1, w1, hq, .pass (x := .inLoop c) rfl (fun _ _ => .inl (by simp)) harr⟩
      | goto l => exact ⟨_, a1, w1, hq, .pass (x := .inLoop c) rfl (fun _ _ => .inl (by simp)) harr⟩
      | ret => exact ⟨_, a1, w1, hq, .pass (x := .inLoop c) rfl (fun _ _ => .inl (by simp)) harr⟩
      | panic ch => exact ⟨_, a1, w1, hq, .pass (x := .inLoop c) rfl (fun _ _ => .inl (by simp)) harr⟩
      | outgrown => exact ⟨_, a1, w1, hq, .pass (x := .inLoop c) rfl (fun _ _ => .inl (by simp)) harr⟩
  obtain ⟨e, a', w', hq, harr⟩ := key n a w h
  exact ⟨e, a', w', hq, .of_steps (.one step_loop) harr⟩

theorem zip_map {α : Type} (gs : List α) : ((List.range gs.length).zip gs).map (·.2) = gs ∧ ((List.range gs.length).zip gs).map (·.1) = List.range gs.length := by
  constructor
  · exact List.map_snd_zip (by simp)
  · exact List.map_fst_zip (by simp)

theorem sim_code {T : Nat → Option IFunc} {go : GoF} (H : Tab P T go) (fuel : Nat) : ∀ (code : Code) (ic : Ic) (Q : Exit → Act → World → Prop) (c c' : Cfg) (ex : Ex) (a : Act) (w : World), codeOK P X.n code ic = true → run T go fuel ic c = some (ex, c') → RelC X c a w →
    (∀ a' w', RelC X c' a' w' → Q (exitOf ex) a' w') → code.wp P Q a w := by
  intro code
  induction code with
  | skip =>
    intro ic Q c c' ex a w hok hr R hQ
    cases ic <;> simp only [codeOK] at hok <;> first | contradiction | skip
    simp only [run, Option.some.injEq, Prod.mk.injEq] at hr
    obtain ⟨rfl, rfl⟩ := hr
    exact wp_skip (hQ a w R)
  | label l =>
    intro ic Q c c' ex a w hok hr R hQ
    cases ic <;> simp only [codeOK] at hok <;> first | contradiction | skip
    simp only [run, Option.some.injEq, Prod.mk.injEq] at hr
    obtain ⟨rfl, rfl⟩ := hr
    exact wp_label (hQ a w R)
  | ret =>
    intro ic Q c c' ex a w hok hr R hQ
    cases ic <;> simp only [codeOK] at hok <;> first | contradiction | skip
    simp only [run, Option.some.injEq, Prod.mk.injEq] at hr
    obtain ⟨rfl, rfl⟩ := hr
    exact wp_ret (hQ a w R)
  | exit id =>
    intro ic Q c c' ex a w hok hr R hQ
    cases ic <;> simp only [codeOK] at hok <;> first | contradiction | skip
    simp at hok; subst hok
    simp only [run, Option.some.injEq, Prod.mk.injEq] at hr
    obtain ⟨rfl, rfl⟩ := hr
    exact wp_exit (hQ a w R)
  | region id ops draw =>
    intro ic Q c c' ex a w hok hr R hQ
    cases ic <;> simp only [codeOK] at hok <;> first | contradiction | skip
    rename_i gs
    simp only [Bool.and_eq_true, Bool.or_eq_true, Bool.not_eq_true'] at hok
    simp only [run] at hr
    obtain ⟨c1, h1, h2⟩ := bind_some hr
    simp only [Option.some.injEq, Prod.mk.injEq] at h2
    obtain ⟨rfl, rfl⟩ := h2
    obtain ⟨hlen, hgi⟩ := gisOK_get hok.1
    obtain ⟨z1, z2⟩ := zip_map gs
    cases draw with
    | false =>
      refine wp_region ?_
      have := sim_seq H (ops := ops) (Q := Q) (c' := c1) (fun a' w' R' => hQ a' w' R') ((List.range gs.length).zip gs) c a w (fun x hx => by
        obtain ⟨k, hk⟩ := List.getElem?_of_mem hx
        obtain ⟨e1, e2⟩ := zip_range gs k x hk
        have hlt : k < ops.size := by
          have := (List.getElem?_eq_some_iff.1 e2).1
          simp at hlen; omega
        obtain ⟨g, hg1, hg2⟩ := hgi k ops[k] (by simp [hlt])
        rw [hg1] at e2
        simp at e2
        rw [e1]
        exact ⟨ops[k], by simp [hlt], by rw [← e2]; exact hg2⟩) (by rw [z1]; exact h1) R
      rw [z2] at this
      rw [show ops.size = gs.length by simpa using hlen]
      exact this
    | true =>
      have hd := hok.2.resolve_left (by simp)
      obtain ⟨bl, lb, C⟩ := R
      have C' : CR X c bl lb a { w with drawn := w.drawn + 1 } := C.grown rfl rfl rfl (Nat.le_refl _) (fun _ _ => rfl)
      have hrem : rem (Array.replicate ops.size false) ((List.range gs.length).zip gs) = (List.range gs.length).zip gs := by
        unfold rem
        rw [List.filter_eq_self]
        intro x hx
        obtain ⟨k, hk⟩ := List.getElem?_of_mem hx
        obtain ⟨e1, e2⟩ := zip_range gs k x hk
        have hlt : k < ops.size := by
          have := (List.getElem?_eq_some_iff.1 e2).1
          simp at hlen; omega
        rw [e1]
        simp [hlt]
      refine wp_region_any (by simp only [drawOK, Bool.and_eq_true] at hd; exact hd.1) (sim_draw H hok.1 hd (fun a' w' R' => hQ a' w' R') ops.size _ c a _ (by simp) ?_ ?_ ?_ ⟨bl, lb, C'⟩)
      · rw [hrem]; simp at hlen ⊢; omega
      · intro i o ho hl
        rw [Array.getD_eq_getD_getElem?] at hl
        by_cases hi : i < ops.size
        · simp [hi] at hl
        · simp [hi] at hl
      · rw [hrem, z1]; exact h1
  | seq x y ihx ihy =>
    intro ic Q c c' ex a w hok hr R hQ
    cases ic <;> simp only [codeOK] at hok <;> first | contradiction | skip
    simp only [Bool.and_eq_true] at hok
    simp only [run] at hr
    obtain ⟨⟨e1, c1⟩, h1, h2⟩ := bind_some hr
    refine wp_seq (ihx _ _ c c1 e1 a w hok.1 h1 R fun a' w' R' => ?_)
    cases e1 with
    | normal => exact ihy _ _ c1 c' ex a' w' hok.2 h2 R' hQ
    | ret => simp only [Option.some.injEq, Prod.mk.injEq] at h2; obtain ⟨rfl, rfl⟩ := h2; exact hQ a' w' R'
    | exit id => simp only [Option.some.injEq, Prod.mk.injEq] at h2; obtain ⟨rfl, rfl⟩ := h2; exact hQ a' w' R'
  | cond x y z ihy ihz =>
    intro ic Q c c' ex a w hok hr R hQ
    cases ic <;> simp only [codeOK] at hok <;> first | contradiction | skip
    simp only [Bool.and_eq_true] at hok
    simp only [run] at hr
    split at hr
    · rename_i t ht
      obtain ⟨bl, lb, C⟩ := R
      refine wp_cond (sr_bool C hok.1 ht) ?_
      cases t with
      | true => simp only [if_true] at hr ⊢; exact ihy _ _ c c' ex a w hok.2.1 hr ⟨bl, lb, C⟩ hQ
      | false => simp only [Bool.false_eq_true, if_false] at hr ⊢; exact ihz _ _ c c' ex a w hok.2.2 hr ⟨bl, lb, C⟩ hQ
    · simp at hr
  | block id x ih =>
    intro ic Q c c' ex a w hok hr R hQ
    cases ic <;> simp only [codeOK] at hok <;> first | contradiction | skip
    simp only [Bool.and_eq_true, beq_iff_eq] at hok
    obtain ⟨rfl, hok⟩ := hok
    simp only [run] at hr
    obtain ⟨⟨e1, c1⟩, h1, h2⟩ := bind_some hr
    refine wp_block (ih _ _ c c1 e1 a w hok h1 R fun a' w' R' => ?_)
    cases e1 with
    | normal => simp only [Option.some.injEq, Prod.mk.injEq] at h2; obtain ⟨rfl, rfl⟩ := h2; exact hQ a' w' R'
    | ret => simp only [Option.some.injEq, Prod.mk.injEq] at h2; obtain ⟨rfl, rfl⟩ := h2; exact hQ a' w' R'
    | exit id' =>
      simp only [Option.some.injEq, Prod.mk.injEq] at h2
      obtain ⟨rfl, rfl⟩ := h2
      simp only [exitOf, Exit.inBlock]
      split
      · rename_i he; have := hQ a' w' R'; simpa [he, exitOf] using this
      · rename_i he; have := hQ a' w' R'; simpa [he, exitOf] using this
  | loop x ih =>
    intro ic Q c c' ex a w hok hr R hQ
    cases ic <;> simp only [codeOK] at hok <;> first | contradiction | skip
    rename_i ib
    simp only [run] at hr
    refine wp_loop_nat (fun n a w => ∃ c0, iter (run T go fuel ib) n c0 = some (ex, c') ∧ RelC X c0 a w) (fun n a w hI => ?_) (n := fuel) ⟨c, hr, R⟩
    obtain ⟨c0, hi, R0⟩ := hI
    cases n with
    | zero => simp [iter] at hi
    | succ n =>
      simp only [iter] at hi
      obtain ⟨⟨e1, c1⟩, h1, h2⟩ := bind_some hi
      refine ih _ _ c0 c1 e1 a w hok h1 R0 fun a' w' R' => ?_
      cases e1 with
      | normal => exact ⟨n, Nat.lt_succ_self _, c1, h2, R'⟩
      | ret => simp only [Option.some.injEq, Prod.mk.injEq] at h2; obtain ⟨rfl, rfl⟩ := h2; exact hQ a' w' R'
      | exit id => simp only [Option.some.injEq, Prod.mk.injEq] at h2; obtain ⟨rfl, rfl⟩ := h2; exact hQ a' w' R'
  | _ => intro ic Q c c' ex a w hok; cases ic <;> simp [codeOK] at hok

/-! ### Results -/

def resOK (P : Program) : List ResultVar → List Rv → Bool
  | [], [] => true
  | .tmp t :: rs, .t n :: ss => t == n && resOK P rs ss
  | .cell x t :: rs, .cell n sz _ :: ss => x == n && (shapeOK P t sz && resOK P rs ss)
  | _, _ => false

theorem res_run (C : CR X c bl lb a w) : ∀ {rs : List ResultVar} {ss : List Rv} {ds : List D}, resOK P rs ss = true → resL c ss = some ds → ∃ vs : List Value, (rs.mapM fun r => (match r with
      | .tmp t => pure (a.tmps.getD t undef)
      | .cell x t => do loadVar t (← asAddr (a.tmps.getD x undef)) : Sem Value)).run P w = .ok vs w ∧ vs.length = ds.length ∧ ∀ (i : Nat) (v : Value) (d : D), vs[i]? = some v → ds[i]? = some d → RR X c bl lb w v d
  | [], [], ds, _, h => by
    simp only [resL, Option.some.injEq] at h
    subst h
    exact ⟨[], rfl, rfl, fun i v d hv => by simp at hv⟩
  | [], _ :: _, _, h, _ => by simp [resOK] at h
  | .tmp _ :: _, [], _, h, _ => by simp [resOK] at h
  | .cell _ _ :: _, [], _, h, _ => by simp [resOK] at h
  | .tmp t :: rs, .cell _ _ _ :: ss, _, h, _ => by simp [resOK] at h
  | .cell _ _ :: rs, .t _ :: ss, _, h, _ => by simp [resOK] at h
  | .tmp t :: rs, .t n :: ss, ds, h, hr => by
    simp only [resOK, Bool.and_eq_true, beq_iff_eq] at h
    obtain ⟨rfl, h⟩ := h
    simp only [resL] at hr
    obtain ⟨d, h1, hr⟩ := bind_some hr
    obtain ⟨ds', h2, hr⟩ := bind_some hr
    simp only [Option.some.injEq] at hr
    subst hr
    obtain ⟨vs, k1, k2, k3⟩ := res_run C h h2
    simp only [resD] at h1
    obtain ⟨hok, h1⟩ := ite_some h1
    simp only [Option.some.injEq] at h1
    subst h1
    refine ⟨a.tmps.getD t undef :: vs, ?_, by simp [k2], fun i v d hv hd => ?_⟩
    · rw [List.mapM_cons]; simp only [Sem.run_bind, Sem.run_pure, Result.andThen_ok, k1]
    · cases i with
      | zero => simp only [List.getElem?_cons_zero, Option.some.injEq] at hv hd; subst hv; subst hd; exact (C.slots t).okv hok
      | succ i => exact k3 i v d (by simpa using hv) (by simpa using hd)
  | .cell x t :: rs, .cell n sz l :: ss, ds, h, hr => by
    simp only [resOK, Bool.and_eq_true, beq_iff_eq] at h
    obtain ⟨rfl, hs, h⟩ := h
    simp only [resL] at hr
    obtain ⟨d, h1, hr⟩ := bind_some hr
    obtain ⟨ds', h2, hr⟩ := bind_some hr
    simp only [Option.some.injEq] at hr
    subst hr
    obtain ⟨vs, k1, k2, k3⟩ := res_run C h h2
    simp only [resD] at h1
    obtain ⟨b, o, u, e1, e2, e3⟩ := load_rep (P := P) C (C.slots x) h1
    refine ⟨u :: vs, ?_, by simp [k2], fun i v d hv hd => ?_⟩
    · have ha : asAddr (a.tmps.getD x undef) = pure ⟨b, o, none⟩ := by rw [e1]; rfl
      rw [List.mapM_cons]; simp only [Sem.run_bind, ha, Sem.run_pure, Result.andThen_ok, e2 t hs, k1]
    · cases i with
      | zero => simp only [List.getElem?_cons_zero, Option.some.injEq] at hv hd; subst hv; subst hd; exact e3
      | succ i => exact k3 i v d (by simpa using hv) (by simpa using hd)

theorem finish_run (C : CR X c bl lb a w) {fn : Func} {res : List Rv} {r : D} {st : St} (h : resOK P fn.results.toList res = true) (hf : finish res c = some (r, st)) :
    st = c.2 ∧ ∃ v, (results fn a.tmps).run P w = .ok v w ∧ RR X c bl lb w v r := by
  unfold finish at hf
  obtain ⟨ds, h1, h2⟩ := bind_some hf
  obtain ⟨vs, k1, k2, k3⟩ := res_run C h h1
  have hrun : (fn.results.mapM fun r => (match r with
      | .tmp t => pure (a.tmps.getD t undef)
      | .cell x t => do loadVar t (← asAddr (a.tmps.getD x undef)) : Sem Value)).run P w = .ok vs.toArray w := by
    rw [Array.mapM_eq_mapM_toList]
    simp only [Sem.run_map, k1, Result.andThen_ok]
  have hres : (results fn a.tmps).run P w = .ok (if h : vs.toArray.size = 1 then vs.toArray[0] else .tuple vs.toArray) w := by
    unfold results
    rw [Sem.run_bind]
    refine Eq.trans (congrArg (fun r => Result.andThen r _) hrun) ?_
    rfl
  split at h2
  · rename_i d
    simp only [Option.some.injEq, Prod.mk.injEq] at h2
    obtain ⟨rfl, rfl⟩ := h2
    obtain ⟨v, rfl⟩ : ∃ v, vs = [v] := by
      cases vs with
      | nil => simp at k2
      | cons v vs => cases vs with
        | nil => exact ⟨v, rfl⟩
        | cons _ _ => simp at k2
    exact ⟨rfl, v, by rw [hres]; simp, k3 0 v d rfl rfl⟩
  · rename_i hne
    simp only [Option.some.injEq, Prod.mk.injEq] at h2
    obtain ⟨rfl, rfl⟩ := h2
    have hn : ¬ vs.toArray.size = 1 := by
      intro q
      simp only [List.size_toArray] at q
      cases ds with
      | nil => rw [q] at k2; simp at k2
      | cons d ds => cases ds with
        | nil => exact hne d rfl
        | cons _ _ => rw [q] at k2; simp at k2
    exact ⟨rfl, .tuple vs.toArray, by rw [hres, dif_neg hn], .tup _ _ (by simpa using k2) fun i v d hv hd => k3 i v d (by simpa using hv) hd⟩

/-! ### The whole -/

def CodeF (P : Program) (f : Nat) (ifn : IFunc) : Prop := ∃ fn code, P.funcs[f]? = some fn ∧ fn.body = some code ∧ (fn.name == "runtime.NumGoroutine") = false ∧ codeOK P fn.ntmps code ifn.code = true ∧ resOK P fn.results.toList ifn.res = true

/-- A function of the library whose text is not walked: what the table says of it is its contract. -/
def PrimF (P : Program) (f : Nat) (ifn : IFunc) : Prop := Known P f ∧ ∃ k, ifn.code = .prim k ∧ ∀ args st ds st1 r st', primD k args st = some (ds, st1) → finish ifn.res (⟨ds, []⟩, st1) = some (r, st') → CallOK P f args st r st'

def FuncOK (P : Program) (f : Nat) (ifn : IFunc) : Prop := CodeF P f ifn ∨ PrimF P f ifn

theorem FuncOK.known {f : Nat} {ifn : IFunc} (h : FuncOK P f ifn) : Known P f := by
  rcases h with ⟨fn, code, h1, h2, h3, _⟩ | ⟨h, _⟩
  · exact ⟨fn, code, h1, h2, h3⟩
  · exact h

theorem LL_nil (X : Cx) (lb : Nat → Nat) : X.LL [] lb = X.L := by
  funext b
  simp only [Cx.LL, OwnB, getB, List.getD_nil, ne_eq, not_true_eq_false, false_and, exists_false, or_false]

theorem sound {T : Nat → Option IFunc} (hT : ∀ f ifn, T f = some ifn → FuncOK P f ifn) : ∀ (k f : Nat) (args : List D) (st : St) (r : D) (st' : St), evT T k f args st = some (r, st') → CallOK P f args st r st' := by
  intro k
  induction k with
  | zero => intro f args st r st' h; simp [evT] at h
  | succ k ih =>
    intro f args st r st' h
    simp only [evT] at h
    obtain ⟨ifn, hf, h⟩ := bind_some h
    obtain ⟨⟨ex, c'⟩, hrun, h⟩ := bind_some h
    rcases hT f ifn hf with ⟨fn, code, h1, h2, h3, h4, h5⟩ | ⟨_, kp, hk, hp⟩
    case inr =>
      rw [hk] at hrun
      simp only [run] at hrun
      obtain ⟨⟨ds, st1⟩, hd, e⟩ := Option.map_eq_some_iff.1 hrun
      cases e
      exact hp args st ds st1 r st' hd h
    have H : Tab P T (evT T k) := ⟨fun g hg => by
      obtain ⟨ign, hg⟩ := Option.isSome_iff_exists.1 hg
      exact (hT g ign hg).known, fun g args st r st' hg _ => ih g args st r st' hg⟩
    intro w L bl vs HH hL hl hr
    refine calls_of_wp h1 h2 ?_
    let X : Cx := ⟨L, w, st, bl, fn.ntmps⟩
    have hsz0 : fn.ntmps ≤ (vs ++ Array.replicate (fn.ntmps - vs.size) undef).size := by
      rw [Array.size_append, Array.size_replicate]; omega
    have C0 : CR X ({ s := args, b := [] }, st) bl (fun _ => 0) { tmps := vs ++ Array.replicate (fn.ntmps - vs.size) undef, defers := [] } w := by
      refine ⟨hL, rfl, hsz0, fun t => ?_, fun x hx => by simp [getB] at hx, fun x y hx => by simp [getB] at hx, ?_, .refl _ _ _⟩
      · simp only [LL_nil]
        refine Rep.slot _ _ ?_
        simp only [get, List.getD_eq_getElem?_getD, Array.getD_eq_getD_getElem?]
        by_cases ht : t < vs.size
        · rw [Array.getElem?_append_left ht]
          have ht' : t < args.length := by omega
          rw [Array.getElem?_eq_getElem ht, List.getElem?_eq_getElem ht']
          exact hr t _ _ (Array.getElem?_eq_getElem ht) (List.getElem?_eq_getElem ht')
        · rw [Array.getElem?_append_right (by omega), List.getElem?_eq_none (by omega)]
          have : ((Array.replicate (fn.ntmps - vs.size) undef)[t - vs.size]?).getD undef = undef := by
            by_cases hq : t - vs.size < fn.ntmps - vs.size
            · simp [hq]
            · simp [hq]
          rw [this]
          exact .tup #[] [] rfl fun i v d hv => by simp at hv
      · simp only [LL_nil]; exact HH
    have fin : ∀ (st1 : St) (a' : Act) (w' : World), finish ifn.res c' = some (r, st1) → st1 = st' → RelC X c' a' w' → a'.defers = [] ∧ ∃ v, (results fn a'.tmps).run P w' = .ok v w' ∧
        ∃ v' bl', Ending.returned v = .returned v' ∧ HRel w' L st' bl' ∧ Rep w' (NN L st' bl') st' bl' v' r ∧ Evo w st bl w' st' bl' := by
      intro st1 a' w' hfin hst R
      obtain ⟨bl', lb', C⟩ := R
      obtain ⟨e1, v, e2, e3⟩ := finish_run C h5 hfin
      subst hst; subst e1
      have E : Ext w' (NX X c' bl' lb') c'.2 bl' w' (NN L c'.2 bl') c'.2 bl' := ⟨fun b hb _ => ⟨rfl, fun g => hb (g.elim (fun g => .inl (.inl g)) .inr)⟩, Nat.le_refl _, fun _ _ => ⟨Nat.le_refl _, fun _ => ⟨rfl, .refl _ _⟩⟩, fun _ _ h => ⟨h, rfl⟩⟩
      refine ⟨C.defers, v, e2, v, bl', rfl, ⟨C.heap.inj, fun i hi g => C.heap.out i hi (.inl g), fun i hi => (C.heap.obj i hi).ext E (Nat.le_refl _) rfl⟩, e3.ext E (Nat.le_refl _), C.evo⟩
    refine sim_code (X := X) H k code ifn.code _ _ c' ex _ w h4 hrun ⟨_, _, C0⟩ fun a' w' R => ?_
    cases ex with
    | normal => exact fin st' a' w' h rfl R
    | ret => exact fin st' a' w' h rfl R
    | exit id => simp at h

end Go.Nt

/-
  A FUNCTION OF THE PROGRAM AND ITS ANNOTATED FORM, as one truth for the kernel.
  No condition.
-/
namespace Go.Nt

def okB (P : Program) (f : Nat) (ifn : IFunc) : Bool :=
  match P.funcs[f]? with
  | none => false
  | some fn => match fn.body with
    | none => false
    | some code => !(fn.name == "runtime.NumGoroutine") && (codeOK P fn.ntmps code ifn.code && resOK P fn.results.toList ifn.res)

theorem okB_ok {P : Program} {f : Nat} {ifn : IFunc} (h : okB P f ifn = true) : FuncOK P f ifn := by
  unfold okB at h
  split at h
  · simp at h
  · next fn h1 =>
    split at h
    · simp at h
    · next code h2 =>
      simp only [Bool.and_eq_true, Bool.not_eq_true'] at h
      exact .inl ⟨fn, code, h1, h2, h.1, h.2.1, h.2.2⟩

abbrev g0 (io : Io) : Gi := ⟨none, io⟩
abbrev g1 (s : Nat) (w : Bool) (io : Io) : Gi := ⟨some (s, w), io⟩

end Go.Nt

/-
  THE ABSTRACT MACHINE WITHOUT FUEL: 'ev' (what a function does), 'lp' (what a loop does), 'rn' (what code does, given these), and their equations.
  No condition.
-/
namespace Go.Nt

def Le {α : Type} (a b : Option α) : Prop := ∀ r, a = some r → b = some r

theorem Le.rfl {α : Type} {a : Option α} : Le a a := fun _ h => h
theorem Le.none {α : Type} {a : Option α} : Le none a := fun _ h => by cases h
theorem Le.trans {α : Type} {a b c : Option α} (h : Le a b) (k : Le b c) : Le a c := fun r e => k r (h r e)

theorem Le.bind {α β : Type} {a a' : Option α} {f f' : α → Option β} (h : Le a a') (g : ∀ x, Le (f x) (f' x)) : Le (a.bind f) (a'.bind f') := by
  intro r e
  cases a with
  | none => cases e
  | some x => rw [h x (Eq.refl _)]; exact g x r e

theorem Le.map {α β : Type} {a a' : Option α} {f : α → β} (h : Le a a') : Le (a.map f) (a'.map f) := by
  intro r e
  cases a with
  | none => cases e
  | some x => rw [h x (Eq.refl _)]; exact e

def GoLe (go go' : GoF) : Prop := ∀ f args st, Le (go f args st) (go' f args st)

variable {T : Nat → Option IFunc} {go go' : GoF}

theorem callD_le (h : GoLe go go') (f : Nat) (args : List D) (st : St) : Le (callD T go f args st) (callD T go' f args st) := by
  unfold callD
  split
  · exact .rfl
  · split
    · exact .bind .rfl fun a => .bind (h f a.1 []) fun r => .rfl
    · split
      · exact .bind (h f args st) fun r => .rfl
      · exact .rfl
    · split
      · exact .bind (h f args st) fun r => .rfl
      · exact .rfl
    · split
      · exact h f args st
      · exact .rfl
    · split
      · exact .bind (h f args st) fun r => .rfl
      · exact .rfl

theorem callQD_le (h : GoLe go go') (f : Nat) (args : List D) : Le (callQD T go f args) (callQD T go' f args) := by
  unfold callQD
  split
  · exact .rfl
  · split
    · split
      · exact .bind (h f args []) fun r => .rfl
      · exact .rfl
    · exact .rfl

theorem actO_le (h : GoLe go go') (rd : Opd → D) (rb : Nat → Nat × List D) (st : St) (io : Io) : Le (actO T go rd rb st io) (actO T go' rd rb st io) := by
  cases io with
  | call d f xs => exact .bind (callD_le h f _ st) fun r => .rfl
  | callQ d f xs => exact .bind (callQD_le h f _) fun r => .rfl
  | callV d f xs =>
    simp only [actO]
    split
    · exact .bind (callD_le h _ _ st) fun r => .rfl
    · exact .rfl
  | _ => exact .rfl

theorem step_le (h : GoLe go go') (c : Cfg) (o : Gi) : Le (step T go c o) (step T go' c o) := by
  unfold step
  split
  · exact .map (actO_le h _ _ _ _)
  · exact .rfl

theorem runOps_le (h : GoLe go go') : ∀ (l : List Gi) (c : Cfg), Le (runOps T go l c) (runOps T go' l c)
  | [], _ => .rfl
  | o :: os, c => .bind (step_le h c o) fun c' => runOps_le h os c'

theorem iter_le {f f' : Cfg → Option (Ex × Cfg)} (h : ∀ c, Le (f c) (f' c)) : ∀ (n m : Nat), n ≤ m → ∀ c, Le (iter f n c) (iter f' m c)
  | 0, _, _, _ => .none
  | n + 1, 0, h, _ => absurd h (by omega)
  | n + 1, m + 1, hn, c => by
    refine .bind (h c) fun r => ?_
    split
    · exact iter_le h n m (by omega) r.2
    · exact .rfl

theorem run_le (h : GoLe go go') {n m : Nat} (hn : n ≤ m) : ∀ (code : Ic) (c : Cfg), Le (run T go n code c) (run T go' m code c)
  | .skip, _ => .rfl
  | .ops l, c => .bind (runOps_le h l c) fun _ => .rfl
  | .seq a b, c => .bind (run_le h hn a c) fun r => by
      split
      · exact run_le h hn b r.2
      · exact .rfl
  | .cond x a b, c => by
      simp only [run]
      split
      · split
        · exact run_le h hn a c
        · exact run_le h hn b c
      · exact .rfl
  | .block id a, c => .bind (run_le h hn a c) fun r => .rfl
  | .loop a, c => iter_le (fun c => run_le h hn a c) n m hn c
  | .exit _, _ => .rfl
  | .ret, _ => .rfl
  | .prim _, _ => .rfl

theorem evT_le {n m : Nat} (hn : n ≤ m) : GoLe (evT T n) (evT T m) := by
  induction n generalizing m with
  | zero => exact fun f args st => .none
  | succ n ih =>
    obtain ⟨m, rfl⟩ : ∃ k, m = k + 1 := ⟨m - 1, by omega⟩
    intro f args st
    exact .bind .rfl fun fn => .bind (run_le (ih (by omega)) (by omega) _ _) fun r => .rfl

/-! ### Limits -/

open Classical in
noncomputable def lim {α : Type} (F : Nat → Option α) : Option α := if h : ∃ k r, F k = some r then some (Classical.choose (Classical.choose_spec h)) else none

def Mono {α : Type} (F : Nat → Option α) : Prop := ∀ n m, n ≤ m → Le (F n) (F m)

theorem lim_iff {α : Type} {F : Nat → Option α} (hF : Mono F) (r : α) : lim F = some r ↔ ∃ k, F k = some r := by
  unfold lim
  constructor
  · intro h
    split at h
    · next g => exact ⟨_, by rw [Classical.choose_spec (Classical.choose_spec g)]; exact h⟩
    · cases h
  · rintro ⟨k, h⟩
    have g : ∃ k r, F k = some r := ⟨k, r, h⟩
    rw [dif_pos g]
    have e := Classical.choose_spec (Classical.choose_spec g)
    rcases Nat.le_total k (Classical.choose g) with q | q
    · have := hF _ _ q r h; rw [e] at this; exact this
    · have := hF _ _ q _ e; rw [h] at this; exact this.symm

theorem lim_eq {α : Type} {F : Nat → Option α} (hF : Mono F) {x : Option α} (h : ∀ k, Le (F k) x) (h' : ∀ r, x = some r → ∃ k, F k = some r) : lim F = x := by
  cases e : lim F with
  | some r => obtain ⟨k, hk⟩ := (lim_iff hF r).1 e; exact (h k r hk).symm
  | none =>
    cases e' : x with
    | none => rfl
    | some r => rw [(lim_iff hF r).2 (h' r e')] at e; cases e

theorem lim_le {α : Type} {F : Nat → Option α} (hF : Mono F) (k : Nat) : Le (F k) (lim F) := fun r h => (lim_iff hF r).2 ⟨k, h⟩

/-- What a function does. -/
noncomputable def ev (T : Nat → Option IFunc) : GoF := fun f args st => lim fun k => evT T k f args st
/-- What a loop does. -/
noncomputable def lp (T : Nat → Option IFunc) (a : Ic) (c : Cfg) : Option (Ex × Cfg) := lim fun k => iter (run T (evT T k) k a) k c

def kseq (k : Cfg → Option (Ex × Cfg)) : Option (Ex × Cfg) → Option (Ex × Cfg)
  | some (.normal, c) => k c
  | r => r
def kblock (id : Nat) : Option (Ex × Cfg) → Option (Ex × Cfg)
  | some (.exit id', c) => some (if id' = id then .normal else .exit id', c)
  | r => r

/-- What code does, given calls and loops. -/
def rn (T : Nat → Option IFunc) (go : GoF) (lp : Ic → Cfg → Option (Ex × Cfg)) : Ic → Cfg → Option (Ex × Cfg)
  | .skip, c => some (.normal, c)
  | .ops l, c => (runOps T go l c).map fun c' => (.normal, c')
  | .seq a b, c => kseq (rn T go lp b) (rn T go lp a c)
  | .cond x a b, c => match x.ev c.1.s with
    | .bool t => if t then rn T go lp a c else rn T go lp b c
    | _ => none
  | .block id a, c => kblock id (rn T go lp a c)
  | .loop a, c => lp a c
  | .exit id, c => some (.exit id, c)
  | .ret, c => some (.ret, c)
  | .prim k, c => (primD k c.1.s c.2).map fun r => (.normal, (⟨r.1, c.1.b⟩, r.2))

theorem ev_mono (f : Nat) (args : List D) (st : St) : Mono fun k => evT T k f args st := fun _ _ h => evT_le h f args st
theorem run_mono (code : Ic) (c : Cfg) : Mono fun k => run T (evT T k) k code c := fun _ _ h => run_le (evT_le h) h code c
theorem lp_mono (a : Ic) (c : Cfg) : Mono fun k => iter (run T (evT T k) k a) k c := fun n m h => iter_le (fun c => run_le (evT_le h) h a c) n m h c
theorem ops_mono (l : List Gi) (c : Cfg) : Mono fun k => runOps T (evT T k) l c := fun _ _ h => runOps_le (evT_le h) l c

theorem evT_ev (k : Nat) : GoLe (evT T k) (ev T) := fun f args st => lim_le (ev_mono f args st) k

theorem callD_ev {f : Nat} {args : List D} {st : St} {r : D × St} (h : callD T (ev T) f args st = some r) : ∃ k, callD T (evT T k) f args st = some r := by
  revert h
  unfold callD
  split
  · intro h; cases h
  · split
    · intro h
      obtain ⟨a, h1, h⟩ := Option.bind_eq_some_iff.1 h
      obtain ⟨q, h2, h⟩ := Option.bind_eq_some_iff.1 h
      obtain ⟨k, hk⟩ := (lim_iff (ev_mono _ _ _) q).1 h2
      exact ⟨k, by rw [h1, Option.bind_some, hk]; exact h⟩
    · split
      · intro h
        obtain ⟨q, h2, h⟩ := Option.bind_eq_some_iff.1 h
        obtain ⟨k, hk⟩ := (lim_iff (ev_mono _ _ _) q).1 h2
        exact ⟨k, by rw [hk]; exact h⟩
      · intro h; cases h
    · split
      · intro h
        obtain ⟨q, h2, h⟩ := Option.bind_eq_some_iff.1 h
        obtain ⟨k, hk⟩ := (lim_iff (ev_mono _ _ _) q).1 h2
        exact ⟨k, by rw [hk]; exact h⟩
      · intro h; cases h
    · split
      · intro h; exact (lim_iff (ev_mono _ _ _) r).1 h
      · intro h; cases h
    · split
      · intro h
        obtain ⟨q, h2, h⟩ := Option.bind_eq_some_iff.1 h
        obtain ⟨k, hk⟩ := (lim_iff (ev_mono _ _ _) q).1 h2
        exact ⟨k, by rw [hk]; exact h⟩
      · intro h; cases h

theorem callQD_ev {f : Nat} {args : List D} {r : D} (h : callQD T (ev T) f args = some r) : ∃ k, callQD T (evT T k) f args = some r := by
  revert h
  unfold callQD
  split
  · intro h; cases h
  · split
    · split
      · intro h
        obtain ⟨q, h2, h⟩ := Option.bind_eq_some_iff.1 h
        obtain ⟨k, hk⟩ := (lim_iff (ev_mono _ _ _) q).1 h2
        exact ⟨k, by rw [hk]; exact h⟩
      · intro h; cases h
    · intro h; cases h

theorem actO_ev {rd : Opd → D} {rb : Nat → Nat × List D} {st : St} {io : Io} {e : Eff} (h : actO T (ev T) rd rb st io = some e) : ∃ k, actO T (evT T k) rd rb st io = some e := by
  cases io with
  | call d f xs =>
    obtain ⟨q, h2, h⟩ := Option.bind_eq_some_iff.1 h
    obtain ⟨k, hk⟩ := callD_ev h2
    exact ⟨k, by simp only [actO]; rw [hk]; exact h⟩
  | callQ d f xs =>
    obtain ⟨q, h2, h⟩ := Option.bind_eq_some_iff.1 h
    obtain ⟨k, hk⟩ := callQD_ev h2
    exact ⟨k, by simp only [actO]; rw [hk]; exact h⟩
  | callV d f xs =>
    simp only [actO] at h ⊢
    split at h
    · obtain ⟨q, h2, h⟩ := Option.bind_eq_some_iff.1 h
      obtain ⟨k, hk⟩ := callD_ev h2
      exact ⟨k, by rw [hk]; exact h⟩
    · cases h
  | _ => exact ⟨0, h⟩

theorem step_ev {c c' : Cfg} {o : Gi} (h : step T (ev T) c o = some c') : ∃ k, step T (evT T k) c o = some c' := by
  unfold step at h ⊢
  split at h
  · next hw =>
    obtain ⟨e, h1, h2⟩ := Option.map_eq_some_iff.1 h
    obtain ⟨k, hk⟩ := actO_ev h1
    exact ⟨k, by rw [if_pos hw, hk, Option.map_some, h2]⟩
  · next hw => exact ⟨0, by rw [if_neg hw]; exact h⟩

theorem runOps_ev : ∀ {l : List Gi} {c c' : Cfg}, runOps T (ev T) l c = some c' → ∃ k, runOps T (evT T k) l c = some c'
  | [], _, _, h => ⟨0, h⟩
  | o :: os, c, c', h => by
    obtain ⟨d, h1, h2⟩ := Option.bind_eq_some_iff.1 h
    obtain ⟨k, hk⟩ := step_ev h1
    obtain ⟨m, hm⟩ := runOps_ev h2
    refine ⟨max k m, ?_⟩
    rw [runOps, step_le (evT_le (Nat.le_max_left k m)) c o _ hk, Option.bind_some]
    exact runOps_le (evT_le (Nat.le_max_right k m)) os d _ hm

theorem runOps_lim (l : List Gi) (c : Cfg) : lim (fun k => runOps T (evT T k) l c) = runOps T (ev T) l c :=
  lim_eq (ops_mono l c) (fun k => runOps_le (evT_ev k) l c) fun _ h => runOps_ev h

/-- Code by fuel comes to what it comes to without. -/
theorem run_lim : ∀ (code : Ic) (c : Cfg), lim (fun k => run T (evT T k) k code c) = rn T (ev T) (lp T) code c
  | .skip, c => lim_eq (run_mono .skip c) (fun _ => .rfl) fun _ h => ⟨0, h⟩
  | .ops l, c => by
    refine lim_eq (run_mono (.ops l) c) (fun k r h => ?_) fun r h => ?_
    · obtain ⟨d, h1, h2⟩ := Option.bind_eq_some_iff.1 h
      simp only [rn, runOps_le (evT_ev k) l c d h1, Option.map_some]
      exact h2
    · obtain ⟨d, h1, h2⟩ := Option.map_eq_some_iff.1 h
      obtain ⟨k, hk⟩ := runOps_ev h1
      exact ⟨k, by simp only [run, hk, Option.bind_some, h2]⟩
  | .seq a b, c => by
    refine lim_eq (run_mono (.seq a b) c) (fun k r h => ?_) fun r h => ?_
    · obtain ⟨⟨e, d⟩, h1, h2⟩ := Option.bind_eq_some_iff.1 h
      have h1' : rn T (ev T) (lp T) a c = some (e, d) := by rw [← run_lim a c]; exact lim_le (run_mono a c) k _ h1
      simp only [rn, h1']
      cases e with
      | normal => rw [show kseq (rn T (ev T) (lp T) b) (some (Ex.normal, d)) = rn T (ev T) (lp T) b d from rfl, ← run_lim b d]; exact lim_le (run_mono b d) k _ h2
      | ret => exact h2
      | exit id => exact h2
    · simp only [rn] at h
      cases h1 : rn T (ev T) (lp T) a c with
      | none => rw [h1] at h; cases h
      | some q =>
        obtain ⟨e, d⟩ := q
        rw [h1] at h
        obtain ⟨k, hk⟩ := (lim_iff (run_mono a c) _).1 ((run_lim a c).trans h1)
        cases e with
        | normal =>
          obtain ⟨m, hm⟩ := (lim_iff (run_mono b d) _).1 ((run_lim b d).trans h)
          refine ⟨max k m, ?_⟩
          have q : run T (evT T (max k m)) (max k m) a c = some (Ex.normal, d) := run_mono a c _ _ (Nat.le_max_left k m) _ hk
          simp only [run]
          rw [q, Option.bind_some]
          exact run_mono b d _ _ (Nat.le_max_right k m) _ hm
        | ret => exact ⟨k, by simp only [run]; rw [hk]; exact h⟩
        | exit id => exact ⟨k, by simp only [run]; rw [hk]; exact h⟩
  | .cond x a b, c => by
    cases hx : x.ev c.1.s with
    | bool t =>
      cases t with
      | true =>
        have e : (fun k => run T (evT T k) k (.cond x a b) c) = fun k => run T (evT T k) k a c := by funext k; simp only [run, hx, if_true]
        rw [e, run_lim a c]; simp only [rn, hx, if_true]
      | false =>
        have e : (fun k => run T (evT T k) k (.cond x a b) c) = fun k => run T (evT T k) k b c := by funext k; simp only [run, hx, Bool.false_eq_true, if_false]
        rw [e, run_lim b c]; simp only [rn, hx, Bool.false_eq_true, if_false]
    | _ =>
      refine lim_eq (run_mono (.cond x a b) c) (fun k r h => ?_) fun r h => ?_
      · simp only [run, hx] at h; cases h
      · simp only [rn, hx] at h; cases h
  | .block id a, c => by
    refine lim_eq (run_mono (.block id a) c) (fun k r h => ?_) fun r h => ?_
    · obtain ⟨⟨e, d⟩, h1, h2⟩ := Option.bind_eq_some_iff.1 h
      have h1' : rn T (ev T) (lp T) a c = some (e, d) := by rw [← run_lim a c]; exact lim_le (run_mono a c) k _ h1
      simp only [rn, h1']
      cases e <;> exact h2
    · simp only [rn] at h
      cases h1 : rn T (ev T) (lp T) a c with
      | none => rw [h1] at h; cases h
      | some q =>
        obtain ⟨e, d⟩ := q
        rw [h1] at h
        obtain ⟨k, hk⟩ := (lim_iff (run_mono a c) _).1 ((run_lim a c).trans h1)
        refine ⟨k, ?_⟩
        simp only [run, hk, Option.bind_some]
        cases e <;> exact h
  | .loop a, c => rfl
  | .exit _, c => lim_eq (run_mono (.exit _) c) (fun _ => .rfl) fun _ h => ⟨0, h⟩
  | .ret, c => lim_eq (run_mono .ret c) (fun _ => .rfl) fun _ h => ⟨0, h⟩
  | .prim k, c => lim_eq (run_mono (.prim k) c) (fun _ => .rfl) fun _ h => ⟨0, h⟩

/-- A round of a loop, and what is behind it. -/
theorem lp_eq (a : Ic) (c : Cfg) : lp T a c = match rn T (ev T) (lp T) a c with
    | some (.normal, d) => lp T a d
    | r => r := by
  refine lim_eq (lp_mono a c) (fun k r h => ?_) fun r h => ?_
  · cases k with
    | zero => cases h
    | succ k =>
      obtain ⟨⟨e, d⟩, h1, h2⟩ := Option.bind_eq_some_iff.1 h
      have h1' : rn T (ev T) (lp T) a c = some (e, d) := by rw [← run_lim a c]; exact lim_le (run_mono a c) (k + 1) _ h1
      rw [h1']
      cases e with
      | normal =>
        refine lim_le (lp_mono a d) (k + 1) _ ?_
        exact iter_le (fun _ => .rfl) k (k + 1) (by omega) d _ h2
      | ret => exact h2
      | exit id => exact h2
  · cases h1 : rn T (ev T) (lp T) a c with
    | none => rw [h1] at h; cases h
    | some q =>
      obtain ⟨e, d⟩ := q
      rw [h1] at h
      obtain ⟨k, hk⟩ := (lim_iff (run_mono a c) _).1 ((run_lim a c).trans h1)
      cases e with
      | normal =>
        obtain ⟨m, hm⟩ := (lim_iff (lp_mono a d) _).1 h
        refine ⟨max k m + 1, ?_⟩
        have q : run T (evT T (max k m + 1)) (max k m + 1) a c = some (Ex.normal, d) := run_mono a c k (max k m + 1) (by omega) _ hk
        simp only [iter]
        rw [q, Option.bind_some]
        exact iter_le (fun c => run_le (evT_le (by omega)) (by omega) a c) m (max k m) (by omega) d _ hm
      | ret => exact ⟨k + 1, by have q : run T (evT T (k + 1)) (k + 1) a c = _ := run_mono a c k (k + 1) (by omega) _ hk; simp only [iter]; rw [q]; exact h⟩
      | exit id => exact ⟨k + 1, by have q : run T (evT T (k + 1)) (k + 1) a c = _ := run_mono a c k (k + 1) (by omega) _ hk; simp only [iter]; rw [q]; exact h⟩

def kfin (res : List Rv) : Option (Ex × Cfg) → Option (D × St)
  | some (.normal, c) => finish res c
  | some (.ret, c) => finish res c
  | _ => none

/-- What a function does. -/
theorem ev_eq (f : Nat) (fn : IFunc) (hf : T f = some fn) (args : List D) (st : St) : ev T f args st = kfin fn.res (rn T (ev T) (lp T) fn.code ⟨⟨args, []⟩, st⟩) := by
  refine lim_eq (ev_mono f args st) (fun k r h => ?_) fun r h => ?_
  · cases k with
    | zero => cases h
    | succ k =>
      simp only [evT, hf, Option.bind_some] at h
      obtain ⟨⟨e, d⟩, h1, h2⟩ := Option.bind_eq_some_iff.1 h
      have h1' : rn T (ev T) (lp T) fn.code ⟨⟨args, []⟩, st⟩ = some (e, d) := by rw [← run_lim]; exact lim_le (run_mono _ _) k _ h1
      rw [h1']
      cases e <;> first | exact h2 | cases h2
  · cases h1 : rn T (ev T) (lp T) fn.code ⟨⟨args, []⟩, st⟩ with
    | none => rw [h1] at h; cases h
    | some q =>
      obtain ⟨e, d⟩ := q
      rw [h1] at h
      obtain ⟨k, hk⟩ := (lim_iff (run_mono _ _) _).1 ((run_lim _ _).trans h1)
      refine ⟨k + 1, ?_⟩
      simp only [evT, hf, Option.bind_some, hk]
      cases e <;> first | exact h | cases h

end Go.Nt

/-
  EQUATIONS FOR 'simp' TO RUN CODE OF THE ABSTRACT MACHINE AT SYMBOLIC DATA.
  No condition.
-/
namespace Go.Nt

variable {T : Nat → Option IFunc} {go : GoF}

@[simp] theorem get_zero (x : D) (l : List D) : get (x :: l) 0 = x := (rfl)
@[simp] theorem get_succ (x : D) (l : List D) (n : Nat) : get (x :: l) (n + 1) = get l n := (rfl)
@[simp] theorem get_nil (n : Nat) : get [] n = .undef := by simp [get]

@[simp] theorem getB_nil (n : Nat) : getB [] n = (0, []) := by simp [getB]

attribute [simp] get_put getB_putB putO Opd.ev Io.dst

/-- What is behind an operation. -/
def kE (T : Nat → Option IFunc) (go : GoF) (d : Option Nat) (s : List D) (b : List (Nat × List D)) (st : St) (os : List Gi) : Option Eff → Option Cfg
  | some e => runOps T go os (apply ⟨⟨s, b⟩, st⟩ d e)
  | none => none

@[simp] theorem kE_v (d : Option Nat) (s : List D) (b : List (Nat × List D)) (st : St) (os : List Gi) (v : D) :
    kE T go d s b st os (some (v, none, none)) = runOps T go os ⟨⟨putO s d v, b⟩, st⟩ := (rfl)
@[simp] theorem kE_b (d : Option Nat) (s : List D) (b : List (Nat × List D)) (st : St) (os : List Gi) (v : D) (x : Nat × Nat × List D) :
    kE T go d s b st os (some (v, some x, none)) = runOps T go os ⟨⟨putO s d v, putB b x.1 x.2⟩, st⟩ := (rfl)
@[simp] theorem kE_h (d : Option Nat) (s : List D) (b : List (Nat × List D)) (st st' : St) (os : List Gi) (v : D) :
    kE T go d s b st os (some (v, none, some st')) = runOps T go os ⟨⟨putO s d v, b⟩, st'⟩ := (rfl)

@[simp] theorem runOps_nil (c : Cfg) : runOps T go [] c = some c := (rfl)

@[simp] theorem runOps_g0 (io : Io) (os : List Gi) (s : List D) (b : List (Nat × List D)) (st : St) :
    runOps T go (g0 io :: os) ⟨⟨s, b⟩, st⟩ = kE T go io.dst s b st os (actO T go (Opd.ev s) (getB b) st io) := by
  simp only [runOps, step, Gi.wanted, if_true]
  cases actO T go (Opd.ev s) (getB b) st io <;> rfl

theorem runOps_g1 (j : Nat) (w t : Bool) (io : Io) (os : List Gi) (s : List D) (b : List (Nat × List D)) (st : St) (h : get s j = .bool t) :
    runOps T go (g1 j w io :: os) ⟨⟨s, b⟩, st⟩ = if t = w then runOps T go (g0 io :: os) ⟨⟨s, b⟩, st⟩ else runOps T go os ⟨⟨putO s io.dst .undef, b⟩, st⟩ := by
  simp only [runOps, step, Gi.wanted, h, if_true]
  cases t <;> cases w <;> rfl

/-- A guarded operation, by the truth of its guard. -/
def kG (T : Nat → Option IFunc) (go : GoF) (w : Bool) (io : Io) (os : List Gi) (s : List D) (b : List (Nat × List D)) (st : St) : D → Option Cfg
  | .bool t => if t = w then runOps T go (g0 io :: os) ⟨⟨s, b⟩, st⟩ else runOps T go os ⟨⟨putO s io.dst .undef, b⟩, st⟩
  | _ => runOps T go os ⟨⟨putO s io.dst .undef, b⟩, st⟩

@[simp] theorem runOps_kG (j : Nat) (w : Bool) (io : Io) (os : List Gi) (s : List D) (b : List (Nat × List D)) (st : St) :
    runOps T go (g1 j w io :: os) ⟨⟨s, b⟩, st⟩ = kG T go w io os s b st (get s j) := by
  cases h : get s j with
  | bool t => exact runOps_g1 j w t io os s b st h
  | _ => simp only [runOps, step, Gi.wanted, h]; rfl
@[simp] theorem kG_u (w : Bool) (io : Io) (os : List Gi) (s : List D) (b : List (Nat × List D)) (st : St) : kG T go w io os s b st (.tup []) = runOps T go os ⟨⟨putO s io.dst .undef, b⟩, st⟩ := (rfl)
@[simp] theorem kG_tt (io : Io) (os : List Gi) (s : List D) (b : List (Nat × List D)) (st : St) : kG T go true io os s b st (.bool true) = runOps T go (g0 io :: os) ⟨⟨s, b⟩, st⟩ := (rfl)
@[simp] theorem kG_ff (io : Io) (os : List Gi) (s : List D) (b : List (Nat × List D)) (st : St) : kG T go false io os s b st (.bool false) = runOps T go (g0 io :: os) ⟨⟨s, b⟩, st⟩ := (rfl)
@[simp] theorem kG_tf (io : Io) (os : List Gi) (s : List D) (b : List (Nat × List D)) (st : St) : kG T go true io os s b st (.bool false) = runOps T go os ⟨⟨putO s io.dst .undef, b⟩, st⟩ := (rfl)
@[simp] theorem kG_ft (io : Io) (os : List Gi) (s : List D) (b : List (Nat × List D)) (st : St) : kG T go false io os s b st (.bool true) = runOps T go os ⟨⟨putO s io.dst .undef, b⟩, st⟩ := (rfl)

@[simp] theorem kseq_n (k : Cfg → Option (Ex × Cfg)) (c : Cfg) : kseq k (some (.normal, c)) = k c := (rfl)
@[simp] theorem kseq_r (k : Cfg → Option (Ex × Cfg)) (c : Cfg) : kseq k (some (.ret, c)) = some (.ret, c) := (rfl)
@[simp] theorem kseq_e (k : Cfg → Option (Ex × Cfg)) (id : Nat) (c : Cfg) : kseq k (some (.exit id, c)) = some (.exit id, c) := (rfl)
@[simp] theorem kblock_n (id : Nat) (c : Cfg) : kblock id (some (.normal, c)) = some (.normal, c) := (rfl)
@[simp] theorem kblock_r (id : Nat) (c : Cfg) : kblock id (some (.ret, c)) = some (.ret, c) := (rfl)
@[simp] theorem kblock_e (id id' : Nat) (c : Cfg) : kblock id (some (.exit id', c)) = some (if id' = id then .normal else .exit id', c) := (rfl)

variable {lp' : Ic → Cfg → Option (Ex × Cfg)}
@[simp] theorem rn_skip (c : Cfg) : rn T go lp' .skip c = some (.normal, c) := (rfl)
@[simp] theorem rn_ops (l : List Gi) (c : Cfg) : rn T go lp' (.ops l) c = (runOps T go l c).map fun c' => (.normal, c') := (rfl)
@[simp] theorem rn_seq (a b : Ic) (c : Cfg) : rn T go lp' (.seq a b) c = kseq (rn T go lp' b) (rn T go lp' a c) := (rfl)
@[simp] theorem rn_block (id : Nat) (a : Ic) (c : Cfg) : rn T go lp' (.block id a) c = kblock id (rn T go lp' a c) := (rfl)
@[simp] theorem rn_loop (a : Ic) (c : Cfg) : rn T go lp' (.loop a) c = lp' a c := (rfl)
@[simp] theorem rn_exit (id : Nat) (c : Cfg) : rn T go lp' (.exit id) c = some (.exit id, c) := (rfl)
def kP : Option (List D × St) → Option (Ex × Cfg)
  | some r => some (.normal, (⟨r.1, []⟩, r.2))
  | none => none
@[simp] theorem rn_prim (k : Nat) (s : List D) (st : St) : rn T go lp' (.prim k) ⟨⟨s, []⟩, st⟩ = kP (primD k s st) := by simp only [rn]; cases primD k s st <;> rfl
@[simp] theorem kP_some (s : List D) (st : St) : kP (some (s, st)) = some (.normal, (⟨s, []⟩, st)) := (rfl)
@[simp] theorem rn_ret (c : Cfg) : rn T go lp' .ret c = some (.ret, c) := (rfl)
def kC (T : Nat → Option IFunc) (go : GoF) (lp' : Ic → Cfg → Option (Ex × Cfg)) (a b : Ic) (c : Cfg) : D → Option (Ex × Cfg)
  | .bool t => if t then rn T go lp' a c else rn T go lp' b c
  | _ => none
@[simp] theorem rn_cond (x : Opd) (a b : Ic) (c : Cfg) : rn T go lp' (.cond x a b) c = kC T go lp' a b c (x.ev c.1.s) := by
  simp only [rn]; cases x.ev c.1.s <;> rfl
@[simp] theorem kC_t (a b : Ic) (c : Cfg) : kC T go lp' a b c (.bool true) = rn T go lp' a c := (rfl)
@[simp] theorem kC_f (a b : Ic) (c : Cfg) : kC T go lp' a b c (.bool false) = rn T go lp' b c := (rfl)

@[simp] theorem kfin_r (res : List Rv) (c : Cfg) : kfin res (some (.ret, c)) = finish res c := (rfl)
@[simp] theorem kfin_n (res : List Rv) (c : Cfg) : kfin res (some (.normal, c)) = finish res c := (rfl)

attribute [simp] actO val fillD

def kAgg : Option (List D × St) → Option (D × St)
  | some r => some (.agg r.1, r.2)
  | none => none
@[simp] theorem kAgg_some (ds : List D) (st : St) : kAgg (some (ds, st)) = some (.agg ds, st) := (rfl)
def kTup : Option (List D × St) → Option (D × St)
  | some r => some (.tup r.1, r.2)
  | none => none
@[simp] theorem kTup_some (ds : List D) (st : St) : kTup (some (ds, st)) = some (.tup ds, st) := (rfl)
def kfzL2 (d : D) : Option (List D × St) → Option (List D × St)
  | some r => some (d :: r.1, r.2)
  | none => none
@[simp] theorem kfzL2_some (d : D) (ds : List D) (st : St) : kfzL2 d (some (ds, st)) = some (d :: ds, st) := (rfl)
def kfzL (h : St → D → Option (D × St)) (ds : List D) : Option (D × St) → Option (List D × St)
  | some r => (fzL h r.2 ds).bind fun q => some (r.1 :: q.1, q.2)
  | none => none
def kPA (ds : List D) : Option (D × St) → Option (List D × St)
  | some r => if r.1.pure then (pureArgs r.2 ds).bind fun q => some (r.1 :: q.1, q.2) else none
  | none => none
def kPt (o : Nat) (n : Option Nat) : Option D → Option D
  | some d => part d.cells o n
  | none => none
def kHp (v s x o : Nat) (n : Option Nat) : Ob → Option D
  | .cells _ sz v' _ _ el => if v' = v ∧ sz = s then (el[x]?).bind fun d => part d.cells o n else none
  | _ => none
def kSt (b g : Nat) : Option (List D) → Option Eff
  | some cs => some (.undef, some (b, g, cs), none)
  | none => none
def kHs (st : St) (i v s x' o : Nat) (x : D) : Ob → Option Eff
  | .cells true sz' ver' mod false elems =>
    if ver' = v ∧ sz' = s then (elems[x']?).bind fun d => (splice d.cells o x.cells).bind fun cs => (rewrap d cs).bind fun d' =>
      some (.undef, none, some (List.set st i (.cells true s v (mod + 1) false (elems.set x' d')))) else none
  | .cells false .. =>
    (fz1 st x).bind fun r =>
      if r.1.pure then
        match St.at r.2 i with
        | .cells false sz' ver' mod false elems =>
          if ver' = v ∧ sz' = s then (elems[x']?).bind fun d => (splice d.cells o r.1.cells).bind fun cs => (rewrap d cs).bind fun d' =>
            some (.undef, none, some (List.set r.2 i (.cells false s v (mod + 1) false (elems.set x' d')))) else none
        | _ => none
      else none
  | _ => none
def kIp : Option D → Option D
  | some d => some (.iptr d)
  | none => none
def kRL : Option D → Option (List D) → Option (List D)
  | some d, some ds => some (d :: ds)
  | _, _ => none
def kF (st : St) : Option (List D) → Option (D × St)
  | some [d] => some (d, st)
  | some ds => some (.tup ds, st)
  | none => none

@[simp] theorem cells_bool (x : Bool) : D.cells (.bool x) = [.bool x] := (rfl)
@[simp] theorem fits_bool (x : Bool) : D.fits (.bool x) none = true := (rfl)
@[simp] theorem okv_bool (x : Bool) : D.okv (.bool x) = true := (rfl)
@[simp] theorem pure0_bool (x : Bool) : D.pure0 (.bool x) = true := (rfl)
@[simp] theorem pureF_bool (x : Bool) : D.pureF (.bool x) = true := (rfl)
@[simp] theorem pure1_bool (x : Bool) : D.pure1 (.bool x) = true := (rfl)
@[simp] theorem pure_bool (x : Bool) : D.pure (.bool x) = true := (rfl)
@[simp] theorem pureT_bool (x : Bool) : D.pureT (.bool x) = true := (rfl)
@[simp] theorem fz0_bool (st : St) (x : Bool) : fz0 st (.bool x) = some (.bool x, st) := (rfl)
@[simp] theorem fz1_bool (st : St) (x : Bool) : fz1 st (.bool x) = some (.bool x, st) := (rfl)
@[simp] theorem fz_bool (st : St) (x : Bool) : fz st (.bool x) = some (.bool x, st) := (rfl)
@[simp] theorem cells_int (k : IntKind) (x : Int) : D.cells (.int k x) = [.int k x] := (rfl)
@[simp] theorem fits_int (k : IntKind) (x : Int) : D.fits (.int k x) none = true := (rfl)
@[simp] theorem okv_int (k : IntKind) (x : Int) : D.okv (.int k x) = true := (rfl)
@[simp] theorem pure0_int (k : IntKind) (x : Int) : D.pure0 (.int k x) = true := (rfl)
@[simp] theorem pureF_int (k : IntKind) (x : Int) : D.pureF (.int k x) = true := (rfl)
@[simp] theorem pure1_int (k : IntKind) (x : Int) : D.pure1 (.int k x) = true := (rfl)
@[simp] theorem pure_int (k : IntKind) (x : Int) : D.pure (.int k x) = true := (rfl)
@[simp] theorem pureT_int (k : IntKind) (x : Int) : D.pureT (.int k x) = true := (rfl)
@[simp] theorem fz0_int (st : St) (k : IntKind) (x : Int) : fz0 st (.int k x) = some (.int k x, st) := (rfl)
@[simp] theorem fz1_int (st : St) (k : IntKind) (x : Int) : fz1 st (.int k x) = some (.int k x, st) := (rfl)
@[simp] theorem fz_int (st : St) (k : IntKind) (x : Int) : fz st (.int k x) = some (.int k x, st) := (rfl)
@[simp] theorem cells_str (x : List UInt8) : D.cells (.str x) = [.str x] := (rfl)
@[simp] theorem fits_str (x : List UInt8) : D.fits (.str x) none = true := (rfl)
@[simp] theorem okv_str (x : List UInt8) : D.okv (.str x) = true := (rfl)
@[simp] theorem pure0_str (x : List UInt8) : D.pure0 (.str x) = true := (rfl)
@[simp] theorem pureF_str (x : List UInt8) : D.pureF (.str x) = true := (rfl)
@[simp] theorem pure1_str (x : List UInt8) : D.pure1 (.str x) = true := (rfl)
@[simp] theorem pure_str (x : List UInt8) : D.pure (.str x) = true := (rfl)
@[simp] theorem pureT_str (x : List UInt8) : D.pureT (.str x) = true := (rfl)
@[simp] theorem fz0_str (st : St) (x : List UInt8) : fz0 st (.str x) = some (.str x, st) := (rfl)
@[simp] theorem fz1_str (st : St) (x : List UInt8) : fz1 st (.str x) = some (.str x, st) := (rfl)
@[simp] theorem fz_str (st : St) (x : List UInt8) : fz st (.str x) = some (.str x, st) := (rfl)
@[simp] theorem cells_nilp : D.cells (.nilp) = [.nilp] := (rfl)
@[simp] theorem fits_nilp : D.fits (.nilp) none = true := (rfl)
@[simp] theorem okv_nilp : D.okv (.nilp) = true := (rfl)
@[simp] theorem pure0_nilp : D.pure0 (.nilp) = true := (rfl)
@[simp] theorem pureF_nilp : D.pureF (.nilp) = true := (rfl)
@[simp] theorem pure1_nilp : D.pure1 (.nilp) = true := (rfl)
@[simp] theorem pure_nilp : D.pure (.nilp) = true := (rfl)
@[simp] theorem pureT_nilp : D.pureT (.nilp) = true := (rfl)
@[simp] theorem fz0_nilp (st : St) : fz0 st (.nilp) = some (.nilp, st) := (rfl)
@[simp] theorem fz1_nilp (st : St) : fz1 st (.nilp) = some (.nilp, st) := (rfl)
@[simp] theorem fz_nilp (st : St) : fz st (.nilp) = some (.nilp, st) := (rfl)
@[simp] theorem cells_iptr (x : D) : D.cells (.iptr x) = [.iptr x] := (rfl)
@[simp] theorem fits_iptr (x : D) : D.fits (.iptr x) none = true := (rfl)
@[simp] theorem okv_iptr (x : D) : D.okv (.iptr x) = true := (rfl)
@[simp] theorem pure0_iptr (x : D) : D.pure0 (.iptr x) = true := (rfl)
@[simp] theorem pureF_iptr (x : D) : D.pureF (.iptr x) = true := (rfl)
@[simp] theorem pure1_iptr (x : D) : D.pure1 (.iptr x) = true := (rfl)
@[simp] theorem pure_iptr (x : D) : D.pure (.iptr x) = true := (rfl)
@[simp] theorem pureT_iptr (x : D) : D.pureT (.iptr x) = true := (rfl)
@[simp] theorem fz0_iptr (st : St) (x : D) : fz0 st (.iptr x) = some (.iptr x, st) := (rfl)
@[simp] theorem fz1_iptr (st : St) (x : D) : fz1 st (.iptr x) = some (.iptr x, st) := (rfl)
@[simp] theorem fz_iptr (st : St) (x : D) : fz st (.iptr x) = some (.iptr x, st) := (rfl)
@[simp] theorem cells_nils : D.cells (.nils) = [.nils] := (rfl)
@[simp] theorem fits_nils : D.fits (.nils) none = true := (rfl)
@[simp] theorem okv_nils : D.okv (.nils) = true := (rfl)
@[simp] theorem pure0_nils : D.pure0 (.nils) = true := (rfl)
@[simp] theorem pureF_nils : D.pureF (.nils) = true := (rfl)
@[simp] theorem pure1_nils : D.pure1 (.nils) = true := (rfl)
@[simp] theorem pure_nils : D.pure (.nils) = true := (rfl)
@[simp] theorem pureT_nils : D.pureT (.nils) = true := (rfl)
@[simp] theorem fz0_nils (st : St) : fz0 st (.nils) = some (.nils, st) := (rfl)
@[simp] theorem fz1_nils (st : St) : fz1 st (.nils) = some (.nils, st) := (rfl)
@[simp] theorem fz_nils (st : St) : fz st (.nils) = some (.nils, st) := (rfl)
@[simp] theorem cells_sl (k : Nat) (fl : Bool) (ds : List D) : D.cells (.sl k fl ds) = [.sl k fl ds] := (rfl)
@[simp] theorem fits_sl (k : Nat) (fl : Bool) (ds : List D) : D.fits (.sl k fl ds) none = true := (rfl)
@[simp] theorem okv_sl (k : Nat) (fl : Bool) (ds : List D) : D.okv (.sl k fl ds) = true := (rfl)
@[simp] theorem pure0_sl (k : Nat) (fl : Bool) (ds : List D) : D.pure0 (.sl k fl ds) = true := (rfl)
@[simp] theorem pureF_sl (k : Nat) (fl : Bool) (ds : List D) : D.pureF (.sl k fl ds) = true := (rfl)
@[simp] theorem pure1_sl (k : Nat) (fl : Bool) (ds : List D) : D.pure1 (.sl k fl ds) = true := (rfl)
@[simp] theorem pure_sl (k : Nat) (fl : Bool) (ds : List D) : D.pure (.sl k fl ds) = true := (rfl)
@[simp] theorem pureT_sl (k : Nat) (fl : Bool) (ds : List D) : D.pureT (.sl k fl ds) = true := (rfl)
@[simp] theorem fz0_sl (st : St) (k : Nat) (fl : Bool) (ds : List D) : fz0 st (.sl k fl ds) = some (.sl k fl ds, st) := (rfl)
@[simp] theorem fz1_sl (st : St) (k : Nat) (fl : Bool) (ds : List D) : fz1 st (.sl k fl ds) = some (.sl k fl ds, st) := (rfl)
@[simp] theorem fz_sl (st : St) (k : Nat) (fl : Bool) (ds : List D) : fz st (.sl k fl ds) = some (.sl k fl ds, st) := (rfl)
@[simp] theorem cells_nilf : D.cells (.nilf) = [.nilf] := (rfl)
@[simp] theorem fits_nilf : D.fits (.nilf) none = true := (rfl)
@[simp] theorem okv_nilf : D.okv (.nilf) = true := (rfl)
@[simp] theorem pure0_nilf : D.pure0 (.nilf) = true := (rfl)
@[simp] theorem pureF_nilf : D.pureF (.nilf) = true := (rfl)
@[simp] theorem pure1_nilf : D.pure1 (.nilf) = true := (rfl)
@[simp] theorem pure_nilf : D.pure (.nilf) = true := (rfl)
@[simp] theorem pureT_nilf : D.pureT (.nilf) = true := (rfl)
@[simp] theorem fz0_nilf (st : St) : fz0 st (.nilf) = some (.nilf, st) := (rfl)
@[simp] theorem fz1_nilf (st : St) : fz1 st (.nilf) = some (.nilf, st) := (rfl)
@[simp] theorem fz_nilf (st : St) : fz st (.nilf) = some (.nilf, st) := (rfl)
@[simp] theorem cells_nilm : D.cells (.nilm) = [.nilm] := (rfl)
@[simp] theorem fits_nilm : D.fits (.nilm) none = true := (rfl)
@[simp] theorem okv_nilm : D.okv (.nilm) = true := (rfl)
@[simp] theorem pure0_nilm : D.pure0 (.nilm) = true := (rfl)
@[simp] theorem pureF_nilm : D.pureF (.nilm) = true := (rfl)
@[simp] theorem pure1_nilm : D.pure1 (.nilm) = true := (rfl)
@[simp] theorem pure_nilm : D.pure (.nilm) = true := (rfl)
@[simp] theorem pureT_nilm : D.pureT (.nilm) = true := (rfl)
@[simp] theorem fz0_nilm (st : St) : fz0 st (.nilm) = some (.nilm, st) := (rfl)
@[simp] theorem fz1_nilm (st : St) : fz1 st (.nilm) = some (.nilm, st) := (rfl)
@[simp] theorem fz_nilm (st : St) : fz st (.nilm) = some (.nilm, st) := (rfl)
@[simp] theorem cells_nili : D.cells (.nili) = [.nili] := (rfl)
@[simp] theorem fits_nili : D.fits (.nili) none = true := (rfl)
@[simp] theorem okv_nili : D.okv (.nili) = true := (rfl)
@[simp] theorem pure0_nili : D.pure0 (.nili) = true := (rfl)
@[simp] theorem pureF_nili : D.pureF (.nili) = true := (rfl)
@[simp] theorem pure1_nili : D.pure1 (.nili) = true := (rfl)
@[simp] theorem pure_nili : D.pure (.nili) = true := (rfl)
@[simp] theorem pureT_nili : D.pureT (.nili) = true := (rfl)
@[simp] theorem fz0_nili (st : St) : fz0 st (.nili) = some (.nili, st) := (rfl)
@[simp] theorem fz1_nili (st : St) : fz1 st (.nili) = some (.nili, st) := (rfl)
@[simp] theorem fz_nili (st : St) : fz st (.nili) = some (.nili, st) := (rfl)
@[simp] theorem cells_agg (cs : List D) : D.cells (.agg cs) = cs := (rfl)
@[simp] theorem cells_hp (i v s x o : Nat) : D.cells (.hp i v s x o) = [.hp i v s x o] := (rfl)
@[simp] theorem cells_rs (i v s o l : Nat) (fl : Bool) : D.cells (.rs i v s o l fl) = [.rs i v s o l fl] := (rfl)
@[simp] theorem cells_fn (f : Nat) (a b : List D) : D.cells (.fn f a b) = [.fn f a b] := (rfl)
@[simp] theorem cells_mp (f : Nat) : D.cells (.mp f) = [.mp f] := (rfl)
@[simp] theorem fits_agg (cs : List D) (n : Nat) : D.fits (.agg cs) (some n) = (cs.length == n) := (rfl)
@[simp] theorem fits_hp (i v s x o : Nat) : D.fits (.hp i v s x o) none = true := (rfl)
@[simp] theorem fits_rs (i v s o l : Nat) (fl : Bool) : D.fits (.rs i v s o l fl) none = true := (rfl)
@[simp] theorem fits_fn (f : Nat) (a b : List D) : D.fits (.fn f a b) none = true := (rfl)
@[simp] theorem fits_mp (f : Nat) : D.fits (.mp f) none = true := (rfl)
@[simp] theorem okv_agg (cs : List D) : D.okv (.agg cs) = true := (rfl)
@[simp] theorem okv_hp (i v s x o : Nat) : D.okv (.hp i v s x o) = true := (rfl)
@[simp] theorem okv_rs (i v s o l : Nat) (fl : Bool) : D.okv (.rs i v s o l fl) = true := (rfl)
@[simp] theorem okv_fn (f : Nat) (a b : List D) : D.okv (.fn f a b) = true := (rfl)
@[simp] theorem okv_mp (f : Nat) : D.okv (.mp f) = true := (rfl)
@[simp] theorem pureF_agg (cs : List D) : D.pureF (.agg cs) = cs.all D.pure0 := (rfl)
@[simp] theorem pure_agg (cs : List D) : D.pure (.agg cs) = cs.all D.pure1 := (rfl)
@[simp] theorem pureT_agg (cs : List D) : D.pureT (.agg cs) = cs.all D.pure1 := (rfl)
@[simp] theorem pureT_tup (cs : List D) : D.pureT (.tup cs) = cs.all D.pure := (rfl)
@[simp] theorem pure0_fn (f : Nat) (a b : List D) : D.pure0 (.fn f a b) = (a.isEmpty && b.isEmpty) := (rfl)
@[simp] theorem pure1_fn (f : Nat) (a b : List D) : D.pure1 (.fn f a b) = (a.all D.pureF && b.all D.pure0) := (rfl)
@[simp] theorem pure_fn (f : Nat) (a b : List D) : D.pure (.fn f a b) = (a.all D.pureF && b.all D.pure0) := (rfl)
@[simp] theorem pureT_fn (f : Nat) (a b : List D) : D.pureT (.fn f a b) = (a.all D.pureF && b.all D.pure0) := (rfl)
@[simp] theorem fz0_fn (st : St) (f : Nat) (a b : List D) : fz0 st (.fn f a b) = some (.fn f a b, st) := (rfl)
@[simp] theorem fz1_fn (st : St) (f : Nat) (a b : List D) : fz1 st (.fn f a b) = some (.fn f a b, st) := (rfl)
@[simp] theorem fz_fn (st : St) (f : Nat) (a b : List D) : fz st (.fn f a b) = some (.fn f a b, st) := (rfl)
@[simp] theorem fz1_agg (st : St) (cs : List D) : fz1 st (.agg cs) = kAgg (fzL fz0 st cs) := by simp only [fz1]; cases fzL fz0 st cs <;> rfl
@[simp] theorem fz_agg (st : St) (cs : List D) : fz st (.agg cs) = kAgg (fzL fz0 st cs) := by simp only [fz, fz1]; cases fzL fz0 st cs <;> rfl
@[simp] theorem fz_tup (st : St) (cs : List D) : fz st (.tup cs) = kTup (fzL fz1 st cs) := by simp only [fz]; cases fzL fz1 st cs <;> rfl
@[simp] theorem fz1_rs (st : St) (i v s o l : Nat) (fl : Bool) : fz1 st (.rs i v s o l fl) = fz0 st (.rs i v s o l fl) := (rfl)
@[simp] theorem fz_rs (st : St) (i v s o l : Nat) (fl : Bool) : fz st (.rs i v s o l fl) = fz0 st (.rs i v s o l fl) := (rfl)
@[simp] theorem fzL_nil (h : St → D → Option (D × St)) (st : St) : fzL h st [] = some ([], st) := (rfl)
@[simp] theorem fzL_cons (h : St → D → Option (D × St)) (st : St) (d : D) (ds : List D) : fzL h st (d :: ds) = kfzL h ds (h st d) := by simp only [fzL]; cases h st d <;> rfl
@[simp] theorem kfzL_some (h : St → D → Option (D × St)) (st : St) (d : D) (ds : List D) : kfzL h ds (some (d, st)) = kfzL2 d (fzL h st ds) := by simp only [kfzL]; cases fzL h st ds <;> rfl
@[simp] theorem pureArgs_nil (st : St) : pureArgs st [] = some ([], st) := (rfl)
@[simp] theorem pureArgs_cons (st : St) (d : D) (ds : List D) : pureArgs st (d :: ds) = kPA ds (fz1 st d) := by simp only [pureArgs]; cases fz1 st d <;> rfl
@[simp] theorem kPA_some (st : St) (d : D) (ds : List D) : kPA ds (some (d, st)) = if d.pure then kfzL2 d (pureArgs st ds) else none := by simp only [kPA]; split <;> first | rfl | (cases pureArgs st ds <;> rfl)
@[simp] theorem part_none (cs : List D) (o : Nat) : part cs o none = cs[o]? := (rfl)
@[simp] theorem part_some (cs : List D) (o n : Nat) : part cs o (some n) = if o + n ≤ cs.length then some (.agg ((cs.drop o).take n)) else none := (rfl)
@[simp] theorem loadD_lp (rb : Nat → Nat × List D) (st : St) (b' g o : Nat) (n : Option Nat) (b : Nat) (q : Bool) : loadD rb st (.lp b' g o) n (some b) q = if b' = b ∧ (rb b).1 = g then part (rb b).2 o n else none := (rfl)
@[simp] theorem loadD_iptr (rb : Nat → Nat × List D) (st : St) (d : D) (n : Option Nat) (q : Bool) : loadD rb st (.iptr d) n none q = if d.fits n then some d else none := (rfl)
@[simp] theorem loadD_hp (rb : Nat → Nat × List D) (st : St) (i v s x o : Nat) (n : Option Nat) : loadD rb st (.hp i v s x o) n none false = kHp v s x o n (St.at st i) := by simp only [loadD]; cases St.at st i <;> rfl
@[simp] theorem kHp_cells (v s x o : Nat) (n : Option Nat) (bx : Bool) (sz v' m : Nat) (fr : Bool) (el : List D) : kHp v s x o n (.cells bx sz v' m fr el) = if v' = v ∧ sz = s then kPt o n el[x]? else none := by simp only [kHp]; split <;> first | rfl | (cases el[x]? <;> rfl)
@[simp] theorem kPt_some (o : Nat) (n : Option Nat) (d : D) : kPt o n (some d) = part d.cells o n := (rfl)
@[simp] theorem storeD_lp (rb : Nat → Nat × List D) (st : St) (b' g o : Nat) (x : D) (n : Nat) (b : Nat) : storeD rb st (.lp b' g o) x n (some b) = if x.cells.length = n ∧ x.okv = true then (if b' = b ∧ (rb b).1 = g then kSt b g (splice (rb b).2 o x.cells) else none) else none := by simp only [storeD]; split <;> first | rfl | (split <;> first | rfl | (cases splice (rb b).2 o x.cells <;> rfl))
@[simp] theorem kSt_some (b g : Nat) (cs : List D) : kSt b g (some cs) = some (.undef, some (b, g, cs), none) := (rfl)
@[simp] theorem storeD_hp (rb : Nat → Nat × List D) (st : St) (i v s x' o : Nat) (x : D) (n : Nat) : storeD rb st (.hp i v s x' o) x n none = if x.cells.length = n ∧ x.okv = true then kHs st i v s x' o x (St.at st i) else none := by simp only [storeD]; split <;> first | rfl | (cases St.at st i with | map => rfl | cells bx _ _ _ fr => cases bx <;> cases fr <;> rfl)
@[simp] theorem splice_ (cs : List D) (o : Nat) (xs : List D) : splice cs o xs = if o + xs.length ≤ cs.length then some (cs.take o ++ xs ++ cs.drop (o + xs.length)) else none := (rfl)
@[simp] theorem fldD_lp (b g o off : Nat) (n : Option Nat) : fldD (.lp b g o) off n = some (.lp b g (o + off)) := (rfl)
@[simp] theorem fldD_hp (i v s x o off : Nat) (n : Option Nat) : fldD (.hp i v s x o) off n = some (.hp i v s x (o + off)) := (rfl)
@[simp] theorem fldD_iptr (d : D) (off : Nat) (n : Option Nat) : fldD (.iptr d) off n = kIp (part d.cells off n) := by simp only [fldD]; cases part d.cells off n <;> rfl
@[simp] theorem kIp_some (d : D) : kIp (some d) = some (.iptr d) := (rfl)
@[simp] theorem idxAD_rs (i v s o l : Nat) (fl : Bool) (x sz : Nat) (n : Option Nat) : idxAD (.rs i v s o l fl) x sz n none = if s = sz ∧ x < l then some (.hp i v sz (o + x) 0) else none := by simp only [idxAD]
@[simp] theorem binD_int (op : BinOp) (k k' : IntKind) (a b : Int) : binD op (.int k a) (.int k' b) = intD op k k' a b := (rfl)
@[simp] theorem binD_str (op : BinOp) (a b : List UInt8) : binD op (.str a) (.str b) = strD op a b := (rfl)
@[simp] theorem eqnD_bool (a b : Bool) : eqnD .bool (.bool a) (.bool b) = some (a == b) := (rfl)
@[simp] theorem eqnD_ptr_nn : eqnD .ptr .nilp .nilp = some true := (rfl)
@[simp] theorem nilD_ptr_n : nilD .ptr .nilp = some true := (rfl)
@[simp] theorem eqnD_ptr_0 (d : D) : eqnD .ptr (.iptr d) .nilp = some false := (rfl)
@[simp] theorem nilD_ptr_0 (d : D) : nilD .ptr (.iptr d) = some false := (rfl)
@[simp] theorem eqnD_ptr_1 (i v s x o : Nat) : eqnD .ptr (.hp i v s x o) .nilp = some false := (rfl)
@[simp] theorem nilD_ptr_1 (i v s x o : Nat) : nilD .ptr (.hp i v s x o) = some false := (rfl)
@[simp] theorem eqnD_slice_nn : eqnD .slice .nils .nils = some true := (rfl)
@[simp] theorem nilD_slice_n : nilD .slice .nils = some true := (rfl)
@[simp] theorem eqnD_slice_0 (k : Nat) (fl : Bool) (ds : List D) : eqnD .slice (.sl k fl ds) .nils = some false := (rfl)
@[simp] theorem nilD_slice_0 (k : Nat) (fl : Bool) (ds : List D) : nilD .slice (.sl k fl ds) = some false := (rfl)
@[simp] theorem eqnD_slice_1 (i v s o l : Nat) (fl : Bool) : eqnD .slice (.rs i v s o l fl) .nils = some false := (rfl)
@[simp] theorem nilD_slice_1 (i v s o l : Nat) (fl : Bool) : nilD .slice (.rs i v s o l fl) = some false := (rfl)
@[simp] theorem eqnD_func_nn : eqnD .func .nilf .nilf = some true := (rfl)
@[simp] theorem nilD_func_n : nilD .func .nilf = some true := (rfl)
@[simp] theorem eqnD_func_0 (f : Nat) (a b : List D) : eqnD .func (.fn f a b) .nilf = some false := (rfl)
@[simp] theorem nilD_func_0 (f : Nat) (a b : List D) : nilD .func (.fn f a b) = some false := (rfl)
@[simp] theorem eqnD_map_nn : eqnD .map .nilm .nilm = some true := (rfl)
@[simp] theorem nilD_map_n : nilD .map .nilm = some true := (rfl)
@[simp] theorem eqnD_map_0 (f : Nat) : eqnD .map (.mp f) .nilm = some false := (rfl)
@[simp] theorem nilD_map_0 (f : Nat) : nilD .map (.mp f) = some false := (rfl)
@[simp] theorem unD_neg (k : IntKind) (n : Int) : unD .neg (.int k n) = some (.int k (k.wrap (0 - n))) := (rfl)
@[simp] theorem unD_not (b : Bool) : unD .not (.bool b) = some (.bool !b) := (rfl)
@[simp] theorem lenD_str (st : St) (s : List UInt8) (q : Bool) : lenD st .str (.str s) q = some (.i s.length) := (rfl)
@[simp] theorem lenD_nils (st : St) (q : Bool) : lenD st .slice .nils q = some (.i 0) := (rfl)
@[simp] theorem lenD_nilm (st : St) (q : Bool) : lenD st .map .nilm q = some (.i 0) := (rfl)
@[simp] theorem lenD_rs (st : St) (i v s o l : Nat) (fl : Bool) (q : Bool) : lenD st .slice (.rs i v s o l fl) q = some (.i l) := (rfl)
@[simp] theorem resD_t (c : Cfg) (n : Nat) : resD c (.t n) = if (get c.1.s n).okv then some (get c.1.s n) else none := (rfl)
@[simp] theorem resD_cell (c : Cfg) (n : Nat) (sz l : Option Nat) : resD c (.cell n sz l) = loadD (getB c.1.b) c.2 (get c.1.s n) sz l false := (rfl)
@[simp] theorem resL_nil (c : Cfg) : resL c [] = some [] := (rfl)
@[simp] theorem resL_cons (c : Cfg) (r : Rv) (rs : List Rv) : resL c (r :: rs) = kRL (resD c r) (resL c rs) := by simp only [resL]; cases resD c r <;> cases resL c rs <;> rfl
@[simp] theorem kRL_some (d : D) (ds : List D) : kRL (some d) (some ds) = some (d :: ds) := (rfl)
@[simp] theorem finish_ (res : List Rv) (c : Cfg) : finish res c = kF c.2 (resL c res) := by simp only [finish]; rcases resL c res with _ | _ | ⟨d, _ | ⟨e, r⟩⟩ <;> rfl
@[simp] theorem kF_0 (st : St) : kF st (some []) = some (.tup [], st) := (rfl)
@[simp] theorem kF_1 (st : St) (d : D) : kF st (some [d]) = some (d, st) := (rfl)
@[simp] theorem kF_2 (st : St) (d e : D) (ds : List D) : kF st (some (d :: e :: ds)) = some (.tup (d :: e :: ds), st) := (rfl)
@[simp] theorem bound_none (a b : Nat) : boundD none a b = some a := (rfl)
@[simp] theorem bound_int (k : IntKind) (i : Int) (a b : Nat) : boundD (some (.int k i)) a b = if 0 ≤ i ∧ i ≤ b then some i.toNat else none := (rfl)
@[simp] theorem slcTy_str (s : List UInt8) : slcTy none (.str s) = true := (rfl)
@[simp] theorem slcTy_nils (k : Nat) : slcTy (some k) .nils = true := (rfl)
@[simp] theorem slcTy_sl (k k' : Nat) (fl : Bool) (ds : List D) : slcTy (some k) (.sl k' fl ds) = (k == k') := (rfl)
@[simp] theorem slcTy_rs (k i v s o l : Nat) (fl : Bool) : slcTy (some k) (.rs i v s o l fl) = (k == s) := (rfl)

@[simp] theorem intD_add (k : IntKind) (a b : Int) : intD .add k k a b = some (.int k (k.wrap (a + b))) := by simp [intD]
@[simp] theorem intD_sub (k : IntKind) (a b : Int) : intD .sub k k a b = some (.int k (k.wrap (a - b))) := by simp [intD]
@[simp] theorem intD_mul (k : IntKind) (a b : Int) : intD .mul k k a b = some (.int k (k.wrap (a * b))) := by simp [intD]
@[simp] theorem intD_eql (k : IntKind) (a b : Int) : intD .eql k k a b = some (.bool (decide (a = b))) := by simp [intD]; rfl
@[simp] theorem intD_neq (k : IntKind) (a b : Int) : intD .neq k k a b = some (.bool (!decide (a = b))) := by simp [intD]; rfl
@[simp] theorem intD_lss (k : IntKind) (a b : Int) : intD .lss k k a b = some (.bool (decide (a < b))) := by simp [intD]
@[simp] theorem intD_leq (k : IntKind) (a b : Int) : intD .leq k k a b = some (.bool (decide (a ≤ b))) := by simp [intD]
@[simp] theorem intD_gtr (k : IntKind) (a b : Int) : intD .gtr k k a b = some (.bool (decide (b < a))) := by simp [intD]
@[simp] theorem intD_geq (k : IntKind) (a b : Int) : intD .geq k k a b = some (.bool (decide (b ≤ a))) := by simp [intD]

theorem wrap64 (n : Int) (h : -9223372036854775808 ≤ n) (h' : n < 9223372036854775808) : IntKind.wrap .i64 n = n := by
  rw [IntKind.wrap_i64]; omega

/-! ### Slices of pure data -/

/-- How a slice without elements reads, and whether a full one. -/
inductive Fl where
  | nil | emp | part | full
  deriving DecidableEq, Inhabited

def slE (sz : Nat) : Fl → List D → D
  | .nil, [] => .nils
  | .emp, [] => .sl sz true []
  | .full, ds => .sl sz true ds
  | _, ds => .sl sz false ds

@[simp] theorem slE_cells (sz : Nat) (fl : Fl) (ds : List D) : (slE sz fl ds).cells = [slE sz fl ds] := by cases fl <;> cases ds <;> rfl
@[simp] theorem slE_fits (sz : Nat) (fl : Fl) (ds : List D) : (slE sz fl ds).fits none = true := by cases fl <;> cases ds <;> rfl
@[simp] theorem slE_okv (sz : Nat) (fl : Fl) (ds : List D) : (slE sz fl ds).okv = true := by cases fl <;> cases ds <;> rfl
@[simp] theorem slE_pure0 (sz : Nat) (fl : Fl) (ds : List D) : (slE sz fl ds).pure0 = true := by cases fl <;> cases ds <;> rfl
@[simp] theorem slE_pure1 (sz : Nat) (fl : Fl) (ds : List D) : (slE sz fl ds).pure1 = true := by cases fl <;> cases ds <;> rfl
@[simp] theorem slE_pure (sz : Nat) (fl : Fl) (ds : List D) : (slE sz fl ds).pure = true := by cases fl <;> cases ds <;> rfl
@[simp] theorem slE_pureT (sz : Nat) (fl : Fl) (ds : List D) : (slE sz fl ds).pureT = true := by cases fl <;> cases ds <;> rfl
@[simp] theorem slE_fz0 (st : St) (sz : Nat) (fl : Fl) (ds : List D) : fz0 st (slE sz fl ds) = some (slE sz fl ds, st) := by cases fl <;> cases ds <;> rfl
@[simp] theorem slE_fz1 (st : St) (sz : Nat) (fl : Fl) (ds : List D) : fz1 st (slE sz fl ds) = some (slE sz fl ds, st) := by cases fl <;> cases ds <;> rfl
@[simp] theorem slE_fz (st : St) (sz : Nat) (fl : Fl) (ds : List D) : fz st (slE sz fl ds) = some (slE sz fl ds, st) := by cases fl <;> cases ds <;> rfl
@[simp] theorem slE_len (st : St) (sz : Nat) (fl : Fl) (ds : List D) (q : Bool) : lenD st .slice (slE sz fl ds) q = some (.i ds.length) := by cases fl <;> cases ds <;> rfl
@[simp] theorem slE_list (st : St) (sz : Nat) (fl : Fl) (ds : List D) : listD st sz (slE sz fl ds) = some ds := by cases fl <;> cases ds <;> simp [listD, slE]
@[simp] theorem slE_idx (sz : Nat) (fl : Fl) (ds : List D) (i : Nat) (n : Option Nat) : idxAD (slE sz fl ds) i sz n none = (ds[i]?).bind fun u => if u.fits n then some (.iptr u) else none := by cases fl <;> cases ds <;> simp [idxAD, slE]
@[simp] theorem slE_slcTy (sz : Nat) (fl : Fl) (ds : List D) : slcTy (some sz) (slE sz fl ds) = true := by cases fl <;> cases ds <;> simp [slcTy, slE]

def Fl.sub : Fl → List D → Fl
  | .nil, [] => .nil
  | .emp, [] => .full
  | .full, _ => .full
  | _, _ => .part

theorem slE_from (sz : Nat) (fl : Fl) (ds : List D) (k : IntKind) (i : Int) (h : 0 ≤ i) (h' : i.toNat ≤ ds.length) : sliceD (slE sz fl ds) (some (.int k i)) none none = some (slE sz (fl.sub ds) (ds.drop i.toNat)) := by
  have h2 : i ≤ ds.length := by omega
  cases fl <;> cases ds <;> simp_all [sliceD, slE, Fl.sub]

@[simp] theorem slE_tail (sz : Nat) (fl : Fl) (d : D) (ds : List D) (k : IntKind) : sliceD (slE sz fl (d :: ds)) (some (.int k 1)) none none = some (slE sz (fl.sub (d :: ds)) ds) := by
  have := slE_from sz fl (d :: ds) k 1 (by omega) (by simp)
  simpa using this

@[simp] theorem at_zero (o : Ob) (st : St) : St.at (o :: st) 0 = o := (rfl)
@[simp] theorem at_succ (o : Ob) (st : St) (n : Nat) : St.at (o :: st) (n + 1) = St.at st n := (rfl)
@[simp] theorem rewrap_agg (cs ds : List D) : rewrap (.agg cs) ds = some (.agg ds) := (rfl)

def kFz (id ver sz off len : Nat) (full : Bool) (st : St) : Ob → Option (D × St)
  | .cells false sz' ver' mod fr elems => if ver' = ver ∧ sz' = sz ∧ off + len ≤ elems.length then some (.sl sz full ((elems.drop off).take len), if fr then st else List.set st id (.cells false sz ver (mod + 1) true elems)) else none
  | _ => none
@[simp] theorem fz0_rs (st : St) (id ver sz off len : Nat) (full : Bool) : fz0 st (.rs id ver sz off len full) = kFz id ver sz off len full st (St.at st id) := by
  simp only [fz0]; rcases St.at st id with (_ | _) | _ <;> rfl
@[simp] theorem kFz_cells (id ver sz off len : Nat) (full : Bool) (st : St) (sz' ver' mod : Nat) (fr : Bool) (elems : List D) :
    kFz id ver sz off len full st (.cells false sz' ver' mod fr elems) = if ver' = ver ∧ sz' = sz ∧ off + len ≤ elems.length then some (.sl sz full ((elems.drop off).take len), if fr then st else List.set st id (.cells false sz ver (mod + 1) true elems)) else none := (rfl)

@[simp] theorem cast_inj (m n : Nat) : ((m : Int) = n) = (m = n) := propext (by omega)
@[simp] theorem cast_lt (m n : Nat) : ((m : Int) < n) = (m < n) := propext (by omega)
@[simp] theorem cast_le (m n : Nat) : ((m : Int) ≤ n) = (m ≤ n) := propext (by omega)
@[simp] theorem cast_succ0 (n : Nat) : ((n : Int) + 1 = 0) = False := eq_false (by omega)
@[simp] theorem cast_succ_le0 (n : Nat) : ((n : Int) + 1 ≤ 0) = False := eq_false (by omega)
@[simp] theorem cast_neg (i : Nat) : ((i : Int) < 0) = False := eq_false (by omega)

/-- How a loop ends. -/
def Stops (r : Option (Ex × Cfg)) (Q : Ex → List D → List (Nat × List D) → St → Prop) : Prop := ∃ e s b st, r = some (e, ⟨⟨s, b⟩, st⟩) ∧ Q e s b st
@[simp] theorem Stops_some (e : Ex) (s : List D) (b : List (Nat × List D)) (st : St) (Q : Ex → List D → List (Nat × List D) → St → Prop) : Stops (some (e, ⟨⟨s, b⟩, st⟩)) Q ↔ Q e s b st := by
  constructor
  · rintro ⟨e', s', b', st', h, q⟩; cases h; exact q
  · exact fun h => ⟨e, s, b, st, rfl, h⟩

theorem Stops.use {r : Option (Ex × Cfg)} {Q : Ex → List D → List (Nat × List D) → St → Prop} (h : Stops r Q) (F : Option (Ex × Cfg) → Prop) (k : ∀ e s b st, Q e s b st → F (some (e, ⟨⟨s, b⟩, st⟩))) : F r := by
  obtain ⟨e, s, b, st, rfl, q⟩ := h
  exact k e s b st q

theorem Stops.mono {r : Option (Ex × Cfg)} {Q Q' : Ex → List D → List (Nat × List D) → St → Prop} (h : Stops r Q) (k : ∀ e s b st, Q e s b st → Q' e s b st) : Stops r Q' := by
  obtain ⟨e, s, b, st, rfl, q⟩ := h
  exact ⟨e, s, b, st, rfl, k e s b st q⟩

/-- The next round. -/
noncomputable def kL (T : Nat → Option IFunc) (a : Ic) : Option (Ex × Cfg) → Option (Ex × Cfg)
  | some (.normal, d) => lp T a d
  | r => r
@[simp] theorem kL_n (a : Ic) (c : Cfg) : kL T a (some (.normal, c)) = lp T a c := (rfl)
@[simp] theorem kL_r (a : Ic) (c : Cfg) : kL T a (some (.ret, c)) = some (.ret, c) := (rfl)
@[simp] theorem kL_e (a : Ic) (id : Nat) (c : Cfg) : kL T a (some (.exit id, c)) = some (.exit id, c) := (rfl)
theorem lp_kL (a : Ic) (c : Cfg) : lp T a c = kL T a (rn T (ev T) (lp T) a c) := lp_eq a c

theorem callD_pure {f : Nat} {fn : IFunc} (hT : T f = some fn) (hm : fn.mode = .pure) {args : List D} {st : St} {r q : D} {st1 st2 : St} (hargs : pureArgs st args = some (args, st))
    (h : ev T f args [] = some (r, st1)) (hr : fz st1 r = some (q, st2)) (hp : q.pureT = true) : callD T (ev T) f args st = some (q, st) := by
  simp only [callD, hT, hm, hargs, Option.bind_some, h, hr, hp, if_true]

/-! ### A slice that grows by one element at a time, the heap's only object -/

def grown (d0 : D) (sz : Nat) : List D → D × St
  | [] => (d0, [])
  | d :: ds => (.rs 0 ds.length sz 0 (ds.length + 1) false, [.cells false sz ds.length ds.length false (d :: ds)])
def grownZ (sz : Nat) : List D → St
  | [] => []
  | d :: ds => [.cells false sz ds.length (ds.length + 1) true (d :: ds)]
/-- The start of a slice that grows. -/
def seed (sz : Nat) : Fl → D
  | .nil => .nils
  | _ => .sl sz true []

theorem grow (fl : Fl) (sz : Nat) (ds : List D) (x : D) (h : ds.length ≤ 134217728) : appendD (grown (seed sz fl) sz ds).2 (grown (seed sz fl) sz ds).1 [x] sz = some (grown (seed sz fl) sz (ds ++ [x])) := by
  cases ds with
  | nil => cases fl <;> simp [appendD, grown, seed, most]
  | cons d ds =>
    simp only [List.length_cons] at h
    have h' : ds.length + 1 ≤ most := h
    have ht : ds.length + 1 < tagB := by unfold tagB; omega
    simp [appendD, grown, most] at h' ⊢
    simp [h', ht]

@[simp] theorem grown_cells (fl : Fl) (sz : Nat) (ds : List D) : (grown (seed sz fl) sz ds).1.cells = [(grown (seed sz fl) sz ds).1] := by cases ds <;> cases fl <;> rfl
@[simp] theorem grown_okv (fl : Fl) (sz : Nat) (ds : List D) : (grown (seed sz fl) sz ds).1.okv = true := by cases ds <;> cases fl <;> rfl
@[simp] theorem grown_fits (fl : Fl) (sz : Nat) (ds : List D) : (grown (seed sz fl) sz ds).1.fits none = true := by cases ds <;> cases fl <;> rfl
@[simp] theorem grown_nil (d0 : D) (sz : Nat) : grown d0 sz [] = (d0, []) := (rfl)
@[simp] theorem grown_len (fl : Fl) (st : St) (sz : Nat) (ds : List D) (q : Bool) : lenD st .slice (grown (seed sz fl) sz ds).1 q = some (.i ds.length) := by cases ds <;> cases fl <;> rfl
def Fl.grew : Fl → Fl
  | .nil => .nil
  | _ => .emp
@[simp] theorem fz0_grown (fl : Fl) (sz : Nat) (ds : List D) : fz0 (grown (seed sz fl) sz ds).2 (grown (seed sz fl) sz ds).1 = some (slE sz fl.grew ds, grownZ sz ds) := by
  cases ds with
  | nil => cases fl <;> rfl
  | cons d ds => cases fl <;> simp [grown, grownZ, slE, Fl.grew, List.take_of_length_le]
@[simp] theorem fz1_grown (fl : Fl) (sz : Nat) (ds : List D) : fz1 (grown (seed sz fl) sz ds).2 (grown (seed sz fl) sz ds).1 = some (slE sz fl.grew ds, grownZ sz ds) := by
  rw [← fz0_grown]; cases ds <;> cases fl <;> rfl
@[simp] theorem fz_grown (fl : Fl) (sz : Nat) (ds : List D) : fz (grown (seed sz fl) sz ds).2 (grown (seed sz fl) sz ds).1 = some (slE sz fl.grew ds, grownZ sz ds) := by
  rw [← fz0_grown]; cases ds <;> cases fl <;> rfl

/-! ### The same over a heap that has objects already -/

theorem at_last (st : St) (o : Ob) : St.at (st ++ [o]) st.length = o := by simp [St.at]
theorem at_left (st : St) (o : Ob) (i : Nat) (h : i < st.length) : St.at (st ++ [o]) i = St.at st i := by
  simp only [St.at, List.getD_eq_getElem?_getD, List.getElem?_append_left h]
@[simp] theorem agree_append (st x : St) : agree st (st ++ x) = true := by
  induction st with
  | nil => rfl
  | cons o st ih => simp [agree, ih]
@[simp] theorem agree_refl (st : St) : agree st st = true := by
  have := agree_append st []
  rwa [List.append_nil] at this

def grownA (st : St) (d0 : D) (sz : Nat) : List D → D × St
  | [] => (d0, st)
  | d :: ds => (.rs st.length ds.length sz 0 (ds.length + 1) false, st ++ [.cells false sz ds.length ds.length false (d :: ds)])
def grownAZ (st : St) (sz : Nat) : List D → St
  | [] => st
  | d :: ds => st ++ [.cells false sz ds.length (ds.length + 1) true (d :: ds)]

theorem growA (st : St) (fl : Fl) (sz : Nat) (ds : List D) (x : D) (h : ds.length ≤ 134217728) : appendD (grownA st (seed sz fl) sz ds).2 (grownA st (seed sz fl) sz ds).1 [x] sz = some (grownA st (seed sz fl) sz (ds ++ [x])) := by
  cases ds with
  | nil => cases fl <;> simp [appendD, grownA, seed, most]
  | cons d ds =>
    simp only [List.length_cons] at h
    have h' : ds.length + 1 ≤ most := h
    have ht : ds.length + 1 < tagB := by unfold tagB; omega
    simp [appendD, grownA, most, at_last] at h' ⊢
    simp [h', ht]

@[simp] theorem grownA_cells (st : St) (fl : Fl) (sz : Nat) (ds : List D) : (grownA st (seed sz fl) sz ds).1.cells = [(grownA st (seed sz fl) sz ds).1] := by cases ds <;> cases fl <;> rfl
@[simp] theorem grownA_okv (st : St) (fl : Fl) (sz : Nat) (ds : List D) : (grownA st (seed sz fl) sz ds).1.okv = true := by cases ds <;> cases fl <;> rfl
@[simp] theorem grownA_fits (st : St) (fl : Fl) (sz : Nat) (ds : List D) : (grownA st (seed sz fl) sz ds).1.fits none = true := by cases ds <;> cases fl <;> rfl
@[simp] theorem grownA_nil (st : St) (d0 : D) (sz : Nat) : grownA st d0 sz [] = (d0, st) := (rfl)
@[simp] theorem grownA_len (st st' : St) (fl : Fl) (sz : Nat) (ds : List D) (q : Bool) : lenD st' .slice (grownA st (seed sz fl) sz ds).1 q = some (.i ds.length) := by cases ds <;> cases fl <;> rfl
@[simp] theorem fz0_grownA (st : St) (fl : Fl) (sz : Nat) (ds : List D) : fz0 (grownA st (seed sz fl) sz ds).2 (grownA st (seed sz fl) sz ds).1 = some (slE sz fl.grew ds, grownAZ st sz ds) := by
  cases ds with
  | nil => cases fl <;> rfl
  | cons d ds => cases fl <;> simp [grownA, grownAZ, slE, Fl.grew, at_last]
@[simp] theorem fz1_grownA (st : St) (fl : Fl) (sz : Nat) (ds : List D) : fz1 (grownA st (seed sz fl) sz ds).2 (grownA st (seed sz fl) sz ds).1 = some (slE sz fl.grew ds, grownAZ st sz ds) := by
  rw [← fz0_grownA]; cases ds <;> cases fl <;> rfl
@[simp] theorem agree_grownA (st : St) (d0 : D) (sz : Nat) (ds : List D) : agree st (grownA st d0 sz ds).2 = true := by cases ds <;> simp [grownA]
@[simp] theorem agree_grownAZ (st : St) (sz : Nat) (ds : List D) : agree st (grownAZ st sz ds) = true := by cases ds <;> simp [grownAZ]
/-- An older object is as it was. -/
theorem at_grownA (st : St) (d0 : D) (sz : Nat) (ds : List D) (i : Nat) (h : i < st.length) : St.at (grownA st d0 sz ds).2 i = St.at st i := by
  cases ds with
  | nil => rfl
  | cons d ds => exact at_left st _ i h

/-- A call by 'pop'. -/
theorem callD_pop {f : Nat} {fn : IFunc} (hT : T f = some fn) (hm : fn.mode = .pop) {args : List D} {st : St} {r q : D} {st1 st2 : St} (hargs : args.all D.okv = true)
    (h : ev T f args st = some (r, st1)) (hr : fz st1 r = some (q, st2)) (hp : q.pureT = true) (ha : agree st st2 = true) : callD T (ev T) f args st = some (q, st) := by
  simp only [callD, hT, hm, hargs, if_true, h, Option.bind_some, hr, hp, ha, Bool.and_self]

/-- A call by 'cut'. -/
theorem callD_cut {f : Nat} {fn : IFunc} (hT : T f = some fn) (hm : fn.mode = .cut) {args : List D} {st : St} {r q : D} {st1 st2 st3 : St} (hargs : args.all D.okv = true)
    (h : ev T f args st = some (r, st1)) (hr : fz st1 r = some (q, st2)) (hp : q.pureT = true) (ha : settled st st2 = true) (ht : st2.take st.length = st3) : callD T (ev T) f args st = some (q, st3) := by
  simp only [callD, hT, hm, hargs, if_true, h, Option.bind_some, hr, hp, ha, Bool.and_self, ht]

@[simp] theorem storeXD_hp (box : Bool) (st : St) (i v s x' o : Nat) (x : D) (n : Nat) : storeXD box st (.hp i v s x' o) x n =
    if x.cells.length = n ∧ x.okv = true ∧ (box = true ∨ x.pure = true) then ((cellU box v s x' o x (St.at st i)).bind fun ob => some (List.set st i ob)).bind fun s => some (.undef, none, some s) else none := (rfl)
@[simp] theorem cellU_cells (box b fr : Bool) (v s i o : Nat) (x : D) (sz' ver' mod : Nat) (elems : List D) : cellU box v s i o x (.cells b sz' ver' mod fr elems) =
    if b = box ∧ fr = false ∧ ver' = v ∧ sz' = s then (elems[i]?).bind fun d => (splice d.cells o x.cells).bind fun cs => (rewrap d cs).bind fun d' => some (.cells box s v (mod + 1) false (elems.set i d')) else none := (rfl)

@[simp] theorem strD_eql (a b : List UInt8) : strD .eql a b = some (.bool (decide (a = b))) := by
  simp only [strD]; by_cases h : a = b
  · subst h; simp
  · have : (a == b) = false := by simpa using h
    rw [this, decide_eq_false h]
@[simp] theorem strD_neq (a b : List UInt8) : strD .neq a b = some (.bool (!decide (a = b))) := by
  simp only [strD]; by_cases h : a = b
  · subst h; simp
  · have : (a == b) = false := by simpa using h
    rw [this, decide_eq_false h]
@[simp] theorem strD_add (a b : List UInt8) : strD .add a b = if a.length + b.length ≤ 134217728 then some (.str (a ++ b)) else none := (rfl)

@[simp] theorem intD_quo (k : IntKind) (a b : Int) : intD .quo k k a b = if b = 0 then none else some (.int k (k.wrap (a.tdiv b))) := by simp [intD]
@[simp] theorem intD_rem (k : IntKind) (a b : Int) : intD .rem k k a b = if b = 0 then none else some (.int k (a.tmod b)) := by simp [intD]

end Go.Nt

/-
  HEAPS, POINT BY POINT; objects behind a heap.
  No condition.
-/
namespace Go.Nt

theorem at_get {st : St} {i : Nat} (h : i < st.length) : St.at st i = st[i] := by simp [St.at, h]

theorem settled_of : ∀ {st st' : St}, st.length ≤ st'.length → (∀ i, i < st.length → St.at st' i = St.at st i ∨ (St.at st' i).pureO = true) → settled st st' = true
  | [], _, _, _ => rfl
  | _ :: _, [], h, _ => by simp at h
  | o :: st, o' :: st', hl, h => by
    simp only [settled, Bool.and_eq_true, Bool.or_eq_true, beq_iff_eq]
    refine ⟨?_, settled_of (by simpa using hl) fun i hi => h (i + 1) (by simpa using hi)⟩
    rcases h 0 (by simp) with q | q
    · left; have q' : o' = o := q
      rw [q']
    · exact .inr q

theorem take_of {st st' : St} (hl : st.length ≤ st'.length) (h : ∀ i, i < st.length → St.at st' i = St.at st i) : st'.take st.length = st := by
  refine List.ext_getElem (by rw [List.length_take]; omega) fun i h1 h2 => ?_
  have := h i h2
  rw [at_get h2, at_get (by omega)] at this
  rw [List.getElem_take]; exact this

theorem settled_set {st : St} {i : Nat} {o : Ob} (ho : o.pureO = true) : settled st (List.set st i o) = true := by
  refine settled_of (by simp) fun j hj => ?_
  by_cases hi : i < st.length
  · rw [at_set _ _ _ _ hi]
    by_cases e : j = i
    · rw [if_pos e]; exact .inr ho
    · rw [if_neg e]; exact .inl rfl
  · rw [List.set_eq_of_length_le (by omega)]; exact .inl rfl

/-! ### Objects behind a heap -/

theorem at_app (st l : St) (k : Nat) : St.at (st ++ l) (st.length + k) = St.at l k := by
  simp only [St.at, List.getD_eq_getElem?_getD]
  rw [List.getElem?_append_right (by omega), Nat.add_sub_cancel_left]
theorem at_app0 (st l : St) : St.at (st ++ l) st.length = St.at l 0 := at_app st l 0
theorem at_lt (st l : St) {i : Nat} (h : i < st.length) : St.at (st ++ l) i = St.at st i := by simp [St.at, List.getElem?_append_left h]
theorem set_app (st l : St) (k : Nat) (o : Ob) : List.set (st ++ l) (st.length + k) o = st ++ List.set l k o := by
  rw [List.set_append_right _ _ (by omega)]; simp
theorem set_app0 (st l : St) (o : Ob) : List.set (st ++ l) st.length o = st ++ List.set l 0 o := set_app st l 0 o
theorem set_lt (st l : St) {i : Nat} (h : i < st.length) (o : Ob) : List.set (st ++ l) i o = List.set st i o ++ l := List.set_append_left _ _ h

/-- A pure call, its arguments freed first. -/
theorem callD_free {T : Nat → Option IFunc} {go : GoF} {f : Nat} {fn : IFunc} (hT : T f = some fn) (hm : fn.mode = .pure) {args args' : List D} {st st' : St} {q : D} (h1 : pureArgs st args = some (args', st')) (h2 : pureArgs st' args' = some (args', st'))
    (h : callD T go f args' st' = some (q, st')) : callD T go f args st = some (q, st') := by
  simp only [callD, hT, hm, h1, h2, Option.bind_some] at h ⊢
  exact h

@[simp] theorem rewrap_nils (d : D) : rewrap .nils [d] = some d := (rfl)
@[simp] theorem rewrap_rs (i v z o l : Nat) (f : Bool) (d : D) : rewrap (.rs i v z o l f) [d] = some d := (rfl)
@[simp] theorem rewrap_sl (z : Nat) (f : Bool) (ds : List D) (d : D) : rewrap (.sl z f ds) [d] = some d := (rfl)
@[simp] theorem rewrap_int (k : IntKind) (n : Int) (d : D) : rewrap (.int k n) [d] = some d := (rfl)
@[simp] theorem rewrap_bool (b : Bool) (d : D) : rewrap (.bool b) [d] = some d := (rfl)
@[simp] theorem rewrap_str (s : List UInt8) (d : D) : rewrap (.str s) [d] = some d := (rfl)

/-- How a run ends that a call by 'cut' comes to. -/
def Ends (st : St) (q : D) (st3 : St) (res : Option (D × St)) : Prop := ∃ r st1 st2, res = some (r, st1) ∧ fz st1 r = some (q, st2) ∧ settled st st2 = true ∧ st2.take st.length = st3
theorem Ends.mk {st st3 st1 st2 : St} {q r : D} (h1 : fz st1 r = some (q, st2)) (h2 : settled st st2 = true ∧ st2.take st.length = st3) : Ends st q st3 (some (r, st1)) := ⟨r, st1, st2, rfl, h1, h2.1, h2.2⟩

theorem callD_cutE {T : Nat → Option IFunc} {f : Nat} {fn : IFunc} (hT : T f = some fn) (hm : fn.mode = .cut) {args : List D} {st st3 : St} {q : D} (hargs : args.all D.okv = true)
    (hp : q.pureT = true) (h : Ends st q st3 (ev T f args st)) : callD T (ev T) f args st = some (q, st3) := by
  obtain ⟨r, st1, st2, h1, h2, h3, h4⟩ := h
  exact callD_cut hT hm hargs h1 h2 hp h3 h4

end Go.Nt

/-
  BRANCHES that are not decided yet, by 'simp'; what a loop does not write; how calls and runs end.
  No condition.
-/
namespace Go.Nt

variable {T : Nat → Option IFunc} {go : GoF} {lp' : Ic → Cfg → Option (Ex × Cfg)}

theorem kC_b (t : Bool) (a b : Ic) (c : Cfg) : kC T go lp' a b c (.bool t) = if t = true then rn T go lp' a c else rn T go lp' b c := by cases t <;> rfl
theorem kG_b (w t : Bool) (io : Io) (os : List Gi) (s : List D) (b : List (Nat × List D)) (st : St) : kG T go w io os s b st (.bool t) = if t = w then runOps T go (g0 io :: os) ⟨⟨s, b⟩, st⟩ else runOps T go os ⟨⟨putO s io.dst .undef, b⟩, st⟩ := (rfl)
theorem kseq_ite {p : Prop} [Decidable p] (k : Cfg → Option (Ex × Cfg)) (x y : Option (Ex × Cfg)) : kseq k (if p then x else y) = if p then kseq k x else kseq k y := by split <;> rfl
theorem kblock_ite {p : Prop} [Decidable p] (id : Nat) (x y : Option (Ex × Cfg)) : kblock id (if p then x else y) = if p then kblock id x else kblock id y := by split <;> rfl
theorem kfin_ite {p : Prop} [Decidable p] (r : List Rv) (x y : Option (Ex × Cfg)) : kfin r (if p then x else y) = if p then kfin r x else kfin r y := by split <;> rfl
theorem kL_ite {p : Prop} [Decidable p] (a : Ic) (x y : Option (Ex × Cfg)) : kL T a (if p then x else y) = if p then kL T a x else kL T a y := by split <;> rfl
theorem kE_ite {p : Prop} [Decidable p] (d : Option Nat) (s : List D) (b : List (Nat × List D)) (st : St) (os : List Gi) (x y : Option Eff) :
    kE T go d s b st os (if p then x else y) = if p then kE T go d s b st os x else kE T go d s b st os y := by split <;> rfl
theorem map_ite {α β : Type} {p : Prop} [Decidable p] (f : α → β) (x y : Option α) : Option.map f (if p then x else y) = if p then Option.map f x else Option.map f y := by split <;> rfl
theorem obind_ite {α β : Type} {p : Prop} [Decidable p] (f : α → Option β) (x y : Option α) : Option.bind (if p then x else y) f = if p then Option.bind x f else Option.bind y f := by split <;> rfl
theorem Stops_ite {p : Prop} [Decidable p] (x y : Option (Ex × Cfg)) (Q : Ex → List D → List (Nat × List D) → St → Prop) : Stops (if p then x else y) Q = if p then Stops x Q else Stops y Q := by split <;> rfl

/-- How a function's run ends. -/
def Ret (x : Option (D × St)) (Q : D → St → Prop) : Prop := ∃ r st, x = some (r, st) ∧ Q r st
@[simp] theorem Ret_some (r : D) (st : St) (Q : D → St → Prop) : Ret (some (r, st)) Q ↔ Q r st := by
  constructor
  · rintro ⟨r', st', h, q⟩; cases h; exact q
  · exact fun h => ⟨r, st, rfl, h⟩
theorem Ret_ite {p : Prop} [Decidable p] (x y : Option (D × St)) (Q : D → St → Prop) : Ret (if p then x else y) Q = if p then Ret x Q else Ret y Q := by split <;> rfl

theorem callD_rawE {f : Nat} {fn : IFunc} (hT : T f = some fn) (hm : fn.mode = .raw) {args : List D} {st : St} (hargs : args.all D.okv = true) : callD T (ev T) f args st = ev T f args st := by
  simp only [callD, hT, hm, hargs, if_true]

/-- A call by 'fre'. -/
theorem callD_freE {f : Nat} {fn : IFunc} (hT : T f = some fn) (hm : fn.mode = .fre) {args : List D} {st : St} {r q : D} {st1 st2 : St} (hargs : args.all D.okv = true)
    (h : ev T f args st = some (r, st1)) (hr : fz st1 r = some (q, st2)) (hp : q.pureT = true) : callD T (ev T) f args st = some (q, st2) := by
  simp only [callD, hT, hm, hargs, if_true, h, Option.bind_some, hr, hp]

/-- A call by 'pure' whose run ends so. -/
theorem callD_pureR {f : Nat} {fn : IFunc} (hT : T f = some fn) (hm : fn.mode = .pure) {args : List D} {st : St} {q : D} (hargs : pureArgs st args = some (args, st)) (hp : q.pureT = true)
    (h : Ret (ev T f args []) fun r st1 => ∃ st2, fz st1 r = some (q, st2)) : callD T (ev T) f args st = some (q, st) := by
  obtain ⟨r, st1, h1, st2, h2⟩ := h
  exact callD_pure hT hm hargs h1 h2 hp

/-- The same where the run's value is free of the heap. -/
theorem callD_pureQ {f : Nat} {fn : IFunc} (hT : T f = some fn) (hm : fn.mode = .pure) {args : List D} {st : St} {q : D} (hargs : pureArgs st args = some (args, st)) (hp : q.pureT = true)
    (hf : ∀ st, fz st q = some (q, st)) (h : Ret (ev T f args []) fun r _ => r = q) : callD T (ev T) f args st = some (q, st) := by
  obtain ⟨r, st1, h1, rfl⟩ := h
  exact callD_pure hT hm hargs h1 (hf st1) hp

/-- A round of a loop. -/
theorem lp_at (L body : Ic) (h : L = body) (c : Cfg) : lp T L c = kL T L (rn T (ev T) (lp T) body c) := by subst h; exact lp_eq L c

/-! ### What a loop does not write -/

def Ic.wr : Ic → List Nat
  | .ops l => l.filterMap fun g => g.io.dst
  | .seq a b | .cond _ a b => a.wr ++ b.wr
  | .block _ a | .loop a => a.wr
  | _ => []
def Ic.wrB : Ic → List Nat
  | .ops l => l.filterMap fun g => g.io.wbox
  | .seq a b | .cond _ a b => a.wrB ++ b.wrB
  | .block _ a | .loop a => a.wrB
  | _ => []
def Ic.plain : Ic → Bool
  | .prim _ => false
  | .seq a b | .cond _ a b => a.plain && b.plain
  | .block _ a | .loop a => a.plain
  | _ => true

theorem putO_frame (s : List D) (d : Option Nat) (x : D) (t : Nat) (h : d ≠ some t) : get (putO s d x) t = get s t := by
  cases d with
  | none => rfl
  | some d =>
    simp only [putO, get_put]
    rw [if_neg]
    intro e; subst e; exact h rfl

theorem step_frame {c c' : Cfg} {o : Gi} (h : step T go c o = some c') : (∀ t, o.io.dst ≠ some t → get c'.1.s t = get c.1.s t) ∧ ∀ x, o.io.wbox ≠ some x → getB c'.1.b x = getB c.1.b x := by
  unfold step at h
  split at h
  · obtain ⟨e, he, rfl⟩ := Option.map_eq_some_iff.1 h
    have hw := (act_writes he).1
    refine ⟨fun t ht => putO_frame _ _ _ _ ht, fun x hx => ?_⟩
    simp only [apply]
    split
    · rename_i y hy
      rw [getB_putB, if_neg]
      intro q
      exact hx (by rw [hw y hy, q])
    · rfl
  · simp only [Option.some.injEq] at h
    subst h
    exact ⟨fun t ht => putO_frame _ _ _ _ ht, fun x _ => rfl⟩

theorem runOps_frame : ∀ {l : List Gi} {c c' : Cfg}, runOps T go l c = some c' → (∀ t, t ∉ l.filterMap (fun g => g.io.dst) → get c'.1.s t = get c.1.s t) ∧ ∀ x, x ∉ l.filterMap (fun g => g.io.wbox) → getB c'.1.b x = getB c.1.b x
  | [], c, c', h => by simp only [runOps, Option.some.injEq] at h; subst h; exact ⟨fun _ _ => rfl, fun _ _ => rfl⟩
  | o :: l, c, c', h => by
    simp only [runOps, Option.bind_eq_some_iff] at h
    obtain ⟨c1, h1, h2⟩ := h
    obtain ⟨a1, a2⟩ := step_frame h1
    obtain ⟨b1, b2⟩ := runOps_frame h2
    refine ⟨fun t ht => ?_, fun x hx => ?_⟩
    · rw [b1 t fun q => ht (by rw [List.mem_filterMap] at q ⊢; obtain ⟨g, k1, k2⟩ := q; exact ⟨g, List.mem_cons_of_mem _ k1, k2⟩)]
      exact a1 t fun q => ht (List.mem_filterMap.2 ⟨o, by simp, q⟩)
    · rw [b2 x fun q => hx (by rw [List.mem_filterMap] at q ⊢; obtain ⟨g, k1, k2⟩ := q; exact ⟨g, List.mem_cons_of_mem _ k1, k2⟩)]
      exact a2 x fun q => hx (List.mem_filterMap.2 ⟨o, by simp, q⟩)

/-- A frame and what it was. -/
def Fram (L : Ic) (c c' : Cfg) : Prop := (∀ t, t ∉ L.wr → get c'.1.s t = get c.1.s t) ∧ ∀ x, x ∉ L.wrB → getB c'.1.b x = getB c.1.b x
theorem Fram.refl (L : Ic) (c : Cfg) : Fram L c c := ⟨fun _ _ => rfl, fun _ _ => rfl⟩

theorem run_frame {fuel : Nat} : ∀ {a : Ic} {c c' : Cfg} {e : Ex}, a.plain = true → run T go fuel a c = some (e, c') → Fram a c c'
  | .skip, c, c', e, _, h => by simp only [run, Option.some.injEq, Prod.mk.injEq] at h; obtain ⟨rfl, rfl⟩ := h; exact .refl _ _
  | .exit id, c, c', e, _, h => by simp only [run, Option.some.injEq, Prod.mk.injEq] at h; obtain ⟨rfl, rfl⟩ := h; exact .refl _ _
  | .ret, c, c', e, _, h => by simp only [run, Option.some.injEq, Prod.mk.injEq] at h; obtain ⟨rfl, rfl⟩ := h; exact .refl _ _
  | .prim k, c, c', e, hp, h => by cases hp
  | .ops l, c, c', e, _, h => by
    simp only [run, Option.bind_eq_some_iff, Option.some.injEq, Prod.mk.injEq] at h
    obtain ⟨c1, h1, rfl, rfl⟩ := h
    exact runOps_frame h1
  | .seq a b, c, c', e, hp, h => by
    simp only [Ic.plain, Bool.and_eq_true] at hp
    simp only [run, Option.bind_eq_some_iff] at h
    obtain ⟨⟨e1, c1⟩, h1, h2⟩ := h
    obtain ⟨a1, a2⟩ := run_frame hp.1 h1
    cases e1 with
    | normal =>
      obtain ⟨b1, b2⟩ := run_frame hp.2 h2
      refine ⟨fun t ht => ?_, fun t ht => ?_⟩
      · simp only [Ic.wr, List.mem_append, not_or] at ht
        rw [b1 t ht.2, a1 t ht.1]
      · simp only [Ic.wrB, List.mem_append, not_or] at ht
        rw [b2 t ht.2, a2 t ht.1]
    | ret =>
      simp only [Option.some.injEq, Prod.mk.injEq] at h2
      obtain ⟨_, rfl⟩ := h2
      refine ⟨fun t ht => ?_, fun t ht => ?_⟩
      · simp only [Ic.wr, List.mem_append, not_or] at ht
        exact a1 t ht.1
      · simp only [Ic.wrB, List.mem_append, not_or] at ht
        exact a2 t ht.1
    | exit id =>
      simp only [Option.some.injEq, Prod.mk.injEq] at h2
      obtain ⟨_, rfl⟩ := h2
      refine ⟨fun t ht => ?_, fun t ht => ?_⟩
      · simp only [Ic.wr, List.mem_append, not_or] at ht
        exact a1 t ht.1
      · simp only [Ic.wrB, List.mem_append, not_or] at ht
        exact a2 t ht.1
  | .cond x a b, c, c', e, hp, h => by
    simp only [Ic.plain, Bool.and_eq_true] at hp
    simp only [run] at h
    split at h
    · rename_i t _
      cases t with
      | true =>
        obtain ⟨a1, a2⟩ := run_frame hp.1 h
        refine ⟨fun t ht => ?_, fun t ht => ?_⟩
        · simp only [Ic.wr, List.mem_append, not_or] at ht; exact a1 t ht.1
        · simp only [Ic.wrB, List.mem_append, not_or] at ht; exact a2 t ht.1
      | false =>
        obtain ⟨a1, a2⟩ := run_frame hp.2 h
        refine ⟨fun t ht => ?_, fun t ht => ?_⟩
        · simp only [Ic.wr, List.mem_append, not_or] at ht; exact a1 t ht.2
        · simp only [Ic.wrB, List.mem_append, not_or] at ht; exact a2 t ht.2
    · cases h
  | .block id a, c, c', e, hp, h => by
    simp only [run, Option.bind_eq_some_iff] at h
    obtain ⟨⟨e1, c1⟩, h1, h2⟩ := h
    obtain ⟨a1, a2⟩ := run_frame (show a.plain = true from hp) h1
    cases e1 <;> (simp only [Option.some.injEq, Prod.mk.injEq] at h2; obtain ⟨_, rfl⟩ := h2; exact ⟨a1, a2⟩)
  | .loop a, c, c', e, hp, h => by
    simp only [run] at h
    have key : ∀ n c, iter (run T go fuel a) n c = some (e, c') → Fram a c c' := by
      intro n
      induction n with
      | zero => intro c h; cases h
      | succ n ih =>
        intro c h
        simp only [iter, Option.bind_eq_some_iff] at h
        obtain ⟨⟨e1, c1⟩, h1, h2⟩ := h
        obtain ⟨a1, a2⟩ := run_frame (show a.plain = true from hp) h1
        cases e1 with
        | normal =>
          obtain ⟨b1, b2⟩ := ih c1 h2
          exact ⟨fun t ht => by rw [b1 t ht, a1 t ht], fun t ht => by rw [b2 t ht, a2 t ht]⟩
        | ret => simp only [Option.some.injEq, Prod.mk.injEq] at h2; obtain ⟨_, rfl⟩ := h2; exact ⟨a1, a2⟩
        | exit id => simp only [Option.some.injEq, Prod.mk.injEq] at h2; obtain ⟨_, rfl⟩ := h2; exact ⟨a1, a2⟩
    exact key _ _ h

theorem lp_frame {a : Ic} (hp : a.plain = true) {c c' : Cfg} {e : Ex} (h : lp T a c = some (e, c')) : Fram a c c' := by
  obtain ⟨k, hk⟩ := (lim_iff (lp_mono a c) _).1 h
  exact run_frame (a := .loop a) (T := T) (go := evT T k) (fuel := k) hp hk

/-- A loop's end, and what it left as it was. -/
theorem Stops.fr {L : Ic} (hp : L.plain = true) {W : List Nat} (hW : L.wr = W) {s0 : List D} {b0 : List (Nat × List D)} {st0 : St} {Q : Ex → List D → List (Nat × List D) → St → Prop} (h : Stops (lp T L ⟨⟨s0, b0⟩, st0⟩) Q)
    (F : Option (Ex × Cfg) → Prop) (k : ∀ e s b st, Q e s b st → (∀ t, W.contains t = false → get s t = get s0 t) → F (some (e, ⟨⟨s, b⟩, st⟩))) : F (lp T L ⟨⟨s0, b0⟩, st0⟩) := by
  obtain ⟨e, s, b, st, hr, q⟩ := h
  obtain ⟨f1, _⟩ := lp_frame hp hr
  rw [hr]
  refine k e s b st q fun t ht => f1 t ?_
  rw [hW]
  intro hm
  rw [List.contains_iff_mem.2 hm] at ht
  cases ht
theorem Stops.frB {L : Ic} (hp : L.plain = true) {W WB : List Nat} (hW : L.wr = W) (hB : L.wrB = WB) {s0 : List D} {b0 : List (Nat × List D)} {st0 : St} {Q : Ex → List D → List (Nat × List D) → St → Prop} (h : Stops (lp T L ⟨⟨s0, b0⟩, st0⟩) Q)
    (F : Option (Ex × Cfg) → Prop) (k : ∀ e s b st, Q e s b st → (∀ t, W.contains t = false → get s t = get s0 t) → (∀ t, WB.contains t = false → getB b t = getB b0 t) → F (some (e, ⟨⟨s, b⟩, st⟩))) : F (lp T L ⟨⟨s0, b0⟩, st0⟩) := by
  obtain ⟨e, s, b, st, hr, q⟩ := h
  obtain ⟨f1, f2⟩ := lp_frame hp hr
  rw [hr]
  refine k e s b st q (fun t ht => f1 t ?_) fun t ht => f2 t ?_
  · rw [hW]
    intro hm
    rw [List.contains_iff_mem.2 hm] at ht
    cases ht
  · rw [hB]
    intro hm
    rw [List.contains_iff_mem.2 hm] at ht
    cases ht

end Go.Nt
