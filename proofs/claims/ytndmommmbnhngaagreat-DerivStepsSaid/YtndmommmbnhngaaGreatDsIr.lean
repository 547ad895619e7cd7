/-
  EQUATIONS FOR 'simp' TO RUN CODE OF THE ABSTRACT MACHINE AT SYMBOLIC DATA.
  No condition.
-/
import Derived.Test.YtndmommmbnhngaaGreatNtLim
import Derived.IntWalk
import Derived.Test.YtndmommmbnhngaaGreatChecked
namespace Go.Nt

variable {T : Nat → Option IFunc} {go : GoF}

@[simp] theorem get_zero (x : D) (l : List D) : get (x :: l) 0 = x := (rfl)
@[simp] theorem get_succ (x : D) (l : List D) (n : Nat) : get (x :: l) (n + 1) = get l n := (rfl)
@[simp] theorem get_nil (n : Nat) : get [] n = .undef := by simp [get]

@[simp] theorem getB_nil (n : Nat) : getB [] n = (0, []) := by simp [getB]

attribute [simp] get_put getB_putB putO Opd.ev Io.dst

/-- What is behind an operation. -/
def kE (T : Nat → Option IFunc) (go : GoF) (d : Option Nat) (s : List D) (b : List (Nat × List D)) (st : St) (os : List Gi) : Option Eff → Option Cfg
  | some e => runOps T go os (apply ⟨⟨s, b⟩, st⟩ d e)
  | none => none

@[simp] theorem kE_v (d : Option Nat) (s : List D) (b : List (Nat × List D)) (st : St) (os : List Gi) (v : D) :
    kE T go d s b st os (some (v, none, none)) = runOps T go os ⟨⟨putO s d v, b⟩, st⟩ := (rfl)
@[simp] theorem kE_b (d : Option Nat) (s : List D) (b : List (Nat × List D)) (st : St) (os : List Gi) (v : D) (x : Nat × Nat × List D) :
    kE T go d s b st os (some (v, some x, none)) = runOps T go os ⟨⟨putO s d v, putB b x.1 x.2⟩, st⟩ := (rfl)
@[simp] theorem kE_h (d : Option Nat) (s : List D) (b : List (Nat × List D)) (st st' : St) (os : List Gi) (v : D) :
    kE T go d s b st os (some (v, none, some st')) = runOps T go os ⟨⟨putO s d v, b⟩, st'⟩ := (rfl)

@[simp] theorem runOps_nil (c : Cfg) : runOps T go [] c = some c := (rfl)

@[simp] theorem runOps_g0 (io : Io) (os : List Gi) (s : List D) (b : List (Nat × List D)) (st : St) :
    runOps T go (g0 io :: os) ⟨⟨s, b⟩, st⟩ = kE T go io.dst s b st os (actO T go (Opd.ev s) (getB b) st io) := by
  simp only [runOps, step, Gi.blind, Gi.wanted, if_true, Bool.false_eq_true, if_false]
  cases actO T go (Opd.ev s) (getB b) st io <;> rfl

theorem runOps_g1 (j : Nat) (w t : Bool) (io : Io) (os : List Gi) (s : List D) (b : List (Nat × List D)) (st : St) (h : get s j = .bool t) :
    runOps T go (g1 j w io :: os) ⟨⟨s, b⟩, st⟩ = if t = w then runOps T go (g0 io :: os) ⟨⟨s, b⟩, st⟩ else runOps T go os ⟨⟨putO s io.dst .undef, b⟩, st⟩ := by
  simp only [runOps, step, Gi.blind, Gi.wanted, h, if_true, Bool.false_eq_true, if_false]
  cases t <;> cases w <;> rfl

/-- A guarded operation, by the truth of its guard. -/
def kG (T : Nat → Option IFunc) (go : GoF) (w : Bool) (io : Io) (os : List Gi) (s : List D) (b : List (Nat × List D)) (st : St) : D → Option Cfg
  | .bool t => if t = w then runOps T go (g0 io :: os) ⟨⟨s, b⟩, st⟩ else runOps T go os ⟨⟨putO s io.dst .undef, b⟩, st⟩
  | .lp .. => none
  | _ => runOps T go os ⟨⟨putO s io.dst .undef, b⟩, st⟩

@[simp] theorem runOps_kG (j : Nat) (w : Bool) (io : Io) (os : List Gi) (s : List D) (b : List (Nat × List D)) (st : St) :
    runOps T go (g1 j w io :: os) ⟨⟨s, b⟩, st⟩ = kG T go w io os s b st (get s j) := by
  cases h : get s j with
  | bool t => exact runOps_g1 j w t io os s b st h
  | _ => simp only [runOps, step, Gi.blind, Gi.wanted, h]; rfl
@[simp] theorem kG_u (w : Bool) (io : Io) (os : List Gi) (s : List D) (b : List (Nat × List D)) (st : St) : kG T go w io os s b st (.tup []) = runOps T go os ⟨⟨putO s io.dst .undef, b⟩, st⟩ := (rfl)
@[simp] theorem kG_tt (io : Io) (os : List Gi) (s : List D) (b : List (Nat × List D)) (st : St) : kG T go true io os s b st (.bool true) = runOps T go (g0 io :: os) ⟨⟨s, b⟩, st⟩ := (rfl)
@[simp] theorem kG_ff (io : Io) (os : List Gi) (s : List D) (b : List (Nat × List D)) (st : St) : kG T go false io os s b st (.bool false) = runOps T go (g0 io :: os) ⟨⟨s, b⟩, st⟩ := (rfl)
@[simp] theorem kG_tf (io : Io) (os : List Gi) (s : List D) (b : List (Nat × List D)) (st : St) : kG T go true io os s b st (.bool false) = runOps T go os ⟨⟨putO s io.dst .undef, b⟩, st⟩ := (rfl)
@[simp] theorem kG_ft (io : Io) (os : List Gi) (s : List D) (b : List (Nat × List D)) (st : St) : kG T go false io os s b st (.bool true) = runOps T go os ⟨⟨putO s io.dst .undef, b⟩, st⟩ := (rfl)

@[simp] theorem kseq_n (k : Cfg → Option (Ex × Cfg)) (c : Cfg) : kseq k (some (.normal, c)) = k c := (rfl)
@[simp] theorem kseq_r (k : Cfg → Option (Ex × Cfg)) (c : Cfg) : kseq k (some (.ret, c)) = some (.ret, c) := (rfl)
@[simp] theorem kseq_e (k : Cfg → Option (Ex × Cfg)) (id : Nat) (c : Cfg) : kseq k (some (.exit id, c)) = some (.exit id, c) := (rfl)
@[simp] theorem kblock_n (id : Nat) (c : Cfg) : kblock id (some (.normal, c)) = some (.normal, c) := (rfl)
@[simp] theorem kblock_r (id : Nat) (c : Cfg) : kblock id (some (.ret, c)) = some (.ret, c) := (rfl)
@[simp] theorem kblock_e (id id' : Nat) (c : Cfg) : kblock id (some (.exit id', c)) = some (if id' = id then .normal else .exit id', c) := (rfl)

variable {lp' : Ic → Cfg → Option (Ex × Cfg)}
@[simp] theorem rn_skip (c : Cfg) : rn T go lp' .skip c = some (.normal, c) := (rfl)
@[simp] theorem rn_ops (l : List Gi) (c : Cfg) : rn T go lp' (.ops l) c = (runOps T go l c).map fun c' => (.normal, c') := (rfl)
@[simp] theorem rn_seq (a b : Ic) (c : Cfg) : rn T go lp' (.seq a b) c = kseq (rn T go lp' b) (rn T go lp' a c) := (rfl)
@[simp] theorem rn_block (id : Nat) (a : Ic) (c : Cfg) : rn T go lp' (.block id a) c = kblock id (rn T go lp' a c) := (rfl)
@[simp] theorem rn_loop (a : Ic) (c : Cfg) : rn T go lp' (.loop a) c = lp' a c := (rfl)
@[simp] theorem rn_exit (id : Nat) (c : Cfg) : rn T go lp' (.exit id) c = some (.exit id, c) := (rfl)
def kP : Option (List D × St) → Option (Ex × Cfg)
  | some r => some (.normal, (⟨r.1, []⟩, r.2))
  | none => none
@[simp] theorem rn_prim (k : Nat) (s : List D) (st : St) : rn T go lp' (.prim k) ⟨⟨s, []⟩, st⟩ = kP (primD k s st) := by simp only [rn]; cases primD k s st <;> rfl
@[simp] theorem kP_some (s : List D) (st : St) : kP (some (s, st)) = some (.normal, (⟨s, []⟩, st)) := (rfl)
@[simp] theorem rn_ret (c : Cfg) : rn T go lp' .ret c = some (.ret, c) := (rfl)
def kC (T : Nat → Option IFunc) (go : GoF) (lp' : Ic → Cfg → Option (Ex × Cfg)) (a b : Ic) (c : Cfg) : D → Option (Ex × Cfg)
  | .bool t => if t then rn T go lp' a c else rn T go lp' b c
  | _ => none
@[simp] theorem rn_cond (x : Opd) (a b : Ic) (c : Cfg) : rn T go lp' (.cond x a b) c = kC T go lp' a b c (x.ev c.1.s) := by
  simp only [rn]; cases x.ev c.1.s <;> rfl
@[simp] theorem kC_t (a b : Ic) (c : Cfg) : kC T go lp' a b c (.bool true) = rn T go lp' a c := (rfl)
@[simp] theorem kC_f (a b : Ic) (c : Cfg) : kC T go lp' a b c (.bool false) = rn T go lp' b c := (rfl)

@[simp] theorem kfin_r (res : List Rv) (c : Cfg) : kfin res (some (.ret, c)) = finish res c := (rfl)
@[simp] theorem kfin_n (res : List Rv) (c : Cfg) : kfin res (some (.normal, c)) = finish res c := (rfl)

attribute [simp] actO val fillD

def kAgg : Option (List D × St) → Option (D × St)
  | some r => some (.agg r.1, r.2)
  | none => none
@[simp] theorem kAgg_some (ds : List D) (st : St) : kAgg (some (ds, st)) = some (.agg ds, st) := (rfl)
def kTup : Option (List D × St) → Option (D × St)
  | some r => some (.tup r.1, r.2)
  | none => none
@[simp] theorem kTup_some (ds : List D) (st : St) : kTup (some (ds, st)) = some (.tup ds, st) := (rfl)
def kfzL2 (d : D) : Option (List D × St) → Option (List D × St)
  | some r => some (d :: r.1, r.2)
  | none => none
@[simp] theorem kfzL2_some (d : D) (ds : List D) (st : St) : kfzL2 d (some (ds, st)) = some (d :: ds, st) := (rfl)
def kfzL (h : St → D → Option (D × St)) (ds : List D) : Option (D × St) → Option (List D × St)
  | some r => (fzL h r.2 ds).bind fun q => some (r.1 :: q.1, q.2)
  | none => none
def kPA (ds : List D) : Option (D × St) → Option (List D × St)
  | some r => if r.1.pure then (pureArgs r.2 ds).bind fun q => some (r.1 :: q.1, q.2) else none
  | none => none
def kPt (o : Nat) (n : Option Nat) : Option D → Option D
  | some d => part d.cells o n
  | none => none
def kHp (v s x o : Nat) (n : Option Nat) : Ob → Option D
  | .cells _ sz v' _ _ el => if v' = v ∧ sz = s then (el[x]?).bind fun d => part d.cells o n else none
  | _ => none
def kSt (b g : Nat) : Option (List D) → Option Eff
  | some cs => some (.undef, some (b, g, cs), none)
  | none => none
def kHs (st : St) (i v s x' o : Nat) (x : D) : Ob → Option Eff
  | .cells true sz' ver' mod false elems =>
    if ver' = v ∧ sz' = s then (elems[x']?).bind fun d => (splice d.cells o x.cells).bind fun cs => (rewrap d cs).bind fun d' =>
      some (.undef, none, some (List.set st i (.cells true s v (mod + 1) false (elems.set x' d')))) else none
  | .cells false .. =>
    (fz1 st x).bind fun r =>
      if r.1.pure then
        match St.at r.2 i with
        | .cells false sz' ver' mod false elems =>
          if ver' = v ∧ sz' = s then (elems[x']?).bind fun d => (splice d.cells o r.1.cells).bind fun cs => (rewrap d cs).bind fun d' =>
            some (.undef, none, some (List.set r.2 i (.cells false s v (mod + 1) false (elems.set x' d')))) else none
        | _ => none
      else none
  | _ => none
def kIp : Option D → Option D
  | some d => some (.iptr d)
  | none => none
def kRL : Option D → Option (List D) → Option (List D)
  | some d, some ds => some (d :: ds)
  | _, _ => none
def kF (st : St) : Option (List D) → Option (D × St)
  | some [d] => some (d, st)
  | some ds => some (.tup ds, st)
  | none => none

@[simp] theorem cells_bool (x : Bool) : D.cells (.bool x) = [.bool x] := (rfl)
@[simp] theorem fits_bool (x : Bool) : D.fits (.bool x) none = true := (rfl)
@[simp] theorem okv_bool (x : Bool) : D.okv (.bool x) = true := (rfl)
@[simp] theorem pure0_bool (x : Bool) : D.pure0 (.bool x) = true := (rfl)
@[simp] theorem pureF_bool (x : Bool) : D.pureF (.bool x) = true := (rfl)
@[simp] theorem pure1_bool (x : Bool) : D.pure1 (.bool x) = true := (rfl)
@[simp] theorem pure_bool (x : Bool) : D.pure (.bool x) = true := (rfl)
@[simp] theorem pureT_bool (x : Bool) : D.pureT (.bool x) = true := (rfl)
@[simp] theorem fz0_bool (st : St) (x : Bool) : fz0 st (.bool x) = some (.bool x, st) := (rfl)
@[simp] theorem fz1_bool (st : St) (x : Bool) : fz1 st (.bool x) = some (.bool x, st) := (rfl)
@[simp] theorem fz_bool (st : St) (x : Bool) : fz st (.bool x) = some (.bool x, st) := (rfl)
@[simp] theorem cells_int (k : IntKind) (x : Int) : D.cells (.int k x) = [.int k x] := (rfl)
@[simp] theorem fits_int (k : IntKind) (x : Int) : D.fits (.int k x) none = true := (rfl)
@[simp] theorem okv_int (k : IntKind) (x : Int) : D.okv (.int k x) = true := (rfl)
@[simp] theorem pure0_int (k : IntKind) (x : Int) : D.pure0 (.int k x) = true := (rfl)
@[simp] theorem pureF_int (k : IntKind) (x : Int) : D.pureF (.int k x) = true := (rfl)
@[simp] theorem pure1_int (k : IntKind) (x : Int) : D.pure1 (.int k x) = true := (rfl)
@[simp] theorem pure_int (k : IntKind) (x : Int) : D.pure (.int k x) = true := (rfl)
@[simp] theorem pureT_int (k : IntKind) (x : Int) : D.pureT (.int k x) = true := (rfl)
@[simp] theorem fz0_int (st : St) (k : IntKind) (x : Int) : fz0 st (.int k x) = some (.int k x, st) := (rfl)
@[simp] theorem fz1_int (st : St) (k : IntKind) (x : Int) : fz1 st (.int k x) = some (.int k x, st) := (rfl)
@[simp] theorem fz_int (st : St) (k : IntKind) (x : Int) : fz st (.int k x) = some (.int k x, st) := (rfl)
@[simp] theorem cells_str (x : List UInt8) : D.cells (.str x) = [.str x] := (rfl)
@[simp] theorem fits_str (x : List UInt8) : D.fits (.str x) none = true := (rfl)
@[simp] theorem okv_str (x : List UInt8) : D.okv (.str x) = true := (rfl)
@[simp] theorem pure0_str (x : List UInt8) : D.pure0 (.str x) = true := (rfl)
@[simp] theorem pureF_str (x : List UInt8) : D.pureF (.str x) = true := (rfl)
@[simp] theorem pure1_str (x : List UInt8) : D.pure1 (.str x) = true := (rfl)
@[simp] theorem pure_str (x : List UInt8) : D.pure (.str x) = true := (rfl)
@[simp] theorem pureT_str (x : List UInt8) : D.pureT (.str x) = true := (rfl)
@[simp] theorem fz0_str (st : St) (x : List UInt8) : fz0 st (.str x) = some (.str x, st) := (rfl)
@[simp] theorem fz1_str (st : St) (x : List UInt8) : fz1 st (.str x) = some (.str x, st) := (rfl)
@[simp] theorem fz_str (st : St) (x : List UInt8) : fz st (.str x) = some (.str x, st) := (rfl)
@[simp] theorem cells_nilp : D.cells (.nilp) = [.nilp] := (rfl)
@[simp] theorem fits_nilp : D.fits (.nilp) none = true := (rfl)
@[simp] theorem okv_nilp : D.okv (.nilp) = true := (rfl)
@[simp] theorem pure0_nilp : D.pure0 (.nilp) = true := (rfl)
@[simp] theorem pureF_nilp : D.pureF (.nilp) = true := (rfl)
@[simp] theorem pure1_nilp : D.pure1 (.nilp) = true := (rfl)
@[simp] theorem pure_nilp : D.pure (.nilp) = true := (rfl)
@[simp] theorem pureT_nilp : D.pureT (.nilp) = true := (rfl)
@[simp] theorem fz0_nilp (st : St) : fz0 st (.nilp) = some (.nilp, st) := (rfl)
@[simp] theorem fz1_nilp (st : St) : fz1 st (.nilp) = some (.nilp, st) := (rfl)
@[simp] theorem fz_nilp (st : St) : fz st (.nilp) = some (.nilp, st) := (rfl)
@[simp] theorem cells_iptr (x : D) : D.cells (.iptr x) = [.iptr x] := (rfl)
@[simp] theorem fits_iptr (x : D) : D.fits (.iptr x) none = true := (rfl)
@[simp] theorem okv_iptr (x : D) : D.okv (.iptr x) = true := (rfl)
@[simp] theorem pure0_iptr (x : D) : D.pure0 (.iptr x) = true := (rfl)
@[simp] theorem pureF_iptr (x : D) : D.pureF (.iptr x) = true := (rfl)
@[simp] theorem pure1_iptr (x : D) : D.pure1 (.iptr x) = true := (rfl)
@[simp] theorem pure_iptr (x : D) : D.pure (.iptr x) = true := (rfl)
@[simp] theorem pureT_iptr (x : D) : D.pureT (.iptr x) = true := (rfl)
@[simp] theorem fz0_iptr (st : St) (x : D) : fz0 st (.iptr x) = some (.iptr x, st) := (rfl)
@[simp] theorem fz1_iptr (st : St) (x : D) : fz1 st (.iptr x) = some (.iptr x, st) := (rfl)
@[simp] theorem fz_iptr (st : St) (x : D) : fz st (.iptr x) = some (.iptr x, st) := (rfl)
@[simp] theorem cells_nils : D.cells (.nils) = [.nils] := (rfl)
@[simp] theorem fits_nils : D.fits (.nils) none = true := (rfl)
@[simp] theorem okv_nils : D.okv (.nils) = true := (rfl)
@[simp] theorem pure0_nils : D.pure0 (.nils) = true := (rfl)
@[simp] theorem pureF_nils : D.pureF (.nils) = true := (rfl)
@[simp] theorem pure1_nils : D.pure1 (.nils) = true := (rfl)
@[simp] theorem pure_nils : D.pure (.nils) = true := (rfl)
@[simp] theorem pureT_nils : D.pureT (.nils) = true := (rfl)
@[simp] theorem fz0_nils (st : St) : fz0 st (.nils) = some (.nils, st) := (rfl)
@[simp] theorem fz1_nils (st : St) : fz1 st (.nils) = some (.nils, st) := (rfl)
@[simp] theorem fz_nils (st : St) : fz st (.nils) = some (.nils, st) := (rfl)
@[simp] theorem cells_sl (k : Nat) (fl : Bool) (ds : List D) : D.cells (.sl k fl ds) = [.sl k fl ds] := (rfl)
@[simp] theorem fits_sl (k : Nat) (fl : Bool) (ds : List D) : D.fits (.sl k fl ds) none = true := (rfl)
@[simp] theorem okv_sl (k : Nat) (fl : Bool) (ds : List D) : D.okv (.sl k fl ds) = true := (rfl)
@[simp] theorem pure0_sl (k : Nat) (fl : Bool) (ds : List D) : D.pure0 (.sl k fl ds) = true := (rfl)
@[simp] theorem pureF_sl (k : Nat) (fl : Bool) (ds : List D) : D.pureF (.sl k fl ds) = true := (rfl)
@[simp] theorem pure1_sl (k : Nat) (fl : Bool) (ds : List D) : D.pure1 (.sl k fl ds) = true := (rfl)
@[simp] theorem pure_sl (k : Nat) (fl : Bool) (ds : List D) : D.pure (.sl k fl ds) = true := (rfl)
@[simp] theorem pureT_sl (k : Nat) (fl : Bool) (ds : List D) : D.pureT (.sl k fl ds) = true := (rfl)
@[simp] theorem fz0_sl (st : St) (k : Nat) (fl : Bool) (ds : List D) : fz0 st (.sl k fl ds) = some (.sl k fl ds, st) := (rfl)
@[simp] theorem fz1_sl (st : St) (k : Nat) (fl : Bool) (ds : List D) : fz1 st (.sl k fl ds) = some (.sl k fl ds, st) := (rfl)
@[simp] theorem fz_sl (st : St) (k : Nat) (fl : Bool) (ds : List D) : fz st (.sl k fl ds) = some (.sl k fl ds, st) := (rfl)
@[simp] theorem cells_nilf : D.cells (.nilf) = [.nilf] := (rfl)
@[simp] theorem fits_nilf : D.fits (.nilf) none = true := (rfl)
@[simp] theorem okv_nilf : D.okv (.nilf) = true := (rfl)
@[simp] theorem pure0_nilf : D.pure0 (.nilf) = true := (rfl)
@[simp] theorem pureF_nilf : D.pureF (.nilf) = true := (rfl)
@[simp] theorem pure1_nilf : D.pure1 (.nilf) = true := (rfl)
@[simp] theorem pure_nilf : D.pure (.nilf) = true := (rfl)
@[simp] theorem pureT_nilf : D.pureT (.nilf) = true := (rfl)
@[simp] theorem fz0_nilf (st : St) : fz0 st (.nilf) = some (.nilf, st) := (rfl)
@[simp] theorem fz1_nilf (st : St) : fz1 st (.nilf) = some (.nilf, st) := (rfl)
@[simp] theorem fz_nilf (st : St) : fz st (.nilf) = some (.nilf, st) := (rfl)
@[simp] theorem cells_nilm : D.cells (.nilm) = [.nilm] := (rfl)
@[simp] theorem fits_nilm : D.fits (.nilm) none = true := (rfl)
@[simp] theorem okv_nilm : D.okv (.nilm) = true := (rfl)
@[simp] theorem pure0_nilm : D.pure0 (.nilm) = true := (rfl)
@[simp] theorem pureF_nilm : D.pureF (.nilm) = true := (rfl)
@[simp] theorem pure1_nilm : D.pure1 (.nilm) = true := (rfl)
@[simp] theorem pure_nilm : D.pure (.nilm) = true := (rfl)
@[simp] theorem pureT_nilm : D.pureT (.nilm) = true := (rfl)
@[simp] theorem fz0_nilm (st : St) : fz0 st (.nilm) = some (.nilm, st) := (rfl)
@[simp] theorem fz1_nilm (st : St) : fz1 st (.nilm) = some (.nilm, st) := (rfl)
@[simp] theorem fz_nilm (st : St) : fz st (.nilm) = some (.nilm, st) := (rfl)
@[simp] theorem cells_nili : D.cells (.nili) = [.nili] := (rfl)
@[simp] theorem fits_nili : D.fits (.nili) none = true := (rfl)
@[simp] theorem okv_nili : D.okv (.nili) = true := (rfl)
@[simp] theorem pure0_nili : D.pure0 (.nili) = true := (rfl)
@[simp] theorem pureF_nili : D.pureF (.nili) = true := (rfl)
@[simp] theorem pure1_nili : D.pure1 (.nili) = true := (rfl)
@[simp] theorem pure_nili : D.pure (.nili) = true := (rfl)
@[simp] theorem pureT_nili : D.pureT (.nili) = true := (rfl)
@[simp] theorem fz0_nili (st : St) : fz0 st (.nili) = some (.nili, st) := (rfl)
@[simp] theorem fz1_nili (st : St) : fz1 st (.nili) = some (.nili, st) := (rfl)
@[simp] theorem fz_nili (st : St) : fz st (.nili) = some (.nili, st) := (rfl)
@[simp] theorem cells_agg (cs : List D) : D.cells (.agg cs) = cs := (rfl)
@[simp] theorem cells_hp (i v s x o : Nat) : D.cells (.hp i v s x o) = [.hp i v s x o] := (rfl)
@[simp] theorem cells_rs (i v s o l : Nat) (fl : Bool) : D.cells (.rs i v s o l fl) = [.rs i v s o l fl] := (rfl)
@[simp] theorem cells_fn (f : Nat) (a b : List D) : D.cells (.fn f a b) = [.fn f a b] := (rfl)
@[simp] theorem cells_mp (f : Nat) : D.cells (.mp f) = [.mp f] := (rfl)
@[simp] theorem fits_agg (cs : List D) (n : Nat) : D.fits (.agg cs) (some n) = (cs.length == n) := (rfl)
@[simp] theorem fits_hp (i v s x o : Nat) : D.fits (.hp i v s x o) none = true := (rfl)
@[simp] theorem fits_rs (i v s o l : Nat) (fl : Bool) : D.fits (.rs i v s o l fl) none = true := (rfl)
@[simp] theorem fits_fn (f : Nat) (a b : List D) : D.fits (.fn f a b) none = true := (rfl)
@[simp] theorem fits_mp (f : Nat) : D.fits (.mp f) none = true := (rfl)
@[simp] theorem okv_agg (cs : List D) : D.okv (.agg cs) = true := (rfl)
@[simp] theorem okv_hp (i v s x o : Nat) : D.okv (.hp i v s x o) = true := (rfl)
@[simp] theorem okv_rs (i v s o l : Nat) (fl : Bool) : D.okv (.rs i v s o l fl) = true := (rfl)
@[simp] theorem okv_fn (f : Nat) (a b : List D) : D.okv (.fn f a b) = true := (rfl)
@[simp] theorem okv_mp (f : Nat) : D.okv (.mp f) = true := (rfl)
@[simp] theorem pureF_agg (cs : List D) : D.pureF (.agg cs) = cs.all D.pure0 := (rfl)
@[simp] theorem pure_agg (cs : List D) : D.pure (.agg cs) = cs.all D.pure1 := (rfl)
@[simp] theorem pureT_agg (cs : List D) : D.pureT (.agg cs) = cs.all D.pure1 := (rfl)
@[simp] theorem pureT_tup (cs : List D) : D.pureT (.tup cs) = cs.all D.pure := (rfl)
@[simp] theorem pure0_fn (f : Nat) (a b : List D) : D.pure0 (.fn f a b) = (a.isEmpty && b.isEmpty) := (rfl)
@[simp] theorem pure1_fn (f : Nat) (a b : List D) : D.pure1 (.fn f a b) = (a.all D.pureF && b.all D.pure0) := (rfl)
@[simp] theorem pure_fn (f : Nat) (a b : List D) : D.pure (.fn f a b) = (a.all D.pureF && b.all D.pure0) := (rfl)
@[simp] theorem pureT_fn (f : Nat) (a b : List D) : D.pureT (.fn f a b) = (a.all D.pureF && b.all D.pure0) := (rfl)
@[simp] theorem fz0_fn (st : St) (f : Nat) (a b : List D) : fz0 st (.fn f a b) = some (.fn f a b, st) := (rfl)
@[simp] theorem fz1_fn (st : St) (f : Nat) (a b : List D) : fz1 st (.fn f a b) = some (.fn f a b, st) := (rfl)
@[simp] theorem fz_fn (st : St) (f : Nat) (a b : List D) : fz st (.fn f a b) = some (.fn f a b, st) := (rfl)
@[simp] theorem fz1_agg (st : St) (cs : List D) : fz1 st (.agg cs) = kAgg (fzL fz0 st cs) := by simp only [fz1]; cases fzL fz0 st cs <;> rfl
@[simp] theorem fz_agg (st : St) (cs : List D) : fz st (.agg cs) = kAgg (fzL fz0 st cs) := by simp only [fz, fz1]; cases fzL fz0 st cs <;> rfl
@[simp] theorem fz_tup (st : St) (cs : List D) : fz st (.tup cs) = kTup (fzL fz1 st cs) := by simp only [fz]; cases fzL fz1 st cs <;> rfl
@[simp] theorem fz1_rs (st : St) (i v s o l : Nat) (fl : Bool) : fz1 st (.rs i v s o l fl) = fz0 st (.rs i v s o l fl) := (rfl)
@[simp] theorem fz_rs (st : St) (i v s o l : Nat) (fl : Bool) : fz st (.rs i v s o l fl) = fz0 st (.rs i v s o l fl) := (rfl)
@[simp] theorem fzL_nil (h : St → D → Option (D × St)) (st : St) : fzL h st [] = some ([], st) := (rfl)
@[simp] theorem fzL_cons (h : St → D → Option (D × St)) (st : St) (d : D) (ds : List D) : fzL h st (d :: ds) = kfzL h ds (h st d) := by simp only [fzL]; cases h st d <;> rfl
@[simp] theorem kfzL_some (h : St → D → Option (D × St)) (st : St) (d : D) (ds : List D) : kfzL h ds (some (d, st)) = kfzL2 d (fzL h st ds) := by simp only [kfzL]; cases fzL h st ds <;> rfl
@[simp] theorem pureArgs_nil (st : St) : pureArgs st [] = some ([], st) := (rfl)
@[simp] theorem pureArgs_cons (st : St) (d : D) (ds : List D) : pureArgs st (d :: ds) = kPA ds (fz1 st d) := by simp only [pureArgs]; cases fz1 st d <;> rfl
@[simp] theorem kPA_some (st : St) (d : D) (ds : List D) : kPA ds (some (d, st)) = if d.pure then kfzL2 d (pureArgs st ds) else none := by simp only [kPA]; split <;> first | rfl | (cases pureArgs st ds <;> rfl)
@[simp] theorem part_none (cs : List D) (o : Nat) : part cs o none = cs[o]? := (rfl)
@[simp] theorem part_some (cs : List D) (o n : Nat) : part cs o (some n) = if o + n ≤ cs.length then some (.agg ((cs.drop o).take n)) else none := (rfl)
@[simp] theorem loadD_lp (rb : Nat → Nat × List D) (st : St) (b' g o : Nat) (n : Option Nat) (b : Nat) (q : Bool) : loadD rb st (.lp b' g o) n (some b) q = if b' = b ∧ (rb b).1 = g ∧ g ≠ 0 then part (rb b).2 o n else none := (rfl)
@[simp] theorem loadD_iptr (rb : Nat → Nat × List D) (st : St) (d : D) (n : Option Nat) (q : Bool) : loadD rb st (.iptr d) n none q = if d.fits n then some d else none := (rfl)
@[simp] theorem loadD_hp (rb : Nat → Nat × List D) (st : St) (i v s x o : Nat) (n : Option Nat) : loadD rb st (.hp i v s x o) n none false = kHp v s x o n (St.at st i) := by simp only [loadD]; cases St.at st i <;> rfl
@[simp] theorem kHp_cells (v s x o : Nat) (n : Option Nat) (bx : Bool) (sz v' m : Nat) (fr : Bool) (el : List D) : kHp v s x o n (.cells bx sz v' m fr el) = if v' = v ∧ sz = s then kPt o n el[x]? else none := by simp only [kHp]; split <;> first | rfl | (cases el[x]? <;> rfl)
@[simp] theorem kPt_some (o : Nat) (n : Option Nat) (d : D) : kPt o n (some d) = part d.cells o n := (rfl)
@[simp] theorem storeD_lp (rb : Nat → Nat × List D) (st : St) (b' g o : Nat) (x : D) (n : Nat) (b : Nat) : storeD rb st (.lp b' g o) x n (some b) = if x.cells.length = n ∧ x.okv = true then (if b' = b ∧ (rb b).1 = g ∧ g ≠ 0 then kSt b g (splice (rb b).2 o x.cells) else none) else none := by simp only [storeD]; split <;> first | rfl | (split <;> first | rfl | (cases splice (rb b).2 o x.cells <;> rfl))
@[simp] theorem kSt_some (b g : Nat) (cs : List D) : kSt b g (some cs) = some (.undef, some (b, g, cs), none) := (rfl)
@[simp] theorem storeD_hp (rb : Nat → Nat × List D) (st : St) (i v s x' o : Nat) (x : D) (n : Nat) : storeD rb st (.hp i v s x' o) x n none = if x.cells.length = n ∧ x.okv = true then kHs st i v s x' o x (St.at st i) else none := by simp only [storeD]; split <;> first | rfl | (cases St.at st i with | map => rfl | cells bx _ _ _ fr => cases bx <;> cases fr <;> rfl)
@[simp] theorem splice_ (cs : List D) (o : Nat) (xs : List D) : splice cs o xs = if o + xs.length ≤ cs.length then some (cs.take o ++ xs ++ cs.drop (o + xs.length)) else none := (rfl)
@[simp] theorem fldD_lp (b g o off : Nat) (n : Option Nat) : fldD (.lp b g o) off n = if g = 0 then none else some (.lp b g (o + off)) := (rfl)
@[simp] theorem fldD_hp (i v s x o off : Nat) (n : Option Nat) : fldD (.hp i v s x o) off n = some (.hp i v s x (o + off)) := (rfl)
@[simp] theorem fldD_iptr (d : D) (off : Nat) (n : Option Nat) : fldD (.iptr d) off n = kIp (part d.cells off n) := by simp only [fldD]; cases part d.cells off n <;> rfl
@[simp] theorem kIp_some (d : D) : kIp (some d) = some (.iptr d) := (rfl)
@[simp] theorem idxAD_rs (i v s o l : Nat) (fl : Bool) (x sz : Nat) (n : Option Nat) : idxAD (.rs i v s o l fl) x sz n none = if s = sz ∧ x < l then some (.hp i v sz (o + x) 0) else none := by simp only [idxAD]
@[simp] theorem binD_int (op : BinOp) (k k' : IntKind) (a b : Int) : binD op (.int k a) (.int k' b) = intD op k k' a b := (rfl)
@[simp] theorem binD_str (op : BinOp) (a b : List UInt8) : binD op (.str a) (.str b) = strD op a b := (rfl)
@[simp] theorem eqnD_bool (a b : Bool) : eqnD .bool (.bool a) (.bool b) = some (a == b) := (rfl)
@[simp] theorem eqnD_ptr_nn : eqnD .ptr .nilp .nilp = some true := (rfl)
@[simp] theorem nilD_ptr_n : nilD .ptr .nilp = some true := (rfl)
@[simp] theorem eqnD_ptr_0 (d : D) : eqnD .ptr (.iptr d) .nilp = some false := (rfl)
@[simp] theorem nilD_ptr_0 (d : D) : nilD .ptr (.iptr d) = some false := (rfl)
@[simp] theorem eqnD_ptr_1 (i v s x o : Nat) : eqnD .ptr (.hp i v s x o) .nilp = some false := (rfl)
@[simp] theorem nilD_ptr_1 (i v s x o : Nat) : nilD .ptr (.hp i v s x o) = some false := (rfl)
@[simp] theorem eqnD_slice_nn : eqnD .slice .nils .nils = some true := (rfl)
@[simp] theorem nilD_slice_n : nilD .slice .nils = some true := (rfl)
@[simp] theorem eqnD_slice_0 (k : Nat) (fl : Bool) (ds : List D) : eqnD .slice (.sl k fl ds) .nils = some false := (rfl)
@[simp] theorem nilD_slice_0 (k : Nat) (fl : Bool) (ds : List D) : nilD .slice (.sl k fl ds) = some false := (rfl)
@[simp] theorem eqnD_slice_1 (i v s o l : Nat) (fl : Bool) : eqnD .slice (.rs i v s o l fl) .nils = some false := (rfl)
@[simp] theorem nilD_slice_1 (i v s o l : Nat) (fl : Bool) : nilD .slice (.rs i v s o l fl) = some false := (rfl)
@[simp] theorem eqnD_func_nn : eqnD .func .nilf .nilf = some true := (rfl)
@[simp] theorem nilD_func_n : nilD .func .nilf = some true := (rfl)
@[simp] theorem eqnD_func_0 (f : Nat) (a b : List D) : eqnD .func (.fn f a b) .nilf = some false := (rfl)
@[simp] theorem nilD_func_0 (f : Nat) (a b : List D) : nilD .func (.fn f a b) = some false := (rfl)
@[simp] theorem eqnD_map_nn : eqnD .map .nilm .nilm = some true := (rfl)
@[simp] theorem nilD_map_n : nilD .map .nilm = some true := (rfl)
@[simp] theorem eqnD_map_0 (f : Nat) : eqnD .map (.mp f) .nilm = some false := (rfl)
@[simp] theorem nilD_map_0 (f : Nat) : nilD .map (.mp f) = some false := (rfl)
@[simp] theorem unD_neg (k : IntKind) (n : Int) : unD .neg (.int k n) = some (.int k (k.wrap (0 - n))) := (rfl)
@[simp] theorem unD_not (b : Bool) : unD .not (.bool b) = some (.bool !b) := (rfl)
@[simp] theorem lenD_str (st : St) (s : List UInt8) (q : Bool) : lenD st .str (.str s) q = some (.i s.length) := (rfl)
@[simp] theorem lenD_nils (st : St) (q : Bool) : lenD st .slice .nils q = some (.i 0) := (rfl)
@[simp] theorem lenD_nilm (st : St) (q : Bool) : lenD st .map .nilm q = some (.i 0) := (rfl)
@[simp] theorem lenD_rs (st : St) (i v s o l : Nat) (fl : Bool) (q : Bool) : lenD st .slice (.rs i v s o l fl) q = some (.i l) := (rfl)
@[simp] theorem resD_t (c : Cfg) (n : Nat) : resD c (.t n) = if (get c.1.s n).okv then some (get c.1.s n) else none := (rfl)
@[simp] theorem resD_cell (c : Cfg) (n : Nat) (sz l : Option Nat) : resD c (.cell n sz l) = loadD (getB c.1.b) c.2 (get c.1.s n) sz l false := (rfl)
@[simp] theorem resL_nil (c : Cfg) : resL c [] = some [] := (rfl)
@[simp] theorem resL_cons (c : Cfg) (r : Rv) (rs : List Rv) : resL c (r :: rs) = kRL (resD c r) (resL c rs) := by simp only [resL]; cases resD c r <;> cases resL c rs <;> rfl
@[simp] theorem kRL_some (d : D) (ds : List D) : kRL (some d) (some ds) = some (d :: ds) := (rfl)
@[simp] theorem finish_ (res : List Rv) (c : Cfg) : finish res c = kF c.2 (resL c res) := by simp only [finish]; rcases resL c res with _ | _ | ⟨d, _ | ⟨e, r⟩⟩ <;> rfl
@[simp] theorem kF_0 (st : St) : kF st (some []) = some (.tup [], st) := (rfl)
@[simp] theorem kF_1 (st : St) (d : D) : kF st (some [d]) = some (d, st) := (rfl)
@[simp] theorem kF_2 (st : St) (d e : D) (ds : List D) : kF st (some (d :: e :: ds)) = some (.tup (d :: e :: ds), st) := (rfl)
@[simp] theorem bound_none (a b : Nat) : boundD none a b = some a := (rfl)
@[simp] theorem bound_int (k : IntKind) (i : Int) (a b : Nat) : boundD (some (.int k i)) a b = if 0 ≤ i ∧ i ≤ b then some i.toNat else none := (rfl)
@[simp] theorem slcTy_str (s : List UInt8) : slcTy none (.str s) = true := (rfl)
@[simp] theorem slcTy_nils (k : Nat) : slcTy (some k) .nils = true := (rfl)
@[simp] theorem slcTy_sl (k k' : Nat) (fl : Bool) (ds : List D) : slcTy (some k) (.sl k' fl ds) = (k == k') := (rfl)
@[simp] theorem slcTy_rs (k i v s o l : Nat) (fl : Bool) : slcTy (some k) (.rs i v s o l fl) = (k == s) := (rfl)

@[simp] theorem intD_add (k : IntKind) (a b : Int) : intD .add k k a b = some (.int k (k.wrap (a + b))) := by simp [intD]
@[simp] theorem intD_sub (k : IntKind) (a b : Int) : intD .sub k k a b = some (.int k (k.wrap (a - b))) := by simp [intD]
@[simp] theorem intD_mul (k : IntKind) (a b : Int) : intD .mul k k a b = some (.int k (k.wrap (a * b))) := by simp [intD]
@[simp] theorem intD_eql (k : IntKind) (a b : Int) : intD .eql k k a b = some (.bool (decide (a = b))) := by simp [intD]; rfl
@[simp] theorem intD_neq (k : IntKind) (a b : Int) : intD .neq k k a b = some (.bool (!decide (a = b))) := by simp [intD]; rfl
@[simp] theorem intD_lss (k : IntKind) (a b : Int) : intD .lss k k a b = some (.bool (decide (a < b))) := by simp [intD]
@[simp] theorem intD_leq (k : IntKind) (a b : Int) : intD .leq k k a b = some (.bool (decide (a ≤ b))) := by simp [intD]
@[simp] theorem intD_gtr (k : IntKind) (a b : Int) : intD .gtr k k a b = some (.bool (decide (b < a))) := by simp [intD]
@[simp] theorem intD_geq (k : IntKind) (a b : Int) : intD .geq k k a b = some (.bool (decide (b ≤ a))) := by simp [intD]

theorem wrap64 (n : Int) (h : -9223372036854775808 ≤ n) (h' : n < 9223372036854775808) : IntKind.wrap .i64 n = n := by
  rw [IntKind.wrap_i64]; omega

/-! ### Slices of pure data -/

/-- How a slice without elements reads, and whether a full one. -/
inductive Fl where
  | nil | emp | part | full
  deriving DecidableEq, Inhabited

def slE (sz : Nat) : Fl → List D → D
  | .nil, [] => .nils
  | .emp, [] => .sl sz true []
  | .full, ds => .sl sz true ds
  | _, ds => .sl sz false ds

@[simp] theorem slE_cells (sz : Nat) (fl : Fl) (ds : List D) : (slE sz fl ds).cells = [slE sz fl ds] := by cases fl <;> cases ds <;> rfl
@[simp] theorem slE_fits (sz : Nat) (fl : Fl) (ds : List D) : (slE sz fl ds).fits none = true := by cases fl <;> cases ds <;> rfl
@[simp] theorem slE_okv (sz : Nat) (fl : Fl) (ds : List D) : (slE sz fl ds).okv = true := by cases fl <;> cases ds <;> rfl
@[simp] theorem slE_pure0 (sz : Nat) (fl : Fl) (ds : List D) : (slE sz fl ds).pure0 = true := by cases fl <;> cases ds <;> rfl
@[simp] theorem slE_pure1 (sz : Nat) (fl : Fl) (ds : List D) : (slE sz fl ds).pure1 = true := by cases fl <;> cases ds <;> rfl
@[simp] theorem slE_pure (sz : Nat) (fl : Fl) (ds : List D) : (slE sz fl ds).pure = true := by cases fl <;> cases ds <;> rfl
@[simp] theorem slE_pureT (sz : Nat) (fl : Fl) (ds : List D) : (slE sz fl ds).pureT = true := by cases fl <;> cases ds <;> rfl
@[simp] theorem slE_fz0 (st : St) (sz : Nat) (fl : Fl) (ds : List D) : fz0 st (slE sz fl ds) = some (slE sz fl ds, st) := by cases fl <;> cases ds <;> rfl
@[simp] theorem slE_fz1 (st : St) (sz : Nat) (fl : Fl) (ds : List D) : fz1 st (slE sz fl ds) = some (slE sz fl ds, st) := by cases fl <;> cases ds <;> rfl
@[simp] theorem slE_fz (st : St) (sz : Nat) (fl : Fl) (ds : List D) : fz st (slE sz fl ds) = some (slE sz fl ds, st) := by cases fl <;> cases ds <;> rfl
@[simp] theorem slE_len (st : St) (sz : Nat) (fl : Fl) (ds : List D) (q : Bool) : lenD st .slice (slE sz fl ds) q = some (.i ds.length) := by cases fl <;> cases ds <;> rfl
@[simp] theorem slE_list (st : St) (sz : Nat) (fl : Fl) (ds : List D) : listD st sz (slE sz fl ds) = some ds := by cases fl <;> cases ds <;> simp [listD, slE]
@[simp] theorem slE_idx (sz : Nat) (fl : Fl) (ds : List D) (i : Nat) (n : Option Nat) : idxAD (slE sz fl ds) i sz n none = (ds[i]?).bind fun u => if u.fits n then some (.iptr u) else none := by cases fl <;> cases ds <;> simp [idxAD, slE]
@[simp] theorem slE_slcTy (sz : Nat) (fl : Fl) (ds : List D) : slcTy (some sz) (slE sz fl ds) = true := by cases fl <;> cases ds <;> simp [slcTy, slE]

def Fl.sub : Fl → List D → Fl
  | .nil, [] => .nil
  | .emp, [] => .full
  | .full, _ => .full
  | _, _ => .part

theorem slE_from (sz : Nat) (fl : Fl) (ds : List D) (k : IntKind) (i : Int) (h : 0 ≤ i) (h' : i.toNat ≤ ds.length) : sliceD (slE sz fl ds) (some (.int k i)) none none = some (slE sz (fl.sub ds) (ds.drop i.toNat)) := by
  have h2 : i ≤ ds.length := by omega
  cases fl <;> cases ds <;> simp_all [sliceD, slE, Fl.sub]

@[simp] theorem slE_tail (sz : Nat) (fl : Fl) (d : D) (ds : List D) (k : IntKind) : sliceD (slE sz fl (d :: ds)) (some (.int k 1)) none none = some (slE sz (fl.sub (d :: ds)) ds) := by
  have := slE_from sz fl (d :: ds) k 1 (by omega) (by simp)
  simpa using this

@[simp] theorem at_zero (o : Ob) (st : St) : St.at (o :: st) 0 = o := (rfl)
@[simp] theorem at_succ (o : Ob) (st : St) (n : Nat) : St.at (o :: st) (n + 1) = St.at st n := (rfl)
@[simp] theorem rewrap_agg (cs ds : List D) : rewrap (.agg cs) ds = some (.agg ds) := (rfl)

def kFz (id ver sz off len : Nat) (full : Bool) (st : St) : Ob → Option (D × St)
  | .cells false sz' ver' mod fr elems => if ver' = ver ∧ sz' = sz ∧ off + len ≤ elems.length then some (.sl sz full ((elems.drop off).take len), if fr then st else List.set st id (.cells false sz ver (mod + 1) true elems)) else none
  | _ => none
@[simp] theorem fz0_rs (st : St) (id ver sz off len : Nat) (full : Bool) : fz0 st (.rs id ver sz off len full) = kFz id ver sz off len full st (St.at st id) := by
  simp only [fz0]; rcases St.at st id with (_ | _) | _ <;> rfl
@[simp] theorem kFz_cells (id ver sz off len : Nat) (full : Bool) (st : St) (sz' ver' mod : Nat) (fr : Bool) (elems : List D) :
    kFz id ver sz off len full st (.cells false sz' ver' mod fr elems) = if ver' = ver ∧ sz' = sz ∧ off + len ≤ elems.length then some (.sl sz full ((elems.drop off).take len), if fr then st else List.set st id (.cells false sz ver (mod + 1) true elems)) else none := (rfl)

@[simp] theorem cast_inj (m n : Nat) : ((m : Int) = n) = (m = n) := propext (by omega)
@[simp] theorem cast_lt (m n : Nat) : ((m : Int) < n) = (m < n) := propext (by omega)
@[simp] theorem cast_le (m n : Nat) : ((m : Int) ≤ n) = (m ≤ n) := propext (by omega)
@[simp] theorem cast_succ0 (n : Nat) : ((n : Int) + 1 = 0) = False := eq_false (by omega)
@[simp] theorem cast_succ_le0 (n : Nat) : ((n : Int) + 1 ≤ 0) = False := eq_false (by omega)
@[simp] theorem cast_neg (i : Nat) : ((i : Int) < 0) = False := eq_false (by omega)

/-- How a loop ends. -/
def Stops (r : Option (Ex × Cfg)) (Q : Ex → List D → List (Nat × List D) → St → Prop) : Prop := ∃ e s b st, r = some (e, ⟨⟨s, b⟩, st⟩) ∧ Q e s b st
@[simp] theorem Stops_some (e : Ex) (s : List D) (b : List (Nat × List D)) (st : St) (Q : Ex → List D → List (Nat × List D) → St → Prop) : Stops (some (e, ⟨⟨s, b⟩, st⟩)) Q ↔ Q e s b st := by
  constructor
  · rintro ⟨e', s', b', st', h, q⟩; cases h; exact q
  · exact fun h => ⟨e, s, b, st, rfl, h⟩

theorem Stops.use {r : Option (Ex × Cfg)} {Q : Ex → List D → List (Nat × List D) → St → Prop} (h : Stops r Q) (F : Option (Ex × Cfg) → Prop) (k : ∀ e s b st, Q e s b st → F (some (e, ⟨⟨s, b⟩, st⟩))) : F r := by
  obtain ⟨e, s, b, st, rfl, q⟩ := h
  exact k e s b st q

theorem Stops.mono {r : Option (Ex × Cfg)} {Q Q' : Ex → List D → List (Nat × List D) → St → Prop} (h : Stops r Q) (k : ∀ e s b st, Q e s b st → Q' e s b st) : Stops r Q' := by
  obtain ⟨e, s, b, st, rfl, q⟩ := h
  exact ⟨e, s, b, st, rfl, k e s b st q⟩

/-- The next round. -/
noncomputable def kL (T : Nat → Option IFunc) (a : Ic) : Option (Ex × Cfg) → Option (Ex × Cfg)
  | some (.normal, d) => lp T a d
  | r => r
@[simp] theorem kL_n (a : Ic) (c : Cfg) : kL T a (some (.normal, c)) = lp T a c := (rfl)
@[simp] theorem kL_r (a : Ic) (c : Cfg) : kL T a (some (.ret, c)) = some (.ret, c) := (rfl)
@[simp] theorem kL_e (a : Ic) (id : Nat) (c : Cfg) : kL T a (some (.exit id, c)) = some (.exit id, c) := (rfl)
theorem lp_kL (a : Ic) (c : Cfg) : lp T a c = kL T a (rn T (ev T) (lp T) a c) := lp_eq a c

theorem callD_pure {f : Nat} {fn : IFunc} (hT : T f = some fn) (hm : fn.mode = .pure) {args : List D} {st : St} {r q : D} {st1 st2 : St} (hargs : pureArgs st args = some (args, st))
    (h : ev T f args [] = some (r, st1)) (hr : fz st1 r = some (q, st2)) (hp : q.pureT = true) : callD T (ev T) f args st = some (q, st) := by
  simp only [callD, hT, hm, hargs, Option.bind_some, h, hr, hp, if_true]

/-! ### A slice that grows by one element at a time, the heap's only object -/

def grown (d0 : D) (sz : Nat) : List D → D × St
  | [] => (d0, [])
  | d :: ds => (.rs 0 ds.length sz 0 (ds.length + 1) false, [.cells false sz ds.length ds.length false (d :: ds)])
def grownZ (sz : Nat) : List D → St
  | [] => []
  | d :: ds => [.cells false sz ds.length (ds.length + 1) true (d :: ds)]
/-- The start of a slice that grows. -/
def seed (sz : Nat) : Fl → D
  | .nil => .nils
  | _ => .sl sz true []

theorem grow (fl : Fl) (sz : Nat) (ds : List D) (x : D) (h : ds.length ≤ 134217728) : appendD (grown (seed sz fl) sz ds).2 (grown (seed sz fl) sz ds).1 [x] sz = some (grown (seed sz fl) sz (ds ++ [x])) := by
  cases ds with
  | nil => cases fl <;> simp [appendD, grown, seed, most]
  | cons d ds =>
    simp only [List.length_cons] at h
    have h' : ds.length + 1 ≤ most := h
    have ht : ds.length + 1 < tagB := by unfold tagB; omega
    simp [appendD, grown, most] at h' ⊢
    simp [h', ht]

@[simp] theorem grown_cells (fl : Fl) (sz : Nat) (ds : List D) : (grown (seed sz fl) sz ds).1.cells = [(grown (seed sz fl) sz ds).1] := by cases ds <;> cases fl <;> rfl
@[simp] theorem grown_okv (fl : Fl) (sz : Nat) (ds : List D) : (grown (seed sz fl) sz ds).1.okv = true := by cases ds <;> cases fl <;> rfl
@[simp] theorem grown_fits (fl : Fl) (sz : Nat) (ds : List D) : (grown (seed sz fl) sz ds).1.fits none = true := by cases ds <;> cases fl <;> rfl
@[simp] theorem grown_nil (d0 : D) (sz : Nat) : grown d0 sz [] = (d0, []) := (rfl)
@[simp] theorem grown_len (fl : Fl) (st : St) (sz : Nat) (ds : List D) (q : Bool) : lenD st .slice (grown (seed sz fl) sz ds).1 q = some (.i ds.length) := by cases ds <;> cases fl <;> rfl
def Fl.grew : Fl → Fl
  | .nil => .nil
  | _ => .emp
@[simp] theorem fz0_grown (fl : Fl) (sz : Nat) (ds : List D) : fz0 (grown (seed sz fl) sz ds).2 (grown (seed sz fl) sz ds).1 = some (slE sz fl.grew ds, grownZ sz ds) := by
  cases ds with
  | nil => cases fl <;> rfl
  | cons d ds => cases fl <;> simp [grown, grownZ, slE, Fl.grew, List.take_of_length_le]
@[simp] theorem fz1_grown (fl : Fl) (sz : Nat) (ds : List D) : fz1 (grown (seed sz fl) sz ds).2 (grown (seed sz fl) sz ds).1 = some (slE sz fl.grew ds, grownZ sz ds) := by
  rw [← fz0_grown]; cases ds <;> cases fl <;> rfl
@[simp] theorem fz_grown (fl : Fl) (sz : Nat) (ds : List D) : fz (grown (seed sz fl) sz ds).2 (grown (seed sz fl) sz ds).1 = some (slE sz fl.grew ds, grownZ sz ds) := by
  rw [← fz0_grown]; cases ds <;> cases fl <;> rfl

/-! ### The same over a heap that has objects already -/

theorem at_last (st : St) (o : Ob) : St.at (st ++ [o]) st.length = o := by simp [St.at]
theorem at_left (st : St) (o : Ob) (i : Nat) (h : i < st.length) : St.at (st ++ [o]) i = St.at st i := by
  simp only [St.at, List.getD_eq_getElem?_getD, List.getElem?_append_left h]
@[simp] theorem agree_append (st x : St) : agree st (st ++ x) = true := by
  induction st with
  | nil => rfl
  | cons o st ih => simp [agree, ih]
@[simp] theorem agree_refl (st : St) : agree st st = true := by
  have := agree_append st []
  rwa [List.append_nil] at this

def grownA (st : St) (d0 : D) (sz : Nat) : List D → D × St
  | [] => (d0, st)
  | d :: ds => (.rs st.length ds.length sz 0 (ds.length + 1) false, st ++ [.cells false sz ds.length ds.length false (d :: ds)])
def grownAZ (st : St) (sz : Nat) : List D → St
  | [] => st
  | d :: ds => st ++ [.cells false sz ds.length (ds.length + 1) true (d :: ds)]

theorem growA (st : St) (fl : Fl) (sz : Nat) (ds : List D) (x : D) (h : ds.length ≤ 134217728) : appendD (grownA st (seed sz fl) sz ds).2 (grownA st (seed sz fl) sz ds).1 [x] sz = some (grownA st (seed sz fl) sz (ds ++ [x])) := by
  cases ds with
  | nil => cases fl <;> simp [appendD, grownA, seed, most]
  | cons d ds =>
    simp only [List.length_cons] at h
    have h' : ds.length + 1 ≤ most := h
    have ht : ds.length + 1 < tagB := by unfold tagB; omega
    simp [appendD, grownA, most, at_last] at h' ⊢
    simp [h', ht]

@[simp] theorem grownA_cells (st : St) (fl : Fl) (sz : Nat) (ds : List D) : (grownA st (seed sz fl) sz ds).1.cells = [(grownA st (seed sz fl) sz ds).1] := by cases ds <;> cases fl <;> rfl
@[simp] theorem grownA_okv (st : St) (fl : Fl) (sz : Nat) (ds : List D) : (grownA st (seed sz fl) sz ds).1.okv = true := by cases ds <;> cases fl <;> rfl
@[simp] theorem grownA_fits (st : St) (fl : Fl) (sz : Nat) (ds : List D) : (grownA st (seed sz fl) sz ds).1.fits none = true := by cases ds <;> cases fl <;> rfl
@[simp] theorem grownA_nil (st : St) (d0 : D) (sz : Nat) : grownA st d0 sz [] = (d0, st) := (rfl)
@[simp] theorem grownA_len (st st' : St) (fl : Fl) (sz : Nat) (ds : List D) (q : Bool) : lenD st' .slice (grownA st (seed sz fl) sz ds).1 q = some (.i ds.length) := by cases ds <;> cases fl <;> rfl
@[simp] theorem fz0_grownA (st : St) (fl : Fl) (sz : Nat) (ds : List D) : fz0 (grownA st (seed sz fl) sz ds).2 (grownA st (seed sz fl) sz ds).1 = some (slE sz fl.grew ds, grownAZ st sz ds) := by
  cases ds with
  | nil => cases fl <;> rfl
  | cons d ds => cases fl <;> simp [grownA, grownAZ, slE, Fl.grew, at_last]
@[simp] theorem fz1_grownA (st : St) (fl : Fl) (sz : Nat) (ds : List D) : fz1 (grownA st (seed sz fl) sz ds).2 (grownA st (seed sz fl) sz ds).1 = some (slE sz fl.grew ds, grownAZ st sz ds) := by
  rw [← fz0_grownA]; cases ds <;> cases fl <;> rfl
@[simp] theorem agree_grownA (st : St) (d0 : D) (sz : Nat) (ds : List D) : agree st (grownA st d0 sz ds).2 = true := by cases ds <;> simp [grownA]
@[simp] theorem agree_grownAZ (st : St) (sz : Nat) (ds : List D) : agree st (grownAZ st sz ds) = true := by cases ds <;> simp [grownAZ]
/-- An older object is as it was. -/
theorem at_grownA (st : St) (d0 : D) (sz : Nat) (ds : List D) (i : Nat) (h : i < st.length) : St.at (grownA st d0 sz ds).2 i = St.at st i := by
  cases ds with
  | nil => rfl
  | cons d ds => exact at_left st _ i h

/-- A call by 'pop'. -/
theorem callD_pop {f : Nat} {fn : IFunc} (hT : T f = some fn) (hm : fn.mode = .pop) {args : List D} {st : St} {r q : D} {st1 st2 : St} (hargs : args.all D.okv = true)
    (h : ev T f args st = some (r, st1)) (hr : fz st1 r = some (q, st2)) (hp : q.pureT = true) (ha : agree st st2 = true) : callD T (ev T) f args st = some (q, st) := by
  simp only [callD, hT, hm, hargs, if_true, h, Option.bind_some, hr, hp, ha, Bool.and_self]

/-- A call by 'cut'. -/
theorem callD_cut {f : Nat} {fn : IFunc} (hT : T f = some fn) (hm : fn.mode = .cut) {args : List D} {st : St} {r q : D} {st1 st2 st3 : St} (hargs : args.all D.okv = true)
    (h : ev T f args st = some (r, st1)) (hr : fz st1 r = some (q, st2)) (hp : q.pureT = true) (ha : settled st st2 = true) (ht : st2.take st.length = st3) : callD T (ev T) f args st = some (q, st3) := by
  simp only [callD, hT, hm, hargs, if_true, h, Option.bind_some, hr, hp, ha, Bool.and_self, ht]

@[simp] theorem storeXD_hp (box : Bool) (st : St) (i v s x' o : Nat) (x : D) (n : Nat) : storeXD box st (.hp i v s x' o) x n =
    if x.cells.length = n ∧ x.okv = true ∧ (box = true ∨ x.pure = true) then ((cellU box v s x' o x (St.at st i)).bind fun ob => some (List.set st i ob)).bind fun s => some (.undef, none, some s) else none := (rfl)
@[simp] theorem cellU_cells (box b fr : Bool) (v s i o : Nat) (x : D) (sz' ver' mod : Nat) (elems : List D) : cellU box v s i o x (.cells b sz' ver' mod fr elems) =
    if b = box ∧ fr = false ∧ ver' = v ∧ sz' = s then (elems[i]?).bind fun d => (splice d.cells o x.cells).bind fun cs => (rewrap d cs).bind fun d' => some (.cells box s v (mod + 1) false (elems.set i d')) else none := (rfl)

@[simp] theorem strD_eql (a b : List UInt8) : strD .eql a b = some (.bool (decide (a = b))) := by
  simp only [strD]; by_cases h : a = b
  · subst h; simp
  · have : (a == b) = false := by simpa using h
    rw [this, decide_eq_false h]
@[simp] theorem strD_neq (a b : List UInt8) : strD .neq a b = some (.bool (!decide (a = b))) := by
  simp only [strD]; by_cases h : a = b
  · subst h; simp
  · have : (a == b) = false := by simpa using h
    rw [this, decide_eq_false h]
@[simp] theorem strD_add (a b : List UInt8) : strD .add a b = if a.length + b.length ≤ 134217728 then some (.str (a ++ b)) else none := (rfl)

@[simp] theorem intD_quo (k : IntKind) (a b : Int) : intD .quo k k a b = if b = 0 then none else some (.int k (k.wrap (a.tdiv b))) := by simp [intD]
@[simp] theorem intD_rem (k : IntKind) (a b : Int) : intD .rem k k a b = if b = 0 then none else some (.int k (a.tmod b)) := by simp [intD]

end Go.Nt

/-
  HEAPS, POINT BY POINT; objects behind a heap.
  No condition.
-/
namespace Go.Nt

theorem at_get {st : St} {i : Nat} (h : i < st.length) : St.at st i = st[i] := by simp [St.at, h]

theorem settled_of : ∀ {st st' : St}, st.length ≤ st'.length → (∀ i, i < st.length → St.at st' i = St.at st i ∨ (St.at st' i).pureO = true) → settled st st' = true
  | [], _, _, _ => rfl
  | _ :: _, [], h, _ => by simp at h
  | o :: st, o' :: st', hl, h => by
    simp only [settled, Bool.and_eq_true, Bool.or_eq_true, beq_iff_eq]
    refine ⟨?_, settled_of (by simpa using hl) fun i hi => h (i + 1) (by simpa using hi)⟩
    rcases h 0 (by simp) with q | q
    · left; have q' : o' = o := q
      rw [q']
    · exact .inr q

theorem take_of {st st' : St} (hl : st.length ≤ st'.length) (h : ∀ i, i < st.length → St.at st' i = St.at st i) : st'.take st.length = st := by
  refine List.ext_getElem (by rw [List.length_take]; omega) fun i h1 h2 => ?_
  have := h i h2
  rw [at_get h2, at_get (by omega)] at this
  rw [List.getElem_take]; exact this

theorem settled_set {st : St} {i : Nat} {o : Ob} (ho : o.pureO = true) : settled st (List.set st i o) = true := by
  refine settled_of (by simp) fun j hj => ?_
  by_cases hi : i < st.length
  · rw [at_set _ _ _ _ hi]
    by_cases e : j = i
    · rw [if_pos e]; exact .inr ho
    · rw [if_neg e]; exact .inl rfl
  · rw [List.set_eq_of_length_le (by omega)]; exact .inl rfl

/-! ### Objects behind a heap -/

theorem at_app (st l : St) (k : Nat) : St.at (st ++ l) (st.length + k) = St.at l k := by
  simp only [St.at, List.getD_eq_getElem?_getD]
  rw [List.getElem?_append_right (by omega), Nat.add_sub_cancel_left]
theorem at_app0 (st l : St) : St.at (st ++ l) st.length = St.at l 0 := at_app st l 0
theorem at_lt (st l : St) {i : Nat} (h : i < st.length) : St.at (st ++ l) i = St.at st i := by simp [St.at, List.getElem?_append_left h]
theorem set_app (st l : St) (k : Nat) (o : Ob) : List.set (st ++ l) (st.length + k) o = st ++ List.set l k o := by
  rw [List.set_append_right _ _ (by omega)]; simp
theorem set_app0 (st l : St) (o : Ob) : List.set (st ++ l) st.length o = st ++ List.set l 0 o := set_app st l 0 o
theorem set_lt (st l : St) {i : Nat} (h : i < st.length) (o : Ob) : List.set (st ++ l) i o = List.set st i o ++ l := List.set_append_left _ _ h

/-- A pure call, its arguments freed first. -/
theorem callD_free {T : Nat → Option IFunc} {go : GoF} {f : Nat} {fn : IFunc} (hT : T f = some fn) (hm : fn.mode = .pure) {args args' : List D} {st st' : St} {q : D} (h1 : pureArgs st args = some (args', st')) (h2 : pureArgs st' args' = some (args', st'))
    (h : callD T go f args' st' = some (q, st')) : callD T go f args st = some (q, st') := by
  simp only [callD, hT, hm, h1, h2, Option.bind_some] at h ⊢
  exact h

@[simp] theorem rewrap_nils (d : D) : rewrap .nils [d] = some d := (rfl)
@[simp] theorem rewrap_rs (i v z o l : Nat) (f : Bool) (d : D) : rewrap (.rs i v z o l f) [d] = some d := (rfl)
@[simp] theorem rewrap_sl (z : Nat) (f : Bool) (ds : List D) (d : D) : rewrap (.sl z f ds) [d] = some d := (rfl)
@[simp] theorem rewrap_int (k : IntKind) (n : Int) (d : D) : rewrap (.int k n) [d] = some d := (rfl)
@[simp] theorem rewrap_bool (b : Bool) (d : D) : rewrap (.bool b) [d] = some d := (rfl)
@[simp] theorem rewrap_str (s : List UInt8) (d : D) : rewrap (.str s) [d] = some d := (rfl)

/-- How a run ends that a call by 'cut' comes to. -/
def Ends (st : St) (q : D) (st3 : St) (res : Option (D × St)) : Prop := ∃ r st1 st2, res = some (r, st1) ∧ fz st1 r = some (q, st2) ∧ settled st st2 = true ∧ st2.take st.length = st3
theorem Ends.mk {st st3 st1 st2 : St} {q r : D} (h1 : fz st1 r = some (q, st2)) (h2 : settled st st2 = true ∧ st2.take st.length = st3) : Ends st q st3 (some (r, st1)) := ⟨r, st1, st2, rfl, h1, h2.1, h2.2⟩

theorem callD_cutE {T : Nat → Option IFunc} {f : Nat} {fn : IFunc} (hT : T f = some fn) (hm : fn.mode = .cut) {args : List D} {st st3 : St} {q : D} (hargs : args.all D.okv = true)
    (hp : q.pureT = true) (h : Ends st q st3 (ev T f args st)) : callD T (ev T) f args st = some (q, st3) := by
  obtain ⟨r, st1, st2, h1, h2, h3, h4⟩ := h
  exact callD_cut hT hm hargs h1 h2 hp h3 h4

end Go.Nt

/-
  BRANCHES that are not decided yet, by 'simp'; what a loop does not write; how calls and runs end.
  No condition.
-/
namespace Go.Nt

variable {T : Nat → Option IFunc} {go : GoF} {lp' : Ic → Cfg → Option (Ex × Cfg)}

theorem kC_b (t : Bool) (a b : Ic) (c : Cfg) : kC T go lp' a b c (.bool t) = if t = true then rn T go lp' a c else rn T go lp' b c := by cases t <;> rfl
theorem kG_b (w t : Bool) (io : Io) (os : List Gi) (s : List D) (b : List (Nat × List D)) (st : St) : kG T go w io os s b st (.bool t) = if t = w then runOps T go (g0 io :: os) ⟨⟨s, b⟩, st⟩ else runOps T go os ⟨⟨putO s io.dst .undef, b⟩, st⟩ := (rfl)
theorem kseq_ite {p : Prop} [Decidable p] (k : Cfg → Option (Ex × Cfg)) (x y : Option (Ex × Cfg)) : kseq k (if p then x else y) = if p then kseq k x else kseq k y := by split <;> rfl
theorem kblock_ite {p : Prop} [Decidable p] (id : Nat) (x y : Option (Ex × Cfg)) : kblock id (if p then x else y) = if p then kblock id x else kblock id y := by split <;> rfl
theorem kfin_ite {p : Prop} [Decidable p] (r : List Rv) (x y : Option (Ex × Cfg)) : kfin r (if p then x else y) = if p then kfin r x else kfin r y := by split <;> rfl
theorem kL_ite {p : Prop} [Decidable p] (a : Ic) (x y : Option (Ex × Cfg)) : kL T a (if p then x else y) = if p then kL T a x else kL T a y := by split <;> rfl
theorem kE_ite {p : Prop} [Decidable p] (d : Option Nat) (s : List D) (b : List (Nat × List D)) (st : St) (os : List Gi) (x y : Option Eff) :
    kE T go d s b st os (if p then x else y) = if p then kE T go d s b st os x else kE T go d s b st os y := by split <;> rfl
theorem map_ite {α β : Type} {p : Prop} [Decidable p] (f : α → β) (x y : Option α) : Option.map f (if p then x else y) = if p then Option.map f x else Option.map f y := by split <;> rfl
theorem obind_ite {α β : Type} {p : Prop} [Decidable p] (f : α → Option β) (x y : Option α) : Option.bind (if p then x else y) f = if p then Option.bind x f else Option.bind y f := by split <;> rfl
theorem Stops_ite {p : Prop} [Decidable p] (x y : Option (Ex × Cfg)) (Q : Ex → List D → List (Nat × List D) → St → Prop) : Stops (if p then x else y) Q = if p then Stops x Q else Stops y Q := by split <;> rfl

/-- How a function's run ends. -/
def Ret (x : Option (D × St)) (Q : D → St → Prop) : Prop := ∃ r st, x = some (r, st) ∧ Q r st
@[simp] theorem Ret_some (r : D) (st : St) (Q : D → St → Prop) : Ret (some (r, st)) Q ↔ Q r st := by
  constructor
  · rintro ⟨r', st', h, q⟩; cases h; exact q
  · exact fun h => ⟨r, st, rfl, h⟩
theorem Ret_ite {p : Prop} [Decidable p] (x y : Option (D × St)) (Q : D → St → Prop) : Ret (if p then x else y) Q = if p then Ret x Q else Ret y Q := by split <;> rfl

theorem callD_rawE {f : Nat} {fn : IFunc} (hT : T f = some fn) (hm : fn.mode = .raw) {args : List D} {st : St} (hargs : args.all D.okv = true) : callD T (ev T) f args st = ev T f args st := by
  simp only [callD, hT, hm, hargs, if_true]

/-- A call by 'fre'. -/
theorem callD_freE {f : Nat} {fn : IFunc} (hT : T f = some fn) (hm : fn.mode = .fre) {args : List D} {st : St} {r q : D} {st1 st2 : St} (hargs : args.all D.okv = true)
    (h : ev T f args st = some (r, st1)) (hr : fz st1 r = some (q, st2)) (hp : q.pureT = true) : callD T (ev T) f args st = some (q, st2) := by
  simp only [callD, hT, hm, hargs, if_true, h, Option.bind_some, hr, hp]

/-- A call by 'pure' whose run ends so. -/
theorem callD_pureR {f : Nat} {fn : IFunc} (hT : T f = some fn) (hm : fn.mode = .pure) {args : List D} {st : St} {q : D} (hargs : pureArgs st args = some (args, st)) (hp : q.pureT = true)
    (h : Ret (ev T f args []) fun r st1 => ∃ st2, fz st1 r = some (q, st2)) : callD T (ev T) f args st = some (q, st) := by
  obtain ⟨r, st1, h1, st2, h2⟩ := h
  exact callD_pure hT hm hargs h1 h2 hp

/-- The same where the run's value is free of the heap. -/
theorem callD_pureQ {f : Nat} {fn : IFunc} (hT : T f = some fn) (hm : fn.mode = .pure) {args : List D} {st : St} {q : D} (hargs : pureArgs st args = some (args, st)) (hp : q.pureT = true)
    (hf : ∀ st, fz st q = some (q, st)) (h : Ret (ev T f args []) fun r _ => r = q) : callD T (ev T) f args st = some (q, st) := by
  obtain ⟨r, st1, h1, rfl⟩ := h
  exact callD_pure hT hm hargs h1 (hf st1) hp

/-- A round of a loop. -/
theorem lp_at (L body : Ic) (h : L = body) (c : Cfg) : lp T L c = kL T L (rn T (ev T) (lp T) body c) := by subst h; exact lp_eq L c

/-! ### What a loop does not write -/

theorem putO_frame (s : List D) (d : Option Nat) (x : D) (t : Nat) (h : d ≠ some t) : get (putO s d x) t = get s t := by
  cases d with
  | none => rfl
  | some d =>
    simp only [putO, get_put]
    rw [if_neg]
    intro e; subst e; exact h rfl

theorem step_frame {c c' : Cfg} {o : Gi} (h : step T go c o = some c') : (∀ t, o.io.dst ≠ some t → get c'.1.s t = get c.1.s t) ∧ ∀ x, o.io.wbox ≠ some x → getB c'.1.b x = getB c.1.b x := by
  unfold step at h
  split at h
  · cases h
  split at h
  · obtain ⟨e, he, rfl⟩ := Option.map_eq_some_iff.1 h
    have hw := (act_writes he).1
    refine ⟨fun t ht => putO_frame _ _ _ _ ht, fun x hx => ?_⟩
    simp only [apply]
    split
    · rename_i y hy
      rw [getB_putB, if_neg]
      intro q
      exact hx (by rw [hw y hy, q])
    · rfl
  · simp only [Option.some.injEq] at h
    subst h
    exact ⟨fun t ht => putO_frame _ _ _ _ ht, fun x _ => rfl⟩

theorem runOps_frame : ∀ {l : List Gi} {c c' : Cfg}, runOps T go l c = some c' → (∀ t, t ∉ l.filterMap (fun g => g.io.dst) → get c'.1.s t = get c.1.s t) ∧ ∀ x, x ∉ l.filterMap (fun g => g.io.wbox) → getB c'.1.b x = getB c.1.b x
  | [], c, c', h => by simp only [runOps, Option.some.injEq] at h; subst h; exact ⟨fun _ _ => rfl, fun _ _ => rfl⟩
  | o :: l, c, c', h => by
    simp only [runOps, Option.bind_eq_some_iff] at h
    obtain ⟨c1, h1, h2⟩ := h
    obtain ⟨a1, a2⟩ := step_frame h1
    obtain ⟨b1, b2⟩ := runOps_frame h2
    refine ⟨fun t ht => ?_, fun x hx => ?_⟩
    · rw [b1 t fun q => ht (by rw [List.mem_filterMap] at q ⊢; obtain ⟨g, k1, k2⟩ := q; exact ⟨g, List.mem_cons_of_mem _ k1, k2⟩)]
      exact a1 t fun q => ht (List.mem_filterMap.2 ⟨o, by simp, q⟩)
    · rw [b2 x fun q => hx (by rw [List.mem_filterMap] at q ⊢; obtain ⟨g, k1, k2⟩ := q; exact ⟨g, List.mem_cons_of_mem _ k1, k2⟩)]
      exact a2 x fun q => hx (List.mem_filterMap.2 ⟨o, by simp, q⟩)

/-- A frame and what it was. -/
def Fram (L : Ic) (c c' : Cfg) : Prop := (∀ t, t ∉ L.wr → get c'.1.s t = get c.1.s t) ∧ ∀ x, x ∉ L.wrB → getB c'.1.b x = getB c.1.b x
theorem Fram.refl (L : Ic) (c : Cfg) : Fram L c c := ⟨fun _ _ => rfl, fun _ _ => rfl⟩

theorem run_frame {fuel : Nat} : ∀ {a : Ic} {c c' : Cfg} {e : Ex}, a.plain = true → run T go fuel a c = some (e, c') → Fram a c c'
  | .skip, c, c', e, _, h => by simp only [run, Option.some.injEq, Prod.mk.injEq] at h; obtain ⟨rfl, rfl⟩ := h; exact .refl _ _
  | .exit id, c, c', e, _, h => by simp only [run, Option.some.injEq, Prod.mk.injEq] at h; obtain ⟨rfl, rfl⟩ := h; exact .refl _ _
  | .ret, c, c', e, _, h => by simp only [run, Option.some.injEq, Prod.mk.injEq] at h; obtain ⟨rfl, rfl⟩ := h; exact .refl _ _
  | .prim k, c, c', e, hp, h => by cases hp
  | .amb y x a b, c, c', e, hp, h => by
    have F := run_far hp h
    refine ⟨F.1, fun z hz => ?_⟩
    simp only [run, Option.bind_eq_some_iff] at h
    obtain ⟨⟨e1, c1⟩, _, ⟨e2, c2⟩, _, h⟩ := h
    unfold ambJ at h
    split at h
    · rw [Option.map_eq_some_iff] at h
      obtain ⟨st, _, h⟩ := h
      simp only [Prod.mk.injEq] at h
      obtain ⟨_, rfl⟩ := h
      rfl
    · cases h
  | .ops l, c, c', e, _, h => by
    simp only [run, Option.bind_eq_some_iff, Option.some.injEq, Prod.mk.injEq] at h
    obtain ⟨c1, h1, rfl, rfl⟩ := h
    exact runOps_frame h1
  | .seq a b, c, c', e, hp, h => by
    simp only [Ic.plain, Bool.and_eq_true] at hp
    simp only [run, Option.bind_eq_some_iff] at h
    obtain ⟨⟨e1, c1⟩, h1, h2⟩ := h
    obtain ⟨a1, a2⟩ := run_frame hp.1 h1
    cases e1 with
    | normal =>
      obtain ⟨b1, b2⟩ := run_frame hp.2 h2
      refine ⟨fun t ht => ?_, fun t ht => ?_⟩
      · simp only [Ic.wr, List.mem_append, not_or] at ht
        rw [b1 t ht.2, a1 t ht.1]
      · simp only [Ic.wrB, List.mem_append, not_or] at ht
        rw [b2 t ht.2, a2 t ht.1]
    | ret =>
      simp only [Option.some.injEq, Prod.mk.injEq] at h2
      obtain ⟨_, rfl⟩ := h2
      refine ⟨fun t ht => ?_, fun t ht => ?_⟩
      · simp only [Ic.wr, List.mem_append, not_or] at ht
        exact a1 t ht.1
      · simp only [Ic.wrB, List.mem_append, not_or] at ht
        exact a2 t ht.1
    | exit id =>
      simp only [Option.some.injEq, Prod.mk.injEq] at h2
      obtain ⟨_, rfl⟩ := h2
      refine ⟨fun t ht => ?_, fun t ht => ?_⟩
      · simp only [Ic.wr, List.mem_append, not_or] at ht
        exact a1 t ht.1
      · simp only [Ic.wrB, List.mem_append, not_or] at ht
        exact a2 t ht.1
  | .cond x a b, c, c', e, hp, h => by
    simp only [Ic.plain, Bool.and_eq_true] at hp
    simp only [run] at h
    split at h
    · rename_i t _
      cases t with
      | true =>
        obtain ⟨a1, a2⟩ := run_frame hp.1 h
        refine ⟨fun t ht => ?_, fun t ht => ?_⟩
        · simp only [Ic.wr, List.mem_append, not_or] at ht; exact a1 t ht.1
        · simp only [Ic.wrB, List.mem_append, not_or] at ht; exact a2 t ht.1
      | false =>
        obtain ⟨a1, a2⟩ := run_frame hp.2 h
        refine ⟨fun t ht => ?_, fun t ht => ?_⟩
        · simp only [Ic.wr, List.mem_append, not_or] at ht; exact a1 t ht.2
        · simp only [Ic.wrB, List.mem_append, not_or] at ht; exact a2 t ht.2
    · cases h
  | .block id a, c, c', e, hp, h => by
    simp only [run, Option.bind_eq_some_iff] at h
    obtain ⟨⟨e1, c1⟩, h1, h2⟩ := h
    obtain ⟨a1, a2⟩ := run_frame (show a.plain = true from hp) h1
    cases e1 <;> (simp only [Option.some.injEq, Prod.mk.injEq] at h2; obtain ⟨_, rfl⟩ := h2; exact ⟨a1, a2⟩)
  | .loop a, c, c', e, hp, h => by
    simp only [run] at h
    have key : ∀ n c, iter (run T go fuel a) n c = some (e, c') → Fram a c c' := by
      intro n
      induction n with
      | zero => intro c h; cases h
      | succ n ih =>
        intro c h
        simp only [iter, Option.bind_eq_some_iff] at h
        obtain ⟨⟨e1, c1⟩, h1, h2⟩ := h
        obtain ⟨a1, a2⟩ := run_frame (show a.plain = true from hp) h1
        cases e1 with
        | normal =>
          obtain ⟨b1, b2⟩ := ih c1 h2
          exact ⟨fun t ht => by rw [b1 t ht, a1 t ht], fun t ht => by rw [b2 t ht, a2 t ht]⟩
        | ret => simp only [Option.some.injEq, Prod.mk.injEq] at h2; obtain ⟨_, rfl⟩ := h2; exact ⟨a1, a2⟩
        | exit id => simp only [Option.some.injEq, Prod.mk.injEq] at h2; obtain ⟨_, rfl⟩ := h2; exact ⟨a1, a2⟩
    exact key _ _ h

theorem lp_frame {a : Ic} (hp : a.plain = true) {c c' : Cfg} {e : Ex} (h : lp T a c = some (e, c')) : Fram a c c' := by
  obtain ⟨k, hk⟩ := (lim_iff (lp_mono a c) _).1 h
  exact run_frame (a := .loop a) (T := T) (go := evT T k) (fuel := k) hp hk

/-- A loop's end, and what it left as it was. -/
theorem Stops.fr {L : Ic} (hp : L.plain = true) {W : List Nat} (hW : L.wr = W) {s0 : List D} {b0 : List (Nat × List D)} {st0 : St} {Q : Ex → List D → List (Nat × List D) → St → Prop} (h : Stops (lp T L ⟨⟨s0, b0⟩, st0⟩) Q)
    (F : Option (Ex × Cfg) → Prop) (k : ∀ e s b st, Q e s b st → (∀ t, W.contains t = false → get s t = get s0 t) → F (some (e, ⟨⟨s, b⟩, st⟩))) : F (lp T L ⟨⟨s0, b0⟩, st0⟩) := by
  obtain ⟨e, s, b, st, hr, q⟩ := h
  obtain ⟨f1, _⟩ := lp_frame hp hr
  rw [hr]
  refine k e s b st q fun t ht => f1 t ?_
  rw [hW]
  intro hm
  rw [List.contains_iff_mem.2 hm] at ht
  cases ht
theorem Stops.frB {L : Ic} (hp : L.plain = true) {W WB : List Nat} (hW : L.wr = W) (hB : L.wrB = WB) {s0 : List D} {b0 : List (Nat × List D)} {st0 : St} {Q : Ex → List D → List (Nat × List D) → St → Prop} (h : Stops (lp T L ⟨⟨s0, b0⟩, st0⟩) Q)
    (F : Option (Ex × Cfg) → Prop) (k : ∀ e s b st, Q e s b st → (∀ t, W.contains t = false → get s t = get s0 t) → (∀ t, WB.contains t = false → getB b t = getB b0 t) → F (some (e, ⟨⟨s, b⟩, st⟩))) : F (lp T L ⟨⟨s0, b0⟩, st0⟩) := by
  obtain ⟨e, s, b, st, hr, q⟩ := h
  obtain ⟨f1, f2⟩ := lp_frame hp hr
  rw [hr]
  refine k e s b st q (fun t ht => f1 t ?_) fun t ht => f2 t ?_
  · rw [hW]
    intro hm
    rw [List.contains_iff_mem.2 hm] at ht
    cases ht
  · rw [hB]
    intro hm
    rw [List.contains_iff_mem.2 hm] at ht
    cases ht

end Go.Nt

/-
  THE FUNCTIONS OF THE SEAT as the abstract machine reads them (printed by a program of ours), and that they are the program's ('ok': FuncOK, by the kernel).
  No condition.
-/
namespace Go.Nt.Ds
open Go Go.Nt

def L3_0 : Ic := .seq (.seq (.ops [g0 (.mv 31 (.t 7)), g0 (.mv 32 (.t 3)), g0 (.len 33 .slice (.t 32) false), g0 (.bin 34 .lss (.t 31) (.t 33))])
  (.cond (.t 34) (.skip)
  (.exit 0)))
  (.seq (.block 1 (.seq (.ops [g0 (.mv 37 (.t 3)), g0 (.mv 38 (.t 7)), g0 (.idxA 39 (.t 37) (.t 38) 10 (some 10) none), g0 (.load 40 (.t 39) (some 10) none false), g0 (.mv 41 (.t 5)), g0 (.mv 42 (.t 7)), g0 (.idxA 43 (.t 41) (.t 42) 10 (some 10) none), g0 (.load 44 (.t 43) (some 10) none false), g0 (.call (some 45) 8 [(.t 40), (.t 44)]), g0 (.un 46 .not (.t 45))])
  (.cond (.t 46) (.seq (.ops [g0 (.mv 2 (.c (.bool false)))])
  (.ret))
  (.skip))))
  (.ops [g0 (.mv 35 (.t 7)), g0 (.bin 36 .add (.t 35) (.c (.int .i64 1))), g0 (.mv 7 (.t 36))]))
/-- notary/notarylaw35.DerivSteps -/
def F3 : IFunc := ⟨.pure, .seq (.ops [g0 (.boxL 1 13 (some (.t 0)) []), g0 (.mv 2 (.c (.bool false)))])
  (.seq (.seq (.ops [g0 (.load 8 (.t 1) (some 13) (some 1) false), g0 (.call (some 9) 4 [(.t 8)])])
  (.cond (.t 9) (.seq (.ops [g0 (.call (some 10) 5 []), g0 (.mv 2 (.t 10))])
  (.ret))
  (.skip)))
  (.seq (.ops [g0 (.load 12 (.t 1) (some 13) (some 1) false), g0 (.call (some 13) 6 [(.t 12)]), g0 (.mv 11 (.t 13)), g0 (.ext 14 (.t 11) 0), g0 (.ext 15 (.t 11) 1), g0 (.mv 3 (.t 14)), g0 (.mv 4 (.t 15))])
  (.seq (.ops [g0 (.load 17 (.t 1) (some 13) (some 1) false), g0 (.call (some 18) 7 [(.t 17)]), g0 (.mv 16 (.t 18)), g0 (.ext 19 (.t 16) 0), g0 (.ext 20 (.t 16) 1), g0 (.mv 5 (.t 19)), g0 (.mv 6 (.t 20))])
  (.seq (.seq (.ops [g0 (.mv 21 (.t 4)), g0 (.mv 22 (.t 6)), g0 (.bin 23 .neq (.t 21) (.t 22)), g0 (.mv 24 (.t 23)), g1 24 false (.mv 25 (.t 3)), g1 24 false (.len 26 .slice (.t 25) false), g1 24 false (.mv 27 (.t 5)), g1 24 false (.len 28 .slice (.t 27) false), g1 24 false (.bin 29 .neq (.t 26) (.t 28)), g0 (.pick 30 (.t 24) (.c (.bool true)) (.t 29))])
  (.cond (.t 30) (.seq (.ops [g0 (.mv 2 (.c (.bool false)))])
  (.ret))
  (.skip)))
  (.seq (.seq (.ops [g0 (.mv 7 (.c (.int .i64 0)))])
  (.block 0 (.loop L3_0)))
  (.seq (.ops [g0 (.call (some 47) 5 []), g0 (.mv 2 (.t 47))])
  (.ret))))))),
  [.t 2]⟩
/-- notary/notaryref35.Large -/
def F4 : IFunc := ⟨.pure, .seq (.ops [g0 (.boxL 1 13 (some (.t 0)) []), g0 (.mv 2 (.c (.bool false)))])
  (.seq (.ops [g0 (.load 3 (.t 1) (some 13) (some 1) false), g0 (.call (some 4) 9 [(.t 3), (.c (.int .i64 80)), (.c (.int .i64 20))]), g0 (.bin 5 .lss (.t 4) (.c (.int .i64 0))), g0 (.mv 2 (.t 5))])
  (.ret)),
  [.t 2]⟩
/-- notary/notarylaw35.awake -/
def F5 : IFunc := ⟨.pure, .seq (.ops [g0 (.mv 0 (.c (.bool false)))])
  (.seq (.ops [g0 (.build 7 [(.int .i64 0), (.int .i64 0), (.str []), .nils, (.int .i64 0), (.int .i64 0)] [(0, 1, (.c (.int .i64 5)))]), g0 (.bsl 8 6 true [(.t 7)]), g0 (.build 9 [(.int .i64 0), (.int .i64 0), (.str []), .nils, (.int .i64 0), (.int .i64 0)] [(0, 1, (.c (.int .i64 31))), (3, 1, (.t 8))]), g0 (.bsl 10 6 true [(.t 9)]), g0 (.build 11 [(.int .i64 0), (.int .i64 0), (.str []), .nils, (.int .i64 0), (.int .i64 0)] [(0, 1, (.c (.int .i64 36))), (3, 1, (.t 10))]), g0 (.boxL 1 6 none [(.int .i64 0), (.int .i64 0), (.str []), .nils, (.int .i64 0), (.int .i64 0)]), g0 (.store (.t 1) (.t 11) 6 (some 1))])
  (.seq (.ops [g0 (.load 13 (.t 1) (some 6) (some 1) false), g0 (.build 14 [(.int .i64 0), .nils, (.int .i64 0), (.bool false), .nils, .nils, (.int .i64 0), (.int .i64 0), (.str []), .nils, (.int .i64 0), (.int .i64 0), .nils] [(0, 1, (.c (.int .i64 2)))]), g0 (.call (some 15) 10 [(.t 13), (.t 14)]), g0 (.mv 12 (.t 15)), g0 (.ext 16 (.t 12) 0), g0 (.ext 17 (.t 12) 1), g0 (.ext 18 (.t 12) 2), g0 (.ext 19 (.t 12) 3), g0 (.ext 20 (.t 12) 4), g0 (.boxL 2 6 none [(.int .i64 0), (.int .i64 0), (.str []), .nils, (.int .i64 0), (.int .i64 0)]), g0 (.store (.t 2) (.t 16) 6 (some 2)), g0 (.mv 3 (.t 17)), g0 (.mv 4 (.t 18)), g0 (.mv 5 (.t 19)), g0 (.mv 6 (.t 20))])
  (.seq (.ops [g0 (.mv 21 (.t 6)), g0 (.bin 22 .eql (.t 21) (.c (.int .i64 0))), g0 (.mv 23 (.t 22)), g1 23 true (.mv 24 (.t 3)), g1 23 true (.bin 25 .eql (.t 24) (.c (.int .u64 1))), g0 (.pick 26 (.t 23) (.t 25) (.c (.bool false))), g0 (.mv 27 (.t 26)), g1 27 true (.mv 28 (.t 4)), g1 27 true (.len 29 .slice (.t 28) false), g1 27 true (.bin 30 .eql (.t 29) (.c (.int .i64 1))), g0 (.pick 31 (.t 27) (.t 30) (.c (.bool false))), g0 (.mv 32 (.t 31)), g1 32 true (.fldA 33 (.t 2) 3 none), g1 32 true (.load 34 (.t 33) none (some 2) false), g1 32 true (.len 35 .slice (.t 34) false), g1 32 true (.bin 36 .eql (.t 35) (.c (.int .i64 1))), g0 (.pick 37 (.t 32) (.t 36) (.c (.bool false))), g0 (.mv 0 (.t 37))])
  (.ret)))),
  [.t 0]⟩
/-- notary/deriv.Steps -/
def F6 : IFunc := ⟨.pure, .seq (.ops [g0 (.boxL 1 13 (some (.t 0)) []), g0 (.mv 2 (.c .nils)), g0 (.mv 3 (.c (.int .i64 0)))])
  (.seq (.ops [g0 (.boxH 4 (some 3) (.c (.agg [.nils, .nils, (.int .i64 0)])))])
  (.seq (.ops [g0 (.load 5 (.t 1) (some 13) (some 1) false), g0 (.call (some 6) 11 [(.t 4), (.t 5)])])
  (.seq (.seq (.ops [g0 (.fldA 7 (.t 4) 2 none), g0 (.load 8 (.t 7) none none false), g0 (.bin 9 .neq (.t 8) (.c (.int .i64 0)))])
  (.cond (.t 9) (.seq (.ops [g0 (.fldA 10 (.t 4) 2 none), g0 (.load 11 (.t 10) none none false), g0 (.mv 2 (.c .nils)), g0 (.mv 3 (.t 11))])
  (.ret))
  (.skip)))
  (.seq (.ops [g0 (.fldA 12 (.t 4) 0 none), g0 (.load 13 (.t 12) none none false), g0 (.mv 2 (.t 13)), g0 (.mv 3 (.c (.int .i64 0)))])
  (.ret))))),
  [.t 2, .t 3]⟩
/-- notary/notaryref35.Steps -/
def F7 : IFunc := ⟨.pure, .seq (.ops [g0 (.boxL 1 13 (some (.t 0)) []), g0 (.mv 2 (.c .nils)), g0 (.mv 3 (.c (.int .i64 0)))])
  (.seq (.ops [g0 (.load 7 (.t 1) (some 13) (some 1) false), g0 (.bsl 8 1 false []), g0 (.bsl 9 10 true []), g0 (.call (some 10) 12 [(.t 7), (.t 8), (.t 9)]), g0 (.mv 6 (.t 10)), g0 (.ext 11 (.t 6) 0), g0 (.ext 12 (.t 6) 1), g0 (.mv 4 (.t 11)), g0 (.mv 5 (.t 12))])
  (.seq (.seq (.ops [g0 (.mv 13 (.t 5)), g0 (.bin 14 .neq (.t 13) (.c (.int .i64 0)))])
  (.cond (.t 14) (.seq (.ops [g0 (.bsl 15 10 true []), g0 (.mv 16 (.t 5)), g0 (.mv 2 (.t 15)), g0 (.mv 3 (.t 16))])
  (.ret))
  (.skip)))
  (.seq (.ops [g0 (.mv 17 (.t 4)), g0 (.mv 2 (.t 17)), g0 (.mv 3 (.c (.int .i64 0)))])
  (.ret)))),
  [.t 2, .t 3]⟩
/-- notary/notaryref34.Same -/
def F8 : IFunc := ⟨.pure, .seq (.ops [g0 (.boxL 2 10 (some (.t 0)) []), g0 (.boxL 3 10 (some (.t 1)) []), g0 (.mv 4 (.c (.bool false)))])
  (.seq (.ops [g0 (.fldA 5 (.t 2) 0 none), g0 (.load 6 (.t 5) none (some 2) false), g0 (.fldA 7 (.t 3) 0 none), g0 (.load 8 (.t 7) none (some 3) false), g0 (.bin 9 .eql (.t 6) (.t 8)), g0 (.mv 10 (.t 9)), g1 10 true (.fldA 11 (.t 2) 1 none), g1 10 true (.load 12 (.t 11) none (some 2) false), g1 10 true (.fldA 13 (.t 3) 1 none), g1 10 true (.load 14 (.t 13) none (some 3) false), g1 10 true (.eqn 15 false .bool (.t 12) (.t 14)), g0 (.pick 16 (.t 10) (.t 15) (.c (.bool false))), g0 (.mv 17 (.t 16)), g1 17 true (.fldA 18 (.t 2) 2 none), g1 17 true (.load 19 (.t 18) none (some 2) false), g1 17 true (.fldA 20 (.t 3) 2 none), g1 17 true (.load 21 (.t 20) none (some 3) false), g1 17 true (.call (some 22) 13 [(.t 19), (.t 21)]), g0 (.pick 23 (.t 17) (.t 22) (.c (.bool false))), g0 (.mv 24 (.t 23)), g1 24 true (.fldA 25 (.t 2) 3 none), g1 24 true (.load 26 (.t 25) none (some 2) false), g1 24 true (.fldA 27 (.t 3) 3 none), g1 24 true (.load 28 (.t 27) none (some 3) false), g1 24 true (.call (some 29) 13 [(.t 26), (.t 28)]), g0 (.pick 30 (.t 24) (.t 29) (.c (.bool false))), g0 (.mv 31 (.t 30)), g1 31 true (.fldA 32 (.t 2) 4 (some 6)), g1 31 true (.load 33 (.t 32) (some 6) (some 2) false), g1 31 true (.fldA 34 (.t 3) 4 (some 6)), g1 31 true (.load 35 (.t 34) (some 6) (some 3) false), g1 31 true (.call (some 36) 14 [(.t 33), (.t 35)]), g0 (.pick 37 (.t 31) (.t 36) (.c (.bool false))), g0 (.mv 4 (.t 37))])
  (.ret)),
  [.t 4]⟩
def L9_0 : Ic := .seq (.seq (.ops [g0 (.mv 23 (.t 7)), g0 (.fldA 24 (.t 3) 12 none), g0 (.load 25 (.t 24) none (some 3) false), g0 (.len 26 .slice (.t 25) false), g0 (.bin 27 .lss (.t 23) (.t 26)), g0 (.mv 28 (.t 27)), g1 28 true (.mv 29 (.t 1)), g1 28 true (.bin 30 .geq (.t 29) (.c (.int .i64 0))), g0 (.pick 31 (.t 28) (.t 30) (.c (.bool false)))])
  (.cond (.t 31) (.skip)
  (.exit 0)))
  (.seq (.block 1 (.ops [g0 (.fldA 34 (.t 3) 12 none), g0 (.load 35 (.t 34) none (some 3) false), g0 (.mv 36 (.t 7)), g0 (.idxA 37 (.t 35) (.t 36) 13 (some 13) none), g0 (.load 38 (.t 37) (some 13) none false), g0 (.mv 39 (.t 1)), g0 (.mv 40 (.t 2)), g0 (.bin 41 .sub (.t 40) (.c (.int .i64 1))), g0 (.call (some 42) 9 [(.t 38), (.t 39), (.t 41)]), g0 (.mv 1 (.t 42))]))
  (.ops [g0 (.mv 32 (.t 7)), g0 (.bin 33 .add (.t 32) (.c (.int .i64 1))), g0 (.mv 7 (.t 33))]))
/-- notary/notaryref35.Count -/
def F9 : IFunc := ⟨.pure, .seq (.ops [g0 (.boxL 3 13 (some (.t 0)) []), g0 (.mv 6 (.c (.int .i64 0)))])
  (.seq (.seq (.ops [g0 (.mv 8 (.t 2)), g0 (.bin 9 .leq (.t 8) (.c (.int .i64 0))), g0 (.mv 10 (.t 9)), g1 10 false (.fldA 11 (.t 3) 1 none), g1 10 false (.load 12 (.t 11) none (some 3) false), g1 10 false (.len 13 .slice (.t 12) false), g1 10 false (.bin 14 .gtr (.t 13) (.c (.int .i64 60))), g0 (.pick 15 (.t 10) (.c (.bool true)) (.t 14)), g0 (.mv 16 (.t 15)), g1 16 false (.fldA 17 (.t 3) 2 (some 10)), g1 16 false (.load 18 (.t 17) (some 10) (some 3) false), g1 16 false (.call (some 19) 15 [(.t 18)]), g0 (.pick 20 (.t 16) (.c (.bool true)) (.t 19))])
  (.cond (.t 20) (.seq (.ops [g0 (.mv 6 (.c (.int .i64 (-1))))])
  (.ret))
  (.skip)))
  (.seq (.ops [g0 (.mv 21 (.t 1)), g0 (.bin 22 .sub (.t 21) (.c (.int .i64 1))), g0 (.mv 1 (.t 22))])
  (.seq (.seq (.ops [g0 (.mv 7 (.c (.int .i64 0)))])
  (.block 0 (.loop L9_0)))
  (.seq (.ops [g0 (.mv 43 (.t 1)), g0 (.mv 6 (.t 43))])
  (.ret))))),
  [.t 6]⟩
/-- notary/deriv.Run -/
def F10 : IFunc := ⟨.pure, .seq (.ops [g0 (.boxL 2 6 (some (.t 0)) []), g0 (.boxL 3 13 (some (.t 1)) []), g0 (.boxL 4 6 none [(.int .i64 0), (.int .i64 0), (.str []), .nils, (.int .i64 0), (.int .i64 0)]), g0 (.mv 5 (.c (.int .u64 0))), g0 (.mv 6 (.c .nils)), g0 (.mv 7 (.c (.int .i64 0))), g0 (.mv 8 (.c (.int .i64 0)))])
  (.seq (.ops [g0 (.load 13 (.t 2) (some 6) (some 2) false), g0 (.load 14 (.t 3) (some 13) (some 3) false), g0 (.call (some 15) 16 [(.t 13), (.t 14)]), g0 (.mv 12 (.t 15)), g0 (.ext 16 (.t 12) 0), g0 (.ext 17 (.t 12) 1), g0 (.ext 18 (.t 12) 2), g0 (.mv 9 (.t 16)), g0 (.mv 10 (.t 17)), g0 (.mv 11 (.t 18))])
  (.seq (.seq (.ops [g0 (.mv 19 (.t 11)), g0 (.bin 20 .neq (.t 19) (.c (.int .i64 0)))])
  (.cond (.t 20) (.seq (.ops [g0 (.build 21 [(.int .i64 0), (.int .i64 0), (.str []), .nils, (.int .i64 0), (.int .i64 0)] []), g0 (.mv 22 (.t 10)), g0 (.mv 23 (.t 11)), g0 (.store (.t 4) (.t 21) 6 (some 4)), g0 (.mv 5 (.c (.int .u64 0))), g0 (.mv 6 (.c .nils)), g0 (.mv 7 (.t 22)), g0 (.mv 8 (.t 23))])
  (.ret))
  (.skip)))
  (.seq (.ops [g0 (.mv 24 (.t 9)), g0 (.nilc (some 25) (.t 24)), g0 (.fldA 26 (.t 25) 0 (some 6)), g0 (.load 27 (.t 26) (some 6) none false), g0 (.mv 28 (.t 9)), g0 (.nilc (some 29) (.t 28)), g0 (.fldA 30 (.t 29) 6 none), g0 (.load 31 (.t 30) none none false), g0 (.mv 32 (.t 9)), g0 (.nilc (some 33) (.t 32)), g0 (.fldA 34 (.t 33) 7 none), g0 (.load 35 (.t 34) none none false), g0 (.store (.t 4) (.t 27) 6 (some 4)), g0 (.mv 5 (.t 31)), g0 (.mv 6 (.t 35)), g0 (.mv 7 (.c (.int .i64 0))), g0 (.mv 8 (.c (.int .i64 0)))])
  (.ret)))),
  [.cell 4 (some 6) (some 4), .t 5, .t 6, .t 7, .t 8]⟩
/-- (*notary/deriv.gatherer).see -/
def F11 : IFunc := ⟨.raw, .seq (.ops [g0 (.boxL 3 13 (some (.t 1)) [])])
  (.block 0 (.seq (.ops [g0 (.mv 31 (.t 0)), g0 (.nilc (some 32) (.t 31)), g0 (.fldA 33 (.t 32) 2 none), g0 (.load 34 (.t 33) none none false), g0 (.bin 35 .neq (.t 34) (.c (.int .i64 0))), g0 (.mv 30 (.t 35))])
  (.cond (.t 30) (.skip)
  (.seq (.ops [g0 (.fldA 37 (.t 3) 0 none), g0 (.load 38 (.t 37) none (some 3) false), g0 (.bin 39 .lss (.t 38) (.c (.int .i64 1))), g0 (.mv 40 (.t 39)), g1 40 false (.fldA 41 (.t 3) 0 none), g1 40 false (.load 42 (.t 41) none (some 3) false), g1 40 false (.bin 43 .gtr (.t 42) (.c (.int .i64 3))), g0 (.pick 44 (.t 40) (.c (.bool true)) (.t 43)), g0 (.mv 36 (.t 44))])
  (.cond (.t 36) (.ops [g0 (.mv 45 (.t 0)), g0 (.nilc (some 46) (.t 45)), g0 (.fldA 47 (.t 46) 2 none), g0 (.store (.t 47) (.c (.int .i64 23)) 1 none)])
  (.seq (.ops [g0 (.load 49 (.t 3) (some 13) (some 3) false), g0 (.call (some 50) 17 [(.t 49)]), g0 (.un 51 .not (.t 50)), g0 (.mv 48 (.t 51))])
  (.cond (.t 48) (.ops [g0 (.mv 52 (.t 0)), g0 (.nilc (some 53) (.t 52)), g0 (.fldA 54 (.t 53) 2 none), g0 (.store (.t 54) (.c (.int .i64 2)) 1 none)])
  (.seq (.ops [g0 (.fldA 56 (.t 3) 0 none), g0 (.load 57 (.t 56) none (some 3) false), g0 (.bin 58 .eql (.t 57) (.c (.int .i64 1))), g0 (.mv 55 (.t 58))])
  (.cond (.t 55) (.seq (.seq (.ops [g0 (.mv 59 (.t 0)), g0 (.nilc (some 60) (.t 59)), g0 (.fldA 61 (.t 60) 0 none), g0 (.load 62 (.t 61) none none false), g0 (.len 63 .slice (.t 62) false), g0 (.bin 64 .geq (.t 63) (.c (.int .i64 64)))])
  (.cond (.t 64) (.seq (.ops [g0 (.mv 65 (.t 0)), g0 (.nilc (some 66) (.t 65)), g0 (.fldA 67 (.t 66) 2 none), g0 (.store (.t 67) (.c (.int .i64 3)) 1 none)])
  (.ret))
  (.skip)))
  (.seq (.ops [g0 (.fldA 68 (.t 3) 2 (some 10)), g0 (.load 69 (.t 68) (some 10) (some 3) false), g0 (.boxL 4 10 none [(.int .i64 0), (.bool false), .nils, .nils, (.int .i64 0), (.int .i64 0), (.str []), .nils, (.int .i64 0), (.int .i64 0)]), g0 (.store (.t 4) (.t 69) 10 (some 4))])
  (.seq (.ops [g0 (.mv 70 (.t 0)), g0 (.nilc (some 71) (.t 70)), g0 (.fldA 72 (.t 71) 1 none), g0 (.load 73 (.t 72) none none false), g0 (.fldA 74 (.t 4) 2 none), g0 (.load 75 (.t 74) none (some 4) false), g0 (.bsl 76 1 false [(.t 73), (.t 75)]), g0 (.call (some 77) 18 [(.t 76)]), g0 (.fldA 78 (.t 4) 2 none), g0 (.store (.t 78) (.t 77) 1 (some 4))])
  (.ops [g0 (.mv 79 (.t 0)), g0 (.mv 80 (.t 0)), g0 (.nilc (some 81) (.t 80)), g0 (.fldA 82 (.t 81) 0 none), g0 (.load 83 (.t 82) none none false), g0 (.load 84 (.t 4) (some 10) (some 4) false), g0 (.bsl 85 10 true [(.t 84)]), g0 (.app 86 (.t 83) (.t 85) 10), g0 (.nilc (some 87) (.t 79)), g0 (.fldA 88 (.t 87) 0 none), g0 (.store (.t 88) (.t 86) 1 none)]))))
  (.seq (.ops [g0 (.mv 6 (.t 0)), g0 (.nilc (some 7) (.t 6)), g0 (.fldA 8 (.t 7) 1 none), g0 (.load 9 (.t 8) none none false), g0 (.mv 5 (.t 9))])
  (.seq (.ops [g0 (.mv 10 (.t 0)), g0 (.mv 11 (.t 0)), g0 (.nilc (some 12) (.t 11)), g0 (.fldA 13 (.t 12) 1 none), g0 (.load 14 (.t 13) none none false), g0 (.fldA 15 (.t 3) 1 none), g0 (.load 16 (.t 15) none (some 3) false), g0 (.bsl 17 1 false [(.t 14), (.t 16)]), g0 (.call (some 18) 18 [(.t 17)]), g0 (.nilc (some 19) (.t 10)), g0 (.fldA 20 (.t 19) 1 none), g0 (.store (.t 20) (.t 18) 1 none)])
  (.seq (.ops [g0 (.fldA 21 (.t 3) 12 none), g0 (.load 22 (.t 21) none (some 3) false), g0 (.mv 23 (.t 0)), g0 (.mkfn 24 11 [(.t 23)] []), g0 (.call (some 25) 19 [(.t 22), (.t 24)])])
  (.ops [g0 (.mv 26 (.t 0)), g0 (.mv 27 (.t 5)), g0 (.nilc (some 28) (.t 26)), g0 (.fldA 29 (.t 28) 1 none), g0 (.store (.t 29) (.t 27) 1 none)]))))))))))))),
  []⟩
def L12_0 : Ic := .seq (.seq (.ops [g0 (.mv 87 (.t 10)), g0 (.fldA 88 (.t 3) 12 none), g0 (.load 89 (.t 88) none (some 3) false), g0 (.len 90 .slice (.t 89) false), g0 (.bin 91 .lss (.t 87) (.t 90))])
  (.cond (.t 91) (.skip)
  (.exit 0)))
  (.seq (.block 1 (.seq (.ops [g0 (.fldA 95 (.t 3) 12 none), g0 (.load 96 (.t 95) none (some 3) false), g0 (.mv 97 (.t 10)), g0 (.idxA 98 (.t 96) (.t 97) 13 (some 13) none), g0 (.load 99 (.t 98) (some 13) none false), g0 (.mv 100 (.t 9)), g0 (.mv 101 (.t 2)), g0 (.call (some 102) 12 [(.t 99), (.t 100), (.t 101)]), g0 (.mv 94 (.t 102)), g0 (.ext 103 (.t 94) 0), g0 (.ext 104 (.t 94) 1), g0 (.mv 11 (.t 103)), g0 (.mv 12 (.t 104))])
  (.seq (.seq (.ops [g0 (.mv 105 (.t 12)), g0 (.bin 106 .neq (.t 105) (.c (.int .i64 0)))])
  (.cond (.t 106) (.seq (.ops [g0 (.mv 107 (.t 11)), g0 (.mv 108 (.t 12)), g0 (.mv 6 (.t 107)), g0 (.mv 7 (.t 108))])
  (.ret))
  (.skip)))
  (.ops [g0 (.mv 109 (.t 11)), g0 (.mv 2 (.t 109))]))))
  (.ops [g0 (.mv 92 (.t 10)), g0 (.bin 93 .add (.t 92) (.c (.int .i64 1))), g0 (.mv 10 (.t 93))]))
/-- notary/notaryref35.Below -/
def F12 : IFunc := ⟨.pure, .seq (.ops [g0 (.boxL 3 13 (some (.t 0)) []), g0 (.mv 6 (.c .nils)), g0 (.mv 7 (.c (.int .i64 0)))])
  (.seq (.seq (.ops [g0 (.fldA 13 (.t 3) 0 none), g0 (.load 14 (.t 13) none (some 3) false), g0 (.bin 15 .neq (.t 14) (.c (.int .i64 1))), g0 (.mv 16 (.t 15)), g1 16 true (.fldA 17 (.t 3) 0 none), g1 16 true (.load 18 (.t 17) none (some 3) false), g1 16 true (.bin 19 .neq (.t 18) (.c (.int .i64 2))), g0 (.pick 20 (.t 16) (.t 19) (.c (.bool false))), g0 (.mv 21 (.t 20)), g1 21 true (.fldA 22 (.t 3) 0 none), g1 21 true (.load 23 (.t 22) none (some 3) false), g1 21 true (.bin 24 .neq (.t 23) (.c (.int .i64 3))), g0 (.pick 25 (.t 21) (.t 24) (.c (.bool false)))])
  (.cond (.t 25) (.seq (.ops [g0 (.mv 26 (.t 2)), g0 (.mv 6 (.t 26)), g0 (.mv 7 (.c (.int .i64 23)))])
  (.ret))
  (.skip)))
  (.seq (.seq (.ops [g0 (.fldA 27 (.t 3) 0 none), g0 (.load 28 (.t 27) none (some 3) false), g0 (.bin 29 .neq (.t 28) (.c (.int .i64 3))), g0 (.mv 30 (.t 29)), g1 30 true (.fldA 31 (.t 3) 1 none), g1 30 true (.load 32 (.t 31) none (some 3) false), g1 30 true (.len 33 .slice (.t 32) false), g1 30 true (.bin 34 .gtr (.t 33) (.c (.int .i64 0))), g0 (.pick 35 (.t 30) (.t 34) (.c (.bool false))), g0 (.mv 36 (.t 35)), g1 36 false (.fldA 37 (.t 3) 0 none), g1 36 false (.load 38 (.t 37) none (some 3) false), g1 36 false (.bin 39 .eql (.t 38) (.c (.int .i64 1))), g1 36 false (.mv 40 (.t 39)), g1 40 true (.fldA 41 (.t 3) 12 none), g1 40 true (.load 42 (.t 41) none (some 3) false), g1 40 true (.len 43 .slice (.t 42) false), g1 40 true (.bin 44 .gtr (.t 43) (.c (.int .i64 0))), g1 36 false (.pick 45 (.t 40) (.t 44) (.c (.bool false))), g0 (.pick 46 (.t 36) (.c (.bool true)) (.t 45)), g0 (.mv 47 (.t 46)), g1 47 false (.fldA 48 (.t 3) 0 none), g1 47 false (.load 49 (.t 48) none (some 3) false), g1 47 false (.bin 50 .neq (.t 49) (.c (.int .i64 1))), g1 47 false (.mv 51 (.t 50)), g1 51 true (.fldA 52 (.t 3) 2 (some 10)), g1 51 true (.load 53 (.t 52) (some 10) (some 3) false), g1 51 true (.call (some 54) 20 [(.t 53)]), g1 51 true (.un 55 .not (.t 54)), g1 47 false (.pick 56 (.t 51) (.t 55) (.c (.bool false))), g0 (.pick 57 (.t 47) (.c (.bool true)) (.t 56))])
  (.cond (.t 57) (.seq (.ops [g0 (.mv 58 (.t 2)), g0 (.mv 6 (.t 58)), g0 (.mv 7 (.c (.int .i64 2)))])
  (.ret))
  (.skip)))
  (.seq (.seq (.ops [g0 (.fldA 59 (.t 3) 0 none), g0 (.load 60 (.t 59) none (some 3) false), g0 (.bin 61 .eql (.t 60) (.c (.int .i64 1)))])
  (.cond (.t 61) (.seq (.seq (.ops [g0 (.mv 62 (.t 2)), g0 (.len 63 .slice (.t 62) false), g0 (.bin 64 .geq (.t 63) (.c (.int .i64 64)))])
  (.cond (.t 64) (.seq (.ops [g0 (.mv 65 (.t 2)), g0 (.mv 6 (.t 65)), g0 (.mv 7 (.c (.int .i64 3)))])
  (.ret))
  (.skip)))
  (.seq (.ops [g0 (.fldA 66 (.t 3) 2 (some 10)), g0 (.load 67 (.t 66) (some 10) (some 3) false), g0 (.boxL 8 10 none [(.int .i64 0), (.bool false), .nils, .nils, (.int .i64 0), (.int .i64 0), (.str []), .nils, (.int .i64 0), (.int .i64 0)]), g0 (.store (.t 8) (.t 67) 10 (some 8))])
  (.seq (.ops [g0 (.bsl 68 1 false []), g0 (.mv 69 (.t 1)), g0 (.app 70 (.t 68) (.t 69) 1), g0 (.fldA 71 (.t 8) 2 none), g0 (.load 72 (.t 71) none (some 8) false), g0 (.app 73 (.t 70) (.t 72) 1), g0 (.fldA 74 (.t 8) 2 none), g0 (.stoF (.t 74) (.t 73) 1 8)])
  (.seq (.ops [g0 (.bsl 75 10 true []), g0 (.mv 76 (.t 2)), g0 (.app 77 (.t 75) (.t 76) 10), g0 (.load 78 (.t 8) (some 10) (some 8) false), g0 (.bsl 79 10 true [(.t 78)]), g0 (.app 80 (.t 77) (.t 79) 10), g0 (.mv 6 (.t 80)), g0 (.mv 7 (.c (.int .i64 0)))])
  (.ret)))))
  (.skip)))
  (.seq (.ops [g0 (.bsl 81 1 false []), g0 (.mv 82 (.t 1)), g0 (.app 83 (.t 81) (.t 82) 1), g0 (.fldA 84 (.t 3) 1 none), g0 (.load 85 (.t 84) none (some 3) false), g0 (.app 86 (.t 83) (.t 85) 1), g0 (.mv 9 (.t 86))])
  (.seq (.seq (.ops [g0 (.mv 10 (.c (.int .i64 0)))])
  (.block 0 (.loop L12_0)))
  (.seq (.ops [g0 (.mv 110 (.t 2)), g0 (.mv 6 (.t 110)), g0 (.mv 7 (.c (.int .i64 0)))])
  (.ret))))))),
  [.t 6, .t 7]⟩
def L13_0 : Ic := .seq (.seq (.ops [g0 (.mv 11 (.t 5)), g0 (.mv 12 (.t 0)), g0 (.len 13 .slice (.t 12) false), g0 (.bin 14 .lss (.t 11) (.t 13))])
  (.cond (.t 14) (.skip)
  (.exit 0)))
  (.seq (.block 1 (.seq (.ops [g0 (.mv 17 (.t 0)), g0 (.mv 18 (.t 5)), g0 (.idxA 19 (.t 17) (.t 18) 1 none none), g0 (.load 20 (.t 19) none none false), g0 (.mv 21 (.t 1)), g0 (.mv 22 (.t 5)), g0 (.idxA 23 (.t 21) (.t 22) 1 none none), g0 (.load 24 (.t 23) none none false), g0 (.bin 25 .neq (.t 20) (.t 24))])
  (.cond (.t 25) (.seq (.ops [g0 (.mv 4 (.c (.bool false)))])
  (.ret))
  (.skip))))
  (.ops [g0 (.mv 15 (.t 5)), g0 (.bin 16 .add (.t 15) (.c (.int .i64 1))), g0 (.mv 5 (.t 16))]))
/-- notary/notaryref06.Way -/
def F13 : IFunc := ⟨.pure, .seq (.ops [g0 (.mv 4 (.c (.bool false)))])
  (.seq (.seq (.ops [g0 (.mv 6 (.t 0)), g0 (.len 7 .slice (.t 6) false), g0 (.mv 8 (.t 1)), g0 (.len 9 .slice (.t 8) false), g0 (.bin 10 .neq (.t 7) (.t 9))])
  (.cond (.t 10) (.seq (.ops [g0 (.mv 4 (.c (.bool false)))])
  (.ret))
  (.skip)))
  (.seq (.seq (.ops [g0 (.mv 5 (.c (.int .i64 0)))])
  (.block 0 (.loop L13_0)))
  (.seq (.ops [g0 (.mv 4 (.c (.bool true)))])
  (.ret)))),
  [.t 4]⟩
def L14_0 : Ic := .seq (.seq (.ops [g0 (.mv 34 (.t 5)), g0 (.fldA 35 (.t 2) 3 none), g0 (.load 36 (.t 35) none (some 2) false), g0 (.len 37 .slice (.t 36) false), g0 (.bin 38 .lss (.t 34) (.t 37))])
  (.cond (.t 38) (.skip)
  (.exit 0)))
  (.seq (.block 1 (.seq (.ops [g0 (.fldA 41 (.t 2) 3 none), g0 (.load 42 (.t 41) none (some 2) false), g0 (.mv 43 (.t 5)), g0 (.idxA 44 (.t 42) (.t 43) 6 (some 6) none), g0 (.load 45 (.t 44) (some 6) none false), g0 (.fldA 46 (.t 3) 3 none), g0 (.load 47 (.t 46) none (some 3) false), g0 (.mv 48 (.t 5)), g0 (.idxA 49 (.t 47) (.t 48) 6 (some 6) none), g0 (.load 50 (.t 49) (some 6) none false), g0 (.call (some 51) 14 [(.t 45), (.t 50)]), g0 (.un 52 .not (.t 51))])
  (.cond (.t 52) (.seq (.ops [g0 (.mv 4 (.c (.bool false)))])
  (.ret))
  (.skip))))
  (.ops [g0 (.mv 39 (.t 5)), g0 (.bin 40 .add (.t 39) (.c (.int .i64 1))), g0 (.mv 5 (.t 40))]))
/-- notary/notaryref06.Same -/
def F14 : IFunc := ⟨.pure, .seq (.ops [g0 (.boxL 2 6 (some (.t 0)) []), g0 (.boxL 3 6 (some (.t 1)) []), g0 (.mv 4 (.c (.bool false)))])
  (.seq (.seq (.ops [g0 (.fldA 6 (.t 2) 0 none), g0 (.load 7 (.t 6) none (some 2) false), g0 (.fldA 8 (.t 3) 0 none), g0 (.load 9 (.t 8) none (some 3) false), g0 (.bin 10 .neq (.t 7) (.t 9)), g0 (.mv 11 (.t 10)), g1 11 false (.fldA 12 (.t 2) 1 none), g1 11 false (.load 13 (.t 12) none (some 2) false), g1 11 false (.fldA 14 (.t 3) 1 none), g1 11 false (.load 15 (.t 14) none (some 3) false), g1 11 false (.bin 16 .neq (.t 13) (.t 15)), g0 (.pick 17 (.t 11) (.c (.bool true)) (.t 16)), g0 (.mv 18 (.t 17)), g1 18 false (.fldA 19 (.t 2) 2 none), g1 18 false (.load 20 (.t 19) none (some 2) false), g1 18 false (.fldA 21 (.t 3) 2 none), g1 18 false (.load 22 (.t 21) none (some 3) false), g1 18 false (.bin 23 .neq (.t 20) (.t 22)), g0 (.pick 24 (.t 18) (.c (.bool true)) (.t 23)), g0 (.mv 25 (.t 24)), g1 25 false (.fldA 26 (.t 2) 3 none), g1 25 false (.load 27 (.t 26) none (some 2) false), g1 25 false (.len 28 .slice (.t 27) false), g1 25 false (.fldA 29 (.t 3) 3 none), g1 25 false (.load 30 (.t 29) none (some 3) false), g1 25 false (.len 31 .slice (.t 30) false), g1 25 false (.bin 32 .neq (.t 28) (.t 31)), g0 (.pick 33 (.t 25) (.c (.bool true)) (.t 32))])
  (.cond (.t 33) (.seq (.ops [g0 (.mv 4 (.c (.bool false)))])
  (.ret))
  (.skip)))
  (.seq (.seq (.ops [g0 (.mv 5 (.c (.int .i64 0)))])
  (.block 0 (.loop L14_0)))
  (.seq (.ops [g0 (.mv 4 (.c (.bool true)))])
  (.ret)))),
  [.t 4]⟩
/-- notary/notaryref34.Large -/
def F15 : IFunc := ⟨.pure, .seq (.ops [g0 (.boxL 1 10 (some (.t 0)) []), g0 (.mv 2 (.c (.bool false)))])
  (.seq (.ops [g0 (.fldA 3 (.t 1) 2 none), g0 (.load 4 (.t 3) none (some 1) false), g0 (.len 5 .slice (.t 4) false), g0 (.bin 6 .gtr (.t 5) (.c (.int .i64 100))), g0 (.mv 7 (.t 6)), g1 7 false (.fldA 8 (.t 1) 3 none), g1 7 false (.load 9 (.t 8) none (some 1) false), g1 7 false (.len 10 .slice (.t 9) false), g1 7 false (.bin 11 .gtr (.t 10) (.c (.int .i64 100))), g0 (.pick 12 (.t 7) (.c (.bool true)) (.t 11)), g0 (.mv 13 (.t 12)), g1 13 false (.fldA 14 (.t 1) 4 (some 6)), g1 13 false (.load 15 (.t 14) (some 6) (some 1) false), g1 13 false (.call (some 16) 21 [(.t 15)]), g0 (.pick 17 (.t 13) (.c (.bool true)) (.t 16)), g0 (.mv 2 (.t 17))])
  (.ret)),
  [.t 2]⟩
def L16_1 : Ic := .seq (.ops [g0 (.bin 47 .lss (.t 46) (.t 45))])
  (.seq (.cond (.t 47) (.skip)
  (.exit 2))
  (.seq (.block 3 (.seq (.ops [g0 (.mv 48 (.t 46)), g0 (.idxA 49 (.t 44) (.t 46) 10 (some 10) none), g0 (.load 50 (.t 49) (some 10) none false), g0 (.boxL 12 10 none [(.int .i64 0), (.bool false), .nils, .nils, (.int .i64 0), (.int .i64 0), (.str []), .nils, (.int .i64 0), (.int .i64 0)]), g0 (.mv 11 (.t 48)), g0 (.store (.t 12) (.t 50) 10 (some 12))])
  (.seq (.ops [g0 (.mv 51 (.t 9)), g0 (.load 52 (.t 12) (some 10) (some 12) false), g0 (.call (some 53) 22 [(.t 51), (.t 52)]), g0 (.mv 13 (.t 53))])
  (.seq (.ops [g0 (.mv 54 (.t 13)), g0 (.bin 55 .neq (.t 54) (.c (.int .i64 0)))])
  (.cond (.t 55) (.seq (.ops [g0 (.mv 56 (.t 11)), g0 (.mv 57 (.t 13)), g0 (.mv 4 (.c .nilp)), g0 (.mv 5 (.t 56)), g0 (.mv 6 (.t 57))])
  (.ret))
  (.skip))))))
  (.ops [g0 (.bin 58 .add (.t 46) (.c (.int .i64 1))), g0 (.mv 46 (.t 58))])))
def L16_0 : Ic := .seq (.ops [g0 (.bin 29 .lss (.t 28) (.t 27))])
  (.seq (.cond (.t 29) (.skip)
  (.exit 0))
  (.seq (.block 1 (.seq (.ops [g0 (.mv 30 (.t 28)), g0 (.mv 10 (.t 30))])
  (.ops [g0 (.mv 31 (.t 9)), g0 (.mv 32 (.t 9)), g0 (.nilc (some 33) (.t 32)), g0 (.fldA 34 (.t 33) 7 none), g0 (.load 35 (.t 34) none none false), g0 (.mv 36 (.t 10)), g0 (.mv 37 (.t 10)), g0 (.build 38 [(.int .i64 0), (.int .i64 0)] [(0, 1, (.t 36)), (1, 1, (.t 37))]), g0 (.bsl 39 2 true [(.t 38)]), g0 (.app 40 (.t 35) (.t 39) 2), g0 (.nilc (some 41) (.t 31)), g0 (.fldA 42 (.t 41) 7 none), g0 (.store (.t 42) (.t 40) 1 none)])))
  (.ops [g0 (.bin 43 .add (.t 28) (.c (.int .i64 1))), g0 (.mv 28 (.t 43))])))
/-- notary/deriv.run -/
def F16 : IFunc := ⟨.raw, .seq (.ops [g0 (.boxL 2 6 (some (.t 0)) []), g0 (.boxL 3 13 (some (.t 1)) []), g0 (.mv 4 (.c .nilp)), g0 (.mv 5 (.c (.int .i64 0))), g0 (.mv 6 (.c (.int .i64 0)))])
  (.seq (.ops [g0 (.load 15 (.t 3) (some 13) (some 3) false), g0 (.call (some 16) 6 [(.t 15)]), g0 (.mv 14 (.t 16)), g0 (.ext 17 (.t 14) 0), g0 (.ext 18 (.t 14) 1), g0 (.mv 7 (.t 17)), g0 (.mv 8 (.t 18))])
  (.seq (.seq (.ops [g0 (.mv 19 (.t 8)), g0 (.bin 20 .neq (.t 19) (.c (.int .i64 0)))])
  (.cond (.t 20) (.seq (.ops [g0 (.mv 21 (.t 8)), g0 (.mv 4 (.c .nilp)), g0 (.mv 5 (.c (.int .i64 0))), g0 (.mv 6 (.t 21))])
  (.ret))
  (.skip)))
  (.seq (.ops [g0 (.load 22 (.t 2) (some 6) (some 2) false), g0 (.build 23 [(.int .i64 0), (.int .i64 0), (.str []), .nils, (.int .i64 0), (.int .i64 0), (.int .u64 0), .nils, .nils] [(0, 6, (.t 22)), (6, 1, (.c (.int .u64 1)))]), g0 (.boxH 24 (some 9) (.t 23)), g0 (.mv 9 (.t 24))])
  (.seq (.seq (.ops [g0 (.fldA 25 (.t 2) 3 none), g0 (.load 26 (.t 25) none (some 2) false), g0 (.len 27 .slice (.t 26) false), g0 (.mv 28 (.c (.int .i64 0)))])
  (.block 0 (.loop L16_0)))
  (.seq (.seq (.ops [g0 (.mv 44 (.t 7)), g0 (.len 45 .slice (.t 44) false), g0 (.mv 46 (.c (.int .i64 0)))])
  (.block 2 (.loop L16_1)))
  (.seq (.ops [g0 (.mv 59 (.t 9)), g0 (.mv 4 (.t 59)), g0 (.mv 5 (.c (.int .i64 0))), g0 (.mv 6 (.c (.int .i64 0)))])
  (.ret))))))),
  [.t 4, .t 5, .t 6]⟩
/-- notary/deriv.fine -/
def F17 : IFunc := ⟨.pure, .seq (.ops [g0 (.boxL 1 13 (some (.t 0)) []), g0 (.mv 2 (.c (.bool false)))])
  (.seq (.seq (.ops [g0 (.fldA 3 (.t 1) 0 none), g0 (.load 4 (.t 3) none (some 1) false)])
  (.block 0 (.seq (.ops [g0 (.bin 6 .eql (.t 4) (.c (.int .i64 1))), g0 (.mv 5 (.t 6))])
  (.cond (.t 5) (.seq (.ops [g0 (.fldA 7 (.t 1) 1 none), g0 (.load 8 (.t 7) none (some 1) false), g0 (.len 9 .slice (.t 8) false), g0 (.bin 10 .eql (.t 9) (.c (.int .i64 0))), g0 (.mv 11 (.t 10)), g1 11 true (.fldA 12 (.t 1) 12 none), g1 11 true (.load 13 (.t 12) none (some 1) false), g1 11 true (.len 14 .slice (.t 13) false), g1 11 true (.bin 15 .eql (.t 14) (.c (.int .i64 0))), g0 (.pick 16 (.t 11) (.t 15) (.c (.bool false))), g0 (.mv 2 (.t 16))])
  (.ret))
  (.seq (.ops [g0 (.bin 18 .eql (.t 4) (.c (.int .i64 2))), g0 (.mv 17 (.t 18))])
  (.cond (.t 17) (.seq (.ops [g0 (.fldA 19 (.t 1) 1 none), g0 (.load 20 (.t 19) none (some 1) false), g0 (.len 21 .slice (.t 20) false), g0 (.bin 22 .eql (.t 21) (.c (.int .i64 0))), g0 (.mv 23 (.t 22)), g1 23 true (.fldA 24 (.t 1) 2 (some 10)), g1 23 true (.load 25 (.t 24) (some 10) (some 1) false), g1 23 true (.call (some 26) 23 [(.t 25)]), g0 (.pick 27 (.t 23) (.t 26) (.c (.bool false))), g0 (.mv 2 (.t 27))])
  (.ret))
  (.skip)))))))
  (.seq (.ops [g0 (.fldA 28 (.t 1) 2 (some 10)), g0 (.load 29 (.t 28) (some 10) (some 1) false), g0 (.call (some 30) 23 [(.t 29)]), g0 (.mv 2 (.t 30))])
  (.ret))),
  [.t 2]⟩
def L18_1 : Ic := .seq (.ops [g0 (.bin 28 .lss (.t 27) (.t 26))])
  (.seq (.cond (.t 28) (.skip)
  (.exit 2))
  (.seq (.block 3 (.seq (.ops [g0 (.idxA 29 (.t 25) (.t 27) 1 none none), g0 (.load 30 (.t 29) none none false), g0 (.mv 8 (.t 30))])
  (.ops [g0 (.mv 31 (.t 6)), g0 (.mv 32 (.t 8)), g0 (.app 33 (.t 31) (.t 32) 1), g0 (.mv 6 (.t 33))])))
  (.ops [g0 (.bin 34 .add (.t 27) (.c (.int .i64 1))), g0 (.mv 27 (.t 34))])))
def L18_0 : Ic := .seq (.ops [g0 (.bin 12 .lss (.t 11) (.t 10))])
  (.seq (.cond (.t 12) (.skip)
  (.exit 0))
  (.seq (.block 1 (.seq (.ops [g0 (.idxA 13 (.t 9) (.t 11) 1 none none), g0 (.load 14 (.t 13) none none false), g0 (.mv 5 (.t 14))])
  (.seq (.ops [g0 (.mv 15 (.t 3)), g0 (.mv 16 (.t 5)), g0 (.len 17 .slice (.t 16) false), g0 (.bin 18 .add (.t 15) (.t 17)), g0 (.mv 3 (.t 18))])
  (.seq (.ops [g0 (.mv 19 (.t 3)), g0 (.bin 20 .lss (.t 19) (.c (.int .i64 0)))])
  (.cond (.t 20) (.ops [g0 (.no (some 21)), g0 (.no none)])
  (.skip))))))
  (.ops [g0 (.bin 22 .add (.t 11) (.c (.int .i64 1))), g0 (.mv 11 (.t 22))])))
/-- slices.Concat[[]int,int] -/
def F18 : IFunc := ⟨.pure, .seq (.ops [g0 (.mv 2 (.c .nils))])
  (.seq (.ops [g0 (.mv 3 (.c (.int .i64 0)))])
  (.seq (.seq (.ops [g0 (.mv 9 (.t 0)), g0 (.len 10 .slice (.t 9) false), g0 (.mv 11 (.c (.int .i64 0)))])
  (.block 0 (.loop L18_0)))
  (.seq (.ops [g0 (.mv 23 (.t 3)), g0 (.call (some 24) 24 [(.c .nils), (.t 23)]), g0 (.mv 6 (.t 24))])
  (.seq (.seq (.ops [g0 (.mv 25 (.t 0)), g0 (.len 26 .slice (.t 25) false), g0 (.mv 27 (.c (.int .i64 0)))])
  (.block 2 (.loop L18_1)))
  (.seq (.ops [g0 (.mv 35 (.t 6)), g0 (.mv 2 (.t 35))])
  (.ret)))))),
  [.t 2]⟩
def L19_0 : Ic := .seq (.ops [g0 (.bin 9 .lss (.t 8) (.t 7))])
  (.seq (.cond (.t 9) (.skip)
  (.exit 0))
  (.seq (.block 1 (.seq (.ops [g0 (.idxA 10 (.t 6) (.t 8) 13 (some 13) none), g0 (.load 11 (.t 10) (some 13) none false), g0 (.boxL 5 13 none [(.int .i64 0), .nils, (.int .i64 0), (.bool false), .nils, .nils, (.int .i64 0), (.int .i64 0), (.str []), .nils, (.int .i64 0), (.int .i64 0), .nils]), g0 (.store (.t 5) (.t 11) 13 (some 5))])
  (.ops [g0 (.mv 12 (.t 1)), g0 (.load 13 (.t 5) (some 13) (some 5) false), g0 (.callV (some 14) (.t 12) [(.t 13)])])))
  (.ops [g0 (.bin 15 .add (.t 8) (.c (.int .i64 1))), g0 (.mv 8 (.t 15))])))
/-- notary/deriv.each -/
def F19 : IFunc := ⟨.raw, .seq (.ops [g0 (.mv 6 (.t 0)), g0 (.len 7 .slice (.t 6) false), g0 (.mv 8 (.c (.int .i64 0)))])
  (.block 0 (.loop L19_0)),
  []⟩
/-- notary/notaryref35.Bare -/
def F20 : IFunc := ⟨.pure, .seq (.ops [g0 (.boxL 1 10 (some (.t 0)) []), g0 (.mv 2 (.c (.bool false)))])
  (.seq (.ops [g0 (.fldA 3 (.t 1) 0 none), g0 (.load 4 (.t 3) none (some 1) false), g0 (.bin 5 .eql (.t 4) (.c (.int .i64 0))), g0 (.mv 6 (.t 5)), g1 6 true (.fldA 7 (.t 1) 1 none), g1 6 true (.load 8 (.t 7) none (some 1) false), g1 6 true (.un 9 .not (.t 8)), g0 (.pick 10 (.t 6) (.t 9) (.c (.bool false))), g0 (.mv 11 (.t 10)), g1 11 true (.fldA 12 (.t 1) 2 none), g1 11 true (.load 13 (.t 12) none (some 1) false), g1 11 true (.len 14 .slice (.t 13) false), g1 11 true (.bin 15 .eql (.t 14) (.c (.int .i64 0))), g0 (.pick 16 (.t 11) (.t 15) (.c (.bool false))), g0 (.mv 17 (.t 16)), g1 17 true (.fldA 18 (.t 1) 3 none), g1 17 true (.load 19 (.t 18) none (some 1) false), g1 17 true (.len 20 .slice (.t 19) false), g1 17 true (.bin 21 .eql (.t 20) (.c (.int .i64 0))), g0 (.pick 22 (.t 17) (.t 21) (.c (.bool false))), g0 (.mv 23 (.t 22)), g1 23 true (.fldA 24 (.t 1) 4 (some 6)), g1 23 true (.load 25 (.t 24) (some 6) (some 1) false), g1 23 true (.build 26 [(.int .i64 0), (.int .i64 0), (.str []), .nils, (.int .i64 0), (.int .i64 0)] []), g1 23 true (.call (some 27) 25 [(.t 25), (.t 26)]), g0 (.pick 28 (.t 23) (.t 27) (.c (.bool false))), g0 (.mv 2 (.t 28))])
  (.ret)),
  [.t 2]⟩
/-- notary/notaryref06.Large -/
def F21 : IFunc := ⟨.pure, .seq (.ops [g0 (.boxL 1 6 (some (.t 0)) []), g0 (.mv 2 (.c (.bool false)))])
  (.seq (.ops [g0 (.load 3 (.t 1) (some 6) (some 1) false), g0 (.call (some 4) 26 [(.t 3), (.c (.int .i64 400)), (.c (.int .i64 70))]), g0 (.bin 5 .lss (.t 4) (.c (.int .i64 0))), g0 (.mv 6 (.t 5)), g1 6 false (.load 7 (.t 1) (some 6) (some 1) false), g1 6 false (.call (some 8) 27 [(.t 7)]), g0 (.pick 9 (.t 6) (.c (.bool true)) (.t 8)), g0 (.mv 2 (.t 9))])
  (.ret)),
  [.t 2]⟩
/-- notary/deriv.bareStep -/
def F23 : IFunc := ⟨.pure, .seq (.ops [g0 (.boxL 1 10 (some (.t 0)) []), g0 (.mv 2 (.c (.bool false)))])
  (.seq (.ops [g0 (.fldA 3 (.t 1) 0 none), g0 (.load 4 (.t 3) none (some 1) false), g0 (.bin 5 .eql (.t 4) (.c (.int .i64 0))), g0 (.mv 6 (.t 5)), g1 6 true (.fldA 7 (.t 1) 1 none), g1 6 true (.load 8 (.t 7) none (some 1) false), g1 6 true (.un 9 .not (.t 8)), g0 (.pick 10 (.t 6) (.t 9) (.c (.bool false))), g0 (.mv 11 (.t 10)), g1 11 true (.fldA 12 (.t 1) 2 none), g1 11 true (.load 13 (.t 12) none (some 1) false), g1 11 true (.len 14 .slice (.t 13) false), g1 11 true (.bin 15 .eql (.t 14) (.c (.int .i64 0))), g0 (.pick 16 (.t 11) (.t 15) (.c (.bool false))), g0 (.mv 17 (.t 16)), g1 17 true (.fldA 18 (.t 1) 3 none), g1 17 true (.load 19 (.t 18) none (some 1) false), g1 17 true (.len 20 .slice (.t 19) false), g1 17 true (.bin 21 .eql (.t 20) (.c (.int .i64 0))), g0 (.pick 22 (.t 17) (.t 21) (.c (.bool false))), g0 (.mv 23 (.t 22)), g1 23 true (.fldA 24 (.t 1) 4 (some 6)), g1 23 true (.load 25 (.t 24) (some 6) (some 1) false), g1 23 true (.call (some 26) 33 [(.t 25)]), g0 (.pick 27 (.t 23) (.t 26) (.c (.bool false))), g0 (.mv 2 (.t 27))])
  (.ret)),
  [.t 2]⟩
/-- slices.Grow[[]int,int] -/
def F24 : IFunc := ⟨.raw, .seq (.ops [g0 (.mv 4 (.c .nils))])
  (.seq (.seq (.ops [g0 (.mv 5 (.t 1)), g0 (.bin 6 .lss (.t 5) (.c (.int .i64 0)))])
  (.cond (.t 6) (.ops [g0 (.no (some 7)), g0 (.no none)])
  (.skip)))
  (.seq (.seq (.ops [g0 (.mv 8 (.t 1)), g0 (.mv 9 (.t 0)), g0 (.capn 10 (.t 9)), g0 (.mv 11 (.t 0)), g0 (.len 12 .slice (.t 11) false), g0 (.bin 13 .sub (.t 10) (.t 12)), g0 (.bin 14 .sub (.t 8) (.t 13)), g0 (.mv 1 (.t 14))])
  (.seq (.ops [g0 (.mv 15 (.t 1)), g0 (.bin 16 .gtr (.t 15) (.c (.int .i64 0)))])
  (.cond (.t 16) (.ops [g0 (.mv 17 (.t 0)), g0 (.mv 18 (.t 0)), g0 (.capn 19 (.t 18)), g0 (.slc 20 (some 1) (.t 17) none (some (.t 19)) none), g0 (.mv 21 (.t 1)), g0 (.appz 22 (.t 20) (.t 21) 1 (.int .i64 0)), g0 (.mv 23 (.t 0)), g0 (.len 24 .slice (.t 23) false), g0 (.slc 25 (some 1) (.t 22) none (some (.t 24)) none), g0 (.mv 0 (.t 25))])
  (.skip))))
  (.seq (.ops [g0 (.mv 26 (.t 0)), g0 (.mv 4 (.t 26))])
  (.ret)))),
  [.t 4]⟩
def L25_0 : Ic := .seq (.seq (.ops [g0 (.mv 48 (.t 5)), g0 (.fldA 49 (.t 2) 3 none), g0 (.load 50 (.t 49) none (some 2) false), g0 (.len 51 .slice (.t 50) false), g0 (.bin 52 .lss (.t 48) (.t 51))])
  (.cond (.t 52) (.skip)
  (.exit 0)))
  (.seq (.block 1 (.seq (.ops [g0 (.fldA 55 (.t 2) 3 none), g0 (.load 56 (.t 55) none (some 2) false), g0 (.mv 57 (.t 5)), g0 (.idxA 58 (.t 56) (.t 57) 6 (some 6) none), g0 (.load 59 (.t 58) (some 6) none false), g0 (.fldA 60 (.t 3) 3 none), g0 (.load 61 (.t 60) none (some 3) false), g0 (.mv 62 (.t 5)), g0 (.idxA 63 (.t 61) (.t 62) 6 (some 6) none), g0 (.load 64 (.t 63) (some 6) none false), g0 (.call (some 65) 25 [(.t 59), (.t 64)]), g0 (.un 66 .not (.t 65))])
  (.cond (.t 66) (.seq (.ops [g0 (.mv 4 (.c (.bool false)))])
  (.ret))
  (.skip))))
  (.ops [g0 (.mv 53 (.t 5)), g0 (.bin 54 .add (.t 53) (.c (.int .i64 1))), g0 (.mv 5 (.t 54))]))
/-- notary/notaryref06.Placed -/
def F25 : IFunc := ⟨.pure, .seq (.ops [g0 (.boxL 2 6 (some (.t 0)) []), g0 (.boxL 3 6 (some (.t 1)) []), g0 (.mv 4 (.c (.bool false)))])
  (.seq (.seq (.ops [g0 (.fldA 6 (.t 2) 0 none), g0 (.load 7 (.t 6) none (some 2) false), g0 (.fldA 8 (.t 3) 0 none), g0 (.load 9 (.t 8) none (some 3) false), g0 (.bin 10 .neq (.t 7) (.t 9)), g0 (.mv 11 (.t 10)), g1 11 false (.fldA 12 (.t 2) 1 none), g1 11 false (.load 13 (.t 12) none (some 2) false), g1 11 false (.fldA 14 (.t 3) 1 none), g1 11 false (.load 15 (.t 14) none (some 3) false), g1 11 false (.bin 16 .neq (.t 13) (.t 15)), g0 (.pick 17 (.t 11) (.c (.bool true)) (.t 16)), g0 (.mv 18 (.t 17)), g1 18 false (.fldA 19 (.t 2) 2 none), g1 18 false (.load 20 (.t 19) none (some 2) false), g1 18 false (.fldA 21 (.t 3) 2 none), g1 18 false (.load 22 (.t 21) none (some 3) false), g1 18 false (.bin 23 .neq (.t 20) (.t 22)), g0 (.pick 24 (.t 18) (.c (.bool true)) (.t 23)), g0 (.mv 25 (.t 24)), g1 25 false (.fldA 26 (.t 2) 4 none), g1 25 false (.load 27 (.t 26) none (some 2) false), g1 25 false (.fldA 28 (.t 3) 4 none), g1 25 false (.load 29 (.t 28) none (some 3) false), g1 25 false (.bin 30 .neq (.t 27) (.t 29)), g0 (.pick 31 (.t 25) (.c (.bool true)) (.t 30)), g0 (.mv 32 (.t 31)), g1 32 false (.fldA 33 (.t 2) 5 none), g1 32 false (.load 34 (.t 33) none (some 2) false), g1 32 false (.fldA 35 (.t 3) 5 none), g1 32 false (.load 36 (.t 35) none (some 3) false), g1 32 false (.bin 37 .neq (.t 34) (.t 36)), g0 (.pick 38 (.t 32) (.c (.bool true)) (.t 37)), g0 (.mv 39 (.t 38)), g1 39 false (.fldA 40 (.t 2) 3 none), g1 39 false (.load 41 (.t 40) none (some 2) false), g1 39 false (.len 42 .slice (.t 41) false), g1 39 false (.fldA 43 (.t 3) 3 none), g1 39 false (.load 44 (.t 43) none (some 3) false), g1 39 false (.len 45 .slice (.t 44) false), g1 39 false (.bin 46 .neq (.t 42) (.t 45)), g0 (.pick 47 (.t 39) (.c (.bool true)) (.t 46))])
  (.cond (.t 47) (.seq (.ops [g0 (.mv 4 (.c (.bool false)))])
  (.ret))
  (.skip)))
  (.seq (.seq (.ops [g0 (.mv 5 (.c (.int .i64 0)))])
  (.block 0 (.loop L25_0)))
  (.seq (.ops [g0 (.mv 4 (.c (.bool true)))])
  (.ret)))),
  [.t 4]⟩
def L26_0 : Ic := .seq (.seq (.ops [g0 (.mv 12 (.t 7)), g0 (.fldA 13 (.t 3) 3 none), g0 (.load 14 (.t 13) none (some 3) false), g0 (.len 15 .slice (.t 14) false), g0 (.bin 16 .lss (.t 12) (.t 15)), g0 (.mv 17 (.t 16)), g1 17 true (.mv 18 (.t 1)), g1 17 true (.bin 19 .geq (.t 18) (.c (.int .i64 0))), g0 (.pick 20 (.t 17) (.t 19) (.c (.bool false)))])
  (.cond (.t 20) (.skip)
  (.exit 0)))
  (.seq (.block 1 (.ops [g0 (.fldA 23 (.t 3) 3 none), g0 (.load 24 (.t 23) none (some 3) false), g0 (.mv 25 (.t 7)), g0 (.idxA 26 (.t 24) (.t 25) 6 (some 6) none), g0 (.load 27 (.t 26) (some 6) none false), g0 (.mv 28 (.t 1)), g0 (.mv 29 (.t 2)), g0 (.bin 30 .sub (.t 29) (.c (.int .i64 1))), g0 (.call (some 31) 26 [(.t 27), (.t 28), (.t 30)]), g0 (.mv 1 (.t 31))]))
  (.ops [g0 (.mv 21 (.t 7)), g0 (.bin 22 .add (.t 21) (.c (.int .i64 1))), g0 (.mv 7 (.t 22))]))
/-- notary/notaryref06.Count -/
def F26 : IFunc := ⟨.pure, .seq (.ops [g0 (.boxL 3 6 (some (.t 0)) []), g0 (.mv 6 (.c (.int .i64 0)))])
  (.seq (.seq (.ops [g0 (.mv 8 (.t 2)), g0 (.bin 9 .leq (.t 8) (.c (.int .i64 0)))])
  (.cond (.t 9) (.seq (.ops [g0 (.mv 6 (.c (.int .i64 (-1))))])
  (.ret))
  (.skip)))
  (.seq (.ops [g0 (.mv 10 (.t 1)), g0 (.bin 11 .sub (.t 10) (.c (.int .i64 1))), g0 (.mv 1 (.t 11))])
  (.seq (.seq (.ops [g0 (.mv 7 (.c (.int .i64 0)))])
  (.block 0 (.loop L26_0)))
  (.seq (.ops [g0 (.mv 32 (.t 1)), g0 (.mv 6 (.t 32))])
  (.ret))))),
  [.t 6]⟩
def L27_0 : Ic := .seq (.seq (.ops [g0 (.mv 8 (.t 3)), g0 (.fldA 9 (.t 1) 3 none), g0 (.load 10 (.t 9) none (some 1) false), g0 (.len 11 .slice (.t 10) false), g0 (.bin 12 .lss (.t 8) (.t 11))])
  (.cond (.t 12) (.skip)
  (.exit 0)))
  (.seq (.block 1 (.seq (.ops [g0 (.fldA 15 (.t 1) 3 none), g0 (.load 16 (.t 15) none (some 1) false), g0 (.mv 17 (.t 3)), g0 (.idxA 18 (.t 16) (.t 17) 6 (some 6) none), g0 (.load 19 (.t 18) (some 6) none false), g0 (.call (some 20) 27 [(.t 19)])])
  (.cond (.t 20) (.seq (.ops [g0 (.mv 2 (.c (.bool true)))])
  (.ret))
  (.skip))))
  (.ops [g0 (.mv 13 (.t 3)), g0 (.bin 14 .add (.t 13) (.c (.int .i64 1))), g0 (.mv 3 (.t 14))]))
/-- notary/notaryref06.Named -/
def F27 : IFunc := ⟨.pure, .seq (.ops [g0 (.boxL 1 6 (some (.t 0)) []), g0 (.mv 2 (.c (.bool false)))])
  (.seq (.seq (.ops [g0 (.fldA 4 (.t 1) 2 none), g0 (.load 5 (.t 4) none (some 1) false), g0 (.len 6 .str (.t 5) false), g0 (.bin 7 .gtr (.t 6) (.c (.int .i64 40)))])
  (.cond (.t 7) (.seq (.ops [g0 (.mv 2 (.c (.bool true)))])
  (.ret))
  (.skip)))
  (.seq (.seq (.ops [g0 (.mv 3 (.c (.int .i64 0)))])
  (.block 0 (.loop L27_0)))
  (.seq (.ops [g0 (.mv 2 (.c (.bool false)))])
  (.ret)))),
  [.t 2]⟩
/-- notary/deriv.bareTerm -/
def F33 : IFunc := ⟨.pure, .seq (.ops [g0 (.boxL 1 6 (some (.t 0)) []), g0 (.mv 2 (.c (.bool false)))])
  (.seq (.ops [g0 (.fldA 3 (.t 1) 0 none), g0 (.load 4 (.t 3) none (some 1) false), g0 (.bin 5 .eql (.t 4) (.c (.int .i64 0))), g0 (.mv 6 (.t 5)), g1 6 true (.fldA 7 (.t 1) 1 none), g1 6 true (.load 8 (.t 7) none (some 1) false), g1 6 true (.bin 9 .eql (.t 8) (.c (.int .i64 0))), g0 (.pick 10 (.t 6) (.t 9) (.c (.bool false))), g0 (.mv 11 (.t 10)), g1 11 true (.fldA 12 (.t 1) 2 none), g1 11 true (.load 13 (.t 12) none (some 1) false), g1 11 true (.bin 14 .eql (.t 13) (.c (.str []))), g0 (.pick 15 (.t 11) (.t 14) (.c (.bool false))), g0 (.mv 16 (.t 15)), g1 16 true (.fldA 17 (.t 1) 3 none), g1 16 true (.load 18 (.t 17) none (some 1) false), g1 16 true (.len 19 .slice (.t 18) false), g1 16 true (.bin 20 .eql (.t 19) (.c (.int .i64 0))), g0 (.pick 21 (.t 16) (.t 20) (.c (.bool false))), g0 (.mv 22 (.t 21)), g1 22 true (.fldA 23 (.t 1) 4 none), g1 22 true (.load 24 (.t 23) none (some 1) false), g1 22 true (.bin 25 .eql (.t 24) (.c (.int .i64 0))), g0 (.pick 26 (.t 22) (.t 25) (.c (.bool false))), g0 (.mv 27 (.t 26)), g1 27 true (.fldA 28 (.t 1) 5 none), g1 27 true (.load 29 (.t 28) none (some 1) false), g1 27 true (.bin 30 .eql (.t 29) (.c (.int .i64 0))), g0 (.pick 31 (.t 27) (.t 30) (.c (.bool false))), g0 (.mv 2 (.t 31))])
  (.ret)),
  [.t 2]⟩
def T : Nat → Option IFunc
  | 3 => some F3
  | 4 => some F4
  | 5 => some F5
  | 6 => some F6
  | 7 => some F7
  | 8 => some F8
  | 9 => some F9
  | 10 => some F10
  | 11 => some F11
  | 12 => some F12
  | 13 => some F13
  | 14 => some F14
  | 15 => some F15
  | 16 => some F16
  | 17 => some F17
  | 18 => some F18
  | 19 => some F19
  | 20 => some F20
  | 21 => some F21
  | 23 => some F23
  | 24 => some F24
  | 25 => some F25
  | 26 => some F26
  | 27 => some F27
  | 33 => some F33
  | _ => none

theorem ok3 : okB Proofs.Tryz.prog 3 F3 = true := by kernel_rfl
theorem ok4 : okB Proofs.Tryz.prog 4 F4 = true := by kernel_rfl
theorem ok5 : okB Proofs.Tryz.prog 5 F5 = true := by kernel_rfl
theorem ok6 : okB Proofs.Tryz.prog 6 F6 = true := by kernel_rfl
theorem ok7 : okB Proofs.Tryz.prog 7 F7 = true := by kernel_rfl
theorem ok8 : okB Proofs.Tryz.prog 8 F8 = true := by kernel_rfl
theorem ok9 : okB Proofs.Tryz.prog 9 F9 = true := by kernel_rfl
theorem ok10 : okB Proofs.Tryz.prog 10 F10 = true := by kernel_rfl
theorem ok11 : okB Proofs.Tryz.prog 11 F11 = true := by kernel_rfl
theorem ok12 : okB Proofs.Tryz.prog 12 F12 = true := by kernel_rfl
theorem ok13 : okB Proofs.Tryz.prog 13 F13 = true := by kernel_rfl
theorem ok14 : okB Proofs.Tryz.prog 14 F14 = true := by kernel_rfl
theorem ok15 : okB Proofs.Tryz.prog 15 F15 = true := by kernel_rfl
theorem ok16 : okB Proofs.Tryz.prog 16 F16 = true := by kernel_rfl
theorem ok17 : okB Proofs.Tryz.prog 17 F17 = true := by kernel_rfl
theorem ok18 : okB Proofs.Tryz.prog 18 F18 = true := by kernel_rfl
theorem ok19 : okB Proofs.Tryz.prog 19 F19 = true := by kernel_rfl
theorem ok20 : okB Proofs.Tryz.prog 20 F20 = true := by kernel_rfl
theorem ok21 : okB Proofs.Tryz.prog 21 F21 = true := by kernel_rfl
theorem ok23 : okB Proofs.Tryz.prog 23 F23 = true := by kernel_rfl
theorem ok24 : okB Proofs.Tryz.prog 24 F24 = true := by kernel_rfl
theorem ok25 : okB Proofs.Tryz.prog 25 F25 = true := by kernel_rfl
theorem ok26 : okB Proofs.Tryz.prog 26 F26 = true := by kernel_rfl
theorem ok27 : okB Proofs.Tryz.prog 27 F27 = true := by kernel_rfl
theorem ok33 : okB Proofs.Tryz.prog 33 F33 = true := by kernel_rfl
theorem L3_0_w : L3_0.wr = [31, 32, 33, 34, 37, 38, 39, 40, 41, 42, 43, 44, 45, 46, 2, 35, 36, 7] := by kernel_rfl
theorem L3_0_p : L3_0.plain = true := by kernel_rfl
theorem L9_0_w : L9_0.wr = [23, 24, 25, 26, 27, 28, 29, 30, 31, 34, 35, 36, 37, 38, 39, 40, 41, 42, 1, 32, 33, 7] := by kernel_rfl
theorem L9_0_p : L9_0.plain = true := by kernel_rfl
theorem L12_0_w : L12_0.wr = [87, 88, 89, 90, 91, 95, 96, 97, 98, 99, 100, 101, 102, 94, 103, 104, 11, 12, 105, 106, 107, 108, 6, 7, 109, 2, 92, 93, 10] := by kernel_rfl
theorem L12_0_p : L12_0.plain = true := by kernel_rfl
theorem L13_0_w : L13_0.wr = [11, 12, 13, 14, 17, 18, 19, 20, 21, 22, 23, 24, 25, 4, 15, 16, 5] := by kernel_rfl
theorem L13_0_p : L13_0.plain = true := by kernel_rfl
theorem L14_0_w : L14_0.wr = [34, 35, 36, 37, 38, 41, 42, 43, 44, 45, 46, 47, 48, 49, 50, 51, 52, 4, 39, 40, 5] := by kernel_rfl
theorem L14_0_p : L14_0.plain = true := by kernel_rfl
theorem L16_1_w : L16_1.wr = [47, 48, 49, 50, 12, 11, 51, 52, 53, 13, 54, 55, 56, 57, 4, 5, 6, 58, 46] := by kernel_rfl
theorem L16_1_p : L16_1.plain = true := by kernel_rfl
theorem L16_0_w : L16_0.wr = [29, 30, 10, 31, 32, 33, 34, 35, 36, 37, 38, 39, 40, 41, 42, 43, 28] := by kernel_rfl
theorem L16_0_p : L16_0.plain = true := by kernel_rfl
theorem L18_1_w : L18_1.wr = [28, 29, 30, 8, 31, 32, 33, 6, 34, 27] := by kernel_rfl
theorem L18_1_p : L18_1.plain = true := by kernel_rfl
theorem L18_0_w : L18_0.wr = [12, 13, 14, 5, 15, 16, 17, 18, 3, 19, 20, 21, 22, 11] := by kernel_rfl
theorem L18_0_p : L18_0.plain = true := by kernel_rfl
theorem L19_0_w : L19_0.wr = [9, 10, 11, 5, 12, 13, 14, 15, 8] := by kernel_rfl
theorem L19_0_p : L19_0.plain = true := by kernel_rfl
theorem L25_0_w : L25_0.wr = [48, 49, 50, 51, 52, 55, 56, 57, 58, 59, 60, 61, 62, 63, 64, 65, 66, 4, 53, 54, 5] := by kernel_rfl
theorem L25_0_p : L25_0.plain = true := by kernel_rfl
theorem L26_0_w : L26_0.wr = [12, 13, 14, 15, 16, 17, 18, 19, 20, 23, 24, 25, 26, 27, 28, 29, 30, 31, 1, 21, 22, 7] := by kernel_rfl
theorem L26_0_p : L26_0.plain = true := by kernel_rfl
theorem L27_0_w : L27_0.wr = [8, 9, 10, 11, 12, 15, 16, 17, 18, 19, 20, 2, 13, 14, 3] := by kernel_rfl
theorem L27_0_p : L27_0.plain = true := by kernel_rfl

theorem ok (f : Nat) (ifn : IFunc) (h : T f = some ifn) : FuncOK Proofs.Tryz.prog f ifn := by
  unfold T at h
  split at h
  · cases h; exact okB_ok ok3
  · cases h; exact okB_ok ok4
  · cases h; exact okB_ok ok5
  · cases h; exact okB_ok ok6
  · cases h; exact okB_ok ok7
  · cases h; exact okB_ok ok8
  · cases h; exact okB_ok ok9
  · cases h; exact okB_ok ok10
  · cases h; exact okB_ok ok11
  · cases h; exact okB_ok ok12
  · cases h; exact okB_ok ok13
  · cases h; exact okB_ok ok14
  · cases h; exact okB_ok ok15
  · cases h; exact okB_ok ok16
  · cases h; exact okB_ok ok17
  · cases h; exact okB_ok ok18
  · cases h; exact okB_ok ok19
  · cases h; exact okB_ok ok20
  · cases h; exact okB_ok ok21
  · cases h; exact okB_ok ok23
  · cases h; exact okB_ok ok24
  · cases h; exact okB_ok ok25
  · cases h; exact okB_ok ok26
  · cases h; exact okB_ok ok27
  · cases h; exact okB_ok ok33
  · exact absurd h (by simp)

end Go.Nt.Ds
