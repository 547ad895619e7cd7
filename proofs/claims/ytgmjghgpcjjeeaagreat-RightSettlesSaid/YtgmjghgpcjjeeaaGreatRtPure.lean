/-
  THE SAME EQUATIONS IN AN ORDER THAT SPARES WORK: a text that imports this has 'simp' run code head first (it does not go into frames and code that is still to come), and part runs at branches that are not decided (with '+contextual' each way knows its truth).
  No condition.
-/
import Derived.Test.YtgmjghgpcjjeeaaGreatRtIr2
import Derived.Test.YtgmjghgpcjjeeaaGreatTzTop
import Derived.Test.YtgmjghgpcjjeeaaGreatRtDefs
namespace Go.Nt

variable {T : Nat → Option IFunc} {go : GoF} {lp' : Ic → Cfg → Option (Ex × Cfg)}

/-! ### What is looked at -/
@[congr] theorem kseq_cg {k : Cfg → Option (Ex × Cfg)} {x x' : Option (Ex × Cfg)} (h : x = x') : kseq k x = kseq k x' := by rw [h]
@[congr] theorem kblock_cg {id : Nat} {x x' : Option (Ex × Cfg)} (h : x = x') : kblock id x = kblock id x' := by rw [h]
@[congr] theorem kfin_cg {r : List Rv} {x x' : Option (Ex × Cfg)} (h : x = x') : kfin r x = kfin r x' := by rw [h]
@[congr] theorem kL_cg {a : Ic} {x x' : Option (Ex × Cfg)} (h : x = x') : kL T a x = kL T a x' := by rw [h]
@[congr] theorem kE_cg {d d' : Option Nat} {s : List D} {b : List (Nat × List D)} {st : St} {os : List Gi} {x x' : Option Eff} (hd : d = d') (hx : x = x') : kE T go d s b st os x = kE T go d' s b st os x' := by rw [hd, hx]
@[congr] theorem kG_cg {w : Bool} {io : Io} {os : List Gi} {s : List D} {b : List (Nat × List D)} {st : St} {d d' : D} (h : d = d') : kG T go w io os s b st d = kG T go w io os s b st d' := by rw [h]
@[congr] theorem kC_cg {a b : Ic} {c : Cfg} {d d' : D} (h : d = d') : kC T go lp' a b c d = kC T go lp' a b c d' := by rw [h]
@[congr] theorem Stops_cg {r r' : Option (Ex × Cfg)} {Q : Ex → List D → List (Nat × List D) → St → Prop} (h : r = r') : Stops r Q = Stops r' Q := by rw [h]
@[congr] theorem Ret_cg {r r' : Option (D × St)} {Q : D → St → Prop} (h : r = r') : Ret r Q = Ret r' Q := by rw [h]
@[congr] theorem loadD_cg {rb : Nat → Nat × List D} {st : St} {p p' : D} {n l : Option Nat} {q : Bool} (h : p = p') : loadD rb st p n l q = loadD rb st p' n l q := by rw [h]
attribute [congr] ite_congr

/-! ### Branches -/
attribute [simp] kC_b kG_b kseq_ite kblock_ite kfin_ite kL_ite kE_ite map_ite obind_ite Stops_ite Ret_ite

/-! ### Head first -/
attribute [simp ↓] kseq_n kseq_r kseq_e kblock_n kblock_r kblock_e kL_n kL_r kL_e kfin_r kfin_n kseq_ite kblock_ite kfin_ite kL_ite kE_ite map_ite obind_ite Stops_ite Ret_ite Stops_some Ret_some Option.map_some
attribute [simp ↓] rn_skip rn_ops rn_seq rn_block rn_loop rn_exit rn_ret rn_cond runOps_g0 runOps_kG runOps_nil get_put getB_putB

@[simp ↓] theorem ev_t (s : List D) (n : Nat) : Opd.ev s (.t n) = get s n := (rfl)
@[simp ↓] theorem ev_c (s : List D) (d : D) : Opd.ev s (.c d) = d := (rfl)
@[simp ↓] theorem ev_f (s : List D) (n : Nat) : Opd.ev s (.f n) = .fn n [] [] := (rfl)

@[simp high] theorem kE_vs (d : Nat) (s : List D) (b : List (Nat × List D)) (st : St) (os : List Gi) (v : D) : kE T go (some d) s b st os (some (v, none, none)) = runOps T go os ⟨⟨put s d v, b⟩, st⟩ := (rfl)
@[simp high] theorem kE_vn (s : List D) (b : List (Nat × List D)) (st : St) (os : List Gi) (v : D) : kE T go none s b st os (some (v, none, none)) = runOps T go os ⟨⟨s, b⟩, st⟩ := (rfl)
@[simp high] theorem kE_hs (d : Nat) (s : List D) (b : List (Nat × List D)) (st st' : St) (os : List Gi) (v : D) : kE T go (some d) s b st os (some (v, none, some st')) = runOps T go os ⟨⟨put s d v, b⟩, st'⟩ := (rfl)
@[simp high] theorem kE_hn (s : List D) (b : List (Nat × List D)) (st st' : St) (os : List Gi) (v : D) : kE T go none s b st os (some (v, none, some st')) = runOps T go os ⟨⟨s, b⟩, st'⟩ := (rfl)
@[simp high] theorem kE_bs (d : Nat) (s : List D) (b : List (Nat × List D)) (st : St) (os : List Gi) (v : D) (x g : Nat) (cs : List D) : kE T go (some d) s b st os (some (v, some (x, g, cs), none)) = runOps T go os ⟨⟨put s d v, putB b x (g, cs)⟩, st⟩ := (rfl)
@[simp high] theorem kE_bn (s : List D) (b : List (Nat × List D)) (st : St) (os : List Gi) (v : D) (x g : Nat) (cs : List D) : kE T go none s b st os (some (v, some (x, g, cs), none)) = runOps T go os ⟨⟨s, putB b x (g, cs)⟩, st⟩ := (rfl)

attribute [simp ↓] kE_vs kE_vn kE_hs kE_hn kE_bs kE_bn

/-- Operands. -/
def rdL (rd : Opd → D) (xs : List Opd) : List D := xs.map rd
@[simp ↓] theorem rdL_nil (s : List D) : rdL (Opd.ev s) [] = [] := (rfl)
@[simp ↓] theorem rdL_cons (s : List D) (x : Opd) (xs : List Opd) : rdL (Opd.ev s) (x :: xs) = Opd.ev s x :: rdL (Opd.ev s) xs := (rfl)
def rdO (rd : Opd → D) (x : Option Opd) : Option D := x.map rd
@[simp ↓] theorem rdO_none (s : List D) : rdO (Opd.ev s) none = none := (rfl)
@[simp ↓] theorem rdO_some (s : List D) (x : Opd) : rdO (Opd.ev s) (some x) = some (Opd.ev s x) := (rfl)
def rdP (rd : Opd → D) (ps : List (Nat × Nat × Opd)) : List (Nat × Nat × D) := ps.map fun p => (p.1, p.2.1, rd p.2.2)
@[simp ↓] theorem rdP_nil (s : List D) : rdP (Opd.ev s) [] = [] := (rfl)
@[simp ↓] theorem rdP_cons (s : List D) (a n : Nat) (x : Opd) (xs : List (Nat × Nat × Opd)) : rdP (Opd.ev s) ((a, n, x) :: xs) = (a, n, Opd.ev s x) :: rdP (Opd.ev s) xs := (rfl)

def kCall : Option (D × St) → Option Eff
  | some r => some (r.1, none, some r.2)
  | none => none
@[simp] theorem kCall_some (r : D) (st : St) : kCall (some (r, st)) = some (r, none, some st) := (rfl)
theorem kCall_ite {p : Prop} [Decidable p] (x y : Option (D × St)) : kCall (if p then x else y) = if p then kCall x else kCall y := by split <;> rfl
attribute [simp] kCall_ite
def kPick (x a b : D) : Option Eff := match x with
  | .bool t => val (if t then a else b)
  | _ => none
@[simp] theorem kPick_b (t : Bool) (a b : D) : kPick (.bool t) a b = some (if t = true then a else b, none, none) := (rfl)
@[simp high] theorem kPick_bb (t a b : Bool) : kPick (.bool t) (.bool a) (.bool b) = some (.bool (if t = true then a else b), none, none) := by cases t <;> rfl
def kNil (x : D) : Option Bool → Option Eff
  | some false => val x
  | _ => none
@[simp] theorem kNil_f (x : D) : kNil x (some false) = some (x, none, none) := (rfl)
def kEq (neg : Bool) : Option Bool → Option Eff
  | some b => val (.bool (if neg then !b else b))
  | none => none
@[simp] theorem kEq_t (b : Bool) : kEq true (some b) = some (.bool (!b), none, none) := (rfl)
@[simp] theorem kEq_f (b : Bool) : kEq false (some b) = some (.bool b, none, none) := (rfl)
def kFld (off : Nat) (n : Option Nat) (x : D) : Option Eff := match x with
  | .agg cs => (part cs off n).bind val
  | _ => none
@[simp] theorem kFld_a (off : Nat) (n : Option Nat) (cs : List D) : kFld off n (.agg cs) = (part cs off n).bind val := (rfl)
def kIdx (sz : Nat) (n arr : Option Nat) (x i : D) : Option Eff := match i with
  | .int _ i => if i < 0 then none else (idxAD x i.toNat sz n arr).bind val
  | _ => none
@[simp] theorem kIdx_i (sz : Nat) (n arr : Option Nat) (x : D) (k : IntKind) (i : Int) : kIdx sz n arr x (.int k i) = if i < 0 then none else (idxAD x i.toNat sz n arr).bind val := (rfl)
def kIxS (x i : D) : Option Eff := match i with
  | .int _ i => if i < 0 then none else match x with
    | .str s => (s[i.toNat]?).bind fun b => val (byteD b)
    | _ => none
  | _ => none
@[simp] theorem kIxS_s (s : List UInt8) (k : IntKind) (i : Int) : kIxS (.str s) (.int k i) = if i < 0 then none else (s[i.toNat]?).bind fun b => val (byteD b) := (rfl)
def kExt (i : Nat) (x : D) : Option Eff := match x with
  | .tup ds => (ds[i]?).bind val
  | _ => none
@[simp] theorem kExt_t (i : Nat) (ds : List D) : kExt i (.tup ds) = (ds[i]?).bind val := (rfl)
def kCvI (k : IntKind) (x : D) : Option Eff := match x with
  | .int _ n => val (.int k (k.wrap n))
  | _ => none
@[simp] theorem kCvI_i (k k' : IntKind) (n : Int) : kCvI k (.int k' n) = some (.int k (k.wrap n), none, none) := (rfl)
def kCvS (x : D) : Option Eff := match x with
  | .str s => val (.str s)
  | _ => none
@[simp] theorem kCvS_s (s : List UInt8) : kCvS (.str s) = some (.str s, none, none) := (rfl)
def kCvB : Option (List D) → Option Eff
  | some l => (l.mapM unbyte).bind fun s => val (.str s)
  | none => none
@[simp] theorem kCvB_s (l : List D) : kCvB (some l) = (l.mapM unbyte).bind fun s => val (.str s) := (rfl)
def kMM (mx : Bool) (x y : D) : Option Eff := match x, y with
  | .int k a, .int k' b => if k = k' then val (.int k (if mx then (if b > a then b else a) else (if b < a then b else a))) else none
  | _, _ => none
@[simp] theorem kMM_i (mx : Bool) (k k' : IntKind) (a b : Int) : kMM mx (.int k a) (.int k' b) = if k = k' then val (.int k (if mx then (if b > a then b else a) else (if b < a then b else a))) else none := (rfl)
def kAp (st : St) (sz : Nat) (s : D) : Option (List D) → Option Eff
  | some l => kCall (appendD st s l sz)
  | none => none
@[simp] theorem kAp_s (st : St) (sz : Nat) (s : D) (l : List D) : kAp st sz s (some l) = kCall (appendD st s l sz) := (rfl)
def kApT (ty : Nat) (st : St) (sz : Nat) (s : D) : Option (List D) → Option Eff
  | some l => kCall (appendTD ty st s l sz)
  | none => none
@[simp] theorem kApT_s (ty : Nat) (st : St) (sz : Nat) (s : D) (l : List D) : kApT ty st sz s (some l) = kCall (appendTD ty st s l sz) := (rfl)
def kCallV (T : Nat → Option IFunc) (go : GoF) (xs : List D) (st : St) (f : D) : Option Eff := match f with
  | .fn g first cap => kCall (callD T go g (first ++ xs ++ cap) st)
  | _ => none
@[simp] theorem kCallV_f (xs : List D) (st : St) (g : Nat) (a b : List D) : kCallV T go xs st (.fn g a b) = kCall (callD T go g (a ++ xs ++ b) st) := (rfl)
def kBuild (zero : List D) (ps : List (Nat × Nat × D)) : Option Eff := if ps.all (fun p => p.2.2.okv) then (fillD zero ps).bind fun cs => val (.agg cs) else none
@[simp] theorem kBuild_ (zero : List D) (ps : List (Nat × Nat × D)) : kBuild zero ps = if ps.all (fun p => p.2.2.okv) then (fillD zero ps).bind fun cs => val (.agg cs) else none := (rfl)
def kBsl (sz : Nat) (agg : Bool) (xs : List D) : Option Eff := if xs.all fun v => v.fits (if agg then some sz else none) && (v.cells.length == sz && v.pure) then val (.sl sz true xs) else none
@[simp] theorem kBsl_ (sz : Nat) (agg : Bool) (xs : List D) : kBsl sz agg xs = if xs.all fun v => v.fits (if agg then some sz else none) && (v.cells.length == sz && v.pure) then val (.sl sz true xs) else none := (rfl)
def kBoxH (n : Option Nat) (st : St) (x : D) : Option Eff := if x.fits n then some (.hp st.length 0 (n.getD 1) 0 0, none, some (st ++ [.cells true (n.getD 1) 0 0 false [x]])) else none
@[simp] theorem kBoxH_ (n : Option Nat) (st : St) (x : D) : kBoxH n st x = if x.fits n then some (.hp st.length 0 (n.getD 1) 0 0, none, some (st ++ [.cells true (n.getD 1) 0 0 false [x]])) else none := (rfl)
def kBoxI (n : Option Nat) (x : D) : Option Eff := (boxID n x).bind val
def kBoxJ (n : Option Nat) (x : D) : Option Eff := (match x with | .hp id ver sz i o => if n.isNone then some (D.kp id ver sz i o) else none | _ => none).bind val
@[simp] theorem kBoxI_ (n : Option Nat) (x : D) : kBoxI n x = if x.fits n && x.pure then val (.iptr x) else kBoxJ n x := by unfold kBoxI kBoxJ boxID; split <;> rfl
@[simp] theorem kBoxJ_hp (id ver sz i o : Nat) : kBoxJ none (.hp id ver sz i o) = val (.kp id ver sz i o) := (rfl)
def kBoxL (d g n : Nat) (cs : List D) : Option Eff := if cs.length = n ∧ cs.all D.okv = true then some (.lp d (g + 1) 0, some (d, g + 1, cs), none) else none
@[simp] theorem kBoxL_ (d g n : Nat) (cs : List D) : kBoxL d g n cs = if cs.length = n ∧ cs.all D.okv = true then some (.lp d (g + 1) 0, some (d, g + 1, cs), none) else none := (rfl)
def kMkfn (f : Nat) (first cap : List D) : Option Eff := if first.all D.okv && cap.all D.okv then val (.fn f first cap) else none
@[simp] theorem kMkfn_ (f : Nat) (first cap : List D) : kMkfn f first cap = if first.all D.okv && cap.all D.okv then val (.fn f first cap) else none := (rfl)
def kSlc (s : Option Nat) (x : D) (lo hi mx : Option D) : Option Eff := if slcTy s x then (sliceD x lo hi mx).bind val else none
@[simp] theorem kSlc_ (s : Option Nat) (x : D) (lo hi mx : Option D) : kSlc s x lo hi mx = if slcTy s x then (sliceD x lo hi mx).bind val else none := (rfl)

variable {rd : Opd → D} {rb : Nat → Nat × List D} {st : St}
@[simp ↓] theorem a_mv (d : Nat) (x : Opd) : actO T go rd rb st (.mv d x) = some (rd x, none, none) := (rfl)
@[simp ↓] theorem a_mvn : actO T go rd rb st .mvn = some (.undef, none, none) := (rfl)
@[simp ↓] theorem a_pick (d : Nat) (x a b : Opd) : actO T go rd rb st (.pick d x a b) = kPick (rd x) (rd a) (rd b) := by simp only [actO]; cases rd x <;> rfl
@[simp ↓] theorem a_boxLn (d n : Nat) (zero : List D) : actO T go rd rb st (.boxL d n none zero) = kBoxL d (rb d).1 n zero := (rfl)
@[simp ↓] theorem a_boxLs (d n : Nat) (x : Opd) (zero : List D) : actO T go rd rb st (.boxL d n (some x) zero) = kBoxL d (rb d).1 n (rd x).cells := (rfl)
@[simp ↓] theorem a_boxH (d : Nat) (n : Option Nat) (x : Opd) : actO T go rd rb st (.boxH d n x) = kBoxH n st (rd x) := (rfl)
@[simp ↓] theorem a_boxI (d : Nat) (n : Option Nat) (x : Opd) : actO T go rd rb st (.boxI d n x) = kBoxI n (rd x) := (rfl)
@[simp ↓] theorem a_build (d : Nat) (zero : List D) (ps : List (Nat × Nat × Opd)) : actO T go rd rb st (.build d zero ps) = kBuild zero (rdP rd ps) := by simp only [actO, kBuild, rdP, List.all_map]; rfl
@[simp ↓] theorem a_bsl (d sz : Nat) (agg : Bool) (xs : List Opd) : actO T go rd rb st (.bsl d sz agg xs) = kBsl sz agg (rdL rd xs) := (rfl)
@[simp ↓] theorem a_load (d : Nat) (p : Opd) (n l : Option Nat) (q : Bool) : actO T go rd rb st (.load d p n l q) = (loadD rb st (rd p) n l q).bind val := (rfl)
@[simp ↓] theorem a_store (p x : Opd) (n : Nat) (l : Option Nat) : actO T go rd rb st (.store p x n l) = storeD rb st (rd p) (rd x) n l := (rfl)
@[simp ↓] theorem a_storeX (box : Bool) (p x : Opd) (n : Nat) : actO T go rd rb st (.storeX box p x n) = storeXD box st (rd p) (rd x) n := (rfl)
@[simp ↓] theorem a_nilc (d : Option Nat) (x : Opd) : actO T go rd rb st (.nilc d x) = kNil (rd x) (nilD .ptr (rd x)) := by simp only [actO]; rcases nilD .ptr (rd x) with _ | (_ | _) <;> rfl
@[simp ↓] theorem a_bin (d : Nat) (op : BinOp) (x y : Opd) : actO T go rd rb st (.bin d op x y) = (binD op (rd x) (rd y)).bind val := (rfl)
@[simp ↓] theorem a_eqn (d : Nat) (neg : Bool) (k : Kd) (x y : Opd) : actO T go rd rb st (.eqn d neg k x y) = kEq neg (eqnD k (rd x) (rd y)) := by simp only [actO, kEq]; cases eqnD k (rd x) (rd y) <;> rfl
@[simp ↓] theorem a_un (d : Nat) (op : UnOp) (x : Opd) : actO T go rd rb st (.un d op x) = (unD op (rd x)).bind val := (rfl)
@[simp ↓] theorem a_cvI (d : Nat) (k : IntKind) (x : Opd) : actO T go rd rb st (.conv d (.int k) x) = kCvI k (rd x) := by simp only [actO]; cases rd x <;> rfl
@[simp ↓] theorem a_cvS (d : Nat) (x : Opd) : actO T go rd rb st (.conv d .same x) = kCvS (rd x) := by simp only [actO]; cases rd x <;> rfl
@[simp ↓] theorem a_cvB (d : Nat) (x : Opd) : actO T go rd rb st (.conv d .bytesstr x) = kCvB (listD st 1 (rd x)) := by simp only [actO]; cases listD st 1 (rd x) <;> rfl
@[simp ↓] theorem a_mkfn (d f : Nat) (first cap : List Opd) : actO T go rd rb st (.mkfn d f first cap) = kMkfn f (rdL rd first) (rdL rd cap) := (rfl)
@[simp ↓] theorem a_fldA (d : Nat) (x : Opd) (off : Nat) (n : Option Nat) : actO T go rd rb st (.fldA d x off n) = (fldD (rd x) off n).bind val := (rfl)
@[simp ↓] theorem a_fld (d : Nat) (x : Opd) (off : Nat) (n : Option Nat) : actO T go rd rb st (.fld d x off n) = kFld off n (rd x) := by simp only [actO]; cases rd x <;> rfl
@[simp ↓] theorem a_idxA (d : Nat) (x i : Opd) (sz : Nat) (n arr : Option Nat) : actO T go rd rb st (.idxA d x i sz n arr) = kIdx sz n arr (rd x) (rd i) := by simp only [actO]; cases rd i <;> rfl
@[simp ↓] theorem a_idxS (d : Nat) (x i : Opd) (n : Option Nat) (sz : Nat) : actO T go rd rb st (.idx d x i n sz none) = kIxS (rd x) (rd i) := by simp only [actO]; cases rd i <;> first | rfl | (cases rd x <;> rfl)
@[simp ↓] theorem a_slc (d : Nat) (s : Option Nat) (x : Opd) (lo hi mx : Option Opd) : actO T go rd rb st (.slc d s x lo hi mx) = kSlc s (rd x) (rdO rd lo) (rdO rd hi) (rdO rd mx) := (rfl)
@[simp ↓] theorem a_ext (d : Nat) (x : Opd) (i : Nat) : actO T go rd rb st (.ext d x i) = kExt i (rd x) := by simp only [actO]; cases rd x <;> rfl
@[simp ↓] theorem a_call (d : Option Nat) (f : Nat) (xs : List Opd) : actO T go rd rb st (.call d f xs) = kCall (callD T go f (rdL rd xs) st) := by simp only [actO, rdL]; cases callD T go f (xs.map rd) st <;> rfl
@[simp ↓] theorem a_callR (d : Option Nat) (f : Nat) (xs : List Opd) : actO T go rd rb st (.callR d f xs) = (callRD T go f (rdL rd xs) st).bind val := (rfl)
@[simp ↓] theorem a_callQ (d : Option Nat) (f : Nat) (xs : List Opd) : actO T go rd rb st (.callQ d f xs) = (callQD T go f (rdL rd xs)).bind val := (rfl)
@[simp ↓] theorem a_callV (d : Option Nat) (f : Opd) (xs : List Opd) : actO T go rd rb st (.callV d f xs) = kCallV T go (rdL rd xs) st (rd f) := by
  simp only [actO, rdL]
  cases rd f with
  | fn g a b => simp only [kCallV]; cases callD T go g (a ++ xs.map rd ++ b) st <;> rfl
  | _ => rfl
@[simp ↓] theorem a_len (d : Nat) (k : Kd) (x : Opd) (q : Bool) : actO T go rd rb st (.len d k x q) = (lenD st k (rd x) q).bind val := (rfl)
@[simp ↓] theorem a_app (d : Nat) (s x : Opd) (sz : Nat) : actO T go rd rb st (.app d s x sz) = kAp st sz (rd s) (srcD st sz (rd x)) := by
  simp only [actO]; cases srcD st sz (rd x) with
  | none => rfl
  | some l => simp only [Option.bind_some, kAp]; cases appendD st (rd s) l sz <;> rfl
@[simp ↓] theorem a_appT (d : Nat) (s x : Opd) (sz ty : Nat) : actO T go rd rb st (.appT d s x sz ty) = kApT ty st sz (rd s) (srcD st sz (rd x)) := by
  simp only [actO]; cases srcD st sz (rd x) with
  | none => rfl
  | some l => simp only [Option.bind_some, kApT]; cases appendTD ty st (rd s) l sz <;> rfl
@[simp ↓] theorem a_mm (d : Nat) (mx : Bool) (x y : Opd) : actO T go rd rb st (.mm d mx x y) = kMM mx (rd x) (rd y) := by simp only [actO]; cases rd x <;> first | rfl | (cases rd y <;> rfl)

@[simp] theorem listD_sl (st : St) (sz : Nat) (fl : Bool) (ds : List D) : listD st sz (.sl sz fl ds) = some ds := by simp [listD]
@[simp] theorem listD_nils (st : St) (sz : Nat) : listD st sz .nils = some [] := (rfl)
@[simp] theorem srcD_sl (st : St) (sz : Nat) (fl : Bool) (ds : List D) : srcD st sz (.sl sz fl ds) = some ds := by simp [srcD]
@[simp] theorem srcD_nils (st : St) (sz : Nat) : srcD st sz .nils = some [] := (rfl)
@[simp] theorem srcD_slE (st : St) (sz : Nat) (fl : Fl) (ds : List D) : srcD st sz (slE sz fl ds) = some ds := by
  have := slE_list st sz fl ds
  cases fl <;> cases ds <;> exact this

/-- A slice of an array. -/
def kSlcA (st : St) (n : Nat) (x : D) (lo hi : Option D) : Option Eff := match x with
    | .hp id ver sz 0 0 => match St.at st id with
      | .cells box sz' ver' mod false [.agg cs] =>
        if ver' = ver ∧ sz' = sz ∧ sz = n ∧ cs.length = n ∧ cs.all D.pure1 = true then
          (boundD hi n n).bind fun h => (boundD lo 0 h).bind fun l =>
            some (.sl 1 (h == n) ((cs.drop l).take (h - l)), none, some (List.set st id (.cells box sz ver (mod + 1) true [.agg cs])))
        else none
      | _ => none
    | _ => none
@[simp ↓] theorem a_slcA {T : Nat → Option IFunc} {go : GoF} {rd : Opd → D} {rb : Nat → Nat × List D} {st : St} (d : Nat) (x : Opd) (lo hi : Option Opd) (n : Nat) : actO T go rd rb st (.slcA d x lo hi n) = kSlcA st n (rd x) (rdO rd lo) (rdO rd hi) := (rfl)

/-! ### A nil slice's room, zeros behind it; a store of what is freed first -/
def kCapn : D → Option Eff
  | .nils => val (.i 0)
  | _ => none
@[simp] theorem kCapn_nils : kCapn .nils = val (.i 0) := (rfl)
@[simp ↓] theorem a_capn {T : Nat → Option IFunc} {go : GoF} {rd : Opd → D} {rb : Nat → Nat × List D} {st : St} (d : Nat) (x : Opd) : actO T go rd rb st (.capn d x) = kCapn (rd x) := by simp only [actO]; cases rd x <;> rfl
def kAppz (st : St) (sz : Nat) (zero : D) : D → D → Option Eff
  | .nils, .int _ k => if 0 < k ∧ k ≤ most then some (.rs st.length 0 sz 0 k.toNat false, none, some (st ++ [.cells false sz 0 0 false (List.replicate k.toNat zero)])) else none
  | _, _ => none
@[simp] theorem kAppz_nils (st : St) (sz : Nat) (zero : D) (i : IntKind) (k : Int) : kAppz st sz zero .nils (.int i k) = if 0 < k ∧ k ≤ most then some (.rs st.length 0 sz 0 k.toNat false, none, some (st ++ [.cells false sz 0 0 false (List.replicate k.toNat zero)])) else none := (rfl)
@[simp ↓] theorem a_appz {T : Nat → Option IFunc} {go : GoF} {rd : Opd → D} {rb : Nat → Nat × List D} {st : St} (d : Nat) (s n : Opd) (sz : Nat) (zero : D) : actO T go rd rb st (.appz d s n sz zero) = kAppz st sz zero (rd s) (rd n) := by
  simp only [actO]; cases rd s <;> first | rfl | (cases rd n <;> rfl)
def kStoF (rb : Nat → Nat × List D) (p : D) (n b : Nat) : Option (D × St) → Option Eff
  | some r => (storeD rb r.2 p r.1 n (some b)).bind fun e => some (.undef, e.2.1, some r.2)
  | none => none
@[simp] theorem kStoF_some (rb : Nat → Nat × List D) (p : D) (n b : Nat) (r : D × St) : kStoF rb p n b (some r) = (storeD rb r.2 p r.1 n (some b)).bind fun e => some (.undef, e.2.1, some r.2) := (rfl)
@[simp ↓] theorem a_stoF {T : Nat → Option IFunc} {go : GoF} {rd : Opd → D} {rb : Nat → Nat × List D} {st : St} (p x : Opd) (n b : Nat) : actO T go rd rb st (.stoF p x n b) = kStoF rb (rd p) n b (fz1 st (rd x)) := by
  simp only [actO]; cases fz1 st (rd x) <;> rfl
@[simp ↓] theorem a_no {T : Nat → Option IFunc} {go : GoF} {rd : Opd → D} {rb : Nat → Nat × List D} {st : St} (d : Option Nat) : actO T go rd rb st (.no d) = none := (rfl)

end Go.Nt

/-
  RUNS WITH WHAT IS ASKED BEHIND THEM: 'simp' walks code head first, parts at branches ('+contextual': each way knows its truth), and leaves what is asked at each way's end.
  No condition.
-/
namespace Go.Nt

variable {T : Nat → Option IFunc}

abbrev Kt : Type := Ex → Cfg → Prop

/-- The code's run ends, so. -/
def WP (T : Nat → Option IFunc) (a : Ic) (c : Cfg) (K : Kt) : Prop := ∃ e c', rn T (ev T) (lp T) a c = some (e, c') ∧ K e c'
def WO (T : Nat → Option IFunc) (l : List Gi) (c : Cfg) (K : Kt) : Prop := ∃ c', runOps T (ev T) l c = some c' ∧ K .normal c'
def WE (T : Nat → Option IFunc) (d : Option Nat) (s : List D) (b : List (Nat × List D)) (st : St) (os : List Gi) (x : Option Eff) (K : Kt) : Prop := ∃ c', kE T (ev T) d s b st os x = some c' ∧ K .normal c'
/-- A loop's run ends, so. -/
def WL (T : Nat → Option IFunc) (L : Ic) (c : Cfg) (K : Kt) : Prop := ∃ e c', lp T L c = some (e, c') ∧ K e c'
def WC (T : Nat → Option IFunc) (a b : Ic) (c : Cfg) (d : D) (K : Kt) : Prop := ∃ e c', kC T (ev T) (lp T) a b c d = some (e, c') ∧ K e c'
def WG (T : Nat → Option IFunc) (w : Bool) (io : Io) (os : List Gi) (s : List D) (b : List (Nat × List D)) (st : St) (d : D) (K : Kt) : Prop := ∃ c', kG T (ev T) w io os s b st d = some c' ∧ K .normal c'

def qSq (T : Nat → Option IFunc) (b : Ic) (K : Kt) : Kt
  | .normal, c => WP T b c K
  | e, c => K e c
def qBk (id : Nat) (K : Kt) : Kt
  | .exit id', c => K (if id' = id then .normal else .exit id') c
  | e, c => K e c
def qLp (T : Nat → Option IFunc) (L : Ic) (Q : Ex → List D → List (Nat × List D) → St → Prop) : Kt
  | .normal, c => Stops (lp T L c) Q
  | e, c => Q e c.1.s c.1.b c.2
def qFn (res : List Rv) (Q : D → St → Prop) : Kt
  | .exit _, _ => False
  | _, c => Ret (finish res c) Q

@[congr] theorem WE_cg {d d' : Option Nat} {s : List D} {b : List (Nat × List D)} {st : St} {os : List Gi} {x x' : Option Eff} {K : Kt} (hd : d = d') (hx : x = x') : WE T d s b st os x K = WE T d' s b st os x' K := by rw [hd, hx]
@[congr] theorem WG_cg {w : Bool} {io : Io} {os : List Gi} {s : List D} {b : List (Nat × List D)} {st : St} {d d' : D} {K : Kt} (h : d = d') : WG T w io os s b st d K = WG T w io os s b st d' K := by rw [h]
@[congr] theorem WC_cg {a b : Ic} {c : Cfg} {d d' : D} {K : Kt} (h : d = d') : WC T a b c d K = WC T a b c d' K := by rw [h]

@[simp ↓] theorem qSq_n (b : Ic) (K : Kt) (c : Cfg) : qSq T b K .normal c = WP T b c K := (rfl)
@[simp ↓] theorem qSq_r (b : Ic) (K : Kt) (c : Cfg) : qSq T b K .ret c = K .ret c := (rfl)
@[simp ↓] theorem qSq_e (b : Ic) (K : Kt) (id : Nat) (c : Cfg) : qSq T b K (.exit id) c = K (.exit id) c := (rfl)
@[simp ↓] theorem qBk_n (id : Nat) (K : Kt) (c : Cfg) : qBk id K .normal c = K .normal c := (rfl)
@[simp ↓] theorem qBk_r (id : Nat) (K : Kt) (c : Cfg) : qBk id K .ret c = K .ret c := (rfl)
@[simp ↓] theorem qBk_e0 (id : Nat) (K : Kt) (c : Cfg) : qBk id K (.exit id) c = K .normal c := by simp [qBk]
@[simp ↓] theorem qBk_e (id id' : Nat) (K : Kt) (c : Cfg) (h : id' ≠ id) : qBk id K (.exit id') c = K (.exit id') c := by simp [qBk, h]
@[simp ↓] theorem qLp_n (L : Ic) (Q : Ex → List D → List (Nat × List D) → St → Prop) (c : Cfg) : qLp T L Q .normal c = Stops (lp T L c) Q := (rfl)
@[simp ↓] theorem qLp_r (L : Ic) (Q : Ex → List D → List (Nat × List D) → St → Prop) (s : List D) (b : List (Nat × List D)) (st : St) : qLp T L Q .ret ⟨⟨s, b⟩, st⟩ = Q .ret s b st := (rfl)
@[simp ↓] theorem qLp_e (L : Ic) (Q : Ex → List D → List (Nat × List D) → St → Prop) (id : Nat) (s : List D) (b : List (Nat × List D)) (st : St) : qLp T L Q (.exit id) ⟨⟨s, b⟩, st⟩ = Q (.exit id) s b st := (rfl)
@[simp ↓] theorem qFn_n (res : List Rv) (Q : D → St → Prop) (c : Cfg) : qFn res Q .normal c = Ret (finish res c) Q := (rfl)
@[simp ↓] theorem qFn_r (res : List Rv) (Q : D → St → Prop) (c : Cfg) : qFn res Q .ret c = Ret (finish res c) Q := (rfl)

@[simp ↓] theorem WP_skip (c : Cfg) (K : Kt) : WP T .skip c K = K .normal c := propext ⟨fun ⟨_, _, h, k⟩ => by cases h; exact k, fun k => ⟨_, _, rfl, k⟩⟩
@[simp ↓] theorem WP_exit (id : Nat) (c : Cfg) (K : Kt) : WP T (.exit id) c K = K (.exit id) c := propext ⟨fun ⟨_, _, h, k⟩ => by cases h; exact k, fun k => ⟨_, _, rfl, k⟩⟩
@[simp ↓] theorem WP_ret (c : Cfg) (K : Kt) : WP T .ret c K = K .ret c := propext ⟨fun ⟨_, _, h, k⟩ => by cases h; exact k, fun k => ⟨_, _, rfl, k⟩⟩
@[simp ↓] theorem WP_loop (L : Ic) (c : Cfg) (K : Kt) : WP T (.loop L) c K = WL T L c K := (rfl)
@[simp ↓] theorem WP_seq (a b : Ic) (c : Cfg) (K : Kt) : WP T (.seq a b) c K = WP T a c (qSq T b K) := by
  refine propext ⟨fun ⟨e, c', h, k⟩ => ?_, fun ⟨e, c', h, k⟩ => ?_⟩
  · rw [rn_seq] at h
    cases hq : rn T (ev T) (lp T) a c with
    | none => rw [hq] at h; cases h
    | some r =>
      obtain ⟨e1, c1⟩ := r
      rw [hq] at h
      refine ⟨e1, c1, hq, ?_⟩
      cases e1 with
      | normal => exact ⟨e, c', h, k⟩
      | ret => cases h; exact k
      | exit id => cases h; exact k
  · cases e with
    | normal =>
      obtain ⟨e2, c2, h2, k2⟩ := k
      exact ⟨e2, c2, by rw [rn_seq, h]; exact h2, k2⟩
    | ret => exact ⟨_, _, by rw [rn_seq, h]; rfl, k⟩
    | exit id => exact ⟨_, _, by rw [rn_seq, h]; rfl, k⟩
@[simp ↓] theorem WP_block (id : Nat) (a : Ic) (c : Cfg) (K : Kt) : WP T (.block id a) c K = WP T a c (qBk id K) := by
  refine propext ⟨fun ⟨e, c', h, k⟩ => ?_, fun ⟨e, c', h, k⟩ => ?_⟩
  · rw [rn_block] at h
    cases hq : rn T (ev T) (lp T) a c with
    | none => rw [hq] at h; cases h
    | some r =>
      obtain ⟨e1, c1⟩ := r
      rw [hq] at h
      refine ⟨e1, c1, hq, ?_⟩
      cases e1 <;> (cases h; exact k)
  · cases e <;> exact ⟨_, _, by rw [rn_block, h]; rfl, k⟩
@[simp ↓] theorem WP_cond (x : Opd) (a b : Ic) (c : Cfg) (K : Kt) : WP T (.cond x a b) c K = WC T a b c (x.ev c.1.s) K := by simp only [WP, WC, rn_cond]
@[simp ↓] theorem WC_b (t : Bool) (a b : Ic) (c : Cfg) (K : Kt) : WC T a b c (.bool t) K = ((t = true → WP T a c K) ∧ (t = false → WP T b c K)) := by cases t <;> simp [WC, WP]
@[simp ↓] theorem WP_ops (l : List Gi) (c : Cfg) (K : Kt) : WP T (.ops l) c K = WO T l c K := by
  refine propext ⟨fun ⟨e, c', h, k⟩ => ?_, fun ⟨c', h, k⟩ => ⟨.normal, c', by rw [rn_ops, h]; rfl, k⟩⟩
  rw [rn_ops, Option.map_eq_some_iff] at h
  obtain ⟨c1, h1, h2⟩ := h
  cases h2
  exact ⟨_, h1, k⟩
@[simp ↓] theorem WO_nil (c : Cfg) (K : Kt) : WO T [] c K = K .normal c := propext ⟨fun ⟨_, h, k⟩ => by cases h; exact k, fun k => ⟨_, rfl, k⟩⟩
@[simp ↓] theorem WO_g0 (io : Io) (os : List Gi) (s : List D) (b : List (Nat × List D)) (st : St) (K : Kt) : WO T (g0 io :: os) ⟨⟨s, b⟩, st⟩ K = WE T io.dst s b st os (actO T (ev T) (Opd.ev s) (getB b) st io) K := by simp only [WO, WE, runOps_g0]
@[simp ↓] theorem WO_g1 (j : Nat) (w : Bool) (io : Io) (os : List Gi) (s : List D) (b : List (Nat × List D)) (st : St) (K : Kt) : WO T (g1 j w io :: os) ⟨⟨s, b⟩, st⟩ K = WG T w io os s b st (get s j) K := by simp only [WO, WG, runOps_kG]
@[simp ↓] theorem WG_u (w : Bool) (io : Io) (os : List Gi) (s : List D) (b : List (Nat × List D)) (st : St) (K : Kt) : WG T w io os s b st (.tup []) K = WO T os ⟨⟨putO s io.dst .undef, b⟩, st⟩ K := (rfl)
@[simp ↓] theorem WG_t (t : Bool) (io : Io) (os : List Gi) (s : List D) (b : List (Nat × List D)) (st : St) (K : Kt) : WG T true io os s b st (.bool t) K = ((t = true → WO T (g0 io :: os) ⟨⟨s, b⟩, st⟩ K) ∧ (t = false → WE T io.dst s b st os (some (.undef, none, none)) K)) := by cases t <;> simp [WG, WE]
@[simp ↓] theorem WG_f (t : Bool) (io : Io) (os : List Gi) (s : List D) (b : List (Nat × List D)) (st : St) (K : Kt) : WG T false io os s b st (.bool t) K = ((t = false → WO T (g0 io :: os) ⟨⟨s, b⟩, st⟩ K) ∧ (t = true → WE T io.dst s b st os (some (.undef, none, none)) K)) := by cases t <;> simp [WG, WE]
@[simp ↓ high] theorem WC_tt (a b : Ic) (c : Cfg) (K : Kt) : WC T a b c (.bool true) K = WP T a c K := by simp
@[simp ↓ high] theorem WC_ff (a b : Ic) (c : Cfg) (K : Kt) : WC T a b c (.bool false) K = WP T b c K := by simp
@[simp ↓ high] theorem WG_tt (io : Io) (os : List Gi) (s : List D) (b : List (Nat × List D)) (st : St) (K : Kt) : WG T true io os s b st (.bool true) K = WO T (g0 io :: os) ⟨⟨s, b⟩, st⟩ K := by simp [WG, WO]
@[simp ↓ high] theorem WG_tf (io : Io) (os : List Gi) (s : List D) (b : List (Nat × List D)) (st : St) (K : Kt) : WG T true io os s b st (.bool false) K = WE T io.dst s b st os (some (.undef, none, none)) K := by simp [WG, WE]
@[simp ↓ high] theorem WG_ff (io : Io) (os : List Gi) (s : List D) (b : List (Nat × List D)) (st : St) (K : Kt) : WG T false io os s b st (.bool false) K = WO T (g0 io :: os) ⟨⟨s, b⟩, st⟩ K := by simp [WG, WO]
@[simp ↓ high] theorem WG_ft (io : Io) (os : List Gi) (s : List D) (b : List (Nat × List D)) (st : St) (K : Kt) : WG T false io os s b st (.bool true) K = WE T io.dst s b st os (some (.undef, none, none)) K := by simp [WG, WE]
@[simp ↓] theorem WE_vs (d : Nat) (s : List D) (b : List (Nat × List D)) (st : St) (os : List Gi) (v : D) (K : Kt) : WE T (some d) s b st os (some (v, none, none)) K = WO T os ⟨⟨put s d v, b⟩, st⟩ K := (rfl)
@[simp ↓] theorem WE_vn (s : List D) (b : List (Nat × List D)) (st : St) (os : List Gi) (v : D) (K : Kt) : WE T none s b st os (some (v, none, none)) K = WO T os ⟨⟨s, b⟩, st⟩ K := (rfl)
@[simp ↓] theorem WE_hs (d : Nat) (s : List D) (b : List (Nat × List D)) (st st' : St) (os : List Gi) (v : D) (K : Kt) : WE T (some d) s b st os (some (v, none, some st')) K = WO T os ⟨⟨put s d v, b⟩, st'⟩ K := (rfl)
@[simp ↓] theorem WE_hn (s : List D) (b : List (Nat × List D)) (st st' : St) (os : List Gi) (v : D) (K : Kt) : WE T none s b st os (some (v, none, some st')) K = WO T os ⟨⟨s, b⟩, st'⟩ K := (rfl)
@[simp ↓] theorem WE_bs (d : Nat) (s : List D) (b : List (Nat × List D)) (st : St) (os : List Gi) (v : D) (x g : Nat) (cs : List D) (K : Kt) : WE T (some d) s b st os (some (v, some (x, g, cs), none)) K = WO T os ⟨⟨put s d v, putB b x (g, cs)⟩, st⟩ K := (rfl)
@[simp ↓] theorem WE_bn (s : List D) (b : List (Nat × List D)) (st : St) (os : List Gi) (v : D) (x g : Nat) (cs : List D) (K : Kt) : WE T none s b st os (some (v, some (x, g, cs), none)) K = WO T os ⟨⟨s, putB b x (g, cs)⟩, st⟩ K := (rfl)
@[simp ↓] theorem WE_ite {p : Prop} [Decidable p] (d : Option Nat) (s : List D) (b : List (Nat × List D)) (st : St) (os : List Gi) (x y : Option Eff) (K : Kt) :
    WE T d s b st os (if p then x else y) K = ((p → WE T d s b st os x K) ∧ (¬ p → WE T d s b st os y K)) := by
  by_cases h : p <;> simp [h]
/-- An operation that is not defined. -/
@[simp ↓] theorem WE_no (d : Option Nat) (s : List D) (b : List (Nat × List D)) (st : St) (os : List Gi) (K : Kt) : WE T d s b st os none K = False := propext ⟨fun ⟨_, h, _⟩ => (by cases h), False.elim⟩

/-- Two ways, of which either may be gone. -/
@[simp ↓] theorem WP_amb (y x : Nat) (a b : Ic) (s : List D) (bx : List (Nat × List D)) (st : St) (K : Kt) : WP T (.amb y x a b) ⟨⟨s, bx⟩, st⟩ K =
    WP T a ⟨⟨put (put s y .unk) x (.bool true), bx⟩, st⟩ (fun e d => e = .normal ∧ WP T b ⟨⟨put (put s y .unk) x (.bool false), bx⟩, st⟩ fun e' d' => e' = .normal ∧ ∃ st', joinSt st d.2 d'.2 = some st' ∧ K .normal ⟨⟨clearS (y :: x :: (a.wr ++ b.wr)) s, bx⟩, st'⟩) := by
  refine propext ⟨fun ⟨e, c', h, k⟩ => ?_, fun ⟨e, c1, h, he, e', c2, h', he', st', hj, k⟩ => ?_⟩
  · simp only [rn, Option.bind_eq_some_iff] at h
    obtain ⟨⟨e1, c1⟩, h1, ⟨e2, c2⟩, h2, h⟩ := h
    unfold ambJ at h
    split at h
    · rename_i g1 g2
      simp only at g1 g2
      subst g1 g2
      rw [Option.map_eq_some_iff] at h
      obtain ⟨st', hj, h⟩ := h
      cases h
      exact ⟨_, c1, h1, rfl, _, c2, h2, rfl, st', hj, k⟩
    · cases h
  · subst he he'
    refine ⟨.normal, _, ?_, k⟩
    simp only [rn]
    rw [show ambC y x true ⟨⟨s, bx⟩, st⟩ = ⟨⟨put (put s y .unk) x (.bool true), bx⟩, st⟩ from rfl, show ambC y x false ⟨⟨s, bx⟩, st⟩ = ⟨⟨put (put s y .unk) x (.bool false), bx⟩, st⟩ from rfl, h, h']
    simp only [Option.bind_some, ambJ, hj, Option.map_some]

/-- A box written and the heap turned. -/
@[simp ↓] theorem WE_bh (s : List D) (b : List (Nat × List D)) (st st' : St) (os : List Gi) (v : D) (x g : Nat) (cs : List D) (K : Kt) : WE T none s b st os (some (v, some (x, g, cs), some st')) K = WO T os ⟨⟨s, putB b x (g, cs)⟩, st'⟩ K := (rfl)

/-- One round of a loop. -/
theorem Stops_wp {L body : Ic} (h : L = body) {c : Cfg} {Q : Ex → List D → List (Nat × List D) → St → Prop} (k : WP T body c (qLp T L Q)) : Stops (lp T L c) Q := by
  obtain ⟨e, c', hr, hk⟩ := k
  rw [lp_at L body h, hr]
  cases e with
  | normal => exact hk
  | ret => exact ⟨_, _, _, _, rfl, hk⟩
  | exit id => exact ⟨_, _, _, _, rfl, hk⟩

/-- A function's run. -/
theorem Ret_wp {f : Nat} {fn : IFunc} (hf : T f = some fn) {args : List D} {st : St} {Q : D → St → Prop} (k : WP T fn.code ⟨⟨args, []⟩, st⟩ (qFn fn.res Q)) : Ret (ev T f args st) Q := by
  obtain ⟨e, c', hr, hk⟩ := k
  rw [ev_eq f fn hf, hr]
  cases e with
  | normal => exact hk
  | ret => exact hk
  | exit id => cases hk

/-- What is known of a loop. -/
theorem WL.use {L : Ic} (hp : L.plain = true) {W : List Nat} (hW : L.wr = W) {s0 : List D} {b0 : List (Nat × List D)} {st0 : St} {Q : Ex → List D → List (Nat × List D) → St → Prop} {K : Kt} (h : Stops (lp T L ⟨⟨s0, b0⟩, st0⟩) Q)
    (k : ∀ e s b st, Q e s b st → (∀ t, W.contains t = false → get s t = get s0 t) → K e ⟨⟨s, b⟩, st⟩) : WL T L ⟨⟨s0, b0⟩, st0⟩ K :=
  Stops.fr hp hW h (fun r => ∃ e c', r = some (e, c') ∧ K e c') fun e s b st q f => ⟨e, _, rfl, k e s b st q f⟩
theorem WL.useB {L : Ic} (hp : L.plain = true) {W WB : List Nat} (hW : L.wr = W) (hB : L.wrB = WB) {s0 : List D} {b0 : List (Nat × List D)} {st0 : St} {Q : Ex → List D → List (Nat × List D) → St → Prop} {K : Kt} (h : Stops (lp T L ⟨⟨s0, b0⟩, st0⟩) Q)
    (k : ∀ e s b st, Q e s b st → (∀ t, W.contains t = false → get s t = get s0 t) → (∀ t, WB.contains t = false → getB b t = getB b0 t) → K e ⟨⟨s, b⟩, st⟩) : WL T L ⟨⟨s0, b0⟩, st0⟩ K :=
  Stops.frB hp hW hB h (fun r => ∃ e c', r = some (e, c') ∧ K e c') fun e s b st q f g => ⟨e, _, rfl, k e s b st q f g⟩

/-! ### What a way knows -/
@[simp] theorem ile_f {a b : Int} (h : b < a) : (a ≤ b) = False := eq_false (by omega)
@[simp] theorem ilt_f {a b : Int} (h : b ≤ a) : (a < b) = False := eq_false (by omega)
@[simp] theorem nle_f {a b : Nat} (h : b < a) : (a ≤ b) = False := eq_false (by omega)
@[simp] theorem nlt_f {a b : Nat} (h : b ≤ a) : (a < b) = False := eq_false (by omega)

end Go.Nt

/-
  LOOPS, round by round; a nested read of an aggregate.
  No condition.
-/
namespace Go.Nt

variable {T : Nat → Option IFunc}

def qW (T : Nat → Option IFunc) (L : Ic) (K : Kt) : Kt
  | .normal, c => WL T L c K
  | e, c => K e c
@[simp ↓] theorem qW_n (L : Ic) (K : Kt) (c : Cfg) : qW T L K .normal c = WL T L c K := (rfl)
@[simp ↓] theorem qW_r (L : Ic) (K : Kt) (c : Cfg) : qW T L K .ret c = K .ret c := (rfl)
@[simp ↓] theorem qW_e (L : Ic) (K : Kt) (id : Nat) (c : Cfg) : qW T L K (.exit id) c = K (.exit id) c := (rfl)

/-- One round of a loop is met. -/
theorem WL_un {L body : Ic} (h : L = body) (c : Cfg) (K : Kt) : WL T L c K = WP T body c (qW T L K) := by
  refine propext ⟨fun ⟨e, c', hr, hk⟩ => ?_, fun ⟨e, c', hr, hk⟩ => ?_⟩
  · rw [lp_at L body h] at hr
    cases hq : rn T (ev T) (lp T) body c with
    | none => rw [hq] at hr; cases hr
    | some r =>
      obtain ⟨e1, c1⟩ := r
      rw [hq] at hr
      refine ⟨e1, c1, hq, ?_⟩
      cases e1 with
      | normal => exact ⟨e, c', hr, hk⟩
      | ret => cases hr; exact hk
      | exit id => cases hr; exact hk
  · cases e with
    | normal =>
      obtain ⟨e2, c2, h2, k2⟩ := hk
      exact ⟨e2, c2, by rw [lp_at L body h, hr]; exact h2, k2⟩
    | ret => exact ⟨_, _, by rw [lp_at L body h, hr]; rfl, hk⟩
    | exit id => exact ⟨_, _, by rw [lp_at L body h, hr]; rfl, hk⟩

end Go.Nt

/-
  RIGHT MODULES, walked (1): the looker in the heap; rows that grow beside it; a term without names.
  No condition.
-/
set_option linter.unusedSimpArgs false
namespace Go.Nt.Ty
open Go Go.Nt

/-- The heap went on, its older objects as they were. -/
def Grow (st st' : St) : Prop := st.length ≤ st'.length ∧ ∀ i, i < st.length → St.at st' i = St.at st i
theorem Grow.refl (st : St) : Grow st st := ⟨Nat.le_refl _, fun _ _ => rfl⟩
theorem Grow.trans {a b c : St} (h : Grow a b) (k : Grow b c) : Grow a c := ⟨Nat.le_trans h.1 k.1, fun i hi => by rw [k.2 i (by have := h.1; omega), h.2 i hi]⟩

def lidOf : D → Nat
  | .rs id .. => id
  | _ => 0

/-- A row that grew behind this heap. -/
def RawT (st0 st : St) (L : D) (l : List Tm) : Prop :=
  (l = [] ∧ L = .nils) ∨ ∃ id md, l ≠ [] ∧ L = .rs id (l.length - 1) 6 0 l.length false ∧ St.at st id = .cells false 6 (l.length - 1) md false (encTs l) ∧ st0.length ≤ id ∧ id < st.length

theorem RawT.nil (st0 st : St) : RawT st0 st .nils [] := .inl ⟨rfl, rfl⟩
theorem RawT.facts {st0 st : St} {L : D} {l : List Tm} (h : RawT st0 st L l) : L.okv = true ∧ L.cells = [L] ∧ L.fits none = true ∧ ∀ st' q, lenD st' .slice L q = some (.i l.length) := by
  rcases h with ⟨rfl, rfl⟩ | ⟨id, md, _, rfl, _, _, _⟩
  · exact ⟨rfl, rfl, rfl, fun _ _ => rfl⟩
  · exact ⟨rfl, rfl, rfl, fun _ _ => rfl⟩
theorem RawT.keep {st0 st st' : St} {L : D} {l : List Tm} (h : RawT st0 st L l) (hl : st.length ≤ st'.length) (ha : l ≠ [] → St.at st' (lidOf L) = St.at st (lidOf L)) : RawT st0 st' L l := by
  rcases h with h | ⟨id, md, h0, rfl, h1, h2, h3⟩
  · exact .inl h
  · exact .inr ⟨id, md, h0, rfl, by rw [← h1]; exact ha h0, h2, by omega⟩
theorem RawT.grow {st0 st st' : St} {L : D} {l : List Tm} (h : RawT st0 st L l) (g : Grow st st') : RawT st0 st' L l := by
  rcases h with h | ⟨id, md, h0, rfl, h1, h2, h3⟩
  · exact .inl h
  · exact .inr ⟨id, md, h0, rfl, by rw [g.2 _ h3]; exact h1, h2, by have := g.1; omega⟩
theorem RawT.older {s0 st0 st : St} {L : D} {l : List Tm} (h : RawT st0 st L l) (hs : s0.length ≤ st0.length) : RawT s0 st L l := by
  rcases h with h | ⟨id, md, h0, rfl, h1, h2, h3⟩
  · exact .inl h
  · exact .inr ⟨id, md, h0, rfl, h1, by omega, h3⟩

/-- The row, one longer. -/
theorem RawT.app {st0 st : St} {L : D} {l : List Tm} (h : RawT st0 st L l) (hb : l.length ≤ 1000000) (hs : st0.length ≤ st.length) (x : Tm) :
    ∃ L' st', appendD st L [encT x] 6 = some (L', st') ∧ RawT st0 st' L' (l ++ [x]) ∧ st.length ≤ st'.length ∧ (∀ i, i < st.length → (l = [] ∨ i ≠ lidOf L) → St.at st' i = St.at st i) ∧ (lidOf L' = lidOf L ∧ l ≠ [] ∨ l = [] ∧ lidOf L' = st.length) := by
  rcases h with ⟨rfl, rfl⟩ | ⟨id, md, h0, rfl, h1, h2, h3⟩
  · refine ⟨.rs st.length 0 6 0 1 false, st ++ [.cells false 6 0 0 false [encT x]], by simp [appendD, most], .inr ⟨st.length, 0, by simp, by simp, by simp [at_last], hs, by simp⟩, by simp, fun i hi _ => at_lt _ _ hi, .inr ⟨rfl, rfl⟩⟩
  · have hp : 0 < l.length := List.length_pos_iff.2 h0
    have e1 : l.length - 1 + 1 = l.length := by omega
    have ht : l.length < tagB := by unfold tagB; omega
    have hm : l.length ≤ most := by unfold most; omega
    refine ⟨.rs id l.length 6 0 (l.length + 1) false, List.set st id (.cells false 6 l.length (md + 1) false (encTs (l ++ [x]))), ?_, .inr ⟨id, md + 1, by simp, by simp, ?_, h2, by simpa using h3⟩, by simp, fun i hi hne => ?_, .inl ⟨rfl, h0⟩⟩
    · have e2 : List.take l.length (encTs l) = encTs l := List.take_of_length_le (by simp)
      have hm2 : l.length ≤ 134217728 := by omega
      simp [appendD, h1, ht, hm, hm2, most, e1, e2, encTs_append]
    · rw [at_set _ _ _ _ h3, if_pos rfl]; simp
    · rw [at_set _ _ _ _ h3, if_neg (by rcases hne with q | q; exact absurd q h0; exact q)]

/-- The row, not written any more. -/
theorem RawT.fz {st0 st : St} {L : D} {l : List Tm} (h : RawT st0 st L l) : ∃ st', fz0 st L = some (slE 6 (pfl l) (encTs l), st') ∧ st'.length = st.length ∧ ∀ i, i < st0.length → St.at st' i = St.at st i := by
  rcases h with ⟨rfl, rfl⟩ | ⟨id, md, h0, rfl, h1, h2, h3⟩
  · exact ⟨st, rfl, rfl, fun _ _ => rfl⟩
  · refine ⟨List.set st id (.cells false 6 (l.length - 1) (md + 1) true (encTs l)), ?_, by simp, fun i hi => by rw [at_set _ _ _ _ h3, if_neg (by omega)]⟩
    have e2 : List.take l.length (encTs l) = encTs l := List.take_of_length_le (by simp)
    have e3 : slE 6 (pfl l) (encTs l) = .sl 6 false (encTs l) := by cases l with | nil => exact absurd rfl h0 | cons a b => rfl
    rw [fz0_rs, h1, e3]
    simp [e2]
theorem RawT.fzG {st0 st : St} {L : D} {l : List Tm} (h : RawT st0 st L l) (g : Grow st0 st) : ∃ st', fz0 st L = some (slE 6 (pfl l) (encTs l), st') ∧ Grow st0 st' := by
  obtain ⟨st', h1, h2, h3⟩ := h.fz
  exact ⟨st', h1, by rw [Grow, h2]; exact ⟨g.1, fun i hi => by rw [h3 i hi, g.2 i hi]⟩⟩

/-! ### A term without names and places -/

def outR (k n : Int) (L : D) : D := .agg [.int .i64 k, .int .i64 n, .str [], L, .int .i64 0, .int .i64 0]

theorem l116 (t : Tm) (st0 : St) (hl : t.l.length ≤ 1000000)
    (ih : ∀ u, u ∈ t.l → ∀ st, ∃ L st', callD T (ev T) 116 [encT u] st = some (outR u.k u.n L, st') ∧ RawT st st' L (u.l.map cleanT) ∧ Grow st st') :
    ∀ (r i : Nat) (s : List D) (bx : List (Nat × List D)) (L : D) (st : St), r = t.l.length - i → i ≤ t.l.length → Grow st0 st → RawT st0 st L ((t.l.take i).map cleanT) →
      get s 12 = slE 6 t.fl (encTs t.l) → get s 13 = .i t.l.length → get s 14 = .int .i64 i → get s 3 = .lp 3 1 0 → getB bx 3 = (1, [.int .i64 t.k, .int .i64 t.n, .str [], L, .int .i64 0, .int .i64 0]) →
    Stops (lp T L116_0 ⟨⟨s, bx⟩, st⟩) fun e _ b' st' => e = .exit 0 ∧ ∃ L', getB b' 3 = (1, [.int .i64 t.k, .int .i64 t.n, .str [], L', .int .i64 0, .int .i64 0]) ∧ RawT st0 st' L' (t.l.map cleanT) ∧ Grow st0 st' := by
  intro r
  induction r with
  | zero =>
    intro i s bx L st hr hi hg hR h12 h13 h14 h3 b3
    have e : i = t.l.length := by omega
    subst e
    refine Stops_wp L116_0.eq_1 ?_
    rw [List.take_length] at hR
    simp [h12, h13, h14, h3, b3]
    exact ⟨hR, hg⟩
  | succ r ihr =>
    intro i s bx L st hr hi hg hR h12 h13 h14 h3 b3
    have hlt : i < t.l.length := by omega
    have hw : IntKind.wrap .i64 ((i : Int) + 1) = ((i + 1 : Nat) : Int) := by rw [wrap64] <;> omega
    obtain ⟨L1, st1, q, R1, g1⟩ := ih t.l[i] (List.getElem_mem hlt) st
    obtain ⟨st2, f1, g2⟩ := R1.fzG g1
    have hR2 : RawT st0 st2 L _ := hR.grow g2
    have hg2 := hg.trans g2
    have hlen : ((t.l.take i).map cleanT).length ≤ 1000000 := by simp; omega
    obtain ⟨L3, st3, a1, R3, hl3, a3, _⟩ := hR2.app hlen hg2.1 (cleanT t.l[i])
    have hg3 : Grow st0 st3 := ⟨by have := hg2.1; omega, fun j hj => by
      rw [a3 j (by have := hg2.1; omega) ?_, hg2.2 j hj]
      rcases hR2 with ⟨h, _⟩ | ⟨id, md, _, rfl, _, h2, _⟩
      · exact .inl h
      · exact .inr (by simp only [lidOf]; omega)⟩
    have e1 : (t.l.take i).map cleanT ++ [cleanT t.l[i]] = (t.l.take (i + 1)).map cleanT := by
      rw [← List.map_singleton, ← List.map_append, List.take_append_getElem hlt]
    rw [e1] at R3
    have nx := fun s' bx' => ihr (i + 1) s' bx' L3 st3 (by omega) (by omega) hg3 R3
    obtain ⟨x1, x2, x3, x4⟩ := hR.facts
    obtain ⟨y1, y2, y3, y4⟩ := R1.facts
    obtain ⟨z1, z2, z3, z4⟩ := R3.facts
    have ea : encT (cleanT t.l[i]) = .agg [.int .i64 t.l[i].k, .int .i64 t.l[i].n, .str [], slE 6 (pfl (t.l[i].l.map cleanT)) (encTs (t.l[i].l.map cleanT)), .int .i64 0, .int .i64 0] := by
      rw [cleanT_eq, encT_eq]; simp [pfl]
      cases t.l[i].l <;> rfl
    rw [ea] at a1
    rw [outR] at q
    refine Stops_wp L116_0.eq_1 ?_
    simp [h12, h13, h14, h3, b3, hlt, hw, ← encT_eq, q, f1, a1, x1, x2, x3, x4, y1, y2, y3, z1, z2, z3, splice, -Int.natCast_add]
    refine nx _ _ ?_ ?_ ?_ ?_ ?_ <;> simp [h12, h13, h3]

theorem encT_clean (t : Tm) : encT (cleanT t) = outR t.k t.n (slE 6 (pfl (t.l.map cleanT)) (encTs (t.l.map cleanT))) := by
  rw [cleanT_eq, encT_eq, outR]; simp
  cases t.l <;> rfl

theorem c116 (t : Tm) : good t → ∀ st, ∃ L st', callD T (ev T) 116 [encT t] st = some (outR t.k t.n L, st') ∧ RawT st st' L (t.l.map cleanT) ∧ Grow st st' := by
  induction t using Tm.ind with
  | h t ih =>
    intro gt st
    have hl := good_len gt
    have lo := fun s bx => l116 t st hl (fun u hu st => ih u hu (good_mem gt hu) st) t.l.length 0 s bx .nils st (by omega) (by omega) (Grow.refl st) (RawT.nil st st)
    rw [callD_rawE (fn := F116) rfl rfl (by simp)]
    have go : Ret (ev T 116 [encT t] st) fun r st' => ∃ L, r = outR t.k t.n L ∧ RawT st st' L (t.l.map cleanT) ∧ Grow st st' := by
      refine Ret_wp (fn := F116) rfl ?_
      rw [F116]
      simp
      refine WL.useB L116_0_p L116_0_w (WB := L116_0.wrB) rfl (lo _ _ ?_ ?_ ?_ ?_ ?_) ?_
      iterate 5 simp
      rintro e s' b' st' ⟨rfl, L', p3, R, g⟩ hf hb
      obtain ⟨x1, x2, x3, x4⟩ := R.facts
      have e1 := hf 2 rfl
      have e3 := hf 3 rfl
      have e4 := hb 2 rfl
      simp at e1 e3 e4
      simp [p3, x1, x2, x3, splice, e1, e3, e4]
      exact ⟨L', rfl, R, g⟩
    obtain ⟨r, st', h1, L, rfl, R, g⟩ := go
    exact ⟨L, st', h1, R, g⟩
end Go.Nt.Ty

/-
  RIGHT MODULES, walked (2): the looker's object; the first error; expressions; types.
  No condition.
-/
set_option linter.unusedSimpArgs false
namespace Go.Nt.Ty
open Go Go.Nt

/-- The looker, as it lies in the heap. -/
def lkO (m : Tm) (lv : D) (ret : Tm) (at0 e : Int) (md : Nat) : Ob :=
  .cells true 15 0 md false [.agg [.int .i64 m.k, .int .i64 m.n, .str m.s, slE 6 m.fl (encTs m.l), .int .i64 m.a, .int .i64 m.b, lv, .int .i64 ret.k, .int .i64 ret.n, .str ret.s, slE 6 ret.fl (encTs ret.l), .int .i64 ret.a, .int .i64 ret.b, .int .i64 at0, .int .i64 e]]

/-- The looker's locals, which still grow. -/
def LocW (st : St) (lv : D) (locs : List Tm) : Prop :=
  (lv = .nils ∧ locs = []) ∨ ∃ id ver md full more, lv = .rs id ver 6 0 locs.length full ∧ St.at st id = .cells false 6 ver md false (encTs (locs ++ more)) ∧ 0 < id ∧ id < st.length ∧ (full = false → more = []) ∧ ver < (locs ++ more).length + 1 ∧ (locs ++ more).length ≤ 2000000

theorem LocW.locR {st : St} {lv : D} {locs : List Tm} (h : LocW st lv locs) : LocR st lv locs := by
  rcases h with ⟨rfl, rfl⟩ | ⟨id, ver, md, full, more, rfl, h1, _, h3, _⟩
  · exact .inl ⟨.nil, rfl⟩
  · exact .inr ⟨id, ver, md, false, full, more, rfl, h1, h3⟩
theorem LocW.facts {st : St} {lv : D} {locs : List Tm} (h : LocW st lv locs) : lv.okv = true ∧ lv.cells = [lv] ∧ lv.fits none = true ∧ ∀ st' q, lenD st' .slice lv q = some (.i locs.length) := by
  rcases h with ⟨rfl, rfl⟩ | ⟨id, ver, md, full, more, rfl, _⟩
  · exact ⟨rfl, rfl, rfl, fun _ _ => rfl⟩
  · exact ⟨rfl, rfl, rfl, fun _ _ => rfl⟩
theorem LocW.lt {st : St} {lv : D} {locs : List Tm} (h : LocW st lv locs) (hl : 0 < st.length) : lidOf lv < st.length := by
  rcases h with ⟨rfl, rfl⟩ | ⟨id, ver, md, full, more, rfl, _, _, h, _⟩
  · exact hl
  · exact h
theorem LocW.keep {st st' : St} {lv : D} {locs : List Tm} (h : LocW st lv locs) (hl : st.length ≤ st'.length) (ha : lidOf lv ≠ 0 → St.at st' (lidOf lv) = St.at st (lidOf lv)) : LocW st' lv locs := by
  rcases h with h | ⟨id, ver, md, full, more, rfl, h1, h2, h3, h4⟩
  · exact .inl h
  · exact .inr ⟨id, ver, md, full, more, rfl, by rw [← h1]; exact ha (by simp only [lidOf]; omega), h2, by omega, h4⟩

/-- The looker stands in the heap. -/
structure Lk (m ret : Tm) (st : St) (lv : D) (locs : List Tm) (at0 e : Int) : Prop where
  hl : 0 < st.length
  h0 : ∃ md, St.at st 0 = lkO m lv ret at0 e md
  hw : LocW st lv locs

/-- How the heap went on beside the looker and its locals. -/
def Went (st : St) (lv : D) (st' : St) (lv' : D) : Prop :=
  st.length ≤ st'.length ∧ (lidOf lv' = lidOf lv ∨ st.length ≤ lidOf lv' ∨ lidOf lv' = 0) ∧ ∀ i, i < st.length → i ≠ 0 → i ≠ lidOf lv → St.at st' i = St.at st i
theorem Went.refl (st : St) (lv : D) : Went st lv st lv := ⟨Nat.le_refl _, .inl rfl, fun _ _ _ _ => rfl⟩
theorem Went.trans {a b c : St} {u v w : D} (h : Went a u b v) (k : Went b v c w) : Went a u c w := by
  obtain ⟨h1, h2, h3⟩ := h
  obtain ⟨k1, k2, k3⟩ := k
  refine ⟨by omega, by omega, fun i hi h0 hn => ?_⟩
  rw [k3 i (by omega) h0 (by omega), h3 i hi h0 hn]
theorem Went.of0 {st st' : St} {lv : D} (hl : st.length ≤ st'.length) (h : ∀ i, i < st.length → i ≠ 0 → St.at st' i = St.at st i) : Went st lv st' lv := ⟨hl, .inl rfl, fun i hi h0 _ => h i hi h0⟩
theorem Went.grow {st st' : St} {lv : D} (h : Grow st st') : Went st lv st' lv := .of0 h.1 fun i hi _ => h.2 i hi

variable {m ret : Tm} {st : St} {lv : D} {locs : List Tm} {at0 e : Int}

theorem Lk.grow {st' : St} (K : Lk m ret st lv locs at0 e) (g : Grow st st') : Lk m ret st' lv locs at0 e := by
  obtain ⟨hl, ⟨md, h0⟩, hw⟩ := K
  exact ⟨by have := g.1; omega, ⟨md, by rw [g.2 0 hl]; exact h0⟩, hw.keep g.1 fun _ => g.2 _ (hw.lt hl)⟩

/-- The looker anew. -/
theorem Lk.put (K : Lk m ret st lv locs at0 e) (a1 e1 : Int) (md : Nat) : Lk m ret (List.set st 0 (lkO m lv ret a1 e1 md)) lv locs a1 e1 ∧ Went st lv (List.set st 0 (lkO m lv ret a1 e1 md)) lv := by
  obtain ⟨hl, ⟨_, h0⟩, hw⟩ := K
  refine ⟨⟨by simpa using hl, ⟨md, by rw [at_set _ _ _ _ hl, if_pos rfl]⟩, hw.keep (by simp) fun h => by rw [at_set _ _ _ _ hl, if_neg h]⟩, .of0 (by simp) fun i hi hi0 => by rw [at_set _ _ _ _ hl, if_neg hi0]⟩

/-- The first error is noted. -/
theorem c118 (K : Lk m ret st lv locs at0 e) (t : Tm) (x : Int) : ∃ st', callD T (ev T) 118 [.hp 0 0 15 0 0, encT t, .int .i64 x] st = some (.tup [], st') ∧ Lk m ret st' lv locs (if e = 0 then t.a else at0) (if e = 0 then x else e) ∧ Went st lv st' lv := by
  obtain ⟨md, h0⟩ := K.h0
  obtain ⟨x1, x2, x3, _⟩ := K.hw.facts
  have hl := K.hl
  have ha : ∀ o, St.at (List.set st 0 o) 0 = o := fun o => by rw [at_set _ _ _ _ K.hl, if_pos rfl]
  rw [callD_rawE (fn := F118) rfl rfl (by simp)]
  by_cases he : e = 0
  · subst he
    obtain ⟨K1, W⟩ := K.put t.a x (md + 2)
    have go : Ret (ev T 118 [.hp 0 0 15 0 0, encT t, .int .i64 x] st) fun r st' => r = .tup [] ∧ st' = List.set st 0 (lkO m lv ret t.a x (md + 2)) := by
      refine Ret_wp (fn := F118) rfl ?_
      rw [F118]
      simp [h0, lkO, kHs, ha, hl, splice, x1, x2, x3]
    obtain ⟨r, st', h1, rfl, rfl⟩ := go
    exact ⟨_, h1, by simpa using K1, W⟩
  · have go : Ret (ev T 118 [.hp 0 0 15 0 0, encT t, .int .i64 x] st) fun r st' => r = .tup [] ∧ st' = st := by
      refine Ret_wp (fn := F118) rfl ?_
      rw [F118]
      simp [h0, lkO, kHs, splice, x1, x2, x3, he]
    obtain ⟨r, st', h1, rfl, rfl⟩ := go
    exact ⟨st', h1, by rw [if_neg he, if_neg he]; exact K, .refl _ _⟩

/-- An expression's type and settled form. -/
theorem c232 (gm : good m) (gl : e = 0 → ∀ t, t ∈ locs → good t) (hll : locs.length ≤ 1000000) (K : Lk m ret st lv locs at0 e) (t : Tm) (gt : good t) :
    ∃ a s st', callD T (ev T) 232 [.hp 0 0 15 0 0, encT t] st = some (.tup [encT a, encT s], st') ∧ Went st lv st' lv ∧
      (e ≠ 0 → st' = st ∧ a = T0 ∧ s = T0) ∧ (e = 0 → match ofT m locs t with
        | .ok (a', s') => a' = a ∧ s' = s ∧ st' = st
        | .error (x, y) => a = T0 ∧ s = T0 ∧ y ≠ 0 ∧ Lk m ret st' lv locs x y) := by
  obtain ⟨md, h0⟩ := K.h0
  obtain ⟨x1, x2, x3, _⟩ := K.hw.facts
  have hl := K.hl
  have ha : ∀ o, St.at (List.set st 0 o) 0 = o := fun o => by rw [at_set _ _ _ _ K.hl, if_pos rfl]
  by_cases he : e = 0
  · subst he
    have q := c62 gm (gl rfl) hll t gt st K.hw.locR
    unfold tells at q
    cases ho : ofT m locs t with
    | ok x =>
      obtain ⟨a, s⟩ := x
      rw [ho] at q
      simp only at q
      refine ⟨a, s, st, ?_, .refl _ _, fun h => absurd rfl h, fun _ => ⟨rfl, rfl, rfl⟩⟩
      have go : Ret (ev T 232 [.hp 0 0 15 0 0, encT t] st) fun r st' => r = .tup [encT a, encT s] ∧ st' = st := by
        refine Ret_wp (fn := F232) rfl ?_
        rw [F232]
        simp [h0, lkO, kHs, splice, x1, x2, x3, ← encT_eq, q]
      obtain ⟨r, st', h1, rfl, rfl⟩ := go
      exact callD_freE (fn := F232) rfl rfl (by simp) h1 (by simp) (by simp)
    | error x =>
      obtain ⟨a, y⟩ := x
      rw [ho] at q
      simp only at q
      have hy := ofT_err _ _ _ ho
      obtain ⟨K1, W⟩ := K.put a y (md + 2)
      refine ⟨T0, T0, _, ?_, W, fun h => absurd rfl h, fun _ => ⟨rfl, rfl, hy, K1⟩⟩
      have go : Ret (ev T 232 [.hp 0 0 15 0 0, encT t] st) fun r st' => r = .tup [encT T0, encT T0] ∧ st' = List.set st 0 (lkO m lv ret a y (md + 2)) := by
        refine Ret_wp (fn := F232) rfl ?_
        rw [F232]
        simp [h0, lkO, kHs, splice, x1, x2, x3, ← encT_eq, q, hy, ha, hl]
        rw [encT_0] <;> rfl
      obtain ⟨r, st', h1, rfl, rfl⟩ := go
      exact callD_freE (fn := F232) rfl rfl (by simp) h1 (by simp) (by simp)
  · refine ⟨T0, T0, st, ?_, .refl _ _, fun _ => ⟨rfl, rfl, rfl⟩, fun h => absurd h he⟩
    have go : Ret (ev T 232 [.hp 0 0 15 0 0, encT t] st) fun r st' => r = .tup [encT T0, encT T0] ∧ st' = st := by
      refine Ret_wp (fn := F232) rfl ?_
      rw [F232]
      simp [h0, lkO, kHs, splice, x1, x2, x3, he, encT_0]
    obtain ⟨r, st', h1, rfl, rfl⟩ := go
    exact callD_freE (fn := F232) rfl rfl (by simp) h1 (by simp) (by simp)

/-- A type that may stand. -/
theorem c119 (gm : good m) (K : Lk m ret st lv locs at0 e) (t : Tm) (gt : good t) :
    ∃ st', callD T (ev T) 119 [.hp 0 0 15 0 0, encT t] st = some (encT (cleanT t), st') ∧ Went st lv st' lv ∧
      Lk m ret st' lv locs (if e = 0 ∧ cellsV m t = 0 then t.a else at0) (if e = 0 ∧ cellsV m t = 0 then 11 else e) := by
  obtain ⟨md, h0⟩ := K.h0
  obtain ⟨x1, x2, x3, _⟩ := K.hw.facts
  have hc := fun st => c46 m t (good_ok _ gm) (good_len gm) (good_ok _ gt) st
  have fin : ∀ st1 at1 e1, Lk m ret st1 lv locs at1 e1 → Went st lv st1 lv → ∀ L st2, RawT st1 st2 L (t.l.map cleanT) → Grow st1 st2 → ∃ st', fz st2 (outR t.k t.n L) = some (encT (cleanT t), st') ∧ Went st lv st' lv ∧ Lk m ret st' lv locs at1 e1 := by
    intro st1 at1 e1 K1 W1 L st2 R g
    obtain ⟨st3, f, g3⟩ := R.fzG g
    refine ⟨st3, ?_, W1.trans (.grow g3), K1.grow g3⟩
    rw [encT_clean]
    simp [outR, fz, fz1, fzL, f]
  by_cases hz : e = 0 ∧ cellsV m t = 0
  · obtain ⟨he, hz⟩ := hz
    subst he
    obtain ⟨st1, q1, K1, W1⟩ := c118 K t 11
    obtain ⟨L, st2, q2, R, g⟩ := c116 t gt st1
    simp only [if_true] at K1
    obtain ⟨st3, f, W3, K3⟩ := fin st1 _ _ K1 W1 L st2 R g
    obtain ⟨y1, y2, y3, _⟩ := R.facts
    refine ⟨st3, ?_, W3, by simpa [hz] using K3⟩
    have go : Ret (ev T 119 [.hp 0 0 15 0 0, encT t] st) fun r st' => r = outR t.k t.n L ∧ st' = st2 := by
      refine Ret_wp (fn := F119) rfl ?_
      rw [F119]
      rw [outR] at q2
      simp [h0, lkO, kHs, splice, x1, x2, x3, ← encT_eq, hc, hz, q1, q2, y1, y2, y3, outR]
    obtain ⟨r, st', h1, rfl, rfl⟩ := go
    exact callD_freE (fn := F119) rfl rfl (by simp) h1 f (by simp)
  · obtain ⟨L, st2, q2, R, g⟩ := c116 t gt st
    obtain ⟨st3, f, W3, K3⟩ := fin st _ _ K (.refl _ _) L st2 R g
    obtain ⟨y1, y2, y3, _⟩ := R.facts
    refine ⟨st3, ?_, W3, by rw [if_neg hz, if_neg hz]; exact K3⟩
    have go : Ret (ev T 119 [.hp 0 0 15 0 0, encT t] st) fun r st' => r = outR t.k t.n L ∧ st' = st2 := by
      refine Ret_wp (fn := F119) rfl ?_
      rw [F119]
      rw [outR] at q2
      by_cases he : e = 0
      · have hz' : ¬ cellsV m t = 0 := fun h => hz ⟨he, h⟩
        simp [h0, lkO, kHs, splice, x1, x2, x3, ← encT_eq, hc, hz', he, q2, y1, y2, y3, outR]
      · simp [h0, lkO, kHs, splice, x1, x2, x3, ← encT_eq, he, q2, y1, y2, y3, outR]
    obtain ⟨r, st', h1, rfl, rfl⟩ := go
    exact callD_freE (fn := F119) rfl rfl (by simp) h1 f (by simp)

/-- The kinds, gone through. -/
theorem l234 (a sp : Tm) (ks : List Int) (hl : ks.length ≤ 1000) :
    ∀ (r i : Nat) (s : List D) (bx : List (Nat × List D)) (st : St), r = ks.length - i → i ≤ ks.length → get s 23 = .sl 1 true (ks.map fun k => .int .i64 k) → get s 24 = .i ks.length → get s 25 = .int .i64 i →
      get s 7 = .lp 7 1 0 → getB bx 7 = (1, clT a) → get s 8 = .lp 8 1 0 → getB bx 8 = (1, clT sp) → get s 6 = .lp 6 1 0 → (getB bx 6).1 = 1 → (getB bx 6).2.length = 6 →
    Stops (lp T L234_0 ⟨⟨s, bx⟩, st⟩) fun e _ b' st' => st' = st ∧ if (ks.drop i).any (fun k => isT a k) then e = .ret ∧ getB b' 6 = (1, clT sp) else e = .exit 0 ∧ getB b' 6 = getB bx 6 := by
  intro r
  induction r with
  | zero =>
    intro i s bx st hr hi h23 h24 h25 h7 b7 h8 b8 h6 b6 b6'
    have e : i = ks.length := by omega
    subst e
    refine Stops_wp L234_0.eq_1 ?_
    rw [List.drop_length]
    simp [h23, h24, h25]
  | succ r ihr =>
    intro i s bx st hr hi h23 h24 h25 h7 b7 h8 b8 h6 b6 b6'
    have hlt : i < ks.length := by omega
    have hw : IntKind.wrap .i64 ((i : Int) + 1) = ((i + 1 : Nat) : Int) := by rw [wrap64] <;> omega
    have nx := fun s' bx' => ihr (i + 1) s' bx' st (by omega) (by omega)
    have hd : (ks.drop i).any (fun k => isT a k) = (isT a ks[i] || (ks.drop (i + 1)).any fun k => isT a k) := by rw [List.drop_eq_getElem_cons hlt, List.any_cons]
    have i1 : idxAD (.sl 1 true (ks.map fun k => .int .i64 k)) i 1 none none = some (.iptr (.int .i64 ks[i])) := by
      have : (ks.map fun k => D.int .i64 k)[i]? = some (.int .i64 ks[i]) := by rw [List.getElem?_map, List.getElem?_eq_getElem hlt] <;> rfl
      simp only [idxAD, this, if_true, Option.bind_some]
      rfl
    rw [hd]
    refine Stops_wp L234_0.eq_1 ?_
    by_cases hk : a.k = ks[i]
    · by_cases hn : a.l = []
      · have ht : isT a ks[i] = true := by simp [isT, hk, hn]
        rw [ht]
        simp [h23, h24, h25, h7, b7, h8, b8, h6, b6, b6', hlt, hw, i1, hk, hn, splice, -Int.natCast_add, -List.any_eq_true]
      · have ht : isT a ks[i] = false := by simp [isT, hk, hn]
        rw [ht, Bool.false_or]
        simp [h23, h24, h25, h7, b7, h8, b8, h6, b6, b6', hlt, hw, i1, hk, hn, splice, -Int.natCast_add, -List.any_eq_true]
        refine nx _ _ ?_ ?_ ?_ ?_ ?_ ?_ ?_ ?_ ?_ ?_ <;> simp [h23, h24, h7, b7, h8, b8, h6, b6, b6']
    · have ht : isT a ks[i] = false := by simp [isT, hk]
      rw [ht, Bool.false_or]
      simp [h23, h24, h25, h7, b7, h8, b8, h6, b6, b6', hlt, hw, i1, hk, splice, -Int.natCast_add, -List.any_eq_true]
      refine nx _ _ ?_ ?_ ?_ ?_ ?_ ?_ ?_ ?_ ?_ ?_ <;> simp [h23, h24, h7, b7, h8, b8, h6, b6, b6']

/-- An expression of one of these kinds of types. -/
def onlyK (m : Tm) (locs : List Tm) (t : Tm) (ks : List Int) : Er Tm :=
  match ofT m locs t with
  | .error e => .error e
  | .ok (a, s) => if ks.any (fun k => isT a k) = true then .ok s else .error (t.a, 10)
theorem onlyK2 (m : Tm) (locs : List Tm) (t : Tm) (k1 k2 : Int) : onlyT m locs t k1 k2 = onlyK m locs t [k1, k2] := by
  unfold onlyT onlyK
  cases ofT m locs t <;> simp
theorem onlyK1 (m : Tm) (locs : List Tm) (t : Tm) (k : Int) : onlyT m locs t k k = onlyK m locs t [k] := by
  unfold onlyT onlyK
  cases ofT m locs t <;> simp

/-- How a method that looks at one thing ends: as was said, or with the first error. -/
def Ends1 (m ret : Tm) (st : St) (lv : D) (locs : List Tm) (at0 e : Int) (R : Er Tm) (r : Tm) (st' : St) : Prop :=
  Went st lv st' lv ∧ (e ≠ 0 → Lk m ret st' lv locs at0 e) ∧ (e = 0 → match R with
    | .ok s => s = r ∧ Lk m ret st' lv locs at0 0
    | .error (x, y) => y ≠ 0 ∧ Lk m ret st' lv locs x y)

theorem c234 (gm : good m) (gl : e = 0 → ∀ t, t ∈ locs → good t) (hll : locs.length ≤ 1000000) (K : Lk m ret st lv locs at0 e) (t : Tm) (gt : good t) (ks : List Int) (hk : ks.length ≤ 1000) :
    ∃ r st', callD T (ev T) 234 [.hp 0 0 15 0 0, encT t, .sl 1 true (ks.map fun k => .int .i64 k)] st = some (encT r, st') ∧ Ends1 m ret st lv locs at0 e (onlyK m locs t ks) r st' := by
  obtain ⟨md, h0⟩ := K.h0
  obtain ⟨x1, x2, x3, _⟩ := K.hw.facts
  have hsl : (D.sl 1 true (ks.map fun k => .int .i64 k)).okv = true := rfl
  have hln : ∀ st q, lenD st .slice (D.sl 1 true (ks.map fun k => .int .i64 k)) q = some (.i ks.length) := fun st q => by simp [lenD]
  obtain ⟨a, s, st1, q, W, c1, c2⟩ := c232 gm gl hll K t gt
  by_cases he : e = 0
  · have c2 := c2 he
    unfold onlyK
    cases ho : ofT m locs t with
    | error x =>
      obtain ⟨x, y⟩ := x
      rw [ho] at c2
      simp only at c2
      obtain ⟨rfl, rfl, hy, K1⟩ := c2
      obtain ⟨md1, k1⟩ := K1.h0
      refine ⟨T0, st1, ?_, W, fun h => absurd he h, fun _ => ⟨hy, K1⟩⟩
      have go : Ret (ev T 234 [.hp 0 0 15 0 0, encT t, .sl 1 true (ks.map fun k => .int .i64 k)] st) fun r st' => r = encT T0 ∧ st' = st1 := by
        refine Ret_wp (fn := F234) rfl ?_
        rw [F234]
        simp [q, k1, lkO, kHs, splice, x1, x2, x3, ← encT_eq, hy]
        rw [encT_0] <;> rfl
      obtain ⟨r, st', h1, rfl, rfl⟩ := go
      exact callD_freE (fn := F234) rfl rfl (by simp [hsl]) h1 (by simp) (by simp)
    | ok x =>
      obtain ⟨a', s'⟩ := x
      rw [ho] at c2
      simp only at c2
      obtain ⟨rfl, rfl, rfl⟩ := c2
      subst he
      have lo := fun s bx => l234 a' s' ks hk ks.length 0 s bx st1 (by omega) (by omega)
      rw [List.drop_zero] at lo
      cases hq : ks.any (fun k => isT a' k) with
      | true =>
        rw [hq] at lo
        refine ⟨s', st1, ?_, .refl _ _, fun h => absurd rfl h, fun _ => by simp only [hq, if_true]; exact ⟨trivial, K⟩⟩
        have go : Ret (ev T 234 [.hp 0 0 15 0 0, encT t, .sl 1 true (ks.map fun k => .int .i64 k)] st1) fun r st' => r = encT s' ∧ st' = st1 := by
          refine Ret_wp (fn := F234) rfl ?_
          rw [F234]
          simp [q, h0, lkO, kHs, splice, x1, x2, x3, ← encT_eq, hln]
          refine WL.useB L234_0_p L234_0_w (WB := L234_0.wrB) rfl (lo _ _ ?_ ?_ ?_ ?_ ?_ ?_ ?_ ?_ ?_ ?_) ?_
          iterate 10 simp
          rintro e s1 b1 st2 ⟨rfl, h⟩ hf hb
          simp only [if_true] at h
          obtain ⟨rfl, p6⟩ := h
          have e6 := hf 6 rfl
          simp at e6
          simp [p6, e6, ← encT_eq]
        obtain ⟨r, st', h1, rfl, rfl⟩ := go
        exact callD_freE (fn := F234) rfl rfl (by simp [hsl]) h1 (by simp) (by simp)
      | false =>
        rw [hq] at lo
        obtain ⟨st2, q2, K2, W2⟩ := c118 K t 10
        refine ⟨s', st2, ?_, W2, fun h => absurd rfl h, fun _ => by simp only [hq, Bool.false_eq_true, if_false]; exact ⟨by decide, by simpa using K2⟩⟩
        have go : Ret (ev T 234 [.hp 0 0 15 0 0, encT t, .sl 1 true (ks.map fun k => .int .i64 k)] st1) fun r st' => r = encT s' ∧ st' = st2 := by
          refine Ret_wp (fn := F234) rfl ?_
          rw [F234]
          simp [q, q2, h0, lkO, kHs, splice, x1, x2, x3, ← encT_eq, hln]
          refine WL.useB L234_0_p L234_0_w (WB := L234_0.wrB) rfl (lo _ _ ?_ ?_ ?_ ?_ ?_ ?_ ?_ ?_ ?_ ?_) ?_
          iterate 10 simp
          rintro e s1 b1 st3 ⟨rfl, h⟩ hf hb
          simp only [Bool.false_eq_true, if_false] at h
          obtain ⟨rfl, p6⟩ := h
          have e0 := hf 0 rfl
          have e4 := hf 4 rfl
          have e6 := hf 6 rfl
          have e8 := hf 8 rfl
          have b4 := hb 4 rfl
          have b8 := hb 8 rfl
          simp at e0 e4 e6 e8 b4 b8 p6
          simp [p6, e0, e4, e6, e8, b4, b8, q2, splice, ← encT_eq]
        obtain ⟨r, st', h1, rfl, rfl⟩ := go
        exact callD_freE (fn := F234) rfl rfl (by simp [hsl]) h1 (by simp) (by simp)
  · obtain ⟨rfl, rfl, rfl⟩ := c1 he
    refine ⟨T0, st1, ?_, W, fun _ => K, fun h => absurd h he⟩
    have go : Ret (ev T 234 [.hp 0 0 15 0 0, encT t, .sl 1 true (ks.map fun k => .int .i64 k)] st1) fun r st' => r = encT T0 ∧ st' = st1 := by
      refine Ret_wp (fn := F234) rfl ?_
      rw [F234]
      simp [q, h0, lkO, kHs, splice, x1, x2, x3, ← encT_eq, he]
      rw [encT_0] <;> rfl
    obtain ⟨r, st', h1, rfl, rfl⟩ := go
    exact callD_freE (fn := F234) rfl rfl (by simp [hsl]) h1 (by simp) (by simp)
end Go.Nt.Ty

/-
  RIGHT MODULES, walked (3): what has no heap: shapes, parts, roots, plain types.
  No condition.
-/
set_option linter.unusedSimpArgs false
namespace Go.Nt.Ty
open Go Go.Nt

/-- Parts of one part each. -/
theorem l117 (fl : Fl) (l : List Tm) (hl : l.length ≤ 1000000) :
    ∀ (r i : Nat) (s : List D) (bx : List (Nat × List D)) (st : St), r = l.length - i → i ≤ l.length → get s 5 = slE 6 fl (encTs l) → get s 6 = .i l.length → get s 7 = .int .i64 i →
    Stops (lp T L117_0 ⟨⟨s, bx⟩, st⟩) fun e s' _ _ => if partedT (l.drop i) then e = .exit 0 else e = .ret ∧ get s' 2 = .bool false := by
  intro r
  induction r with
  | zero =>
    intro i s bx st hr hi h5 h6 h7
    have e : i = l.length := by omega
    subst e
    refine Stops_wp L117_0.eq_1 ?_
    rw [List.drop_length]
    simp [h5, h6, h7, partedT]
  | succ r ihr =>
    intro i s bx st hr hi h5 h6 h7
    have hlt : i < l.length := by omega
    have hw : IntKind.wrap .i64 ((i : Int) + 1) = ((i + 1 : Nat) : Int) := by rw [wrap64] <;> omega
    have nx := fun s' bx' => ihr (i + 1) s' bx' st (by omega) (by omega)
    have hd : partedT (l.drop i) = (decide (l[i].k = 34) && decide (l[i].l.length = 1) && partedT (l.drop (i + 1))) := by rw [List.drop_eq_getElem_cons hlt, partedT, List.all_cons] <;> rfl
    rw [hd]
    refine Stops_wp L117_0.eq_1 ?_
    by_cases hk : l[i].k = 34
    · by_cases hn : l[i].l.length = 1
      · simp [h5, h6, h7, hlt, hw, hk, hn, -Int.natCast_add]
        refine nx _ _ ?_ ?_ ?_ <;> simp [h5, h6]
      · simp [h5, h6, h7, hlt, hw, hk, hn, -Int.natCast_add]
    · simp [h5, h6, h7, hlt, hw, hk, -Int.natCast_add]

theorem c117 (fl : Fl) (l : List Tm) (hl : l.length ≤ 1000000) (st : St) : callD T (ev T) 117 [slE 6 fl (encTs l)] st = some (.bool (partedT l), st) := by
  refine callD_pureR (fn := F117) rfl rfl (by simp) (by simp) ?_
  refine Ret_wp (fn := F117) rfl ?_
  rw [F117]
  have lo := fun s bx st => l117 fl l hl l.length 0 s bx st (by omega) (by omega)
  simp
  refine WL.use L117_0_p L117_0_w (lo _ _ _ ?_ ?_ ?_) ?_
  iterate 3 simp
  rintro e s' b' st' h hf
  rw [List.drop_zero] at h
  cases hp : partedT l with
  | true => rw [hp] at h; simp at h; subst h; simp
  | false => rw [hp] at h; simp at h; obtain ⟨rfl, q2⟩ := h; simp [q2]

/-- Blocks alone. -/
theorem l231 (fl : Fl) (l : List Tm) (hl : l.length ≤ 1000000) :
    ∀ (r i : Nat) (s : List D) (bx : List (Nat × List D)) (st : St), r = l.length - i → i ≤ l.length → get s 35 = slE 6 fl (encTs l) → get s 36 = .i l.length → get s 37 = .int .i64 i →
    Stops (lp T L231_0 ⟨⟨s, bx⟩, st⟩) fun e s' _ _ => if (l.drop i).all (fun x => decide (x.k = 29)) then e = .exit 1 else e = .ret ∧ get s' 2 = .bool false := by
  intro r
  induction r with
  | zero =>
    intro i s bx st hr hi h5 h6 h7
    have e : i = l.length := by omega
    subst e
    refine Stops_wp L231_0.eq_1 ?_
    rw [List.drop_length]
    simp [h5, h6, h7]
  | succ r ihr =>
    intro i s bx st hr hi h5 h6 h7
    have hlt : i < l.length := by omega
    have hw : IntKind.wrap .i64 ((i : Int) + 1) = ((i + 1 : Nat) : Int) := by rw [wrap64] <;> omega
    have nx := fun s' bx' => ihr (i + 1) s' bx' st (by omega) (by omega)
    rw [List.drop_eq_getElem_cons hlt, List.all_cons]
    refine Stops_wp L231_0.eq_1 ?_
    by_cases hk : l[i].k = 29
    · simp [h5, h6, h7, hlt, hw, hk, -Int.natCast_add, -List.all_eq_true]
      refine nx _ _ ?_ ?_ ?_ <;> simp [h5, h6]
    · simp [h5, h6, h7, hlt, hw, hk, -Int.natCast_add]

theorem slice_from (fl : Fl) (l : List Tm) (h : l ≠ []) (n : Nat) (hn : n ≤ l.length) : ∃ fl', sliceD (slE 6 fl (encTs l)) (some (.int .i64 n)) none none = some (slE 6 fl' (encTs (l.drop n))) := by
  have e : ∃ b, slE 6 fl (encTs l) = .sl 6 b (encTs l) := by
    cases l with
    | nil => exact absurd rfl h
    | cons x r => cases fl <;> exact ⟨_, rfl⟩
  obtain ⟨b, e⟩ := e
  rw [e]
  have e2 : List.take l.length (encTs l) = encTs l := List.take_of_length_le (by simp)
  refine ⟨if b then .full else .part, ?_⟩
  have e3 : ∀ ds, slE 6 (if b then .full else .part) ds = .sl 6 b ds := by intro ds; cases b <;> rfl
  rw [e3]
  have hn' : (n : Int) ≤ l.length := by omega
  simp [sliceD, boundD, e2, hn, hn', encTs_drop]

theorem c231 (t : Tm) (gt : good t) (st : St) : callD T (ev T) 231 [encT t] st = some (.bool (shapeT t), st) := by
  have hl := good_len gt
  refine callD_pureR (fn := F231) rfl rfl (by simp) (by simp) ?_
  refine Ret_wp (fn := F231) rfl ?_
  rw [F231, encT_eq]
  unfold shapeT isStmt
  have w1 : IntKind.wrap .i64 1 = 1 := by decide
  have w2 : IntKind.wrap .i64 2 = 2 := by decide
  by_cases k29 : t.k = 29
  · simp [k29]
  by_cases hk : t.k = 20 ∨ t.k = 21 ∨ t.k = 22 ∨ t.k = 23 ∨ t.k = 24 ∨ t.k = 25 ∨ t.k = 26 ∨ t.k = 27 ∨ t.k = 28
  · rcases hk with hk | hk | hk | hk | hk | hk | hk | hk | hk
    all_goals
      by_cases hn : t.l.length = (partsN t.k).1
      · have hne : t.l ≠ [] := by intro q; rw [q, hk] at hn; simp [partsN] at hn
        obtain ⟨fl', hs⟩ := slice_from t.fl t.l hne ((partsN t.k).1 - (partsN t.k).2) (by omega)
        have lo := fun s bx st => l231 fl' (t.l.drop ((partsN t.k).1 - (partsN t.k).2)) (by simp; omega) _ 0 s bx st rfl (Nat.zero_le _)
        rw [List.drop_zero] at lo
        have hnl : (t.l.drop ((partsN t.k).1 - (partsN t.k).2)).length = (partsN t.k).2 := by
          rw [List.length_drop, hn, hk]; simp [partsN]
        generalize hd : t.l.drop ((partsN t.k).1 - (partsN t.k).2) = d at *
        simp [hk, partsN, -List.all_eq_true] at hn hs hd hnl lo
        simp [hk, partsN, hn, hs, hd, w1, w2, -List.drop_one, -List.all_eq_true]
        refine WL.use L231_0_p L231_0_w (lo _ _ _ ?_ ?_ ?_) ?_
        iterate 3 simp [hnl]
        rintro e s' b' st' h hf
        cases ha : d.all (fun x => decide (x.k = 29)) with
        | true => rw [ha] at h; simp at h; subst h; simp
        | false => rw [ha] at h; simp at h; obtain ⟨rfl, q2⟩ := h; simp [q2]
      · simp [hk, partsN] at hn
        have hc1 : ((t.l.length : Int) = 1) = (t.l.length = 1) := propext (by omega)
        have hc2 : ((t.l.length : Int) = 2) = (t.l.length = 2) := propext (by omega)
        have hc3 : ((t.l.length : Int) = 3) = (t.l.length = 3) := propext (by omega)
        simp [hk, partsN, hn, hc1, hc2, hc3]
  · simp only [not_or] at hk
    obtain ⟨h1, h2, h3, h4, h5, h6, h7, h8, h9⟩ := hk
    simp [k29, h1, h2, h3, h4, h5, h6, h7, h8, h9]
end Go.Nt.Ty
