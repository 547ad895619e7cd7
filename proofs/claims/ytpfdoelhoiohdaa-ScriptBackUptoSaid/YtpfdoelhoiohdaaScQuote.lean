/-
  THE SAME EQUATIONS IN AN ORDER THAT SPARES WORK: a text that imports this has 'simp' run code head first (it does not go into frames and code that is still to come), and part runs at branches that are not decided (with '+contextual' each way knows its truth).
  No condition.
-/
import Derived.Test.YtpfdoelhoiohdaaNtAuto
import Derived.Test.YtpfdoelhoiohdaaLkBuf
namespace Go.Nt

variable {T : Nat → Option IFunc} {go : GoF} {lp' : Ic → Cfg → Option (Ex × Cfg)}

/-! ### What is looked at -/
@[congr] theorem kseq_cg {k : Cfg → Option (Ex × Cfg)} {x x' : Option (Ex × Cfg)} (h : x = x') : kseq k x = kseq k x' := by rw [h]
@[congr] theorem kblock_cg {id : Nat} {x x' : Option (Ex × Cfg)} (h : x = x') : kblock id x = kblock id x' := by rw [h]
@[congr] theorem kfin_cg {r : List Rv} {x x' : Option (Ex × Cfg)} (h : x = x') : kfin r x = kfin r x' := by rw [h]
@[congr] theorem kL_cg {a : Ic} {x x' : Option (Ex × Cfg)} (h : x = x') : kL T a x = kL T a x' := by rw [h]
@[congr] theorem kE_cg {d d' : Option Nat} {s : List D} {b : List (Nat × List D)} {st : St} {os : List Gi} {x x' : Option Eff} (hd : d = d') (hx : x = x') : kE T go d s b st os x = kE T go d' s b st os x' := by rw [hd, hx]
@[congr] theorem kG_cg {w : Bool} {io : Io} {os : List Gi} {s : List D} {b : List (Nat × List D)} {st : St} {d d' : D} (h : d = d') : kG T go w io os s b st d = kG T go w io os s b st d' := by rw [h]
@[congr] theorem kC_cg {a b : Ic} {c : Cfg} {d d' : D} (h : d = d') : kC T go lp' a b c d = kC T go lp' a b c d' := by rw [h]
@[congr] theorem Stops_cg {r r' : Option (Ex × Cfg)} {Q : Ex → List D → List (Nat × List D) → St → Prop} (h : r = r') : Stops r Q = Stops r' Q := by rw [h]
@[congr] theorem Ret_cg {r r' : Option (D × St)} {Q : D → St → Prop} (h : r = r') : Ret r Q = Ret r' Q := by rw [h]
@[congr] theorem loadD_cg {rb : Nat → Nat × List D} {st : St} {p p' : D} {n l : Option Nat} {q : Bool} (h : p = p') : loadD rb st p n l q = loadD rb st p' n l q := by rw [h]
attribute [congr] ite_congr

/-! ### Branches -/
attribute [simp] kC_b kG_b kseq_ite kblock_ite kfin_ite kL_ite kE_ite map_ite obind_ite Stops_ite Ret_ite

/-! ### Head first -/
attribute [simp ↓] kseq_n kseq_r kseq_e kblock_n kblock_r kblock_e kL_n kL_r kL_e kfin_r kfin_n kseq_ite kblock_ite kfin_ite kL_ite kE_ite map_ite obind_ite Stops_ite Ret_ite Stops_some Ret_some Option.map_some
attribute [simp ↓] rn_skip rn_ops rn_seq rn_block rn_loop rn_exit rn_ret rn_cond runOps_g0 runOps_kG runOps_nil get_put getB_putB

@[simp ↓] theorem ev_t (s : List D) (n : Nat) : Opd.ev s (.t n) = get s n := (rfl)
@[simp ↓] theorem ev_c (s : List D) (d : D) : Opd.ev s (.c d) = d := (rfl)
@[simp ↓] theorem ev_f (s : List D) (n : Nat) : Opd.ev s (.f n) = .fn n [] [] := (rfl)

@[simp high] theorem kE_vs (d : Nat) (s : List D) (b : List (Nat × List D)) (st : St) (os : List Gi) (v : D) : kE T go (some d) s b st os (some (v, none, none)) = runOps T go os ⟨⟨put s d v, b⟩, st⟩ := (rfl)
@[simp high] theorem kE_vn (s : List D) (b : List (Nat × List D)) (st : St) (os : List Gi) (v : D) : kE T go none s b st os (some (v, none, none)) = runOps T go os ⟨⟨s, b⟩, st⟩ := (rfl)
@[simp high] theorem kE_hs (d : Nat) (s : List D) (b : List (Nat × List D)) (st st' : St) (os : List Gi) (v : D) : kE T go (some d) s b st os (some (v, none, some st')) = runOps T go os ⟨⟨put s d v, b⟩, st'⟩ := (rfl)
@[simp high] theorem kE_hn (s : List D) (b : List (Nat × List D)) (st st' : St) (os : List Gi) (v : D) : kE T go none s b st os (some (v, none, some st')) = runOps T go os ⟨⟨s, b⟩, st'⟩ := (rfl)
@[simp high] theorem kE_bs (d : Nat) (s : List D) (b : List (Nat × List D)) (st : St) (os : List Gi) (v : D) (x g : Nat) (cs : List D) : kE T go (some d) s b st os (some (v, some (x, g, cs), none)) = runOps T go os ⟨⟨put s d v, putB b x (g, cs)⟩, st⟩ := (rfl)
@[simp high] theorem kE_bn (s : List D) (b : List (Nat × List D)) (st : St) (os : List Gi) (v : D) (x g : Nat) (cs : List D) : kE T go none s b st os (some (v, some (x, g, cs), none)) = runOps T go os ⟨⟨s, putB b x (g, cs)⟩, st⟩ := (rfl)

attribute [simp ↓] kE_vs kE_vn kE_hs kE_hn kE_bs kE_bn

/-- Operands. -/
def rdL (rd : Opd → D) (xs : List Opd) : List D := xs.map rd
@[simp ↓] theorem rdL_nil (s : List D) : rdL (Opd.ev s) [] = [] := (rfl)
@[simp ↓] theorem rdL_cons (s : List D) (x : Opd) (xs : List Opd) : rdL (Opd.ev s) (x :: xs) = Opd.ev s x :: rdL (Opd.ev s) xs := (rfl)
def rdO (rd : Opd → D) (x : Option Opd) : Option D := x.map rd
@[simp ↓] theorem rdO_none (s : List D) : rdO (Opd.ev s) none = none := (rfl)
@[simp ↓] theorem rdO_some (s : List D) (x : Opd) : rdO (Opd.ev s) (some x) = some (Opd.ev s x) := (rfl)
def rdP (rd : Opd → D) (ps : List (Nat × Nat × Opd)) : List (Nat × Nat × D) := ps.map fun p => (p.1, p.2.1, rd p.2.2)
@[simp ↓] theorem rdP_nil (s : List D) : rdP (Opd.ev s) [] = [] := (rfl)
@[simp ↓] theorem rdP_cons (s : List D) (a n : Nat) (x : Opd) (xs : List (Nat × Nat × Opd)) : rdP (Opd.ev s) ((a, n, x) :: xs) = (a, n, Opd.ev s x) :: rdP (Opd.ev s) xs := (rfl)

def kCall : Option (D × St) → Option Eff
  | some r => some (r.1, none, some r.2)
  | none => none
@[simp] theorem kCall_some (r : D) (st : St) : kCall (some (r, st)) = some (r, none, some st) := (rfl)
theorem kCall_ite {p : Prop} [Decidable p] (x y : Option (D × St)) : kCall (if p then x else y) = if p then kCall x else kCall y := by split <;> rfl
attribute [simp] kCall_ite
def kPick (x a b : D) : Option Eff := match x with
  | .bool t => val (if t then a else b)
  | _ => none
@[simp] theorem kPick_b (t : Bool) (a b : D) : kPick (.bool t) a b = some (if t = true then a else b, none, none) := (rfl)
@[simp high] theorem kPick_bb (t a b : Bool) : kPick (.bool t) (.bool a) (.bool b) = some (.bool (if t = true then a else b), none, none) := by cases t <;> rfl
def kNil (x : D) : Option Bool → Option Eff
  | some false => val x
  | _ => none
@[simp] theorem kNil_f (x : D) : kNil x (some false) = some (x, none, none) := (rfl)
def kEq (neg : Bool) : Option Bool → Option Eff
  | some b => val (.bool (if neg then !b else b))
  | none => none
@[simp] theorem kEq_t (b : Bool) : kEq true (some b) = some (.bool (!b), none, none) := (rfl)
@[simp] theorem kEq_f (b : Bool) : kEq false (some b) = some (.bool b, none, none) := (rfl)
def kFld (off : Nat) (n : Option Nat) (x : D) : Option Eff := match x with
  | .agg cs => (part cs off n).bind val
  | _ => none
@[simp] theorem kFld_a (off : Nat) (n : Option Nat) (cs : List D) : kFld off n (.agg cs) = (part cs off n).bind val := (rfl)
def kIdx (sz : Nat) (n arr : Option Nat) (x i : D) : Option Eff := match i with
  | .int _ i => if i < 0 then none else (idxAD x i.toNat sz n arr).bind val
  | _ => none
@[simp] theorem kIdx_i (sz : Nat) (n arr : Option Nat) (x : D) (k : IntKind) (i : Int) : kIdx sz n arr x (.int k i) = if i < 0 then none else (idxAD x i.toNat sz n arr).bind val := (rfl)
def kIxS (x i : D) : Option Eff := match i with
  | .int _ i => if i < 0 then none else match x with
    | .str s => (s[i.toNat]?).bind fun b => val (byteD b)
    | _ => none
  | _ => none
@[simp] theorem kIxS_s (s : List UInt8) (k : IntKind) (i : Int) : kIxS (.str s) (.int k i) = if i < 0 then none else (s[i.toNat]?).bind fun b => val (byteD b) := (rfl)
def kExt (i : Nat) (x : D) : Option Eff := match x with
  | .tup ds => (ds[i]?).bind val
  | _ => none
@[simp] theorem kExt_t (i : Nat) (ds : List D) : kExt i (.tup ds) = (ds[i]?).bind val := (rfl)
def kCvI (k : IntKind) (x : D) : Option Eff := match x with
  | .int _ n => val (.int k (k.wrap n))
  | _ => none
@[simp] theorem kCvI_i (k k' : IntKind) (n : Int) : kCvI k (.int k' n) = some (.int k (k.wrap n), none, none) := (rfl)
def kCvS (x : D) : Option Eff := match x with
  | .str s => val (.str s)
  | _ => none
@[simp] theorem kCvS_s (s : List UInt8) : kCvS (.str s) = some (.str s, none, none) := (rfl)
def kCvB : Option (List D) → Option Eff
  | some l => (l.mapM unbyte).bind fun s => val (.str s)
  | none => none
@[simp] theorem kCvB_s (l : List D) : kCvB (some l) = (l.mapM unbyte).bind fun s => val (.str s) := (rfl)
def kMM (mx : Bool) (x y : D) : Option Eff := match x, y with
  | .int k a, .int k' b => if k = k' then val (.int k (if mx then (if b > a then b else a) else (if b < a then b else a))) else none
  | _, _ => none
@[simp] theorem kMM_i (mx : Bool) (k k' : IntKind) (a b : Int) : kMM mx (.int k a) (.int k' b) = if k = k' then val (.int k (if mx then (if b > a then b else a) else (if b < a then b else a))) else none := (rfl)
def kAp (st : St) (sz : Nat) (s : D) : Option (List D) → Option Eff
  | some l => kCall (appendD st s l sz)
  | none => none
@[simp] theorem kAp_s (st : St) (sz : Nat) (s : D) (l : List D) : kAp st sz s (some l) = kCall (appendD st s l sz) := (rfl)
def kApT (ty : Nat) (st : St) (sz : Nat) (s : D) : Option (List D) → Option Eff
  | some l => kCall (appendTD ty st s l sz)
  | none => none
@[simp] theorem kApT_s (ty : Nat) (st : St) (sz : Nat) (s : D) (l : List D) : kApT ty st sz s (some l) = kCall (appendTD ty st s l sz) := (rfl)
def kCallV (T : Nat → Option IFunc) (go : GoF) (xs : List D) (st : St) (f : D) : Option Eff := match f with
  | .fn g first cap => kCall (callD T go g (first ++ xs ++ cap) st)
  | _ => none
@[simp] theorem kCallV_f (xs : List D) (st : St) (g : Nat) (a b : List D) : kCallV T go xs st (.fn g a b) = kCall (callD T go g (a ++ xs ++ b) st) := (rfl)
def kBuild (zero : List D) (ps : List (Nat × Nat × D)) : Option Eff := if ps.all (fun p => p.2.2.okv) then (fillD zero ps).bind fun cs => val (.agg cs) else none
@[simp] theorem kBuild_ (zero : List D) (ps : List (Nat × Nat × D)) : kBuild zero ps = if ps.all (fun p => p.2.2.okv) then (fillD zero ps).bind fun cs => val (.agg cs) else none := (rfl)
def kBsl (sz : Nat) (agg : Bool) (xs : List D) : Option Eff := if xs.all fun v => v.fits (if agg then some sz else none) && (v.cells.length == sz && v.pure) then val (.sl sz true xs) else none
@[simp] theorem kBsl_ (sz : Nat) (agg : Bool) (xs : List D) : kBsl sz agg xs = if xs.all fun v => v.fits (if agg then some sz else none) && (v.cells.length == sz && v.pure) then val (.sl sz true xs) else none := (rfl)
def kBoxH (n : Option Nat) (st : St) (x : D) : Option Eff := if x.fits n then some (.hp st.length 0 (n.getD 1) 0 0, none, some (st ++ [.cells true (n.getD 1) 0 0 false [x]])) else none
@[simp] theorem kBoxH_ (n : Option Nat) (st : St) (x : D) : kBoxH n st x = if x.fits n then some (.hp st.length 0 (n.getD 1) 0 0, none, some (st ++ [.cells true (n.getD 1) 0 0 false [x]])) else none := (rfl)
def kBoxI (n : Option Nat) (x : D) : Option Eff := if x.fits n && x.pure then val (.iptr x) else none
@[simp] theorem kBoxI_ (n : Option Nat) (x : D) : kBoxI n x = if x.fits n && x.pure then val (.iptr x) else none := (rfl)
def kBoxL (d g n : Nat) (cs : List D) : Option Eff := if cs.length = n ∧ cs.all D.okv = true then some (.lp d (g + 1) 0, some (d, g + 1, cs), none) else none
@[simp] theorem kBoxL_ (d g n : Nat) (cs : List D) : kBoxL d g n cs = if cs.length = n ∧ cs.all D.okv = true then some (.lp d (g + 1) 0, some (d, g + 1, cs), none) else none := (rfl)
def kMkfn (f : Nat) (first cap : List D) : Option Eff := if first.all D.okv && cap.all D.okv then val (.fn f first cap) else none
@[simp] theorem kMkfn_ (f : Nat) (first cap : List D) : kMkfn f first cap = if first.all D.okv && cap.all D.okv then val (.fn f first cap) else none := (rfl)
def kSlc (s : Option Nat) (x : D) (lo hi mx : Option D) : Option Eff := if slcTy s x then (sliceD x lo hi mx).bind val else none
@[simp] theorem kSlc_ (s : Option Nat) (x : D) (lo hi mx : Option D) : kSlc s x lo hi mx = if slcTy s x then (sliceD x lo hi mx).bind val else none := (rfl)

variable {rd : Opd → D} {rb : Nat → Nat × List D} {st : St}
@[simp ↓] theorem a_mv (d : Nat) (x : Opd) : actO T go rd rb st (.mv d x) = some (rd x, none, none) := (rfl)
@[simp ↓] theorem a_mvn : actO T go rd rb st .mvn = some (.undef, none, none) := (rfl)
@[simp ↓] theorem a_pick (d : Nat) (x a b : Opd) : actO T go rd rb st (.pick d x a b) = kPick (rd x) (rd a) (rd b) := by simp only [actO]; cases rd x <;> rfl
@[simp ↓] theorem a_boxLn (d n : Nat) (zero : List D) : actO T go rd rb st (.boxL d n none zero) = kBoxL d (rb d).1 n zero := (rfl)
@[simp ↓] theorem a_boxLs (d n : Nat) (x : Opd) (zero : List D) : actO T go rd rb st (.boxL d n (some x) zero) = kBoxL d (rb d).1 n (rd x).cells := (rfl)
@[simp ↓] theorem a_boxH (d : Nat) (n : Option Nat) (x : Opd) : actO T go rd rb st (.boxH d n x) = kBoxH n st (rd x) := (rfl)
@[simp ↓] theorem a_boxI (d : Nat) (n : Option Nat) (x : Opd) : actO T go rd rb st (.boxI d n x) = kBoxI n (rd x) := (rfl)
@[simp ↓] theorem a_build (d : Nat) (zero : List D) (ps : List (Nat × Nat × Opd)) : actO T go rd rb st (.build d zero ps) = kBuild zero (rdP rd ps) := by simp only [actO, kBuild, rdP, List.all_map]; rfl
@[simp ↓] theorem a_bsl (d sz : Nat) (agg : Bool) (xs : List Opd) : actO T go rd rb st (.bsl d sz agg xs) = kBsl sz agg (rdL rd xs) := (rfl)
@[simp ↓] theorem a_load (d : Nat) (p : Opd) (n l : Option Nat) (q : Bool) : actO T go rd rb st (.load d p n l q) = (loadD rb st (rd p) n l q).bind val := (rfl)
@[simp ↓] theorem a_store (p x : Opd) (n : Nat) (l : Option Nat) : actO T go rd rb st (.store p x n l) = storeD rb st (rd p) (rd x) n l := (rfl)
@[simp ↓] theorem a_storeX (box : Bool) (p x : Opd) (n : Nat) : actO T go rd rb st (.storeX box p x n) = storeXD box st (rd p) (rd x) n := (rfl)
@[simp ↓] theorem a_nilc (d : Option Nat) (x : Opd) : actO T go rd rb st (.nilc d x) = kNil (rd x) (nilD .ptr (rd x)) := by simp only [actO]; rcases nilD .ptr (rd x) with _ | (_ | _) <;> rfl
@[simp ↓] theorem a_bin (d : Nat) (op : BinOp) (x y : Opd) : actO T go rd rb st (.bin d op x y) = (binD op (rd x) (rd y)).bind val := (rfl)
@[simp ↓] theorem a_eqn (d : Nat) (neg : Bool) (k : Kd) (x y : Opd) : actO T go rd rb st (.eqn d neg k x y) = kEq neg (eqnD k (rd x) (rd y)) := by simp only [actO, kEq]; cases eqnD k (rd x) (rd y) <;> rfl
@[simp ↓] theorem a_un (d : Nat) (op : UnOp) (x : Opd) : actO T go rd rb st (.un d op x) = (unD op (rd x)).bind val := (rfl)
@[simp ↓] theorem a_cvI (d : Nat) (k : IntKind) (x : Opd) : actO T go rd rb st (.conv d (.int k) x) = kCvI k (rd x) := by simp only [actO]; cases rd x <;> rfl
@[simp ↓] theorem a_cvS (d : Nat) (x : Opd) : actO T go rd rb st (.conv d .same x) = kCvS (rd x) := by simp only [actO]; cases rd x <;> rfl
@[simp ↓] theorem a_cvB (d : Nat) (x : Opd) : actO T go rd rb st (.conv d .bytesstr x) = kCvB (listD st 1 (rd x)) := by simp only [actO]; cases listD st 1 (rd x) <;> rfl
@[simp ↓] theorem a_mkfn (d f : Nat) (first cap : List Opd) : actO T go rd rb st (.mkfn d f first cap) = kMkfn f (rdL rd first) (rdL rd cap) := (rfl)
@[simp ↓] theorem a_fldA (d : Nat) (x : Opd) (off : Nat) (n : Option Nat) : actO T go rd rb st (.fldA d x off n) = (fldD (rd x) off n).bind val := (rfl)
@[simp ↓] theorem a_fld (d : Nat) (x : Opd) (off : Nat) (n : Option Nat) : actO T go rd rb st (.fld d x off n) = kFld off n (rd x) := by simp only [actO]; cases rd x <;> rfl
@[simp ↓] theorem a_idxA (d : Nat) (x i : Opd) (sz : Nat) (n arr : Option Nat) : actO T go rd rb st (.idxA d x i sz n arr) = kIdx sz n arr (rd x) (rd i) := by simp only [actO]; cases rd i <;> rfl
@[simp ↓] theorem a_idxS (d : Nat) (x i : Opd) (n : Option Nat) (sz : Nat) : actO T go rd rb st (.idx d x i n sz none) = kIxS (rd x) (rd i) := by simp only [actO]; cases rd i <;> first | rfl | (cases rd x <;> rfl)
@[simp ↓] theorem a_slc (d : Nat) (s : Option Nat) (x : Opd) (lo hi mx : Option Opd) : actO T go rd rb st (.slc d s x lo hi mx) = kSlc s (rd x) (rdO rd lo) (rdO rd hi) (rdO rd mx) := (rfl)
@[simp ↓] theorem a_ext (d : Nat) (x : Opd) (i : Nat) : actO T go rd rb st (.ext d x i) = kExt i (rd x) := by simp only [actO]; cases rd x <;> rfl
@[simp ↓] theorem a_call (d : Option Nat) (f : Nat) (xs : List Opd) : actO T go rd rb st (.call d f xs) = kCall (callD T go f (rdL rd xs) st) := by simp only [actO, rdL]; cases callD T go f (xs.map rd) st <;> rfl
@[simp ↓] theorem a_callQ (d : Option Nat) (f : Nat) (xs : List Opd) : actO T go rd rb st (.callQ d f xs) = (callQD T go f (rdL rd xs)).bind val := (rfl)
@[simp ↓] theorem a_callV (d : Option Nat) (f : Opd) (xs : List Opd) : actO T go rd rb st (.callV d f xs) = kCallV T go (rdL rd xs) st (rd f) := by
  simp only [actO, rdL]
  cases rd f with
  | fn g a b => simp only [kCallV]; cases callD T go g (a ++ xs.map rd ++ b) st <;> rfl
  | _ => rfl
@[simp ↓] theorem a_len (d : Nat) (k : Kd) (x : Opd) (q : Bool) : actO T go rd rb st (.len d k x q) = (lenD st k (rd x) q).bind val := (rfl)
@[simp ↓] theorem a_app (d : Nat) (s x : Opd) (sz : Nat) : actO T go rd rb st (.app d s x sz) = kAp st sz (rd s) (srcD st sz (rd x)) := by
  simp only [actO]; cases srcD st sz (rd x) with
  | none => rfl
  | some l => simp only [Option.bind_some, kAp]; cases appendD st (rd s) l sz <;> rfl
@[simp ↓] theorem a_appT (d : Nat) (s x : Opd) (sz ty : Nat) : actO T go rd rb st (.appT d s x sz ty) = kApT ty st sz (rd s) (srcD st sz (rd x)) := by
  simp only [actO]; cases srcD st sz (rd x) with
  | none => rfl
  | some l => simp only [Option.bind_some, kApT]; cases appendTD ty st (rd s) l sz <;> rfl
@[simp ↓] theorem a_mm (d : Nat) (mx : Bool) (x y : Opd) : actO T go rd rb st (.mm d mx x y) = kMM mx (rd x) (rd y) := by simp only [actO]; cases rd x <;> first | rfl | (cases rd y <;> rfl)

@[simp] theorem listD_sl (st : St) (sz : Nat) (fl : Bool) (ds : List D) : listD st sz (.sl sz fl ds) = some ds := by simp [listD]
@[simp] theorem listD_nils (st : St) (sz : Nat) : listD st sz .nils = some [] := (rfl)
@[simp] theorem srcD_sl (st : St) (sz : Nat) (fl : Bool) (ds : List D) : srcD st sz (.sl sz fl ds) = some ds := by simp [srcD]
@[simp] theorem srcD_nils (st : St) (sz : Nat) : srcD st sz .nils = some [] := (rfl)
@[simp] theorem srcD_slE (st : St) (sz : Nat) (fl : Fl) (ds : List D) : srcD st sz (slE sz fl ds) = some ds := by
  have := slE_list st sz fl ds
  cases fl <;> cases ds <;> exact this

/-- A slice of an array. -/
def kSlcA (st : St) (n : Nat) (x : D) (lo hi : Option D) : Option Eff := match x with
    | .hp id ver sz 0 0 => match St.at st id with
      | .cells box sz' ver' mod false [.agg cs] =>
        if ver' = ver ∧ sz' = sz ∧ sz = n ∧ cs.length = n ∧ cs.all D.pure1 = true then
          (boundD hi n n).bind fun h => (boundD lo 0 h).bind fun l =>
            some (.sl 1 (h == n) ((cs.drop l).take (h - l)), none, some (List.set st id (.cells box sz ver (mod + 1) true [.agg cs])))
        else none
      | _ => none
    | _ => none
@[simp ↓] theorem a_slcA {T : Nat → Option IFunc} {go : GoF} {rd : Opd → D} {rb : Nat → Nat × List D} {st : St} (d : Nat) (x : Opd) (lo hi : Option Opd) (n : Nat) : actO T go rd rb st (.slcA d x lo hi n) = kSlcA st n (rd x) (rdO rd lo) (rdO rd hi) := (rfl)

end Go.Nt

/-
  RUNS WITH WHAT IS ASKED BEHIND THEM: 'simp' walks code head first, parts at branches ('+contextual': each way knows its truth), and leaves what is asked at each way's end.
  No condition.
-/
namespace Go.Nt

variable {T : Nat → Option IFunc}

abbrev Kt : Type := Ex → Cfg → Prop

/-- The code's run ends, so. -/
def WP (T : Nat → Option IFunc) (a : Ic) (c : Cfg) (K : Kt) : Prop := ∃ e c', rn T (ev T) (lp T) a c = some (e, c') ∧ K e c'
def WO (T : Nat → Option IFunc) (l : List Gi) (c : Cfg) (K : Kt) : Prop := ∃ c', runOps T (ev T) l c = some c' ∧ K .normal c'
def WE (T : Nat → Option IFunc) (d : Option Nat) (s : List D) (b : List (Nat × List D)) (st : St) (os : List Gi) (x : Option Eff) (K : Kt) : Prop := ∃ c', kE T (ev T) d s b st os x = some c' ∧ K .normal c'
/-- A loop's run ends, so. -/
def WL (T : Nat → Option IFunc) (L : Ic) (c : Cfg) (K : Kt) : Prop := ∃ e c', lp T L c = some (e, c') ∧ K e c'
def WC (T : Nat → Option IFunc) (a b : Ic) (c : Cfg) (d : D) (K : Kt) : Prop := ∃ e c', kC T (ev T) (lp T) a b c d = some (e, c') ∧ K e c'
def WG (T : Nat → Option IFunc) (w : Bool) (io : Io) (os : List Gi) (s : List D) (b : List (Nat × List D)) (st : St) (d : D) (K : Kt) : Prop := ∃ c', kG T (ev T) w io os s b st d = some c' ∧ K .normal c'

def qSq (T : Nat → Option IFunc) (b : Ic) (K : Kt) : Kt
  | .normal, c => WP T b c K
  | e, c => K e c
def qBk (id : Nat) (K : Kt) : Kt
  | .exit id', c => K (if id' = id then .normal else .exit id') c
  | e, c => K e c
def qLp (T : Nat → Option IFunc) (L : Ic) (Q : Ex → List D → List (Nat × List D) → St → Prop) : Kt
  | .normal, c => Stops (lp T L c) Q
  | e, c => Q e c.1.s c.1.b c.2
def qFn (res : List Rv) (Q : D → St → Prop) : Kt
  | .exit _, _ => False
  | _, c => Ret (finish res c) Q

@[congr] theorem WE_cg {d d' : Option Nat} {s : List D} {b : List (Nat × List D)} {st : St} {os : List Gi} {x x' : Option Eff} {K : Kt} (hd : d = d') (hx : x = x') : WE T d s b st os x K = WE T d' s b st os x' K := by rw [hd, hx]
@[congr] theorem WG_cg {w : Bool} {io : Io} {os : List Gi} {s : List D} {b : List (Nat × List D)} {st : St} {d d' : D} {K : Kt} (h : d = d') : WG T w io os s b st d K = WG T w io os s b st d' K := by rw [h]
@[congr] theorem WC_cg {a b : Ic} {c : Cfg} {d d' : D} {K : Kt} (h : d = d') : WC T a b c d K = WC T a b c d' K := by rw [h]

@[simp ↓] theorem qSq_n (b : Ic) (K : Kt) (c : Cfg) : qSq T b K .normal c = WP T b c K := (rfl)
@[simp ↓] theorem qSq_r (b : Ic) (K : Kt) (c : Cfg) : qSq T b K .ret c = K .ret c := (rfl)
@[simp ↓] theorem qSq_e (b : Ic) (K : Kt) (id : Nat) (c : Cfg) : qSq T b K (.exit id) c = K (.exit id) c := (rfl)
@[simp ↓] theorem qBk_n (id : Nat) (K : Kt) (c : Cfg) : qBk id K .normal c = K .normal c := (rfl)
@[simp ↓] theorem qBk_r (id : Nat) (K : Kt) (c : Cfg) : qBk id K .ret c = K .ret c := (rfl)
@[simp ↓] theorem qBk_e0 (id : Nat) (K : Kt) (c : Cfg) : qBk id K (.exit id) c = K .normal c := by simp [qBk]
@[simp ↓] theorem qBk_e (id id' : Nat) (K : Kt) (c : Cfg) (h : id' ≠ id) : qBk id K (.exit id') c = K (.exit id') c := by simp [qBk, h]
@[simp ↓] theorem qLp_n (L : Ic) (Q : Ex → List D → List (Nat × List D) → St → Prop) (c : Cfg) : qLp T L Q .normal c = Stops (lp T L c) Q := (rfl)
@[simp ↓] theorem qLp_r (L : Ic) (Q : Ex → List D → List (Nat × List D) → St → Prop) (s : List D) (b : List (Nat × List D)) (st : St) : qLp T L Q .ret ⟨⟨s, b⟩, st⟩ = Q .ret s b st := (rfl)
@[simp ↓] theorem qLp_e (L : Ic) (Q : Ex → List D → List (Nat × List D) → St → Prop) (id : Nat) (s : List D) (b : List (Nat × List D)) (st : St) : qLp T L Q (.exit id) ⟨⟨s, b⟩, st⟩ = Q (.exit id) s b st := (rfl)
@[simp ↓] theorem qFn_n (res : List Rv) (Q : D → St → Prop) (c : Cfg) : qFn res Q .normal c = Ret (finish res c) Q := (rfl)
@[simp ↓] theorem qFn_r (res : List Rv) (Q : D → St → Prop) (c : Cfg) : qFn res Q .ret c = Ret (finish res c) Q := (rfl)

@[simp ↓] theorem WP_skip (c : Cfg) (K : Kt) : WP T .skip c K = K .normal c := propext ⟨fun ⟨_, _, h, k⟩ => by cases h; exact k, fun k => ⟨_, _, rfl, k⟩⟩
@[simp ↓] theorem WP_exit (id : Nat) (c : Cfg) (K : Kt) : WP T (.exit id) c K = K (.exit id) c := propext ⟨fun ⟨_, _, h, k⟩ => by cases h; exact k, fun k => ⟨_, _, rfl, k⟩⟩
@[simp ↓] theorem WP_ret (c : Cfg) (K : Kt) : WP T .ret c K = K .ret c := propext ⟨fun ⟨_, _, h, k⟩ => by cases h; exact k, fun k => ⟨_, _, rfl, k⟩⟩
@[simp ↓] theorem WP_loop (L : Ic) (c : Cfg) (K : Kt) : WP T (.loop L) c K = WL T L c K := (rfl)
@[simp ↓] theorem WP_seq (a b : Ic) (c : Cfg) (K : Kt) : WP T (.seq a b) c K = WP T a c (qSq T b K) := by
  refine propext ⟨fun ⟨e, c', h, k⟩ => ?_, fun ⟨e, c', h, k⟩ => ?_⟩
  · rw [rn_seq] at h
    cases hq : rn T (ev T) (lp T) a c with
    | none => rw [hq] at h; cases h
    | some r =>
      obtain ⟨e1, c1⟩ := r
      rw [hq] at h
      refine ⟨e1, c1, hq, ?_⟩
      cases e1 with
      | normal => exact ⟨e, c', h, k⟩
      | ret => cases h; exact k
      | exit id => cases h; exact k
  · cases e with
    | normal =>
      obtain ⟨e2, c2, h2, k2⟩ := k
      exact ⟨e2, c2, by rw [rn_seq, h]; exact h2, k2⟩
    | ret => exact ⟨_, _, by rw [rn_seq, h]; rfl, k⟩
    | exit id => exact ⟨_, _, by rw [rn_seq, h]; rfl, k⟩
@[simp ↓] theorem WP_block (id : Nat) (a : Ic) (c : Cfg) (K : Kt) : WP T (.block id a) c K = WP T a c (qBk id K) := by
  refine propext ⟨fun ⟨e, c', h, k⟩ => ?_, fun ⟨e, c', h, k⟩ => ?_⟩
  · rw [rn_block] at h
    cases hq : rn T (ev T) (lp T) a c with
    | none => rw [hq] at h; cases h
    | some r =>
      obtain ⟨e1, c1⟩ := r
      rw [hq] at h
      refine ⟨e1, c1, hq, ?_⟩
      cases e1 <;> (cases h; exact k)
  · cases e <;> exact ⟨_, _, by rw [rn_block, h]; rfl, k⟩
@[simp ↓] theorem WP_cond (x : Opd) (a b : Ic) (c : Cfg) (K : Kt) : WP T (.cond x a b) c K = WC T a b c (x.ev c.1.s) K := by simp only [WP, WC, rn_cond]
@[simp ↓] theorem WC_b (t : Bool) (a b : Ic) (c : Cfg) (K : Kt) : WC T a b c (.bool t) K = ((t = true → WP T a c K) ∧ (t = false → WP T b c K)) := by cases t <;> simp [WC, WP]
@[simp ↓] theorem WP_ops (l : List Gi) (c : Cfg) (K : Kt) : WP T (.ops l) c K = WO T l c K := by
  refine propext ⟨fun ⟨e, c', h, k⟩ => ?_, fun ⟨c', h, k⟩ => ⟨.normal, c', by rw [rn_ops, h]; rfl, k⟩⟩
  rw [rn_ops, Option.map_eq_some_iff] at h
  obtain ⟨c1, h1, h2⟩ := h
  cases h2
  exact ⟨_, h1, k⟩
@[simp ↓] theorem WO_nil (c : Cfg) (K : Kt) : WO T [] c K = K .normal c := propext ⟨fun ⟨_, h, k⟩ => by cases h; exact k, fun k => ⟨_, rfl, k⟩⟩
@[simp ↓] theorem WO_g0 (io : Io) (os : List Gi) (s : List D) (b : List (Nat × List D)) (st : St) (K : Kt) : WO T (g0 io :: os) ⟨⟨s, b⟩, st⟩ K = WE T io.dst s b st os (actO T (ev T) (Opd.ev s) (getB b) st io) K := by simp only [WO, WE, runOps_g0]
@[simp ↓] theorem WO_g1 (j : Nat) (w : Bool) (io : Io) (os : List Gi) (s : List D) (b : List (Nat × List D)) (st : St) (K : Kt) : WO T (g1 j w io :: os) ⟨⟨s, b⟩, st⟩ K = WG T w io os s b st (get s j) K := by simp only [WO, WG, runOps_kG]
@[simp ↓] theorem WG_u (w : Bool) (io : Io) (os : List Gi) (s : List D) (b : List (Nat × List D)) (st : St) (K : Kt) : WG T w io os s b st (.tup []) K = WO T os ⟨⟨putO s io.dst .undef, b⟩, st⟩ K := (rfl)
@[simp ↓] theorem WG_t (t : Bool) (io : Io) (os : List Gi) (s : List D) (b : List (Nat × List D)) (st : St) (K : Kt) : WG T true io os s b st (.bool t) K = ((t = true → WO T (g0 io :: os) ⟨⟨s, b⟩, st⟩ K) ∧ (t = false → WE T io.dst s b st os (some (.undef, none, none)) K)) := by cases t <;> simp [WG, WE]
@[simp ↓] theorem WG_f (t : Bool) (io : Io) (os : List Gi) (s : List D) (b : List (Nat × List D)) (st : St) (K : Kt) : WG T false io os s b st (.bool t) K = ((t = false → WO T (g0 io :: os) ⟨⟨s, b⟩, st⟩ K) ∧ (t = true → WE T io.dst s b st os (some (.undef, none, none)) K)) := by cases t <;> simp [WG, WE]
@[simp ↓ high] theorem WC_tt (a b : Ic) (c : Cfg) (K : Kt) : WC T a b c (.bool true) K = WP T a c K := by simp
@[simp ↓ high] theorem WC_ff (a b : Ic) (c : Cfg) (K : Kt) : WC T a b c (.bool false) K = WP T b c K := by simp
@[simp ↓ high] theorem WG_tt (io : Io) (os : List Gi) (s : List D) (b : List (Nat × List D)) (st : St) (K : Kt) : WG T true io os s b st (.bool true) K = WO T (g0 io :: os) ⟨⟨s, b⟩, st⟩ K := by simp [WG, WO]
@[simp ↓ high] theorem WG_tf (io : Io) (os : List Gi) (s : List D) (b : List (Nat × List D)) (st : St) (K : Kt) : WG T true io os s b st (.bool false) K = WE T io.dst s b st os (some (.undef, none, none)) K := by simp [WG, WE]
@[simp ↓ high] theorem WG_ff (io : Io) (os : List Gi) (s : List D) (b : List (Nat × List D)) (st : St) (K : Kt) : WG T false io os s b st (.bool false) K = WO T (g0 io :: os) ⟨⟨s, b⟩, st⟩ K := by simp [WG, WO]
@[simp ↓ high] theorem WG_ft (io : Io) (os : List Gi) (s : List D) (b : List (Nat × List D)) (st : St) (K : Kt) : WG T false io os s b st (.bool true) K = WE T io.dst s b st os (some (.undef, none, none)) K := by simp [WG, WE]
@[simp ↓] theorem WE_vs (d : Nat) (s : List D) (b : List (Nat × List D)) (st : St) (os : List Gi) (v : D) (K : Kt) : WE T (some d) s b st os (some (v, none, none)) K = WO T os ⟨⟨put s d v, b⟩, st⟩ K := (rfl)
@[simp ↓] theorem WE_vn (s : List D) (b : List (Nat × List D)) (st : St) (os : List Gi) (v : D) (K : Kt) : WE T none s b st os (some (v, none, none)) K = WO T os ⟨⟨s, b⟩, st⟩ K := (rfl)
@[simp ↓] theorem WE_hs (d : Nat) (s : List D) (b : List (Nat × List D)) (st st' : St) (os : List Gi) (v : D) (K : Kt) : WE T (some d) s b st os (some (v, none, some st')) K = WO T os ⟨⟨put s d v, b⟩, st'⟩ K := (rfl)
@[simp ↓] theorem WE_hn (s : List D) (b : List (Nat × List D)) (st st' : St) (os : List Gi) (v : D) (K : Kt) : WE T none s b st os (some (v, none, some st')) K = WO T os ⟨⟨s, b⟩, st'⟩ K := (rfl)
@[simp ↓] theorem WE_bs (d : Nat) (s : List D) (b : List (Nat × List D)) (st : St) (os : List Gi) (v : D) (x g : Nat) (cs : List D) (K : Kt) : WE T (some d) s b st os (some (v, some (x, g, cs), none)) K = WO T os ⟨⟨put s d v, putB b x (g, cs)⟩, st⟩ K := (rfl)
@[simp ↓] theorem WE_bn (s : List D) (b : List (Nat × List D)) (st : St) (os : List Gi) (v : D) (x g : Nat) (cs : List D) (K : Kt) : WE T none s b st os (some (v, some (x, g, cs), none)) K = WO T os ⟨⟨s, putB b x (g, cs)⟩, st⟩ K := (rfl)
@[simp ↓] theorem WE_ite {p : Prop} [Decidable p] (d : Option Nat) (s : List D) (b : List (Nat × List D)) (st : St) (os : List Gi) (x y : Option Eff) (K : Kt) :
    WE T d s b st os (if p then x else y) K = ((p → WE T d s b st os x K) ∧ (¬ p → WE T d s b st os y K)) := by
  by_cases h : p <;> simp [h]
/-- An operation that is not defined. -/
@[simp ↓] theorem WE_no (d : Option Nat) (s : List D) (b : List (Nat × List D)) (st : St) (os : List Gi) (K : Kt) : WE T d s b st os none K = False := propext ⟨fun ⟨_, h, _⟩ => (by cases h), False.elim⟩

/-- One round of a loop. -/
theorem Stops_wp {L body : Ic} (h : L = body) {c : Cfg} {Q : Ex → List D → List (Nat × List D) → St → Prop} (k : WP T body c (qLp T L Q)) : Stops (lp T L c) Q := by
  obtain ⟨e, c', hr, hk⟩ := k
  rw [lp_at L body h, hr]
  cases e with
  | normal => exact hk
  | ret => exact ⟨_, _, _, _, rfl, hk⟩
  | exit id => exact ⟨_, _, _, _, rfl, hk⟩

/-- A function's run. -/
theorem Ret_wp {f : Nat} {fn : IFunc} (hf : T f = some fn) {args : List D} {st : St} {Q : D → St → Prop} (k : WP T fn.code ⟨⟨args, []⟩, st⟩ (qFn fn.res Q)) : Ret (ev T f args st) Q := by
  obtain ⟨e, c', hr, hk⟩ := k
  rw [ev_eq f fn hf, hr]
  cases e with
  | normal => exact hk
  | ret => exact hk
  | exit id => cases hk

/-- What is known of a loop. -/
theorem WL.use {L : Ic} (hp : L.plain = true) {W : List Nat} (hW : L.wr = W) {s0 : List D} {b0 : List (Nat × List D)} {st0 : St} {Q : Ex → List D → List (Nat × List D) → St → Prop} {K : Kt} (h : Stops (lp T L ⟨⟨s0, b0⟩, st0⟩) Q)
    (k : ∀ e s b st, Q e s b st → (∀ t, W.contains t = false → get s t = get s0 t) → K e ⟨⟨s, b⟩, st⟩) : WL T L ⟨⟨s0, b0⟩, st0⟩ K :=
  Stops.fr hp hW h (fun r => ∃ e c', r = some (e, c') ∧ K e c') fun e s b st q f => ⟨e, _, rfl, k e s b st q f⟩
theorem WL.useB {L : Ic} (hp : L.plain = true) {W WB : List Nat} (hW : L.wr = W) (hB : L.wrB = WB) {s0 : List D} {b0 : List (Nat × List D)} {st0 : St} {Q : Ex → List D → List (Nat × List D) → St → Prop} {K : Kt} (h : Stops (lp T L ⟨⟨s0, b0⟩, st0⟩) Q)
    (k : ∀ e s b st, Q e s b st → (∀ t, W.contains t = false → get s t = get s0 t) → (∀ t, WB.contains t = false → getB b t = getB b0 t) → K e ⟨⟨s, b⟩, st⟩) : WL T L ⟨⟨s0, b0⟩, st0⟩ K :=
  Stops.frB hp hW hB h (fun r => ∃ e c', r = some (e, c') ∧ K e c') fun e s b st q f g => ⟨e, _, rfl, k e s b st q f g⟩

/-! ### What a way knows -/
@[simp] theorem ile_f {a b : Int} (h : b < a) : (a ≤ b) = False := eq_false (by omega)
@[simp] theorem ilt_f {a b : Int} (h : b ≤ a) : (a < b) = False := eq_false (by omega)
@[simp] theorem nle_f {a b : Nat} (h : b < a) : (a ≤ b) = False := eq_false (by omega)
@[simp] theorem nlt_f {a b : Nat} (h : b ≤ a) : (a < b) = False := eq_false (by omega)

end Go.Nt

/-
  QUOTED TEXTS: plainly, and walked (the program's and the reference's).
  No condition.
-/
set_option linter.unusedSimpArgs false
namespace Go.Nt.Lk
open Go Go.Nt

def hexD (n : Nat) : UInt8 := if n < 10 then UInt8.ofNat (48 + n) else UInt8.ofNat (87 + n)
/-- How a byte stands in a quoted text. -/
def qb (c : UInt8) : List UInt8 :=
  if ch c = 34 ∨ ch c = 92 then [92, c] else if ch c = 10 then [92, 110] else if 32 ≤ ch c ∧ ch c ≤ 126 then [c] else [92, 120, hexD (c.toNat / 16), hexD (c.toNat % 16)]
def qbs (s : List UInt8) : List UInt8 := s.flatMap qb
def quo (s : List UInt8) : List UInt8 := 34 :: (qbs s ++ [34])

theorem qb_len (c : UInt8) : (qb c).length ≤ 4 := by
  unfold qb; split
  · simp
  · split
    · simp
    · split <;> simp
theorem qbs_len (s : List UInt8) : (qbs s).length ≤ 4 * s.length := by
  induction s with
  | nil => simp [qbs]
  | cons c s ih =>
    have := qb_len c
    simp only [qbs, List.flatMap_cons, List.length_append, List.length_cons] at ih ⊢
    omega

/-! ### Over all bytes -/

def strIs (r : Option (D × St)) (s : List UInt8) : Bool := match r with
  | some (.str t, []) => t == s
  | _ => false
def u8Is (r : Option (D × St)) (n : Int) : Bool := match r with
  | some (.int .u8 m, []) => m == n
  | _ => false
theorem strIs_eq {r : Option (D × St)} {s : List UInt8} (h : strIs r s = true) : r = some (.str s, []) := by
  unfold strIs at h; split at h
  · simp only [beq_iff_eq] at h; rw [h]
  · cases h
theorem u8Is_eq {r : Option (D × St)} {n : Int} (h : u8Is r n = true) : r = some (.int .u8 n, []) := by
  unfold u8Is at h; split at h
  · simp only [beq_iff_eq] at h; rw [h]
  · cases h

theorem all256 {p : Nat → Bool} (h : (List.range 256).all p = true) (c : UInt8) : p c.toNat = true := List.all_eq_true.1 h c.toNat (List.mem_range.2 c.toNat_lt)

theorem hexD_ch (n : Nat) (h : n < 16) : ch (hexD n) = if n < 10 then 48 + (n : Int) else 87 + (n : Int) := by
  have : ∀ m : Fin 16, ch (hexD m.1) = if m.1 < 10 then 48 + (m.1 : Int) else 87 + (m.1 : Int) := by decide
  exact this ⟨n, h⟩
theorem wrap8 {n : Int} (h : 0 ≤ n) (h' : n < 256) : IntKind.wrap .u8 n = n := by
  simp [IntKind.wrap, IntKind.signed, IntKind.bits]; omega

/-- The reference's Digit. -/
theorem c89 (n : Nat) (h : n < 16) (st : St) : callD T (ev T) 89 [.int .u8 n] st = some (.int .u8 (ch (hexD n)), st) := by
  refine callD_pureQ (fn := F89) rfl rfl (by simp) (by simp) (by simp) (Ret_wp (fn := F89) rfl ?_)
  rw [hexD_ch n h, F89]
  have w1 : IntKind.wrap .u8 (48 + (n : Int)) = 48 + n := wrap8 (by omega) (by omega)
  have w2 : IntKind.wrap .u8 (97 + (n : Int)) = 97 + n := wrap8 (by omega) (by omega)
  have w3 : IntKind.wrap .u8 (97 + (n : Int) - 10) = 87 + n := by rw [wrap8 (by omega) (by omega)]; omega
  have e : ((n : Int) < 10) = (n < 10) := propext (by omega)
  simp +contextual [w1, w2, w3, e]

theorem unbyte_ch (c : UInt8) : unbyte (.int .u8 (ch c)) = some c := by
  have := c.toNat_lt
  unfold unbyte
  simp only
  rw [if_pos (by simp only [ch]; omega)]
  simp

/-- The reference's Byte. -/
theorem c55 (c : UInt8) (st : St) : callD T (ev T) 55 [.int .u8 (ch c)] st = some (.str (qb c), st) := by
  refine callD_pureQ (fn := F55) rfl rfl (by simp) (by simp) (by simp) (Ret_wp (fn := F55) rfl ?_)
  have hc := c.toNat_lt
  have u0 := unbyte_ch c
  have u92 : unbyte (.int .u8 92) = some 92 := by decide
  have u120 : unbyte (.int .u8 120) = some 120 := by decide
  have u1 := unbyte_ch (hexD (c.toNat / 16))
  have u2 := unbyte_ch (hexD (c.toNat % 16))
  have d1 := c89 (c.toNat / 16) (by omega)
  have d2 := c89 (c.toNat % 16) (by omega)
  have e1 : binD .quo (.int .u8 (ch c)) (.int .u8 16) = some (.int .u8 ((c.toNat / 16 : Nat) : Int)) := by
    have : IntKind.wrap .u8 (Int.tdiv (ch c) 16) = ((c.toNat / 16 : Nat) : Int) := by
      have h0 : ((c.toNat / 16 : Nat) : Int) < 256 := by omega
      have h1 : Int.tdiv (ch c) 16 = ((c.toNat / 16 : Nat) : Int) := by rw [Int.tdiv_eq_ediv_of_nonneg (by simp only [ch]; omega)]; simp only [ch]; omega
      rw [h1, wrap8 (by omega) h0]
    simp only [binD_int, intD_quo, this]
    rfl
  have e2 : binD .rem (.int .u8 (ch c)) (.int .u8 16) = some (.int .u8 ((c.toNat % 16 : Nat) : Int)) := by
    have h1 : Int.tmod (ch c) 16 = ((c.toNat % 16 : Nat) : Int) := by rw [Int.tmod_eq_emod_of_nonneg (by simp only [ch]; omega)]; simp only [ch]; omega
    simp only [binD_int, intD_rem, h1]
    rfl
  have z : ch c = 92 → c = 92 := fun h => UInt8.toNat_inj.1 (by simp only [ch] at h; have : (92 : UInt8).toNat = 92 := rfl; omega)
  rw [F55]
  unfold qb
  generalize c.toNat / 16 = m1 at *
  generalize c.toNat % 16 = m2 at *
  generalize ch (hexD m1) = x1 at *
  generalize ch (hexD m2) = x2 at *
  generalize hn : ch c = n at *
  clear hc
  have hn' : (c.toNat : Int) = n := hn
  have u0' : ∀ m, m = n → unbyte (.int .u8 m) = some c := fun m h => by subst h; exact u0
  simp +contextual [e1, e2, d1, d2, u0', u92, u120, u1, u2, List.mapM_cons]
  exact fun _ h => z h

/-! ### The reference -/

theorem wrap1 {a : Nat} (h : a ≤ 1000000000000) : IntKind.wrap .i64 ((a : Int) + 1) = ((a + 1 : Nat) : Int) := by rw [wrap64] <;> omega

theorem l28 (s : List UInt8) (hs : s.length ≤ 33554000) : ∀ (r i : Nat) (out : List UInt8) (sl : List D) (bx : List (Nat × List D)), r = s.length - i → i ≤ s.length → out.length ≤ 4 * i + 1 → get sl 0 = .str s → get sl 3 = .str out → get sl 4 = .int .i64 i →
    Stops (lp T L28_0 ⟨⟨sl, bx⟩, []⟩) fun e s' _ st' => st' = [] ∧ e = .exit 0 ∧ get s' 3 = .str (out ++ qbs (s.drop i)) := by
  intro r
  induction r with
  | zero =>
    intro i out sl bx hr hi ho h0 h3 h4
    have e : i = s.length := by omega
    subst e
    refine Stops_wp L28_0.eq_1 ?_
    rw [List.drop_length]
    simp [h0, h3, h4, qbs]
  | succ r ih =>
    intro i out sl bx hr hi ho h0 h3 h4
    have hlt : i < s.length := by omega
    have w1 := wrap1 (a := i) (by omega)
    have hb := qb_len s[i]
    have hq : qbs (s.drop i) = qb s[i] ++ qbs (s.drop (i + 1)) := by rw [List.drop_eq_getElem_cons hlt]; rfl
    have b1 : out.length + (qb s[i]).length ≤ 134217728 := by omega
    have c := fun st => c55 s[i] st
    rw [hq, ← List.append_assoc]
    refine Stops_wp L28_0.eq_1 ?_
    simp [h0, h3, h4, hlt, c, b1, w1, byteD, -Int.natCast_add, -List.append_assoc]
    exact ih (i + 1) _ _ _ (by omega) (by omega) (by rw [List.length_append]; omega) (by simp [h0]) (by simp) (by simp [w1])

theorem c28 (s : List UInt8) (hs : s.length ≤ 33554000) (st : St) : callD T (ev T) 28 [.str s] st = some (.str (quo s), st) := by
  refine callD_pureQ (fn := F28) rfl rfl (by simp) (by simp) (by simp) (Ret_wp (fn := F28) rfl ?_)
  rw [F28]
  simp
  refine WL.use L28_0_p L28_0_w (l28 s hs _ 0 [34] _ _ rfl (by omega) (by simp) (by simp) (by simp) (by simp)) ?_
  rintro e s' b st' ⟨rfl, rfl, h3⟩ hf
  have hl := qbs_len s
  have b1 : (qbs s).length + 1 + 1 ≤ 134217728 := by omega
  simp [h3, quo, b1]

/-! ### The program -/

theorem hexD_at (n : Nat) (h : n < 16) : ([48, 49, 50, 51, 52, 53, 54, 55, 56, 57, 97, 98, 99, 100, 101, 102] : List UInt8)[n]? = some (hexD n) := by
  have : ∀ m : Fin 16, ([48, 49, 50, 51, 52, 53, 54, 55, 56, 57, 97, 98, 99, 100, 101, 102] : List UInt8)[m.1]? = some (hexD m.1) := by decide
  exact this ⟨n, h⟩

theorem shr4 (c : UInt8) : binD .shr (.int .u8 (c.toNat : Int)) (.int .u64 4) = some (.int .u8 ((c.toNat / 16 : Nat) : Int)) := by
  have h := c.toNat_lt
  have e : (c.toNat : Int).fdiv 16 = ((c.toNat / 16 : Nat) : Int) := by
    rw [Int.fdiv_eq_ediv_of_nonneg _ (by omega)]; omega
  simp [binD, intD, shiftD, IntKind.bits]
  simpa using e
theorem and15 : (List.range 256).all (fun n => match binD .and (.int .u8 (n : Int)) (.int .u8 15) with | some (.int .u8 m) => m == ((n % 16 : Nat) : Int) | _ => false) = true := by kernel_rfl
theorem and15' (c : UInt8) : binD .and (.int .u8 (c.toNat : Int)) (.int .u8 15) = some (.int .u8 ((c.toNat % 16 : Nat) : Int)) := by
  have h := all256 and15 c
  split at h
  · rename_i m hm; simp only [beq_iff_eq] at h; rw [hm, h]
  · cases h


theorem l27 (s : List UInt8) (hs : s.length ≤ 33554000) : ∀ (r i : Nat) (out : List UInt8) (k : Nat) (st : St) (sl : List D) (bx : List (Nat × List D)), r = s.length - i → i ≤ s.length → out.length ≤ 4 * i + 1 → k ≤ 4 * i + 1 → Bd st 0 out k → get sl 0 = .str s → get sl 3 = .hp 0 (86 * tagB) 2 0 0 → get sl 8 = .i s.length → get sl 9 = .int .i64 i →
    Stops (lp T L27_0 ⟨⟨sl, bx⟩, st⟩) fun e _ _ st' => e = .exit 0 ∧ ∃ k', k' ≤ 4 * s.length + 1 ∧ Bd st' 0 (out ++ qbs (s.drop i)) k' := by
  intro r
  induction r with
  | zero =>
    intro i out k st sl bx hr hi ho hk hB h0 h3 h8 h9
    have e : i = s.length := by omega
    subst e
    refine Stops_wp L27_0.eq_1 ?_
    rw [List.drop_length]
    simp [h0, h3, h8, h9, qbs]
    exact ⟨k, by omega, hB⟩
  | succ r ih =>
    intro i out k st sl bx hr hi ho hk hB h0 h3 h8 h9
    have hlt : i < s.length := by omega
    have w1 := wrap1 (a := i) (by omega)
    have hb := qb_len s[i]
    have hq : qbs (s.drop i) = qb s[i] ++ qbs (s.drop (i + 1)) := by rw [List.drop_eq_getElem_cons hlt]; rfl
    have hT : (86 * tagB) < 1000 * tagB ∧ 100000000000 < tagB := by unfold tagB; omega
    rw [hq, ← List.append_assoc]
    refine Stops_wp L27_0.eq_1 ?_
    have go : ∀ w st' k' sl', w.length ≤ 4 → k' ≤ k + 3 → Bd st' 0 (out ++ w) k' → get sl' 0 = .str s → get sl' 3 = .hp 0 (86 * tagB) 2 0 0 → get sl' 8 = .i s.length → get sl' 9 = .int .i64 ((i + 1 : Nat) : Int) →
        Stops (lp T L27_0 ⟨⟨sl', bx⟩, st'⟩) fun e _ _ st' => e = .exit 0 ∧ ∃ k', k' ≤ 4 * s.length + 1 ∧ Bd st' 0 (out ++ w ++ qbs (s.drop (i + 1))) k' :=
      fun w st' k' sl' q0 q1 q2 q3 q4 q5 q6 => ih (i + 1) _ k' st' sl' bx (by omega) (by omega) (by rw [List.length_append]; omega) (by omega) q2 q3 q4 q5 q6
    obtain ⟨a1, p1, BA1, _⟩ := e54 st 0 out 92 k hB (by omega) (by omega)
    obtain ⟨a2, p2, BA2, _⟩ := e54 a1 0 _ s[i] _ BA1 (by omega) (by simp; omega)
    obtain ⟨b1, p3, BB, _⟩ := e47 st 0 out [92, 110] k hB (by omega) (by omega) (by simp)
    obtain ⟨c1, p4, BC, _⟩ := e54 st 0 out s[i] k hB (by omega) (by omega)
    obtain ⟨d1, p5, BD1, _⟩ := e47 st 0 out [92, 120] k hB (by omega) (by omega) (by simp)
    obtain ⟨d2, p6, BD2, _⟩ := e54 d1 0 _ (hexD (s[i].toNat / 16)) _ BD1 (by omega) (by simp; omega)
    obtain ⟨d3, p7, BD3, _⟩ := e54 d2 0 _ (hexD (s[i].toNat % 16)) _ BD2 (by omega) (by simp; omega)
    simp only [List.append_assoc, List.cons_append, List.nil_append] at BA2 BD3
    have ch92 : ch 92 = 92 := by decide
    rw [ch92] at p1
    have g1 := s[i].toNat_lt
    have x1 := hexD_at (s[i].toNat / 16) (by omega)
    have x2 := hexD_at (s[i].toNat % 16) (by omega)
    have y1 := shr4 s[i]
    have y2 := and15' s[i]
    unfold qb
    generalize s[i].toNat / 16 = u1 at *
    generalize s[i].toNat % 16 = u2 at *
    generalize hn : (s[i].toNat : Int) = n at *
    clear g1
    simp only [ch, hn] at p2 p4
    simp +contextual [h0, h3, h8, h9, hlt, w1, byteD, p1, p2, p3, p4, p5, p6, p7, hn, x1, x2, y1, y2, -Int.natCast_add, -List.append_assoc]
    refine ⟨fun _ => ⟨fun _ => ?_, fun _ => ⟨fun _ => ?_, fun _ => ⟨fun _ => ⟨fun _ => ?_, fun _ => ?_⟩, fun _ => ?_⟩⟩⟩, fun _ => ?_⟩
    · exact go _ a2 _ _ (by simp) (by omega) BA2 (by simp [h0]) (by simp [h3]) (by simp [h8]) (by simp)
    · exact go _ b1 _ _ (by simp) (by omega) BB (by simp [h0]) (by simp [h3]) (by simp [h8]) (by simp)
    · exact go _ c1 _ _ (by simp) (by omega) BC (by simp [h0]) (by simp [h3]) (by simp [h8]) (by simp)
    · exact go _ d3 _ _ (by simp) (by omega) BD3 (by simp [h0]) (by simp [h3]) (by simp [h8]) (by simp)
    · exact go _ d3 _ _ (by simp) (by omega) BD3 (by simp [h0]) (by simp [h3]) (by simp [h8]) (by simp)
    · exact go _ a2 _ _ (by simp) (by omega) BA2 (by simp [h0]) (by simp [h3]) (by simp [h8]) (by simp)

theorem bd_new (st : St) (m : Nat) : Bd (st ++ [.cells true 2 (86 * tagB) m false [.agg [.nilp, .nils]]]) st.length [] 0 :=
  ⟨by simp, m, .nilp, .nils, at_last _ _, .inl rfl, .inl ⟨rfl, rfl⟩⟩

/-- The program's Quote. -/
theorem c27 (s : List UInt8) (hs : s.length ≤ 33554000) (st : St) : callD T (ev T) 27 [.str s] st = some (.str (quo s), st) := by
  have hT : 100000000000 < tagB := by unfold tagB; omega
  refine callD_pureQ (fn := F27) rfl rfl (by simp) (by simp) (by simp) (Ret_wp (fn := F27) rfl ?_)
  obtain ⟨st1, p1, B1, _⟩ := e54 [.cells true 2 (86 * tagB) 0 false [.agg [.nilp, .nils]]] 0 [] 34 0 (bd_new [] 0) (by omega) (by simp)
  have p1 := p1 34 (by decide)
  rw [F27]
  simp [p1]
  refine WL.use L27_0_p L27_0_w (l27 s hs _ 0 [34] 1 st1 _ _ rfl (by omega) (by simp) (by omega) B1 (by simp) (by simp) (by simp) (by simp)) ?_
  rintro e s' b st' ⟨rfl, k', hk, hB⟩ hf
  have hl := qbs_len s
  obtain ⟨st2, p2, B2, _⟩ := e54 st' 0 _ 34 k' hB (by omega) (by simp; omega)
  have p2 := p2 34 (by decide)
  obtain ⟨st3, p3⟩ := e49 st2 0 _ _ B2 (by omega) (by simp; omega)
  have h3 : get s' 3 = .hp 0 (86 * tagB) 2 0 0 := by rw [hf 3 rfl]; simp
  simp [h3, p2, p3, quo]

end Go.Nt.Lk
