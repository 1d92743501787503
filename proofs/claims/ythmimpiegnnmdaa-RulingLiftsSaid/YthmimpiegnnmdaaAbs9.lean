/- An operation of the machine's, whole. -/
import Derived.Test.YthmimpiegnnmdaaAbs8
namespace Go.Proofs.Ythmimpiegnnmdaa
open Go.RowKit
set_option linter.unusedSimpArgs false
set_option linter.unusedVariables false

def evConv (P : Program) (src dst : TypeId) (x : AV) : Res := match tInt P src, x with
  | some _, .tv (.int _ n) => match tInt P dst with
    | some k => vint k (k.wrap n)
    | none => .fail
  | _, .tv (.str s) => if tStr P src && tStr P dst then .val (.tv (.str s)) .no else .fail
  | _, _ => .fail
def evMin (x y : AV) : Res := match x, y with
  | .tv (.int k a), .tv (.int _ b) => vint k (if b < a then b else a)
  | _, _ => .fail
def evMax (x y : AV) : Res := match x, y with
  | .tv (.int k a), .tv (.int _ b) => vint k (if b > a then b else a)
  | _, _ => .fail
def evFunc (fn : Fn) (first : Array Operand) (cap : List AV) : Res := if first.size = 0 then (match fn, cap with
  | .func f, [] => .val (.tv (.fn f)) .no
  | fn, cap => .val (.fn fn cap) .no) else .fail
def evCallV (P : Program) (f : AV) (args : List AV) : Res := match f with
  | .tv (.fn k) => if tFn P k then .call k args else .fail
  | .fn (.func k) cap => if tFn P k then .call k (args ++ cap) else .fail
  | .yl id => .yld id args
  | _ => .fail
def evCheck (x : AV) : Res := match x with
  | .ptr i o => .val (.ptr i o) .no
  | .tv (.ptr cs) => .val (.tv (.ptr cs)) .no
  | .tv (.fn k) => .val (.tv (.fn k)) .no
  | .fn (.func k) cap => .val (.fn (.func k) cap) .no
  | _ => .fail
def evExtract (x : AV) (i : Nat) : Res := match x with
  | .tup vs => match vs[i]? with
    | some v => .val v .no
    | none => .fail
  | _ => .fail
def evPick (c a b : AV) : Res := match c with
  | .tv (.bool c) => .val (bif c then a else b) .no
  | _ => .fail
def evCall (P : Program) (T : Tm) (H : Hp) (id : Id) (c : Call) : Res := match c.callee with
  | .builtin .len => match c.args.toList, c.argTypes.toList with
    | [x], [t] => evLen P H t (evo T x)
    | _, _ => .fail
  | .builtin .append => match c.args.toList, c.argTypes.toList with
    | [s, x], [st, xt] => evAppend P H id st xt (evo T s) (evo T x)
    | _, _ => .fail
  | .builtin .min => match c.args.toList with
    | [x, y] => evMin (evo T x) (evo T y)
    | _ => .fail
  | .builtin .max => match c.args.toList with
    | [x, y] => evMax (evo T x) (evo T y)
    | _ => .fail
  | .value f => evCallV P (evo T f) (c.args.toList.map (evo T))
  | _ => .fail
def evOp (P : Program) (T : Tm) (H : Hp) (id : Id) : Op → Res
  | .move x => .val (evo T x) .no
  | .assign x => .val (evo T x) .no
  | .pick c a b => evPick (evo T c) (evo T a) (evo T b)
  | .alloc t => match tZero P t with | some z => evNew id z | none => .fail
  | .box _ x => evNew id (evo T x)
  | .build t parts => evBuild' P t (parts.toList.map fun p => (p.1, evo T p.2))
  | .buildSlice t len parts => evBuildSlice' P id t len (parts.toList.map fun p => (p.1, evo T p.2))
  | .load t a => evLoad P H t (evo T a)
  | .store t a v => evStore P H t (evo T a) (evo T v)
  | .nilCheck x => evCheck (evo T x)
  | .binOp op t x y _ => evBin P op t (evo T x) (evo T y)
  | .unOp op _ x => evUn op (evo T x)
  | .convert src dst x => evConv P src dst (evo T x)
  | .makeFunc fn first cap => evFunc fn first (cap.toList.map (evo T))
  | .makeMap _ none => .val (.map id) (.new (.smap []))
  | .slice t x lo hi none => evSlice P t (evo T x) (lo.map (evo T)) (hi.map (evo T))
  | .fieldAddr s x f => evField P s (evo T x) f
  | .field s x f => evFieldV P s (evo T x) f
  | .indexAddr t x i => evIndexAddr P t (evo T x) (evo T i)
  | .index t x i => evIndex P t (evo T x) (evo T i)
  | .lookup t m k c => evLookup P H t (evo T m) (evo T k) c
  | .mapUpdate t m k v => evMapUpdate P H t (evo T m) (evo T k) (evo T v)
  | .extract t i => evExtract (evo T t) i
  | .call c => evCall P T H id c
  | _ => .fail
/-- The literals of an operation are short. -/
def opOk (o : Oper) : Bool := o.op.operands.toList.all opdOk

section
variable {P : Program} {B : Base} {w0 w : World} {σ : Facts} {ι : Where} {H : Hp} {id : Id} {T : Tm} {a : Act}
theorem tInt_some {t : TypeId} {k : IntKind} (h : tInt P t = some k) : P.underlying t = some (.int k) := by
  unfold tInt at h; split at h
  · simp at h; subst h; assumption
  · cases h
theorem evos_ok (hT : TRel σ ι T a.tmps) (xs : List Operand) (hx : xs.all opdOk = true) : VRs σ ι (xs.map (evo T)) (xs.map a.eval) := by
  induction xs with
  | nil => exact VRs.nil _ _
  | cons x xs ih =>
    simp only [List.all_cons, Bool.and_eq_true] at hx
    exact VRs.cons (evo_ok hT x hx.1) (ih hx.2)
theorem parts_ok (hT : TRel σ ι T a.tmps) (ps : Array (Nat × Operand)) (hx : (ps.toList.map (·.2)).all opdOk = true) :
    (ps.map fun (i, x) => (i, a.eval x)).toList.map (·.1) = (ps.toList.map fun p => (p.1, evo T p.2)).map (·.1) ∧
    VRs σ ι ((ps.toList.map fun p => (p.1, evo T p.2)).map (·.2)) ((ps.map fun (i, x) => (i, a.eval x)).toList.map (·.2)) := by
  refine ⟨by simp, ?_⟩
  have := evos_ok hT (ps.toList.map (·.2)) hx
  simp only [List.map_map, Array.toList_map] at this ⊢
  exact this
theorem ovr_ok (hT : TRel σ ι T a.tmps) (x : Option Operand) (hx : ∀ y, x = some y → opdOk y = true) : OVR σ ι (x.map (evo T)) (x.map a.eval) := by
  cases x with
  | none => trivial
  | some y => exact evo_ok hT y (hx y rfl)
theorem callFunc_run {k : FuncId} (hk : tFn P k = true) (us : Array Value) : (callFunc k us).run P w = .ok (.enter k us) w := by
  unfold tFn at hk
  cases hf : P.funcs[k]? with
  | none => rw [hf] at hk; cases hk
  | some fn =>
    rw [hf] at hk
    simp only [Bool.and_eq_true, Bool.not_eq_true'] at hk
    obtain ⟨h1, h2⟩ := hk
    have h1' : ¬ (fn.name = "runtime.NumGoroutine") := by
      intro e; rw [e] at h1; simp at h1
    have h2' : ¬ (fn.body = none) := by
      intro e; rw [e] at h2; simp at h2
    simp [callFunc, hf, h1', h2']
theorem evOp_sound {o : Oper} (h : WR B w0 σ ι H w) (hT : TRel σ ι T a.tmps) (hid : ι id = none) (hok : opOk o = true) :
    Sat P (execOp a.eval o) w B w0 σ ι H id (evOp P T H id o.op) := by
  obtain ⟨dst, op, type, pos, after, guard⟩ := o
  simp only [opOk] at hok
  cases op with
  | move x => exact Sat.pure h rfl (evo_ok hT x (by simpa [Op.operands] using hok))
  | assign x => exact Sat.pure h rfl (evo_ok hT x (by simpa [Op.operands] using hok))
  | pick c x y =>
    simp [Op.operands] at hok
    show Sat P _ w B w0 σ ι H id (evPick (evo T c) (evo T x) (evo T y))
    unfold evPick
    have hc := evo_ok hT c hok.1
    split
    · rename_i b e
      rw [e] at hc
      have hcb : a.eval c = .bool b := by
        generalize a.eval c = u at hc
        cases hc with | tv hc => cases hc; rfl
      refine Sat.pure h (u := if b then a.eval x else a.eval y) ?_ ?_
      · simp [execOp, hcb, asBool]
      · cases b
        · exact evo_ok hT y hok.2.2
        · exact evo_ok hT x hok.2.1
    · trivial
  | alloc t =>
    show Sat P _ w B w0 σ ι H id (match tZero P t with | some z => evNew id z | none => .fail)
    split
    · rename_i z hz
      obtain ⟨zv, hzr, hzv⟩ := tZero_some hz
      refine sat_new (t := t) h hid (hzv σ ι) ?_
      simp only [execOp, Instr.alloc, Sem.run_bind, hzr, Result.andThen_ok, Sem.run_pure, newVar, newRow, run_newObj]
      rfl
    · trivial
  | box t x =>
    refine sat_new (t := t) h hid (evo_ok hT x (by simpa [Op.operands] using hok)) ?_
    simp only [execOp, Instr.box, Sem.run_bind, Result.andThen_ok, Sem.run_pure, newVar, newRow, run_newObj]
    rfl
  | build t parts =>
    have hp := parts_ok hT parts (by simpa [Op.operands] using hok)
    exact sat_build h hp.1 hp.2 rfl
  | buildSlice t len parts =>
    have hp := parts_ok hT parts (by simpa [Op.operands] using hok)
    exact sat_buildSlice h hid hp.1 hp.2 rfl
  | load t x => exact sat_load h (evo_ok hT x (by simpa [Op.operands] using hok)) rfl
  | store t x v =>
    simp [Op.operands] at hok
    exact sat_store h (evo_ok hT x hok.1) (evo_ok hT v hok.2) rfl
  | nilCheck x =>
    have hx := evo_ok hT x (by simpa [Op.operands] using hok)
    show Sat P _ w B w0 σ ι H id (evCheck (evo T x))
    generalize evo T x = v at hx
    unfold evCheck
    split
    · have hx' := hx
      generalize hu : a.eval x = u at hx hx'
      cases hx with
      | ptr _ _ b n hi => exact Sat.pure h (by simp [execOp, hu]) hx'
    · have hx' := hx
      generalize hu : a.eval x = u at hx hx'
      cases hx with
      | tv hx => cases hx; exact Sat.pure h (by simp [execOp, hu]) hx'
    · have hx' := hx
      generalize hu : a.eval x = u at hx hx'
      cases hx with
      | tv hx => cases hx; exact Sat.pure h (by simp [execOp, hu]) hx'
    · have hx' := hx
      generalize hu : a.eval x = u at hx hx'
      cases hx with
      | fn _ _ us hl hv => exact Sat.pure h (by simp [execOp, hu]) hx'
    · trivial
  | binOp op t x y yt =>
    simp [Op.operands] at hok
    exact sat_bin h (evo_ok hT x hok.1) (evo_ok hT y hok.2) rfl
  | unOp op t x => exact sat_un h (evo_ok hT x (by simpa [Op.operands] using hok)) rfl
  | convert src dst x =>
    have hx := evo_ok hT x (by simpa [Op.operands] using hok)
    show Sat P _ w B w0 σ ι H id (evConv P src dst (evo T x))
    generalize evo T x = v at hx
    unfold evConv
    split
    · rename_i ks k n hs
      split
      · rename_i kd hd
        refine sat_run h (.tv (.int _ _)) ?_
        have : a.eval x = .int k n := by
          generalize a.eval x = u at hx
          cases hx with | tv hx => cases hx; rfl
        simp [convert, this, run_underlying (tInt_some hs), run_underlying (tInt_some hd), Conv.intToInt]
      · trivial
    · rename_i s
      split
      · rename_i hc
        simp only [Bool.and_eq_true] at hc
        have hx' := hx
        have : a.eval x = .string s := by
          generalize a.eval x = u at hx
          cases hx with | tv hx => cases hx; rfl
        rw [this] at hx'
        refine sat_run h hx' ?_
        simp [convert, this, run_underlying (tStr_true hc.1), run_underlying (tStr_true hc.2)]
      · trivial
    · trivial
  | makeFunc fn first cap =>
    show Sat P _ w B w0 σ ι H id (evFunc fn first (cap.toList.map (evo T)))
    unfold evFunc
    split
    · rename_i h0
      have hf : first = #[] := by
        apply Array.eq_empty_of_size_eq_zero h0
      subst hf
      have hv : VRs σ ι (cap.toList.map (evo T)) (cap.toList.map a.eval) := evos_ok hT _ (by simpa [Op.operands] using hok)
      split
      · rename_i f e
        have hc : cap.toList = [] := by simpa using e
        have hc' : cap = #[] := by apply Array.toList_inj.1; simpa using hc
        subst hc'
        exact Sat.pure h (u := .func (.func f) #[] #[]) (by simp [execOp, Instr.makeFunc]) (.tv (.fn f))
      · rename_i fn' _ _
        refine Sat.pure h (u := .func _ #[] (cap.toList.map a.eval).toArray) ?_ (.fn _ _ _ hv.1 hv.2)
        have : (cap.map a.eval) = (cap.toList.map a.eval).toArray := by apply Array.toList_inj.1; simp
        simp [execOp, Instr.makeFunc, this]
    · trivial
  | makeMap t r =>
    cases r with
    | none => exact sat_makeMap h hid rfl
    | some r => trivial
  | slice t x lo hi mx =>
    cases mx with
    | none =>
      simp [Op.operands] at hok
      refine sat_slice h (evo_ok hT x hok.1) (ovr_ok hT lo (fun y hy => ?_)) (ovr_ok hT hi (fun y hy => ?_)) rfl
      · exact hok.2.1 y hy
      · exact hok.2.2 y hy
    | some r => trivial
  | fieldAddr t x f => exact sat_field h (evo_ok hT x (by simpa [Op.operands] using hok)) rfl
  | field t x f => exact sat_fieldV h (evo_ok hT x (by simpa [Op.operands] using hok)) rfl
  | indexAddr t x i =>
    simp [Op.operands] at hok
    exact sat_indexAddr h (evo_ok hT x hok.1) (evo_ok hT i hok.2) rfl
  | index t x i =>
    simp [Op.operands] at hok
    exact sat_index h (evo_ok hT x hok.1) (evo_ok hT i hok.2) rfl
  | lookup t m k c =>
    simp [Op.operands] at hok
    exact sat_lookup h (evo_ok hT m hok.1) (evo_ok hT k hok.2) rfl
  | mapUpdate t m k v =>
    simp [Op.operands] at hok
    exact sat_mapUpdate h (evo_ok hT m hok.1) (evo_ok hT k hok.2.1) (evo_ok hT v hok.2.2) rfl
  | extract t i =>
    have hx := evo_ok hT t (by simpa [Op.operands] using hok)
    show Sat P _ w B w0 σ ι H id (evExtract (evo T t) i)
    generalize evo T t = v at hx
    unfold evExtract
    split
    · rename_i vs
      split
      · rename_i v hv
        generalize hu : a.eval t = u at hx
        cases hx with
        | tup _ us hl hvs =>
        obtain ⟨u, h1, h2⟩ := VRs.get ⟨hl, hvs⟩ hv
        exact Sat.pure h (u := u) (by simp [execOp, hu, Instr.extract, h1]) h2
      · trivial
    · trivial
  | call c =>
    obtain ⟨callee, args, argTypes⟩ := c
    show Sat P _ w B w0 σ ι H id (evCall P T H id ⟨callee, args, argTypes⟩)
    simp only [Op.operands, Call.operands] at hok
    cases callee with
    | invoke r n => trivial
    | builtin b =>
      have hargs : args.toList.all opdOk = true := by simpa using hok
      cases b <;> try trivial
      case append =>
        simp only [evCall]
        split
        · rename_i s x st xt e1 e2
          have ha : args = #[s, x] := Array.toList_inj.1 e1
          have ht : argTypes = #[st, xt] := Array.toList_inj.1 e2
          subst ha ht
          simp at hargs
          exact sat_append (ty := type) h hid (evo_ok hT s hargs.1) (evo_ok hT x hargs.2) (by simp [execOp, resolve, invoke, builtin])
        · trivial
      case len =>
        simp only [evCall]
        split
        · rename_i x t e1 e2
          have ha : args = #[x] := Array.toList_inj.1 e1
          have ht : argTypes = #[t] := Array.toList_inj.1 e2
          subst ha ht
          simp at hargs
          exact sat_len (ty := type) h (evo_ok hT x hargs) (by simp [execOp, resolve, invoke, builtin])
        · trivial
      case min =>
        simp only [evCall]
        split
        · rename_i x y e1
          have ha : args = #[x, y] := Array.toList_inj.1 e1
          subst ha
          simp at hargs
          have hx := evo_ok hT x hargs.1
          have hy := evo_ok hT y hargs.2
          unfold evMin
          split
          · rename_i k n k' m e1 e2
            rw [e1] at hx; rw [e2] at hy
            have e3 : a.eval x = .int k n := by
              generalize a.eval x = u at hx
              cases hx with | tv hx => cases hx; rfl
            have e4 : a.eval y = .int k' m := by
              generalize a.eval y = u at hy
              cases hy with | tv hy => cases hy; rfl
            refine Sat.pure h (u := .int k (if m < n then m else n)) ?_ (.tv (.int _ _))
            simp [execOp, resolve, invoke, builtin, e3, e4, Builtin.min_, Builtin.min2]
          · trivial
        · trivial
      case max =>
        simp only [evCall]
        split
        · rename_i x y e1
          have ha : args = #[x, y] := Array.toList_inj.1 e1
          subst ha
          simp at hargs
          have hx := evo_ok hT x hargs.1
          have hy := evo_ok hT y hargs.2
          unfold evMax
          split
          · rename_i k n k' m e1 e2
            rw [e1] at hx; rw [e2] at hy
            have e3 : a.eval x = .int k n := by
              generalize a.eval x = u at hx
              cases hx with | tv hx => cases hx; rfl
            have e4 : a.eval y = .int k' m := by
              generalize a.eval y = u at hy
              cases hy with | tv hy => cases hy; rfl
            refine Sat.pure h (u := .int k (if m > n then m else n)) ?_ (.tv (.int _ _))
            simp [execOp, resolve, invoke, builtin, e3, e4, Builtin.max_, Builtin.max2]
          · trivial
        · trivial
    | value f =>
      simp at hok
      have hf := evo_ok hT f hok.1
      have hargs : VRs σ ι (args.toList.map (evo T)) (args.toList.map a.eval) := evos_ok hT _ (by simpa using hok.2)
      have hmap : args.map a.eval = (args.toList.map a.eval).toArray := by apply Array.toList_inj.1; simp
      simp only [evCall]
      unfold evCallV
      split
      · rename_i k e
        split
        · rename_i hk
          rw [e] at hf
          have e3 : a.eval f = .func (.func k) #[] #[] := by
            generalize a.eval f = u at hf
            cases hf with | tv hf => cases hf; rfl
          refine ⟨args.toList.map a.eval, ?_, hargs⟩
          simp [execOp, resolve, e3, Deferred.ofValue, invoke, callFunc_run hk, hmap]
        · trivial
      · rename_i k cap e
        split
        · rename_i hk
          rw [e] at hf
          generalize e3 : a.eval f = u at hf
          cases hf with
          | fn _ _ us hl hv =>
          refine ⟨args.toList.map a.eval ++ us, ?_, hargs.append ⟨hl, hv⟩⟩
          simp [execOp, resolve, e3, Deferred.ofValue, invoke, callFunc_run hk, hmap]
        · trivial
      · rename_i i e
        rw [e] at hf
        generalize e3 : a.eval f = u at hf
        cases hf with
        | yl _ b n hi =>
        refine ⟨args.toList.map a.eval, b, n, hi, ?_, hargs⟩
        simp [execOp, resolve, e3, Deferred.ofValue, invoke, hmap]
      · trivial
  | _ => trivial
end
end Go.Proofs.Ythmimpiegnnmdaa
