/- One operation, carried out on told values. -/
import Derived.Test.YthmimpiegnnmdaaAbs2
namespace Go.Proofs.Ythmimpiegnnmdaa
open Go.RowKit
set_option linter.unusedSimpArgs false
set_option linter.unusedVariables false

/-! ### The types' facts that an operation asks -/
def tAgg (P : Program) (t : TypeId) : Option Bool := match P.underlying t with
  | some (.struct _) => some true
  | some (.array _ _) => some true
  | some _ => some false
  | none => none
def tSz (P : Program) (t : TypeId) : Option Nat := (P.info? t).map (·.size)
def tBy (P : Program) (t : TypeId) : Option Nat := (P.info? t).map (·.bytes)
def tElem (P : Program) (t : TypeId) : Option TypeId := match P.underlying t with
  | some (.slice e) => some e
  | _ => none
def tArr (P : Program) (t : TypeId) : Option (Nat × TypeId) := match P.underlying t with
  | some (.array n e) => some (n, e)
  | _ => none
/-- A field: its place, its type, its size. -/
def tFld (P : Program) (s : TypeId) (f : Nat) : Option (Nat × TypeId) := match P.underlying s with
  | some (.struct fs) => (fs[f]?).map fun x => (x.offset, x.type)
  | _ => none
def tInt (P : Program) (t : TypeId) : Option IntKind := match P.underlying t with
  | some (.int k) => some k
  | _ => none
def tMap (P : Program) (t : TypeId) : Option (TypeId × TypeId) := match P.underlying t with
  | some (.map k e) => some (k, e)
  | _ => none
def tStr (P : Program) (t : TypeId) : Bool := match P.underlying t with
  | some .string => true
  | _ => false
def tBool (P : Program) (t : TypeId) : Bool := match P.underlying t with
  | some .bool => true
  | _ => false
/-- A literal value, told. -/
def ofV0 : Value → AV
  | .bool b => .tv (.bool b)
  | .int k n => .tv (.int k n)
  | .string s => .tv (.str s)
  | .slice none 0 0 => .tv .nils
  | .pointer none => .tv .nilp
  | .map none => .tv .nilm
  | .nilFunc => .tv .nilf
  | .nilIface => .tv .nili
  | _ => .any
def ofV : Value → AV
  | .agg cs => .agg (cs.toList.map ofV0)
  | v => ofV0 v
/-- Strings in a literal are short. -/
def litOk : Value → Bool
  | .string s => decide (s.size ≤ 1000000)
  | .agg cs => cs.toList.all fun | .string s => decide (s.size ≤ 1000000) | _ => true
  | _ => true
def tZero (P : Program) (t : TypeId) : Option AV := match (P.info? t).bind (·.zero) with
  | some z => if litOk z then some (ofV z) else none
  | none => none

/-! ### Told values -/
def evo (T : Tm) : Operand → AV
  | .tmp t => tget T t
  | .const v => ofV v
  | .func f => .tv (.fn f)
  | .global _ => .any
/-- A cell's worth: neither a struct nor unknown. -/
def AV.one : AV → Bool
  | .agg _ => false
  | .tup _ => false
  | .ds _ => false
  | .any => false
  | _ => true
def AV.cells : AV → Option (List AV)
  | .agg cs => some cs
  | .tup _ => none
  | .ds _ => none
  | .any => none
  | v => some [v]
def joinC (agg : Bool) (cs : List AV) : AV := bif agg then .agg cs else cs.headD .any
def splice (cs : List AV) (off : Nat) (news : List AV) : List AV := cs.take off ++ news ++ cs.drop (off + news.length)
def tvs : List AV → Option (List TV)
  | [] => some []
  | .tv t :: r => (tvs r).map (t :: ·)
  | _ :: _ => none
/-- A list cut into pieces of n. -/
def chunk (n : Nat) : Nat → List TV → List (List TV)
  | 0, _ => []
  | k + 1, l => l.take n :: chunk n k (l.drop n)
def rowAt (rows : List (List TV)) (i : Int) : List TV := rows.getD i.toNat []
def sbyte (s : ByteArray) (i : Int) : Int := ((s.data.toList.getD i.toNat 0).toNat : Int)
def sget : List (ByteArray × AV) → ByteArray → Option AV
  | [], _ => none
  | (k, v) :: r, q => if k = q then some v else sget r q
def sput : List (ByteArray × AV) → ByteArray → AV → List (ByteArray × AV)
  | [], q, x => [(q, x)]
  | (k, v) :: r, q, x => if k = q then (k, x) :: r else (k, v) :: sput r q x
inductive Eff where
  | no
  | new (o : AO)
  | upd (id : Id) (o : AO)
  | repl (id : Id) (o : AO)
def Eff.app (e : Eff) (H : Hp) (id : Id) : Hp := match e with
  | .no => H
  | .new o => (id, o) :: H
  | .upd j o => hset H j o
  | .repl j o => (id, o) :: hdel H j
inductive Res where
  | val (v : AV) (e : Eff)
  | need (p : Prop) (r : Res)
  | call (f : FuncId) (args : List AV)
  | yld (id : Id) (args : List AV)
  | fail
abbrev vbool (b : Bool) : Res := .val (.tv (.bool b)) .no
abbrev vint (k : IntKind) (n : Int) : Res := .val (.tv (.int k n)) .no

/-- What can be computed is looked at at once. -/
def chk (c : Prop) [Decidable c] (r : Res) : Res := if c then r else .fail
def evInt (op : BinOp) (k : IntKind) (a b : Int) : Res := match op with
  | .add => vint k (k.wrap (a + b))
  | .sub => vint k (k.wrap (a - b))
  | .mul => vint k (k.wrap (a * b))
  | .quo => .need (b ≠ 0) (vint k (k.wrap (a.tdiv b)))
  | .rem => .need (b ≠ 0) (vint k (a.tmod b))
  | .eql => vbool (decide (a = b))
  | .neq => vbool (!decide (a = b))
  | .lss => vbool (decide (a < b))
  | .leq => vbool (decide (a ≤ b))
  | .gtr => vbool (decide (b < a))
  | .geq => vbool (decide (b ≤ a))
  | .and => vint k (k.wrap (BitVec.ofInt k.bits a &&& BitVec.ofInt k.bits b).toNat)
  | .or => vint k (k.wrap (BitVec.ofInt k.bits a ||| BitVec.ofInt k.bits b).toNat)
  | .xor => vint k (k.wrap (BitVec.ofInt k.bits a ^^^ BitVec.ofInt k.bits b).toNat)
  | _ => .fail
def evStr (op : BinOp) (a b : ByteArray) : Res := match op with
  | .add => .need (a.size + b.size ≤ 9223372036854775807) (.val (.tv (.str (a ++ b))) .no)
  | .eql => vbool (decide (a = b))
  | .neq => vbool (!decide (a = b))
  | _ => .fail
def evBin (P : Program) (op : BinOp) (t : TypeId) (x y : AV) : Res := match x, y with
  | .tv (.int k a), .tv (.int k' b) => match op with
    | .shl => .need (0 ≤ b) (vint k (k.wrap (a * 2 ^ (min b.toNat k.bits))))
    | .shr => .need (0 ≤ b) (vint k (a.fdiv (2 ^ (min b.toNat k.bits))))
    | _ => if k = k' then evInt op k a b else .fail
  | .tv (.str a), .tv (.str b) => evStr op a b
  | .tv (.bool a), .tv (.bool b) => if tBool P t then match op with
    | .eql => vbool (a == b)
    | .neq => vbool (!(a == b))
    | _ => .fail else .fail
  | _, _ => .fail
def evUn (op : UnOp) (x : AV) : Res := match op, x with
  | .not, .tv (.bool b) => vbool (!b)
  | .neg, .tv (.int k n) => vint k (k.wrap (0 - n))
  | _, _ => .fail
def evLoad (P : Program) (H : Hp) (t : TypeId) (x : AV) : Res := match tAgg P t, tSz P t with
  | some g, some n => match x with
    | .ptr i off => match hget H i with
      | some (.row cells _) => chk (((cells.drop off).take n).length = n ∧ (g = true ∨ n = 1)) (.val (joinC g ((cells.drop off).take n)) .no)
      | _ => .fail
    | .tv (.ptr cells) => chk ((cells.take n).length = n ∧ (g = true ∨ n = 1)) (.val (joinC g ((cells.take n).map .tv)) .no)
    | _ => .fail
  | _, _ => .fail
def evStore (P : Program) (H : Hp) (t : TypeId) (x v : AV) : Res := match tSz P t, x, v.cells with
  | some n, .ptr i off, some cs => match hget H i with
    | some (.row cells false) => chk (cs.length = n ∧ cs.all AV.one = true ∧ off + n ≤ cells.length) (.val (.tup []) (.upd i (.row (splice cells off cs) false)))
    | _ => .fail
  | _, _, _ => .fail
def evNew (id : Id) (v : AV) : Res := match v.cells with
  | some cs => chk (cs.all AV.one = true) (.val (.ptr id 0) (.new (.row cs false)))
  | none => .fail
/-- The parts laid into the zero value. -/
def fillS (P : Program) (t : TypeId) : List AV → List (Nat × AV) → Option (List AV)
  | cs, [] => some cs
  | cs, (i, v) :: r => match tFld P t i, v.cells with
    | some (off, ft), some vs => match tSz P ft with
      | some n => if vs.length = n ∧ off + n ≤ cs.length then fillS P t (splice cs off vs) r else none
      | none => none
    | _, _ => none
def fillA (n : Nat) : List AV → List (Nat × AV) → Option (List AV)
  | cs, [] => some cs
  | cs, (i, v) :: r => match v.cells with
    | some vs => if vs.length = n ∧ i * n + n ≤ cs.length then fillA n (splice cs (i * n) vs) r else none
    | none => none
def evBuild (P : Program) (T : Tm) (t : TypeId) (parts : Array (Nat × Operand)) : Res := match tZero P t with
  | some z => match z.cells with
    | some zc => match (match tArr P t with
        | some (_, e) => (tSz P e).bind fun n => fillA n zc (parts.toList.map fun p => (p.1, evo T p.2))
        | none => fillS P t zc (parts.toList.map fun p => (p.1, evo T p.2))) with
      | some cs => .val (.agg cs) .no
      | none => .fail
    | none => .fail
  | none => .fail
def evBuildSlice (P : Program) (T : Tm) (id : Id) (t : TypeId) (len : Nat) (parts : Array (Nat × Operand)) : Res := match tElem P t with
  | some e => match tSz P e, tZero P e with
    | some n, some z => match z.cells with
      | some zc => if len * n = 0 then .val (.sl id n 0 0) (.new (.row [] false)) else if len * n ≤ 1000000 ∧ zc.length = n then
          match fillA n ((List.replicate len zc).flatten) (parts.toList.map fun p => (p.1, evo T p.2)) with
          | some cs => match tvs cs with
            | some ts => .val (.tv (.sli n (chunk n len ts))) .no
            | none => .need (cs.all AV.one = true) (.val (.sl id n 0 len) (.new (.row cs false)))
          | none => .fail
        else .fail
      | none => .fail
    | _, _ => .fail
  | none => .fail
def evField (P : Program) (s : TypeId) (x : AV) (f : Nat) : Res := match tFld P s f with
  | some (off, ft) => match tSz P ft with
    | some (n + 1) => match x with
      | .ptr i o => .val (.ptr i (o + off)) .no
      | .tv (.ptr cells) => .val (.tv (.ptr (cells.drop off))) .no
      | _ => .fail
    | _ => .fail
  | none => .fail
def evFieldV (P : Program) (s : TypeId) (x : AV) (f : Nat) : Res := match tFld P s f with
  | some (off, ft) => match tSz P ft, tAgg P ft, x with
    | some n, some g, .agg cells => chk (((cells.drop off).take n).length = n ∧ (g = true ∨ n = 1)) (.val (joinC g ((cells.drop off).take n)) .no)
    | _, _, _ => .fail
  | none => .fail
def evIndexAddr (P : Program) (t : TypeId) (x i : AV) : Res := match i with
  | .tv (.int _ n) => match tElem P t with
    | some e => match tSz P e with
      | some sz => match x with
        | .tv (.sli sz' rows) => if sz = sz' then .need (0 ≤ n ∧ n < (rows.length : Int)) (.val (.tv (.ptr (rowAt rows n))) .no) else .fail
        | .tv .nils => .need (0 ≤ n ∧ n < (([] : List (List TV)).length : Int)) (.val (.tv (.ptr (rowAt [] n))) .no)
        | .sl id sz' off len => if sz = sz' then .need (0 ≤ n ∧ n < (len : Int)) (.val (.ptr id ((off + n.toNat) * sz)) .no) else .fail
        | _ => .fail
      | none => .fail
    | none => match tArr P t with
      | some (m, e) => match tSz P e, x with
        | some sz, .ptr id o => .need (0 ≤ n ∧ n < (m : Int)) (.val (.ptr id (o + n.toNat * sz)) .no)
        | _, _ => .fail
      | none => .fail
  | _ => .fail
def evIndex (P : Program) (t : TypeId) (x i : AV) : Res := match x, i with
  | .tv (.str s), .tv (.int _ n) => if tStr P t then .need (0 ≤ n ∧ n < (s.size : Int)) (vint .u8 (sbyte s n)) else .fail
  | _, _ => .fail
def evLookup (P : Program) (H : Hp) (t : TypeId) (x i : AV) (comma : Bool) : Res := match tMap P t with
  | some (k, e) => if tStr P k then match tZero P e, i with
    | some z, .tv (.str q) => match x with
      | .map id => match hget H id with
        | some (.smap es) => .val (bif comma then .tup [(sget es q).getD z, .tv (.bool (sget es q).isSome)] else (sget es q).getD z) .no
        | _ => .fail
      | _ => .fail
    | _, _ => .fail else .fail
  | none => .fail
def evMapUpdate (P : Program) (H : Hp) (t : TypeId) (x i v : AV) : Res := match tMap P t with
  | some (k, _) => if tStr P k then match x, i with
    | .map id, .tv (.str q) => match hget H id with
      | some (.smap es) => chk (v.one = true) (.val (.tup []) (.upd id (.smap (sput es q v))))
      | _ => .fail
    | _, _ => .fail else .fail
  | none => .fail
def evLen (P : Program) (H : Hp) (t : TypeId) (x : AV) : Res := match x with
  | .tv (.str s) => if tStr P t then vint .i64 (s.size : Int) else .fail
  | .tv (.sli _ rows) => match tElem P t with | some _ => vint .i64 (rows.length : Int) | none => .fail
  | .tv .nils => match tElem P t with | some _ => vint .i64 0 | none => .fail
  | .sl _ _ _ len => match tElem P t with | some _ => vint .i64 (len : Int) | none => .fail
  | .map id => match tMap P t, hget H id with
    | some _, some (.smap es) => vint .i64 (es.length : Int)
    | _, _ => .fail
  | _ => .fail
end Go.Proofs.Ythmimpiegnnmdaa
