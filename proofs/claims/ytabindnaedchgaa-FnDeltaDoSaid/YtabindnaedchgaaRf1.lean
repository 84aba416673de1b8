/- How a function's text is run over plain values: operations, regions, code. Nothing of any program. -/
import Derived.Test.YtabindnaedchgaaRf0
namespace Go.Proofs.Ytabindnaedchgaa.Rf
open Go Go.RowKit
set_option linter.unusedVariables false

def fpath : Ty → Nat → Option Path
  | .st a, i => go a i
  | _, _ => none
where go : Ty → Nat → Option Path
  | .pair _ _, 0 => some [.fst]
  | .pair _ b, i + 1 => match go b i with | some p => some (.snd :: p) | none => none
  | _, 0 => some []
  | _, _ => none
/-- the flag that both have -/
def Fl.meet (f g : Fl) : Fl := if f = g then f else .ro
def AV.frz : AV → AV
  | .d τ x f => .d τ x .ro
  | a => a

def AV.plain : AV → Bool
  | .d _ _ _ => true
  | .box _ _ _ _ => true
  | .un => true
  | .no => true
  | _ => false

/-- the value itself (not where it is) -/
def takeV (E : TyOf) (σ : St) (t : TypeId) (o : Operand) : Option (Sv × Fl × St) := match take E σ t o with
  | some (.d τ x f, σ) => if f.ok τ then some (⟨τ, x⟩, f, σ) else none
  | _ => none
def AV.ty : AV → Option Ty
  | .d τ _ _ => some τ
  | .vw τ _ _ _ _ _ => some τ
  | _ => none
/-- the value itself, at a type that is known -/
def takeN (E : TyOf) (σ : St) (τ : Ty) : Operand → Option (Sv × Fl × St)
  | .const (.slice none 0 0) => match τ with
    | .row e => some (sv (.row e) [], .own e.full, σ)
    | _ => none
  | o => takeV E σ 0 o
def parts (E : TyOf) (τ : Ty) : List (Nat × Operand) → (x : τ.T) → Fl → St → Option (τ.T × Fl × St)
  | [], x, f, σ => some (x, f, σ)
  | (i, o) :: l, x, f, σ => match fpath τ i with
    | none => none
    | some p => if p.isEmpty then none else match getP τ x p with
      | none => none
      | some s => match takeN E σ s.1 o with
        | none => none
        | some (s', f', σ) => match setP τ x p s' with
          | none => none
          | some y => parts E τ l y (f.put p f') σ
/-- the elements of a row that is made: their flags must be alike -/
def elems (E : TyOf) (e : Ty) (g : Fl) : List (Nat × Operand) → List e.T → St → Option (List e.T × St)
  | [], l, σ => some (l, σ)
  | (i, o) :: ps, l, σ => match takeN E σ e o with
    | none => none
    | some (s, f', σ) => match cast? e s with
      | none => none
      | some y => if i < l.length then if f' = g || (g = .ro && f'.ok e) || e.flat then elems E e g ps (l.set i y) σ else none else none
/-- what a pointer reads -/
def deref (σ : St) (u : Tmp) : Option AV := let s := σ.slot u; match s.a with
  | .box τ x f _ => if f.isRo τ then some (.d τ x .ro) else if f.ok τ then some (.vw τ x u (some []) s.g s.v) else none
  | .ref h p g v => let c := σ.slot h; if c.g == g && (p.fields || c.v == v) then
      match (match c.a with | .box τ x f _ => some (sv τ x, f) | .d τ x f => some (sv τ x, f) | _ => none) with
      | some (⟨τ, x⟩, f) => match getP τ x p with
        | some ⟨τ', y⟩ => let f' := f.at p; if f'.isRo τ' then some (.d τ' y .ro) else if f'.ok τ' then some (.vw τ' y h (if p.fields then some p else none) c.g c.v) else none
        | none => none
      | none => none
    else none
  | .rp τ x none => some (.d τ x .ro)
  | .rp τ x (some (h, g, v)) => if σ.valid h g v then (if τ.flat then some (.d τ x .ro) else some (.vw τ x h none g v)) else none
  | _ => none
def subP (τ : Ty) (x : τ.T) (p : Path) (h : Option (Tmp × Nat × Nat)) : Option AV := match getP τ x p with
  | some ⟨τ', y⟩ => some (.rp τ' y h)
  | none => none
def addP (E : TyOf) (σ : St) (s : TypeId) (u : Tmp) (i : Nat) : Option AV := match E.of s with
  | none => none
  | some τ => match fpath τ i with
    | none => none
    | some q => let c := σ.slot u; match c.a with
      | .box τ' x f _ => if τ' = τ then some (.ref u q c.g c.v) else none
      | .ref h p g v => if refOk σ h p g v then match (match σ.av h with | .box τ0 x0 _ _ => getP τ0 x0 p | .d τ0 x0 _ => getP τ0 x0 p | _ => none) with
        | some s => if s.1 = τ then some (.ref h (p ++ q) g v) else none
        | none => none else none
      | .rp τ' x none => if τ' = τ then subP τ' x q none else none
      | .rp τ' x (some (h, g, v)) => if τ' = τ && σ.valid h g v then subP τ' x q (some (h, g, v)) else none
      | _ => none
/-- a store of a value at a pointer -/
def poke (σ : St) (u : Tmp) (s : Sv) (f : Fl) : Option St := let c := σ.slot u; match c.a with
  | .box τ x g none => match cast? τ s with
    | some y => some (σ.turn u (.box τ y f none))
    | none => none
  | .ref h p g v => let c := σ.slot h; if c.g == g && (p.fields || c.v == v) then match c.a with
      | .box τ x f' r => match setP τ x p s with
        | some y => if p.fields then (if r.isNone then some (σ.turn h (.box τ y (f'.put p f) none)) else none) else if f'.at p = f.meet (f'.at p) then some (σ.turn h (.box τ y f' r)) else none
        | none => none
      | .d τ x f' => match setP τ x p s with
        | some y => if f'.at p = f.meet (f'.at p) then some (σ.turn h (.d τ y f')) else none
        | none => none
      | _ => none
    else none
  | _ => none
/-- a row, and where its elements are reached from -/
def elemP (σ : St) (u : Tmp) (e : Ty) (i : Nat) : Option (List e.T × AV) := let s := σ.slot u; match s.a with
  | .d τ l f => match cast? (.row e) ⟨τ, l⟩ with
    | some l => if f.isRo τ then some (l, .rp e (l.getD i e.z) none) else if ownP f [.idx i] then some (l, .ref u [.idx i] s.g s.v) else none
    | none => none
  | .vw τ l hh p g v => if σ.valid hh g v then match cast? (.row e) ⟨τ, l⟩ with
    | some l => match p with
      | none => some (l, .rp e (l.getD i e.z) (some (hh, g, v)))
      | some p => match σ.av hh with
        | .d _ _ f => if ownP f (p ++ [.idx i]) then some (l, .ref hh (p ++ [.idx i]) g v) else none
        | .box _ _ f _ => if ownP f (p ++ [.idx i]) then some (l, .ref hh (p ++ [.idx i]) g v) else none
        | _ => none
    | none => none else none
  | _ => none

def bin (t : Option Ty) (op : BinOp) (a b : Sv) : Option (Bool × Sv) := match a, b with
  | ⟨.int k, x⟩, ⟨.int j, y⟩ => match op with
    | .shl => some (decide (0 ≤ y), sv (.int k) (k.wrap (x * 2 ^ (min y.toNat k.bits))))
    | .shr => some (decide (0 ≤ y), sv (.int k) (x.fdiv (2 ^ (min y.toNat k.bits))))
    | _ => if k = j then match op with
      | .add => some (true, sv (.int k) (k.wrap (x + y)))
      | .sub => some (true, sv (.int k) (k.wrap (x - y)))
      | .mul => some (true, sv (.int k) (k.wrap (x * y)))
      | .quo => some (decide (y ≠ 0), sv (.int k) (k.wrap (x.tdiv y)))
      | .rem => some (decide (y ≠ 0), sv (.int k) (x.tmod y))
      | .and => some (true, sv (.int k) (k.wrap (BitVec.ofInt k.bits x &&& BitVec.ofInt k.bits y).toNat))
      | .or => some (true, sv (.int k) (k.wrap (BitVec.ofInt k.bits x ||| BitVec.ofInt k.bits y).toNat))
      | .xor => some (true, sv (.int k) (k.wrap (BitVec.ofInt k.bits x ^^^ BitVec.ofInt k.bits y).toNat))
      | .andNot => some (true, sv (.int k) (k.wrap (BitVec.ofInt k.bits x &&& ~~~(BitVec.ofInt k.bits y)).toNat))
      | .eql => some (true, sv .bool (x == y))
      | .neq => some (true, sv .bool (x != y))
      | .lss => some (true, sv .bool (decide (x < y)))
      | .leq => some (true, sv .bool (decide (x ≤ y)))
      | .gtr => some (true, sv .bool (decide (x > y)))
      | .geq => some (true, sv .bool (decide (x ≥ y)))
      | _ => none
      else none
  | ⟨.str, x⟩, ⟨.str, y⟩ => match op with
    | .add => some (decide (((x.size + y.size : Nat) : Int) ≤ IntKind.i64.max), sv .str (x ++ y))
    | .eql => some (true, sv .bool (x.toList == y.toList))
    | .neq => some (true, sv .bool !(x.toList == y.toList))
    | .lss => some (true, sv .bool (Op.bytesLess x.toList y.toList))
    | .leq => some (true, sv .bool (Op.bytesLess x.toList y.toList || x.toList == y.toList))
    | .gtr => some (true, sv .bool !(Op.bytesLess x.toList y.toList || x.toList == y.toList))
    | .geq => some (true, sv .bool !(Op.bytesLess x.toList y.toList))
    | _ => none
  | ⟨.bool, x⟩, ⟨.bool, y⟩ => if t = some .bool then match op with
    | .eql => some (true, sv .bool (x == y))
    | .neq => some (true, sv .bool !(x == y))
    | _ => none else none
  | ⟨.st a, x⟩, ⟨.st b, y⟩ => if h : b = a then if t = some (.st a) then (match op with
    | .eql => if a.flat && decide ((Ty.st a).dp ≤ 10000) then some (true, sv .bool (eqT (.st a) x (h ▸ y))) else none
    | .neq => if a.flat && decide ((Ty.st a).dp ≤ 10000) then some (true, sv .bool !(eqT (.st a) x (h ▸ y))) else none
    | _ => none) else none else none
  | _, _ => none
where eqT : (a : Ty) → a.T → a.T → Bool
  | .int _, x, y => x == y
  | .bool, x, y => x == y
  | .str, x, y => x.toList == y.toList
  | .row _, _, _ => false
  | .pair a b, x, y => eqT a x.1 y.1 && eqT b x.2 y.2
  | .st a, x, y => eqT a x y
def un1 (op : UnOp) : Sv → Option Sv
  | ⟨.int k, x⟩ => match op with
    | .neg => some (sv (.int k) (k.wrap (0 - x)))
    | .xor => some (sv (.int k) (k.wrap (BitVec.ofInt k.bits (if k.signed then -1 else k.max) ^^^ BitVec.ofInt k.bits x).toNat))
    | _ => none
  | ⟨.bool, b⟩ => match op with
    | .not => some (sv .bool !b)
    | _ => none
  | _ => none
def strOf (l : List Int) : ByteArray := ⟨(l.map fun n => UInt8.ofNat n.toNat).toArray⟩
def bytesOf (s : ByteArray) : List Int := s.data.toList.map fun b => (b.toNat : Int)
def byteAt (s : ByteArray) (i : Int) : Int := if h : i.toNat < s.size then ((s[i.toNat]'h).toNat : Int) else 0
def conv (τ : Ty) : Sv → Option (Sv × Fl)
  | ⟨.int _, x⟩ => match τ with
    | .int k => some (sv (.int k) (k.wrap x), .ro)
    | _ => none
  | ⟨.str, s⟩ => match τ with
    | .str => some (sv .str s, .ro)
    | .row (.int .u8) => some (sv (.row (.int .u8)) (bytesOf s), .own .ro)
    | _ => none
  | ⟨.row (.int .u8), l⟩ => match τ with
    | .str => some (sv .str (strOf l), .ro)
    | _ => none
  | _ => none
def asI : Option Sv → Option Int
  | some ⟨.int _, x⟩ => some x
  | _ => none
def bnd (σ : St) (d : Int) : Option Operand → Option Int
  | none => some d
  | some o => asI (rdv σ o)
/-- at most so many bytes may a row come to -/
def rowMax : Nat := 140737488355328
def asRow (e : Ty) : Sv → Option (List e.T)
  | ⟨.str, b⟩ => cast? (.row e) (sv (.row (.int .u8)) (bytesOf b))
  | s => cast? (.row e) s
def builtin1 (E : TyOf) (σ : St) (b : Builtin) (ts : List TypeId) (as : List Operand) : Option (Bool × AV × St) := match b, ts, as with
  | .len, [t], [x] => match rdT E σ t x with
    | some ⟨.str, s⟩ => if E.of t ≠ some .str then none else some (true, .d (.int .i64) (s.size : Int) .ro, σ)
    | some ⟨.row e, l⟩ => if E.of t ≠ some (.row e) then none else some (true, .d (.int .i64) (l.length : Int) .ro, σ)
    | _ => none
  | .append, [t, t'], [x, y] => match takeV E σ t x with
    | some (⟨.row e, l⟩, .own g, σ) => if E.of t ≠ some (.row e) then none else if e.flat then
        match rdT E σ t' y with
        | some s => if E.of t' ≠ some s.1 then none else match asRow e s with
          | some m => some (decide ((l.length + m.length) * e.by ≤ rowMax), .d (.row e) (l ++ m) (.own g), σ)
          | none => none
        | none => none
      else match takeV E σ t' y with
        | some (s, f, σ) => if E.of t' ≠ some s.1 then none else match cast? (.row e) s with
          | some m => some (decide ((l.length + m.length) * e.by ≤ rowMax), .d (.row e) (l ++ m) (.own (if f = .own g then g else .ro)), σ)
          | none => none
        | none => none
    | _ => none
  | .min, [_, _], [x, y] => match rdv σ x, rdv σ y with
    | some ⟨.int k, a⟩, some ⟨.int j, b⟩ => if k = j then some (true, .d (.int k) (if b < a then b else a) .ro, σ) else none
    | _, _ => none
  | .max, [_, _], [x, y] => match rdv σ x, rdv σ y with
    | some ⟨.int k, a⟩, some ⟨.int j, b⟩ => if k = j then some (true, .d (.int k) (if b > a then b else a) .ro, σ) else none
    | _, _ => none
  | _, _, _ => none
/-- a copy; a tuple goes as a whole -/
def mv (E : TyOf) (σ : St) (t : TypeId) : Operand → AV × St
  | .tmp u => match σ.av u with
    | .tup l => (.tup l, if l.all AV.fixd then σ else σ.put u .no)
    | _ => (copy E σ t (.tmp u), σ)
  | o => (copy E σ t o, σ)
def op1 (E : TyOf) (σ : St) (o : Oper) : Option (Bool × AV × St) := match o.op with
  | .move x => let r := mv E σ o.type x; some (true, r.1, r.2)
  | .assign x => match take E σ o.type x with
    | some (a, σ) => some (true, a, σ)
    | none => none
  | .alloc t => match E.of t with
    | some τ => some (true, .box τ τ.z (τ.full) none, σ)
    | none => none
  | .box t x => match E.of t with
    | some τ => match takeV E σ t x with
      | some (s, f, σ) => match cast? τ s with
        | some y => some (true, .box τ y f none, σ)
        | none => none
      | none => none
    | none => none
  | .build t ps => match E.of t with
    | some τ => match parts E τ ps.toList τ.z (τ.full) σ with
      | some (x, f, σ) => if τ.isSt then some (true, .d τ x f, σ) else none
      | none => none
    | none => none
  | .buildSlice t n ps => match E.of t with
    | some (.row e) => if n * e.n > 16777216 then none else match elems E e e.full ps.toList (List.replicate n e.z) σ with
      | some (l, σ) => some (true, .d (.row e) l (.own e.full), σ)
      | none => match elems E e .ro ps.toList (List.replicate n e.z) σ with
        | some (l, σ) => some (true, .d (.row e) l (.own .ro), σ)
        | none => none
    | _ => none
  | .load t (.tmp u) => match deref σ u with
    | some a => if a.ty = E.of t then some (true, a, σ) else none
    | none => none
  | .store t (.tmp u) x => match takeV E σ t x with
    | some (s, f, σ) => if E.of t = some s.1 then match poke σ u s f with
      | some σ => some (true, .un, σ)
      | none => none else none
    | none => none
  | .nilCheck (.tmp u) => match σ.av u with
    | .box _ _ _ _ => some (true, copy E σ 0 (.tmp u), σ)
    | .ref h p g v => if refOk σ h p g v then some (true, copy E σ 0 (.tmp u), σ) else none
    | .rp _ _ none => some (true, copy E σ 0 (.tmp u), σ)
    | _ => none
  | .binOp op t x y _ => match rdv σ x, rdv σ y with
    | some a, some b => match bin (E.of t) op a b with
      | some (g, s) => some (g, .d s.1 s.2 .ro, σ)
      | none => none
    | _, _ => none
  | .unOp op _ x => match rdv σ x with
    | some a => match un1 op a with
      | some s => some (true, .d s.1 s.2 .ro, σ)
      | none => none
    | none => none
  | .convert t' t x => match E.of t, rdv σ x with
    | some τ, some s => if E.of t' = some s.1 then match conv τ s with
      | some (s, f) => some (true, .d s.1 s.2 f, σ)
      | none => none else none
    | _, _ => none
  | .makeSlice t l c => match E.of t, asI (rdv σ l), asI (rdv σ c) with
    | some (.row e), some n, some m => some (decide (0 ≤ n) && (decide (n ≤ m) && decide (m * e.by ≤ (rowMax : Int))), .d (.row e) (List.replicate n.toNat e.z) (.own (e.full)), σ)
    | _, _, _ => none
  | .slice t (.tmp u) lo hi none => match rdv σ (.tmp u) with
    | some ⟨.str, s⟩ => if E.of t = some .str then match bnd σ 0 lo, bnd σ s.size hi with
      | some a, some b => some (decide (0 ≤ a) && (decide (a ≤ b) && decide (b ≤ s.size)), .d .str (s.extract a.toNat b.toNat) .ro, σ)
      | _, _ => none else none
    | some ⟨.row e, l⟩ => if E.of t = some (.row e) then match bnd σ 0 lo, bnd σ l.length hi with
      | some a, some b => match (let c := σ.slot u; match c.a with
          | .d τ _ f => if f.isRo τ then some none else some (some (u, c.g, c.v))
          | .vw _ _ h _ g v => some (some (h, g, v))
          | _ => none : Option (Option (Tmp × Nat × Nat))) with
        | some hh => let m := (l.take b.toNat).drop a.toNat
          some (decide (0 ≤ a) && (decide (a ≤ b) && decide (b ≤ l.length)), match hh with | none => .d (.row e) m .ro | some (h, g, v) => .vw (.row e) m h none g v, σ)
        | none => none
      | _, _ => none else none
    | _ => none
  | .fieldAddr s (.tmp u) i => match addP E σ s u i with
    | some a => some (true, a, σ)
    | none => none
  | .field s (.tmp u) i => match E.of s with
    | some τ => match fpath τ i with
      | some q => if q.isEmpty then none else match (let c := σ.slot u; match c.a with
          | .d τ' x f => if τ' ≠ τ then none else if f.isRo τ' then (getP τ' x q).map fun s => .d s.1 s.2 .ro else match getP τ' x q with
            | some s => if (f.at q).isRo s.1 then some (.d s.1 s.2 .ro) else if (f.at q).ok s.1 then some (.vw s.1 s.2 u (some q) c.g c.v) else none
            | none => none
          | .vw τ' x h p g v => if τ' = τ && σ.valid h g v then (getP τ' x q).map fun s => if s.1.flat then .d s.1 s.2 .ro else .vw s.1 s.2 h (p.map (· ++ q)) g v else none
          | _ => none : Option AV) with
        | some a => some (true, a, σ)
        | none => none
      | none => none
    | none => none
  | .indexAddr t (.tmp u) i => match E.of t, asI (rdv σ i) with
    | some (.row e), some n => match elemP σ u e n.toNat with
      | some (l, a) => some (decide (0 ≤ n) && decide (n < l.length), a, σ)
      | none => none
    | _, _ => none
  | .index t x i => match rdv σ x, asI (rdv σ i) with
    | some ⟨.str, s⟩, some n => if E.of t ≠ some .str then none else some (decide (0 ≤ n) && decide (n < s.size), .d (.int .u8) (byteAt s n) .ro, σ)
    | _, _ => none
  | .extract (.tmp u) i => match σ.av u with
    | .tup l => match l[i]? with
      | some a => if l.all AV.plain then some (true, a, if a.fixd then σ else σ.turn u (.tup (l.set i .no))) else none
      | none => none
    | _ => none
  | .call c => match c.callee with
    | .builtin b => builtin1 E σ b c.argTypes.toList c.args.toList
    | _ => none
  | _ => none

/-! ### Calls -/
inductive Md where
  | rd | own (f : Fl) | bx (f : Fl) | io (f : Fl)
  deriving DecidableEq
structure Par where
  τ : Ty
  m : Md
structure Res where
  τ : Ty
  f : Fl
  bx : Bool
@[reducible] def ProdT : List Ty → Type
  | [] => Unit
  | [a] => a.T
  | a :: b :: l => a.T × ProdT (b :: l)
def Par.isBx (p : Par) : Bool := match p.m with | .bx _ => true | _ => false
/-- turned in place -/
def Par.isIn (p : Par) : Bool := match p.m with | .bx _ => true | .io _ => true | _ => false
def outs (ps : List Par) (rs : List Res) : List Ty := rs.map (·.τ) ++ (ps.filter (·.isIn)).map (·.τ)
structure CE where
  ps : List Par
  rs : List Res
  F : ProdT (ps.map (·.τ)) → Option (ProdT (outs ps rs))
abbrev CEs := List (FuncId × CE)
def packT : (l : List Ty) → List Sv → Option (ProdT l)
  | [], [] => some ()
  | [a], [s] => cast? a s
  | a :: b :: l, s :: ss => match cast? a s, packT (b :: l) ss with
    | some x, some y => some (x, y)
    | _, _ => none
  | _, _ => none
def unpack : (l : List Ty) → ProdT l → List Sv
  | [], _ => []
  | [a], x => [⟨a, x⟩]
  | a :: b :: l, x => ⟨a, x.1⟩ :: unpack (b :: l) x.2
/-- whose box it is -/
def boxOf (σ : St) : Operand → Option (Tmp × Sv × Fl)
  | .tmp u => match σ.av u with
    | .box τ x f none => some (u, ⟨τ, x⟩, f)
    | .ref h [] g _ => if (σ.slot h).g == g then match σ.av h with
      | .box τ x f none => some (h, ⟨τ, x⟩, f)
      | _ => none else none
    | _ => none
  | _ => none
/-- a row, or what holds rows, goes along from its place, and comes back to it -/
def lend (σ : St) : Operand → Option (Tmp × Path × Sv × Fl × St)
  | .tmp u => match σ.av u with
    | .d τ x f => some (u, [], ⟨τ, x⟩, f, σ.turn u (.d τ x .gone))
    | .vw τ x h p g v => if σ.valid h g v then match p with
        | some p => if p.fields then match σ.av h with
            | .d τ' x' f' => some (h, p, ⟨τ, x⟩, f'.at p, σ.turn h (.d τ' x' (f'.put p .gone)))
            | .box τ' x' f' s => some (h, p, ⟨τ, x⟩, f'.at p, σ.turn h (.box τ' x' (f'.put p .gone) s))
            | _ => none else none
        | none => none else none
    | _ => none
  | _ => none
/-- what goes along: the box in slot h, or what stands there at path p -/
structure Bk where
  h : Tmp
  p : Option Path
  f : Fl
def Bk.box (b : Bk) : Option Tmp := match b.p with | none => some b.h | some _ => none
def backS (σ : St) (k : Bk) (s : Sv) : St := match k.p with
  | none => σ.turn k.h (.box s.1 s.2 k.f none)
  | some p => match σ.av k.h with
    | .d τ x f => match setP τ x p s with
      | some y => σ.turn k.h (.d τ y (f.put p k.f))
      | none => σ.put k.h .no
    | .box τ x f q => match setP τ x p s with
      | some y => σ.turn k.h (.box τ y (f.put p k.f) q)
      | none => σ.put k.h .no
    | _ => σ
/-- the arguments that go for good; what goes along (one at most) -/
def give (E : TyOf) : List Par → List TypeId → List Operand → St → Option (List (Option Sv) × Option Bk × St)
  | [], _, [], σ => some ([], none, σ)
  | p :: ps, t :: ts, o :: os, σ => match p.m with
    | .rd => match give E ps ts os σ with
      | some (l, b, σ) => some (none :: l, b, σ)
      | none => none
    | .own f => match takeV E σ t o with
      | some (s, f', σ) => if f' = f then match give E ps ts os σ with
        | some (l, b, σ) => some (some s :: l, b, σ)
        | none => none else none
      | none => none
    | .bx f => match give E ps ts os σ with
      | some (l, none, σ) => match boxOf σ o with
        | some (h, s, f') => if f' = f then some (some s :: l, some ⟨h, none, f⟩, σ) else none
        | none => none
      | _ => none
    | .io f => match give E ps ts os σ with
      | some (l, none, σ) => match lend σ o with
        | some (h, q, s, f', σ) => if f' = f then some (some s :: l, some ⟨h, some q, f⟩, σ) else none
        | none => none
      | _ => none
  | _, _, _, _ => none
def St.less (σ : St) : Option Tmp → St
  | some h => σ.turn h .no
  | none => σ
def stays (σ : St) (s : Sv) : Operand → Bool
  | .tmp u => s.1.flat || match σ.av u with
    | .d τ _ f => f.isRo τ
    | _ => false
  | _ => true
/-- the arguments that are read; whether one of them is only lent -/
def fillR (E : TyOf) (σ : St) : List (Option Sv) → List TypeId → List Operand → Option (List Sv × Bool)
  | [], _, [] => some ([], false)
  | s :: l, t :: ts, o :: os => match fillR E σ l ts os with
    | none => none
    | some (ss, b) => match s with
      | some s => some (s :: ss, b)
      | none => match rdT E σ t o with
        | some s => some (s :: ss, b || !stays σ s o)
        | none => none
  | _, _, _ => none
def Fl.noro : Ty → Fl → Bool
  | .pair a b, f => noro a f.l && noro b f.r
  | .st a, f => noro a f
  | .row e, .own g => noro e g
  | .row _, _ => false
  | _, _ => true
def resAV : List Res → List Sv → List AV
  | r :: rs, s :: ss => (if r.bx then .box s.1 s.2 r.f none else .d s.1 s.2 r.f) :: resAV rs ss
  | _, _ => []
def oneAV : List AV → AV
  | [] => .un
  | [a] => a
  | l => .tup l
def Par.noro (p : Par) : Bool := match p.m with
  | .bx f => f.noro p.τ
  | .io f => f.noro p.τ
  | _ => true
def CE.noro (c : CE) : Bool := c.rs.all (fun r => r.f.noro r.τ) && c.ps.all (·.noro)
def callOf (E : TyOf) (C : CEs) (o : Oper) (σ : St) : Option ((ce : CE) × (ProdT (ce.ps.map (·.τ))) × (ProdT (outs ce.ps ce.rs) → St)) := match o.op with
  | .call ⟨.value (.func f), as, ts⟩ => match C.lookup f with
    | some ce => match give E ce.ps ts.toList as.toList σ with
      | some (l, b, σ1) => match fillR E (σ1.less (b.bind Bk.box)) l ts.toList as.toList with
        | some (ss, lent) => if lent && !ce.noro then none else match packT (ce.ps.map (·.τ)) ss with
          | some x => some ⟨ce, x, fun r => let us := unpack _ r
              (match b with
                | some k => match us[ce.rs.length]? with
                  | some s => backS σ1 k s
                  | none => σ1
                | none => σ1).putO o.dst (oneAV (resAV ce.rs us))⟩
          | none => none
        | none => none
      | none => none
    | none => none
  | _ => none

/-- what a slot keeps of its own, if it is to keep it at the flag f -/
def nAV (f : Option Fl) : AV → AV
  | .d τ x f' => match f with
    | some f => if f' = f then .d τ x f' else if f = .ro && f'.ok τ then .d τ x .ro else .no
    | none => .no
  | .box τ x f' sr => match f with
    | some f => if f' = f then .box τ x f' sr else .no
    | none => .no
  | _ => .no
def AV.live : AV → Bool
  | .d _ _ _ => true
  | .box _ _ _ _ => true
  | _ => false
def AV.isBox : AV → Bool
  | .box _ _ _ _ => true
  | _ => false
def norm1 (σ : St) (L : List (Tmp × Fl)) (t : Nat) (s : Slot) : AV := match L.lookup t with
  | none => .no
  | some f => match s.a with
    | .vw τ x h p g v => if σ.valid h g v then .vw τ x h (if (nAV (L.lookup h) (σ.av h)).live then p else none) 0 0 else .no
    | .ref h p g v => if refOk σ h p g v && (p.fields && (nAV (L.lookup h) (σ.av h)).isBox) then .ref h p 0 0 else .no
    | .rp τ x none => .rp τ x none
    | .rp τ x (some (h, g, v)) => if σ.valid h g v then .rp τ x (some (h, 0, 0)) else .no
    | .fn f => .fn f
    | .un => .un
    | a => nAV (some f) a
def normGo (σ : St) (L : List (Tmp × Fl)) : Nat → List Slot → List Slot
  | _, [] => []
  | t, s :: l => ⟨0, 0, norm1 σ L t s⟩ :: normGo σ L (t + 1) l
def norm (L : Option (List (Tmp × Fl))) (σ : St) : St := match L with
  | none => σ
  | some L => normGo σ L 0 σ
/-- arguments that a callee reads, and that this function owns -/
def ownArgs (σ : St) : List Par → List Operand → List Tmp
  | p :: ps, o :: os => (match p.m with
    | .rd => (match o with
      | .tmp u => (match σ.av u with | .d τ _ f => if τ.flat || f.isRo τ then [] else [u] | _ => [])
      | _ => [])
    | _ => []) ++ ownArgs σ ps os
  | _, _ => []
/-- what a slot holds, read-only from now on -/
def frz1 (σ : St) (u : Tmp) : St := match σ.av u with
  | .d τ x f => if f.ok τ then (σ.put u .no).put u (.d τ x .ro) else σ
  | _ => σ
/-- a callee that turns what it is lent, and may keep what it reads: what it reads is frozen for good -/
def pre (C : CEs) (o : Oper) (σ : St) : St := match o.op with
  | .call ⟨.value (.func f), as, _⟩ => match C.lookup f with
    | some ce => if ce.ps.any (·.isIn) && !ce.noro then (ownArgs σ ce.ps as.toList).foldl frz1 σ else σ
    | none => σ
  | _ => σ
section
variable {ρ : Type}
/-- one operation, told directly -/
def run0 (E : TyOf) (C : CEs) (o : Oper) (σ : St) : Option St := match o.op with
  | .pick c a b => match rdv σ c with
    | some ⟨.bool, x⟩ => some (σ.putO o.dst (copy E σ o.type (if x = true then a else b)))
    | _ => none
  | .call ⟨.value _, _, _⟩ => match callOf E C o (pre C o σ) with
    | some ⟨ce, x, k⟩ => (ce.F x).map k
    | none => none
  | _ => match op1 E σ o with
    | some (g, a, σ) => if g = true then some (σ.putO o.dst a) else none
    | none => none
def run1 (E : TyOf) (C : CEs) (ops : Array Oper) (o : Oper) (σ : St) : Option St := match o.guard with
  | none => run0 E C o σ
  | some (j, want) => match (ops[j]?).bind (·.dst) with
    | none => none
    | some g => match σ.av g with
      | .un => some (σ.putO o.dst .un)
      | .d .bool b .ro => if b = want then run0 E C o σ else some (σ.putO o.dst .un)
      | _ => none
def evRun (E : TyOf) (C : CEs) (o : Oper) (σ : St) (K : St → Option ρ) : Option ρ := match o.op with
  | .pick c a b => match rdv σ c with
    | some ⟨.bool, x⟩ => ifb x (K (σ.putO o.dst (copy E σ o.type a))) (K (σ.putO o.dst (copy E σ o.type b)))
    | _ => none
  | .call ⟨.value _, _, _⟩ => match callOf E C o (pre C o σ) with
    | some ⟨ce, x, k⟩ => (ce.F x).bind fun r => K (k r)
    | none => none
  | _ => match op1 E σ o with
    | some (g, a, σ) => ifb g (K (σ.putO o.dst a)) none
    | none => none
def evOne (E : TyOf) (C : CEs) (ops : Array Oper) (o : Oper) (σ : St) (K : St → Option ρ) : Option ρ := match o.guard with
  | none => evRun E C o σ K
  | some (j, want) => match (ops[j]?).bind (·.dst) with
    | none => none
    | some g => match σ.av g with
      | .un => K (σ.putO o.dst .un)
      | .d .bool b .ro => match want with
        | true => ifb b (evRun E C o (σ.know g (.d .bool true .ro)) K) (K ((σ.know g (.d .bool false .ro)).putO o.dst .un))
        | false => ifb b (K ((σ.know g (.d .bool true .ro)).putO o.dst .un)) (evRun E C o (σ.know g (.d .bool false .ro)) K)
      | _ => none
def evOps (E : TyOf) (C : CEs) (ops : Array Oper) : List Oper → St → (St → Option ρ) → Option ρ
  | [], σ, K => K σ
  | o :: l, σ, K => evOne E C ops o σ fun σ => evOps E C ops l σ K
/-! ### Regions that draw their order: what an operation looks at, what it turns -/
def hold (σ : St) (u : Tmp) : List Tmp := match σ.av u with
  | .vw _ _ h _ _ _ => [u, h]
  | .ref h _ _ _ => [u, h]
  | .rp _ _ (some (h, _, _)) => [u, h]
  | _ => [u]
def tmpsOf (l : List Operand) : List Tmp := l.filterMap fun | .tmp t => some t | _ => none
/-- a pointer to a box is copied -/
def bmark (σ : St) (o : Oper) : List Tmp := match o.op with
  | .move (.tmp u) => (match σ.av u with | .box _ _ _ _ => [u, u] | _ => [])
  | _ => []
def looks (σ : St) (o : Oper) : List Tmp := o.dst.toList ++ ((tmpsOf o.op.operands.toList).flatMap (hold σ) ++ bmark σ o)
def gentle : Op → Bool
  | .move _ | .pick _ _ _ | .alloc _ | .load _ _ | .nilCheck _ | .binOp _ _ _ _ _ | .unOp _ _ _ | .convert _ _ _ | .makeSlice _ _ _ | .slice _ _ _ _ _ | .fieldAddr _ _ _ | .field _ _ _ | .indexAddr _ _ _ | .index _ _ _ => true
  | .call ⟨.builtin .len, _, _⟩ => true
  | _ => false
def still (σ : St) (u : Tmp) : Bool := match σ.av u with
  | .d τ _ f => f.isRo τ
  | .un => true
  | .rp _ _ none => true
  | .fn _ => true
  | .tup l => l.all AV.fixd
  | _ => false
def stillO (σ : St) : Operand → Bool
  | .tmp u => still σ u
  | _ => true
def mvOk (σ : St) : Op → Bool
  | .move (.tmp u) => (match σ.av u with | .tup l => l.all AV.fixd | _ => true)
  | _ => true
def wr1 (σ : St) : Operand → List Tmp
  | .tmp u => if still σ u then [] else hold σ u
  | _ => []
def wrArgs (σ : St) : List Par → List Operand → List Tmp
  | p :: ps, o :: os => (match p.m with | .own _ => wr1 σ o | _ => []) ++ wrArgs σ ps os
  | _, _ => []
def Par.isRd (p : Par) : Bool := match p.m with | .rd => true | _ => false
def Par.isB (p : Par) : Bool := match p.m with | .bx _ => true | _ => false
/-- what a call with a box turns: the box alone (all else it reads) -/
def wrBx (σ : St) (ce : CE) : List Operand → Option (List Tmp)
  | .tmp u :: os => match ce.ps with
    | p :: ps => if p.isB && ps.all (·.isRd) then some (hold σ u ++ if ce.noro then [] else ownArgs σ ce.ps (.tmp u :: os)) else none
    | [] => none
  | _ => none
/-- what is turned besides the own slot, if that can be told -/
def wrOp (E : TyOf) (C : CEs) (σ : St) (op : Op) : Option (List Tmp) := if gentle op && mvOk σ op then some [] else match op with
  | .call ⟨.value (.func f), as, _⟩ => (match C.lookup f with | some ce => if ce.ps.any (·.isIn) then wrBx σ ce as.toList else some (wrArgs σ ce.ps as.toList) | none => none)
  | .call ⟨.builtin b, as, ts⟩ => (match as.toList, ts.toList with
    | [x, y], [t, _] => some (wr1 σ x ++ match E.of t with | some (.row e) => if e.flat then [] else wr1 σ y | _ => wr1 σ y)
    | _, _ => some [])
  | .assign x => some (wr1 σ x)
  | .store _ (.tmp u) x => some (hold σ u ++ wr1 σ x)
  | .move (.tmp u) => some [u]
  | .extract (.tmp u) _ => some (if still σ u then [] else [u])
  | .box _ x => some (wr1 σ x)
  | .build _ ps => some ((ps.toList.map (·.2)).flatMap (wr1 σ))
  | .buildSlice _ _ ps => some ((ps.toList.map (·.2)).flatMap (wr1 σ))
  | op => if op.operands.toList.all (stillO σ) then some [] else none
def apart (a b : List Tmp) : Bool := a.all fun t => !b.contains t
abbrev Foot := List Tmp × List Tmp × Bool × Nat
/-- who comes before, for certain -/
def maskE (M : List Foot) : List Edge → Nat
  | [] => 0
  | e :: l => if Region.binds .any e = true then 2 ^ e.on ||| ((match M[e.on]? with | some f => f.2.2.2 | none => 0) ||| maskE M l) else maskE M l
/-- two parts of one tuple -/
def ex2 (o p : Oper) : Bool := match o.op, p.op, o.guard, p.guard, o.dst, p.dst with
  | .extract (.tmp u) i, .extract (.tmp v) j, none, none, some d, some e => decide (u = v) && (decide (i ≠ j) && (decide (d ≠ e) && (decide (d ≠ u) && decide (e ≠ u))))
  | _, _, _, _, _, _ => false
/-- a pointer to a box is copied, and a call turns the box -/
def mvb (C : CEs) (m c : Oper) (fm fc : Foot) : Bool := match m.op, m.guard, m.dst, c.op, c.guard with
  | .move (.tmp u), none, some d, .call ⟨.value (.func f), _, _⟩, none => (match C.lookup f with | some ce => ce.ps.any (·.isIn) | none => false) && (decide (fm.1 = [d, u, u, u]) && (fc.2.2.1 && (!fc.1.contains d && (decide (c.dst ≠ some u) && decide (d ≠ u)))))
  | _, _, _, _, _ => false
def fits (C : CEs) (ops : Array Oper) (o : Oper) (f : Foot) : Nat → List Foot → Bool
  | _, [] => true
  | j, f' :: l => (f.2.2.2.testBit j || (((f.2.2.1 && f'.2.2.1) && (apart f'.2.1 f.1 && apart f.2.1 f'.1)) || match ops[j]? with | some p => ex2 o p || (mvb C o p f f' || mvb C p o f' f) | none => false)) && fits C ops o f (j + 1) l
def guardT (ops : Array Oper) (o : Oper) : List Tmp := match o.guard with
  | some (j, _) => ((ops[j]?).bind (·.dst)).toList
  | none => []
def footOf (E : TyOf) (C : CEs) (ops : Array Oper) (σ : St) (o : Oper) (acc : List Foot) : Foot := (guardT ops o ++ looks σ o, o.dst.toList ++ (wrOp E C σ o.op).getD [], (wrOp E C σ o.op).isSome, maskE acc o.after.toList)
def evOpsD (E : TyOf) (C : CEs) (ops : Array Oper) : List Oper → List Foot → St → (St → Option ρ) → Option ρ
  | [], _, σ, K => K σ
  | o :: l, acc, σ, K => if (fits C ops o (footOf E C ops σ o acc) 0 acc && o.after.toList.all fun e => !Region.binds .any e || decide (e.on < acc.length)) = true then evOne E C ops o σ fun σ' => evOpsD E C ops l (acc ++ [footOf E C ops σ o acc]) σ' K else none
inductive Ex where
  | nm | ex (id : Nat) | rt
abbrev Heads := List (Nat × List (Tmp × Fl))
def fstR : Code → Option Nat
  | .region id _ _ => some id
  | .seq a b => match fstR a with | some i => some i | none => fstR b
  | .block _ c => fstR c
  | .loop c => fstR c
  | .scope c => fstR c
  | _ => none
def headOf (H : Heads) (c : Code) : Option (List (Tmp × Fl)) := match fstR c with
  | some i => H.lookup i
  | none => none
abbrev Kt (ρ : Type) := Ex → St → Option ρ
def kSeq (f : St → Option ρ) (K : Kt ρ) : Kt ρ := fun e σ => match e with
  | .nm => f σ
  | e => K e σ
def kBlock (id : Nat) (K : Kt ρ) : Kt ρ := fun e σ => match e with
  | .ex j => if j = id then K .nm σ else K (.ex j) σ
  | e => K e σ
def evLoop (body : Nat → St → Kt ρ → Option ρ) (h : Option (List (Tmp × Fl))) : Nat → St → Kt ρ → Option ρ
  | 0, _, _ => none
  | k + 1, σ, K => body k σ (kSeq (fun σ => evLoop body h k (norm h σ) K) K)
/-- a cut: a round is paid for it -/
def cutRun (body : Nat → St → Kt ρ → Option ρ) : Nat → St → Kt ρ → Option ρ
  | 0, _, _ => none
  | k + 1, σ, K => body k σ K
def startsL : Code → Bool
  | .loop _ => true
  | .seq a b => match fstR a with | some _ => startsL a | none => startsL b
  | .block _ c => startsL c
  | .scope c => startsL c
  | _ => false
def cutK (h : Option (List (Tmp × Fl))) (l : Bool) (body : Nat → St → Kt ρ → Option ρ) (k : Nat) (σ : St) (K : Kt ρ) : Option ρ := match h with
  | none => body k σ K
  | some L => if l then body k (norm (some L) σ) K else cutRun body k (norm (some L) σ) K
def evCode (E : TyOf) (C : Nat → CEs) (H : Heads) : Code → Nat → St → Kt ρ → Option ρ
  | .skip, k, σ, K => K .nm σ
  | .region id ops dr, k, σ, K => if dr then evOpsD E (C k) ops ops.toList [] σ (K .nm) else evOps E (C k) ops ops.toList σ (K .nm)
  | .seq a b, k, σ, K => evCode E C H a k σ (kSeq (fun σ => cutK (headOf H b) (startsL b) (evCode E C H b) k σ K) K)
  | .cond c a b, k, σ, K => match rdv σ c with
    | some ⟨.bool, x⟩ => ifb x (evCode E C H a k σ K) (evCode E C H b k σ K)
    | _ => none
  | .block id c, k, σ, K => evCode E C H c k σ (kBlock id K)
  | .loop c, k, σ, K => evLoop (evCode E C H c) (headOf H c) k (norm (headOf H c) σ) K
  | .exit id, k, σ, K => K (.ex id) σ
  | .ret, k, σ, K => K .rt σ
  | _, _, _, _ => none
/-- the code at a path, and what comes behind it -/
def codeAt : Code → List Bool → Code
  | .seq a _, false :: p => codeAt a p
  | .seq _ b, true :: p => codeAt b p
  | .cond _ a _, false :: p => codeAt a p
  | .cond _ _ b, true :: p => codeAt b p
  | .block _ c, _ :: p => codeAt c p
  | .loop c, _ :: p => codeAt c p
  | c, _ => c
def kAt (E : TyOf) (C : Nat → CEs) (H : Heads) : Code → List Bool → Nat → List Nat → Kt ρ → Kt ρ
  | .seq a b, false :: p, k, ks, K => kAt E C H a p k ks (kSeq (fun σ => cutK (headOf H b) (startsL b) (evCode E C H b) k σ K) K)
  | .seq _ b, true :: p, k, ks, K => match (headOf H b).isSome && !startsL b, ks with
    | true, k :: ks => kAt E C H b p k ks K
    | _, ks => kAt E C H b p k ks K
  | .cond _ a _, false :: p, k, ks, K => kAt E C H a p k ks K
  | .cond _ _ b, true :: p, k, ks, K => kAt E C H b p k ks K
  | .block id c, _ :: p, k, ks, K => kAt E C H c p k ks (kBlock id K)
  | .loop c, _ :: p, _, k :: ks, K => kAt E C H c p k ks (kSeq (fun σ => evLoop (evCode E C H c) (headOf H c) k (norm (headOf H c) σ) K) K)
  | _, _, _, _, K => K
/-- a state: what stands in the slots that are named -/
def sh (n : Nat) (l : List (Nat × AV)) : St := go l n 0
where go (l : List (Nat × AV)) : Nat → Nat → St
  | 0, _ => []
  | n + 1, t => ⟨0, 0, match l.lookup t with | some a => a | none => .no⟩ :: go l n (t + 1)
end
def parAV (p : Par) (s : Sv) : AV := match p.m with
  | .rd => .d s.1 s.2 .ro
  | .own f => .d s.1 s.2 f
  | .bx f => .box s.1 s.2 f none
  | .io f => .d s.1 s.2 f
def start (ps : List Par) (x : ProdT (ps.map (·.τ))) (n : Nat) : St :=
  ((ps.zip (unpack _ x)).map fun p => (⟨0, 0, parAV p.1 p.2⟩ : Slot)) ++ List.replicate (n - ps.length) ⟨0, 0, .un⟩
/-- one result -/
def getOne (E : TyOf) (v : ResultVar) (r : Res) (σ : St) : Option (Sv × St) := match v with
  | .tmp t => match take E σ 0 (.tmp t) with
    | some (.d τ x f, σ) => if !r.bx && (decide (f = r.f) || (decide (r.f = .ro) && f.ok τ)) then some (⟨τ, x⟩, σ) else none
    | some (.box τ x f none, σ) => if r.bx && decide (f = r.f) then some (⟨τ, x⟩, σ) else none
    | _ => none
  | .cell t ty => match σ.av t with
    | .box τ x f _ => if E.of ty = some τ then if !r.bx && (decide (f = r.f) || (decide (r.f = .ro) && f.ok τ)) then some (⟨τ, x⟩, σ.put t .no) else none else none
    | _ => none
def getRes (E : TyOf) : List ResultVar → List Res → St → Option (List Sv × St)
  | [], [], σ => some ([], σ)
  | v :: vs, r :: rs, σ => match getOne E v r σ with
    | some (s, σ) => match getRes E vs rs σ with
      | some (ss, σ) => some (s :: ss, σ)
      | none => none
    | none => none
  | _, _, _ => none
def finals : List Par → Nat → St → Option (List Sv)
  | [], _, _ => some []
  | p :: ps, i, σ => match finals ps (i + 1) σ with
    | none => none
    | some ss => match p.m with
      | .bx f => match σ.av i with
        | .box τ x f' none => if f' = f ∨ (f = .ro ∧ f'.isRo τ = true) then some (⟨τ, x⟩ :: ss) else none
        | _ => none
      | .io f => match σ.av i with
        | .d τ x f' => if f' = f then some (⟨τ, x⟩ :: ss) else none
        | _ => none
      | _ => some ss
def leave (E : TyOf) (vs : List ResultVar) (ps : List Par) (rs : List Res) (e : Ex) (σ : St) : Option (ProdT (outs ps rs)) := match e with
  | .ex _ => none
  | _ => match getRes E vs rs σ with
    | some (ss, σ) => match finals ps 0 σ with
      | some fs => packT _ (ss ++ fs)
      | none => none
    | none => none
def bodyOf (fn : Func) : Code := match fn.body with | some c => c | none => .skip
/-- the loop at path p, from the state σ on -/
def atL (E : TyOf) (C : Nat → CEs) (H : Heads) (fn : Func) (ps : List Par) (rs : List Res) (p : List Bool) (k0 : Nat) (ks : List Nat) (k : Nat) (σ : St) : Option (ProdT (outs ps rs)) :=
  match codeAt (bodyOf fn) p with
  | .loop c => evLoop (evCode E C H c) (headOf H c) k σ (kAt E C H (bodyOf fn) p k0 ks (leave E fn.results.toList ps rs))
  | _ => none
/-- the code at path p, from the state σ on -/
def atJ (E : TyOf) (C : Nat → CEs) (H : Heads) (fn : Func) (ps : List Par) (rs : List Res) (p : List Bool) (k0 : Nat) (ks : List Nat) (k : Nat) (σ : St) : Option (ProdT (outs ps rs)) :=
  cutRun (evCode E C H (codeAt (bodyOf fn) p)) k σ (kAt E C H (bodyOf fn) p k0 ks (leave E fn.results.toList ps rs))
def evFn (E : TyOf) (C : Nat → CEs) (H : Heads) (fn : Func) (ps : List Par) (rs : List Res) (k : Nat) (x : ProdT (ps.map (·.τ))) : Option (ProdT (outs ps rs)) := match fn.body with
  | some c => evCode E C H c k (start ps x fn.ntmps) (leave E fn.results.toList ps rs)
  | none => none
end Go.Proofs.Ytabindnaedchgaa.Rf
