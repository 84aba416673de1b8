import Derived.RowKit3
import Derived.KernelRfl
import Derived.Below
import Derived.Laws.IdiomCopy
import Derived.Laws.StructEq
import Derived.Laws.Small
import Derived.Laws.Slices
import Derived.Laws.BytesString
import Derived.Laws.Append
import Derived.Laws.MakeOwn

section
/- Values, flags, states; how a function's text is run over plain values. Nothing of any program. -/
namespace Go.Proofs.YtjfkeknnjjlepaaGreatDoor.Rf
open Go Go.RowKit
set_option linter.unusedVariables false
inductive Ty where
  | int (k : IntKind) | bool | str | row (e : Ty) | pair (a b : Ty) | st (a : Ty) | arr (m : Nat) (k : IntKind) -- m + 1 numbers
  deriving DecidableEq
@[reducible] def Ty.T : Ty → Type
  | .int _ => Int | .bool => Bool | .str => ByteArray | .row e => List e.T | .pair a b => a.T × b.T | .st a => a.T | .arr _ _ => List Int
def Ty.n : Ty → Nat
  | .int _ => 1 | .bool => 1 | .str => 1 | .row _ => 1 | .pair a b => a.n + b.n | .st a => a.n | .arr m _ => m + 1
def Ty.z : (τ : Ty) → τ.T
  | .int _ => (0 : Int) | .bool => false | .str => ByteArray.empty | .row _ => [] | .pair a b => (a.z, b.z) | .st a => a.z | .arr m _ => List.replicate (m + 1) (0 : Int)
def Ty.dp : Ty → Nat
  | .pair a b => max a.dp b.dp
  | .st a => a.dp + 1
  | _ => 1
def Ty.by : Ty → Nat
  | .int k => k.bits / 8
  | .bool => 1
  | .str => 16
  | .row _ => 24
  | .pair a b => (a.by + 7) / 8 * 8 + b.by
  | .st a => (a.by + 7) / 8 * 8
  | .arr m k => (m + 1) * (k.bits / 8)
def Ty.isSt : Ty → Bool
  | .st _ => true
  | _ => false
def Ty.flat : Ty → Bool
  | .int _ => true | .bool => true | .str => true | .row _ => false | .pair a b => a.flat && b.flat | .st a => a.flat | .arr _ _ => false
inductive Fl where
  | ro | gone | own (f : Fl) | pr (a b : Fl)
  deriving DecidableEq
def Fl.l : Fl → Fl
  | .pr a _ => a | .ro => .ro | _ => .gone
def Fl.r : Fl → Fl
  | .pr _ b => b | .ro => .ro | _ => .gone
def Fl.isRo : Ty → Fl → Bool
  | .pair a b, f => isRo a f.l && isRo b f.r
  | .st a, f => isRo a f
  | .row _, f => decide (f = .ro)
  | _, f => !decide (f = .gone)
def Fl.ok : Ty → Fl → Bool
  | .pair a b, f => ok a f.l && ok b f.r
  | .st a, f => ok a f
  | .row e, .own g => ok e g
  | _, f => !decide (f = .gone)
def Ty.full : Ty → Fl
  | .pair a b => if a.flat && b.flat then .ro else .pr a.full b.full
  | .st a => a.full
  | .row e => .own e.full
  | _ => .ro
inductive PE where
  | fst | snd | idx (i : Nat)
  deriving DecidableEq
abbrev Path := List PE
def Path.fields : Path → Bool
  | [] => true | .idx _ :: _ => false | _ :: p => Path.fields p
abbrev Sv := (τ : Ty) × τ.T
def q5f : (τ : Ty) → τ.T → Path → Option Sv
  | .pair a b, x, p => match p with
    | [] => some ⟨.pair a b, x⟩
    | .fst :: p => q5f a x.1 p
    | .snd :: p => q5f b x.2 p
    | .idx _ :: _ => none
  | .st a, x, p => match p with
    | [] => some ⟨.st a, x⟩
    | p => q5f a x p
  | .row e, x, p => match p with
    | [] => some ⟨.row e, x⟩
    | .idx i :: p => q5f e (x.getD i e.z) p
    | _ => none
  | τ, x, p => match p with
    | [] => some ⟨τ, x⟩
    | _ => none
def q6h (τ : Ty) (s : Sv) : Option τ.T := if h : s.1 = τ then some (h ▸ s.2) else none
def q7m : (τ : Ty) → τ.T → Path → Sv → Option τ.T
  | .pair a b, x, p, s => match p with
    | [] => q6h (.pair a b) s
    | .fst :: p => match q7m a x.1 p s with | some y => some (y, x.2) | none => none
    | .snd :: p => match q7m b x.2 p s with | some y => some (x.1, y) | none => none
    | .idx _ :: _ => none
  | .st a, x, p, s => match p with
    | [] => q6h (.st a) s
    | p => q7m a x p s
  | .row e, x, p, s => match p with
    | [] => q6h (.row e) s
    | .idx i :: p => match q7m e (x.getD i e.z) p s with | some y => some (x.set i y) | none => none
    | _ => none
  | τ, x, p, s => match p with
    | [] => q6h τ s
    | _ => none
def Fl.at : Fl → Path → Fl
  | f, [] => f
  | f, .fst :: p => f.l.at p
  | f, .snd :: p => f.r.at p
  | .own g, .idx _ :: p => g.at p
  | .ro, .idx _ :: _ => .ro
  | _, .idx _ :: _ => .gone
def Fl.mk2 : Fl → Fl → Fl → Fl
  | .ro, .ro, .ro => .ro
  | _, a, b => .pr a b
theorem qnq (f a b : Fl) : (Fl.mk2 f a b).l = a := by cases f <;> cases a <;> cases b <;> rfl
theorem qnr (f a b : Fl) : (Fl.mk2 f a b).r = b := by cases f <;> cases a <;> cases b <;> rfl
def Fl.put : Fl → Path → Fl → Fl
  | _, [], g => g
  | f, .fst :: p, g => .mk2 f (f.l.put p g) f.r
  | f, .snd :: p, g => .mk2 f f.l (f.r.put p g)
  | f, .idx _ :: _, _ => f
def qdp : Fl → Path → Bool
  | f, [] => true
  | f, .fst :: p => qdp f.l p
  | f, .snd :: p => qdp f.r p
  | .own g, .idx _ :: p => qdp g p
  | _, .idx _ :: _ => false
inductive AV where
  | no | un
  | d (τ : Ty) (x : τ.T) (f : Fl)
  | vw (τ : Ty) (x : τ.T) (h : Tmp) (p : Option Path) (g v : Nat)
  | box (τ : Ty) (x : τ.T) (f : Fl) (src : Option Tmp) -- src some: its own cells are never turned
  | ref (h : Tmp) (p : Path) (g v : Nat)
  | rp (τ : Ty) (x : τ.T) (h : Option (Tmp × Nat × Nat))
  | tup (l : List AV)
  | fn (f : FuncId)
  | cl (f : FuncId) (h : Tmp) (g : Nat) -- a function that has captured what slot h holds
  | ap (h : Tmp) (i : Nat) (g v : Nat) -- leads to number i of the array in the box of slot h
structure Slot where
  g : Nat
  v : Nat
  a : AV
abbrev St := List Slot
def St.slot (σ : St) (t : Tmp) : Slot := σ.getD t ⟨0, 0, .no⟩
def St.av (σ : St) (t : Tmp) : AV := (σ.slot t).a
def St.valid (σ : St) (h : Tmp) (g v : Nat) : Bool := let s := σ.slot h; s.g == g && s.v == v
def refOk (σ : St) (h : Tmp) (p : Path) (g v : Nat) : Bool := (σ.slot h).g == g && (p.fields || (σ.slot h).v == v)
def St.put (σ : St) (t : Tmp) (a : AV) : St := σ.set t ⟨(σ.slot t).g + 1, 0, a⟩
def St.putO (σ : St) (t : Option Tmp) (a : AV) : St := match t with | some t => σ.put t a | none => σ
def St.turn (σ : St) (t : Tmp) (a : AV) : St := let s := σ.slot t; σ.set t ⟨s.g, s.v + 1, a⟩
def St.know (σ : St) (t : Tmp) (a : AV) : St := let s := σ.slot t; σ.set t ⟨s.g, s.v, a⟩
@[irreducible] def ifb {α : Type} (b : Bool) (x y : Option α) : Option α := if b = true then x else y
def sv (τ : Ty) (x : τ.T) : Sv := ⟨τ, x⟩
def rdv (σ : St) : Operand → Option Sv
  | .tmp t => match σ.av t with
    | .d τ x f => if f.ok τ then some ⟨τ, x⟩ else none
    | .vw τ x h _ g v => if σ.valid h g v then some ⟨τ, x⟩ else none
    | _ => none
  | .const (.int k n) => some (sv (.int k) n)
  | .const (.bool b) => some (sv .bool b)
  | .const (.string s) => some (sv .str s)
  | _ => none
def AV.fixd : AV → Bool
  | .d _ _ f => decide (f = .ro)
  | .un => true
  | _ => false
structure q6f where
  ts : List (TypeId × Ty)
  gs : List (Nat × IntKind × List Int)
def q6f.of (E : q6f) (t : TypeId) : Option Ty := E.ts.lookup t
def rdT (E : q6f) (σ : St) (t : TypeId) : Operand → Option Sv
  | .const (.slice none 0 0) => match E.of t with | some (.row e) => some (sv (.row e) []) | _ => none
  | o => rdv σ o
def copy (E : q6f) (σ : St) (t : TypeId) : Operand → AV
  | .tmp u => let s := σ.slot u; match s.a with
    | .d τ x f => if f.isRo τ then .d τ x .ro else if f.ok τ then .vw τ x u (some []) s.g s.v else .no
    | .box _ _ _ _ => .ref u [] s.g 0
    | .tup l => if l.all AV.fixd then .tup l else .no
    | a => a
  | .func f => .fn f
  | .const (.slice none 0 0) => match E.of t with
    | some (.row e) => .d (.row e) [] (.own e.full)
    | _ => .no
  | o => match rdv σ o with
    | some ⟨τ, x⟩ => .d τ x .ro
    | none => .no
def take (E : q6f) (σ : St) (t : TypeId) : Operand → Option (AV × St)
  | .tmp u => match σ.av u with
    | .d τ x f => if f.isRo τ then some (.d τ x .ro, σ) else some (.d τ x f, σ.put u .no)
    | .vw τ x h p g v => if σ.valid h g v then match p with
        | some p => if p.fields then match σ.av h with
            | .d τ' x' f' => some (.d τ x (f'.at p), σ.turn h (.d τ' x' (f'.put p .gone)))
            | .box τ' x' f' s => some (.d τ x (f'.at p), σ.turn h (.box τ' x' (f'.put p .gone) s))
            | _ => none else none
        | none => none else none
    | .box τ x f s => some (.box τ x f s, σ.put u .no)
    | .tup _ => none
    | .no => none
    | a => some (a, σ)
  | o => some (copy E σ t o, σ)
def q5x (n : Nat) : Bool := Nat.ble n 9223372036854775807
theorem qut {n : Nat} (h : q5x n = true) : (n : Int) ≤ IntKind.i64.max := by
  have h := Nat.le_of_ble_eq_true h
  have e : IntKind.i64.max = 9223372036854775807 := by decide
  rw [e]; omega
theorem q4h {n : Nat} (h : n ≤ 9223372036854775807) : q5x n = true := Nat.ble_eq_true_of_le h
end Go.Proofs.YtjfkeknnjjlepaaGreatDoor.Rf
end

section
/- How a function's text is run over plain values: operations, regions, code. Nothing of any program. -/
namespace Go.Proofs.YtjfkeknnjjlepaaGreatDoor.Rf
open Go Go.RowKit
set_option linter.unusedVariables false
def q7n : Ty → Nat → Option Path
  | .st a, i => go a i
  | _, _ => none
where go : Ty → Nat → Option Path
  | .pair _ _, 0 => some [.fst]
  | .pair _ b, i + 1 => match go b i with | some p => some (.snd :: p) | none => none
  | _, 0 => some []
  | _, _ => none
def Fl.meet (f g : Fl) : Fl := if f = g then f else .ro
def AV.frz : AV → AV
  | .d τ x f => .d τ x .ro
  | a => a
def AV.plain : AV → Bool
  | .d _ _ _ => true
  | .box _ _ _ _ => true
  | .un => true
  | .no => true
  | _ => false
def q8p (E : q6f) (σ : St) (t : TypeId) (o : Operand) : Option (Sv × Fl × St) := match take E σ t o with
  | some (.d τ x f, σ) => if f.ok τ then some (⟨τ, x⟩, f, σ) else none
  | _ => none
def AV.ty : AV → Option Ty
  | .d τ _ _ => some τ
  | .vw τ _ _ _ _ _ => some τ
  | _ => none
def takeN (E : q6f) (σ : St) (τ : Ty) : Operand → Option (Sv × Fl × St)
  | .const (.slice none 0 0) => match τ with
    | .row e => some (sv (.row e) [], .own e.full, σ)
    | _ => none
  | o => q8p E σ 0 o
def parts (E : q6f) (τ : Ty) : List (Nat × Operand) → (x : τ.T) → Fl → St → Option (τ.T × Fl × St)
  | [], x, f, σ => some (x, f, σ)
  | (i, o) :: l, x, f, σ => match q7n τ i with
    | none => none
    | some p => if p.isEmpty then none else match q5f τ x p with
      | none => none
      | some s => match takeN E σ s.1 o with
        | none => none
        | some (s', f', σ) => match q7m τ x p s' with
          | none => none
          | some y => parts E τ l y (f.put p f') σ
def elems (E : q6f) (e : Ty) (g : Fl) : List (Nat × Operand) → List e.T → St → Option (List e.T × St)
  | [], l, σ => some (l, σ)
  | (i, o) :: ps, l, σ => match takeN E σ e o with
    | none => none
    | some (s, f', σ) => match q6h e s with
      | none => none
      | some y => if i < l.length then if f' = g || (g = .ro && f'.ok e) || e.flat then elems E e g ps (l.set i y) σ else none else none
def deref (σ : St) (u : Tmp) : Option AV := let s := σ.slot u; match s.a with
  | .box τ x f _ => if f.isRo τ then some (.d τ x .ro) else if f.ok τ then some (.vw τ x u (some []) s.g s.v) else none
  | .ref h p g v => let c := σ.slot h; if c.g == g && (p.fields || c.v == v) then
      match (match c.a with | .box τ x f _ => some (sv τ x, f) | .d τ x f => some (sv τ x, f) | _ => none) with
      | some (⟨τ, x⟩, f) => match q5f τ x p with
        | some ⟨τ', y⟩ => let f' := f.at p; if f'.isRo τ' then some (.d τ' y .ro) else if f'.ok τ' then some (.vw τ' y h (if p.fields then some p else none) c.g c.v) else none
        | none => none
      | none => none
    else none
  | .rp τ x none => some (.d τ x .ro)
  | .rp τ x (some (h, g, v)) => if σ.valid h g v then (if τ.flat then some (.d τ x .ro) else some (.vw τ x h none g v)) else none
  | .ap h i g v => if σ.valid h g v then match σ.av h with
      | .box (.arr m k) x f _ => if f = .gone then none else some (.d (.int k) (x.getD i 0) .ro)
      | _ => none
    else none
  | _ => none
def qxu (τ : Ty) (x : τ.T) (p : Path) (h : Option (Tmp × Nat × Nat)) : Option AV := match q5f τ x p with
  | some ⟨τ', y⟩ => some (.rp τ' y h)
  | none => none
def quu (E : q6f) (σ : St) (s : TypeId) (u : Tmp) (i : Nat) : Option AV := match E.of s with
  | none => none
  | some τ => match q7n τ i with
    | none => none
    | some q => let c := σ.slot u; match c.a with
      | .box τ' x f _ => if τ' = τ then some (.ref u q c.g c.v) else none
      | .ref h p g v => if refOk σ h p g v then match (match σ.av h with | .box τ0 x0 _ _ => q5f τ0 x0 p | .d τ0 x0 _ => q5f τ0 x0 p | _ => none) with
        | some s => if s.1 = τ then some (.ref h (p ++ q) g v) else none
        | none => none else none
      | .rp τ' x none => if τ' = τ then qxu τ' x q none else none
      | .rp τ' x (some (h, g, v)) => if τ' = τ && σ.valid h g v then qxu τ' x q (some (h, g, v)) else none
      | _ => none
def poke (σ : St) (u : Tmp) (s : Sv) (f : Fl) : Option St := let c := σ.slot u; match c.a with
  | .box τ x g none => match q6h τ s with
    | some y => some (σ.turn u (.box τ y f none))
    | none => none
  | .ref h p g v => let c := σ.slot h; if c.g == g && (p.fields || c.v == v) then match c.a with
      | .box τ x f' r => match q7m τ x p s with
        | some y => if p.fields then (if r.isNone then some (σ.turn h (.box τ y (f'.put p f) none)) else none) else if f'.at p = f.meet (f'.at p) then some (σ.turn h (.box τ y f' r)) else none
        | none => none
      | .d τ x f' => match q7m τ x p s with
        | some y => if f'.at p = f.meet (f'.at p) then some (σ.turn h (.d τ y f')) else none
        | none => none
      | _ => none
    else none
  | .ap h i g v => if σ.valid h g v then match σ.av h with
      | .box (.arr m k) x f' none => match q6h (.int k) s with
        | some y => if f' = .gone then none else some (σ.turn h (.box (.arr m k) (x.set i y) f' none))
        | none => none
      | _ => none
    else none
  | _ => none
def qns (σ : St) (u : Tmp) (e : Ty) (i : Nat) : Option (List e.T × AV) := let s := σ.slot u; match s.a with
  | .d τ l f => match q6h (.row e) ⟨τ, l⟩ with
    | some l => if f.isRo τ then some (l, .rp e (l.getD i e.z) none) else if qdp f [.idx i] then some (l, .ref u [.idx i] s.g s.v) else none
    | none => none
  | .vw τ l hh p g v => if σ.valid hh g v then match q6h (.row e) ⟨τ, l⟩ with
    | some l => match p with
      | none => some (l, .rp e (l.getD i e.z) (some (hh, g, v)))
      | some p => match σ.av hh with
        | .d _ _ f => if qdp f (p ++ [.idx i]) then some (l, .ref hh (p ++ [.idx i]) g v) else none
        | .box _ _ f _ => if qdp f (p ++ [.idx i]) then some (l, .ref hh (p ++ [.idx i]) g v) else none
        | _ => none
    | none => none else none
  | _ => none
def qu1 (E : q6f) (σ : St) (m : Nat) (k : IntKind) : Operand → Nat → Option AV
  | .tmp u, i => let s := σ.slot u; match s.a with
    | .box (.arr m' k') x f _ => if m' = m ∧ k' = k then some (.ap u i s.g s.v) else none
    | .ref h [] g v => if (σ.slot h).g == g then match σ.av h with
      | .box (.arr m' k') x f _ => if m' = m ∧ k' = k then some (.ap h i g (σ.slot h).v) else none
      | _ => none else none
    | _ => none
  | .global n, i => match E.gs.lookup n with
    | some (k', l) => if k' = k ∧ l.length = m + 1 then some (.rp (.int k) (l.getD i 0) none) else none
    | none => none
  | _, _ => none
def qp0 (σ : St) (k : IntKind) : List (Nat × Operand) → List Int → Option (List Int)
  | [], l => some l
  | (i, o) :: ps, l => match rdv σ o with
    | some ⟨.int k', y⟩ => if k' = k ∧ i < l.length then qp0 σ k ps (l.set i y) else none
    | _ => none
def bin (t : Option Ty) (op : BinOp) (a b : Sv) : Option (Bool × Sv) := match a, b with
  | ⟨.int k, x⟩, ⟨.int j, y⟩ => match op with
    | .shl => some (decide (0 ≤ y), sv (.int k) (k.wrap (x * 2 ^ (min y.toNat k.bits))))
    | .shr => some (decide (0 ≤ y), sv (.int k) (x.fdiv (2 ^ (min y.toNat k.bits))))
    | _ => if k = j then match op with
      | .add => some (true, sv (.int k) (k.wrap (x + y)))
      | .sub => some (true, sv (.int k) (k.wrap (x - y)))
      | .mul => some (true, sv (.int k) (k.wrap (x * y)))
      | .quo => some (decide (y ≠ 0), sv (.int k) (k.wrap (x.tdiv y)))
      | .rem => some (decide (y ≠ 0), sv (.int k) (x.tmod y))
      | .and => some (true, sv (.int k) (k.wrap (BitVec.ofInt k.bits x &&& BitVec.ofInt k.bits y).toNat))
      | .or => some (true, sv (.int k) (k.wrap (BitVec.ofInt k.bits x ||| BitVec.ofInt k.bits y).toNat))
      | .xor => some (true, sv (.int k) (k.wrap (BitVec.ofInt k.bits x ^^^ BitVec.ofInt k.bits y).toNat))
      | .andNot => some (true, sv (.int k) (k.wrap (BitVec.ofInt k.bits x &&& ~~~(BitVec.ofInt k.bits y)).toNat))
      | .eql => some (true, sv .bool (x == y))
      | .neq => some (true, sv .bool (x != y))
      | .lss => some (true, sv .bool (decide (x < y)))
      | .leq => some (true, sv .bool (decide (x ≤ y)))
      | .gtr => some (true, sv .bool (decide (x > y)))
      | .geq => some (true, sv .bool (decide (x ≥ y)))
      | _ => none
      else none
  | ⟨.str, x⟩, ⟨.str, y⟩ => match op with
    | .add => some (q5x (x.size + y.size), sv .str (x ++ y))
    | .eql => some (true, sv .bool (x.toList == y.toList))
    | .neq => some (true, sv .bool !(x.toList == y.toList))
    | .lss => some (true, sv .bool (Op.bytesLess x.toList y.toList))
    | .leq => some (true, sv .bool (Op.bytesLess x.toList y.toList || x.toList == y.toList))
    | .gtr => some (true, sv .bool !(Op.bytesLess x.toList y.toList || x.toList == y.toList))
    | .geq => some (true, sv .bool !(Op.bytesLess x.toList y.toList))
    | _ => none
  | ⟨.bool, x⟩, ⟨.bool, y⟩ => if t = some .bool then match op with
    | .eql => some (true, sv .bool (x == y))
    | .neq => some (true, sv .bool !(x == y))
    | _ => none else none
  | ⟨.st a, x⟩, ⟨.st b, y⟩ => if h : b = a then if t = some (.st a) then (match op with
    | .eql => if a.flat && decide ((Ty.st a).dp ≤ 10000) then some (true, sv .bool (eqT (.st a) x (h ▸ y))) else none
    | .neq => if a.flat && decide ((Ty.st a).dp ≤ 10000) then some (true, sv .bool !(eqT (.st a) x (h ▸ y))) else none
    | _ => none) else none else none
  | _, _ => none
where eqT : (a : Ty) → a.T → a.T → Bool
  | .int _, x, y => x == y
  | .bool, x, y => x == y
  | .str, x, y => x.toList == y.toList
  | .row _, _, _ => false
  | .pair a b, x, y => eqT a x.1 y.1 && eqT b x.2 y.2
  | .st a, x, y => eqT a x y
  | .arr _ _, _, _ => false
def un1 (op : UnOp) : Sv → Option Sv
  | ⟨.int k, x⟩ => match op with
    | .neg => some (sv (.int k) (k.wrap (0 - x)))
    | .xor => some (sv (.int k) (k.wrap (BitVec.ofInt k.bits (if k.signed then -1 else k.max) ^^^ BitVec.ofInt k.bits x).toNat))
    | _ => none
  | ⟨.bool, b⟩ => match op with
    | .not => some (sv .bool !b)
    | _ => none
  | _ => none
def strOf (l : List Int) : ByteArray := ⟨(l.map fun n => UInt8.ofNat n.toNat).toArray⟩
def bytesOf (s : ByteArray) : List Int := s.data.toList.map fun b => (b.toNat : Int)
def q38 (s : ByteArray) (i : Int) : Int := if h : i.toNat < s.size then ((s[i.toNat]'h).toNat : Int) else 0
def conv (τ : Ty) : Sv → Option (Sv × Fl)
  | ⟨.int _, x⟩ => match τ with
    | .int k => some (sv (.int k) (k.wrap x), .ro)
    | _ => none
  | ⟨.str, s⟩ => match τ with
    | .str => some (sv .str s, .ro)
    | .row (.int .u8) => some (sv (.row (.int .u8)) (bytesOf s), .own .ro)
    | _ => none
  | ⟨.row (.int .u8), l⟩ => match τ with
    | .str => some (sv .str (strOf l), .ro)
    | _ => none
  | _ => none
def asI : Option Sv → Option Int
  | some ⟨.int _, x⟩ => some x
  | _ => none
def bnd (σ : St) (d : Int) : Option Operand → Option Int
  | none => some d
  | some o => asI (rdv σ o)
def q1m : Nat := 140737488355328
def qp1 (e : Ty) : Sv → Option (List e.T)
  | ⟨.str, b⟩ => q6h (.row e) (sv (.row (.int .u8)) (bytesOf b))
  | s => q6h (.row e) s
def q5c (E : q6f) (σ : St) (b : Builtin) (ts : List TypeId) (az : List Operand) : Option (Bool × AV × St) := match b, ts, az with
  | .len, [t], [x] => match rdT E σ t x with
    | some ⟨.str, s⟩ => if E.of t ≠ some .str then none else some (true, .d (.int .i64) (s.size : Int) .ro, σ)
    | some ⟨.row e, l⟩ => if E.of t ≠ some (.row e) then none else some (true, .d (.int .i64) (l.length : Int) .ro, σ)
    | _ => none
  | .append, [t, t'], [x, y] => match q8p E σ t x with
    | some (⟨.row e, l⟩, .own g, σ) => if E.of t ≠ some (.row e) then none else if e.flat then
        match rdT E σ t' y with
        | some s => if E.of t' ≠ some s.1 then none else match qp1 e s with
          | some m => some (decide ((l.length + m.length) * e.by ≤ q1m), .d (.row e) (l ++ m) (.own g), σ)
          | none => none
        | none => none
      else match q8p E σ t' y with
        | some (s, f, σ) => if E.of t' ≠ some s.1 then none else match q6h (.row e) s with
          | some m => some (decide ((l.length + m.length) * e.by ≤ q1m), .d (.row e) (l ++ m) (.own (if f = .own g then g else .ro)), σ)
          | none => none
        | none => none
    | _ => none
  | .copy, [t, _], [.tmp u, y] => match σ.av u with
    | .vw (.row (.int .u8)) _ h (some []) g0 v0 => if σ.valid h g0 v0 then match σ.av h, rdv σ y with
      | .d (.row (.int .u8)) l (.own g), some ⟨.str, s⟩ => if E.of t ≠ some (.row (.int .u8)) then none else if g = .gone then none else
          some (true, .d (.int .i64) ((min s.size l.length : Nat) : Int) .ro, σ.turn h (.d (.row (.int .u8)) ((bytesOf s).take l.length ++ l.drop s.size) (.own g)))
      | _, _ => none else none
    | _ => none
  | .min, [_, _], [x, y] => match rdv σ x, rdv σ y with
    | some ⟨.int k, a⟩, some ⟨.int j, b⟩ => if k = j then some (true, .d (.int k) (if b < a then b else a) .ro, σ) else none
    | _, _ => none
  | .max, [_, _], [x, y] => match rdv σ x, rdv σ y with
    | some ⟨.int k, a⟩, some ⟨.int j, b⟩ => if k = j then some (true, .d (.int k) (if b > a then b else a) .ro, σ) else none
    | _, _ => none
  | _, _, _ => none
def mv (E : q6f) (σ : St) (t : TypeId) : Operand → AV × St
  | .tmp u => match σ.av u with
    | .tup l => (.tup l, if l.all AV.fixd then σ else σ.put u .no)
    | _ => (copy E σ t (.tmp u), σ)
  | o => (copy E σ t o, σ)
def op1 (E : q6f) (σ : St) (o : Oper) : Option (Bool × AV × St) := match o.op with
  | .move x => let r := mv E σ o.type x; some (true, r.1, r.2)
  | .assign x => match take E σ o.type x with
    | some (a, σ) => some (true, a, σ)
    | none => none
  | .makeFunc (.func f) fst cap => match fst.toList, cap.toList with
    | [], [.tmp t] => match σ.av t with
      | .box _ _ _ _ => some (true, .cl f t (σ.slot t).g, σ)
      | _ => none
    | _, _ => none
  | .alloc t => match E.of t with
    | some τ => some (true, .box τ τ.z (τ.full) none, σ)
    | none => none
  | .box t x => match E.of t with
    | some τ => match q8p E σ t x with
      | some (s, f, σ) => match q6h τ s with
        | some y => some (true, .box τ y f none, σ)
        | none => none
      | none => none
    | none => none
  | .build t ps => match E.of t with
    | some (.arr m k) => (qp0 σ k ps.toList (List.replicate (m + 1) 0)).map fun l => (true, .d (.arr m k) l .ro, σ)
    | some τ => match parts E τ ps.toList τ.z (τ.full) σ with
      | some (x, f, σ) => if τ.isSt then some (true, .d τ x f, σ) else none
      | none => none
    | none => none
  | .buildSlice t n ps => match E.of t with
    | some (.row e) => if n * e.n > 16777216 then none else match elems E e e.full ps.toList (List.replicate n e.z) σ with
      | some (l, σ) => some (true, .d (.row e) l (.own e.full), σ)
      | none => match elems E e .ro ps.toList (List.replicate n e.z) σ with
        | some (l, σ) => some (true, .d (.row e) l (.own .ro), σ)
        | none => none
    | _ => none
  | .load t (.tmp u) => match deref σ u with
    | some a => if a.ty = E.of t then some (true, a, σ) else none
    | none => none
  | .store t (.tmp u) x => match q8p E σ t x with
    | some (s, f, σ) => if E.of t = some s.1 then match poke σ u s f with
      | some σ => some (true, .un, σ)
      | none => none else none
    | none => none
  | .nilCheck (.tmp u) => match σ.av u with
    | .box _ _ _ _ => some (true, copy E σ 0 (.tmp u), σ)
    | .ref h p g v => if refOk σ h p g v then some (true, copy E σ 0 (.tmp u), σ) else none
    | .rp _ _ none => some (true, copy E σ 0 (.tmp u), σ)
    | _ => none
  | .binOp op t x y _ => match rdv σ x, rdv σ y with
    | some a, some b => match bin (E.of t) op a b with
      | some (g, s) => some (g, .d s.1 s.2 .ro, σ)
      | none => none
    | _, _ => none
  | .unOp op _ x => match rdv σ x with
    | some a => match un1 op a with
      | some s => some (true, .d s.1 s.2 .ro, σ)
      | none => none
    | none => none
  | .convert t' t x => match E.of t, rdv σ x with
    | some τ, some s => if E.of t' = some s.1 then match conv τ s with
      | some (s, f) => some (true, .d s.1 s.2 f, σ)
      | none => none else none
    | _, _ => none
  | .makeSlice t l c => match E.of t, asI (rdv σ l), asI (rdv σ c) with
    | some (.row e), some n, some m => some (decide (0 ≤ n) && (decide (n ≤ m) && decide (m * e.by ≤ (q1m : Int))), .d (.row e) (List.replicate n.toNat e.z) (.own (e.full)), σ)
    | _, _, _ => none
  | .slice t (.tmp u) lo hi none => match rdv σ (.tmp u) with
    | some ⟨.str, s⟩ => if E.of t = some .str then match bnd σ 0 lo, bnd σ s.size hi with
      | some a, some b => some (decide (0 ≤ a) && (decide (a ≤ b) && decide (b ≤ s.size)), .d .str (s.extract a.toNat b.toNat) .ro, σ)
      | _, _ => none else none
    | some ⟨.row e, l⟩ => if E.of t = some (.row e) then match bnd σ 0 lo, bnd σ l.length hi with
      | some a, some b => match (let c := σ.slot u; match c.a with
          | .d τ _ f => if f.isRo τ then some none else some (some (u, c.g, c.v))
          | .vw _ _ h _ g v => some (some (h, g, v))
          | _ => none : Option (Option (Tmp × Nat × Nat))) with
        | some hh => let m := (l.take b.toNat).drop a.toNat
          some (decide (0 ≤ a) && (decide (a ≤ b) && decide (b ≤ l.length)), match hh with | none => .d (.row e) m .ro | some (h, g, v) => .vw (.row e) m h none g v, σ)
        | none => none
      | _, _ => none else none
    | _ => none
  | .fieldAddr s (.tmp u) i => match quu E σ s u i with
    | some a => some (true, a, σ)
    | none => none
  | .field s (.tmp u) i => match E.of s with
    | some τ => match q7n τ i with
      | some q => if q.isEmpty then none else match (let c := σ.slot u; match c.a with
          | .d τ' x f => if τ' ≠ τ then none else if f.isRo τ' then (q5f τ' x q).map fun s => .d s.1 s.2 .ro else match q5f τ' x q with
            | some s => if (f.at q).isRo s.1 then some (.d s.1 s.2 .ro) else if (f.at q).ok s.1 then some (.vw s.1 s.2 u (some q) c.g c.v) else none
            | none => none
          | .vw τ' x h p g v => if τ' = τ && σ.valid h g v then (q5f τ' x q).map fun s => if s.1.flat then .d s.1 s.2 .ro else .vw s.1 s.2 h (p.map (· ++ q)) g v else none
          | _ => none : Option AV) with
        | some a => some (true, a, σ)
        | none => none
      | none => none
    | none => none
  | .indexAddr t x i => match E.of t, asI (rdv σ i) with
    | some (.row e), some n => match x with
      | .tmp u => match qns σ u e n.toNat with
        | some (l, a) => some (decide (0 ≤ n) && decide (n < l.length), a, σ)
        | none => none
      | _ => none
    | some (.arr m k), some n => (qu1 E σ m k x n.toNat).map fun a => (decide (0 ≤ n) && decide (n < m + 1), a, σ)
    | _, _ => none
  | .index t x i => match rdv σ x, asI (rdv σ i) with
    | some ⟨.str, s⟩, some n => if E.of t ≠ some .str then none else some (decide (0 ≤ n) && decide (n < s.size), .d (.int .u8) (q38 s n) .ro, σ)
    | some ⟨.arr m k, l⟩, some n => if E.of t ≠ some (.arr m k) then none else some (decide (0 ≤ n) && decide (n < m + 1), .d (.int k) (l.getD n.toNat 0) .ro, σ)
    | _, _ => none
  | .extract (.tmp u) i => match σ.av u with
    | .tup l => match l[i]? with
      | some a => if l.all AV.plain then some (true, a, if a.fixd then σ else σ.turn u (.tup (l.set i .no))) else none
      | none => none
    | _ => none
  | .call c => match c.callee with
    | .builtin b => q5c E σ b c.argTypes.toList c.args.toList
    | _ => none
  | _ => none
inductive Md where
  | rd | own (f : Fl) | bx (f : Fl) | io (f : Fl)
  deriving DecidableEq
structure Par where
  τ : Ty
  m : Md
structure Res where
  τ : Ty
  f : Fl
  bx : Bool
@[reducible] def q63 : List Ty → Type
  | [] => Unit
  | [a] => a.T
  | a :: b :: l => a.T × q63 (b :: l)
def Par.isBx (p : Par) : Bool := match p.m with | .bx _ => true | _ => false
def Par.isIn (p : Par) : Bool := match p.m with | .bx _ => true | .io _ => true | _ => false
def outs (ps : List Par) (rs : List Res) : List Ty := rs.map (·.τ) ++ (ps.filter (·.isIn)).map (·.τ)
structure CE where
  ps : List Par
  rs : List Res
  F : q63 (ps.map (·.τ)) → Option (q63 (outs ps rs))
abbrev CEs := List (FuncId × CE)
def qg9 : (l : List Ty) → List Sv → Option (q63 l)
  | [], [] => some ()
  | [a], [s] => q6h a s
  | a :: b :: l, s :: ss => match q6h a s, qg9 (b :: l) ss with
    | some x, some y => some (x, y)
    | _, _ => none
  | _, _ => none
def unpack : (l : List Ty) → q63 l → List Sv
  | [], _ => []
  | [a], x => [⟨a, x⟩]
  | a :: b :: l, x => ⟨a, x.1⟩ :: unpack (b :: l) x.2
def qd3 (σ : St) : Operand → Option (Tmp × Sv × Fl)
  | .tmp u => match σ.av u with
    | .box τ x f none => some (u, ⟨τ, x⟩, f)
    | .ref h [] g _ => if (σ.slot h).g == g then match σ.av h with
      | .box τ x f none => some (h, ⟨τ, x⟩, f)
      | _ => none else none
    | _ => none
  | _ => none
def qy1 (σ : St) : Operand → Option (Tmp × Path × Sv × Fl × St)
  | .tmp u => match σ.av u with
    | .d τ x f => some (u, [], ⟨τ, x⟩, f, σ.turn u (.d τ x .gone))
    | .vw τ x h p g v => if σ.valid h g v then match p with
        | some p => if p.fields then match σ.av h with
            | .d τ' x' f' => some (h, p, ⟨τ, x⟩, f'.at p, σ.turn h (.d τ' x' (f'.put p .gone)))
            | .box τ' x' f' s => some (h, p, ⟨τ, x⟩, f'.at p, σ.turn h (.box τ' x' (f'.put p .gone) s))
            | _ => none else none
        | none => none else none
    | _ => none
  | _ => none
structure Bk where
  h : Tmp
  p : Option Path
  f : Fl
def Bk.box (b : Bk) : Option Tmp := match b.p with | none => some b.h | some _ => none
def ql4 (σ : St) (k : Bk) (s : Sv) : St := match k.p with
  | none => σ.turn k.h (.box s.1 s.2 k.f none)
  | some p => match σ.av k.h with
    | .d τ x f => match q7m τ x p s with
      | some y => σ.turn k.h (.d τ y (f.put p k.f))
      | none => σ.put k.h .no
    | .box τ x f q => match q7m τ x p s with
      | some y => σ.turn k.h (.box τ y (f.put p k.f) q)
      | none => σ.put k.h .no
    | _ => σ
def give (E : q6f) : List Par → List TypeId → List Operand → St → Option (List (Option Sv) × Option Bk × St)
  | [], _, [], σ => some ([], none, σ)
  | p :: ps, t :: ts, o :: os, σ => match p.m with
    | .rd => match give E ps ts os σ with
      | some (l, b, σ) => some (none :: l, b, σ)
      | none => none
    | .own f => match q8p E σ t o with
      | some (s, f', σ) => if f' = f then match give E ps ts os σ with
        | some (l, b, σ) => some (some s :: l, b, σ)
        | none => none else none
      | none => none
    | .bx f => match give E ps ts os σ with
      | some (l, none, σ) => match qd3 σ o with
        | some (h, s, f') => if f' = f then some (some s :: l, some ⟨h, none, f⟩, σ) else none
        | none => none
      | _ => none
    | .io f => match give E ps ts os σ with
      | some (l, none, σ) => match qy1 σ o with
        | some (h, q, s, f', σ) => if f' = f then some (some s :: l, some ⟨h, some q, f⟩, σ) else none
        | none => none
      | _ => none
  | _, _, _, _ => none
def St.less (σ : St) : Option Tmp → St
  | some h => σ.turn h .no
  | none => σ
def stays (σ : St) (s : Sv) : Operand → Bool
  | .tmp u => s.1.flat || match σ.av u with
    | .d τ _ f => f.isRo τ
    | _ => false
  | _ => true
def qa5 (E : q6f) (σ : St) : List (Option Sv) → List TypeId → List Operand → Option (List Sv × Bool)
  | [], _, [] => some ([], false)
  | s :: l, t :: ts, o :: os => match qa5 E σ l ts os with
    | none => none
    | some (ss, b) => match s with
      | some s => some (s :: ss, b)
      | none => match rdT E σ t o with
        | some s => some (s :: ss, b || !stays σ s o)
        | none => none
  | _, _, _ => none
def Fl.noro : Ty → Fl → Bool
  | .pair a b, f => noro a f.l && noro b f.r
  | .st a, f => noro a f
  | .row e, .own g => noro e g
  | .row _, _ => false
  | _, _ => true
def q5w : List Res → List Sv → List AV
  | r :: rs, s :: ss => (if r.bx then .box s.1 s.2 r.f none else .d s.1 s.2 r.f) :: q5w rs ss
  | _, _ => []
def q9x : List AV → AV
  | [] => .un
  | [a] => a
  | l => .tup l
def Par.noro (p : Par) : Bool := match p.m with
  | .bx f => f.noro p.τ
  | .io f => f.noro p.τ
  | _ => true
def CE.noro (c : CE) : Bool := c.rs.all (fun r => r.f.noro r.τ) && c.ps.all (·.noro)
def q76 (E : q6f) (C : CEs) (o : Oper) (σ : St) : Option ((ce : CE) × (q63 (ce.ps.map (·.τ))) × (q63 (outs ce.ps ce.rs) → St)) := match o.op with
  | .call ⟨.value (.func f), az, ts⟩ => match C.lookup f with
    | some ce => match give E ce.ps ts.toList az.toList σ with
      | some (l, b, σ1) => match qa5 E (σ1.less (b.bind Bk.box)) l ts.toList az.toList with
        | some (ss, lent) => if lent && !ce.noro then none else match qg9 (ce.ps.map (·.τ)) ss with
          | some x => some ⟨ce, x, fun r => let us := unpack _ r
              (match b with
                | some k => match us[ce.rs.length]? with
                  | some s => ql4 σ1 k s
                  | none => σ1
                | none => σ1).putO o.dst (q9x (q5w ce.rs us))⟩
          | none => none
        | none => none
      | none => none
    | none => none
  | _ => none
def nAV (f : Option Fl) : AV → AV
  | .d τ x f' => match f with
    | some f => if f' = f then .d τ x f' else if f = .ro && f'.ok τ then .d τ x .ro else .no
    | none => .no
  | .box τ x f' sr => match f with
    | some f => if f' = f then .box τ x f' sr else if f = .ro && (f'.ok τ && sr.isNone) then .box τ x .ro sr else .no
    | none => .no
  | _ => .no
def AV.cold (f : Option Fl) : AV → Bool
  | .box τ _ f' sr => match f with
    | some f => !decide (f' = f) && (decide (f = .ro) && (f'.ok τ && sr.isNone))
    | none => false
  | _ => false
def AV.live : AV → Bool
  | .d _ _ _ => true
  | .box _ _ _ _ => true
  | _ => false
def AV.isBox : AV → Bool
  | .box _ _ _ _ => true
  | _ => false
def ql5 (σ : St) (L : List (Tmp × Fl)) (t : Nat) (s : Slot) : AV := match L.lookup t with
  | none => .no
  | some f => match s.a with
    | .vw τ x h p g v => if σ.valid h g v && !(σ.av h).cold (L.lookup h) then .vw τ x h (if (nAV (L.lookup h) (σ.av h)).live then p else none) 0 0 else .no
    | .ref h p g v => if refOk σ h p g v && (p.fields && (nAV (L.lookup h) (σ.av h)).isBox) then .ref h p 0 0 else .no
    | .rp τ x none => .rp τ x none
    | .rp τ x (some (h, g, v)) => if σ.valid h g v && !(σ.av h).cold (L.lookup h) then .rp τ x (some (h, 0, 0)) else .no
    | .fn f => .fn f
    | .cl f h g => if (σ.slot h).g = g && (nAV (L.lookup h) (σ.av h)).isBox then .cl f h 0 else .no
    | .un => .un
    | a => nAV (some f) a
def qdq (σ : St) (L : List (Tmp × Fl)) : Nat → List Slot → List Slot
  | _, [] => []
  | t, s :: l => ⟨0, 0, ql5 σ L t s⟩ :: qdq σ L (t + 1) l
def norm (L : Option (List (Tmp × Fl))) (σ : St) : St := match L with
  | none => σ
  | some L => qdq σ L 0 σ
def q6n (σ : St) : List Par → List Operand → List Tmp
  | p :: ps, o :: os => (match p.m with
    | .rd => (match o with
      | .tmp u => (match σ.av u with | .d τ _ f => if τ.flat || f.isRo τ then [] else [u] | _ => [])
      | _ => [])
    | _ => []) ++ q6n σ ps os
  | _, _ => []
def qs3 (σ : St) (u : Tmp) : St := match σ.av u with
  | .d τ x f => if f.ok τ then (σ.put u .no).put u (.d τ x .ro) else σ
  | _ => σ
def pre (C : CEs) (o : Oper) (σ : St) : St := match o.op with
  | .call ⟨.value (.func f), az, _⟩ => match C.lookup f with
    | some ce => if ce.ps.any (·.isIn) && !ce.noro then (q6n σ ce.ps az.toList).foldl qs3 σ else σ
    | none => σ
  | _ => σ
def clo (σ : St) (o : Oper) : Oper := match o.op with
  | .call ⟨.value (.tmp u), az, ts⟩ => match σ.av u with
    | .cl f h g => if (σ.slot h).g = g then { o with op := .call ⟨.value (.func f), az.push (.tmp h), ts.push 0⟩ } else o
    | _ => o
  | _ => o
section
variable {ρ : Type}
def qhl (E : q6f) (C : CEs) (o : Oper) (σ : St) : Option St := match o.op with
  | .pick c a b => match rdv σ c with
    | some ⟨.bool, x⟩ => some (σ.putO o.dst (copy E σ o.type (if x = true then a else b)))
    | _ => none
  | .call ⟨.value _, _, _⟩ => match q76 E C (clo σ o) (pre C (clo σ o) σ) with
    | some ⟨ce, x, k⟩ => (ce.F x).map k
    | none => none
  | _ => match op1 E σ o with
    | some (g, a, σ) => if g = true then some (σ.putO o.dst a) else none
    | none => none
def qat (E : q6f) (C : CEs) (ops : Array Oper) (o : Oper) (σ : St) : Option St := match o.guard with
  | none => qhl E C o σ
  | some (j, want) => match (ops[j]?).bind (·.dst) with
    | none => none
    | some g => match σ.av g with
      | .un => some (σ.putO o.dst .un)
      | .d .bool b .ro => if b = want then qhl E C o σ else some (σ.putO o.dst .un)
      | _ => none
def qp2 (E : q6f) (C : CEs) (o : Oper) (σ : St) (K : St → Option ρ) : Option ρ := match o.op with
  | .pick c a b => match rdv σ c with
    | some ⟨.bool, x⟩ => ifb x (K (σ.putO o.dst (copy E σ o.type a))) (K (σ.putO o.dst (copy E σ o.type b)))
    | _ => none
  | .call ⟨.value _, _, _⟩ => match q76 E C (clo σ o) (pre C (clo σ o) σ) with
    | some ⟨ce, x, k⟩ => (ce.F x).bind fun r => K (k r)
    | none => none
  | _ => match op1 E σ o with
    | some (g, a, σ) => ifb g (K (σ.putO o.dst a)) none
    | none => none
def qs4 (E : q6f) (C : CEs) (ops : Array Oper) (o : Oper) (σ : St) (K : St → Option ρ) : Option ρ := match o.guard with
  | none => qp2 E C o σ K
  | some (j, want) => match (ops[j]?).bind (·.dst) with
    | none => none
    | some g => match σ.av g with
      | .un => K (σ.putO o.dst .un)
      | .d .bool b .ro => match want with
        | true => ifb b (qp2 E C o (σ.know g (.d .bool true .ro)) K) (K ((σ.know g (.d .bool false .ro)).putO o.dst .un))
        | false => ifb b (K ((σ.know g (.d .bool true .ro)).putO o.dst .un)) (qp2 E C o (σ.know g (.d .bool false .ro)) K)
      | _ => none
def qp3 (E : q6f) (C : CEs) (ops : Array Oper) : List Oper → St → (St → Option ρ) → Option ρ
  | [], σ, K => K σ
  | o :: l, σ, K => qs4 E C ops o σ fun σ => qp3 E C ops l σ K
def hold (σ : St) (u : Tmp) : List Tmp := match σ.av u with
  | .vw _ _ h _ _ _ => [u, h]
  | .ref h _ _ _ => [u, h]
  | .rp _ _ (some (h, _, _)) => [u, h]
  | .cl _ h _ => [u, h]
  | .ap h _ _ _ => [u, h]
  | _ => [u]
def tmpsOf (l : List Operand) : List Tmp := l.filterMap fun | .tmp t => some t | _ => none
def qp4 (σ : St) (o : Oper) : List Tmp := match o.op with
  | .move (.tmp u) => (match σ.av u with | .box _ _ _ _ => [u, u] | _ => [])
  | _ => []
def looks (σ : St) (o : Oper) : List Tmp := o.dst.toList ++ ((tmpsOf o.op.operands.toList).flatMap (hold σ) ++ qp4 σ o)
def q6u : Op → Bool
  | .move _ | .pick _ _ _ | .alloc _ | .load _ _ | .nilCheck _ | .binOp _ _ _ _ _ | .unOp _ _ _ | .convert _ _ _ | .makeSlice _ _ _ | .slice _ _ _ _ _ | .fieldAddr _ _ _ | .field _ _ _ | .indexAddr _ _ _ | .index _ _ _ => true
  | .call ⟨.builtin .len, _, _⟩ => true
  | _ => false
def still (σ : St) (u : Tmp) : Bool := match σ.av u with
  | .d τ _ f => f.isRo τ
  | .un => true
  | .rp _ _ none => true
  | .fn _ => true
  | .tup l => l.all AV.fixd
  | _ => false
def q64 (σ : St) : Operand → Bool
  | .tmp u => still σ u
  | _ => true
def qp5 (σ : St) : Op → Bool
  | .move (.tmp u) => (match σ.av u with | .tup l => l.all AV.fixd | _ => true)
  | _ => true
def wr1 (σ : St) : Operand → List Tmp
  | .tmp u => if still σ u then [] else hold σ u
  | _ => []
def q8q (σ : St) : List Par → List Operand → List Tmp
  | p :: ps, o :: os => (match p.m with | .own _ => wr1 σ o | _ => []) ++ q8q σ ps os
  | _, _ => []
def Par.isRd (p : Par) : Bool := match p.m with | .rd => true | _ => false
def Par.isB (p : Par) : Bool := match p.m with | .bx _ => true | _ => false
def qs5 (σ : St) (ce : CE) : List Operand → Option (List Tmp)
  | .tmp u :: os => match ce.ps with
    | p :: ps => if p.isB && ps.all (·.isRd) then some (hold σ u ++ if ce.noro then [] else q6n σ ce.ps (.tmp u :: os)) else none
    | [] => none
  | _ => none
def qev (E : q6f) (C : CEs) (σ : St) (op : Op) : Option (List Tmp) := if q6u op && qp5 σ op then some [] else match op with
  | .call ⟨.value (.func f), az, _⟩ => (match C.lookup f with | some ce => if ce.ps.any (·.isIn) then qs5 σ ce az.toList else some (q8q σ ce.ps az.toList) | none => none)
  | .call ⟨.builtin b, az, ts⟩ => (match az.toList, ts.toList with
    | [x, y], [t, _] => some (wr1 σ x ++ match E.of t with | some (.row e) => if e.flat then [] else wr1 σ y | _ => wr1 σ y)
    | _, _ => some [])
  | .assign x => some (wr1 σ x)
  | .store _ (.tmp u) x => some (hold σ u ++ wr1 σ x)
  | .move (.tmp u) => some [u]
  | .extract (.tmp u) _ => some (if still σ u then [] else [u])
  | .box _ x => some (wr1 σ x)
  | .build _ ps => some ((ps.toList.map (·.2)).flatMap (wr1 σ))
  | .buildSlice _ _ ps => some ((ps.toList.map (·.2)).flatMap (wr1 σ))
  | op => if op.operands.toList.all (q64 σ) then some [] else none
def apart (a b : List Tmp) : Bool := a.all fun t => !b.contains t
abbrev qe7 := List Tmp × List Tmp × Bool × Nat
def ql6 (M : List qe7) : List Edge → Nat
  | [] => 0
  | e :: l => if Region.binds .any e = true then 2 ^ e.on ||| ((match M[e.on]? with | some f => f.2.2.2 | none => 0) ||| ql6 M l) else ql6 M l
def ex2 (o p : Oper) : Bool := match o.op, p.op, o.guard, p.guard, o.dst, p.dst with
  | .extract (.tmp u) i, .extract (.tmp v) j, none, none, some d, some e => decide (u = v) && (decide (i ≠ j) && (decide (d ≠ e) && (decide (d ≠ u) && decide (e ≠ u))))
  | _, _, _, _, _, _ => false
def mvb (C : CEs) (m c : Oper) (fm fc : qe7) : Bool := match m.op, m.guard, m.dst, c.op, c.guard with
  | .move (.tmp u), none, some d, .call ⟨.value (.func f), _, _⟩, none => (match C.lookup f with | some ce => ce.ps.any (·.isIn) | none => false) && (decide (fm.1 = [d, u, u, u]) && (fc.2.2.1 && (!fc.1.contains d && (decide (c.dst ≠ some u) && decide (d ≠ u)))))
  | _, _, _, _, _ => false
def fits (C : CEs) (ops : Array Oper) (o : Oper) (f : qe7) : Nat → List qe7 → Bool
  | _, [] => true
  | j, f' :: l => (f.2.2.2.testBit j || (((f.2.2.1 && f'.2.2.1) && (apart f'.2.1 f.1 && apart f.2.1 f'.1)) || match ops[j]? with | some p => ex2 o p || (mvb C o p f f' || mvb C p o f' f) | none => false)) && fits C ops o f (j + 1) l
def qix (ops : Array Oper) (o : Oper) : List Tmp := match o.guard with
  | some (j, _) => ((ops[j]?).bind (·.dst)).toList
  | none => []
def q4k (E : q6f) (C : CEs) (ops : Array Oper) (σ : St) (o : Oper) (acc : List qe7) : qe7 := (qix ops o ++ looks σ o, o.dst.toList ++ (qev E C σ o.op).getD [], (qev E C σ o.op).isSome, ql6 acc o.after.toList)
def qiy (E : q6f) (C : CEs) (ops : Array Oper) : List Oper → List qe7 → St → (St → Option ρ) → Option ρ
  | [], _, σ, K => K σ
  | o :: l, acc, σ, K => if (fits C ops o (q4k E C ops σ o acc) 0 acc && o.after.toList.all fun e => !Region.binds .any e || decide (e.on < acc.length)) = true then qs4 E C ops o σ fun σ' => qiy E C ops l (acc ++ [q4k E C ops σ o acc]) σ' K else none
inductive Ex where
  | nm | ex (id : Nat) | rt
abbrev q4u := List (Nat × List (Tmp × Fl))
def quv : Code → Option Nat
  | .region id _ _ => some id
  | .seq a b => match quv a with | some i => some i | none => quv b
  | .block _ c => quv c
  | .loop c => quv c
  | .scope c => quv c
  | _ => none
def q8r (H : q4u) (c : Code) : Option (List (Tmp × Fl)) := match quv c with
  | some i => H.lookup i
  | none => none
abbrev Kt (ρ : Type) := Ex → St → Option ρ
def qwh (f : St → Option ρ) (K : Kt ρ) : Kt ρ := fun e σ => match e with
  | .nm => f σ
  | e => K e σ
def qp6 (id : Nat) (K : Kt ρ) : Kt ρ := fun e σ => match e with
  | .ex j => if j = id then K .nm σ else K (.ex j) σ
  | e => K e σ
def qiz (body : Nat → St → Kt ρ → Option ρ) (h : Option (List (Tmp × Fl))) : Nat → St → Kt ρ → Option ρ
  | 0, _, _ => none
  | k + 1, σ, K => body k σ (qwh (fun σ => qiz body h k (norm h σ) K) K)
def qu2 (body : Nat → St → Kt ρ → Option ρ) : Nat → St → Kt ρ → Option ρ
  | 0, _, _ => none
  | k + 1, σ, K => body k σ K
def qbd : Code → Bool
  | .loop _ => true
  | .seq a b => match quv a with | some _ => qbd a | none => qbd b
  | .block _ c => qbd c
  | .scope c => qbd c
  | _ => false
def qy2 (h : Option (List (Tmp × Fl))) (l : Bool) (body : Nat → St → Kt ρ → Option ρ) (k : Nat) (σ : St) (K : Kt ρ) : Option ρ := match h with
  | none => body k σ K
  | some L => if l then body k (norm (some L) σ) K else qu2 body k (norm (some L) σ) K
def q77 (E : q6f) (C : Nat → CEs) (H : q4u) : Code → Nat → St → Kt ρ → Option ρ
  | .skip, k, σ, K => K .nm σ
  | .region id ops dr, k, σ, K => if dr then qiy E (C k) ops ops.toList [] σ (K .nm) else qp3 E (C k) ops ops.toList σ (K .nm)
  | .seq a b, k, σ, K => q77 E C H a k σ (qwh (fun σ => qy2 (q8r H b) (qbd b) (q77 E C H b) k σ K) K)
  | .cond c a b, k, σ, K => match rdv σ c with
    | some ⟨.bool, x⟩ => ifb x (q77 E C H a k σ K) (q77 E C H b k σ K)
    | _ => none
  | .block id c, k, σ, K => q77 E C H c k σ (qp6 id K)
  | .loop c, k, σ, K => qiz (q77 E C H c) (q8r H c) k (norm (q8r H c) σ) K
  | .exit id, k, σ, K => K (.ex id) σ
  | .ret, k, σ, K => K .rt σ
  | _, _, _, _ => none
def qdr : Code → List Bool → Code
  | .seq a _, false :: p => qdr a p
  | .seq _ b, true :: p => qdr b p
  | .cond _ a _, false :: p => qdr a p
  | .cond _ _ b, true :: p => qdr b p
  | .block _ c, _ :: p => qdr c p
  | .loop c, _ :: p => qdr c p
  | c, _ => c
def kAt (E : q6f) (C : Nat → CEs) (H : q4u) : Code → List Bool → Nat → List Nat → Kt ρ → Kt ρ
  | .seq a b, false :: p, k, ks, K => kAt E C H a p k ks (qwh (fun σ => qy2 (q8r H b) (qbd b) (q77 E C H b) k σ K) K)
  | .seq _ b, true :: p, k, ks, K => match (q8r H b).isSome && !qbd b, ks with
    | true, k :: ks => kAt E C H b p k ks K
    | _, ks => kAt E C H b p k ks K
  | .cond _ a _, false :: p, k, ks, K => kAt E C H a p k ks K
  | .cond _ _ b, true :: p, k, ks, K => kAt E C H b p k ks K
  | .block id c, _ :: p, k, ks, K => kAt E C H c p k ks (qp6 id K)
  | .loop c, _ :: p, _, k :: ks, K => kAt E C H c p k ks (qwh (fun σ => qiz (q77 E C H c) (q8r H c) k (norm (q8r H c) σ) K) K)
  | _, _, _, _, K => K
def sh (n : Nat) (l : List (Nat × AV)) : St := go l n 0
where go (l : List (Nat × AV)) : Nat → Nat → St
  | 0, _ => []
  | n + 1, t => ⟨0, 0, match l.lookup t with | some a => a | none => .no⟩ :: go l n (t + 1)
end
def q88 (p : Par) (s : Sv) : AV := match p.m with
  | .rd => .d s.1 s.2 .ro
  | .own f => .d s.1 s.2 f
  | .bx f => .box s.1 s.2 f none
  | .io f => .d s.1 s.2 f
def start (ps : List Par) (x : q63 (ps.map (·.τ))) (n : Nat) : St :=
  ((ps.zip (unpack _ x)).map fun p => (⟨0, 0, q88 p.1 p.2⟩ : Slot)) ++ List.replicate (n - ps.length) ⟨0, 0, .un⟩
def qma (E : q6f) (v : ResultVar) (r : Res) (σ : St) : Option (Sv × St) := match v with
  | .tmp t => match take E σ 0 (.tmp t) with
    | some (.d τ x f, σ) => if !r.bx && (decide (f = r.f) || (decide (r.f = .ro) && f.ok τ)) then some (⟨τ, x⟩, σ) else none
    | some (.box τ x f none, σ) => if r.bx && decide (f = r.f) then some (⟨τ, x⟩, σ) else none
    | _ => none
  | .cell t ty => match σ.av t with
    | .box τ x f _ => if E.of ty = some τ then if !r.bx && (decide (f = r.f) || (decide (r.f = .ro) && f.ok τ)) then some (⟨τ, x⟩, σ.put t .no) else none else none
    | _ => none
def qbx (E : q6f) : List ResultVar → List Res → St → Option (List Sv × St)
  | [], [], σ => some ([], σ)
  | v :: vs, r :: rs, σ => match qma E v r σ with
    | some (s, σ) => match qbx E vs rs σ with
      | some (ss, σ) => some (s :: ss, σ)
      | none => none
    | none => none
  | _, _, _ => none
def finals : List Par → Nat → St → Option (List Sv)
  | [], _, _ => some []
  | p :: ps, i, σ => match finals ps (i + 1) σ with
    | none => none
    | some ss => match p.m with
      | .bx f => match σ.av i with
        | .box τ x f' none => if f' = f ∨ (f = .ro ∧ f'.isRo τ = true) then some (⟨τ, x⟩ :: ss) else none
        | _ => none
      | .io f => match σ.av i with
        | .d τ x f' => if f' = f then some (⟨τ, x⟩ :: ss) else none
        | _ => none
      | _ => some ss
def leave (E : q6f) (vs : List ResultVar) (ps : List Par) (rs : List Res) (e : Ex) (σ : St) : Option (q63 (outs ps rs)) := match e with
  | .ex _ => none
  | _ => match qbx E vs rs σ with
    | some (ss, σ) => match finals ps 0 σ with
      | some fs => qg9 _ (ss ++ fs)
      | none => none
    | none => none
def qew (fn : Func) : Code := match fn.body with | some c => c | none => .skip
noncomputable def atL (E : q6f) (C : Nat → CEs) (H : q4u) (fn : Func) (ps : List Par) (rs : List Res) (p : List Bool) (k0 : Nat) (ks : List Nat) (k : Nat) (σ : St) : Option (q63 (outs ps rs)) :=
  match qdr (qew fn) p with
  | .loop c => qiz (q77 E C H c) (q8r H c) k σ (kAt E C H (qew fn) p k0 ks (leave E fn.results.toList ps rs))
  | _ => none
noncomputable def atJ (E : q6f) (C : Nat → CEs) (H : q4u) (fn : Func) (ps : List Par) (rs : List Res) (p : List Bool) (k0 : Nat) (ks : List Nat) (k : Nat) (σ : St) : Option (q63 (outs ps rs)) :=
  qu2 (q77 E C H (qdr (qew fn) p)) k σ (kAt E C H (qew fn) p k0 ks (leave E fn.results.toList ps rs))
noncomputable def q4v (E : q6f) (C : Nat → CEs) (H : q4u) (fn : Func) (ps : List Par) (rs : List Res) (k : Nat) (x : q63 (ps.map (·.τ))) : Option (q63 (outs ps rs)) := match fn.body with
  | some c => q77 E C H c k (start ps x fn.ntmps) (leave E fn.results.toList ps rs)
  | none => none
end Go.Proofs.YtjfkeknnjjlepaaGreatDoor.Rf
end

section
/- What a plain value is in memory, and what keeps it. Nothing of any program. -/
namespace Go.Proofs.YtjfkeknnjjlepaaGreatDoor.Rf
open Go Go.RowKit
set_option linter.unusedVariables false
set_option linter.unusedSimpArgs false
abbrev Bs := Nat → Prop
def Dj (A B : Bs) : Prop := ∀ b, A b → B b → False
def Sb (A B : Bs) : Prop := ∀ b, A b → B b
def Em : Bs := fun _ => False
theorem Sb.refl (A : Bs) : Sb A A := fun _ h => h
theorem Sb.trans {A B C : Bs} (h : Sb A B) (k : Sb B C) : Sb A C := fun b x => k b (h b x)
theorem Sb.em (A : Bs) : Sb Em A := fun _ h => h.elim
theorem Dj.em (A : Bs) : Dj Em A := fun _ h => h.elim
theorem Dj.em' (A : Bs) : Dj A Em := fun _ _ h => h.elim
theorem Dj.sub {A B A' B' : Bs} (h : Dj A B) (ha : Sb A' A) (hb : Sb B' B) : Dj A' B' := fun b x y => h b (ha b x) (hb b y)
theorem Dj.symm {A B : Bs} (h : Dj A B) : Dj B A := fun b x y => h b y x
def CAt (w : World) (b o : Nat) (cs : List Value) : Prop := ∀ i v, cs[i]? = some v → w.cell? ⟨b, o + i, none⟩ = some v
theorem cell_of {w : World} {b : Nat} {c : Array Value} {t : TypeId} {fz : Nat × Nat} (h : w.heap[b]? = some (.cells c t fz)) (o : Nat) : w.cell? ⟨b, o, none⟩ = c[o]? := by
  simp [World.cell?, h]
theorem q81 {w w' : World} {b : Nat} (h : w'.heap[b]? = w.heap[b]?) (o : Nat) : w'.cell? ⟨b, o, none⟩ = w.cell? ⟨b, o, none⟩ := by
  simp [World.cell?, h]
abbrev Im := Nat → Nat
structure q9y (T : Bs) (ξ : Im) (w : World) (ξ' : Im) (w' : World) : Prop where
  blk : ∀ b, T b → w'.heap[b]? = w.heap[b]? ∧ ξ' b = ξ b
  imm : ∀ b o v, o < ξ b → w.cell? ⟨b, o, none⟩ = some v → w'.cell? ⟨b, o, none⟩ = some v
  up : ∀ b, ξ b ≤ ξ' b
theorem q9y.refl (T : Bs) (ξ : Im) (w : World) : q9y T ξ w ξ w := ⟨fun _ _ => ⟨rfl, rfl⟩, fun _ _ _ _ h => h, fun _ => Nat.le_refl _⟩
theorem q9y.sub {T T' : Bs} {ξ ξ' : Im} {w w' : World} (h : q9y T ξ w ξ' w') (hs : Sb T' T) : q9y T' ξ w ξ' w' := ⟨fun b hb => h.blk b (hs b hb), h.imm, h.up⟩
theorem q9y.trans {T : Bs} {ξ ξ' ξ'' : Im} {w w' w'' : World} (h : q9y T ξ w ξ' w') (k : q9y T ξ' w' ξ'' w'') : q9y T ξ w ξ'' w'' :=
  ⟨fun b hb => ⟨(k.blk b hb).1.trans (h.blk b hb).1, (k.blk b hb).2.trans (h.blk b hb).2⟩,
   fun b o v ho hv => k.imm b o v (Nat.lt_of_lt_of_le ho (h.up b)) (h.imm b o v ho hv), fun b => Nat.le_trans (h.up b) (k.up b)⟩
theorem CAt.keep {T : Bs} {ξ ξ' : Im} {w w' : World} {b o : Nat} {cs : List Value} (h : CAt w b o cs) (k : q9y T ξ w ξ' w') (hb : T b) : CAt w' b o cs :=
  fun i v hi => (q81 (k.blk b hb).1 _).trans (h i v hi)
theorem CAt.imm {T : Bs} {ξ ξ' : Im} {w w' : World} {b o : Nat} {cs : List Value} (h : CAt w b o cs) (k : q9y T ξ w ξ' w') (hb : o + cs.length ≤ ξ b) : CAt w' b o cs := by
  intro i v hi
  have hl : i < cs.length := (List.getElem?_eq_some_iff.1 hi).1
  exact k.imm b _ v (by omega) (h i v hi)
def Rel (ξ : Im) (w : World) : (τ : Ty) → Fl → τ.T → List Value → Bs → Prop
  | .int k, f, x, cs, _ => cs.length = 1 ∧ (f ≠ .gone → cs = [.int k x])
  | .bool, f, x, cs, _ => cs.length = 1 ∧ (f ≠ .gone → cs = [.bool x])
  | .str, f, x, cs, _ => cs.length = 1 ∧ (f ≠ .gone → cs = [.string x])
  | .row e, f, l, cs, T => match f with
    | .gone => cs.length = 1
    | .pr _ _ => False
    | .ro => ∃ A cap, cs = [.slice A l.length cap] ∧ l.length ≤ cap ∧ ∀ i (h : i < l.length), ∃ a c, A = some a ∧ a.spot = none ∧ c.length = e.n ∧
        CAt w a.block (a.off + i * e.n) c ∧ a.off + i * e.n + e.n ≤ ξ a.block ∧ Rel ξ w e .ro l[i] c Em
    | .own g => (l = [] ∧ cs = [.slice none 0 0]) ∨ ∃ a cap c t fz, ∃ Te : Nat → Bs, cs = [.slice (some a) l.length cap] ∧ a.spot = none ∧ T a.block ∧
        w.heap[a.block]? = some (.cells c t fz) ∧ (∀ o, o < c.size → ¬(fz.1 ≤ o ∧ o < fz.2)) ∧ l.length ≤ cap ∧ a.off + cap * e.n ≤ c.size ∧ ξ a.block ≤ a.off ∧
        (∀ i, Sb (Te i) T ∧ ¬ Te i a.block) ∧ (∀ i j, i ≠ j → Dj (Te i) (Te j)) ∧
        ∀ i (h : i < l.length), ∃ c', c'.length = e.n ∧ CAt w a.block (a.off + i * e.n) c' ∧ Rel ξ w e g l[i] c' (Te i)
  | .pair a b, f, x, cs, T => ∃ c1 c2, ∃ T1 T2 : Bs, cs = c1 ++ c2 ∧ c1.length = a.n ∧ Sb T1 T ∧ Sb T2 T ∧ Dj T1 T2 ∧ Rel ξ w a f.l x.1 c1 T1 ∧ Rel ξ w b f.r x.2 c2 T2
  | .st a, f, x, cs, T => Rel ξ w a f x cs T
  | .arr m k, f, x, cs, _ => cs.length = m + 1 ∧ (f ≠ .gone → x.length = m + 1 ∧ cs = x.map (Value.int k))
theorem Ty.n_pos : (τ : Ty) → 0 < τ.n
  | .int _ | .bool | .str | .row _ => Nat.one_pos
  | .pair a b => Nat.lt_of_lt_of_le (n_pos a) (Nat.le_add_right _ _)
  | .st a => n_pos a
  | .arr m _ => Nat.succ_pos m
theorem Rel.len {ξ : Im} {w : World} : {τ : Ty} → {f : Fl} → {x : τ.T} → {cs : List Value} → {T : Bs} → Rel ξ w τ f x cs T → cs.length = τ.n
  | .int _, _, _, _, _, h => h.1
  | .bool, _, _, _, _, h => h.1
  | .str, _, _, _, _, h => h.1
  | .row e, f, l, cs, T, h => by
    cases f with
    | gone => exact h
    | pr _ _ => exact h.elim
    | ro => obtain ⟨A, cap, rfl, _⟩ := h; rfl
    | own g => rcases h with ⟨_, rfl⟩ | ⟨a, cap, c, t, fz, Te, rfl, _⟩ <;> rfl
  | .pair a b, _, _, _, _, ⟨c1, c2, T1, T2, hc, hl, _, _, _, _, h2⟩ => by
    rw [hc, List.length_append, hl, Rel.len h2]; rfl
  | .st a, _, _, _, _, h => Rel.len (τ := a) h
  | .arr _ _, _, _, _, _, h => h.1
theorem Rel.sub {ξ : Im} {w : World} : {τ : Ty} → {f : Fl} → {x : τ.T} → {cs : List Value} → {T T' : Bs} → Rel ξ w τ f x cs T → Sb T T' → Rel ξ w τ f x cs T'
  | .int _, _, _, _, _, _, h, _ => h
  | .bool, _, _, _, _, _, h, _ => h
  | .str, _, _, _, _, _, h, _ => h
  | .row e, f, l, cs, T, T', h, s => by
    cases f with
    | gone => exact h
    | pr _ _ => exact h
    | ro => exact h
    | own g =>
      rcases h with h | ⟨a, cap, c, t, fz, Te, h1, h2, h3, h4, h5, h6, h7, h8, h9, h10, h11⟩
      · exact .inl h
      · exact .inr ⟨a, cap, c, t, fz, Te, h1, h2, s _ h3, h4, h5, h6, h7, h8, fun i => ⟨(h9 i).1.trans s, (h9 i).2⟩, h10, h11⟩
  | .pair a b, _, _, _, _, _, ⟨c1, c2, T1, T2, hc, hl, s1, s2, d, h1, h2⟩, s => ⟨c1, c2, T1, T2, hc, hl, s1.trans s, s2.trans s, d, h1, h2⟩
  | .st a, _, _, _, _, _, h, s => Rel.sub (τ := a) h s
  | .arr _ _, _, _, _, _, _, h, _ => h
theorem Rel.keep {ξ ξ' : Im} {w w' : World} : {τ : Ty} → {f : Fl} → {x : τ.T} → {cs : List Value} → {T : Bs} → Rel ξ w τ f x cs T → q9y T ξ w ξ' w' → Rel ξ' w' τ f x cs T
  | .int _, _, _, _, _, h, _ => h
  | .bool, _, _, _, _, h, _ => h
  | .str, _, _, _, _, h, _ => h
  | .row e, f, l, cs, T, h, k => by
    cases f with
    | gone => exact h
    | pr _ _ => exact h
    | ro =>
      obtain ⟨A, cap, h1, h2, h3⟩ := h
      refine ⟨A, cap, h1, h2, fun i hi => ?_⟩
      obtain ⟨a, c, h4, h5, h6, h7, h8, h9⟩ := h3 i hi
      exact ⟨a, c, h4, h5, h6, h7.imm k (by omega), Nat.le_trans h8 (k.up _), Rel.keep h9 (k.sub (Sb.em _))⟩
    | own g =>
      rcases h with h | ⟨a, cap, c, t, fz, Te, h1, h2, h3, h4, h5, h6, h7, h8, h9, h10, h11⟩
      · exact .inl h
      · refine .inr ⟨a, cap, c, t, fz, Te, h1, h2, h3, (k.blk _ h3).1.trans h4, h5, h6, h7, (k.blk _ h3).2.symm ▸ h8, h9, h10, fun i hi => ?_⟩
        obtain ⟨c', h12, h13, h14⟩ := h11 i hi
        exact ⟨c', h12, h13.keep k h3, Rel.keep h14 (k.sub (h9 i).1)⟩
  | .pair a b, _, _, _, _, ⟨c1, c2, T1, T2, hc, hl, s1, s2, d, h1, h2⟩, k => ⟨c1, c2, T1, T2, hc, hl, s1, s2, d, Rel.keep h1 (k.sub s1), Rel.keep h2 (k.sub s2)⟩
  | .st a, _, _, _, _, h, k => Rel.keep (τ := a) h k
  | .arr _ _, _, _, _, _, h, _ => h
theorem Rel.toRo {ξ : Im} {w : World} : {τ : Ty} → {f : Fl} → {x : τ.T} → {cs : List Value} → {T : Bs} → Rel ξ w τ f x cs T → f.isRo τ = true → Rel ξ w τ .ro x cs Em
  | .int _, _, _, _, _, h, r => ⟨h.1, fun _ => h.2 (by simpa [Fl.isRo] using r)⟩
  | .bool, _, _, _, _, h, r => ⟨h.1, fun _ => h.2 (by simpa [Fl.isRo] using r)⟩
  | .str, _, _, _, _, h, r => ⟨h.1, fun _ => h.2 (by simpa [Fl.isRo] using r)⟩
  | .row e, f, l, cs, T, h, r => by
    have hf : f = .ro := by simpa [Fl.isRo] using r
    subst hf
    exact h
  | .pair a b, f, _, _, _, ⟨c1, c2, T1, T2, hc, hl, s1, s2, d, h1, h2⟩, r => by
    simp only [Fl.isRo, Bool.and_eq_true] at r
    exact ⟨c1, c2, Em, Em, hc, hl, Sb.em _, Sb.em _, Dj.em _, Rel.toRo h1 r.1, Rel.toRo h2 r.2⟩
  | .st a, _, _, _, _, h, r => Rel.toRo (τ := a) h r
  | .arr _ _, _, _, _, _, h, r => ⟨h.1, fun _ => h.2 (by simpa [Fl.isRo] using r)⟩
noncomputable def frz (ξ : Im) (w : World) (T : Bs) : Im := open Classical in fun b => if T b then max (ξ b) (match w.heap[b]? with | some (.cells c _ _) => c.size | _ => 0) else ξ b
theorem q9s (ξ : Im) (w : World) (T : Bs) (b : Nat) : ξ b ≤ frz ξ w T b := by
  unfold frz; split
  · exact Nat.le_max_left _ _
  · exact Nat.le_refl _
theorem q65 {ξ : Im} {w : World} {T : Bs} {b : Nat} (h : ¬ T b) : frz ξ w T b = ξ b := by unfold frz; rw [if_neg h]
theorem q8s {ξ : Im} {w : World} {T : Bs} {b : Nat} {c : Array Value} {t : TypeId} {fz : Nat × Nat} (h : T b) (hc : w.heap[b]? = some (.cells c t fz)) : c.size ≤ frz ξ w T b := by
  unfold frz; rw [if_pos h, hc]; exact Nat.le_max_right _ _
theorem qeg (ξ : Im) (w : World) (T T' : Bs) (h : Dj T T') : q9y T' ξ w (frz ξ w T) w :=
  ⟨fun b hb => ⟨rfl, q65 fun hT => h b hT hb⟩, fun _ _ _ _ h => h, q9s ξ w T⟩
theorem Rel.freeze {ξ ξ' : Im} {w : World} (up : ∀ b, ξ b ≤ ξ' b) : {τ : Ty} → {f : Fl} → {x : τ.T} → {cs : List Value} → {T : Bs} → Rel ξ w τ f x cs T → f.ok τ = true →
    (∀ b c t fz, T b → w.heap[b]? = some (.cells c t fz) → c.size ≤ ξ' b) → Rel ξ' w τ .ro x cs Em
  | .int _, _, _, _, _, h, r, _ => ⟨h.1, fun _ => h.2 (by simpa [Fl.ok] using r)⟩
  | .bool, _, _, _, _, h, r, _ => ⟨h.1, fun _ => h.2 (by simpa [Fl.ok] using r)⟩
  | .str, _, _, _, _, h, r, _ => ⟨h.1, fun _ => h.2 (by simpa [Fl.ok] using r)⟩
  | .row e, f, l, cs, T, h, r, z => by
    cases f with
    | gone => simp [Fl.ok] at r
    | pr _ _ => exact h.elim
    | ro =>
      obtain ⟨A, cap, h1, h2, h3⟩ := h
      refine ⟨A, cap, h1, h2, fun i hi => ?_⟩
      obtain ⟨a, c, h4, h5, h6, h7, h8, h9⟩ := h3 i hi
      exact ⟨a, c, h4, h5, h6, h7, Nat.le_trans h8 (up _), Rel.keep h9 ⟨fun _ h => h.elim, fun _ _ _ _ h => h, up⟩⟩
    | own g =>
      rcases h with ⟨hl, h⟩ | ⟨a, cap, c, t, fz, Te, h1, h2, h3, h4, h5, h6, h7, h8, h9, h10, h11⟩
      · subst hl; exact ⟨none, 0, h, Nat.le_refl _, fun i hi => by simp at hi⟩
      · refine ⟨some a, cap, h1, h6, fun i hi => ?_⟩
        obtain ⟨c', h12, h13, h14⟩ := h11 i hi
        have hz := z _ _ _ _ h3 h4
        have hm : i * e.n + e.n ≤ cap * e.n := by
          have : (i + 1) * e.n ≤ cap * e.n := Nat.mul_le_mul_right _ (by omega)
          rwa [Nat.add_mul, Nat.one_mul] at this
        exact ⟨a, c', rfl, h2, h12, h13, by omega, Rel.freeze up h14 (by simpa [Fl.ok] using r) fun b c t fz hb => z b c t fz ((h9 i).1 _ hb)⟩
  | .pair a b, f, _, _, _, ⟨c1, c2, T1, T2, hc, hl, s1, s2, d, h1, h2⟩, r, z => by
    simp only [Fl.ok, Bool.and_eq_true] at r
    exact ⟨c1, c2, Em, Em, hc, hl, Sb.em _, Sb.em _, Dj.em _, Rel.freeze up h1 r.1 fun b c t fz hb => z b c t fz (s1 _ hb), Rel.freeze up h2 r.2 fun b c t fz hb => z b c t fz (s2 _ hb)⟩
  | .st a, _, _, _, _, h, r, z => Rel.freeze (τ := a) up h r z
  | .arr _ _, _, _, _, _, h, r, _ => ⟨h.1, fun _ => h.2 (by simpa [Fl.ok] using r)⟩
theorem Rel.frz {ξ : Im} {w : World} {τ : Ty} {f : Fl} {x : τ.T} {cs : List Value} {T : Bs} (h : Rel ξ w τ f x cs T) (r : f.ok τ = true) : Rel (frz ξ w T) w τ .ro x cs Em :=
  h.freeze (q9s ξ w T) r fun _ _ _ _ hb hc => q8s hb hc
end Go.Proofs.YtjfkeknnjjlepaaGreatDoor.Rf
end

section
/- Parts of a value: read, taken, set, in registers and in memory. Nothing of any program. -/
namespace Go.Proofs.YtjfkeknnjjlepaaGreatDoor.Rf
open Go Go.RowKit
set_option linter.unusedVariables false
set_option linter.unusedSimpArgs false
def Un (A B : Bs) : Bs := fun b => A b ∨ B b
theorem Sb.l (A B : Bs) : Sb A (Un A B) := fun _ h => .inl h
theorem Sb.r (A B : Bs) : Sb B (Un A B) := fun _ h => .inr h
theorem Sb.un {A B C : Bs} (h : Sb A C) (k : Sb B C) : Sb (Un A B) C := fun b x => x.elim (h b) (k b)
theorem Sb.both {A B C D : Bs} (h : Sb A C) (k : Sb B D) : Sb (Un A B) (Un C D) := fun b x => x.imp (h b) (k b)
theorem Dj.un {A B C : Bs} (h : Dj A C) (k : Dj B C) : Dj (Un A B) C := fun b x y => x.elim (fun x => h b x y) (fun x => k b x y)
def mkV : Ty → List Value → Value
  | .st _, cs => .agg cs.toArray
  | .pair _ _, cs => .agg cs.toArray
  | .arr _ _, cs => .agg cs.toArray
  | _, cs => cs.headD undef
theorem q8t {ξ : Im} {w : World} : {τ : Ty} → {f : Fl} → {x : τ.T} → {cs : List Value} → {T : Bs} → Rel ξ w τ f x cs T → f.ok τ = true → (mkV τ cs).cells = cs.toArray
  | .int _, _, _, _, _, h, r => by rw [h.2 (by simpa [Fl.ok] using r)]; rfl
  | .bool, _, _, _, _, h, r => by rw [h.2 (by simpa [Fl.ok] using r)]; rfl
  | .str, _, _, _, _, h, r => by rw [h.2 (by simpa [Fl.ok] using r)]; rfl
  | .arr _ _, _, _, _, _, _, _ => rfl
  | .row e, f, l, cs, T, h, r => by
    cases f with
    | gone => simp [Fl.ok] at r
    | pr _ _ => exact h.elim
    | ro => obtain ⟨A, cap, rfl, _⟩ := h; rfl
    | own g => rcases h with ⟨_, rfl⟩ | ⟨a, cap, c, t, fz, Te, rfl, _⟩ <;> rfl
  | .pair a b, _, _, _, _, _, _ => rfl
  | .st a, _, _, _, _, _, _ => rfl
def q7o : Ty → Path → Nat
  | .pair a b, .fst :: p => q7o a p
  | .pair a b, .snd :: p => a.n + q7o b p
  | .st a, p => q7o a p
  | _, _ => 0
theorem q5d : (τ : Ty) → q7o τ [] = 0
  | .int _ | .bool | .str | .row _ | .pair _ _ | .arr _ _ => rfl
  | .st a => q5d a
theorem qa6 (f g : Fl) : f.put [] g = g := by cases f <;> rfl
theorem qex {e : PE} {p : Path} (h : Path.fields (e :: p) = true) : Path.fields p = true := by
  cases e <;> simp [Path.fields] at h <;> exact h
theorem Rel.get {ξ : Im} {w : World} : {τ : Ty} → {f : Fl} → {x : τ.T} → {cs : List Value} → {T : Bs} → {p : Path} → {τ' : Ty} → {y : τ'.T} → Rel ξ w τ f x cs T → p.fields = true → q5f τ x p = some ⟨τ', y⟩ →
    ∃ c1 c2 c3, cs = c1 ++ (c2 ++ c3) ∧ c1.length = q7o τ p ∧ Rel ξ w τ' (f.at p) y c2 T
  | .int k, f, x, cs, T, p, τ', y, h, hp, hg => by
    cases p with
    | nil => cases hg; exact ⟨[], cs, [], by simp, rfl, h⟩
    | cons e p => simp [q5f] at hg
  | .bool, f, x, cs, T, p, τ', y, h, hp, hg => by
    cases p with
    | nil => cases hg; exact ⟨[], cs, [], by simp, rfl, h⟩
    | cons e p => simp [q5f] at hg
  | .str, f, x, cs, T, p, τ', y, h, hp, hg => by
    cases p with
    | nil => cases hg; exact ⟨[], cs, [], by simp, rfl, h⟩
    | cons e p => simp [q5f] at hg
  | .arr _ _, f, x, cs, T, p, τ', y, h, hp, hg => by
    cases p with
    | nil => cases hg; exact ⟨[], cs, [], by simp, rfl, h⟩
    | cons e p => simp [q5f] at hg
  | .row e, f, x, cs, T, p, τ', y, h, hp, hg => by
    cases p with
    | nil => cases hg; exact ⟨[], cs, [], by simp, rfl, h⟩
    | cons e p => cases e <;> first | (simp [Path.fields] at hp; done) | (simp [q5f] at hg; done)
  | .pair a b, f, x, cs, T, p, τ', y, h, hp, hg => by
    cases p with
    | nil => cases hg; exact ⟨[], cs, [], by simp, rfl, h⟩
    | cons e p =>
      obtain ⟨c1, c2, T1, T2, hc, hl, s1, s2, d, h1, h2⟩ := h
      have hp' := qex hp
      cases e with
      | fst =>
        obtain ⟨d1, d2, d3, e1, e2, e3⟩ := Rel.get h1 hp' hg
        exact ⟨d1, d2, d3 ++ c2, by rw [hc, e1]; simp, e2, e3.sub s1⟩
      | snd =>
        obtain ⟨d1, d2, d3, e1, e2, e3⟩ := Rel.get h2 hp' hg
        exact ⟨c1 ++ d1, d2, d3, by rw [hc, e1]; simp, by simp [hl, e2, q7o], e3.sub s2⟩
      | idx i => simp [Path.fields] at hp
  | .st a, f, x, cs, T, p, τ', y, h, hp, hg => by
    cases p with
    | nil => cases hg; exact ⟨[], cs, [], by simp, (q5d a).symm, h⟩
    | cons e p => exact Rel.get (τ := a) h hp hg
theorem q5a {τ : Ty} {s : Sv} {y : τ.T} (h : q6h τ s = some y) : s = ⟨τ, y⟩ := by
  obtain ⟨τ', x⟩ := s
  unfold q6h at h
  split at h
  · rename_i e; subst e; simp only [Option.some.injEq] at h; subst h; rfl
  · cases h
theorem Rel.set {ξ : Im} {w : World} : {τ : Ty} → {f : Fl} → {x : τ.T} → {cs : List Value} → {T : Bs} → {p : Path} → {τ' : Ty} → {y : τ'.T} → {z : τ.T} → {g : Fl} → {c' : List Value} → {T' : Bs} →
    Rel ξ w τ f x cs T → p.fields = true → q7m τ x p ⟨τ', y⟩ = some z → Rel ξ w τ' g y c' T' → Dj T T' →
    ∃ c1 c2 c3, cs = c1 ++ (c2 ++ c3) ∧ c1.length = q7o τ p ∧ c2.length = τ'.n ∧ Rel ξ w τ (f.put p g) z (c1 ++ (c' ++ c3)) (Un T T')
  | .int k, f, x, cs, T, p, τ', y, z, g, c', T', h, hp, hg, h', dj => by
    cases p with
    | nil => cases q5a hg; exact ⟨[], cs, [], by simp, rfl, h.len, by simpa [qa6] using h'.sub (Sb.r _ _)⟩
    | cons e p => simp [q7m] at hg
  | .bool, f, x, cs, T, p, τ', y, z, g, c', T', h, hp, hg, h', dj => by
    cases p with
    | nil => cases q5a hg; exact ⟨[], cs, [], by simp, rfl, h.len, by simpa [qa6] using h'.sub (Sb.r _ _)⟩
    | cons e p => simp [q7m] at hg
  | .str, f, x, cs, T, p, τ', y, z, g, c', T', h, hp, hg, h', dj => by
    cases p with
    | nil => cases q5a hg; exact ⟨[], cs, [], by simp, rfl, h.len, by simpa [qa6] using h'.sub (Sb.r _ _)⟩
    | cons e p => simp [q7m] at hg
  | .arr _ _, f, x, cs, T, p, τ', y, z, g, c', T', h, hp, hg, h', dj => by
    cases p with
    | nil => cases q5a hg; exact ⟨[], cs, [], by simp, rfl, h.len, by simpa [qa6] using h'.sub (Sb.r _ _)⟩
    | cons e p => simp [q7m] at hg
  | .row e, f, x, cs, T, p, τ', y, z, g, c', T', h, hp, hg, h', dj => by
    cases p with
    | nil => cases q5a hg; exact ⟨[], cs, [], by simp, rfl, h.len, by simpa [qa6] using h'.sub (Sb.r _ _)⟩
    | cons e p => cases e <;> first | (simp [Path.fields] at hp; done) | (simp [q7m] at hg; done)
  | .pair a b, f, x, cs, T, p, τ', y, z, g, c', T', h, hp, hg, h', dj => by
    cases p with
    | nil => cases q5a hg; exact ⟨[], cs, [], by simp, rfl, h.len, by simpa [qa6] using h'.sub (Sb.r _ _)⟩
    | cons e p =>
      obtain ⟨c1, c2, T1, T2, hc, hl, s1, s2, d, h1, h2⟩ := h
      have hp' := qex hp
      cases e with
      | fst =>
        simp only [q7m] at hg
        split at hg
        · rename_i y1 hy1
          obtain rfl := Option.some.inj hg
          obtain ⟨d1, d2, d3, e1, e2, e3, e4⟩ := Rel.set h1 hp' hy1 h' (dj.sub s1 (Sb.refl _))
          refine ⟨d1, d2, d3 ++ c2, by rw [hc, e1]; simp, e2, e3, d1 ++ (c' ++ d3), c2, Un T1 T', T2, by simp, ?_, Sb.both s1 (Sb.refl _), s2.trans (Sb.l _ _), Dj.un d (Dj.symm (dj.sub s2 (Sb.refl _))), by rw [show (f.put (.fst :: p) g).l = f.l.put p g from qnq _ _ _]; exact e4, by rw [show (f.put (.fst :: p) g).r = f.r from qnr _ _ _]; exact h2⟩
          have := e4.len; exact this
        · cases hg
      | snd =>
        simp only [q7m] at hg
        split at hg
        · rename_i y1 hy1
          obtain rfl := Option.some.inj hg
          obtain ⟨d1, d2, d3, e1, e2, e3, e4⟩ := Rel.set h2 hp' hy1 h' (dj.sub s2 (Sb.refl _))
          exact ⟨c1 ++ d1, d2, d3, by rw [hc, e1]; simp, by simp [hl, e2, q7o], e3, c1, d1 ++ (c' ++ d3), T1, Un T2 T', by simp, hl, s1.trans (Sb.l _ _), Sb.both s2 (Sb.refl _), Dj.symm (Dj.un (Dj.symm d) (Dj.symm (dj.sub s1 (Sb.refl _)))), by rw [show (f.put (.snd :: p) g).l = f.l from qnq _ _ _]; exact h1, by rw [show (f.put (.snd :: p) g).r = f.r.put p g from qnr _ _ _]; exact e4⟩
        · cases hg
      | idx i => simp [Path.fields] at hp
  | .st a, f, x, cs, T, p, τ', y, z, g, c', T', h, hp, hg, h', dj => by
    cases p with
    | nil => cases q5a hg; exact ⟨[], cs, [], by simp, (q5d a).symm, h.len, by simpa [qa6] using h'.sub (Sb.r _ _)⟩
    | cons e p => exact Rel.set (τ := a) h hp hg h' dj
theorem Rel.gone {ξ : Im} {w : World} : {τ : Ty} → {f : Fl} → {x : τ.T} → {cs : List Value} → {T : Bs} → Rel ξ w τ f x cs T → Rel ξ w τ .gone x cs Em
  | .int _, _, _, _, _, h => ⟨h.1, fun n => (n rfl).elim⟩
  | .bool, _, _, _, _, h => ⟨h.1, fun n => (n rfl).elim⟩
  | .str, _, _, _, _, h => ⟨h.1, fun n => (n rfl).elim⟩
  | .arr _ _, _, _, _, _, h => ⟨h.1, fun n => (n rfl).elim⟩
  | .row e, f, _, _, _, h => h.len
  | .pair a b, _, _, _, _, ⟨c1, c2, T1, T2, hc, hl, s1, s2, d, h1, h2⟩ => ⟨c1, c2, Em, Em, hc, hl, Sb.em _, Sb.em _, Dj.em _, h1.gone, h2.gone⟩
  | .st a, _, _, _, _, h => Rel.gone (τ := a) h
theorem Rel.take {ξ : Im} {w : World} : {τ : Ty} → {f : Fl} → {x : τ.T} → {cs : List Value} → {T : Bs} → {p : Path} → {τ' : Ty} → {y : τ'.T} → Rel ξ w τ f x cs T → p.fields = true → q5f τ x p = some ⟨τ', y⟩ →
    ∃ c1 c2 c3, ∃ T1 T2 : Bs, cs = c1 ++ (c2 ++ c3) ∧ c1.length = q7o τ p ∧ Sb T1 T ∧ Sb T2 T ∧ Dj T1 T2 ∧ Rel ξ w τ' (f.at p) y c2 T1 ∧ Rel ξ w τ (f.put p .gone) x cs T2
  | .int k, f, x, cs, T, p, τ', y, h, hp, hg => by
    cases p with
    | nil => cases hg; exact ⟨[], cs, [], T, Em, by simp, rfl, Sb.refl _, Sb.em _, Dj.em' _, h, h.gone⟩
    | cons e p => simp [q5f] at hg
  | .bool, f, x, cs, T, p, τ', y, h, hp, hg => by
    cases p with
    | nil => cases hg; exact ⟨[], cs, [], T, Em, by simp, rfl, Sb.refl _, Sb.em _, Dj.em' _, h, h.gone⟩
    | cons e p => simp [q5f] at hg
  | .str, f, x, cs, T, p, τ', y, h, hp, hg => by
    cases p with
    | nil => cases hg; exact ⟨[], cs, [], T, Em, by simp, rfl, Sb.refl _, Sb.em _, Dj.em' _, h, h.gone⟩
    | cons e p => simp [q5f] at hg
  | .arr _ _, f, x, cs, T, p, τ', y, h, hp, hg => by
    cases p with
    | nil => cases hg; exact ⟨[], cs, [], T, Em, by simp, rfl, Sb.refl _, Sb.em _, Dj.em' _, h, h.gone⟩
    | cons e p => simp [q5f] at hg
  | .row e, f, x, cs, T, p, τ', y, h, hp, hg => by
    cases p with
    | nil => cases hg; exact ⟨[], cs, [], T, Em, by simp, rfl, Sb.refl _, Sb.em _, Dj.em' _, h, h.gone⟩
    | cons e p => cases e <;> first | (simp [Path.fields] at hp; done) | (simp [q5f] at hg; done)
  | .pair a b, f, x, cs, T, p, τ', y, h, hp, hg => by
    cases p with
    | nil => cases hg; exact ⟨[], cs, [], T, Em, by simp, rfl, Sb.refl _, Sb.em _, Dj.em' _, h, h.gone⟩
    | cons e p =>
      obtain ⟨c1, c2, T1, T2, hc, hl, s1, s2, d, h1, h2⟩ := h
      have hp' := qex hp
      cases e with
      | fst =>
        obtain ⟨d1, d2, d3, U1, U2, e1, e2, e3, e4, e5, e6, e7⟩ := Rel.take h1 hp' hg
        exact ⟨d1, d2, d3 ++ c2, U1, Un U2 T2, by rw [hc, e1]; simp, e2, e3.trans s1, Sb.un (e4.trans s1) s2, Dj.symm (Dj.un (Dj.symm e5) (Dj.symm (d.sub e3 (Sb.refl _)))), e6,
          c1, c2, U2, T2, hc, hl, Sb.l _ _, Sb.r _ _, d.sub e4 (Sb.refl _), by rw [show (f.put (.fst :: p) .gone).l = f.l.put p .gone from qnq _ _ _]; exact e7, by rw [show (f.put (.fst :: p) .gone).r = f.r from qnr _ _ _]; exact h2⟩
      | snd =>
        obtain ⟨d1, d2, d3, U1, U2, e1, e2, e3, e4, e5, e6, e7⟩ := Rel.take h2 hp' hg
        exact ⟨c1 ++ d1, d2, d3, U1, Un T1 U2, by rw [hc, e1]; simp, by simp [hl, e2, q7o], e3.trans s2, Sb.un s1 (e4.trans s2), Dj.symm (Dj.un (d.sub (Sb.refl _) e3) (Dj.symm e5)), e6,
          c1, c2, T1, U2, hc, hl, Sb.l _ _, Sb.r _ _, d.sub (Sb.refl _) e4, by rw [show (f.put (.snd :: p) .gone).l = f.l from qnq _ _ _]; exact h1, by rw [show (f.put (.snd :: p) .gone).r = f.r.put p .gone from qnr _ _ _]; exact e7⟩
      | idx i => simp [Path.fields] at hp
  | .st a, f, x, cs, T, p, τ', y, h, hp, hg => by
    cases p with
    | nil => cases hg; exact ⟨[], cs, [], T, Em, by simp, (q5d a).symm, Sb.refl _, Sb.em _, Dj.em' _, h, Rel.gone (τ := a) h⟩
    | cons e p => exact Rel.take (τ := a) h hp hg
end Go.Proofs.YtjfkeknnjjlepaaGreatDoor.Rf
end

section
/- Places in memory inside of a value's own rows: read and written. Nothing of any program. -/
namespace Go.Proofs.YtjfkeknnjjlepaaGreatDoor.Rf
open Go Go.RowKit
set_option linter.unusedVariables false
set_option linter.unusedSimpArgs false
def Loc (w : World) : Ty → List Value → Path → Nat → Nat → Prop
  | .pair a b, cs, p, bl, o => match p with
    | .fst :: p => Loc w a (cs.take a.n) p bl o
    | .snd :: p => Loc w b (cs.drop a.n) p bl o
    | _ => False
  | .st a, cs, p, bl, o => p ≠ [] ∧ Loc w a cs p bl o
  | .row e, cs, p, bl, o => match p with
    | .idx i :: p => ∃ a len cap, cs = [.slice (some a) len cap] ∧ a.spot = none ∧ i < len ∧
        ((Path.fields p = true ∧ bl = a.block ∧ o = a.off + i * e.n + q7o e p) ∨ (Path.fields p = false ∧ ∃ c', c'.length = e.n ∧ CAt w a.block (a.off + i * e.n) c' ∧ Loc w e c' p bl o))
    | _ => False
  | _, _, _, _, _ => False
theorem CAt.eq {w : World} {b o : Nat} {c c' : List Value} (h : CAt w b o c) (h' : CAt w b o c') (hl : c.length = c'.length) : c = c' := by
  apply List.ext_getElem? 
  intro i
  by_cases hi : i < c.length
  · have h1 := h i _ (List.getElem?_eq_getElem hi)
    have hi' : i < c'.length := by omega
    have h2 := h' i _ (List.getElem?_eq_getElem hi')
    rw [List.getElem?_eq_getElem hi, List.getElem?_eq_getElem hi', ← h1, h2]
  · rw [List.getElem?_eq_none (by omega), List.getElem?_eq_none (by omega)]
theorem CAt.part {w : World} {b o : Nat} {c1 c2 c3 : List Value} (h : CAt w b o (c1 ++ (c2 ++ c3))) : CAt w b (o + c1.length) c2 := by
  intro i v hi
  have hl : i < c2.length := (List.getElem?_eq_some_iff.1 hi).1
  have := h (c1.length + i) v (by rw [List.getElem?_append_right (by omega), Nat.add_sub_cancel_left, List.getElem?_append_left hl]; exact hi)
  rwa [Nat.add_assoc]
theorem qhm {α : Type} {l : List α} {i : Nat} {z : α} (h : i < l.length) : l.getD i z = l[i] := by
  simp [List.getD_eq_getElem?_getD, h]
theorem Rel.look {ξ : Im} {w : World} : {τ : Ty} → {f : Fl} → {x : τ.T} → {cs : List Value} → {T : Bs} → {p : Path} → {τ' : Ty} → {y : τ'.T} → {b o : Nat} →
    Rel ξ w τ f x cs T → Loc w τ cs p b o → qdp f p = true → q5f τ x p = some ⟨τ', y⟩ →
    T b ∧ ξ b ≤ o ∧ (∃ c', c'.length = τ'.n ∧ CAt w b o c' ∧ Rel ξ w τ' (f.at p) y c' T) ∧ ∃ c t fz, w.heap[b]? = some (.cells c t fz) ∧ (∀ o, o < c.size → ¬(fz.1 ≤ o ∧ o < fz.2)) ∧ o + τ'.n ≤ c.size
  | .int k, f, x, cs, T, p, τ', y, b, o, h, hl, ho, hg => hl.elim
  | .bool, f, x, cs, T, p, τ', y, b, o, h, hl, ho, hg => hl.elim
  | .str, f, x, cs, T, p, τ', y, b, o, h, hl, ho, hg => hl.elim
  | .arr _ _, f, x, cs, T, p, τ', y, b, o, h, hl, ho, hg => hl.elim
  | .row e, f, x, cs, T, p, τ', y, b, o, h, hl, ho, hg => by
    cases p with
    | nil => exact hl.elim
    | cons q p =>
      cases q with
      | fst => exact hl.elim
      | snd => exact hl.elim
      | idx i =>
        cases f with
        | gone => simp [qdp] at ho
        | pr _ _ => exact h.elim
        | ro => simp [qdp] at ho
        | own g =>
          obtain ⟨a', len, cap', hc, hsp, hi, hl⟩ := hl
          rcases h with ⟨_, h⟩ | ⟨a, cap, c, t, fz, Te, h1, h2, h3, h4, h5, h6, h7, h8, h9, h10, h11⟩
          · rw [h] at hc; simp at hc
          · rw [h1] at hc
            simp only [List.cons.injEq, Value.slice.injEq, Option.some.injEq, and_true] at hc
            obtain ⟨rfl, rfl, rfl⟩ := hc
            obtain ⟨c', h12, h13, h14⟩ := h11 i hi
            simp only [q5f, qhm hi] at hg
            have hm : i * e.n + e.n ≤ cap * e.n := by
              have : (i + 1) * e.n ≤ cap * e.n := Nat.mul_le_mul_right _ (by omega)
              rwa [Nat.add_mul, Nat.one_mul] at this
            rcases hl with ⟨hf, rfl, rfl⟩ | ⟨hf, c'', h15, h16, h17⟩
            · obtain ⟨d1, d2, d3, e1, e2, e3⟩ := h14.get hf hg
              refine ⟨h3, by omega, ⟨d2, e3.len, ?_, ?_⟩, c, t, fz, h4, h5, ?_⟩
              · rw [e1] at h13; rw [← e2]; exact h13.part
              · exact e3.sub (h9 i).1
              · have : d1.length + (d2.length + d3.length) = e.n := by rw [← h12, e1]; simp
                have := e3.len
                omega
            · obtain rfl := h13.eq h16 (by omega)
              obtain ⟨r1, r2, ⟨c3, r3, r4, r5⟩, r6⟩ := Rel.look h14 h17 (by simpa [qdp] using ho) hg
              exact ⟨(h9 i).1 _ r1, r2, ⟨c3, r3, r4, r5.sub (h9 i).1⟩, r6⟩
  | .pair a b, f, x, cs, T, p, τ', y, bl, o, h, hl, ho, hg => by
    cases p with
    | nil => exact hl.elim
    | cons q p =>
      obtain ⟨c1, c2, T1, T2, hc, hn, s1, s2, d, h1, h2⟩ := h
      cases q with
      | fst =>
        simp only [Loc, hc, List.take_left' hn] at hl
        obtain ⟨r1, r2, ⟨c3, r3, r4, r5⟩, r6⟩ := Rel.look h1 hl ho hg
        exact ⟨s1 _ r1, r2, ⟨c3, r3, r4, r5.sub s1⟩, r6⟩
      | snd =>
        simp only [Loc, hc, List.drop_left' hn] at hl
        obtain ⟨r1, r2, ⟨c3, r3, r4, r5⟩, r6⟩ := Rel.look h2 hl ho hg
        exact ⟨s2 _ r1, r2, ⟨c3, r3, r4, r5.sub s2⟩, r6⟩
      | idx i => exact hl.elim
  | .st a, f, x, cs, T, p, τ', y, b, o, h, hl, ho, hg => by
    cases p with
    | nil => exact (hl.1 rfl).elim
    | cons q p => exact Rel.look (τ := a) h hl.2 ho hg
structure Wr (w w' : World) (b o : Nat) (c' : List Value) : Prop where
  os : w'.os = w.os
  tape : w'.tape = w.tape
  output : w'.output = w.output
  size : w'.heap.size = w.heap.size
  oth : ∀ b', b' ≠ b → w'.heap[b']? = w.heap[b']?
  at_ : ∀ c t fz, w.heap[b]? = some (.cells c t fz) → ∃ c2, w'.heap[b]? = some (.cells c2 t fz) ∧ c2.size = c.size ∧ (∀ i v, c'[i]? = some v → c2[o + i]? = some v) ∧ ∀ i, (i < o ∨ o + c'.length ≤ i) → c2[i]? = c[i]?
theorem Wr.cell_oth {w w' : World} {b o : Nat} {c' : List Value} (h : Wr w w' b o c') {b' i : Nat} (hb : b' ≠ b ∨ i < o ∨ o + c'.length ≤ i) {v : Value} (hv : w.cell? ⟨b', i, none⟩ = some v) : w'.cell? ⟨b', i, none⟩ = some v := by
  by_cases e : b' = b
  · subst e
    cases hh : w.heap[b']? with
    | none => simp [World.cell?, hh] at hv
    | some ob =>
      cases ob with
      | cells c t fz =>
        obtain ⟨c2, r1, r2, r3, r4⟩ := h.at_ c t fz hh
        rw [cell_of r1, r4 i (hb.resolve_left (by simp)), ← cell_of hh, hv]
      | _ => simp [World.cell?, hh] at hv
  · rw [q81 (h.oth b' e), hv]
theorem Wr.keep {w w' : World} {b o : Nat} {c' : List Value} (h : Wr w w' b o c') {T : Bs} {ξ : Im} (hT : ¬ T b) (hx : ξ b ≤ o) : q9y T ξ w ξ w' :=
  ⟨fun b' hb => ⟨h.oth b' fun e => hT (e ▸ hb), rfl⟩, fun b' i v hi hv => h.cell_oth ((Decidable.em (b' = b)).elim (fun e => .inr (.inl (Nat.lt_of_lt_of_le (e ▸ hi) hx))) .inl) hv, fun _ => Nat.le_refl _⟩
theorem Wr.cat {w w' : World} {b o : Nat} {c' : List Value} (h : Wr w w' b o c') {c : Array Value} {t : TypeId} {fz : Nat × Nat} (hc : w.heap[b]? = some (.cells c t fz)) : CAt w' b o c' := by
  obtain ⟨c2, r1, r2, r3, r4⟩ := h.at_ c t fz hc
  exact fun i v hi => by rw [cell_of r1]; exact r3 i v hi
theorem Wr.cat_oth {w w' : World} {b o : Nat} {c' : List Value} (h : Wr w w' b o c') {b' o' : Nat} {cs : List Value} (hc : CAt w b' o' cs) (hb : b' ≠ b ∨ o' + cs.length ≤ o ∨ o + c'.length ≤ o') : CAt w' b' o' cs := by
  intro i v hi
  have hl : i < cs.length := (List.getElem?_eq_some_iff.1 hi).1
  exact h.cell_oth (by omega) (hc i v hi)
theorem Rel.put_at {ξ : Im} {w : World} : {τ : Ty} → {f : Fl} → {x : τ.T} → {cs : List Value} → {T : Bs} → {p : Path} → {s : Sv} → {z : τ.T} → Rel ξ w τ (f.put p (f.at p)) x cs T → p.fields = true → q7m τ z p s = some x → Rel ξ w τ f x cs T
  | τ, f, x, cs, T, [], s, z, h, hp, hg => by rw [qa6] at h; exact h
  | .pair a b, f, x, cs, T, .fst :: p, s, z, h, hp, hg => by
    obtain ⟨c1, c2, T1, T2, hc, hn, s1, s2, d, h1, h2⟩ := h
    simp only [q7m] at hg
    split at hg
    · rename_i y1 hy1
      obtain rfl := Option.some.inj hg
      rw [show (f.put (.fst :: p) (f.at (.fst :: p))).l = f.l.put p (f.l.at p) from qnq _ _ _] at h1
      rw [show (f.put (.fst :: p) (f.at (.fst :: p))).r = f.r from qnr _ _ _] at h2
      exact ⟨c1, c2, T1, T2, hc, hn, s1, s2, d, Rel.put_at h1 hp hy1, h2⟩
    · cases hg
  | .pair a b, f, x, cs, T, .snd :: p, s, z, h, hp, hg => by
    obtain ⟨c1, c2, T1, T2, hc, hn, s1, s2, d, h1, h2⟩ := h
    simp only [q7m] at hg
    split at hg
    · rename_i y1 hy1
      obtain rfl := Option.some.inj hg
      rw [show (f.put (.snd :: p) (f.at (.snd :: p))).l = f.l from qnq _ _ _] at h1
      rw [show (f.put (.snd :: p) (f.at (.snd :: p))).r = f.r.put p (f.r.at p) from qnr _ _ _] at h2
      exact ⟨c1, c2, T1, T2, hc, hn, s1, s2, d, h1, Rel.put_at h2 hp hy1⟩
    · cases hg
  | .st a, f, x, cs, T, q :: p, s, z, h, hp, hg => Rel.put_at (τ := a) (p := q :: p) h hp hg
  | _, f, x, cs, T, .idx i :: p, s, z, h, hp, hg => by simp [Path.fields] at hp
  | .int _, f, x, cs, T, .fst :: p, s, z, h, hp, hg => by simp [q7m] at hg
  | .int _, f, x, cs, T, .snd :: p, s, z, h, hp, hg => by simp [q7m] at hg
  | .bool, f, x, cs, T, .fst :: p, s, z, h, hp, hg => by simp [q7m] at hg
  | .bool, f, x, cs, T, .snd :: p, s, z, h, hp, hg => by simp [q7m] at hg
  | .str, f, x, cs, T, .fst :: p, s, z, h, hp, hg => by simp [q7m] at hg
  | .arr _ _, f, x, cs, T, .fst :: p, s, z, h, hp, hg => by simp [q7m] at hg
  | .str, f, x, cs, T, .snd :: p, s, z, h, hp, hg => by simp [q7m] at hg
  | .arr _ _, f, x, cs, T, .snd :: p, s, z, h, hp, hg => by simp [q7m] at hg
  | .row _, f, x, cs, T, .fst :: p, s, z, h, hp, hg => by simp [q7m] at hg
  | .row _, f, x, cs, T, .snd :: p, s, z, h, hp, hg => by simp [q7m] at hg
theorem Wr.mid {w w' : World} {b o : Nat} {c' d1 d2 d3 : List Value} (h : Wr w w' b (o + d1.length) c') (hc : CAt w b o (d1 ++ (d2 ++ d3))) (hl : d2.length = c'.length) {c : Array Value} {t : TypeId} {fz : Nat × Nat} (hh : w.heap[b]? = some (.cells c t fz)) : CAt w' b o (d1 ++ (c' ++ d3)) := by
  intro i v hi
  by_cases h1 : i < d1.length
  · rw [List.getElem?_append_left h1] at hi
    exact h.cell_oth (.inr (.inl (by omega))) (hc i v (by rw [List.getElem?_append_left h1]; exact hi))
  · rw [List.getElem?_append_right (by omega)] at hi
    by_cases h2 : i - d1.length < c'.length
    · rw [List.getElem?_append_left h2] at hi
      have := h.cat hh _ v hi
      rwa [show o + d1.length + (i - d1.length) = o + i by omega] at this
    · rw [List.getElem?_append_right (by omega)] at hi
      exact h.cell_oth (.inr (.inr (by omega))) (hc i v (by rw [List.getElem?_append_right (by omega), List.getElem?_append_right (by omega), hl]; exact hi))
theorem Rel.poke {ξ : Im} {w w' : World} {c' : List Value} {T' : Bs} : {τ : Ty} → {f : Fl} → {x : τ.T} → {cs : List Value} → {T : Bs} → {p : Path} → {τ' : Ty} → {y : τ'.T} → {z : τ.T} → {b o : Nat} →
    Rel ξ w τ f x cs T → Loc w τ cs p b o → qdp f p = true → q7m τ x p ⟨τ', y⟩ = some z → Wr w w' b o c' → Rel ξ w τ' (f.at p) y c' T' → Dj T T' → Rel ξ w' τ f z cs (Un T T') ∧ T b ∧ ξ b ≤ o
  | .int k, f, x, cs, T, p, τ', y, z, b, o, h, hl, ho, hg, hw, hn, dj => hl.elim
  | .bool, f, x, cs, T, p, τ', y, z, b, o, h, hl, ho, hg, hw, hn, dj => hl.elim
  | .str, f, x, cs, T, p, τ', y, z, b, o, h, hl, ho, hg, hw, hn, dj => hl.elim
  | .arr _ _, f, x, cs, T, p, τ', y, z, b, o, h, hl, ho, hg, hw, hn, dj => hl.elim
  | .row e, f, x, cs, T, p, τ', y, z, b, o, h, hl, ho, hg, hw, hn, dj => by
    cases p with
    | nil => exact hl.elim
    | cons q p =>
      cases q with
      | fst => exact hl.elim
      | snd => exact hl.elim
      | idx i =>
        cases f with
        | gone => simp [qdp] at ho
        | pr _ _ => exact h.elim
        | ro => simp [qdp] at ho
        | own g =>
          obtain ⟨a', len, cap', hc, hsp, hi, hl⟩ := hl
          rcases h with ⟨_, h⟩ | ⟨a, cap, c, t, fz, Te, h1, h2, h3, h4, h5, h6, h7, h8, h9, h10, h11⟩
          · rw [h] at hc; simp at hc
          · rw [h1] at hc
            simp only [List.cons.injEq, Value.slice.injEq, Option.some.injEq, and_true] at hc
            obtain ⟨rfl, rfl, rfl⟩ := hc
            obtain ⟨ci, h12, h13, h14⟩ := h11 i hi
            simp only [q7m, qhm hi] at hg
            split at hg
            case h_2 => cases hg
            rename_i zi hz
            obtain rfl := Option.some.inj hg
            have hnT : ¬ T' a.block := fun hx => dj _ h3 hx
            have dTe : ∀ j, Dj (Te j) T' := fun j => dj.sub (h9 j).1 (Sb.refl _)
            -- what all cases share: element i told anew
            have fin : ∀ (b0 o0 : Nat) (_ : Wr w w' b0 o0 c') (hx : ξ b0 ≤ o0) (hb0 : T b0) (hne : ∀ j, j ≠ i → ¬ Te j b0) (hcell : ∀ j, j ≠ i → ∀ cj : List Value, cj.length = e.n → CAt w a.block (a.off + j * e.n) cj → CAt w' a.block (a.off + j * e.n) cj)
                (cn : List Value) (hcl : cn.length = e.n) (hcn : CAt w' a.block (a.off + i * e.n) cn) (hrel : Rel ξ w' e g zi cn (Un (Te i) T')) (hblk : ∃ c2 : Array Value, w'.heap[a.block]? = some (.cells c2 t fz) ∧ c2.size = c.size),
                Rel ξ w' (.row e) (.own g) (x.set i zi) [.slice (some a) x.length cap] (Un T T') := by
              intro b0 o0 hw0 hx hb0 hne hcell cn hcl hcn hrel ⟨c2, hb2, hs2⟩
              refine .inr ⟨a, cap, c2, t, fz, fun j => if j = i then Un (Te i) T' else Te j, ?_, h2, .inl h3, hb2, ?_, ?_, ?_, h8, ?_, ?_, ?_⟩
              · simp
              · rw [hs2]; exact h5
              · simpa using h6
              · rw [hs2]; exact h7
              · intro j
                by_cases hj : j = i
                · subst hj
                  simp only [if_true]
                  exact ⟨Sb.both (h9 j).1 (Sb.refl _), fun hx => hx.elim (h9 j).2 hnT⟩
                · simp only [hj, if_false]
                  exact ⟨(h9 j).1.trans (Sb.l _ _), (h9 j).2⟩
              · intro j k hjk
                by_cases hj : j = i
                · have hk : k ≠ i := fun e => hjk (hj.trans e.symm)
                  simp only [hj, if_true, hk, if_false]
                  exact Dj.un (h10 i k (fun e => hk e.symm)) (Dj.symm (dTe k))
                · by_cases hk : k = i
                  · simp only [hj, if_false, hk, if_true]
                    exact Dj.symm (Dj.un (h10 i j (fun e => hj e.symm)) (Dj.symm (dTe j)))
                  · simp only [hj, hk, if_false]
                    exact h10 j k hjk
              · intro j hj
                have hj' : j < x.length := by simpa using hj
                by_cases e' : j = i
                · subst e'
                  exact ⟨cn, hcl, hcn, by simpa using hrel⟩
                · obtain ⟨cj, r1, r2, r3⟩ := h11 j hj'
                  refine ⟨cj, r1, hcell j e' cj r1 r2, ?_⟩
                  simp only [e', if_false]
                  rw [List.getElem_set_ne (fun h => e' h.symm)]
                  exact r3.keep (hw0.keep (hne j e') hx)
            rcases hl with ⟨hf, rfl, rfl⟩ | ⟨hf, c'', h15, h16, h17⟩
            · obtain ⟨d1, d2, d3, e1, e2, e3, e4⟩ := h14.set hf hz hn (dTe i)
              have hcl' : c'.length = d2.length := by rw [e3]; exact hn.len
              have hdl : d1.length + (d2.length + d3.length) = e.n := by rw [← h12, e1]; simp
              rw [← e2] at hw ⊢
              refine ⟨?_, h3, by omega⟩
              rw [h1]
              refine fin _ _ hw (by omega) h3 (fun j _ => (h9 j).2) ?_ (d1 ++ (c' ++ d3)) (by simp; omega) (hw.mid (by rw [← e1]; exact h13) hcl'.symm h4) ?_ ?_
              · intro j hj cj r1 r2
                refine hw.cat_oth r2 (.inr ?_)
                rcases Nat.lt_or_gt_of_ne hj with hlt | hgt
                · left
                  have : (j + 1) * e.n ≤ i * e.n := Nat.mul_le_mul_right _ (by omega)
                  rw [Nat.add_mul, Nat.one_mul] at this
                  omega
                · right
                  have : (i + 1) * e.n ≤ j * e.n := Nat.mul_le_mul_right _ (by omega)
                  rw [Nat.add_mul, Nat.one_mul] at this
                  omega
              · exact Rel.put_at (e4.keep (hw.keep (T := Un (Te i) T') (fun hx => hx.elim (h9 i).2 hnT) (by omega))) hf hz
              · obtain ⟨c2, r1, r2, _⟩ := hw.at_ _ _ _ h4
                exact ⟨c2, r1, r2⟩
            · obtain rfl := h13.eq h16 (by omega)
              obtain ⟨r1, r2, r3⟩ := Rel.poke h14 h17 (by simpa [qdp] using ho) hz hw hn (dTe i)
              have hne : a.block ≠ b := fun e => (h9 i).2 (e ▸ r2)
              refine ⟨?_, (h9 i).1 _ r2, r3⟩
              rw [h1]
              exact fin _ _ hw r3 ((h9 i).1 _ r2) (fun j hj hx => h10 j i hj _ hx r2) (fun j _ cj _ hcj => hw.cat_oth hcj (.inl hne)) ci h12 (hw.cat_oth h13 (.inl hne)) r1 ⟨c, (hw.oth _ hne).trans h4, rfl⟩
  | .pair a b, f, x, cs, T, p, τ', y, z, bl, o, h, hl, ho, hg, hw, hn, dj => by
    cases p with
    | nil => exact hl.elim
    | cons q p =>
      obtain ⟨c1, c2, T1, T2, hc, hlen, s1, s2, d, h1, h2⟩ := h
      cases q with
      | fst =>
        simp only [Loc, hc, List.take_left' hlen] at hl
        simp only [q7m] at hg
        split at hg
        case h_2 => cases hg
        rename_i y1 hy1
        obtain rfl := Option.some.inj hg
        obtain ⟨r1, r2, r3⟩ := Rel.poke h1 hl ho hy1 hw hn (dj.sub s1 (Sb.refl _))
        exact ⟨⟨c1, c2, Un T1 T', T2, hc, hlen, Sb.both s1 (Sb.refl _), s2.trans (Sb.l _ _), Dj.un d (Dj.symm (dj.sub s2 (Sb.refl _))), r1, h2.keep (hw.keep (fun hx => d _ r2 hx) r3)⟩, s1 _ r2, r3⟩
      | snd =>
        simp only [Loc, hc, List.drop_left' hlen] at hl
        simp only [q7m] at hg
        split at hg
        case h_2 => cases hg
        rename_i y1 hy1
        obtain rfl := Option.some.inj hg
        obtain ⟨r1, r2, r3⟩ := Rel.poke h2 hl ho hy1 hw hn (dj.sub s2 (Sb.refl _))
        exact ⟨⟨c1, c2, T1, Un T2 T', hc, hlen, s1.trans (Sb.l _ _), Sb.both s2 (Sb.refl _), Dj.symm (Dj.un (Dj.symm d) (Dj.symm (dj.sub s1 (Sb.refl _)))), h1.keep (hw.keep (fun hx => d _ hx r2) r3), r1⟩, s2 _ r2, r3⟩
      | idx i => exact hl.elim
  | .st a, f, x, cs, T, p, τ', y, z, b, o, h, hl, ho, hg, hw, hn, dj => by
    cases p with
    | nil => exact (hl.1 rfl).elim
    | cons q p => exact Rel.poke (τ := a) h hl.2 ho hg hw hn dj
end Go.Proofs.YtjfkeknnjjlepaaGreatDoor.Rf
end

section
/- States: what stands in the slots, and how that is kept. Nothing of any program. -/
namespace Go.Proofs.YtjfkeknnjjlepaaGreatDoor.Rf
open Go Go.RowKit
set_option linter.unusedVariables false
set_option linter.unusedSimpArgs false
theorem St.slot_put_ne {σ : St} {d t : Nat} {a : AV} (h : t ≠ d) : (σ.put d a).slot t = σ.slot t := by
  simp [St.slot, St.put, List.getD_eq_getElem?_getD, List.getElem?_set_ne (Ne.symm h)]
theorem St.slot_put_eq {σ : St} {d : Nat} {a : AV} (h : d < σ.length) : (σ.put d a).slot d = ⟨(σ.slot d).g + 1, 0, a⟩ := by
  simp [St.slot, St.put, List.getD_eq_getElem?_getD, h]
theorem St.put_big {σ : St} {d : Nat} {a : AV} (h : ¬ d < σ.length) : σ.put d a = σ := by
  simp only [St.put]; exact List.set_eq_of_length_le (by omega)
theorem St.slot_turn_ne {σ : St} {d t : Nat} {a : AV} (h : t ≠ d) : (σ.turn d a).slot t = σ.slot t := by
  simp [St.slot, St.turn, List.getD_eq_getElem?_getD, List.getElem?_set_ne (Ne.symm h)]
theorem St.slot_turn_eq {σ : St} {d : Nat} {a : AV} (h : d < σ.length) : (σ.turn d a).slot d = ⟨(σ.slot d).g, (σ.slot d).v + 1, a⟩ := by
  simp [St.slot, St.turn, List.getD_eq_getElem?_getD, h]
theorem St.turn_big {σ : St} {d : Nat} {a : AV} (h : ¬ d < σ.length) : σ.turn d a = σ := by
  simp only [St.turn]; exact List.set_eq_of_length_le (by omega)
theorem St.put_length (σ : St) (d : Nat) (a : AV) : (σ.put d a).length = σ.length := by simp [St.put]
theorem St.turn_length (σ : St) (d : Nat) (a : AV) : (σ.turn d a).length = σ.length := by simp [St.turn]
def BxI (r : Option Tmp) (n z : Nat) : Prop := match r with
  | none => z = 0
  | some _ => n ≤ z
def Own (ξ : Im) (w : World) : AV → Value → Bs → Prop
  | .d τ x f, v, T => ∃ cs, v = mkV τ cs ∧ Rel ξ w τ f x cs T
  | .box τ x f r, v, T => ∃ b c t fz, ∃ T' : Bs, v = .pointer (some ⟨b, 0, none⟩) ∧ T b ∧ w.heap[b]? = some (.cells c t fz) ∧ (∀ o, o < c.size → ¬(fz.1 ≤ o ∧ o < fz.2)) ∧ BxI r c.size (ξ b) ∧ Sb T' T ∧ ¬ T' b ∧ Rel ξ w τ f x c.toList T'
  | .un, v, _ => v = undef
  | .fn f, v, _ => v = .func (.func f) #[] #[]
  | .rp τ x none, v, _ => ∃ b o cs, v = .pointer (some ⟨b, o, none⟩) ∧ cs.length = τ.n ∧ CAt w b o cs ∧ o + τ.n ≤ ξ b ∧ Rel ξ w τ .ro x cs Em
  | _, _, _ => True
def q6c (ξ : Im) (w : World) : AV → Value → Bs → Prop
  | .tup l, v, T => ∃ vs : Array Value, ∃ Te : Nat → Bs, v = .tuple vs ∧ vs.size = l.length ∧ (∀ i, Sb (Te i) T) ∧ (∀ i j, i ≠ j → Dj (Te i) (Te j)) ∧ ∀ i a, l[i]? = some a → Own ξ w a (vs.getD i undef) (Te i)
  | a, v, T => Own ξ w a v T
def Part (w : World) : AV → Value → Path → (τ : Ty) → τ.T → List Value → Prop
  | .d τ0 x0 _, v, q, τ, x, cs => ∃ cs0 c1 c3, v = mkV τ0 cs0 ∧ cs0.length = τ0.n ∧ q5f τ0 x0 q = some ⟨τ, x⟩ ∧ cs0 = c1 ++ (cs ++ c3) ∧ c1.length = q7o τ0 q ∧ cs.length = τ.n ∧ q.fields = true
  | .box τ0 x0 _ _, v, q, τ, x, cs => ∃ b c t fz c1 c3, v = .pointer (some ⟨b, 0, none⟩) ∧ w.heap[b]? = some (.cells c t fz) ∧ q5f τ0 x0 q = some ⟨τ, x⟩ ∧ c.toList = c1 ++ (cs ++ c3) ∧ c1.length = q7o τ0 q ∧ cs.length = τ.n ∧ q.fields = true
  | _, _, _, _, _, _ => False
def Ptr (w : World) : AV → Value → Path → Nat → Nat → Prop
  | .d τ0 x0 f0, v, p, b, o => ∃ cs0, v = mkV τ0 cs0 ∧ cs0.length = τ0.n ∧ p.fields = false ∧ qdp f0 p = true ∧ Loc w τ0 cs0 p b o
  | .box τ0 x0 f0 _, v, p, b, o => ∃ b0 c t fz, v = .pointer (some ⟨b0, 0, none⟩) ∧ (p.fields = true → b = b0 ∧ o = q7o τ0 p) ∧ (p.fields = false → w.heap[b0]? = some (.cells c t fz) ∧ qdp f0 p = true ∧ Loc w τ0 c.toList p b o)
  | _, _, _, _, _ => False
def Past (σ : St) (h g v : Nat) : Prop := g ≤ (σ.slot h).g ∧ (g = (σ.slot h).g → v ≤ (σ.slot h).v)
def qd2 (ξ : Im) (w : World) (σ : St) (tm : Array Value) (tk : Nat → Bs) : AV → Value → Prop
  | .vw τ x h p g v, u => Past σ h g v ∧ (σ.valid h g v = true → ∃ cs f, ∃ T' : Bs, u = mkV τ cs ∧ Sb T' (tk h) ∧ f.ok τ = true ∧ Rel ξ w τ f x cs T' ∧ ∀ q, p = some q → Part w (σ.av h) (tm.getD h undef) q τ x cs)
  | .ref h p g v, u => Past σ h g v ∧ (refOk σ h p g v = true → ∃ b o, u = .pointer (some ⟨b, o, none⟩) ∧ Ptr w (σ.av h) (tm.getD h undef) p b o)
  | .rp τ x (some (h, g, v)), u => Past σ h g v ∧ (σ.valid h g v = true → ∃ b o cs f, ∃ T' : Bs, u = .pointer (some ⟨b, o, none⟩) ∧ cs.length = τ.n ∧ CAt w b o cs ∧ (tk h b ∨ o + τ.n ≤ ξ b) ∧ Sb T' (tk h) ∧ f.ok τ = true ∧ Rel ξ w τ f x cs T')
  | .cl f h g, u => Past σ h g 0 ∧ ((σ.slot h).g = g → u = .func (.func f) #[] #[tm.getD h undef])
  | .ap h i g v, u => Past σ h g v ∧ (σ.valid h g v = true → ∃ b m k x f r, σ.av h = .box (.arr m k) x f r ∧ i < m + 1 ∧ tm.getD h undef = .pointer (some ⟨b, 0, none⟩) ∧ u = .pointer (some ⟨b, i, none⟩))
  | _, _ => True
theorem Own.sub {ξ : Im} {w : World} {a : AV} {v : Value} {T T' : Bs} (h : Own ξ w a v T) (s : Sb T T') : Own ξ w a v T' := by
  cases a with
  | d τ x f => obtain ⟨cs, h1, h2⟩ := h; exact ⟨cs, h1, h2.sub s⟩
  | box τ x f r => obtain ⟨b, c, t, fz, T1, h1, h2, h3, h4, h5, h6, h7, h8⟩ := h; exact ⟨b, c, t, fz, T1, h1, s _ h2, h3, h4, h5, h6.trans s, h7, h8⟩
  | rp τ x o => cases o <;> exact h
  | _ => exact h
theorem q6c.sub {ξ : Im} {w : World} {a : AV} {v : Value} {T T' : Bs} (h : q6c ξ w a v T) (s : Sb T T') : q6c ξ w a v T' := by
  cases a with
  | tup l => obtain ⟨vs, Te, h1, h0, h2, h3, h4⟩ := h; exact ⟨vs, Te, h1, h0, fun i => (h2 i).trans s, h3, h4⟩
  | d τ x f => exact Own.sub (a := .d τ x f) h s
  | box τ x f r => exact Own.sub (a := .box τ x f r) h s
  | rp τ x o => exact Own.sub (a := .rp τ x o) h s
  | _ => exact h
theorem Own.keep {ξ ξ' : Im} {w w' : World} {a : AV} {v : Value} {T : Bs} (h : Own ξ w a v T) (k : q9y T ξ w ξ' w') : Own ξ' w' a v T := by
  cases a with
  | d τ x f => obtain ⟨cs, h1, h2⟩ := h; exact ⟨cs, h1, h2.keep k⟩
  | box τ x f r =>
    obtain ⟨b, c, t, fz, T1, h1, h2, h3, h4, h5, h6, h7, h8⟩ := h
    exact ⟨b, c, t, fz, T1, h1, h2, (k.blk _ h2).1.trans h3, h4, by rw [(k.blk _ h2).2]; exact h5, h6, h7, h8.keep (k.sub h6)⟩
  | rp τ x o =>
    cases o with
    | none => obtain ⟨b, o, cs, h1, h2, h3, h4, h5⟩ := h; exact ⟨b, o, cs, h1, h2, h3.imm k (by omega), Nat.le_trans h4 (k.up _), h5.keep (k.sub (Sb.em _))⟩
    | some _ => exact h
  | _ => exact h
theorem q6c.keep {ξ ξ' : Im} {w w' : World} {a : AV} {v : Value} {T : Bs} (h : q6c ξ w a v T) (k : q9y T ξ w ξ' w') : q6c ξ' w' a v T := by
  cases a with
  | tup l => obtain ⟨vs, Te, h1, h0, h2, h3, h4⟩ := h; exact ⟨vs, Te, h1, h0, h2, h3, fun i a ha => (h4 i a ha).keep (k.sub (h2 i))⟩
  | d τ x f => exact Own.keep (a := .d τ x f) h k
  | box τ x f r => exact Own.keep (a := .box τ x f r) h k
  | rp τ x o => exact Own.keep (a := .rp τ x o) h k
  | _ => exact h
theorem Loc.keep {ξ ξ' : Im} {w w' : World} : {τ : Ty} → {f : Fl} → {x : τ.T} → {cs : List Value} → {T : Bs} → {p : Path} → {b o : Nat} →
    Rel ξ w τ f x cs T → qdp f p = true → Loc w τ cs p b o → q9y T ξ w ξ' w' → Loc w' τ cs p b o
  | .int _, f, x, cs, T, p, b, o, h, ho, hl, k => hl.elim
  | .bool, f, x, cs, T, p, b, o, h, ho, hl, k => hl.elim
  | .str, f, x, cs, T, p, b, o, h, ho, hl, k => hl.elim
  | .arr _ _, f, x, cs, T, p, b, o, h, ho, hl, k => hl.elim
  | .row e, f, x, cs, T, p, b, o, h, ho, hl, k => by
    cases p with
    | nil => exact hl.elim
    | cons q p =>
      cases q with
      | fst => exact hl.elim
      | snd => exact hl.elim
      | idx i =>
        cases f with
        | gone => simp [qdp] at ho
        | pr _ _ => exact h.elim
        | ro => simp [qdp] at ho
        | own g =>
          obtain ⟨a', len, cap', hc, hsp, hi, hl⟩ := hl
          refine ⟨a', len, cap', hc, hsp, hi, hl.imp id ?_⟩
          rintro ⟨hf, c'', h15, h16, h17⟩
          rcases h with ⟨_, h⟩ | ⟨a, cap, c, t, fz, Te, h1, h2, h3, h4, h5, h6, h7, h8, h9, h10, h11⟩
          · rw [h] at hc; simp at hc
          · rw [h1] at hc
            simp only [List.cons.injEq, Value.slice.injEq, Option.some.injEq, and_true] at hc
            obtain ⟨rfl, rfl, rfl⟩ := hc
            obtain ⟨ci, h12, h13, h14⟩ := h11 i hi
            obtain rfl := h13.eq h16 (by omega)
            exact ⟨hf, ci, h15, h16.keep k h3, Loc.keep h14 (by simpa [qdp] using ho) h17 (k.sub (h9 i).1)⟩
  | .pair a b, f, x, cs, T, p, bl, o, h, ho, hl, k => by
    cases p with
    | nil => exact hl.elim
    | cons q p =>
      obtain ⟨c1, c2, T1, T2, hc, hn, s1, s2, d, h1, h2⟩ := h
      cases q with
      | fst =>
        simp only [Loc, hc, List.take_left' hn] at hl ⊢
        exact Loc.keep h1 ho hl (k.sub s1)
      | snd =>
        simp only [Loc, hc, List.drop_left' hn] at hl ⊢
        exact Loc.keep h2 ho hl (k.sub s2)
      | idx i => exact hl.elim
  | .st a, f, x, cs, T, p, b, o, h, ho, hl, k => by
    cases p with
    | nil => exact (hl.1 rfl).elim
    | cons q p => exact ⟨hl.1, Loc.keep (τ := a) h ho hl.2 k⟩
theorem q9d {τ : Ty} {a b : List Value} (ha : a.length = τ.n) (hb : b.length = τ.n) (h : mkV τ a = mkV τ b) : a = b := by
  have one : ∀ (a b : List Value), a.length = 1 → b.length = 1 → a.headD undef = b.headD undef → a = b := by
    intro a b ha hb h
    match a, b, ha, hb with
    | [x], [y], _, _ => simp at h; rw [h]
  cases τ with
  | int k => exact one _ _ ha hb h
  | bool => exact one _ _ ha hb h
  | str => exact one _ _ ha hb h
  | row e => exact one _ _ ha hb h
  | pair _ _ => simpa [mkV] using h
  | arr _ _ => simpa [mkV] using h
  | st _ => simpa [mkV] using h
theorem Part.keep {ξ ξ' : Im} {w w' : World} {a : AV} {u : Value} {T : Bs} {q : Path} {τ : Ty} {x : τ.T} {cs : List Value} (h : Part w a u q τ x cs) (ho : q6c ξ w a u T) (k : q9y T ξ w ξ' w') : Part w' a u q τ x cs := by
  cases a with
  | d τ0 x0 f0 => exact h
  | box τ0 x0 f0 r =>
    obtain ⟨b, c, t, fz, c1, c3, h1, h2, h3⟩ := h
    obtain ⟨b', _, _, _, _, h1', h2', _⟩ := ho
    rw [h1] at h1'
    simp only [Value.pointer.injEq, Option.some.injEq, Addr.mk.injEq, and_true] at h1'
    subst h1'
    exact ⟨b, c, t, fz, c1, c3, h1, (k.blk _ h2').1.trans h2, h3⟩
  | _ => exact h.elim
theorem Ptr.keep {ξ ξ' : Im} {w w' : World} {a : AV} {u : Value} {T : Bs} {p : Path} {b o : Nat} (h : Ptr w a u p b o) (ho : q6c ξ w a u T) (k : q9y T ξ w ξ' w') : Ptr w' a u p b o := by
  cases a with
  | d τ0 x0 f0 =>
    obtain ⟨cs0, h1, h2, h3, h4, h5⟩ := h
    obtain ⟨cs, h6, h7⟩ := ho
    obtain rfl := q9d h2 h7.len (h1.symm.trans h6)
    exact ⟨cs0, h1, h2, h3, h4, h5.keep h7 h4 k⟩
  | box τ0 x0 f0 r =>
    obtain ⟨b0, c, t, fz, h1, h2, h3⟩ := h
    refine ⟨b0, c, t, fz, h1, h2, fun hp => ?_⟩
    obtain ⟨h4, h5, h6⟩ := h3 hp
    obtain ⟨b', c', t', fz', T', h1', h2', h3', _, _, h7', _, h8'⟩ := ho
    rw [h1] at h1'
    simp only [Value.pointer.injEq, Option.some.injEq, Addr.mk.injEq, and_true] at h1'
    subst h1'
    rw [h4] at h3'
    simp only [Option.some.injEq, Obj.cells.injEq] at h3'
    obtain ⟨rfl, rfl, rfl⟩ := h3'
    exact ⟨(k.blk _ h2').1.trans h4, h5, h6.keep h8' h5 (k.sub h7')⟩
  | _ => exact h.elim
structure Fr (T0 : Bs) (ξ0 : Im) (w0 : World) (ξ : Im) (w : World) : Prop where
  os : w.os = w0.os
  tape : w.tape = w0.tape
  output : w.output = w0.output
  size : w0.heap.size ≤ w.heap.size
  blk : ∀ b, b < w0.heap.size → ¬ T0 b → w.heap[b]? = w0.heap[b]? ∧ ξ b = ξ0 b
  imm : ∀ b o v, o < ξ0 b → w0.cell? ⟨b, o, none⟩ = some v → w.cell? ⟨b, o, none⟩ = some v
  up : ∀ b, b < w0.heap.size → ξ0 b ≤ ξ b
theorem qbe {w : World} {b o : Nat} {v : Value} (h : w.cell? ⟨b, o, none⟩ = some v) : b < w.heap.size := by
  cases hh : w.heap[b]? with
  | none => simp [World.cell?, hh] at h
  | some _ => exact (Array.getElem?_eq_some_iff.1 hh).1
theorem Fr.refl (T : Bs) (ξ : Im) (w : World) : Fr T ξ w ξ w := ⟨rfl, rfl, rfl, Nat.le_refl _, fun _ _ _ => ⟨rfl, rfl⟩, fun _ _ _ _ h => h, fun _ _ => Nat.le_refl _⟩
theorem Fr.trans {T0 U : Bs} {ξ0 ξ ξ' : Im} {w0 w w' : World} (h : Fr T0 ξ0 w0 ξ w) (k : Fr U ξ w ξ' w') (hu : ∀ b, U b → T0 b ∨ w0.heap.size ≤ b) : Fr T0 ξ0 w0 ξ' w' :=
  ⟨k.os.trans h.os, k.tape.trans h.tape, k.output.trans h.output, Nat.le_trans h.size k.size,
   fun b hb hT => by
    obtain ⟨h1, h2⟩ := h.blk b hb hT
    obtain ⟨k1, k2⟩ := k.blk b (Nat.lt_of_lt_of_le hb h.size) (fun hU => (hu b hU).elim hT (by omega))
    exact ⟨k1.trans h1, k2.trans h2⟩,
   fun b o v ho hv => k.imm b o v (Nat.lt_of_lt_of_le ho (h.up b (qbe hv))) (h.imm b o v ho hv),
   fun b hb => Nat.le_trans (h.up b hb) (k.up b (Nat.lt_of_lt_of_le hb h.size))⟩
def Wf (ξ : Im) (w : World) : Prop := ∀ b, w.heap.size ≤ b → ξ b = 0
theorem Fr.keep {U T : Bs} {ξ ξ' : Im} {w w' : World} (h : Fr U ξ w ξ' w') (wf : Wf ξ w) (ht : ∀ b, T b → b < w.heap.size) (hd : Dj T U) : q9y T ξ w ξ' w' :=
  ⟨fun b hb => h.blk b (ht b hb) (fun hu => hd b hb hu), h.imm, fun b => by
    by_cases hb : b < w.heap.size
    · exact h.up b hb
    · rw [wf b (by omega)]; exact Nat.zero_le _⟩
def May (T0 : Bs) (w0 w : World) (b : Nat) : Prop := (T0 b ∨ w0.heap.size ≤ b) ∧ b < w.heap.size
structure SA (T0 : Bs) (ξ0 : Im) (w0 : World) (tk : Nat → Bs) (Tf : Bs) (ξ : Im) (w : World) (σ : St) (tm : Array Value) : Prop where
  fr : Fr T0 ξ0 w0 ξ w
  wf : Wf ξ w
  sz : tm.size = σ.length
  may : ∀ t b, tk t b → May T0 w0 w b
  mayf : ∀ b, Tf b → May T0 w0 w b
  dj : ∀ t u, t ≠ u → Dj (tk t) (tk u)
  djf : ∀ t, Dj (tk t) Tf
  own : ∀ t, q6c ξ w (σ.av t) (tm.getD t undef) (tk t)
  lent : ∀ t, qd2 ξ w σ tm tk (σ.av t) (tm.getD t undef)
section
variable {T0 : Bs} {ξ0 : Im} {w0 : World} {tk : Nat → Bs} {Tf : Bs} {ξ : Im} {w : World} {σ : St} {tm : Array Value}
theorem qd2.keep {ξ' : Im} {w' : World} (own : ∀ t, q6c ξ w (σ.av t) (tm.getD t undef) (tk t)) (k : ∀ t, q9y (tk t) ξ w ξ' w') {a : AV} {u : Value} (h : qd2 ξ w σ tm tk a u) : qd2 ξ' w' σ tm tk a u := by
  cases a with
  | vw τ x h0 p g v =>
    refine ⟨h.1, fun hv => ?_⟩
    obtain ⟨cs, f, T', h1, h2, h3, h4, h5⟩ := h.2 hv
    exact ⟨cs, f, T', h1, h2, h3, h4.keep ((k h0).sub h2), fun q hq => (h5 q hq).keep (own h0) (k h0)⟩
  | ref h0 p g v =>
    refine ⟨h.1, fun hv => ?_⟩
    obtain ⟨b, o, h1, h2⟩ := h.2 hv
    exact ⟨b, o, h1, h2.keep (own h0) (k h0)⟩
  | rp τ x o =>
    cases o with
    | none => trivial
    | some q =>
      obtain ⟨h0, g, v⟩ := q
      refine ⟨h.1, fun hv => ?_⟩
      obtain ⟨b, o, cs, f, T', h1, h2, h3, h4, h5, h6, h7⟩ := h.2 hv
      exact ⟨b, o, cs, f, T', h1, h2, h4.elim (h3.keep (k h0)) (fun z => h3.imm (k h0) (by omega)), h4.imp id (fun z => Nat.le_trans z ((k h0).up _)), h5, h6, h7.keep ((k h0).sub h5)⟩
  | ap h0 i g v => exact h
  | cl f h0 g => exact h
  | _ => trivial
theorem SA.step {U Tf' : Bs} {ξ' : Im} {w' : World} (h : SA T0 ξ0 w0 tk Tf ξ w σ tm) (f : Fr U ξ w ξ' w') (hU : Sb U Tf) (wf' : Wf ξ' w') (hT : ∀ b, Tf' b → (Tf b ∨ w.heap.size ≤ b) ∧ b < w'.heap.size) :
    SA T0 ξ0 w0 tk Tf' ξ' w' σ tm := by
  have K : ∀ t, q9y (tk t) ξ w ξ' w' := fun t => f.keep h.wf (fun b hb => (h.may t b hb).2) ((h.djf t).sub (Sb.refl _) hU)
  refine ⟨h.fr.trans f fun b hb => (h.mayf b (hU b hb)).1, wf', h.sz, fun t b hb => ⟨(h.may t b hb).1, Nat.lt_of_lt_of_le (h.may t b hb).2 f.size⟩, fun b hb => ?_, h.dj, fun t b h1 h2 => ?_, fun t => (h.own t).keep (K t), fun t => qd2.keep h.own K (h.lent t)⟩
  · obtain ⟨h1, h2⟩ := hT b hb
    refine ⟨h1.elim (fun x => (h.mayf b x).1) fun x => .inr (Nat.le_trans h.fr.size x), h2⟩
  · obtain ⟨h3, _⟩ := hT b h2
    rcases h3 with h3 | h3
    · exact h.djf t b h1 h3
    · have := (h.may t b h1).2; omega
theorem SA.drop {Tf' : Bs} (h : SA T0 ξ0 w0 tk Tf ξ w σ tm) (s : Sb Tf' Tf) : SA T0 ξ0 w0 tk Tf' ξ w σ tm :=
  { h with mayf := fun b hb => h.mayf b (s b hb), djf := fun t => (h.djf t).sub (Sb.refl _) s }
def upd (tk : Nat → Bs) (d : Nat) (T : Bs) : Nat → Bs := fun t => if t = d then T else tk t
theorem qay (tk : Nat → Bs) (d : Nat) (T : Bs) : upd tk d T d = T := by simp [upd]
theorem upd_ne {tk : Nat → Bs} {d t : Nat} {T : Bs} (h : t ≠ d) : upd tk d T t = tk t := by simp [upd, h]
theorem Past.put {d h g v : Nat} {a : AV} (k : Past σ h g v) : Past (σ.put d a) h g v := by
  by_cases hd : d < σ.length
  · by_cases e : h = d
    · subst e
      unfold Past
      rw [St.slot_put_eq hd]
      exact ⟨by have := k.1; simp only; omega, fun e' => by have := k.1; simp only at e'; omega⟩
    · unfold Past; rw [St.slot_put_ne e]; exact k
  · rw [St.put_big hd]; exact k
theorem Past.turn {d h g v : Nat} {a : AV} (k : Past σ h g v) : Past (σ.turn d a) h g v := by
  by_cases hd : d < σ.length
  · by_cases e : h = d
    · subst e
      unfold Past
      rw [St.slot_turn_eq hd]
      exact ⟨k.1, fun e' => Nat.le_succ_of_le (k.2 e')⟩
    · unfold Past; rw [St.slot_turn_ne e]; exact k
  · rw [St.turn_big hd]; exact k
theorem qd2.put {d : Nat} {a a' : AV} {u : Value} {tm' : Array Value} {T : Bs} (hd : d < σ.length) (htm : ∀ t, t ≠ d → tm'.getD t undef = tm.getD t undef) (h : qd2 ξ w σ tm tk a u) : qd2 ξ w (σ.put d a') tm' (upd tk d T) a u := by
  have key : ∀ h0 g v, Past σ h0 g v → h0 = d → ((σ.put d a').slot h0).g ≠ g := by
    intro h0 g v k e
    subst e
    rw [St.slot_put_eq hd]
    have := k.1
    simp only
    omega
  cases a with
  | vw τ x h0 p g v =>
    refine ⟨h.1.put, fun hv => ?_⟩
    by_cases e : h0 = d
    · exact absurd (by simp [St.valid] at hv; exact hv.1) (key h0 g v h.1 e)
    · have hv' : σ.valid h0 g v = true := by simpa [St.valid, St.slot_put_ne e] using hv
      obtain ⟨cs, f, T', h1, h2, h3, h4, h5⟩ := h.2 hv'
      refine ⟨cs, f, T', h1, by rw [upd_ne e]; exact h2, h3, h4, fun q hq => ?_⟩
      have := h5 q hq
      rwa [St.av, St.slot_put_ne e, htm _ e]
  | ref h0 p g v =>
    refine ⟨h.1.put, fun hv => ?_⟩
    by_cases e : h0 = d
    · exact absurd (by simp [refOk] at hv; exact hv.1) (key h0 g v h.1 e)
    · have hv' : refOk σ h0 p g v = true := by simpa [refOk, St.slot_put_ne e] using hv
      obtain ⟨b, o, h1, h2⟩ := h.2 hv'
      refine ⟨b, o, h1, ?_⟩
      rwa [St.av, St.slot_put_ne e, htm _ e]
  | rp τ x o =>
    cases o with
    | none => trivial
    | some q =>
      obtain ⟨h0, g, v⟩ := q
      refine ⟨h.1.put, fun hv => ?_⟩
      by_cases e : h0 = d
      · exact absurd (by simp [St.valid] at hv; exact hv.1) (key h0 g v h.1 e)
      · have hv' : σ.valid h0 g v = true := by simpa [St.valid, St.slot_put_ne e] using hv
        have := h.2 hv'
        rwa [upd_ne e]
  | cl f h0 g =>
    refine ⟨h.1.put, fun hv => ?_⟩
    by_cases e : h0 = d
    · exact absurd hv (key h0 g 0 h.1 e)
    · rw [St.slot_put_ne e] at hv
      rw [htm _ e]
      exact h.2 hv
  | ap h0 i g v =>
    refine ⟨h.1.put, fun hv => ?_⟩
    by_cases e : h0 = d
    · exact absurd (by simp [St.valid] at hv; exact hv.1) (key h0 g v h.1 e)
    · have hv' : σ.valid h0 g v = true := by simpa [St.valid, St.slot_put_ne e] using hv
      rw [St.av, St.slot_put_ne e, htm _ e]
      exact h.2 hv'
  | _ => trivial
theorem SA.put {d : Nat} {a : AV} {T' Tf' : Bs} {tm' : Array Value} (h : SA T0 ξ0 w0 tk Tf ξ w σ tm) (hsz : tm'.size = tm.size) (htm : ∀ t, t ≠ d → tm'.getD t undef = tm.getD t undef)
    (ho : q6c ξ w a (tm'.getD d undef) T') (hl : qd2 ξ w σ tm tk a (tm'.getD d undef)) (sT : Sb T' (Un Tf (tk d))) (sF : Sb Tf' (Un Tf (tk d))) (dd : Dj T' Tf') (hd : d < σ.length) :
    SA T0 ξ0 w0 (upd tk d T') Tf' ξ w (σ.put d a) tm' := by
  have far : ∀ t, t ≠ d → Dj (tk t) (Un Tf (tk d)) := fun t ht => Dj.symm (Dj.un (Dj.symm (h.djf t)) (h.dj d t (Ne.symm ht)))
  refine ⟨h.fr, h.wf, by rw [hsz, h.sz, St.put_length], fun t b hb => ?_, fun b hb => (sF b hb).elim (h.mayf b) (h.may d b), fun t u htu => ?_, fun t => ?_, fun t => ?_, fun t => ?_⟩
  · by_cases e : t = d
    · subst e; rw [qay] at hb; exact (sT b hb).elim (h.mayf b) (h.may t b)
    · rw [upd_ne e] at hb; exact h.may t b hb
  · by_cases e : t = d
    · subst e; rw [qay, upd_ne (Ne.symm htu)]; exact Dj.symm ((far u (Ne.symm htu)).sub (Sb.refl _) sT)
    · by_cases e' : u = d
      · subst e'; rw [qay, upd_ne e]; exact (far t e).sub (Sb.refl _) sT
      · rw [upd_ne e, upd_ne e']; exact h.dj t u htu
  · by_cases e : t = d
    · subst e; rw [qay]; exact dd
    · rw [upd_ne e]; exact (far t e).sub (Sb.refl _) sF
  · by_cases e : t = d
    · subst e; rw [qay, St.av, St.slot_put_eq hd]; exact ho
    · rw [upd_ne e, St.av, St.slot_put_ne e, htm t e]; exact h.own t
  · by_cases e : t = d
    · subst e; rw [St.av, St.slot_put_eq hd]; exact hl.put hd htm
    · rw [St.av, St.slot_put_ne e, htm t e]; exact (h.lent t).put hd htm
def qy3 (a a' : AV) : Prop := match a with
  | .box τ _ _ _ => ∃ x f r, a' = .box τ x f r
  | _ => True
theorem qd2.turn {d : Nat} {a a' : AV} {u : Value} {T : Bs} (hd : d < σ.length) (hk : qy3 (σ.av d) a') (h : qd2 ξ w σ tm tk a u) : qd2 ξ w (σ.turn d a') tm (upd tk d T) a u := by
  have key : ∀ h0 g v, Past σ h0 g v → h0 = d → ¬ (((σ.turn d a').slot h0).g = g ∧ ((σ.turn d a').slot h0).v = v) := by
    intro h0 g v k e
    subst e
    rw [St.slot_turn_eq hd]
    rintro ⟨h1, h2⟩
    have := k.2 h1.symm
    simp only at h2
    omega
  cases a with
  | vw τ x h0 p g v =>
    refine ⟨h.1.turn, fun hv => ?_⟩
    by_cases e : h0 = d
    · exact absurd (by simpa [St.valid] using hv) (key h0 g v h.1 e)
    · have hv' : σ.valid h0 g v = true := by simpa [St.valid, St.slot_turn_ne e] using hv
      obtain ⟨cs, f, T', h1, h2, h3, h4, h5⟩ := h.2 hv'
      refine ⟨cs, f, T', h1, by rw [upd_ne e]; exact h2, h3, h4, fun q hq => ?_⟩
      have := h5 q hq
      rwa [St.av, St.slot_turn_ne e]
  | ref h0 p g v =>
    refine ⟨h.1.turn, fun hv => ?_⟩
    by_cases e : h0 = d
    · subst e
      simp only [refOk, Bool.and_eq_true, beq_iff_eq, Bool.or_eq_true] at hv
      have hf : p.fields = true := by
        rcases hv.2 with h' | h'
        · exact h'
        · exact absurd ⟨hv.1, h'⟩ (key h0 g v h.1 rfl)
      have hg : (σ.slot h0).g = g := by have := hv.1; rw [St.slot_turn_eq hd] at this; exact this
      obtain ⟨b, o, h1, h2⟩ := h.2 (by simp [refOk, hf, hg])
      refine ⟨b, o, h1, ?_⟩
      rw [St.av, St.slot_turn_eq hd]
      cases ha : σ.av h0 with
      | box τ x f r =>
        rw [ha] at h2 hk
        obtain ⟨x', f', r', rfl⟩ := hk
        obtain ⟨b0, c, t, fz, k1, k2, k3⟩ := h2
        exact ⟨b0, c, t, fz, k1, k2, fun k => absurd hf (by simp [k])⟩
      | d τ x f => rw [ha] at h2; obtain ⟨_, _, _, k, _⟩ := h2; simp [hf] at k
      | _ => rw [ha] at h2; exact h2.elim
    · have hv' : refOk σ h0 p g v = true := by simpa [refOk, St.slot_turn_ne e] using hv
      obtain ⟨b, o, h1, h2⟩ := h.2 hv'
      refine ⟨b, o, h1, ?_⟩
      rwa [St.av, St.slot_turn_ne e]
  | rp τ x o =>
    cases o with
    | none => trivial
    | some q =>
      obtain ⟨h0, g, v⟩ := q
      refine ⟨h.1.turn, fun hv => ?_⟩
      by_cases e : h0 = d
      · exact absurd (by simpa [St.valid] using hv) (key h0 g v h.1 e)
      · have hv' : σ.valid h0 g v = true := by simpa [St.valid, St.slot_turn_ne e] using hv
        have := h.2 hv'
        rwa [upd_ne e]
  | cl f h0 g =>
    refine ⟨h.1.turn, fun hv => ?_⟩
    by_cases e : h0 = d
    · subst e
      rw [St.slot_turn_eq hd] at hv
      exact h.2 hv
    · rw [St.slot_turn_ne e] at hv
      exact h.2 hv
  | ap h0 i g v =>
    refine ⟨h.1.turn, fun hv => ?_⟩
    by_cases e : h0 = d
    · exact absurd (by simpa [St.valid] using hv) (key h0 g v h.1 e)
    · have hv' : σ.valid h0 g v = true := by simpa [St.valid, St.slot_turn_ne e] using hv
      rw [St.av, St.slot_turn_ne e]
      exact h.2 hv'
  | _ => trivial
theorem SA.turn {d : Nat} {a : AV} {U T' Tf' : Bs} {ξ' : Im} {w' : World} (h : SA T0 ξ0 w0 tk Tf ξ w σ tm) (f : Fr U ξ w ξ' w') (hU : Sb U (Un Tf (tk d))) (wf' : Wf ξ' w') (hk : qy3 (σ.av d) a)
    (ho : q6c ξ' w' a (tm.getD d undef) T') (hnl : ∀ u, qd2 ξ' w' (σ.turn d a) tm (upd tk d T') a u) (sT : ∀ b, T' b → (Un Tf (tk d) b ∨ w.heap.size ≤ b) ∧ b < w'.heap.size) (sF : ∀ b, Tf' b → (Un Tf (tk d) b ∨ w.heap.size ≤ b) ∧ b < w'.heap.size) (dd : Dj T' Tf') (hd : d < σ.length) :
    SA T0 ξ0 w0 (upd tk d T') Tf' ξ' w' (σ.turn d a) tm := by
  have far : ∀ t, t ≠ d → Dj (tk t) (Un Tf (tk d)) := fun t ht => Dj.symm (Dj.un (Dj.symm (h.djf t)) (h.dj d t (Ne.symm ht)))
  have K : ∀ t, t ≠ d → q9y (tk t) ξ w ξ' w' := fun t ht => f.keep h.wf (fun b hb => (h.may t b hb).2) ((far t ht).sub (Sb.refl _) hU)
  have both : ∀ b, Un Tf (tk d) b → May T0 w0 w b := fun b hb => hb.elim (h.mayf b) (h.may d b)
  have far' : ∀ t, t ≠ d → Dj (tk t) T' := fun t ht b h1 h2 => by
    rcases (sT b h2).1 with h3 | h3
    · exact far t ht b h1 h3
    · have := (h.may t b h1).2; omega
  have farF : ∀ t, t ≠ d → Dj (tk t) Tf' := fun t ht b h1 h2 => by
    rcases (sF b h2).1 with h3 | h3
    · exact far t ht b h1 h3
    · have := (h.may t b h1).2; omega
  have own' : ∀ t, q6c ξ' w' ((σ.turn d a).av t) (tm.getD t undef) (upd tk d T' t) := by
    intro t
    by_cases e : t = d
    · subst e; rw [qay, St.av, St.slot_turn_eq hd]; exact ho
    · rw [upd_ne e, St.av, St.slot_turn_ne e]; exact (h.own t).keep (K t e)
  refine ⟨h.fr.trans f fun b hb => (both b (hU b hb)).1, wf', by rw [h.sz, St.turn_length], fun t b hb => ?_, fun b hb => ⟨(sF b hb).1.elim (fun x => (both b x).1) fun x => .inr (Nat.le_trans h.fr.size x), (sF b hb).2⟩, fun t u htu => ?_, fun t => ?_, own', fun t => ?_⟩
  · by_cases e : t = d
    · subst e; rw [qay] at hb
      exact ⟨(sT b hb).1.elim (fun x => (both b x).1) fun x => .inr (Nat.le_trans h.fr.size x), (sT b hb).2⟩
    · rw [upd_ne e] at hb; exact ⟨(h.may t b hb).1, Nat.lt_of_lt_of_le (h.may t b hb).2 f.size⟩
  · by_cases e : t = d
    · subst e; rw [qay, upd_ne (Ne.symm htu)]; exact Dj.symm (far' u (Ne.symm htu))
    · by_cases e' : u = d
      · subst e'; rw [qay, upd_ne e]; exact far' t e
      · rw [upd_ne e, upd_ne e']; exact h.dj t u htu
  · by_cases e : t = d
    · subst e; rw [qay]; exact dd
    · rw [upd_ne e]; exact farF t e
  · by_cases e : t = d
    · subst e; rw [St.av, St.slot_turn_eq hd]; exact hnl _
    · rw [St.av, St.slot_turn_ne e]
      -- first turned in the old world, then the world goes on where it is asked
      have l1 : qd2 ξ w (σ.turn d a) tm (upd tk d T') (σ.av t) (tm.getD t undef) := (h.lent t).turn hd hk
      change qd2 ξ' w' (σ.turn d a) tm (upd tk d T') (σ.av t) (tm.getD t undef)
      cases ha : σ.av t with
      | vw τ x h0 p g v =>
        rw [ha] at l1
        refine ⟨l1.1, fun hv => ?_⟩
        by_cases e' : h0 = d
        · subst e'
          have hp := h.lent t
          rw [ha] at hp
          have := hp.1.2
          simp only [St.valid, St.slot_turn_eq hd, Bool.and_eq_true, beq_iff_eq] at hv
          have := this hv.1.symm
          omega
        · obtain ⟨cs, f', T2, h1, h2, h3, h4, h5⟩ := l1.2 hv
          rw [upd_ne e'] at h2
          refine ⟨cs, f', T2, h1, by rw [upd_ne e']; exact h2, h3, h4.keep ((K h0 e').sub h2), fun q hq => ?_⟩
          have hp := h5 q hq
          rw [St.av, St.slot_turn_ne e'] at hp ⊢
          exact hp.keep (h.own h0) (K h0 e')
      | ref h0 p g v =>
        rw [ha] at l1
        refine ⟨l1.1, fun hv => ?_⟩
        obtain ⟨b, o, h1, h2⟩ := l1.2 hv
        refine ⟨b, o, h1, ?_⟩
        by_cases e' : h0 = d
        · subst e'
          have hf : p.fields = true := by
            simp only [refOk, Bool.and_eq_true, beq_iff_eq, Bool.or_eq_true] at hv
            rcases hv.2 with h' | h'
            · exact h'
            · have hp := h.lent t
              rw [ha] at hp
              have hv1 := hv.1
              rw [St.slot_turn_eq hd] at hv1 h'
              have := hp.1.2 hv1.symm
              simp only at h'
              omega
          rw [St.av, St.slot_turn_eq hd] at h2 ⊢
          simp only at h2 ⊢
          cases a with
          | box τ x f r => obtain ⟨b0, c, t, fz, k1, k2, k3⟩ := h2; exact ⟨b0, c, t, fz, k1, k2, fun k => absurd hf (by simp [k])⟩
          | d τ x f => obtain ⟨_, _, _, k, _⟩ := h2; simp [hf] at k
          | _ => exact h2.elim
        · rw [St.av, St.slot_turn_ne e'] at h2 ⊢
          exact h2.keep (h.own h0) (K h0 e')
      | rp τ x o =>
        rw [ha] at l1
        cases o with
        | none => trivial
        | some q =>
          obtain ⟨h0, g, v⟩ := q
          refine ⟨l1.1, fun hv => ?_⟩
          by_cases e' : h0 = d
          · subst e'
            have hp := h.lent t
            rw [ha] at hp
            have := hp.1.2
            simp only [St.valid, St.slot_turn_eq hd, Bool.and_eq_true, beq_iff_eq] at hv
            have := this hv.1.symm
            omega
          · obtain ⟨b, o, cs, f', T2, h1, h2, h3, h4, h5, h6, h7⟩ := l1.2 hv
            rw [upd_ne e'] at h4 h5
            exact ⟨b, o, cs, f', T2, h1, h2, h4.elim (h3.keep (K h0 e')) (fun z => h3.imm (K h0 e') (by omega)), by rw [upd_ne e']; exact h4.imp id (fun z => Nat.le_trans z ((K h0 e').up _)), by rw [upd_ne e']; exact h5, h6, h7.keep ((K h0 e').sub h5)⟩
      | cl f0 h0 g => rw [ha] at l1; exact l1
      | ap h0 i g v => rw [ha] at l1; exact l1
      | _ => trivial
end
end Go.Proofs.YtjfkeknnjjlepaaGreatDoor.Rf
end

section
/- Operands: read, copied, taken. Nothing of any program. -/
namespace Go.Proofs.YtjfkeknnjjlepaaGreatDoor.Rf
open Go Go.RowKit
set_option linter.unusedVariables false
set_option linter.unusedSimpArgs false
def ev (tm : Array Value) : Operand → Value
  | .tmp t => tm.getD t undef
  | .const v => v
  | .global g => .pointer (some ⟨g, 0, none⟩)
  | .func f => .func (.func f) #[] #[]
theorem qp7 (a : Act) : a.eval = ev a.tmps := by funext x; cases x <;> rfl
theorem q6v : (τ : Ty) → (x : τ.T) → q5f τ x [] = some ⟨τ, x⟩
  | .int _, _ | .bool, _ | .str, _ | .row _, _ | .pair _ _, _ | .st _, _ | .arr _ _, _ => rfl
theorem q9z {σ : St} {u : Nat} (h : σ.av u ≠ .no) : u < σ.length := by
  apply Decidable.byContradiction
  intro hn
  exact h (by simp [St.av, St.slot, List.getD_eq_getElem?_getD, List.getElem?_eq_none (Nat.le_of_not_lt hn)])
section
variable {T0 : Bs} {ξ0 : Im} {w0 : World} {tk : Nat → Bs} {Tf : Bs} {ξ : Im} {w : World} {σ : St} {tm : Array Value}
theorem SA.at_d (h : SA T0 ξ0 w0 tk Tf ξ w σ tm) {u : Nat} {τ : Ty} {x : τ.T} {f : Fl} (ha : σ.av u = .d τ x f) : ∃ cs, tm.getD u undef = mkV τ cs ∧ Rel ξ w τ f x cs (tk u) := by
  have := h.own u
  rw [ha] at this
  exact this
theorem SA.at_vw (h : SA T0 ξ0 w0 tk Tf ξ w σ tm) {u : Nat} {τ : Ty} {x : τ.T} {h0 : Tmp} {p : Option Path} {g v : Nat} (ha : σ.av u = .vw τ x h0 p g v) (hv : σ.valid h0 g v = true) :
    ∃ cs f, ∃ T' : Bs, tm.getD u undef = mkV τ cs ∧ Sb T' (tk h0) ∧ f.ok τ = true ∧ Rel ξ w τ f x cs T' ∧ ∀ q, p = some q → Part w (σ.av h0) (tm.getD h0 undef) q τ x cs := by
  have := h.lent u
  rw [ha] at this
  exact this.2 hv
def Reads (ξ : Im) (w : World) (tk : Nat → Bs) (v : Value) (s : Sv) : Prop := ∃ cs f, ∃ T' : Bs, ∃ t : Nat, v = mkV s.1 cs ∧ Sb T' (tk t) ∧ f.ok s.1 = true ∧ Rel ξ w s.1 f s.2 cs T'
theorem q78 (h : SA T0 ξ0 w0 tk Tf ξ w σ tm) {o : Operand} {s : Sv} (hr : rdv σ o = some s) : Reads ξ w tk (ev tm o) s := by
  cases o with
  | tmp u =>
    simp only [rdv] at hr
    split at hr
    · rename_i τ x f ha
      split at hr
      · rename_i hf
        obtain rfl := Option.some.inj hr
        obtain ⟨cs, h1, h2⟩ := h.at_d ha
        exact ⟨cs, f, tk u, u, h1, Sb.refl _, hf, h2⟩
      · cases hr
    · rename_i τ x h0 p g v ha
      split at hr
      · rename_i hv
        obtain rfl := Option.some.inj hr
        obtain ⟨cs, f, T', h1, h2, h3, h4, h5⟩ := h.at_vw ha hv
        exact ⟨cs, f, T', h0, h1, h2, h3, h4⟩
      · cases hr
    · cases hr
  | const v =>
    cases v <;> simp only [rdv, Option.some.injEq, reduceCtorEq] at hr
    · subst hr; exact ⟨[_], .ro, Em, 0, rfl, Sb.em _, rfl, rfl, fun _ => rfl⟩
    · subst hr; exact ⟨[_], .ro, Em, 0, rfl, Sb.em _, rfl, rfl, fun _ => rfl⟩
    · subst hr; exact ⟨[_], .ro, Em, 0, rfl, Sb.em _, rfl, rfl, fun _ => rfl⟩
  | global g => simp [rdv] at hr
  | func f => simp [rdv] at hr
theorem qp8 {E : q6f} {t : TypeId} (h : SA T0 ξ0 w0 tk Tf ξ w σ tm) {o : Operand} {s : Sv} (hr : rdT E σ t o = some s) : Reads ξ w tk (ev tm o) s := by
  unfold rdT at hr
  split at hr
  · split at hr
    · obtain rfl := Option.some.inj hr
      refine ⟨[.slice none 0 0], .ro, Em, 0, rfl, Sb.em _, rfl, none, 0, rfl, Nat.le_refl _, fun i hi => ?_⟩
      simp [sv] at hi
    · cases hr
  · exact q78 h hr
theorem Past.refl (σ : St) (u : Nat) : Past σ u (σ.slot u).g (σ.slot u).v := ⟨Nat.le_refl _, fun _ => Nat.le_refl _⟩
theorem qhn : (τ : Ty) → Fl.isRo τ .ro = true
  | .int _ => rfl | .bool => rfl | .str => rfl | .row _ => rfl | .arr _ _ => rfl
  | .pair a b => by simp only [Fl.isRo, Fl.l, Fl.r, qhn a, qhn b, Bool.and_self]
  | .st a => by simp only [Fl.isRo, qhn a]
theorem Own.fixd {a : AV} {v : Value} {T : Bs} (h : Own ξ w a v T) (hf : a.fixd = true) : Own ξ w a v Em := by
  cases a with
  | d τ x f =>
    simp only [AV.fixd, decide_eq_true_eq] at hf
    subst hf
    obtain ⟨cs, h1, h2⟩ := h
    exact ⟨cs, h1, h2.toRo (qhn τ)⟩
  | un => exact h
  | _ => simp [AV.fixd] at hf
theorem qa7 (E : q6f) (t : TypeId) (h : SA T0 ξ0 w0 tk Tf ξ w σ tm) (o : Operand) : q6c ξ w (copy E σ t o) (ev tm o) Em ∧ qd2 ξ w σ tm tk (copy E σ t o) (ev tm o) := by
  cases o with
  | tmp u =>
    have ho := h.own u
    have hl := h.lent u
    simp only [copy]
    change q6c ξ w (match σ.av u with | .d τ x f => _ | .box _ _ _ _ => _ | .tup l => _ | a => a) _ _ ∧ qd2 ξ w σ tm tk (match σ.av u with | .d τ x f => _ | .box _ _ _ _ => _ | .tup l => _ | a => a) _
    cases ha : σ.av u with
    | d τ x f =>
      obtain ⟨cs, h1, h2⟩ := h.at_d ha
      simp only
      split
      · rename_i hr; exact ⟨⟨cs, h1, h2.toRo hr⟩, trivial⟩
      · split
        · rename_i hf
          refine ⟨trivial, Past.refl _ _, fun _ => ⟨cs, f, tk u, h1, Sb.refl _, hf, h2, fun q hq => ?_⟩⟩
          obtain rfl := Option.some.inj hq
          rw [ha]
          exact ⟨cs, [], [], h1, h2.len, q6v _ _, by simp, (q5d _).symm, h2.len, rfl⟩
        · exact ⟨trivial, trivial⟩
    | box τ x f r =>
      rw [ha] at ho
      obtain ⟨b, c, t', fz, T', h1, h2, h3, _⟩ := ho
      refine ⟨trivial, ⟨Nat.le_refl _, fun _ => Nat.zero_le _⟩, fun _ => ⟨b, 0, h1, ?_⟩⟩
      rw [ha]
      exact ⟨b, c, t', fz, h1, fun _ => ⟨rfl, (q5d _).symm⟩, fun k => by simp [Path.fields] at k⟩
    | tup l =>
      rw [ha] at ho
      simp only
      split
      · rename_i hf
        obtain ⟨vs, Te, k1, k0, k2, k3, k4⟩ := ho
        exact ⟨⟨vs, fun _ => Em, k1, k0, fun _ => Sb.refl _, fun _ _ _ => Dj.em _, fun i a hi => (k4 i a hi).fixd (List.all_eq_true.1 hf a (List.mem_of_getElem? hi))⟩, trivial⟩
      · exact ⟨trivial, trivial⟩
    | no => exact ⟨trivial, trivial⟩
    | un => rw [ha] at ho; exact ⟨ho, trivial⟩
    | vw τ x h0 p g v => rw [ha] at hl; exact ⟨trivial, hl⟩
    | ref h0 p g v => rw [ha] at hl; exact ⟨trivial, hl⟩
    | rp τ x q =>
      rw [ha] at hl ho
      cases q with
      | none => exact ⟨ho, trivial⟩
      | some q => exact ⟨trivial, hl⟩
    | fn f => rw [ha] at ho; exact ⟨ho, trivial⟩
    | cl f h0 g => rw [ha] at hl; exact ⟨trivial, hl⟩
    | ap h0 i g v => rw [ha] at hl; exact ⟨trivial, hl⟩
  | func f => exact ⟨rfl, trivial⟩
  | global g => first | exact ⟨trivial, trivial⟩ | exact ⟨⟨[_], rfl, rfl, fun _ => rfl⟩, trivial⟩
  | const v =>
    cases v with
    | slice a n c =>
      cases a with
      | some a => first | exact ⟨trivial, trivial⟩ | exact ⟨⟨[_], rfl, rfl, fun _ => rfl⟩, trivial⟩
      | none =>
        cases n with
        | succ n => first | exact ⟨trivial, trivial⟩ | exact ⟨⟨[_], rfl, rfl, fun _ => rfl⟩, trivial⟩
        | zero =>
          cases c with
          | succ c => first | exact ⟨trivial, trivial⟩ | exact ⟨⟨[_], rfl, rfl, fun _ => rfl⟩, trivial⟩
          | zero =>
            simp only [copy]
            split
            · exact ⟨⟨[.slice none 0 0], rfl, .inl ⟨rfl, rfl⟩⟩, trivial⟩
            · exact ⟨trivial, trivial⟩
    | _ => first | exact ⟨trivial, trivial⟩ | exact ⟨⟨[_], rfl, rfl, fun _ => rfl⟩, trivial⟩
theorem SA.same {Tf' : Bs} (h : SA T0 ξ0 w0 tk Tf ξ w σ tm) (s : Sb Tf' Tf) : SA T0 ξ0 w0 tk Tf' ξ w σ tm := h.drop s
theorem qs6 (Tf : Bs) : Sb (Un Tf Em) Tf := Sb.un (Sb.refl _) (Sb.em _)
theorem qho {E : q6f} {t : TypeId} {o : Operand} {a : AV} {σ' : St} (h : SA T0 ξ0 w0 tk Tf ξ w σ tm) (ht : take E σ t o = some (a, σ')) :
    ∃ tk' : Nat → Bs, ∃ T' : Bs, SA T0 ξ0 w0 tk' (Un Tf T') ξ w σ' tm ∧ Dj T' Tf ∧ q6c ξ w a (ev tm o) T' ∧ qd2 ξ w σ' tm tk' a (ev tm o) ∧ σ'.length = σ.length := by
  have plain : ∀ o, some (copy E σ t o, σ) = some (a, σ') → ∃ tk' : Nat → Bs, ∃ T' : Bs, SA T0 ξ0 w0 tk' (Un Tf T') ξ w σ' tm ∧ Dj T' Tf ∧ q6c ξ w a (ev tm o) T' ∧ qd2 ξ w σ' tm tk' a (ev tm o) ∧ σ'.length = σ.length := by
    intro o he
    cases he
    exact ⟨tk, Em, h.same (qs6 _), Dj.em _, (qa7 E t h o).1, (qa7 E t h o).2, rfl⟩
  cases o with
  | const v => exact plain _ ht
  | global g => exact plain _ ht
  | func f => exact plain _ ht
  | tmp u =>
    have out : ∀ a0, σ.av u = a0 → a0 ≠ .no → ∃ tk' : Nat → Bs, SA T0 ξ0 w0 tk' (Un Tf (tk u)) ξ w (σ.put u .no) tm := fun a0 e hn =>
      ⟨_, h.put (tm' := tm) (T' := Em) (Tf' := Un Tf (tk u)) rfl (fun _ _ => rfl) trivial trivial (Sb.em _) (Sb.refl _) (Dj.em _) (q9z (by rw [e]; exact hn))⟩
    have ho := h.own u
    have hl := h.lent u
    simp only [take] at ht
    split at ht
    · rename_i τ x f ha
      obtain ⟨cs, h1, h2⟩ := h.at_d ha
      split at ht
      · rename_i hr
        cases ht
        exact ⟨tk, Em, h.same (qs6 _), Dj.em _, ⟨cs, h1, h2.toRo hr⟩, trivial, rfl⟩
      · cases ht
        obtain ⟨tk', k⟩ := out _ ha (by simp)
        exact ⟨tk', tk u, k, h.djf u, ⟨cs, h1, h2⟩, trivial, by simp [St.put]⟩
    · rename_i τ x h0 p g v ha
      split at ht
      case isFalse => cases ht
      rename_i hv
      split at ht
      case h_2 => cases ht
      rename_i p
      split at ht
      case isFalse => cases ht
      rename_i hp
      obtain ⟨cs, f, T', h1, h2, h3, h4, h5⟩ := h.at_vw ha hv
      have hpart := h5 p rfl
      have hown := h.own h0
      split at ht
      · rename_i τ' x' f' hh
        cases ht
        rw [hh] at hpart hown
        obtain ⟨cs0, c1, c3, k1, k2, k3, k4, k5, k6, k7⟩ := hpart
        obtain ⟨cs0', k8, k9⟩ := hown
        obtain rfl := q9d k2 k9.len (k1.symm.trans k8)
        obtain ⟨d1, d2, d3, T1, T2, e1, e2, e3, e4, e5, e6, e7⟩ := k9.take k7 k3
        rw [k4] at e1
        obtain ⟨rfl, e8⟩ := List.append_inj e1 (by omega)
        obtain ⟨rfl, rfl⟩ := List.append_inj e8 (by rw [k6, e6.len])
        have K := h.turn (d := h0) (a := .d τ' x' (f'.put p .gone)) (U := Em) (T' := T2) (Tf' := Un Tf T1) (Fr.refl _ _ _) (Sb.em _) h.wf (by rw [hh]; trivial) ⟨cs0, k1, e7⟩ (fun _ => trivial)
          (fun b hb => ⟨.inl (.inr (e4 b hb)), (h.may h0 b (e4 b hb)).2⟩) (fun b hb => ⟨.inl (Sb.both (Sb.refl _) e3 b hb), hb.elim (fun x => (h.mayf b x).2) (fun x => (h.may h0 b (e3 b x)).2)⟩) (Dj.symm (Dj.un (Dj.symm ((h.djf h0).sub e4 (Sb.refl _))) e5)) (q9z (by rw [hh]; simp))
        exact ⟨_, T1, K, (h.djf h0).sub e3 (Sb.refl _), ⟨cs, h1, e6⟩, trivial, by simp [St.turn]⟩
      · rename_i τ' x' f' sr hh
        cases ht
        rw [hh] at hpart hown
        obtain ⟨b, c, t', fz, c1, c3, k1, k2, k3, k4, k5, k6, k7⟩ := hpart
        obtain ⟨b', c', t'', fz', T3, k1', k8, k9, k10, k11, k12, k13, k14⟩ := hown
        rw [k1] at k1'
        simp only [Value.pointer.injEq, Option.some.injEq, Addr.mk.injEq, and_true] at k1'
        subst k1'
        rw [k2] at k9
        simp only [Option.some.injEq, Obj.cells.injEq] at k9
        obtain ⟨rfl, rfl, rfl⟩ := k9
        obtain ⟨d1, d2, d3, T1, T2, e1, e2, e3, e4, e5, e6, e7⟩ := k14.take k7 k3
        rw [k4] at e1
        obtain ⟨rfl, e8⟩ := List.append_inj e1 (by omega)
        obtain ⟨rfl, rfl⟩ := List.append_inj e8 (by rw [k6, e6.len])
        have s1 : Sb (Un (fun i => i = b) T2) (tk h0) := Sb.un (fun i hi => hi ▸ k8) (e4.trans k12)
        have K := h.turn (d := h0) (a := .box τ' x' (f'.put p .gone) sr) (U := Em) (T' := Un (fun i => i = b) T2) (Tf' := Un Tf T1) (Fr.refl _ _ _) (Sb.em _) h.wf (by rw [hh]; exact ⟨_, _, _, rfl⟩)
          ⟨b, c, t', fz, T2, k1, .inl rfl, k2, k10, k11, Sb.r _ _, fun hx => k13 (e4 _ hx), e7⟩ (fun _ => trivial)
          (fun i hb => ⟨.inl (.inr (s1 i hb)), (h.may h0 i (s1 i hb)).2⟩) (fun b hb => ⟨.inl (Sb.both (Sb.refl _) (e3.trans k12) b hb), hb.elim (fun x => (h.mayf b x).2) (fun x => (h.may h0 b (k12 b (e3 b x))).2)⟩)
          (Dj.symm (Dj.un (Dj.symm ((h.djf h0).sub s1 (Sb.refl _))) (Dj.symm (Dj.un (fun i hi hx => k13 (hi ▸ e3 i hx)) (Dj.symm e5))))) (q9z (by rw [hh]; simp))
        exact ⟨_, T1, K, (h.djf h0).sub (e3.trans k12) (Sb.refl _), ⟨cs, h1, e6⟩, trivial, by simp [St.turn]⟩
      · cases ht
    · rename_i τ x f s ha
      cases ht
      obtain ⟨tk', k⟩ := out _ ha (by simp)
      rw [ha] at ho
      exact ⟨tk', tk u, k, h.djf u, ho, trivial, by simp [St.put]⟩
    · cases ht
    · cases ht
    · rename_i a0 hd hvw hbox htup hno
      cases ht
      refine ⟨tk, Em, h.same (qs6 _), Dj.em _, ?_, hl, rfl⟩
      cases ha : σ.av u with
      | d τ x f => exact (hd _ _ _ ha).elim
      | vw τ x h p g v => exact (hvw _ _ _ _ _ _ ha).elim
      | box τ x f s => exact (hbox _ _ _ _ ha).elim
      | tup l => exact (htup _ ha).elim
      | no => exact (hno ha).elim
      | rp τ x q =>
        rw [ha] at ho
        cases q <;> exact ho
      | un => rw [ha] at ho; exact ho
      | ref h p g v => trivial
      | fn f => rw [ha] at ho; exact ho
      | cl f h0 g => trivial
      | ap h0 i g v => trivial
end
end Go.Proofs.YtjfkeknnjjlepaaGreatDoor.Rf
end

section
/- The program's types, as plain types; loads, stores, new blocks. Nothing of any program. -/
namespace Go.Proofs.YtjfkeknnjjlepaaGreatDoor.Rf
open Go Go.RowKit
set_option linter.unusedVariables false
set_option linter.unusedSimpArgs false
def isZ : Ty → List Value → Bool
  | .int k, cs => match cs with | [.int k' n] => decide (k' = k) && decide (n = 0) | _ => false
  | .bool, cs => match cs with | [.bool b] => !b | _ => false
  | .str, cs => match cs with | [.string s] => decide (s = ByteArray.empty) | _ => false
  | .row _, cs => match cs with | [.slice none 0 0] => true | _ => false
  | .pair a b, cs => isZ a (cs.take a.n) && isZ b (cs.drop a.n) && decide (cs.length = a.n + b.n)
  | .st a, cs => isZ a cs
  | .arr m k, cs => decide (cs.length = m + 1) && cs.all fun | .int k' n => decide (k' = k) && decide (n = 0) | _ => false
def qj0 : Value → Bool
  | .agg _ => true | _ => false
def qey (P : Program) (τ : Ty) (t : TypeId) : Bool := match P.info? t with
  | some i => decide (i.size = τ.n) && (decide (0 < i.bytes ∧ i.bytes ≤ τ.by) && match i.zero with
    | some z => isZ τ z.cells.toList && (match τ with | .st _ => qj0 z | .arr _ _ => qj0 z | _ => !qj0 z)
    | none => false)
  | none => false
def one (m : TypeId ⊕ (List Field × Nat)) (f : TypeId → Bool) : Bool := match m with
  | .inl t => f t
  | .inr ([fd], o) => decide (fd.offset = o) && (decide (fd.name ≠ "_") && f fd.type)
  | _ => false
def q5l (P : Program) : Ty → (TypeId ⊕ (List Field × Nat)) → Bool
  | .int k, m => one m fun t => qey P (.int k) t && match P.underlying t with | some (.int k') => decide (k' = k) | _ => false
  | .bool, m => one m fun t => qey P .bool t && match P.underlying t with | some .bool => true | _ => false
  | .str, m => one m fun t => qey P .str t && match P.underlying t with | some .string => true | _ => false
  | .row e, m => one m fun t => qey P (.row e) t && match P.underlying t with | some (.slice te) => q5l P e (.inl te) | _ => false
  | .pair a b, m => match m with
    | .inr (fd :: fs, o) => decide (fd.offset = o) && (q5l P a (.inl fd.type) && (q5l P b (.inr (fs, o + a.n)) && decide (fd.name ≠ "_")))
    | _ => false
  | .st a, m => one m fun t => qey P (.st a) t && match P.underlying t with | some (.struct fs) => q5l P a (.inr (fs.toList, 0)) && (!P.stoodInHeld t && !P.eqGuardType P.depth t) | _ => false
  | .arr m k, m' => one m' fun t => qey P (.arr m k) t && match P.underlying t with | some (.array n te) => decide (n = m + 1) && (qey P (.int k) te && match P.underlying te with | some (.int k') => decide (k' = k) | _ => false) | _ => false
abbrev tok (P : Program) (τ : Ty) (t : TypeId) : Prop := q5l P τ (.inl t) = true
theorem Rel.zero {ξ : Im} {w : World} : {τ : Ty} → {cs : List Value} → isZ τ cs = true → Rel ξ w τ τ.full τ.z cs Em
  | .int k, cs, h => by
    simp only [isZ] at h
    split at h
    · simp only [Bool.and_eq_true, decide_eq_true_eq] at h
      obtain ⟨rfl, rfl⟩ := h
      exact ⟨rfl, fun _ => rfl⟩
    · cases h
  | .bool, cs, h => by
    simp only [isZ] at h
    split at h
    · simp only [Bool.not_eq_true'] at h
      subst h; exact ⟨rfl, fun _ => rfl⟩
    · cases h
  | .str, cs, h => by
    simp only [isZ] at h
    split at h
    · exact ⟨rfl, fun _ => by rw [of_decide_eq_true h]; rfl⟩
    · cases h
  | .row e, cs, h => by
    simp only [isZ] at h
    split at h
    · exact .inl ⟨rfl, rfl⟩
    · cases h
  | .pair a b, cs, h => by
    simp only [isZ, Bool.and_eq_true, decide_eq_true_eq] at h
    obtain ⟨⟨h1, h2⟩, h3⟩ := h
    have r1 := Rel.zero (ξ := ξ) (w := w) h1
    have r2 := Rel.zero (ξ := ξ) (w := w) h2
    have hl : ((Ty.pair a b).full).l = a.full ∨ (((Ty.pair a b).full).l = .ro ∧ a.flat = true) := by
      change (if a.flat && b.flat then Fl.ro else .pr a.full b.full).l = a.full ∨ ((if a.flat && b.flat then Fl.ro else .pr a.full b.full).l = .ro ∧ a.flat = true)
      split
      · rename_i h; simp at h; exact .inr ⟨rfl, h.1⟩
      · exact .inl rfl
    have hr : ((Ty.pair a b).full).r = b.full ∨ (((Ty.pair a b).full).r = .ro ∧ b.flat = true) := by
      change (if a.flat && b.flat then Fl.ro else .pr a.full b.full).r = b.full ∨ ((if a.flat && b.flat then Fl.ro else .pr a.full b.full).r = .ro ∧ b.flat = true)
      split
      · rename_i h; simp at h; exact .inr ⟨rfl, h.2⟩
      · exact .inl rfl
    have flat : ∀ τ : Ty, τ.flat = true → τ.full = .ro := by
      intro τ
      induction τ with
      | int k => intro _; rfl
      | bool => intro _; rfl
      | str => intro _; rfl
      | row e => intro h; simp [Ty.flat] at h
      | pair a b => intro h; unfold Ty.full; rw [if_pos (by simpa [Ty.flat] using h)]
      | st a ih => intro h; exact ih h
      | arr m k => intro _; rfl
    refine ⟨cs.take a.n, cs.drop a.n, Em, Em, (List.take_append_drop _ _).symm, r1.len, Sb.em _, Sb.em _, Dj.em _, ?_, ?_⟩
    · rcases hl with e | ⟨e, e'⟩
      · rw [e]; exact r1
      · rw [e, ← flat a e']; exact r1
    · rcases hr with e | ⟨e, e'⟩
      · rw [e]; exact r2
      · rw [e, ← flat b e']; exact r2
  | .st a, cs, h => Rel.zero (τ := a) h
  | .arr m k, cs, h => by
    simp only [isZ, Bool.and_eq_true, decide_eq_true_eq, List.all_eq_true] at h
    refine ⟨h.1, fun _ => ⟨by simp [Ty.z], ?_⟩⟩
    rw [Ty.z, List.map_replicate, List.eq_replicate_iff]
    refine ⟨h.1, fun v hv => ?_⟩
    have := h.2 v hv
    split at this
    · simp only [Bool.and_eq_true, decide_eq_true_eq] at this
      rw [this.1, this.2]
    · cases this
theorem Rel.cells1 {ξ : Im} {w : World} : {τ : Ty} → {f : Fl} → {x : τ.T} → {cs : List Value} → {T : Bs} → Rel ξ w τ f x cs T → f.ok τ = true → ∀ v ∈ cs, v.oneCell' = true
  | .int _, _, _, _, _, h, r => by rw [h.2 (by simpa [Fl.ok] using r)]; simp [Value.oneCell']
  | .bool, _, _, _, _, h, r => by rw [h.2 (by simpa [Fl.ok] using r)]; simp [Value.oneCell']
  | .str, _, _, _, _, h, r => by rw [h.2 (by simpa [Fl.ok] using r)]; simp [Value.oneCell']
  | .arr _ _, _, _, _, _, h, r => by rw [(h.2 (by simpa [Fl.ok] using r)).2]; intro v hv; obtain ⟨n, _, rfl⟩ := List.mem_map.1 hv; rfl
  | .row e, f, l, cs, T, h, r => by
    cases f with
    | gone => simp [Fl.ok] at r
    | pr _ _ => exact h.elim
    | ro => obtain ⟨A, cap, rfl, _⟩ := h; simp [Value.oneCell']
    | own g => rcases h with ⟨_, rfl⟩ | ⟨a, cap, c, t, fz, Te, rfl, _⟩ <;> simp [Value.oneCell']
  | .pair a b, _, _, _, _, ⟨c1, c2, T1, T2, hc, hl, s1, s2, d, h1, h2⟩, r => by
    simp only [Fl.ok, Bool.and_eq_true] at r
    intro v hv
    rw [hc, List.mem_append] at hv
    exact hv.elim (Rel.cells1 h1 r.1 v) (Rel.cells1 h2 r.2 v)
  | .st a, _, _, _, _, h, r => Rel.cells1 (τ := a) h r
section
variable {P : Program} {τ : Ty} {t : TypeId}
theorem tok.info (h : tok P τ t) : ∃ i z, P.info? t = some i ∧ i.size = τ.n ∧ (0 < i.bytes ∧ i.bytes ≤ τ.by) ∧ i.zero = some z ∧ isZ τ z.cells.toList = true ∧ mkV τ z.cells.toList = z := by
  have key : qey P τ t = true ∧ ∀ a b, τ ≠ .pair a b := by
    cases τ <;> simp only [tok, q5l, one, Bool.and_eq_true] at h
    case pair a b => cases h
    all_goals exact ⟨h.1, by simp⟩
  obtain ⟨h, hp⟩ := key
  unfold qey at h
  split at h
  · rename_i i hi
    simp only [Bool.and_eq_true, decide_eq_true_eq] at h
    obtain ⟨h1, h2, h3⟩ := h
    split at h3
    · rename_i z hz
      simp only [Bool.and_eq_true] at h3
      refine ⟨i, z, hi, h1, h2, hz, h3.1, ?_⟩
      have hr := Rel.zero (ξ := fun _ => 0) (w := default) h3.1
      cases τ with
      | pair a b => exact (hp a b rfl).elim
      | st a =>
        have := h3.2
        cases z <;> simp [qj0] at this
        simp [mkV, Value.cells]
      | _ =>
        have := h3.2
        cases z <;> simp [qj0] at this <;> rfl
    · cases h3
  · cases h
theorem tok.size (h : tok P τ t) (w : World) : (sizeOf t).run P w = .ok τ.n w := by
  obtain ⟨i, z, h1, h2, _⟩ := h.info
  simp [sizeOf, typeInfo, h1, h2]
theorem tok.zero (h : tok P τ t) (w : World) : ∃ z, (zeroValue t).run P w = .ok z w ∧ isZ τ z.cells.toList = true ∧ mkV τ z.cells.toList = z := by
  obtain ⟨i, z, h1, _, _, h2, h3, h4⟩ := h.info
  exact ⟨z, by simp [zeroValue, typeInfo, h1, h2], h3, h4⟩
theorem tok.int {k : IntKind} (h : tok P (.int k) t) : P.underlying t = some (.int k) := by
  simp only [tok, q5l, one, Bool.and_eq_true] at h
  have := h.2
  split at this
  · simp only [decide_eq_true_eq] at this; subst this; assumption
  · cases this
theorem tok.bool (h : tok P .bool t) : P.underlying t = some .bool := by
  simp only [tok, q5l, one, Bool.and_eq_true] at h
  have := h.2
  split at this
  · assumption
  · cases this
theorem tok.str (h : tok P .str t) : P.underlying t = some .string := by
  simp only [tok, q5l, one, Bool.and_eq_true] at h
  have := h.2
  split at this
  · assumption
  · cases this
theorem tok.row {e : Ty} (h : tok P (.row e) t) : ∃ te, P.underlying t = some (.slice te) ∧ tok P e te := by
  simp only [tok, q5l, one, Bool.and_eq_true] at h
  have := h.2
  split at this
  · exact ⟨_, by assumption, this⟩
  · cases this
theorem tok.st {a : Ty} (h : tok P (.st a) t) : ∃ fs, P.underlying t = some (.struct fs) ∧ q5l P a (.inr (fs.toList, 0)) = true ∧ P.stoodInHeld t = false ∧ P.eqGuardType P.depth t = false := by
  simp only [tok, q5l, one, Bool.and_eq_true] at h
  have := h.2
  split at this
  · simp only [Bool.and_eq_true, Bool.not_eq_true'] at this
    exact ⟨_, by assumption, this⟩
  · cases this
theorem tok.arr {m : Nat} {k : IntKind} (h : tok P (.arr m k) t) : ∃ te, P.underlying t = some (.array (m + 1) te) ∧ tok P (.int k) te := by
  simp only [tok, q5l, one, Bool.and_eq_true] at h ⊢
  have := h.2
  split at this
  · simp only [Bool.and_eq_true, decide_eq_true_eq] at this
    obtain ⟨rfl, h2⟩ := this
    exact ⟨_, by assumption, h2⟩
  · cases this
theorem tok.agg (h : tok P τ t) (w : World) : (isAgg t).run P w = .ok (match τ with | .st _ => true | .arr _ _ => true | _ => false) w := by
  cases τ with
  | int k => simp [isAgg, run_underlying h.int]
  | bool => simp [isAgg, run_underlying h.bool]
  | str => simp [isAgg, run_underlying h.str]
  | row e => obtain ⟨te, h1, _⟩ := h.row; simp [isAgg, run_underlying h1]
  | pair a b => simp [tok, q5l] at h
  | st a => obtain ⟨fs, h1, _⟩ := h.st; simp [isAgg, run_underlying h1]
  | arr m k => obtain ⟨te, h1, _⟩ := h.arr; simp [isAgg, run_underlying h1]
theorem qez (h : tok P τ t) {w : World} {b o : Nat} {cs : List Value} (hl : cs.length = τ.n) (hc : CAt w b o cs) : (loadVar t ⟨b, o, none⟩).run P w = .ok (mkV τ cs) w := by
  have hadd : ∀ i, (⟨b, o, none⟩ : Addr).add i = ⟨b, o + i, none⟩ := fun i => by unfold Addr.add; split <;> simp_all
  have one : τ.n = 1 → (load ⟨b, o, none⟩ : Sem Value).run P w = .ok (cs.headD undef) w := by
    intro h1
    rw [h1] at hl
    match cs, hl with
    | [v], _ =>
      have := hc 0 v rfl
      simp only [Nat.add_zero] at this
      simp [this]
  cases τ with
  | pair a b => simp [tok, q5l] at h
  | st a =>
    simp only [loadVar, Sem.run_bind, h.agg, Result.andThen, h.size, if_true]
    rw [← hl, run_loadCells_list w _ cs fun j v hj => by rw [hadd]; exact hc j v hj]
    rfl
  | arr m k =>
    simp only [loadVar, Sem.run_bind, h.agg, Result.andThen, h.size, if_true]
    rw [← hl, run_loadCells_list w _ cs fun j v hj => by rw [hadd]; exact hc j v hj]
    rfl
  | int k => simp only [loadVar, Sem.run_bind, h.agg, Result.andThen, Bool.false_eq_true, if_false]; exact one rfl
  | bool => simp only [loadVar, Sem.run_bind, h.agg, Result.andThen, Bool.false_eq_true, if_false]; exact one rfl
  | str => simp only [loadVar, Sem.run_bind, h.agg, Result.andThen, Bool.false_eq_true, if_false]; exact one rfl
  | row e => simp only [loadVar, Sem.run_bind, h.agg, Result.andThen, Bool.false_eq_true, if_false]; exact one rfl
theorem qnt {w : World} {b o : Nat} {v : Value} : Wr w (w.setCell ⟨b, o, none⟩ v) b o [v] ∨ ¬ ∃ c t fz, w.heap[b]? = some (.cells c t fz) ∧ o < c.size := by
  by_cases hx : ∃ c t fz, w.heap[b]? = some (.cells c t fz) ∧ o < c.size
  · left
    obtain ⟨c, t, fz, hc, ho⟩ := hx
    refine ⟨rfl, rfl, rfl, by simp [World.setCell], fun b' hb => Below.heap_setCell _ _ _ _ (by simpa using hb), ?_⟩
    intro c' t' fz' hc'
    rw [hc] at hc'
    cases hc'
    refine ⟨c.setIfInBounds o v, by simp [World.setCell, Array.getElem?_modify, hc], by simp, ?_, ?_⟩
    · intro i u hi
      cases i with
      | zero => simp at hi; subst hi; simp [ho]
      | succ i => simp at hi
    · intro i hi
      rw [Array.getElem?_setIfInBounds_ne]
      simp at hi
      omega
  · right; exact hx
theorem Wr.trans1 {w w1 w2 : World} {b o : Nat} {v : Value} {vs : List Value} (h : Wr w w1 b o [v]) (k : Wr w1 w2 b (o + 1) vs) : Wr w w2 b o (v :: vs) := by
  refine ⟨k.os.trans h.os, k.tape.trans h.tape, k.output.trans h.output, k.size.trans h.size, fun b' hb => (k.oth b' hb).trans (h.oth b' hb), ?_⟩
  intro c t fz hc
  obtain ⟨c1, r1, r2, r3, r4⟩ := h.at_ c t fz hc
  obtain ⟨c2, s1, s2, s3, s4⟩ := k.at_ c1 t fz r1
  refine ⟨c2, s1, s2.trans r2, ?_, ?_⟩
  · intro i u hi
    cases i with
    | zero =>
      simp at hi; subst hi
      rw [s4 _ (.inl (by omega))]
      exact r3 0 _ rfl
    | succ i =>
      simp at hi
      have := s3 i u hi
      rwa [show o + (i + 1) = o + 1 + i by omega]
  · intro i hi
    simp at hi
    rw [s4 i (by omega), r4 i (by simp; omega)]
theorem q7b {b o : Nat} : ∀ (cs : List Value) (i : Nat) {w : World} {c : Array Value} {t : TypeId} {fz : Nat × Nat}, w.heap[b]? = some (.cells c t fz) → (∀ j, j < c.size → ¬(fz.1 ≤ j ∧ j < fz.2)) → o + i + cs.length ≤ c.size → (∀ v ∈ cs, v.oneCell' = true) →
    ∃ w', (storeCells ⟨b, o, none⟩ cs i).run P w = .ok () w' ∧ Wr w w' b (o + i) cs
  | [], i, w, c, t, fz, hc, hz, hl, h1 => ⟨w, rfl, rfl, rfl, rfl, rfl, fun _ _ => rfl, fun c t fz h => ⟨c, h, rfl, fun i v hi => by simp at hi, fun _ _ => rfl⟩⟩
  | v :: vs, i, w, c, t, fz, hc, hz, hl, h1 => by
    have hadd : (⟨b, o, none⟩ : Addr).add i = ⟨b, o + i, none⟩ := by unfold Addr.add; split <;> simp_all
    simp only [List.length_cons] at hl
    have hlt : o + i < c.size := by omega
    have hcell : w.cell? ⟨b, o + i, none⟩ = some c[o + i] := by rw [cell_of hc]; simp [hlt]
    have hfro : w.frozen? ⟨b, o + i, none⟩ = false := by
      have := hz _ hlt
      simp only [World.frozen?, hc]
      simp only [Bool.and_eq_false_iff, decide_eq_false_iff_not]
      omega
    have w1 : Wr w (w.setCell ⟨b, o + i, none⟩ v) b (o + i) [v] := by
      rcases qnt (w := w) (b := b) (o := o + i) (v := v) with h | h
      · exact h
      · exact absurd ⟨c, t, fz, hc, hlt⟩ h
    obtain ⟨c1, r1, r2, _, _⟩ := w1.at_ c t fz hc
    obtain ⟨w2, k1, k2⟩ := q7b (b := b) (o := o) vs (i + 1) (w := w.setCell ⟨b, o + i, none⟩ v) r1 (by rw [r2]; exact hz) (by omega) (fun x hx => h1 x (by simp [hx]))
    refine ⟨w2, ?_, w1.trans1 (by rw [show o + i + 1 = o + (i + 1) by omega]; exact k2)⟩
    simp only [storeCells, Sem.run_bind, hadd, run_store P w _ v _ (h1 v (by simp)), hcell, hfro, Bool.false_eq_true, if_false, Result.andThen, k1]
theorem q8a (h : tok P τ t) {w : World} {b o : Nat} {cs : List Value} {v : Value} (hv : v.cells = cs.toArray) (hl : cs.length = τ.n) (h1 : ∀ v ∈ cs, v.oneCell' = true) {c : Array Value} {ty : TypeId} {fz : Nat × Nat}
    (hc : w.heap[b]? = some (.cells c ty fz)) (hz : ∀ j, j < c.size → ¬(fz.1 ≤ j ∧ j < fz.2)) (ho : o + τ.n ≤ c.size) :
    ∃ w', (storeVar t ⟨b, o, none⟩ v).run P w = .ok () w' ∧ Wr w w' b o cs := by
  obtain ⟨w', k1, k2⟩ := q7b (P := P) (b := b) (o := o) cs 0 hc hz (by omega) h1
  refine ⟨w', ?_, by simpa using k2⟩
  simp only [storeVar, Sem.run_bind, h.size, Result.andThen, hv, List.size_toArray, hl, ne_eq, not_true_eq_false, if_false, Sem.run_ite]
  exact k1
theorem Fr.alloc (U : Bs) (ξ : Im) (w : World) (o : Obj) : Fr U ξ w ξ (w.alloc o) :=
  ⟨rfl, rfl, rfl, by simp, fun b hb _ => ⟨Below.heap_alloc w o b hb, rfl⟩, fun b i v _ hv => by
    have hb := qbe hv
    rw [q81 (Below.heap_alloc w o b hb), hv], fun _ _ => Nat.le_refl _⟩
theorem Wf.alloc {ξ : Im} {w : World} (h : Wf ξ w) (o : Obj) : Wf ξ (w.alloc o) := fun b hb => h b (by simp at hb; omega)
theorem qby (w : World) (o : Obj) : (w.alloc o).heap[w.heap.size]? = some o := by
  show (w.heap.push o)[w.heap.size]? = _
  simp
theorem size_alloc (w : World) (o : Obj) : (w.alloc o).heap.size = w.heap.size + 1 := by
  show (w.heap.push o).size = _
  simp
end
end Go.Proofs.YtjfkeknnjjlepaaGreatDoor.Rf
end

section
/- Operations: a load, a store, pointers. Nothing of any program. -/
namespace Go.Proofs.YtjfkeknnjjlepaaGreatDoor.Rf
open Go Go.RowKit
set_option linter.unusedVariables false
set_option linter.unusedSimpArgs false
theorem qaj {w : World} {b : Nat} {c : Array Value} {t : TypeId} {fz : Nat × Nat} (h : w.heap[b]? = some (.cells c t fz)) : CAt w b 0 c.toList := by
  intro i v hi
  rw [cell_of h, Nat.zero_add]
  simpa using hi
theorem Wr.list {w w' : World} {b : Nat} {c1 c2 c3 c' : List Value} (h : Wr w w' b c1.length c') {c : Array Value} {t : TypeId} {fz : Nat × Nat} (hc : w.heap[b]? = some (.cells c t fz)) (hl : c.toList = c1 ++ (c2 ++ c3)) (hn : c2.length = c'.length) :
    ∃ d, w'.heap[b]? = some (.cells d t fz) ∧ d.toList = c1 ++ (c' ++ c3) ∧ d.size = c.size := by
  obtain ⟨d, r1, r2, r3, r4⟩ := h.at_ c t fz hc
  have m := (Wr.mid (o := 0) (d1 := c1) (d2 := c2) (d3 := c3) (by simpa using h) (by rw [← hl]; exact qaj hc) hn hc)
  refine ⟨d, r1, (qaj r1).eq m ?_, r2⟩
  rw [Array.length_toList, r2, ← Array.length_toList, hl]
  simp [hn]
theorem Wr.fr {w w' : World} {b o : Nat} {c' : List Value} {ξ : Im} (h : Wr w w' b o c') (hx : ξ b ≤ o) : Fr (fun i => i = b) ξ w ξ w' :=
  ⟨h.os, h.tape, h.output, Nat.le_of_eq h.size.symm, fun i _ hi => ⟨h.oth i hi, rfl⟩, (h.keep (T := Em) (fun x => x) hx).imm, fun _ _ => Nat.le_refl _⟩
theorem qnu {τ : Ty} {s : Sv} {y : τ.T} (h : q6h τ s = some y) : s.1 = τ := by rw [q5a h]
theorem qd4 : {τ : Ty} → {x : τ.T} → {p : Path} → {τ' : Ty} → {y : τ'.T} → {z : τ.T} → q7m τ x p ⟨τ', y⟩ = some z → ∃ y0 : τ'.T, q5f τ x p = some ⟨τ', y0⟩
  | τ, x, [], τ', y, z, h => by
    have : τ' = τ := by cases τ <;> exact qnu h
    subst this
    exact ⟨x, by cases τ' <;> rfl⟩
  | .pair a b, x, .fst :: p, τ', y, z, h => by
    simp only [q7m] at h
    split at h
    · rename_i y1 hy; exact qd4 (τ := a) hy
    · cases h
  | .pair a b, x, .snd :: p, τ', y, z, h => by
    simp only [q7m] at h
    split at h
    · rename_i y1 hy; exact qd4 (τ := b) hy
    · cases h
  | .pair a b, x, .idx i :: p, τ', y, z, h => by simp [q7m] at h
  | .st a, x, q :: p, τ', y, z, h => qd4 (τ := a) (p := q :: p) h
  | .row e, x, .idx i :: p, τ', y, z, h => by
    simp only [q7m] at h
    split at h
    · rename_i y1 hy; exact qd4 (τ := e) hy
    · cases h
  | .row e, x, .fst :: p, τ', y, z, h => by simp [q7m] at h
  | .row e, x, .snd :: p, τ', y, z, h => by simp [q7m] at h
  | .int _, x, q :: p, τ', y, z, h => by simp [q7m] at h
  | .bool, x, q :: p, τ', y, z, h => by simp [q7m] at h
  | .str, x, q :: p, τ', y, z, h => by simp [q7m] at h
  | .arr _ _, x, q :: p, τ', y, z, h => by simp [q7m] at h
theorem Rel.flatRo {ξ : Im} {w : World} : {τ : Ty} → {f : Fl} → {x : τ.T} → {cs : List Value} → {T : Bs} → Rel ξ w τ f x cs T → f.ok τ = true → τ.flat = true → Rel ξ w τ .ro x cs Em
  | .int _, _, _, _, _, h, r, _ => ⟨h.1, fun _ => h.2 (by simpa [Fl.ok] using r)⟩
  | .bool, _, _, _, _, h, r, _ => ⟨h.1, fun _ => h.2 (by simpa [Fl.ok] using r)⟩
  | .str, _, _, _, _, h, r, _ => ⟨h.1, fun _ => h.2 (by simpa [Fl.ok] using r)⟩
  | .arr _ _, _, _, _, _, h, r, _ => ⟨h.1, fun _ => h.2 (by simpa [Fl.ok] using r)⟩
  | .row e, _, _, _, _, _, _, z => by simp [Ty.flat] at z
  | .pair a b, _, _, _, _, ⟨c1, c2, T1, T2, hc, hl, s1, s2, d, h1, h2⟩, r, z => by
    simp only [Fl.ok, Ty.flat, Bool.and_eq_true] at r z
    exact ⟨c1, c2, Em, Em, hc, hl, Sb.em _, Sb.em _, Dj.em _, h1.flatRo r.1 z.1, h2.flatRo r.2 z.2⟩
  | .st a, _, _, _, _, h, r, z => Rel.flatRo (τ := a) h r z
section
variable {P : Program} {E : q6f} {T0 : Bs} {ξ0 : Im} {w0 : World} {tk : Nat → Bs} {Tf : Bs} {ξ : Im} {w : World} {σ : St} {tm : Array Value}
def Gd (P : Program) (T0 : Bs) (ξ0 : Im) (w0 : World) (σ' : St) (tm : Array Value) (s : Sem Next) (a : AV) (w : World) : Prop :=
  ∃ v w' ξ', ∃ tk' : Nat → Bs, ∃ T' : Bs, (s.run P w = .ok (.value v) w' ∨ (s.run P w = .ok .skip w' ∧ v = undef)) ∧ SA T0 ξ0 w0 tk' T' ξ' w' σ' tm ∧ q6c ξ' w' a v T' ∧ qd2 ξ' w' σ' tm tk' a v
theorem Gd.pure {s : Sem Next} {a : AV} {v : Value} (h : SA T0 ξ0 w0 tk Em ξ w σ tm) (hr : s.run P w = .ok (.value v) w) (ho : q6c ξ w a v Em) (hl : qd2 ξ w σ tm tk a v) : Gd P T0 ξ0 w0 σ tm s a w :=
  ⟨v, w, ξ, tk, Em, .inl hr, h, ho, hl⟩
theorem q8b {t : TypeId} {o : Operand} {τ : Ty} {x : τ.T} {f : Fl} {σ' : St} (h : SA T0 ξ0 w0 tk Tf ξ w σ tm) (ht : q8p E σ t o = some (⟨τ, x⟩, f, σ')) :
    ∃ tk' : Nat → Bs, ∃ T' : Bs, ∃ cs, SA T0 ξ0 w0 tk' (Un Tf T') ξ w σ' tm ∧ Dj T' Tf ∧ ev tm o = mkV τ cs ∧ Rel ξ w τ f x cs T' ∧ f.ok τ = true ∧ σ'.length = σ.length := by
  unfold q8p at ht
  split at ht
  · rename_i τ' x' f' σ1 hk
    split at ht
    · rename_i hf
      simp only [Option.some.injEq, Prod.mk.injEq, Sigma.mk.injEq] at ht
      obtain ⟨⟨rfl, hx⟩, rfl, rfl⟩ := ht
      cases hx
      obtain ⟨tk', T', k1, k2, k3, k4, k5⟩ := qho h hk
      obtain ⟨cs, k6, k7⟩ := k3
      exact ⟨tk', T', cs, k1, k2, k6, k7, hf, k5⟩
    · cases ht
  · cases ht
theorem SA.freeze {T' : Bs} (h : SA T0 ξ0 w0 tk Tf ξ w σ tm) (s : Sb T' Tf) : SA T0 ξ0 w0 tk (fun b => Tf b ∧ ¬ T' b) (frz ξ w T') w σ tm := by
  refine h.step (U := T') ⟨rfl, rfl, rfl, Nat.le_refl _, fun b _ hb => ⟨rfl, q65 hb⟩, fun _ _ _ _ h => h, fun b _ => q9s ξ w T' b⟩ s ?_ ?_
  · intro b hb
    rw [q65 fun hx => ?_]
    · exact h.wf b hb
    · have := (h.mayf b (s b hx)).2; omega
  · exact fun b hb => ⟨.inl hb.1, (h.mayf b hb.1).2⟩
theorem qd5 {b b' o o' : Nat} (h : (Value.pointer (some ⟨b, o, none⟩)) = .pointer (some ⟨b', o', none⟩)) : b = b' ∧ o = o' := by
  simp only [Value.pointer.injEq, Option.some.injEq, Addr.mk.injEq, and_true] at h
  exact h
theorem qf0 {w : World} {b : Nat} {c c' : Array Value} {t t' : TypeId} {fz fz' : Nat × Nat} (h : w.heap[b]? = some (.cells c t fz)) (h' : w.heap[b]? = some (.cells c' t' fz')) : c = c' ∧ t = t' ∧ fz = fz' := by
  rw [h] at h'
  simp only [Option.some.injEq, Obj.cells.injEq] at h'
  exact h'
theorem SA.at_box (h : SA T0 ξ0 w0 tk Tf ξ w σ tm) {u : Nat} {τ : Ty} {x : τ.T} {f : Fl} {r : Option Tmp} (ha : σ.av u = .box τ x f r) :
    ∃ b c t fz, ∃ T' : Bs, tm.getD u undef = .pointer (some ⟨b, 0, none⟩) ∧ tk u b ∧ w.heap[b]? = some (.cells c t fz) ∧ (∀ o, o < c.size → ¬(fz.1 ≤ o ∧ o < fz.2)) ∧ BxI r c.size (ξ b) ∧ Sb T' (tk u) ∧ ¬ T' b ∧ Rel ξ w τ f x c.toList T' := by
  have := h.own u
  rw [ha] at this
  exact this
theorem SA.at_ref (h : SA T0 ξ0 w0 tk Tf ξ w σ tm) {u : Nat} {h0 : Tmp} {p : Path} {g v : Nat} (ha : σ.av u = .ref h0 p g v) (hv : refOk σ h0 p g v = true) :
    ∃ b o, tm.getD u undef = .pointer (some ⟨b, o, none⟩) ∧ Ptr w (σ.av h0) (tm.getD h0 undef) p b o := by
  have := h.lent u
  rw [ha] at this
  exact this.2 hv
theorem qhp {τ' : Ty} {y : τ'.T} {f' : Fl} {h0 : Nat} {p : Option Path} {cs : List Value} {T' : Bs} {a : AV} (hs : Sb T' (tk h0)) (hr : Rel ξ w τ' f' y cs T')
    (hp : ∀ q, p = some q → Part w (σ.av h0) (tm.getD h0 undef) q τ' y cs)
    (ha : (if f'.isRo τ' then some (AV.d τ' y .ro) else if f'.ok τ' then some (.vw τ' y h0 p (σ.slot h0).g (σ.slot h0).v) else none) = some a) :
    a.ty = some τ' ∧ q6c ξ w a (mkV τ' cs) Em ∧ qd2 ξ w σ tm tk a (mkV τ' cs) := by
  split at ha
  · rename_i hro
    obtain rfl := Option.some.inj ha
    exact ⟨rfl, ⟨cs, rfl, hr.toRo hro⟩, trivial⟩
  · split at ha
    · rename_i hok
      obtain rfl := Option.some.inj ha
      exact ⟨rfl, trivial, Past.refl _ _, fun _ => ⟨cs, f', T', rfl, hs, hok, hr, hp⟩⟩
    · cases ha
theorem qs7 {u : Nat} {a : AV} (h : SA T0 ξ0 w0 tk Tf ξ w σ tm) (hd : deref σ u = some a) :
    ∃ b o cs τ, tm.getD u undef = .pointer (some ⟨b, o, none⟩) ∧ a.ty = some τ ∧ cs.length = τ.n ∧ CAt w b o cs ∧ q6c ξ w a (mkV τ cs) Em ∧ qd2 ξ w σ tm tk a (mkV τ cs) := by
  simp only [deref] at hd
  split at hd
  · rename_i τ x f r ha
    obtain ⟨b, c, t, fz, T', k1, k2, k3, k4, k5, k6, k7, k8⟩ := h.at_box (u := u) ha
    obtain ⟨r1, r2, r3⟩ := qhp (tm := tm) (σ := σ) (h0 := u) (p := some []) k6 k8 (fun q hq => by
      obtain rfl := Option.some.inj hq
      rw [show σ.av u = .box τ x f r from ha]
      exact ⟨b, c, t, fz, [], [], k1, k3, q6v _ _, by simp, (q5d _).symm, k8.len, rfl⟩) hd
    exact ⟨b, 0, c.toList, τ, k1, r1, k8.len, qaj k3, r2, r3⟩
  · rename_i h0 p g v ha
    split at hd
    case isFalse => cases hd
    rename_i hv
    obtain ⟨b, o, k1, k2⟩ := h.at_ref (u := u) ha hv
    have key : ∀ (τ : Ty) (x : τ.T) (f : Fl) (hh : (∃ r, σ.av h0 = .box τ x f r) ∨ σ.av h0 = .d τ x f), (match q5f τ x p with
        | some ⟨τ', y⟩ => if (f.at p).isRo τ' then some (AV.d τ' y .ro) else if (f.at p).ok τ' then some (.vw τ' y h0 (if p.fields then some p else none) (σ.slot h0).g (σ.slot h0).v) else none
        | none => none) = some a → ∃ cs τ, a.ty = some τ ∧ cs.length = τ.n ∧ CAt w b o cs ∧ q6c ξ w a (mkV τ cs) Em ∧ qd2 ξ w σ tm tk a (mkV τ cs) := by
      intro τ x f hh hd
      split at hd
      case h_2 => cases hd
      rename_i τ' y hg
      rcases hh with ⟨r, hh⟩ | hh
      · rw [hh] at k2
        obtain ⟨b0, c, t, fz, m1, m2, m3⟩ := k2
        obtain ⟨b', c', t', fz', T', n1, n2, n3, n4, n5, n6, n7, n8⟩ := h.at_box hh
        obtain ⟨rfl, _⟩ := qd5 (m1.symm.trans n1)
        by_cases hp : p.fields = true
        · obtain ⟨rfl, rfl⟩ := m2 hp
          obtain ⟨c1, c2, c3, e1, e2, e3⟩ := n8.get hp hg
          rw [if_pos hp] at hd
          obtain ⟨r1, r2, r3⟩ := qhp (tm := tm) (σ := σ) (h0 := h0) n6 e3 (fun q hq => by
            obtain rfl := Option.some.inj hq
            rw [hh]
            exact ⟨b, c', t', fz', c1, c3, n1, n3, hg, e1, e2, e3.len, hp⟩) hd
          refine ⟨c2, τ', r1, e3.len, ?_, r2, r3⟩
          have := qaj n3
          rw [e1] at this
          rw [← e2]
          simpa using this.part
        · have hp' : p.fields = false := by simpa using hp
          obtain ⟨m4, m5, m6⟩ := m3 hp'
          obtain ⟨rfl, rfl, rfl⟩ := qf0 m4 n3
          obtain ⟨q1, q2, ⟨c'', q3, q4, q5⟩, q6⟩ := n8.look m6 m5 hg
          rw [if_neg hp] at hd
          obtain ⟨r1, r2, r3⟩ := qhp (tm := tm) (σ := σ) (h0 := h0) n6 q5 (fun q hq => by cases hq) hd
          exact ⟨c'', τ', r1, q3, q4, r2, r3⟩
      · rw [hh] at k2
        obtain ⟨cs0, m1, m2, m3, m4, m5⟩ := k2
        obtain ⟨cs0', n1, n2⟩ := h.at_d hh
        obtain rfl := q9d m2 n2.len (m1.symm.trans n1)
        obtain ⟨q1, q2, ⟨c'', q3, q4, q5⟩, q6⟩ := n2.look m5 m4 hg
        have hpn : ¬ p.fields = true := by simp [m3]
        rw [if_neg hpn] at hd
        obtain ⟨r1, r2, r3⟩ := qhp (tm := tm) (σ := σ) (h0 := h0) (Sb.refl _) q5 (fun q hq => by cases hq) hd
        exact ⟨c'', τ', r1, q3, q4, r2, r3⟩
    have fin : ∃ cs τ, a.ty = some τ ∧ cs.length = τ.n ∧ CAt w b o cs ∧ q6c ξ w a (mkV τ cs) Em ∧ qd2 ξ w σ tm tk a (mkV τ cs) := by
      cases hh : (σ.slot h0).a with
      | box τ x f r => rw [hh] at hd; exact key τ x f (.inl ⟨r, hh⟩) hd
      | d τ x f => rw [hh] at hd; exact key τ x f (.inr hh) hd
      | _ => rw [hh] at hd; cases hd
    obtain ⟨cs, τ, f1, f2, f3, f4, f5⟩ := fin
    exact ⟨b, o, cs, τ, k1, f1, f2, f3, f4, f5⟩
  · rename_i τ x ha
    obtain rfl := Option.some.inj hd
    have := h.own u
    rw [show σ.av u = .rp τ x none from ha] at this
    obtain ⟨b, o, cs, k1, k2, k3, k4, k5⟩ := this
    exact ⟨b, o, cs, τ, k1, rfl, k2, k3, ⟨cs, rfl, k5⟩, trivial⟩
  · rename_i τ x h0 g v ha
    split at hd
    case isFalse => cases hd
    rename_i hv
    have := h.lent u
    rw [show σ.av u = .rp τ x (some (h0, g, v)) from ha] at this
    obtain ⟨b, o, cs, f, T', k1, k2, k3, k4, k5, k6, k7⟩ := this.2 hv
    split at hd
    · rename_i hfl
      obtain rfl := Option.some.inj hd
      exact ⟨b, o, cs, τ, k1, rfl, k2, k3, ⟨cs, rfl, k7.flatRo k6 hfl⟩, trivial⟩
    · obtain rfl := Option.some.inj hd
      exact ⟨b, o, cs, τ, k1, rfl, k2, k3, trivial, this.1, fun _ => ⟨cs, f, T', rfl, k5, k6, k7, fun q hq => by cases hq⟩⟩
  · rename_i h0 i g v ha
    split at hd
    case isFalse => cases hd
    rename_i hv
    have := h.lent u
    rw [show σ.av u = .ap h0 i g v from ha] at this
    obtain ⟨b, m, k, x, f, r, k1, k2, k3, k4⟩ := this.2 hv
    rw [k1] at hd
    simp only at hd
    split at hd
    · cases hd
    rename_i hf
    obtain rfl := Option.some.inj hd
    obtain ⟨b', c, t, fz, T', n1, n2, n3, n4, n5, n6, n7, n8⟩ := h.at_box k1
    obtain ⟨rfl, _⟩ := qd5 (k3.symm.trans n1)
    obtain ⟨n9, n10⟩ := n8
    obtain ⟨n11, n12⟩ := n10 hf
    refine ⟨b, i, [.int k (x.getD i 0)], .int k, k4, rfl, rfl, ?_, ⟨[.int k (x.getD i 0)], rfl, rfl, fun _ => rfl⟩, trivial⟩
    intro j v hj
    cases j with
    | succ j => simp at hj
    | zero =>
      simp at hj
      subst hj
      rw [Nat.add_zero, cell_of n3, ← Array.getElem?_toList, n12, List.getElem?_map, List.getElem?_eq_getElem (by omega)]
      simp [show i < x.length by omega]
  · cases hd
def TOk (P : Program) (E : q6f) : Prop := ∀ t τ, E.of t = some τ → tok P τ t
structure EOk (P : Program) (E : q6f) (ξ0 : Im) (w0 : World) : Prop where
  ty : TOk P E
  gl : ∀ n k l, E.gs.lookup n = some (k, l) → ∀ i, i < l.length → w0.cell? ⟨n, i, none⟩ = some (.int k (l.getD i 0)) ∧ i < ξ0 n
theorem qnv {t : TypeId} {b o : Nat} : (Instr.loadAt t (.pointer (some ⟨b, o, none⟩))).run P w = (loadVar t ⟨b, o, none⟩).run P w := by
  simp [Instr.loadAt, Instr.sureAddr]
theorem ql7 {t : TypeId} {b o : Nat} {v : Value} : (Instr.storeAt t (.pointer (some ⟨b, o, none⟩)) v).run P w = (storeVar t ⟨b, o, none⟩ v).run P w := by
  simp [Instr.storeAt, Instr.sureAddr]
theorem quw {t : TypeId} {u : Nat} {a : AV} {o : Oper} (he : EOk P E ξ0 w0) (h : SA T0 ξ0 w0 tk Em ξ w σ tm) (hop : o.op = .load t (.tmp u)) (hd : deref σ u = some a) (ht : a.ty = E.of t) : Gd P T0 ξ0 w0 σ tm (execOp (ev tm) o) a w := by
  obtain ⟨b, off, cs, τ, k1, k2, k3, k4, k5, k6⟩ := qs7 h hd
  refine Gd.pure h (v := mkV τ cs) ?_ k5 k6
  have hE : tok P τ t := he.ty t τ (by rw [← ht, k2])
  simp only [execOp, hop, Sem.run_bind, ev, k1, qnv, qez hE k3 k4, Result.andThen, Sem.run_pure]
theorem qux {u : Nat} {τ : Ty} {x : τ.T} {f : Fl} {T' : Bs} {cs : List Value} {σ' : St} {t : TypeId} (ht : tok P τ t) (h : SA T0 ξ0 w0 tk T' ξ w σ tm) (hv : Rel ξ w τ f x cs T') (hf : f.ok τ = true) (hp : poke σ u ⟨τ, x⟩ f = some σ') :
    ∃ b o w' ξ', ∃ tk' : Nat → Bs, tm.getD u undef = .pointer (some ⟨b, o, none⟩) ∧ (storeVar t ⟨b, o, none⟩ (mkV τ cs)).run P w = .ok () w' ∧ SA T0 ξ0 w0 tk' Em ξ' w' σ' tm := by
  have hcells := q8t hv hf
  have hone := hv.cells1 hf
  have hlt : ∀ d, σ.av d ≠ .no → d < σ.length := fun d hd => q9z hd
  simp only [poke] at hp
  split at hp
  · rename_i τ0 x0 g ha
    split at hp
    case h_2 => cases hp
    rename_i y hy
    obtain rfl := Option.some.inj hp
    have := q5a hy
    cases this
    have ha' : σ.av u = .box τ x0 g none := ha
    obtain ⟨b, c, t', fz, T1, k1, k2, k3, k4, k5, k6, k7, k8⟩ := h.at_box ha'
    have k5 : ξ b = 0 := k5
    have hsz : c.toList.length = τ.n := k8.len
    obtain ⟨w', e1, e2⟩ := q8a ht hcells hv.len hone k3 k4 (o := 0) (by rw [← hsz]; simp)
    have hb : ¬ T' b := fun hx => h.djf u b k2 hx
    obtain ⟨d, d1, d2, d3⟩ := e2.list (c1 := []) (c2 := c.toList) (c3 := []) k3 (by simp) (by rw [hsz, hv.len])
    have hx : ξ b ≤ 0 := by omega
    refine ⟨b, 0, w', ξ, _, k1, e1, h.turn (d := u) (a := .box τ x f none) (U := fun i => i = b) (T' := Un (fun i => i = b) T') (Tf' := Em) (e2.fr hx) (fun i hi => hi ▸ .inr k2) ?_ (by rw [ha']; exact ⟨_, _, _, rfl⟩) ?_ (fun _ => trivial) ?_ (fun _ hx => hx.elim) (Dj.em' _) (hlt u (by rw [ha']; simp))⟩
    · intro i hi; rw [e2.size] at hi; exact h.wf i hi
    · refine ⟨b, d, t', fz, T', k1, .inl rfl, d1, by rw [d3]; exact k4, k5, Sb.r _ _, hb, ?_⟩
      rw [d2]
      simpa using hv.keep (e2.keep hb hx)
    · intro i hi
      rw [e2.size]
      rcases hi with hi | hi
      · subst hi; exact ⟨.inl (.inr k2), (h.may u i k2).2⟩
      · exact ⟨.inl (.inl hi), (h.mayf i hi).2⟩
  · rename_i h0 p g v ha
    split at hp
    case isFalse => cases hp
    rename_i hv'
    obtain ⟨b, o, k1, k2⟩ := h.at_ref (u := u) ha hv'
    -- writes inside of the slot's own rows
    have inner : ∀ (τ0 : Ty) (x0 : τ0.T) (f0 : Fl) (cs0 : List Value) (T1 : Bs) (y : τ0.T), Rel ξ w τ0 f0 x0 cs0 T1 → Sb T1 (tk h0) → Loc w τ0 cs0 p b o → qdp f0 p = true → q7m τ0 x0 p ⟨τ, x⟩ = some y → f0.at p = f.meet (f0.at p) →
        ∃ w' ξ', (storeVar t ⟨b, o, none⟩ (mkV τ cs)).run P w = .ok () w' ∧ Wr w w' b o cs ∧ T1 b ∧ Fr (Un T' (fun i => i = b)) ξ w ξ' w' ∧ Wf ξ' w' ∧ Rel ξ' w' τ0 f0 y cs0 (Un T1 T') ∧ ∀ i, ¬ T' i → ξ' i = ξ i := by
      intro τ0 x0 f0 cs0 T1 y hr hs hl ho hset hm
      have hget : ∃ y0 : τ.T, q5f τ0 x0 p = some ⟨τ, y0⟩ := qd4 hset
      obtain ⟨y0, hget⟩ := hget
      obtain ⟨q1, q2, _, c, t', fz, q3, q4, q5⟩ := hr.look hl ho hget
      obtain ⟨w', e1, e2⟩ := q8a ht hcells hv.len hone q3 q4 q5
      have dj : Dj T1 T' := (h.djf h0).sub hs (Sb.refl _)
      have hb : ¬ T' b := fun hx => dj b q1 hx
      by_cases hfe : f = f0.at p
      · refine ⟨w', ξ, e1, e2, q1, ?_, ?_, (hr.poke hl ho hset e2 (by rw [← hfe]; exact hv) dj).1, fun _ _ => rfl⟩
        · have F := e2.fr q2
          exact ⟨F.os, F.tape, F.output, F.size, fun i hi hn => F.blk i hi fun e => hn (.inr e), F.imm, F.up⟩
        · intro i hi; rw [e2.size] at hi; exact h.wf i hi
      · have hro : f0.at p = .ro := by rw [hm]; unfold Fl.meet; rw [if_neg hfe]
        have hfr := hv.frz hf
        have hk := qeg ξ w T' T1 (Dj.symm dj)
        have q2' : frz ξ w T' b ≤ o := by rw [q65 hb]; exact q2
        refine ⟨w', frz ξ w T', e1, e2, q1, ?_, ?_, ?_, fun i hi => q65 hi⟩
        · refine ⟨e2.os, e2.tape, e2.output, Nat.le_of_eq e2.size.symm, fun i hi hn => ⟨e2.oth i fun e => hn (.inr e), q65 fun x => hn (.inl x)⟩, (e2.keep (T := Em) (fun x => x) q2).imm, fun i _ => q9s ξ w T' i⟩
        · intro i hi
          rw [e2.size] at hi
          rw [q65 fun hx => by have := (h.mayf i hx).2; omega]
          exact h.wf i hi
        · have := (Rel.poke (hr.keep hk) hl ho hset e2 (by rw [hro]; exact hfr) (Dj.em' _)).1
          exact this.sub (Sb.both (Sb.refl _) (Sb.em _))
    split at hp
    · rename_i τ0 x0 f0 r hh
      have hh' : σ.av h0 = .box τ0 x0 f0 r := hh
      rw [hh'] at k2
      obtain ⟨b0, c, t', fz, m1, m2, m3⟩ := k2
      obtain ⟨b', c', t'', fz', T1, n1, n2, n3, n4, n5, n6, n7, n8⟩ := h.at_box hh'
      obtain ⟨rfl, _⟩ := qd5 (m1.symm.trans n1)
      split at hp
      case h_2 => cases hp
      rename_i y hset
      have djT : Dj T1 T' := (h.djf h0).sub n6 (Sb.refl _)
      have hb0 : ¬ T' b0 := fun hx => h.djf h0 b0 n2 hx
      split at hp
      · rename_i hpf
        split at hp
        case isFalse => cases hp
        rename_i hrn
        obtain rfl : r = none := by cases r with | none => rfl | some _ => simp at hrn
        obtain rfl := Option.some.inj hp
        obtain ⟨rfl, rfl⟩ := m2 hpf
        have n5 : ξ b = 0 := n5
        obtain ⟨c1, c2, c3, e1, e2, e3, e4⟩ := n8.set hpf hset hv djT
        have hsz : c1.length + (c2.length + c3.length) = c'.size := by rw [← Array.length_toList, e1]; simp
        obtain ⟨w', r1, r2⟩ := q8a ht hcells hv.len hone n3 n4 (o := q7o τ0 p) (by omega)
        have hx : ξ b ≤ q7o τ0 p := by omega
        rw [← e2] at r2
        obtain ⟨d, d1, d2, d3⟩ := r2.list n3 e1 (by rw [e3, hv.len])
        have hnT : ¬ (Un T1 T') b := fun hx => hx.elim n7 hb0
        refine ⟨b, q7o τ0 p, w', ξ, _, k1, r1, h.turn (d := h0) (a := .box τ0 y (f0.put p f) none) (U := fun i => i = b) (T' := Un (fun i => i = b) (Un T1 T')) (Tf' := Em) (r2.fr (by omega)) (fun i hi => hi ▸ .inr n2) ?_ (by rw [hh']; exact ⟨_, _, _, rfl⟩) ?_ (fun _ => trivial) ?_ (fun _ hx => hx.elim) (Dj.em' _) (hlt h0 (by rw [hh']; simp))⟩
        · intro i hi; rw [r2.size] at hi; exact h.wf i hi
        · refine ⟨b, d, t'', fz', Un T1 T', n1, .inl rfl, d1, by rw [d3]; exact n4, n5, Sb.r _ _, hnT, ?_⟩
          rw [d2]
          exact e4.keep (r2.keep hnT (by omega))
        · intro i hi
          rw [r2.size]
          rcases hi with hi | hi | hi
          · subst hi; exact ⟨.inl (.inr n2), (h.may h0 i n2).2⟩
          · exact ⟨.inl (.inr (n6 i hi)), (h.may h0 i (n6 i hi)).2⟩
          · exact ⟨.inl (.inl hi), (h.mayf i hi).2⟩
      · rename_i hpf
        split at hp
        case isFalse => cases hp
        rename_i hm
        obtain rfl := Option.some.inj hp
        obtain ⟨m4, m5, m6⟩ := m3 (by simpa using hpf)
        obtain ⟨rfl, rfl, rfl⟩ := qf0 m4 n3
        obtain ⟨w', ξ', r1, r2, r3, r4, r5, r6, r7⟩ := inner τ0 x0 f0 c.toList T1 y n8 n6 m6 m5 hset hm
        have hne : b0 ≠ b := fun e => n7 (e ▸ r3)
        have hnT : ¬ (Un T1 T') b0 := fun hx => hx.elim n7 hb0
        refine ⟨b, o, w', ξ', _, k1, r1, h.turn (d := h0) (a := .box τ0 y f0 r) (T' := Un (fun i => i = b0) (Un T1 T')) (Tf' := Em) r4 (Sb.both (Sb.refl _) (fun i hi => hi ▸ n6 b r3)) r5 (by rw [hh']; exact ⟨_, _, _, rfl⟩) ?_ (fun _ => trivial) ?_ (fun _ hx => hx.elim) (Dj.em' _) (hlt h0 (by rw [hh']; simp))⟩
        · exact ⟨b0, c, t', fz, Un T1 T', n1, .inl rfl, (r2.oth b0 hne).trans n3, n4, by rw [r7 b0 hb0]; exact n5, Sb.r _ _, hnT, r6⟩
        · intro i hi
          rw [r2.size]
          rcases hi with hi | hi | hi
          · subst hi; exact ⟨.inl (.inr n2), (h.may h0 i n2).2⟩
          · exact ⟨.inl (.inr (n6 i hi)), (h.may h0 i (n6 i hi)).2⟩
          · exact ⟨.inl (.inl hi), (h.mayf i hi).2⟩
    · rename_i τ0 x0 f0 hh
      have hh' : σ.av h0 = .d τ0 x0 f0 := hh
      rw [hh'] at k2
      obtain ⟨cs0, m1, m2, m3, m4, m5⟩ := k2
      obtain ⟨cs0', n1, n2⟩ := h.at_d hh'
      obtain rfl := q9d m2 n2.len (m1.symm.trans n1)
      split at hp
      case h_2 => cases hp
      rename_i y hset
      split at hp
      case isFalse => cases hp
      rename_i hm
      obtain rfl := Option.some.inj hp
      obtain ⟨w', ξ', r1, r2, r3, r4, r5, r6, r7⟩ := inner τ0 x0 f0 cs0 (tk h0) y n2 (Sb.refl _) m5 m4 hset hm
      refine ⟨b, o, w', ξ', _, k1, r1, h.turn (d := h0) (a := .d τ0 y f0) (T' := Un (tk h0) T') (Tf' := Em) r4 (Sb.both (Sb.refl _) (fun i hi => hi ▸ r3)) r5 (by rw [hh']; trivial) ⟨cs0, n1, r6⟩ (fun _ => trivial) ?_ (fun _ hx => hx.elim) (Dj.em' _) (hlt h0 (by rw [hh']; simp))⟩
      intro i hi
      rw [r2.size]
      rcases hi with hi | hi
      · exact ⟨.inl (.inr hi), (h.may h0 i hi).2⟩
      · exact ⟨.inl (.inl hi), (h.mayf i hi).2⟩
    · cases hp
  · rename_i h0 i g v ha
    split at hp
    case isFalse => cases hp
    rename_i hv'
    have := h.lent u
    rw [show σ.av u = .ap h0 i g v from ha] at this
    obtain ⟨b, m, k, x0, f0, r, k1, k2, k3, k4⟩ := this.2 hv'
    rw [k1] at hp
    cases r with
    | some _ => cases hp
    | none =>
      simp only at hp
      split at hp
      case h_2 => cases hp
      rename_i y hy
      have := q5a hy
      cases this
      split at hp
      · cases hp
      rename_i hf0
      obtain rfl := Option.some.inj hp
      obtain ⟨b', c, t', fz, T1, n1, n2, n3, n4, n5, n6, n7, n8⟩ := h.at_box k1
      obtain ⟨rfl, _⟩ := qd5 (k3.symm.trans n1)
      have n5 : ξ b = 0 := n5
      obtain ⟨n9, n10⟩ := n8
      obtain ⟨n11, n12⟩ := n10 hf0
      have hcs : cs = [.int k y] := hv.2 (by simpa [Fl.ok] using hf)
      subst hcs
      have hsz : c.size = m + 1 := by rw [← Array.length_toList]; exact n9
      obtain ⟨w', r1, r2⟩ := q8a ht hcells hv.len hone n3 n4 (o := i) (by show i + 1 ≤ _; omega)
      have hti : (c.toList.take i).length = i := by rw [List.length_take, n9]; omega
      have hsp : c.toList = c.toList.take i ++ (c.toList.drop i).take 1 ++ c.toList.drop (i + 1) := by
        rw [← List.drop_drop, List.append_assoc, List.take_append_drop, List.take_append_drop]
      have r2' := r2
      rw [← hti] at r2'
      obtain ⟨d, d1, d2, d3⟩ := r2'.list (c2 := (c.toList.drop i).take 1) (c3 := c.toList.drop (i + 1)) n3 (by rw [← List.append_assoc]; exact hsp) (by rw [List.length_take, List.length_drop, n9]; simp; omega)
      refine ⟨b, i, w', ξ, _, k4, r1, h.turn (d := h0) (a := .box (.arr m k) (x0.set i y) f0 none) (U := fun i => i = b) (T' := Un (fun i => i = b) T1) (Tf' := Em) (r2.fr (by omega)) (fun i hi => hi ▸ .inr n2) ?_ (by rw [k1]; exact ⟨_, _, _, rfl⟩) ?_ (fun _ => trivial) ?_ (fun _ hx => hx.elim) (Dj.em' _) (hlt h0 (by rw [k1]; simp))⟩
      · intro i hi; rw [r2.size] at hi; exact h.wf i hi
      · refine ⟨b, d, t', fz, T1, k3, .inl rfl, d1, by rw [d3]; exact n4, n5, Sb.r _ _, n7, ?_⟩
        rw [d2]
        have he : c.toList.take i ++ ([Value.int k y] ++ c.toList.drop (i + 1)) = (x0.set i y).map (Value.int k) := by
          rw [n12, List.map_set, List.set_eq_take_append_cons_drop, if_pos (by rw [List.length_map]; omega)]
          rfl
        rw [he]
        exact ⟨by simp [n11], fun _ => ⟨by simp [n11], rfl⟩⟩
      · intro i hi
        rw [r2.size]
        rcases hi with hi | hi
        · subst hi; exact ⟨.inl (.inr n2), (h.may h0 i n2).2⟩
        · exact ⟨.inl (.inr (n6 i hi)), (h.may h0 i (n6 i hi)).2⟩
  · cases hp
end
end Go.Proofs.YtjfkeknnjjlepaaGreatDoor.Rf
end

section
/- Operations: moves, new blocks, pointers to parts. Nothing of any program. -/
namespace Go.Proofs.YtjfkeknnjjlepaaGreatDoor.Rf
open Go Go.RowKit
set_option linter.unusedVariables false
set_option linter.unusedSimpArgs false
section
variable {P : Program} {E : q6f} {T0 : Bs} {ξ0 : Im} {w0 : World} {tk : Nat → Bs} {Tf : Bs} {ξ : Im} {w : World} {σ : St} {tm : Array Value}
theorem qf1 (T : Bs) : Sb T (Un Em T) := Sb.r _ _
theorem quy {x : Operand} {o : Oper} (h : SA T0 ξ0 w0 tk Em ξ w σ tm) (hop : o.op = .move x) : Gd P T0 ξ0 w0 σ tm (execOp (ev tm) o) (copy E σ o.type x) w :=
  Gd.pure h (v := ev tm x) (by simp [execOp, hop]) (qa7 E o.type h x).1 (qa7 E o.type h x).2
theorem qu3 {t : TypeId} {u : Nat} {l : List AV} (ha : σ.av u = .tup l) : mv E σ t (.tmp u) = (.tup l, if l.all AV.fixd then σ else σ.put u .no) := by simp only [mv, ha]
theorem qp9 {t : TypeId} {x : Operand} (ha : ∀ u l, x = .tmp u → σ.av u ≠ .tup l) : mv E σ t x = (copy E σ t x, σ) := by
  cases x with
  | tmp u =>
    simp only [mv]
    split
    · rename_i l hl; exact (ha u l rfl hl).elim
    · rfl
  | _ => rfl
theorem qy4 {x : Operand} {o : Oper} (h : SA T0 ξ0 w0 tk Em ξ w σ tm) (hop : o.op = .move x) : Gd P T0 ξ0 w0 (mv E σ o.type x).2 tm (execOp (ev tm) o) (mv E σ o.type x).1 w := by
  have pl := quy (P := P) (E := E) h hop
  by_cases hx : ∃ u l, x = .tmp u ∧ σ.av u = .tup l
  · obtain ⟨u, l, rfl, ha⟩ := hx
    rw [qu3 ha]
    simp only
    split
    · rename_i hf
      have e : copy E σ o.type (.tmp u) = .tup l := by
        unfold copy
        simp only [show (σ.slot u).a = .tup l from ha]
        rw [if_pos hf]
      rw [e] at pl
      exact pl
    · have ho := h.own u
      rw [ha] at ho
      have k := h.put (d := u) (a := .no) (tm' := tm) (T' := Em) (Tf' := Un Em (tk u)) rfl (fun _ _ => rfl) trivial trivial (Sb.em _) (Sb.refl _) (Dj.em _) (q9z (by rw [ha]; simp))
      exact ⟨ev tm (.tmp u), w, ξ, _, tk u, .inl (by simp [execOp, hop]), k.drop (qf1 _), ho, trivial⟩
  · rw [qp9 fun u l e ha => hx ⟨u, l, e, ha⟩]
    exact pl
theorem qwi {f : FuncId} {fst cap : Array Operand} {u : Nat} {o : Oper} (h : SA T0 ξ0 w0 tk Em ξ w σ tm) (hop : o.op = .makeFunc (.func f) fst cap) (h1 : fst.toList = []) (h2 : cap.toList = [.tmp u]) : Gd P T0 ξ0 w0 σ tm (execOp (ev tm) o) (.cl f u (σ.slot u).g) w := by
  obtain rfl : fst = #[] := by cases fst; simp_all
  obtain rfl : cap = #[.tmp u] := by cases cap; simp_all
  exact Gd.pure h (v := .func (.func f) #[] #[tm.getD u undef]) (by simp [execOp, hop, Instr.makeFunc, ev]) trivial ⟨⟨Nat.le_refl _, fun _ => Nat.zero_le _⟩, fun _ => rfl⟩
theorem qpa {x : Operand} {o : Oper} {a : AV} {σ' : St} (h : SA T0 ξ0 w0 tk Em ξ w σ tm) (hop : o.op = .assign x) (ht : take E σ o.type x = some (a, σ')) : Gd P T0 ξ0 w0 σ' tm (execOp (ev tm) o) a w := by
  obtain ⟨tk', T', k1, k2, k3, k4, _⟩ := qho h ht
  exact ⟨ev tm x, w, ξ, tk', T', .inl (by simp [execOp, hop]), k1.drop (qf1 _), k3, k4⟩
theorem SA.new (o : Obj) (h : SA T0 ξ0 w0 tk Tf ξ w σ tm) : SA T0 ξ0 w0 tk (Un Tf (fun i => i = w.heap.size)) ξ (w.alloc o) σ tm :=
  h.step (U := Em) (Fr.alloc _ _ _ _) (Sb.em _) (h.wf.alloc o) (fun b hb => by
    rw [size_alloc]
    rcases hb with hb | hb
    · exact ⟨.inl hb, Nat.lt_succ_of_lt (h.mayf b hb).2⟩
    · subst hb; exact ⟨.inr (Nat.le_refl _), Nat.lt_succ_self _⟩)
theorem qs8 (o : Obj) {T : Bs} (h : SA T0 ξ0 w0 tk Tf ξ w σ tm) (ht : Sb T Tf) : q9y T ξ w ξ (w.alloc o) :=
  (Fr.alloc Em ξ w o).keep h.wf (fun b hb => (h.mayf b (ht b hb)).2) (Dj.em' _)
theorem qpb {τ : Ty} {y : τ.T} {f : Fl} {cs : List Value} {T' : Bs} {t : TypeId} (h : SA T0 ξ0 w0 tk T' ξ w σ tm) (hr : Rel ξ w τ f y cs T') :
    q6c ξ (w.alloc (.cells cs.toArray t)) (.box τ y f none) (.pointer (some ⟨w.heap.size, 0, none⟩)) (Un T' (fun i => i = w.heap.size)) := by
  refine ⟨w.heap.size, cs.toArray, t, (0, 0), T', rfl, .inr rfl, qby _ _, fun _ _ => by simp, h.wf _ (Nat.le_refl _), Sb.l _ _, fun hx => ?_, ?_⟩
  · have := (h.mayf _ hx).2; omega
  · simpa using hr.keep (qs8 _ h (Sb.refl _))
theorem qwj {t : TypeId} {x : Operand} {o : Oper} {τ : Ty} {y : τ.T} {f : Fl} {σ' : St} (h : SA T0 ξ0 w0 tk Em ξ w σ tm) (hop : o.op = .box t x) (ht : q8p E σ t x = some (⟨τ, y⟩, f, σ')) :
    Gd P T0 ξ0 w0 σ' tm (execOp (ev tm) o) (.box τ y f none) w := by
  obtain ⟨tk', T', cs, k1, k2, k3, k4, k5, _⟩ := q8b h ht
  have k1' := k1.drop (qf1 _)
  refine ⟨.pointer (some ⟨w.heap.size, 0, none⟩), w.alloc (.cells cs.toArray t), ξ, tk', _, .inl ?_, k1'.new _, qpb k1' k4, trivial⟩
  simp [execOp, hop, Instr.box, newVar, newRow, k3, q8t k4 k5]
theorem qs9 {t : TypeId} {o : Oper} {τ : Ty} (he : tok P τ t) (h : SA T0 ξ0 w0 tk Em ξ w σ tm) (hop : o.op = .alloc t) : Gd P T0 ξ0 w0 σ tm (execOp (ev tm) o) (.box τ τ.z τ.full none) w := by
  obtain ⟨z, k1, k2, k3⟩ := he.zero w
  have hr : Rel ξ w τ τ.full τ.z z.cells.toList Em := Rel.zero k2
  refine ⟨.pointer (some ⟨w.heap.size, 0, none⟩), w.alloc (.cells z.cells t), ξ, tk, _, .inl ?_, h.new _, ?_, trivial⟩
  · simp [execOp, hop, Instr.alloc, newVar, newRow, Sem.run_bind, k1, Result.andThen]
  · have := qpb (t := t) h hr
    rwa [Array.toArray_toList] at this
theorem qsa {t : TypeId} {u : Nat} {x : Operand} {o : Oper} {s : Sv} {f : Fl} {σ1 σ2 : St} (he : EOk P E ξ0 w0) (h : SA T0 ξ0 w0 tk Em ξ w σ tm) (hop : o.op = .store t (.tmp u) x) (ht : q8p E σ t x = some (s, f, σ1)) (hE : E.of t = some s.1) (hp : poke σ1 u s f = some σ2) :
    Gd P T0 ξ0 w0 σ2 tm (execOp (ev tm) o) .un w := by
  obtain ⟨τ, y⟩ := s
  obtain ⟨tk', T', cs, k1, k2, k3, k4, k5, _⟩ := q8b h ht
  obtain ⟨b, off, w', ξ', tk2, m1, m2, m3⟩ := qux (he.ty t τ hE) (k1.drop (qf1 _)) k4 k5 hp
  refine ⟨undef, w', ξ', tk2, Em, .inr ⟨?_, rfl⟩, m3, rfl, trivial⟩
  have e1 : ev tm (.tmp u) = .pointer (some ⟨b, off, none⟩) := m1
  simp only [execOp, hop, Sem.run_bind, e1, k3, ql7, m2, Result.andThen, Sem.run_pure]
theorem qj1 {o : Oper} {u : Nat} {b off : Nat} (hop : o.op = .nilCheck (.tmp u)) (hv : ev tm (.tmp u) = .pointer (some ⟨b, off, none⟩)) : (execOp (ev tm) o).run P w = .ok (.value (ev tm (.tmp u))) w := by
  simp only [execOp, hop, hv]
  rfl
theorem qbf {u : Nat} {o : Oper} (h : SA T0 ξ0 w0 tk Em ξ w σ tm) (hop : o.op = .nilCheck (.tmp u)) (hv : ∃ b off, ev tm (.tmp u) = .pointer (some ⟨b, off, none⟩)) : Gd P T0 ξ0 w0 σ tm (execOp (ev tm) o) (copy E σ 0 (.tmp u)) w := by
  obtain ⟨b, off, hv⟩ := hv
  exact Gd.pure h (qj1 hop hv) (qa7 E 0 h (.tmp u)).1 (qa7 E 0 h (.tmp u)).2
theorem qnw {u i : Nat} {o : Oper} {l : List AV} {a : AV} (h : SA T0 ξ0 w0 tk Em ξ w σ tm) (hop : o.op = .extract (.tmp u) i) (ha : σ.av u = .tup l) (hi : l[i]? = some a) (hnt : l.all AV.plain = true) :
    Gd P T0 ξ0 w0 (σ.turn u (.tup (l.set i .no))) tm (execOp (ev tm) o) a w := by
  have ho := h.own u
  rw [ha] at ho
  obtain ⟨vs, Te, k1, k0, k2, k3, k4⟩ := ho
  have hil : i < l.length := (List.getElem?_eq_some_iff.1 hi).1
  have hiv : i < vs.size := by rw [k0]; exact hil
  have hk := h.turn (d := u) (a := .tup (l.set i .no)) (U := Em) (T' := fun b => ∃ j, j ≠ i ∧ Te j b) (Tf' := Te i) (Fr.refl _ _ _) (Sb.em _) h.wf (by rw [ha]; trivial)
    ⟨vs, fun j => if j = i then Em else Te j, k1, by simpa using k0, fun j b hb => by
      by_cases e : j = i
      · simp [e] at hb; exact hb.elim
      · simp [e] at hb; exact ⟨j, e, hb⟩, fun j m hjm => by
      by_cases e : j = i
      · simp [e]; exact Dj.em _
      · by_cases e' : m = i
        · simp [e']; exact Dj.em' _
        · simp [e, e']; exact k3 j m hjm, fun j b hb => by
      by_cases e : j = i
      · subst e; simp [hil] at hb; subst hb; trivial
      · rw [List.getElem?_set_ne (fun x => e x.symm)] at hb
        simp only [e, if_false]
        exact k4 j b hb⟩ (fun _ => trivial)
    (fun b ⟨j, _, hb⟩ => ⟨.inl (.inr (k2 j b hb)), (h.may u b (k2 j b hb)).2⟩) (fun b hb => ⟨.inl (.inr (k2 i b hb)), (h.may u b (k2 i b hb)).2⟩) (fun b ⟨j, hj, hb⟩ hb' => k3 j i hj b hb hb') (q9z (by rw [ha]; simp))
  have hown := k4 i a hi
  refine ⟨vs.getD i undef, w, ξ, _, Te i, .inl ?_, hk, ?_, ?_⟩
  · have e1 : ev tm (.tmp u) = .tuple vs := k1
    simp [execOp, hop, Instr.extract, e1, hiv, Array.getD]
  · have := List.all_eq_true.1 hnt a (List.mem_of_getElem? hi)
    cases a <;> first | exact hown | (simp [AV.plain] at this; done)
  · have := List.all_eq_true.1 hnt a (List.mem_of_getElem? hi)
    cases a <;> first | trivial | (simp [AV.plain] at this; done)
theorem qga {u i : Nat} {o : Oper} {l : List AV} {a : AV} (h : SA T0 ξ0 w0 tk Em ξ w σ tm) (hop : o.op = .extract (.tmp u) i) (ha : σ.av u = .tup l) (hi : l[i]? = some a) (hf : a.fixd = true) :
    Gd P T0 ξ0 w0 σ tm (execOp (ev tm) o) a w := by
  have ho := h.own u
  rw [ha] at ho
  obtain ⟨vs, Te, k1, k0, k2, k3, k4⟩ := ho
  have hil : i < l.length := (List.getElem?_eq_some_iff.1 hi).1
  have hiv : i < vs.size := by rw [k0]; exact hil
  refine Gd.pure h (v := vs.getD i undef) ?_ ?_ ?_
  · have e1 : ev tm (.tmp u) = .tuple vs := k1
    simp [execOp, hop, Instr.extract, e1, hiv, Array.getD]
  · have := (k4 i a hi).fixd hf
    cases a <;> first | exact this | (simp [AV.fixd] at hf; done)
  · cases a <;> first | trivial | (simp [AV.fixd] at hf; done)
theorem fld {P : Program} : (a : Ty) → (fs : List Field) → (o i : Nat) → {q : Path} → q5l P a (.inr (fs, o)) = true → q7n.go a i = some q →
    q.fields = true ∧ ∃ f, fs[i]? = some f ∧ f.offset = o + q7o a q ∧ ∃ τ', tok P τ' f.type ∧ ∀ x : a.T, ∃ y : τ'.T, q5f a x q = some ⟨τ', y⟩
  | .pair a b, fs, o, 0, q, h, hq => by
    simp only [q7n.go, Option.some.injEq] at hq
    subst hq
    match fs, h with
    | f :: fs, h =>
      simp only [q5l, Bool.and_eq_true, decide_eq_true_eq] at h
      exact ⟨rfl, f, rfl, by simp [q7o, q5d, h.1], a, h.2.1, fun x => ⟨x.1, by simp [q5f, q6v]⟩⟩
    | [], h => simp [q5l] at h
  | .pair a b, fs, o, i + 1, q, h, hq => by
    simp only [q7n.go] at hq
    split at hq
    case h_2 => cases hq
    rename_i p hp
    obtain rfl := Option.some.inj hq
    match fs, h with
    | f :: fs, h =>
      simp only [q5l, Bool.and_eq_true, decide_eq_true_eq] at h
      obtain ⟨k1, f', k2, k3, τ', k4, k5⟩ := fld b fs (o + a.n) i h.2.2.1 hp
      exact ⟨k1, f', k2, by rw [k3]; simp [q7o]; omega, τ', k4, fun x => k5 x.2⟩
    | [], h => simp [q5l] at h
  | .int k, fs, o, i, q, h, hq => by
    cases i <;> simp [q7n.go] at hq
    subst hq
    match fs, h with
    | [f], h =>
      simp only [q5l, one, Bool.and_eq_true, decide_eq_true_eq] at h
      exact ⟨rfl, f, rfl, by simp [q7o, h.1], .int k, by simp only [tok, q5l, one, Bool.and_eq_true]; exact h.2.2, fun x => ⟨x, rfl⟩⟩
    | [], h => simp [q5l, one] at h
    | _ :: _ :: _, h => simp [q5l, one] at h
  | .bool, fs, o, i, q, h, hq => by
    cases i <;> simp [q7n.go] at hq
    subst hq
    match fs, h with
    | [f], h =>
      simp only [q5l, one, Bool.and_eq_true, decide_eq_true_eq] at h
      exact ⟨rfl, f, rfl, by simp [q7o, h.1], .bool, by simp only [tok, q5l, one, Bool.and_eq_true]; exact h.2.2, fun x => ⟨x, rfl⟩⟩
    | [], h => simp [q5l, one] at h
    | _ :: _ :: _, h => simp [q5l, one] at h
  | .str, fs, o, i, q, h, hq => by
    cases i <;> simp [q7n.go] at hq
    subst hq
    match fs, h with
    | [f], h =>
      simp only [q5l, one, Bool.and_eq_true, decide_eq_true_eq] at h
      exact ⟨rfl, f, rfl, by simp [q7o, h.1], .str, by simp only [tok, q5l, one, Bool.and_eq_true]; exact h.2.2, fun x => ⟨x, rfl⟩⟩
    | [], h => simp [q5l, one] at h
    | _ :: _ :: _, h => simp [q5l, one] at h
  | .arr _ _, fs, o, i, q, h, hq => by
    cases i <;> simp [q7n.go] at hq
    subst hq
    match fs, h with
    | [f], h =>
      simp only [q5l, one, Bool.and_eq_true, decide_eq_true_eq] at h
      exact ⟨rfl, f, rfl, by simp [q7o, h.1], (.arr _ _), by simp only [tok, q5l, one, Bool.and_eq_true]; exact h.2.2, fun x => ⟨x, rfl⟩⟩
    | [], h => simp [q5l, one] at h
    | _ :: _ :: _, h => simp [q5l, one] at h
  | .row e, fs, o, i, q, h, hq => by
    cases i <;> simp [q7n.go] at hq
    subst hq
    match fs, h with
    | [f], h =>
      simp only [q5l, one, Bool.and_eq_true, decide_eq_true_eq] at h
      exact ⟨rfl, f, rfl, by simp [q7o, h.1], .row e, by simp only [tok, q5l, one, Bool.and_eq_true]; exact h.2.2, fun x => ⟨x, rfl⟩⟩
    | [], h => simp [q5l, one] at h
    | _ :: _ :: _, h => simp [q5l, one] at h
  | .st a, fs, o, i, q, h, hq => by
    cases i <;> simp [q7n.go] at hq
    subst hq
    match fs, h with
    | [f], h =>
      simp only [q5l, one, Bool.and_eq_true, decide_eq_true_eq] at h
      exact ⟨rfl, f, rfl, by rw [q5d]; omega, .st a, by simp only [tok, q5l, one, Bool.and_eq_true]; exact h.2.2, fun x => ⟨x, by cases a <;> rfl⟩⟩
    | [], h => simp [q5l, one] at h
    | _ :: _ :: _, h => simp [q5l, one] at h
theorem qpc {a : Ty} {x : a.T} {q : Path} {τ' : Ty} {y : τ'.T} (hq : q ≠ []) (h : q5f a x q = some ⟨τ', y⟩) : q5f (.st a) x q = some ⟨τ', y⟩ := by
  cases q with
  | nil => exact (hq rfl).elim
  | cons e q => exact h
theorem qyl {t : TypeId} {τ : Ty} {i : Nat} {q : Path} (ht : tok P τ t) (hq : q7n τ i = some q) :
    ∃ a fs f τ', τ = .st a ∧ P.underlying t = some (.struct fs) ∧ fs[i]? = some f ∧ f.offset = q7o τ q ∧ q.fields = true ∧ tok P τ' f.type ∧ ∀ x : τ.T, (q ≠ [] → ∃ y : τ'.T, q5f τ x q = some ⟨τ', y⟩) := by
  cases τ with
  | st a =>
    obtain ⟨fs, h1, h2, _⟩ := ht.st
    obtain ⟨k1, f, k2, k3, τ', k4, k5⟩ := fld a fs.toList 0 i h2 hq
    exact ⟨a, fs, f, τ', rfl, h1, by simpa using k2, by rw [k3]; simp [q7o], k1, k4, fun x hn => (k5 x).imp fun y hy => qpc hn hy⟩
  | _ => simp [q7n] at hq
theorem ql8 {s : TypeId} {fs : Array Field} {f : Field} {i b o : Nat} {τ' : Ty} (hs : P.underlying s = some (.struct fs)) (hf : fs[i]? = some f) (ht : tok P τ' f.type) :
    (Instr.fieldAt s (.pointer (some ⟨b, o, none⟩)) i).run P w = .ok (.pointer (some ⟨b, o + f.offset, none⟩)) w := by
  have hn : ¬ τ'.n = 0 := Nat.ne_of_gt τ'.n_pos
  have hadd : (⟨b, o, none⟩ : Addr).add f.offset = ⟨b, o + f.offset, none⟩ := by unfold Addr.add; split <;> simp_all
  simp only [Instr.fieldAt, Sem.run_bind, run_underlying hs, Result.andThen, hf, Instr.sureAddr, Sem.run_pure, fieldPlace, ht.size, if_neg hn, hadd]
theorem q9e : {τ : Ty} → {x : τ.T} → {p q : Path} → {τ' : Ty} → {y : τ'.T} → q5f τ x p = some ⟨τ', y⟩ → p.fields = true → q7o τ (p ++ q) = q7o τ p + q7o τ' q
  | τ, x, [], q, τ', y, h, hp => by
    rw [q6v] at h
    cases h
    simp [q5d]
  | .pair a b, x, .fst :: p, q, τ', y, h, hp => q9e (τ := a) h hp
  | .pair a b, x, .snd :: p, q, τ', y, h, hp => by
    have := q9e (τ := b) (q := q) h hp
    simp only [List.cons_append, q7o, this]
    omega
  | _, x, .idx i :: p, q, τ', y, h, hp => by simp [Path.fields] at hp
  | .st a, x, e :: p, q, τ', y, h, hp => q9e (τ := a) (p := e :: p) h hp
  | .int _, x, .fst :: p, q, τ', y, h, hp => by simp [q5f] at h
  | .int _, x, .snd :: p, q, τ', y, h, hp => by simp [q5f] at h
  | .bool, x, .fst :: p, q, τ', y, h, hp => by simp [q5f] at h
  | .bool, x, .snd :: p, q, τ', y, h, hp => by simp [q5f] at h
  | .str, x, .fst :: p, q, τ', y, h, hp => by simp [q5f] at h
  | .arr _ _, x, .fst :: p, q, τ', y, h, hp => by simp [q5f] at h
  | .str, x, .snd :: p, q, τ', y, h, hp => by simp [q5f] at h
  | .arr _ _, x, .snd :: p, q, τ', y, h, hp => by simp [q5f] at h
  | .row _, x, .fst :: p, q, τ', y, h, hp => by simp [q5f] at h
  | .row _, x, .snd :: p, q, τ', y, h, hp => by simp [q5f] at h
theorem q6q {p q : Path} : (p ++ q).fields = true ↔ p.fields = true ∧ q.fields = true := by
  induction p with
  | nil => simp [Path.fields]
  | cons e p ih => cases e <;> simp [Path.fields] <;> first | exact ih | simp
theorem qmb {f : Fl} {p q : Path} (h : qdp f p = true) (hq : q.fields = true) : qdp f (p ++ q) = true := by
  induction p generalizing f with
  | nil =>
    have : ∀ (q : Path) (f : Fl), q.fields = true → qdp f q = true := by
      intro q
      induction q with
      | nil => intro f _; cases f <;> rfl
      | cons e q ih =>
        intro f hq
        cases e with
        | fst => cases f <;> exact ih _ hq
        | snd => cases f <;> exact ih _ hq
        | idx i => simp [Path.fields] at hq
    exact this q f hq
  | cons e p ih =>
    cases e with
    | fst => cases f <;> exact ih h
    | snd => cases f <;> exact ih h
    | idx i => cases f <;> first | exact ih h | (simp [qdp] at h)
theorem qd6 {w : World} : {τ : Ty} → {x : τ.T} → {cs : List Value} → {p q : Path} → {τ' : Ty} → {y : τ'.T} → {b o : Nat} → Loc w τ cs p b o → q5f τ x p = some ⟨τ', y⟩ → q.fields = true → Loc w τ cs (p ++ q) b (o + q7o τ' q)
  | .int _, x, cs, p, q, τ', y, b, o, h, hg, hq => h.elim
  | .bool, x, cs, p, q, τ', y, b, o, h, hg, hq => h.elim
  | .str, x, cs, p, q, τ', y, b, o, h, hg, hq => h.elim
  | .arr _ _, x, cs, p, q, τ', y, b, o, h, hg, hq => h.elim
  | .row e, x, cs, [], q, τ', y, b, o, h, hg, hq => h.elim
  | .row e, x, cs, .fst :: p, q, τ', y, b, o, h, hg, hq => h.elim
  | .row e, x, cs, .snd :: p, q, τ', y, b, o, h, hg, hq => h.elim
  | .row e, x, cs, .idx i :: p, q, τ', y, b, o, h, hg, hq => by
    obtain ⟨a, len, cap, h1, h2, h3, h4⟩ := h
    refine ⟨a, len, cap, h1, h2, h3, ?_⟩
    rcases h4 with ⟨h4, h5, h6⟩ | ⟨h4, c', h5, h6, h7⟩
    · left
      refine ⟨q6q.2 ⟨h4, hq⟩, h5, ?_⟩
      have hx := q9e (τ := e) (q := q) hg h4
      rw [h6]
      change a.off + i * e.n + q7o e p + q7o τ' q = a.off + i * e.n + q7o e (p ++ q)
      rw [hx]
      omega
    · right
      refine ⟨?_, c', h5, h6, qd6 (τ := e) h7 hg hq⟩
      cases hpq : Path.fields (p ++ q) with
      | false => rfl
      | true => rw [(q6q.1 hpq).1] at h4; cases h4
  | .pair a b, x, cs, [], q, τ', y, bl, o, h, hg, hq => h.elim
  | .pair a b, x, cs, .fst :: p, q, τ', y, bl, o, h, hg, hq => qd6 (τ := a) (p := p) h hg hq
  | .pair a b, x, cs, .snd :: p, q, τ', y, bl, o, h, hg, hq => qd6 (τ := b) (p := p) h hg hq
  | .pair a b, x, cs, .idx i :: p, q, τ', y, bl, o, h, hg, hq => h.elim
  | .st a, x, cs, [], q, τ', y, b, o, h, hg, hq => (h.1 rfl).elim
  | .st a, x, cs, e :: p, q, τ', y, b, o, h, hg, hq => ⟨by simp, qd6 (τ := a) (p := e :: p) h.2 hg hq⟩
theorem qnx : {τ : Ty} → {f : Fl} → {x : τ.T} → {q : Path} → {τ' : Ty} → {y : τ'.T} → q.fields = true → q5f τ x q = some ⟨τ', y⟩ → f.ok τ = true → (f.at q).ok τ' = true
  | τ, f, x, [], τ', y, hp, h, hk => by
    rw [q6v] at h
    cases h
    cases f <;> exact hk
  | .pair a b, f, x, .fst :: q, τ', y, hp, h, hk => by
    simp only [Fl.ok, Bool.and_eq_true] at hk
    exact qnx (τ := a) (q := q) hp h hk.1
  | .pair a b, f, x, .snd :: q, τ', y, hp, h, hk => by
    simp only [Fl.ok, Bool.and_eq_true] at hk
    exact qnx (τ := b) (q := q) hp h hk.2
  | .st a, f, x, e :: q, τ', y, hp, h, hk => qnx (τ := a) (q := e :: q) hp h hk
  | _, f, x, .idx i :: q, τ', y, hp, h, hk => by simp [Path.fields] at hp
  | .int _, f, x, .fst :: q, τ', y, hp, h, hk => by simp [q5f] at h
  | .int _, f, x, .snd :: q, τ', y, hp, h, hk => by simp [q5f] at h
  | .bool, f, x, .fst :: q, τ', y, hp, h, hk => by simp [q5f] at h
  | .bool, f, x, .snd :: q, τ', y, hp, h, hk => by simp [q5f] at h
  | .str, f, x, .fst :: q, τ', y, hp, h, hk => by simp [q5f] at h
  | .arr _ _, f, x, .fst :: q, τ', y, hp, h, hk => by simp [q5f] at h
  | .str, f, x, .snd :: q, τ', y, hp, h, hk => by simp [q5f] at h
  | .arr _ _, f, x, .snd :: q, τ', y, hp, h, hk => by simp [q5f] at h
  | .row _, f, x, .fst :: q, τ', y, hp, h, hk => by simp [q5f] at h
  | .row _, f, x, .snd :: q, τ', y, hp, h, hk => by simp [q5f] at h
theorem qj2 {s : TypeId} {u i : Nat} {o : Oper} {a : AV} (he : EOk P E ξ0 w0) (h : SA T0 ξ0 w0 tk Em ξ w σ tm) (hop : o.op = .fieldAddr s (.tmp u) i) (hd : quu E σ s u i = some a) : Gd P T0 ξ0 w0 σ tm (execOp (ev tm) o) a w := by
  simp only [quu] at hd
  split at hd
  case h_1 => cases hd
  rename_i τ hE
  split at hd
  case h_1 => cases hd
  rename_i q hq
  obtain ⟨a0, fs, f, τ', rfl, k1, k2, k3, k4, k5, k6⟩ := qyl (he.ty s τ hE) hq
  have run : ∀ b off, tm.getD u undef = .pointer (some ⟨b, off, none⟩) → (execOp (ev tm) o).run P w = .ok (.value (.pointer (some ⟨b, off + q7o (.st a0) q, none⟩))) w := by
    intro b off hp
    have e1 : ev tm (.tmp u) = .pointer (some ⟨b, off, none⟩) := hp
    simp only [execOp, hop, Sem.run_bind, e1, ql8 k1 k2 k5, Result.andThen, Sem.run_pure, k3]
  split at hd
  · rename_i τ1 x f1 r ha
    split at hd
    case isFalse => cases hd
    rename_i e; subst e
    obtain rfl := Option.some.inj hd
    have ha' : σ.av u = .box (.st a0) x f1 r := ha
    obtain ⟨b, c, t, fz, T', m1, m2, m3, _⟩ := h.at_box ha'
    refine Gd.pure h (run b 0 m1) trivial ⟨Past.refl _ _, fun _ => ⟨b, _, rfl, ?_⟩⟩
    rw [ha']
    exact ⟨b, c, t, fz, m1, fun _ => ⟨rfl, by omega⟩, fun hn => by simp [k4] at hn⟩
  · rename_i h0 p g v ha
    split at hd
    case isFalse => cases hd
    rename_i hv
    split at hd
    case h_2 => cases hd
    rename_i sv hsv
    split at hd
    case isFalse => cases hd
    rename_i hty
    obtain rfl := Option.some.inj hd
    have ha' : σ.av u = .ref h0 p g v := ha
    obtain ⟨b, off, m1, m2⟩ := h.at_ref ha' hv
    have hl := h.lent u
    rw [ha'] at hl
    refine Gd.pure h (run b off m1) trivial ⟨hl.1, fun _ => ⟨b, _, rfl, ?_⟩⟩
    obtain ⟨τs, y⟩ := sv
    simp only at hty
    subst hty
    cases hh : σ.av h0 with
    | box τ0 x0 f0 r =>
      rw [hh] at m2 hsv
      obtain ⟨b0, c, t, fz, n1, n2, n3⟩ := m2
      refine ⟨b0, c, t, fz, n1, fun hf => ?_, fun hf => ?_⟩
      · obtain ⟨hp, _⟩ := q6q.1 hf
        obtain ⟨rfl, rfl⟩ := n2 hp
        exact ⟨rfl, (q9e hsv hp).symm⟩
      · have hp : p.fields = false := by
          cases hp : p.fields with
          | false => rfl
          | true => rw [q6q.2 ⟨hp, k4⟩] at hf; cases hf
        obtain ⟨n4, n5, n6⟩ := n3 hp
        exact ⟨n4, qmb n5 k4, qd6 n6 hsv k4⟩
    | d τ0 x0 f0 =>
      rw [hh] at m2 hsv
      obtain ⟨cs0, n1, n2, n3, n4, n5⟩ := m2
      refine ⟨cs0, n1, n2, ?_, qmb n4 k4, qd6 n5 hsv k4⟩
      cases hpq : Path.fields (p ++ q) with
      | false => rfl
      | true => rw [(q6q.1 hpq).1] at n3; cases n3
    | _ => rw [hh] at m2; exact m2.elim
  · rename_i τ1 x ha
    split at hd
    case isFalse => cases hd
    rename_i e; subst e
    have ha' : σ.av u = .rp (.st a0) x none := ha
    have ho := h.own u
    rw [ha'] at ho
    obtain ⟨b, off, cs, m1, m2, m3, m4, m5⟩ := ho
    simp only [qxu] at hd
    split at hd
    case h_2 => cases hd
    rename_i τ2 y hg
    obtain rfl := Option.some.inj hd
    obtain ⟨c1, c2, c3, e1, e2, e3⟩ := m5.get k4 hg
    have hat : Fl.at .ro q = .ro := by
      clear hg hq k3 k6 e1 e2 e3 run
      induction q with
      | nil => rfl
      | cons e q ih => cases e <;> first | exact ih (by simpa [Path.fields] using k4) | simp [Path.fields] at k4
    rw [hat] at e3
    have hlen : c1.length + (c2.length + c3.length) = (Ty.st a0).n := by rw [← m2, e1]; simp
    have := e3.len
    refine Gd.pure h (run b off m1) ⟨b, _, c2, rfl, e3.len, ?_, by omega, e3⟩ trivial
    rw [e1] at m3
    rw [← e2]
    exact m3.part
  · rename_i τ1 x h0 g v ha
    split at hd
    case isFalse => cases hd
    rename_i e
    simp only [Bool.and_eq_true, decide_eq_true_eq] at e
    obtain ⟨e, hv⟩ := e
    subst e
    have ha' : σ.av u = .rp (.st a0) x (some (h0, g, v)) := ha
    have hl := h.lent u
    rw [ha'] at hl
    obtain ⟨b, off, cs, f', T', m1, m2, m3, m4, m5, m6, m7⟩ := hl.2 hv
    simp only [qxu] at hd
    split at hd
    case h_2 => cases hd
    rename_i τ2 y hg
    obtain rfl := Option.some.inj hd
    obtain ⟨c1, c2, c3, e1, e2, e3⟩ := m7.get k4 hg
    have hlen : c1.length + (c2.length + c3.length) = (Ty.st a0).n := by rw [← m2, e1]; simp
    have := e3.len
    refine Gd.pure h (run b off m1) trivial ⟨hl.1, fun _ => ⟨b, _, c2, _, T', rfl, e3.len, ?_, m4.imp id (fun z => by omega), m5, qnx k4 hg m6, e3⟩⟩
    rw [e1] at m3
    rw [← e2]
    exact m3.part
  · cases hd
end
end Go.Proofs.YtjfkeknnjjlepaaGreatDoor.Rf
end

section
/- Operations: elements, arithmetic, comparison, cuts. Nothing of any program. -/
namespace Go.Proofs.YtjfkeknnjjlepaaGreatDoor.Rf
open Go Go.RowKit
set_option linter.unusedVariables false
set_option linter.unusedSimpArgs false
section
variable {P : Program} {E : q6f} {T0 : Bs} {ξ0 : Im} {w0 : World} {tk : Nat → Bs} {Tf : Bs} {ξ : Im} {w : World} {σ : St} {tm : Array Value}
theorem Reads.int {v : Value} {k : IntKind} {x : Int} (h : Reads ξ w tk v ⟨.int k, x⟩) : v = .int k x := by
  obtain ⟨cs, f, T', t, h1, _, h2, h3⟩ := h
  rw [h1, h3.2 (by simpa [Fl.ok] using h2)]; rfl
theorem Reads.bool {v : Value} {x : Bool} (h : Reads ξ w tk v ⟨.bool, x⟩) : v = .bool x := by
  obtain ⟨cs, f, T', t, h1, _, h2, h3⟩ := h
  rw [h1, h3.2 (by simpa [Fl.ok] using h2)]; rfl
theorem Reads.str {v : Value} {x : ByteArray} (h : Reads ξ w tk v ⟨.str, x⟩) : v = .string x := by
  obtain ⟨cs, f, T', t, h1, _, h2, h3⟩ := h
  rw [h1, h3.2 (by simpa [Fl.ok] using h2)]; rfl
theorem qf2 (h : SA T0 ξ0 w0 tk Tf ξ w σ tm) {i : Operand} {n : Int} (hi : asI (rdv σ i) = some n) : ∃ k, ev tm i = .int k n := by
  cases hr : rdv σ i with
  | none => rw [hr] at hi; cases hi
  | some s =>
    rw [hr] at hi
    obtain ⟨τ, x⟩ := s
    cases τ <;> simp only [asI, Option.some.injEq, reduceCtorEq] at hi
    subst hi
    exact ⟨_, (q78 h hr).int⟩
theorem q57 {τ : Ty} {x : τ.T} {v : Value} (h1 : v = mkV τ [v]) (h2 : Rel ξ w τ .ro x [v] Em) : q6c ξ w (.d τ x .ro) v Em := ⟨[v], h1, h2⟩
theorem qgb : (e : Ty) → Fl.ok e .ro = true
  | .int _ | .bool | .str | .row _ | .arr _ _ => rfl
  | .pair a b => by simp only [Fl.ok, Fl.l, Fl.r, qgb a, qgb b, Bool.and_self]
  | .st a => qgb a
theorem Rel.elem {e : Ty} {f : Fl} {l : List e.T} {cs : List Value} {T : Bs} (h : Rel ξ w (.row e) f l cs T) (hf : f.ok (.row e) = true) {i : Nat} (hi : i < l.length) :
    ∃ a cap c', ∃ g : Fl, cs = [.slice (some a) l.length cap] ∧ a.spot = none ∧ c'.length = e.n ∧ CAt w a.block (a.off + i * e.n) c' ∧ (T a.block ∨ a.off + i * e.n + e.n ≤ ξ a.block) ∧ g.ok e = true ∧ Rel ξ w e g l[i] c' T ∧
      (f = .ro → a.off + i * e.n + e.n ≤ ξ a.block ∧ Rel ξ w e .ro l[i] c' Em) ∧ (∀ g', f = .own g' → Loc w (.row e) cs [.idx i] a.block (a.off + i * e.n)) := by
  cases f with
  | gone => simp [Fl.ok] at hf
  | pr _ _ => exact h.elim
  | ro =>
    obtain ⟨A, cap, rfl, h2, h3⟩ := h
    obtain ⟨a, c', rfl, h5, h6, h7, h8, h9⟩ := h3 i hi
    exact ⟨a, cap, c', .ro, rfl, h5, h6, h7, .inr h8, qgb e, h9.sub (Sb.em _), fun _ => ⟨h8, h9⟩, fun g' hg => by cases hg⟩
  | own g =>
    rcases h with ⟨h, _⟩ | ⟨a, cap, c, t, fz, Te, rfl, h2, h3, h4, h5, h6, h7, h8, h9, h10, h11⟩
    · subst h; simp at hi
    · obtain ⟨c', k1, k2, k3⟩ := h11 i hi
      exact ⟨a, cap, c', g, rfl, h2, k1, k2, .inl h3, by simpa [Fl.ok] using hf, k3.sub (h9 i).1, (fun x => by cases x), fun g' _ => ⟨a, l.length, cap, rfl, h2, hi, .inl ⟨rfl, rfl, by rw [q5d]; omega⟩⟩⟩
theorem qhq : {τ : Ty} → {x : τ.T} → {p : Path} → {τ' : Ty} → {y : τ'.T} → q5f τ x p = some ⟨τ', y⟩ → p.fields = true → q7o τ p + τ'.n ≤ τ.n
  | τ, x, [], τ', y, h, hp => by
    rw [q6v] at h
    cases h
    simp [q5d]
  | .pair a b, x, .fst :: p, τ', y, h, hp => by
    have := qhq (τ := a) h hp
    simp only [q7o, Ty.n]; omega
  | .pair a b, x, .snd :: p, τ', y, h, hp => by
    have := qhq (τ := b) h hp
    simp only [q7o, Ty.n]; omega
  | _, x, .idx i :: p, τ', y, h, hp => by simp [Path.fields] at hp
  | .st a, x, e :: p, τ', y, h, hp => qhq (τ := a) (p := e :: p) h hp
  | .int _, x, .fst :: p, τ', y, h, hp => by simp [q5f] at h
  | .int _, x, .snd :: p, τ', y, h, hp => by simp [q5f] at h
  | .bool, x, .fst :: p, τ', y, h, hp => by simp [q5f] at h
  | .bool, x, .snd :: p, τ', y, h, hp => by simp [q5f] at h
  | .str, x, .fst :: p, τ', y, h, hp => by simp [q5f] at h
  | .arr _ _, x, .fst :: p, τ', y, h, hp => by simp [q5f] at h
  | .str, x, .snd :: p, τ', y, h, hp => by simp [q5f] at h
  | .arr _ _, x, .snd :: p, τ', y, h, hp => by simp [q5f] at h
  | .row _, x, .fst :: p, τ', y, h, hp => by simp [q5f] at h
  | .row _, x, .snd :: p, τ', y, h, hp => by simp [q5f] at h
theorem q8u : {τ : Ty} → {x : τ.T} → {cs c1 c2 c3 : List Value} → {p q : Path} → {τ' : Ty} → {y : τ'.T} → {b o : Nat} → q5f τ x p = some ⟨τ', y⟩ → p.fields = true → cs = c1 ++ (c2 ++ c3) → c1.length = q7o τ p → c2.length = τ'.n → cs.length = τ.n → q ≠ [] →
    Loc w τ' c2 q b o → Loc w τ cs (p ++ q) b o
  | τ, x, cs, c1, c2, c3, [], q, τ', y, b, o, hg, hp, hc, h1, h2, h3, hq, h => by
    rw [q6v] at hg
    cases hg
    rw [q5d] at h1
    have e1 : c1 = [] := List.length_eq_zero_iff.1 h1
    have e3 : c3 = [] := by
      have : c1.length + (c2.length + c3.length) = τ.n := by rw [← h3, hc]; simp
      exact List.length_eq_zero_iff.1 (by omega)
    rw [hc, e1, e3]
    simpa using h
  | .pair a b', x, cs, c1, c2, c3, .fst :: p, q, τ', y, b, o, hg, hp, hc, h1, h2, h3, hq, h => by
    have hle := qhq (τ := a) hg hp
    have h1' : c1.length = q7o a p := h1
    have hl : c1.length + (c2.length + c3.length) = a.n + b'.n := by have := h3; rw [hc] at this; simp only [List.length_append] at this; exact this
    refine q8u (τ := a) (c1 := c1) (c2 := c2) (c3 := c3.take (a.n - (c1.length + c2.length))) hg hp ?_ h1' h2 (by rw [List.length_take, h3]; simp only [Ty.n]; omega) hq h
    rw [hc, ← List.append_assoc, List.take_append, List.length_append, List.take_of_length_le (by rw [List.length_append]; omega)]
    simp
  | .pair a b', x, cs, c1, c2, c3, .snd :: p, q, τ', y, b, o, hg, hp, hc, h1, h2, h3, hq, h => by
    have h1' : c1.length = a.n + q7o b' p := h1
    refine q8u (τ := b') (c1 := c1.drop a.n) (c2 := c2) (c3 := c3) hg hp ?_ (by rw [List.length_drop]; omega) h2 (by rw [List.length_drop, h3]; simp only [Ty.n]; omega) hq h
    rw [hc, List.drop_append_of_le_length (by omega)]
  | .st a, x, cs, c1, c2, c3, e :: p, q, τ', y, b, o, hg, hp, hc, h1, h2, h3, hq, h =>
    ⟨by simp, q8u (τ := a) (p := e :: p) hg hp hc h1 h2 h3 hq h⟩
  | _, x, cs, c1, c2, c3, .idx i :: p, q, τ', y, b, o, hg, hp, hc, h1, h2, h3, hq, h => by simp [Path.fields] at hp
  | .int _, x, cs, c1, c2, c3, .fst :: p, q, τ', y, b, o, hg, hp, hc, h1, h2, h3, hq, h => by simp [q5f] at hg
  | .int _, x, cs, c1, c2, c3, .snd :: p, q, τ', y, b, o, hg, hp, hc, h1, h2, h3, hq, h => by simp [q5f] at hg
  | .bool, x, cs, c1, c2, c3, .fst :: p, q, τ', y, b, o, hg, hp, hc, h1, h2, h3, hq, h => by simp [q5f] at hg
  | .bool, x, cs, c1, c2, c3, .snd :: p, q, τ', y, b, o, hg, hp, hc, h1, h2, h3, hq, h => by simp [q5f] at hg
  | .str, x, cs, c1, c2, c3, .fst :: p, q, τ', y, b, o, hg, hp, hc, h1, h2, h3, hq, h => by simp [q5f] at hg
  | .arr _ _, x, cs, c1, c2, c3, .fst :: p, q, τ', y, b, o, hg, hp, hc, h1, h2, h3, hq, h => by simp [q5f] at hg
  | .str, x, cs, c1, c2, c3, .snd :: p, q, τ', y, b, o, hg, hp, hc, h1, h2, h3, hq, h => by simp [q5f] at hg
  | .arr _ _, x, cs, c1, c2, c3, .snd :: p, q, τ', y, b, o, hg, hp, hc, h1, h2, h3, hq, h => by simp [q5f] at hg
  | .row _, x, cs, c1, c2, c3, .fst :: p, q, τ', y, b, o, hg, hp, hc, h1, h2, h3, hq, h => by simp [q5f] at hg
  | .row _, x, cs, c1, c2, c3, .snd :: p, q, τ', y, b, o, hg, hp, hc, h1, h2, h3, hq, h => by simp [q5f] at hg
theorem run_indexAt {t te : TypeId} {e : Ty} {a : Addr} {len cap : Nat} {k : IntKind} {n : Int} (h1 : P.underlying t = some (.slice te)) (h2 : tok P e te) (ha : a.spot = none) (h0 : 0 ≤ n) (hn : n < len) :
    (Instr.indexAt t (.slice (some a) len cap) (.int k n)).run P w = .ok (.pointer (some ⟨a.block, a.off + n.toNat * e.n, none⟩)) w := by
  have hadd : a.add (n.toNat * e.n) = ⟨a.block, a.off + n.toNat * e.n, none⟩ := by
    obtain ⟨b, o, s⟩ := a
    simp only at ha
    subst ha
    unfold Addr.add; split <;> simp_all
  simp only [Instr.indexAt, asIntOf, Sem.run_bind, Sem.run_pure, Result.andThen, run_underlying h1, h2.size, hadd, if_pos (And.intro h0 hn), Sem.run_ite]
theorem qj3 {t : TypeId} {u : Nat} {i : Operand} {o : Oper} {e : Ty} {n : Int} {l : List e.T} {a : AV} (he : tok P (.row e) t) (h : SA T0 ξ0 w0 tk Em ξ w σ tm) (hop : o.op = .indexAddr t (.tmp u) i) (hi : asI (rdv σ i) = some n)
    (hd : qns σ u e n.toNat = some (l, a)) (h0 : 0 ≤ n) (hn : n < l.length) : Gd P T0 ξ0 w0 σ tm (execOp (ev tm) o) a w := by
  obtain ⟨te, ht, hte⟩ := he.row
  obtain ⟨k, hk⟩ := qf2 h hi
  have hlt : n.toNat < l.length := by omega
  have run : ∀ (ad : Addr) cap, ad.spot = none → tm.getD u undef = .slice (some ad) l.length cap → (execOp (ev tm) o).run P w = .ok (.value (.pointer (some ⟨ad.block, ad.off + n.toNat * e.n, none⟩))) w := by
    intro ad cap hs hv
    have e1 : ev tm (.tmp u) = .slice (some ad) l.length cap := hv
    simp only [execOp, hop, Sem.run_bind, e1, hk, run_indexAt ht hte hs h0 hn, Result.andThen, Sem.run_pure]
  simp only [qns] at hd
  split at hd
  · rename_i τ l' f ha
    have ha' : σ.av u = .d τ l' f := ha
    obtain ⟨cs, m1, m2⟩ := h.at_d ha'
    split at hd
    case h_2 => cases hd
    rename_i l1 hc
    cases q5a hc
    split at hd
    · rename_i hro
      simp only [Option.some.injEq, Prod.mk.injEq] at hd
      obtain ⟨rfl, rfl⟩ := hd
      have hf : f = .ro := by simpa [Fl.isRo] using hro
      subst hf
      obtain ⟨ad, cap, c', g, rfl, r2, r3, r4, r5, r6, r7, r8, r9⟩ := m2.elem rfl hlt
      obtain ⟨r10, r11⟩ := r8 rfl
      refine Gd.pure h (run ad cap r2 m1) ?_ trivial
      rw [qhm hlt]
      exact ⟨_, _, c', rfl, r3, r4, r10, r11⟩
    · rename_i hnro
      split at hd
      case isFalse => cases hd
      rename_i hown
      simp only [Option.some.injEq, Prod.mk.injEq] at hd
      obtain ⟨rfl, rfl⟩ := hd
      have hg : ∃ g, f = .own g := by cases f <;> simp [qdp] at hown; exact ⟨_, rfl⟩
      obtain ⟨g, rfl⟩ := hg
      rcases m2 with ⟨m3, _⟩ | ⟨ad, cap, c, t', fz, Te, rfl, q2, q3, q4, q5, q6, q7, q8, q9, q10, q11⟩
      · subst m3; simp at hlt
      · refine Gd.pure h (run ad cap q2 m1) trivial ⟨Past.refl _ _, fun _ => ⟨_, _, rfl, ?_⟩⟩
        rw [ha']
        exact ⟨_, m1, rfl, rfl, hown, ad, _, cap, rfl, q2, hlt, .inl ⟨rfl, rfl, by rw [q5d]; omega⟩⟩
  · rename_i τ l' hh p g v ha
    have ha' : σ.av u = .vw τ l' hh p g v := ha
    split at hd
    case isFalse => cases hd
    rename_i hv
    split at hd
    case h_2 => cases hd
    rename_i l1 hc
    cases q5a hc
    obtain ⟨cs, f, T', m1, m2, m3, m4, m5⟩ := h.at_vw ha' hv
    have hpast : Past σ hh g v := by have := h.lent u; rw [ha'] at this; exact this.1
    split at hd
    · simp only [Option.some.injEq, Prod.mk.injEq] at hd
      obtain ⟨rfl, rfl⟩ := hd
      obtain ⟨ad, cap, c', g', rfl, r2, r3, r4, r5, r6, r7, r8, r9⟩ := m4.elem m3 hlt
      refine Gd.pure h (run ad cap r2 m1) trivial ⟨hpast, fun _ => ⟨_, _, c', g', T', rfl, r3, r4, r5.imp (m2 _) id, m2, r6, ?_⟩⟩
      rw [qhm hlt]
      exact r7
    · rename_i p
      have hpart := m5 p rfl
      have key : n.toNat < l1.length → ∃ ad cap, cs = [.slice (some ad) l1.length cap] ∧ ad.spot = none := by
        intro hlt
        obtain ⟨ad, cap, c', g', r1, r2, _⟩ := m4.elem m3 hlt
        exact ⟨ad, cap, r1, r2⟩
      have hnf : Path.fields (p ++ [.idx n.toNat]) = false := by
        cases hx : Path.fields (p ++ [PE.idx n.toNat]) with
        | false => rfl
        | true => have := (q6q.1 hx).2; simp [Path.fields] at this
      split at hd
      · rename_i τ0 x0 f0 h0'
        split at hd
        case isFalse => cases hd
        rename_i hown
        simp only [Option.some.injEq, Prod.mk.injEq] at hd
        obtain ⟨rfl, rfl⟩ := hd
        obtain ⟨ad, cap, hcs, hsp⟩ := key hlt
        subst hcs
        have hpast' := hpast
        rw [h0'] at hpart
        obtain ⟨cs0, c1, c3, q1, q2, q3, q4, q5, q6, q7⟩ := hpart
        refine Gd.pure h (run ad cap hsp m1) trivial ⟨hpast, fun _ => ⟨_, _, rfl, ?_⟩⟩
        rw [h0']
        exact ⟨cs0, q1, q2, hnf, hown, q8u q3 q7 q4 q5 q6 q2 (by simp) ⟨ad, _, cap, rfl, hsp, hlt, .inl ⟨rfl, rfl, by rw [q5d]; omega⟩⟩⟩
      · rename_i τ0 x0 f0 sr h0'
        split at hd
        case isFalse => cases hd
        rename_i hown
        simp only [Option.some.injEq, Prod.mk.injEq] at hd
        obtain ⟨rfl, rfl⟩ := hd
        obtain ⟨ad, cap, hcs, hsp⟩ := key hlt
        subst hcs
        have hob := h.at_box h0'
        rw [h0'] at hpart
        obtain ⟨b, c, t', fz, c1, c3, q1, q2, q3, q4, q5, q6, q7⟩ := hpart
        obtain ⟨b', c', t'', fz', T2, n1, n2, n3, n4, n5, n6, n7, n8⟩ := hob
        obtain ⟨rfl, _⟩ := qd5 (q1.symm.trans n1)
        obtain ⟨rfl, rfl, rfl⟩ := qf0 q2 n3
        refine Gd.pure h (run ad cap hsp m1) trivial ⟨hpast, fun _ => ⟨_, _, rfl, ?_⟩⟩
        rw [h0']
        exact ⟨b, c, t', fz, q1, (fun hx => by rw [hnf] at hx; cases hx), fun _ => ⟨q2, hown, q8u q3 q7 q4 q5 q6 n8.len (by simp) ⟨ad, _, cap, rfl, hsp, hlt, .inl ⟨rfl, rfl, by rw [q5d]; omega⟩⟩⟩⟩
      · cases hd
  · cases hd
theorem qsb {t : TypeId} {x i : Operand} {o : Oper} {s : ByteArray} {n : Int} (he : tok P .str t) (h : SA T0 ξ0 w0 tk Em ξ w σ tm) (hop : o.op = .index t x i) (hx : rdv σ x = some ⟨.str, s⟩) (hi : asI (rdv σ i) = some n) (h0 : 0 ≤ n) (hn : n < s.size) :
    Gd P T0 ξ0 w0 σ tm (execOp (ev tm) o) (.d (.int .u8) (q38 s n) .ro) w := by
  obtain ⟨k, hk⟩ := qf2 h hi
  have hs := (q78 h hx).str
  have hlt : n.toNat < s.size := by omega
  refine Gd.pure h (v := .int .u8 (q38 s n)) ?_ (q57 rfl ⟨rfl, fun _ => rfl⟩) trivial
  simp only [execOp, hop, Sem.run_bind, hk, hs, Instr.index, asIntOf, Sem.run_pure, Result.andThen, run_underlying he.str, if_pos h0]
  rw [getElem?_pos s n.toNat hlt]
  simp [q38, hlt]
theorem qpd {t te : TypeId} {m b : Nat} {k k' : IntKind} {n : Int} (h1 : P.underlying t = some (.array (m + 1) te)) (h2 : tok P (.int k) te) (h0 : 0 ≤ n) (hn : n < m + 1) :
    (Instr.indexAt t (.pointer (some ⟨b, 0, none⟩)) (.int k' n)).run P w = .ok (.pointer (some ⟨b, n.toNat, none⟩)) w := by
  have hadd : ∀ j : Nat, (⟨b, 0, none⟩ : Addr).add j = ⟨b, j, none⟩ := fun j => by unfold Addr.add; split <;> simp_all
  have hs := h2.size w
  have e : (Ty.int k).n = 1 := rfl
  rw [e] at hs
  have hc : 0 ≤ n ∧ n < ((m + 1 : Nat) : Int) := ⟨h0, by omega⟩
  simp only [Instr.indexAt, asIntOf, Sem.run_bind, Sem.run_pure, Result.andThen, run_underlying h1, Instr.sureAddr, hs, Nat.mul_one, hadd, if_pos hc, Sem.run_ite]
theorem ql9 {t : TypeId} {x i : Operand} {o : Oper} {m : Nat} {k : IntKind} {n : Int} {a : AV} (he : EOk P E ξ0 w0) (ht : tok P (.arr m k) t) (h : SA T0 ξ0 w0 tk Em ξ w σ tm) (hop : o.op = .indexAddr t x i) (hi : asI (rdv σ i) = some n)
    (hd : qu1 E σ m k x n.toNat = some a) (h0 : 0 ≤ n) (hn : n < m + 1) : Gd P T0 ξ0 w0 σ tm (execOp (ev tm) o) a w := by
  obtain ⟨te, ht1, hte⟩ := ht.arr
  obtain ⟨k', hk⟩ := qf2 h hi
  have run : ∀ b, ev tm x = .pointer (some ⟨b, 0, none⟩) → (execOp (ev tm) o).run P w = .ok (.value (.pointer (some ⟨b, n.toNat, none⟩))) w := by
    intro b hv
    simp only [execOp, hop, Sem.run_bind, hv, hk, qpd ht1 hte h0 hn, Result.andThen, Sem.run_pure]
  have hlt : n.toNat < m + 1 := by omega
  unfold qu1 at hd
  split at hd
  · rename_i u
    simp only at hd
    split at hd
    · rename_i m' k1 x f r ha
      split at hd
      case isFalse => cases hd
      rename_i hmk
      obtain ⟨rfl, rfl⟩ := hmk
      obtain rfl := Option.some.inj hd
      have ha' : σ.av u = .box (.arr m' k1) x f r := ha
      obtain ⟨b, c, t', fz, T', n1, n2, n3, n4, n5, n6, n7, n8⟩ := h.at_box ha'
      exact Gd.pure h (run b n1) trivial ⟨Past.refl _ _, fun _ => ⟨b, m', k1, x, f, r, ha', hlt, n1, rfl⟩⟩
    · rename_i h1 g v ha
      split at hd
      case isFalse => cases hd
      rename_i hg
      split at hd
      case h_2 => cases hd
      rename_i m' k1 x f r hb
      split at hd
      case isFalse => cases hd
      rename_i hmk
      obtain ⟨rfl, rfl⟩ := hmk
      obtain rfl := Option.some.inj hd
      have ha' : σ.av u = .ref h1 [] g v := ha
      obtain ⟨b, o1, k1', k2⟩ := h.at_ref ha' (by simp only [refOk, hg, Path.fields]; rfl)
      rw [hb] at k2
      obtain ⟨b0, c, t', fz, p1, p2, p3⟩ := k2
      obtain ⟨rfl, rfl⟩ := p2 rfl
      have hz : (q7o (.arr m' k1) [] : Nat) = 0 := rfl
      rw [hz] at k1'
      have hg' : (σ.slot h1).g = g := by simpa using hg
      refine Gd.pure h (run b k1') trivial ⟨⟨by rw [hg']; exact Nat.le_refl _, fun _ => Nat.le_refl _⟩, fun _ => ⟨b, m', k1, x, f, r, hb, hlt, p1, rfl⟩⟩
    · cases hd
  · rename_i g
    split at hd
    case h_2 => cases hd
    rename_i k1 l hl
    split at hd
    case isFalse => cases hd
    rename_i hmk
    obtain ⟨rfl, hlen⟩ := hmk
    obtain rfl := Option.some.inj hd
    obtain ⟨q1, q2⟩ := he.gl _ _ _ hl n.toNat (by omega)
    have q3 := h.fr.imm _ _ _ q2 q1
    have q4 := h.fr.up g (qbe q1)
    refine Gd.pure h (run g rfl) ⟨g, n.toNat, [.int k1 (l.getD n.toNat 0)], rfl, rfl, ?_, ?_, rfl, fun _ => rfl⟩ trivial
    · intro j v hj
      cases j with
      | zero => simp at hj; subst hj; simpa using q3
      | succ j => simp at hj
    · show n.toNat + 1 ≤ _
      omega
  · cases hd
theorem Reads.arr {v : Value} {m : Nat} {k : IntKind} {x : List Int} (h : Reads ξ w tk v ⟨.arr m k, x⟩) : x.length = m + 1 ∧ v = .agg (x.map (Value.int k)).toArray := by
  obtain ⟨cs, f, T', t, rfl, _, hf, hr⟩ := h
  have := hr.2 (by simpa [Fl.ok] using hf)
  exact ⟨this.1, by rw [this.2]; rfl⟩
theorem qpe {t : TypeId} {x i : Operand} {o : Oper} {m : Nat} {k : IntKind} {l : List Int} {n : Int} (ht : tok P (.arr m k) t) (h : SA T0 ξ0 w0 tk Em ξ w σ tm) (hop : o.op = .index t x i) (hx : rdv σ x = some ⟨.arr m k, l⟩) (hi : asI (rdv σ i) = some n) (h0 : 0 ≤ n) (hn : n < m + 1) :
    Gd P T0 ξ0 w0 σ tm (execOp (ev tm) o) (.d (.int k) (l.getD n.toNat 0) .ro) w := by
  obtain ⟨k', hk⟩ := qf2 h hi
  obtain ⟨hl, hs⟩ := (q78 h hx).arr
  obtain ⟨te, ht1, hte⟩ := ht.arr
  have hlt : n.toNat < l.length := by omega
  have hsz := hte.size w
  have e : (Ty.int k).n = 1 := rfl
  rw [e] at hsz
  refine Gd.pure h (v := .int k (l.getD n.toNat 0)) ?_ (q57 rfl ⟨rfl, fun _ => rfl⟩) trivial
  have hag : (isAgg te).run P w = .ok false w := hte.agg w
  have hc : 0 ≤ n ∧ n < ((m + 1 : Nat) : Int) := ⟨h0, by omega⟩
  have hg : (l.map (Value.int k)).toArray[n.toNat]? = some (.int k (l.getD n.toNat 0)) := by
    simp [List.getElem?_eq_getElem hlt, List.getD_eq_getElem?_getD]
  simp only [execOp, hop, Sem.run_bind, hk, hs, Instr.index, asIntOf, Sem.run_pure, Result.andThen, run_underlying ht1, if_pos hc, Sem.run_ite, hsz, Nat.mul_one, part, hag, Bool.false_eq_true, if_false, hg]
theorem qla (op : BinOp) (t : TypeId) (x y : Operand) (k : IntKind) (a b : Int) {s : Sv} {g : Bool} (tt : Option Ty) (hb : bin tt op ⟨.int k, a⟩ ⟨.int k, b⟩ = some (g, s)) (hg : g = true) :
    (do eqGuard op t x y (.int k a) (.int k b); binOp op t (.int k a) (.int k b) : Sem Value).run P w = .ok (mkV s.1 [match s with | ⟨.int k, n⟩ => .int k n | ⟨.bool, b⟩ => .bool b | _ => undef]) w ∧ (∃ n k, s = ⟨.int k, n⟩) ∨
    (do eqGuard op t x y (.int k a) (.int k b); binOp op t (.int k a) (.int k b) : Sem Value).run P w = .ok (mkV s.1 [match s with | ⟨.int k, n⟩ => .int k n | ⟨.bool, b⟩ => .bool b | _ => undef]) w ∧ (∃ b, s = ⟨.bool, b⟩) := by
  subst hg
  cases op <;> simp only [bin, sv, if_true, Option.some.injEq, Prod.mk.injEq, reduceCtorEq, true_and, decide_eq_true_eq] at hb
  all_goals first
    | (obtain ⟨hd, rfl⟩ := hb; left; refine ⟨?_, _, _, rfl⟩; simp [eqGuard, binOp, Op.shift, Op.intArith, Op.intDiv, Op.intBits, mkV, hd, Int.not_lt.2]; done)
    | (obtain ⟨hd, rfl⟩ := hb; left; refine ⟨?_, _, _, rfl⟩; have hd' : ¬ b < 0 := by omega
       simp [eqGuard, binOp, Op.shift, mkV, hd']; done)
    | (subst hb; left; refine ⟨?_, _, _, rfl⟩; simp [eqGuard, binOp, Op.intArith, Op.intBits, mkV]; done)
    | (subst hb; right; refine ⟨?_, _, rfl⟩; simp [eqGuard, binOp, Op.intCmp, mkV]; done)
end
end Go.Proofs.YtjfkeknnjjlepaaGreatDoor.Rf
end

section
/- Operations: comparison, conversions, cuts, lengths. Nothing of any program. -/
namespace Go.Proofs.YtjfkeknnjjlepaaGreatDoor.Rf
open Go Go.RowKit
set_option linter.unusedVariables false
set_option linter.unusedSimpArgs false
section
variable {P : Program} {E : q6f} {T0 : Bs} {ξ0 : Im} {w0 : World} {tk : Nat → Bs} {Tf : Bs} {ξ : Im} {w : World} {σ : St} {tm : Array Value}
theorem qbz {τ : Ty} {t : TypeId} (ht : tok P τ t) {xs : Array Value} {pre cx post : List Value} (hx : xs.toList = pre ++ (cx ++ post)) (hl : cx.length = τ.n) {off : Nat} (ho : off = pre.length) : (part t xs off).run P w = .ok (mkV τ cx) w := by
  subst ho
  have one : τ.n = 1 → xs[pre.length]? = some (cx.headD undef) := by
    intro h1
    rw [h1] at hl
    match cx, hl with
    | [v], _ => rw [← Array.getElem?_toList, hx]; simp
  cases τ with
  | pair a b => simp [tok, q5l] at ht
  | st a =>
    simp only [part, Sem.run_bind, ht.agg, Result.andThen, if_true, ht.size, Sem.run_pure, mkV, Sem.run_ite]
    congr 2
    apply Array.ext'
    rw [Array.toList_extract, hx, List.extract_eq_take_drop, ← hl]
    simp
  | arr m k =>
    simp only [part, Sem.run_bind, ht.agg, Result.andThen, if_true, ht.size, Sem.run_pure, mkV, Sem.run_ite]
    congr 2
    apply Array.ext'
    rw [Array.toList_extract, hx, List.extract_eq_take_drop, ← hl]
    simp
  | int k => simp only [part, Sem.run_bind, ht.agg, Result.andThen, Bool.false_eq_true, if_false, one rfl, Sem.run_pure, mkV, Sem.run_ite]
  | bool => simp only [part, Sem.run_bind, ht.agg, Result.andThen, Bool.false_eq_true, if_false, one rfl, Sem.run_pure, mkV, Sem.run_ite]
  | str => simp only [part, Sem.run_bind, ht.agg, Result.andThen, Bool.false_eq_true, if_false, one rfl, Sem.run_pure, mkV, Sem.run_ite]
  | row e => simp only [part, Sem.run_bind, ht.agg, Result.andThen, Bool.false_eq_true, if_false, one rfl, Sem.run_pure, mkV, Sem.run_ite]
theorem quz : (τ : Ty) → (m : TypeId ⊕ (List Field × Nat)) → q5l P τ m = true → τ.flat = true → (d : Nat) → τ.dp ≤ d → ∀ {x y : τ.T} {f f' : Fl} {cx cy : List Value} {T T' : Bs}, Rel ξ w τ f x cx T → f.ok τ = true → Rel ξ w τ f' y cy T' → f'.ok τ = true →
    (match m with
     | .inl t => (Op.equalIn d t (mkV τ cx) (mkV τ cy)).run P w = .ok (bin.eqT τ x y) w
     | .inr (fs, o) => ∀ (xs ys : Array Value) (p1 q1 p2 q2 : List Value), xs.toList = p1 ++ (cx ++ q1) → p1.length = o → ys.toList = p2 ++ (cy ++ q2) → p2.length = o → (Op.eqFields d xs ys fs).run P w = .ok (bin.eqT τ x y) w) := by
  intro τ
  -- a single field, out of the value's own
  have single : ∀ τ : Ty, (∀ t, tok P τ t → ∀ d, τ.dp ≤ d → ∀ {x y : τ.T} {f f' : Fl} {cx cy : List Value} {T T' : Bs}, Rel ξ w τ f x cx T → f.ok τ = true → Rel ξ w τ f' y cy T' → f'.ok τ = true → (Op.equalIn d t (mkV τ cx) (mkV τ cy)).run P w = .ok (bin.eqT τ x y) w) →
      ∀ (fs : List Field) (o : Nat), (∃ fd, fs = [fd] ∧ fd.offset = o ∧ fd.name ≠ "_" ∧ tok P τ fd.type) → ∀ d, τ.dp ≤ d → ∀ {x y : τ.T} {f f' : Fl} {cx cy : List Value} {T T' : Bs}, Rel ξ w τ f x cx T → f.ok τ = true → Rel ξ w τ f' y cy T' → f'.ok τ = true →
      ∀ (xs ys : Array Value) (p1 q1 p2 q2 : List Value), xs.toList = p1 ++ (cx ++ q1) → p1.length = o → ys.toList = p2 ++ (cy ++ q2) → p2.length = o → (Op.eqFields d xs ys fs).run P w = .ok (bin.eqT τ x y) w := by
    intro τ hv fs o ⟨fd, hfs, ho, hn, ht⟩ d hd x y f f' cx cy T T' h1 k1 h2 k2 xs ys p1 q1 p2 q2 e1 e2 e3 e4
    subst hfs
    simp only [Op.eqFields, ne_eq, hn, not_false_eq_true, if_true, Sem.run_bind, Sem.run_ite, qbz ht e1 h1.len (ho.trans e2.symm), qbz ht e3 h2.len (ho.trans e4.symm), Result.andThen, hv fd.type ht d hd h1 k1 h2 k2, Sem.run_pure]
    cases bin.eqT τ x y <;> rfl
  have ones : ∀ {τ : Ty} {fs : List Field} {o : Nat}, (∀ a b, τ ≠ .pair a b) → q5l P τ (.inr (fs, o)) = true → ∃ fd, fs = [fd] ∧ fd.offset = o ∧ fd.name ≠ "_" ∧ tok P τ fd.type := by
    intro τ fs o hp h
    match fs, h with
    | [fd], h =>
      refine ⟨fd, rfl, ?_⟩
      cases τ with
      | pair a b => exact (hp a b rfl).elim
      | _ =>
        simp only [q5l, one, Bool.and_eq_true, decide_eq_true_eq] at h
        exact ⟨h.1, h.2.1, by simp only [tok, q5l, one, Bool.and_eq_true]; exact h.2.2⟩
    | [], h =>
      cases τ with
      | pair a b => exact (hp a b rfl).elim
      | _ => simp [q5l, one] at h
    | _ :: _ :: _, h =>
      cases τ with
      | pair a b => exact (hp a b rfl).elim
      | _ => simp [q5l, one] at h
  induction τ with
  | int k =>
    have base : ∀ t, tok P (.int k) t → ∀ d, (Ty.int k).dp ≤ d → ∀ {x y : (Ty.int k).T} {f f' : Fl} {cx cy : List Value} {T T' : Bs}, Rel ξ w (.int k) f x cx T → f.ok (.int k) = true → Rel ξ w (.int k) f' y cy T' → f'.ok (.int k) = true → (Op.equalIn d t (mkV (.int k) cx) (mkV (.int k) cy)).run P w = .ok (bin.eqT (.int k) x y) w := by
      intro t ht d hd x y f f' cx cy T T' h1 k1 h2 k2
      obtain ⟨d, rfl⟩ : ∃ m, d = m + 1 := ⟨d - 1, by simp [Ty.dp] at hd; omega⟩
      rw [h1.2 (by simpa [Fl.ok] using k1), h2.2 (by simpa [Fl.ok] using k2)]
      exact run_equalIn_int w d t k k x y ht.int
    intro m ht hf d hd x y f f' cx cy T T' h1 k1 h2 k2
    match m, ht with
    | .inl t, ht => exact base t ht d hd h1 k1 h2 k2
    | .inr (fs, o), ht => exact single _ (fun t ht d hd => base t ht d hd) fs o (ones (by simp) ht) d hd h1 k1 h2 k2
  | bool =>
    have base : ∀ t, tok P .bool t → ∀ d, Ty.bool.dp ≤ d → ∀ {x y : Ty.bool.T} {f f' : Fl} {cx cy : List Value} {T T' : Bs}, Rel ξ w .bool f x cx T → f.ok .bool = true → Rel ξ w .bool f' y cy T' → f'.ok .bool = true → (Op.equalIn d t (mkV .bool cx) (mkV .bool cy)).run P w = .ok (bin.eqT .bool x y) w := by
      intro t ht d hd x y f f' cx cy T T' h1 k1 h2 k2
      obtain ⟨d, rfl⟩ : ∃ m, d = m + 1 := ⟨d - 1, by simp [Ty.dp] at hd; omega⟩
      rw [h1.2 (by simpa [Fl.ok] using k1), h2.2 (by simpa [Fl.ok] using k2)]
      exact run_equalIn_bool w d t x y ht.bool
    intro m ht hf d hd x y f f' cx cy T T' h1 k1 h2 k2
    match m, ht with
    | .inl t, ht => exact base t ht d hd h1 k1 h2 k2
    | .inr (fs, o), ht => exact single _ (fun t ht d hd => base t ht d hd) fs o (ones (by simp) ht) d hd h1 k1 h2 k2
  | str =>
    have base : ∀ t, tok P .str t → ∀ d, Ty.str.dp ≤ d → ∀ {x y : Ty.str.T} {f f' : Fl} {cx cy : List Value} {T T' : Bs}, Rel ξ w .str f x cx T → f.ok .str = true → Rel ξ w .str f' y cy T' → f'.ok .str = true → (Op.equalIn d t (mkV .str cx) (mkV .str cy)).run P w = .ok (bin.eqT .str x y) w := by
      intro t ht d hd x y f f' cx cy T T' h1 k1 h2 k2
      obtain ⟨d, rfl⟩ : ∃ m, d = m + 1 := ⟨d - 1, by simp [Ty.dp] at hd; omega⟩
      rw [h1.2 (by simpa [Fl.ok] using k1), h2.2 (by simpa [Fl.ok] using k2)]
      exact run_equalIn_string w d t x y ht.str
    intro m ht hf d hd x y f f' cx cy T T' h1 k1 h2 k2
    match m, ht with
    | .inl t, ht => exact base t ht d hd h1 k1 h2 k2
    | .inr (fs, o), ht => exact single _ (fun t ht d hd => base t ht d hd) fs o (ones (by simp) ht) d hd h1 k1 h2 k2
  | row e => intro m ht hf; simp [Ty.flat] at hf
  | pair a b iha ihb =>
    intro m ht hf d hd x y f f' cx cy T T' h1 k1 h2 k2
    match m, ht with
    | .inl t, ht => simp [q5l] at ht
    | .inr ([], o), ht => simp [q5l] at ht
    | .inr (fd :: fs, o), ht =>
      simp only [q5l, Bool.and_eq_true, decide_eq_true_eq] at ht
      obtain ⟨t1, t2, t3, t4⟩ := ht
      simp only [Ty.flat, Fl.ok, Bool.and_eq_true] at hf k1 k2
      simp only [Ty.dp] at hd
      obtain ⟨c1, c2, _, _, rfl, n1, _, _, _, r1, r2⟩ := h1
      obtain ⟨d1, d2, _, _, rfl, n2, _, _, _, s1, s2⟩ := h2
      intro xs ys p1 q1 p2 q2 e1 e2 e3 e4
      have hA := iha (.inl fd.type) t2 hf.1 d (by omega) r1 k1.1 s1 k2.1
      have hB := ihb (.inr (fs, o + a.n)) t3 hf.2 d (by omega) r2 k1.2 s2 k2.2 xs ys (p1 ++ c1) q1 (p2 ++ d1) q2 (by rw [e1]; simp) (by simp [e2, n1]) (by rw [e3]; simp) (by simp [e4, n2])
      simp only at hA hB
      simp only [Op.eqFields, ne_eq, t4, not_false_eq_true, if_true, Sem.run_bind, Sem.run_ite, qbz t2 (pre := p1) (cx := c1) (post := c2 ++ q1) (by rw [e1]; simp) n1 (t1.trans e2.symm), qbz t2 (pre := p2) (cx := d1) (post := d2 ++ q2) (by rw [e3]; simp) n2 (t1.trans e4.symm), Result.andThen, hA, Sem.run_pure]
      simp only [bin.eqT]
      cases bin.eqT a x.1 y.1
      · rfl
      · simpa using hB
  | arr m k => intro m ht hf; cases hf
  | st a ih =>
    have base : ∀ t, tok P (.st a) t → a.flat = true → ∀ d, (Ty.st a).dp ≤ d → ∀ {x y : (Ty.st a).T} {f f' : Fl} {cx cy : List Value} {T T' : Bs}, Rel ξ w (.st a) f x cx T → f.ok (.st a) = true → Rel ξ w (.st a) f' y cy T' → f'.ok (.st a) = true → (Op.equalIn d t (mkV (.st a) cx) (mkV (.st a) cy)).run P w = .ok (bin.eqT (.st a) x y) w := by
      intro t ht hf d hd x y f f' cx cy T T' h1 k1 h2 k2
      simp only [Ty.dp] at hd
      obtain ⟨d, rfl⟩ : ∃ m, d = m + 1 := ⟨d - 1, by omega⟩
      obtain ⟨fs, u1, u2, u3, u4⟩ := ht.st
      have hfs : P.fieldsOf t = fs := by simp [Program.fieldsOf, u1]
      simp only [mkV]
      rw [run_equalIn_struct w d t _ _ (by rw [hfs]; exact u1) u3, hfs]
      exact ih (.inr (fs.toList, 0)) u2 hf d (by omega) h1 k1 h2 k2 _ _ [] [] [] [] (by simp) rfl (by simp) rfl
    intro m ht hf d hd x y f f' cx cy T T' h1 k1 h2 k2
    match m, ht with
    | .inl t, ht => exact base t ht hf d hd h1 k1 h2 k2
    | .inr (fs, o), ht => exact single _ (fun t ht d hd => base t ht hf d hd) fs o (ones (by simp) ht) d hd h1 k1 h2 k2
theorem qsc {op : BinOp} {t yt : TypeId} {x y : Operand} {o : Oper} {a b s : Sv} {g : Bool} (he : EOk P E ξ0 w0) (h : SA T0 ξ0 w0 tk Em ξ w σ tm) (hop : o.op = .binOp op t x y yt) (hx : rdv σ x = some a) (hy : rdv σ y = some b) (hb : bin (E.of t) op a b = some (g, s)) (hg : g = true) :
    Gd P T0 ξ0 w0 σ tm (execOp (ev tm) o) (.d s.1 s.2 .ro) w := by
  have fin : ∀ v, (do eqGuard op t x y (ev tm x) (ev tm y); binOp op t (ev tm x) (ev tm y) : Sem Value).run P w = .ok v w → q6c ξ w (.d s.1 s.2 .ro) v Em → Gd P T0 ξ0 w0 σ tm (execOp (ev tm) o) (.d s.1 s.2 .ro) w := by
    intro v hr ho
    refine Gd.pure h (v := v) ?_ ho trivial
    simp only [execOp, hop]
    rw [Sem.run_bind, hr]
    rfl
  have rx := q78 h hx
  have ry := q78 h hy
  obtain ⟨τa, a⟩ := a
  obtain ⟨τb, b⟩ := b
  subst hg
  cases τa with
  | int k =>
    cases τb with
    | int j =>
      have ex := rx.int
      have ey := ry.int
      rw [ex, ey] at fin
      by_cases hkj : k = j
      · subst hkj
        rcases qla (P := P) (w := w) op t x y k a b (E.of t) hb rfl with ⟨h1, n, k', rfl⟩ | ⟨h1, n, rfl⟩
        · exact fin _ h1 (q57 rfl ⟨rfl, fun _ => rfl⟩)
        · exact fin _ h1 (q57 rfl ⟨rfl, fun _ => rfl⟩)
      · cases op <;> simp only [bin, sv, if_neg hkj, Option.some.injEq, Prod.mk.injEq, reduceCtorEq, decide_eq_true_eq] at hb
        · obtain ⟨hd, rfl⟩ := hb
          have hd' : ¬ b < 0 := Int.not_lt.2 hd
          exact fin (.int k (k.wrap (a * 2 ^ (min b.toNat k.bits)))) (by simp [eqGuard, binOp, Op.shift, hd']) (q57 rfl ⟨rfl, fun _ => rfl⟩)
        · obtain ⟨hd, rfl⟩ := hb
          have hd' : ¬ b < 0 := Int.not_lt.2 hd
          exact fin (.int k (a.fdiv (2 ^ (min b.toNat k.bits)))) (by simp [eqGuard, binOp, Op.shift, hd']) (q57 rfl ⟨rfl, fun _ => rfl⟩)
    | _ => simp [bin] at hb
  | str =>
    cases τb with
    | str =>
      have ex := rx.str
      have ey := ry.str
      rw [ex, ey] at fin
      cases op <;> simp only [bin, sv, Option.some.injEq, Prod.mk.injEq, reduceCtorEq, true_and, decide_eq_true_eq] at hb
      case add =>
        obtain ⟨hd, rfl⟩ := hb
        have hd := qut hd
        exact fin (.string (a ++ b)) (by
          have e0 : eqGuard .add t x y (.string a) (.string b) = pure () := by simp [eqGuard]
          have hd' : ¬ (((ByteArray.size a + ByteArray.size b : Nat) : Int) > IntKind.i64.max) := Int.not_lt.2 hd
          rw [e0]
          simp only [Sem.run_bind, Sem.run_pure, Result.andThen, binOp, Op.stringOp, Sem.run_ite, if_neg hd']) (q57 rfl ⟨rfl, fun _ => rfl⟩)
      all_goals
        subst hb
        exact fin (.bool _) (by simp only [eqGuard, binOp, Op.stringOp, Sem.run_bind, Sem.run_pure, Result.andThen]; rfl) (q57 rfl ⟨rfl, fun _ => rfl⟩)
    | _ => simp [bin] at hb
  | bool =>
    cases τb with
    | bool =>
      have ex := rx.bool
      have ey := ry.bool
      rw [ex, ey] at fin
      simp only [bin] at hb
      split at hb
      case isFalse => cases hb
      rename_i hE
      have hu := (he.ty t .bool hE).bool
      cases op <;> simp only [sv, Option.some.injEq, Prod.mk.injEq, reduceCtorEq, true_and] at hb
      · subst hb
        exact fin _ (by rw [Sem.run_bind, show (eqGuard .eql t x y (.bool a) (.bool b)).run P w = .ok () w by simp [eqGuard]]; exact run_eql_bool w t a b hu) (q57 rfl ⟨rfl, fun _ => rfl⟩)
      · subst hb
        exact fin _ (by rw [Sem.run_bind, show (eqGuard .neq t x y (.bool a) (.bool b)).run P w = .ok () w by simp [eqGuard]]; exact run_neq_bool w t a b hu) (q57 rfl ⟨rfl, fun _ => rfl⟩)
    | _ => simp [bin] at hb
  | st a' =>
    cases τb with
    | st b' =>
      simp only [bin] at hb
      split at hb
      case isFalse => cases hb
      rename_i hba
      subst hba
      split at hb
      case isFalse => cases hb
      rename_i hE
      have ht := he.ty t _ hE
      obtain ⟨fs, u1, u2, u3, u4⟩ := ht.st
      obtain ⟨cx, f, T', t1, e1, _, k1, r1⟩ := rx
      obtain ⟨cy, f', T'', t2, e2, _, k2, r2⟩ := ry
      have hfl : op = .eql ∨ op = .neq := by cases op <;> simp at hb <;> simp
      have key : (Ty.st b').flat = true ∧ (Ty.st b').dp ≤ 10000 := by
        rcases hfl with rfl | rfl
        · simp only at hb; split at hb
          · rename_i hc; simpa [Ty.flat] using hc
          · cases hb
        · simp only at hb; split at hb
          · rename_i hc; simpa [Ty.flat] using hc
          · cases hb
      have hq := quz (P := P) (ξ := ξ) (w := w) (.st b') (.inl t) ht key.1 10000 key.2 r1 k1 r2 k2
      simp only at hq
      have hcond : (b'.flat && decide ((Ty.st b').dp ≤ 10000)) = true := by simpa [Ty.flat] using key
      rcases hfl with rfl | rfl
      · simp only [hcond, if_true, Option.some.injEq, Prod.mk.injEq, true_and] at hb
        subst hb
        refine fin (.bool (bin.eqT (.st b') a b)) ?_ (q57 rfl ⟨rfl, fun _ => rfl⟩)
        rw [e1, e2]
        simp only [mkV] at hq ⊢
        rw [Sem.run_bind, run_eqGuard_agg w .eql t x y _ _ u4]
        simp only [Result.andThen]
        rw [run_eql_struct, hq]
        rfl
      · simp only [hcond, if_true, Option.some.injEq, Prod.mk.injEq, true_and] at hb
        subst hb
        refine fin (.bool !(bin.eqT (.st b') a b)) ?_ (q57 rfl ⟨rfl, fun _ => rfl⟩)
        rw [e1, e2]
        simp only [mkV] at hq ⊢
        rw [Sem.run_bind, run_eqGuard_agg w .neq t x y _ _ u4]
        simp only [Result.andThen]
        rw [run_neq_struct, hq]
        rfl
    | _ => simp [bin] at hb
  | _ => cases τb <;> simp [bin] at hb
end
end Go.Proofs.YtjfkeknnjjlepaaGreatDoor.Rf
end

section
/- Operations: append. Nothing of any program. -/
namespace Go.Proofs.YtjfkeknnjjlepaaGreatDoor.Rf
open Go Go.RowKit
set_option linter.unusedVariables false
set_option linter.unusedSimpArgs false
section
variable {P : Program} {E : q6f} {T0 : Bs} {ξ0 : Im} {w0 : World} {tk : Nat → Bs} {Tf : Bs} {ξ : Im} {w : World} {σ : St} {tm : Array Value}
theorem Rel.flatAny {ξ' : Im} {w' : World} {g : Fl} {T' : Bs} : {τ : Ty} → {f : Fl} → {x : τ.T} → {cs : List Value} → {T : Bs} → Rel ξ w τ f x cs T → f.ok τ = true → τ.flat = true → Rel ξ' w' τ g x cs T'
  | .int _, _, _, _, _, h, r, _ => ⟨h.1, fun _ => h.2 (by simpa [Fl.ok] using r)⟩
  | .bool, _, _, _, _, h, r, _ => ⟨h.1, fun _ => h.2 (by simpa [Fl.ok] using r)⟩
  | .str, _, _, _, _, h, r, _ => ⟨h.1, fun _ => h.2 (by simpa [Fl.ok] using r)⟩
  | .arr _ _, _, _, _, _, h, r, _ => ⟨h.1, fun _ => h.2 (by simpa [Fl.ok] using r)⟩
  | .row e, _, _, _, _, _, _, z => by simp [Ty.flat] at z
  | .pair a b, _, _, _, _, ⟨c1, c2, T1, T2, hc, hl, s1, s2, d, h1, h2⟩, r, z => by
    simp only [Fl.ok, Ty.flat, Bool.and_eq_true] at r z
    exact ⟨c1, c2, Em, Em, hc, hl, Sb.em _, Sb.em _, Dj.em _, h1.flatAny r.1 z.1, h2.flatAny r.2 z.2⟩
  | .st a, _, _, _, _, h, r, z => Rel.flatAny (τ := a) h r z
def seg (cm : List Value) (n i : Nat) : List Value := (cm.drop (i * n)).take n
theorem q6d {cm : List Value} {n i j : Nat} (hj : j < n) : (seg cm n i)[j]? = cm[i * n + j]? := by
  unfold seg
  rw [List.getElem?_take_of_lt hj, List.getElem?_drop]
theorem qbg {cm : List Value} {n i k : Nat} (h : cm.length = k * n) (hi : i < k) : (seg cm n i).length = n := by
  unfold seg
  rw [List.length_take, List.length_drop, h]
  have : (i + 1) * n ≤ k * n := Nat.mul_le_mul_right _ hi
  rw [Nat.add_mul, Nat.one_mul] at this
  omega
theorem Rel.all {e : Ty} {f : Fl} {l : List e.T} {cs : List Value} {T : Bs} (h : Rel ξ w (.row e) f l cs T) (hf : f.ok (.row e) = true) :
    ∃ A cap cm, cs = [.slice A l.length cap] ∧ cm.length = l.length * e.n ∧ (∀ j v, cm[j]? = some v → ∃ a, A = some a ∧ a.spot = none ∧ w.cell? ⟨a.block, a.off + j, none⟩ = some v) ∧
      ∀ i (hi : i < l.length), ∃ g : Fl, ∃ T' : Bs, g.ok e = true ∧ Sb T' T ∧ Rel ξ w e g l[i] (seg cm e.n i) T' ∧ (f = .ro → Rel ξ w e .ro l[i] (seg cm e.n i) Em) := by
  by_cases hl : l = []
  · subst hl
    cases f with
    | gone => simp [Fl.ok] at hf
    | pr _ _ => exact h.elim
    | ro => obtain ⟨A, cap, h1, _⟩ := h; exact ⟨A, cap, [], h1, by simp, fun j v hj => by simp at hj, fun i hi => by simp at hi⟩
    | own g =>
      rcases h with ⟨_, h1⟩ | ⟨a, cap, c, t, fz, Te, h1, _⟩
      · exact ⟨none, 0, [], h1, by simp, fun j v hj => by simp at hj, fun i hi => by simp at hi⟩
      · exact ⟨some a, cap, [], h1, by simp, fun j v hj => by simp at hj, fun i hi => by simp at hi⟩
  · have h0 : 0 < l.length := List.length_pos_iff.2 hl
    obtain ⟨a, cap, _, _, h1, h2, _⟩ := h.elem hf h0
    have el : ∀ i (hi : i < l.length), ∃ c' g, ∃ T' : Bs, c'.length = e.n ∧ CAt w a.block (a.off + i * e.n) c' ∧ Fl.ok e g = true ∧ Sb T' T ∧ Rel ξ w e g l[i] c' T' ∧ (f = .ro → Rel ξ w e .ro l[i] c' Em) := by
      intro i hi
      obtain ⟨a', cap', c', g, k1, k2, k3, k4, k5, k6, k7, k8, _⟩ := h.elem hf hi
      rw [h1] at k1
      simp only [List.cons.injEq, Value.slice.injEq, Option.some.injEq, and_true] at k1
      obtain ⟨rfl, _⟩ := k1
      exact ⟨c', g, T, k3, k4, k6, Sb.refl _, k7, fun z => (k8 z).2⟩
    have cell : ∀ j, j < l.length * e.n → ∃ v, w.cell? ⟨a.block, a.off + j, none⟩ = some v := by
      intro j hj
      have hn := e.n_pos
      have hi : j / e.n < l.length := Nat.div_lt_of_lt_mul (by rwa [Nat.mul_comm])
      obtain ⟨c', _, _, k1, k2, _⟩ := el _ hi
      have hm : j % e.n < c'.length := by rw [k1]; exact Nat.mod_lt _ hn
      have := k2 (j % e.n) _ (List.getElem?_eq_getElem hm)
      have e1 : a.off + j / e.n * e.n + j % e.n = a.off + j := by have := Nat.div_add_mod j e.n; rw [Nat.mul_comm] at this; omega
      rw [e1] at this
      exact ⟨_, this⟩
    let cm : List Value := (List.range (l.length * e.n)).map fun j => (w.cell? ⟨a.block, a.off + j, none⟩).getD undef
    have hcm : ∀ j, j < l.length * e.n → w.cell? ⟨a.block, a.off + j, none⟩ = cm[j]? := by
      intro j hj
      obtain ⟨v, hv⟩ := cell j hj
      simp [cm, hj, hv]
    refine ⟨some a, cap, cm, h1, by simp [cm], fun j v hj => ?_, fun i hi => ?_⟩
    · have hjl : j < l.length * e.n := by have := (List.getElem?_eq_some_iff.1 hj).1; simpa [cm] using this
      exact ⟨a, rfl, h2, (hcm j hjl).trans hj⟩
    · obtain ⟨c', g, T', k1, k2, k3, k4, k5, k6⟩ := el i hi
      have : seg cm e.n i = c' := by
        apply List.ext_getElem?
        intro j
        by_cases hj : j < e.n
        · rw [q6d hj]
          have hl : i * e.n + j < l.length * e.n := by
            have : (i + 1) * e.n ≤ l.length * e.n := Nat.mul_le_mul_right _ hi
            rw [Nat.add_mul, Nat.one_mul] at this
            omega
          rw [← hcm _ hl, List.getElem?_eq_getElem (by rw [k1]; exact hj)]
          have := k2 j _ (List.getElem?_eq_getElem (by rw [k1]; exact hj))
          rwa [Nat.add_assoc] at this
        · have z1 : (seg cm e.n i).length ≤ j := by unfold seg; rw [List.length_take]; omega
          have z2 : c'.length ≤ j := by rw [k1]; omega
          rw [List.getElem?_eq_none z1, List.getElem?_eq_none z2]
      rw [this]
      exact ⟨g, T', k3, k4, k5, k6⟩
theorem Rel.inner {e : Ty} {g : Fl} {l : List e.T} {cs : List Value} {T : Bs} (h : Rel ξ w (.row e) (.own g) l cs T) (hf : g.ok e = true) :
    ∃ T1 T2 : Bs, Sb T1 T ∧ Sb T2 T ∧ Dj T1 T2 ∧ ∀ ξ' : Im, (∀ b, ξ b ≤ ξ' b) → (∀ b, ¬ T1 b → ξ' b = ξ b) → (∀ b c t fz, T1 b → w.heap[b]? = some (.cells c t fz) → c.size ≤ ξ' b) → Rel ξ' w (.row e) (.own .ro) l cs T2 := by
  rcases h with ⟨h1, h2⟩ | ⟨a, cap, c, t, fz, Te, h1, h2, h3, h4, h5, h6, h7, h8, h9, h10, h11⟩
  · exact ⟨Em, Em, Sb.em _, Sb.em _, Dj.em _, fun _ _ _ _ => .inl ⟨h1, h2⟩⟩
  · refine ⟨fun b => ∃ i, Te i b, fun b => b = a.block, fun b ⟨i, hi⟩ => (h9 i).1 b hi, fun b hb => hb ▸ h3, fun b ⟨i, hi⟩ hb => (h9 i).2 (hb ▸ hi), fun ξ' up keep cov => ?_⟩
    refine .inr ⟨a, cap, c, t, fz, fun _ => Em, h1, h2, rfl, h4, h5, h6, h7, by rw [keep _ fun ⟨i, hi⟩ => (h9 i).2 hi]; exact h8, fun i => ⟨Sb.em _, fun x => x⟩, fun _ _ _ => Dj.em _, fun i hi => ?_⟩
    obtain ⟨c', k1, k2, k3⟩ := h11 i hi
    exact ⟨c', k1, k2, k3.freeze up hf fun b c t fz hb => cov b c t fz ⟨i, hb⟩⟩
theorem qj4 {e : Ty} {A : Option Addr} {cap n : Nat} {cm : List Value} (hl : cm.length = n * e.n) (hc : ∀ j v, cm[j]? = some v → ∃ a, A = some a ∧ a.spot = none ∧ w.cell? ⟨a.block, a.off + j, none⟩ = some v) {len : Nat} :
    (Builtin.firstCells e.n n (.slice A len cap)).run P w = .ok cm.toArray w := by
  cases A with
  | none =>
    have : cm = [] := by
      cases cm with
      | nil => rfl
      | cons v cm => obtain ⟨a, ha, _⟩ := hc 0 v rfl; cases ha
    subst this
    simp [Builtin.firstCells]
  | some a =>
    refine run_firstCells_some w e.n n a len cap cm hl fun j v hj => ?_
    obtain ⟨a', ha, hs, hv⟩ := hc j v hj
    cases ha
    have : a.add j = ⟨a.block, a.off + j, none⟩ := by
      obtain ⟨b, o, s⟩ := a
      simp only at hs
      subst hs
      unfold Addr.add; split <;> simp_all
    rw [this]; exact hv
theorem qsd {cl cm r : List Value} {n k i : Nat} (h : cl.length = k * n) (hi : i < k) : seg (cl ++ (cm ++ r)) n i = seg cl n i := by
  have : (i + 1) * n ≤ k * n := Nat.mul_le_mul_right _ hi
  rw [Nat.add_mul, Nat.one_mul] at this
  apply List.ext_getElem?
  intro j
  by_cases hj : j < n
  · rw [q6d hj, q6d hj, List.getElem?_append_left (by omega)]
  · rw [List.getElem?_eq_none (by unfold seg; rw [List.length_take]; omega), List.getElem?_eq_none (by unfold seg; rw [List.length_take]; omega)]
theorem qse {cl cm r : List Value} {n k m i : Nat} (h : cl.length = k * n) (h' : cm.length = m * n) (hi : k ≤ i) (hm : i < k + m) : seg (cl ++ (cm ++ r)) n i = seg cm n (i - k) := by
  obtain ⟨d, rfl⟩ := Nat.exists_eq_add_of_le hi
  have : (d + 1) * n ≤ m * n := Nat.mul_le_mul_right _ (by omega)
  rw [Nat.add_mul, Nat.one_mul] at this
  rw [Nat.add_sub_cancel_left]
  apply List.ext_getElem?
  intro j
  by_cases hj : j < n
  · rw [q6d hj, q6d hj, List.getElem?_append_right (by rw [h, Nat.add_mul]; omega), List.getElem?_append_left (by rw [h, h', Nat.add_mul]; omega), h]
    congr 1
    rw [Nat.add_mul]
    omega
  · rw [List.getElem?_eq_none (by unfold seg; rw [List.length_take]; omega), List.getElem?_eq_none (by unfold seg; rw [List.length_take]; omega)]
theorem Wf.drew {ξ : Im} {w : World} (h : Wf ξ w) : Wf ξ w.drew := h
theorem Fr.drew (U : Bs) (ξ : Im) (w : World) : Fr U ξ w ξ w.drew := ⟨rfl, rfl, rfl, Nat.le_refl _, fun _ _ _ => ⟨rfl, rfl⟩, fun _ _ _ _ h => h, fun _ _ => Nat.le_refl _⟩
theorem qlb {e : Ty} {g : Fl} {l : List e.T} {w : World} {t : TypeId} {cells : Array Value} {cap : Nat} {Te : Nat → Bs} (wf : Wf ξ w) (hcap : l.length ≤ cap) (hsz : cap * e.n ≤ cells.size) (lt : ∀ i b, Te i b → b < w.heap.size) (dj : ∀ i j, i ≠ j → Dj (Te i) (Te j))
    (hel : ∀ i (hi : i < l.length), Rel ξ w e g l[i] (seg cells.toList e.n i) (Te i)) (fz : Nat × Nat) (hfz : ∀ o, o < cells.size → ¬(fz.1 ≤ o ∧ o < fz.2)) :
    Rel ξ (w.alloc (.cells cells t fz)) (.row e) (.own g) l [.slice (some ⟨w.heap.size, 0, none⟩) l.length cap] (fun b => b = w.heap.size ∨ ∃ i, Te i b) := by
  refine .inr ⟨⟨w.heap.size, 0, none⟩, cap, cells, t, fz, Te, rfl, rfl, .inl rfl, qby _ _, hfz, hcap, by simpa using hsz, by rw [wf _ (Nat.le_refl _)]; exact Nat.zero_le _, fun i => ⟨fun b hb => .inr ⟨i, hb⟩, fun hb => Nat.lt_irrefl _ (lt i _ hb)⟩, dj, fun i hi => ?_⟩
  have h1 : (i + 1) * e.n ≤ cap * e.n := Nat.mul_le_mul_right _ (by omega)
  rw [Nat.add_mul, Nat.one_mul] at h1
  have hk := (hel i hi).len
  refine ⟨seg cells.toList e.n i, hk, fun j v hj => ?_, (hel i hi).keep ((Fr.alloc Em ξ w _).keep wf (lt i) (Dj.em' _))⟩
  have hjn : j < e.n := by rw [← hk]; exact (List.getElem?_eq_some_iff.1 hj).1
  rw [q6d hjn] at hj
  rw [cell_of (qby _ _), Nat.zero_add]
  simpa using hj
theorem qj5 {t te ty argT2 : TypeId} {e : Ty} {dd : TypeDesc} {A : Option Addr} {n cap k : Nat} {x : Value} {cm : List Value} (ht : P.underlying t = some (.slice te)) (hte : tok P e te) (hd : P.underlying argT2 = some dd) (hdd : dd = .string ∨ ∃ y, dd = .slice y)
    (hlen : (Builtin.lenOf x).run P w = .ok k w) (hfirst : (Builtin.firstCells e.n k x).run P w = .ok cm.toArray w) (hroom : n + k ≤ cap) :
    (Builtin.append_ #[t, argT2] ty #[.slice A n cap, x]).run P w = match A with
      | none => .ok (.slice none (n + k) cap) w
      | some a => ((storeCells (a.add (n * e.n)) cm).run P w).andThen fun _ w => .ok (.slice (some a) (n + k) cap) w := by
  obtain ⟨i, z, hi, hisz, _, hiz, _, _⟩ := hte.info
  rw [← hisz] at hfirst ⊢
  rcases hdd with rfl | ⟨y, rfl⟩
  all_goals
    cases A with
    | none => simp [Builtin.append_, run_underlying ht, run_underlying hd, sizeOf, typeInfo, hi, hlen, hroom, hfirst]
    | some a => simp [Builtin.append_, run_underlying ht, run_underlying hd, sizeOf, typeInfo, hi, hlen, hroom, hfirst]
theorem qj6 {t te ty argT2 : TypeId} {e : Ty} {dd : TypeDesc} {A : Option Addr} {n cap k : Nat} {x : Value} {cl cm : List Value} (ht : P.underlying t = some (.slice te)) (hte : tok P e te) (hd : P.underlying argT2 = some dd) (hdd : dd = .string ∨ ∃ y, dd = .slice y)
    (hlen : (Builtin.lenOf x).run P w = .ok k w) (hold : (Builtin.firstCells e.n n (.slice A n cap)).run P w.drew = .ok cl.toArray w.drew) (hfirst : (Builtin.firstCells e.n k x).run P w.drew = .ok cm.toArray w.drew) (hg : cap < n + k) (hb : (n + k) * e.by ≤ q1m) :
    ∃ c2 : Nat, ∃ rest : Array Value, n + k ≤ c2 ∧ rest.size = (c2 - (n + k)) * e.n ∧ (Builtin.append_ #[t, argT2] ty #[.slice A n cap, x]).run P w = .ok (.slice (some ⟨w.heap.size, 0, none⟩) (n + k) c2) (w.drew.alloc (.cells (cl ++ (cm ++ rest.toList)).toArray te)) := by
  obtain ⟨i, z, hi, hisz, ⟨hi0, hiby⟩, hiz, hz1, hz2⟩ := hte.info
  have hzs : z.cells.size = e.n := by
    have := (Rel.zero (ξ := fun _ => 0) (w := default) hz1).len
    simpa using this
  have hby : (n + k) * i.bytes ≤ 140737488355328 := Nat.le_trans (Nat.mul_le_mul_left _ hiby) hb
  have hfit := growslice_fits hg hby
  have hn : ¬ (n + k ≤ cap) := by omega
  have h48' : ¬ (281474976710656 < Builtin.nextslicecap (n + k) cap * i.bytes) := by omega
  have h63 : ¬ ((9223372036854775807 : Int) < ((n : Int) + (k : Int)) ∧ i.bytes = 0) := by omega
  refine ⟨grownCap w (n + k) cap te, Builtin.zeroCells z.cells (grownCap w (n + k) cap te - (n + k)), ?_, ?_, ?_⟩
  · unfold grownCap; simp [Question.cut]
  · rw [size_zeroCells, hzs]
  · rw [← hisz] at hfirst hold
    rcases hdd with rfl | ⟨y, rfl⟩
    all_goals
      simp [Builtin.append_, run_underlying ht, run_underlying hd, sizeOf, typeInfo, zeroValue, hi, hiz, hlen, hn, h63, h48', Question.forced, hfirst, hold, newRow, grownCap]
      congr 2
      apply Array.ext'
      simp
theorem Wf.of_size {ξ : Im} {w w' : World} (h : Wf ξ w) (hs : w.heap.size ≤ w'.heap.size) : Wf ξ w' := fun b hb => h b (Nat.le_trans hs hb)
theorem qlc {t te ty argT2 : TypeId} {e : Ty} {g : Fl} {l m : List e.T} {s x : Value} {Tb T2 : Bs} {Te2 : Nat → Bs} {cm : List Value} {dd : TypeDesc} (ht : P.underlying t = some (.slice te)) (hte : tok P e te) (hd : P.underlying argT2 = some dd) (hdd : dd = .string ∨ ∃ y, dd = .slice y)
    (wf : Wf ξ w) (ltb : ∀ b, Tb b → b < w.heap.size) (lt2 : ∀ b, T2 b → b < w.heap.size) (hl : Rel ξ w (.row e) (.own g) l [s] Tb) (hgo : g.ok e = true)
    (hlen : (Builtin.lenOf x).run P w = .ok m.length w) (hcm : cm.length = m.length * e.n) (hfirst : ∀ w', w'.heap = w.heap → (Builtin.firstCells e.n m.length x).run P w' = .ok cm.toArray w') (h1 : ∀ v ∈ cm, v.oneCell' = true)
    (hel : ∀ i (hi : i < m.length), Rel ξ w e g m[i] (seg cm e.n i) (Te2 i)) (s2 : ∀ i, Sb (Te2 i) T2) (d2 : ∀ i j, i ≠ j → Dj (Te2 i) (Te2 j)) (dj : Dj Tb T2) (hb : (l.length + m.length) * e.by ≤ q1m) :
    ∃ v w', ∃ T' : Bs, (Builtin.append_ #[t, argT2] ty #[s, x]).run P w = .ok v w' ∧ Fr Tb ξ w ξ w' ∧ Wf ξ w' ∧ Rel ξ w' (.row e) (.own g) (l ++ m) [v] T' ∧ ∀ b, T' b → (Tb b ∨ T2 b ∨ w.heap.size ≤ b) ∧ b < w'.heap.size := by
  obtain ⟨A, cap, cl, hs, hcl, hclc, hlel⟩ := hl.all (by simpa [Fl.ok] using hgo)
  simp only [List.cons.injEq, and_true] at hs
  subst hs
  by_cases hroom : l.length + m.length ≤ cap
  · have hrun := qj5 (ty := ty) (A := A) (n := l.length) (cap := cap) ht hte hd hdd hlen (hfirst w rfl) hroom
    rcases hl with ⟨hl0, hl1⟩ | ⟨a, cap', c, t', fz, Te, hl1, h2, h3, h4, h5, h6, h7, h8, h9, h10, h11⟩
    · subst hl0
      simp only [List.cons.injEq, Value.slice.injEq, and_true] at hl1
      obtain ⟨rfl, _, rfl⟩ := hl1
      have hm0 : m = [] := by simpa using hroom
      subst hm0
      exact ⟨_, w, Em, hrun, Fr.refl _ _ _, wf, .inl ⟨rfl, by simp⟩, fun b hb => hb.elim⟩
    · simp only [List.cons.injEq, Value.slice.injEq, and_true] at hl1
      obtain ⟨rfl, _, rfl⟩ := hl1
      have hadd : a.add (l.length * e.n) = ⟨a.block, a.off + l.length * e.n, none⟩ := by
        obtain ⟨b, o, s⟩ := a
        simp only at h2
        subst h2
        unfold Addr.add; split <;> simp_all
      have hmul : (l.length + m.length) * e.n ≤ cap * e.n := Nat.mul_le_mul_right _ hroom
      rw [Nat.add_mul] at hmul
      obtain ⟨w', k1, k2⟩ := q7b (P := P) (b := a.block) (o := a.off + l.length * e.n) cm 0 h4 h5 (by omega) h1
      simp only [Nat.add_zero] at k2
      simp only [hadd, k1, Result.andThen] at hrun
      have hx : ξ a.block ≤ a.off + l.length * e.n := by omega
      have F := k2.fr hx
      obtain ⟨c2, q1, q2, q3, q4⟩ := k2.at_ _ _ _ h4
      have hnT2 : ¬ T2 a.block := fun hx => dj _ h3 hx
      refine ⟨_, w', Un Tb T2, hrun, ⟨F.os, F.tape, F.output, F.size, fun b hb hn => F.blk b hb fun e => hn (e ▸ h3), F.imm, F.up⟩, wf.of_size (Nat.le_of_eq k2.size.symm), ?_, fun b hb => ⟨hb.elim .inl fun x => .inr (.inl x), by rw [k2.size]; exact hb.elim (ltb b) (lt2 b)⟩⟩
      refine .inr ⟨a, cap, c2, t', fz, fun i => if i < l.length then Te i else Te2 (i - l.length), ?_, h2, .inl h3, q1, by rw [q2]; exact h5, by simpa using hroom, by rw [q2]; exact h7, h8, ?_, ?_, ?_⟩
      · simp
      · intro i
        by_cases hi : i < l.length
        · simp only [hi, if_true]; exact ⟨(h9 i).1.trans (Sb.l _ _), (h9 i).2⟩
        · simp only [hi, if_false]; exact ⟨(s2 _).trans (Sb.r _ _), fun hx => hnT2 (s2 _ _ hx)⟩
      · intro i j hij
        by_cases hi : i < l.length
        · by_cases hj : j < l.length
          · simp only [hi, hj, if_true]; exact h10 i j hij
          · simp only [hi, hj, if_true, if_false]; exact dj.sub (h9 i).1 (s2 _)
        · by_cases hj : j < l.length
          · simp only [hi, hj, if_true, if_false]; exact Dj.symm (dj.sub (h9 j).1 (s2 _))
          · simp only [hi, hj, if_false]; exact d2 _ _ (by omega)
      · intro i hi
        simp only [List.length_append] at hi
        by_cases hil : i < l.length
        · obtain ⟨c', r1, r2, r3⟩ := h11 i hil
          have hle : (i + 1) * e.n ≤ l.length * e.n := Nat.mul_le_mul_right _ hil
          rw [Nat.add_mul, Nat.one_mul] at hle
          refine ⟨c', r1, k2.cat_oth r2 (.inr (.inl (by omega))), ?_⟩
          simp only [hil, if_true, List.getElem_append_left hil]
          exact r3.keep (k2.keep (fun hx => (h9 i).2 hx) hx)
        · have hj : i - l.length < m.length := by omega
          have hr := hel (i - l.length) hj
          have hcat := k2.cat h4
          refine ⟨seg cm e.n (i - l.length), qbg hcm hj, fun j v hv => ?_, ?_⟩
          · have hjn : j < e.n := by
              have := (List.getElem?_eq_some_iff.1 hv).1
              rwa [qbg hcm hj] at this
            rw [q6d hjn] at hv
            have := hcat _ v hv
            rw [show a.off + l.length * e.n + ((i - l.length) * e.n + j) = a.off + i * e.n + j by rw [show i = (i - l.length) + l.length by omega, Nat.add_mul]; simp; omega] at this
            exact this
          · simp only [hil, if_false, List.getElem_append_right (Nat.le_of_not_lt hil)]
            exact hr.keep (k2.keep (fun hx => hnT2 (s2 _ _ hx)) hx)
  · have hold : (Builtin.firstCells e.n l.length (.slice A l.length cap)).run P w.drew = .ok cl.toArray w.drew := qj4 (w := w.drew) hcl hclc
    obtain ⟨c2, rest, r1, r2, r3⟩ := qj6 (ty := ty) (argT2 := argT2) ht hte hd hdd hlen hold (hfirst w.drew rfl) (by omega) hb
    have tkl : ∃ Te : Nat → Bs, (∀ i, Sb (Te i) Tb) ∧ (∀ i j, i ≠ j → Dj (Te i) (Te j)) ∧ ∀ i (hi : i < l.length), Rel ξ w e g l[i] (seg cl e.n i) (Te i) := by
      rcases hl with ⟨hl0, _⟩ | ⟨a, cap', c, t', fz, Te, hl1, h2, h3, h4, h5, h6, h7, h8, h9, h10, h11⟩
      · subst hl0; exact ⟨fun _ => Em, fun _ => Sb.em _, fun _ _ _ => Dj.em _, fun i hi => by simp at hi⟩
      · simp only [List.cons.injEq, Value.slice.injEq, and_true] at hl1
        obtain ⟨rfl, _, rfl⟩ := hl1
        refine ⟨Te, fun i => (h9 i).1, h10, fun i hi => ?_⟩
        obtain ⟨c', q1, q2, q3⟩ := h11 i hi
        have hq : CAt w a.block (a.off + i * e.n) (seg cl e.n i) := by
          intro j v hv
          have hjn : j < e.n := by
            have := (List.getElem?_eq_some_iff.1 hv).1
            rwa [qbg hcl hi] at this
          rw [q6d hjn] at hv
          obtain ⟨a', e1, _, e2⟩ := hclc _ v hv
          cases e1
          rwa [Nat.add_assoc]
        rw [← q2.eq hq (by rw [q1, qbg hcl hi])]
        exact q3
    obtain ⟨Te, hTe, hTd, hTr⟩ := tkl
    let Te3 : Nat → Bs := fun i => if i < l.length then Te i else Te2 (i - l.length)
    have hTe3 : ∀ i b, Te3 i b → Tb b ∨ T2 b := by
      intro i b hb
      by_cases hi : i < l.length
      · simp only [Te3, hi, if_true] at hb; exact .inl (hTe i b hb)
      · simp only [Te3, hi, if_false] at hb; exact .inr (s2 _ b hb)
    have lt3 : ∀ i b, Te3 i b → b < w.heap.size := fun i b hb => (hTe3 i b hb).elim (ltb b) (lt2 b)
    have hsz : (cl ++ (cm ++ rest.toList)).length = c2 * e.n := by
      simp only [List.length_append, hcl, hcm, Array.length_toList, r2]
      rw [← Nat.add_assoc, ← Nat.add_mul, ← Nat.add_mul]
      congr 1
      omega
    have hrow := qlb (ξ := ξ) (w := w.drew) (t := te) (cells := (cl ++ (cm ++ rest.toList)).toArray) (cap := c2) (l := l ++ m) (g := g) (Te := Te3) wf (by simpa using r1) (by simp only [List.size_toArray, hsz]; exact Nat.le_refl _) lt3 (by
      intro i j hij
      by_cases hi : i < l.length
      · by_cases hj : j < l.length
        · simp only [Te3, hi, hj, if_true]; exact hTd i j hij
        · simp only [Te3, hi, hj, if_true, if_false]; exact dj.sub (hTe i) (s2 _)
      · by_cases hj : j < l.length
        · simp only [Te3, hi, hj, if_true, if_false]; exact Dj.symm (dj.sub (hTe j) (s2 _))
        · simp only [Te3, hi, hj, if_false]; exact d2 _ _ (by omega)) (by
      intro i hi
      simp only [List.length_append] at hi
      by_cases hil : i < l.length
      · simp only [Te3, hil, if_true, List.getElem_append_left hil]
        rw [qsd hcl hil]
        exact (hTr i hil).keep ((Fr.drew Em ξ w).keep wf (fun b hb => ltb b (hTe i b hb)) (Dj.em' _))
      · have hj : i - l.length < m.length := by omega
        simp only [Te3, hil, if_false, List.getElem_append_right (Nat.le_of_not_lt hil)]
        rw [qse hcl hcm (by omega) (by omega)]
        exact (hel _ hj).keep ((Fr.drew Em ξ w).keep wf (fun b hb => lt2 b (s2 _ b hb)) (Dj.em' _))) (0, 0) (by intro o _; simp)
    rw [List.length_append] at hrow
    refine ⟨_, _, _, r3, ?_, ?_, hrow, ?_⟩
    · have F := (Fr.drew Tb ξ w).trans (Fr.alloc Em ξ w.drew (.cells (cl ++ (cm ++ rest.toList)).toArray te)) (fun b hb => hb.elim)
      exact F
    · exact Wf.alloc (w := w.drew) wf _
    · intro b hb
      rw [size_alloc]
      rcases hb with hb | ⟨i, hb⟩
      · subst hb; exact ⟨.inr (.inr (Nat.le_refl _)), Nat.lt_succ_self _⟩
      · exact ⟨(hTe3 i b hb).imp id .inl, Nat.lt_succ_of_lt (lt3 i b hb)⟩
end
end Go.Proofs.YtjfkeknnjjlepaaGreatDoor.Rf
end
