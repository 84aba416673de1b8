/- Values, flags, states; how a function's text is run over plain values. Nothing of any program. -/
import Derived.RowKit3
import Derived.KernelRfl
namespace Go.Proofs.Ytabindnaedchgaa.Rf
open Go Go.RowKit
set_option linter.unusedVariables false

inductive Ty where
  | int (k : IntKind) | bool | str | row (e : Ty) | pair (a b : Ty) | st (a : Ty)
  deriving DecidableEq
@[reducible] def Ty.T : Ty → Type
  | .int _ => Int | .bool => Bool | .str => ByteArray | .row e => List e.T | .pair a b => a.T × b.T | .st a => a.T
def Ty.n : Ty → Nat
  | .int _ => 1 | .bool => 1 | .str => 1 | .row _ => 1 | .pair a b => a.n + b.n | .st a => a.n
def Ty.z : (τ : Ty) → τ.T
  | .int _ => (0 : Int) | .bool => false | .str => ByteArray.empty | .row _ => [] | .pair a b => (a.z, b.z) | .st a => a.z
def Ty.dp : Ty → Nat
  | .pair a b => max a.dp b.dp
  | .st a => a.dp + 1
  | _ => 1
/-- bytes, at most -/
def Ty.by : Ty → Nat
  | .int k => k.bits / 8
  | .bool => 1
  | .str => 16
  | .row _ => 24
  | .pair a b => (a.by + 7) / 8 * 8 + b.by
  | .st a => (a.by + 7) / 8 * 8
def Ty.isSt : Ty → Bool
  | .st _ => true
  | _ => false
/-- no rows in it -/
def Ty.flat : Ty → Bool
  | .int _ => true | .bool => true | .str => true | .row _ => false | .pair a b => a.flat && b.flat | .st a => a.flat

inductive Fl where
  | ro | gone | own (f : Fl) | pr (a b : Fl)
  deriving DecidableEq
def Fl.l : Fl → Fl
  | .pr a _ => a | .ro => .ro | _ => .gone
def Fl.r : Fl → Fl
  | .pr _ b => b | .ro => .ro | _ => .gone
def Fl.isRo : Ty → Fl → Bool
  | .pair a b, f => isRo a f.l && isRo b f.r
  | .st a, f => isRo a f
  | .row _, f => decide (f = .ro)
  | _, f => !decide (f = .gone)
def Fl.ok : Ty → Fl → Bool
  | .pair a b, f => ok a f.l && ok b f.r
  | .st a, f => ok a f
  | .row e, .own g => ok e g
  | _, f => !decide (f = .gone)
/-- all rows its own, and theirs -/
def Ty.full : Ty → Fl
  | .pair a b => if a.flat && b.flat then .ro else .pr a.full b.full
  | .st a => a.full
  | .row e => .own e.full
  | _ => .ro

inductive PE where
  | fst | snd | idx (i : Nat)
  deriving DecidableEq
abbrev Path := List PE
def Path.fields : Path → Bool
  | [] => true | .idx _ :: _ => false | _ :: p => Path.fields p

abbrev Sv := (τ : Ty) × τ.T
def getP : (τ : Ty) → τ.T → Path → Option Sv
  | .pair a b, x, p => match p with
    | [] => some ⟨.pair a b, x⟩
    | .fst :: p => getP a x.1 p
    | .snd :: p => getP b x.2 p
    | .idx _ :: _ => none
  | .st a, x, p => match p with
    | [] => some ⟨.st a, x⟩
    | p => getP a x p
  | .row e, x, p => match p with
    | [] => some ⟨.row e, x⟩
    | .idx i :: p => getP e (x.getD i e.z) p
    | _ => none
  | τ, x, p => match p with
    | [] => some ⟨τ, x⟩
    | _ => none
def cast? (τ : Ty) (s : Sv) : Option τ.T := if h : s.1 = τ then some (h ▸ s.2) else none
def setP : (τ : Ty) → τ.T → Path → Sv → Option τ.T
  | .pair a b, x, p, s => match p with
    | [] => cast? (.pair a b) s
    | .fst :: p => match setP a x.1 p s with | some y => some (y, x.2) | none => none
    | .snd :: p => match setP b x.2 p s with | some y => some (x.1, y) | none => none
    | .idx _ :: _ => none
  | .st a, x, p, s => match p with
    | [] => cast? (.st a) s
    | p => setP a x p s
  | .row e, x, p, s => match p with
    | [] => cast? (.row e) s
    | .idx i :: p => match setP e (x.getD i e.z) p s with | some y => some (x.set i y) | none => none
    | _ => none
  | τ, x, p, s => match p with
    | [] => cast? τ s
    | _ => none
def Fl.at : Fl → Path → Fl
  | f, [] => f
  | f, .fst :: p => f.l.at p
  | f, .snd :: p => f.r.at p
  | .own g, .idx _ :: p => g.at p
  | .ro, .idx _ :: _ => .ro
  | _, .idx _ :: _ => .gone
def Fl.put : Fl → Path → Fl → Fl
  | _, [], g => g
  | f, .fst :: p, g => .pr (f.l.put p g) f.r
  | f, .snd :: p, g => .pr f.l (f.r.put p g)
  | f, .idx _ :: _, _ => f

/-- the rows on the path are its own -/
def ownP : Fl → Path → Bool
  | f, [] => true
  | f, .fst :: p => ownP f.l p
  | f, .snd :: p => ownP f.r p
  | .own g, .idx _ :: p => ownP g p
  | _, .idx _ :: _ => false

inductive AV where
  | no | un
  | d (τ : Ty) (x : τ.T) (f : Fl)
  | vw (τ : Ty) (x : τ.T) (h : Tmp) (p : Option Path) (g v : Nat)
  | box (τ : Ty) (x : τ.T) (f : Fl) (src : Option Tmp) -- src some: its own cells are never turned
  | ref (h : Tmp) (p : Path) (g v : Nat)
  | rp (τ : Ty) (x : τ.T) (h : Option (Tmp × Nat × Nat))
  | tup (l : List AV)
  | fn (f : FuncId)
structure Slot where
  g : Nat
  v : Nat
  a : AV
abbrev St := List Slot
def St.slot (σ : St) (t : Tmp) : Slot := σ.getD t ⟨0, 0, .no⟩
def St.av (σ : St) (t : Tmp) : AV := (σ.slot t).a
def St.valid (σ : St) (h : Tmp) (g v : Nat) : Bool := let s := σ.slot h; s.g == g && s.v == v
def refOk (σ : St) (h : Tmp) (p : Path) (g v : Nat) : Bool := (σ.slot h).g == g && (p.fields || (σ.slot h).v == v)
/-- a new thing in slot t -/
def St.put (σ : St) (t : Tmp) (a : AV) : St := σ.set t ⟨(σ.slot t).g + 1, 0, a⟩
def St.putO (σ : St) (t : Option Tmp) (a : AV) : St := match t with | some t => σ.put t a | none => σ
/-- what slot t holds turns in itself -/
def St.turn (σ : St) (t : Tmp) (a : AV) : St := let s := σ.slot t; σ.set t ⟨s.g, s.v + 1, a⟩
/-- the same thing better known -/
def St.know (σ : St) (t : Tmp) (a : AV) : St := let s := σ.slot t; σ.set t ⟨s.g, s.v, a⟩

@[irreducible] def ifb {α : Type} (b : Bool) (x y : Option α) : Option α := if b = true then x else y

def sv (τ : Ty) (x : τ.T) : Sv := ⟨τ, x⟩
/-- what an operand reads as -/
def rdv (σ : St) : Operand → Option Sv
  | .tmp t => match σ.av t with
    | .d τ x f => if f.ok τ then some ⟨τ, x⟩ else none
    | .vw τ x h _ g v => if σ.valid h g v then some ⟨τ, x⟩ else none
    | _ => none
  | .const (.int k n) => some (sv (.int k) n)
  | .const (.bool b) => some (sv .bool b)
  | .const (.string s) => some (sv .str s)
  | _ => none
/-- may be copied freely -/
def AV.fixd : AV → Bool
  | .d _ _ f => decide (f = .ro)
  | .un => true
  | _ => false
abbrev TyOf := List (TypeId × Ty)
def TyOf.of (E : TyOf) (t : TypeId) : Option Ty := E.lookup t
def rdT (E : TyOf) (σ : St) (t : TypeId) : Operand → Option Sv
  | .const (.slice none 0 0) => match E.of t with | some (.row e) => some (sv (.row e) []) | _ => none
  | o => rdv σ o
/-- a copy that takes nothing -/
def copy (E : TyOf) (σ : St) (t : TypeId) : Operand → AV
  | .tmp u => let s := σ.slot u; match s.a with
    | .d τ x f => if f.isRo τ then .d τ x .ro else if f.ok τ then .vw τ x u (some []) s.g s.v else .no
    | .box _ _ _ _ => .ref u [] s.g 0
    | .tup l => if l.all AV.fixd then .tup l else .no
    | a => a
  | .func f => .fn f
  | .const (.slice none 0 0) => match E.of t with
    | some (.row e) => .d (.row e) [] (.own e.full)
    | _ => .no
  | o => match rdv σ o with
    | some ⟨τ, x⟩ => .d τ x .ro
    | none => .no
/-- the thing itself: who had it has it no more -/
def take (E : TyOf) (σ : St) (t : TypeId) : Operand → Option (AV × St)
  | .tmp u => match σ.av u with
    | .d τ x f => if f.isRo τ then some (.d τ x .ro, σ) else some (.d τ x f, σ.put u .no)
    | .vw τ x h p g v => if σ.valid h g v then match p with
        | some p => if p.fields then match σ.av h with
            | .d τ' x' f' => some (.d τ x (f'.at p), σ.turn h (.d τ' x' (f'.put p .gone)))
            | .box τ' x' f' s => some (.d τ x (f'.at p), σ.turn h (.box τ' x' (f'.put p .gone) s))
            | _ => none else none
        | none => none else none
    | .box τ x f s => some (.box τ x f s, σ.put u .no)
    | .tup _ => none
    | .no => none
    | a => some (a, σ)
  | o => some (copy E σ t o, σ)
end Go.Proofs.Ytabindnaedchgaa.Rf
