import Derived.Test.YtjfkeknnjjlepaaGreatDoorLClientNewx1
import Derived.Test.YtjfkeknnjjlepaaGreatDoorKz2
import Derived.Laws.BitsLemmas
import Derived.Test.YtjfkeknnjjlepaaGreatDoorRows
import Derived.Test.YtjfkeknnjjlepaaGreatDoorCards
import Derived.Test.YtjfkeknnjjlepaaGreatDoorTie
import Derived.WalkKit
import Derived.ProofKit
import Derived.OpenShut
import Derived.ShutString
import Derived.ChangeOld
import Derived.Below
import Derived.Carry
import Derived.SizedLaws
import Derived.Deep.DeepHandedRow
import Derived.Lib.LaidTab
import Derived.Lay

section
namespace Go.Proofs.YtjfkeknnjjlepaaGreatDoor.Rf
open Go Go.RowKit
set_option linter.unusedVariables false
noncomputable section
def q18.C (k : Nat) : CEs := []
abbrev q18.ps : List Par := [⟨t39, .rd⟩, ⟨t39, .rd⟩]
abbrev q18.rs : List Res := [⟨.bool, .ro, false⟩]
def q18.H : q4u := [(4, [(2, .ro), (3, .ro), (5, .ro)]), (9, [(2, .ro), (3, .ro), (6, .ro)])]
def q18.F := q4v E q18.C q18.H Tryz.f32 q18.ps q18.rs
def q18.L4 (k k1 : Nat) (x2 : Book) (x3 : Book) (x5 : Int) : Option (Bool) := atL E q18.C q18.H Tryz.f32 q18.ps q18.rs [true, true, false, true, true] k [] k1 (sh 59 [(2, .box t39 x2 .ro none), (3, .box t39 x3 .ro none), (5, .d (.int .i64) x5 .ro)])
def q18.L9 (k k1 : Nat) (x2 : Book) (x3 : Book) (x6 : Int) : Option (Bool) := atL E q18.C q18.H Tryz.f32 q18.ps q18.rs [true, true, true, false, true, true] k [] k1 (sh 59 [(2, .box t39 x2 .ro none), (3, .box t39 x3 .ro none), (6, .d (.int .i64) x6 .ro)])
def q18.f (k : Nat) (x0 : Book) (x1 : Book) : Option (Bool) := q18.F k (x0, x1)
theorem q18.f_eq (k : Nat) (x0 : Book) (x1 : Book) : q18.f k x0 x1 = ifb ((x0.1.length : Int) != (x1.1.length : Int)) (some false) (ifb ((x0.2.length : Int) != (x1.2.length : Int)) (some false) (q18.L4 k k x0 x1 (0 : Int))) := by kernel_rfl
theorem q18.L4_eq (k k1 : Nat) (x2 : Book) (x3 : Book) (x5 : Int) : q18.L4 k (k1 + 1) x2 x3 x5 = ifb (decide (x5 < (x2.1.length : Int))) (ifb (decide (0 ≤ x5) && decide (x5 < (x2.1.length : Int))) (ifb (decide (0 ≤ x5) && decide (x5 < (x3.1.length : Int))) (ifb (!((((x2.1.getD x5.toNat zA).1).toList == ((x3.1.getD x5.toNat zA).1).toList) && ((((x2.1.getD x5.toNat zA).2).1 == ((x3.1.getD x5.toNat zA).2).1) && ((((((x2.1.getD x5.toNat zA).2).2).1).toList == ((((x3.1.getD x5.toNat zA).2).2).1).toList) && (((((((x2.1.getD x5.toNat zA).2).2).2).1).toList == (((((x3.1.getD x5.toNat zA).2).2).2).1).toList) && ((((((x2.1.getD x5.toNat zA).2).2).2).2).toList == (((((x3.1.getD x5.toNat zA).2).2).2).2).toList)))))) (some false) (q18.L4 k k1 x2 x3 (w64 (x5 + 1)))) (none)) (none)) (q18.L9 k k x2 x3 (0 : Int)) := by kernel_rfl
theorem q18.L9_eq (k k1 : Nat) (x2 : Book) (x3 : Book) (x6 : Int) : q18.L9 k (k1 + 1) x2 x3 x6 = ifb (decide (x6 < (x2.2.length : Int))) (ifb (decide (0 ≤ x6) && decide (x6 < (x2.2.length : Int))) (ifb (decide (0 ≤ x6) && decide (x6 < (x3.2.length : Int))) (ifb (!((((x2.2.getD x6.toNat zE).1).toList == ((x3.2.getD x6.toNat zE).1).toList) && (((x2.2.getD x6.toNat zE).2).toList == ((x3.2.getD x6.toNat zE).2).toList))) (some false) (q18.L9 k k1 x2 x3 (w64 (x6 + 1)))) (none)) (none)) (some true) := by kernel_rfl
abbrev q18.e (k : Nat) : FuncId × CE := (32, ⟨q18.ps, q18.rs, q18.F k⟩)
theorem q18.q (k : Nat) : Qs (q18.e k) := qq (C := q18.C) (fun k => .nil) k
end
end Go.Proofs.YtjfkeknnjjlepaaGreatDoor.Rf
end

section
namespace Go.Proofs.YtjfkeknnjjlepaaGreatDoor.Rf
open Go Go.RowKit
set_option linter.unusedVariables false
noncomputable section
def q1l.C (k : Nat) : CEs := []
abbrev q1l.ps : List Par := [⟨.str, .rd⟩, ⟨(.int .i64), .rd⟩]
abbrev q1l.rs : List Res := [⟨.str, .ro, false⟩]
def q1l.H : q4u := [(2, [(0, .ro), (1, .ro), (5, .ro)]), (5, [(0, .ro), (1, .ro), (5, .ro)])]
def q1l.F := q4v E q1l.C q1l.H Tryz.f100 q1l.ps q1l.rs
def q1l.L2 (k k1 : Nat) (x0 : ByteArray) (x1 : Int) (x5 : ByteArray) : Option (ByteArray) := atL E q1l.C q1l.H Tryz.f100 q1l.ps q1l.rs [true, true, false, true] k [] k1 (sh 20 [(0, .d .str x0 .ro), (1, .d (.int .i64) x1 .ro), (5, .d .str x5 .ro)])
def q1l.J5 (k k1 k2 : Nat) (x0 : ByteArray) (x1 : Int) (x5 : ByteArray) : Option (ByteArray) := atJ E q1l.C q1l.H Tryz.f100 q1l.ps q1l.rs [true, true, false, true, true, true, true, true] k [k1] k2 (sh 20 [(0, .d .str x0 .ro), (1, .d (.int .i64) x1 .ro), (5, .d .str x5 .ro)])
def q1l.f (k : Nat) (x0 : ByteArray) (x1 : Int) : Option (ByteArray) := q1l.F k (x0, x1)
theorem q1l.f_eq (k : Nat) (x0 : ByteArray) (x1 : Int) : q1l.f k x0 x1 = q1l.L2 k k x0 x1 bz := by kernel_rfl
theorem q1l.L2_eq (k k1 : Nat) (x0 : ByteArray) (x1 : Int) (x5 : ByteArray) : q1l.L2 k (k1 + 1) x0 x1 x5 = ifb (decide (x1 > 0)) (ifb (decide ((2 : Int) ≠ 0)) (ifb ((x1.tmod (2 : Int)) == (1 : Int)) (ifb (q5x (x5.size + x0.size)) (q1l.J5 k k1 k1 x0 x1 (x5 ++ x0)) (none)) (q1l.J5 k k1 k1 x0 x1 x5)) (none)) (some x5) := by kernel_rfl
theorem q1l.J5_eq (k k1 k2 : Nat) (x0 : ByteArray) (x1 : Int) (x5 : ByteArray) : q1l.J5 k k1 (k2 + 1) x0 x1 x5 = ifb (q5x (x0.size + x0.size)) (ifb (decide ((2 : Int) ≠ 0)) (q1l.L2 k k1 (x0 ++ x0) (w64 (x1.tdiv (2 : Int))) x5) (none)) (none) := by kernel_rfl
abbrev q1l.e (k : Nat) : FuncId × CE := (100, ⟨q1l.ps, q1l.rs, q1l.F k⟩)
theorem q1l.q (k : Nat) : Qs (q1l.e k) := qq (C := q1l.C) (fun k => .nil) k
def q2d.C (k : Nat) : CEs := [q36.e k, q3n.e k, q1l.e k]
abbrev q2d.ps : List Par := [⟨t34, .rd⟩]
abbrev q2d.rs : List Res := [⟨.str, .ro, false⟩]
def q2d.F := q4v E q2d.C [] Tryz.f33 q2d.ps q2d.rs
def q2d.f (k : Nat) (x0 : List Int) : Option (ByteArray) := q2d.F k x0
theorem q2d.f_eq (k : Nat) (x0 : List Int) : q2d.f k x0 = (q36.f k x0).bind fun (r0 : List Int × Int) => (q1l.f k (⟨#[107]⟩ : ByteArray) (65 : Int)).bind fun (r1 : ByteArray) => (q3n.f k r0 [(⟨#[107, 101, 121]⟩ : ByteArray), bz, (⟨#[107]⟩ : ByteArray), r1]).bind fun (r2 : ByteArray × (List Int × Int)) => some r2.1 := by kernel_rfl
abbrev q2d.e (k : Nat) : FuncId × CE := (33, ⟨q2d.ps, q2d.rs, q2d.F k⟩)
theorem q2d.q (k : Nat) : Qs (q2d.e k) := qq (C := q2d.C) (fun k => .c (q36.q k) <| .c (q3n.q k) <| .c (q1l.q k) <| .nil) k
def q3l.C (k : Nat) : CEs := [q3q.e k, q2n.e k]
abbrev q3l.ps : List Par := [⟨.str, .rd⟩]
abbrev q3l.rs : List Res := [⟨t49, (.pr .ro (.pr .ro (.pr .ro (.pr (.pr (.own .ro) (.own .ro)) .ro)))), false⟩]
def q3l.F := q4v E q3l.C [] Tryz.f34 q3l.ps q3l.rs
def q3l.f (k : Nat) (x0 : ByteArray) : Option q0l := q3l.F k x0
theorem q3l.f_eq (k : Nat) (x0 : ByteArray) : q3l.f k x0 = (q3q.f k x0).bind fun (r0 : Bool) => ifb (!r0) (some (bz, false, (0 : Int), (([] : List Aff), ([] : List En)), bz)) ((q2n.f k).bind fun (r1 : Book) => some (x0, true, (0 : Int), r1, bz)) := by kernel_rfl
abbrev q3l.e (k : Nat) : FuncId × CE := (34, ⟨q3l.ps, q3l.rs, q3l.F k⟩)
theorem q3l.q (k : Nat) : Qs (q3l.e k) := qq (C := q3l.C) (fun k => .c (q3q.q k) <| .c (q2n.q k) <| .nil) k
def q3d.C (k : Nat) : CEs := [q3r.e k]
abbrev q3d.ps : List Par := [⟨.str, .rd⟩]
abbrev q3d.rs : List Res := [⟨t49, (.pr .ro (.pr .ro (.pr .ro (.pr (.pr (.own .ro) (.own .ro)) .ro)))), false⟩]
def q3d.F := q4v E q3d.C [] Tryz.f36 q3d.ps q3d.rs
def q3d.f (k : Nat) (x0 : ByteArray) : Option q0l := q3d.F k x0
theorem q3d.f_eq (k : Nat) (x0 : ByteArray) : q3d.f k x0 = (q3r.f k x0).bind fun (r0 : Bool) => ifb (!r0) (some (bz, false, (0 : Int), (([] : List Aff), ([] : List En)), bz)) (some (x0, true, (0 : Int), (([] : List Aff), ([] : List En)), bz)) := by kernel_rfl
abbrev q3d.e (k : Nat) : FuncId × CE := (36, ⟨q3d.ps, q3d.rs, q3d.F k⟩)
theorem q3d.q (k : Nat) : Qs (q3d.e k) := qq (C := q3d.C) (fun k => .c (q3r.q k) <| .nil) k
def q3o.C (k : Nat) : CEs := [q18.e k]
abbrev q3o.ps : List Par := [⟨t49, .rd⟩, ⟨t49, .rd⟩]
abbrev q3o.rs : List Res := [⟨.bool, .ro, false⟩]
def q3o.F := q4v E q3o.C [] Tryz.f35 q3o.ps q3o.rs
def q3o.f (k : Nat) (x0 : q0l) (x1 : q0l) : Option (Bool) := q3o.F k (x0, x1)
theorem q3o.f_eq (k : Nat) (x0 : q0l) (x1 : q0l) : q3o.f k x0 x1 = ifb (x0.1.toList == x1.1.toList) (ifb (x0.2.1 == x1.2.1) (ifb (x0.2.2.1 == x1.2.2.1) ((q18.f k x0.2.2.2.1 x1.2.2.2.1).bind fun (r0 : Bool) => ifb r0 (some (x0.2.2.2.2.toList == x1.2.2.2.2.toList)) (some false)) (some false)) (some false)) (some false) := by kernel_rfl
abbrev q3o.e (k : Nat) : FuncId × CE := (35, ⟨q3o.ps, q3o.rs, q3o.F k⟩)
theorem q3o.q (k : Nat) : Qs (q3o.e k) := qq (C := q3o.C) (fun k => .c (q18.q k) <| .nil) k
def q14.C (k : Nat) : CEs := [q18.e k, q2d.e k, q3l.e k, q3d.e k, q3o.e k, q25.e k]
abbrev q14.ps : List Par := [⟨t34, .rd⟩]
abbrev q14.rs : List Res := [⟨.bool, .ro, false⟩]
def q14.H : q4u := [(7, [(4, (.pr .ro (.pr .ro (.pr .ro (.pr (.pr (.own .ro) (.own .ro)) .ro)))))])]
def q14.F := q4v E q14.C q14.H Tryz.f6 q14.ps q14.rs
def q14.J7 (k : Nat) (x4 : q0l) : Option (Bool) := atJ E q14.C q14.H Tryz.f6 q14.ps q14.rs [true, true, true, true, true] 0 [] k (sh 48 [(4, .box t49 x4 (.pr .ro (.pr .ro (.pr .ro (.pr (.pr (.own .ro) (.own .ro)) .ro)))) none)])
def q14.f (k : Nat) (x0 : List Int) : Option (Bool) := q14.F k x0
theorem q14.f_eq (k : Nat) (x0 : List Int) : q14.f k x0 = ifb (decide ((x0.length : Int) > (1048576 : Int))) (some true) ((q2d.f k x0).bind fun (r0 : ByteArray) => (q3l.f k r0).bind fun (r1 : q0l) => (q3d.f k r0).bind fun (r2 : q0l) => (q3o.f k r1 r2).bind fun (r3 : Bool) => ifb (!r3) ((q3d.f k r0).bind fun (r4 : q0l) => (q3o.f k r1 r4).bind fun (r5 : Bool) => some r5) (ifb (r1.1.toList == bz.toList) ((q3d.f k r0).bind fun (r6 : q0l) => (q3o.f k r1 r6).bind fun (r7 : Bool) => some r7) (q14.J7 k r1))) := by kernel_rfl
theorem q14.J7_eq (k : Nat) (x4 : q0l) : q14.J7 (k + 1) x4 = (q25.f k x4).bind fun (r8 : Bool) => ifb r8 (ifb x4.2.1 (ifb (x4.2.2.1 == (0 : Int)) (ifb (x4.2.2.2.2.toList == bz.toList) ((q18.f k x4.2.2.2.1 (([] : List Aff), ([] : List En))).bind fun (r9 : Bool) => some r9) (some false)) (some false)) (some false)) (some false) := by kernel_rfl
abbrev q14.e (k : Nat) : FuncId × CE := (6, ⟨q14.ps, q14.rs, q14.F k⟩)
theorem q14.q (k : Nat) : Qs (q14.e k) := qq (C := q14.C) (fun k => .c (q18.q k) <| .c (q2d.q k) <| .c (q3l.q k) <| .c (q3d.q k) <| .c (q3o.q k) <| .c (q25.q k) <| .nil) k
end
end Go.Proofs.YtjfkeknnjjlepaaGreatDoor.Rf
end

section
namespace Go.Proofs.YtjfkeknnjjlepaaGreatDoor.Rf
open Go Go.RowKit
set_option linter.unusedVariables false
set_option linter.unusedSimpArgs false
theorem qw8 (a b : En) : ((a.1.toList == b.1.toList) && (a.2.toList == b.2.toList)) = decide (a = b) := by
  obtain ⟨a1, a2⟩ := a
  obtain ⟨b1, b2⟩ := b
  simp only [q5y]
  rw [Bool.eq_iff_iff]
  simp only [Bool.and_eq_true, decide_eq_true_eq, Prod.mk.injEq]
end Go.Proofs.YtjfkeknnjjlepaaGreatDoor.Rf
end

section
namespace Go.Proofs.YtjfkeknnjjlepaaGreatDoor.Rf
open Go Go.RowKit
set_option linter.unusedVariables false
set_option linter.unusedSimpArgs false
def qm9 (key : ByteArray) : q0l := if qde key then (key, true, 0, zB, bz) else zC
theorem qw9 {key : ByteArray} (h : qde key = true) : UpC (qm9 key) [] := by
  unfold qm9
  rw [if_pos h]
  exact ⟨h, rfl, rfl, rfl, rfl, by simp [q87]⟩
end Go.Proofs.YtjfkeknnjjlepaaGreatDoor.Rf
end

section
namespace Go.Proofs.YtjfkeknnjjlepaaGreatDoor.Rf
open Go Go.RowKit
set_option linter.unusedVariables false
set_option linter.unusedSimpArgs false
theorem qxr (a b : Nat) (ha : a < 2 ^ 62) (hb : b < 2 ^ 62) : 0 ≤ IntKind.i64.wrap ((BitVec.ofInt 64 (a : Int) ^^^ BitVec.ofInt 64 (b : Int)).toNat : Int) := by
  have h2 : (2 : Nat) ^ 62 ≤ 2 ^ 64 := by decide
  have ha' : a % 2 ^ 64 = a := Nat.mod_eq_of_lt (Nat.lt_of_lt_of_le ha h2)
  have hb' : b % 2 ^ 64 = b := Nat.mod_eq_of_lt (Nat.lt_of_lt_of_le hb h2)
  have e1 : (BitVec.ofInt 64 (a : Int)).toNat = a := by rw [BitVec.ofInt_natCast, BitVec.toNat_ofNat]; exact ha'
  have e2 : (BitVec.ofInt 64 (b : Int)).toNat = b := by rw [BitVec.ofInt_natCast, BitVec.toNat_ofNat]; exact hb'
  rw [BitVec.toNat_xor, e1, e2]
  have h3 : a ^^^ b < 4611686018427387904 := Nat.lt_of_lt_of_eq (Nat.xor_lt_two_pow ha hb) (by decide)
  generalize a ^^^ b = X at h3
  rw [q6g (by omega) (by omega)]
  omega
theorem qxs (a b : Int) (ha : 0 ≤ a) (hb : 0 ≤ b) (ha1 : a < 2 ^ 62) (hb1 : b < 2 ^ 62) : 0 ≤ IntKind.i64.wrap ((BitVec.ofInt 64 a ^^^ BitVec.ofInt 64 b).toNat : Int) := by
  obtain ⟨m, rfl⟩ := Int.eq_ofNat_of_zero_le ha
  obtain ⟨n, rfl⟩ := Int.eq_ofNat_of_zero_le hb
  exact qxr m n (by exact_mod_cast ha1) (by exact_mod_cast hb1)
theorem qry (s : List Int) (hs : ∀ b ∈ s, 0 ≤ b ∧ b ≤ 255) : ∃ x, Al (fun k => q36.f k s = some x) ∧ Rd 0 x := by
  by_cases c : (s.length : Int) > 2000
  · refine ⟨((s.take (2000 : Int).toNat).drop (0 : Int).toNat, 0), Al.succ (Al.now fun k => ?_), ⟨fun b hb => hs b (List.mem_of_mem_take (List.mem_of_mem_drop hb)), ?_⟩, Int.le_refl _, Int.le_refl _⟩
    · rw [q36.f_eq, decide_eq_true c, q06, q36.J3_eq]
      rw [decide_eq_true (by omega), decide_eq_true (by omega), decide_eq_true (by omega)]
      simp only [Bool.and_self, q06]
    · simp only [List.length_drop, List.length_take]; omega
  · refine ⟨(s, 0), Al.succ (Al.now fun k => ?_), ⟨hs, show s.length ≤ 2000 by omega⟩, Int.le_refl _, Int.le_refl _⟩
    rw [q36.f_eq, decide_eq_false c, q08, q36.J3_eq]
theorem qwa {m : Int} {x : Rdr} (h : Rd m x) (hm : m ≤ 1000000000) (n : Int) (n1 : 1 ≤ n) (n2 : n ≤ 1000000) : Dr (fun k => q0u.f k x n) (m + 1) fun v => 0 ≤ v ∧ v < n := by
  obtain ⟨hs, hp0, hp1⟩ := h
  have hat := Rd.at (x := x) (m := m) ⟨hs, hp0, hp1⟩
  obtain ⟨s, p⟩ := x
  simp only at hp0 hp1 hat hs
  have w1 : w64 (p + 1) = p + 1 := q6g (by omega) (by omega)
  have w2 : w64 (p + 1 - 1) = p := by rw [show p + 1 - 1 = p by omega]; exact q6g (by omega) (by omega)
  have R : Rd (m + 1) (s, p + 1) := ⟨hs, by omega, by omega⟩
  have c : decide (n < 1) = false := decide_eq_false (by omega)
  have n0 : decide (n ≠ 0) = true := decide_eq_true (by omega)
  by_cases z : s.length = 0
  · refine ⟨0, (s, p + 1), Al.now fun k => ?_, ⟨Int.le_refl _, by omega⟩, R⟩
    show q0u.f k (s, p) n = _
    rw [q0u.f_eq]
    simp only [c, q08, w1, z]
    rw [show (((0 : Nat) : Int) == 0) = true from rfl, q06]
  have z1 : ((s.length : Int) == 0) = false := by rw [beq_eq_false_iff_ne]; omega
  have tm : ∀ x : Int, 0 ≤ x → 0 ≤ Int.tmod x n ∧ Int.tmod x n < n := fun x hx => ⟨Int.tmod_nonneg _ hx, Int.tmod_lt_of_pos _ (by omega)⟩
  by_cases q : p < (s.length : Int)
  · have r0 := hat p.toNat
    have w3 : w64 (s.getD p.toNat 0) = s.getD p.toNat 0 := q6g (by omega) (by omega)
    refine ⟨_, (s, p + 1), Al.now fun k => ?_, tm _ r0.1, R⟩
    show q0u.f k (s, p) n = _
    rw [q0u.f_eq]
    simp only [c, q08, w1, w2, z1, decide_eq_true q, decide_eq_true hp0, Bool.and_self, q06, n0, w3]
  · have hl := hs.2
    have l0 : decide ((s.length : Int) ≠ 0) = true := decide_eq_true (by omega)
    have m1 : 0 ≤ Int.tmod p (s.length : Int) ∧ Int.tmod p (s.length : Int) < (s.length : Int) := ⟨Int.tmod_nonneg _ hp0, Int.tmod_lt_of_pos _ (by omega)⟩
    have w7 : w64 (p * 7) = p * 7 := q6g (by omega) (by omega)
    have w8 : w64 (p * 7 + 3) = p * 7 + 3 := q6g (by omega) (by omega)
    have m2 : 0 ≤ Int.tmod (p * 7 + 3) (s.length : Int) ∧ Int.tmod (p * 7 + 3) (s.length : Int) < (s.length : Int) := ⟨Int.tmod_nonneg _ (by omega), Int.tmod_lt_of_pos _ (by omega)⟩
    generalize hA : Int.tmod p (s.length : Int) = A at m1
    generalize hB : Int.tmod (p * 7 + 3) (s.length : Int) = B at m2
    have ra := hat A.toNat
    have rb := hat B.toNat
    generalize hX : s.getD A.toNat (0 : Int) = X at ra
    generalize hY : s.getD B.toNat (0 : Int) = Y at rb
    have hd : 0 ≤ Int.tdiv p (s.length : Int) ∧ Int.tdiv p (s.length : Int) ≤ p := by
      refine ⟨Int.tdiv_nonneg hp0 (by omega), ?_⟩
      rw [Int.tdiv_eq_ediv_of_nonneg hp0]
      exact Int.ediv_le_self _ hp0
    generalize hD : Int.tdiv p (s.length : Int) = D at hd
    have v1 : w64 X = X := q6g (by omega) (by omega)
    have v2 : w64 (X * 131) = X * 131 := q6g (by omega) (by omega)
    have v3 : w64 Y = Y := q6g (by omega) (by omega)
    have v4 : w64 (Y * 1117) = Y * 1117 := q6g (by omega) (by omega)
    have v5 : w64 (X * 131 + Y * 1117) = X * 131 + Y * 1117 := q6g (by omega) (by omega)
    have v6 : w64 (p * 29) = p * 29 := q6g (by omega) (by omega)
    have v7 : w64 (X * 131 + Y * 1117 + p * 29) = X * 131 + Y * 1117 + p * 29 := q6g (by omega) (by omega)
    have v8 : w64 D = D := q6g (by omega) (by omega)
    have v9 : w64 (D * 53) = D * 53 := q6g (by omega) (by omega)
    have v10 : w64 (X * 131 + Y * 1117 + p * 29 + D * 53) = X * 131 + Y * 1117 + p * 29 + D * 53 := q6g (by omega) (by omega)
    have hS0 : 0 ≤ X * 131 + Y * 1117 + p * 29 + D * 53 ∧ X * 131 + Y * 1117 + p * 29 + D * 53 ≤ 1000000000000 := by omega
    have e0 : ∀ k, q0u.f k (s, p) n = q0u.J8 k (s, p + 1) n (X * 131 + Y * 1117 + p * 29 + D * 53) := by
      intro k
      rw [q0u.f_eq]
      simp only [c, q08, w1, w2, z1, decide_eq_false q, l0, q06, hA, w7, w8, hB, decide_eq_true m1.1, decide_eq_true m1.2, decide_eq_true m2.1, decide_eq_true m2.2, Bool.and_self, hX, hY, hD, v1, v2, v3, v4, v5, v6, v7, v8, v9, v10]
    generalize X * 131 + Y * 1117 + p * 29 + D * 53 = S at e0 hS0
    have hq : 0 ≤ Int.tdiv S 64 ∧ Int.tdiv S 64 ≤ S := by
      refine ⟨Int.tdiv_nonneg hS0.1 (by omega), ?_⟩
      rw [Int.tdiv_eq_ediv_of_nonneg hS0.1]
      exact Int.ediv_le_self _ hS0.1
    have v11 : w64 (Int.tdiv S 64) = Int.tdiv S 64 := q6g (by omega) (by omega)
    have hx := qxs S (Int.tdiv S 64) hS0.1 hq.1 (by omega) (by omega)
    refine ⟨_, (s, p + 1), Al.succ (Al.now fun k => ?_), tm _ hx, R⟩
    show q0u.f _ (s, p) n = _
    rw [e0, q0u.J8_eq]
    simp only [n0, v11, q06, show decide ((64 : Int) ≠ 0) = true from rfl]
theorem qyi {m : Int} {x : Rdr} (h : Rd m x) (hm : m ≤ 1000000000) (l : List ByteArray) (l1 : 1 ≤ l.length) (l2 : l.length ≤ 1000000) : Dr (fun k => q3n.f k x l) (m + 1) fun v => v ∈ l := by
  obtain ⟨v, x', e, ⟨p0, p1⟩, r⟩ := qwa h hm (l.length : Int) (by omega) (by omega)
  have hv : v.toNat < l.length := by omega
  refine ⟨l.getD v.toNat bz, x', e.mono fun k e => ?_, ?_, r⟩
  · have e' : q0u.f k x (l.length : Int) = some (v, x') := e
    show q3n.f k x l = _
    rw [q3n.f_eq, e', Option.bind_some]
    simp only [decide_eq_true p0, decide_eq_true p1, Bool.and_self, q06]
  · rw [List.getD_eq_getElem?_getD, List.getElem?_eq_getElem hv]
    exact List.getElem_mem hv
end Go.Proofs.YtjfkeknnjjlepaaGreatDoor.Rf
end

section
namespace Go.Proofs.YtjfkeknnjjlepaaGreatDoor.Rf
open Go Go.RowKit
set_option linter.unusedVariables false
set_option linter.unusedSimpArgs false
theorem qrz (a b : Book) (h1 : Sm a.1.length) (h2 : Sm a.2.length) : Al fun k => q18.f k a b = some (decide (a = b)) := by
  by_cases hl1 : a.1.length = b.1.length
  case neg =>
    refine Al.now fun k => ?_
    rw [q18.f_eq, show ((a.1.length : Int) != (b.1.length : Int)) = true by rw [bne_iff_ne]; omega, q06, decide_eq_false fun e => hl1 (by rw [e])]
  by_cases hl2 : a.2.length = b.2.length
  case neg =>
    refine Al.now fun k => ?_
    rw [q18.f_eq, show ((a.1.length : Int) != (b.1.length : Int)) = false by rw [hl1]; simp, q08, show ((a.2.length : Int) != (b.2.length : Int)) = true by rw [bne_iff_ne]; omega, q06, decide_eq_false fun e => hl2 (by rw [e])]
  have two : ∀ (t : List En) (i : Nat), a.2.drop i = t → Al2 fun k k1 => q18.L9 k k1 a b (i : Int) = some (decide (t = b.2.drop i)) := by
    intro t
    induction t with
    | nil =>
      intro i hd
      have he := drop_nil hd
      refine Al2.succ (Al2.now fun k k1 => ?_)
      rw [q18.L9_eq, at_end he, q08, List.drop_eq_nil_of_le (show b.2.length ≤ i by omega), decide_eq_true rfl]
    | cons x t ih =>
      intro i hd
      obtain ⟨hi, g1, g2⟩ := q45 zE hd
      obtain ⟨c1, c2, c3, c4⟩ := q6t hi h2
      have hm : i < b.2.length := by omega
      have hmd : b.2.drop i = b.2[i] :: b.2.drop (i + 1) := List.drop_eq_getElem_cons hm
      have gm : b.2.getD i zE = b.2[i] := by rw [List.getD_eq_getElem?_getD, List.getElem?_eq_getElem hm]; rfl
      have cm : decide ((i : Int) < (b.2.length : Int)) = true := decide_eq_true (by omega)
      refine Al2.succ ((ih (i + 1) g2).mono fun k k1 e => ?_)
      simp only [q18.L9_eq, c1, c2, c3, w64, c4, g1, cm, gm, Bool.and_self, q06, e, qw8, hmd]
      by_cases h : x = b.2[i]
      · rw [decide_eq_true h, Bool.not_true, q08]
        exact congrArg some (decide_eq_decide.2 ⟨fun e => by rw [h, e], fun e => (List.cons.inj e).2⟩)
      · rw [decide_eq_false h, Bool.not_false, q06]
        exact congrArg some (decide_eq_false fun e => h (List.cons.inj e).1).symm
  have one : ∀ (t : List Aff) (i : Nat), a.1.drop i = t → Al2 fun k k1 => q18.L4 k k1 a b (i : Int) = some (decide (t = b.1.drop i) && decide (a.2 = b.2)) := by
    intro t
    induction t with
    | nil =>
      intro i hd
      have he := drop_nil hd
      refine Al2.succ ((two a.2 0 rfl).diag.fst.mono fun k k1 e => ?_)
      rw [q18.L4_eq, at_end he, q08, List.drop_eq_nil_of_le (show b.1.length ≤ i by omega), decide_eq_true rfl, Bool.true_and]
      exact e
    | cons x t ih =>
      intro i hd
      obtain ⟨hi, g1, g2⟩ := q45 zA hd
      obtain ⟨c1, c2, c3, c4⟩ := q6t hi h1
      have hm : i < b.1.length := by omega
      have hmd : b.1.drop i = b.1[i] :: b.1.drop (i + 1) := List.drop_eq_getElem_cons hm
      have gm : b.1.getD i zA = b.1[i] := by rw [List.getD_eq_getElem?_getD, List.getElem?_eq_getElem hm]; rfl
      have cm : decide ((i : Int) < (b.1.length : Int)) = true := decide_eq_true (by omega)
      refine Al2.succ ((ih (i + 1) g2).mono fun k k1 e => ?_)
      simp only [q18.L4_eq, c1, c2, c3, w64, c4, g1, cm, gm, Bool.and_self, q06, e, qfm, hmd]
      by_cases h : x = b.1[i]
      · rw [decide_eq_true h, Bool.not_true, q08]
        exact congrArg (fun z => some (z && decide (a.2 = b.2))) (decide_eq_decide.2 ⟨fun e => by rw [h, e], fun e => (List.cons.inj e).2⟩)
      · rw [decide_eq_false h, Bool.not_false, q06, decide_eq_false fun e => h (List.cons.inj e).1]
        rfl
  refine (one a.1 0 rfl).diag.mono fun k e => ?_
  rw [q18.f_eq, show ((a.1.length : Int) != (b.1.length : Int)) = false by rw [hl1]; simp, q08, show ((a.2.length : Int) != (b.2.length : Int)) = false by rw [hl2]; simp, q08, show (0 : Int) = ((0 : Nat) : Int) from rfl, e]
  refine congrArg some ?_
  rw [List.drop_zero, Bool.eq_iff_iff]
  simp only [Bool.and_eq_true, decide_eq_true_eq]
  exact ⟨fun ⟨h1, h2⟩ => Prod.ext h1 h2, fun h => h ▸ ⟨rfl, rfl⟩⟩
theorem qyj {n : Int} (h : (Lit.int .u8 n).wf = true) : 0 ≤ n ∧ n ≤ 255 := by
  simp only [Lit.wf, Bool.and_eq_true, decide_eq_true_eq] at h
  simpa [IntKind.min, IntKind.max, IntKind.bits, IntKind.signed] using h
end Go.Proofs.YtjfkeknnjjlepaaGreatDoor.Rf
end

section
namespace Go.Proofs.YtjfkeknnjjlepaaGreatDoor.Rf
open Go Go.RowKit
set_option linter.unusedVariables false
set_option linter.unusedSimpArgs false
theorem qwb (n : Nat) (hn : n ≤ 1000000) : ∀ (m : Nat) (x v : ByteArray), m ≤ 1000000 → v.size + x.size * m ≤ n → ∃ y, Al2 (fun k k1 => q1l.L2 k k1 x (m : Int) v = some y) ∧ y.size ≤ n := by
  intro m
  induction m using Nat.strongRecOn with
  | ind m ih =>
    intro x v hm hz
    by_cases h0 : m = 0
    · subst h0
      refine ⟨v, Al2.succ (Al2.now fun k k1 => by rw [q1l.L2_eq]; exact q08 _ _), ?_⟩
      omega
    have hx1 : x.size ≤ x.size * m := Nat.le_mul_of_pos_right _ (by omega)
    have hxx : (x ++ x).size = 2 * x.size := by rw [ByteArray.size_append]; omega
    have hdm : m = 2 * (m / 2) + m % 2 := by omega
    have hy : x.size * m = (x ++ x).size * (m / 2) + x.size * (m % 2) := by
      rw [hxx, Nat.mul_comm 2, Nat.mul_assoc, ← Nat.mul_add, ← hdm]
    have t1 : (m : Int).tdiv 2 = ((m / 2 : Nat) : Int) := rfl
    have t2 : (m : Int).tmod 2 = ((m % 2 : Nat) : Int) := rfl
    have tw : w64 ((m / 2 : Nat) : Int) = ((m / 2 : Nat) : Int) := q6g (by omega) (by omega)
    have run : ∀ u : ByteArray, u.size + (x ++ x).size * (m / 2) ≤ n → ∃ y, Al3 (fun k k1 k2 => q1l.J5 k k1 k2 x (m : Int) u = some y) ∧ y.size ≤ n := fun u hu => by
      obtain ⟨y, h1, h2⟩ := ih (m / 2) (by omega) (x ++ x) u (by omega) hu
      refine ⟨y, Al3.succ (h1.fst.mono fun k k1 k2 e => ?_), h2⟩
      rw [q1l.J5_eq, q4h (by omega), q06, show decide ((2 : Int) ≠ 0) = true from rfl, q06, t1, tw]
      exact e
    have hpos : decide ((m : Int) > 0) = true := decide_eq_true (by omega)
    by_cases hq : m % 2 = 1
    · rw [hq, Nat.mul_one] at hy
      obtain ⟨y, h1, h2⟩ := run (v ++ x) (by rw [ByteArray.size_append]; omega)
      refine ⟨y, Al2.succ (h1.in2.mono fun k k1 e => ?_), h2⟩
      rw [q1l.L2_eq, hpos, q06, show decide ((2 : Int) ≠ 0) = true from rfl, q06, t2, hq, show (((1 : Nat) : Int) == 1) = true from rfl, q06, q4h (by omega), q06]
      exact e
    · have hq0 : m % 2 = 0 := by omega
      rw [hq0, Nat.mul_zero] at hy
      obtain ⟨y, h1, h2⟩ := run v (by omega)
      refine ⟨y, Al2.succ (h1.in2.mono fun k k1 e => ?_), h2⟩
      rw [q1l.L2_eq, hpos, q06, show decide ((2 : Int) ≠ 0) = true from rfl, q06, t2, hq0, show (((0 : Nat) : Int) == 1) = false from rfl, q08]
      exact e
theorem qs0 (m : Nat) (x : ByteArray) (hm : m ≤ 1000000) (hx : x.size * m ≤ 1000000) : ∃ y, Al (fun k => q1l.f k x (m : Int) = some y) ∧ y.size ≤ 1000000 := by
  have hz : bz.size = 0 := rfl
  obtain ⟨y, h1, h2⟩ := qwb 1000000 (by omega) m x bz hm (by omega)
  exact ⟨y, h1.diag.mono fun k e => by rw [q1l.f_eq]; exact e, h2⟩
def qyk (s : ByteArray) : Prop := s.size ≤ 1000000
end Go.Proofs.YtjfkeknnjjlepaaGreatDoor.Rf
end

section
namespace Go.Proofs.YtjfkeknnjjlepaaGreatDoor.Rf
open Go Go.RowKit
set_option linter.unusedVariables false
set_option linter.unusedSimpArgs false
theorem qdn (key : ByteArray) (hk : key.size ≤ 9223372036854775807) : Al fun k => q3l.f k key = some (qm9 key) := by
  have e1 := fun k => qcf k key hk
  unfold qm9
  exact Al.now fun k => by
    rw [q3l.f_eq, e1, Option.bind_some]
    cases qde key with
    | false => rw [Bool.not_false, q06]; rfl
    | true => rw [Bool.not_true, q08, q2n.f_eq, Option.bind_some, if_pos rfl]; rfl
theorem qdo (key : ByteArray) (hk : key.size ≤ 9223372036854775807) : Al fun k => q3d.f k key = some (qm9 key) := by
  have e1 := fun k => qcg k key hk
  unfold qm9
  exact Al.now fun k => by
    rw [q3d.f_eq, e1, Option.bind_some]
    cases qde key with
    | false => rw [Bool.not_false, q06]; rfl
    | true => rw [Bool.not_true, q08, if_pos rfl]; rfl
end Go.Proofs.YtjfkeknnjjlepaaGreatDoor.Rf
end

section
/- The law FnClientNew is true. -/
namespace Go.Proofs.YtjfkeknnjjlepaaGreatDoor.Rf
open Go Go.RowKit
set_option linter.unusedVariables false
set_option linter.unusedSimpArgs false
theorem qee (s : List Int) (hs : ∀ b ∈ s, 0 ≤ b ∧ b ≤ 255) : ∃ key, Al (fun k => q2d.f k s = some key) ∧ qyk key := by
  obtain ⟨x, e0, h0⟩ := qry s hs
  obtain ⟨v, e1, hv⟩ := qs0 65 (⟨#[107]⟩ : ByteArray) (by omega) (by decide)
  obtain ⟨key, y, e2, hk, hy⟩ := qyi h0 (by omega) [(⟨#[107, 101, 121]⟩ : ByteArray), bz, (⟨#[107]⟩ : ByteArray), v] (by simp) (by simp)
  refine ⟨key, ((e0.and e1).and e2).mono fun k ⟨⟨a0, a1⟩, a2⟩ => ?_, ?_⟩
  · have a1' : q1l.f k (⟨#[107]⟩ : ByteArray) (65 : Int) = some v := a1
    have a2' : q3n.f k x [(⟨#[107, 101, 121]⟩ : ByteArray), bz, (⟨#[107]⟩ : ByteArray), v] = some (key, y) := a2
    rw [q2d.f_eq, a0, Option.bind_some, a1', Option.bind_some, a2', Option.bind_some]
  · unfold qyk
    simp only [List.mem_cons, List.not_mem_nil, or_false] at hk
    rcases hk with rfl | rfl | rfl | rfl
    · decide
    · decide
    · decide
    · exact hv
theorem qg8 (b : Book) (h : smB b) : Al fun k => q18.f k b b = some true := by
  obtain ⟨m1, m2⟩ := qng h
  exact (qrz b b m1 m2).mono fun k e => by rw [e, decide_eq_true rfl]
theorem qiv (c : q0l) (h : smB c.2.2.2.1) : Al fun k => q3o.f k c c = some true :=
  (qg8 c.2.2.2.1 h).mono fun k e => by
    rw [q3o.f_eq, beq_self_eq_true, q06, beq_self_eq_true, q06, beq_self_eq_true, q06, e, Option.bind_some, q06, beq_self_eq_true]
theorem qwc {key : ByteArray} (hk : key.size ≤ 9223372036854775807) : smC (qm9 key) := by
  unfold qm9
  split
  · exact ⟨hk, qre, by simp⟩
  · exact ⟨by show 0 ≤ _; omega, qre, by simp [zC]⟩
theorem qef (s : List Int) (hs : q7s (.row (.int .u8)) s) : ∃ k, q14.f k s = some true := by
  by_cases hl : (s.length : Int) > 1048576
  · exact ⟨0, by rw [q14.f_eq, decide_eq_true hl, q06]⟩
  obtain ⟨key, e0, hk⟩ := qee s fun b hb => qyj (hs.2 b hb)
  unfold qyk at hk
  have sm := qwc (key := key) (by omega)
  have hI := qdn key (by omega)
  have hS := qdo key (by omega)
  have hM := qiv (qm9 key) sm.bk
  have f := (e0.and (hI.and hS)).and hM
  by_cases hb : (qm9 key).1 = bz
  · refine (f.mono fun k ⟨⟨a0, a1, a2⟩, a3⟩ => ?_).get
    rw [q14.f_eq, decide_eq_false hl, q08, a0, Option.bind_some, a1, Option.bind_some, a2, Option.bind_some, a3, Option.bind_some, Bool.not_true, q08, q5y, decide_eq_true hb, q06, Option.bind_some, a3, Option.bind_some]
  · have hK : qde key = true := by
      cases h : qde key with
      | true => rfl
      | false => exact absurd (by unfold qm9; rw [h]; rfl) hb
    have hU := qw9 hK
    have hN : qm9 key = (key, true, 0, zB, bz) := by unfold qm9; rw [if_pos hK]
    have j7 : Al fun k => q14.J7 k (qm9 key) = some true :=
      Al.succ (((q6m (qm9 key) sm).and (qg8 zB qre)).mono fun k ⟨e, e2⟩ => by
        rw [q14.J7_eq, e, hU.ok, Option.bind_some, q06, hN]
        dsimp only
        rw [q06, show ((0 : Int) == 0) = true from rfl, q06, beq_self_eq_true, q06]
        show (q18.f k zB zB).bind _ = _
        rw [e2, Option.bind_some])
    refine ((f.and j7).mono fun k ⟨⟨⟨a0, a1, a2⟩, a3⟩, a4⟩ => ?_).get
    rw [q14.f_eq, decide_eq_false hl, q08, a0, Option.bind_some, a1, Option.bind_some, a2, Option.bind_some, a3, Option.bind_some, Bool.not_true, q08, q5y, decide_eq_false hb, q08, a4]
end Go.Proofs.YtjfkeknnjjlepaaGreatDoor.Rf
end

section
/- 'FnClientNew': for every input it returns true and its arguments read as before. Conditions: those of the given row alone (the listed package variables as the program's text lays them). -/
namespace Go.Proofs.YtjfkeknnjjlepaaGreatDoor.fnClientNew
open Go.ChangeShapes Go.WideShapes Go.ChangeAt Go.RowKit
open Go.Proofs.YtjfkeknnjjlepaaGreatDoor.Rf Go.Proofs.YtjfkeknnjjlepaaGreatDoor.Frame
set_option linter.unusedVariables false
theorem own : ownKnob Tryz.prog.godebug = none := by kernel_rfl
theorem laidOut : laidOutB Tryz.prog = true := kLa
theorem qcx : ∀ n ∈ (["loop.example/medlar/impl.shaStep"] : List String), ∀ g t, Tryz.prog.globalNamed n = some g → (Tryz.prog.globals[g]?).map (·.type) = some t → Tryz.prog.readableRec t = true ∧ t < Tryz.prog.types.size := by
  intro n hn g t hg ht
  simp only [List.mem_cons, List.not_mem_nil, or_false] at hn
  subst hn
  · obtain rfl := Option.some.inj ((show Tryz.prog.globalNamed "loop.example/medlar/impl.shaStep" = some 0 by kernel_rfl).symm.trans hg)
    obtain rfl := Option.some.inj ((show (Tryz.prog.globals[0]?).map (·.type) = some 195 by kernel_rfl).symm.trans ht)
    exact ⟨by kernel_rfl, of_decide_eq_true (by kernel_rfl)⟩
set_option maxRecDepth 100000 in
theorem contract (H : Type) (enc : TypeId × Value → H) (W : World) (base : Nat) (args : Array Value) (ds gs : List (DataW H)) (before : List MemPlace)
    (hval0 : ∀ (j : Nat) t v, Tryz.f6.params[j]? = some t → args[j]? = some v → Value.okWide Tryz.prog W .any base t v)
    (hW : DataW.Whole enc Tryz.prog Tryz.f6.params.toList Rows.fnClientNewSpec.vars false W args.toList ds gs before)
    (hsz0 : (DataW.weightsEach Tryz.prog (Tryz.f6.params.toList ++ (OpenSpec.ofChange Rows.fnClientNewSpec).bare.plain.varTypes Tryz.prog) (ds ++ gs)).all (· ≤ reachBytes) = true)
    (hL : laidMetH Tryz.prog Rows.fnClientNewRow.laid W) (hsh : W.ShapedOpen Tryz.prog) :
    Calls Tryz.prog 6 args W fun e W' => ∃ v, e = .returned v ∧ Rows.fnClientNewSpec.post enc Tryz.prog Tryz.f6 false true false false W args v W' := by
  have hGm : ∃ x : Int, W.cell? ⟨3, 0, none⟩ = some (.int .i64 x) := Go.Proofs.cell_of_shapedOpen_int (zero := #[.int .i64 0]) (t := 3) hsh (of_decide_eq_true (by kernel_rfl)) (by kernel_rfl) rfl (by kernel_rfl) (by kernel_rfl) Tryz.underlying3
  have hGp : Lib.TabIs Tryz.prog W "internal/strconv.uint64pow10" .u64 Lib.pow10Tab := q5i (show Tryz.prog.globalNamed "internal/strconv.uint64pow10" = some 6 by kernel_rfl) (show (Tryz.prog.globals[6]?).map (·.type) = some 276 by kernel_rfl) Tryz.underlying276 Tryz.underlying194 (by kernel_rfl) (by kernel_rfl) hL (by rw [show Lib.tabData .u64 Lib.pow10Tab = Rows.laid_internal_strconv_uint64pow10 from by kernel_rfl]; simp [Rows.fnClientNewRow])
  have hGs : Lib.TabIs Tryz.prog W "loop.example/medlar/impl.shaStep" .u32 q6r := q5i (show Tryz.prog.globalNamed "loop.example/medlar/impl.shaStep" = some 0 by kernel_rfl) (show (Tryz.prog.globals[0]?).map (·.type) = some 195 by kernel_rfl) Tryz.underlying195 Tryz.underlying192 (by kernel_rfl) (by kernel_rfl) hL (by rw [show Lib.tabData .u32 q6r = Rows.laid_loop_example_medlar_impl_shaStep from by kernel_rfl]; simp [Rows.fnClientNewRow])
  have hGe := q5j (show Tryz.prog.globalNamed "strconv.ErrSyntax" = some 1 by kernel_rfl) (show (Tryz.prog.globals[1]?).map (·.type) = some 90 by kernel_rfl) Tryz.underlying90 hL (show ("strconv.ErrSyntax", Rows.laid_strconv_ErrSyntax) ∈ Rows.fnClientNewRow.laid by simp [Rows.fnClientNewRow])
  have hGr := q5j (show Tryz.prog.globalNamed "strconv.ErrRange" = some 2 by kernel_rfl) (show (Tryz.prog.globals[2]?).map (·.type) = some 90 by kernel_rfl) Tryz.underlying90 hL (show ("strconv.ErrRange", Rows.laid_strconv_ErrRange) ∈ Rows.fnClientNewRow.laid by simp [Rows.fnClientNewRow])
  have hJ : Jp.J W := ⟨hGm, hGp, hGs, hGe, hGr⟩
  clear hsh hL
  have hsz := hsz0
  have hval := hval0
  have hW' := hW
  obtain ⟨p, q, hA0, hV, rfl, hfz, hnd⟩ := hW
  have hA : DataW.TrodAll enc Tryz.prog W 0 (fun _ => true) true Tryz.f6.params.toList args.toList ds p := hA0
  rw [Tryz.params6] at hA hval
  obtain ⟨v0, vs0, d0, ds0, p0, q0, hargs, rfl, rfl, h0, r0⟩ := trodAll_cons hA
  obtain ⟨rfl, rfl, rfl⟩ := trodAll_nil r0
  obtain rfl : args = #[v0] := by cases args; simp_all
  have lt0 : ∀ x ∈ p0, x.block < W.heap.size := by obtain ⟨m, hm⟩ := h0; exact DataW.trod_lt m _ _ _ hm
  obtain ⟨x0, o0, G0⟩ := q7t (τ := t34) (show q5l Tryz.prog t34 (.inl 34) = true by kernel_rfl) (hval 0 34 v0 rfl rfl) h0
  obtain ⟨gv0, gw0, qv0, rfl, hv0⟩ := q6k hV
  obtain ⟨rfl, _⟩ := trodVars_none hv0
  clear hA0 hval0 hsz0
  obtain ⟨k, hk⟩ := qef x0 G0
  refine (row_of (q14.q k).1 rfl (x := x0) (r := true) hk rfl (qwx hJ) hJ rfl ?_).mono fun e W' ⟨he, bel⟩ => ?_
  · intro i p s hp hs
    match i, hp, hs with
    | 0, _, hs => obtain rfl := Option.some.inj (show some (⟨t34, x0⟩ : Sv) = some s from hs); exact o0
    | i + 1, hp, _ => simp at hp
  subst he
  obtain ⟨pv, hpv⟩ := q5v laidOut bel _ _ _ hV qcx
  exact ⟨_, rfl, _, _, _, [], _, pv, hW', trodAll_mk1 (shut_bool Tryz.underlying4 _), (trodAll_cons_mk (Below.trod laidOut (by kernel_rfl) (of_decide_eq_true (by kernel_rfl)) h0 bel lt0) trodAll_mk0), hpv, bel.frame _, fun h => by cases h⟩
noncomputable def q56 (os : Os) : World := World.laidAll Tryz.prog os Rows.fnClientNewRow.laid
set_option maxRecDepth 100000 in
theorem q7y (os : Os) : laidMet Tryz.prog Rows.fnClientNewRow.laid ((q56 os).forCall (fun _ _ => 0) ⟨#[], #[.slice none 0 0], []⟩).memory :=
  laidMet_laidAll _ (by kernel_rfl) (by kernel_rfl)
set_option maxRecDepth 100000 in
theorem reads (os : Os) {H : Type} (enc : TypeId × Value → H) : ∃ x, DataW.whole enc Tryz.prog ((q56 os).forCall (fun _ _ => 0) ⟨#[], #[.slice none 0 0], []⟩).memory Tryz.f6.params.toList Rows.fnClientNewSpec.vars false #[(.slice none 0 0 : Value)].toList 12 = some x :=
  Option.isSome_iff_exists.1 (by kernel_rfl)
set_option maxRecDepth 100000 in
theorem lifted (os : Os) (started : os.Started) (H : Type) (enc : TypeId × Value → H) (F : Stop.Interp) :
    ReturnsInHanded {} Tryz.checked os 6 .any ((OpenSpec.ofChange Rows.fnClientNewSpec).preRow enc Tryz.prog Tryz.f6 Rows.fnClientNewRow.domain false Rows.fnClientNewRow.laid) (((OpenSpec.ofChange Rows.fnClientNewSpec).at F).post enc Tryz.prog Tryz.f6 false true false false) := by
  obtain ⟨x, hx⟩ := reads os enc
  refine returnsInHanded_of_row (C := Tryz.checked) (s := OpenSpec.ofChange Rows.fnClientNewSpec) own started (by kernel_rfl) Tryz.func6
    (witness_row_at (enc := enc) (C := Tryz.checked) false (q56 os) #[.slice none 0 0] rfl (by kernel_rfl) (by kernel_rfl) (by kernel_rfl)
      (OpenSpec.preRow_of_cond 12 (x := x) hx (by kernel_rfl) (fun k hk => by cases hk) (by kernel_rfl) (q7y os))) ?_
  intro W base args ds gs before hval hW _ _ hsz hL hsh _
  exact contract H enc W base args ds gs before hval hW hsz hL hsh
theorem kIp : (Rows.fnClientNewRow.inPlace == Tryz.prog.inPlace 6) = true := by kernel_rfl
theorem kUn : (Rows.fnClientNewRow.unfollowed == Tryz.prog.unfollowed 6) = true := by kernel_rfl
theorem kRe : (Rows.fnClientNewRow.recurses == Tryz.prog.recurses 6) = true := by kernel_rfl
theorem kNa : (Rows.fnClientNewRow.named == Tryz.prog.varsNamed 6) = true := by kernel_rfl
theorem kGo : false = Rows.fnClientNewRow.goesBy Tryz.prog := by kernel_rfl
theorem closed : joinedFacts Tryz.prog 6 Tryz.f6 (OpenSpec.ofChange Rows.fnClientNewSpec).bare Rows.fnClientNewRow = true := by
  have kMk' : (Tryz.prog.make == some Rows.fnClientNewRow.make) = true := kMk
  have kLi' : (Rows.fnClientNewRow.lifted == Tryz.prog.liftsFinal) = true := kLi
  have kPk' : (Rows.fnClientNewRow.plainKeys == Tryz.prog.plainKeys) = true := kPk
  unfold joinedFacts
  rw [kIp, kUn, kRe, kNa, kLa, kMr, kPk', kSh, kMe, kLi', kMk']
  show _ = true
  kernel_rfl
theorem said : Rows.FnClientNewSaid :=
  OpenClaim.holds_of_cond 6 Tryz.f6 rfl rfl rfl rfl rfl rfl rfl ⟨rfl, rfl, rfl, rfl, rfl⟩ rfl rfl rfl rfl rfl (by kernel_rfl) Tryz.func6 closed
    (of_decide_eq_true (by kernel_rfl)) (by unfold Func.isWrapper; first | (rw [if_pos (by decide +kernel)]; kernel_rfl) | (rw [if_neg (by decide +kernel)]; exact ⟨rfl, rfl⟩))
    (fun os started H enc _ F => by rw [OpenClaim.pre_eq_preRow]; exact lifted os started H enc F)
theorem plain (f : FuncId) (fn : Func) (hf : Tryz.pinned.checked.prog.funcNamed "loop.example/medlar/laws.FnClientNew" = some f) (hfn : Tryz.pinned.checked.prog.funcs[f]? = some fn) :
    true = Tryz.pinned.checked.prog.looks [] ∧ ∀ (j : Nat) t, fn.params[j]? = some t → Tryz.pinned.checked.prog.wantsStandIn t = false := by
  obtain rfl : f = 6 := Option.some.inj ((show Tryz.prog.funcNamed "loop.example/medlar/laws.FnClientNew" = some 6 by kernel_rfl).symm.trans hf) |>.symm
  obtain rfl : fn = Tryz.f6 := (Option.some.inj (Tryz.func6.symm.trans hfn)).symm
  refine ⟨by kernel_rfl, fun j t ht => ?_⟩
  rw [Tryz.params6] at ht
  have hm := Array.mem_of_getElem? ht
  simp only [List.mem_toArray, List.mem_cons, List.not_mem_nil, or_false] at hm
  subst hm
  · exact (show Tryz.prog.wantsStandIn 34 = false by kernel_rfl)
theorem card : Rows.FnClientNewCardSaid :=
  Claim7.holds_tied_plain_at .later [] _ _ _ _ said (fun _ h => by cases h) (by kernel_rfl) (fun _ h => by cases h) fnClientNew_row_tie rfl ⟨rfl, rfl⟩ (by kernel_rfl) rfl plain kGo
end Go.Proofs.YtjfkeknnjjlepaaGreatDoor.fnClientNew
namespace Go.Proofs.YtjfkeknnjjlepaaGreatDoor
theorem fnClientNew_holds : Rows.FnClientNewCardSaid := fnClientNew.card
end Go.Proofs.YtjfkeknnjjlepaaGreatDoor
end
