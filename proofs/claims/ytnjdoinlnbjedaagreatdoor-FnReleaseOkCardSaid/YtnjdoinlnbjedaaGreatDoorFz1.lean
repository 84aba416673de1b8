import Derived.Test.YtnjdoinlnbjedaaGreatDoorK4
import Derived.Test.YtnjdoinlnbjedaaGreatDoorKz2
import Derived.Laws.BitsLemmas

section
namespace Go.Proofs.YtnjdoinlnbjedaaGreatDoor.Rf
open Go Go.RowKit
set_option linter.unusedVariables false
noncomputable section
def q2m.C (k : Nat) : CEs := []
abbrev q2m.ps : List Par := [⟨t22, .rd⟩]
abbrev q2m.rs : List Res := [⟨qap, .ro, true⟩]
def q2m.H : q4o := [(3, [(0, .ro)])]
def q2m.F := q4p E q2m.C q2m.H Tryz.f32 q2m.ps q2m.rs
def q2m.J3 (k : Nat) (x0 : List Int) : Option (List Int × Int) := atJ E q2m.C q2m.H Tryz.f32 q2m.ps q2m.rs [true, true] 0 [] k (sh 11 [(0, .d t22 x0 .ro)])
def q2m.f (k : Nat) (x0 : List Int) : Option (List Int × Int) := q2m.F k x0
theorem q2m.f_eq (k : Nat) (x0 : List Int) : q2m.f k x0 = ifb (decide ((x0.length : Int) > (2000 : Int))) (ifb (decide (0 ≤ (0 : Int)) && (decide ((0 : Int) ≤ (2000 : Int)) && decide ((2000 : Int) ≤ (x0.length : Int)))) (q2m.J3 k ((x0.take (2000 : Int).toNat).drop (0 : Int).toNat)) (none)) (q2m.J3 k x0) := by kernel_rfl
theorem q2m.J3_eq (k : Nat) (x0 : List Int) : q2m.J3 (k + 1) x0 = some (x0, (0 : Int)) := by kernel_rfl
abbrev q2m.e (k : Nat) : FuncId × CE := (32, ⟨q2m.ps, q2m.rs, q2m.F k⟩)
theorem q2m.q (k : Nat) : Qs (q2m.e k) := qq (C := q2m.C) (fun k => .nil) k
def q07.C (k : Nat) : CEs := []
abbrev q07.ps : List Par := [⟨qap, .bx .ro⟩, ⟨(.int .i64), .rd⟩]
abbrev q07.rs : List Res := [⟨(.int .i64), .ro, false⟩]
def q07.H : q4o := [(8, [(0, .ro), (1, .ro), (6, .ro)])]
def q07.F := q4p E q07.C q07.H Tryz.f63 q07.ps q07.rs
def q07.J8 (k : Nat) (x0 : List Int × Int) (x1 : Int) (x6 : Int) : Option (Int × (List Int × Int)) := atJ E q07.C q07.H Tryz.f63 q07.ps q07.rs [true, true, true, true, true, true] 0 [] k (sh 99 [(0, .box qap x0 .ro none), (1, .d (.int .i64) x1 .ro), (6, .d (.int .i64) x6 .ro)])
def q07.f (k : Nat) (x0 : List Int × Int) (x1 : Int) : Option (Int × (List Int × Int)) := q07.F k (x0, x1)
theorem q07.f_eq (k : Nat) (x0 : List Int × Int) (x1 : Int) : q07.f k x0 x1 = ifb (decide (x1 < (1 : Int))) (some ((0 : Int), (x0.1, (w64 (x0.2 + 1))))) (ifb ((x0.1.length : Int) == (0 : Int)) (some ((0 : Int), (x0.1, (w64 (x0.2 + 1))))) (ifb (decide ((w64 ((w64 (x0.2 + 1)) - 1)) < (x0.1.length : Int))) (ifb (decide (0 ≤ (w64 ((w64 (x0.2 + 1)) - 1))) && decide ((w64 ((w64 (x0.2 + 1)) - 1)) < (x0.1.length : Int))) (ifb (decide (x1 ≠ 0)) (some (((w64 (x0.1.getD ((w64 ((w64 (x0.2 + 1)) - 1)).toNat) (0 : Int))).tmod x1), (x0.1, (w64 (x0.2 + 1))))) (none)) (none)) (ifb (decide ((x0.1.length : Int) ≠ 0)) (ifb (decide (0 ≤ ((w64 ((w64 (x0.2 + 1)) - 1)).tmod (x0.1.length : Int))) && decide (((w64 ((w64 (x0.2 + 1)) - 1)).tmod (x0.1.length : Int)) < (x0.1.length : Int))) (ifb (decide ((x0.1.length : Int) ≠ 0)) (ifb (decide (0 ≤ ((w64 ((w64 ((w64 ((w64 (x0.2 + 1)) - 1)) * (7 : Int))) + (3 : Int))).tmod (x0.1.length : Int))) && decide (((w64 ((w64 ((w64 ((w64 (x0.2 + 1)) - 1)) * (7 : Int))) + (3 : Int))).tmod (x0.1.length : Int)) < (x0.1.length : Int))) (ifb (decide ((x0.1.length : Int) ≠ 0)) (q07.J8 k (x0.1, (w64 (x0.2 + 1))) x1 (w64 ((w64 ((w64 ((w64 ((w64 (x0.1.getD (((w64 ((w64 (x0.2 + 1)) - 1)).tmod (x0.1.length : Int)).toNat) (0 : Int))) * (131 : Int))) + (w64 ((w64 (x0.1.getD (((w64 ((w64 ((w64 ((w64 (x0.2 + 1)) - 1)) * (7 : Int))) + (3 : Int))).tmod (x0.1.length : Int)).toNat) (0 : Int))) * (1117 : Int))))) + (w64 ((w64 ((w64 (x0.2 + 1)) - 1)) * (29 : Int))))) + (w64 ((w64 ((w64 ((w64 (x0.2 + 1)) - 1)).tdiv (x0.1.length : Int))) * (53 : Int)))))) (none)) (none)) (none)) (none)) (none)))) := by kernel_rfl
theorem q07.J8_eq (k : Nat) (x0 : List Int × Int) (x1 : Int) (x6 : Int) : q07.J8 (k + 1) x0 x1 x6 = ifb (decide ((64 : Int) ≠ 0)) (ifb (decide (x1 ≠ 0)) (some (((w64 ((BitVec.ofInt 64 x6 ^^^ BitVec.ofInt 64 (w64 (x6.tdiv (64 : Int)))).toNat)).tmod x1), x0)) (none)) (none) := by kernel_rfl
abbrev q07.e (k : Nat) : FuncId × CE := (63, ⟨q07.ps, q07.rs, q07.F k⟩)
theorem q07.q (k : Nat) : Qs (q07.e k) := qq (C := q07.C) (fun k => .nil) k
def q0t.C (k : Nat) : CEs := [q07.e k]
abbrev q0t.ps : List Par := [⟨qap, .bx .ro⟩, ⟨(.row .str), .rd⟩]
abbrev q0t.rs : List Res := [⟨.str, .ro, false⟩]
def q0t.F := q4p E q0t.C [] Tryz.f35 q0t.ps q0t.rs
def q0t.f (k : Nat) (x0 : List Int × Int) (x1 : List ByteArray) : Option (ByteArray × (List Int × Int)) := q0t.F k (x0, x1)
theorem q0t.f_eq (k : Nat) (x0 : List Int × Int) (x1 : List ByteArray) : q0t.f k x0 x1 = (q07.f k x0 (x1.length : Int)).bind fun (r0 : Int × (List Int × Int)) => ifb (decide (0 ≤ r0.1) && decide (r0.1 < (x1.length : Int))) (some ((x1.getD r0.1.toNat bz), r0.2)) (none) := by kernel_rfl
abbrev q0t.e (k : Nat) : FuncId × CE := (35, ⟨q0t.ps, q0t.rs, q0t.F k⟩)
theorem q0t.q (k : Nat) : Qs (q0t.e k) := qq (C := q0t.C) (fun k => .c (q07.q k) <| .nil) k
def q1y.C (k : Nat) : CEs := [q07.e k]
abbrev q1y.ps : List Par := [⟨qap, .bx .ro⟩]
abbrev q1y.rs : List Res := [⟨t90, .ro, false⟩]
def q1y.H : q4o := [(2, [(0, .ro), (2, .ro), (3, (.own .ro))])]
def q1y.F := q4p E q1y.C q1y.H Tryz.f141 q1y.ps q1y.rs
def q1y.J2 (k : Nat) (x0 : List Int × Int) (x2 : Aff) (x3 : List Aff) : Option ((Aff) × (List Int × Int)) := atJ E q1y.C q1y.H Tryz.f141 q1y.ps q1y.rs [true, true] 0 [] k (sh 20 [(0, .box qap x0 .ro none), (2, .box t90 x2 .ro none), (3, .d t25 x3 (.own .ro))])
def q1y.f (k : Nat) (x0 : List Int × Int) : Option ((Aff) × (List Int × Int)) := q1y.F k x0
theorem q1y.f_eq (k : Nat) (x0 : List Int × Int) : q1y.f k x0 = q1y.J2 k x0 zA [((⟨#[83]⟩ : ByteArray), false, bz, (⟨#[115]⟩ : ByteArray), bz), ((⟨#[83]⟩ : ByteArray), false, (⟨#[121]⟩ : ByteArray), (⟨#[105, 101, 115]⟩ : ByteArray), (⟨#[121]⟩ : ByteArray)), ((⟨#[71]⟩ : ByteArray), false, bz, (⟨#[105, 110, 103]⟩ : ByteArray), bz), ((⟨#[71]⟩ : ByteArray), false, (⟨#[101]⟩ : ByteArray), (⟨#[105, 110, 103]⟩ : ByteArray), (⟨#[101]⟩ : ByteArray)), ((⟨#[85]⟩ : ByteArray), true, bz, (⟨#[117, 110]⟩ : ByteArray), bz), ((⟨#[82]⟩ : ByteArray), true, (⟨#[97]⟩ : ByteArray), (⟨#[98]⟩ : ByteArray), (⟨#[97]⟩ : ByteArray)), ((⟨#[84]⟩ : ByteArray), false, bz, (⟨#[116]⟩ : ByteArray), (⟨#[97, 99]⟩ : ByteArray)), ((⟨#[67]⟩ : ByteArray), false, bz, (⟨#[97, 98, 99]⟩ : ByteArray), bz)] := by kernel_rfl
theorem q1y.J2_eq (k : Nat) (x0 : List Int × Int) (x2 : Aff) (x3 : List Aff) : q1y.J2 (k + 1) x0 x2 x3 = (q07.f k x0 (x3.length : Int)).bind fun (r0 : Int × (List Int × Int)) => ifb (decide (0 ≤ r0.1) && decide (r0.1 < (x3.length : Int))) (some ((x3.getD r0.1.toNat zA), r0.2)) (none) := by kernel_rfl
abbrev q1y.e (k : Nat) : FuncId × CE := (141, ⟨q1y.ps, q1y.rs, q1y.F k⟩)
theorem q1y.q (k : Nat) : Qs (q1y.e k) := qq (C := q1y.C) (fun k => .c (q07.q k) <| .nil) k
def q0f.C (k : Nat) : CEs := [q07.e k, q1y.e k]
abbrev q0f.ps : List Par := [⟨qap, .bx .ro⟩]
abbrev q0f.rs : List Res := [⟨t25, (.own .ro), false⟩]
def q0f.H : q4o := [(3, [(0, .ro), (3, (.own .ro)), (4, .ro)]), (8, [(0, .ro), (3, (.own .ro)), (4, .ro), (5, .ro), (6, .ro), (7, .ro)]), (9, [(0, .ro), (3, (.own .ro)), (4, .ro), (5, .ro), (6, .ro), (7, .ro)])]
def q0f.F := q4p E q0f.C q0f.H Tryz.f114 q0f.ps q0f.rs
def q0f.L3 (k k1 : Nat) (x0 : List Int × Int) (x3 : List Aff) (x4 : Int) : Option (List Aff × (List Int × Int)) := atL E q0f.C q0f.H Tryz.f114 q0f.ps q0f.rs [true, true, false, true, true] k [] k1 (sh 39 [(0, .box qap x0 .ro none), (3, .d t25 x3 (.own .ro)), (4, .d (.int .i64) x4 .ro)])
def q0f.L8 (k k1 k2 : Nat) (x0 : List Int × Int) (x3 : List Aff) (x4 : Int) (x5 : Aff) (x6 : Bool) (x7 : Int) : Option (List Aff × (List Int × Int)) := atL E q0f.C q0f.H Tryz.f114 q0f.ps q0f.rs [true, true, false, true, true, true, true, false, true, true, true, false, true, true] k [k1] k2 (sh 39 [(0, .box qap x0 .ro none), (3, .d t25 x3 (.own .ro)), (4, .d (.int .i64) x4 .ro), (5, .box t90 x5 .ro none), (6, .d .bool x6 .ro), (7, .d (.int .i64) x7 .ro)])
def q0f.J9 (k k1 k2 k3 : Nat) (x0 : List Int × Int) (x3 : List Aff) (x4 : Int) (x5 : Aff) (x6 : Bool) (x7 : Int) : Option (List Aff × (List Int × Int)) := atJ E q0f.C q0f.H Tryz.f114 q0f.ps q0f.rs [true, true, false, true, true, true, true, false, true, true, true, false, true, true, true, true, true] k [k1, k2] k3 (sh 39 [(0, .box qap x0 .ro none), (3, .d t25 x3 (.own .ro)), (4, .d (.int .i64) x4 .ro), (5, .box t90 x5 .ro none), (6, .d .bool x6 .ro), (7, .d (.int .i64) x7 .ro)])
def q0f.f (k : Nat) (x0 : List Int × Int) : Option (List Aff × (List Int × Int)) := q0f.F k x0
theorem q0f.f_eq (k : Nat) (x0 : List Int × Int) : q0f.f k x0 = (q07.f k x0 (5 : Int)).bind fun (r0 : Int × (List Int × Int)) => q0f.L3 k k r0.2 ([] : List Aff) r0.1 := by kernel_rfl
theorem q0f.L3_eq (k k1 : Nat) (x0 : List Int × Int) (x3 : List Aff) (x4 : Int) : q0f.L3 k (k1 + 1) x0 x3 x4 = ifb (decide (x4 > 0)) ((q1y.f k1 x0).bind fun (r1 : (Aff) × (List Int × Int)) => q0f.L8 k k1 k1 r1.2 x3 x4 r1.1 false (0 : Int)) (some (x3, x0)) := by kernel_rfl
theorem q0f.L8_eq (k k1 k2 : Nat) (x0 : List Int × Int) (x3 : List Aff) (x4 : Int) (x5 : Aff) (x6 : Bool) (x7 : Int) : q0f.L8 k k1 (k2 + 1) x0 x3 x4 x5 x6 x7 = ifb (decide (x7 < (x3.length : Int))) (ifb x6 (q0f.J9 k k1 k2 k2 x0 x3 x4 x5 true x7) (ifb (decide (0 ≤ x7) && decide (x7 < (x3.length : Int))) (q0f.J9 k k1 k2 k2 x0 x3 x4 x5 ((((x3.getD x7.toNat zA).1).toList == x5.1.toList) && ((((x3.getD x7.toNat zA).2).1 == x5.2.1) && ((((((x3.getD x7.toNat zA).2).2).1).toList == x5.2.2.1.toList) && (((((((x3.getD x7.toNat zA).2).2).2).1).toList == x5.2.2.2.1.toList) && ((((((x3.getD x7.toNat zA).2).2).2).2).toList == x5.2.2.2.2.toList))))) x7) (none))) (ifb (!x6) (ifb (decide ((x3.length + [x5].length) * 72 ≤ q0u)) (q0f.L3 k k1 x0 (x3 ++ [x5]) (w64 (x4 - 1))) (none)) (q0f.L3 k k1 x0 x3 (w64 (x4 - 1)))) := by kernel_rfl
theorem q0f.J9_eq (k k1 k2 k3 : Nat) (x0 : List Int × Int) (x3 : List Aff) (x4 : Int) (x5 : Aff) (x6 : Bool) (x7 : Int) : q0f.J9 k k1 k2 (k3 + 1) x0 x3 x4 x5 x6 x7 = q0f.L8 k k1 k2 x0 x3 x4 x5 x6 (w64 (x7 + 1)) := by kernel_rfl
abbrev q0f.e (k : Nat) : FuncId × CE := (114, ⟨q0f.ps, q0f.rs, q0f.F k⟩)
theorem q0f.q (k : Nat) : Qs (q0f.e k) := qq (C := q0f.C) (fun k => .c (q07.q k) <| .c (q1y.q k) <| .nil) k
def q4b.C (k : Nat) : CEs := []
abbrev q4b.ps : List Par := [⟨(.int .i64), .rd⟩, ⟨(.int .i64), .rd⟩]
abbrev q4b.rs : List Res := [⟨(.int .i64), .ro, false⟩]
def q4b.F := q4p E q4b.C [] Tryz.f142 q4b.ps q4b.rs
def q4b.f (k : Nat) (x0 : Int) (x1 : Int) : Option (Int) := q4b.F k (x0, x1)
theorem q4b.f_eq (k : Nat) (x0 : Int) (x1 : Int) : q4b.f k x0 x1 = ifb (decide (x0 < x1)) (some x0) (some x1) := by kernel_rfl
abbrev q4b.e (k : Nat) : FuncId × CE := (142, ⟨q4b.ps, q4b.rs, q4b.F k⟩)
theorem q4b.q (k : Nat) : Qs (q4b.e k) := qq (C := q4b.C) (fun k => .nil) k
def q23.C (k : Nat) : CEs := [q07.e k, q0t.e k, q4b.e k]
abbrev q23.ps : List Par := [⟨qap, .bx .ro⟩]
abbrev q23.rs : List Res := [⟨.str, .ro, false⟩]
def q23.H : q4o := [(4, [(0, .ro), (3, .ro), (4, .ro)])]
def q23.F := q4p E q23.C q23.H Tryz.f116 q23.ps q23.rs
def q23.L4 (k k1 : Nat) (x0 : List Int × Int) (x3 : ByteArray) (x4 : Int) : Option (ByteArray × (List Int × Int)) := atL E q23.C q23.H Tryz.f116 q23.ps q23.rs [true, false, true, false, true, false, true, true] k [] k1 (sh 28 [(0, .box qap x0 .ro none), (3, .d .str x3 .ro), (4, .d (.int .i64) x4 .ro)])
def q23.f (k : Nat) (x0 : List Int × Int) : Option (ByteArray × (List Int × Int)) := q23.F k x0
theorem q23.f_eq (k : Nat) (x0 : List Int × Int) : q23.f k x0 = (q07.f k x0 (3 : Int)).bind fun (r0 : Int × (List Int × Int)) => ifb (r0.1 == (0 : Int)) ((q07.f k r0.2 (5 : Int)).bind fun (r1 : Int × (List Int × Int)) => q23.L4 k k r1.2 bz (w64 ((1 : Int) + r1.1))) ((q0t.f k r0.2 [(⟨#[99, 97, 116]⟩ : ByteArray), (⟨#[99, 97, 116, 115]⟩ : ByteArray), (⟨#[97, 99, 116]⟩ : ByteArray), (⟨#[100, 111]⟩ : ByteArray), (⟨#[100, 111, 105, 110, 103]⟩ : ByteArray), (⟨#[103, 111]⟩ : ByteArray), (⟨#[117, 110, 100, 111]⟩ : ByteArray), (⟨#[116, 114, 121]⟩ : ByteArray), (⟨#[116, 114, 105, 101, 115]⟩ : ByteArray), (⟨#[97]⟩ : ByteArray), (⟨#[98, 97, 107, 101]⟩ : ByteArray), (⟨#[98, 97, 107, 105, 110, 103]⟩ : ByteArray), (⟨#[116, 97, 99, 116]⟩ : ByteArray), (⟨#[99, 97, 114, 116]⟩ : ByteArray), (⟨#[97, 98, 99, 97, 98, 99, 97, 98, 99, 97, 98, 99]⟩ : ByteArray)]).bind fun (r2 : ByteArray × (List Int × Int)) => some (r2.1, r2.2)) := by kernel_rfl
theorem q23.L4_eq (k k1 : Nat) (x0 : List Int × Int) (x3 : ByteArray) (x4 : Int) : q23.L4 k (k1 + 1) x0 x3 x4 = ifb (decide (x4 > 0)) ((q0t.f k1 x0 [(⟨#[97]⟩ : ByteArray), (⟨#[98]⟩ : ByteArray), (⟨#[99]⟩ : ByteArray), (⟨#[97, 98]⟩ : ByteArray), (⟨#[116]⟩ : ByteArray)]).bind fun (r3 : ByteArray × (List Int × Int)) => ifb (q5m (x3.size + r3.1.size)) (q23.L4 k k1 r3.2 (x3 ++ r3.1) (w64 (x4 - 1))) (none)) ((q4b.f k (x3.size : Int) (12 : Int)).bind fun (r4 : Int) => ifb (decide (0 ≤ (0 : Int)) && (decide ((0 : Int) ≤ r4) && decide (r4 ≤ (x3.size : Int)))) (some ((x3.extract (0 : Int).toNat r4.toNat), x0)) (none)) := by kernel_rfl
abbrev q23.e (k : Nat) : FuncId × CE := (116, ⟨q23.ps, q23.rs, q23.F k⟩)
theorem q23.q (k : Nat) : Qs (q23.e k) := qq (C := q23.C) (fun k => .c (q07.q k) <| .c (q0t.q k) <| .c (q4b.q k) <| .nil) k
def q3c.C (k : Nat) : CEs := []
abbrev q3c.ps : List Par := [⟨(.row .str), .own (.own .ro)⟩, ⟨.str, .rd⟩]
abbrev q3c.rs : List Res := [⟨(.row .str), (.own .ro), false⟩]
def q3c.H : q4o := [(2, [(0, (.own .ro)), (1, .ro), (5, .ro)])]
def q3c.F := q4p E q3c.C q3c.H Tryz.f115 q3c.ps q3c.rs
def q3c.L2 (k k1 : Nat) (x0 : List ByteArray) (x1 : ByteArray) (x5 : Int) : Option (List ByteArray) := atL E q3c.C q3c.H Tryz.f115 q3c.ps q3c.rs [true, true, false, true] k [] k1 (sh 45 [(0, .d (.row .str) x0 (.own .ro)), (1, .d .str x1 .ro), (5, .d (.int .i64) x5 .ro)])
def q3c.f (k : Nat) (x0 : List ByteArray) (x1 : ByteArray) : Option (List ByteArray) := q3c.F k (x0, x1)
theorem q3c.f_eq (k : Nat) (x0 : List ByteArray) (x1 : ByteArray) : q3c.f k x0 x1 = q3c.L2 k k x0 x1 (0 : Int) := by kernel_rfl
theorem q3c.L2_eq (k k1 : Nat) (x0 : List ByteArray) (x1 : ByteArray) (x5 : Int) : q3c.L2 k (k1 + 1) x0 x1 x5 = ifb (decide (x5 < (x0.length : Int))) (ifb (decide (0 ≤ x5) && decide (x5 < (x0.length : Int))) (ifb (Op.bytesLess (x0.getD x5.toNat bz).toList x1.toList) (q3c.L2 k k1 x0 x1 (w64 (x5 + 1))) (ifb (decide (x5 < (x0.length : Int))) (ifb (decide (0 ≤ x5) && decide (x5 < (x0.length : Int))) (ifb ((x0.getD x5.toNat bz).toList == x1.toList) (some x0) (ifb (decide (0 ≤ (0 : Int)) && (decide ((0 : Int) ≤ x5) && decide (x5 ≤ (x0.length : Int)))) (ifb (decide ((([] : List ByteArray).length + ((x0.take x5.toNat).drop (0 : Int).toNat).length) * 16 ≤ q0u)) (ifb (decide (((([] : List ByteArray) ++ ((x0.take x5.toNat).drop (0 : Int).toNat)).length + [x1].length) * 16 ≤ q0u)) (ifb (decide (0 ≤ x5) && (decide (x5 ≤ (x0.length : Int)) && decide ((x0.length : Int) ≤ (x0.length : Int)))) (ifb (decide ((((([] : List ByteArray) ++ ((x0.take x5.toNat).drop (0 : Int).toNat)) ++ [x1]).length + ((x0.take (x0.length : Int).toNat).drop x5.toNat).length) * 16 ≤ q0u)) (some (((([] : List ByteArray) ++ ((x0.take x5.toNat).drop (0 : Int).toNat)) ++ [x1]) ++ ((x0.take (x0.length : Int).toNat).drop x5.toNat))) (none)) (none)) (none)) (none)) (none))) (none)) (ifb (decide (0 ≤ (0 : Int)) && (decide ((0 : Int) ≤ x5) && decide (x5 ≤ (x0.length : Int)))) (ifb (decide ((([] : List ByteArray).length + ((x0.take x5.toNat).drop (0 : Int).toNat).length) * 16 ≤ q0u)) (ifb (decide (((([] : List ByteArray) ++ ((x0.take x5.toNat).drop (0 : Int).toNat)).length + [x1].length) * 16 ≤ q0u)) (ifb (decide (0 ≤ x5) && (decide (x5 ≤ (x0.length : Int)) && decide ((x0.length : Int) ≤ (x0.length : Int)))) (ifb (decide ((((([] : List ByteArray) ++ ((x0.take x5.toNat).drop (0 : Int).toNat)) ++ [x1]).length + ((x0.take (x0.length : Int).toNat).drop x5.toNat).length) * 16 ≤ q0u)) (some (((([] : List ByteArray) ++ ((x0.take x5.toNat).drop (0 : Int).toNat)) ++ [x1]) ++ ((x0.take (x0.length : Int).toNat).drop x5.toNat))) (none)) (none)) (none)) (none)) (none)))) (none)) (ifb (decide (x5 < (x0.length : Int))) (ifb (decide (0 ≤ x5) && decide (x5 < (x0.length : Int))) (ifb ((x0.getD x5.toNat bz).toList == x1.toList) (some x0) (ifb (decide (0 ≤ (0 : Int)) && (decide ((0 : Int) ≤ x5) && decide (x5 ≤ (x0.length : Int)))) (ifb (decide ((([] : List ByteArray).length + ((x0.take x5.toNat).drop (0 : Int).toNat).length) * 16 ≤ q0u)) (ifb (decide (((([] : List ByteArray) ++ ((x0.take x5.toNat).drop (0 : Int).toNat)).length + [x1].length) * 16 ≤ q0u)) (ifb (decide (0 ≤ x5) && (decide (x5 ≤ (x0.length : Int)) && decide ((x0.length : Int) ≤ (x0.length : Int)))) (ifb (decide ((((([] : List ByteArray) ++ ((x0.take x5.toNat).drop (0 : Int).toNat)) ++ [x1]).length + ((x0.take (x0.length : Int).toNat).drop x5.toNat).length) * 16 ≤ q0u)) (some (((([] : List ByteArray) ++ ((x0.take x5.toNat).drop (0 : Int).toNat)) ++ [x1]) ++ ((x0.take (x0.length : Int).toNat).drop x5.toNat))) (none)) (none)) (none)) (none)) (none))) (none)) (ifb (decide (0 ≤ (0 : Int)) && (decide ((0 : Int) ≤ x5) && decide (x5 ≤ (x0.length : Int)))) (ifb (decide ((([] : List ByteArray).length + ((x0.take x5.toNat).drop (0 : Int).toNat).length) * 16 ≤ q0u)) (ifb (decide (((([] : List ByteArray) ++ ((x0.take x5.toNat).drop (0 : Int).toNat)).length + [x1].length) * 16 ≤ q0u)) (ifb (decide (0 ≤ x5) && (decide (x5 ≤ (x0.length : Int)) && decide ((x0.length : Int) ≤ (x0.length : Int)))) (ifb (decide ((((([] : List ByteArray) ++ ((x0.take x5.toNat).drop (0 : Int).toNat)) ++ [x1]).length + ((x0.take (x0.length : Int).toNat).drop x5.toNat).length) * 16 ≤ q0u)) (some (((([] : List ByteArray) ++ ((x0.take x5.toNat).drop (0 : Int).toNat)) ++ [x1]) ++ ((x0.take (x0.length : Int).toNat).drop x5.toNat))) (none)) (none)) (none)) (none)) (none))) := by kernel_rfl
abbrev q3c.e (k : Nat) : FuncId × CE := (115, ⟨q3c.ps, q3c.rs, q3c.F k⟩)
theorem q3c.q (k : Nat) : Qs (q3c.e k) := qq (C := q3c.C) (fun k => .nil) k
def q3g.C (k : Nat) : CEs := [q0t.e k]
abbrev q3g.ps : List Par := [⟨qap, .bx .ro⟩, ⟨.str, .rd⟩]
abbrev q3g.rs : List Res := [⟨t92, .ro, false⟩]
def q3g.F := q4p E q3g.C [] Tryz.f117 q3g.ps q3g.rs
def q3g.f (k : Nat) (x0 : List Int × Int) (x1 : ByteArray) : Option (En × (List Int × Int)) := q3g.F k (x0, x1)
theorem q3g.f_eq (k : Nat) (x0 : List Int × Int) (x1 : ByteArray) : q3g.f k x0 x1 = (q0t.f k x0 [bz, bz, (⟨#[83]⟩ : ByteArray), (⟨#[71, 83]⟩ : ByteArray), (⟨#[85]⟩ : ByteArray), (⟨#[71, 85]⟩ : ByteArray), (⟨#[82]⟩ : ByteArray), (⟨#[84]⟩ : ByteArray), (⟨#[67, 82, 83, 85]⟩ : ByteArray)]).bind fun (r0 : ByteArray × (List Int × Int)) => some ((x1, r0.1), r0.2) := by kernel_rfl
abbrev q3g.e (k : Nat) : FuncId × CE := (117, ⟨q3g.ps, q3g.rs, q3g.F k⟩)
theorem q3g.q (k : Nat) : Qs (q3g.e k) := qq (C := q3g.C) (fun k => .c (q0t.q k) <| .nil) k
end
end Go.Proofs.YtnjdoinlnbjedaaGreatDoor.Rf
end

section
namespace Go.Proofs.YtnjdoinlnbjedaaGreatDoor.Rf
open Go Go.RowKit
set_option linter.unusedVariables false
noncomputable section
def q0e.C (k : Nat) : CEs := [q07.e k, q0f.e k, q23.e k, q3c.e k, q3g.e k]
abbrev q0e.ps : List Par := [⟨qap, .bx .ro⟩]
abbrev q0e.rs : List Res := [⟨t38, (.pr (.own .ro) (.own .ro)), false⟩]
def q0e.H : q4o := [(4, [(0, .ro), (2, (.pr (.own .ro) (.own .ro))), (3, (.pr (.own .ro) (.own .ro))), (4, (.own .ro)), (5, .ro)]), (9, [(0, .ro), (2, (.pr (.own .ro) (.own .ro))), (3, (.pr (.own .ro) (.own .ro))), (4, (.own .ro)), (6, .ro)]), (12, [(0, .ro), (2, (.pr (.own .ro) (.own .ro))), (3, (.pr (.own .ro) (.own .ro))), (4, (.own .ro))]), (13, [(0, .ro), (2, (.pr (.own .ro) (.own .ro))), (3, (.pr (.own .ro) (.own .ro))), (4, (.own .ro)), (7, .ro)])]
def q0e.F := q4p E q0e.C q0e.H Tryz.f64 q0e.ps q0e.rs
def q0e.L4 (k k1 : Nat) (x0 : List Int × Int) (x2 : Book) (x3 : Book) (x4 : List ByteArray) (x5 : Int) : Option (Book × (List Int × Int)) := atL E q0e.C q0e.H Tryz.f64 q0e.ps q0e.rs [true, true, true, false, true, true] k [] k1 (sh 56 [(0, .box qap x0 .ro none), (2, .box t38 x2 (.pr (.own .ro) (.own .ro)) none), (3, .box t38 x3 (.pr (.own .ro) (.own .ro)) none), (4, .d (.row .str) x4 (.own .ro)), (5, .d (.int .i64) x5 .ro)])
def q0e.L9 (k k1 : Nat) (x0 : List Int × Int) (x2 : Book) (x3 : Book) (x4 : List ByteArray) (x6 : Int) : Option (Book × (List Int × Int)) := atL E q0e.C q0e.H Tryz.f64 q0e.ps q0e.rs [true, true, true, true, false, true, false, true, true] k [] k1 (sh 56 [(0, .box qap x0 .ro none), (2, .box t38 x2 (.pr (.own .ro) (.own .ro)) none), (3, .box t38 x3 (.pr (.own .ro) (.own .ro)) none), (4, .d (.row .str) x4 (.own .ro)), (6, .d (.int .i64) x6 .ro)])
def q0e.J12 (k : Nat) (x0 : List Int × Int) (x2 : Book) (x3 : Book) (x4 : List ByteArray) : Option (Book × (List Int × Int)) := atJ E q0e.C q0e.H Tryz.f64 q0e.ps q0e.rs [true, true, true, true, true] 0 [] k (sh 56 [(0, .box qap x0 .ro none), (2, .box t38 x2 (.pr (.own .ro) (.own .ro)) none), (3, .box t38 x3 (.pr (.own .ro) (.own .ro)) none), (4, .d (.row .str) x4 (.own .ro))])
def q0e.L13 (k k1 : Nat) (x0 : List Int × Int) (x2 : Book) (x3 : Book) (x4 : List ByteArray) (x7 : Int) : Option (Book × (List Int × Int)) := atL E q0e.C q0e.H Tryz.f64 q0e.ps q0e.rs [true, true, true, true, true, false, true, true] 0 [k] k1 (sh 56 [(0, .box qap x0 .ro none), (2, .box t38 x2 (.pr (.own .ro) (.own .ro)) none), (3, .box t38 x3 (.pr (.own .ro) (.own .ro)) none), (4, .d (.row .str) x4 (.own .ro)), (7, .d (.int .i64) x7 .ro)])
def q0e.f (k : Nat) (x0 : List Int × Int) : Option (Book × (List Int × Int)) := q0e.F k x0
theorem q0e.f_eq (k : Nat) (x0 : List Int × Int) : q0e.f k x0 = (q0f.f k x0).bind fun (r0 : List Aff × (List Int × Int)) => (q07.f k r0.2 (7 : Int)).bind fun (r1 : Int × (List Int × Int)) => q0e.L4 k k r1.2 (([] : List Aff), ([] : List En)) (r0.1, ([] : List En)) ([] : List ByteArray) r1.1 := by kernel_rfl
theorem q0e.L4_eq (k k1 : Nat) (x0 : List Int × Int) (x2 : Book) (x3 : Book) (x4 : List ByteArray) (x5 : Int) : q0e.L4 k (k1 + 1) x0 x2 x3 x4 x5 = ifb (decide (x5 > 0)) ((q23.f k1 x0).bind fun (r2 : ByteArray × (List Int × Int)) => (q3c.f k1 x4 r2.1).bind fun (r3 : List ByteArray) => q0e.L4 k k1 r2.2 x2 x3 r3 (w64 (x5 - 1))) ((q07.f k x0 (30 : Int)).bind fun (r4 : Int × (List Int × Int)) => ifb (r4.1 == (0 : Int)) (q0e.L9 k k r4.2 x2 x3 x4 (0 : Int)) (q0e.J12 k r4.2 x2 x3 x4)) := by kernel_rfl
theorem q0e.L9_eq (k k1 : Nat) (x0 : List Int × Int) (x2 : Book) (x3 : Book) (x4 : List ByteArray) (x6 : Int) : q0e.L9 k (k1 + 1) x0 x2 x3 x4 x6 = ifb (decide ((x4.length : Int) < (24 : Int))) (ifb (q5m ((⟨#[119]⟩ : ByteArray).size + (strOf [(IntKind.u8.wrap (w64 ((97 : Int) + x6)))]).size)) ((q3c.f k1 x4 ((⟨#[119]⟩ : ByteArray) ++ (strOf [(IntKind.u8.wrap (w64 ((97 : Int) + x6)))]))).bind fun (r5 : List ByteArray) => q0e.L9 k k1 x0 x2 x3 r5 (w64 (x6 + 1))) (none)) (q0e.J12 k x0 x2 x3 x4) := by kernel_rfl
theorem q0e.J12_eq (k : Nat) (x0 : List Int × Int) (x2 : Book) (x3 : Book) (x4 : List ByteArray) : q0e.J12 (k + 1) x0 x2 x3 x4 = q0e.L13 k k x0 x2 x3 x4 (0 : Int) := by kernel_rfl
theorem q0e.L13_eq (k k1 : Nat) (x0 : List Int × Int) (x2 : Book) (x3 : Book) (x4 : List ByteArray) (x7 : Int) : q0e.L13 k (k1 + 1) x0 x2 x3 x4 x7 = ifb (decide (x7 < (x4.length : Int))) (ifb (decide (0 ≤ x7) && decide (x7 < (x4.length : Int))) ((q3g.f k1 x0 (x4.getD x7.toNat bz)).bind fun (r6 : En × (List Int × Int)) => ifb (decide ((x3.2.length + [r6.1].length) * 32 ≤ q0u)) (q0e.L13 k k1 r6.2 x2 (x3.1, (x3.2 ++ [r6.1])) x4 (w64 (x7 + 1))) (none)) (none)) (some (x3, x0)) := by kernel_rfl
abbrev q0e.e (k : Nat) : FuncId × CE := (64, ⟨q0e.ps, q0e.rs, q0e.F k⟩)
theorem q0e.q (k : Nat) : Qs (q0e.e k) := qq (C := q0e.C) (fun k => .c (q07.q k) <| .c (q0f.q k) <| .c (q23.q k) <| .c (q3c.q k) <| .c (q3g.q k) <| .nil) k
def q38.C (k : Nat) : CEs := [q07.e k, q0e.e k, q21.e k]
abbrev q38.ps : List Par := [⟨qap, .bx .ro⟩, ⟨.str, .rd⟩]
abbrev q38.rs : List Res := [⟨t28, (.pr .ro (.pr (.pr (.own .ro) (.pr (.own .ro) (.pr .ro (.own .ro)))) .ro)), false⟩]
def q38.F := q4p E q38.C [] Tryz.f81 q38.ps q38.rs
def q38.f (k : Nat) (x0 : List Int × Int) (x1 : ByteArray) : Option (Release × (List Int × Int)) := q38.F k (x0, x1)
theorem q38.f_eq (k : Nat) (x0 : List Int × Int) (x1 : ByteArray) : q38.f k x0 x1 = (q07.f k x0 (3 : Int)).bind fun (r0 : Int × (List Int × Int)) => (q0e.f k r0.2).bind fun (r1 : Book × (List Int × Int)) => (q0e.f k r1.2).bind fun (r2 : Book × (List Int × Int)) => (q21.f k x1 r0.1 r1.1 r2.1).bind fun (r3 : Release × Bool) => some (r3.1, r2.2) := by kernel_rfl
abbrev q38.e (k : Nat) : FuncId × CE := (81, ⟨q38.ps, q38.rs, q38.F k⟩)
theorem q38.q (k : Nat) : Qs (q38.e k) := qq (C := q38.C) (fun k => .c (q07.q k) <| .c (q0e.q k) <| .c (q21.q k) <| .nil) k
def q3d.C (k : Nat) : CEs := [q07.e k]
abbrev q3d.ps : List Par := [⟨qap, .bx .ro⟩, ⟨t105, .rd⟩]
abbrev q3d.rs : List Res := [⟨(.int .i64), .ro, false⟩]
def q3d.F := q4p E q3d.C [] Tryz.f82 q3d.ps q3d.rs
def q3d.f (k : Nat) (x0 : List Int × Int) (x1 : List Int) : Option (Int × (List Int × Int)) := q3d.F k (x0, x1)
theorem q3d.f_eq (k : Nat) (x0 : List Int × Int) (x1 : List Int) : q3d.f k x0 x1 = (q07.f k x0 (x1.length : Int)).bind fun (r0 : Int × (List Int × Int)) => ifb (decide (0 ≤ r0.1) && decide (r0.1 < (x1.length : Int))) (some ((x1.getD r0.1.toNat (0 : Int)), r0.2)) (none) := by kernel_rfl
abbrev q3d.e (k : Nat) : FuncId × CE := (82, ⟨q3d.ps, q3d.rs, q3d.F k⟩)
theorem q3d.q (k : Nat) : Qs (q3d.e k) := qq (C := q3d.C) (fun k => .c (q07.q k) <| .nil) k
def q3s.C (k : Nat) : CEs := [q07.e k, q0e.e k, q0s.e k]
abbrev q3s.ps : List Par := [⟨qap, .bx .ro⟩]
abbrev q3s.rs : List Res := [⟨t26, (.pr (.own .ro) (.pr (.own .ro) (.pr .ro (.own .ro)))), false⟩]
def q3s.F := q4p E q3s.C [] Tryz.f131 q3s.ps q3s.rs
def q3s.f (k : Nat) (x0 : List Int × Int) : Option (Delta × (List Int × Int)) := q3s.F k x0
theorem q3s.f_eq (k : Nat) (x0 : List Int × Int) : q3s.f k x0 = (q0e.f k x0).bind fun (r0 : Book × (List Int × Int)) => (q0e.f k r0.2).bind fun (r1 : Book × (List Int × Int)) => (q0s.f k r0.1 r1.1).bind fun (r2 : Delta) => (q07.f k r1.2 (3 : Int)).bind fun (r3 : Int × (List Int × Int)) => ifb (r3.1 == (0 : Int)) (some ((([] : List ByteArray), r2.2), r3.2)) (some (r2, r3.2)) := by kernel_rfl
abbrev q3s.e (k : Nat) : FuncId × CE := (131, ⟨q3s.ps, q3s.rs, q3s.F k⟩)
theorem q3s.q (k : Nat) : Qs (q3s.e k) := qq (C := q3s.C) (fun k => .c (q07.q k) <| .c (q0e.q k) <| .c (q0s.q k) <| .nil) k
def q2l.C (k : Nat) : CEs := [q07.e k, q0t.e k, q23.e k]
abbrev q2l.ps : List Par := [⟨qap, .bx .ro⟩]
abbrev q2l.rs : List Res := [⟨.str, .ro, false⟩]
def q2l.F := q4p E q2l.C [] Tryz.f113 q2l.ps q2l.rs
def q2l.f (k : Nat) (x0 : List Int × Int) : Option (ByteArray × (List Int × Int)) := q2l.F k x0
theorem q2l.f_eq (k : Nat) (x0 : List Int × Int) : q2l.f k x0 = (q07.f k x0 (16 : Int)).bind fun (r0 : Int × (List Int × Int)) => ifb (r0.1 == (0 : Int)) ((q0t.f k r0.2 [bz, (⟨#[67, 97, 116]⟩ : ByteArray), (⟨#[97, 32, 98]⟩ : ByteArray), (⟨#[97, 98, 99, 97, 98, 99, 97, 98, 99, 97, 98, 99, 97]⟩ : ByteArray), (⟨#[120, 49]⟩ : ByteArray), (⟨#[45]⟩ : ByteArray)]).bind fun (r1 : ByteArray × (List Int × Int)) => some (r1.1, r1.2)) ((q23.f k r0.2).bind fun (r2 : ByteArray × (List Int × Int)) => some (r2.1, r2.2)) := by kernel_rfl
abbrev q2l.e (k : Nat) : FuncId × CE := (113, ⟨q2l.ps, q2l.rs, q2l.F k⟩)
theorem q2l.q (k : Nat) : Qs (q2l.e k) := qq (C := q2l.C) (fun k => .c (q07.q k) <| .c (q0t.q k) <| .c (q23.q k) <| .nil) k
def q2f.C (k : Nat) : CEs := [q07.e k, q0t.e k, q1y.e k]
abbrev q2f.ps : List Par := [⟨qap, .bx .ro⟩]
abbrev q2f.rs : List Res := [⟨t90, .ro, false⟩]
def q2f.F := q4p E q2f.C [] Tryz.f112 q2f.ps q2f.rs
def q2f.f (k : Nat) (x0 : List Int × Int) : Option ((Aff) × (List Int × Int)) := q2f.F k x0
theorem q2f.f_eq (k : Nat) (x0 : List Int × Int) : q2f.f k x0 = (q1y.f k x0).bind fun (r0 : (Aff) × (List Int × Int)) => (q07.f k r0.2 (12 : Int)).bind fun (r1 : Int × (List Int × Int)) => ifb (r1.1 == (0 : Int)) ((q0t.f k r1.2 [bz, (⟨#[115]⟩ : ByteArray), (⟨#[65, 66]⟩ : ByteArray), (⟨#[90]⟩ : ByteArray)]).bind fun (r2 : ByteArray × (List Int × Int)) => some ((r2.1, r0.1.2), r2.2)) (ifb (r1.1 == (1 : Int)) ((q0t.f k r1.2 [(⟨#[121]⟩ : ByteArray), (⟨#[97, 98, 99, 100, 101]⟩ : ByteArray), bz, (⟨#[89]⟩ : ByteArray)]).bind fun (r3 : ByteArray × (List Int × Int)) => some ((r0.1.1, r0.1.2.1, r3.1, r0.1.2.2.2), r3.2)) (ifb (r1.1 == (2 : Int)) ((q0t.f k r1.2 [(⟨#[121]⟩ : ByteArray), (⟨#[116, 121]⟩ : ByteArray), (⟨#[97, 98, 99, 100, 101]⟩ : ByteArray), bz]).bind fun (r4 : ByteArray × (List Int × Int)) => some ((r0.1.1, r0.1.2.1, r0.1.2.2.1, r0.1.2.2.2.1, r4.1), r4.2)) (ifb (r1.1 == (3 : Int)) (some ((r0.1.1, (!r0.1.2.1), r0.1.2.2), r1.2)) (some (r0.1, r1.2))))) := by kernel_rfl
abbrev q2f.e (k : Nat) : FuncId × CE := (112, ⟨q2f.ps, q2f.rs, q2f.F k⟩)
theorem q2f.q (k : Nat) : Qs (q2f.e k) := qq (C := q2f.C) (fun k => .c (q07.q k) <| .c (q0t.q k) <| .c (q1y.q k) <| .nil) k
def q2u.C (k : Nat) : CEs := [q07.e k, q3g.e k, q3s.e k, q2l.e k, q2f.e k]
abbrev q2u.ps : List Par := [⟨qap, .bx .ro⟩]
abbrev q2u.rs : List Res := [⟨t26, (.pr (.own .ro) (.pr (.own .ro) (.pr .ro (.own .ro)))), false⟩]
def q2u.F := q4p E q2u.C [] Tryz.f83 q2u.ps q2u.rs
def q2u.f (k : Nat) (x0 : List Int × Int) : Option (Delta × (List Int × Int)) := q2u.F k x0
theorem q2u.f_eq (k : Nat) (x0 : List Int × Int) : q2u.f k x0 = (q3s.f k x0).bind fun (r0 : Delta × (List Int × Int)) => (q07.f k r0.2 (12 : Int)).bind fun (r1 : Int × (List Int × Int)) => ifb (r1.1 == (0 : Int)) (ifb (decide ((([] : List ByteArray).length + r0.1.1.length) * 16 ≤ q0u)) ((q2l.f k r1.2).bind fun (r2 : ByteArray × (List Int × Int)) => ifb (decide (((([] : List ByteArray) ++ r0.1.1).length + [r2.1].length) * 16 ≤ q0u)) (some ((((([] : List ByteArray) ++ r0.1.1) ++ [r2.1]), r0.1.2), r2.2)) (none)) (none)) (ifb (r1.1 == (1 : Int)) (ifb (decide ((([] : List En).length + r0.1.2.1.length) * 32 ≤ q0u)) ((q2l.f k r1.2).bind fun (r3 : ByteArray × (List Int × Int)) => (q3g.f k r3.2 r3.1).bind fun (r4 : En × (List Int × Int)) => ifb (decide (((([] : List En) ++ r0.1.2.1).length + [r4.1].length) * 32 ≤ q0u)) (some ((r0.1.1, ((([] : List En) ++ r0.1.2.1) ++ [r4.1]), r0.1.2.2), r4.2)) (none)) (none)) (ifb (r1.1 == (2 : Int)) (some ((r0.1.1, r0.1.2.1, (!r0.1.2.2.1), r0.1.2.2.2), r1.2)) (ifb (r1.1 == (3 : Int)) (ifb (decide ((([] : List Aff).length + r0.1.2.2.2.length) * 72 ≤ q0u)) ((q2f.f k r1.2).bind fun (r5 : (Aff) × (List Int × Int)) => ifb (decide (((([] : List Aff) ++ r0.1.2.2.2).length + [r5.1].length) * 72 ≤ q0u)) (some ((r0.1.1, r0.1.2.1, r0.1.2.2.1, ((([] : List Aff) ++ r0.1.2.2.2) ++ [r5.1])), r5.2)) (none)) (none)) (some (r0.1, r1.2))))) := by kernel_rfl
abbrev q2u.e (k : Nat) : FuncId × CE := (83, ⟨q2u.ps, q2u.rs, q2u.F k⟩)
theorem q2u.q (k : Nat) : Qs (q2u.e k) := qq (C := q2u.C) (fun k => .c (q07.q k) <| .c (q3g.q k) <| .c (q3s.q k) <| .c (q2l.q k) <| .c (q2f.q k) <| .nil) k
def q1l.C (k : Nat) : CEs := [q37.e k, q07.e k, q0t.e k, q38.e k, q3d.e k, q2u.e k]
abbrev q1l.ps : List Par := [⟨qap, .bx .ro⟩, ⟨.str, .rd⟩]
abbrev q1l.rs : List Res := [⟨t28, (.pr .ro (.pr (.pr (.own .ro) (.pr (.own .ro) (.pr .ro (.own .ro)))) .ro)), false⟩]
def q1l.F := q4p E q1l.C [] Tryz.f34 q1l.ps q1l.rs
def q1l.f (k : Nat) (x0 : List Int × Int) (x1 : ByteArray) : Option (Release × (List Int × Int)) := q1l.F k (x0, x1)
theorem q1l.f_eq (k : Nat) (x0 : List Int × Int) (x1 : ByteArray) : q1l.f k x0 x1 = (q38.f k x0 x1).bind fun (r0 : Release × (List Int × Int)) => (q07.f k r0.2 (10 : Int)).bind fun (r1 : Int × (List Int × Int)) => ifb (r1.1 == (0 : Int)) ((q3d.f k r1.2 [(0 : Int), (1000000 : Int), (w64 (r0.1.1 + 1))]).bind fun (r2 : Int × (List Int × Int)) => some ((r2.1, r0.1.2), r2.2)) (ifb (r1.1 == (1 : Int)) ((q2u.f k r1.2).bind fun (r3 : Delta × (List Int × Int)) => some ((r0.1.1, r3.1, r0.1.2.2), r3.2)) (ifb (r1.1 == (2 : Int)) ((q37.f k (⟨#[120]⟩ : ByteArray)).bind fun (r4 : ByteArray) => some ((r0.1.1, r0.1.2.1, r4, r0.1.2.2.2), r1.2)) (ifb (r1.1 == (3 : Int)) ((q37.f k (⟨#[121]⟩ : ByteArray)).bind fun (r5 : ByteArray) => (q37.f k (⟨#[122]⟩ : ByteArray)).bind fun (r6 : ByteArray) => ifb (decide (0 ≤ (1 : Int)) && (decide ((1 : Int) ≤ (r6.size : Int)) && decide ((r6.size : Int) ≤ (r6.size : Int)))) (ifb (q5m ((⟨#[88]⟩ : ByteArray).size + (r6.extract (1 : Int).toNat (r6.size : Int).toNat).size)) ((q0t.f k r1.2 [bz, r5, ((⟨#[88]⟩ : ByteArray) ++ (r6.extract (1 : Int).toNat (r6.size : Int).toNat))]).bind fun (r7 : ByteArray × (List Int × Int)) => some ((r0.1.1, r0.1.2.1, r0.1.2.2.1, r7.1), r7.2)) (none)) (none)) (some (r0.1, r1.2))))) := by kernel_rfl
abbrev q1l.e (k : Nat) : FuncId × CE := (34, ⟨q1l.ps, q1l.rs, q1l.F k⟩)
theorem q1l.q (k : Nat) : Qs (q1l.e k) := qq (C := q1l.C) (fun k => .c (q37.q k) <| .c (q07.q k) <| .c (q0t.q k) <| .c (q38.q k) <| .c (q3d.q k) <| .c (q2u.q k) <| .nil) k
end
end Go.Proofs.YtnjdoinlnbjedaaGreatDoor.Rf
end

section
/- The reader that draws: what it picks stays in its range. -/
namespace Go.Proofs.YtnjdoinlnbjedaaGreatDoor.Rf
open Go Go.RowKit
set_option linter.unusedVariables false
set_option linter.unusedSimpArgs false
theorem Dr.bindv {γ β : Type} {X : Nat → Option γ} {g : Nat → γ → Option (β × Rdr)} {n : Int} {Q : β → Prop} {v : γ} (h : Al fun k => X k = some v) (k : Dr (fun k => g k v) n Q) : Dr (fun k => (X k).bind (g k)) n Q := by
  obtain ⟨w, y, e2, q, s⟩ := k
  exact ⟨w, y, (h.and e2).mono fun k ⟨a, b⟩ => by show (X k).bind (g k) = _; rw [a, Option.bind_some]; exact b, q, s⟩
theorem Dr2.bindv {γ β : Type} {X : Nat → Nat → Option γ} {g : Nat → Nat → γ → Option (β × Rdr)} {n : Int} {Q : β → Prop} {v : γ} (h : Al2 fun k k1 => X k k1 = some v) (k : Dr2 (fun k k1 => g k k1 v) n Q) : Dr2 (fun k k1 => (X k k1).bind (g k k1)) n Q := by
  obtain ⟨w, y, e2, q, s⟩ := k
  exact ⟨w, y, (h.and e2).mono fun k k1 ⟨a, b⟩ => by show (X k k1).bind (g k k1) = _; rw [a, Option.bind_some]; exact b, q, s⟩
theorem qs8 (a b : Nat) (ha : a < 2 ^ 62) (hb : b < 2 ^ 62) : 0 ≤ IntKind.i64.wrap ((BitVec.ofInt 64 (a : Int) ^^^ BitVec.ofInt 64 (b : Int)).toNat : Int) := by
  have h2 : (2 : Nat) ^ 62 ≤ 2 ^ 64 := by decide
  have ha' : a % 2 ^ 64 = a := Nat.mod_eq_of_lt (Nat.lt_of_lt_of_le ha h2)
  have hb' : b % 2 ^ 64 = b := Nat.mod_eq_of_lt (Nat.lt_of_lt_of_le hb h2)
  have e1 : (BitVec.ofInt 64 (a : Int)).toNat = a := by rw [BitVec.ofInt_natCast, BitVec.toNat_ofNat]; exact ha'
  have e2 : (BitVec.ofInt 64 (b : Int)).toNat = b := by rw [BitVec.ofInt_natCast, BitVec.toNat_ofNat]; exact hb'
  rw [BitVec.toNat_xor, e1, e2]
  have h3 : a ^^^ b < 4611686018427387904 := Nat.lt_of_lt_of_eq (Nat.xor_lt_two_pow ha hb) (by decide)
  generalize a ^^^ b = X at h3
  rw [q6w (by omega) (by omega)]
  omega
theorem qs9 (a b : Int) (ha : 0 ≤ a) (hb : 0 ≤ b) (ha1 : a < 2 ^ 62) (hb1 : b < 2 ^ 62) : 0 ≤ IntKind.i64.wrap ((BitVec.ofInt 64 a ^^^ BitVec.ofInt 64 b).toNat : Int) := by
  obtain ⟨m, rfl⟩ := Int.eq_ofNat_of_zero_le ha
  obtain ⟨n, rfl⟩ := Int.eq_ofNat_of_zero_le hb
  exact qs8 m n (by exact_mod_cast ha1) (by exact_mod_cast hb1)
theorem qi3 (s : List Int) (hs : ∀ b ∈ s, 0 ≤ b ∧ b ≤ 255) : ∃ x, Al (fun k => q2m.f k s = some x) ∧ Rd 0 x := by
  by_cases c : (s.length : Int) > 2000
  · refine ⟨((s.take (2000 : Int).toNat).drop (0 : Int).toNat, 0), Al.succ (Al.now fun k => ?_), ⟨fun b hb => hs b (List.mem_of_mem_take (List.mem_of_mem_drop hb)), ?_⟩, Int.le_refl _, Int.le_refl _⟩
    · rw [q2m.f_eq, decide_eq_true c, q08, q2m.J3_eq]
      rw [decide_eq_true (by omega), decide_eq_true (by omega), decide_eq_true (by omega)]
      simp only [Bool.and_self, q08]
    · simp only [List.length_drop, List.length_take]; omega
  · refine ⟨(s, 0), Al.succ (Al.now fun k => ?_), ⟨hs, show s.length ≤ 2000 by omega⟩, Int.le_refl _, Int.le_refl _⟩
    rw [q2m.f_eq, decide_eq_false c, q0d, q2m.J3_eq]
theorem q5q {m : Int} {x : Rdr} (h : Rd m x) (hm : m ≤ 1000000000) (n : Int) (n1 : 1 ≤ n) (n2 : n ≤ 1000000) : Dr (fun k => q07.f k x n) (m + 1) fun v => 0 ≤ v ∧ v < n := by
  obtain ⟨hs, hp0, hp1⟩ := h
  have hat := Rd.at (x := x) (m := m) ⟨hs, hp0, hp1⟩
  obtain ⟨s, p⟩ := x
  simp only at hp0 hp1 hat hs
  have w1 : w64 (p + 1) = p + 1 := q6w (by omega) (by omega)
  have w2 : w64 (p + 1 - 1) = p := by rw [show p + 1 - 1 = p by omega]; exact q6w (by omega) (by omega)
  have R : Rd (m + 1) (s, p + 1) := ⟨hs, by omega, by omega⟩
  have c : decide (n < 1) = false := decide_eq_false (by omega)
  have n0 : decide (n ≠ 0) = true := decide_eq_true (by omega)
  by_cases z : s.length = 0
  · refine ⟨0, (s, p + 1), Al.now fun k => ?_, ⟨Int.le_refl _, by omega⟩, R⟩
    show q07.f k (s, p) n = _
    rw [q07.f_eq]
    simp only [c, q0d, w1, z]
    rw [show (((0 : Nat) : Int) == 0) = true from rfl, q08]
  have z1 : ((s.length : Int) == 0) = false := by rw [beq_eq_false_iff_ne]; omega
  have tm : ∀ x : Int, 0 ≤ x → 0 ≤ Int.tmod x n ∧ Int.tmod x n < n := fun x hx => ⟨Int.tmod_nonneg _ hx, Int.tmod_lt_of_pos _ (by omega)⟩
  by_cases q : p < (s.length : Int)
  · have r0 := hat p.toNat
    have w3 : w64 (s.getD p.toNat 0) = s.getD p.toNat 0 := q6w (by omega) (by omega)
    refine ⟨_, (s, p + 1), Al.now fun k => ?_, tm _ r0.1, R⟩
    show q07.f k (s, p) n = _
    rw [q07.f_eq]
    simp only [c, q0d, w1, w2, z1, decide_eq_true q, decide_eq_true hp0, Bool.and_self, q08, n0, w3]
  · have hl := hs.2
    have l0 : decide ((s.length : Int) ≠ 0) = true := decide_eq_true (by omega)
    have m1 : 0 ≤ Int.tmod p (s.length : Int) ∧ Int.tmod p (s.length : Int) < (s.length : Int) := ⟨Int.tmod_nonneg _ hp0, Int.tmod_lt_of_pos _ (by omega)⟩
    have w7 : w64 (p * 7) = p * 7 := q6w (by omega) (by omega)
    have w8 : w64 (p * 7 + 3) = p * 7 + 3 := q6w (by omega) (by omega)
    have m2 : 0 ≤ Int.tmod (p * 7 + 3) (s.length : Int) ∧ Int.tmod (p * 7 + 3) (s.length : Int) < (s.length : Int) := ⟨Int.tmod_nonneg _ (by omega), Int.tmod_lt_of_pos _ (by omega)⟩
    generalize hA : Int.tmod p (s.length : Int) = A at m1
    generalize hB : Int.tmod (p * 7 + 3) (s.length : Int) = B at m2
    have ra := hat A.toNat
    have rb := hat B.toNat
    generalize hX : s.getD A.toNat (0 : Int) = X at ra
    generalize hY : s.getD B.toNat (0 : Int) = Y at rb
    have hd : 0 ≤ Int.tdiv p (s.length : Int) ∧ Int.tdiv p (s.length : Int) ≤ p := by
      refine ⟨Int.tdiv_nonneg hp0 (by omega), ?_⟩
      rw [Int.tdiv_eq_ediv_of_nonneg hp0]
      exact Int.ediv_le_self _ hp0
    generalize hD : Int.tdiv p (s.length : Int) = D at hd
    have v1 : w64 X = X := q6w (by omega) (by omega)
    have v2 : w64 (X * 131) = X * 131 := q6w (by omega) (by omega)
    have v3 : w64 Y = Y := q6w (by omega) (by omega)
    have v4 : w64 (Y * 1117) = Y * 1117 := q6w (by omega) (by omega)
    have v5 : w64 (X * 131 + Y * 1117) = X * 131 + Y * 1117 := q6w (by omega) (by omega)
    have v6 : w64 (p * 29) = p * 29 := q6w (by omega) (by omega)
    have v7 : w64 (X * 131 + Y * 1117 + p * 29) = X * 131 + Y * 1117 + p * 29 := q6w (by omega) (by omega)
    have v8 : w64 D = D := q6w (by omega) (by omega)
    have v9 : w64 (D * 53) = D * 53 := q6w (by omega) (by omega)
    have v10 : w64 (X * 131 + Y * 1117 + p * 29 + D * 53) = X * 131 + Y * 1117 + p * 29 + D * 53 := q6w (by omega) (by omega)
    have hS0 : 0 ≤ X * 131 + Y * 1117 + p * 29 + D * 53 ∧ X * 131 + Y * 1117 + p * 29 + D * 53 ≤ 1000000000000 := by omega
    have e0 : ∀ k, q07.f k (s, p) n = q07.J8 k (s, p + 1) n (X * 131 + Y * 1117 + p * 29 + D * 53) := by
      intro k
      rw [q07.f_eq]
      simp only [c, q0d, w1, w2, z1, decide_eq_false q, l0, q08, hA, w7, w8, hB, decide_eq_true m1.1, decide_eq_true m1.2, decide_eq_true m2.1, decide_eq_true m2.2, Bool.and_self, hX, hY, hD, v1, v2, v3, v4, v5, v6, v7, v8, v9, v10]
    generalize X * 131 + Y * 1117 + p * 29 + D * 53 = S at e0 hS0
    have hq : 0 ≤ Int.tdiv S 64 ∧ Int.tdiv S 64 ≤ S := by
      refine ⟨Int.tdiv_nonneg hS0.1 (by omega), ?_⟩
      rw [Int.tdiv_eq_ediv_of_nonneg hS0.1]
      exact Int.ediv_le_self _ hS0.1
    have v11 : w64 (Int.tdiv S 64) = Int.tdiv S 64 := q6w (by omega) (by omega)
    have hx := qs9 S (Int.tdiv S 64) hS0.1 hq.1 (by omega) (by omega)
    refine ⟨_, (s, p + 1), Al.succ (Al.now fun k => ?_), tm _ hx, R⟩
    show q07.f _ (s, p) n = _
    rw [e0, q07.J8_eq]
    simp only [n0, v11, q08, show decide ((64 : Int) ≠ 0) = true from rfl]
theorem qbs {m : Int} {x : Rdr} (h : Rd m x) (hm : m ≤ 1000000000) (l : List ByteArray) (l1 : 1 ≤ l.length) (l2 : l.length ≤ 1000000) : Dr (fun k => q0t.f k x l) (m + 1) fun v => v ∈ l := by
  obtain ⟨v, x', e, ⟨p0, p1⟩, r⟩ := q5q h hm (l.length : Int) (by omega) (by omega)
  have hv : v.toNat < l.length := by omega
  refine ⟨l.getD v.toNat bz, x', e.mono fun k e => ?_, ?_, r⟩
  · have e' : q07.f k x (l.length : Int) = some (v, x') := e
    show q0t.f k x l = _
    rw [q0t.f_eq, e', Option.bind_some]
    simp only [decide_eq_true p0, decide_eq_true p1, Bool.and_self, q08]
  · rw [List.getD_eq_getElem?_getD, List.getElem?_eq_getElem hv]
    exact List.getElem_mem hv
theorem qph (a b : Int) : Al fun k => q4b.f k a b = some (if a < b then a else b) := Al.now fun k => by
  rw [q4b.f_eq]
  by_cases h : a < b
  · rw [decide_eq_true h, q08, if_pos h]
  · rw [decide_eq_false h, q0d, if_neg h]
def noW (n : Nat) (s : ByteArray) : Prop := s.size ≤ n ∧ (bl s).head? ≠ some 119
theorem qr7 {a b : ByteArray} {n m : Nat} (h : noW n a) (k : noW m b) : noW (n + m) (a ++ b) := by
  refine ⟨by rw [ByteArray.size_append]; exact Nat.add_le_add h.1 k.1, ?_⟩
  have e : bl (a ++ b) = bl a ++ bl b := by simp [bl]
  rw [e]
  cases ha : bl a with
  | nil => exact k.2
  | cons x t => have := h.2; rw [ha] at this; simpa using this
theorem qr8 {a : ByteArray} {n j : Nat} (h : noW n a) (hj : j ≤ a.size) : noW j (a.extract 0 j) := by
  refine ⟨by simp; omega, ?_⟩
  have e : bl (a.extract 0 j) = (bl a).take j := by simp [bl]
  rw [e]
  cases ha : bl a with
  | nil => simp
  | cons x t =>
    cases j with
    | zero => simp
    | succ j => have := h.2; rw [ha] at this; simpa using this
theorem qnl {m : Int} {x : Rdr} (h : Rd m x) (hm : m ≤ 900000000) : Dr (fun k => q23.f k x) (m + 12) (noW 12) := by
  have two : ∀ (n : Nat) (m : Int) (x : Rdr) (s : ByteArray), Rd m x → m + n ≤ 1000000000 → noW (1000 - 2 * n) s → n ≤ 6 → Dr2 (fun k k1 => q23.L4 k k1 x s (n : Int)) (m + n) (noW 12) := by
    intro n
    induction n with
    | zero =>
      intro m x s hx hm hs hn
      refine Dr2.succ (Dr2.congr (fun k k1 => q23.L4_eq k k1 x s _) ?_)
      simp only [show decide (((0 : Nat) : Int) > 0) = false from rfl, q0d]
      refine Dr2.bindv (qph _ _).fst ?_
      have hj : (if (s.size : Int) < 12 then (s.size : Int) else 12).toNat ≤ s.size ∧ (if (s.size : Int) < 12 then (s.size : Int) else 12).toNat ≤ 12 ∧ (0 : Int) ≤ (if (s.size : Int) < 12 then (s.size : Int) else 12) ∧ (if (s.size : Int) < 12 then (s.size : Int) else 12) ≤ (s.size : Int) := by split <;> omega
      have hw := qr8 hs hj.1
      refine Dr2.now (fun k k1 => by
        rw [decide_eq_true (Int.le_refl 0), decide_eq_true hj.2.2.1, decide_eq_true hj.2.2.2, Bool.and_self, Bool.and_self, q08]
        rfl) ⟨Nat.le_trans hw.1 hj.2.1, hw.2⟩ (hx.up (by omega))
    | succ n ih =>
      intro m x s hx hm hs hn
      refine Dr2.succ (Dr2.congr (fun k k1 => q23.L4_eq k k1 x s _) ?_)
      simp only [decide_eq_true (show ((n + 1 : Nat) : Int) > 0 by omega), q08]
      refine Dr2.bind (qbs hx (by omega) _ (by simp) (by simp)).snd fun v y hv hy => ?_
      have hv' : noW 2 v := by
        simp only [List.mem_cons, List.not_mem_nil, or_false] at hv
        rcases hv with rfl | rfl | rfl | rfl | rfl <;> exact ⟨by decide, by decide⟩
      have h2 := qr7 hs hv'
      have sz : q5m (s.size + v.size) = true := q4h (by have := hs.1; have := hv'.1; omega)
      have e1 : w64 (((n + 1 : Nat) : Int) - 1) = (n : Int) := by rw [show ((n + 1 : Nat) : Int) - 1 = (n : Int) by omega]; exact q6w (by omega) (by omega)
      simp only [sz, q08, e1]
      exact (ih (m + 1) y (s ++ v) hy (by omega) ⟨Nat.le_trans h2.1 (by omega), h2.2⟩ (by omega)).up (by omega) fun _ h => h
  refine Dr.congr (fun k => q23.f_eq k x) (Dr.bind (q5q h (by omega) 3 (by omega) (by omega)) fun v y hv hy => ?_)
  by_cases c : v = 0
  · subst c
    simp only [show ((0 : Int) == 0) = true from rfl, q08]
    refine Dr.bind (q5q hy (by omega) 5 (by omega) (by omega)) fun v z hv hz => ?_
    obtain ⟨n, rfl⟩ := Int.eq_ofNat_of_zero_le hv.1
    have e1 : w64 (1 + (n : Int)) = ((n + 1 : Nat) : Int) := by rw [show (1 : Int) + (n : Int) = ((n + 1 : Nat) : Int) by omega]; exact q6w (by omega) (by omega)
    simp only [e1]
    exact (two (n + 1) _ z bz hz (by omega) ⟨by simp, by decide⟩ (by omega)).diag.up (by omega) fun _ h => h
  · simp only [show (v == 0) = false by rw [beq_eq_false_iff_ne]; exact c, q0d]
    refine Dr.bind (qbs hy (by omega) _ (by simp) (by simp)) fun v z hv hz => ?_
    refine Dr.now (v := v) (x := z) (fun k => rfl) ?_ (hz.up (by omega))
    simp only [List.mem_cons, List.not_mem_nil, or_false] at hv
    rcases hv with rfl | rfl | rfl | rfl | rfl | rfl | rfl | rfl | rfl | rfl | rfl | rfl | rfl | rfl | rfl <;> exact ⟨by decide, by decide⟩
end Go.Proofs.YtnjdoinlnbjedaaGreatDoor.Rf
end

section
/- Draws: affixes, rows of words, entries, books. -/
namespace Go.Proofs.YtnjdoinlnbjedaaGreatDoor.Rf
open Go Go.RowKit
set_option linter.unusedVariables false
set_option linter.unusedSimpArgs false
theorem Dr3.pred {α : Type} {X : Nat → Nat → Nat → Option (α × Rdr)} {m : Int} {P : α → Prop} (h : Dr3 X m P) : Dr3 (fun a b c => X a b (c + 1)) m P := by
  obtain ⟨v, x, ⟨n, e⟩, r⟩ := h
  exact ⟨v, x, ⟨n, fun a b c ha hb hc => e a b (c + 1) ha hb (by omega)⟩, r⟩
theorem Dr2.fst3 {α : Type} {X : Nat → Nat → Option (α × Rdr)} {m : Int} {P : α → Prop} (h : Dr2 X m P) : Dr3 (fun a b _ => X a b) m P := by
  obtain ⟨v, x, e, r⟩ := h
  exact ⟨v, x, e.fst, r⟩
def szN (n : Nat) (s : ByteArray) : Prop := s.size ≤ n
theorem qbt {m : Int} {x : Rdr} (h : Rd m x) (hm : m ≤ 800000000) : Dr (fun k => q2l.f k x) (m + 20) (szN 13) := by
  refine Dr.congr (fun k => q2l.f_eq k x) (Dr.bind (q5q h (by omega) 16 (by omega) (by omega)) fun v y hv hy => ?_)
  by_cases c : v = 0
  · subst c
    simp only [show ((0 : Int) == 0) = true from rfl, q08]
    refine Dr.bind (qbs hy (by omega) _ (by simp) (by simp)) fun v z hv hz => ?_
    refine Dr.now (v := v) (x := z) (fun k => rfl) ?_ (hz.up (by omega))
    simp only [List.mem_cons, List.not_mem_nil, or_false] at hv
    rcases hv with rfl | rfl | rfl | rfl | rfl | rfl <;> (unfold szN; decide)
  · simp only [show (v == 0) = false by rw [beq_eq_false_iff_ne]; exact c, q0d]
    refine Dr.bind (qnl hy (by omega)) fun v z hv hz => ?_
    exact Dr.now (v := v) (x := z) (fun k => rfl) (Nat.le_trans hv.1 (by omega)) (hz.up (by omega))
theorem qkb {m : Int} {x : Rdr} (h : Rd m x) (hm : m ≤ 800000000) : Dr (fun k => q1y.f k x) (m + 1) qs5 := by
  refine Dr.congr (fun k => q1y.f_eq k x) (Dr.succ ?_)
  refine Dr.congr (fun k => q1y.J2_eq k x _ _) ?_
  refine Dr.bind (q5q h (by omega) _ (by simp) (by simp)) fun v y hv hy => ?_
  have p0 := hv.1
  have p1 := hv.2
  simp only [decide_eq_true p0, decide_eq_true p1, Bool.and_self, q08]
  refine Dr.now (v := _) (x := y) (fun k => rfl) ?_ hy
  obtain ⟨n, rfl⟩ := Int.eq_ofNat_of_zero_le p0
  simp only [List.length_cons, List.length_nil] at p1
  have : n = 0 ∨ n = 1 ∨ n = 2 ∨ n = 3 ∨ n = 4 ∨ n = 5 ∨ n = 6 ∨ n = 7 := by omega
  rcases this with rfl | rfl | rfl | rfl | rfl | rfl | rfl | rfl <;> exact ⟨by decide, by decide, by decide, by decide⟩
theorem qr9 {y : Rdr} {l : List Aff} {a : Aff} {n : Nat} {M : Int} {P : List Aff → Prop} (hl : l.length ≤ 100) (hn : n ≤ 100)
    (hA : Dr2 (fun k k1 => q0f.L3 k k1 y (l ++ [a]) (n : Int)) M P) (hB : Dr2 (fun k k1 => q0f.L3 k k1 y l (n : Int)) M P) :
    ∀ j i : Nat, i + j = l.length → ∀ b : Bool, Dr3 (fun k k1 k2 => q0f.L8 k k1 k2 y l ((n + 1 : Nat) : Int) a b (i : Int)) M P := by
  have e1 : w64 (((n + 1 : Nat) : Int) - 1) = (n : Int) := by rw [show ((n + 1 : Nat) : Int) - 1 = (n : Int) by omega]; exact q6w (by omega) (by omega)
  have e2 : decide ((l.length + [a].length) * 72 ≤ q0u) = true := decide_eq_true (by simp [q0u]; omega)
  intro j
  induction j with
  | zero =>
    intro i hi b
    refine Dr3.succ (Dr3.congr (fun k k1 k2 => q0f.L8_eq k k1 k2 y l _ a b _) ?_)
    simp only [at_end (show ¬ i < l.length by omega), q0d, e1, e2, q08]
    cases b
    · simp only [Bool.not_false, q08]; exact hA.fst3
    · simp only [Bool.not_true, q0d]; exact hB.fst3
  | succ j ih =>
    intro i hi b
    obtain ⟨c1, c2, c3, c4⟩ := q66 (show i < l.length by omega) (by omega)
    refine Dr3.succ (Dr3.congr (fun k k1 k2 => q0f.L8_eq k k1 k2 y l _ a b _) (Dr3.succ ?_))
    simp only [c1, c2, Bool.and_self, q08, q0f.J9_eq, w64, c4]
    cases b
    · simp only [q0d]; exact (ih (i + 1) (by omega) _).pred
    · simp only [q08]; exact (ih (i + 1) (by omega) _).pred
theorem qnm : ∀ (n : Nat) (m : Int) (y : Rdr) (l : List Aff), Rd m y → m + n ≤ 700000000 → n ≤ 5 → qe6 (50 - n) l → Dr2 (fun k k1 => q0f.L3 k k1 y l (n : Int)) (m + n) (qe6 50) := by
  intro n
  induction n with
  | zero =>
    intro m y l hy hm hn hl
    refine Dr2.succ (Dr2.congr (fun k k1 => q0f.L3_eq k k1 y l _) ?_)
    simp only [show decide (((0 : Nat) : Int) > 0) = false from rfl, q0d]
    exact Dr2.now (v := l) (x := y) (fun k k1 => rfl) hl (hy.up (by omega))
  | succ n ih =>
    intro m y l hy hm hn hl
    refine Dr2.succ (Dr2.congr (fun k k1 => q0f.L3_eq k k1 y l _) ?_)
    simp only [decide_eq_true (show ((n + 1 : Nat) : Int) > 0 by omega), q08]
    refine Dr2.bind (qkb hy (by omega)).snd fun a z ha hz => ?_
    have A := ih (m + 1) z (l ++ [a]) hz (by omega) (by omega) ⟨by have := hl.1; simp; omega, fun x hx => (List.mem_append.1 hx).elim (hl.2 x) fun h => by rw [List.mem_singleton.1 h]; exact ha⟩
    have B := ih (m + 1) z l hz (by omega) (by omega) ⟨by have := hl.1; omega, hl.2⟩
    exact ((qr9 (by have := hl.1; omega) (by omega) A B l.length 0 (by omega) false).in2).up (by omega) fun _ h => h
theorem ql6 {m : Int} {x : Rdr} (h : Rd m x) (hm : m ≤ 600000000) : Dr (fun k => q0f.f k x) (m + 10) (qe6 50) := by
  refine Dr.congr (fun k => q0f.f_eq k x) (Dr.bind (q5q h (by omega) 5 (by omega) (by omega)) fun v y hv hy => ?_)
  obtain ⟨n, rfl⟩ := Int.eq_ofNat_of_zero_le hv.1
  have h5 := hv.2
  exact ((qnm n (m + 1) y [] hy (by omega) (by omega) ⟨by simp, fun a ha => by simp at ha⟩).diag).up (by omega) fun _ h => h
def qkc (s : ByteArray) : List ByteArray → List ByteArray
  | [] => [s]
  | x :: t => if ltS x s then x :: qkc s t else if x = s then x :: t else s :: x :: t
theorem qnn (s x : ByteArray) (t : List ByteArray) : qkc s (x :: t) = if ltS x s then x :: qkc s t else if x = s then x :: t else s :: x :: t := rfl
theorem qg8 {s x : ByteArray} : ∀ {l : List ByteArray}, x ∈ qkc s l → x = s ∨ x ∈ l
  | [], h => .inl (List.mem_singleton.1 h)
  | y :: t, h => by
    unfold qkc at h
    split at h
    · rcases List.mem_cons.1 h with rfl | h
      · exact .inr (List.mem_cons_self ..)
      · exact (qg8 h).imp id fun h => List.mem_cons_of_mem _ h
    · split at h
      · exact .inr h
      · rcases List.mem_cons.1 h with rfl | h
        · exact .inl rfl
        · exact .inr h
theorem qg9 (s : ByteArray) : ∀ (l : List ByteArray), (qkc s l).length ≤ l.length + 1 ∧ (s ∉ l → (qkc s l).length = l.length + 1)
  | [] => ⟨by simp [qkc], fun _ => by simp [qkc]⟩
  | y :: t => by
    unfold qkc
    split
    · have := qg9 s t
      exact ⟨by simp; omega, fun h => by simp only [List.length_cons]; rw [this.2 fun h' => h (List.mem_cons_of_mem _ h')]⟩
    · split
      · rename_i e
        exact ⟨by simp, fun h => (h (by simp [e])).elim⟩
      · exact ⟨by simp, fun _ => by simp⟩
theorem qkd (l : List ByteArray) (s : ByteArray) (hl : l.length ≤ 1099511627776) : Al fun k => q3c.f k l s = some (qkc s l) := by
  have hS : l.length ≤ 4611686018427387904 := by omega
  have ins : ∀ i : Nat, i ≤ l.length → ∀ (z : Option (List ByteArray)), ifb (decide (0 ≤ (0 : Int)) && (decide ((0 : Int) ≤ (i : Int)) && decide ((i : Int) ≤ (l.length : Int)))) (ifb (decide ((([] : List ByteArray).length + ((l.take i).drop (0 : Int).toNat).length) * 16 ≤ q0u)) (ifb (decide (((([] : List ByteArray) ++ ((l.take i).drop (0 : Int).toNat)).length + [s].length) * 16 ≤ q0u)) (ifb (decide (0 ≤ (i : Int)) && (decide ((i : Int) ≤ (l.length : Int)) && decide ((l.length : Int) ≤ (l.length : Int)))) (ifb (decide ((((([] : List ByteArray) ++ ((l.take i).drop (0 : Int).toNat)) ++ [s]).length + ((l.take l.length).drop i).length) * 16 ≤ q0u)) (some (((([] : List ByteArray) ++ ((l.take i).drop (0 : Int).toNat)) ++ [s]) ++ ((l.take l.length).drop i))) (none)) (none)) (none)) (none)) (none) = some (l.take i ++ s :: l.drop i) := by
    intro i hi _
    have d0 : ∀ l : List ByteArray, l.drop (0 : Int).toNat = l := fun l => rfl
    have d1 : l.take l.length = l := List.take_length
    rw [d1, d0]
    rw [decide_eq_true (Int.le_refl 0), decide_eq_true (show (0 : Int) ≤ (i : Int) by omega), decide_eq_true (show (i : Int) ≤ (l.length : Int) by omega), decide_eq_true (Int.le_refl (l.length : Int)), Bool.and_self, Bool.and_self, q08, q08]
    rw [decide_eq_true (by simp [q0u]; omega), decide_eq_true (by simp [q0u]; omega), decide_eq_true (by simp [q0u]; omega), q08, q08, q08]
    simp
  have key : ∀ (t : List ByteArray) (i : Nat), l.drop i = t → i ≤ l.length → Al2 fun k k1 => q3c.L2 k k1 l s (i : Int) = some (l.take i ++ qkc s t) := by
    intro t
    induction t with
    | nil =>
      intro i hd hi
      have he := drop_nil hd
      refine Al2.succ (Al2.now fun k k1 => ?_)
      simp only [q3c.L2_eq, at_end he, q0d, Int.toNat_natCast]
      rw [ins i hi none, hd]
      rfl
    | cons x t ih =>
      intro i hd hi
      obtain ⟨hi', g1, g2⟩ := q3t bz hd
      obtain ⟨c1, c2, c3, c4⟩ := q66 hi' hS
      refine Al2.succ ((ih (i + 1) g2 (by omega)).mono fun k k1 e => ?_)
      simp only [q3c.L2_eq, c1, c2, Int.toNat_natCast, w64, c4, g1, Bool.and_self, q08, e, q5w, qnn]
      cases hx : Op.bytesLess x.toList s.toList
      · rw [q0d, if_neg (show ¬ ltS x s = true by simp [ltS, hx])]
        by_cases e2 : x = s
        · rw [decide_eq_true e2, q08, if_pos e2, ← hd, List.take_append_drop]
        · have ins' := ins i hi none
          simp only [c2] at ins'
          rw [decide_eq_false e2, q0d, ins', hd, if_neg e2]
      · rw [q08, if_pos (show ltS x s = true by simp [ltS, hx])]
        have e3 : l.take (i + 1) = l.take i ++ [x] := by
          have h2 : l.take (i + 1) = l.take i ++ (l.drop i).take 1 := by rw [List.take_add]
          rw [h2, hd]; rfl
        rw [e3]
        simp
  refine (key l 0 rfl (by omega)).diag.mono fun k e => ?_
  rw [q3c.f_eq, show (0 : Int) = ((0 : Nat) : Int) from rfl, e]
  rfl
theorem qke {m : Int} {x : Rdr} (s : ByteArray) (hs : s.size ≤ 16) (h : Rd m x) (hm : m ≤ 900000000) : Dr (fun k => q3g.f k x s) (m + 1) qsr := by
  refine Dr.congr (fun k => q3g.f_eq k x s) (Dr.bind (qbs h (by omega) _ (by simp) (by simp)) fun v y hv hy => ?_)
  have h16 : v.size ≤ 16 := by
    simp only [List.mem_cons, List.not_mem_nil, or_false] at hv
    rcases hv with rfl | rfl | rfl | rfl | rfl | rfl | rfl | rfl | rfl <;> decide
  exact Dr.now (v := (s, v)) (x := y) (fun k => rfl) ⟨hs, h16⟩ hy
theorem qno (b0 : Book) (A : List Aff) (hA : qe6 50 A) (ws : List ByteArray) (hw : ws.length ≤ 40 ∧ ∀ s ∈ ws, s.size ≤ 16) :
    ∀ (j i : Nat) (m : Int) (x : Rdr) (es : List En), i + j = ws.length → Rd m x → m + j ≤ 800000000 → qr5 i es → Dr2 (fun k k1 => q0e.L13 k k1 x b0 (A, es) ws (i : Int)) (m + j) (q9x 50) := by
  intro j
  induction j with
  | zero =>
    intro i m x es hi hx hm he
    refine Dr2.succ (Dr2.congr (fun k k1 => q0e.L13_eq k k1 x b0 (A, es) ws _) ?_)
    simp only [at_end (show ¬ i < ws.length by omega), q0d]
    exact Dr2.now (v := (A, es)) (x := x) (fun _ _ => rfl) ⟨hA, by have := he.1; exact Nat.le_trans he.1 (by omega), he.2⟩ (hx.up (by omega))
  | succ j ih =>
    intro i m x es hi hx hm he
    have hil : i < ws.length := by omega
    obtain ⟨c1, c2, c3, c4⟩ := q66 hil (by omega)
    refine Dr2.succ (Dr2.congr (fun k k1 => q0e.L13_eq k k1 x b0 (A, es) ws _) ?_)
    simp only [c1, c2, c3, Bool.and_self, q08, w64, c4]
    have hs : (ws.getD i bz).size ≤ 16 := by
      rw [List.getD_eq_getElem?_getD, List.getElem?_eq_getElem hil]
      exact hw.2 _ (List.getElem_mem hil)
    refine Dr2.bind (qke _ hs hx (by omega)).snd fun e y he' hy => ?_
    have e2 : decide ((es.length + [e].length) * 32 ≤ q0u) = true := decide_eq_true (by have := he.1; simp [q0u]; omega)
    simp only [e2, q08]
    exact (ih (i + 1) (m + 1) y (es ++ [e]) (by omega) hy (by omega) ⟨by have := he.1; simp; omega, fun z hz => (List.mem_append.1 hz).elim (he.2 z) fun h => by rw [List.mem_singleton.1 h]; exact he'⟩).up (by omega) fun _ h => h
theorem qkf (b0 : Book) (A : List Aff) (hA : qe6 50 A) (ws : List ByteArray) (hw : ws.length ≤ 40 ∧ ∀ s ∈ ws, s.size ≤ 16) {m : Int} {x : Rdr} (hx : Rd m x) (hm : m ≤ 700000000) :
    Dr (fun k => q0e.J12 k x b0 (A, []) ws) (m + 40) (q9x 50) := by
  refine Dr.succ (Dr.congr (fun k => q0e.J12_eq k x b0 (A, []) ws) ?_)
  exact ((qno b0 A hA ws hw ws.length 0 m x [] (by omega) hx (by omega) ⟨by simp, fun e he => by simp at he⟩).diag).up (by omega) fun _ h => h
def wN (n : Nat) : ByteArray := (⟨#[119]⟩ : ByteArray) ++ strOf [(IntKind.u8.wrap (w64 ((97 : Int) + (n : Int))))]
theorem qpi : ∀ n, n < 25 → bl (wN n) = [119, (97 + n).toUInt8] := by decide
theorem qnp {n : Nat} (h : n < 25) : (wN n).size = 2 := by rw [← q5g, qpi n h]; rfl
theorem qsa : ∀ i, i < 25 → ∀ j, j < 25 → wN i = wN j → i = j := by
  intro i hi j hj e
  have := congrArg bl e
  rw [qpi i hi, qpi j hj] at this
  have h2 : (97 + i).toUInt8 = (97 + j).toUInt8 := by simpa using this
  have h3 := congrArg UInt8.toNat h2
  simp at h3
  omega
def wOk (n : Nat) (s : ByteArray) : Prop := s.size ≤ 16 ∧ ((bl s).head? ≠ some 119 ∨ ∃ j, j < n ∧ s = wN j)
theorem qnq (b0 : Book) (A : List Aff) (hA : qe6 50 A) : ∀ (j n : Nat) (m : Int) (x : Rdr) (ws : List ByteArray), j + ws.length = 24 → n ≤ ws.length → Rd m x → m ≤ 600000000 → (∀ s ∈ ws, wOk n s) →
    Dr2 (fun k k1 => q0e.L9 k k1 x b0 (A, []) ws (n : Int)) (m + 40) (q9x 50) := by
  intro j
  induction j with
  | zero =>
    intro n m x ws hj hn hx hm hw
    refine Dr2.succ (Dr2.congr (fun k k1 => q0e.L9_eq k k1 x b0 (A, []) ws _) ?_)
    simp only [show decide ((ws.length : Int) < 24) = false from decide_eq_false (by omega), q0d]
    exact (qkf b0 A hA ws ⟨by omega, fun s hs => (hw s hs).1⟩ hx (by omega)).fst
  | succ j ih =>
    intro n m x ws hj hn hx hm hw
    refine Dr2.succ (Dr2.congr (fun k k1 => q0e.L9_eq k k1 x b0 (A, []) ws _) ?_)
    have hn25 : n < 25 := by omega
    have hsz : q5m ((⟨#[119]⟩ : ByteArray).size + (strOf [(IntKind.u8.wrap (w64 ((97 : Int) + (n : Int))))]).size) = true := by
      have h2 := qnp hn25
      unfold wN at h2
      rw [ByteArray.size_append] at h2
      rw [h2]; rfl
    have e1 : w64 ((n : Int) + 1) = ((n + 1 : Nat) : Int) := by rw [show (n : Int) + 1 = ((n + 1 : Nat) : Int) by omega]; exact q6w (by omega) (by omega)
    simp only [show decide ((ws.length : Int) < 24) = true from decide_eq_true (by omega), q08, hsz, e1]
    refine Dr2.bindv (qkd ws (wN n) (by omega)).snd ?_
    have hno : wN n ∉ ws := by
      intro hmem
      rcases (hw _ hmem).2 with h | ⟨i, hi, h⟩
      · rw [qpi n hn25] at h; simp at h
      · have := qsa n hn25 i (by omega) h; omega
    have hlen := (qg9 (wN n) ws).2 hno
    refine ih (n + 1) m x (qkc (wN n) ws) (by omega) (by omega) hx hm fun s hs => ?_
    rcases qg8 hs with rfl | hs
    · exact ⟨by rw [qnp hn25]; omega, .inr ⟨n, by omega, rfl⟩⟩
    · obtain ⟨h1, h2⟩ := hw s hs
      exact ⟨h1, h2.imp id fun ⟨i, hi, h⟩ => ⟨i, by omega, h⟩⟩
theorem ql7 (b0 : Book) (A : List Aff) (hA : qe6 50 A) : ∀ (n : Nat) (m : Int) (x : Rdr) (ws : List ByteArray), n + ws.length ≤ 7 → Rd m x → m + 12 * n ≤ 500000000 → (∀ s ∈ ws, wOk 0 s) →
    Dr2 (fun k k1 => q0e.L4 k k1 x b0 (A, []) ws (n : Int)) (m + 12 * n + 50) (q9x 50) := by
  intro n
  induction n with
  | zero =>
    intro m x ws hl hx hm hw
    refine Dr2.succ (Dr2.congr (fun k k1 => q0e.L4_eq k k1 x b0 (A, []) ws _) ?_)
    simp only [show decide (((0 : Nat) : Int) > 0) = false from rfl, q0d]
    refine Dr2.bind (q5q hx (by omega) 30 (by omega) (by omega)).fst fun v y hv hy => ?_
    by_cases c : v = 0
    · subst c
      simp only [show ((0 : Int) == 0) = true from rfl, q08]
      exact ((qnq b0 A hA (24 - ws.length) 0 (m + 1) y ws (by omega) (by omega) hy (by omega) hw).diag.fst).up (by omega) fun _ h => h
    · simp only [show (v == 0) = false by rw [beq_eq_false_iff_ne]; exact c, q0d]
      exact ((qkf b0 A hA ws ⟨by omega, fun s hs => (hw s hs).1⟩ hy (by omega)).fst).up (by omega) fun _ h => h
  | succ n ih =>
    intro m x ws hl hx hm hw
    refine Dr2.succ (Dr2.congr (fun k k1 => q0e.L4_eq k k1 x b0 (A, []) ws _) ?_)
    have e1 : w64 (((n + 1 : Nat) : Int) - 1) = (n : Int) := by rw [show ((n + 1 : Nat) : Int) - 1 = (n : Int) by omega]; exact q6w (by omega) (by omega)
    simp only [decide_eq_true (show ((n + 1 : Nat) : Int) > 0 by omega), q08, e1]
    refine Dr2.bind (qnl hx (by omega)).snd fun s y hs hy => ?_
    refine Dr2.bindv (qkd ws s (by omega)).snd ?_
    have hlen := (qg9 s ws).1
    refine (ih (m + 12) y (qkc s ws) (by omega) hy (by omega) fun z hz => ?_).up (by omega) fun _ h => h
    rcases qg8 hz with rfl | hz
    · exact ⟨Nat.le_trans hs.1 (by omega), .inl hs.2⟩
    · exact hw z hz
theorem qbu {m : Int} {x : Rdr} (h : Rd m x) (hm : m ≤ 400000000) : Dr (fun k => q0e.f k x) (m + 200) (q9x 50) := by
  refine Dr.congr (fun k => q0e.f_eq k x) (Dr.bind (ql6 h (by omega)) fun A y hA hy => ?_)
  refine Dr.bind (q5q hy (by omega) 7 (by omega) (by omega)) fun v z hv hz => ?_
  obtain ⟨n, rfl⟩ := Int.eq_ofNat_of_zero_le hv.1
  have h7 := hv.2
  exact ((ql7 ([], []) A hA n _ z [] (by simp; omega) hz (by omega) (fun s hs => by simp at hs)).diag).up (by omega) fun _ h => h
end Go.Proofs.YtnjdoinlnbjedaaGreatDoor.Rf
end

section
/- Draws: books and deltas of any kind. -/
namespace Go.Proofs.YtnjdoinlnbjedaaGreatDoor.Rf
open Go Go.RowKit
set_option linter.unusedVariables false
set_option linter.unusedSimpArgs false
theorem qi4 {v c : Int} (h : v = c) : (v == c) = true := by simp [h]
theorem qi5 {v c : Int} (h : ¬ v = c) : (v == c) = false := by simp [h]
theorem qec {m : Int} {x : Rdr} (h : Rd m x) (hm : m ≤ 800000000) : Dr (fun k => q2f.f k x) (m + 3) qs5 := by
  refine Dr.congr (fun k => q2f.f_eq k x) (Dr.bind (qkb h (by omega)) fun a y ha hy => ?_)
  refine Dr.bind (q5q hy (by omega) 12 (by omega) (by omega)) fun v z hv hz => ?_
  by_cases c0 : v = 0
  · simp only [qi4 c0, q08]
    refine Dr.bind (qbs hz (by omega) _ (by simp) (by simp)) fun s u hs hu => ?_
    have h8 : s.size ≤ 8 := by
      simp only [List.mem_cons, List.not_mem_nil, or_false] at hs
      rcases hs with rfl | rfl | rfl | rfl <;> decide
    exact Dr.now (v := (s, a.2)) (x := u) (fun k => rfl) ⟨h8, ha.2⟩ (hu.up (by omega))
  simp only [qi5 c0, q0d]
  by_cases c1 : v = 1
  · simp only [qi4 c1, q08]
    refine Dr.bind (qbs hz (by omega) _ (by simp) (by simp)) fun s u hs hu => ?_
    have h8 : s.size ≤ 8 := by
      simp only [List.mem_cons, List.not_mem_nil, or_false] at hs
      rcases hs with rfl | rfl | rfl | rfl <;> decide
    exact Dr.now (v := (a.1, a.2.1, s, a.2.2.2)) (x := u) (fun k => rfl) ⟨ha.1, h8, ha.2.2⟩ (hu.up (by omega))
  simp only [qi5 c1, q0d]
  by_cases c2 : v = 2
  · simp only [qi4 c2, q08]
    refine Dr.bind (qbs hz (by omega) _ (by simp) (by simp)) fun s u hs hu => ?_
    have h8 : s.size ≤ 8 := by
      simp only [List.mem_cons, List.not_mem_nil, or_false] at hs
      rcases hs with rfl | rfl | rfl | rfl <;> decide
    exact Dr.now (v := (a.1, a.2.1, a.2.2.1, a.2.2.2.1, s)) (x := u) (fun k => rfl) ⟨ha.1, ha.2.1, ha.2.2.1, h8⟩ (hu.up (by omega))
  simp only [qi5 c2, q0d]
  by_cases c3 : v = 3
  · simp only [qi4 c3, q08]
    exact Dr.now (v := (a.1, !a.2.1, a.2.2)) (x := z) (fun k => rfl) ha (hz.up (by omega))
  simp only [qi5 c3, q0d]
  exact Dr.now (v := a) (x := z) (fun k => rfl) ha (hz.up (by omega))
theorem qbb {α : Type} {P : α → Prop} {l : List α} {a : α} (h : ∀ x ∈ l, P x) (ha : P a) : ∀ x ∈ l ++ [a], P x := fun x hx => (List.mem_append.1 hx).elim (h x) fun e => by rw [List.mem_singleton.1 e]; exact ha
theorem qj6 {b : Book} (h : q9x 60 b) : smB b := by
  have l1 := h.1.1
  have l2 := h.2.1
  refine ⟨⟨by omega, fun a ha => ?_⟩, by omega, fun e he => ?_⟩
  · have := h.1.2 a ha; unfold qs5 at this; unfold smA Sm; omega
  · have := h.2.2 e he; unfold qsr at this; unfold smE Sm; omega
theorem qtc {d : Delta} (h : qb7 60 d) : smD d := by
  have l1 := h.1.1
  have l2 := h.2.1.1
  have l3 := h.2.2.1
  refine ⟨⟨by omega, fun s hs => ?_⟩, ⟨by omega, fun e he => ?_⟩, by omega, fun a ha => ?_⟩
  · have := h.1.2 s hs; unfold Sm; omega
  · have := h.2.1.2 e he; unfold qsr at this; unfold smE Sm; omega
  · have := h.2.2.2 a ha; unfold qs5 at this; unfold smA Sm; omega
theorem qi6 {n : Nat} {a b : Book} (ha : q9x n a) (hb : q9x n b) : qb7 n (q53 a b) := by
  unfold q53
  split
  · refine ⟨⟨?_, fun s hs => ?_⟩, ⟨?_, fun e he => ?_⟩, ?_⟩
    · simp only [q7n, List.length_map]
      exact Nat.le_trans (List.length_filter_le _ _) ha.2.1
    · simp only [q7n, List.mem_map] at hs
      obtain ⟨e, he, rfl⟩ := hs
      exact (ha.2.2 e (List.mem_filter.1 he).1).1
    · exact Nat.le_trans (List.length_filter_le _ _) hb.2.1
    · exact hb.2.2 e (List.mem_filter.1 he).1
    · show qe6 n (if a.1 = b.1 then [] else b.1)
      split
      · exact ⟨by simp, fun a ha => by simp at ha⟩
      · exact hb.1
  · exact ⟨⟨by simp, fun s hs => by simp at hs⟩, ⟨by simp, fun s hs => by simp at hs⟩, by simp [qe6]⟩
theorem qpj {m : Int} {x : Rdr} (h : Rd m x) (hm : m ≤ 300000000) : Dr (fun k => q3s.f k x) (m + 500) (qb7 50) := by
  refine Dr.congr (fun k => q3s.f_eq k x) (Dr.bind (qbu h (by omega)) fun a y ha hy => ?_)
  refine Dr.bind (qbu hy (by omega)) fun b z hb hz => ?_
  refine Dr.bindv (q9h a b (qj6 (ha.up (by omega))) (qj6 (hb.up (by omega)))) ?_
  have hd := qi6 ha hb
  refine Dr.bind (q5q hz (by omega) 3 (by omega) (by omega)) fun v u hv hu => ?_
  by_cases c0 : v = 0
  · simp only [qi4 c0, q08]
    exact Dr.now (v := ([], (q53 a b).2)) (x := u) (fun k => rfl) ⟨⟨by simp, fun s hs => by simp at hs⟩, hd.2⟩ (hu.up (by omega))
  · simp only [qi5 c0, q0d]
    exact Dr.now (v := q53 a b) (x := u) (fun k => rfl) hd (hu.up (by omega))
theorem qj7 {m : Int} {x : Rdr} (h : Rd m x) (hm : m ≤ 200000000) : Dr (fun k => q2u.f k x) (m + 600) (qb7 51) := by
  refine Dr.congr (fun k => q2u.f_eq k x) (Dr.bind (qpj h (by omega)) fun d y hd hy => ?_)
  have hd1 : qb7 51 d := hd.up (by omega)
  have l1 := hd.1.1
  have l2 := hd.2.1.1
  have l3 := hd.2.2.1
  refine Dr.bind (q5q hy (by omega) 12 (by omega) (by omega)) fun v z hv hz => ?_
  by_cases c0 : v = 0
  · have m0 : decide ((([] : List ByteArray).length + d.1.length) * 16 ≤ q0u) = true := decide_eq_true (by simp [q0u]; omega)
    simp only [qi4 c0, q08, m0]
    refine Dr.bind (qbt hz (by omega)) fun s u hs hu => ?_
    have m1 : decide ((([] ++ d.1).length + [s].length) * 16 ≤ q0u) = true := decide_eq_true (by simp [q0u]; omega)
    simp only [m1, q08]
    exact Dr.now (v := (([] ++ d.1) ++ [s], d.2)) (x := u) (fun k => rfl) ⟨⟨by simp; omega, qbb hd.1.2 (Nat.le_trans hs (by omega))⟩, hd1.2⟩ (hu.up (by omega))
  simp only [qi5 c0, q0d]
  by_cases c1 : v = 1
  · have m0 : decide ((([] : List En).length + d.2.1.length) * 32 ≤ q0u) = true := decide_eq_true (by simp [q0u]; omega)
    simp only [qi4 c1, q08, m0]
    refine Dr.bind (qbt hz (by omega)) fun s u hs hu => ?_
    refine Dr.bind (qke s (Nat.le_trans hs (by omega)) hu (by omega)) fun e w he hw => ?_
    have m1 : decide ((([] ++ d.2.1).length + [e].length) * 32 ≤ q0u) = true := decide_eq_true (by simp [q0u]; omega)
    simp only [m1, q08]
    exact Dr.now (v := (d.1, ([] ++ d.2.1) ++ [e], d.2.2)) (x := w) (fun k => rfl) ⟨hd1.1, ⟨by simp; omega, qbb hd.2.1.2 he⟩, hd1.2.2⟩ (hw.up (by omega))
  simp only [qi5 c1, q0d]
  by_cases c2 : v = 2
  · simp only [qi4 c2, q08]
    exact Dr.now (v := (d.1, d.2.1, !d.2.2.1, d.2.2.2)) (x := z) (fun k => rfl) hd1 (hz.up (by omega))
  simp only [qi5 c2, q0d]
  by_cases c3 : v = 3
  · have m0 : decide ((([] : List Aff).length + d.2.2.2.length) * 72 ≤ q0u) = true := decide_eq_true (by simp [q0u]; omega)
    simp only [qi4 c3, q08, m0]
    refine Dr.bind (qec hz (by omega)) fun a u ha hu => ?_
    have m1 : decide ((([] ++ d.2.2.2).length + [a].length) * 72 ≤ q0u) = true := decide_eq_true (by simp [q0u]; omega)
    simp only [m1, q08]
    exact Dr.now (v := (d.1, d.2.1, d.2.2.1, ([] ++ d.2.2.2) ++ [a])) (x := u) (fun k => rfl) ⟨hd1.1, hd1.2.1, by simp; omega, qbb hd.2.2.2 ha⟩ (hu.up (by omega))
  simp only [qi5 c3, q0d]
  exact Dr.now (v := d) (x := z) (fun k => rfl) hd1 (hz.up (by omega))
end Go.Proofs.YtnjdoinlnbjedaaGreatDoor.Rf
end

section
/- The laws' own words: the same books, one of a row. -/
namespace Go.Proofs.YtnjdoinlnbjedaaGreatDoor.Rf
open Go Go.RowKit
set_option linter.unusedVariables false
set_option linter.unusedSimpArgs false
theorem qsb {n : Int} (h : (Lit.int .u8 n).wf = true) : 0 ≤ n ∧ n ≤ 255 := by
  simp only [Lit.wf, Bool.and_eq_true, decide_eq_true_eq] at h
  simpa [IntKind.min, IntKind.max, IntKind.bits, IntKind.signed] using h
end Go.Proofs.YtnjdoinlnbjedaaGreatDoor.Rf
end

section
/- Drawn keys and releases. -/
namespace Go.Proofs.YtnjdoinlnbjedaaGreatDoor.Rf
open Go Go.RowKit
set_option linter.unusedVariables false
set_option linter.unusedSimpArgs false
def qj8 (s : ByteArray) : Prop := s.size ≤ 1000000
theorem qsc {m : Int} {x : Rdr} (h : Rd m x) (hm : m ≤ 1000000000) (l : List Int) (l1 : 1 ≤ l.length) (l2 : l.length ≤ 1000000) : Dr (fun k => q3d.f k x l) (m + 1) fun v => v ∈ l := by
  obtain ⟨v, x', e, ⟨p0, p1⟩, r⟩ := q5q h hm (l.length : Int) (by omega) (by omega)
  have hv : v.toNat < l.length := by omega
  refine ⟨l.getD v.toNat 0, x', e.mono fun k e => ?_, ?_, r⟩
  · have e' : q07.f k x (l.length : Int) = some (v, x') := e
    show q3d.f k x l = _
    rw [q3d.f_eq, e', Option.bind_some]
    simp only [decide_eq_true p0, decide_eq_true p1, Bool.and_self, q08]
  · rw [List.getD_eq_getElem?_getD, List.getElem?_eq_getElem hv]
    exact List.getElem_mem hv
def rlS (r : Release) : Prop := (-10 ≤ r.1 ∧ r.1 ≤ 2000000) ∧ qb7 51 r.2.1 ∧ r.2.2.1.size ≤ 100 ∧ r.2.2.2.size ≤ 100
theorem qsd {r : Release} (h : rlS r) : smR r := ⟨qtc (h.2.1.up (by omega)), by have := h.2.2.1; omega, by have := h.2.2.2; omega⟩
theorem qra {key : ByteArray} {n : Int} {a b : Book} : (q6d key n a b).1.1 ≤ 1000000 := by
  unfold q6d
  split
  · rename_i h
    simp only [Bool.and_eq_true, decide_eq_true_eq] at h
    split
    · show n + 1 ≤ 1000000
      omega
    · show (0 : Int) ≤ 1000000
      omega
  · show (0 : Int) ≤ 1000000
    omega
theorem qnr {key : ByteArray} {n : Int} {a b : Book} (ha : q9x 51 a) (hb : q9x 51 b) : rlS (q6d key n a b).1 := by
  have z : rlS zR := ⟨by simp [zR], ⟨⟨by simp [zR], fun s hs => by simp [zR] at hs⟩, ⟨by simp [zR], fun s hs => by simp [zR] at hs⟩, by simp [zR], fun s hs => by simp [zR] at hs⟩, by show 0 ≤ _; omega, by show 0 ≤ _; omega⟩
  unfold q6d
  split
  · rename_i h
    simp only [Bool.and_eq_true, decide_eq_true_eq] at h
    have hs := q6o (q6n b)
    have hq := qf4 key (qci (n + 1) (q53 a b) (q6e (q6n b)))
    split
    · refine ⟨?_, qi6 ha hb, ?_, ?_⟩
      · show -10 ≤ n + 1 ∧ n + 1 ≤ 2000000
        omega
      · show (q6e (q6n b)).size ≤ _
        omega
      · show (qcj _ _).size ≤ _
        omega
    · exact z
  · exact z
theorem ql8 {m : Int} {x : Rdr} (key : ByteArray) (hk : qj8 key) (h : Rd m x) (hm : m ≤ 100000000) : Dr (fun k => q38.f k x key) (m + 500) fun r => rlS r ∧ r.1 ≤ 1000000 := by
  unfold qj8 at hk
  refine Dr.congr (fun k => q38.f_eq k x key) (Dr.bind (q5q h (by omega) 3 (by omega) (by omega)) fun v y hv hy => ?_)
  refine Dr.bind (qbu hy (by omega)) fun a z ha hz => ?_
  refine Dr.bind (qbu hz (by omega)) fun b u hb hu => ?_
  have ha' := ha.up (show 50 ≤ 51 by omega)
  have hb' := hb.up (show 50 ≤ 51 by omega)
  refine Dr.bindv (q6q key v a b (by omega) (qj6 (ha.up (by omega))) (qj6 (hb.up (by omega)))) ?_
  exact Dr.now (fun k => rfl) ⟨qnr ha' hb', qra⟩ (hu.up (by omega))
theorem qbc {m : Int} {x : Rdr} (key : ByteArray) (hk : qj8 key) (h : Rd m x) (hm : m ≤ 100000000) : Dr (fun k => q1l.f k x key) (m + 2000) rlS := by
  refine Dr.congr (fun k => q1l.f_eq k x key) (Dr.bind (ql8 key hk h hm) fun r y hr hy => ?_)
  obtain ⟨⟨⟨r1, r2⟩, r3, r4, r5⟩, r6⟩ := hr
  refine Dr.bind (q5q hy (by omega) 10 (by omega) (by omega)) fun v z hv hz => ?_
  by_cases c0 : v = 0
  · simp only [qi4 c0, q08]
    refine Dr.bind (qsc hz (by omega) _ (by simp) (by simp)) fun n u hn hu => ?_
    refine Dr.now (fun k => rfl) ⟨?_, r3, r4, r5⟩ (hu.up (by omega))
    have hw : w64 (r.1 + 1) = r.1 + 1 := q6w (by omega) (by omega)
    rw [hw] at hn
    simp only [List.mem_cons, List.not_mem_nil, or_false] at hn
    show -10 ≤ n ∧ n ≤ 2000000
    rcases hn with rfl | rfl | rfl <;> omega
  simp only [qi5 c0, q0d]
  by_cases c1 : v = 1
  · simp only [qi4 c1, q08]
    refine Dr.bind (qj7 hz (by omega)) fun d u hd hu => ?_
    exact Dr.now (fun k => rfl) ⟨⟨r1, r2⟩, hd, r4, r5⟩ (hu.up (by omega))
  simp only [qi5 c1, q0d]
  by_cases c2 : v = 2
  · simp only [qi4 c2, q08]
    refine Dr.bindv (q7c _ (by decide)) ?_
    exact Dr.now (fun k => rfl) ⟨⟨r1, r2⟩, r3, by show (q6e _).size ≤ _; rw [q6o]; omega, r5⟩ (hz.up (by omega))
  simp only [qi5 c2, q0d]
  by_cases c3 : v = 3
  · simp only [qi4 c3, q08]
    refine Dr.bindv (q7c _ (by decide)) ?_
    refine Dr.bindv (q7c _ (by decide)) ?_
    have hz64 := q6o (⟨#[122]⟩ : ByteArray)
    have hy64 := q6o (⟨#[121]⟩ : ByteArray)
    have hx63 : ((q6e (⟨#[122]⟩ : ByteArray)).extract (1 : Int).toNat ((q6e (⟨#[122]⟩ : ByteArray)).size : Int).toNat).size ≤ 64 := by
      rw [ByteArray.size_extract]; omega
    have h88 : (⟨#[88]⟩ : ByteArray).size = 1 := rfl
    rw [show (decide ((0 : Int) ≤ 1) && (decide ((1 : Int) ≤ ((q6e (⟨#[122]⟩ : ByteArray)).size : Int)) && decide (((q6e (⟨#[122]⟩ : ByteArray)).size : Int) ≤ ((q6e (⟨#[122]⟩ : ByteArray)).size : Int)))) = true by rw [hz64]; rfl,
      q4h (by omega)]
    simp only [q08]
    refine Dr.bind (qbs hz (by omega) _ (by simp) (by simp)) fun s u hs hu => ?_
    refine Dr.now (fun k => rfl) ⟨⟨r1, r2⟩, r3, r4, ?_⟩ (hu.up (by omega))
    show s.size ≤ 100
    simp only [List.mem_cons, List.not_mem_nil, or_false] at hs
    rcases hs with rfl | rfl | rfl
    · decide
    · omega
    · rw [ByteArray.size_append]; omega
  simp only [qi5 c3, q0d]
  exact Dr.now (fun k => rfl) ⟨⟨r1, r2⟩, r3, r4, r5⟩ (hz.up (by omega))
end Go.Proofs.YtnjdoinlnbjedaaGreatDoor.Rf
end
