import Derived.Test.YtnjdoinlnbjedaaGreatDoorK4

section
namespace Go.Proofs.YtnjdoinlnbjedaaGreatDoor.Rf
open Go Go.RowKit
set_option linter.unusedVariables false
set_option linter.unusedSimpArgs false
theorem Al.thd {p : Nat → Prop} (h : Al p) : Al3 fun _ _ c => p c := h.imp fun _ h _ _ c _ _ hc => h c hc
end Go.Proofs.YtnjdoinlnbjedaaGreatDoor.Rf
end

section
namespace Go.Proofs.YtnjdoinlnbjedaaGreatDoor.Rf
open Go Go.RowKit
set_option linter.unusedVariables false
noncomputable section
def q46.C (k : Nat) : CEs := []
abbrev q46.ps : List Par := [⟨t90, .rd⟩, ⟨(.int .i64), .rd⟩]
abbrev q46.rs : List Res := [⟨(.int .i64), .ro, false⟩]
def q46.F := q4p E q46.C [] Tryz.f95 q46.ps q46.rs
def q46.f (k : Nat) (x0 : Aff) (x1 : Int) : Option (Int) := q46.F k (x0, x1)
theorem q46.f_eq (k : Nat) (x0 : Aff) (x1 : Int) : q46.f k x0 x1 = ifb (decide ((w64 (x1 - (x0.1.size : Int))) < 0)) (some (-1 : Int)) (ifb (decide ((w64 ((w64 (x1 - (x0.1.size : Int))) - (x0.2.2.1.size : Int))) < 0)) (some (-1 : Int)) (ifb (decide ((w64 ((w64 ((w64 (x1 - (x0.1.size : Int))) - (x0.2.2.1.size : Int))) - (x0.2.2.2.1.size : Int))) < 0)) (some (-1 : Int)) (ifb (decide ((w64 ((w64 ((w64 ((w64 (x1 - (x0.1.size : Int))) - (x0.2.2.1.size : Int))) - (x0.2.2.2.1.size : Int))) - (x0.2.2.2.2.size : Int))) < 0)) (some (-1 : Int)) (some (w64 ((w64 ((w64 ((w64 (x1 - (x0.1.size : Int))) - (x0.2.2.1.size : Int))) - (x0.2.2.2.1.size : Int))) - (x0.2.2.2.2.size : Int))))))) := by kernel_rfl
abbrev q46.e (k : Nat) : FuncId × CE := (95, ⟨q46.ps, q46.rs, q46.F k⟩)
theorem q46.q (k : Nat) : Qs (q46.e k) := qq (C := q46.C) (fun k => .nil) k
def q1j.C (k : Nat) : CEs := [q46.e k]
abbrev q1j.ps : List Par := [⟨t25, .rd⟩, ⟨(.int .i64), .rd⟩]
abbrev q1j.rs : List Res := [⟨(.int .i64), .ro, false⟩]
def q1j.H : q4o := [(5, [(0, .ro), (1, .ro), (5, .ro)])]
def q1j.F := q4p E q1j.C q1j.H Tryz.f45 q1j.ps q1j.rs
def q1j.L5 (k k1 : Nat) (x0 : List Aff) (x1 : Int) (x5 : Int) : Option (Int) := atL E q1j.C q1j.H Tryz.f45 q1j.ps q1j.rs [true, true, true, false, true, true] k [] k1 (sh 27 [(0, .d t25 x0 .ro), (1, .d (.int .i64) x1 .ro), (5, .d (.int .i64) x5 .ro)])
def q1j.f (k : Nat) (x0 : List Aff) (x1 : Int) : Option (Int) := q1j.F k (x0, x1)
theorem q1j.f_eq (k : Nat) (x0 : List Aff) (x1 : Int) : q1j.f k x0 x1 = ifb (decide ((w64 (x1 - (x0.length : Int))) < 0)) (some (-1 : Int)) (q1j.L5 k k x0 (w64 (x1 - (x0.length : Int))) (0 : Int)) := by kernel_rfl
theorem q1j.L5_eq (k k1 : Nat) (x0 : List Aff) (x1 : Int) (x5 : Int) : q1j.L5 k (k1 + 1) x0 x1 x5 = ifb (decide (x5 < (x0.length : Int))) (ifb (decide (0 ≤ x5) && decide (x5 < (x0.length : Int))) ((q46.f k1 (x0.getD x5.toNat zA) x1).bind fun (r0 : Int) => ifb (decide (r0 < 0)) (some (-1 : Int)) (q1j.L5 k k1 x0 r0 (w64 (x5 + 1)))) (none)) (some x1) := by kernel_rfl
abbrev q1j.e (k : Nat) : FuncId × CE := (45, ⟨q1j.ps, q1j.rs, q1j.F k⟩)
theorem q1j.q (k : Nat) : Qs (q1j.e k) := qq (C := q1j.C) (fun k => .c (q46.q k) <| .nil) k
def q47.C (k : Nat) : CEs := []
abbrev q47.ps : List Par := [⟨t92, .rd⟩, ⟨(.int .i64), .rd⟩]
abbrev q47.rs : List Res := [⟨(.int .i64), .ro, false⟩]
def q47.F := q4p E q47.C [] Tryz.f96 q47.ps q47.rs
def q47.f (k : Nat) (x0 : ByteArray × ByteArray) (x1 : Int) : Option (Int) := q47.F k (x0, x1)
theorem q47.f_eq (k : Nat) (x0 : ByteArray × ByteArray) (x1 : Int) : q47.f k x0 x1 = ifb (decide ((w64 (x1 - (x0.1.size : Int))) < 0)) (some (-1 : Int)) (ifb (decide ((w64 ((w64 (x1 - (x0.1.size : Int))) - (x0.2.size : Int))) < 0)) (some (-1 : Int)) (some (w64 ((w64 (x1 - (x0.1.size : Int))) - (x0.2.size : Int))))) := by kernel_rfl
abbrev q47.e (k : Nat) : FuncId × CE := (96, ⟨q47.ps, q47.rs, q47.F k⟩)
theorem q47.q (k : Nat) : Qs (q47.e k) := qq (C := q47.C) (fun k => .nil) k
def q1k.C (k : Nat) : CEs := [q47.e k]
abbrev q1k.ps : List Par := [⟨t24, .rd⟩, ⟨(.int .i64), .rd⟩]
abbrev q1k.rs : List Res := [⟨(.int .i64), .ro, false⟩]
def q1k.H : q4o := [(5, [(0, .ro), (1, .ro), (5, .ro)])]
def q1k.F := q4p E q1k.C q1k.H Tryz.f46 q1k.ps q1k.rs
def q1k.L5 (k k1 : Nat) (x0 : List En) (x1 : Int) (x5 : Int) : Option (Int) := atL E q1k.C q1k.H Tryz.f46 q1k.ps q1k.rs [true, true, true, false, true, true] k [] k1 (sh 27 [(0, .d t24 x0 .ro), (1, .d (.int .i64) x1 .ro), (5, .d (.int .i64) x5 .ro)])
def q1k.f (k : Nat) (x0 : List En) (x1 : Int) : Option (Int) := q1k.F k (x0, x1)
theorem q1k.f_eq (k : Nat) (x0 : List En) (x1 : Int) : q1k.f k x0 x1 = ifb (decide ((w64 (x1 - (x0.length : Int))) < 0)) (some (-1 : Int)) (q1k.L5 k k x0 (w64 (x1 - (x0.length : Int))) (0 : Int)) := by kernel_rfl
theorem q1k.L5_eq (k k1 : Nat) (x0 : List En) (x1 : Int) (x5 : Int) : q1k.L5 k (k1 + 1) x0 x1 x5 = ifb (decide (x5 < (x0.length : Int))) (ifb (decide (0 ≤ x5) && decide (x5 < (x0.length : Int))) ((q47.f k1 (x0.getD x5.toNat zE) x1).bind fun (r0 : Int) => ifb (decide (r0 < 0)) (some (-1 : Int)) (q1k.L5 k k1 x0 r0 (w64 (x5 + 1)))) (none)) (some x1) := by kernel_rfl
abbrev q1k.e (k : Nat) : FuncId × CE := (46, ⟨q1k.ps, q1k.rs, q1k.F k⟩)
theorem q1k.q (k : Nat) : Qs (q1k.e k) := qq (C := q1k.C) (fun k => .c (q47.q k) <| .nil) k
def q3v.C (k : Nat) : CEs := [q1j.e k, q1k.e k]
abbrev q3v.ps : List Par := [⟨t38, .rd⟩, ⟨(.int .i64), .rd⟩]
abbrev q3v.rs : List Res := [⟨(.int .i64), .ro, false⟩]
def q3v.F := q4p E q3v.C [] Tryz.f12 q3v.ps q3v.rs
def q3v.f (k : Nat) (x0 : Book) (x1 : Int) : Option (Int) := q3v.F k (x0, x1)
theorem q3v.f_eq (k : Nat) (x0 : Book) (x1 : Int) : q3v.f k x0 x1 = (q1j.f k x0.1 x1).bind fun (r0 : Int) => ifb (decide (r0 < 0)) (some (-1 : Int)) ((q1k.f k x0.2 r0).bind fun (r1 : Int) => ifb (decide (r1 < 0)) (some (-1 : Int)) (some r1)) := by kernel_rfl
abbrev q3v.e (k : Nat) : FuncId × CE := (12, ⟨q3v.ps, q3v.rs, q3v.F k⟩)
theorem q3v.q (k : Nat) : Qs (q3v.e k) := qq (C := q3v.C) (fun k => .c (q1j.q k) <| .c (q1k.q k) <| .nil) k
def q4e.C (k : Nat) : CEs := []
abbrev q4e.ps : List Par := [⟨t90, .rd⟩]
abbrev q4e.rs : List Res := [⟨t90, .ro, false⟩]
def q4e.F := q4p E q4e.C [] Tryz.f101 q4e.ps q4e.rs
def q4e.f (k : Nat) (x0 : Aff) : Option (Aff) := q4e.F k x0
theorem q4e.f_eq (k : Nat) (x0 : Aff) : q4e.f k x0 = some (x0.1, x0.2.1, x0.2.2.1, x0.2.2.2.1, x0.2.2.2.2) := by kernel_rfl
abbrev q4e.e (k : Nat) : FuncId × CE := (101, ⟨q4e.ps, q4e.rs, q4e.F k⟩)
theorem q4e.q (k : Nat) : Qs (q4e.e k) := qq (C := q4e.C) (fun k => .nil) k
def q1p.C (k : Nat) : CEs := [q4e.e k]
abbrev q1p.ps : List Par := [⟨t25, .rd⟩]
abbrev q1p.rs : List Res := [⟨t25, (.own .ro), false⟩]
def q1p.H : q4o := [(3, [(0, .ro), (3, (.own .ro)), (4, .ro)])]
def q1p.F := q4p E q1p.C q1p.H Tryz.f51 q1p.ps q1p.rs
def q1p.L3 (k k1 : Nat) (x0 : List Aff) (x3 : List Aff) (x4 : Int) : Option (List Aff) := atL E q1p.C q1p.H Tryz.f51 q1p.ps q1p.rs [true, true, false, true, true] k [] k1 (sh 23 [(0, .d t25 x0 .ro), (3, .d t25 x3 (.own .ro)), (4, .d (.int .i64) x4 .ro)])
def q1p.f (k : Nat) (x0 : List Aff) : Option (List Aff) := q1p.F k x0
theorem q1p.f_eq (k : Nat) (x0 : List Aff) : q1p.f k x0 = ifb (decide (0 ≤ (x0.length : Int)) && (decide ((x0.length : Int) ≤ (x0.length : Int)) && decide ((x0.length : Int) * 72 ≤ (q0u : Int)))) (q1p.L3 k k x0 (List.replicate (x0.length : Int).toNat zA) (0 : Int)) (none) := by kernel_rfl
theorem q1p.L3_eq (k k1 : Nat) (x0 : List Aff) (x3 : List Aff) (x4 : Int) : q1p.L3 k (k1 + 1) x0 x3 x4 = ifb (decide (x4 < (x0.length : Int))) (ifb (decide (0 ≤ x4) && decide (x4 < (x0.length : Int))) ((q4e.f k1 (x0.getD x4.toNat zA)).bind fun (r0 : Aff) => ifb (decide (0 ≤ x4) && decide (x4 < (x3.length : Int))) (q1p.L3 k k1 x0 (x3.set x4.toNat r0) (w64 (x4 + 1))) (none)) (none)) (some x3) := by kernel_rfl
abbrev q1p.e (k : Nat) : FuncId × CE := (51, ⟨q1p.ps, q1p.rs, q1p.F k⟩)
theorem q1p.q (k : Nat) : Qs (q1p.e k) := qq (C := q1p.C) (fun k => .c (q4e.q k) <| .nil) k
def q4f.C (k : Nat) : CEs := []
abbrev q4f.ps : List Par := [⟨t92, .rd⟩]
abbrev q4f.rs : List Res := [⟨t92, .ro, false⟩]
def q4f.F := q4p E q4f.C [] Tryz.f102 q4f.ps q4f.rs
def q4f.f (k : Nat) (x0 : ByteArray × ByteArray) : Option En := q4f.F k x0
theorem q4f.f_eq (k : Nat) (x0 : ByteArray × ByteArray) : q4f.f k x0 = some (x0.1, x0.2) := by kernel_rfl
abbrev q4f.e (k : Nat) : FuncId × CE := (102, ⟨q4f.ps, q4f.rs, q4f.F k⟩)
theorem q4f.q (k : Nat) : Qs (q4f.e k) := qq (C := q4f.C) (fun k => .nil) k
def q1q.C (k : Nat) : CEs := [q4f.e k]
abbrev q1q.ps : List Par := [⟨t24, .rd⟩]
abbrev q1q.rs : List Res := [⟨t24, (.own .ro), false⟩]
def q1q.H : q4o := [(3, [(0, .ro), (3, (.own .ro)), (4, .ro)])]
def q1q.F := q4p E q1q.C q1q.H Tryz.f52 q1q.ps q1q.rs
def q1q.L3 (k k1 : Nat) (x0 : List En) (x3 : List En) (x4 : Int) : Option (List En) := atL E q1q.C q1q.H Tryz.f52 q1q.ps q1q.rs [true, true, false, true, true] k [] k1 (sh 23 [(0, .d t24 x0 .ro), (3, .d t24 x3 (.own .ro)), (4, .d (.int .i64) x4 .ro)])
def q1q.f (k : Nat) (x0 : List En) : Option (List En) := q1q.F k x0
theorem q1q.f_eq (k : Nat) (x0 : List En) : q1q.f k x0 = ifb (decide (0 ≤ (x0.length : Int)) && (decide ((x0.length : Int) ≤ (x0.length : Int)) && decide ((x0.length : Int) * 32 ≤ (q0u : Int)))) (q1q.L3 k k x0 (List.replicate (x0.length : Int).toNat zE) (0 : Int)) (none) := by kernel_rfl
theorem q1q.L3_eq (k k1 : Nat) (x0 : List En) (x3 : List En) (x4 : Int) : q1q.L3 k (k1 + 1) x0 x3 x4 = ifb (decide (x4 < (x0.length : Int))) (ifb (decide (0 ≤ x4) && decide (x4 < (x0.length : Int))) ((q4f.f k1 (x0.getD x4.toNat zE)).bind fun (r0 : ByteArray × ByteArray) => ifb (decide (0 ≤ x4) && decide (x4 < (x3.length : Int))) (q1q.L3 k k1 x0 (x3.set x4.toNat r0) (w64 (x4 + 1))) (none)) (none)) (some x3) := by kernel_rfl
abbrev q1q.e (k : Nat) : FuncId × CE := (52, ⟨q1q.ps, q1q.rs, q1q.F k⟩)
theorem q1q.q (k : Nat) : Qs (q1q.e k) := qq (C := q1q.C) (fun k => .c (q4f.q k) <| .nil) k
def q2x.C (k : Nat) : CEs := [q1p.e k, q1q.e k]
abbrev q2x.ps : List Par := [⟨t38, .rd⟩]
abbrev q2x.rs : List Res := [⟨t38, (.pr (.own .ro) (.own .ro)), false⟩]
def q2x.F := q4p E q2x.C [] Tryz.f14 q2x.ps q2x.rs
def q2x.f (k : Nat) (x0 : Book) : Option Book := q2x.F k x0
theorem q2x.f_eq (k : Nat) (x0 : Book) : q2x.f k x0 = (q1p.f k x0.1).bind fun (r0 : List Aff) => (q1q.f k x0.2).bind fun (r1 : List En) => some (r0, r1) := by kernel_rfl
abbrev q2x.e (k : Nat) : FuncId × CE := (14, ⟨q2x.ps, q2x.rs, q2x.F k⟩)
theorem q2x.q (k : Nat) : Qs (q2x.e k) := qq (C := q2x.C) (fun k => .c (q1p.q k) <| .c (q1q.q k) <| .nil) k
end
end Go.Proofs.YtnjdoinlnbjedaaGreatDoor.Rf
end
