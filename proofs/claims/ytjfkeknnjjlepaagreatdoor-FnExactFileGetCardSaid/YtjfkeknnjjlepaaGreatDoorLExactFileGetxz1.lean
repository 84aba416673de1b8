import Derived.Test.YtjfkeknnjjlepaaGreatDoorLExactFileGetx1
import Derived.Test.YtjfkeknnjjlepaaGreatDoorEz2
import Derived.Test.YtjfkeknnjjlepaaGreatDoorKz2
import Derived.Test.YtjfkeknnjjlepaaGreatDoorRows
import Derived.Test.YtjfkeknnjjlepaaGreatDoorCards
import Derived.Test.YtjfkeknnjjlepaaGreatDoorTie
import Derived.WalkKit
import Derived.ProofKit
import Derived.OpenShut
import Derived.ShutString
import Derived.ChangeOld
import Derived.Below
import Derived.Carry
import Derived.SizedLaws
import Derived.Deep.DeepHandedRow
import Derived.Lib.LaidTab
import Derived.Lay

section
namespace Go.Proofs.YtjfkeknnjjlepaaGreatDoor.Rf
open Go Go.RowKit
set_option linter.unusedVariables false
noncomputable section
def q41.C (k : Nat) : CEs := [q3r.e k, q2e.e k]
abbrev q41.ps : List Par := [⟨.str, .rd⟩, ⟨.str, .rd⟩]
abbrev q41.rs : List Res := [⟨(.row .str), (.own .ro), false⟩, ⟨(.int .i64), .ro, false⟩]
def q41.F := q4v E q41.C [] Tryz.f38 q41.ps q41.rs
def q41.f (k : Nat) (x0 : ByteArray) (x1 : ByteArray) : Option (List ByteArray × Int) := q41.F k (x0, x1)
theorem q41.f_eq (k : Nat) (x0 : ByteArray) (x1 : ByteArray) : q41.f k x0 x1 = (q3r.f k x0).bind fun (r0 : Bool) => ifb (!r0) (some (([] : List ByteArray), (0 : Int))) (ifb (decide ((x1.size : Int) > (12000 : Int))) (some (([] : List ByteArray), (0 : Int))) ((q2e.f k x0 x1).bind fun (r1 : List ByteArray × Int × Book) => some (r1.1, r1.2.1))) := by kernel_rfl
abbrev q41.e (k : Nat) : FuncId × CE := (38, ⟨q41.ps, q41.rs, q41.F k⟩)
theorem q41.q (k : Nat) : Qs (q41.e k) := qq (C := q41.C) (fun k => .c (q3r.q k) <| .c (q2e.q k) <| .nil) k
def q3x.C (k : Nat) : CEs := [q3q.e k, q1n.e k]
abbrev q3x.ps : List Par := [⟨.str, .rd⟩, ⟨.str, .rd⟩]
abbrev q3x.rs : List Res := [⟨(.row .str), (.own .ro), false⟩, ⟨(.int .i64), .ro, false⟩]
def q3x.F := q4v E q3x.C [] Tryz.f39 q3x.ps q3x.rs
def q3x.f (k : Nat) (x0 : ByteArray) (x1 : ByteArray) : Option (List ByteArray × Int) := q3x.F k (x0, x1)
theorem q3x.f_eq (k : Nat) (x0 : ByteArray) (x1 : ByteArray) : q3x.f k x0 x1 = (q3q.f k x0).bind fun (r0 : Bool) => ifb (!r0) (some (([] : List ByteArray), (0 : Int))) (ifb (decide ((x1.size : Int) > (12000 : Int))) (some (([] : List ByteArray), (0 : Int))) ((q1n.f k x0 x1 (12000 : Int)).bind fun (r1 : List ByteArray × Int × Book) => some (r1.1, r1.2.1))) := by kernel_rfl
abbrev q3x.e (k : Nat) : FuncId × CE := (39, ⟨q3x.ps, q3x.rs, q3x.F k⟩)
theorem q3x.q (k : Nat) : Qs (q3x.e k) := qq (C := q3x.C) (fun k => .c (q3q.q k) <| .c (q1n.q k) <| .nil) k
def q1i.C (k : Nat) : CEs := []
abbrev q1i.ps : List Par := [⟨(.row .str), .rd⟩, ⟨(.row .str), .rd⟩]
abbrev q1i.rs : List Res := [⟨.bool, .ro, false⟩]
def q1i.H : q4u := [(4, [(0, .ro), (1, .ro), (5, .ro)])]
def q1i.F := q4v E q1i.C q1i.H Tryz.f40 q1i.ps q1i.rs
def q1i.L4 (k k1 : Nat) (x0 : List ByteArray) (x1 : List ByteArray) (x5 : Int) : Option (Bool) := atL E q1i.C q1i.H Tryz.f40 q1i.ps q1i.rs [true, true, false, true, true] k [] k1 (sh 26 [(0, .d (.row .str) x0 .ro), (1, .d (.row .str) x1 .ro), (5, .d (.int .i64) x5 .ro)])
def q1i.f (k : Nat) (x0 : List ByteArray) (x1 : List ByteArray) : Option (Bool) := q1i.F k (x0, x1)
theorem q1i.f_eq (k : Nat) (x0 : List ByteArray) (x1 : List ByteArray) : q1i.f k x0 x1 = ifb ((x0.length : Int) != (x1.length : Int)) (some false) (q1i.L4 k k x0 x1 (0 : Int)) := by kernel_rfl
theorem q1i.L4_eq (k k1 : Nat) (x0 : List ByteArray) (x1 : List ByteArray) (x5 : Int) : q1i.L4 k (k1 + 1) x0 x1 x5 = ifb (decide (x5 < (x0.length : Int))) (ifb (decide (0 ≤ x5) && decide (x5 < (x0.length : Int))) (ifb (decide (0 ≤ x5) && decide (x5 < (x1.length : Int))) (ifb (!((x0.getD x5.toNat bz).toList == (x1.getD x5.toNat bz).toList)) (some false) (q1i.L4 k k1 x0 x1 (w64 (x5 + 1)))) (none)) (none)) (some true) := by kernel_rfl
abbrev q1i.e (k : Nat) : FuncId × CE := (40, ⟨q1i.ps, q1i.rs, q1i.F k⟩)
theorem q1i.q (k : Nat) : Qs (q1i.e k) := qq (C := q1i.C) (fun k => .nil) k
def q0x.C (k : Nat) : CEs := [q0g.e k]
abbrev q0x.ps : List Par := [⟨(.row .str), .io (.own .ro)⟩, ⟨(.int .i64), .rd⟩]
abbrev q0x.rs : List Res := [⟨(.int .i64), .ro, false⟩]
def q0x.H : q4u := [(2, [(0, (.own .ro)), (1, .ro), (5, .ro)])]
def q0x.F := q4v E q0x.C q0x.H Tryz.f41 q0x.ps q0x.rs
def q0x.L2 (k k1 : Nat) (x0 : List ByteArray) (x1 : Int) (x5 : Int) : Option (Int × List ByteArray) := atL E q0x.C q0x.H Tryz.f41 q0x.ps q0x.rs [true, false, true, true] k [] k1 (sh 20 [(0, .d (.row .str) x0 (.own .ro)), (1, .d (.int .i64) x1 .ro), (5, .d (.int .i64) x5 .ro)])
def q0x.f (k : Nat) (x0 : List ByteArray) (x1 : Int) : Option (Int × List ByteArray) := q0x.F k (x0, x1)
theorem q0x.f_eq (k : Nat) (x0 : List ByteArray) (x1 : Int) : q0x.f k x0 x1 = q0x.L2 k k x0 x1 (0 : Int) := by kernel_rfl
theorem q0x.L2_eq (k k1 : Nat) (x0 : List ByteArray) (x1 : Int) (x5 : Int) : q0x.L2 k (k1 + 1) x0 x1 x5 = ifb (decide (x5 < (x0.length : Int))) ((q0g.f k1 x1).bind fun (r0 : ByteArray) => ifb (decide (0 ≤ x5) && decide (x5 < (x0.length : Int))) (q0x.L2 k k1 (x0.set x5.toNat r0) (w64 (x1 + 1)) (w64 (x5 + 1))) (none)) (some (x1, x0)) := by kernel_rfl
abbrev q0x.e (k : Nat) : FuncId × CE := (41, ⟨q0x.ps, q0x.rs, q0x.F k⟩)
theorem q0x.q (k : Nat) : Qs (q0x.e k) := qq (C := q0x.C) (fun k => .c (q0g.q k) <| .nil) k
def q0v.C (k : Nat) : CEs := [q0g.e k]
abbrev q0v.ps : List Par := [⟨(.row .str), .rd⟩, ⟨(.int .i64), .rd⟩]
abbrev q0v.rs : List Res := [⟨(.int .i64), .ro, false⟩]
def q0v.H : q4u := [(2, [(0, .ro), (1, .ro), (5, .ro)])]
def q0v.F := q4v E q0v.C q0v.H Tryz.f42 q0v.ps q0v.rs
def q0v.L2 (k k1 : Nat) (x0 : List ByteArray) (x1 : Int) (x5 : Int) : Option (Int) := atL E q0v.C q0v.H Tryz.f42 q0v.ps q0v.rs [true, false, true, true] k [] k1 (sh 22 [(0, .d (.row .str) x0 .ro), (1, .d (.int .i64) x1 .ro), (5, .d (.int .i64) x5 .ro)])
def q0v.f (k : Nat) (x0 : List ByteArray) (x1 : Int) : Option (Int) := q0v.F k (x0, x1)
theorem q0v.f_eq (k : Nat) (x0 : List ByteArray) (x1 : Int) : q0v.f k x0 x1 = q0v.L2 k k x0 x1 (0 : Int) := by kernel_rfl
theorem q0v.L2_eq (k k1 : Nat) (x0 : List ByteArray) (x1 : Int) (x5 : Int) : q0v.L2 k (k1 + 1) x0 x1 x5 = ifb (decide (x5 < (x0.length : Int))) (ifb (decide (0 ≤ x5) && decide (x5 < (x0.length : Int))) ((q0g.f k1 x1).bind fun (r0 : ByteArray) => ifb (!((x0.getD x5.toNat bz).toList == r0.toList)) (some (-1 : Int)) (q0v.L2 k k1 x0 (w64 (x1 + 1)) (w64 (x5 + 1)))) (none)) (some x1) := by kernel_rfl
abbrev q0v.e (k : Nat) : FuncId × CE := (42, ⟨q0v.ps, q0v.rs, q0v.F k⟩)
theorem q0v.q (k : Nat) : Qs (q0v.e k) := qq (C := q0v.C) (fun k => .c (q0g.q k) <| .nil) k
def q09.C (k : Nat) : CEs := [q41.e k, q3x.e k, q1i.e k, q0x.e k, q0v.e k]
abbrev q09.ps : List Par := [⟨.str, .rd⟩, ⟨.str, .rd⟩]
abbrev q09.rs : List Res := [⟨.bool, .ro, false⟩]
def q09.H : q4u := [(7, [(0, .ro), (1, .ro), (5, (.own .ro)), (6, .ro), (7, (.own .ro)), (8, .ro)]), (17, [(0, .ro), (1, .ro), (5, (.own .ro)), (6, .ro), (7, (.own .ro)), (9, .ro)]), (24, [(9, .ro), (10, .ro)])]
def q09.F := q4v E q09.C q09.H Tryz.f7 q09.ps q09.rs
def q09.J7 (k : Nat) (x0 : ByteArray) (x1 : ByteArray) (x5 : List ByteArray) (x6 : Int) (x7 : List ByteArray) (x8 : Int) : Option (Bool) := atJ E q09.C q09.H Tryz.f7 q09.ps q09.rs [true, true, true, true, true] 0 [] k (sh 74 [(0, .d .str x0 .ro), (1, .d .str x1 .ro), (5, .d (.row .str) x5 (.own .ro)), (6, .d (.int .i64) x6 .ro), (7, .d (.row .str) x7 (.own .ro)), (8, .d (.int .i64) x8 .ro)])
def q09.J17 (k : Nat) (x0 : ByteArray) (x1 : ByteArray) (x5 : List ByteArray) (x6 : Int) (x7 : List ByteArray) (x9 : Int) : Option (Bool) := atJ E q09.C q09.H Tryz.f7 q09.ps q09.rs [true, true, true, true, true, true, true, true, true, true, true, true] 0 [0] k (sh 74 [(0, .d .str x0 .ro), (1, .d .str x1 .ro), (5, .d (.row .str) x5 (.own .ro)), (6, .d (.int .i64) x6 .ro), (7, .d (.row .str) x7 (.own .ro)), (9, .d (.int .i64) x9 .ro)])
def q09.J24 (k : Nat) (x9 : Int) (x10 : Int) : Option (Bool) := atJ E q09.C q09.H Tryz.f7 q09.ps q09.rs [true, true, true, true, true, true, true, true, true, true, true, true, true, true, true, true, true] 0 [0, 0] k (sh 74 [(9, .d (.int .i64) x9 .ro), (10, .d (.int .i64) x10 .ro)])
def q09.f (k : Nat) (x0 : ByteArray) (x1 : ByteArray) : Option (Bool) := q09.F k (x0, x1)
theorem q09.f_eq (k : Nat) (x0 : ByteArray) (x1 : ByteArray) : q09.f k x0 x1 = ifb (decide ((x0.size : Int) > (1048576 : Int))) (some true) (ifb (decide ((x1.size : Int) > (1048576 : Int))) (some true) ((q41.f k x0 x1).bind fun (r0 : List ByteArray × Int) => (q3x.f k x0 x1).bind fun (r1 : List ByteArray × Int) => q09.J7 k x0 x1 r0.1 r0.2 r1.1 r1.2)) := by rw [qw7]; kernel_rfl
theorem q09.J7_eq (k : Nat) (x0 : ByteArray) (x1 : ByteArray) (x5 : List ByteArray) (x6 : Int) (x7 : List ByteArray) (x8 : Int) : q09.J7 (k + 1) x0 x1 x5 x6 x7 x8 = (q1i.f k x7 x5).bind fun (r2 : Bool) => ifb (!r2) (some false) (ifb (x8 != x6) (some false) ((q0x.f k x7 (1 : Int)).bind fun (r3 : Int × List ByteArray) => (q0v.f k r3.2 (1 : Int)).bind fun (r4 : Int) => ifb (decide (r4 < 0)) (some false) (ifb (r4 != r3.1) (some false) (q09.J17 k x0 x1 x5 x6 r3.2 r3.1)))) := by kernel_rfl
theorem q09.J17_eq (k : Nat) (x0 : ByteArray) (x1 : ByteArray) (x5 : List ByteArray) (x6 : Int) (x7 : List ByteArray) (x9 : Int) : q09.J17 (k + 1) x0 x1 x5 x6 x7 x9 = (q3x.f k x0 x1).bind fun (r5 : List ByteArray × Int) => (q1i.f k r5.1 x5).bind fun (r6 : Bool) => ifb (!r6) (some false) (ifb (r5.2 != x6) (some false) ((q0v.f k x7 (1 : Int)).bind fun (r7 : Int) => ifb (decide (r7 < 0)) (some false) (q09.J24 k x9 r7))) := by kernel_rfl
theorem q09.J24_eq (k : Nat) (x9 : Int) (x10 : Int) : q09.J24 (k + 1) x9 x10 = ifb (x10 != x9) (some false) (some true) := by kernel_rfl
abbrev q09.e (k : Nat) : FuncId × CE := (7, ⟨q09.ps, q09.rs, q09.F k⟩)
theorem q09.q (k : Nat) : Qs (q09.e k) := qq (C := q09.C) (fun k => .c (q41.q k) <| .c (q3x.q k) <| .c (q1i.q k) <| .c (q0x.q k) <| .c (q0v.q k) <| .nil) k
end
end Go.Proofs.YtjfkeknnjjlepaaGreatDoor.Rf
end

section
namespace Go.Proofs.YtjfkeknnjjlepaaGreatDoor.Rf
open Go Go.RowKit
set_option linter.unusedVariables false
set_option linter.unusedSimpArgs false
noncomputable def q8o (key file : ByteArray) : List ByteArray × Int := if qde key && decide (file.size ≤ 12000) then ((hist key file 12000).1, ((hist key file 12000).2.1 : Int)) else ([], 0)
theorem qg6 (key file : ByteArray) (hk : key.size ≤ 9223372036854775807) : Al fun k => q3x.f k key file = some (q8o key file) := by
  have e1 := fun k => qcf k key hk
  unfold q8o
  cases h : qde key with
  | false => exact Al.now fun k => by rw [q3x.f_eq, e1, h, Option.bind_some, Bool.not_false, q06]; rfl
  | true =>
    by_cases h2 : file.size ≤ 12000
    · refine (qaf key file 12000 hk (by omega) (by omega)).mono fun k e => ?_
      rw [show ((12000 : Nat) : Int) = 12000 from rfl] at e
      rw [q3x.f_eq, e1, h, Option.bind_some, Bool.not_true, q08, decide_eq_false (show ¬ (file.size : Int) > 12000 by omega), q08, e, Option.bind_some, decide_eq_true h2]
      rfl
    · refine Al.now fun k => ?_
      rw [q3x.f_eq, e1, h, Option.bind_some, Bool.not_true, q08, decide_eq_true (show (file.size : Int) > 12000 by omega), q06, decide_eq_false h2]
      rfl
theorem qg7 (key file : ByteArray) (hk : key.size ≤ 9223372036854775807) : Al fun k => q41.f k key file = some (q8o key file) := by
  have e1 := fun k => qcg k key hk
  unfold q8o
  cases h : qde key with
  | false => exact Al.now fun k => by rw [q41.f_eq, e1, h, Option.bind_some, Bool.not_false, q06]; rfl
  | true =>
    by_cases h2 : file.size ≤ 12000
    · refine (qb7 key file hk (by omega)).mono fun k e => ?_
      rw [qnn (Nat.le_refl _) h2] at e
      rw [q41.f_eq, e1, h, Option.bind_some, Bool.not_true, q08, decide_eq_false (show ¬ (file.size : Int) > 12000 by omega), q08, e, Option.bind_some, decide_eq_true h2]
      rfl
    · refine Al.now fun k => ?_
      rw [q41.f_eq, e1, h, Option.bind_some, Bool.not_true, q08, decide_eq_true (show (file.size : Int) > 12000 by omega), q06, decide_eq_false h2]
      rfl
end Go.Proofs.YtjfkeknnjjlepaaGreatDoor.Rf
end

section
namespace Go.Proofs.YtjfkeknnjjlepaaGreatDoor.Rf
open Go Go.RowKit
set_option linter.unusedVariables false
set_option linter.unusedSimpArgs false
theorem qgk (l : List ByteArray) (hl : Sm l.length) : Al fun k => q1i.f k l l = some true := by
  have key := qa1 (Q := fun i => Al2 fun k k1 => q1i.L4 k k1 l l (i : Int) = some true) l.length
    (Al2.succ (Al2.now fun k k1 => by simp only [q1i.L4_eq, at_end (Nat.lt_irrefl _), q08])) (fun i hi h => by
      obtain ⟨c1, c2, c3, c4⟩ := q6t hi hl
      refine Al2.succ (h.mono fun k k1 e => ?_)
      simp only [q1i.L4_eq, c1, c2, c3, w64, c4, Bool.and_self, q06, beq_self_eq_true, Bool.not_true, q08, e]) 0 (Nat.zero_le _)
  exact key.diag.mono fun k e => by rw [q1i.f_eq, qm4, q08]; exact e
noncomputable def mkS : Nat → Nat → List ByteArray
  | 0, _ => []
  | n + 1, m => mT m :: mkS n (m + 1)
theorem qbb : ∀ (t a : List ByteArray) (m : Nat), a.length + t.length ≤ 1099511627776 → m + t.length ≤ 1099511627776 → Al2 fun k k1 => q0x.L2 k k1 (a ++ t) (m : Int) (a.length : Int) = some (((m + t.length : Nat) : Int), a ++ mkS t.length m)
  | [], a, m, h1, h2 => Al2.succ (Al2.now fun k k1 => by
    simp only [q0x.L2_eq, List.append_nil, at_end (Nat.lt_irrefl _), q08, List.length_nil, Nat.add_zero, mkS])
  | x :: t, a, m, h1, h2 => by
    rw [List.length_cons] at h1 h2
    have hi : a.length < (a ++ x :: t).length := by simp
    obtain ⟨c1, c2, c3, c4⟩ := q6t hi (by simp only [List.length_append, List.length_cons]; omega)
    have ih := qbb t (a ++ [mT m]) (m + 1) (by rw [List.length_append]; simp; omega) (by omega)
    refine Al2.succ (((q55 m (by omega)).snd.and ih).mono fun k k1 ⟨e1, e2⟩ => ?_)
    simp only [q0x.L2_eq, c1, c2, c3, Bool.and_self, q06, e1, Option.bind_some, set_mid, q7r m (by omega)]
    simp only [w64, c4]
    rw [show a ++ mT m :: t = a ++ [mT m] ++ t by simp, show ((a.length + 1 : Nat) : Int) = ((a ++ [mT m]).length : Int) by simp, e2]
    simp only [List.length_cons, mkS, List.append_assoc, List.cons_append, List.nil_append]
    rw [show m + 1 + t.length = m + (t.length + 1) by omega]
end Go.Proofs.YtjfkeknnjjlepaaGreatDoor.Rf
end

section
namespace Go.Proofs.YtjfkeknnjjlepaaGreatDoor.Rf
open Go Go.RowKit
set_option linter.unusedVariables false
set_option linter.unusedSimpArgs false
theorem qhi : ∀ (n m : Nat), (mkS n m).length = n
  | 0, _ => rfl
  | n + 1, m => by rw [mkS, List.length_cons, qhi]
theorem qbc : ∀ (n : Nat) (a : List ByteArray) (m : Nat), a.length + n ≤ 1099511627776 → m + n ≤ 1099511627776 → Al2 fun k k1 => q0v.L2 k k1 (a ++ mkS n m) (m : Int) (a.length : Int) = some ((m + n : Nat) : Int)
  | 0, a, m, h1, h2 => Al2.succ (Al2.now fun k k1 => by
    simp only [q0v.L2_eq, mkS, List.append_nil, at_end (Nat.lt_irrefl _), q08, Nat.add_zero])
  | n + 1, a, m, h1, h2 => by
    have hi : a.length < (a ++ mkS (n + 1) m).length := by simp [mkS]
    obtain ⟨c1, c2, c3, c4⟩ := q6t hi (by simp only [List.length_append, qhi]; omega)
    have ih := qbc n (a ++ [mT m]) (m + 1) (by rw [List.length_append]; simp; omega) (by omega)
    refine Al2.succ (((q55 m (by omega)).snd.and ih).mono fun k k1 ⟨e1, e3⟩ => ?_)
    simp only [q0v.L2_eq, c1, c2, c3, Bool.and_self, q06, e1, Option.bind_some, q7r m (by omega)]
    simp only [mkS, q9q, beq_self_eq_true, Bool.not_true, q08]
    simp only [w64, c4]
    rw [show a ++ mT m :: mkS n (m + 1) = a ++ [mT m] ++ mkS n (m + 1) by simp, show ((a.length + 1 : Nat) : Int) = ((a ++ [mT m]).length : Int) by simp, e3]
    rw [show m + 1 + n = m + (n + 1) by omega]
end Go.Proofs.YtjfkeknnjjlepaaGreatDoor.Rf
end

section
/- The law FnExactFileGet is true. -/
namespace Go.Proofs.YtjfkeknnjjlepaaGreatDoor.Rf
open Go Go.RowKit
set_option linter.unusedVariables false
set_option linter.unusedSimpArgs false
theorem qu0 (key file : ByteArray) (most : Nat) : (hist key file most).1.length ≤ most := by
  have h := qro key file most
  have h1 := qii h.2.2
  have h2 := qkz key file most
  have h3 := h.2.1
  omega
theorem qrx (key file : ByteArray) : (q8o key file).1.length ≤ 12000 := by
  unfold q8o
  split
  · exact qu0 _ _ _
  · simp
theorem qxp (l : List ByteArray) (hl : l.length ≤ 100000) : Al fun k => q0x.f k l 1 = some (((1 + l.length : Nat) : Int), mkS l.length 1) :=
  (qbb l [] 1 (by simp; omega) (by omega)).diag.mono fun k e => by
    rw [q0x.f_eq]
    exact e
theorem qxq (n : Nat) (hl : n ≤ 100000) : Al fun k => q0v.f k (mkS n 1) 1 = some ((1 + n : Nat) : Int) :=
  (qbc n [] 1 (by simp; omega) (by omega)).diag.mono fun k e => by
    rw [q0v.f_eq]
    exact e
theorem qbv (key file : ByteArray) (hk : q7s .str key) (hf : q7s .str file) : ∃ k, q09.f k key file = some true := by
  by_cases h1 : key.size ≤ 1048576
  case neg => exact ⟨0, by rw [q09.f_eq, decide_eq_true (show (key.size : Int) > 1048576 by omega), q06]⟩
  have n1 : decide ((key.size : Int) > 1048576) = false := decide_eq_false (by omega)
  by_cases h2 : file.size ≤ 1048576
  case neg => exact ⟨0, by rw [q09.f_eq, n1, q08, decide_eq_true (show (file.size : Int) > 1048576 by omega), q06]⟩
  have n2 : decide ((file.size : Int) > 1048576) = false := decide_eq_false (by omega)
  have hl := qrx key file
  have hI := qg6 key file (by omega)
  have hS := qg7 key file (by omega)
  have hE := qgk (q8o key file).1 (by unfold Sm; omega)
  have hM := qxp (q8o key file).1 (by omega)
  have hH := qxq (q8o key file).1.length (by omega)
  have j17 : Al fun k => q09.J17 k key file (q8o key file).1 (q8o key file).2 (mkS (q8o key file).1.length 1) ((1 + (q8o key file).1.length : Nat) : Int) = some true :=
    Al.succ ((((hI.and hE).and hH).and (Al.succ (p := fun k => q09.J24 k ((1 + (q8o key file).1.length : Nat) : Int) ((1 + (q8o key file).1.length : Nat) : Int) = some true) (Al.now fun k => by rw [q09.J24_eq, bne_self_eq_false, q08]))).mono fun k ⟨⟨⟨e, e2⟩, e3⟩, e4⟩ => by
      rw [q09.J17_eq, e, Option.bind_some, e2, Option.bind_some, Bool.not_true, q08, bne_self_eq_false, q08, e3, Option.bind_some, decide_eq_false (show ¬ ((1 + (q8o key file).1.length : Nat) : Int) < 0 by omega), q08, e4])
  have j7 : Al fun k => q09.J7 k key file (q8o key file).1 (q8o key file).2 (q8o key file).1 (q8o key file).2 = some true :=
    Al.succ (((hE.and hM).and (hH.and j17)).mono fun k ⟨⟨e, e2⟩, e3, e4⟩ => by
      rw [q09.J7_eq, e, Option.bind_some, Bool.not_true, q08, bne_self_eq_false, q08, e2, Option.bind_some]
      dsimp only
      rw [e3, Option.bind_some, decide_eq_false (show ¬ ((1 + (q8o key file).1.length : Nat) : Int) < 0 by omega), q08, bne_self_eq_false, q08, e4])
  refine (((hS.and hI).and j7).mono fun k ⟨⟨e, e2⟩, e3⟩ => ?_).get
  rw [q09.f_eq, n1, q08, n2, q08, e, Option.bind_some, e2, Option.bind_some, e3]
end Go.Proofs.YtjfkeknnjjlepaaGreatDoor.Rf
end

section
/- 'FnExactFileGet': for every input it returns true and its arguments read as before. Conditions: those of the given row alone (the listed package variables as the program's text lays them). -/
namespace Go.Proofs.YtjfkeknnjjlepaaGreatDoor.fnExactFileGet
open Go.ChangeShapes Go.WideShapes Go.ChangeAt Go.RowKit
open Go.Proofs.YtjfkeknnjjlepaaGreatDoor.Rf Go.Proofs.YtjfkeknnjjlepaaGreatDoor.Frame
set_option linter.unusedVariables false
theorem own : ownKnob Tryz.prog.godebug = none := by kernel_rfl
theorem laidOut : laidOutB Tryz.prog = true := kLa
theorem qcx : ∀ n ∈ (["loop.example/medlar/impl.shaStep"] : List String), ∀ g t, Tryz.prog.globalNamed n = some g → (Tryz.prog.globals[g]?).map (·.type) = some t → Tryz.prog.readableRec t = true ∧ t < Tryz.prog.types.size := by
  intro n hn g t hg ht
  simp only [List.mem_cons, List.not_mem_nil, or_false] at hn
  subst hn
  · obtain rfl := Option.some.inj ((show Tryz.prog.globalNamed "loop.example/medlar/impl.shaStep" = some 0 by kernel_rfl).symm.trans hg)
    obtain rfl := Option.some.inj ((show (Tryz.prog.globals[0]?).map (·.type) = some 195 by kernel_rfl).symm.trans ht)
    exact ⟨by kernel_rfl, of_decide_eq_true (by kernel_rfl)⟩
set_option maxRecDepth 100000 in
theorem contract (H : Type) (enc : TypeId × Value → H) (W : World) (base : Nat) (args : Array Value) (ds gs : List (DataW H)) (before : List MemPlace)
    (hval0 : ∀ (j : Nat) t v, Tryz.f7.params[j]? = some t → args[j]? = some v → Value.okWide Tryz.prog W .any base t v)
    (hW : DataW.Whole enc Tryz.prog Tryz.f7.params.toList Rows.fnExactFileGetSpec.vars false W args.toList ds gs before)
    (hsz0 : (DataW.weightsEach Tryz.prog (Tryz.f7.params.toList ++ (OpenSpec.ofChange Rows.fnExactFileGetSpec).bare.plain.varTypes Tryz.prog) (ds ++ gs)).all (· ≤ reachBytes) = true)
    (hL : laidMetH Tryz.prog Rows.fnExactFileGetRow.laid W) (hsh : W.ShapedOpen Tryz.prog) :
    Calls Tryz.prog 7 args W fun e W' => ∃ v, e = .returned v ∧ Rows.fnExactFileGetSpec.post enc Tryz.prog Tryz.f7 false true false false W args v W' := by
  have hGm : ∃ x : Int, W.cell? ⟨3, 0, none⟩ = some (.int .i64 x) := Go.Proofs.cell_of_shapedOpen_int (zero := #[.int .i64 0]) (t := 3) hsh (of_decide_eq_true (by kernel_rfl)) (by kernel_rfl) rfl (by kernel_rfl) (by kernel_rfl) Tryz.underlying3
  have hGp : Lib.TabIs Tryz.prog W "internal/strconv.uint64pow10" .u64 Lib.pow10Tab := q5i (show Tryz.prog.globalNamed "internal/strconv.uint64pow10" = some 6 by kernel_rfl) (show (Tryz.prog.globals[6]?).map (·.type) = some 276 by kernel_rfl) Tryz.underlying276 Tryz.underlying194 (by kernel_rfl) (by kernel_rfl) hL (by rw [show Lib.tabData .u64 Lib.pow10Tab = Rows.laid_internal_strconv_uint64pow10 from by kernel_rfl]; simp [Rows.fnExactFileGetRow])
  have hGs : Lib.TabIs Tryz.prog W "loop.example/medlar/impl.shaStep" .u32 q6r := q5i (show Tryz.prog.globalNamed "loop.example/medlar/impl.shaStep" = some 0 by kernel_rfl) (show (Tryz.prog.globals[0]?).map (·.type) = some 195 by kernel_rfl) Tryz.underlying195 Tryz.underlying192 (by kernel_rfl) (by kernel_rfl) hL (by rw [show Lib.tabData .u32 q6r = Rows.laid_loop_example_medlar_impl_shaStep from by kernel_rfl]; simp [Rows.fnExactFileGetRow])
  have hGe := q5j (show Tryz.prog.globalNamed "strconv.ErrSyntax" = some 1 by kernel_rfl) (show (Tryz.prog.globals[1]?).map (·.type) = some 90 by kernel_rfl) Tryz.underlying90 hL (show ("strconv.ErrSyntax", Rows.laid_strconv_ErrSyntax) ∈ Rows.fnExactFileGetRow.laid by simp [Rows.fnExactFileGetRow])
  have hGr := q5j (show Tryz.prog.globalNamed "strconv.ErrRange" = some 2 by kernel_rfl) (show (Tryz.prog.globals[2]?).map (·.type) = some 90 by kernel_rfl) Tryz.underlying90 hL (show ("strconv.ErrRange", Rows.laid_strconv_ErrRange) ∈ Rows.fnExactFileGetRow.laid by simp [Rows.fnExactFileGetRow])
  have hJ : Jp.J W := ⟨hGm, hGp, hGs, hGe, hGr⟩
  clear hsh hL
  have hsz := hsz0
  have hval := hval0
  have hW' := hW
  obtain ⟨p, q, hA0, hV, rfl, hfz, hnd⟩ := hW
  have hA : DataW.TrodAll enc Tryz.prog W 0 (fun _ => true) true Tryz.f7.params.toList args.toList ds p := hA0
  rw [Tryz.params7] at hA hval
  obtain ⟨v0, vs0, d0, ds0, p0, q0, hargs, rfl, rfl, h0, r0⟩ := trodAll_cons hA
  obtain ⟨v1, vs1, d1, ds1, p1, q1, rfl, rfl, rfl, h1, r1⟩ := trodAll_cons r0
  obtain ⟨rfl, rfl, rfl⟩ := trodAll_nil r1
  obtain rfl : args = #[v0, v1] := by cases args; simp_all
  have lt0 : ∀ x ∈ p0, x.block < W.heap.size := by obtain ⟨m, hm⟩ := h0; exact DataW.trod_lt m _ _ _ hm
  obtain ⟨x0, o0, G0⟩ := q7t (τ := .str) (show q5l Tryz.prog .str (.inl 9) = true by kernel_rfl) (hval 0 9 v0 rfl rfl) h0
  have lt1 : ∀ x ∈ p1, x.block < W.heap.size := by obtain ⟨m, hm⟩ := h1; exact DataW.trod_lt m _ _ _ hm
  obtain ⟨x1, o1, G1⟩ := q7t (τ := .str) (show q5l Tryz.prog .str (.inl 9) = true by kernel_rfl) (hval 1 9 v1 rfl rfl) h1
  obtain ⟨gv0, gw0, qv0, rfl, hv0⟩ := q6k hV
  obtain ⟨rfl, _⟩ := trodVars_none hv0
  clear hA0 hval0 hsz0
  obtain ⟨k, hk⟩ := qbv x0 x1 G0 G1
  refine (row_of (q09.q k).1 rfl (x := (x0, x1)) (r := true) hk rfl (qwx hJ) hJ rfl ?_).mono fun e W' ⟨he, bel⟩ => ?_
  · intro i p s hp hs
    match i, hp, hs with
    | 0, _, hs => obtain rfl := Option.some.inj (show some (⟨.str, x0⟩ : Sv) = some s from hs); exact o0
    | 1, _, hs => obtain rfl := Option.some.inj (show some (⟨.str, x1⟩ : Sv) = some s from hs); exact o1
    | i + 2, hp, _ => simp at hp
  subst he
  obtain ⟨pv, hpv⟩ := q5v laidOut bel _ _ _ hV qcx
  exact ⟨_, rfl, _, _, _, [], _, pv, hW', trodAll_mk1 (shut_bool Tryz.underlying4 _), (trodAll_cons_mk (Below.trod laidOut (by kernel_rfl) (of_decide_eq_true (by kernel_rfl)) h0 bel lt0) (trodAll_cons_mk (Below.trod laidOut (by kernel_rfl) (of_decide_eq_true (by kernel_rfl)) h1 bel lt1) trodAll_mk0)), hpv, bel.frame _, fun h => by cases h⟩
noncomputable def q56 (os : Os) : World := World.laidAll Tryz.prog os Rows.fnExactFileGetRow.laid
set_option maxRecDepth 100000 in
theorem q7y (os : Os) : laidMet Tryz.prog Rows.fnExactFileGetRow.laid ((q56 os).forCall (fun _ _ => 0) ⟨#[], #[.string ByteArray.empty, .string ByteArray.empty], []⟩).memory :=
  laidMet_laidAll _ (by kernel_rfl) (by kernel_rfl)
set_option maxRecDepth 100000 in
theorem reads (os : Os) {H : Type} (enc : TypeId × Value → H) : ∃ x, DataW.whole enc Tryz.prog ((q56 os).forCall (fun _ _ => 0) ⟨#[], #[.string ByteArray.empty, .string ByteArray.empty], []⟩).memory Tryz.f7.params.toList Rows.fnExactFileGetSpec.vars false #[(.string ByteArray.empty : Value), (.string ByteArray.empty : Value)].toList 12 = some x :=
  Option.isSome_iff_exists.1 (by kernel_rfl)
set_option maxRecDepth 100000 in
theorem lifted (os : Os) (started : os.Started) (H : Type) (enc : TypeId × Value → H) (F : Stop.Interp) :
    ReturnsInHanded {} Tryz.checked os 7 .any ((OpenSpec.ofChange Rows.fnExactFileGetSpec).preRow enc Tryz.prog Tryz.f7 Rows.fnExactFileGetRow.domain false Rows.fnExactFileGetRow.laid) (((OpenSpec.ofChange Rows.fnExactFileGetSpec).at F).post enc Tryz.prog Tryz.f7 false true false false) := by
  obtain ⟨x, hx⟩ := reads os enc
  refine returnsInHanded_of_row (C := Tryz.checked) (s := OpenSpec.ofChange Rows.fnExactFileGetSpec) own started (by kernel_rfl) Tryz.func7
    (witness_row_at (enc := enc) (C := Tryz.checked) false (q56 os) #[.string ByteArray.empty, .string ByteArray.empty] rfl (by kernel_rfl) (by kernel_rfl) (by kernel_rfl)
      (OpenSpec.preRow_of_cond 12 (x := x) hx (by kernel_rfl) (fun k hk => by cases hk) (by kernel_rfl) (q7y os))) ?_
  intro W base args ds gs before hval hW _ _ hsz hL hsh _
  exact contract H enc W base args ds gs before hval hW hsz hL hsh
theorem kIp : (Rows.fnExactFileGetRow.inPlace == Tryz.prog.inPlace 7) = true := by kernel_rfl
theorem kUn : (Rows.fnExactFileGetRow.unfollowed == Tryz.prog.unfollowed 7) = true := by kernel_rfl
theorem kRe : (Rows.fnExactFileGetRow.recurses == Tryz.prog.recurses 7) = true := by kernel_rfl
theorem kNa : (Rows.fnExactFileGetRow.named == Tryz.prog.varsNamed 7) = true := by kernel_rfl
theorem kGo : false = Rows.fnExactFileGetRow.goesBy Tryz.prog := by kernel_rfl
theorem closed : joinedFacts Tryz.prog 7 Tryz.f7 (OpenSpec.ofChange Rows.fnExactFileGetSpec).bare Rows.fnExactFileGetRow = true := by
  have kMk' : (Tryz.prog.make == some Rows.fnExactFileGetRow.make) = true := kMk
  have kLi' : (Rows.fnExactFileGetRow.lifted == Tryz.prog.liftsFinal) = true := kLi
  have kPk' : (Rows.fnExactFileGetRow.plainKeys == Tryz.prog.plainKeys) = true := kPk
  unfold joinedFacts
  rw [kIp, kUn, kRe, kNa, kLa, kMr, kPk', kSh, kMe, kLi', kMk']
  show _ = true
  kernel_rfl
theorem said : Rows.FnExactFileGetSaid :=
  OpenClaim.holds_of_cond 7 Tryz.f7 rfl rfl rfl rfl rfl rfl rfl ⟨rfl, rfl, rfl, rfl, rfl⟩ rfl rfl rfl rfl rfl (by kernel_rfl) Tryz.func7 closed
    (of_decide_eq_true (by kernel_rfl)) (by unfold Func.isWrapper; first | (rw [if_pos (by decide +kernel)]; kernel_rfl) | (rw [if_neg (by decide +kernel)]; exact ⟨rfl, rfl⟩))
    (fun os started H enc _ F => by rw [OpenClaim.pre_eq_preRow]; exact lifted os started H enc F)
theorem plain (f : FuncId) (fn : Func) (hf : Tryz.pinned.checked.prog.funcNamed "loop.example/medlar/laws.FnExactFileGet" = some f) (hfn : Tryz.pinned.checked.prog.funcs[f]? = some fn) :
    true = Tryz.pinned.checked.prog.looks [] ∧ ∀ (j : Nat) t, fn.params[j]? = some t → Tryz.pinned.checked.prog.wantsStandIn t = false := by
  obtain rfl : f = 7 := Option.some.inj ((show Tryz.prog.funcNamed "loop.example/medlar/laws.FnExactFileGet" = some 7 by kernel_rfl).symm.trans hf) |>.symm
  obtain rfl : fn = Tryz.f7 := (Option.some.inj (Tryz.func7.symm.trans hfn)).symm
  refine ⟨by kernel_rfl, fun j t ht => ?_⟩
  rw [Tryz.params7] at ht
  have hm := Array.mem_of_getElem? ht
  simp only [List.mem_toArray, List.mem_cons, List.not_mem_nil, or_false] at hm
  rcases hm with rfl | rfl
  · exact (show Tryz.prog.wantsStandIn 9 = false by kernel_rfl)
  · exact (show Tryz.prog.wantsStandIn 9 = false by kernel_rfl)
theorem card : Rows.FnExactFileGetCardSaid :=
  Claim7.holds_tied_plain_at .later [] _ _ _ _ said (fun _ h => by cases h) (by kernel_rfl) (fun _ h => by cases h) fnExactFileGet_row_tie rfl ⟨rfl, rfl⟩ (by kernel_rfl) rfl plain kGo
end Go.Proofs.YtjfkeknnjjlepaaGreatDoor.fnExactFileGet
namespace Go.Proofs.YtjfkeknnjjlepaaGreatDoor
theorem fnExactFileGet_holds : Rows.FnExactFileGetCardSaid := fnExactFileGet.card
end Go.Proofs.YtjfkeknnjjlepaaGreatDoor
end
