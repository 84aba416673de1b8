import Derived.Test.YtjfkeknnjjlepaaGreatDoorE1
import Derived.Test.YtjfkeknnjjlepaaGreatDoorEz2
import Derived.Test.YtjfkeknnjjlepaaGreatDoorKz2
import Derived.Test.YtjfkeknnjjlepaaGreatDoorRows
import Derived.Test.YtjfkeknnjjlepaaGreatDoorCards
import Derived.Test.YtjfkeknnjjlepaaGreatDoorTie
import Derived.WalkKit
import Derived.ProofKit
import Derived.OpenShut
import Derived.ShutString
import Derived.ChangeOld
import Derived.Below
import Derived.Carry
import Derived.SizedLaws
import Derived.Deep.DeepHandedRow
import Derived.Lib.LaidTab
import Derived.Lay

section
namespace Go.Proofs.YtjfkeknnjjlepaaGreatDoor.Rf
open Go Go.RowKit
set_option linter.unusedVariables false
noncomputable section
def q0e.C (k : Nat) : CEs := [q2p.e k, q3v.e k, q44.e k]
abbrev q0e.ps : List Par := [⟨t49, .rd⟩, ⟨.str, .rd⟩, ⟨(.int .i64), .rd⟩]
abbrev q0e.rs : List Res := [⟨t49, (.pr .ro (.pr .ro (.pr .ro (.pr (.pr (.own .ro) (.own .ro)) .ro)))), false⟩]
def q0e.H : q4u := [(7, [(2, .ro), (3, .ro), (6, (.pr .ro (.pr .ro (.pr .ro (.pr (.pr (.own .ro) (.own .ro)) .ro))))), (9, .ro)]), (9, [(2, .ro), (3, .ro), (6, (.pr .ro (.pr .ro (.pr .ro (.pr (.pr (.own .ro) (.own .ro)) .ro))))), (9, .ro)]), (11, [(3, .ro), (6, (.pr .ro (.pr .ro (.pr .ro (.pr (.pr (.own .ro) (.own .ro)) .ro))))), (9, .ro)])]
def q0e.F := q4v E q0e.C q0e.H Tryz.f53 q0e.ps q0e.rs
def q0e.J7 (k : Nat) (x2 : Int) (x3 : q0l) (x6 : q0l) (x9 : ByteArray) : Option q0l := atJ E q0e.C q0e.H Tryz.f53 q0e.ps q0e.rs [true, true, true, true, true] 0 [] k (sh 50 [(2, .d (.int .i64) x2 .ro), (3, .box t49 x3 .ro none), (6, .box t49 x6 (.pr .ro (.pr .ro (.pr .ro (.pr (.pr (.own .ro) (.own .ro)) .ro)))) none), (9, .d .str x9 .ro)])
def q0e.J9 (k : Nat) (x2 : Int) (x3 : q0l) (x6 : q0l) (x9 : ByteArray) : Option q0l := atJ E q0e.C q0e.H Tryz.f53 q0e.ps q0e.rs [true, true, true, true, true, true] 0 [0] k (sh 50 [(2, .d (.int .i64) x2 .ro), (3, .box t49 x3 .ro none), (6, .box t49 x6 (.pr .ro (.pr .ro (.pr .ro (.pr (.pr (.own .ro) (.own .ro)) .ro)))) none), (9, .d .str x9 .ro)])
def q0e.J11 (k : Nat) (x3 : q0l) (x6 : q0l) (x9 : ByteArray) : Option q0l := atJ E q0e.C q0e.H Tryz.f53 q0e.ps q0e.rs [true, true, true, true, true, true, true] 0 [0, 0] k (sh 50 [(3, .box t49 x3 .ro none), (6, .box t49 x6 (.pr .ro (.pr .ro (.pr .ro (.pr (.pr (.own .ro) (.own .ro)) .ro)))) none), (9, .d .str x9 .ro)])
def q0e.f (k : Nat) (x0 : q0l) (x1 : ByteArray) (x2 : Int) : Option q0l := q0e.F k (x0, x1, x2)
theorem q0e.f_eq (k : Nat) (x0 : q0l) (x1 : ByteArray) (x2 : Int) : q0e.f k x0 x1 x2 = (q2p.f k x0).bind fun (r0 : Bool) => ifb (!r0) ((q3v.f k x0).bind fun (r1 : q0l) => some r1) (ifb (!x0.2.1) ((q3v.f k x0).bind fun (r2 : q0l) => some r2) ((q44.f k x0 x1).bind fun (r3 : q0l × Int) => ifb (r3.2 == (0 : Int)) (ifb (decide (0 ≤ (x0.2.2.2.2.size : Int)) && (decide ((x0.2.2.2.2.size : Int) ≤ (r3.1.2.2.2.2.size : Int)) && decide ((r3.1.2.2.2.2.size : Int) ≤ (r3.1.2.2.2.2.size : Int)))) (q0e.J7 k x2 x0 (bz, false, (0 : Int), (([] : List Aff), ([] : List En)), bz) (r3.1.2.2.2.2.extract (x0.2.2.2.2.size : Int).toNat (r3.1.2.2.2.2.size : Int).toNat)) (none)) (q0e.J7 k x2 x0 (bz, false, (0 : Int), (([] : List Aff), ([] : List En)), bz) bz))) := by kernel_rfl
theorem q0e.J7_eq (k : Nat) (x2 : Int) (x3 : q0l) (x6 : q0l) (x9 : ByteArray) : q0e.J7 (k + 1) x2 x3 x6 x9 = ifb (decide (x2 < 0)) (q0e.J9 k (0 : Int) x3 x6 x9) (q0e.J9 k x2 x3 x6 x9) := by kernel_rfl
theorem q0e.J9_eq (k : Nat) (x2 : Int) (x3 : q0l) (x6 : q0l) (x9 : ByteArray) : q0e.J9 (k + 1) x2 x3 x6 x9 = ifb (decide (x2 < (x9.size : Int))) (ifb (decide (0 ≤ (0 : Int)) && (decide ((0 : Int) ≤ x2) && decide (x2 ≤ (x9.size : Int)))) (q0e.J11 k x3 x6 (x9.extract (0 : Int).toNat x2.toNat)) (none)) (q0e.J11 k x3 x6 x9) := by kernel_rfl
theorem q0e.J11_eq (k : Nat) (x3 : q0l) (x6 : q0l) (x9 : ByteArray) : q0e.J11 (k + 1) x3 x6 x9 = ifb (q5x (x3.2.2.2.2.size + x9.size)) (some (x3.1, false, (0 : Int), (([] : List Aff), ([] : List En)), (x3.2.2.2.2 ++ x9))) (none) := by kernel_rfl
abbrev q0e.e (k : Nat) : FuncId × CE := (53, ⟨q0e.ps, q0e.rs, q0e.F k⟩)
theorem q0e.q (k : Nat) : Qs (q0e.e k) := qq (C := q0e.C) (fun k => .c (q2p.q k) <| .c (q3v.q k) <| .c (q44.q k) <| .nil) k
def q2t.C (k : Nat) : CEs := [q2n.e k, q25.e k, q2a.e k, q27.e k]
abbrev q2t.ps : List Par := [⟨t49, .rd⟩, ⟨.str, .rd⟩, ⟨(.int .i64), .rd⟩]
abbrev q2t.rs : List Res := [⟨t49, (.pr .ro (.pr .ro (.pr .ro (.pr (.pr (.own .ro) (.own .ro)) .ro)))), false⟩]
def q2t.F := q4v E q2t.C [] Tryz.f54 q2t.ps q2t.rs
def q2t.f (k : Nat) (x0 : q0l) (x1 : ByteArray) (x2 : Int) : Option q0l := q2t.F k (x0, x1, x2)
theorem q2t.f_eq (k : Nat) (x0 : q0l) (x1 : ByteArray) (x2 : Int) : q2t.f k x0 x1 x2 = (q25.f k x0).bind fun (r0 : Bool) => ifb (!r0) ((q2a.f k x0).bind fun (r1 : q0l) => some r1) (ifb (!x0.2.1) ((q2a.f k x0).bind fun (r2 : q0l) => some r2) ((q2n.f k).bind fun (r3 : Book) => (q27.f k x0 x1).bind fun (r4 : q0l × Int) => ifb (r4.2 == (0 : Int)) (ifb (decide (0 ≤ (0 : Int)) && (decide ((0 : Int) ≤ (if (x1.size : Int) < (if (0 : Int) > x2 then (0 : Int) else x2) then (x1.size : Int) else (if (0 : Int) > x2 then (0 : Int) else x2))) && decide ((if (x1.size : Int) < (if (0 : Int) > x2 then (0 : Int) else x2) then (x1.size : Int) else (if (0 : Int) > x2 then (0 : Int) else x2)) ≤ (x1.size : Int)))) (ifb (q5x (x0.2.2.2.2.size + (x1.extract (0 : Int).toNat (if (x1.size : Int) < (if (0 : Int) > x2 then (0 : Int) else x2) then (x1.size : Int) else (if (0 : Int) > x2 then (0 : Int) else x2)).toNat).size)) (some (x0.1, false, (0 : Int), r3, (x0.2.2.2.2 ++ (x1.extract (0 : Int).toNat (if (x1.size : Int) < (if (0 : Int) > x2 then (0 : Int) else x2) then (x1.size : Int) else (if (0 : Int) > x2 then (0 : Int) else x2)).toNat)))) (none)) (none)) (some (x0.1, false, (0 : Int), r3, x0.2.2.2.2)))) := by kernel_rfl
abbrev q2t.e (k : Nat) : FuncId × CE := (54, ⟨q2t.ps, q2t.rs, q2t.F k⟩)
theorem q2t.q (k : Nat) : Qs (q2t.e k) := qq (C := q2t.C) (fun k => .c (q2n.q k) <| .c (q25.q k) <| .c (q2a.q k) <| .c (q27.q k) <| .nil) k
def q07.C (k : Nat) : CEs := [q33.e k, q1w.e k, q2c.e k, q2k.e k, q2l.e k, q0e.e k, q2t.e k]
abbrev q07.ps : List Par := [⟨t49, .rd⟩, ⟨.str, .rd⟩, ⟨(.int .i64), .rd⟩]
abbrev q07.rs : List Res := [⟨.bool, .ro, false⟩]
def q07.H : q4u := [(9, [(1, .ro), (2, .ro), (3, .ro), (8, (.pr .ro (.pr .ro (.pr .ro (.pr (.pr (.own .ro) (.own .ro)) .ro))))), (9, (.pr .ro (.pr .ro (.pr .ro (.pr (.pr (.own .ro) (.own .ro)) .ro)))))]), (18, [(1, .ro), (2, .ro), (3, .ro), (8, (.pr .ro (.pr .ro (.pr .ro (.pr (.pr (.own .ro) (.own .ro)) .ro))))), (10, (.pr .ro (.pr .ro (.pr .ro (.pr (.pr (.own .ro) (.own .ro)) .ro)))))]), (27, [(8, (.pr .ro (.pr .ro (.pr .ro (.pr (.pr (.own .ro) (.own .ro)) .ro))))), (10, (.pr .ro (.pr .ro (.pr .ro (.pr (.pr (.own .ro) (.own .ro)) .ro))))), (12, .ro), (14, (.pr .ro (.pr .ro (.pr .ro (.pr (.pr (.own .ro) (.own .ro)) .ro)))))])]
def q07.F := q4v E q07.C q07.H Tryz.f11 q07.ps q07.rs
def q07.J9 (k : Nat) (x1 : ByteArray) (x2 : Int) (x3 : q0l) (x8 : q0l) (x9 : q0l) : Option (Bool) := atJ E q07.C q07.H Tryz.f11 q07.ps q07.rs [true, true, true, true, true, true, true] 0 [] k (sh 82 [(1, .d .str x1 .ro), (2, .d (.int .i64) x2 .ro), (3, .box t49 x3 .ro none), (8, .box t49 x8 (.pr .ro (.pr .ro (.pr .ro (.pr (.pr (.own .ro) (.own .ro)) .ro)))) none), (9, .box t49 x9 (.pr .ro (.pr .ro (.pr .ro (.pr (.pr (.own .ro) (.own .ro)) .ro)))) none)])
def q07.J18 (k : Nat) (x1 : ByteArray) (x2 : Int) (x3 : q0l) (x8 : q0l) (x10 : q0l) : Option (Bool) := atJ E q07.C q07.H Tryz.f11 q07.ps q07.rs [true, true, true, true, true, true, true, true, true, true, true, true, true] 0 [0] k (sh 82 [(1, .d .str x1 .ro), (2, .d (.int .i64) x2 .ro), (3, .box t49 x3 .ro none), (8, .box t49 x8 (.pr .ro (.pr .ro (.pr .ro (.pr (.pr (.own .ro) (.own .ro)) .ro)))) none), (10, .box t49 x10 (.pr .ro (.pr .ro (.pr .ro (.pr (.pr (.own .ro) (.own .ro)) .ro)))) none)])
def q07.J27 (k : Nat) (x8 : q0l) (x10 : q0l) (x12 : Int) (x14 : q0l) : Option (Bool) := atJ E q07.C q07.H Tryz.f11 q07.ps q07.rs [true, true, true, true, true, true, true, true, true, true, true, true, true, true, true, true, true, true, true, true] 0 [0, 0] k (sh 82 [(8, .box t49 x8 (.pr .ro (.pr .ro (.pr .ro (.pr (.pr (.own .ro) (.own .ro)) .ro)))) none), (10, .box t49 x10 (.pr .ro (.pr .ro (.pr .ro (.pr (.pr (.own .ro) (.own .ro)) .ro)))) none), (12, .d (.int .i64) x12 .ro), (14, .box t49 x14 (.pr .ro (.pr .ro (.pr .ro (.pr (.pr (.own .ro) (.own .ro)) .ro)))) none)])
def q07.f (k : Nat) (x0 : q0l) (x1 : ByteArray) (x2 : Int) : Option (Bool) := q07.F k (x0, x1, x2)
theorem q07.f_eq (k : Nat) (x0 : q0l) (x1 : ByteArray) (x2 : Int) : q07.f k x0 x1 x2 = ifb (decide ((x1.size : Int) > (1048576 : Int))) (some true) ((q33.f k x0 (1048576 : Int)).bind fun (r0 : Int) => ifb (decide (r0 < 0)) (some true) ((q1w.f k x0).bind fun (r1 : q0l) => (q0e.f k r1 x1 x2).bind fun (r2 : q0l) => (q1w.f k x0).bind fun (r3 : q0l) => q07.J9 k x1 x2 x0 r2 r3)) := by kernel_rfl
theorem q07.J9_eq (k : Nat) (x1 : ByteArray) (x2 : Int) (x3 : q0l) (x8 : q0l) (x9 : q0l) : q07.J9 (k + 1) x1 x2 x3 x8 x9 = (q2t.f k x9 x1 x2).bind fun (r4 : q0l) => (q2c.f k r4 x8).bind fun (r5 : Bool) => ifb (!r5) (some false) ((q1w.f k x3).bind fun (r6 : q0l) => (q2c.f k x9 r6).bind fun (r7 : Bool) => ifb (!r7) (some false) ((q2k.f k x9 (1 : Int)).bind fun (r8 : Int × q0l) => ifb (decide (r8.1 < 0)) (some false) ((q2c.f k r4 x8).bind fun (r9 : Bool) => ifb (!r9) (some false) (q07.J18 k x1 x2 x3 x8 r4)))) := by kernel_rfl
theorem q07.J18_eq (k : Nat) (x1 : ByteArray) (x2 : Int) (x3 : q0l) (x8 : q0l) (x10 : q0l) : q07.J18 (k + 1) x1 x2 x3 x8 x10 = (q2k.f k x10 (1 : Int)).bind fun (r10 : Int × q0l) => (q2l.f k r10.2 (1 : Int)).bind fun (r11 : Int) => ifb (decide (r11 < 0)) (some false) (ifb (r11 != r10.1) (some false) ((q1w.f k x3).bind fun (r12 : q0l) => (q2t.f k r12 x1 x2).bind fun (r13 : q0l) => q07.J27 k x8 r10.2 r10.1 r13)) := by kernel_rfl
theorem q07.J27_eq (k : Nat) (x8 : q0l) (x10 : q0l) (x12 : Int) (x14 : q0l) : q07.J27 (k + 1) x8 x10 x12 x14 = (q2c.f k x14 x8).bind fun (r14 : Bool) => ifb (!r14) (some false) ((q2l.f k x10 (1 : Int)).bind fun (r15 : Int) => ifb (decide (r15 < 0)) (some false) (ifb (r15 != x12) (some false) (some true))) := by kernel_rfl
abbrev q07.e (k : Nat) : FuncId × CE := (11, ⟨q07.ps, q07.rs, q07.F k⟩)
theorem q07.q (k : Nat) : Qs (q07.e k) := qq (C := q07.C) (fun k => .c (q33.q k) <| .c (q1w.q k) <| .c (q2c.q k) <| .c (q2k.q k) <| .c (q2l.q k) <| .c (q0e.q k) <| .c (q2t.q k) <| .nil) k
end
end Go.Proofs.YtjfkeknnjjlepaaGreatDoor.Rf
end

section
namespace Go.Proofs.YtjfkeknnjjlepaaGreatDoor.Rf
open Go Go.RowKit
set_option linter.unusedVariables false
set_option linter.unusedSimpArgs false
noncomputable def qgl (c : q0l) (t : ByteArray) (n : Int) : q0l :=
  if q68 c && c.2.1 then (c.1, false, 0, zB, if (take1 c t).2 = 0 then c.2.2.2.2 ++ t.extract 0 (min (max n 0).toNat t.size) else c.2.2.2.2) else c
theorem qwd {key : ByteArray} {n : Int} {b b' : Book} {r : Release} (h : q89 key n b r = (b', true)) : qdk key r = true ∧ r.1 = n + 1 := by
  unfold q89 at h
  split at h
  · split at h
    · rename_i hx
      simp only [Bool.and_eq_true, decide_eq_true_eq] at hx
      exact ⟨hx.1, hx.2.1⟩
    · cases h
  · cases h
theorem qor {c : q0l} {t : ByteArray} {n : Nat} {b' : Book} (hn : c.2.2.1 = (n : Int)) (h : q7k c.1 n c.2.2.2.1 t = some b') (hz : c.2.2.2.2.size + t.size ≤ 12000) : take1 c t = ((c.1, true, (n : Int) + 1, b', c.2.2.2.2 ++ t), 0) := by
  obtain ⟨r, r1, r2, r3, r4⟩ := qcj h
  obtain ⟨o1, o2⟩ := qwd r4
  rw [← hn] at r4
  unfold take1
  rw [r3]
  simp only
  rw [if_neg (by simp), if_neg (by rw [o1]; simp), if_neg (by omega), if_neg (by omega), if_neg (by omega), r4, if_pos rfl, o2]
theorem qot {c : q0l} {t : ByteArray} {n : Nat} (hn : c.2.2.1 = (n : Int)) (h : (take1 c t).2 = 0) : ∃ b', q7k c.1 n c.2.2.2.1 t = some b' ∧ c.2.2.2.2.size + t.size ≤ 12000 ∧ take1 c t = ((c.1, true, (n : Int) + 1, b', c.2.2.2.2 ++ t), 0) := by
  unfold take1 at h
  split at h
  · simp at h
  rename_i h1
  split at h
  · simp at h
  split at h
  · simp at h
  split at h
  · simp at h
  split at h
  · simp at h
  rename_i h5
  split at h
  · rename_i h6
    have hr : q7k c.1 n c.2.2.2.1 t = some (q89 c.1 c.2.2.1 c.2.2.2.1 (q5k t).1).1 := by
      unfold q7k
      rw [← hn, if_pos ⟨by simpa using h1, h6⟩]
    exact ⟨_, hr, by omega, qor hn hr (by omega)⟩
  · simp at h
end Go.Proofs.YtjfkeknnjjlepaaGreatDoor.Rf
end

section
/- The law FnExactClientFall is true. -/
namespace Go.Proofs.YtjfkeknnjjlepaaGreatDoor.Rf
open Go Go.RowKit
set_option linter.unusedVariables false
set_option linter.unusedSimpArgs false
theorem qcz (c : q0l) (t : ByteArray) (n : Int) (h : smC c) (ht : t.size ≤ 20000000) : Al fun k => q2t.f k c t n = some (qgl c t n) := by
  have hO := q6m c h
  have e0 := fun k => q86 k c h.bk
  unfold qgl
  cases hc : q68 c with
  | false => exact hO.mono fun k e => by rw [q2t.f_eq, e, hc, Option.bind_some, Bool.not_false, q06, e0, Option.bind_some, Bool.false_and, if_neg (by simp)]
  | true =>
  cases hu : c.2.1 with
  | false => exact hO.mono fun k e => by rw [q2t.f_eq, e, hc, Option.bind_some, Bool.not_true, q08, hu, Bool.not_false, q06, e0, Option.bind_some, Bool.and_false, if_neg (by simp)]
  | true =>
  rw [Bool.and_self, if_pos rfl]
  have hz := (q9r hc).2
  have hT := q8j c t h ht
  have eT : takeC c t = take1 c t := by unfold takeC; rw [hc, if_pos rfl, hu, if_pos rfl]
  rw [eT] at hT
  refine (hO.and hT).mono fun k ⟨e, e2⟩ => ?_
  rw [q2t.f_eq, e, hc, Option.bind_some, Bool.not_true, q08, hu, Bool.not_true, q08, q2n.f_eq, Option.bind_some, e2, Option.bind_some, q8l]
  by_cases c0 : (take1 c t).2 = 0
  · rw [decide_eq_true c0, q06, if_pos c0]
    have q : (if (t.size : Int) < (if (0 : Int) > n then (0 : Int) else n) then (t.size : Int) else (if (0 : Int) > n then (0 : Int) else n)) = ((min (max n 0).toNat t.size : Nat) : Int) := by
      split <;> split at * <;> omega
    have z : (t.extract 0 (min (max n 0).toNat t.size)).size ≤ t.size := by rw [ByteArray.size_extract]; omega
    rw [q, decide_eq_true (show (0 : Int) ≤ ((min (max n 0).toNat t.size : Nat) : Int) by omega), decide_eq_true (show ((min (max n 0).toNat t.size : Nat) : Int) ≤ (t.size : Int) by omega), show (decide ((0 : Int) ≤ 0) && (true && true)) = true from rfl, q06, Int.toNat_natCast, show ((0 : Int).toNat) = 0 from rfl, q4h (by omega), q06]
    rfl
  · rw [decide_eq_false c0, q08, if_neg c0]
    rfl
theorem qxt (s : ByteArray) : s ++ bz = s := q53 (by rw [q59]; exact List.append_nil _)
theorem qd0 (c : q0l) (n : Int) (x : ByteArray) (hz : c.2.2.2.2.size ≤ 20000000) (hx : x.size ≤ 20000000) : Al fun k => q0e.J7 k n c zC x = some (c.1, false, 0, zB, c.2.2.2.2 ++ x.extract 0 (min (max n 0).toNat x.size)) := by
  have j11 : ∀ y : ByteArray, y.size ≤ 20000000 → Al fun k => q0e.J11 k c zC y = some (c.1, false, 0, zB, c.2.2.2.2 ++ y) := fun y hy => Al.succ (Al.now fun k => by
    rw [q0e.J11_eq, q4h (by omega), q06]; rfl)
  have j9 : ∀ m : Int, 0 ≤ m → Al fun k => q0e.J9 k m c zC x = some (c.1, false, 0, zB, c.2.2.2.2 ++ x.extract 0 (min m.toNat x.size)) := fun m hm => by
    by_cases c1 : m < (x.size : Int)
    · have e : min m.toNat x.size = m.toNat := by omega
      rw [e]
      refine Al.succ ((j11 (x.extract 0 m.toNat) (by rw [ByteArray.size_extract]; omega)).mono fun k e => ?_)
      rw [q0e.J9_eq, decide_eq_true c1, q06, decide_eq_true hm, decide_eq_true (show m ≤ (x.size : Int) by omega), show (decide ((0 : Int) ≤ 0) && (true && true)) = true from rfl, q06]
      exact e
    · have e : min m.toNat x.size = x.size := by omega
      have ex : x.extract 0 x.size = x := q53 (by rw [qk2, List.take_of_length_le (by rw [q51]; omega)])
      rw [e, ex]
      refine Al.succ ((j11 x hx).mono fun k e => ?_)
      rw [q0e.J9_eq, decide_eq_false c1, q08]
      exact e
  by_cases c0 : n < 0
  · have e : (max n 0).toNat = (0 : Int).toNat := by omega
    rw [e]
    refine Al.succ ((j9 0 (by omega)).mono fun k e => ?_)
    rw [q0e.J7_eq, decide_eq_true c0, q06]
    exact e
  · have e : (max n 0).toNat = n.toNat := by omega
    rw [e]
    refine Al.succ ((j9 n (by omega)).mono fun k e => ?_)
    rw [q0e.J7_eq, decide_eq_false c0, q08]
    exact e
theorem qd1 (c : q0l) (t : ByteArray) (n : Int) (h : smC c) (ht : t.size ≤ 20000000) : Al fun k => q0e.f k c t n = some (qgl c t n) := by
  have hO := q7q c h
  have e0 := fun k => q8n k c h.bk
  unfold qgl
  cases hc : q68 c with
  | false => exact hO.mono fun k e => by rw [q0e.f_eq, e, hc, Option.bind_some, Bool.not_false, q06, e0, Option.bind_some, Bool.false_and, if_neg (by simp)]
  | true =>
  cases hu : c.2.1 with
  | false => exact hO.mono fun k e => by rw [q0e.f_eq, e, hc, Option.bind_some, Bool.not_true, q08, hu, Bool.not_false, q06, e0, Option.bind_some, Bool.and_false, if_neg (by simp)]
  | true =>
  rw [Bool.and_self, if_pos rfl]
  obtain ⟨hn, hz⟩ := q9r hc
  have hT := qba c t h hu hn hz ht
  by_cases c0 : (take1 c t).2 = 0
  · obtain ⟨b', hr, hs, ht1⟩ := qot (n := c.2.2.1.toNat) (by omega) c0
    have hf : (take1 c t).1.2.2.2.2 = c.2.2.2.2 ++ t := by rw [ht1]
    have hx : (c.2.2.2.2 ++ t).extract c.2.2.2.2.size (c.2.2.2.2 ++ t).size = t := q53 (by rw [q7p, q59, List.drop_left' (q51 _)])
    have hzz : (c.2.2.2.2 ++ t).size = c.2.2.2.2.size + t.size := ByteArray.size_append
    rw [if_pos c0]
    refine ((hO.and hT).and (qd0 c n t hz ht)).mono fun k ⟨⟨e, e2⟩, e3⟩ => ?_
    rw [q0e.f_eq, e, hc, Option.bind_some, Bool.not_true, q08, hu, Bool.not_true, q08, e2, Option.bind_some, q8l, decide_eq_true c0, q06, hf, decide_eq_true (show (0 : Int) ≤ (c.2.2.2.2.size : Int) by omega), decide_eq_true (show (c.2.2.2.2.size : Int) ≤ ((c.2.2.2.2 ++ t).size : Int) by omega), decide_eq_true (Int.le_refl ((c.2.2.2.2 ++ t).size : Int)), show (true && (true && true)) = true from rfl, q06, Int.toNat_natCast, Int.toNat_natCast, hx]
    exact e3
  · rw [if_neg c0]
    have hr := qd0 c n bz hz (by decide)
    have eb : bz.extract 0 (min (max n 0).toNat bz.size) = bz := q53 (by rw [qk2]; simp [bl, bz])
    rw [eb, qxt] at hr
    refine ((hO.and hT).and hr).mono fun k ⟨⟨e, e2⟩, e3⟩ => ?_
    rw [q0e.f_eq, e, hc, Option.bind_some, Bool.not_true, q08, hu, Bool.not_true, q08, e2, Option.bind_some, q8l, decide_eq_false c0, q08]
    exact e3
theorem qhk (c : q0l) (t : ByteArray) (n : Int) : (qgl c t n).2.2.2.1 = c.2.2.2.1 ∨ q5r (qgl c t n).2.2.2.1 = true := by
  unfold qgl
  split
  · exact .inr (show q5r zB = true by decide)
  · exact .inl rfl
theorem qa4 (c : q0l) (t : ByteArray) (n : Int) (hc : q7s qxn c) (ht : q7s .str t) (hn : q7s (.int .i64) n) : ∃ k, q07.f k c t n = some true := by
  by_cases h0 : t.size ≤ 1048576
  case neg => exact ⟨0, by rw [q07.f_eq, decide_eq_true (show (t.size : Int) > 1048576 by omega), q06]⟩
  have n0 : decide ((t.size : Int) > 1048576) = false := decide_eq_false (by omega)
  have s1 := qbu c 1048576 (by omega) (by omega) (qrt hc)
  by_cases h1 : qnp c ≤ 1048576
  case neg =>
    exact (s1.mono fun k e => by
      rw [q07.f_eq, n0, q08, e, Option.bind_some, q6b _ _ (by omega), decide_eq_true (by omega), q06]).get
  have sm := qrv h1 (qru hc)
  have ln : lnB c.2.2.2.1 := qrw (by unfold qnp at h1; omega)
  have hT := qbt c sm.bk
  have hE := q73 c sm.bk
  have hI := qcz c t n sm (by omega)
  have hS := qd1 c t n sm (by omega)
  have smr : smB (qgl c t n).2.2.2.1 := (qhk c t n).elim (fun h => by rw [h]; exact sm.bk) qeu
  have lnr : lnB (qgl c t n).2.2.2.1 := (qhk c t n).elim (fun h => by rw [h]; exact ln) qus
  generalize qgl c t n = w at *
  have hE2 := q73 w smr
  have hM := q7x c ln
  have hM2 := q7x w lnr
  have hH := qcw w lnr
  have j27 : Al fun k => q07.J27 k w (qxo w 1) ((1 + nCl w : Nat) : Int) w = some true := Al.succ ((hE2.and hH).mono fun k ⟨e, e2⟩ => by
    rw [q07.J27_eq, e, Option.bind_some, Bool.not_true, q08, e2, Option.bind_some, decide_eq_false (by omega), q08, bne_self_eq_false, q08])
  have j18 : Al fun k => q07.J18 k t n c w w = some true := Al.succ (((hM2.and hH).and ((hT.and hI).and j27)).mono fun k ⟨⟨e, e2⟩, ⟨e3, e4⟩, e5⟩ => by
    rw [q07.J18_eq, e, Option.bind_some]
    dsimp only
    rw [e2, Option.bind_some, decide_eq_false (show ¬ ((1 + nCl w : Nat) : Int) < 0 by omega), q08, bne_self_eq_false, q08, e3, Option.bind_some, e4, Option.bind_some]
    exact e5)
  have j9 : Al fun k => q07.J9 k t n c w c = some true := Al.succ ((((hI.and hE2).and (hT.and hE)).and (hM.and j18)).mono fun k ⟨⟨⟨e, e2⟩, e3, e4⟩, e5, e6⟩ => by
    rw [q07.J9_eq, e, Option.bind_some, e2, Option.bind_some, Bool.not_true, q08, e3, Option.bind_some, e4, Option.bind_some, Bool.not_true, q08, e5, Option.bind_some]
    dsimp only
    rw [decide_eq_false (show ¬ ((1 + nCl c : Nat) : Int) < 0 by omega), q08, Option.bind_some, Bool.not_true, q08]
    exact e6)
  refine (((s1.and hT).and (hS.and j9)).mono fun k ⟨⟨z, e⟩, e2, e3⟩ => ?_).get
  rw [q07.f_eq, n0, q08, z, Option.bind_some, q6b _ _ (by omega), decide_eq_false (by omega), q08, e, Option.bind_some, e2, Option.bind_some, Option.bind_some, e3]
end Go.Proofs.YtjfkeknnjjlepaaGreatDoor.Rf
end

section
/- 'FnExactClientFall': for every input it returns true and its arguments read as before. Conditions: those of the given row alone (the listed package variables as the program's text lays them). -/
namespace Go.Proofs.YtjfkeknnjjlepaaGreatDoor.fnExactClientFall
open Go.ChangeShapes Go.WideShapes Go.ChangeAt Go.RowKit
open Go.Proofs.YtjfkeknnjjlepaaGreatDoor.Rf Go.Proofs.YtjfkeknnjjlepaaGreatDoor.Frame
set_option linter.unusedVariables false
theorem own : ownKnob Tryz.prog.godebug = none := by kernel_rfl
theorem laidOut : laidOutB Tryz.prog = true := kLa
theorem qcx : ∀ n ∈ (["loop.example/medlar/impl.shaStep"] : List String), ∀ g t, Tryz.prog.globalNamed n = some g → (Tryz.prog.globals[g]?).map (·.type) = some t → Tryz.prog.readableRec t = true ∧ t < Tryz.prog.types.size := by
  intro n hn g t hg ht
  simp only [List.mem_cons, List.not_mem_nil, or_false] at hn
  subst hn
  · obtain rfl := Option.some.inj ((show Tryz.prog.globalNamed "loop.example/medlar/impl.shaStep" = some 0 by kernel_rfl).symm.trans hg)
    obtain rfl := Option.some.inj ((show (Tryz.prog.globals[0]?).map (·.type) = some 195 by kernel_rfl).symm.trans ht)
    exact ⟨by kernel_rfl, of_decide_eq_true (by kernel_rfl)⟩
set_option maxRecDepth 100000 in
theorem contract (H : Type) (enc : TypeId × Value → H) (W : World) (base : Nat) (args : Array Value) (ds gs : List (DataW H)) (before : List MemPlace)
    (hval0 : ∀ (j : Nat) t v, Tryz.f11.params[j]? = some t → args[j]? = some v → Value.okWide Tryz.prog W .any base t v)
    (hW : DataW.Whole enc Tryz.prog Tryz.f11.params.toList Rows.fnExactClientFallSpec.vars false W args.toList ds gs before)
    (hsz0 : (DataW.weightsEach Tryz.prog (Tryz.f11.params.toList ++ (OpenSpec.ofChange Rows.fnExactClientFallSpec).bare.plain.varTypes Tryz.prog) (ds ++ gs)).all (· ≤ reachBytes) = true)
    (hL : laidMetH Tryz.prog Rows.fnExactClientFallRow.laid W) (hsh : W.ShapedOpen Tryz.prog) :
    Calls Tryz.prog 11 args W fun e W' => ∃ v, e = .returned v ∧ Rows.fnExactClientFallSpec.post enc Tryz.prog Tryz.f11 false true false false W args v W' := by
  have hGm : ∃ x : Int, W.cell? ⟨3, 0, none⟩ = some (.int .i64 x) := Go.Proofs.cell_of_shapedOpen_int (zero := #[.int .i64 0]) (t := 3) hsh (of_decide_eq_true (by kernel_rfl)) (by kernel_rfl) rfl (by kernel_rfl) (by kernel_rfl) Tryz.underlying3
  have hGp : Lib.TabIs Tryz.prog W "internal/strconv.uint64pow10" .u64 Lib.pow10Tab := q5i (show Tryz.prog.globalNamed "internal/strconv.uint64pow10" = some 6 by kernel_rfl) (show (Tryz.prog.globals[6]?).map (·.type) = some 276 by kernel_rfl) Tryz.underlying276 Tryz.underlying194 (by kernel_rfl) (by kernel_rfl) hL (by rw [show Lib.tabData .u64 Lib.pow10Tab = Rows.laid_internal_strconv_uint64pow10 from by kernel_rfl]; simp [Rows.fnExactClientFallRow])
  have hGs : Lib.TabIs Tryz.prog W "loop.example/medlar/impl.shaStep" .u32 q6r := q5i (show Tryz.prog.globalNamed "loop.example/medlar/impl.shaStep" = some 0 by kernel_rfl) (show (Tryz.prog.globals[0]?).map (·.type) = some 195 by kernel_rfl) Tryz.underlying195 Tryz.underlying192 (by kernel_rfl) (by kernel_rfl) hL (by rw [show Lib.tabData .u32 q6r = Rows.laid_loop_example_medlar_impl_shaStep from by kernel_rfl]; simp [Rows.fnExactClientFallRow])
  have hGe := q5j (show Tryz.prog.globalNamed "strconv.ErrSyntax" = some 1 by kernel_rfl) (show (Tryz.prog.globals[1]?).map (·.type) = some 90 by kernel_rfl) Tryz.underlying90 hL (show ("strconv.ErrSyntax", Rows.laid_strconv_ErrSyntax) ∈ Rows.fnExactClientFallRow.laid by simp [Rows.fnExactClientFallRow])
  have hGr := q5j (show Tryz.prog.globalNamed "strconv.ErrRange" = some 2 by kernel_rfl) (show (Tryz.prog.globals[2]?).map (·.type) = some 90 by kernel_rfl) Tryz.underlying90 hL (show ("strconv.ErrRange", Rows.laid_strconv_ErrRange) ∈ Rows.fnExactClientFallRow.laid by simp [Rows.fnExactClientFallRow])
  have hJ : Jp.J W := ⟨hGm, hGp, hGs, hGe, hGr⟩
  clear hsh hL
  have hsz := hsz0
  have hval := hval0
  have hW' := hW
  obtain ⟨p, q, hA0, hV, rfl, hfz, hnd⟩ := hW
  have hA : DataW.TrodAll enc Tryz.prog W 0 (fun _ => true) true Tryz.f11.params.toList args.toList ds p := hA0
  rw [Tryz.params11] at hA hval
  obtain ⟨v0, vs0, d0, ds0, p0, q0, hargs, rfl, rfl, h0, r0⟩ := trodAll_cons hA
  obtain ⟨v1, vs1, d1, ds1, p1, q1, rfl, rfl, rfl, h1, r1⟩ := trodAll_cons r0
  obtain ⟨v2, vs2, d2, ds2, p2, q2, rfl, rfl, rfl, h2, r2⟩ := trodAll_cons r1
  obtain ⟨rfl, rfl, rfl⟩ := trodAll_nil r2
  obtain rfl : args = #[v0, v1, v2] := by cases args; simp_all
  have lt0 : ∀ x ∈ p0, x.block < W.heap.size := by obtain ⟨m, hm⟩ := h0; exact DataW.trod_lt m _ _ _ hm
  obtain ⟨x0, o0, G0⟩ := q7t (τ := t49) (show q5l Tryz.prog t49 (.inl 64) = true by kernel_rfl) (hval 0 64 v0 rfl rfl) h0
  have lt1 : ∀ x ∈ p1, x.block < W.heap.size := by obtain ⟨m, hm⟩ := h1; exact DataW.trod_lt m _ _ _ hm
  obtain ⟨x1, o1, G1⟩ := q7t (τ := .str) (show q5l Tryz.prog .str (.inl 9) = true by kernel_rfl) (hval 1 9 v1 rfl rfl) h1
  have lt2 : ∀ x ∈ p2, x.block < W.heap.size := by obtain ⟨m, hm⟩ := h2; exact DataW.trod_lt m _ _ _ hm
  obtain ⟨x2, o2, G2⟩ := q7t (τ := (.int .i64)) (show q5l Tryz.prog (.int .i64) (.inl 3) = true by kernel_rfl) (hval 2 3 v2 rfl rfl) h2
  obtain ⟨gv0, gw0, qv0, rfl, hv0⟩ := q6k hV
  obtain ⟨rfl, _⟩ := trodVars_none hv0
  clear hA0 hval0 hsz0
  obtain ⟨k, hk⟩ := qa4 x0 x1 x2 G0 G1 G2
  refine (row_of (q07.q k).1 rfl (x := (x0, x1, x2)) (r := true) hk rfl (qwx hJ) hJ rfl ?_).mono fun e W' ⟨he, bel⟩ => ?_
  · intro i p s hp hs
    match i, hp, hs with
    | 0, _, hs => obtain rfl := Option.some.inj (show some (⟨t49, x0⟩ : Sv) = some s from hs); exact o0
    | 1, _, hs => obtain rfl := Option.some.inj (show some (⟨.str, x1⟩ : Sv) = some s from hs); exact o1
    | 2, _, hs => obtain rfl := Option.some.inj (show some (⟨(.int .i64), x2⟩ : Sv) = some s from hs); exact o2
    | i + 3, hp, _ => simp at hp
  subst he
  obtain ⟨pv, hpv⟩ := q5v laidOut bel _ _ _ hV qcx
  exact ⟨_, rfl, _, _, _, [], _, pv, hW', trodAll_mk1 (shut_bool Tryz.underlying4 _), (trodAll_cons_mk (Below.trod laidOut (by kernel_rfl) (of_decide_eq_true (by kernel_rfl)) h0 bel lt0) (trodAll_cons_mk (Below.trod laidOut (by kernel_rfl) (of_decide_eq_true (by kernel_rfl)) h1 bel lt1) (trodAll_cons_mk (Below.trod laidOut (by kernel_rfl) (of_decide_eq_true (by kernel_rfl)) h2 bel lt2) trodAll_mk0))), hpv, bel.frame _, fun h => by cases h⟩
noncomputable def q56 (os : Os) : World := World.laidAll Tryz.prog os Rows.fnExactClientFallRow.laid
set_option maxRecDepth 100000 in
theorem q7y (os : Os) : laidMet Tryz.prog Rows.fnExactClientFallRow.laid ((q56 os).forCall (fun _ _ => 0) ⟨#[], #[.agg #[.string ByteArray.empty, .bool false, .int .i64 0, .slice none 0 0, .slice none 0 0, .string ByteArray.empty], .string ByteArray.empty, .int .i64 0], []⟩).memory :=
  laidMet_laidAll _ (by kernel_rfl) (by kernel_rfl)
set_option maxRecDepth 100000 in
theorem reads (os : Os) {H : Type} (enc : TypeId × Value → H) : ∃ x, DataW.whole enc Tryz.prog ((q56 os).forCall (fun _ _ => 0) ⟨#[], #[.agg #[.string ByteArray.empty, .bool false, .int .i64 0, .slice none 0 0, .slice none 0 0, .string ByteArray.empty], .string ByteArray.empty, .int .i64 0], []⟩).memory Tryz.f11.params.toList Rows.fnExactClientFallSpec.vars false #[(.agg #[.string ByteArray.empty, .bool false, .int .i64 0, .slice none 0 0, .slice none 0 0, .string ByteArray.empty] : Value), (.string ByteArray.empty : Value), (.int .i64 0 : Value)].toList 12 = some x :=
  Option.isSome_iff_exists.1 (by kernel_rfl)
set_option maxRecDepth 100000 in
theorem lifted (os : Os) (started : os.Started) (H : Type) (enc : TypeId × Value → H) (F : Stop.Interp) :
    ReturnsInHanded {} Tryz.checked os 11 .any ((OpenSpec.ofChange Rows.fnExactClientFallSpec).preRow enc Tryz.prog Tryz.f11 Rows.fnExactClientFallRow.domain false Rows.fnExactClientFallRow.laid) (((OpenSpec.ofChange Rows.fnExactClientFallSpec).at F).post enc Tryz.prog Tryz.f11 false true false false) := by
  obtain ⟨x, hx⟩ := reads os enc
  refine returnsInHanded_of_row (C := Tryz.checked) (s := OpenSpec.ofChange Rows.fnExactClientFallSpec) own started (by kernel_rfl) Tryz.func11
    (witness_row_at (enc := enc) (C := Tryz.checked) false (q56 os) #[.agg #[.string ByteArray.empty, .bool false, .int .i64 0, .slice none 0 0, .slice none 0 0, .string ByteArray.empty], .string ByteArray.empty, .int .i64 0] rfl (by kernel_rfl) (by kernel_rfl) (by kernel_rfl)
      (OpenSpec.preRow_of_cond 12 (x := x) hx (by kernel_rfl) (fun k hk => by cases hk) (by kernel_rfl) (q7y os))) ?_
  intro W base args ds gs before hval hW _ _ hsz hL hsh _
  exact contract H enc W base args ds gs before hval hW hsz hL hsh
theorem kIp : (Rows.fnExactClientFallRow.inPlace == Tryz.prog.inPlace 11) = true := by kernel_rfl
theorem kUn : (Rows.fnExactClientFallRow.unfollowed == Tryz.prog.unfollowed 11) = true := by kernel_rfl
theorem kRe : (Rows.fnExactClientFallRow.recurses == Tryz.prog.recurses 11) = true := by kernel_rfl
theorem kNa : (Rows.fnExactClientFallRow.named == Tryz.prog.varsNamed 11) = true := by kernel_rfl
theorem kGo : false = Rows.fnExactClientFallRow.goesBy Tryz.prog := by kernel_rfl
theorem closed : joinedFacts Tryz.prog 11 Tryz.f11 (OpenSpec.ofChange Rows.fnExactClientFallSpec).bare Rows.fnExactClientFallRow = true := by
  have kMk' : (Tryz.prog.make == some Rows.fnExactClientFallRow.make) = true := kMk
  have kLi' : (Rows.fnExactClientFallRow.lifted == Tryz.prog.liftsFinal) = true := kLi
  have kPk' : (Rows.fnExactClientFallRow.plainKeys == Tryz.prog.plainKeys) = true := kPk
  unfold joinedFacts
  rw [kIp, kUn, kRe, kNa, kLa, kMr, kPk', kSh, kMe, kLi', kMk']
  show _ = true
  kernel_rfl
theorem said : Rows.FnExactClientFallSaid :=
  OpenClaim.holds_of_cond 11 Tryz.f11 rfl rfl rfl rfl rfl rfl rfl ⟨rfl, rfl, rfl, rfl, rfl⟩ rfl rfl rfl rfl rfl (by kernel_rfl) Tryz.func11 closed
    (of_decide_eq_true (by kernel_rfl)) (by unfold Func.isWrapper; first | (rw [if_pos (by decide +kernel)]; kernel_rfl) | (rw [if_neg (by decide +kernel)]; exact ⟨rfl, rfl⟩))
    (fun os started H enc _ F => by rw [OpenClaim.pre_eq_preRow]; exact lifted os started H enc F)
theorem plain (f : FuncId) (fn : Func) (hf : Tryz.pinned.checked.prog.funcNamed "loop.example/medlar/laws.FnExactClientFall" = some f) (hfn : Tryz.pinned.checked.prog.funcs[f]? = some fn) :
    true = Tryz.pinned.checked.prog.looks [] ∧ ∀ (j : Nat) t, fn.params[j]? = some t → Tryz.pinned.checked.prog.wantsStandIn t = false := by
  obtain rfl : f = 11 := Option.some.inj ((show Tryz.prog.funcNamed "loop.example/medlar/laws.FnExactClientFall" = some 11 by kernel_rfl).symm.trans hf) |>.symm
  obtain rfl : fn = Tryz.f11 := (Option.some.inj (Tryz.func11.symm.trans hfn)).symm
  refine ⟨by kernel_rfl, fun j t ht => ?_⟩
  rw [Tryz.params11] at ht
  have hm := Array.mem_of_getElem? ht
  simp only [List.mem_toArray, List.mem_cons, List.not_mem_nil, or_false] at hm
  rcases hm with rfl | rfl | rfl
  · exact (show Tryz.prog.wantsStandIn 64 = false by kernel_rfl)
  · exact (show Tryz.prog.wantsStandIn 9 = false by kernel_rfl)
  · exact (show Tryz.prog.wantsStandIn 3 = false by kernel_rfl)
theorem card : Rows.FnExactClientFallCardSaid :=
  Claim7.holds_tied_plain_at .later [] _ _ _ _ said (fun _ h => by cases h) (by kernel_rfl) (fun _ h => by cases h) fnExactClientFall_row_tie rfl ⟨rfl, rfl⟩ (by kernel_rfl) rfl plain kGo
end Go.Proofs.YtjfkeknnjjlepaaGreatDoor.fnExactClientFall
namespace Go.Proofs.YtjfkeknnjjlepaaGreatDoor
theorem fnExactClientFall_holds : Rows.FnExactClientFallCardSaid := fnExactClientFall.card
end Go.Proofs.YtjfkeknnjjlepaaGreatDoor
end
