import Derived.Test.YtnjdoinlnbjedaaGreatDoorK4
import Derived.Test.YtnjdoinlnbjedaaGreatDoorFz1
import Derived.Test.YtnjdoinlnbjedaaGreatDoorKz2
import Derived.Lib.SplitLaws
import Derived.Lib.ItoaLen
import Derived.Lib.ItoaMem
import Derived.Lib.SlTrimSet
import Derived.Test.YtnjdoinlnbjedaaGreatDoorRows
import Derived.Test.YtnjdoinlnbjedaaGreatDoorCards
import Derived.Test.YtnjdoinlnbjedaaGreatDoorTie
import Derived.WalkKit
import Derived.ProofKit
import Derived.OpenShut
import Derived.ShutString
import Derived.ChangeOld
import Derived.Below
import Derived.Carry
import Derived.SizedLaws
import Derived.Deep.DeepHandedRow
import Derived.Lib.LaidTab

section
namespace Go.Proofs.YtnjdoinlnbjedaaGreatDoor.Rf
open Go Go.RowKit
set_option linter.unusedVariables false
noncomputable section
def q1u.C (k : Nat) : CEs := []
abbrev q1u.ps : List Par := [⟨.str, .rd⟩, ⟨(.int .i64), .rd⟩]
abbrev q1u.rs : List Res := [⟨.str, .ro, false⟩]
def q1u.H : q4o := [(2, [(0, .ro), (1, .ro), (5, .ro)]), (5, [(0, .ro), (1, .ro), (5, .ro)])]
def q1u.F := q4p E q1u.C q1u.H Tryz.f80 q1u.ps q1u.rs
def q1u.L2 (k k1 : Nat) (x0 : ByteArray) (x1 : Int) (x5 : ByteArray) : Option (ByteArray) := atL E q1u.C q1u.H Tryz.f80 q1u.ps q1u.rs [true, true, false, true] k [] k1 (sh 20 [(0, .d .str x0 .ro), (1, .d (.int .i64) x1 .ro), (5, .d .str x5 .ro)])
def q1u.J5 (k k1 k2 : Nat) (x0 : ByteArray) (x1 : Int) (x5 : ByteArray) : Option (ByteArray) := atJ E q1u.C q1u.H Tryz.f80 q1u.ps q1u.rs [true, true, false, true, true, true, true, true] k [k1] k2 (sh 20 [(0, .d .str x0 .ro), (1, .d (.int .i64) x1 .ro), (5, .d .str x5 .ro)])
def q1u.f (k : Nat) (x0 : ByteArray) (x1 : Int) : Option (ByteArray) := q1u.F k (x0, x1)
theorem q1u.f_eq (k : Nat) (x0 : ByteArray) (x1 : Int) : q1u.f k x0 x1 = q1u.L2 k k x0 x1 bz := by kernel_rfl
theorem q1u.L2_eq (k k1 : Nat) (x0 : ByteArray) (x1 : Int) (x5 : ByteArray) : q1u.L2 k (k1 + 1) x0 x1 x5 = ifb (decide (x1 > 0)) (ifb (decide ((2 : Int) ≠ 0)) (ifb ((x1.tmod (2 : Int)) == (1 : Int)) (ifb (q5m (x5.size + x0.size)) (q1u.J5 k k1 k1 x0 x1 (x5 ++ x0)) (none)) (q1u.J5 k k1 k1 x0 x1 x5)) (none)) (some x5) := by kernel_rfl
theorem q1u.J5_eq (k k1 k2 : Nat) (x0 : ByteArray) (x1 : Int) (x5 : ByteArray) : q1u.J5 k k1 (k2 + 1) x0 x1 x5 = ifb (q5m (x0.size + x0.size)) (ifb (decide ((2 : Int) ≠ 0)) (q1u.L2 k k1 (x0 ++ x0) (w64 (x1.tdiv (2 : Int))) x5) (none)) (none) := by kernel_rfl
abbrev q1u.e (k : Nat) : FuncId × CE := (80, ⟨q1u.ps, q1u.rs, q1u.F k⟩)
theorem q1u.q (k : Nat) : Qs (q1u.e k) := qq (C := q1u.C) (fun k => .nil) k
def q4k.C (k : Nat) : CEs := [q1u.e k, q0t.e k]
abbrev q4k.ps : List Par := [⟨qap, .bx .ro⟩]
abbrev q4k.rs : List Res := [⟨.str, .ro, false⟩]
def q4k.F := q4p E q4k.C [] Tryz.f33 q4k.ps q4k.rs
def q4k.f (k : Nat) (x0 : List Int × Int) : Option (ByteArray × (List Int × Int)) := q4k.F k x0
theorem q4k.f_eq (k : Nat) (x0 : List Int × Int) : q4k.f k x0 = (q1u.f k (⟨#[107]⟩ : ByteArray) (64 : Int)).bind fun (r0 : ByteArray) => (q0t.f k x0 [(⟨#[107, 101, 121]⟩ : ByteArray), (⟨#[107]⟩ : ByteArray), (⟨#[111, 116, 104, 101, 114]⟩ : ByteArray), r0]).bind fun (r1 : ByteArray × (List Int × Int)) => some (r1.1, r1.2) := by kernel_rfl
abbrev q4k.e (k : Nat) : FuncId × CE := (33, ⟨q4k.ps, q4k.rs, q4k.F k⟩)
theorem q4k.q (k : Nat) : Qs (q4k.e k) := qq (C := q4k.C) (fun k => .c (q1u.q k) <| .c (q0t.q k) <| .nil) k
end
end Go.Proofs.YtnjdoinlnbjedaaGreatDoor.Rf
end

section
namespace Go.Proofs.YtnjdoinlnbjedaaGreatDoor.Rf
open Go Go.RowKit
set_option linter.unusedVariables false
noncomputable section
def q29.C (k : Nat) : CEs := [q2m.e k, q0t.e k, q4k.e k, q1l.e k]
abbrev q29.ps : List Par := [⟨t22, .rd⟩]
abbrev q29.rs : List Res := [⟨.str, .ro, false⟩, ⟨t28, .ro, false⟩]
def q29.F := q4p E q29.C [] Tryz.f7 q29.ps q29.rs
def q29.f (k : Nat) (x0 : List Int) : Option (ByteArray × Release) := q29.F k x0
theorem q29.f_eq (k : Nat) (x0 : List Int) : q29.f k x0 = (q2m.f k x0).bind fun (r0 : List Int × Int) => (q4k.f k r0).bind fun (r1 : ByteArray × (List Int × Int)) => (q1l.f k r1.2 r1.1).bind fun (r2 : Release × (List Int × Int)) => (q0t.f k r2.2 [r1.1, r1.1, r1.1, (⟨#[119, 114, 111, 110, 103]⟩ : ByteArray), bz]).bind fun (r3 : ByteArray × (List Int × Int)) => some (r3.1, r2.1) := by kernel_rfl
abbrev q29.e (k : Nat) : FuncId × CE := (7, ⟨q29.ps, q29.rs, q29.F k⟩)
theorem q29.q (k : Nat) : Qs (q29.e k) := qq (C := q29.C) (fun k => .c (q2m.q k) <| .c (q0t.q k) <| .c (q4k.q k) <| .c (q1l.q k) <| .nil) k
def q2y.C (k : Nat) : CEs := [q13.e k, q0i.e k]
abbrev q2y.ps : List Par := [⟨t28, .rd⟩]
abbrev q2y.rs : List Res := [⟨.str, .ro, false⟩]
def q2y.F := q4p E q2y.C [] Tryz.f10 q2y.ps q2y.rs
def q2y.f (k : Nat) (x0 : Release) : Option (ByteArray) := q2y.F k x0
theorem q2y.f_eq (k : Nat) (x0 : Release) : q2y.f k x0 = (q0i.f k x0).bind fun (r0 : Bool) => ifb (!r0) (some bz) ((q13.f k x0).bind fun (r1 : ByteArray) => ifb (q5m (r1.size + (⟨#[115, 101, 97, 108, 32]⟩ : ByteArray).size)) (ifb (q5m ((r1 ++ (⟨#[115, 101, 97, 108, 32]⟩ : ByteArray)).size + x0.2.2.2.size)) (ifb (q5m (((r1 ++ (⟨#[115, 101, 97, 108, 32]⟩ : ByteArray)) ++ x0.2.2.2).size + (⟨#[10]⟩ : ByteArray).size)) (some (((r1 ++ (⟨#[115, 101, 97, 108, 32]⟩ : ByteArray)) ++ x0.2.2.2) ++ (⟨#[10]⟩ : ByteArray))) (none)) (none)) (none)) := by kernel_rfl
abbrev q2y.e (k : Nat) : FuncId × CE := (10, ⟨q2y.ps, q2y.rs, q2y.F k⟩)
theorem q2y.q (k : Nat) : Qs (q2y.e k) := qq (C := q2y.C) (fun k => .c (q13.q k) <| .c (q0i.q k) <| .nil) k
def q0l.C (k : Nat) : CEs := [q2g.e k, q3o.e k, q26.e k, q29.e k, q2y.e k]
abbrev q0l.ps : List Par := [⟨t22, .rd⟩]
abbrev q0l.rs : List Res := [⟨.bool, .ro, false⟩]
def q0l.H : q4o := [(7, [(3, .ro), (4, .ro)]), (13, [(3, .ro), (4, .ro), (6, .ro), (7, .ro)])]
def q0l.F := q4p E q0l.C q0l.H Tryz.f3 q0l.ps q0l.rs
def q0l.J7 (k : Nat) (x3 : ByteArray) (x4 : Release) : Option (Bool) := atJ E q0l.C q0l.H Tryz.f3 q0l.ps q0l.rs [true, true, true, true, true] 0 [] k (sh 68 [(3, .d .str x3 .ro), (4, .box t28 x4 .ro none)])
def q0l.J13 (k : Nat) (x3 : ByteArray) (x4 : Release) (x6 : ByteArray) (x7 : Release) : Option (Bool) := atJ E q0l.C q0l.H Tryz.f3 q0l.ps q0l.rs [true, true, true, true, true, true, true, true, true, true] 0 [0] k (sh 68 [(3, .d .str x3 .ro), (4, .box t28 x4 .ro none), (6, .d .str x6 .ro), (7, .box t28 x7 .ro none)])
def q0l.f (k : Nat) (x0 : List Int) : Option (Bool) := q0l.F k x0
theorem q0l.f_eq (k : Nat) (x0 : List Int) : q0l.f k x0 = ifb (decide ((x0.length : Int) > (1048576 : Int))) (some true) ((q29.f k x0).bind fun (r0 : ByteArray × Release) => (q26.f k r0.1 r0.2).bind fun (r1 : Bool) => (q2g.f k r0.1 r0.2).bind fun (r2 : Bool) => ifb (!(r1 == r2)) ((q2g.f k r0.1 r0.2).bind fun (r3 : Bool) => some (r1 == r3)) (ifb (!r1) ((q2g.f k r0.1 r0.2).bind fun (r4 : Bool) => some (r1 == r4)) (q0l.J7 k r0.1 r0.2))) := by kernel_rfl
theorem q0l.J7_eq (k : Nat) (x3 : ByteArray) (x4 : Release) : q0l.J7 (k + 1) x3 x4 = (q2y.f k x4).bind fun (r5 : ByteArray) => ifb (decide (0 ≤ (63 : Int)) && (decide ((63 : Int) ≤ (x4.2.2.2.size : Int)) && decide ((x4.2.2.2.size : Int) ≤ (x4.2.2.2.size : Int)))) (ifb (decide (0 ≤ (0 : Int)) && (decide ((0 : Int) ≤ (63 : Int)) && decide ((63 : Int) ≤ (x4.2.2.2.size : Int)))) (ifb (q5m ((x4.2.2.2.extract (0 : Int).toNat (63 : Int).toNat).size + (⟨#[48]⟩ : ByteArray).size)) (ifb ((x4.2.2.2.extract (63 : Int).toNat (x4.2.2.2.size : Int).toNat).toList == (⟨#[48]⟩ : ByteArray).toList) (ifb (decide (0 ≤ (0 : Int)) && (decide ((0 : Int) ≤ (63 : Int)) && decide ((63 : Int) ≤ (x4.2.2.2.size : Int)))) (ifb (q5m ((x4.2.2.2.extract (0 : Int).toNat (63 : Int).toNat).size + (⟨#[49]⟩ : ByteArray).size)) (q0l.J13 k x3 x4 r5 (x4.1, x4.2.1, x4.2.2.1, ((x4.2.2.2.extract (0 : Int).toNat (63 : Int).toNat) ++ (⟨#[49]⟩ : ByteArray)))) (none)) (none)) (q0l.J13 k x3 x4 r5 (x4.1, x4.2.1, x4.2.2.1, ((x4.2.2.2.extract (0 : Int).toNat (63 : Int).toNat) ++ (⟨#[48]⟩ : ByteArray))))) (none)) (none)) (none) := by kernel_rfl
theorem q0l.J13_eq (k : Nat) (x3 : ByteArray) (x4 : Release) (x6 : ByteArray) (x7 : Release) : q0l.J13 (k + 1) x3 x4 x6 x7 = ifb (decide (0 ≤ (0 : Int)) && (decide ((0 : Int) ≤ (w64 ((x6.size : Int) - (70 : Int)))) && decide ((w64 ((x6.size : Int) - (70 : Int))) ≤ (x6.size : Int)))) ((q3o.f k x3 (x6.extract (0 : Int).toNat (w64 ((x6.size : Int) - (70 : Int))).toNat)).bind fun (r6 : ByteArray) => ifb (r6.toList == x4.2.2.2.toList) ((q26.f k x3 x7).bind fun (r7 : Bool) => some (!r7)) (some false)) (none) := by kernel_rfl
abbrev q0l.e (k : Nat) : FuncId × CE := (3, ⟨q0l.ps, q0l.rs, q0l.F k⟩)
theorem q0l.q (k : Nat) : Qs (q0l.e k) := qq (C := q0l.C) (fun k => .c (q2g.q k) <| .c (q3o.q k) <| .c (q26.q k) <| .c (q29.q k) <| .c (q2y.q k) <| .nil) k
end
end Go.Proofs.YtnjdoinlnbjedaaGreatDoor.Rf
end

section
namespace Go.Proofs.YtnjdoinlnbjedaaGreatDoor.Rf
open Go Go.RowKit
set_option linter.unusedVariables false
set_option linter.unusedSimpArgs false
theorem qse (s : ByteArray) (a b : Nat) : bl (s.extract a b) = ((bl s).drop a).take (b - a) := Lib.extract_data s a b
theorem qsf (s : ByteArray) (a : Nat) : bl (s.extract 0 a) = (bl s).take a := by rw [qse]; simp
theorem qrb (s : ByteArray) (a : Nat) : bl (s.extract a s.size) = (bl s).drop a := Lib.extract_to_end s a
end Go.Proofs.YtnjdoinlnbjedaaGreatDoor.Rf
end

section
namespace Go.Proofs.YtnjdoinlnbjedaaGreatDoor.Rf
open Go Go.RowKit
set_option linter.unusedVariables false
set_option linter.unusedSimpArgs false
def qj9 (r : Release) : ByteArray := mkB (bl (qci r.1 r.2.1 r.2.2.1) ++ ([115, 101, 97, 108, 32] ++ (bl r.2.2.2 ++ [10])))
def qst (r : Release) : ByteArray := if qhj r then qj9 r else bz
end Go.Proofs.YtnjdoinlnbjedaaGreatDoor.Rf
end

section
namespace Go.Proofs.YtnjdoinlnbjedaaGreatDoor.Rf
open Go Go.RowKit
set_option linter.unusedVariables false
set_option linter.unusedSimpArgs false
theorem qrc (n : Nat) (hn : n ≤ 1000000) : ∀ (m : Nat) (x v : ByteArray), m ≤ 1000000 → v.size + x.size * m ≤ n → ∃ y, Al2 (fun k k1 => q1u.L2 k k1 x (m : Int) v = some y) ∧ y.size ≤ n := by
  intro m
  induction m using Nat.strongRecOn with
  | ind m ih =>
    intro x v hm hz
    by_cases h0 : m = 0
    · subst h0
      refine ⟨v, Al2.succ (Al2.now fun k k1 => by rw [q1u.L2_eq]; exact q0d _ _), ?_⟩
      omega
    have hx1 : x.size ≤ x.size * m := Nat.le_mul_of_pos_right _ (by omega)
    have hxx : (x ++ x).size = 2 * x.size := by rw [ByteArray.size_append]; omega
    have hdm : m = 2 * (m / 2) + m % 2 := by omega
    have hy : x.size * m = (x ++ x).size * (m / 2) + x.size * (m % 2) := by
      rw [hxx, Nat.mul_comm 2, Nat.mul_assoc, ← Nat.mul_add, ← hdm]
    have t1 : (m : Int).tdiv 2 = ((m / 2 : Nat) : Int) := rfl
    have t2 : (m : Int).tmod 2 = ((m % 2 : Nat) : Int) := rfl
    have tw : w64 ((m / 2 : Nat) : Int) = ((m / 2 : Nat) : Int) := q6w (by omega) (by omega)
    have run : ∀ u : ByteArray, u.size + (x ++ x).size * (m / 2) ≤ n → ∃ y, Al3 (fun k k1 k2 => q1u.J5 k k1 k2 x (m : Int) u = some y) ∧ y.size ≤ n := fun u hu => by
      obtain ⟨y, h1, h2⟩ := ih (m / 2) (by omega) (x ++ x) u (by omega) hu
      refine ⟨y, Al3.succ (h1.fst.mono fun k k1 k2 e => ?_), h2⟩
      rw [q1u.J5_eq, q4h (by omega), q08, show decide ((2 : Int) ≠ 0) = true from rfl, q08, t1, tw]
      exact e
    have hpos : decide ((m : Int) > 0) = true := decide_eq_true (by omega)
    by_cases hq : m % 2 = 1
    · rw [hq, Nat.mul_one] at hy
      obtain ⟨y, h1, h2⟩ := run (v ++ x) (by rw [ByteArray.size_append]; omega)
      refine ⟨y, Al2.succ (h1.in2.mono fun k k1 e => ?_), h2⟩
      rw [q1u.L2_eq, hpos, q08, show decide ((2 : Int) ≠ 0) = true from rfl, q08, t2, hq, show (((1 : Nat) : Int) == 1) = true from rfl, q08, q4h (by omega), q08]
      exact e
    · have hq0 : m % 2 = 0 := by omega
      rw [hq0, Nat.mul_zero] at hy
      obtain ⟨y, h1, h2⟩ := run v (by omega)
      refine ⟨y, Al2.succ (h1.in2.mono fun k k1 e => ?_), h2⟩
      rw [q1u.L2_eq, hpos, q08, show decide ((2 : Int) ≠ 0) = true from rfl, q08, t2, hq0, show (((0 : Nat) : Int) == 1) = false from rfl, q0d]
      exact e
theorem qns (m : Nat) (x : ByteArray) (hm : m ≤ 1000000) (hx : x.size * m ≤ 1000000) : ∃ y, Al (fun k => q1u.f k x (m : Int) = some y) ∧ y.size ≤ 1000000 := by
  have hz : bz.size = 0 := rfl
  obtain ⟨y, h1, h2⟩ := qrc 1000000 (by omega) m x bz hm (by omega)
  exact ⟨y, h1.diag.mono fun k e => by rw [q1u.f_eq]; exact e, h2⟩
theorem qsg {m : Int} {x : Rdr} (h : Rd m x) (hm : m ≤ 1000000000) : Dr (fun k => q4k.f k x) (m + 1) qj8 := by
  obtain ⟨y, h1, h2⟩ := qns 64 (⟨#[107]⟩ : ByteArray) (by omega) (by decide)
  refine Dr.congr (fun k => q4k.f_eq k x) (Dr.bindv h1 ?_)
  refine Dr.bind (qbs h hm _ (by simp) (by simp)) fun s z hs hz => ?_
  refine Dr.now (fun k => rfl) ?_ hz
  unfold qj8
  simp only [List.mem_cons, List.not_mem_nil, or_false] at hs
  rcases hs with rfl | rfl | rfl | rfl
  · show 3 ≤ 1000000; omega
  · show 1 ≤ 1000000; omega
  · show 5 ≤ 1000000; omega
  · exact h2
theorem qck (s : List Int) (hs : ∀ b ∈ s, 0 ≤ b ∧ b ≤ 255) : ∃ key r, Al (fun k => q29.f k s = some (key, r)) ∧ qj8 key ∧ rlS r := by
  obtain ⟨x, e0, h0⟩ := qi3 s hs
  obtain ⟨key, y, e1, hk, hy⟩ := qsg h0 (by omega)
  obtain ⟨r, z, e2, hr, hz⟩ := qbc key hk hy (by omega)
  obtain ⟨key2, u, e3, hk2, hu⟩ := qbs hz (by omega) [key, key, key, (⟨#[119, 114, 111, 110, 103]⟩ : ByteArray), bz] (by simp) (by simp)
  refine ⟨key2, r, ((e0.and e1).and (e2.and e3)).mono fun k ⟨⟨a0, a1⟩, a2, a3⟩ => ?_, ?_, hr⟩
  · have a1' : q4k.f k x = some (key, y) := a1
    have a2' : q1l.f k y key = some (r, z) := a2
    have a3' : q0t.f k z [key, key, key, (⟨#[119, 114, 111, 110, 103]⟩ : ByteArray), bz] = some (key2, u) := a3
    simp only [q29.f_eq, a0, a1', a2', a3', Option.bind_some]
  · simp only [List.mem_cons, List.not_mem_nil, or_false] at hk2
    rcases hk2 with rfl | rfl | rfl | rfl | rfl
    · exact hk
    · exact hk
    · exact hk
    · unfold qj8; decide
    · unfold qj8; decide
end Go.Proofs.YtnjdoinlnbjedaaGreatDoor.Rf
end

section
/- The law FnReleaseOk is true. -/
namespace Go.Proofs.YtnjdoinlnbjedaaGreatDoor.Rf
open Go Go.RowKit
set_option linter.unusedVariables false
set_option linter.unusedSimpArgs false
theorem qi7 (r : Release) : (qj9 r).size = (qci r.1 r.2.1 r.2.2.1).size + 6 + r.2.2.2.size := by
  rw [qj9, size_mk, q6m (qci _ _ _), q6m r.2.2.2]
  simp only [List.length_append, List.length_cons, List.length_nil]
  omega
theorem qbd (r : Release) (hr : smR r) : Al fun k => q2y.f k r = some (qst r) := by
  cases h2 : qhj r with
  | false => exact (q6y r hr).mono fun k e => by rw [q2y.f_eq, e, h2, Option.bind_some, Bool.not_false, q08, qst, h2]; rfl
  | true =>
  obtain ⟨⟨a1, a2⟩, a3, a4, a5, a6⟩ := q6p h2
  have z := q7l a5
  have z5 : (⟨#[115, 101, 97, 108, 32]⟩ : ByteArray).size = 5 := rfl
  refine ((q6y r hr).and (q7m r (by omega) a2 a3 (by rw [q7l a4]; omega))).mono fun k ⟨e, e2⟩ => ?_
  rw [q2y.f_eq, e, h2, Option.bind_some, Bool.not_true, q0d, e2, Option.bind_some, q4h (by omega), q08, q4h (by rw [ByteArray.size_append]; omega), q08, q4h (by rw [ByteArray.size_append, ByteArray.size_append, q4m]; omega), q08, qst, h2, if_pos rfl]
  refine congrArg some (q9b ?_)
  rw [qj9, q7b]
  simp only [q58, q6j, List.append_assoc]
  rfl
theorem qpk (r : Release) (h : r.2.2.2.size = 64) : (qj9 r).extract 0 ((qj9 r).size - 70) = qci r.1 r.2.1 r.2.2.1 := by
  refine q9b ?_
  rw [qsf, qi7, h, qj9, q7b]
  have : (qci r.1 r.2.1 r.2.2.1).size + 6 + 64 - 70 = (bl (qci r.1 r.2.1 r.2.2.1)).length := by rw [← q6m]; omega
  rw [this, List.take_left']
  rfl
theorem qnt {s : ByteArray} {c : UInt8} (h : s.size = 64) (hc : ¬ s.extract 63 64 = (⟨#[c]⟩ : ByteArray)) : ¬ s.extract 0 63 ++ (⟨#[c]⟩ : ByteArray) = s := by
  intro e
  refine hc (q9b ?_)
  have e2 : bl s = bl (s.extract 0 63) ++ [c] := by rw [← q6j c, ← q58, e]
  rw [q6j, show (64 : Nat) = s.size from h.symm, qrb, e2, List.drop_left']
  rw [qsf, List.length_take, ← q6m]
  omega
theorem qcl (s : List Int) (hs : q73 (.row (.int .u8)) s) : ∃ k, q0l.f k s = some true := by
  by_cases hl : (s.length : Int) > 1048576
  · exact ⟨0, by rw [q0l.f_eq, decide_eq_true hl, q08]⟩
  obtain ⟨key, r, e0, hk, hr⟩ := qck s fun b hb => qsb (hs.2 b hb)
  unfold qj8 at hk
  have mr := qsd hr
  have hI := q5s key r (by omega) mr
  have hS := q8a key r (by omega) mr
  cases h : qbr key r with
  | false =>
    exact ((e0.and (hI.and hS)).mono fun k ⟨a0, a1, a2⟩ => by
      rw [q0l.f_eq, decide_eq_false hl, q0d, a0, Option.bind_some]
      dsimp only
      rw [a1, Option.bind_some, a2, Option.bind_some, h]
      simp only [beq_self_eq_true, Bool.not_true, Bool.not_false, q0d, q08, Option.bind_some]).get
  | true =>
  obtain ⟨h1, h2, h3⟩ := q9s h
  obtain ⟨⟨a1, a2⟩, a3, a4, a5, a6⟩ := q6p h2
  have z := q7l a5
  have hP := qbd r mr
  rw [qst, h2, if_pos rfl] at hP
  have hz := qi7 r
  have hw : w64 (((qj9 r).size : Int) - 70) = (((qj9 r).size - 70 : Nat) : Int) := by rw [w64, q6w (by omega) (by omega)]; omega
  have hSeal := qan key (qci r.1 r.2.1 r.2.2.1) (by omega) (by omega)
  have fin : ∀ x : ByteArray, x.size ≤ 100 → ¬ x = r.2.2.2 → Al fun k => q0l.J13 k key r (qj9 r) (r.1, r.2.1, r.2.2.1, x) = some true := fun x hx hne => by
    have hO := q5s key (r.1, r.2.1, r.2.2.1, x) (by omega) ⟨mr.1, mr.2.1, by show x.size ≤ _; omega⟩
    have hf : qbr key (r.1, r.2.1, r.2.2.1, x) = false := by
      unfold qbr
      rw [show (qcj key (qci (r.1, r.2.1, r.2.2.1, x).1 (r.1, r.2.1, r.2.2.1, x).2.1 (r.1, r.2.1, r.2.2.1, x).2.2.1)) = r.2.2.2 from h3, decide_eq_false (show ¬ r.2.2.2 = x from fun e => hne e.symm)]
      simp
    refine Al.succ ((hSeal.and hO).mono fun k ⟨b1, b2⟩ => ?_)
    rw [q0l.J13_eq, hw, decide_eq_true (show (0 : Int) ≤ 0 by omega), decide_eq_true (show (0 : Int) ≤ (((qj9 r).size - 70 : Nat) : Int) by omega), decide_eq_true (show (((qj9 r).size - 70 : Nat) : Int) ≤ ((qj9 r).size : Int) by omega), Bool.and_self, Bool.and_self, q08,
      show (qj9 r).extract (0 : Int).toNat ((((qj9 r).size - 70 : Nat) : Int)).toNat = qci r.1 r.2.1 r.2.2.1 from qpk r z, b1, Option.bind_some, q5w, decide_eq_true h3, q08, b2, hf, Option.bind_some, Bool.not_false]
  have z63 : (r.2.2.2.extract 0 63).size = 63 := by rw [ByteArray.size_extract]; omega
  have j7 : Al fun k => q0l.J7 k key r = some true := by
    have q1 : (decide ((0 : Int) ≤ 63) && (decide ((63 : Int) ≤ (r.2.2.2.size : Int)) && decide ((r.2.2.2.size : Int) ≤ (r.2.2.2.size : Int)))) = true := by rw [z]; rfl
    have q2 : (decide ((0 : Int) ≤ 0) && (decide ((0 : Int) ≤ 63) && decide ((63 : Int) ≤ (r.2.2.2.size : Int)))) = true := by rw [z]; rfl
    have q3 : r.2.2.2.extract (0 : Int).toNat (63 : Int).toNat = r.2.2.2.extract 0 63 := rfl
    have q4 : r.2.2.2.extract (63 : Int).toNat (r.2.2.2.size : Int).toNat = r.2.2.2.extract 63 64 := by rw [z]; rfl
    by_cases c : r.2.2.2.extract 63 64 = (⟨#[48]⟩ : ByteArray)
    · refine Al.succ ((hP.and (fin (r.2.2.2.extract 0 63 ++ (⟨#[49]⟩ : ByteArray)) (by rw [ByteArray.size_append, q4m]; omega) (qnt z (by rw [c]; decide)))).mono fun k ⟨b1, b2⟩ => ?_)
      rw [q0l.J7_eq, b1, Option.bind_some, q1, q08, q2, q08, q3, q4, q4h (by rw [q4m]; omega), q08, q5w, decide_eq_true c, q08, q08, q4h (by rw [q4m]; omega), q08, b2]
    · refine Al.succ ((hP.and (fin (r.2.2.2.extract 0 63 ++ (⟨#[48]⟩ : ByteArray)) (by rw [ByteArray.size_append, q4m]; omega) (qnt z c))).mono fun k ⟨b1, b2⟩ => ?_)
      rw [q0l.J7_eq, b1, Option.bind_some, q1, q08, q2, q08, q3, q4, q4h (by rw [q4m]; omega), q08, q5w, decide_eq_false c, q0d, b2]
  refine ((e0.and (hI.and hS)).and j7).mono (fun k ⟨⟨a0, a1, a2⟩, a3⟩ => ?_) |>.get
  rw [q0l.f_eq, decide_eq_false hl, q0d, a0, Option.bind_some]
  dsimp only
  rw [a1, Option.bind_some, a2, Option.bind_some, h]
  simp only [beq_self_eq_true, Bool.not_true, Bool.not_false, q0d, q08, Option.bind_some, a3]
end Go.Proofs.YtnjdoinlnbjedaaGreatDoor.Rf
end

section
/- 'FnReleaseOk': for every input it returns true and its arguments read as before. Conditions: those of the given row alone (the listed package variables as the program's text lays them). -/
namespace Go.Proofs.YtnjdoinlnbjedaaGreatDoor.fnReleaseOk
open Go.ChangeShapes Go.WideShapes Go.ChangeAt Go.RowKit
open Go.Proofs.YtnjdoinlnbjedaaGreatDoor.Rf Go.Proofs.YtnjdoinlnbjedaaGreatDoor.Frame
set_option linter.unusedVariables false
theorem own : ownKnob Tryz.prog.godebug = none := by kernel_rfl
theorem laidOut : laidOutB Tryz.prog = true := by kernel_rfl
theorem qed : ∀ n ∈ (["loop.example/medlar/impl.shaStep"] : List String), ∀ g t, Tryz.prog.globalNamed n = some g → (Tryz.prog.globals[g]?).map (·.type) = some t → Tryz.prog.readableRec t = true ∧ t < Tryz.prog.types.size := by
  intro n hn g t hg ht
  simp only [List.mem_cons, List.not_mem_nil, or_false] at hn
  subst hn
  · obtain rfl := Option.some.inj ((show Tryz.prog.globalNamed "loop.example/medlar/impl.shaStep" = some 0 by kernel_rfl).symm.trans hg)
    obtain rfl := Option.some.inj ((show (Tryz.prog.globals[0]?).map (·.type) = some 138 by kernel_rfl).symm.trans ht)
    exact ⟨by kernel_rfl, of_decide_eq_true (by kernel_rfl)⟩
set_option maxRecDepth 100000 in
theorem contract (H : Type) (enc : TypeId × Value → H) (W : World) (base : Nat) (args : Array Value) (ds gs : List (DataW H)) (before : List MemPlace)
    (hval0 : ∀ (j : Nat) t v, Tryz.f3.params[j]? = some t → args[j]? = some v → Value.okWide Tryz.prog W .any base t v)
    (hW : DataW.Whole enc Tryz.prog Tryz.f3.params.toList Rows.fnReleaseOkSpec.vars false W args.toList ds gs before)
    (hsz0 : (DataW.weightsEach Tryz.prog (Tryz.f3.params.toList ++ (OpenSpec.ofChange Rows.fnReleaseOkSpec).bare.plain.varTypes Tryz.prog) (ds ++ gs)).all (· ≤ reachBytes) = true)
    (hL : laidMetH Tryz.prog Rows.fnReleaseOkRow.laid W) (hsh : W.ShapedOpen Tryz.prog) :
    Calls Tryz.prog 3 args W fun e W' => ∃ v, e = .returned v ∧ Rows.fnReleaseOkSpec.post enc Tryz.prog Tryz.f3 false true false false W args v W' := by
  have hGm : ∃ x : Int, W.cell? ⟨2, 0, none⟩ = some (.int .i64 x) := Go.Proofs.cell_of_shapedOpen_int (zero := #[.int .i64 0]) (t := 3) hsh (of_decide_eq_true (by kernel_rfl)) (by kernel_rfl) rfl (by kernel_rfl) (by kernel_rfl) Tryz.underlying3
  have hGp : Lib.TabIs Tryz.prog W "internal/strconv.uint64pow10" .u64 Lib.pow10Tab := q5d (show Tryz.prog.globalNamed "internal/strconv.uint64pow10" = some 1 by kernel_rfl) (show (Tryz.prog.globals[1]?).map (·.type) = some 198 by kernel_rfl) Tryz.underlying198 Tryz.underlying137 (by kernel_rfl) (by kernel_rfl) hL (by rw [show Lib.tabData .u64 Lib.pow10Tab = Rows.laid_internal_strconv_uint64pow10 from by kernel_rfl]; simp [Rows.fnReleaseOkRow])
  have hGs : Lib.TabIs Tryz.prog W "loop.example/medlar/impl.shaStep" .u32 q6i := q5d (show Tryz.prog.globalNamed "loop.example/medlar/impl.shaStep" = some 0 by kernel_rfl) (show (Tryz.prog.globals[0]?).map (·.type) = some 138 by kernel_rfl) Tryz.underlying138 Tryz.underlying135 (by kernel_rfl) (by kernel_rfl) hL (by rw [show Lib.tabData .u32 q6i = Rows.laid_loop_example_medlar_impl_shaStep from by kernel_rfl]; simp [Rows.fnReleaseOkRow])
  have hJ : Jp.J W := ⟨hGm, hGp, hGs⟩
  clear hsh hL
  have hsz := hsz0
  have hval := hval0
  have hW' := hW
  obtain ⟨p, q, hA0, hV, rfl, hfz, hnd⟩ := hW
  have hA : DataW.TrodAll enc Tryz.prog W 0 (fun _ => true) true Tryz.f3.params.toList args.toList ds p := hA0
  rw [Tryz.params3] at hA hval
  obtain ⟨v0, vs0, d0, ds0, p0, q0, hargs, rfl, rfl, h0, r0⟩ := trodAll_cons hA
  obtain ⟨rfl, rfl, rfl⟩ := trodAll_nil r0
  obtain rfl : args = #[v0] := by cases args; simp_all
  have lt0 : ∀ x ∈ p0, x.block < W.heap.size := by obtain ⟨m, hm⟩ := h0; exact DataW.trod_lt m _ _ _ hm
  obtain ⟨x0, o0, G0⟩ := q6t (τ := t22) (show q57 Tryz.prog t22 (.inl 22) = true by kernel_rfl) (hval 0 22 v0 rfl rfl) h0
  obtain ⟨gv0, gw0, qv0, rfl, hv0⟩ := q6u hV
  obtain ⟨rfl, _⟩ := trodVars_none hv0
  clear hA0 hval0 hsz0
  obtain ⟨k, hk⟩ := qcl x0 G0
  refine (row_of (q0l.q k).1 rfl (x := x0) (r := true) hk rfl (qsq hJ) hJ rfl ?_).mono fun e W' ⟨he, bel⟩ => ?_
  · intro i p s hp hs
    match i, hp, hs with
    | 0, _, hs => obtain rfl := Option.some.inj (show some (⟨t22, x0⟩ : Sv) = some s from hs); exact o0
    | i + 1, hp, _ => simp at hp
  subst he
  obtain ⟨pv, hpv⟩ := q60 laidOut bel _ _ _ hV qed
  exact ⟨_, rfl, _, _, _, [], _, pv, hW', trodAll_mk1 (shut_bool Tryz.underlying4 _), (trodAll_cons_mk (Below.trod laidOut (by kernel_rfl) (of_decide_eq_true (by kernel_rfl)) h0 bel lt0) trodAll_mk0), hpv, bel.frame _, fun h => by cases h⟩
noncomputable def q56 (os : Os) : World := { World.holding Tryz.prog os ⟨#[], #[], []⟩ with heap := (((((((World.holding Tryz.prog os ⟨#[], #[], []⟩).heap.modify 5 fun | .cells _ t frozen => .cells #[.int .u8 0, .int .u8 1, .int .u8 28, .int .u8 2, .int .u8 29, .int .u8 14, .int .u8 24, .int .u8 3, .int .u8 30, .int .u8 22, .int .u8 20, .int .u8 15, .int .u8 25, .int .u8 17, .int .u8 4, .int .u8 8, .int .u8 31, .int .u8 27, .int .u8 13, .int .u8 23, .int .u8 21, .int .u8 19, .int .u8 16, .int .u8 7, .int .u8 26, .int .u8 12, .int .u8 18, .int .u8 6, .int .u8 11, .int .u8 5, .int .u8 10, .int .u8 9] t frozen | o => o).modify 6 fun | .cells _ t frozen => .cells #[.int .u8 0, .int .u8 1, .int .u8 56, .int .u8 2, .int .u8 57, .int .u8 49, .int .u8 28, .int .u8 3, .int .u8 61, .int .u8 58, .int .u8 42, .int .u8 50, .int .u8 38, .int .u8 29, .int .u8 17, .int .u8 4, .int .u8 62, .int .u8 47, .int .u8 59, .int .u8 36, .int .u8 45, .int .u8 43, .int .u8 51, .int .u8 22, .int .u8 53, .int .u8 39, .int .u8 33, .int .u8 30, .int .u8 24, .int .u8 18, .int .u8 12, .int .u8 5, .int .u8 63, .int .u8 55, .int .u8 48, .int .u8 27, .int .u8 60, .int .u8 41, .int .u8 37, .int .u8 16, .int .u8 46, .int .u8 35, .int .u8 44, .int .u8 21, .int .u8 52, .int .u8 32, .int .u8 23, .int .u8 11, .int .u8 54, .int .u8 26, .int .u8 40, .int .u8 15, .int .u8 34, .int .u8 20, .int .u8 31, .int .u8 10, .int .u8 25, .int .u8 14, .int .u8 19, .int .u8 9, .int .u8 13, .int .u8 8, .int .u8 7, .int .u8 6] t frozen | o => o).modify 1 fun | .cells _ t frozen => .cells #[.int .u64 1, .int .u64 10, .int .u64 100, .int .u64 1000, .int .u64 10000, .int .u64 100000, .int .u64 1000000, .int .u64 10000000, .int .u64 100000000, .int .u64 1000000000, .int .u64 10000000000, .int .u64 100000000000, .int .u64 1000000000000, .int .u64 10000000000000, .int .u64 100000000000000, .int .u64 1000000000000000, .int .u64 10000000000000000, .int .u64 100000000000000000, .int .u64 1000000000000000000, .int .u64 10000000000000000000] t frozen | o => o).modify 4 fun | .cells _ t frozen => .cells #[.int .u8 128, .int .u8 191, .int .u8 160, .int .u8 191, .int .u8 128, .int .u8 159, .int .u8 144, .int .u8 191, .int .u8 128, .int .u8 143, .int .u8 0, .int .u8 0, .int .u8 0, .int .u8 0, .int .u8 0, .int .u8 0, .int .u8 0, .int .u8 0, .int .u8 0, .int .u8 0, .int .u8 0, .int .u8 0, .int .u8 0, .int .u8 0, .int .u8 0, .int .u8 0, .int .u8 0, .int .u8 0, .int .u8 0, .int .u8 0, .int .u8 0, .int .u8 0] t frozen | o => o).modify 0 fun | .cells _ t frozen => .cells #[.int .u32 1116352408, .int .u32 1899447441, .int .u32 3049323471, .int .u32 3921009573, .int .u32 961987163, .int .u32 1508970993, .int .u32 2453635748, .int .u32 2870763221, .int .u32 3624381080, .int .u32 310598401, .int .u32 607225278, .int .u32 1426881987, .int .u32 1925078388, .int .u32 2162078206, .int .u32 2614888103, .int .u32 3248222580, .int .u32 3835390401, .int .u32 4022224774, .int .u32 264347078, .int .u32 604807628, .int .u32 770255983, .int .u32 1249150122, .int .u32 1555081692, .int .u32 1996064986, .int .u32 2554220882, .int .u32 2821834349, .int .u32 2952996808, .int .u32 3210313671, .int .u32 3336571891, .int .u32 3584528711, .int .u32 113926993, .int .u32 338241895, .int .u32 666307205, .int .u32 773529912, .int .u32 1294757372, .int .u32 1396182291, .int .u32 1695183700, .int .u32 1986661051, .int .u32 2177026350, .int .u32 2456956037, .int .u32 2730485921, .int .u32 2820302411, .int .u32 3259730800, .int .u32 3345764771, .int .u32 3516065817, .int .u32 3600352804, .int .u32 4094571909, .int .u32 275423344, .int .u32 430227734, .int .u32 506948616, .int .u32 659060556, .int .u32 883997877, .int .u32 958139571, .int .u32 1322822218, .int .u32 1537002063, .int .u32 1747873779, .int .u32 1955562222, .int .u32 2024104815, .int .u32 2227730452, .int .u32 2361852424, .int .u32 2428436474, .int .u32 2756734187, .int .u32 3204031479, .int .u32 3329325298] t frozen | o => o).modify 3 fun | .cells _ t frozen => .cells #[.int .u8 240, .int .u8 240, .int .u8 240, .int .u8 240, .int .u8 240, .int .u8 240, .int .u8 240, .int .u8 240, .int .u8 240, .int .u8 240, .int .u8 240, .int .u8 240, .int .u8 240, .int .u8 240, .int .u8 240, .int .u8 240, .int .u8 240, .int .u8 240, .int .u8 240, .int .u8 240, .int .u8 240, .int .u8 240, .int .u8 240, .int .u8 240, .int .u8 240, .int .u8 240, .int .u8 240, .int .u8 240, .int .u8 240, .int .u8 240, .int .u8 240, .int .u8 240, .int .u8 240, .int .u8 240, .int .u8 240, .int .u8 240, .int .u8 240, .int .u8 240, .int .u8 240, .int .u8 240, .int .u8 240, .int .u8 240, .int .u8 240, .int .u8 240, .int .u8 240, .int .u8 240, .int .u8 240, .int .u8 240, .int .u8 240, .int .u8 240, .int .u8 240, .int .u8 240, .int .u8 240, .int .u8 240, .int .u8 240, .int .u8 240, .int .u8 240, .int .u8 240, .int .u8 240, .int .u8 240, .int .u8 240, .int .u8 240, .int .u8 240, .int .u8 240, .int .u8 240, .int .u8 240, .int .u8 240, .int .u8 240, .int .u8 240, .int .u8 240, .int .u8 240, .int .u8 240, .int .u8 240, .int .u8 240, .int .u8 240, .int .u8 240, .int .u8 240, .int .u8 240, .int .u8 240, .int .u8 240, .int .u8 240, .int .u8 240, .int .u8 240, .int .u8 240, .int .u8 240, .int .u8 240, .int .u8 240, .int .u8 240, .int .u8 240, .int .u8 240, .int .u8 240, .int .u8 240, .int .u8 240, .int .u8 240, .int .u8 240, .int .u8 240, .int .u8 240, .int .u8 240, .int .u8 240, .int .u8 240, .int .u8 240, .int .u8 240, .int .u8 240, .int .u8 240, .int .u8 240, .int .u8 240, .int .u8 240, .int .u8 240, .int .u8 240, .int .u8 240, .int .u8 240, .int .u8 240, .int .u8 240, .int .u8 240, .int .u8 240, .int .u8 240, .int .u8 240, .int .u8 240, .int .u8 240, .int .u8 240, .int .u8 240, .int .u8 240, .int .u8 240, .int .u8 240, .int .u8 240, .int .u8 240, .int .u8 240, .int .u8 240, .int .u8 241, .int .u8 241, .int .u8 241, .int .u8 241, .int .u8 241, .int .u8 241, .int .u8 241, .int .u8 241, .int .u8 241, .int .u8 241, .int .u8 241, .int .u8 241, .int .u8 241, .int .u8 241, .int .u8 241, .int .u8 241, .int .u8 241, .int .u8 241, .int .u8 241, .int .u8 241, .int .u8 241, .int .u8 241, .int .u8 241, .int .u8 241, .int .u8 241, .int .u8 241, .int .u8 241, .int .u8 241, .int .u8 241, .int .u8 241, .int .u8 241, .int .u8 241, .int .u8 241, .int .u8 241, .int .u8 241, .int .u8 241, .int .u8 241, .int .u8 241, .int .u8 241, .int .u8 241, .int .u8 241, .int .u8 241, .int .u8 241, .int .u8 241, .int .u8 241, .int .u8 241, .int .u8 241, .int .u8 241, .int .u8 241, .int .u8 241, .int .u8 241, .int .u8 241, .int .u8 241, .int .u8 241, .int .u8 241, .int .u8 241, .int .u8 241, .int .u8 241, .int .u8 241, .int .u8 241, .int .u8 241, .int .u8 241, .int .u8 241, .int .u8 241, .int .u8 241, .int .u8 241, .int .u8 2, .int .u8 2, .int .u8 2, .int .u8 2, .int .u8 2, .int .u8 2, .int .u8 2, .int .u8 2, .int .u8 2, .int .u8 2, .int .u8 2, .int .u8 2, .int .u8 2, .int .u8 2, .int .u8 2, .int .u8 2, .int .u8 2, .int .u8 2, .int .u8 2, .int .u8 2, .int .u8 2, .int .u8 2, .int .u8 2, .int .u8 2, .int .u8 2, .int .u8 2, .int .u8 2, .int .u8 2, .int .u8 2, .int .u8 2, .int .u8 19, .int .u8 3, .int .u8 3, .int .u8 3, .int .u8 3, .int .u8 3, .int .u8 3, .int .u8 3, .int .u8 3, .int .u8 3, .int .u8 3, .int .u8 3, .int .u8 3, .int .u8 35, .int .u8 3, .int .u8 3, .int .u8 52, .int .u8 4, .int .u8 4, .int .u8 4, .int .u8 68, .int .u8 241, .int .u8 241, .int .u8 241, .int .u8 241, .int .u8 241, .int .u8 241, .int .u8 241, .int .u8 241, .int .u8 241, .int .u8 241, .int .u8 241] t frozen | o => o) }
set_option maxRecDepth 100000 in
theorem q8x (os : Os) : laidMet Tryz.prog Rows.fnReleaseOkRow.laid ((q56 os).forCall (fun _ _ => 0) ⟨#[], #[.slice none 0 0], []⟩).memory :=
  laidMet_of_run' 12 (by kernel_rfl) (by kernel_rfl)
set_option maxRecDepth 100000 in
theorem reads (os : Os) {H : Type} (enc : TypeId × Value → H) : ∃ x, DataW.whole enc Tryz.prog ((q56 os).forCall (fun _ _ => 0) ⟨#[], #[.slice none 0 0], []⟩).memory Tryz.f3.params.toList Rows.fnReleaseOkSpec.vars false #[(.slice none 0 0 : Value)].toList 12 = some x :=
  Option.isSome_iff_exists.1 (by kernel_rfl)
set_option maxRecDepth 100000 in
theorem lifted (os : Os) (started : os.Started) (H : Type) (enc : TypeId × Value → H) (F : Stop.Interp) :
    ReturnsInHanded {} Tryz.checked os 3 .any ((OpenSpec.ofChange Rows.fnReleaseOkSpec).preRow enc Tryz.prog Tryz.f3 Rows.fnReleaseOkRow.domain false Rows.fnReleaseOkRow.laid) (((OpenSpec.ofChange Rows.fnReleaseOkSpec).at F).post enc Tryz.prog Tryz.f3 false true false false) := by
  obtain ⟨x, hx⟩ := reads os enc
  refine returnsInHanded_of_row (C := Tryz.checked) (s := OpenSpec.ofChange Rows.fnReleaseOkSpec) own started (by kernel_rfl) Tryz.func3
    (witness_row_at (enc := enc) (C := Tryz.checked) false (q56 os) #[.slice none 0 0] rfl (by kernel_rfl) (by kernel_rfl) (by kernel_rfl)
      (OpenSpec.preRow_of_cond 12 (x := x) hx (by kernel_rfl) (fun k hk => by cases hk) (by kernel_rfl) (q8x os))) ?_
  intro W base args ds gs before hval hW _ _ hsz hL hsh _
  exact contract H enc W base args ds gs before hval hW hsz hL hsh
theorem said : Rows.FnReleaseOkSaid :=
  OpenClaim.holds_of_cond 3 Tryz.f3 rfl rfl rfl rfl rfl rfl rfl ⟨rfl, rfl, rfl, rfl, rfl⟩ rfl rfl rfl rfl rfl (by kernel_rfl) Tryz.func3 (by kernel_rfl)
    (of_decide_eq_true (by kernel_rfl)) (by unfold Func.isWrapper; first | (rw [if_pos (by decide +kernel)]; kernel_rfl) | (rw [if_neg (by decide +kernel)]; exact ⟨rfl, rfl⟩))
    (fun os started H enc _ F => by rw [OpenClaim.pre_eq_preRow]; exact lifted os started H enc F)
theorem plain (f : FuncId) (fn : Func) (hf : Tryz.pinned.checked.prog.funcNamed "loop.example/medlar/laws.FnReleaseOk" = some f) (hfn : Tryz.pinned.checked.prog.funcs[f]? = some fn) :
    false = Tryz.pinned.checked.prog.looks [] ∧ ∀ (j : Nat) t, fn.params[j]? = some t → Tryz.pinned.checked.prog.wantsStandIn t = false := by
  obtain rfl : f = 3 := Option.some.inj ((show Tryz.prog.funcNamed "loop.example/medlar/laws.FnReleaseOk" = some 3 by kernel_rfl).symm.trans hf) |>.symm
  obtain rfl : fn = Tryz.f3 := (Option.some.inj (Tryz.func3.symm.trans hfn)).symm
  refine ⟨by kernel_rfl, fun j t ht => ?_⟩
  rw [Tryz.params3] at ht
  have hm := Array.mem_of_getElem? ht
  simp only [List.mem_toArray, List.mem_cons, List.not_mem_nil, or_false] at hm
  subst hm
  · exact (show Tryz.prog.wantsStandIn 22 = false by kernel_rfl)
theorem card : Rows.FnReleaseOkCardSaid :=
  Claim7.holds_tied_plain_at .later [] _ _ _ _ said (fun _ h => by cases h) (by kernel_rfl) (fun _ h => by cases h) fnReleaseOk_row_tie rfl ⟨rfl, rfl⟩ (by kernel_rfl) rfl plain (by kernel_rfl)
end Go.Proofs.YtnjdoinlnbjedaaGreatDoor.fnReleaseOk
namespace Go.Proofs.YtnjdoinlnbjedaaGreatDoor
theorem fnReleaseOk_holds : Rows.FnReleaseOkCardSaid := fnReleaseOk.card
end Go.Proofs.YtnjdoinlnbjedaaGreatDoor
end
