import Derived.Test.YtnjdoinlnbjedaaGreatDoorK4
import Derived.Test.YtnjdoinlnbjedaaGreatDoorFz1
import Derived.Test.YtnjdoinlnbjedaaGreatDoorKz2
import Derived.Test.YtnjdoinlnbjedaaGreatDoorRows
import Derived.Test.YtnjdoinlnbjedaaGreatDoorCards
import Derived.Test.YtnjdoinlnbjedaaGreatDoorTie
import Derived.WalkKit
import Derived.ProofKit
import Derived.OpenShut
import Derived.ShutString
import Derived.ChangeOld
import Derived.Below
import Derived.Carry
import Derived.SizedLaws
import Derived.Deep.DeepHandedRow
import Derived.Lib.LaidTab

section
namespace Go.Proofs.YtnjdoinlnbjedaaGreatDoor.Rf
open Go Go.RowKit
set_option linter.unusedVariables false
noncomputable section
def q2t.C (k : Nat) : CEs := [q07.e k, q0t.e k, q0e.e k, q2l.e k, q2f.e k]
abbrev q2t.ps : List Par := [⟨qap, .bx .ro⟩]
abbrev q2t.rs : List Res := [⟨t38, (.pr (.own .ro) (.own .ro)), false⟩]
def q2t.F := q4p E q2t.C [] Tryz.f62 q2t.ps q2t.rs
def q2t.f (k : Nat) (x0 : List Int × Int) : Option (Book × (List Int × Int)) := q2t.F k x0
theorem q2t.f_eq (k : Nat) (x0 : List Int × Int) : q2t.f k x0 = (q0e.f k x0).bind fun (r0 : Book × (List Int × Int)) => (q07.f k r0.2 (16 : Int)).bind fun (r1 : Int × (List Int × Int)) => ifb (r1.1 == (0 : Int)) ((q2f.f k r1.2).bind fun (r2 : (Aff) × (List Int × Int)) => ifb (decide ((r0.1.1.length + [r2.1].length) * 72 ≤ q0u)) (some (((r0.1.1 ++ [r2.1]), r0.1.2), r2.2)) (none)) (ifb (r1.1 == (1 : Int)) ((q2l.f k r1.2).bind fun (r3 : ByteArray × (List Int × Int)) => (q0t.f k r3.2 [bz, (⟨#[83, 71]⟩ : ByteArray), (⟨#[115]⟩ : ByteArray), (⟨#[65, 66, 67, 68, 69]⟩ : ByteArray)]).bind fun (r4 : ByteArray × (List Int × Int)) => ifb (decide ((r0.1.2.length + [(r3.1, r4.1)].length) * 32 ≤ q0u)) (some ((r0.1.1, (r0.1.2 ++ [(r3.1, r4.1)])), r4.2)) (none)) (ifb (r1.1 == (2 : Int)) (ifb (decide ((r0.1.2.length : Int) > 0)) ((q0t.f k r1.2 [bz, (⟨#[122, 122]⟩ : ByteArray), (⟨#[65]⟩ : ByteArray)]).bind fun (r5 : ByteArray × (List Int × Int)) => ifb (decide (0 ≤ (0 : Int)) && decide ((0 : Int) < (r0.1.2.length : Int))) (some ((r0.1.1, (r0.1.2.set ((0 : Int).toNat) (r5.1, (r0.1.2.getD ((0 : Int).toNat) zE).2))), r5.2)) (none)) (some (r0.1, r1.2))) (some (r0.1, r1.2)))) := by kernel_rfl
abbrev q2t.e (k : Nat) : FuncId × CE := (62, ⟨q2t.ps, q2t.rs, q2t.F k⟩)
theorem q2t.q (k : Nat) : Qs (q2t.e k) := qq (C := q2t.C) (fun k => .c (q07.q k) <| .c (q0t.q k) <| .c (q0e.q k) <| .c (q2l.q k) <| .c (q2f.q k) <| .nil) k
end
end Go.Proofs.YtnjdoinlnbjedaaGreatDoor.Rf
end

section
namespace Go.Proofs.YtnjdoinlnbjedaaGreatDoor.Rf
open Go Go.RowKit
set_option linter.unusedVariables false
noncomputable section
def q0r.C (k : Nat) : CEs := [q2m.e k, q07.e k, q0t.e k, q0e.e k, q21.e k, q1l.e k, q2t.e k]
abbrev q0r.ps : List Par := [⟨t22, .rd⟩]
abbrev q0r.rs : List Res := [⟨.str, .ro, false⟩, ⟨(.int .i64), .ro, false⟩, ⟨t38, (.pr (.own .ro) (.own .ro)), false⟩, ⟨t28, (.pr .ro (.pr (.pr (.own .ro) (.pr (.own .ro) (.pr .ro (.own .ro)))) .ro)), false⟩]
def q0r.H : q4o := [(7, [(4, (.pr (.own .ro) (.own .ro))), (5, (.pr .ro (.pr (.pr (.own .ro) (.pr (.own .ro) (.pr .ro (.own .ro)))) .ro))), (6, .ro), (7, (.pr (.own .ro) (.own .ro))), (8, .ro), (9, (.pr .ro (.pr (.pr (.own .ro) (.pr (.own .ro) (.pr .ro (.own .ro)))) .ro)))])]
def q0r.F := q4p E q0r.C q0r.H Tryz.f21 q0r.ps q0r.rs
def q0r.J7 (k : Nat) (x4 : Book) (x5 : Release) (x6 : List Int × Int) (x7 : Book) (x8 : Int) (x9 : Release) : Option (ByteArray × Int × Book × Release) := atJ E q0r.C q0r.H Tryz.f21 q0r.ps q0r.rs [true, true, true, true, true, true] 0 [] k (sh 36 [(4, .box t38 x4 (.pr (.own .ro) (.own .ro)) none), (5, .box t28 x5 (.pr .ro (.pr (.pr (.own .ro) (.pr (.own .ro) (.pr .ro (.own .ro)))) .ro)) none), (6, .box qap x6 .ro none), (7, .box t38 x7 (.pr (.own .ro) (.own .ro)) none), (8, .d (.int .i64) x8 .ro), (9, .box t28 x9 (.pr .ro (.pr (.pr (.own .ro) (.pr (.own .ro) (.pr .ro (.own .ro)))) .ro)) none)])
def q0r.f (k : Nat) (x0 : List Int) : Option (ByteArray × Int × Book × Release) := q0r.F k x0
theorem q0r.f_eq (k : Nat) (x0 : List Int) : q0r.f k x0 = (q2m.f k x0).bind fun (r0 : List Int × Int) => (q2t.f k r0).bind fun (r1 : Book × (List Int × Int)) => (q07.f k r1.2 (3 : Int)).bind fun (r2 : Int × (List Int × Int)) => (q0e.f k r2.2).bind fun (r3 : Book × (List Int × Int)) => (q21.f k (⟨#[107, 101, 121]⟩ : ByteArray) r2.1 r1.1 r3.1).bind fun (r4 : Release × Bool) => (q07.f k r3.2 (4 : Int)).bind fun (r5 : Int × (List Int × Int)) => ifb (r5.1 == (0 : Int)) ((q1l.f k r5.2 (⟨#[107, 101, 121]⟩ : ByteArray)).bind fun (r6 : Release × (List Int × Int)) => q0r.J7 k (([] : List Aff), ([] : List En)) ((0 : Int), (([] : List ByteArray), ([] : List En), false, ([] : List Aff)), bz, bz) r6.2 r1.1 r2.1 r6.1) (q0r.J7 k (([] : List Aff), ([] : List En)) ((0 : Int), (([] : List ByteArray), ([] : List En), false, ([] : List Aff)), bz, bz) r5.2 r1.1 r2.1 r4.1) := by kernel_rfl
theorem q0r.J7_eq (k : Nat) (x4 : Book) (x5 : Release) (x6 : List Int × Int) (x7 : Book) (x8 : Int) (x9 : Release) : q0r.J7 (k + 1) x4 x5 x6 x7 x8 x9 = (q0t.f k x6 [(⟨#[107, 101, 121]⟩ : ByteArray), (⟨#[107, 101, 121]⟩ : ByteArray), (⟨#[107, 101, 121]⟩ : ByteArray), (⟨#[119, 114, 111, 110, 103]⟩ : ByteArray)]).bind fun (r7 : ByteArray × (List Int × Int)) => some (r7.1, x8, x7, x9) := by kernel_rfl
abbrev q0r.e (k : Nat) : FuncId × CE := (21, ⟨q0r.ps, q0r.rs, q0r.F k⟩)
theorem q0r.q (k : Nat) : Qs (q0r.e k) := qq (C := q0r.C) (fun k => .c (q2m.q k) <| .c (q07.q k) <| .c (q0t.q k) <| .c (q0e.q k) <| .c (q21.q k) <| .c (q1l.q k) <| .c (q2t.q k) <| .nil) k
def q1h.C (k : Nat) : CEs := []
abbrev q1h.ps : List Par := [⟨t38, .rd⟩, ⟨t38, .rd⟩]
abbrev q1h.rs : List Res := [⟨.bool, .ro, false⟩]
def q1h.H : q4o := [(4, [(2, .ro), (3, .ro), (5, .ro)]), (9, [(2, .ro), (3, .ro), (6, .ro)])]
def q1h.F := q4p E q1h.C q1h.H Tryz.f24 q1h.ps q1h.rs
def q1h.L4 (k k1 : Nat) (x2 : Book) (x3 : Book) (x5 : Int) : Option (Bool) := atL E q1h.C q1h.H Tryz.f24 q1h.ps q1h.rs [true, true, false, true, true] k [] k1 (sh 59 [(2, .box t38 x2 .ro none), (3, .box t38 x3 .ro none), (5, .d (.int .i64) x5 .ro)])
def q1h.L9 (k k1 : Nat) (x2 : Book) (x3 : Book) (x6 : Int) : Option (Bool) := atL E q1h.C q1h.H Tryz.f24 q1h.ps q1h.rs [true, true, true, false, true, true] k [] k1 (sh 59 [(2, .box t38 x2 .ro none), (3, .box t38 x3 .ro none), (6, .d (.int .i64) x6 .ro)])
def q1h.f (k : Nat) (x0 : Book) (x1 : Book) : Option (Bool) := q1h.F k (x0, x1)
theorem q1h.f_eq (k : Nat) (x0 : Book) (x1 : Book) : q1h.f k x0 x1 = ifb ((x0.1.length : Int) != (x1.1.length : Int)) (some false) (ifb ((x0.2.length : Int) != (x1.2.length : Int)) (some false) (q1h.L4 k k x0 x1 (0 : Int))) := by kernel_rfl
theorem q1h.L4_eq (k k1 : Nat) (x2 : Book) (x3 : Book) (x5 : Int) : q1h.L4 k (k1 + 1) x2 x3 x5 = ifb (decide (x5 < (x2.1.length : Int))) (ifb (decide (0 ≤ x5) && decide (x5 < (x2.1.length : Int))) (ifb (decide (0 ≤ x5) && decide (x5 < (x3.1.length : Int))) (ifb (!((((x2.1.getD x5.toNat zA).1).toList == ((x3.1.getD x5.toNat zA).1).toList) && ((((x2.1.getD x5.toNat zA).2).1 == ((x3.1.getD x5.toNat zA).2).1) && ((((((x2.1.getD x5.toNat zA).2).2).1).toList == ((((x3.1.getD x5.toNat zA).2).2).1).toList) && (((((((x2.1.getD x5.toNat zA).2).2).2).1).toList == (((((x3.1.getD x5.toNat zA).2).2).2).1).toList) && ((((((x2.1.getD x5.toNat zA).2).2).2).2).toList == (((((x3.1.getD x5.toNat zA).2).2).2).2).toList)))))) (some false) (q1h.L4 k k1 x2 x3 (w64 (x5 + 1)))) (none)) (none)) (q1h.L9 k k x2 x3 (0 : Int)) := by kernel_rfl
theorem q1h.L9_eq (k k1 : Nat) (x2 : Book) (x3 : Book) (x6 : Int) : q1h.L9 k (k1 + 1) x2 x3 x6 = ifb (decide (x6 < (x2.2.length : Int))) (ifb (decide (0 ≤ x6) && decide (x6 < (x2.2.length : Int))) (ifb (decide (0 ≤ x6) && decide (x6 < (x3.2.length : Int))) (ifb (!((((x2.2.getD x6.toNat zE).1).toList == ((x3.2.getD x6.toNat zE).1).toList) && (((x2.2.getD x6.toNat zE).2).toList == ((x3.2.getD x6.toNat zE).2).toList))) (some false) (q1h.L9 k k1 x2 x3 (w64 (x6 + 1)))) (none)) (none)) (some true) := by kernel_rfl
abbrev q1h.e (k : Nat) : FuncId × CE := (24, ⟨q1h.ps, q1h.rs, q1h.F k⟩)
theorem q1h.q (k : Nat) : Qs (q1h.e k) := qq (C := q1h.C) (fun k => .nil) k
def q0o.C (k : Nat) : CEs := [q1c.e k, q2h.e k, q2j.e k, q26.e k, q0w.e k, q3f.e k, q2d.e k, q0r.e k, q1h.e k]
abbrev q0o.ps : List Par := [⟨t22, .rd⟩]
abbrev q0o.rs : List Res := [⟨.bool, .ro, false⟩]
def q0o.H : q4o := [(5, [(3, .ro), (4, .ro), (5, (.pr (.own .ro) (.own .ro))), (6, (.pr .ro (.pr (.pr (.own .ro) (.pr (.own .ro) (.pr .ro (.own .ro)))) .ro))), (7, (.pr (.own .ro) (.own .ro))), (8, .ro)]), (8, [(3, .ro), (4, .ro), (5, (.pr (.own .ro) (.own .ro))), (6, (.pr .ro (.pr (.pr (.own .ro) (.pr (.own .ro) (.pr .ro (.own .ro)))) .ro))), (7, (.pr (.own .ro) (.own .ro))), (8, .ro)])]
def q0o.F := q4p E q0o.C q0o.H Tryz.f5 q0o.ps q0o.rs
def q0o.J5 (k : Nat) (x3 : ByteArray) (x4 : Int) (x5 : Book) (x6 : Release) (x7 : Book) (x8 : Bool) : Option (Bool) := atJ E q0o.C q0o.H Tryz.f5 q0o.ps q0o.rs [true, true, true, true] 0 [] k (sh 86 [(3, .d .str x3 .ro), (4, .d (.int .i64) x4 .ro), (5, .box t38 x5 (.pr (.own .ro) (.own .ro)) none), (6, .box t28 x6 (.pr .ro (.pr (.pr (.own .ro) (.pr (.own .ro) (.pr .ro (.own .ro)))) .ro)) none), (7, .box t38 x7 (.pr (.own .ro) (.own .ro)) none), (8, .d .bool x8 .ro)])
def q0o.J8 (k : Nat) (x3 : ByteArray) (x4 : Int) (x5 : Book) (x6 : Release) (x7 : Book) (x8 : Bool) : Option (Bool) := atJ E q0o.C q0o.H Tryz.f5 q0o.ps q0o.rs [true, true, true, true, true, true] 0 [0] k (sh 86 [(3, .d .str x3 .ro), (4, .d (.int .i64) x4 .ro), (5, .box t38 x5 (.pr (.own .ro) (.own .ro)) none), (6, .box t28 x6 (.pr .ro (.pr (.pr (.own .ro) (.pr (.own .ro) (.pr .ro (.own .ro)))) .ro)) none), (7, .box t38 x7 (.pr (.own .ro) (.own .ro)) none), (8, .d .bool x8 .ro)])
def q0o.f (k : Nat) (x0 : List Int) : Option (Bool) := q0o.F k x0
theorem q0o.f_eq (k : Nat) (x0 : List Int) : q0o.f k x0 = ifb (decide ((x0.length : Int) > (1048576 : Int))) (some true) ((q0r.f k x0).bind fun (r0 : ByteArray × Int × Book × Release) => (q2d.f k r0.1 r0.2.1 r0.2.2.1 r0.2.2.2).bind fun (r1 : Book × Bool) => q0o.J5 k r0.1 r0.2.1 r0.2.2.1 r0.2.2.2 r1.1 r1.2) := by kernel_rfl
theorem q0o.J5_eq (k : Nat) (x3 : ByteArray) (x4 : Int) (x5 : Book) (x6 : Release) (x7 : Book) (x8 : Bool) : q0o.J5 (k + 1) x3 x4 x5 x6 x7 x8 = (q2h.f k x3 x4 x5 x6).bind fun (r2 : Book × Bool) => ifb (!(x8 == r2.2)) (ifb (x8 == r2.2) ((q1h.f k x7 r2.1).bind fun (r3 : Bool) => some r3) (some false)) ((q1h.f k x7 r2.1).bind fun (r4 : Bool) => ifb (!r4) (ifb (x8 == r2.2) ((q1h.f k x7 r2.1).bind fun (r5 : Bool) => some r5) (some false)) ((q1c.f k x5).bind fun (r6 : Bool) => ifb (!r6) (ifb (x8 == r2.2) ((q1h.f k x7 r2.1).bind fun (r7 : Bool) => some r7) (some false)) (q0o.J8 k x3 x4 x5 x6 x7 x8))) := by kernel_rfl
theorem q0o.J8_eq (k : Nat) (x3 : ByteArray) (x4 : Int) (x5 : Book) (x6 : Release) (x7 : Book) (x8 : Bool) : q0o.J8 (k + 1) x3 x4 x5 x6 x7 x8 = ifb (!x8) ((q1h.f k x7 x5).bind fun (r8 : Bool) => some r8) ((q2j.f k x7).bind fun (r9 : Bool) => ifb r9 ((q26.f k x3 x6).bind fun (r10 : Bool) => ifb r10 (ifb (x6.1 == (w64 (x4 + 1))) ((q0w.f k x7).bind fun (r11 : ByteArray) => (q3f.f k r11).bind fun (r12 : ByteArray) => some (r12.toList == x6.2.2.1.toList)) (some false)) (some false)) (some false)) := by kernel_rfl
abbrev q0o.e (k : Nat) : FuncId × CE := (5, ⟨q0o.ps, q0o.rs, q0o.F k⟩)
theorem q0o.q (k : Nat) : Qs (q0o.e k) := qq (C := q0o.C) (fun k => .c (q1c.q k) <| .c (q2h.q k) <| .c (q2j.q k) <| .c (q26.q k) <| .c (q0w.q k) <| .c (q3f.q k) <| .c (q2d.q k) <| .c (q0r.q k) <| .c (q1h.q k) <| .nil) k
end
end Go.Proofs.YtnjdoinlnbjedaaGreatDoor.Rf
end

section
namespace Go.Proofs.YtnjdoinlnbjedaaGreatDoor.Rf
open Go Go.RowKit
set_option linter.unusedVariables false
set_option linter.unusedSimpArgs false
theorem ql9 {m : Int} {x : Rdr} (h : Rd m x) (hm : m ≤ 300000000) : Dr (fun k => q2t.f k x) (m + 300) (q9x 51) := by
  refine Dr.congr (fun k => q2t.f_eq k x) (Dr.bind (qbu h (by omega)) fun b y hb hy => ?_)
  have hb1 : q9x 51 b := ⟨⟨Nat.le_trans hb.1.1 (by omega), hb.1.2⟩, Nat.le_trans hb.2.1 (by omega), hb.2.2⟩
  have l1 := hb.1.1
  have l2 := hb.2.1
  refine Dr.bind (q5q hy (by omega) 16 (by omega) (by omega)) fun v z hv hz => ?_
  by_cases c0 : v = 0
  · simp only [qi4 c0, q08]
    refine Dr.bind (qec hz (by omega)) fun a u ha hu => ?_
    have m1 : decide ((b.1.length + [a].length) * 72 ≤ q0u) = true := decide_eq_true (by simp [q0u]; omega)
    simp only [m1, q08]
    exact Dr.now (v := (b.1 ++ [a], b.2)) (x := u) (fun k => rfl) ⟨⟨by simp; omega, qbb hb.1.2 ha⟩, hb1.2⟩ (hu.up (by omega))
  simp only [qi5 c0, q0d]
  by_cases c1 : v = 1
  · simp only [qi4 c1, q08]
    refine Dr.bind (qbt hz (by omega)) fun s u hs hu => ?_
    refine Dr.bind (qbs hu (by omega) _ (by simp) (by simp)) fun f w hf hw => ?_
    have h16 : f.size ≤ 16 := by
      simp only [List.mem_cons, List.not_mem_nil, or_false] at hf
      rcases hf with rfl | rfl | rfl | rfl <;> decide
    have m1 : decide ((b.2.length + [(s, f)].length) * 32 ≤ q0u) = true := decide_eq_true (by simp [q0u]; omega)
    simp only [m1, q08]
    exact Dr.now (v := (b.1, b.2 ++ [(s, f)])) (x := w) (fun k => rfl) ⟨hb1.1, by simp; omega, qbb hb.2.2 ⟨Nat.le_trans hs (by omega), h16⟩⟩ (hw.up (by omega))
  simp only [qi5 c1, q0d]
  by_cases c2 : v = 2
  · simp only [qi4 c2, q08]
    by_cases hl : (b.2.length : Int) > 0
    · simp only [decide_eq_true hl, q08]
      refine Dr.bind (qbs hz (by omega) _ (by simp) (by simp)) fun s u hs hu => ?_
      have h16 : s.size ≤ 16 := by
        simp only [List.mem_cons, List.not_mem_nil, or_false] at hs
        rcases hs with rfl | rfl | rfl <;> decide
      have hl0 : 0 < b.2.length := by omega
      simp only [decide_eq_true (Int.le_refl 0), decide_eq_true (show (0 : Int) < (b.2.length : Int) from hl), Bool.and_self, q08]
      refine Dr.now (v := (b.1, b.2.set ((0 : Int).toNat) (s, (b.2.getD ((0 : Int).toNat) zE).2))) (x := u) (fun k => rfl) ⟨hb1.1, by rw [List.length_set]; exact hb1.2.1, fun e he => ?_⟩ (hu.up (by omega))
      rcases List.mem_or_eq_of_mem_set he with he | rfl
      · exact hb.2.2 e he
      · refine ⟨h16, ?_⟩
        show (b.2.getD 0 zE).2.size ≤ 16
        rw [List.getD_eq_getElem?_getD, List.getElem?_eq_getElem hl0]
        exact (hb.2.2 _ (List.getElem_mem hl0)).2
    · simp only [decide_eq_false hl, q0d]
      exact Dr.now (v := b) (x := z) (fun k => rfl) hb1 (hz.up (by omega))
  simp only [qi5 c2, q0d]
  exact Dr.now (v := b) (x := z) (fun k => rfl) hb1 (hz.up (by omega))
end Go.Proofs.YtnjdoinlnbjedaaGreatDoor.Rf
end

section
namespace Go.Proofs.YtnjdoinlnbjedaaGreatDoor.Rf
open Go Go.RowKit
set_option linter.unusedVariables false
set_option linter.unusedSimpArgs false
theorem qnu (a b : Book) (h1 : Sm a.1.length) (h2 : Sm a.2.length) : Al fun k => q1h.f k a b = some (decide (a = b)) := by
  by_cases hl1 : a.1.length = b.1.length
  case neg =>
    refine Al.now fun k => ?_
    rw [q1h.f_eq, show ((a.1.length : Int) != (b.1.length : Int)) = true by rw [bne_iff_ne]; omega, q08, decide_eq_false fun e => hl1 (by rw [e])]
  by_cases hl2 : a.2.length = b.2.length
  case neg =>
    refine Al.now fun k => ?_
    rw [q1h.f_eq, show ((a.1.length : Int) != (b.1.length : Int)) = false by rw [hl1]; simp, q0d, show ((a.2.length : Int) != (b.2.length : Int)) = true by rw [bne_iff_ne]; omega, q08, decide_eq_false fun e => hl2 (by rw [e])]
  have two : ∀ (t : List En) (i : Nat), a.2.drop i = t → Al2 fun k k1 => q1h.L9 k k1 a b (i : Int) = some (decide (t = b.2.drop i)) := by
    intro t
    induction t with
    | nil =>
      intro i hd
      have he := drop_nil hd
      refine Al2.succ (Al2.now fun k k1 => ?_)
      rw [q1h.L9_eq, at_end he, q0d, List.drop_eq_nil_of_le (show b.2.length ≤ i by omega), decide_eq_true rfl]
    | cons x t ih =>
      intro i hd
      obtain ⟨hi, g1, g2⟩ := q3t zE hd
      obtain ⟨c1, c2, c3, c4⟩ := q66 hi h2
      have hm : i < b.2.length := by omega
      have hmd : b.2.drop i = b.2[i] :: b.2.drop (i + 1) := List.drop_eq_getElem_cons hm
      have gm : b.2.getD i zE = b.2[i] := by rw [List.getD_eq_getElem?_getD, List.getElem?_eq_getElem hm]; rfl
      have cm : decide ((i : Int) < (b.2.length : Int)) = true := decide_eq_true (by omega)
      refine Al2.succ ((ih (i + 1) g2).mono fun k k1 e => ?_)
      simp only [q1h.L9_eq, c1, c2, c3, w64, c4, g1, cm, gm, Bool.and_self, q08, e, qn0, hmd]
      by_cases h : x = b.2[i]
      · rw [decide_eq_true h, Bool.not_true, q0d]
        exact congrArg some (decide_eq_decide.2 ⟨fun e => by rw [h, e], fun e => (List.cons.inj e).2⟩)
      · rw [decide_eq_false h, Bool.not_false, q08]
        exact congrArg some (decide_eq_false fun e => h (List.cons.inj e).1).symm
  have one : ∀ (t : List Aff) (i : Nat), a.1.drop i = t → Al2 fun k k1 => q1h.L4 k k1 a b (i : Int) = some (decide (t = b.1.drop i) && decide (a.2 = b.2)) := by
    intro t
    induction t with
    | nil =>
      intro i hd
      have he := drop_nil hd
      refine Al2.succ ((two a.2 0 rfl).diag.fst.mono fun k k1 e => ?_)
      rw [q1h.L4_eq, at_end he, q0d, List.drop_eq_nil_of_le (show b.1.length ≤ i by omega), decide_eq_true rfl, Bool.true_and]
      exact e
    | cons x t ih =>
      intro i hd
      obtain ⟨hi, g1, g2⟩ := q3t zA hd
      obtain ⟨c1, c2, c3, c4⟩ := q66 hi h1
      have hm : i < b.1.length := by omega
      have hmd : b.1.drop i = b.1[i] :: b.1.drop (i + 1) := List.drop_eq_getElem_cons hm
      have gm : b.1.getD i zA = b.1[i] := by rw [List.getD_eq_getElem?_getD, List.getElem?_eq_getElem hm]; rfl
      have cm : decide ((i : Int) < (b.1.length : Int)) = true := decide_eq_true (by omega)
      refine Al2.succ ((ih (i + 1) g2).mono fun k k1 e => ?_)
      simp only [q1h.L4_eq, c1, c2, c3, w64, c4, g1, cm, gm, Bool.and_self, q08, e, qdq, hmd]
      by_cases h : x = b.1[i]
      · rw [decide_eq_true h, Bool.not_true, q0d]
        exact congrArg (fun z => some (z && decide (a.2 = b.2))) (decide_eq_decide.2 ⟨fun e => by rw [h, e], fun e => (List.cons.inj e).2⟩)
      · rw [decide_eq_false h, Bool.not_false, q08, decide_eq_false fun e => h (List.cons.inj e).1]
        rfl
  refine (one a.1 0 rfl).diag.mono fun k e => ?_
  rw [q1h.f_eq, show ((a.1.length : Int) != (b.1.length : Int)) = false by rw [hl1]; simp, q0d, show ((a.2.length : Int) != (b.2.length : Int)) = false by rw [hl2]; simp, q0d, show (0 : Int) = ((0 : Nat) : Int) from rfl, e]
  refine congrArg some ?_
  rw [List.drop_zero, Bool.eq_iff_iff]
  simp only [Bool.and_eq_true, decide_eq_true_eq]
  exact ⟨fun ⟨h1, h2⟩ => Prod.ext h1 h2, fun h => h ▸ ⟨rfl, rfl⟩⟩
theorem qja {b : Book} {d : Delta} (hb : b.1.length ≤ 1048576 ∧ b.2.length ≤ 1048576) : (q4q b d).1.1.length ≤ 1048576 ∧ (q4q b d).1.2.length ≤ 1048576 := by
  unfold q4q
  split
  · rename_i h
    simp only [Bool.and_eq_true] at h
    split
    · rename_i h2
      simp only [Bool.and_eq_true] at h2
      have := q88 h2.2
      simp only
      omega
    · exact hb
  · simp
end Go.Proofs.YtnjdoinlnbjedaaGreatDoor.Rf
end

section
namespace Go.Proofs.YtnjdoinlnbjedaaGreatDoor.Rf
open Go Go.RowKit
set_option linter.unusedVariables false
set_option linter.unusedSimpArgs false
theorem qcm (s : List Int) (hs : ∀ b ∈ s, 0 ≤ b ∧ b ≤ 255) : ∃ key n b r, Al (fun k => q0r.f k s = some (key, n, b, r)) ∧ qj8 key ∧ (0 ≤ n ∧ n < 3) ∧ q9x 51 b ∧ rlS r := by
  obtain ⟨x, e0, h0⟩ := qi3 s hs
  obtain ⟨b, y, e1, hb, hy⟩ := ql9 h0 (by omega)
  obtain ⟨n, z, e2, hn, hz⟩ := q5q hy (by omega) 3 (by omega) (by omega)
  obtain ⟨b2, u, e3, hb2, hu⟩ := qbu hz (by omega)
  have hk0 : qj8 (⟨#[107, 101, 121]⟩ : ByteArray) := by unfold qj8; decide
  have hb2' := hb2.up (show 50 ≤ 51 by omega)
  have e4 := q6q (⟨#[107, 101, 121]⟩ : ByteArray) n b b2 (by decide) (qj6 (hb.up (by omega))) (qj6 (hb2.up (by omega)))
  have hr0 := qnr (key := (⟨#[107, 101, 121]⟩ : ByteArray)) (n := n) hb hb2'
  obtain ⟨v, w, e5, hv, hw⟩ := q5q hu (by omega) 4 (by omega) (by omega)
  have fin : ∀ (r : Release) (w2 : Rdr), rlS r → Rd 10000 w2 → ∃ key, Al (fun k => q0r.J7 k (([] : List Aff), ([] : List En)) ((0 : Int), (([] : List ByteArray), ([] : List En), false, ([] : List Aff)), bz, bz) w2 b n r = some (key, n, b, r)) ∧ qj8 key := fun r w2 hr hw2 => by
    obtain ⟨key, u3, e6, hk, hu3⟩ := qbs hw2 (by omega) [(⟨#[107, 101, 121]⟩ : ByteArray), (⟨#[107, 101, 121]⟩ : ByteArray), (⟨#[107, 101, 121]⟩ : ByteArray), (⟨#[119, 114, 111, 110, 103]⟩ : ByteArray)] (by simp) (by simp)
    refine ⟨key, Al.succ (e6.mono fun k a => ?_), ?_⟩
    · have a' : q0t.f k w2 [(⟨#[107, 101, 121]⟩ : ByteArray), (⟨#[107, 101, 121]⟩ : ByteArray), (⟨#[107, 101, 121]⟩ : ByteArray), (⟨#[119, 114, 111, 110, 103]⟩ : ByteArray)] = some (key, u3) := a
      rw [q0r.J7_eq, a', Option.bind_some]
    · simp only [List.mem_cons, List.not_mem_nil, or_false] at hk
      rcases hk with rfl | rfl | rfl | rfl <;> (unfold qj8; decide)
  by_cases c : v = 0
  · obtain ⟨r, w2, e6, hr, hw2⟩ := qbc (⟨#[107, 101, 121]⟩ : ByteArray) hk0 hw (by omega)
    obtain ⟨key, e7, hk⟩ := fin r w2 hr (hw2.up (by omega))
    refine ⟨key, n, b, r, (((e0.and e1).and (e2.and e3)).and ((e4.and e5).and (e6.and e7))).mono fun k ⟨⟨⟨a0, a1⟩, a2, a3⟩, ⟨a4, a5⟩, a6, a7⟩ => ?_, hk, hn, hb, hr⟩
    have a1' : q2t.f k x = some (b, y) := a1
    have a2' : q07.f k y 3 = some (n, z) := a2
    have a3' : q0e.f k z = some (b2, u) := a3
    have a5' : q07.f k u 4 = some (v, w) := a5
    have a6' : q1l.f k w (⟨#[107, 101, 121]⟩ : ByteArray) = some (r, w2) := a6
    simp only [q0r.f_eq, a0, a1', a2', a3', a4, a5', a6', a7, Option.bind_some, qi4 c, q08]
  · obtain ⟨key, e7, hk⟩ := fin (q6d (⟨#[107, 101, 121]⟩ : ByteArray) n b b2).1 w hr0 (hw.up (by omega))
    refine ⟨key, n, b, _, (((e0.and e1).and (e2.and e3)).and ((e4.and e5).and e7)).mono fun k ⟨⟨⟨a0, a1⟩, a2, a3⟩, ⟨a4, a5⟩, a7⟩ => ?_, hk, hn, hb, hr0⟩
    have a1' : q2t.f k x = some (b, y) := a1
    have a2' : q07.f k y 3 = some (n, z) := a2
    have a3' : q0e.f k z = some (b2, u) := a3
    have a5' : q07.f k u 4 = some (v, w) := a5
    simp only [q0r.f_eq, a0, a1', a2', a3', a4, a5', a7, Option.bind_some, qi5 c, q0d]
end Go.Proofs.YtnjdoinlnbjedaaGreatDoor.Rf
end

section
/- The law FnReleaseDo is true. -/
namespace Go.Proofs.YtnjdoinlnbjedaaGreatDoor.Rf
open Go Go.RowKit
set_option linter.unusedVariables false
set_option linter.unusedSimpArgs false
theorem qcn (s : List Int) (hs : q73 (.row (.int .u8)) s) : ∃ k, q0o.f k s = some true := by
  by_cases hl : (s.length : Int) > 1048576
  · exact ⟨0, by rw [q0o.f_eq, decide_eq_true hl, q08]⟩
  obtain ⟨key, n, b, r, e0, hk, ⟨n0, n1⟩, hb, hr⟩ := qcm s fun b hb => qsb (hs.2 b hb)
  unfold qj8 at hk
  have mr := qsd hr
  have mb := qj6 (hb.up (show 51 ≤ 60 by omega))
  have hI := q8b key n b r (by omega) (by omega) mb mr
  have hS := q8c key n b r (by omega) (by omega) mb mr
  have lb : b.1.length ≤ 1048576 ∧ b.2.length ≤ 1048576 := by have := hb.1.1; have := hb.2.1; omega
  have lx : (q5f key n b r).1.1.length ≤ 1048576 ∧ (q5f key n b r).1.2.length ≤ 1048576 := by
    unfold q5f
    split
    · split
      · exact qja lb
      · exact lb
    · simp
  have hm := qnu (q5f key n b r).1 (q5f key n b r).1 (by unfold Sm; omega) (by unfold Sm; omega)
  rw [decide_eq_true rfl] at hm
  have hB := q4y b mb
  have j5 : Al fun k => q0o.J5 k key n b r (q5f key n b r).1 (q5f key n b r).2 = some true := by
    cases h1 : q4w b with
    | false =>
      refine Al.succ ((hS.and (hm.and hB)).mono fun k ⟨a0, a1, a2⟩ => ?_)
      rw [q0o.J5_eq, a0, Option.bind_some, beq_self_eq_true, Bool.not_true, q0d, a1, Option.bind_some, Bool.not_true, q0d, a2, h1, Option.bind_some, Bool.not_false, q08, q08, Option.bind_some]
    | true =>
      have j8 : Al fun k => q0o.J8 k key n b r (q5f key n b r).1 (q5f key n b r).2 = some true := by
        by_cases hx : (qbr key r && (decide (r.1 = n + 1) && ((q4q b r.2.1).2 && decide (q6e (q6n (q4q b r.2.1).1) = r.2.2.1)))) = true
        · have hR : q5f key n b r = ((q4q b r.2.1).1, true) := by unfold q5f; rw [h1, if_pos rfl, if_pos hx]
          simp only [Bool.and_eq_true, decide_eq_true_eq] at hx
          obtain ⟨x1, x2, x3, x4⟩ := hx
          obtain ⟨_, hf, _⟩ := q9s x1
          obtain ⟨⟨a1, a2⟩, a3, a4, a5, a6⟩ := q6p hf
          have hd := qe5 x3
          have hX : q4w (q4q b r.2.1).1 = true := by rw [hd.1]; exact hd.2.2.2.2
          have hSm : smB (q4q b r.2.1).1 := by rw [hd.1]; exact qk4 mb mr.1 (q88 h1) (qbo a3)
          have hz := q89 (qhk hX)
          have hP := q7d _ hSm
          rw [qrf, hX, if_pos rfl] at hP
          rw [hR]
          refine Al.succ (((q50 _ hSm).and (q5s key r (by omega) mr)).and (hP.and (qam (q6n (q4q b r.2.1).1) (by omega))) |>.mono fun k ⟨⟨b1, b2⟩, b3, b4⟩ => ?_)
          rw [q0o.J8_eq]
          dsimp only
          rw [Bool.not_true, q0d, b1, hX, Option.bind_some, q08, b2, x1, Option.bind_some, q08, show w64 (n + 1) = n + 1 from q6w (by omega) (by omega), x2, beq_self_eq_true, q08, b3, Option.bind_some, b4, Option.bind_some, q5w, decide_eq_true x4]
        · have hR : q5f key n b r = (b, false) := by unfold q5f; rw [h1, if_pos rfl, if_neg hx]
          rw [hR] at hm ⊢
          refine Al.succ (hm.mono fun k a => ?_)
          rw [q0o.J8_eq]
          dsimp only at a ⊢
          rw [Bool.not_false, q08, a, Option.bind_some]
      refine Al.succ ((hS.and (hm.and (hB.and j8))).mono fun k ⟨a0, a1, a2, a3⟩ => ?_)
      rw [q0o.J5_eq, a0, Option.bind_some, beq_self_eq_true, Bool.not_true, q0d, a1, Option.bind_some, Bool.not_true, q0d, a2, h1, Option.bind_some, Bool.not_true, q0d, a3]
  refine ((e0.and hI).and j5).mono (fun k ⟨⟨a0, a1⟩, a2⟩ => ?_) |>.get
  rw [q0o.f_eq, decide_eq_false hl, q0d, a0, Option.bind_some]
  dsimp only
  rw [a1, Option.bind_some]
  exact a2
end Go.Proofs.YtnjdoinlnbjedaaGreatDoor.Rf
end

section
/- 'FnReleaseDo': for every input it returns true and its arguments read as before. Conditions: those of the given row alone (the listed package variables as the program's text lays them). -/
namespace Go.Proofs.YtnjdoinlnbjedaaGreatDoor.fnReleaseDo
open Go.ChangeShapes Go.WideShapes Go.ChangeAt Go.RowKit
open Go.Proofs.YtnjdoinlnbjedaaGreatDoor.Rf Go.Proofs.YtnjdoinlnbjedaaGreatDoor.Frame
set_option linter.unusedVariables false
theorem own : ownKnob Tryz.prog.godebug = none := by kernel_rfl
theorem laidOut : laidOutB Tryz.prog = true := by kernel_rfl
theorem qed : ∀ n ∈ (["loop.example/medlar/impl.shaStep"] : List String), ∀ g t, Tryz.prog.globalNamed n = some g → (Tryz.prog.globals[g]?).map (·.type) = some t → Tryz.prog.readableRec t = true ∧ t < Tryz.prog.types.size := by
  intro n hn g t hg ht
  simp only [List.mem_cons, List.not_mem_nil, or_false] at hn
  subst hn
  · obtain rfl := Option.some.inj ((show Tryz.prog.globalNamed "loop.example/medlar/impl.shaStep" = some 0 by kernel_rfl).symm.trans hg)
    obtain rfl := Option.some.inj ((show (Tryz.prog.globals[0]?).map (·.type) = some 138 by kernel_rfl).symm.trans ht)
    exact ⟨by kernel_rfl, of_decide_eq_true (by kernel_rfl)⟩
set_option maxRecDepth 100000 in
theorem contract (H : Type) (enc : TypeId × Value → H) (W : World) (base : Nat) (args : Array Value) (ds gs : List (DataW H)) (before : List MemPlace)
    (hval0 : ∀ (j : Nat) t v, Tryz.f5.params[j]? = some t → args[j]? = some v → Value.okWide Tryz.prog W .any base t v)
    (hW : DataW.Whole enc Tryz.prog Tryz.f5.params.toList Rows.fnReleaseDoSpec.vars false W args.toList ds gs before)
    (hsz0 : (DataW.weightsEach Tryz.prog (Tryz.f5.params.toList ++ (OpenSpec.ofChange Rows.fnReleaseDoSpec).bare.plain.varTypes Tryz.prog) (ds ++ gs)).all (· ≤ reachBytes) = true)
    (hL : laidMetH Tryz.prog Rows.fnReleaseDoRow.laid W) (hsh : W.ShapedOpen Tryz.prog) :
    Calls Tryz.prog 5 args W fun e W' => ∃ v, e = .returned v ∧ Rows.fnReleaseDoSpec.post enc Tryz.prog Tryz.f5 false true false false W args v W' := by
  have hGm : ∃ x : Int, W.cell? ⟨2, 0, none⟩ = some (.int .i64 x) := Go.Proofs.cell_of_shapedOpen_int (zero := #[.int .i64 0]) (t := 3) hsh (of_decide_eq_true (by kernel_rfl)) (by kernel_rfl) rfl (by kernel_rfl) (by kernel_rfl) Tryz.underlying3
  have hGp : Lib.TabIs Tryz.prog W "internal/strconv.uint64pow10" .u64 Lib.pow10Tab := q5d (show Tryz.prog.globalNamed "internal/strconv.uint64pow10" = some 1 by kernel_rfl) (show (Tryz.prog.globals[1]?).map (·.type) = some 198 by kernel_rfl) Tryz.underlying198 Tryz.underlying137 (by kernel_rfl) (by kernel_rfl) hL (by rw [show Lib.tabData .u64 Lib.pow10Tab = Rows.laid_internal_strconv_uint64pow10 from by kernel_rfl]; simp [Rows.fnReleaseDoRow])
  have hGs : Lib.TabIs Tryz.prog W "loop.example/medlar/impl.shaStep" .u32 q6i := q5d (show Tryz.prog.globalNamed "loop.example/medlar/impl.shaStep" = some 0 by kernel_rfl) (show (Tryz.prog.globals[0]?).map (·.type) = some 138 by kernel_rfl) Tryz.underlying138 Tryz.underlying135 (by kernel_rfl) (by kernel_rfl) hL (by rw [show Lib.tabData .u32 q6i = Rows.laid_loop_example_medlar_impl_shaStep from by kernel_rfl]; simp [Rows.fnReleaseDoRow])
  have hJ : Jp.J W := ⟨hGm, hGp, hGs⟩
  clear hsh hL
  have hsz := hsz0
  have hval := hval0
  have hW' := hW
  obtain ⟨p, q, hA0, hV, rfl, hfz, hnd⟩ := hW
  have hA : DataW.TrodAll enc Tryz.prog W 0 (fun _ => true) true Tryz.f5.params.toList args.toList ds p := hA0
  rw [Tryz.params5] at hA hval
  obtain ⟨v0, vs0, d0, ds0, p0, q0, hargs, rfl, rfl, h0, r0⟩ := trodAll_cons hA
  obtain ⟨rfl, rfl, rfl⟩ := trodAll_nil r0
  obtain rfl : args = #[v0] := by cases args; simp_all
  have lt0 : ∀ x ∈ p0, x.block < W.heap.size := by obtain ⟨m, hm⟩ := h0; exact DataW.trod_lt m _ _ _ hm
  obtain ⟨x0, o0, G0⟩ := q6t (τ := t22) (show q57 Tryz.prog t22 (.inl 22) = true by kernel_rfl) (hval 0 22 v0 rfl rfl) h0
  obtain ⟨gv0, gw0, qv0, rfl, hv0⟩ := q6u hV
  obtain ⟨rfl, _⟩ := trodVars_none hv0
  clear hA0 hval0 hsz0
  obtain ⟨k, hk⟩ := qcn x0 G0
  refine (row_of (q0o.q k).1 rfl (x := x0) (r := true) hk rfl (qsq hJ) hJ rfl ?_).mono fun e W' ⟨he, bel⟩ => ?_
  · intro i p s hp hs
    match i, hp, hs with
    | 0, _, hs => obtain rfl := Option.some.inj (show some (⟨t22, x0⟩ : Sv) = some s from hs); exact o0
    | i + 1, hp, _ => simp at hp
  subst he
  obtain ⟨pv, hpv⟩ := q60 laidOut bel _ _ _ hV qed
  exact ⟨_, rfl, _, _, _, [], _, pv, hW', trodAll_mk1 (shut_bool Tryz.underlying4 _), (trodAll_cons_mk (Below.trod laidOut (by kernel_rfl) (of_decide_eq_true (by kernel_rfl)) h0 bel lt0) trodAll_mk0), hpv, bel.frame _, fun h => by cases h⟩
noncomputable def q56 (os : Os) : World := { World.holding Tryz.prog os ⟨#[], #[], []⟩ with heap := (((((((World.holding Tryz.prog os ⟨#[], #[], []⟩).heap.modify 5 fun | .cells _ t frozen => .cells #[.int .u8 0, .int .u8 1, .int .u8 28, .int .u8 2, .int .u8 29, .int .u8 14, .int .u8 24, .int .u8 3, .int .u8 30, .int .u8 22, .int .u8 20, .int .u8 15, .int .u8 25, .int .u8 17, .int .u8 4, .int .u8 8, .int .u8 31, .int .u8 27, .int .u8 13, .int .u8 23, .int .u8 21, .int .u8 19, .int .u8 16, .int .u8 7, .int .u8 26, .int .u8 12, .int .u8 18, .int .u8 6, .int .u8 11, .int .u8 5, .int .u8 10, .int .u8 9] t frozen | o => o).modify 6 fun | .cells _ t frozen => .cells #[.int .u8 0, .int .u8 1, .int .u8 56, .int .u8 2, .int .u8 57, .int .u8 49, .int .u8 28, .int .u8 3, .int .u8 61, .int .u8 58, .int .u8 42, .int .u8 50, .int .u8 38, .int .u8 29, .int .u8 17, .int .u8 4, .int .u8 62, .int .u8 47, .int .u8 59, .int .u8 36, .int .u8 45, .int .u8 43, .int .u8 51, .int .u8 22, .int .u8 53, .int .u8 39, .int .u8 33, .int .u8 30, .int .u8 24, .int .u8 18, .int .u8 12, .int .u8 5, .int .u8 63, .int .u8 55, .int .u8 48, .int .u8 27, .int .u8 60, .int .u8 41, .int .u8 37, .int .u8 16, .int .u8 46, .int .u8 35, .int .u8 44, .int .u8 21, .int .u8 52, .int .u8 32, .int .u8 23, .int .u8 11, .int .u8 54, .int .u8 26, .int .u8 40, .int .u8 15, .int .u8 34, .int .u8 20, .int .u8 31, .int .u8 10, .int .u8 25, .int .u8 14, .int .u8 19, .int .u8 9, .int .u8 13, .int .u8 8, .int .u8 7, .int .u8 6] t frozen | o => o).modify 1 fun | .cells _ t frozen => .cells #[.int .u64 1, .int .u64 10, .int .u64 100, .int .u64 1000, .int .u64 10000, .int .u64 100000, .int .u64 1000000, .int .u64 10000000, .int .u64 100000000, .int .u64 1000000000, .int .u64 10000000000, .int .u64 100000000000, .int .u64 1000000000000, .int .u64 10000000000000, .int .u64 100000000000000, .int .u64 1000000000000000, .int .u64 10000000000000000, .int .u64 100000000000000000, .int .u64 1000000000000000000, .int .u64 10000000000000000000] t frozen | o => o).modify 4 fun | .cells _ t frozen => .cells #[.int .u8 128, .int .u8 191, .int .u8 160, .int .u8 191, .int .u8 128, .int .u8 159, .int .u8 144, .int .u8 191, .int .u8 128, .int .u8 143, .int .u8 0, .int .u8 0, .int .u8 0, .int .u8 0, .int .u8 0, .int .u8 0, .int .u8 0, .int .u8 0, .int .u8 0, .int .u8 0, .int .u8 0, .int .u8 0, .int .u8 0, .int .u8 0, .int .u8 0, .int .u8 0, .int .u8 0, .int .u8 0, .int .u8 0, .int .u8 0, .int .u8 0, .int .u8 0] t frozen | o => o).modify 0 fun | .cells _ t frozen => .cells #[.int .u32 1116352408, .int .u32 1899447441, .int .u32 3049323471, .int .u32 3921009573, .int .u32 961987163, .int .u32 1508970993, .int .u32 2453635748, .int .u32 2870763221, .int .u32 3624381080, .int .u32 310598401, .int .u32 607225278, .int .u32 1426881987, .int .u32 1925078388, .int .u32 2162078206, .int .u32 2614888103, .int .u32 3248222580, .int .u32 3835390401, .int .u32 4022224774, .int .u32 264347078, .int .u32 604807628, .int .u32 770255983, .int .u32 1249150122, .int .u32 1555081692, .int .u32 1996064986, .int .u32 2554220882, .int .u32 2821834349, .int .u32 2952996808, .int .u32 3210313671, .int .u32 3336571891, .int .u32 3584528711, .int .u32 113926993, .int .u32 338241895, .int .u32 666307205, .int .u32 773529912, .int .u32 1294757372, .int .u32 1396182291, .int .u32 1695183700, .int .u32 1986661051, .int .u32 2177026350, .int .u32 2456956037, .int .u32 2730485921, .int .u32 2820302411, .int .u32 3259730800, .int .u32 3345764771, .int .u32 3516065817, .int .u32 3600352804, .int .u32 4094571909, .int .u32 275423344, .int .u32 430227734, .int .u32 506948616, .int .u32 659060556, .int .u32 883997877, .int .u32 958139571, .int .u32 1322822218, .int .u32 1537002063, .int .u32 1747873779, .int .u32 1955562222, .int .u32 2024104815, .int .u32 2227730452, .int .u32 2361852424, .int .u32 2428436474, .int .u32 2756734187, .int .u32 3204031479, .int .u32 3329325298] t frozen | o => o).modify 3 fun | .cells _ t frozen => .cells #[.int .u8 240, .int .u8 240, .int .u8 240, .int .u8 240, .int .u8 240, .int .u8 240, .int .u8 240, .int .u8 240, .int .u8 240, .int .u8 240, .int .u8 240, .int .u8 240, .int .u8 240, .int .u8 240, .int .u8 240, .int .u8 240, .int .u8 240, .int .u8 240, .int .u8 240, .int .u8 240, .int .u8 240, .int .u8 240, .int .u8 240, .int .u8 240, .int .u8 240, .int .u8 240, .int .u8 240, .int .u8 240, .int .u8 240, .int .u8 240, .int .u8 240, .int .u8 240, .int .u8 240, .int .u8 240, .int .u8 240, .int .u8 240, .int .u8 240, .int .u8 240, .int .u8 240, .int .u8 240, .int .u8 240, .int .u8 240, .int .u8 240, .int .u8 240, .int .u8 240, .int .u8 240, .int .u8 240, .int .u8 240, .int .u8 240, .int .u8 240, .int .u8 240, .int .u8 240, .int .u8 240, .int .u8 240, .int .u8 240, .int .u8 240, .int .u8 240, .int .u8 240, .int .u8 240, .int .u8 240, .int .u8 240, .int .u8 240, .int .u8 240, .int .u8 240, .int .u8 240, .int .u8 240, .int .u8 240, .int .u8 240, .int .u8 240, .int .u8 240, .int .u8 240, .int .u8 240, .int .u8 240, .int .u8 240, .int .u8 240, .int .u8 240, .int .u8 240, .int .u8 240, .int .u8 240, .int .u8 240, .int .u8 240, .int .u8 240, .int .u8 240, .int .u8 240, .int .u8 240, .int .u8 240, .int .u8 240, .int .u8 240, .int .u8 240, .int .u8 240, .int .u8 240, .int .u8 240, .int .u8 240, .int .u8 240, .int .u8 240, .int .u8 240, .int .u8 240, .int .u8 240, .int .u8 240, .int .u8 240, .int .u8 240, .int .u8 240, .int .u8 240, .int .u8 240, .int .u8 240, .int .u8 240, .int .u8 240, .int .u8 240, .int .u8 240, .int .u8 240, .int .u8 240, .int .u8 240, .int .u8 240, .int .u8 240, .int .u8 240, .int .u8 240, .int .u8 240, .int .u8 240, .int .u8 240, .int .u8 240, .int .u8 240, .int .u8 240, .int .u8 240, .int .u8 240, .int .u8 240, .int .u8 240, .int .u8 240, .int .u8 240, .int .u8 241, .int .u8 241, .int .u8 241, .int .u8 241, .int .u8 241, .int .u8 241, .int .u8 241, .int .u8 241, .int .u8 241, .int .u8 241, .int .u8 241, .int .u8 241, .int .u8 241, .int .u8 241, .int .u8 241, .int .u8 241, .int .u8 241, .int .u8 241, .int .u8 241, .int .u8 241, .int .u8 241, .int .u8 241, .int .u8 241, .int .u8 241, .int .u8 241, .int .u8 241, .int .u8 241, .int .u8 241, .int .u8 241, .int .u8 241, .int .u8 241, .int .u8 241, .int .u8 241, .int .u8 241, .int .u8 241, .int .u8 241, .int .u8 241, .int .u8 241, .int .u8 241, .int .u8 241, .int .u8 241, .int .u8 241, .int .u8 241, .int .u8 241, .int .u8 241, .int .u8 241, .int .u8 241, .int .u8 241, .int .u8 241, .int .u8 241, .int .u8 241, .int .u8 241, .int .u8 241, .int .u8 241, .int .u8 241, .int .u8 241, .int .u8 241, .int .u8 241, .int .u8 241, .int .u8 241, .int .u8 241, .int .u8 241, .int .u8 241, .int .u8 241, .int .u8 241, .int .u8 241, .int .u8 2, .int .u8 2, .int .u8 2, .int .u8 2, .int .u8 2, .int .u8 2, .int .u8 2, .int .u8 2, .int .u8 2, .int .u8 2, .int .u8 2, .int .u8 2, .int .u8 2, .int .u8 2, .int .u8 2, .int .u8 2, .int .u8 2, .int .u8 2, .int .u8 2, .int .u8 2, .int .u8 2, .int .u8 2, .int .u8 2, .int .u8 2, .int .u8 2, .int .u8 2, .int .u8 2, .int .u8 2, .int .u8 2, .int .u8 2, .int .u8 19, .int .u8 3, .int .u8 3, .int .u8 3, .int .u8 3, .int .u8 3, .int .u8 3, .int .u8 3, .int .u8 3, .int .u8 3, .int .u8 3, .int .u8 3, .int .u8 3, .int .u8 35, .int .u8 3, .int .u8 3, .int .u8 52, .int .u8 4, .int .u8 4, .int .u8 4, .int .u8 68, .int .u8 241, .int .u8 241, .int .u8 241, .int .u8 241, .int .u8 241, .int .u8 241, .int .u8 241, .int .u8 241, .int .u8 241, .int .u8 241, .int .u8 241] t frozen | o => o) }
set_option maxRecDepth 100000 in
theorem q8x (os : Os) : laidMet Tryz.prog Rows.fnReleaseDoRow.laid ((q56 os).forCall (fun _ _ => 0) ⟨#[], #[.slice none 0 0], []⟩).memory :=
  laidMet_of_run' 12 (by kernel_rfl) (by kernel_rfl)
set_option maxRecDepth 100000 in
theorem reads (os : Os) {H : Type} (enc : TypeId × Value → H) : ∃ x, DataW.whole enc Tryz.prog ((q56 os).forCall (fun _ _ => 0) ⟨#[], #[.slice none 0 0], []⟩).memory Tryz.f5.params.toList Rows.fnReleaseDoSpec.vars false #[(.slice none 0 0 : Value)].toList 12 = some x :=
  Option.isSome_iff_exists.1 (by kernel_rfl)
set_option maxRecDepth 100000 in
theorem lifted (os : Os) (started : os.Started) (H : Type) (enc : TypeId × Value → H) (F : Stop.Interp) :
    ReturnsInHanded {} Tryz.checked os 5 .any ((OpenSpec.ofChange Rows.fnReleaseDoSpec).preRow enc Tryz.prog Tryz.f5 Rows.fnReleaseDoRow.domain false Rows.fnReleaseDoRow.laid) (((OpenSpec.ofChange Rows.fnReleaseDoSpec).at F).post enc Tryz.prog Tryz.f5 false true false false) := by
  obtain ⟨x, hx⟩ := reads os enc
  refine returnsInHanded_of_row (C := Tryz.checked) (s := OpenSpec.ofChange Rows.fnReleaseDoSpec) own started (by kernel_rfl) Tryz.func5
    (witness_row_at (enc := enc) (C := Tryz.checked) false (q56 os) #[.slice none 0 0] rfl (by kernel_rfl) (by kernel_rfl) (by kernel_rfl)
      (OpenSpec.preRow_of_cond 12 (x := x) hx (by kernel_rfl) (fun k hk => by cases hk) (by kernel_rfl) (q8x os))) ?_
  intro W base args ds gs before hval hW _ _ hsz hL hsh _
  exact contract H enc W base args ds gs before hval hW hsz hL hsh
theorem said : Rows.FnReleaseDoSaid :=
  OpenClaim.holds_of_cond 5 Tryz.f5 rfl rfl rfl rfl rfl rfl rfl ⟨rfl, rfl, rfl, rfl, rfl⟩ rfl rfl rfl rfl rfl (by kernel_rfl) Tryz.func5 (by kernel_rfl)
    (of_decide_eq_true (by kernel_rfl)) (by unfold Func.isWrapper; first | (rw [if_pos (by decide +kernel)]; kernel_rfl) | (rw [if_neg (by decide +kernel)]; exact ⟨rfl, rfl⟩))
    (fun os started H enc _ F => by rw [OpenClaim.pre_eq_preRow]; exact lifted os started H enc F)
theorem plain (f : FuncId) (fn : Func) (hf : Tryz.pinned.checked.prog.funcNamed "loop.example/medlar/laws.FnReleaseDo" = some f) (hfn : Tryz.pinned.checked.prog.funcs[f]? = some fn) :
    false = Tryz.pinned.checked.prog.looks [] ∧ ∀ (j : Nat) t, fn.params[j]? = some t → Tryz.pinned.checked.prog.wantsStandIn t = false := by
  obtain rfl : f = 5 := Option.some.inj ((show Tryz.prog.funcNamed "loop.example/medlar/laws.FnReleaseDo" = some 5 by kernel_rfl).symm.trans hf) |>.symm
  obtain rfl : fn = Tryz.f5 := (Option.some.inj (Tryz.func5.symm.trans hfn)).symm
  refine ⟨by kernel_rfl, fun j t ht => ?_⟩
  rw [Tryz.params5] at ht
  have hm := Array.mem_of_getElem? ht
  simp only [List.mem_toArray, List.mem_cons, List.not_mem_nil, or_false] at hm
  subst hm
  · exact (show Tryz.prog.wantsStandIn 22 = false by kernel_rfl)
theorem card : Rows.FnReleaseDoCardSaid :=
  Claim7.holds_tied_plain_at .later [] _ _ _ _ said (fun _ h => by cases h) (by kernel_rfl) (fun _ h => by cases h) fnReleaseDo_row_tie rfl ⟨rfl, rfl⟩ (by kernel_rfl) rfl plain (by kernel_rfl)
end Go.Proofs.YtnjdoinlnbjedaaGreatDoor.fnReleaseDo
namespace Go.Proofs.YtnjdoinlnbjedaaGreatDoor
theorem fnReleaseDo_holds : Rows.FnReleaseDoCardSaid := fnReleaseDo.card
end Go.Proofs.YtnjdoinlnbjedaaGreatDoor
end
